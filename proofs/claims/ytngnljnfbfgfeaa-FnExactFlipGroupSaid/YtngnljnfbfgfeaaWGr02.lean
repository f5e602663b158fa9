/- Printed walks: spec.l07Is, spec.l07Layering, impl.IsLayering$1, slices.IndexFunc[[][]int64,[]int64], slices.ContainsFunc[[][]int64,[]int64], impl.IsLayering, slices.Clone[[]int64,int64], laws.eqInt64S, laws.eqInt64SS, laws.markInt64S, laws.markInt64SS, laws.heldInt64S, laws.heldInt64SS, laws.szInt64S, laws.szInt64SS, laws.szWiring, spec.l00Own, spec.l07Cross, laws.toInt64S, laws.toInt64SS, laws.toWiring, laws.eqWiring, laws.markWiring, spec.l00Has. -/
import Derived.Test.YtngnljnfbfgfeaaProg
import Derived.Test.YtngnljnfbfgfeaaWGr01
set_option linter.unusedSimpArgs false
set_option linter.unusedVariables false
namespace Go.Proofs.Ytngnljnfbfgfeaa
open Go.RowKit
attribute [local irreducible] wS cW eX wH

theorem ent16 : Ent Try.prog 16 := fun _ => by kernel_rfl
theorem ent32 : Ent Try.prog 32 := fun _ => by kernel_rfl
theorem ent35 : Ent Try.prog 35 := fun _ => by kernel_rfl
theorem ent42 : Ent Try.prog 42 := fun _ => by kernel_rfl
theorem ent44 : Ent Try.prog 44 := fun _ => by kernel_rfl
theorem ent45 : Ent Try.prog 45 := fun _ => by kernel_rfl
theorem ent50 : Ent Try.prog 50 := fun _ => by kernel_rfl
theorem ent66 : Ent Try.prog 66 := fun _ => by kernel_rfl
theorem ent80 : Ent Try.prog 80 := fun _ => by kernel_rfl
theorem ent81 : Ent Try.prog 81 := fun _ => by kernel_rfl
theorem ent83 : Ent Try.prog 83 := fun _ => by kernel_rfl
theorem ent103 : Ent Try.prog 103 := fun _ => by kernel_rfl
theorem vt27 : VarTy Try.prog 27 4 true := ⟨by kernel_rfl, by kernel_rfl⟩
theorem el24 : ElTy Try.prog 24 25 1 (.slice none 0 0) := ElTy.mk' Try.underlying24 (by kernel_rfl) (by rfl)
theorem el25 : ElTy Try.prog 25 2 1 (.int .i64 (0)) := ElTy.mk' Try.underlying25 (by kernel_rfl) (by rfl)
theorem sz2 : pureRun Try.prog (sizeOf 2) = some 1 := by kernel_rfl
theorem sz24 : pureRun Try.prog (sizeOf 24) = some 1 := by kernel_rfl
theorem sz25 : pureRun Try.prog (sizeOf 25) = some 1 := by kernel_rfl
theorem sz27 : pureRun Try.prog (sizeOf 27) = some 4 := by kernel_rfl

set_option maxRecDepth 100000 in
/-- spec.l07Is -/
theorem c_spec_l07Is_bimplWiring {w0 : World} {q0_0 : Int} {l0_1 : List (List (Int))} {A0_1 : Option Addr} {cap0_1 : Nat} {fp0_1 : List Nat} {l0_2 : List (List (Int))} {A0_2 : Option Addr} {cap0_2 : Nat} {fp0_2 : List Nat} {l0_3 : List (Int)} {A0_3 : Option Addr} {cap0_3 : Nat} {fp0_3 : List Nat} {b0 : Nat} {r : (Bool)} (hm : m_spec_l07Is_bimplWiring q0_0 l0_1 l0_2 l0_3 = some r) (F0_1 : SlR 1 encI w0 fp0_1 A0_1 l0_1) (F0_2 : SlR 1 encI w0 fp0_2 A0_2 l0_2) (F0_3 : Sl 1 encI w0 fp0_3 A0_3 l0_3) (F0 : Cl w0 b0 27 [.int .i64 (q0_0), .slice A0_1 (l0_1).length cap0_1, .slice A0_2 (l0_2).length cap0_2, .slice A0_3 (l0_3).length cap0_3]) :
    Calls Try.prog 63 #[.pointer (some ⟨b0, 0, none⟩)] w0 fun e w' => e = .returned (.bool (r)) ∧ Chg [] w0 w' := by
  have L0_1 := F0_1.low
  have L0_2 := F0_2.low
  have L0_3 := F0_3.low
  have L0 := lt1 F0.lt
  have hB : Chg [] w0 w0 := Chg.refl _ _
  have hZ := Nat.le_refl w0.heap.size
  unfold m_spec_l07Is_bimplWiring at hm
  refine enterE (N := 60) Try.func63 (by rfl) Try.ntmps63 (by simp) [(0, .pointer (some ⟨b0, 0, none⟩))] (by rfl) (by kernel_rfl) (fun a => ?_)
  refine cW_seq ?_
  refine cW_region ?_
  refine wS_pure 1 [(2, .bool (false))] (by kernel_rfl) ?_
  refine wS_end (by rfl) ?_
  refine eX_then ?_
  refine cW_seq ?_
  refine cW_seq ?_
  refine cW_drawnTail [] 16 (by kernel_rfl) (by kernel_rfl) (fun w16 hc17 => ?_)
  replace F0_1 := F0_1.chg hc17 Dj.nil
  replace F0_2 := F0_2.chg hc17 Dj.nil
  replace F0_3 := F0_3.chg hc17 Dj.nil
  replace F0 := F0.chg hc17 notNil
  replace hB := hB.inS hc17 inNil
  replace hZ := Nat.le_trans hZ hc17.size
  have hS := Chg.refl [] w16
  have Z18 := F0_1
  have Z19 := F0_2
  have Z20 := F0_3
  have Z21 := F0
  refine wH_take [0, 1, 2] [2, 1, 0] [(6, .pointer (some ⟨b0, 0, none⟩)), (5, .pointer (some ⟨b0, 0, none⟩)), (4, .pointer (some ⟨b0, 0, none⟩))] (by kernel_rfl) (qT (qT (qT qZ))) (by kernel_rfl) ?_
  refine wH_load1 (i := 3) (d := 7) (T := 2) (ad := ⟨b0, 0, none⟩) (v := .int .i64 (q0_0)) (by kernel_rfl) (qT (qT (qT qZ))) (by kernel_rfl) (by kernel_rfl) vt2 (fun W hW => (Z21.chg hW notNil).cell 0) ?_
  refine wH_all [4] (by rfl) (by kernel_rfl) (by simp) ⟨⟨by kernel_rfl, ?_⟩, trivial⟩
  obtain ⟨y22, hy23, hm⟩ := bindE hm
  refine wS_calls (d := 8) (f := 87) (vs := [.int .i64 (q0_0), .int .i64 (0), .int .i64 (14)]) (by kernel_rfl) ent87 (c_spec_l00In hy23) ?_
  rintro _ w24 ⟨rfl, hc25⟩
  replace F0_1 := F0_1.chg hc25 Dj.nil
  replace F0_2 := F0_2.chg hc25 Dj.nil
  replace F0_3 := F0_3.chg hc25 Dj.nil
  replace F0 := F0.chg hc25 notNil
  replace hB := hB.inS hc25 inNil
  have hSz := hS
  replace hS := hS.inS hc25 inNil
  replace hZ := Nat.le_trans hZ hc25.size
  refine ⟨.bool (y22), rfl, ?_⟩
  refine wS_end (by kernel_rfl) ?_
  refine eX_KH hS ?_
  refine wH_take [5, 6] [6, 5, 4, 3, 2, 1, 0] [(10, .bool (!y22)), (9, .bool (!y22))] (by kernel_rfl) (qT (qT (qT qZ))) (by kernel_rfl) ?_
  refine wH_bool (!y22) (fun hb26 => ?_) (fun hb26 => ?_)
  · have hm := condT hb26 hm
    rewrite [hb26]
    refine wH_take [7, 8, 9, 10, 11, 12, 13, 14, 15] [15, 14, 13, 12, 11, 10, 9, 8, 7, 6, 5, 4, 3, 2, 1, 0] [(19, undef), (18, undef), (17, undef), (16, undef), (15, undef), (14, undef), (13, undef), (12, undef), (11, undef)] (by kernel_rfl) (qT (qT (qT qZ))) (by kernel_rfl) ?_
    refine wH_done (by kernel_rfl) ?_
    refine eX_tail ?_
    refine wS_pure 2 [(21, .bool (true)), (20, undef)] (by kernel_rfl) ?_
    refine wS_end (by rfl) ?_
    refine eX_then ?_
    refine cW_cond_t (by kernel_rfl) ?_
    refine cW_seq ?_
    refine cW_region ?_
    refine wS_pure 1 [(2, .bool (false))] (by kernel_rfl) ?_
    refine wS_end (by rfl) ?_
    refine eX_then ?_
    refine cW_ret ?_
    refine eX_then_ret ?_
    have hq : (some false : Option ((Bool))) = some _ := hm
    replace hq := someE hq
    subst hq
    refine eX_ret (vs := [.bool (false)]) [.tmp 2] (by rfl) ⟨by (show lkE _ _ _ = _); kernel_rfl, trivial⟩ ?_
    exact ⟨rfl, hB⟩
  · have hm := condF hb26 hm
    rewrite [hb26]
    refine wH_take [7, 8, 9] [9, 8, 7, 6, 5, 4, 3, 2, 1, 0] [(13, .pointer (some ⟨b0, 3, none⟩)), (12, .pointer (some ⟨b0, 0, none⟩)), (11, .pointer (some ⟨b0, 0, none⟩))] (by kernel_rfl) (qT (qT (qT qZ))) (by kernel_rfl) ?_
    refine wH_load1 (i := 10) (d := 14) (T := 25) (ad := ⟨b0, 3, none⟩) (v := .slice A0_3 (l0_3).length cap0_3) (by kernel_rfl) (qT (qT (qT qZ))) (by kernel_rfl) (by kernel_rfl) vt25 (fun W hW => (Z21.chg hW notNil).cell 3) ?_
    refine wH_take [11, 12, 13, 14] [14, 13, 12, 11, 10, 9, 8, 7, 6, 5, 4, 3, 2, 1, 0] [(18, .pointer (some ⟨b0, 0, none⟩)), (17, .pointer (some ⟨b0, 0, none⟩)), (16, .pointer (some ⟨b0, 0, none⟩)), (15, .int .i64 (((l0_3).length : Int)))] (by kernel_rfl) (qT (qT (qT qZ))) (by kernel_rfl) ?_
    refine wH_load1 (i := 15) (d := 19) (T := 2) (ad := ⟨b0, 0, none⟩) (v := .int .i64 (q0_0)) (by kernel_rfl) (qT (qT (qT qZ))) (by kernel_rfl) (by kernel_rfl) vt2 (fun W hW => (Z21.chg hW notNil).cell 0) ?_
    refine wH_done (by kernel_rfl) ?_
    refine eX_tail ?_
    refine wS_pure 2 [(21, .bool ((((l0_3).length : Int)) != q0_0)), (20, .bool ((((l0_3).length : Int)) != q0_0))] (by kernel_rfl) ?_
    refine wS_end (by rfl) ?_
    refine eX_then ?_
    refine cW_cond (t := (((l0_3).length : Int)) != q0_0) (by kernel_rfl) (fun hb27 => ?_) (fun hb27 => ?_)
    · have hm := condT hb27 hm
      refine cW_seq ?_
      refine cW_region ?_
      refine wS_pure 1 [(2, .bool (false))] (by kernel_rfl) ?_
      refine wS_end (by rfl) ?_
      refine eX_then ?_
      refine cW_ret ?_
      refine eX_then_ret ?_
      have hq : (some false : Option ((Bool))) = some _ := hm
      replace hq := someE hq
      subst hq
      refine eX_ret (vs := [.bool (false)]) [.tmp 2] (by rfl) ⟨by (show lkE _ _ _ = _); kernel_rfl, trivial⟩ ?_
      exact ⟨rfl, hB⟩
    · have hm := condF hb27 hm
      refine cW_skip ?_
      refine eX_then ?_
      refine cW_seq ?_
      refine cW_seq ?_
      refine cW_region ?_
      refine wS_pure 1 [(3, .int .i64 (0))] (by kernel_rfl) ?_
      refine wS_end (by rfl) ?_
      refine eX_then ?_
      obtain ⟨r68, hr69, hm⟩ := bindE hm
      have hm70 := hm
      refine cW_cut (fun a' w' => Sum.inl (()) = r68 ∧ Fr 60 [(0, .pointer (some ⟨b0, 0, none⟩))] a' ∧ SlR 1 encI w' fp0_1 A0_1 l0_1 ∧ SlR 1 encI w' fp0_2 A0_2 l0_2 ∧ Sl 1 encI w' fp0_3 A0_3 l0_3 ∧ Cl w' b0 27 [.int .i64 (q0_0), .slice A0_1 (l0_1).length cap0_1, .slice A0_2 (l0_2).length cap0_2, .slice A0_3 (l0_3).length cap0_3] ∧ Chg [] w0 w' ∧ w0.heap.size ≤ w'.heap.size) ?_ ?_
      · refine cW_block ?_
        refine cW_loop _ (fun (s71 : Int) a' w' => ∃ x62 : Int, x62 = s71 ∧ Fr 60 [(0, .pointer (some ⟨b0, 0, none⟩)), (3, .int .i64 (x62))] a' ∧ SlR 1 encI w' fp0_1 A0_1 l0_1 ∧ SlR 1 encI w' fp0_2 A0_2 l0_2 ∧ Sl 1 encI w' fp0_3 A0_3 l0_3 ∧ Cl w' b0 27 [.int .i64 (q0_0), .slice A0_1 (l0_1).length cap0_1, .slice A0_2 (l0_2).length cap0_2, .slice A0_3 (l0_3).length cap0_3] ∧ Chg [] w0 w' ∧ w0.heap.size ≤ w'.heap.size) hr69 (fun hst => ⟨0, rfl, Fr.of hst (by kernel_rfl), F0_1, F0_2, F0_3, F0, hB, hZ⟩) ?_
        rintro _ c72 a' w61 ⟨x62, rfl, hF63, F64, F65, F66, F67, hB, hZ⟩ hx73
        refine Fr.goOn hF63 (by kernel_rfl) ?_
        have hm := hx73
        unfold m_spec_l07Is_bimplWiring_s1 at hm
        refine cW_seq ?_
        refine cW_seq ?_
        refine cW_region ?_
        refine wS_pure 4 [(25, .pointer (some ⟨b0, 3, none⟩)), (24, .pointer (some ⟨b0, 0, none⟩)), (23, .pointer (some ⟨b0, 0, none⟩)), (22, .int .i64 (x62))] (by kernel_rfl) ?_
        refine wS_load1 (d := 26) (T := 25) (ad := ⟨b0, 3, none⟩) (v := .slice A0_3 (l0_3).length cap0_3) (by kernel_rfl) vt25 ((F67).cell 3) ?_
        refine wS_pure 2 [(28, .bool (decide (x62 < (((l0_3).length : Int))))), (27, .int .i64 (((l0_3).length : Int)))] (by kernel_rfl) ?_
        refine wS_end (by rfl) ?_
        refine eX_then ?_
        refine cW_cond (t := decide (x62 < (((l0_3).length : Int)))) (by kernel_rfl) (fun hb74 => ?_) (fun hb74 => ?_)
        · have hm := condT hb74 hm
          refine cW_skip ?_
          refine eX_then ?_
          refine cW_seq ?_
          refine cW_block ?_
          refine cW_seq ?_
          refine cW_region ?_
          refine wS_pure 3 [(33, .pointer (some ⟨b0, 3, none⟩)), (32, .pointer (some ⟨b0, 0, none⟩)), (31, .pointer (some ⟨b0, 0, none⟩))] (by kernel_rfl) ?_
          refine wS_load1 (d := 34) (T := 25) (ad := ⟨b0, 3, none⟩) (v := .slice A0_3 (l0_3).length cap0_3) (by kernel_rfl) vt25 ((F67).cell 3) ?_
          refine wS_pure 1 [(35, .int .i64 (x62))] (by kernel_rfl) ?_
          obtain ⟨x75, hx76, hm⟩ := bindE hm
          refine wS_idx (d := 36) (T := 25) (A := A0_3) (n := (l0_3).length) (cap := cap0_3) (kd := .i64) (m := x62) (by kernel_rfl) sl25 (F66.is hx76) ?_
          refine wS_load1 (d := 37) (T := 2) (ad := (elA A0_3 1 (x62) 0)) (v := .int .i64 (x75)) (by kernel_rfl) vt2 (Sl.cell F66 hx76 0 (by rfl)) ?_
          obtain ⟨y77, hy78, hm⟩ := bindE hm
          refine wS_calls (d := 38) (f := 87) (vs := [.int .i64 (x75), .int .i64 ((-1)), .int .i64 (1)]) (by kernel_rfl) ent87 (c_spec_l00In hy78) ?_
          rintro _ w79 ⟨rfl, hc80⟩
          replace F64 := F64.chg hc80 Dj.nil
          replace F65 := F65.chg hc80 Dj.nil
          replace F66 := F66.chg hc80 Dj.nil
          replace F67 := F67.chg hc80 notNil
          replace hB := hB.inS hc80 inNil
          replace hZ := Nat.le_trans hZ hc80.size
          refine ⟨.bool (y77), rfl, ?_⟩
          refine wS_pure 1 [(39, .bool (!y77))] (by kernel_rfl) ?_
          refine wS_end (by rfl) ?_
          refine eX_then ?_
          refine cW_cond (t := !y77) (by kernel_rfl) (fun hb81 => ?_) (fun hb81 => ?_)
          · have hm := condT hb81 hm
            refine cW_seq ?_
            refine cW_region ?_
            refine wS_pure 1 [(2, .bool (false))] (by kernel_rfl) ?_
            refine wS_end (by rfl) ?_
            refine eX_then ?_
            refine cW_ret ?_
            refine eX_block_ret ?_
            refine eX_then_ret ?_
            have hq : (some (Ctl.out (Sum.inr false)) : Option (Ctl (Int) (Sum (Unit) ((Bool))))) = some _ := hm
            replace hq := someE hq
            subst hq
            refine eX_outR hx73 (fun hr => ?_)
            subst hr
            refine eX_block_ret ?_
            refine eX_then_ret ?_
            refine eX_then_ret ?_
            have hq : (some false : Option ((Bool))) = some _ := hm70
            replace hq := someE hq
            subst hq
            refine eX_ret (vs := [.bool (false)]) [.tmp 2] (by rfl) ⟨by (show lkE _ _ _ = _); kernel_rfl, trivial⟩ ?_
            exact ⟨rfl, hB⟩
          · have hm := condF hb81 hm
            refine cW_skip ?_
            refine eX_block ?_
            refine eX_then ?_
            refine cW_region ?_
            refine wS_pure 3 [(3, .int .i64 (wr (x62 + 1))), (30, .int .i64 (wr (x62 + 1))), (29, .int .i64 (x62))] (by kernel_rfl) ?_
            refine wS_end (by rfl) ?_
            have hq : (some (Ctl.next (wr (x62 + 1))) : Option (Ctl (Int) (Sum (Unit) ((Bool))))) = some _ := hm
            replace hq := someE hq
            subst hq
            exact eX_next hx73 (fun hst => ⟨wr (x62 + 1), rfl, Fr.of hst (by kernel_rfl), F64, F65, F66, F67, hB, hZ⟩)
        · have hm := condF hb74 hm
          refine cW_exit ?_
          refine eX_then_exit ?_
          have hq : (some (Ctl.out (Sum.inl (()))) : Option (Ctl (Int) (Sum (Unit) ((Bool))))) = some _ := hm
          replace hq := someE hq
          subst hq
          refine eX_outX hx73 (fun hr82 => ?_)
          replace hr82 := hr82.symm
          subst hr82
          refine eX_block_hit ?_
          exact eX_J (fun hst => ⟨rfl, Fr.of hst (by kernel_rfl), F64, F65, F66, F67, hB, hZ⟩)
      · rintro a' w55 ⟨hJ, hF56, F57, F58, F59, F60, hB, hZ⟩
        subst hJ
        refine Fr.goX hF56 (by kernel_rfl) ?_
        refine eX_then ?_
        refine cW_seq ?_
        refine cW_drawnTail [] 18 (by kernel_rfl) (by kernel_rfl) (fun w98 hc99 => ?_)
        replace F57 := F57.chg hc99 Dj.nil
        replace F58 := F58.chg hc99 Dj.nil
        replace F59 := F59.chg hc99 Dj.nil
        replace F60 := F60.chg hc99 notNil
        replace hB := hB.inS hc99 inNil
        replace hZ := Nat.le_trans hZ hc99.size
        have hS := Chg.refl [] w98
        have Z100 := F57
        have Z101 := F58
        have Z102 := F59
        have Z103 := F60
        refine wH_take [0, 1, 2] [2, 1, 0] [(42, .pointer (some ⟨b0, 1, none⟩)), (41, .pointer (some ⟨b0, 0, none⟩)), (40, .pointer (some ⟨b0, 0, none⟩))] (by kernel_rfl) (qT (qT qZ)) (by kernel_rfl) ?_
        refine wH_load1 (i := 3) (d := 43) (T := 24) (ad := ⟨b0, 1, none⟩) (v := .slice A0_1 (l0_1).length cap0_1) (by kernel_rfl) (qT (qT qZ)) (by kernel_rfl) (by kernel_rfl) vt24 (fun W hW => (Z103.chg hW notNil).cell 1) ?_
        refine wH_take [4, 5, 6] [6, 5, 4, 3, 2, 1, 0] [(46, .pointer (some ⟨b0, 0, none⟩)), (45, .pointer (some ⟨b0, 0, none⟩)), (44, .pointer (some ⟨b0, 0, none⟩))] (by kernel_rfl) (qT (qT qZ)) (by kernel_rfl) ?_
        refine wH_load1 (i := 7) (d := 47) (T := 2) (ad := ⟨b0, 0, none⟩) (v := .int .i64 (q0_0)) (by kernel_rfl) (qT (qT qZ)) (by kernel_rfl) (by kernel_rfl) vt2 (fun W hW => (Z103.chg hW notNil).cell 0) ?_
        refine wH_all [8] (by rfl) (by kernel_rfl) (by simp) ⟨⟨by kernel_rfl, ?_⟩, trivial⟩
        obtain ⟨y104, hy105, hm⟩ := bindE hm
        refine wS_calls (d := 48) (f := 103) (vs := [.slice A0_1 (l0_1).length cap0_1, .int .i64 (q0_0), .int .i64 (2)]) (by kernel_rfl) ent103 (c_spec_l07Lists hy105 F57) ?_
        rintro _ w106 ⟨rfl, hc107⟩
        replace F57 := F57.chg hc107 Dj.nil
        replace F58 := F58.chg hc107 Dj.nil
        replace F59 := F59.chg hc107 Dj.nil
        replace F60 := F60.chg hc107 notNil
        replace hB := hB.inS hc107 inNil
        have hSz := hS
        replace hS := hS.inS hc107 inNil
        replace hZ := Nat.le_trans hZ hc107.size
        refine ⟨.bool (y104), rfl, ?_⟩
        refine wS_end (by kernel_rfl) ?_
        refine eX_KH hS ?_
        refine wH_take [9] [9, 8, 7, 6, 5, 4, 3, 2, 1, 0] [(49, .bool (y104))] (by kernel_rfl) (qT (qT qZ)) (by kernel_rfl) ?_
        refine wH_bool y104 (fun hb108 => ?_) (fun hb108 => ?_)
        · have hm := condT hb108 hm
          rewrite [hb108]
          refine wH_take [10, 11, 12] [12, 11, 10, 9, 8, 7, 6, 5, 4, 3, 2, 1, 0] [(52, .pointer (some ⟨b0, 2, none⟩)), (51, .pointer (some ⟨b0, 0, none⟩)), (50, .pointer (some ⟨b0, 0, none⟩))] (by kernel_rfl) (qT (qT qZ)) (by kernel_rfl) ?_
          refine wH_load1 (i := 13) (d := 53) (T := 24) (ad := ⟨b0, 2, none⟩) (v := .slice A0_2 (l0_2).length cap0_2) (by kernel_rfl) (qT (qT qZ)) (by kernel_rfl) (by kernel_rfl) vt24 (fun W hW => (Z103.chg hW notNil).cell 2) ?_
          refine wH_take [14, 15, 16] [16, 15, 14, 13, 12, 11, 10, 9, 8, 7, 6, 5, 4, 3, 2, 1, 0] [(56, .pointer (some ⟨b0, 0, none⟩)), (55, .pointer (some ⟨b0, 0, none⟩)), (54, .pointer (some ⟨b0, 0, none⟩))] (by kernel_rfl) (qT (qT qZ)) (by kernel_rfl) ?_
          refine wH_load1 (i := 17) (d := 57) (T := 2) (ad := ⟨b0, 0, none⟩) (v := .int .i64 (q0_0)) (by kernel_rfl) (qT (qT qZ)) (by kernel_rfl) (by kernel_rfl) vt2 (fun W hW => (Z103.chg hW notNil).cell 0) ?_
          refine wH_done (by kernel_rfl) ?_
          refine eX_tail ?_
          obtain ⟨y109, hy110, hm⟩ := bindE hm
          refine wS_calls (d := 58) (f := 103) (vs := [.slice A0_2 (l0_2).length cap0_2, .int .i64 (q0_0), .int .i64 (3)]) (by kernel_rfl) ent103 (c_spec_l07Lists hy110 F58) ?_
          rintro _ w111 ⟨rfl, hc112⟩
          replace F57 := F57.chg hc112 Dj.nil
          replace F58 := F58.chg hc112 Dj.nil
          replace F59 := F59.chg hc112 Dj.nil
          replace F60 := F60.chg hc112 notNil
          replace hB := hB.inS hc112 inNil
          replace hZ := Nat.le_trans hZ hc112.size
          refine ⟨.bool (y109), rfl, ?_⟩
          refine wS_pure 2 [(2, .bool (y109)), (59, .bool (y109))] (by kernel_rfl) ?_
          refine wS_end (by rfl) ?_
          refine eX_then ?_
          refine cW_ret ?_
          have hq : (some y109 : Option ((Bool))) = some _ := hm
          replace hq := someE hq
          subst hq
          refine eX_ret (vs := [.bool (y109)]) [.tmp 2] (by rfl) ⟨by (show lkE _ _ _ = _); kernel_rfl, trivial⟩ ?_
          exact ⟨rfl, hB⟩
        · have hm := condF hb108 hm
          rewrite [hb108]
          refine wH_take [10, 11, 12, 13, 14, 15, 16, 17] [17, 16, 15, 14, 13, 12, 11, 10, 9, 8, 7, 6, 5, 4, 3, 2, 1, 0] [(57, undef), (56, undef), (55, undef), (54, undef), (53, undef), (52, undef), (51, undef), (50, undef)] (by kernel_rfl) (qT (qT qZ)) (by kernel_rfl) ?_
          refine wH_done (by kernel_rfl) ?_
          refine eX_tail ?_
          refine wS_pure 3 [(2, .bool (false)), (59, .bool (false)), (58, undef)] (by kernel_rfl) ?_
          refine wS_end (by rfl) ?_
          refine eX_then ?_
          refine cW_ret ?_
          have hq : (some false : Option ((Bool))) = some _ := hm
          replace hq := someE hq
          subst hq
          refine eX_ret (vs := [.bool (false)]) [.tmp 2] (by rfl) ⟨by (show lkE _ _ _ = _); kernel_rfl, trivial⟩ ?_
          exact ⟨rfl, hB⟩

set_option maxRecDepth 100000 in
/-- spec.l07Layering -/
theorem c_spec_l07Layering_bimplWiring {w0 : World} {q0_0 : Int} {l0_1 : List (List (Int))} {A0_1 : Option Addr} {cap0_1 : Nat} {fp0_1 : List Nat} {l0_2 : List (List (Int))} {A0_2 : Option Addr} {cap0_2 : Nat} {fp0_2 : List Nat} {l0_3 : List (Int)} {A0_3 : Option Addr} {cap0_3 : Nat} {fp0_3 : List Nat} {b0 : Nat} {l1 : List (Int)} {A1 : Option Addr} {cap1 : Nat} {fp1 : List Nat} {r : (Bool)} (hm : m_spec_l07Layering_bimplWiring q0_0 l0_1 l0_2 l0_3 l1 = some r) (F0_1 : SlR 1 encI w0 fp0_1 A0_1 l0_1) (F0_2 : SlR 1 encI w0 fp0_2 A0_2 l0_2) (F0_3 : Sl 1 encI w0 fp0_3 A0_3 l0_3) (F0 : Cl w0 b0 27 [.int .i64 (q0_0), .slice A0_1 (l0_1).length cap0_1, .slice A0_2 (l0_2).length cap0_2, .slice A0_3 (l0_3).length cap0_3]) (F1 : Sl 1 encI w0 fp1 A1 l1) :
    Calls Try.prog 64 #[.pointer (some ⟨b0, 0, none⟩), .slice A1 (l1).length cap1] w0 fun e w' => e = .returned (.bool (r)) ∧ Chg [] w0 w' := by
  have L0_1 := F0_1.low
  have L0_2 := F0_2.low
  have L0_3 := F0_3.low
  have L0 := lt1 F0.lt
  have L1 := F1.low
  have hB : Chg [] w0 w0 := Chg.refl _ _
  have hZ := Nat.le_refl w0.heap.size
  unfold m_spec_l07Layering_bimplWiring at hm
  refine enterE (N := 84) Try.func64 (by rfl) Try.ntmps64 (by simp) [(0, .pointer (some ⟨b0, 0, none⟩)), (1, .slice A1 (l1).length cap1)] (by rfl) (by kernel_rfl) (fun a => ?_)
  refine cW_seq ?_
  refine cW_region ?_
  refine wS_pure 1 [(4, .bool (false))] (by kernel_rfl) ?_
  refine wS_end (by rfl) ?_
  refine eX_then ?_
  refine cW_seq ?_
  refine cW_seq ?_
  refine cW_region ?_
  refine wS_pure 5 [(11, .pointer (some ⟨b0, 0, none⟩)), (10, .pointer (some ⟨b0, 0, none⟩)), (9, .pointer (some ⟨b0, 0, none⟩)), (8, .int .i64 (((l1).length : Int))), (7, .slice A1 (l1).length cap1)] (by kernel_rfl) ?_
  refine wS_load1 (d := 12) (T := 2) (ad := ⟨b0, 0, none⟩) (v := .int .i64 (q0_0)) (by kernel_rfl) vt2 ((F0).cell 0) ?_
  refine wS_pure 1 [(13, .bool ((((l1).length : Int)) != q0_0))] (by kernel_rfl) ?_
  refine wS_end (by rfl) ?_
  refine eX_then ?_
  refine cW_cond (t := (((l1).length : Int)) != q0_0) (by kernel_rfl) (fun hb6 => ?_) (fun hb6 => ?_)
  · have hm := condT hb6 hm
    refine cW_seq ?_
    refine cW_region ?_
    refine wS_pure 1 [(4, .bool (false))] (by kernel_rfl) ?_
    refine wS_end (by rfl) ?_
    refine eX_then ?_
    refine cW_ret ?_
    refine eX_then_ret ?_
    have hq : (some false : Option ((Bool))) = some _ := hm
    replace hq := someE hq
    subst hq
    refine eX_ret (vs := [.bool (false)]) [.tmp 4] (by rfl) ⟨by (show lkE _ _ _ = _); kernel_rfl, trivial⟩ ?_
    exact ⟨rfl, hB⟩
  · have hm := condF hb6 hm
    refine cW_skip ?_
    refine eX_then ?_
    refine cW_seq ?_
    refine cW_seq ?_
    refine cW_region ?_
    refine wS_pure 1 [(5, .int .i64 (0))] (by kernel_rfl) ?_
    refine wS_end (by rfl) ?_
    refine eX_then ?_
    obtain ⟨r129, hr130, hm⟩ := bindE hm
    have hm131 := hm
    refine cW_cut (fun a' w' => Sum.inl (()) = r129 ∧ Fr 84 [(0, .pointer (some ⟨b0, 0, none⟩)), (1, .slice A1 (l1).length cap1)] a' ∧ SlR 1 encI w' fp0_1 A0_1 l0_1 ∧ SlR 1 encI w' fp0_2 A0_2 l0_2 ∧ Sl 1 encI w' fp0_3 A0_3 l0_3 ∧ Cl w' b0 27 [.int .i64 (q0_0), .slice A0_1 (l0_1).length cap0_1, .slice A0_2 (l0_2).length cap0_2, .slice A0_3 (l0_3).length cap0_3] ∧ Sl 1 encI w' fp1 A1 l1 ∧ Chg [] w0 w' ∧ w0.heap.size ≤ w'.heap.size) ?_ ?_
    · refine cW_block ?_
      refine cW_loop _ (fun (s132 : Int) a' w' => ∃ x122 : Int, x122 = s132 ∧ Fr 84 [(0, .pointer (some ⟨b0, 0, none⟩)), (1, .slice A1 (l1).length cap1), (5, .int .i64 (x122))] a' ∧ SlR 1 encI w' fp0_1 A0_1 l0_1 ∧ SlR 1 encI w' fp0_2 A0_2 l0_2 ∧ Sl 1 encI w' fp0_3 A0_3 l0_3 ∧ Cl w' b0 27 [.int .i64 (q0_0), .slice A0_1 (l0_1).length cap0_1, .slice A0_2 (l0_2).length cap0_2, .slice A0_3 (l0_3).length cap0_3] ∧ Sl 1 encI w' fp1 A1 l1 ∧ Chg [] w0 w' ∧ w0.heap.size ≤ w'.heap.size) hr130 (fun hst => ⟨0, rfl, Fr.of hst (by kernel_rfl), F0_1, F0_2, F0_3, F0, F1, hB, hZ⟩) ?_
      rintro _ c133 a' w121 ⟨x122, rfl, hF123, F124, F125, F126, F127, F128, hB, hZ⟩ hx134
      refine Fr.goOn hF123 (by kernel_rfl) ?_
      have hm := hx134
      unfold m_spec_l07Layering_bimplWiring_s1 at hm
      refine cW_seq ?_
      refine cW_seq ?_
      refine cW_region ?_
      refine wS_pure 4 [(17, .bool (decide (x122 < (((l1).length : Int))))), (16, .int .i64 (((l1).length : Int))), (15, .slice A1 (l1).length cap1), (14, .int .i64 (x122))] (by kernel_rfl) ?_
      refine wS_end (by rfl) ?_
      refine eX_then ?_
      refine cW_cond (t := decide (x122 < (((l1).length : Int)))) (by kernel_rfl) (fun hb135 => ?_) (fun hb135 => ?_)
      · have hm := condT hb135 hm
        refine cW_skip ?_
        refine eX_then ?_
        refine cW_seq ?_
        refine cW_block ?_
        refine cW_seq ?_
        refine cW_drawnTail [] 27 (by kernel_rfl) (by kernel_rfl) (fun w157 hc158 => ?_)
        replace F124 := F124.chg hc158 Dj.nil
        replace F125 := F125.chg hc158 Dj.nil
        replace F126 := F126.chg hc158 Dj.nil
        replace F127 := F127.chg hc158 notNil
        replace F128 := F128.chg hc158 Dj.nil
        replace hB := hB.inS hc158 inNil
        replace hZ := Nat.le_trans hZ hc158.size
        have hS := Chg.refl [] w157
        have Z159 := F124
        have Z160 := F125
        have Z161 := F126
        have Z162 := F127
        have Z163 := F128
        refine wH_take [0, 1] [1, 0] [(21, .int .i64 (x122)), (20, .slice A1 (l1).length cap1)] (by kernel_rfl) (qT (qT (qB (qT (qL (qB (qT (qT qZ)))))))) (by kernel_rfl) ?_
        obtain ⟨x164, hx165, hm⟩ := bindE hm
        refine wH_idx (i := 2) (d := 22) (T := 25) (A := A1) (n := (l1).length) (cap := cap1) (kd := .i64) (m := x122) (by kernel_rfl) (qT (qT (qB (qT (qL (qB (qT (qT qZ)))))))) (by kernel_rfl) (by kernel_rfl) sl25 (F128.is hx165) ?_
        refine wH_load1 (i := 3) (d := 23) (T := 2) (ad := (elA A1 1 (x122) 0)) (v := .int .i64 (x164)) (by kernel_rfl) (qT (qT (qB (qT (qL (qB (qT (qT qZ)))))))) (by kernel_rfl) (by kernel_rfl) vt2 (fun W hW => Sl.cell (Z163.chg hW Dj.nil) hx165 0 (by rfl)) ?_
        refine wH_all [4] (by rfl) (by kernel_rfl) (by simp) ⟨⟨by kernel_rfl, ?_⟩, trivial⟩
        obtain ⟨y166, hy167, hm⟩ := bindE hm
        refine wS_calls (d := 24) (f := 87) (vs := [.int .i64 (x164), .int .i64 (0), .int .i64 (1)]) (by kernel_rfl) ent87 (c_spec_l00In hy167) ?_
        rintro _ w168 ⟨rfl, hc169⟩
        replace F124 := F124.chg hc169 Dj.nil
        replace F125 := F125.chg hc169 Dj.nil
        replace F126 := F126.chg hc169 Dj.nil
        replace F127 := F127.chg hc169 notNil
        replace F128 := F128.chg hc169 Dj.nil
        replace hB := hB.inS hc169 inNil
        have hSz := hS
        replace hS := hS.inS hc169 inNil
        replace hZ := Nat.le_trans hZ hc169.size
        refine ⟨.bool (y166), rfl, ?_⟩
        refine wS_end (by kernel_rfl) ?_
        refine eX_KH hS ?_
        refine wH_take [5, 6] [6, 5, 4, 3, 2, 1, 0] [(26, .bool (!y166)), (25, .bool (!y166))] (by kernel_rfl) (qT (qT (qB (qT (qL (qB (qT (qT qZ)))))))) (by kernel_rfl) ?_
        refine wH_bool (!y166) (fun hb170 => ?_) (fun hb170 => ?_)
        · have hm := condT hb170 hm
          rewrite [hb170]
          refine wH_take [7, 8, 9, 10, 11, 12, 13, 14, 15, 16, 17, 18, 19, 20, 21, 22, 23, 24, 25, 26] [26, 25, 24, 23, 22, 21, 20, 19, 18, 17, 16, 15, 14, 13, 12, 11, 10, 9, 8, 7, 6, 5, 4, 3, 2, 1, 0] [(46, undef), (45, undef), (44, undef), (43, undef), (42, undef), (41, undef), (40, undef), (39, undef), (38, undef), (37, undef), (36, undef), (35, undef), (34, undef), (33, undef), (32, undef), (31, undef), (30, undef), (29, undef), (28, undef), (27, undef)] (by kernel_rfl) (qT (qT (qB (qT (qL (qB (qT (qT qZ)))))))) (by kernel_rfl) ?_
          refine wH_done (by kernel_rfl) ?_
          refine eX_tail ?_
          refine wS_pure 3 [(49, .bool (true)), (48, undef), (47, undef)] (by kernel_rfl) ?_
          refine wS_end (by rfl) ?_
          refine eX_then ?_
          refine cW_prune [(0, .pointer (some ⟨b0, 0, none⟩)), (1, .slice A1 (l1).length cap1), (5, .int .i64 (x122)), (49, .bool (true))] (by kernel_rfl) (by kernel_rfl) (fun a171 => ?_)
          refine cW_cond_t (by kernel_rfl) ?_
          refine cW_seq ?_
          refine cW_region ?_
          refine wS_pure 1 [(4, .bool (false))] (by kernel_rfl) ?_
          refine wS_end (by rfl) ?_
          refine eX_then ?_
          refine cW_ret ?_
          refine eX_block_ret ?_
          refine eX_then_ret ?_
          have hq : (some (Ctl.out (Sum.inr false)) : Option (Ctl (Int) (Sum (Unit) ((Bool))))) = some _ := hm
          replace hq := someE hq
          subst hq
          refine eX_outR hx134 (fun hr => ?_)
          subst hr
          refine eX_block_ret ?_
          refine eX_then_ret ?_
          refine eX_then_ret ?_
          have hq : (some false : Option ((Bool))) = some _ := hm131
          replace hq := someE hq
          subst hq
          refine eX_ret (vs := [.bool (false)]) [.tmp 4] (by rfl) ⟨by (show lkE _ _ _ = _); kernel_rfl, trivial⟩ ?_
          exact ⟨rfl, hB⟩
        · have hm := condF hb170 hm
          rewrite [hb170]
          refine wH_take [7, 8, 9] [9, 8, 7, 6, 5, 4, 3, 2, 1, 0] [(29, .pointer (some ⟨b0, 3, none⟩)), (28, .pointer (some ⟨b0, 0, none⟩)), (27, .pointer (some ⟨b0, 0, none⟩))] (by kernel_rfl) (qT (qT (qB (qT (qL (qB (qT (qT qZ)))))))) (by kernel_rfl) ?_
          refine wH_load1 (i := 10) (d := 30) (T := 25) (ad := ⟨b0, 3, none⟩) (v := .slice A0_3 (l0_3).length cap0_3) (by kernel_rfl) (qT (qT (qB (qT (qL (qB (qT (qT qZ)))))))) (by kernel_rfl) (by kernel_rfl) vt25 (fun W hW => (Z162.chg hW notNil).cell 3) ?_
          refine wH_take [11] [11, 10, 9, 8, 7, 6, 5, 4, 3, 2, 1, 0] [(31, .int .i64 (x122))] (by kernel_rfl) (qT (qT (qB (qT (qL (qB (qT (qT qZ)))))))) (by kernel_rfl) ?_
          obtain ⟨x172, hx173, hm⟩ := bindE hm
          refine wH_idx (i := 12) (d := 32) (T := 25) (A := A0_3) (n := (l0_3).length) (cap := cap0_3) (kd := .i64) (m := x122) (by kernel_rfl) (qT (qT (qB (qT (qL (qB (qT (qT qZ)))))))) (by kernel_rfl) (by kernel_rfl) sl25 (F126.is hx173) ?_
          refine wH_load1 (i := 13) (d := 33) (T := 2) (ad := (elA A0_3 1 (x122) 0)) (v := .int .i64 (x172)) (by kernel_rfl) (qT (qT (qB (qT (qL (qB (qT (qT qZ)))))))) (by kernel_rfl) (by kernel_rfl) vt2 (fun W hW => Sl.cell (Z161.chg hW Dj.nil) hx173 0 (by rfl)) ?_
          refine wH_take [14, 15] [15, 14, 13, 12, 11, 10, 9, 8, 7, 6, 5, 4, 3, 2, 1, 0] [(35, .bool (decide (x172 ≥ 0))), (34, .bool (decide (x172 ≥ 0)))] (by kernel_rfl) (qT (qT (qB (qT (qL (qB (qT (qT qZ)))))))) (by kernel_rfl) ?_
          refine wH_bool (decide (x172 ≥ 0)) (fun hb174 => ?_) (fun hb174 => ?_)
          · have hm := condT hb174 hm
            rewrite [hb174]
            refine wH_take [16, 17, 18] [18, 17, 16, 15, 14, 13, 12, 11, 10, 9, 8, 7, 6, 5, 4, 3, 2, 1, 0] [(38, .pointer (some ⟨b0, 3, none⟩)), (37, .pointer (some ⟨b0, 0, none⟩)), (36, .pointer (some ⟨b0, 0, none⟩))] (by kernel_rfl) (qT (qT (qB (qT (qL (qB (qT (qT qZ)))))))) (by kernel_rfl) ?_
            refine wH_load1 (i := 19) (d := 39) (T := 25) (ad := ⟨b0, 3, none⟩) (v := .slice A0_3 (l0_3).length cap0_3) (by kernel_rfl) (qT (qT (qB (qT (qL (qB (qT (qT qZ)))))))) (by kernel_rfl) (by kernel_rfl) vt25 (fun W hW => (Z162.chg hW notNil).cell 3) ?_
            refine wH_take [20] [20, 19, 18, 17, 16, 15, 14, 13, 12, 11, 10, 9, 8, 7, 6, 5, 4, 3, 2, 1, 0] [(40, .int .i64 (x122))] (by kernel_rfl) (qT (qT (qB (qT (qL (qB (qT (qT qZ)))))))) (by kernel_rfl) ?_
            obtain ⟨x175, hx176, hm⟩ := bindE hm
            refine wH_idx (i := 21) (d := 41) (T := 25) (A := A0_3) (n := (l0_3).length) (cap := cap0_3) (kd := .i64) (m := x122) (by kernel_rfl) (qT (qT (qB (qT (qL (qB (qT (qT qZ)))))))) (by kernel_rfl) (by kernel_rfl) sl25 (F126.is hx176) ?_
            refine wH_load1 (i := 22) (d := 42) (T := 2) (ad := (elA A0_3 1 (x122) 0)) (v := .int .i64 (x175)) (by kernel_rfl) (qT (qT (qB (qT (qL (qB (qT (qT qZ)))))))) (by kernel_rfl) (by kernel_rfl) vt2 (fun W hW => Sl.cell (Z161.chg hW Dj.nil) hx176 0 (by rfl)) ?_
            refine wH_take [23, 24] [24, 23, 22, 21, 20, 19, 18, 17, 16, 15, 14, 13, 12, 11, 10, 9, 8, 7, 6, 5, 4, 3, 2, 1, 0] [(44, .int .i64 (x122)), (43, .slice A1 (l1).length cap1)] (by kernel_rfl) (qT (qT (qB (qT (qL (qB (qT (qT qZ)))))))) (by kernel_rfl) ?_
            obtain ⟨x177, hx178, hm⟩ := bindE hm
            refine wH_idx (i := 25) (d := 45) (T := 25) (A := A1) (n := (l1).length) (cap := cap1) (kd := .i64) (m := x122) (by kernel_rfl) (qT (qT (qB (qT (qL (qB (qT (qT qZ)))))))) (by kernel_rfl) (by kernel_rfl) sl25 (F128.is hx178) ?_
            refine wH_load1 (i := 26) (d := 46) (T := 2) (ad := (elA A1 1 (x122) 0)) (v := .int .i64 (x177)) (by kernel_rfl) (qT (qT (qB (qT (qL (qB (qT (qT qZ)))))))) (by kernel_rfl) (by kernel_rfl) vt2 (fun W hW => Sl.cell (Z163.chg hW Dj.nil) hx178 0 (by rfl)) ?_
            refine wH_done (by kernel_rfl) ?_
            refine eX_tail ?_
            refine wS_pure 3 [(49, .bool (x175 != x177)), (48, .bool (x175 != x177)), (47, .bool (x175 != x177))] (by kernel_rfl) ?_
            refine wS_end (by rfl) ?_
            refine eX_then ?_
            refine cW_prune [(0, .pointer (some ⟨b0, 0, none⟩)), (1, .slice A1 (l1).length cap1), (5, .int .i64 (x122)), (49, .bool (x175 != x177))] (by kernel_rfl) (by kernel_rfl) (fun a179 => ?_)
            refine cW_cond (t := x175 != x177) (by kernel_rfl) (fun hb180 => ?_) (fun hb180 => ?_)
            · have hm := condT hb180 hm
              refine cW_seq ?_
              refine cW_region ?_
              refine wS_pure 1 [(4, .bool (false))] (by kernel_rfl) ?_
              refine wS_end (by rfl) ?_
              refine eX_then ?_
              refine cW_ret ?_
              refine eX_block_ret ?_
              refine eX_then_ret ?_
              have hq : (some (Ctl.out (Sum.inr false)) : Option (Ctl (Int) (Sum (Unit) ((Bool))))) = some _ := hm
              replace hq := someE hq
              subst hq
              refine eX_outR hx134 (fun hr => ?_)
              subst hr
              refine eX_block_ret ?_
              refine eX_then_ret ?_
              refine eX_then_ret ?_
              have hq : (some false : Option ((Bool))) = some _ := hm131
              replace hq := someE hq
              subst hq
              refine eX_ret (vs := [.bool (false)]) [.tmp 4] (by rfl) ⟨by (show lkE _ _ _ = _); kernel_rfl, trivial⟩ ?_
              exact ⟨rfl, hB⟩
            · have hm := condF hb180 hm
              refine cW_skip ?_
              refine eX_block ?_
              refine eX_then ?_
              refine cW_region ?_
              refine wS_pure 3 [(5, .int .i64 (wr (x122 + 1))), (19, .int .i64 (wr (x122 + 1))), (18, .int .i64 (x122))] (by kernel_rfl) ?_
              refine wS_end (by rfl) ?_
              have hq : (some (Ctl.next (wr (x122 + 1))) : Option (Ctl (Int) (Sum (Unit) ((Bool))))) = some _ := hm
              replace hq := someE hq
              subst hq
              exact eX_next hx134 (fun hst => ⟨wr (x122 + 1), rfl, Fr.of hst (by kernel_rfl), F124, F125, F126, F127, F128, hB, hZ⟩)
          · have hm := condF hb174 hm
            rewrite [hb174]
            refine wH_take [16, 17, 18, 19, 20, 21, 22, 23, 24, 25, 26] [26, 25, 24, 23, 22, 21, 20, 19, 18, 17, 16, 15, 14, 13, 12, 11, 10, 9, 8, 7, 6, 5, 4, 3, 2, 1, 0] [(46, undef), (45, undef), (44, undef), (43, undef), (42, undef), (41, undef), (40, undef), (39, undef), (38, undef), (37, undef), (36, undef)] (by kernel_rfl) (qT (qT (qB (qT (qL (qB (qT (qT qZ)))))))) (by kernel_rfl) ?_
            refine wH_done (by kernel_rfl) ?_
            refine eX_tail ?_
            refine wS_pure 3 [(49, .bool (false)), (48, .bool (false)), (47, undef)] (by kernel_rfl) ?_
            refine wS_end (by rfl) ?_
            refine eX_then ?_
            refine cW_prune [(0, .pointer (some ⟨b0, 0, none⟩)), (1, .slice A1 (l1).length cap1), (5, .int .i64 (x122)), (49, .bool (false))] (by kernel_rfl) (by kernel_rfl) (fun a181 => ?_)
            refine cW_cond_f (by kernel_rfl) ?_
            refine cW_skip ?_
            refine eX_block ?_
            refine eX_then ?_
            refine cW_region ?_
            refine wS_pure 3 [(5, .int .i64 (wr (x122 + 1))), (19, .int .i64 (wr (x122 + 1))), (18, .int .i64 (x122))] (by kernel_rfl) ?_
            refine wS_end (by rfl) ?_
            have hq : (some (Ctl.next (wr (x122 + 1))) : Option (Ctl (Int) (Sum (Unit) ((Bool))))) = some _ := hm
            replace hq := someE hq
            subst hq
            exact eX_next hx134 (fun hst => ⟨wr (x122 + 1), rfl, Fr.of hst (by kernel_rfl), F124, F125, F126, F127, F128, hB, hZ⟩)
      · have hm := condF hb135 hm
        refine cW_exit ?_
        refine eX_then_exit ?_
        have hq : (some (Ctl.out (Sum.inl (()))) : Option (Ctl (Int) (Sum (Unit) ((Bool))))) = some _ := hm
        replace hq := someE hq
        subst hq
        refine eX_outX hx134 (fun hr182 => ?_)
        replace hr182 := hr182.symm
        subst hr182
        refine eX_block_hit ?_
        exact eX_J (fun hst => ⟨rfl, Fr.of hst (by kernel_rfl), F124, F125, F126, F127, F128, hB, hZ⟩)
    · rintro a' w114 ⟨hJ, hF115, F116, F117, F118, F119, F120, hB, hZ⟩
      subst hJ
      refine Fr.goX hF115 (by kernel_rfl) ?_
      refine eX_then ?_
      refine cW_seq ?_
      refine cW_seq ?_
      refine cW_region ?_
      refine wS_pure 1 [(6, .int .i64 (0))] (by kernel_rfl) ?_
      refine wS_end (by rfl) ?_
      refine eX_then ?_
      obtain ⟨r336, hr337, hm⟩ := bindE hm
      have hm338 := hm
      refine cW_cut (fun a' w' => Sum.inl (()) = r336 ∧ Fr 84 [] a' ∧ Chg [] w0 w' ∧ w0.heap.size ≤ w'.heap.size) ?_ ?_
      · refine cW_block ?_
        refine cW_loop _ (fun (s339 : Int) a' w' => ∃ x329 : Int, x329 = s339 ∧ Fr 84 [(0, .pointer (some ⟨b0, 0, none⟩)), (1, .slice A1 (l1).length cap1), (6, .int .i64 (x329))] a' ∧ SlR 1 encI w' fp0_1 A0_1 l0_1 ∧ SlR 1 encI w' fp0_2 A0_2 l0_2 ∧ Sl 1 encI w' fp0_3 A0_3 l0_3 ∧ Cl w' b0 27 [.int .i64 (q0_0), .slice A0_1 (l0_1).length cap0_1, .slice A0_2 (l0_2).length cap0_2, .slice A0_3 (l0_3).length cap0_3] ∧ Sl 1 encI w' fp1 A1 l1 ∧ Chg [] w0 w' ∧ w0.heap.size ≤ w'.heap.size) hr337 (fun hst => ⟨0, rfl, Fr.of hst (by kernel_rfl), F116, F117, F118, F119, F120, hB, hZ⟩) ?_
        rintro _ c340 a' w328 ⟨x329, rfl, hF330, F331, F332, F333, F334, F335, hB, hZ⟩ hx341
        refine Fr.goOn hF330 (by kernel_rfl) ?_
        have hm := hx341
        unfold m_spec_l07Layering_bimplWiring_s2 at hm
        refine cW_seq ?_
        refine cW_seq ?_
        refine cW_region ?_
        refine wS_pure 4 [(53, .pointer (some ⟨b0, 1, none⟩)), (52, .pointer (some ⟨b0, 0, none⟩)), (51, .pointer (some ⟨b0, 0, none⟩)), (50, .int .i64 (x329))] (by kernel_rfl) ?_
        refine wS_load1 (d := 54) (T := 24) (ad := ⟨b0, 1, none⟩) (v := .slice A0_1 (l0_1).length cap0_1) (by kernel_rfl) vt24 ((F334).cell 1) ?_
        refine wS_pure 2 [(56, .bool (decide (x329 < (((l0_1).length : Int))))), (55, .int .i64 (((l0_1).length : Int)))] (by kernel_rfl) ?_
        refine wS_end (by rfl) ?_
        refine eX_then ?_
        refine cW_cond (t := decide (x329 < (((l0_1).length : Int)))) (by kernel_rfl) (fun hb342 => ?_) (fun hb342 => ?_)
        · have hm := condT hb342 hm
          refine cW_skip ?_
          refine eX_then ?_
          refine cW_seq ?_
          refine cW_block ?_
          refine cW_seq ?_
          refine cW_drawnTail [] 24 (by kernel_rfl) (by kernel_rfl) (fun w374 hc375 => ?_)
          replace F331 := F331.chg hc375 Dj.nil
          replace F332 := F332.chg hc375 Dj.nil
          replace F333 := F333.chg hc375 Dj.nil
          replace F334 := F334.chg hc375 notNil
          replace F335 := F335.chg hc375 Dj.nil
          replace hB := hB.inS hc375 inNil
          replace hZ := Nat.le_trans hZ hc375.size
          have hS := Chg.refl [] w374
          have Z376 := F331
          have Z377 := F332
          have Z378 := F333
          have Z379 := F334
          have Z380 := F335
          refine wH_take [0, 1, 2, 3] [3, 2, 1, 0] [(62, .pointer (some ⟨b0, 1, none⟩)), (61, .pointer (some ⟨b0, 0, none⟩)), (60, .pointer (some ⟨b0, 0, none⟩)), (59, .slice A1 (l1).length cap1)] (by kernel_rfl) (qT (qT (qB (qT (qL (qB (qT (qT qZ)))))))) (by kernel_rfl) ?_
          refine wH_load1 (i := 4) (d := 63) (T := 24) (ad := ⟨b0, 1, none⟩) (v := .slice A0_1 (l0_1).length cap0_1) (by kernel_rfl) (qT (qT (qB (qT (qL (qB (qT (qT qZ)))))))) (by kernel_rfl) (by kernel_rfl) vt24 (fun W hW => (Z379.chg hW notNil).cell 1) ?_
          refine wH_take [5] [5, 4, 3, 2, 1, 0] [(64, .int .i64 (x329))] (by kernel_rfl) (qT (qT (qB (qT (qL (qB (qT (qT qZ)))))))) (by kernel_rfl) ?_
          obtain ⟨x381, hx382, hm⟩ := bindE hm
          refine wH_idx (i := 6) (d := 65) (T := 24) (A := A0_1) (n := (l0_1).length) (cap := cap0_1) (kd := .i64) (m := x329) (by kernel_rfl) (qT (qT (qB (qT (qL (qB (qT (qT qZ)))))))) (by kernel_rfl) (by kernel_rfl) sl24 (F331.is hx382) ?_
          obtain ⟨A383, cap384, hc386, F385, K387⟩ := SlR.row Z376 hx382
          refine wH_load1 (i := 7) (d := 66) (T := 25) (ad := (elA A0_1 1 (x329) 0)) (v := .slice A383 (x381).length cap384) (by kernel_rfl) (qT (qT (qB (qT (qL (qB (qT (qT qZ)))))))) (by kernel_rfl) (by kernel_rfl) vt25 (fun W hW => hW.keep hc386) ?_
          obtain ⟨x389, hx390, hm⟩ := bindE hm
          refine wH_idx (i := 8) (d := 67) (T := 25) (A := A383) (n := (x381).length) (cap := cap384) (kd := .i64) (m := 0) (by kernel_rfl) (qT (qT (qB (qT (qL (qB (qT (qT qZ)))))))) (by kernel_rfl) (by kernel_rfl) sl25 (F385.is hx390) ?_
          refine wH_load1 (i := 9) (d := 68) (T := 2) (ad := (elA A383 1 (0) 0)) (v := .int .i64 (x389)) (by kernel_rfl) (qT (qT (qB (qT (qL (qB (qT (qT qZ)))))))) (by kernel_rfl) (by kernel_rfl) vt2 (fun W hW => Sl.cell (F385.chg hW Dj.nil) hx390 0 (by rfl)) ?_
          obtain ⟨x391, hx392, hm⟩ := bindE hm
          refine wH_idx (i := 10) (d := 69) (T := 25) (A := A1) (n := (l1).length) (cap := cap1) (kd := .i64) (m := x389) (by kernel_rfl) (qT (qT (qB (qT (qL (qB (qT (qT qZ)))))))) (by kernel_rfl) (by kernel_rfl) sl25 (F335.is hx392) ?_
          refine wH_load1 (i := 11) (d := 70) (T := 2) (ad := (elA A1 1 (x389) 0)) (v := .int .i64 (x391)) (by kernel_rfl) (qT (qT (qB (qT (qL (qB (qT (qT qZ)))))))) (by kernel_rfl) (by kernel_rfl) vt2 (fun W hW => Sl.cell (Z380.chg hW Dj.nil) hx392 0 (by rfl)) ?_
          refine wH_take [12, 13, 14, 15] [15, 14, 13, 12, 11, 10, 9, 8, 7, 6, 5, 4, 3, 2, 1, 0] [(74, .pointer (some ⟨b0, 1, none⟩)), (73, .pointer (some ⟨b0, 0, none⟩)), (72, .pointer (some ⟨b0, 0, none⟩)), (71, .slice A1 (l1).length cap1)] (by kernel_rfl) (qT (qT (qB (qT (qL (qB (qT (qT qZ)))))))) (by kernel_rfl) ?_
          refine wH_load1 (i := 16) (d := 75) (T := 24) (ad := ⟨b0, 1, none⟩) (v := .slice A0_1 (l0_1).length cap0_1) (by kernel_rfl) (qT (qT (qB (qT (qL (qB (qT (qT qZ)))))))) (by kernel_rfl) (by kernel_rfl) vt24 (fun W hW => (Z379.chg hW notNil).cell 1) ?_
          refine wH_take [17] [17, 16, 15, 14, 13, 12, 11, 10, 9, 8, 7, 6, 5, 4, 3, 2, 1, 0] [(76, .int .i64 (x329))] (by kernel_rfl) (qT (qT (qB (qT (qL (qB (qT (qT qZ)))))))) (by kernel_rfl) ?_
          obtain ⟨x393, hx394, hm⟩ := bindE hm
          refine wH_idx (i := 18) (d := 77) (T := 24) (A := A0_1) (n := (l0_1).length) (cap := cap0_1) (kd := .i64) (m := x329) (by kernel_rfl) (qT (qT (qB (qT (qL (qB (qT (qT qZ)))))))) (by kernel_rfl) (by kernel_rfl) sl24 (F331.is hx394) ?_
          obtain ⟨A395, cap396, hc398, F397, K399⟩ := SlR.row Z376 hx394
          refine wH_load1 (i := 19) (d := 78) (T := 25) (ad := (elA A0_1 1 (x329) 0)) (v := .slice A395 (x393).length cap396) (by kernel_rfl) (qT (qT (qB (qT (qL (qB (qT (qT qZ)))))))) (by kernel_rfl) (by kernel_rfl) vt25 (fun W hW => hW.keep hc398) ?_
          obtain ⟨x401, hx402, hm⟩ := bindE hm
          refine wH_idx (i := 20) (d := 79) (T := 25) (A := A395) (n := (x393).length) (cap := cap396) (kd := .i64) (m := 1) (by kernel_rfl) (qT (qT (qB (qT (qL (qB (qT (qT qZ)))))))) (by kernel_rfl) (by kernel_rfl) sl25 (F397.is hx402) ?_
          refine wH_load1 (i := 21) (d := 80) (T := 2) (ad := (elA A395 1 (1) 0)) (v := .int .i64 (x401)) (by kernel_rfl) (qT (qT (qB (qT (qL (qB (qT (qT qZ)))))))) (by kernel_rfl) (by kernel_rfl) vt2 (fun W hW => Sl.cell (F397.chg hW Dj.nil) hx402 0 (by rfl)) ?_
          obtain ⟨x403, hx404, hm⟩ := bindE hm
          refine wH_idx (i := 22) (d := 81) (T := 25) (A := A1) (n := (l1).length) (cap := cap1) (kd := .i64) (m := x401) (by kernel_rfl) (qT (qT (qB (qT (qL (qB (qT (qT qZ)))))))) (by kernel_rfl) (by kernel_rfl) sl25 (F335.is hx404) ?_
          refine wH_load1 (i := 23) (d := 82) (T := 2) (ad := (elA A1 1 (x401) 0)) (v := .int .i64 (x403)) (by kernel_rfl) (qT (qT (qB (qT (qL (qB (qT (qT qZ)))))))) (by kernel_rfl) (by kernel_rfl) vt2 (fun W hW => Sl.cell (Z380.chg hW Dj.nil) hx404 0 (by rfl)) ?_
          refine wH_done (by kernel_rfl) ?_
          refine eX_tail ?_
          refine wS_pure 1 [(83, .bool (x391 == x403))] (by kernel_rfl) ?_
          refine wS_end (by rfl) ?_
          refine eX_then ?_
          refine cW_prune [(0, .pointer (some ⟨b0, 0, none⟩)), (1, .slice A1 (l1).length cap1), (6, .int .i64 (x329)), (83, .bool (x391 == x403))] (by kernel_rfl) (by kernel_rfl) (fun a405 => ?_)
          refine cW_cond (t := x391 == x403) (by kernel_rfl) (fun hb406 => ?_) (fun hb406 => ?_)
          · have hm := condT hb406 hm
            refine cW_seq ?_
            refine cW_region ?_
            refine wS_pure 1 [(4, .bool (false))] (by kernel_rfl) ?_
            refine wS_end (by rfl) ?_
            refine eX_then ?_
            refine cW_ret ?_
            refine eX_block_ret ?_
            refine eX_then_ret ?_
            have hq : (some (Ctl.out (Sum.inr false)) : Option (Ctl (Int) (Sum (Unit) ((Bool))))) = some _ := hm
            replace hq := someE hq
            subst hq
            refine eX_outR hx341 (fun hr => ?_)
            subst hr
            refine eX_block_ret ?_
            refine eX_then_ret ?_
            refine eX_then_ret ?_
            have hq : (some false : Option ((Bool))) = some _ := hm338
            replace hq := someE hq
            subst hq
            refine eX_ret (vs := [.bool (false)]) [.tmp 4] (by rfl) ⟨by (show lkE _ _ _ = _); kernel_rfl, trivial⟩ ?_
            exact ⟨rfl, hB⟩
          · have hm := condF hb406 hm
            refine cW_skip ?_
            refine eX_block ?_
            refine eX_then ?_
            refine cW_region ?_
            refine wS_pure 3 [(6, .int .i64 (wr (x329 + 1))), (58, .int .i64 (wr (x329 + 1))), (57, .int .i64 (x329))] (by kernel_rfl) ?_
            refine wS_end (by rfl) ?_
            have hq : (some (Ctl.next (wr (x329 + 1))) : Option (Ctl (Int) (Sum (Unit) ((Bool))))) = some _ := hm
            replace hq := someE hq
            subst hq
            exact eX_next hx341 (fun hst => ⟨wr (x329 + 1), rfl, Fr.of hst (by kernel_rfl), F331, F332, F333, F334, F335, hB, hZ⟩)
        · have hm := condF hb342 hm
          refine cW_exit ?_
          refine eX_then_exit ?_
          have hq : (some (Ctl.out (Sum.inl (()))) : Option (Ctl (Int) (Sum (Unit) ((Bool))))) = some _ := hm
          replace hq := someE hq
          subst hq
          refine eX_outX hx341 (fun hr407 => ?_)
          replace hr407 := hr407.symm
          subst hr407
          refine eX_block_hit ?_
          exact eX_J (fun hst => ⟨rfl, Fr.of hst (by kernel_rfl), hB, hZ⟩)
      · rintro a' w326 ⟨hJ, hF327, hB, hZ⟩
        subst hJ
        refine Fr.goX hF327 (by kernel_rfl) ?_
        refine eX_then ?_
        refine cW_seq ?_
        refine cW_region ?_
        refine wS_pure 1 [(4, .bool (true))] (by kernel_rfl) ?_
        refine wS_end (by rfl) ?_
        refine eX_then ?_
        refine cW_ret ?_
        have hq : (some true : Option ((Bool))) = some _ := hm
        replace hq := someE hq
        subst hq
        refine eX_ret (vs := [.bool (true)]) [.tmp 4] (by rfl) ⟨by (show lkE _ _ _ = _); kernel_rfl, trivial⟩ ?_
        exact ⟨rfl, hB⟩

set_option maxRecDepth 100000 in
/-- impl.IsLayering$1 -/
theorem c_impl_IsLayering_1_bint64 {w0 : World} {l0 : List (Int)} {A0 : Option Addr} {cap0 : Nat} {fp0 : List Nat} {l1_0 : List (Int)} {A1_0 : Option Addr} {cap1_0 : Nat} {fp1_0 : List Nat} {b1 : Nat} {r : (Bool)} (hm : m_impl_IsLayering_1_bint64 l0 l1_0 = some r) (F0 : Sl 1 encI w0 fp0 A0 l0) (F1_0 : Sl 1 encI w0 fp1_0 A1_0 l1_0) (F1 : Cl w0 b1 25 [.slice A1_0 (l1_0).length cap1_0]) :
    Calls Try.prog 66 #[.slice A0 (l0).length cap0, .pointer (some ⟨b1, 0, none⟩)] w0 fun e w' => e = .returned (.bool (r)) ∧ Chg [] w0 w' := by
  have L0 := F0.low
  have L1_0 := F1_0.low
  have L1 := lt1 F1.lt
  have hB : Chg [] w0 w0 := Chg.refl _ _
  have hZ := Nat.le_refl w0.heap.size
  unfold m_impl_IsLayering_1_bint64 at hm
  refine enterE (N := 17) Try.func66 (by rfl) Try.ntmps66 (by simp) [(0, .slice A0 (l0).length cap0), (1, .pointer (some ⟨b1, 0, none⟩))] (by rfl) (by kernel_rfl) (fun a => ?_)
  refine cW_seq ?_
  refine cW_region ?_
  refine wS_pure 1 [(3, .bool (false))] (by kernel_rfl) ?_
  refine wS_end (by rfl) ?_
  refine eX_then ?_
  refine cW_seq ?_
  refine cW_drawnTail [] 12 (by kernel_rfl) (by kernel_rfl) (fun w17 hc18 => ?_)
  replace F0 := F0.chg hc18 Dj.nil
  replace F1_0 := F1_0.chg hc18 Dj.nil
  replace F1 := F1.chg hc18 notNil
  replace hB := hB.inS hc18 inNil
  replace hZ := Nat.le_trans hZ hc18.size
  have hS := Chg.refl [] w17
  have Z19 := F0
  have Z20 := F1_0
  have Z21 := F1
  refine wH_load1 (i := 0) (d := 4) (T := 25) (ad := ⟨b1, 0, none⟩) (v := .slice A1_0 (l1_0).length cap1_0) (by kernel_rfl) (qT (qT qZ)) (by kernel_rfl) (by kernel_rfl) vt25 (fun W hW => (Z21.chg hW notNil).cell 0) ?_
  refine wH_take [1] [1, 0] [(5, .slice A0 (l0).length cap0)] (by kernel_rfl) (qT (qT qZ)) (by kernel_rfl) ?_
  obtain ⟨x22, hx23, hm⟩ := bindE hm
  refine wH_idx (i := 2) (d := 6) (T := 25) (A := A0) (n := (l0).length) (cap := cap0) (kd := .i64) (m := 0) (by kernel_rfl) (qT (qT qZ)) (by kernel_rfl) (by kernel_rfl) sl25 (F0.is hx23) ?_
  refine wH_load1 (i := 3) (d := 7) (T := 2) (ad := (elA A0 1 (0) 0)) (v := .int .i64 (x22)) (by kernel_rfl) (qT (qT qZ)) (by kernel_rfl) (by kernel_rfl) vt2 (fun W hW => Sl.cell (Z19.chg hW Dj.nil) hx23 0 (by rfl)) ?_
  obtain ⟨x24, hx25, hm⟩ := bindE hm
  refine wH_idx (i := 4) (d := 8) (T := 25) (A := A1_0) (n := (l1_0).length) (cap := cap1_0) (kd := .i64) (m := x22) (by kernel_rfl) (qT (qT qZ)) (by kernel_rfl) (by kernel_rfl) sl25 (F1_0.is hx25) ?_
  refine wH_load1 (i := 5) (d := 9) (T := 2) (ad := (elA A1_0 1 (x22) 0)) (v := .int .i64 (x24)) (by kernel_rfl) (qT (qT qZ)) (by kernel_rfl) (by kernel_rfl) vt2 (fun W hW => Sl.cell (Z20.chg hW Dj.nil) hx25 0 (by rfl)) ?_
  refine wH_load1 (i := 6) (d := 10) (T := 25) (ad := ⟨b1, 0, none⟩) (v := .slice A1_0 (l1_0).length cap1_0) (by kernel_rfl) (qT (qT qZ)) (by kernel_rfl) (by kernel_rfl) vt25 (fun W hW => (Z21.chg hW notNil).cell 0) ?_
  refine wH_take [7] [7, 6, 5, 4, 3, 2, 1, 0] [(11, .slice A0 (l0).length cap0)] (by kernel_rfl) (qT (qT qZ)) (by kernel_rfl) ?_
  obtain ⟨x26, hx27, hm⟩ := bindE hm
  refine wH_idx (i := 8) (d := 12) (T := 25) (A := A0) (n := (l0).length) (cap := cap0) (kd := .i64) (m := 1) (by kernel_rfl) (qT (qT qZ)) (by kernel_rfl) (by kernel_rfl) sl25 (F0.is hx27) ?_
  refine wH_load1 (i := 9) (d := 13) (T := 2) (ad := (elA A0 1 (1) 0)) (v := .int .i64 (x26)) (by kernel_rfl) (qT (qT qZ)) (by kernel_rfl) (by kernel_rfl) vt2 (fun W hW => Sl.cell (Z19.chg hW Dj.nil) hx27 0 (by rfl)) ?_
  obtain ⟨x28, hx29, hm⟩ := bindE hm
  refine wH_idx (i := 10) (d := 14) (T := 25) (A := A1_0) (n := (l1_0).length) (cap := cap1_0) (kd := .i64) (m := x26) (by kernel_rfl) (qT (qT qZ)) (by kernel_rfl) (by kernel_rfl) sl25 (F1_0.is hx29) ?_
  refine wH_load1 (i := 11) (d := 15) (T := 2) (ad := (elA A1_0 1 (x26) 0)) (v := .int .i64 (x28)) (by kernel_rfl) (qT (qT qZ)) (by kernel_rfl) (by kernel_rfl) vt2 (fun W hW => Sl.cell (Z20.chg hW Dj.nil) hx29 0 (by rfl)) ?_
  refine wH_done (by kernel_rfl) ?_
  refine eX_tail ?_
  refine wS_pure 2 [(3, .bool (x24 == x28)), (16, .bool (x24 == x28))] (by kernel_rfl) ?_
  refine wS_end (by rfl) ?_
  refine eX_then ?_
  refine cW_ret ?_
  have hq : (some (x24 == x28) : Option ((Bool))) = some _ := hm
  replace hq := someE hq
  subst hq
  refine eX_ret (vs := [.bool (x24 == x28)]) [.tmp 3] (by rfl) ⟨by (show lkE _ _ _ = _); kernel_rfl, trivial⟩ ?_
  exact ⟨rfl, hB⟩

set_option maxRecDepth 100000 in
/-- slices.IndexFunc[[][]int64,[]int64] -/
theorem c_slices_IndexFunc_int64_int64_impl_IsLayering_1_bint64 {w0 : World} {l0 : List (List (Int))} {A0 : Option Addr} {cap0 : Nat} {fp0 : List Nat} {l1_0_0 : List (Int)} {A1_0_0 : Option Addr} {cap1_0_0 : Nat} {fp1_0_0 : List Nat} {b1_0 : Nat} {r : (Int)} (hm : m_slices_IndexFunc_int64_int64_impl_IsLayering_1_bint64 l0 l1_0_0 = some r) (F0 : SlR 1 encI w0 fp0 A0 l0) (F1_0_0 : Sl 1 encI w0 fp1_0_0 A1_0_0 l1_0_0) (F1_0 : Cl w0 b1_0 25 [.slice A1_0_0 (l1_0_0).length cap1_0_0]) :
    Calls Try.prog 101 #[.slice A0 (l0).length cap0, .func (.func 66) #[] #[.pointer (some ⟨b1_0, 0, none⟩)]] w0 fun e w' => e = .returned (.int .i64 (r)) ∧ Chg [] w0 w' := by
  have L0 := F0.low
  have L1_0_0 := F1_0_0.low
  have L1_0 := lt1 F1_0.lt
  have hB : Chg [] w0 w0 := Chg.refl _ _
  have hZ := Nat.le_refl w0.heap.size
  unfold m_slices_IndexFunc_int64_int64_impl_IsLayering_1_bint64 at hm
  refine enterE (N := 19) Try.func101 (by rfl) Try.ntmps101 (by simp) [(0, .slice A0 (l0).length cap0), (1, .func (.func 66) #[] #[.pointer (some ⟨b1_0, 0, none⟩)])] (by rfl) (by kernel_rfl) (fun a => ?_)
  refine cW_seq ?_
  refine cW_region ?_
  refine wS_pure 1 [(4, .int .i64 (0))] (by kernel_rfl) ?_
  refine wS_end (by rfl) ?_
  refine eX_then ?_
  refine cW_seq ?_
  refine cW_seq ?_
  refine cW_region ?_
  refine wS_pure 3 [(8, .int .i64 (0)), (7, .int .i64 (((l0).length : Int))), (6, .slice A0 (l0).length cap0)] (by kernel_rfl) ?_
  refine wS_end (by rfl) ?_
  refine eX_then ?_
  obtain ⟨r49, hr50, hm⟩ := bindE hm
  have hm51 := hm
  refine cW_cut (fun a' w' => Sum.inl (()) = r49 ∧ Fr 19 [] a' ∧ Chg [] w0 w' ∧ w0.heap.size ≤ w'.heap.size) ?_ ?_
  · refine cW_block ?_
    refine cW_loop _ (fun (s52 : Int) a' w' => ∃ x44 : Int, x44 = s52 ∧ Fr 19 [(0, .slice A0 (l0).length cap0), (1, .func (.func 66) #[] #[.pointer (some ⟨b1_0, 0, none⟩)]), (7, .int .i64 (((l0).length : Int))), (8, .int .i64 (x44))] a' ∧ SlR 1 encI w' fp0 A0 l0 ∧ Sl 1 encI w' fp1_0_0 A1_0_0 l1_0_0 ∧ Cl w' b1_0 25 [.slice A1_0_0 (l1_0_0).length cap1_0_0] ∧ Chg [] w0 w' ∧ w0.heap.size ≤ w'.heap.size) hr50 (fun hst => ⟨0, rfl, Fr.of hst (by kernel_rfl), F0, F1_0_0, F1_0, hB, hZ⟩) ?_
    rintro _ c53 a' w43 ⟨x44, rfl, hF45, F46, F47, F48, hB, hZ⟩ hx54
    refine Fr.goOn hF45 (by kernel_rfl) ?_
    have hm := hx54
    unfold m_slices_IndexFunc_int64_int64_impl_IsLayering_1_bint64_s1 at hm
    refine cW_seq ?_
    refine cW_region ?_
    refine wS_pure 1 [(9, .bool (decide (x44 < (((l0).length : Int)))))] (by kernel_rfl) ?_
    refine wS_end (by rfl) ?_
    refine eX_then ?_
    refine cW_seq ?_
    refine cW_cond (t := decide (x44 < (((l0).length : Int)))) (by kernel_rfl) (fun hb55 => ?_) (fun hb55 => ?_)
    · have hm := condT hb55 hm
      refine cW_skip ?_
      refine eX_then ?_
      refine cW_seq ?_
      refine cW_block ?_
      refine cW_seq ?_
      refine cW_region ?_
      refine wS_pure 2 [(5, .int .i64 (x44)), (10, .int .i64 (x44))] (by kernel_rfl) ?_
      refine wS_end (by rfl) ?_
      refine eX_then ?_
      refine cW_seq ?_
      refine cW_region ?_
      refine wS_pure 3 [(13, .int .i64 (x44)), (12, .slice A0 (l0).length cap0), (11, .func (.func 66) #[] #[.pointer (some ⟨b1_0, 0, none⟩)])] (by kernel_rfl) ?_
      obtain ⟨x56, hx57, hm⟩ := bindE hm
      refine wS_idx (d := 14) (T := 24) (A := A0) (n := (l0).length) (cap := cap0) (kd := .i64) (m := x44) (by kernel_rfl) sl24 (F46.is hx57) ?_
      obtain ⟨A58, cap59, hc61, F60, K62⟩ := SlR.row F46 hx57
      refine wS_load1 (d := 15) (T := 25) (ad := (elA A0 1 (x44) 0)) (v := .slice A58 (x56).length cap59) (by kernel_rfl) vt25 hc61 ?_
      obtain ⟨y64, hy65, hm⟩ := bindE hm
      refine wS_calls (d := 16) (f := 66) (vs := [.slice A58 (x56).length cap59, .pointer (some ⟨b1_0, 0, none⟩)]) (by kernel_rfl) ent66 (c_impl_IsLayering_1_bint64 hy65 F60 F47 F48) ?_
      rintro _ w66 ⟨rfl, hc67⟩
      replace F46 := F46.chg hc67 Dj.nil
      replace F47 := F47.chg hc67 Dj.nil
      replace F48 := F48.chg hc67 notNil
      replace F60 := F60.chg hc67 Dj.nil
      replace hB := hB.inS hc67 inNil
      replace hZ := Nat.le_trans hZ hc67.size
      refine ⟨.bool (y64), rfl, ?_⟩
      refine wS_end (by rfl) ?_
      refine eX_then ?_
      refine cW_cond (t := y64) (by kernel_rfl) (fun hb68 => ?_) (fun hb68 => ?_)
      · have hm := condT hb68 hm
        refine cW_seq ?_
        refine cW_region ?_
        refine wS_pure 2 [(4, .int .i64 (x44)), (17, .int .i64 (x44))] (by kernel_rfl) ?_
        refine wS_end (by rfl) ?_
        refine eX_then ?_
        refine cW_ret ?_
        refine eX_block_ret ?_
        refine eX_then_ret ?_
        have hq : (some (Ctl.out (Sum.inr x44)) : Option (Ctl (Int) (Sum (Unit) ((Int))))) = some _ := hm
        replace hq := someE hq
        subst hq
        refine eX_outR hx54 (fun hr => ?_)
        subst hr
        refine eX_block_ret ?_
        refine eX_then_ret ?_
        refine eX_then_ret ?_
        have hq : (some x44 : Option ((Int))) = some _ := hm51
        replace hq := someE hq
        subst hq
        refine eX_ret (vs := [.int .i64 (x44)]) [.tmp 4] (by rfl) ⟨by (show lkE _ _ _ = _); kernel_rfl, trivial⟩ ?_
        exact ⟨rfl, hB⟩
      · have hm := condF hb68 hm
        refine cW_skip ?_
        refine eX_block ?_
        refine eX_then ?_
        refine cW_region ?_
        refine wS_pure 2 [(8, .int .i64 (wr (x44 + 1))), (18, .int .i64 (wr (x44 + 1)))] (by kernel_rfl) ?_
        refine wS_end (by rfl) ?_
        have hq : (some (Ctl.next (wr (x44 + 1))) : Option (Ctl (Int) (Sum (Unit) ((Int))))) = some _ := hm
        replace hq := someE hq
        subst hq
        exact eX_next hx54 (fun hst => ⟨wr (x44 + 1), rfl, Fr.of hst (by kernel_rfl), F46, F47, F48, hB, hZ⟩)
    · have hm := condF hb55 hm
      refine cW_exit ?_
      refine eX_then_exit ?_
      have hq : (some (Ctl.out (Sum.inl (()))) : Option (Ctl (Int) (Sum (Unit) ((Int))))) = some _ := hm
      replace hq := someE hq
      subst hq
      refine eX_outX hx54 (fun hr69 => ?_)
      replace hr69 := hr69.symm
      subst hr69
      refine eX_block_hit ?_
      exact eX_J (fun hst => ⟨rfl, Fr.of hst (by kernel_rfl), hB, hZ⟩)
  · rintro a' w41 ⟨hJ, hF42, hB, hZ⟩
    subst hJ
    refine Fr.goX hF42 (by kernel_rfl) ?_
    refine eX_then ?_
    refine cW_seq ?_
    refine cW_region ?_
    refine wS_pure 1 [(4, .int .i64 ((-1)))] (by kernel_rfl) ?_
    refine wS_end (by rfl) ?_
    refine eX_then ?_
    refine cW_ret ?_
    have hq : (some ((-1)) : Option ((Int))) = some _ := hm
    replace hq := someE hq
    subst hq
    refine eX_ret (vs := [.int .i64 ((-1))]) [.tmp 4] (by rfl) ⟨by (show lkE _ _ _ = _); kernel_rfl, trivial⟩ ?_
    exact ⟨rfl, hB⟩

set_option maxRecDepth 100000 in
/-- slices.ContainsFunc[[][]int64,[]int64] -/
theorem c_slices_ContainsFunc_int64_int64_impl_IsLayering_1_bint64 {w0 : World} {l0 : List (List (Int))} {A0 : Option Addr} {cap0 : Nat} {fp0 : List Nat} {l1_0_0 : List (Int)} {A1_0_0 : Option Addr} {cap1_0_0 : Nat} {fp1_0_0 : List Nat} {b1_0 : Nat} {r : (Bool)} (hm : m_slices_ContainsFunc_int64_int64_impl_IsLayering_1_bint64 l0 l1_0_0 = some r) (F0 : SlR 1 encI w0 fp0 A0 l0) (F1_0_0 : Sl 1 encI w0 fp1_0_0 A1_0_0 l1_0_0) (F1_0 : Cl w0 b1_0 25 [.slice A1_0_0 (l1_0_0).length cap1_0_0]) :
    Calls Try.prog 59 #[.slice A0 (l0).length cap0, .func (.func 66) #[] #[.pointer (some ⟨b1_0, 0, none⟩)]] w0 fun e w' => e = .returned (.bool (r)) ∧ Chg [] w0 w' := by
  have L0 := F0.low
  have L1_0_0 := F1_0_0.low
  have L1_0 := lt1 F1_0.lt
  have hB : Chg [] w0 w0 := Chg.refl _ _
  have hZ := Nat.le_refl w0.heap.size
  unfold m_slices_ContainsFunc_int64_int64_impl_IsLayering_1_bint64 at hm
  refine enterE (N := 9) Try.func59 (by rfl) Try.ntmps59 (by simp) [(0, .slice A0 (l0).length cap0), (1, .func (.func 66) #[] #[.pointer (some ⟨b1_0, 0, none⟩)])] (by rfl) (by kernel_rfl) (fun a => ?_)
  refine cW_seq ?_
  refine cW_region ?_
  refine wS_pure 1 [(4, .bool (false))] (by kernel_rfl) ?_
  refine wS_end (by rfl) ?_
  refine eX_then ?_
  refine cW_seq ?_
  refine cW_region ?_
  refine wS_pure 2 [(6, .func (.func 66) #[] #[.pointer (some ⟨b1_0, 0, none⟩)]), (5, .slice A0 (l0).length cap0)] (by kernel_rfl) ?_
  obtain ⟨y4, hy5, hm⟩ := bindE hm
  refine wS_calls (d := 7) (f := 101) (vs := [.slice A0 (l0).length cap0, .func (.func 66) #[] #[.pointer (some ⟨b1_0, 0, none⟩)]]) (by kernel_rfl) ent101 (c_slices_IndexFunc_int64_int64_impl_IsLayering_1_bint64 hy5 F0 F1_0_0 F1_0) ?_
  rintro _ w6 ⟨rfl, hc7⟩
  replace F0 := F0.chg hc7 Dj.nil
  replace F1_0_0 := F1_0_0.chg hc7 Dj.nil
  replace F1_0 := F1_0.chg hc7 notNil
  replace hB := hB.inS hc7 inNil
  replace hZ := Nat.le_trans hZ hc7.size
  refine ⟨.int .i64 (y4), rfl, ?_⟩
  refine wS_pure 2 [(4, .bool (decide (y4 ≥ 0))), (8, .bool (decide (y4 ≥ 0)))] (by kernel_rfl) ?_
  refine wS_end (by rfl) ?_
  refine eX_then ?_
  refine cW_ret ?_
  have hq : (some (decide (y4 ≥ 0)) : Option ((Bool))) = some _ := hm
  replace hq := someE hq
  subst hq
  refine eX_ret (vs := [.bool (decide (y4 ≥ 0))]) [.tmp 4] (by rfl) ⟨by (show lkE _ _ _ = _); kernel_rfl, trivial⟩ ?_
  exact ⟨rfl, hB⟩

set_option maxRecDepth 100000 in
/-- impl.IsLayering -/
theorem c_impl_IsLayering {w0 : World} {p0_0 : Int} {l0_1 : List (List (Int))} {A0_1 : Option Addr} {cap0_1 : Nat} {fp0_1 : List Nat} {l0_2 : List (List (Int))} {A0_2 : Option Addr} {cap0_2 : Nat} {fp0_2 : List Nat} {l0_3 : List (Int)} {A0_3 : Option Addr} {cap0_3 : Nat} {fp0_3 : List Nat} {l1 : List (Int)} {A1 : Option Addr} {cap1 : Nat} {fp1 : List Nat} {r : (Bool)} (hm : m_impl_IsLayering p0_0 l0_1 l0_2 l0_3 l1 = some r) (F0_1 : SlR 1 encI w0 fp0_1 A0_1 l0_1) (F0_2 : SlR 1 encI w0 fp0_2 A0_2 l0_2) (F0_3 : Sl 1 encI w0 fp0_3 A0_3 l0_3) (F1 : Sl 1 encI w0 fp1 A1 l1) :
    Calls Try.prog 18 #[.agg #[.int .i64 (p0_0), .slice A0_1 (l0_1).length cap0_1, .slice A0_2 (l0_2).length cap0_2, .slice A0_3 (l0_3).length cap0_3], .slice A1 (l1).length cap1] w0 fun e w' => e = .returned (.bool (r)) ∧ Chg [] w0 w' := by
  have L0_1 := F0_1.low
  have L0_2 := F0_2.low
  have L0_3 := F0_3.low
  have L1 := F1.low
  have hB : Chg [] w0 w0 := Chg.refl _ _
  have hZ := Nat.le_refl w0.heap.size
  unfold m_impl_IsLayering at hm
  refine enterE (N := 50) Try.func18 (by rfl) Try.ntmps18 (by simp) [(0, .agg #[.int .i64 (p0_0), .slice A0_1 (l0_1).length cap0_1, .slice A0_2 (l0_2).length cap0_2, .slice A0_3 (l0_3).length cap0_3]), (1, .slice A1 (l1).length cap1)] (by rfl) (by kernel_rfl) (fun a => ?_)
  refine cW_seq ?_
  refine cW_region ?_
  refine wS_box (d := 2) (T := 27) (x := .agg #[.int .i64 (p0_0), .slice A0_1 (l0_1).length cap0_1, .slice A0_2 (l0_2).length cap0_2, .slice A0_3 (l0_3).length cap0_3]) (by kernel_rfl) ?_
  intro b5 w6 G7 F8 hc9
  replace F8 : Cl w6 b5 27 [.int .i64 (p0_0), .slice A0_1 (l0_1).length cap0_1, .slice A0_2 (l0_2).length cap0_2, .slice A0_3 (l0_3).length cap0_3] := F8
  replace F0_1 := F0_1.chg hc9 Dj.nil
  replace F0_2 := F0_2.chg hc9 Dj.nil
  replace F0_3 := F0_3.chg hc9 Dj.nil
  replace F1 := F1.chg hc9 Dj.nil
  replace hB := hB.inS hc9 inNil
  replace G7 := Nat.le_trans hZ G7
  replace hZ := Nat.le_trans hZ hc9.size
  refine wS_box (d := 3) (T := 25) (x := .slice A1 (l1).length cap1) (by kernel_rfl) ?_
  intro b11 w12 G13 F14 hc15
  replace F14 : Cl w12 b11 25 [.slice A1 (l1).length cap1] := F14
  have D17 : Dj [b5] [b11] := Dj.of (lt1 F8.lt) (low1 G13)
  replace F0_1 := F0_1.chg hc15 Dj.nil
  replace F0_2 := F0_2.chg hc15 Dj.nil
  replace F0_3 := F0_3.chg hc15 Dj.nil
  replace F1 := F1.chg hc15 Dj.nil
  replace F8 := F8.chg hc15 notNil
  replace hB := hB.inS hc15 inNil
  replace G13 := Nat.le_trans hZ G13
  replace hZ := Nat.le_trans hZ hc15.size
  refine wS_pure 1 [(4, .bool (false))] (by kernel_rfl) ?_
  refine wS_end (by rfl) ?_
  refine eX_then ?_
  refine cW_seq ?_
  refine cW_seq ?_
  refine cW_region ?_
  refine wS_loadA (d := 7) (T := 27) (ad := ⟨b5, 0, none⟩) (vs := [.int .i64 (p0_0), .slice A0_1 (l0_1).length cap0_1, .slice A0_2 (l0_2).length cap0_2, .slice A0_3 (l0_3).length cap0_3]) (by kernel_rfl) vt27 (fun i u hu => box_cells F8 0 hu (by rfl)) ?_
  obtain ⟨y18, hy19, hm⟩ := bindE hm
  refine wS_calls (d := 8) (f := 16) (vs := [.agg #[.int .i64 (p0_0), .slice A0_1 (l0_1).length cap0_1, .slice A0_2 (l0_2).length cap0_2, .slice A0_3 (l0_3).length cap0_3]]) (by kernel_rfl) ent16 (c_impl_ValidWiring hy19 F0_1 F0_2 F0_3) ?_
  rintro _ w20 ⟨rfl, hc21⟩
  replace F0_1 := F0_1.chg hc21 Dj.nil
  replace F0_2 := F0_2.chg hc21 Dj.nil
  replace F0_3 := F0_3.chg hc21 Dj.nil
  replace F1 := F1.chg hc21 Dj.nil
  replace F8 := F8.chg hc21 notNil
  replace F14 := F14.chg hc21 notNil
  replace hB := hB.inS hc21 inNil
  replace hZ := Nat.le_trans hZ hc21.size
  refine ⟨.bool (y18), rfl, ?_⟩
  refine wS_pure 2 [(10, .bool (!y18)), (9, .bool (!y18))] (by kernel_rfl) ?_
  refine wS_bool (!y18) (fun hb22 => ?_) (fun hb22 => ?_)
  · have hm := condT hb22 hm
    rewrite [hb22]
    refine wS_pure 6 [(16, .bool (true)), (15, undef), (14, undef), (13, undef), (12, undef), (11, undef)] (by kernel_rfl) ?_
    refine wS_end (by rfl) ?_
    refine eX_then ?_
    refine cW_cond_t (by kernel_rfl) ?_
    refine cW_seq ?_
    refine cW_region ?_
    refine wS_pure 1 [(4, .bool (false))] (by kernel_rfl) ?_
    refine wS_end (by rfl) ?_
    refine eX_then ?_
    refine cW_ret ?_
    refine eX_then_ret ?_
    have hq : (some false : Option ((Bool))) = some _ := hm
    replace hq := someE hq
    subst hq
    refine eX_ret (vs := [.bool (false)]) [.tmp 4] (by rfl) ⟨by (show lkE _ _ _ = _); kernel_rfl, trivial⟩ ?_
    exact ⟨rfl, hB⟩
  · have hm := condF hb22 hm
    rewrite [hb22]
    refine wS_load1 (d := 11) (T := 25) (ad := ⟨b11, 0, none⟩) (v := .slice A1 (l1).length cap1) (by kernel_rfl) vt25 ((F14).cell 0) ?_
    refine wS_pure 2 [(13, .pointer (some ⟨b5, 0, none⟩)), (12, .int .i64 (((l1).length : Int)))] (by kernel_rfl) ?_
    refine wS_load1 (d := 14) (T := 2) (ad := ⟨b5, 0, none⟩) (v := .int .i64 (p0_0)) (by kernel_rfl) vt2 ((F8).cell 0) ?_
    refine wS_pure 2 [(16, .bool ((((l1).length : Int)) != p0_0)), (15, .bool ((((l1).length : Int)) != p0_0))] (by kernel_rfl) ?_
    refine wS_end (by rfl) ?_
    refine eX_then ?_
    refine cW_cond (t := (((l1).length : Int)) != p0_0) (by kernel_rfl) (fun hb23 => ?_) (fun hb23 => ?_)
    · have hm := condT hb23 hm
      refine cW_seq ?_
      refine cW_region ?_
      refine wS_pure 1 [(4, .bool (false))] (by kernel_rfl) ?_
      refine wS_end (by rfl) ?_
      refine eX_then ?_
      refine cW_ret ?_
      refine eX_then_ret ?_
      have hq : (some false : Option ((Bool))) = some _ := hm
      replace hq := someE hq
      subst hq
      refine eX_ret (vs := [.bool (false)]) [.tmp 4] (by rfl) ⟨by (show lkE _ _ _ = _); kernel_rfl, trivial⟩ ?_
      exact ⟨rfl, hB⟩
    · have hm := condF hb23 hm
      refine cW_skip ?_
      refine eX_then ?_
      refine cW_seq ?_
      refine cW_seq ?_
      refine cW_region ?_
      refine wS_load1 (d := 17) (T := 25) (ad := ⟨b11, 0, none⟩) (v := .slice A1 (l1).length cap1) (by kernel_rfl) vt25 ((F14).cell 0) ?_
      refine wS_pure 2 [(19, .int .i64 (0)), (18, .int .i64 (((l1).length : Int)))] (by kernel_rfl) ?_
      refine wS_end (by rfl) ?_
      refine eX_then ?_
      obtain ⟨r90, hr91, hm⟩ := bindE hm
      have hm92 := hm
      refine cW_cut (fun a' w' => Sum.inl (()) = r90 ∧ Fr 50 [(2, .pointer (some ⟨b5, 0, none⟩)), (3, .pointer (some ⟨b11, 0, none⟩))] a' ∧ SlR 1 encI w' fp0_1 A0_1 l0_1 ∧ SlR 1 encI w' fp0_2 A0_2 l0_2 ∧ Sl 1 encI w' fp0_3 A0_3 l0_3 ∧ Sl 1 encI w' fp1 A1 l1 ∧ Cl w' b5 27 [.int .i64 (p0_0), .slice A0_1 (l0_1).length cap0_1, .slice A0_2 (l0_2).length cap0_2, .slice A0_3 (l0_3).length cap0_3] ∧ Cl w' b11 25 [.slice A1 (l1).length cap1] ∧ Chg [] w0 w' ∧ w0.heap.size ≤ w'.heap.size) ?_ ?_
      · refine cW_block ?_
        refine cW_loop _ (fun (s93 : Int) a' w' => ∃ x82 : Int, x82 = s93 ∧ Fr 50 [(2, .pointer (some ⟨b5, 0, none⟩)), (3, .pointer (some ⟨b11, 0, none⟩)), (17, .slice A1 (l1).length cap1), (18, .int .i64 (((l1).length : Int))), (19, .int .i64 (x82))] a' ∧ SlR 1 encI w' fp0_1 A0_1 l0_1 ∧ SlR 1 encI w' fp0_2 A0_2 l0_2 ∧ Sl 1 encI w' fp0_3 A0_3 l0_3 ∧ Sl 1 encI w' fp1 A1 l1 ∧ Cl w' b5 27 [.int .i64 (p0_0), .slice A0_1 (l0_1).length cap0_1, .slice A0_2 (l0_2).length cap0_2, .slice A0_3 (l0_3).length cap0_3] ∧ Cl w' b11 25 [.slice A1 (l1).length cap1] ∧ Chg [] w0 w' ∧ w0.heap.size ≤ w'.heap.size) hr91 (fun hst => ⟨0, rfl, Fr.of hst (by kernel_rfl), F0_1, F0_2, F0_3, F1, F8, F14, hB, hZ⟩) ?_
        rintro _ c94 a' w81 ⟨x82, rfl, hF83, F84, F85, F86, F87, F88, F89, hB, hZ⟩ hx95
        refine Fr.goOn hF83 (by kernel_rfl) ?_
        have hm := hx95
        unfold m_impl_IsLayering_s1 at hm
        refine cW_seq ?_
        refine cW_region ?_
        refine wS_pure 1 [(20, .bool (decide (x82 < (((l1).length : Int)))))] (by kernel_rfl) ?_
        refine wS_end (by rfl) ?_
        refine eX_then ?_
        refine cW_seq ?_
        refine cW_cond (t := decide (x82 < (((l1).length : Int)))) (by kernel_rfl) (fun hb96 => ?_) (fun hb96 => ?_)
        · have hm := condT hb96 hm
          refine cW_skip ?_
          refine eX_then ?_
          refine cW_seq ?_
          refine cW_block ?_
          refine cW_seq ?_
          refine cW_region ?_
          refine wS_pure 1 [(21, .int .i64 (x82))] (by kernel_rfl) ?_
          obtain ⟨x97, hx98, hm⟩ := bindE hm
          refine wS_idx (d := 22) (T := 25) (A := A1) (n := (l1).length) (cap := cap1) (kd := .i64) (m := x82) (by kernel_rfl) sl25 (F87.is hx98) ?_
          refine wS_load1 (d := 23) (T := 2) (ad := (elA A1 1 (x82) 0)) (v := .int .i64 (x97)) (by kernel_rfl) vt2 (Sl.cell F87 hx98 0 (by rfl)) ?_
          refine wS_pure 2 [(6, .int .i64 (x97)), (5, .int .i64 (x82))] (by kernel_rfl) ?_
          refine wS_end (by rfl) ?_
          refine eX_then ?_
          refine cW_seq ?_
          refine cW_region ?_
          refine wS_pure 1 [(24, .int .i64 (x97))] (by kernel_rfl) ?_
          obtain ⟨y99, hy100, hm⟩ := bindE hm
          refine wS_calls (d := 25) (f := 57) (vs := [.int .i64 (x97), .int .i64 (0), .int .i64 (1)]) (by kernel_rfl) ent57 (c_impl_in hy100) ?_
          rintro _ w101 ⟨rfl, hc102⟩
          replace F84 := F84.chg hc102 Dj.nil
          replace F85 := F85.chg hc102 Dj.nil
          replace F86 := F86.chg hc102 Dj.nil
          replace F87 := F87.chg hc102 Dj.nil
          replace F88 := F88.chg hc102 notNil
          replace F89 := F89.chg hc102 notNil
          replace hB := hB.inS hc102 inNil
          replace hZ := Nat.le_trans hZ hc102.size
          refine ⟨.bool (y99), rfl, ?_⟩
          refine wS_pure 2 [(27, .bool (!y99)), (26, .bool (!y99))] (by kernel_rfl) ?_
          refine wS_bool (!y99) (fun hb103 => ?_) (fun hb103 => ?_)
          · have hm := condT hb103 hm
            rewrite [hb103]
            refine wS_pure 16 [(43, .bool (true)), (42, undef), (41, undef), (40, undef), (39, undef), (38, undef), (37, undef), (36, undef), (35, undef), (34, undef), (33, undef), (32, undef), (31, undef), (30, undef), (29, undef), (28, undef)] (by kernel_rfl) ?_
            refine wS_end (by rfl) ?_
            refine eX_then ?_
            refine cW_prune [(2, .pointer (some ⟨b5, 0, none⟩)), (3, .pointer (some ⟨b11, 0, none⟩)), (17, .slice A1 (l1).length cap1), (18, .int .i64 (((l1).length : Int))), (19, .int .i64 (x82)), (43, .bool (true))] (by kernel_rfl) (by kernel_rfl) (fun a104 => ?_)
            refine cW_cond_t (by kernel_rfl) ?_
            refine cW_seq ?_
            refine cW_region ?_
            refine wS_pure 1 [(4, .bool (false))] (by kernel_rfl) ?_
            refine wS_end (by rfl) ?_
            refine eX_then ?_
            refine cW_ret ?_
            refine eX_block_ret ?_
            refine eX_then_ret ?_
            have hq : (some (Ctl.out (Sum.inr false)) : Option (Ctl (Int) (Sum (Unit) ((Bool))))) = some _ := hm
            replace hq := someE hq
            subst hq
            refine eX_outR hx95 (fun hr => ?_)
            subst hr
            refine eX_block_ret ?_
            refine eX_then_ret ?_
            refine eX_then_ret ?_
            have hq : (some false : Option ((Bool))) = some _ := hm92
            replace hq := someE hq
            subst hq
            refine eX_ret (vs := [.bool (false)]) [.tmp 4] (by rfl) ⟨by (show lkE _ _ _ = _); kernel_rfl, trivial⟩ ?_
            exact ⟨rfl, hB⟩
          · have hm := condF hb103 hm
            rewrite [hb103]
            refine wS_pure 1 [(28, .pointer (some ⟨b5, 3, none⟩))] (by kernel_rfl) ?_
            refine wS_load1 (d := 29) (T := 25) (ad := ⟨b5, 3, none⟩) (v := .slice A0_3 (l0_3).length cap0_3) (by kernel_rfl) vt25 ((F88).cell 3) ?_
            refine wS_pure 1 [(30, .int .i64 (x82))] (by kernel_rfl) ?_
            obtain ⟨x105, hx106, hm⟩ := bindE hm
            refine wS_idx (d := 31) (T := 25) (A := A0_3) (n := (l0_3).length) (cap := cap0_3) (kd := .i64) (m := x82) (by kernel_rfl) sl25 (F86.is hx106) ?_
            refine wS_load1 (d := 32) (T := 2) (ad := (elA A0_3 1 (x82) 0)) (v := .int .i64 (x105)) (by kernel_rfl) vt2 (Sl.cell F86 hx106 0 (by rfl)) ?_
            refine wS_pure 2 [(34, .bool (decide (x105 ≥ 0))), (33, .bool (decide (x105 ≥ 0)))] (by kernel_rfl) ?_
            refine wS_bool (decide (x105 ≥ 0)) (fun hb107 => ?_) (fun hb107 => ?_)
            · have hm := condT hb107 hm
              rewrite [hb107]
              refine wS_pure 1 [(35, .pointer (some ⟨b5, 3, none⟩))] (by kernel_rfl) ?_
              refine wS_load1 (d := 36) (T := 25) (ad := ⟨b5, 3, none⟩) (v := .slice A0_3 (l0_3).length cap0_3) (by kernel_rfl) vt25 ((F88).cell 3) ?_
              refine wS_pure 1 [(37, .int .i64 (x82))] (by kernel_rfl) ?_
              obtain ⟨x108, hx109, hm⟩ := bindE hm
              refine wS_idx (d := 38) (T := 25) (A := A0_3) (n := (l0_3).length) (cap := cap0_3) (kd := .i64) (m := x82) (by kernel_rfl) sl25 (F86.is hx109) ?_
              refine wS_load1 (d := 39) (T := 2) (ad := (elA A0_3 1 (x82) 0)) (v := .int .i64 (x108)) (by kernel_rfl) vt2 (Sl.cell F86 hx109 0 (by rfl)) ?_
              refine wS_pure 4 [(43, .bool (x108 != x97)), (42, .bool (x108 != x97)), (41, .bool (x108 != x97)), (40, .int .i64 (x97))] (by kernel_rfl) ?_
              refine wS_end (by rfl) ?_
              refine eX_then ?_
              refine cW_prune [(2, .pointer (some ⟨b5, 0, none⟩)), (3, .pointer (some ⟨b11, 0, none⟩)), (17, .slice A1 (l1).length cap1), (18, .int .i64 (((l1).length : Int))), (19, .int .i64 (x82)), (43, .bool (x108 != x97))] (by kernel_rfl) (by kernel_rfl) (fun a110 => ?_)
              refine cW_cond (t := x108 != x97) (by kernel_rfl) (fun hb111 => ?_) (fun hb111 => ?_)
              · have hm := condT hb111 hm
                refine cW_seq ?_
                refine cW_region ?_
                refine wS_pure 1 [(4, .bool (false))] (by kernel_rfl) ?_
                refine wS_end (by rfl) ?_
                refine eX_then ?_
                refine cW_ret ?_
                refine eX_block_ret ?_
                refine eX_then_ret ?_
                have hq : (some (Ctl.out (Sum.inr false)) : Option (Ctl (Int) (Sum (Unit) ((Bool))))) = some _ := hm
                replace hq := someE hq
                subst hq
                refine eX_outR hx95 (fun hr => ?_)
                subst hr
                refine eX_block_ret ?_
                refine eX_then_ret ?_
                refine eX_then_ret ?_
                have hq : (some false : Option ((Bool))) = some _ := hm92
                replace hq := someE hq
                subst hq
                refine eX_ret (vs := [.bool (false)]) [.tmp 4] (by rfl) ⟨by (show lkE _ _ _ = _); kernel_rfl, trivial⟩ ?_
                exact ⟨rfl, hB⟩
              · have hm := condF hb111 hm
                refine cW_skip ?_
                refine eX_block ?_
                refine eX_then ?_
                refine cW_region ?_
                refine wS_pure 2 [(19, .int .i64 (wr (x82 + 1))), (44, .int .i64 (wr (x82 + 1)))] (by kernel_rfl) ?_
                refine wS_end (by rfl) ?_
                have hq : (some (Ctl.next (wr (x82 + 1))) : Option (Ctl (Int) (Sum (Unit) ((Bool))))) = some _ := hm
                replace hq := someE hq
                subst hq
                exact eX_next hx95 (fun hst => ⟨wr (x82 + 1), rfl, Fr.of hst (by kernel_rfl), F84, F85, F86, F87, F88, F89, hB, hZ⟩)
            · have hm := condF hb107 hm
              rewrite [hb107]
              refine wS_pure 9 [(43, .bool (false)), (42, .bool (false)), (41, undef), (40, undef), (39, undef), (38, undef), (37, undef), (36, undef), (35, undef)] (by kernel_rfl) ?_
              refine wS_end (by rfl) ?_
              refine eX_then ?_
              refine cW_prune [(2, .pointer (some ⟨b5, 0, none⟩)), (3, .pointer (some ⟨b11, 0, none⟩)), (17, .slice A1 (l1).length cap1), (18, .int .i64 (((l1).length : Int))), (19, .int .i64 (x82)), (43, .bool (false))] (by kernel_rfl) (by kernel_rfl) (fun a112 => ?_)
              refine cW_cond_f (by kernel_rfl) ?_
              refine cW_skip ?_
              refine eX_block ?_
              refine eX_then ?_
              refine cW_region ?_
              refine wS_pure 2 [(19, .int .i64 (wr (x82 + 1))), (44, .int .i64 (wr (x82 + 1)))] (by kernel_rfl) ?_
              refine wS_end (by rfl) ?_
              have hq : (some (Ctl.next (wr (x82 + 1))) : Option (Ctl (Int) (Sum (Unit) ((Bool))))) = some _ := hm
              replace hq := someE hq
              subst hq
              exact eX_next hx95 (fun hst => ⟨wr (x82 + 1), rfl, Fr.of hst (by kernel_rfl), F84, F85, F86, F87, F88, F89, hB, hZ⟩)
        · have hm := condF hb96 hm
          refine cW_exit ?_
          refine eX_then_exit ?_
          have hq : (some (Ctl.out (Sum.inl (()))) : Option (Ctl (Int) (Sum (Unit) ((Bool))))) = some _ := hm
          replace hq := someE hq
          subst hq
          refine eX_outX hx95 (fun hr113 => ?_)
          replace hr113 := hr113.symm
          subst hr113
          refine eX_block_hit ?_
          exact eX_J (fun hst => ⟨rfl, Fr.of hst (by kernel_rfl), F84, F85, F86, F87, F88, F89, hB, hZ⟩)
      · rintro a' w73 ⟨hJ, hF74, F75, F76, F77, F78, F79, F80, hB, hZ⟩
        subst hJ
        refine Fr.goX hF74 (by kernel_rfl) ?_
        refine eX_then ?_
        refine cW_seq ?_
        refine cW_region ?_
        refine wS_pure 1 [(45, .pointer (some ⟨b5, 1, none⟩))] (by kernel_rfl) ?_
        refine wS_load1 (d := 46) (T := 24) (ad := ⟨b5, 1, none⟩) (v := .slice A0_1 (l0_1).length cap0_1) (by kernel_rfl) vt24 ((F79).cell 1) ?_
        refine wS_pure 1 [(47, .func (.func 66) #[] #[.pointer (some ⟨b11, 0, none⟩)])] (by kernel_rfl) ?_
        obtain ⟨y114, hy115, hm⟩ := bindE hm
        refine wS_calls (d := 48) (f := 59) (vs := [.slice A0_1 (l0_1).length cap0_1, .func (.func 66) #[] #[.pointer (some ⟨b11, 0, none⟩)]]) (by kernel_rfl) ent59 (c_slices_ContainsFunc_int64_int64_impl_IsLayering_1_bint64 hy115 F75 F78 F80) ?_
        rintro _ w116 ⟨rfl, hc117⟩
        replace F75 := F75.chg hc117 Dj.nil
        replace F76 := F76.chg hc117 Dj.nil
        replace F77 := F77.chg hc117 Dj.nil
        replace F78 := F78.chg hc117 Dj.nil
        replace F79 := F79.chg hc117 notNil
        replace F80 := F80.chg hc117 notNil
        replace hB := hB.inS hc117 inNil
        replace hZ := Nat.le_trans hZ hc117.size
        refine ⟨.bool (y114), rfl, ?_⟩
        refine wS_pure 2 [(4, .bool (!y114)), (49, .bool (!y114))] (by kernel_rfl) ?_
        refine wS_end (by rfl) ?_
        refine eX_then ?_
        refine cW_ret ?_
        have hq : (some (!y114) : Option ((Bool))) = some _ := hm
        replace hq := someE hq
        subst hq
        refine eX_ret (vs := [.bool (!y114)]) [.tmp 4] (by rfl) ⟨by (show lkE _ _ _ = _); kernel_rfl, trivial⟩ ?_
        exact ⟨rfl, hB⟩

set_option maxRecDepth 100000 in
/-- slices.Clone[[]int64,int64] -/
theorem c_slices_Clone_int64_int64 {w0 : World} {l0 : List (Int)} {A0 : Option Addr} {cap0 : Nat} {fp0 : List Nat} {r : (List (Int))} (hm : m_slices_Clone_int64_int64 l0 = some r) (F0 : Sl 1 encI w0 fp0 A0 l0) :
    Calls Try.prog 89 #[.slice A0 (l0).length cap0] w0 fun e w' => ∃ A100 cap100 fp100, e = .returned (.slice A100 (r).length cap100) ∧ Ow 1 encI 2 w' fp100 A100 cap100 r ∧ (∀ x ∈ fp100, w0.heap.size ≤ x) ∧ Chg [] w0 w' := by
  have L0 := F0.low
  have hB : Chg [] w0 w0 := Chg.refl _ _
  have hZ := Nat.le_refl w0.heap.size
  unfold m_slices_Clone_int64_int64 at hm
  refine enterE (N := 8) Try.func89 (by rfl) Try.ntmps89 (by simp) [(0, .slice A0 (l0).length cap0)] (by rfl) (by kernel_rfl) (fun a => ?_)
  refine cW_seq ?_
  refine cW_region ?_
  refine wS_pure 1 [(2, .slice none 0 0)] (by kernel_rfl) ?_
  refine wS_end (by rfl) ?_
  refine eX_then ?_
  refine cW_seq ?_
  refine cW_seq ?_
  refine cW_region ?_
  refine wS_pure 1 [(3, .slice A0 (l0).length cap0)] (by kernel_rfl) ?_
  rcases A0 with _ | ad2
  · have hl3 := F0.none_nil
    subst hl3
    replace hm : (some ([])) = some _ := Eq.trans (by kernel_rfl) hm
    refine wS_pure 1 [(4, .bool (true))] (by kernel_rfl) ?_
    refine wS_end (by rfl) ?_
    refine eX_then ?_
    refine cW_cond_t (by kernel_rfl) ?_
    refine cW_seq ?_
    refine cW_region ?_
    refine wS_pure 1 [(2, .slice none 0 0)] (by kernel_rfl) ?_
    refine wS_end (by rfl) ?_
    refine eX_then ?_
    refine cW_ret ?_
    refine eX_then_ret ?_
    have hq : (some ([]) : Option ((List (Int)))) = some _ := hm
    replace hq := someE hq
    subst hq
    refine eX_ret (vs := [.slice none 0 0]) [.tmp 2] (by rfl) ⟨by (show lkE _ _ _ = _); kernel_rfl, trivial⟩ ?_
    exact ⟨none, 0, [], rfl, Ow.nil _, lowNil, hB⟩
  · skip
    refine wS_pure 1 [(4, .bool (false))] (by kernel_rfl) ?_
    refine wS_end (by rfl) ?_
    refine eX_then ?_
    refine cW_cond_f (by kernel_rfl) ?_
    refine cW_skip ?_
    refine eX_then ?_
    refine cW_seq ?_
    refine cW_region ?_
    refine wS_bs0 (α := Int) (enc := encI) (d := 5) (t := 25) (T := 2) (by kernel_rfl) el25 ?_
    intro b4 w5 G6 F7 hc8
    replace F0 := F0.chg hc8 Dj.nil
    replace hB := hB.inS hc8 inNil
    replace G6 := Nat.le_trans hZ G6
    replace G6 := low1 G6
    replace hZ := Nat.le_trans hZ hc8.size
    refine wS_pure 1 [(6, .slice (some ad2) (l0).length cap0)] (by kernel_rfl) ?_
    obtain ⟨_, hk10, hm⟩ := bindE hm
    replace hk10 := apE hk10
    refine wS_appendAny (enc := encI) (l := (([] : List (Int)) : List (Int))) (l2 := (l0 : List (Int))) (d := 7) (t := 25) (T := 2) (A := (some ⟨b4, 0, none⟩)) (A2 := (some ad2)) (cap := 0) (cap2 := cap0) (by kernel_rfl) el25 encI_ok F7 F0 hk10 ?_
    intro w11 fp12 A13 cap14 F15 hc16 hp17
    have G19 := low_ap G6 hZ hp17
    replace F0 := F0.chg hc16 (Dj.of L0 G6)
    replace hB := hB.inS hc16 (inLow G6)
    replace hZ := Nat.le_trans hZ hc16.size
    refine wS_pure 1 [(2, .slice A13 ((([] : List (Int))) ++ l0).length cap14)] (by kernel_rfl) ?_
    refine wS_end (by rfl) ?_
    refine eX_then ?_
    refine cW_ret ?_
    have hq : (some ((([] : List (Int))) ++ l0) : Option ((List (Int)))) = some _ := hm
    replace hq := someE hq
    subst hq
    refine eX_ret (vs := [.slice A13 ((([] : List (Int))) ++ l0).length cap14]) [.tmp 2] (by rfl) ⟨by (show lkE _ _ _ = _); kernel_rfl, trivial⟩ ?_
    exact ⟨A13, cap14, fp12, rfl, F15, G19, hB⟩

set_option maxRecDepth 100000 in
/-- laws.eqInt64S -/
theorem c_laws_eqInt64S {w0 : World} {l0 : List (Int)} {A0 : Option Addr} {cap0 : Nat} {fp0 : List Nat} {l1 : List (Int)} {A1 : Option Addr} {cap1 : Nat} {fp1 : List Nat} {r : (Bool)} (hm : m_laws_eqInt64S l0 l1 = some r) (F0 : Sl 1 encI w0 fp0 A0 l0) (F1 : Sl 1 encI w0 fp1 A1 l1) :
    Calls Try.prog 42 #[.slice A0 (l0).length cap0, .slice A1 (l1).length cap1] w0 fun e w' => e = .returned (.bool (r)) ∧ Chg [] w0 w' := by
  have L0 := F0.low
  have L1 := F1.low
  have hB : Chg [] w0 w0 := Chg.refl _ _
  have hZ := Nat.le_refl w0.heap.size
  unfold m_laws_eqInt64S at hm
  refine enterE (N := 26) Try.func42 (by rfl) Try.ntmps42 (by simp) [(0, .slice A0 (l0).length cap0), (1, .slice A1 (l1).length cap1)] (by rfl) (by kernel_rfl) (fun a => ?_)
  refine cW_seq ?_
  refine cW_region ?_
  refine wS_pure 1 [(4, .bool (false))] (by kernel_rfl) ?_
  refine wS_end (by rfl) ?_
  refine eX_then ?_
  refine cW_seq ?_
  refine cW_seq ?_
  refine cW_region ?_
  refine wS_pure 5 [(10, .bool ((((l0).length : Int)) != (((l1).length : Int)))), (9, .int .i64 (((l1).length : Int))), (8, .slice A1 (l1).length cap1), (7, .int .i64 (((l0).length : Int))), (6, .slice A0 (l0).length cap0)] (by kernel_rfl) ?_
  refine wS_end (by rfl) ?_
  refine eX_then ?_
  refine cW_cond (t := (((l0).length : Int)) != (((l1).length : Int))) (by kernel_rfl) (fun hb3 => ?_) (fun hb3 => ?_)
  · have hm := condT hb3 hm
    refine cW_seq ?_
    refine cW_region ?_
    refine wS_pure 1 [(4, .bool (false))] (by kernel_rfl) ?_
    refine wS_end (by rfl) ?_
    refine eX_then ?_
    refine cW_ret ?_
    refine eX_then_ret ?_
    have hq : (some false : Option ((Bool))) = some _ := hm
    replace hq := someE hq
    subst hq
    refine eX_ret (vs := [.bool (false)]) [.tmp 4] (by rfl) ⟨by (show lkE _ _ _ = _); kernel_rfl, trivial⟩ ?_
    exact ⟨rfl, hB⟩
  · have hm := condF hb3 hm
    refine cW_skip ?_
    refine eX_then ?_
    refine cW_seq ?_
    refine cW_seq ?_
    refine cW_region ?_
    refine wS_pure 1 [(5, .int .i64 (0))] (by kernel_rfl) ?_
    refine wS_end (by rfl) ?_
    refine eX_then ?_
    obtain ⟨r54, hr55, hm⟩ := bindE hm
    have hm56 := hm
    refine cW_cut (fun a' w' => Sum.inl (()) = r54 ∧ Fr 26 [] a' ∧ Chg [] w0 w' ∧ w0.heap.size ≤ w'.heap.size) ?_ ?_
    · refine cW_block ?_
      refine cW_loop _ (fun (s57 : Int) a' w' => ∃ x50 : Int, x50 = s57 ∧ Fr 26 [(0, .slice A0 (l0).length cap0), (1, .slice A1 (l1).length cap1), (5, .int .i64 (x50))] a' ∧ Sl 1 encI w' fp0 A0 l0 ∧ Sl 1 encI w' fp1 A1 l1 ∧ Chg [] w0 w' ∧ w0.heap.size ≤ w'.heap.size) hr55 (fun hst => ⟨0, rfl, Fr.of hst (by kernel_rfl), F0, F1, hB, hZ⟩) ?_
      rintro _ c58 a' w49 ⟨x50, rfl, hF51, F52, F53, hB, hZ⟩ hx59
      refine Fr.goOn hF51 (by kernel_rfl) ?_
      have hm := hx59
      unfold m_laws_eqInt64S_s1 at hm
      refine cW_seq ?_
      refine cW_seq ?_
      refine cW_region ?_
      refine wS_pure 4 [(14, .bool (decide (x50 < (((l0).length : Int))))), (13, .int .i64 (((l0).length : Int))), (12, .slice A0 (l0).length cap0), (11, .int .i64 (x50))] (by kernel_rfl) ?_
      refine wS_end (by rfl) ?_
      refine eX_then ?_
      refine cW_cond (t := decide (x50 < (((l0).length : Int)))) (by kernel_rfl) (fun hb60 => ?_) (fun hb60 => ?_)
      · have hm := condT hb60 hm
        refine cW_skip ?_
        refine eX_then ?_
        refine cW_seq ?_
        refine cW_block ?_
        refine cW_seq ?_
        refine cW_drawnTail [] 8 (by kernel_rfl) (by kernel_rfl) (fun w69 hc70 => ?_)
        replace F52 := F52.chg hc70 Dj.nil
        replace F53 := F53.chg hc70 Dj.nil
        replace hB := hB.inS hc70 inNil
        replace hZ := Nat.le_trans hZ hc70.size
        have hS := Chg.refl [] w69
        have Z71 := F52
        have Z72 := F53
        refine wH_take [0, 1] [1, 0] [(18, .int .i64 (x50)), (17, .slice A0 (l0).length cap0)] (by kernel_rfl) (qT (qT (qB (qT (qL (qB (qT (qT qZ)))))))) (by kernel_rfl) ?_
        obtain ⟨x73, hx74, hm⟩ := bindE hm
        refine wH_idx (i := 2) (d := 19) (T := 25) (A := A0) (n := (l0).length) (cap := cap0) (kd := .i64) (m := x50) (by kernel_rfl) (qT (qT (qB (qT (qL (qB (qT (qT qZ)))))))) (by kernel_rfl) (by kernel_rfl) sl25 (F52.is hx74) ?_
        refine wH_load1 (i := 3) (d := 20) (T := 2) (ad := (elA A0 1 (x50) 0)) (v := .int .i64 (x73)) (by kernel_rfl) (qT (qT (qB (qT (qL (qB (qT (qT qZ)))))))) (by kernel_rfl) (by kernel_rfl) vt2 (fun W hW => Sl.cell (Z71.chg hW Dj.nil) hx74 0 (by rfl)) ?_
        refine wH_take [4, 5] [5, 4, 3, 2, 1, 0] [(22, .int .i64 (x50)), (21, .slice A1 (l1).length cap1)] (by kernel_rfl) (qT (qT (qB (qT (qL (qB (qT (qT qZ)))))))) (by kernel_rfl) ?_
        obtain ⟨x75, hx76, hm⟩ := bindE hm
        refine wH_idx (i := 6) (d := 23) (T := 25) (A := A1) (n := (l1).length) (cap := cap1) (kd := .i64) (m := x50) (by kernel_rfl) (qT (qT (qB (qT (qL (qB (qT (qT qZ)))))))) (by kernel_rfl) (by kernel_rfl) sl25 (F53.is hx76) ?_
        refine wH_load1 (i := 7) (d := 24) (T := 2) (ad := (elA A1 1 (x50) 0)) (v := .int .i64 (x75)) (by kernel_rfl) (qT (qT (qB (qT (qL (qB (qT (qT qZ)))))))) (by kernel_rfl) (by kernel_rfl) vt2 (fun W hW => Sl.cell (Z72.chg hW Dj.nil) hx76 0 (by rfl)) ?_
        refine wH_done (by kernel_rfl) ?_
        refine eX_tail ?_
        refine wS_pure 1 [(25, .bool (x73 != x75))] (by kernel_rfl) ?_
        refine wS_end (by rfl) ?_
        refine eX_then ?_
        refine cW_cond (t := x73 != x75) (by kernel_rfl) (fun hb77 => ?_) (fun hb77 => ?_)
        · have hm := condT hb77 hm
          refine cW_seq ?_
          refine cW_region ?_
          refine wS_pure 1 [(4, .bool (false))] (by kernel_rfl) ?_
          refine wS_end (by rfl) ?_
          refine eX_then ?_
          refine cW_ret ?_
          refine eX_block_ret ?_
          refine eX_then_ret ?_
          have hq : (some (Ctl.out (Sum.inr false)) : Option (Ctl (Int) (Sum (Unit) ((Bool))))) = some _ := hm
          replace hq := someE hq
          subst hq
          refine eX_outR hx59 (fun hr => ?_)
          subst hr
          refine eX_block_ret ?_
          refine eX_then_ret ?_
          refine eX_then_ret ?_
          have hq : (some false : Option ((Bool))) = some _ := hm56
          replace hq := someE hq
          subst hq
          refine eX_ret (vs := [.bool (false)]) [.tmp 4] (by rfl) ⟨by (show lkE _ _ _ = _); kernel_rfl, trivial⟩ ?_
          exact ⟨rfl, hB⟩
        · have hm := condF hb77 hm
          refine cW_skip ?_
          refine eX_block ?_
          refine eX_then ?_
          refine cW_region ?_
          refine wS_pure 3 [(5, .int .i64 (wr (x50 + 1))), (16, .int .i64 (wr (x50 + 1))), (15, .int .i64 (x50))] (by kernel_rfl) ?_
          refine wS_end (by rfl) ?_
          have hq : (some (Ctl.next (wr (x50 + 1))) : Option (Ctl (Int) (Sum (Unit) ((Bool))))) = some _ := hm
          replace hq := someE hq
          subst hq
          exact eX_next hx59 (fun hst => ⟨wr (x50 + 1), rfl, Fr.of hst (by kernel_rfl), F52, F53, hB, hZ⟩)
      · have hm := condF hb60 hm
        refine cW_exit ?_
        refine eX_then_exit ?_
        have hq : (some (Ctl.out (Sum.inl (()))) : Option (Ctl (Int) (Sum (Unit) ((Bool))))) = some _ := hm
        replace hq := someE hq
        subst hq
        refine eX_outX hx59 (fun hr78 => ?_)
        replace hr78 := hr78.symm
        subst hr78
        refine eX_block_hit ?_
        exact eX_J (fun hst => ⟨rfl, Fr.of hst (by kernel_rfl), hB, hZ⟩)
    · rintro a' w47 ⟨hJ, hF48, hB, hZ⟩
      subst hJ
      refine Fr.goX hF48 (by kernel_rfl) ?_
      refine eX_then ?_
      refine cW_seq ?_
      refine cW_region ?_
      refine wS_pure 1 [(4, .bool (true))] (by kernel_rfl) ?_
      refine wS_end (by rfl) ?_
      refine eX_then ?_
      refine cW_ret ?_
      have hq : (some true : Option ((Bool))) = some _ := hm
      replace hq := someE hq
      subst hq
      refine eX_ret (vs := [.bool (true)]) [.tmp 4] (by rfl) ⟨by (show lkE _ _ _ = _); kernel_rfl, trivial⟩ ?_
      exact ⟨rfl, hB⟩

set_option maxRecDepth 100000 in
/-- laws.eqInt64SS -/
theorem c_laws_eqInt64SS {w0 : World} {l0 : List (List (Int))} {A0 : Option Addr} {cap0 : Nat} {fp0 : List Nat} {l1 : List (List (Int))} {A1 : Option Addr} {cap1 : Nat} {fp1 : List Nat} {r : (Bool)} (hm : m_laws_eqInt64SS l0 l1 = some r) (F0 : SlR 1 encI w0 fp0 A0 l0) (F1 : SlR 1 encI w0 fp1 A1 l1) :
    Calls Try.prog 32 #[.slice A0 (l0).length cap0, .slice A1 (l1).length cap1] w0 fun e w' => e = .returned (.bool (r)) ∧ Chg [] w0 w' := by
  have L0 := F0.low
  have L1 := F1.low
  have hB : Chg [] w0 w0 := Chg.refl _ _
  have hZ := Nat.le_refl w0.heap.size
  unfold m_laws_eqInt64SS at hm
  refine enterE (N := 27) Try.func32 (by rfl) Try.ntmps32 (by simp) [(0, .slice A0 (l0).length cap0), (1, .slice A1 (l1).length cap1)] (by rfl) (by kernel_rfl) (fun a => ?_)
  refine cW_seq ?_
  refine cW_region ?_
  refine wS_pure 1 [(4, .bool (false))] (by kernel_rfl) ?_
  refine wS_end (by rfl) ?_
  refine eX_then ?_
  refine cW_seq ?_
  refine cW_seq ?_
  refine cW_region ?_
  refine wS_pure 5 [(10, .bool ((((l0).length : Int)) != (((l1).length : Int)))), (9, .int .i64 (((l1).length : Int))), (8, .slice A1 (l1).length cap1), (7, .int .i64 (((l0).length : Int))), (6, .slice A0 (l0).length cap0)] (by kernel_rfl) ?_
  refine wS_end (by rfl) ?_
  refine eX_then ?_
  refine cW_cond (t := (((l0).length : Int)) != (((l1).length : Int))) (by kernel_rfl) (fun hb3 => ?_) (fun hb3 => ?_)
  · have hm := condT hb3 hm
    refine cW_seq ?_
    refine cW_region ?_
    refine wS_pure 1 [(4, .bool (false))] (by kernel_rfl) ?_
    refine wS_end (by rfl) ?_
    refine eX_then ?_
    refine cW_ret ?_
    refine eX_then_ret ?_
    have hq : (some false : Option ((Bool))) = some _ := hm
    replace hq := someE hq
    subst hq
    refine eX_ret (vs := [.bool (false)]) [.tmp 4] (by rfl) ⟨by (show lkE _ _ _ = _); kernel_rfl, trivial⟩ ?_
    exact ⟨rfl, hB⟩
  · have hm := condF hb3 hm
    refine cW_skip ?_
    refine eX_then ?_
    refine cW_seq ?_
    refine cW_seq ?_
    refine cW_region ?_
    refine wS_pure 1 [(5, .int .i64 (0))] (by kernel_rfl) ?_
    refine wS_end (by rfl) ?_
    refine eX_then ?_
    obtain ⟨r118, hr119, hm⟩ := bindE hm
    have hm120 := hm
    refine cW_cut (fun a' w' => Sum.inl (()) = r118 ∧ Fr 27 [] a' ∧ Chg [] w0 w' ∧ w0.heap.size ≤ w'.heap.size) ?_ ?_
    · refine cW_block ?_
      refine cW_loop _ (fun (s121 : Int) a' w' => ∃ x114 : Int, x114 = s121 ∧ Fr 27 [(0, .slice A0 (l0).length cap0), (1, .slice A1 (l1).length cap1), (5, .int .i64 (x114))] a' ∧ SlR 1 encI w' fp0 A0 l0 ∧ SlR 1 encI w' fp1 A1 l1 ∧ Chg [] w0 w' ∧ w0.heap.size ≤ w'.heap.size) hr119 (fun hst => ⟨0, rfl, Fr.of hst (by kernel_rfl), F0, F1, hB, hZ⟩) ?_
      rintro _ c122 a' w113 ⟨x114, rfl, hF115, F116, F117, hB, hZ⟩ hx123
      refine Fr.goOn hF115 (by kernel_rfl) ?_
      have hm := hx123
      unfold m_laws_eqInt64SS_s1 at hm
      refine cW_seq ?_
      refine cW_seq ?_
      refine cW_region ?_
      refine wS_pure 4 [(14, .bool (decide (x114 < (((l0).length : Int))))), (13, .int .i64 (((l0).length : Int))), (12, .slice A0 (l0).length cap0), (11, .int .i64 (x114))] (by kernel_rfl) ?_
      refine wS_end (by rfl) ?_
      refine eX_then ?_
      refine cW_cond (t := decide (x114 < (((l0).length : Int)))) (by kernel_rfl) (fun hb124 => ?_) (fun hb124 => ?_)
      · have hm := condT hb124 hm
        refine cW_skip ?_
        refine eX_then ?_
        refine cW_seq ?_
        refine cW_block ?_
        refine cW_seq ?_
        refine cW_drawnTail [] 8 (by kernel_rfl) (by kernel_rfl) (fun w149 hc150 => ?_)
        replace F116 := F116.chg hc150 Dj.nil
        replace F117 := F117.chg hc150 Dj.nil
        replace hB := hB.inS hc150 inNil
        replace hZ := Nat.le_trans hZ hc150.size
        have hS := Chg.refl [] w149
        have Z151 := F116
        have Z152 := F117
        refine wH_take [0, 1] [1, 0] [(18, .int .i64 (x114)), (17, .slice A0 (l0).length cap0)] (by kernel_rfl) (qT (qT (qB (qT (qL (qB (qT (qT qZ)))))))) (by kernel_rfl) ?_
        obtain ⟨x153, hx154, hm⟩ := bindE hm
        refine wH_idx (i := 2) (d := 19) (T := 24) (A := A0) (n := (l0).length) (cap := cap0) (kd := .i64) (m := x114) (by kernel_rfl) (qT (qT (qB (qT (qL (qB (qT (qT qZ)))))))) (by kernel_rfl) (by kernel_rfl) sl24 (F116.is hx154) ?_
        obtain ⟨A155, cap156, hc158, F157, K159⟩ := SlR.row Z151 hx154
        refine wH_load1 (i := 3) (d := 20) (T := 25) (ad := (elA A0 1 (x114) 0)) (v := .slice A155 (x153).length cap156) (by kernel_rfl) (qT (qT (qB (qT (qL (qB (qT (qT qZ)))))))) (by kernel_rfl) (by kernel_rfl) vt25 (fun W hW => hW.keep hc158) ?_
        refine wH_take [4, 5] [5, 4, 3, 2, 1, 0] [(22, .int .i64 (x114)), (21, .slice A1 (l1).length cap1)] (by kernel_rfl) (qT (qT (qB (qT (qL (qB (qT (qT qZ)))))))) (by kernel_rfl) ?_
        obtain ⟨x161, hx162, hm⟩ := bindE hm
        refine wH_idx (i := 6) (d := 23) (T := 24) (A := A1) (n := (l1).length) (cap := cap1) (kd := .i64) (m := x114) (by kernel_rfl) (qT (qT (qB (qT (qL (qB (qT (qT qZ)))))))) (by kernel_rfl) (by kernel_rfl) sl24 (F117.is hx162) ?_
        obtain ⟨A163, cap164, hc166, F165, K167⟩ := SlR.row Z152 hx162
        refine wH_load1 (i := 7) (d := 24) (T := 25) (ad := (elA A1 1 (x114) 0)) (v := .slice A163 (x161).length cap164) (by kernel_rfl) (qT (qT (qB (qT (qL (qB (qT (qT qZ)))))))) (by kernel_rfl) (by kernel_rfl) vt25 (fun W hW => hW.keep hc166) ?_
        refine wH_done (by kernel_rfl) ?_
        refine eX_tail ?_
        obtain ⟨y169, hy170, hm⟩ := bindE hm
        refine wS_calls (d := 25) (f := 42) (vs := [.slice A155 (x153).length cap156, .slice A163 (x161).length cap164]) (by kernel_rfl) ent42 (c_laws_eqInt64S hy170 F157 F165) ?_
        rintro _ w171 ⟨rfl, hc172⟩
        replace F116 := F116.chg hc172 Dj.nil
        replace F117 := F117.chg hc172 Dj.nil
        replace F157 := F157.chg hc172 Dj.nil
        replace F165 := F165.chg hc172 Dj.nil
        replace hB := hB.inS hc172 inNil
        replace hZ := Nat.le_trans hZ hc172.size
        refine ⟨.bool (y169), rfl, ?_⟩
        refine wS_pure 1 [(26, .bool (!y169))] (by kernel_rfl) ?_
        refine wS_end (by rfl) ?_
        refine eX_then ?_
        refine cW_cond (t := !y169) (by kernel_rfl) (fun hb173 => ?_) (fun hb173 => ?_)
        · have hm := condT hb173 hm
          refine cW_seq ?_
          refine cW_region ?_
          refine wS_pure 1 [(4, .bool (false))] (by kernel_rfl) ?_
          refine wS_end (by rfl) ?_
          refine eX_then ?_
          refine cW_ret ?_
          refine eX_block_ret ?_
          refine eX_then_ret ?_
          have hq : (some (Ctl.out (Sum.inr false)) : Option (Ctl (Int) (Sum (Unit) ((Bool))))) = some _ := hm
          replace hq := someE hq
          subst hq
          refine eX_outR hx123 (fun hr => ?_)
          subst hr
          refine eX_block_ret ?_
          refine eX_then_ret ?_
          refine eX_then_ret ?_
          have hq : (some false : Option ((Bool))) = some _ := hm120
          replace hq := someE hq
          subst hq
          refine eX_ret (vs := [.bool (false)]) [.tmp 4] (by rfl) ⟨by (show lkE _ _ _ = _); kernel_rfl, trivial⟩ ?_
          exact ⟨rfl, hB⟩
        · have hm := condF hb173 hm
          refine cW_skip ?_
          refine eX_block ?_
          refine eX_then ?_
          refine cW_region ?_
          refine wS_pure 3 [(5, .int .i64 (wr (x114 + 1))), (16, .int .i64 (wr (x114 + 1))), (15, .int .i64 (x114))] (by kernel_rfl) ?_
          refine wS_end (by rfl) ?_
          have hq : (some (Ctl.next (wr (x114 + 1))) : Option (Ctl (Int) (Sum (Unit) ((Bool))))) = some _ := hm
          replace hq := someE hq
          subst hq
          exact eX_next hx123 (fun hst => ⟨wr (x114 + 1), rfl, Fr.of hst (by kernel_rfl), F116, F117, hB, hZ⟩)
      · have hm := condF hb124 hm
        refine cW_exit ?_
        refine eX_then_exit ?_
        have hq : (some (Ctl.out (Sum.inl (()))) : Option (Ctl (Int) (Sum (Unit) ((Bool))))) = some _ := hm
        replace hq := someE hq
        subst hq
        refine eX_outX hx123 (fun hr174 => ?_)
        replace hr174 := hr174.symm
        subst hr174
        refine eX_block_hit ?_
        exact eX_J (fun hst => ⟨rfl, Fr.of hst (by kernel_rfl), hB, hZ⟩)
    · rintro a' w111 ⟨hJ, hF112, hB, hZ⟩
      subst hJ
      refine Fr.goX hF112 (by kernel_rfl) ?_
      refine eX_then ?_
      refine cW_seq ?_
      refine cW_region ?_
      refine wS_pure 1 [(4, .bool (true))] (by kernel_rfl) ?_
      refine wS_end (by rfl) ?_
      refine eX_then ?_
      refine cW_ret ?_
      have hq : (some true : Option ((Bool))) = some _ := hm
      replace hq := someE hq
      subst hq
      refine eX_ret (vs := [.bool (true)]) [.tmp 4] (by rfl) ⟨by (show lkE _ _ _ = _); kernel_rfl, trivial⟩ ?_
      exact ⟨rfl, hB⟩

set_option maxRecDepth 100000 in
/-- laws.markInt64S -/
theorem c_laws_markInt64S {w0 : World} {l0 : List (Int)} {A0 : Option Addr} {cap0 : Nat} {fp0 : List Nat} {p1 : Int} {r : (Int) × (List (Int))} (hm : m_laws_markInt64S l0 p1 = some r) (F0 : Ow 1 encI 2 w0 fp0 A0 cap0 l0) :
    Calls Try.prog 44 #[.slice A0 (l0).length cap0, .int .i64 (p1)] w0 fun e w' => e = .returned (.int .i64 (r.1)) ∧ Ow 1 encI 2 w' fp0 A0 cap0 r.2 ∧ (r.2).length = (l0).length ∧ Chg (fp0 ++ []) w0 w' := by
  have L0 := F0.low
  have hB : Chg (fp0 ++ []) w0 w0 := Chg.refl _ _
  have hZ := Nat.le_refl w0.heap.size
  unfold m_laws_markInt64S at hm
  refine enterE (N := 19) Try.func44 (by rfl) Try.ntmps44 (by simp) [(0, .slice A0 (l0).length cap0), (1, .int .i64 (p1))] (by rfl) (by kernel_rfl) (fun a => ?_)
  refine cW_seq ?_
  refine cW_region ?_
  refine wS_pure 1 [(4, .int .i64 (0))] (by kernel_rfl) ?_
  refine wS_end (by rfl) ?_
  refine eX_then ?_
  refine cW_seq ?_
  refine cW_seq ?_
  refine cW_region ?_
  refine wS_pure 1 [(5, .int .i64 (0))] (by kernel_rfl) ?_
  refine wS_end (by rfl) ?_
  refine eX_then ?_
  obtain ⟨r37, hr38, hm⟩ := bindE hm
  have hm39 := hm
  refine cW_cut (fun a' w' => ∃ x25 : Int, ∃ l26 : List (Int), (x25, l26) = r37 ∧ Fr 19 [(1, .int .i64 (x25))] a' ∧ Ow 1 encI 2 w' fp0 A0 cap0 l26 ∧ (l26).length = (l0).length ∧ Chg (fp0 ++ []) w0 w' ∧ w0.heap.size ≤ w'.heap.size) ?_ ?_
  · refine cW_block ?_
    refine cW_loop _ (fun (s40 : Int × Int × (List (Int))) a' w' => ∃ x31 : Int, ∃ x32 : Int, ∃ l33 : List (Int), (x31, x32, l33) = s40 ∧ Fr 19 [(0, .slice A0 (l33).length cap0), (1, .int .i64 (x31)), (5, .int .i64 (x32))] a' ∧ Ow 1 encI 2 w' fp0 A0 cap0 l33 ∧ (l33).length = (l0).length ∧ Chg (fp0 ++ []) w0 w' ∧ w0.heap.size ≤ w'.heap.size) hr38 (fun hst => ⟨p1, 0, l0, rfl, Fr.of hst (by kernel_rfl), F0, (Eq.refl (l0).length), hB, hZ⟩) ?_
    rintro _ c41 a' w30 ⟨x31, x32, l33, rfl, hF34, F35, hl36, hB, hZ⟩ hx42
    refine Fr.goOn hF34 (by kernel_rfl) ?_
    have hm := hx42
    unfold m_laws_markInt64S_s1 at hm
    refine cW_seq ?_
    refine cW_seq ?_
    refine cW_region ?_
    refine wS_pure 4 [(9, .bool (decide (x32 < (((l33).length : Int))))), (8, .int .i64 (((l33).length : Int))), (7, .slice A0 (l33).length cap0), (6, .int .i64 (x32))] (by kernel_rfl) ?_
    refine wS_end (by rfl) ?_
    refine eX_then ?_
    refine cW_cond (t := decide (x32 < (((l33).length : Int)))) (by kernel_rfl) (fun hb43 => ?_) (fun hb43 => ?_)
    · have hm := condT hb43 hm
      refine cW_skip ?_
      refine eX_then ?_
      refine cW_seq ?_
      refine cW_block ?_
      refine cW_seq ?_
      refine cW_region ?_
      refine wS_pure 3 [(14, .int .i64 (x31)), (13, .int .i64 (x32)), (12, .slice A0 (l33).length cap0)] (by kernel_rfl) ?_
      obtain ⟨x44, hx45, hm⟩ := bindE hm
      refine wS_idx (d := 15) (T := 25) (A := A0) (n := (l33).length) (cap := cap0) (kd := .i64) (m := x32) (by kernel_rfl) sl25 ((F35.sl encI_ok).is hx45) ?_
      refine wS_storeEl (x := x44) x31 (T := 2) (U := 2) (cap := cap0) (j := 0) (A := A0) (v := .int .i64 (x31)) (vs := [.int .i64 (x31)]) (m := x32) (by kernel_rfl) (by rfl) sz2 (by rfl) encI_ok F35 hx45 (by simp only [List.length_cons, List.length_nil]; omega) (by rfl) ?_
      intro w46 F47 hc48
      replace hB := hB.inS hc48 (inMem (fun x hx => (List.mem_append_left _ hx)))
      replace hZ := Nat.le_trans hZ hc48.size
      clear F35
      have hl49 := (show (l33.set (Int.toNat x32) x31).length = (l33).length from List.length_set ..).trans hl36
      rewrite [show (l33).length = (l33.set (Int.toNat x32) x31).length from (List.length_set ..).symm]
      refine wS_end (by rfl) ?_
      refine eX_then ?_
      refine cW_region ?_
      refine wS_pure 3 [(1, .int .i64 (wr (x31 + 1))), (17, .int .i64 (wr (x31 + 1))), (16, .int .i64 (x31))] (by kernel_rfl) ?_
      refine wS_end (by rfl) ?_
      refine eX_block ?_
      refine eX_then ?_
      refine cW_region ?_
      refine wS_pure 3 [(5, .int .i64 (wr (x32 + 1))), (11, .int .i64 (wr (x32 + 1))), (10, .int .i64 (x32))] (by kernel_rfl) ?_
      refine wS_end (by rfl) ?_
      have hq : (some (Ctl.next ((wr (x31 + 1), wr (x32 + 1), l33.set (Int.toNat x32) x31))) : Option (Ctl (Int × Int × (List (Int))) (Int × (List (Int))))) = some _ := hm
      replace hq := someE hq
      subst hq
      exact eX_next hx42 (fun hst => ⟨wr (x31 + 1), wr (x32 + 1), l33.set (Int.toNat x32) x31, rfl, Fr.of hst (by kernel_rfl), F47, hl49, hB, hZ⟩)
    · have hm := condF hb43 hm
      refine cW_exit ?_
      refine eX_then_exit ?_
      have hq : (some (Ctl.out ((x31, l33))) : Option (Ctl (Int × Int × (List (Int))) (Int × (List (Int))))) = some _ := hm
      replace hq := someE hq
      subst hq
      refine eX_outX hx42 (fun hr50 => ?_)
      replace hr50 := hr50.symm
      subst hr50
      refine eX_block_hit ?_
      exact eX_J (fun hst => ⟨x31, l33, rfl, Fr.of hst (by kernel_rfl), F35, hl36, hB, hZ⟩)
  · rintro a' w24 ⟨x25, l26, hJ, hF27, F28, hl29, hB, hZ⟩
    subst hJ
    refine Fr.goX hF27 (by kernel_rfl) ?_
    refine eX_then ?_
    refine cW_seq ?_
    refine cW_region ?_
    refine wS_pure 2 [(4, .int .i64 (x25)), (18, .int .i64 (x25))] (by kernel_rfl) ?_
    refine wS_end (by rfl) ?_
    refine eX_then ?_
    refine cW_ret ?_
    have hq : (some ((x25, l26)) : Option ((Int) × (List (Int)))) = some _ := hm
    replace hq := someE hq
    subst hq
    refine eX_ret (vs := [.int .i64 (x25)]) [.tmp 4] (by rfl) ⟨by (show lkE _ _ _ = _); kernel_rfl, trivial⟩ ?_
    exact ⟨rfl, F28, (by first | exact hl29 | rfl), hB⟩

set_option maxRecDepth 100000 in
/-- laws.markInt64SS -/
theorem c_laws_markInt64SS {w0 : World} {l0 : List (List (Int))} {A0 : Option Addr} {cap0 : Nat} {fp0 fr0 : List Nat} {p1 : Int} {r : (Int) × (List (List (Int)))} (hm : m_laws_markInt64SS l0 p1 = some r) (F0 : OwR 1 encI 25 2 w0 fp0 fr0 A0 cap0 l0) :
    Calls Try.prog 35 #[.slice A0 (l0).length cap0, .int .i64 (p1)] w0 fun e w' => e = .returned (.int .i64 (r.1)) ∧ OwR 1 encI 25 2 w' fp0 fr0 A0 cap0 r.2 ∧ (r.2).length = (l0).length ∧ Chg ((fp0 ++ fr0) ++ []) w0 w' := by
  have L0 := F0.low
  have hB : Chg ((fp0 ++ fr0) ++ []) w0 w0 := Chg.refl _ _
  have hZ := Nat.le_refl w0.heap.size
  unfold m_laws_markInt64SS at hm
  refine enterE (N := 19) Try.func35 (by rfl) Try.ntmps35 (by simp) [(0, .slice A0 (l0).length cap0), (1, .int .i64 (p1))] (by rfl) (by kernel_rfl) (fun a => ?_)
  refine cW_seq ?_
  refine cW_region ?_
  refine wS_pure 1 [(4, .int .i64 (0))] (by kernel_rfl) ?_
  refine wS_end (by rfl) ?_
  refine eX_then ?_
  refine cW_seq ?_
  refine cW_seq ?_
  refine cW_region ?_
  refine wS_pure 1 [(5, .int .i64 (0))] (by kernel_rfl) ?_
  refine wS_end (by rfl) ?_
  refine eX_then ?_
  obtain ⟨r67, hr68, hm⟩ := bindE hm
  have hm69 := hm
  refine cW_cut (fun a' w' => ∃ x55 : Int, ∃ l56 : List (List (Int)), (x55, l56) = r67 ∧ Fr 19 [(1, .int .i64 (x55))] a' ∧ OwR 1 encI 25 2 w' fp0 fr0 A0 cap0 l56 ∧ (l56).length = (l0).length ∧ Chg ((fp0 ++ fr0) ++ []) w0 w' ∧ w0.heap.size ≤ w'.heap.size) ?_ ?_
  · refine cW_block ?_
    refine cW_loop _ (fun (s70 : Int × Int × (List (List (Int)))) a' w' => ∃ x61 : Int, ∃ x62 : Int, ∃ l63 : List (List (Int)), (x61, x62, l63) = s70 ∧ Fr 19 [(0, .slice A0 (l63).length cap0), (1, .int .i64 (x61)), (5, .int .i64 (x62))] a' ∧ OwR 1 encI 25 2 w' fp0 fr0 A0 cap0 l63 ∧ (l63).length = (l0).length ∧ Chg ((fp0 ++ fr0) ++ []) w0 w' ∧ w0.heap.size ≤ w'.heap.size) hr68 (fun hst => ⟨p1, 0, l0, rfl, Fr.of hst (by kernel_rfl), F0, (Eq.refl (l0).length), hB, hZ⟩) ?_
    rintro _ c71 a' w60 ⟨x61, x62, l63, rfl, hF64, F65, hl66, hB, hZ⟩ hx72
    refine Fr.goOn hF64 (by kernel_rfl) ?_
    have hm := hx72
    unfold m_laws_markInt64SS_s1 at hm
    refine cW_seq ?_
    refine cW_seq ?_
    refine cW_region ?_
    refine wS_pure 4 [(9, .bool (decide (x62 < (((l63).length : Int))))), (8, .int .i64 (((l63).length : Int))), (7, .slice A0 (l63).length cap0), (6, .int .i64 (x62))] (by kernel_rfl) ?_
    refine wS_end (by rfl) ?_
    refine eX_then ?_
    refine cW_cond (t := decide (x62 < (((l63).length : Int)))) (by kernel_rfl) (fun hb73 => ?_) (fun hb73 => ?_)
    · have hm := condT hb73 hm
      refine cW_skip ?_
      refine eX_then ?_
      refine cW_seq ?_
      refine cW_block ?_
      refine cW_region ?_
      refine wS_pure 2 [(13, .int .i64 (x62)), (12, .slice A0 (l63).length cap0)] (by kernel_rfl) ?_
      obtain ⟨x74, hx75, hm⟩ := bindE hm
      refine wS_idx (d := 14) (T := 24) (A := A0) (n := (l63).length) (cap := cap0) (kd := .i64) (m := x62) (by kernel_rfl) sl24 ((F65.slr encI_ok).is hx75) ?_
      obtain ⟨A76, cap77, fp81, hc79, hsub82, F78, hcl83⟩ := OwR.lend F65 hx75
      have Dm85 := (F65.dj).symm
      refine wS_load1 (d := 15) (T := 25) (ad := (elA A0 1 (x62) 0)) (v := .slice A76 (x74).length cap77) (by kernel_rfl) vt25 hc79 ?_
      refine wS_pure 1 [(16, .int .i64 (x61))] (by kernel_rfl) ?_
      obtain ⟨y86, hy87, hm⟩ := bindE hm
      refine wS_calls (d := 17) (f := 44) (vs := [.slice A76 (x74).length cap77, .int .i64 (x61)]) (by kernel_rfl) ent44 (c_laws_markInt64S hy87 F78) ?_
      rintro _ w88 ⟨rfl, F90, hl91, hc89⟩
      have F92 := hcl83 _ _ (hc89.more (fun x hx => by simpa using hx)) F90 hl91
      have hc93 := hc89.more (S' := (fp0 ++ fr0) ++ []) (fun x hx => List.mem_append_left _ (hsub82 x (by simpa using hx)))
      have hl94 := (show (l63.set (Int.toNat x62) y86.2).length = (l63).length from List.length_set ..).trans hl66
      clear F65
      replace hB := hB.inS hc93 (inApp (inMem (fun x hx => (List.mem_append_left _ hx))) inNil)
      replace hZ := Nat.le_trans hZ hc93.size
      refine ⟨.int .i64 (y86.1), rfl, ?_⟩
      rewrite [(show (l63).length = (l63.set (Int.toNat x62) y86.2).length from (List.length_set ..).symm)]
      refine wS_pure 1 [(1, .int .i64 (y86.1))] (by kernel_rfl) ?_
      refine wS_end (by rfl) ?_
      refine eX_block ?_
      refine eX_then ?_
      refine cW_region ?_
      refine wS_pure 3 [(5, .int .i64 (wr (x62 + 1))), (11, .int .i64 (wr (x62 + 1))), (10, .int .i64 (x62))] (by kernel_rfl) ?_
      refine wS_end (by rfl) ?_
      have hq : (some (Ctl.next ((y86.1, wr (x62 + 1), l63.set (Int.toNat x62) y86.2))) : Option (Ctl (Int × Int × (List (List (Int)))) (Int × (List (List (Int)))))) = some _ := hm
      replace hq := someE hq
      subst hq
      exact eX_next hx72 (fun hst => ⟨y86.1, wr (x62 + 1), l63.set (Int.toNat x62) y86.2, rfl, Fr.of hst (by kernel_rfl), F92, hl94, hB, hZ⟩)
    · have hm := condF hb73 hm
      refine cW_exit ?_
      refine eX_then_exit ?_
      have hq : (some (Ctl.out ((x61, l63))) : Option (Ctl (Int × Int × (List (List (Int)))) (Int × (List (List (Int)))))) = some _ := hm
      replace hq := someE hq
      subst hq
      refine eX_outX hx72 (fun hr95 => ?_)
      replace hr95 := hr95.symm
      subst hr95
      refine eX_block_hit ?_
      exact eX_J (fun hst => ⟨x61, l63, rfl, Fr.of hst (by kernel_rfl), F65, hl66, hB, hZ⟩)
  · rintro a' w54 ⟨x55, l56, hJ, hF57, F58, hl59, hB, hZ⟩
    subst hJ
    refine Fr.goX hF57 (by kernel_rfl) ?_
    refine eX_then ?_
    refine cW_seq ?_
    refine cW_region ?_
    refine wS_pure 2 [(4, .int .i64 (x55)), (18, .int .i64 (x55))] (by kernel_rfl) ?_
    refine wS_end (by rfl) ?_
    refine eX_then ?_
    refine cW_ret ?_
    have hq : (some ((x55, l56)) : Option ((Int) × (List (List (Int))))) = some _ := hm
    replace hq := someE hq
    subst hq
    refine eX_ret (vs := [.int .i64 (x55)]) [.tmp 4] (by rfl) ⟨by (show lkE _ _ _ = _); kernel_rfl, trivial⟩ ?_
    exact ⟨rfl, F58, (by first | exact hl59 | rfl), hB⟩

set_option maxRecDepth 100000 in
/-- laws.heldInt64S -/
theorem c_laws_heldInt64S {w0 : World} {l0 : List (Int)} {A0 : Option Addr} {cap0 : Nat} {fp0 : List Nat} {p1 : Int} {r : (Int)} (hm : m_laws_heldInt64S l0 p1 = some r) (F0 : Sl 1 encI w0 fp0 A0 l0) :
    Calls Try.prog 45 #[.slice A0 (l0).length cap0, .int .i64 (p1)] w0 fun e w' => e = .returned (.int .i64 (r)) ∧ Chg [] w0 w' := by
  have L0 := F0.low
  have hB : Chg [] w0 w0 := Chg.refl _ _
  have hZ := Nat.le_refl w0.heap.size
  unfold m_laws_heldInt64S at hm
  refine enterE (N := 21) Try.func45 (by rfl) Try.ntmps45 (by simp) [(0, .slice A0 (l0).length cap0), (1, .int .i64 (p1))] (by rfl) (by kernel_rfl) (fun a => ?_)
  refine cW_seq ?_
  refine cW_region ?_
  refine wS_pure 1 [(4, .int .i64 (0))] (by kernel_rfl) ?_
  refine wS_end (by rfl) ?_
  refine eX_then ?_
  refine cW_seq ?_
  refine cW_seq ?_
  refine cW_region ?_
  refine wS_pure 1 [(5, .int .i64 (0))] (by kernel_rfl) ?_
  refine wS_end (by rfl) ?_
  refine eX_then ?_
  obtain ⟨r24, hr25, hm⟩ := bindE hm
  have hm26 := hm
  refine cW_cut (fun a' w' => ∃ x17 : Int, Sum.inl x17 = r24 ∧ Fr 21 [(1, .int .i64 (x17))] a' ∧ Chg [] w0 w' ∧ w0.heap.size ≤ w'.heap.size) ?_ ?_
  · refine cW_block ?_
    refine cW_loop _ (fun (s27 : Int × Int) a' w' => ∃ x20 : Int, ∃ x21 : Int, (x20, x21) = s27 ∧ Fr 21 [(0, .slice A0 (l0).length cap0), (1, .int .i64 (x20)), (5, .int .i64 (x21))] a' ∧ Sl 1 encI w' fp0 A0 l0 ∧ Chg [] w0 w' ∧ w0.heap.size ≤ w'.heap.size) hr25 (fun hst => ⟨p1, 0, rfl, Fr.of hst (by kernel_rfl), F0, hB, hZ⟩) ?_
    rintro _ c28 a' w19 ⟨x20, x21, rfl, hF22, F23, hB, hZ⟩ hx29
    refine Fr.goOn hF22 (by kernel_rfl) ?_
    have hm := hx29
    unfold m_laws_heldInt64S_s1 at hm
    refine cW_seq ?_
    refine cW_seq ?_
    refine cW_region ?_
    refine wS_pure 4 [(9, .bool (decide (x21 < (((l0).length : Int))))), (8, .int .i64 (((l0).length : Int))), (7, .slice A0 (l0).length cap0), (6, .int .i64 (x21))] (by kernel_rfl) ?_
    refine wS_end (by rfl) ?_
    refine eX_then ?_
    refine cW_cond (t := decide (x21 < (((l0).length : Int)))) (by kernel_rfl) (fun hb30 => ?_) (fun hb30 => ?_)
    · have hm := condT hb30 hm
      refine cW_skip ?_
      refine eX_then ?_
      refine cW_seq ?_
      refine cW_block ?_
      refine cW_seq ?_
      refine cW_seq ?_
      refine cW_region ?_
      refine wS_pure 2 [(13, .int .i64 (x21)), (12, .slice A0 (l0).length cap0)] (by kernel_rfl) ?_
      obtain ⟨x31, hx32, hm⟩ := bindE hm
      refine wS_idx (d := 14) (T := 25) (A := A0) (n := (l0).length) (cap := cap0) (kd := .i64) (m := x21) (by kernel_rfl) sl25 (F23.is hx32) ?_
      refine wS_load1 (d := 15) (T := 2) (ad := (elA A0 1 (x21) 0)) (v := .int .i64 (x31)) (by kernel_rfl) vt2 (Sl.cell F23 hx32 0 (by rfl)) ?_
      refine wS_pure 2 [(17, .bool (x31 != x20)), (16, .int .i64 (x20))] (by kernel_rfl) ?_
      refine wS_end (by rfl) ?_
      refine eX_then ?_
      refine cW_cond (t := x31 != x20) (by kernel_rfl) (fun hb33 => ?_) (fun hb33 => ?_)
      · have hm := condT hb33 hm
        refine cW_seq ?_
        refine cW_region ?_
        refine wS_pure 1 [(4, .int .i64 ((-1)))] (by kernel_rfl) ?_
        refine wS_end (by rfl) ?_
        refine eX_then ?_
        refine cW_ret ?_
        refine eX_then_ret ?_
        refine eX_block_ret ?_
        refine eX_then_ret ?_
        have hq : (some (Ctl.out (Sum.inr ((-1)))) : Option (Ctl (Int × Int) (Sum (Int) ((Int))))) = some _ := hm
        replace hq := someE hq
        subst hq
        refine eX_outR hx29 (fun hr => ?_)
        subst hr
        refine eX_block_ret ?_
        refine eX_then_ret ?_
        refine eX_then_ret ?_
        have hq : (some ((-1)) : Option ((Int))) = some _ := hm26
        replace hq := someE hq
        subst hq
        refine eX_ret (vs := [.int .i64 ((-1))]) [.tmp 4] (by rfl) ⟨by (show lkE _ _ _ = _); kernel_rfl, trivial⟩ ?_
        exact ⟨rfl, hB⟩
      · have hm := condF hb33 hm
        refine cW_skip ?_
        refine eX_then ?_
        refine cW_region ?_
        refine wS_pure 3 [(1, .int .i64 (wr (x20 + 1))), (19, .int .i64 (wr (x20 + 1))), (18, .int .i64 (x20))] (by kernel_rfl) ?_
        refine wS_end (by rfl) ?_
        refine eX_block ?_
        refine eX_then ?_
        refine cW_region ?_
        refine wS_pure 3 [(5, .int .i64 (wr (x21 + 1))), (11, .int .i64 (wr (x21 + 1))), (10, .int .i64 (x21))] (by kernel_rfl) ?_
        refine wS_end (by rfl) ?_
        have hq : (some (Ctl.next ((wr (x20 + 1), wr (x21 + 1)))) : Option (Ctl (Int × Int) (Sum (Int) ((Int))))) = some _ := hm
        replace hq := someE hq
        subst hq
        exact eX_next hx29 (fun hst => ⟨wr (x20 + 1), wr (x21 + 1), rfl, Fr.of hst (by kernel_rfl), F23, hB, hZ⟩)
    · have hm := condF hb30 hm
      refine cW_exit ?_
      refine eX_then_exit ?_
      have hq : (some (Ctl.out (Sum.inl x20)) : Option (Ctl (Int × Int) (Sum (Int) ((Int))))) = some _ := hm
      replace hq := someE hq
      subst hq
      refine eX_outX hx29 (fun hr34 => ?_)
      replace hr34 := hr34.symm
      subst hr34
      refine eX_block_hit ?_
      exact eX_J (fun hst => ⟨x20, rfl, Fr.of hst (by kernel_rfl), hB, hZ⟩)
  · rintro a' w16 ⟨x17, hJ, hF18, hB, hZ⟩
    subst hJ
    refine Fr.goX hF18 (by kernel_rfl) ?_
    refine eX_then ?_
    refine cW_seq ?_
    refine cW_region ?_
    refine wS_pure 2 [(4, .int .i64 (x17)), (20, .int .i64 (x17))] (by kernel_rfl) ?_
    refine wS_end (by rfl) ?_
    refine eX_then ?_
    refine cW_ret ?_
    have hq : (some x17 : Option ((Int))) = some _ := hm
    replace hq := someE hq
    subst hq
    refine eX_ret (vs := [.int .i64 (x17)]) [.tmp 4] (by rfl) ⟨by (show lkE _ _ _ = _); kernel_rfl, trivial⟩ ?_
    exact ⟨rfl, hB⟩

set_option maxRecDepth 100000 in
/-- laws.heldInt64SS -/
theorem c_laws_heldInt64SS {w0 : World} {l0 : List (List (Int))} {A0 : Option Addr} {cap0 : Nat} {fp0 : List Nat} {p1 : Int} {r : (Int)} (hm : m_laws_heldInt64SS l0 p1 = some r) (F0 : SlR 1 encI w0 fp0 A0 l0) :
    Calls Try.prog 36 #[.slice A0 (l0).length cap0, .int .i64 (p1)] w0 fun e w' => e = .returned (.int .i64 (r)) ∧ Chg [] w0 w' := by
  have L0 := F0.low
  have hB : Chg [] w0 w0 := Chg.refl _ _
  have hZ := Nat.le_refl w0.heap.size
  unfold m_laws_heldInt64SS at hm
  refine enterE (N := 21) Try.func36 (by rfl) Try.ntmps36 (by simp) [(0, .slice A0 (l0).length cap0), (1, .int .i64 (p1))] (by rfl) (by kernel_rfl) (fun a => ?_)
  refine cW_seq ?_
  refine cW_region ?_
  refine wS_pure 1 [(4, .int .i64 (0))] (by kernel_rfl) ?_
  refine wS_end (by rfl) ?_
  refine eX_then ?_
  refine cW_seq ?_
  refine cW_seq ?_
  refine cW_region ?_
  refine wS_pure 1 [(5, .int .i64 (0))] (by kernel_rfl) ?_
  refine wS_end (by rfl) ?_
  refine eX_then ?_
  obtain ⟨r44, hr45, hm⟩ := bindE hm
  have hm46 := hm
  refine cW_cut (fun a' w' => ∃ x37 : Int, Sum.inl x37 = r44 ∧ Fr 21 [(1, .int .i64 (x37))] a' ∧ Chg [] w0 w' ∧ w0.heap.size ≤ w'.heap.size) ?_ ?_
  · refine cW_block ?_
    refine cW_loop _ (fun (s47 : Int × Int) a' w' => ∃ x40 : Int, ∃ x41 : Int, (x40, x41) = s47 ∧ Fr 21 [(0, .slice A0 (l0).length cap0), (1, .int .i64 (x40)), (5, .int .i64 (x41))] a' ∧ SlR 1 encI w' fp0 A0 l0 ∧ Chg [] w0 w' ∧ w0.heap.size ≤ w'.heap.size) hr45 (fun hst => ⟨p1, 0, rfl, Fr.of hst (by kernel_rfl), F0, hB, hZ⟩) ?_
    rintro _ c48 a' w39 ⟨x40, x41, rfl, hF42, F43, hB, hZ⟩ hx49
    refine Fr.goOn hF42 (by kernel_rfl) ?_
    have hm := hx49
    unfold m_laws_heldInt64SS_s1 at hm
    refine cW_seq ?_
    refine cW_seq ?_
    refine cW_region ?_
    refine wS_pure 4 [(9, .bool (decide (x41 < (((l0).length : Int))))), (8, .int .i64 (((l0).length : Int))), (7, .slice A0 (l0).length cap0), (6, .int .i64 (x41))] (by kernel_rfl) ?_
    refine wS_end (by rfl) ?_
    refine eX_then ?_
    refine cW_cond (t := decide (x41 < (((l0).length : Int)))) (by kernel_rfl) (fun hb50 => ?_) (fun hb50 => ?_)
    · have hm := condT hb50 hm
      refine cW_skip ?_
      refine eX_then ?_
      refine cW_seq ?_
      refine cW_block ?_
      refine cW_seq ?_
      refine cW_region ?_
      refine wS_pure 2 [(13, .int .i64 (x41)), (12, .slice A0 (l0).length cap0)] (by kernel_rfl) ?_
      obtain ⟨x51, hx52, hm⟩ := bindE hm
      refine wS_idx (d := 14) (T := 24) (A := A0) (n := (l0).length) (cap := cap0) (kd := .i64) (m := x41) (by kernel_rfl) sl24 (F43.is hx52) ?_
      obtain ⟨A53, cap54, hc56, F55, K57⟩ := SlR.row F43 hx52
      refine wS_load1 (d := 15) (T := 25) (ad := (elA A0 1 (x41) 0)) (v := .slice A53 (x51).length cap54) (by kernel_rfl) vt25 hc56 ?_
      refine wS_pure 1 [(16, .int .i64 (x40))] (by kernel_rfl) ?_
      obtain ⟨y59, hy60, hm⟩ := bindE hm
      refine wS_calls (d := 17) (f := 45) (vs := [.slice A53 (x51).length cap54, .int .i64 (x40)]) (by kernel_rfl) ent45 (c_laws_heldInt64S hy60 F55) ?_
      rintro _ w61 ⟨rfl, hc62⟩
      replace F43 := F43.chg hc62 Dj.nil
      replace F55 := F55.chg hc62 Dj.nil
      replace hB := hB.inS hc62 inNil
      replace hZ := Nat.le_trans hZ hc62.size
      refine ⟨.int .i64 (y59), rfl, ?_⟩
      refine wS_pure 1 [(1, .int .i64 (y59))] (by kernel_rfl) ?_
      refine wS_end (by rfl) ?_
      refine eX_then ?_
      refine cW_seq ?_
      refine cW_region ?_
      refine wS_pure 2 [(19, .bool (decide (y59 < 0))), (18, .int .i64 (y59))] (by kernel_rfl) ?_
      refine wS_end (by rfl) ?_
      refine eX_then ?_
      refine cW_cond (t := decide (y59 < 0)) (by kernel_rfl) (fun hb63 => ?_) (fun hb63 => ?_)
      · have hm := condT hb63 hm
        refine cW_seq ?_
        refine cW_region ?_
        refine wS_pure 1 [(4, .int .i64 ((-1)))] (by kernel_rfl) ?_
        refine wS_end (by rfl) ?_
        refine eX_then ?_
        refine cW_ret ?_
        refine eX_block_ret ?_
        refine eX_then_ret ?_
        have hq : (some (Ctl.out (Sum.inr ((-1)))) : Option (Ctl (Int × Int) (Sum (Int) ((Int))))) = some _ := hm
        replace hq := someE hq
        subst hq
        refine eX_outR hx49 (fun hr => ?_)
        subst hr
        refine eX_block_ret ?_
        refine eX_then_ret ?_
        refine eX_then_ret ?_
        have hq : (some ((-1)) : Option ((Int))) = some _ := hm46
        replace hq := someE hq
        subst hq
        refine eX_ret (vs := [.int .i64 ((-1))]) [.tmp 4] (by rfl) ⟨by (show lkE _ _ _ = _); kernel_rfl, trivial⟩ ?_
        exact ⟨rfl, hB⟩
      · have hm := condF hb63 hm
        refine cW_skip ?_
        refine eX_block ?_
        refine eX_then ?_
        refine cW_region ?_
        refine wS_pure 3 [(5, .int .i64 (wr (x41 + 1))), (11, .int .i64 (wr (x41 + 1))), (10, .int .i64 (x41))] (by kernel_rfl) ?_
        refine wS_end (by rfl) ?_
        have hq : (some (Ctl.next ((y59, wr (x41 + 1)))) : Option (Ctl (Int × Int) (Sum (Int) ((Int))))) = some _ := hm
        replace hq := someE hq
        subst hq
        exact eX_next hx49 (fun hst => ⟨y59, wr (x41 + 1), rfl, Fr.of hst (by kernel_rfl), F43, hB, hZ⟩)
    · have hm := condF hb50 hm
      refine cW_exit ?_
      refine eX_then_exit ?_
      have hq : (some (Ctl.out (Sum.inl x40)) : Option (Ctl (Int × Int) (Sum (Int) ((Int))))) = some _ := hm
      replace hq := someE hq
      subst hq
      refine eX_outX hx49 (fun hr64 => ?_)
      replace hr64 := hr64.symm
      subst hr64
      refine eX_block_hit ?_
      exact eX_J (fun hst => ⟨x40, rfl, Fr.of hst (by kernel_rfl), hB, hZ⟩)
  · rintro a' w36 ⟨x37, hJ, hF38, hB, hZ⟩
    subst hJ
    refine Fr.goX hF38 (by kernel_rfl) ?_
    refine eX_then ?_
    refine cW_seq ?_
    refine cW_region ?_
    refine wS_pure 2 [(4, .int .i64 (x37)), (20, .int .i64 (x37))] (by kernel_rfl) ?_
    refine wS_end (by rfl) ?_
    refine eX_then ?_
    refine cW_ret ?_
    have hq : (some x37 : Option ((Int))) = some _ := hm
    replace hq := someE hq
    subst hq
    refine eX_ret (vs := [.int .i64 (x37)]) [.tmp 4] (by rfl) ⟨by (show lkE _ _ _ = _); kernel_rfl, trivial⟩ ?_
    exact ⟨rfl, hB⟩

set_option maxRecDepth 100000 in
/-- laws.szInt64S -/
theorem c_laws_szInt64S {w0 : World} {l0 : List (Int)} {A0 : Option Addr} {cap0 : Nat} {fp0 : List Nat} {p1 : Int} {r : (Int)} (hm : m_laws_szInt64S l0 p1 = some r) (F0 : Sl 1 encI w0 fp0 A0 l0) :
    Calls Try.prog 81 #[.slice A0 (l0).length cap0, .int .i64 (p1)] w0 fun e w' => e = .returned (.int .i64 (r)) ∧ Chg [] w0 w' := by
  have L0 := F0.low
  have hB : Chg [] w0 w0 := Chg.refl _ _
  have hZ := Nat.le_refl w0.heap.size
  unfold m_laws_szInt64S at hm
  refine enterE (N := 12) Try.func81 (by rfl) Try.ntmps81 (by simp) [(0, .slice A0 (l0).length cap0), (1, .int .i64 (p1))] (by rfl) (by kernel_rfl) (fun a => ?_)
  refine cW_seq ?_
  refine cW_region ?_
  refine wS_pure 1 [(4, .int .i64 (0))] (by kernel_rfl) ?_
  refine wS_end (by rfl) ?_
  refine eX_then ?_
  refine cW_seq ?_
  refine cW_region ?_
  refine wS_pure 5 [(1, .int .i64 (wr (p1 - (((l0).length : Int))))), (8, .int .i64 (wr (p1 - (((l0).length : Int))))), (7, .int .i64 (((l0).length : Int))), (6, .slice A0 (l0).length cap0), (5, .int .i64 (p1))] (by kernel_rfl) ?_
  refine wS_end (by rfl) ?_
  refine eX_then ?_
  refine cW_seq ?_
  refine cW_seq ?_
  refine cW_region ?_
  refine wS_pure 2 [(10, .bool (decide ((wr (p1 - (((l0).length : Int)))) < 0))), (9, .int .i64 (wr (p1 - (((l0).length : Int)))))] (by kernel_rfl) ?_
  refine wS_end (by rfl) ?_
  refine eX_then ?_
  refine cW_cond (t := decide ((wr (p1 - (((l0).length : Int)))) < 0)) (by kernel_rfl) (fun hb2 => ?_) (fun hb2 => ?_)
  · have hm := condT hb2 hm
    refine cW_seq ?_
    refine cW_region ?_
    refine wS_pure 1 [(4, .int .i64 ((-1)))] (by kernel_rfl) ?_
    refine wS_end (by rfl) ?_
    refine eX_then ?_
    refine cW_ret ?_
    refine eX_then_ret ?_
    have hq : (some ((-1)) : Option ((Int))) = some _ := hm
    replace hq := someE hq
    subst hq
    refine eX_ret (vs := [.int .i64 ((-1))]) [.tmp 4] (by rfl) ⟨by (show lkE _ _ _ = _); kernel_rfl, trivial⟩ ?_
    exact ⟨rfl, hB⟩
  · have hm := condF hb2 hm
    refine cW_skip ?_
    refine eX_then ?_
    refine cW_seq ?_
    refine cW_region ?_
    refine wS_pure 2 [(4, .int .i64 (wr (p1 - (((l0).length : Int))))), (11, .int .i64 (wr (p1 - (((l0).length : Int)))))] (by kernel_rfl) ?_
    refine wS_end (by rfl) ?_
    refine eX_then ?_
    refine cW_ret ?_
    have hq : (some (wr (p1 - (((l0).length : Int)))) : Option ((Int))) = some _ := hm
    replace hq := someE hq
    subst hq
    refine eX_ret (vs := [.int .i64 (wr (p1 - (((l0).length : Int))))]) [.tmp 4] (by rfl) ⟨by (show lkE _ _ _ = _); kernel_rfl, trivial⟩ ?_
    exact ⟨rfl, hB⟩

set_option maxRecDepth 100000 in
/-- laws.szInt64SS -/
theorem c_laws_szInt64SS {w0 : World} {l0 : List (List (Int))} {A0 : Option Addr} {cap0 : Nat} {fp0 : List Nat} {p1 : Int} {r : (Int)} (hm : m_laws_szInt64SS l0 p1 = some r) (F0 : SlR 1 encI w0 fp0 A0 l0) :
    Calls Try.prog 80 #[.slice A0 (l0).length cap0, .int .i64 (p1)] w0 fun e w' => e = .returned (.int .i64 (r)) ∧ Chg [] w0 w' := by
  have L0 := F0.low
  have hB : Chg [] w0 w0 := Chg.refl _ _
  have hZ := Nat.le_refl w0.heap.size
  unfold m_laws_szInt64SS at hm
  refine enterE (N := 27) Try.func80 (by rfl) Try.ntmps80 (by simp) [(0, .slice A0 (l0).length cap0), (1, .int .i64 (p1))] (by rfl) (by kernel_rfl) (fun a => ?_)
  refine cW_seq ?_
  refine cW_region ?_
  refine wS_pure 1 [(4, .int .i64 (0))] (by kernel_rfl) ?_
  refine wS_end (by rfl) ?_
  refine eX_then ?_
  refine cW_seq ?_
  refine cW_region ?_
  refine wS_pure 5 [(1, .int .i64 (wr (p1 - (((l0).length : Int))))), (9, .int .i64 (wr (p1 - (((l0).length : Int))))), (8, .int .i64 (((l0).length : Int))), (7, .slice A0 (l0).length cap0), (6, .int .i64 (p1))] (by kernel_rfl) ?_
  refine wS_end (by rfl) ?_
  refine eX_then ?_
  refine cW_seq ?_
  refine cW_seq ?_
  refine cW_region ?_
  refine wS_pure 2 [(11, .bool (decide ((wr (p1 - (((l0).length : Int)))) < 0))), (10, .int .i64 (wr (p1 - (((l0).length : Int)))))] (by kernel_rfl) ?_
  refine wS_end (by rfl) ?_
  refine eX_then ?_
  refine cW_cond (t := decide ((wr (p1 - (((l0).length : Int)))) < 0)) (by kernel_rfl) (fun hb2 => ?_) (fun hb2 => ?_)
  · have hm := condT hb2 hm
    refine cW_seq ?_
    refine cW_region ?_
    refine wS_pure 1 [(4, .int .i64 ((-1)))] (by kernel_rfl) ?_
    refine wS_end (by rfl) ?_
    refine eX_then ?_
    refine cW_ret ?_
    refine eX_then_ret ?_
    have hq : (some ((-1)) : Option ((Int))) = some _ := hm
    replace hq := someE hq
    subst hq
    refine eX_ret (vs := [.int .i64 ((-1))]) [.tmp 4] (by rfl) ⟨by (show lkE _ _ _ = _); kernel_rfl, trivial⟩ ?_
    exact ⟨rfl, hB⟩
  · have hm := condF hb2 hm
    refine cW_skip ?_
    refine eX_then ?_
    refine cW_seq ?_
    refine cW_seq ?_
    refine cW_region ?_
    refine wS_pure 1 [(5, .int .i64 (0))] (by kernel_rfl) ?_
    refine wS_end (by rfl) ?_
    refine eX_then ?_
    obtain ⟨r45, hr46, hm⟩ := bindE hm
    have hm47 := hm
    refine cW_cut (fun a' w' => ∃ x38 : Int, Sum.inl x38 = r45 ∧ Fr 27 [(1, .int .i64 (x38))] a' ∧ Chg [] w0 w' ∧ w0.heap.size ≤ w'.heap.size) ?_ ?_
    · refine cW_block ?_
      refine cW_loop _ (fun (s48 : Int × Int) a' w' => ∃ x41 : Int, ∃ x42 : Int, (x41, x42) = s48 ∧ Fr 27 [(0, .slice A0 (l0).length cap0), (1, .int .i64 (x41)), (5, .int .i64 (x42))] a' ∧ SlR 1 encI w' fp0 A0 l0 ∧ Chg [] w0 w' ∧ w0.heap.size ≤ w'.heap.size) hr46 (fun hst => ⟨wr (p1 - (((l0).length : Int))), 0, rfl, Fr.of hst (by kernel_rfl), F0, hB, hZ⟩) ?_
      rintro _ c49 a' w40 ⟨x41, x42, rfl, hF43, F44, hB, hZ⟩ hx50
      refine Fr.goOn hF43 (by kernel_rfl) ?_
      have hm := hx50
      unfold m_laws_szInt64SS_s1 at hm
      refine cW_seq ?_
      refine cW_seq ?_
      refine cW_region ?_
      refine wS_pure 4 [(15, .bool (decide (x42 < (((l0).length : Int))))), (14, .int .i64 (((l0).length : Int))), (13, .slice A0 (l0).length cap0), (12, .int .i64 (x42))] (by kernel_rfl) ?_
      refine wS_end (by rfl) ?_
      refine eX_then ?_
      refine cW_cond (t := decide (x42 < (((l0).length : Int)))) (by kernel_rfl) (fun hb51 => ?_) (fun hb51 => ?_)
      · have hm := condT hb51 hm
        refine cW_skip ?_
        refine eX_then ?_
        refine cW_seq ?_
        refine cW_block ?_
        refine cW_seq ?_
        refine cW_region ?_
        refine wS_pure 2 [(19, .int .i64 (x42)), (18, .slice A0 (l0).length cap0)] (by kernel_rfl) ?_
        obtain ⟨x52, hx53, hm⟩ := bindE hm
        refine wS_idx (d := 20) (T := 24) (A := A0) (n := (l0).length) (cap := cap0) (kd := .i64) (m := x42) (by kernel_rfl) sl24 (F44.is hx53) ?_
        obtain ⟨A54, cap55, hc57, F56, K58⟩ := SlR.row F44 hx53
        refine wS_load1 (d := 21) (T := 25) (ad := (elA A0 1 (x42) 0)) (v := .slice A54 (x52).length cap55) (by kernel_rfl) vt25 hc57 ?_
        refine wS_pure 1 [(22, .int .i64 (x41))] (by kernel_rfl) ?_
        obtain ⟨y60, hy61, hm⟩ := bindE hm
        refine wS_calls (d := 23) (f := 81) (vs := [.slice A54 (x52).length cap55, .int .i64 (x41)]) (by kernel_rfl) ent81 (c_laws_szInt64S hy61 F56) ?_
        rintro _ w62 ⟨rfl, hc63⟩
        replace F44 := F44.chg hc63 Dj.nil
        replace F56 := F56.chg hc63 Dj.nil
        replace hB := hB.inS hc63 inNil
        replace hZ := Nat.le_trans hZ hc63.size
        refine ⟨.int .i64 (y60), rfl, ?_⟩
        refine wS_pure 1 [(1, .int .i64 (y60))] (by kernel_rfl) ?_
        refine wS_end (by rfl) ?_
        refine eX_then ?_
        refine cW_seq ?_
        refine cW_region ?_
        refine wS_pure 2 [(25, .bool (decide (y60 < 0))), (24, .int .i64 (y60))] (by kernel_rfl) ?_
        refine wS_end (by rfl) ?_
        refine eX_then ?_
        refine cW_cond (t := decide (y60 < 0)) (by kernel_rfl) (fun hb64 => ?_) (fun hb64 => ?_)
        · have hm := condT hb64 hm
          refine cW_seq ?_
          refine cW_region ?_
          refine wS_pure 1 [(4, .int .i64 ((-1)))] (by kernel_rfl) ?_
          refine wS_end (by rfl) ?_
          refine eX_then ?_
          refine cW_ret ?_
          refine eX_block_ret ?_
          refine eX_then_ret ?_
          have hq : (some (Ctl.out (Sum.inr ((-1)))) : Option (Ctl (Int × Int) (Sum (Int) ((Int))))) = some _ := hm
          replace hq := someE hq
          subst hq
          refine eX_outR hx50 (fun hr => ?_)
          subst hr
          refine eX_block_ret ?_
          refine eX_then_ret ?_
          refine eX_then_ret ?_
          have hq : (some ((-1)) : Option ((Int))) = some _ := hm47
          replace hq := someE hq
          subst hq
          refine eX_ret (vs := [.int .i64 ((-1))]) [.tmp 4] (by rfl) ⟨by (show lkE _ _ _ = _); kernel_rfl, trivial⟩ ?_
          exact ⟨rfl, hB⟩
        · have hm := condF hb64 hm
          refine cW_skip ?_
          refine eX_block ?_
          refine eX_then ?_
          refine cW_region ?_
          refine wS_pure 3 [(5, .int .i64 (wr (x42 + 1))), (17, .int .i64 (wr (x42 + 1))), (16, .int .i64 (x42))] (by kernel_rfl) ?_
          refine wS_end (by rfl) ?_
          have hq : (some (Ctl.next ((y60, wr (x42 + 1)))) : Option (Ctl (Int × Int) (Sum (Int) ((Int))))) = some _ := hm
          replace hq := someE hq
          subst hq
          exact eX_next hx50 (fun hst => ⟨y60, wr (x42 + 1), rfl, Fr.of hst (by kernel_rfl), F44, hB, hZ⟩)
      · have hm := condF hb51 hm
        refine cW_exit ?_
        refine eX_then_exit ?_
        have hq : (some (Ctl.out (Sum.inl x41)) : Option (Ctl (Int × Int) (Sum (Int) ((Int))))) = some _ := hm
        replace hq := someE hq
        subst hq
        refine eX_outX hx50 (fun hr65 => ?_)
        replace hr65 := hr65.symm
        subst hr65
        refine eX_block_hit ?_
        exact eX_J (fun hst => ⟨x41, rfl, Fr.of hst (by kernel_rfl), hB, hZ⟩)
    · rintro a' w37 ⟨x38, hJ, hF39, hB, hZ⟩
      subst hJ
      refine Fr.goX hF39 (by kernel_rfl) ?_
      refine eX_then ?_
      refine cW_seq ?_
      refine cW_region ?_
      refine wS_pure 2 [(4, .int .i64 (x38)), (26, .int .i64 (x38))] (by kernel_rfl) ?_
      refine wS_end (by rfl) ?_
      refine eX_then ?_
      refine cW_ret ?_
      have hq : (some x38 : Option ((Int))) = some _ := hm
      replace hq := someE hq
      subst hq
      refine eX_ret (vs := [.int .i64 (x38)]) [.tmp 4] (by rfl) ⟨by (show lkE _ _ _ = _); kernel_rfl, trivial⟩ ?_
      exact ⟨rfl, hB⟩

set_option maxRecDepth 100000 in
/-- laws.szWiring -/
theorem c_laws_szWiring {w0 : World} {p0_0 : Int} {l0_1 : List (List (Int))} {A0_1 : Option Addr} {cap0_1 : Nat} {fp0_1 : List Nat} {l0_2 : List (List (Int))} {A0_2 : Option Addr} {cap0_2 : Nat} {fp0_2 : List Nat} {l0_3 : List (Int)} {A0_3 : Option Addr} {cap0_3 : Nat} {fp0_3 : List Nat} {p1 : Int} {r : (Int)} (hm : m_laws_szWiring p0_0 l0_1 l0_2 l0_3 p1 = some r) (F0_1 : SlR 1 encI w0 fp0_1 A0_1 l0_1) (F0_2 : SlR 1 encI w0 fp0_2 A0_2 l0_2) (F0_3 : Sl 1 encI w0 fp0_3 A0_3 l0_3) :
    Calls Try.prog 37 #[.agg #[.int .i64 (p0_0), .slice A0_1 (l0_1).length cap0_1, .slice A0_2 (l0_2).length cap0_2, .slice A0_3 (l0_3).length cap0_3], .int .i64 (p1)] w0 fun e w' => e = .returned (.int .i64 (r)) ∧ Chg [] w0 w' := by
  have L0_1 := F0_1.low
  have L0_2 := F0_2.low
  have L0_3 := F0_3.low
  have hB : Chg [] w0 w0 := Chg.refl _ _
  have hZ := Nat.le_refl w0.heap.size
  unfold m_laws_szWiring at hm
  refine enterE (N := 24) Try.func37 (by rfl) Try.ntmps37 (by simp) [(0, .agg #[.int .i64 (p0_0), .slice A0_1 (l0_1).length cap0_1, .slice A0_2 (l0_2).length cap0_2, .slice A0_3 (l0_3).length cap0_3]), (1, .int .i64 (p1))] (by rfl) (by kernel_rfl) (fun a => ?_)
  refine cW_seq ?_
  refine cW_region ?_
  refine wS_box (d := 2) (T := 59) (x := .agg #[.int .i64 (p0_0), .slice A0_1 (l0_1).length cap0_1, .slice A0_2 (l0_2).length cap0_2, .slice A0_3 (l0_3).length cap0_3]) (by kernel_rfl) ?_
  intro b4 w5 G6 F7 hc8
  replace F7 : Cl w5 b4 59 [.int .i64 (p0_0), .slice A0_1 (l0_1).length cap0_1, .slice A0_2 (l0_2).length cap0_2, .slice A0_3 (l0_3).length cap0_3] := F7
  replace F0_1 := F0_1.chg hc8 Dj.nil
  replace F0_2 := F0_2.chg hc8 Dj.nil
  replace F0_3 := F0_3.chg hc8 Dj.nil
  replace hB := hB.inS hc8 inNil
  replace G6 := Nat.le_trans hZ G6
  replace hZ := Nat.le_trans hZ hc8.size
  refine wS_pure 1 [(4, .int .i64 (0))] (by kernel_rfl) ?_
  refine wS_end (by rfl) ?_
  refine eX_then ?_
  refine cW_seq ?_
  refine cW_region ?_
  refine wS_pure 1 [(5, .pointer (some ⟨b4, 1, none⟩))] (by kernel_rfl) ?_
  refine wS_load1 (d := 6) (T := 24) (ad := ⟨b4, 1, none⟩) (v := .slice A0_1 (l0_1).length cap0_1) (by kernel_rfl) vt24 ((F7).cell 1) ?_
  refine wS_pure 1 [(7, .int .i64 (p1))] (by kernel_rfl) ?_
  obtain ⟨y10, hy11, hm⟩ := bindE hm
  refine wS_calls (d := 8) (f := 80) (vs := [.slice A0_1 (l0_1).length cap0_1, .int .i64 (p1)]) (by kernel_rfl) ent80 (c_laws_szInt64SS hy11 F0_1) ?_
  rintro _ w12 ⟨rfl, hc13⟩
  replace F0_1 := F0_1.chg hc13 Dj.nil
  replace F0_2 := F0_2.chg hc13 Dj.nil
  replace F0_3 := F0_3.chg hc13 Dj.nil
  replace F7 := F7.chg hc13 notNil
  replace hB := hB.inS hc13 inNil
  replace hZ := Nat.le_trans hZ hc13.size
  refine ⟨.int .i64 (y10), rfl, ?_⟩
  refine wS_pure 1 [(1, .int .i64 (y10))] (by kernel_rfl) ?_
  refine wS_end (by rfl) ?_
  refine eX_then ?_
  refine cW_seq ?_
  refine cW_seq ?_
  refine cW_region ?_
  refine wS_pure 2 [(10, .bool (decide (y10 < 0))), (9, .int .i64 (y10))] (by kernel_rfl) ?_
  refine wS_end (by rfl) ?_
  refine eX_then ?_
  refine cW_cond (t := decide (y10 < 0)) (by kernel_rfl) (fun hb14 => ?_) (fun hb14 => ?_)
  · have hm := condT hb14 hm
    refine cW_seq ?_
    refine cW_region ?_
    refine wS_pure 1 [(4, .int .i64 ((-1)))] (by kernel_rfl) ?_
    refine wS_end (by rfl) ?_
    refine eX_then ?_
    refine cW_ret ?_
    refine eX_then_ret ?_
    have hq : (some ((-1)) : Option ((Int))) = some _ := hm
    replace hq := someE hq
    subst hq
    refine eX_ret (vs := [.int .i64 ((-1))]) [.tmp 4] (by rfl) ⟨by (show lkE _ _ _ = _); kernel_rfl, trivial⟩ ?_
    exact ⟨rfl, hB⟩
  · have hm := condF hb14 hm
    refine cW_skip ?_
    refine eX_then ?_
    refine cW_seq ?_
    refine cW_region ?_
    refine wS_pure 1 [(11, .pointer (some ⟨b4, 2, none⟩))] (by kernel_rfl) ?_
    refine wS_load1 (d := 12) (T := 24) (ad := ⟨b4, 2, none⟩) (v := .slice A0_2 (l0_2).length cap0_2) (by kernel_rfl) vt24 ((F7).cell 2) ?_
    refine wS_pure 1 [(13, .int .i64 (y10))] (by kernel_rfl) ?_
    obtain ⟨y15, hy16, hm⟩ := bindE hm
    refine wS_calls (d := 14) (f := 80) (vs := [.slice A0_2 (l0_2).length cap0_2, .int .i64 (y10)]) (by kernel_rfl) ent80 (c_laws_szInt64SS hy16 F0_2) ?_
    rintro _ w17 ⟨rfl, hc18⟩
    replace F0_1 := F0_1.chg hc18 Dj.nil
    replace F0_2 := F0_2.chg hc18 Dj.nil
    replace F0_3 := F0_3.chg hc18 Dj.nil
    replace F7 := F7.chg hc18 notNil
    replace hB := hB.inS hc18 inNil
    replace hZ := Nat.le_trans hZ hc18.size
    refine ⟨.int .i64 (y15), rfl, ?_⟩
    refine wS_pure 1 [(1, .int .i64 (y15))] (by kernel_rfl) ?_
    refine wS_end (by rfl) ?_
    refine eX_then ?_
    refine cW_seq ?_
    refine cW_seq ?_
    refine cW_region ?_
    refine wS_pure 2 [(16, .bool (decide (y15 < 0))), (15, .int .i64 (y15))] (by kernel_rfl) ?_
    refine wS_end (by rfl) ?_
    refine eX_then ?_
    refine cW_cond (t := decide (y15 < 0)) (by kernel_rfl) (fun hb19 => ?_) (fun hb19 => ?_)
    · have hm := condT hb19 hm
      refine cW_seq ?_
      refine cW_region ?_
      refine wS_pure 1 [(4, .int .i64 ((-1)))] (by kernel_rfl) ?_
      refine wS_end (by rfl) ?_
      refine eX_then ?_
      refine cW_ret ?_
      refine eX_then_ret ?_
      have hq : (some ((-1)) : Option ((Int))) = some _ := hm
      replace hq := someE hq
      subst hq
      refine eX_ret (vs := [.int .i64 ((-1))]) [.tmp 4] (by rfl) ⟨by (show lkE _ _ _ = _); kernel_rfl, trivial⟩ ?_
      exact ⟨rfl, hB⟩
    · have hm := condF hb19 hm
      refine cW_skip ?_
      refine eX_then ?_
      refine cW_seq ?_
      refine cW_region ?_
      refine wS_pure 1 [(17, .pointer (some ⟨b4, 3, none⟩))] (by kernel_rfl) ?_
      refine wS_load1 (d := 18) (T := 25) (ad := ⟨b4, 3, none⟩) (v := .slice A0_3 (l0_3).length cap0_3) (by kernel_rfl) vt25 ((F7).cell 3) ?_
      refine wS_pure 1 [(19, .int .i64 (y15))] (by kernel_rfl) ?_
      obtain ⟨y20, hy21, hm⟩ := bindE hm
      refine wS_calls (d := 20) (f := 81) (vs := [.slice A0_3 (l0_3).length cap0_3, .int .i64 (y15)]) (by kernel_rfl) ent81 (c_laws_szInt64S hy21 F0_3) ?_
      rintro _ w22 ⟨rfl, hc23⟩
      replace F0_1 := F0_1.chg hc23 Dj.nil
      replace F0_2 := F0_2.chg hc23 Dj.nil
      replace F0_3 := F0_3.chg hc23 Dj.nil
      replace F7 := F7.chg hc23 notNil
      replace hB := hB.inS hc23 inNil
      replace hZ := Nat.le_trans hZ hc23.size
      refine ⟨.int .i64 (y20), rfl, ?_⟩
      refine wS_pure 1 [(1, .int .i64 (y20))] (by kernel_rfl) ?_
      refine wS_end (by rfl) ?_
      refine eX_then ?_
      refine cW_seq ?_
      refine cW_seq ?_
      refine cW_region ?_
      refine wS_pure 2 [(22, .bool (decide (y20 < 0))), (21, .int .i64 (y20))] (by kernel_rfl) ?_
      refine wS_end (by rfl) ?_
      refine eX_then ?_
      refine cW_cond (t := decide (y20 < 0)) (by kernel_rfl) (fun hb24 => ?_) (fun hb24 => ?_)
      · have hm := condT hb24 hm
        refine cW_seq ?_
        refine cW_region ?_
        refine wS_pure 1 [(4, .int .i64 ((-1)))] (by kernel_rfl) ?_
        refine wS_end (by rfl) ?_
        refine eX_then ?_
        refine cW_ret ?_
        refine eX_then_ret ?_
        have hq : (some ((-1)) : Option ((Int))) = some _ := hm
        replace hq := someE hq
        subst hq
        refine eX_ret (vs := [.int .i64 ((-1))]) [.tmp 4] (by rfl) ⟨by (show lkE _ _ _ = _); kernel_rfl, trivial⟩ ?_
        exact ⟨rfl, hB⟩
      · have hm := condF hb24 hm
        refine cW_skip ?_
        refine eX_then ?_
        refine cW_seq ?_
        refine cW_region ?_
        refine wS_pure 2 [(4, .int .i64 (y20)), (23, .int .i64 (y20))] (by kernel_rfl) ?_
        refine wS_end (by rfl) ?_
        refine eX_then ?_
        refine cW_ret ?_
        have hq : (some y20 : Option ((Int))) = some _ := hm
        replace hq := someE hq
        subst hq
        refine eX_ret (vs := [.int .i64 (y20)]) [.tmp 4] (by rfl) ⟨by (show lkE _ _ _ = _); kernel_rfl, trivial⟩ ?_
        exact ⟨rfl, hB⟩

set_option maxRecDepth 100000 in
/-- spec.l00Own -/
theorem c_spec_l00Own {w0 : World} {l0 : List (Int)} {A0 : Option Addr} {cap0 : Nat} {fp0 : List Nat} {r : (List (Int))} (hm : m_spec_l00Own l0 = some r) (F0 : Sl 1 encI w0 fp0 A0 l0) :
    Calls Try.prog 88 #[.slice A0 (l0).length cap0] w0 fun e w' => ∃ A100 cap100 fp100, e = .returned (.slice A100 (r).length cap100) ∧ Ow 1 encI 2 w' fp100 A100 cap100 r ∧ (∀ x ∈ fp100, w0.heap.size ≤ x) ∧ Chg [] w0 w' := by
  have L0 := F0.low
  have hB : Chg [] w0 w0 := Chg.refl _ _
  have hZ := Nat.le_refl w0.heap.size
  unfold m_spec_l00Own at hm
  refine enterE (N := 6) Try.func88 (by rfl) Try.ntmps88 (by simp) [(0, .slice A0 (l0).length cap0)] (by rfl) (by kernel_rfl) (fun a => ?_)
  refine cW_seq ?_
  refine cW_region ?_
  refine wS_pure 1 [(2, .slice none 0 0)] (by kernel_rfl) ?_
  refine wS_end (by rfl) ?_
  refine eX_then ?_
  refine cW_seq ?_
  refine cW_region ?_
  refine wS_bs0 (α := Int) (enc := encI) (d := 3) (t := 25) (T := 2) (by kernel_rfl) el25 ?_
  intro b2 w3 G4 F5 hc6
  replace F0 := F0.chg hc6 Dj.nil
  replace hB := hB.inS hc6 inNil
  replace G4 := Nat.le_trans hZ G4
  replace G4 := low1 G4
  replace hZ := Nat.le_trans hZ hc6.size
  refine wS_pure 1 [(4, .slice A0 (l0).length cap0)] (by kernel_rfl) ?_
  obtain ⟨_, hk8, hm⟩ := bindE hm
  replace hk8 := apE hk8
  refine wS_appendAny (enc := encI) (l := (([] : List (Int)) : List (Int))) (l2 := (l0 : List (Int))) (d := 5) (t := 25) (T := 2) (A := (some ⟨b2, 0, none⟩)) (A2 := A0) (cap := 0) (cap2 := cap0) (by kernel_rfl) el25 encI_ok F5 F0 hk8 ?_
  intro w9 fp10 A11 cap12 F13 hc14 hp15
  have G17 := low_ap G4 hZ hp15
  replace F0 := F0.chg hc14 (Dj.of L0 G4)
  replace hB := hB.inS hc14 (inLow G4)
  replace hZ := Nat.le_trans hZ hc14.size
  refine wS_pure 1 [(2, .slice A11 ((([] : List (Int))) ++ l0).length cap12)] (by kernel_rfl) ?_
  refine wS_end (by rfl) ?_
  refine eX_then ?_
  refine cW_ret ?_
  have hq : (some ((([] : List (Int))) ++ l0) : Option ((List (Int)))) = some _ := hm
  replace hq := someE hq
  subst hq
  refine eX_ret (vs := [.slice A11 ((([] : List (Int))) ++ l0).length cap12]) [.tmp 2] (by rfl) ⟨by (show lkE _ _ _ = _); kernel_rfl, trivial⟩ ?_
  exact ⟨A11, cap12, fp10, rfl, F13, G17, hB⟩

set_option maxRecDepth 100000 in
/-- spec.l07Cross -/
theorem c_spec_l07Cross_bimplWiring {w0 : World} {q0_0 : Int} {l0_1 : List (List (Int))} {A0_1 : Option Addr} {cap0_1 : Nat} {fp0_1 : List Nat} {l0_2 : List (List (Int))} {A0_2 : Option Addr} {cap0_2 : Nat} {fp0_2 : List Nat} {l0_3 : List (Int)} {A0_3 : Option Addr} {cap0_3 : Nat} {fp0_3 : List Nat} {b0 : Nat} {p1 : Int} {p2 : Int} {r : (Bool)} (hm : m_spec_l07Cross_bimplWiring q0_0 l0_1 l0_2 l0_3 p1 p2 = some r) (F0_1 : SlR 1 encI w0 fp0_1 A0_1 l0_1) (F0_2 : SlR 1 encI w0 fp0_2 A0_2 l0_2) (F0_3 : Sl 1 encI w0 fp0_3 A0_3 l0_3) (F0 : Cl w0 b0 27 [.int .i64 (q0_0), .slice A0_1 (l0_1).length cap0_1, .slice A0_2 (l0_2).length cap0_2, .slice A0_3 (l0_3).length cap0_3]) :
    Calls Try.prog 120 #[.pointer (some ⟨b0, 0, none⟩), .int .i64 (p1), .int .i64 (p2)] w0 fun e w' => e = .returned (.bool (r)) ∧ Chg [] w0 w' := by
  have L0_1 := F0_1.low
  have L0_2 := F0_2.low
  have L0_3 := F0_3.low
  have L0 := lt1 F0.lt
  have hB : Chg [] w0 w0 := Chg.refl _ _
  have hZ := Nat.le_refl w0.heap.size
  unfold m_spec_l07Cross_bimplWiring at hm
  refine enterE (N := 51) Try.func120 (by rfl) Try.ntmps120 (by simp) [(0, .pointer (some ⟨b0, 0, none⟩)), (1, .int .i64 (p1)), (2, .int .i64 (p2))] (by rfl) (by kernel_rfl) (fun a => ?_)
  refine cW_seq ?_
  refine cW_region ?_
  refine wS_pure 1 [(6, .bool (false))] (by kernel_rfl) ?_
  refine wS_end (by rfl) ?_
  refine eX_then ?_
  refine cW_seq ?_
  refine cW_seq ?_
  refine cW_region ?_
  refine wS_pure 1 [(7, .int .i64 (0))] (by kernel_rfl) ?_
  refine wS_end (by rfl) ?_
  refine eX_then ?_
  obtain ⟨r89, hr90, hm⟩ := bindE hm
  have hm91 := hm
  refine cW_cut (fun a' w' => Sum.inl (()) = r89 ∧ Fr 51 [] a' ∧ Chg [] w0 w' ∧ w0.heap.size ≤ w'.heap.size) ?_ ?_
  · refine cW_block ?_
    refine cW_loop _ (fun (s92 : Int) a' w' => ∃ x83 : Int, x83 = s92 ∧ Fr 51 [(0, .pointer (some ⟨b0, 0, none⟩)), (1, .int .i64 (p1)), (2, .int .i64 (p2)), (7, .int .i64 (x83))] a' ∧ SlR 1 encI w' fp0_1 A0_1 l0_1 ∧ SlR 1 encI w' fp0_2 A0_2 l0_2 ∧ Sl 1 encI w' fp0_3 A0_3 l0_3 ∧ Cl w' b0 27 [.int .i64 (q0_0), .slice A0_1 (l0_1).length cap0_1, .slice A0_2 (l0_2).length cap0_2, .slice A0_3 (l0_3).length cap0_3] ∧ Chg [] w0 w' ∧ w0.heap.size ≤ w'.heap.size) hr90 (fun hst => ⟨0, rfl, Fr.of hst (by kernel_rfl), F0_1, F0_2, F0_3, F0, hB, hZ⟩) ?_
    rintro _ c93 a' w82 ⟨x83, rfl, hF84, F85, F86, F87, F88, hB, hZ⟩ hx94
    refine Fr.goOn hF84 (by kernel_rfl) ?_
    have hm := hx94
    unfold m_spec_l07Cross_bimplWiring_s1 at hm
    refine cW_seq ?_
    refine cW_seq ?_
    refine cW_region ?_
    refine wS_pure 4 [(12, .pointer (some ⟨b0, 1, none⟩)), (11, .pointer (some ⟨b0, 0, none⟩)), (10, .pointer (some ⟨b0, 0, none⟩)), (9, .int .i64 (x83))] (by kernel_rfl) ?_
    refine wS_load1 (d := 13) (T := 24) (ad := ⟨b0, 1, none⟩) (v := .slice A0_1 (l0_1).length cap0_1) (by kernel_rfl) vt24 ((F88).cell 1) ?_
    refine wS_pure 2 [(15, .bool (decide (x83 < (((l0_1).length : Int))))), (14, .int .i64 (((l0_1).length : Int)))] (by kernel_rfl) ?_
    refine wS_end (by rfl) ?_
    refine eX_then ?_
    refine cW_cond (t := decide (x83 < (((l0_1).length : Int)))) (by kernel_rfl) (fun hb95 => ?_) (fun hb95 => ?_)
    · have hm := condT hb95 hm
      refine cW_skip ?_
      refine eX_then ?_
      refine cW_seq ?_
      refine cW_block ?_
      refine cW_seq ?_
      refine cW_region ?_
      refine wS_pure 3 [(20, .pointer (some ⟨b0, 1, none⟩)), (19, .pointer (some ⟨b0, 0, none⟩)), (18, .pointer (some ⟨b0, 0, none⟩))] (by kernel_rfl) ?_
      refine wS_load1 (d := 21) (T := 24) (ad := ⟨b0, 1, none⟩) (v := .slice A0_1 (l0_1).length cap0_1) (by kernel_rfl) vt24 ((F88).cell 1) ?_
      refine wS_pure 1 [(22, .int .i64 (x83))] (by kernel_rfl) ?_
      obtain ⟨x96, hx97, hm⟩ := bindE hm
      refine wS_idx (d := 23) (T := 24) (A := A0_1) (n := (l0_1).length) (cap := cap0_1) (kd := .i64) (m := x83) (by kernel_rfl) sl24 (F85.is hx97) ?_
      obtain ⟨A98, cap99, hc101, F100, K102⟩ := SlR.row F85 hx97
      refine wS_load1 (d := 24) (T := 25) (ad := (elA A0_1 1 (x83) 0)) (v := .slice A98 (x96).length cap99) (by kernel_rfl) vt25 hc101 ?_
      refine wS_pure 1 [(8, .slice A98 (x96).length cap99)] (by kernel_rfl) ?_
      refine wS_end (by rfl) ?_
      refine eX_then ?_
      refine cW_seq ?_
      refine cW_region ?_
      refine wS_pure 1 [(25, .slice A98 (x96).length cap99)] (by kernel_rfl) ?_
      obtain ⟨x104, hx105, hm⟩ := bindE hm
      refine wS_idx (d := 26) (T := 25) (A := A98) (n := (x96).length) (cap := cap99) (kd := .i64) (m := 0) (by kernel_rfl) sl25 (F100.is hx105) ?_
      refine wS_load1 (d := 27) (T := 2) (ad := (elA A98 1 (0) 0)) (v := .int .i64 (x104)) (by kernel_rfl) vt2 (Sl.cell F100 hx105 0 (by rfl)) ?_
      refine wS_pure 3 [(30, .bool (x104 == p1)), (29, .bool (x104 == p1)), (28, .int .i64 (p1))] (by kernel_rfl) ?_
      refine wS_bool (x104 == p1) (fun hb106 => ?_) (fun hb106 => ?_)
      · have hm := condT hb106 hm
        rewrite [hb106]
        refine wS_pure 1 [(31, .slice A98 (x96).length cap99)] (by kernel_rfl) ?_
        obtain ⟨x107, hx108, hm⟩ := bindE hm
        refine wS_idx (d := 32) (T := 25) (A := A98) (n := (x96).length) (cap := cap99) (kd := .i64) (m := 1) (by kernel_rfl) sl25 (F100.is hx108) ?_
        refine wS_load1 (d := 33) (T := 2) (ad := (elA A98 1 (1) 0)) (v := .int .i64 (x107)) (by kernel_rfl) vt2 (Sl.cell F100 hx108 0 (by rfl)) ?_
        refine wS_pure 4 [(37, .bool (x107 == p2)), (36, .bool (x107 == p2)), (35, .bool (x107 == p2)), (34, .int .i64 (p2))] (by kernel_rfl) ?_
        refine wS_bool (x107 == p2) (fun hb109 => ?_) (fun hb109 => ?_)
        · have hm := condT hb109 hm
          rewrite [hb109]
          refine wS_pure 13 [(50, .bool (true)), (49, undef), (48, undef), (47, undef), (46, undef), (45, undef), (44, undef), (43, undef), (42, undef), (41, undef), (40, undef), (39, undef), (38, undef)] (by kernel_rfl) ?_
          refine wS_end (by rfl) ?_
          refine eX_then ?_
          refine cW_prune [(0, .pointer (some ⟨b0, 0, none⟩)), (1, .int .i64 (p1)), (2, .int .i64 (p2)), (7, .int .i64 (x83)), (50, .bool (true))] (by kernel_rfl) (by kernel_rfl) (fun a110 => ?_)
          refine cW_cond_t (by kernel_rfl) ?_
          refine cW_seq ?_
          refine cW_region ?_
          refine wS_pure 1 [(6, .bool (true))] (by kernel_rfl) ?_
          refine wS_end (by rfl) ?_
          refine eX_then ?_
          refine cW_ret ?_
          refine eX_block_ret ?_
          refine eX_then_ret ?_
          have hq : (some (Ctl.out (Sum.inr true)) : Option (Ctl (Int) (Sum (Unit) ((Bool))))) = some _ := hm
          replace hq := someE hq
          subst hq
          refine eX_outR hx94 (fun hr => ?_)
          subst hr
          refine eX_block_ret ?_
          refine eX_then_ret ?_
          refine eX_then_ret ?_
          have hq : (some true : Option ((Bool))) = some _ := hm91
          replace hq := someE hq
          subst hq
          refine eX_ret (vs := [.bool (true)]) [.tmp 6] (by rfl) ⟨by (show lkE _ _ _ = _); kernel_rfl, trivial⟩ ?_
          exact ⟨rfl, hB⟩
        · have hm := condF hb109 hm
          rewrite [hb109]
          refine wS_pure 1 [(38, .slice A98 (x96).length cap99)] (by kernel_rfl) ?_
          obtain ⟨x111, hx112, hm⟩ := bindE hm
          refine wS_idx (d := 39) (T := 25) (A := A98) (n := (x96).length) (cap := cap99) (kd := .i64) (m := 0) (by kernel_rfl) sl25 (F100.is hx112) ?_
          refine wS_load1 (d := 40) (T := 2) (ad := (elA A98 1 (0) 0)) (v := .int .i64 (x111)) (by kernel_rfl) vt2 (Sl.cell F100 hx112 0 (by rfl)) ?_
          refine wS_pure 3 [(43, .bool (x111 == p2)), (42, .bool (x111 == p2)), (41, .int .i64 (p2))] (by kernel_rfl) ?_
          refine wS_bool (x111 == p2) (fun hb113 => ?_) (fun hb113 => ?_)
          · have hm := condT hb113 hm
            rewrite [hb113]
            refine wS_pure 1 [(44, .slice A98 (x96).length cap99)] (by kernel_rfl) ?_
            obtain ⟨x114, hx115, hm⟩ := bindE hm
            refine wS_idx (d := 45) (T := 25) (A := A98) (n := (x96).length) (cap := cap99) (kd := .i64) (m := 1) (by kernel_rfl) sl25 (F100.is hx115) ?_
            refine wS_load1 (d := 46) (T := 2) (ad := (elA A98 1 (1) 0)) (v := .int .i64 (x114)) (by kernel_rfl) vt2 (Sl.cell F100 hx115 0 (by rfl)) ?_
            refine wS_pure 4 [(50, .bool (x114 == p1)), (49, .bool (x114 == p1)), (48, .bool (x114 == p1)), (47, .int .i64 (p1))] (by kernel_rfl) ?_
            refine wS_end (by rfl) ?_
            refine eX_then ?_
            refine cW_prune [(0, .pointer (some ⟨b0, 0, none⟩)), (1, .int .i64 (p1)), (2, .int .i64 (p2)), (7, .int .i64 (x83)), (50, .bool (x114 == p1))] (by kernel_rfl) (by kernel_rfl) (fun a116 => ?_)
            refine cW_cond (t := x114 == p1) (by kernel_rfl) (fun hb117 => ?_) (fun hb117 => ?_)
            · have hm := condT hb117 hm
              refine cW_seq ?_
              refine cW_region ?_
              refine wS_pure 1 [(6, .bool (true))] (by kernel_rfl) ?_
              refine wS_end (by rfl) ?_
              refine eX_then ?_
              refine cW_ret ?_
              refine eX_block_ret ?_
              refine eX_then_ret ?_
              have hq : (some (Ctl.out (Sum.inr true)) : Option (Ctl (Int) (Sum (Unit) ((Bool))))) = some _ := hm
              replace hq := someE hq
              subst hq
              refine eX_outR hx94 (fun hr => ?_)
              subst hr
              refine eX_block_ret ?_
              refine eX_then_ret ?_
              refine eX_then_ret ?_
              have hq : (some true : Option ((Bool))) = some _ := hm91
              replace hq := someE hq
              subst hq
              refine eX_ret (vs := [.bool (true)]) [.tmp 6] (by rfl) ⟨by (show lkE _ _ _ = _); kernel_rfl, trivial⟩ ?_
              exact ⟨rfl, hB⟩
            · have hm := condF hb117 hm
              refine cW_skip ?_
              refine eX_block ?_
              refine eX_then ?_
              refine cW_region ?_
              refine wS_pure 3 [(7, .int .i64 (wr (x83 + 1))), (17, .int .i64 (wr (x83 + 1))), (16, .int .i64 (x83))] (by kernel_rfl) ?_
              refine wS_end (by rfl) ?_
              have hq : (some (Ctl.next (wr (x83 + 1))) : Option (Ctl (Int) (Sum (Unit) ((Bool))))) = some _ := hm
              replace hq := someE hq
              subst hq
              exact eX_next hx94 (fun hst => ⟨wr (x83 + 1), rfl, Fr.of hst (by kernel_rfl), F85, F86, F87, F88, hB, hZ⟩)
          · have hm := condF hb113 hm
            rewrite [hb113]
            refine wS_pure 7 [(50, .bool (false)), (49, .bool (false)), (48, undef), (47, undef), (46, undef), (45, undef), (44, undef)] (by kernel_rfl) ?_
            refine wS_end (by rfl) ?_
            refine eX_then ?_
            refine cW_prune [(0, .pointer (some ⟨b0, 0, none⟩)), (1, .int .i64 (p1)), (2, .int .i64 (p2)), (7, .int .i64 (x83)), (50, .bool (false))] (by kernel_rfl) (by kernel_rfl) (fun a118 => ?_)
            refine cW_cond_f (by kernel_rfl) ?_
            refine cW_skip ?_
            refine eX_block ?_
            refine eX_then ?_
            refine cW_region ?_
            refine wS_pure 3 [(7, .int .i64 (wr (x83 + 1))), (17, .int .i64 (wr (x83 + 1))), (16, .int .i64 (x83))] (by kernel_rfl) ?_
            refine wS_end (by rfl) ?_
            have hq : (some (Ctl.next (wr (x83 + 1))) : Option (Ctl (Int) (Sum (Unit) ((Bool))))) = some _ := hm
            replace hq := someE hq
            subst hq
            exact eX_next hx94 (fun hst => ⟨wr (x83 + 1), rfl, Fr.of hst (by kernel_rfl), F85, F86, F87, F88, hB, hZ⟩)
      · have hm := condF hb106 hm
        rewrite [hb106]
        refine wS_pure 8 [(38, .slice A98 (x96).length cap99), (37, .bool (false)), (36, .bool (false)), (35, undef), (34, undef), (33, undef), (32, undef), (31, undef)] (by kernel_rfl) ?_
        obtain ⟨x119, hx120, hm⟩ := bindE hm
        refine wS_idx (d := 39) (T := 25) (A := A98) (n := (x96).length) (cap := cap99) (kd := .i64) (m := 0) (by kernel_rfl) sl25 (F100.is hx120) ?_
        refine wS_load1 (d := 40) (T := 2) (ad := (elA A98 1 (0) 0)) (v := .int .i64 (x119)) (by kernel_rfl) vt2 (Sl.cell F100 hx120 0 (by rfl)) ?_
        refine wS_pure 3 [(43, .bool (x119 == p2)), (42, .bool (x119 == p2)), (41, .int .i64 (p2))] (by kernel_rfl) ?_
        refine wS_bool (x119 == p2) (fun hb121 => ?_) (fun hb121 => ?_)
        · have hm := condT hb121 hm
          rewrite [hb121]
          refine wS_pure 1 [(44, .slice A98 (x96).length cap99)] (by kernel_rfl) ?_
          obtain ⟨x122, hx123, hm⟩ := bindE hm
          refine wS_idx (d := 45) (T := 25) (A := A98) (n := (x96).length) (cap := cap99) (kd := .i64) (m := 1) (by kernel_rfl) sl25 (F100.is hx123) ?_
          refine wS_load1 (d := 46) (T := 2) (ad := (elA A98 1 (1) 0)) (v := .int .i64 (x122)) (by kernel_rfl) vt2 (Sl.cell F100 hx123 0 (by rfl)) ?_
          refine wS_pure 4 [(50, .bool (x122 == p1)), (49, .bool (x122 == p1)), (48, .bool (x122 == p1)), (47, .int .i64 (p1))] (by kernel_rfl) ?_
          refine wS_end (by rfl) ?_
          refine eX_then ?_
          refine cW_prune [(0, .pointer (some ⟨b0, 0, none⟩)), (1, .int .i64 (p1)), (2, .int .i64 (p2)), (7, .int .i64 (x83)), (50, .bool (x122 == p1))] (by kernel_rfl) (by kernel_rfl) (fun a124 => ?_)
          refine cW_cond (t := x122 == p1) (by kernel_rfl) (fun hb125 => ?_) (fun hb125 => ?_)
          · have hm := condT hb125 hm
            refine cW_seq ?_
            refine cW_region ?_
            refine wS_pure 1 [(6, .bool (true))] (by kernel_rfl) ?_
            refine wS_end (by rfl) ?_
            refine eX_then ?_
            refine cW_ret ?_
            refine eX_block_ret ?_
            refine eX_then_ret ?_
            have hq : (some (Ctl.out (Sum.inr true)) : Option (Ctl (Int) (Sum (Unit) ((Bool))))) = some _ := hm
            replace hq := someE hq
            subst hq
            refine eX_outR hx94 (fun hr => ?_)
            subst hr
            refine eX_block_ret ?_
            refine eX_then_ret ?_
            refine eX_then_ret ?_
            have hq : (some true : Option ((Bool))) = some _ := hm91
            replace hq := someE hq
            subst hq
            refine eX_ret (vs := [.bool (true)]) [.tmp 6] (by rfl) ⟨by (show lkE _ _ _ = _); kernel_rfl, trivial⟩ ?_
            exact ⟨rfl, hB⟩
          · have hm := condF hb125 hm
            refine cW_skip ?_
            refine eX_block ?_
            refine eX_then ?_
            refine cW_region ?_
            refine wS_pure 3 [(7, .int .i64 (wr (x83 + 1))), (17, .int .i64 (wr (x83 + 1))), (16, .int .i64 (x83))] (by kernel_rfl) ?_
            refine wS_end (by rfl) ?_
            have hq : (some (Ctl.next (wr (x83 + 1))) : Option (Ctl (Int) (Sum (Unit) ((Bool))))) = some _ := hm
            replace hq := someE hq
            subst hq
            exact eX_next hx94 (fun hst => ⟨wr (x83 + 1), rfl, Fr.of hst (by kernel_rfl), F85, F86, F87, F88, hB, hZ⟩)
        · have hm := condF hb121 hm
          rewrite [hb121]
          refine wS_pure 7 [(50, .bool (false)), (49, .bool (false)), (48, undef), (47, undef), (46, undef), (45, undef), (44, undef)] (by kernel_rfl) ?_
          refine wS_end (by rfl) ?_
          refine eX_then ?_
          refine cW_prune [(0, .pointer (some ⟨b0, 0, none⟩)), (1, .int .i64 (p1)), (2, .int .i64 (p2)), (7, .int .i64 (x83)), (50, .bool (false))] (by kernel_rfl) (by kernel_rfl) (fun a126 => ?_)
          refine cW_cond_f (by kernel_rfl) ?_
          refine cW_skip ?_
          refine eX_block ?_
          refine eX_then ?_
          refine cW_region ?_
          refine wS_pure 3 [(7, .int .i64 (wr (x83 + 1))), (17, .int .i64 (wr (x83 + 1))), (16, .int .i64 (x83))] (by kernel_rfl) ?_
          refine wS_end (by rfl) ?_
          have hq : (some (Ctl.next (wr (x83 + 1))) : Option (Ctl (Int) (Sum (Unit) ((Bool))))) = some _ := hm
          replace hq := someE hq
          subst hq
          exact eX_next hx94 (fun hst => ⟨wr (x83 + 1), rfl, Fr.of hst (by kernel_rfl), F85, F86, F87, F88, hB, hZ⟩)
    · have hm := condF hb95 hm
      refine cW_exit ?_
      refine eX_then_exit ?_
      have hq : (some (Ctl.out (Sum.inl (()))) : Option (Ctl (Int) (Sum (Unit) ((Bool))))) = some _ := hm
      replace hq := someE hq
      subst hq
      refine eX_outX hx94 (fun hr127 => ?_)
      replace hr127 := hr127.symm
      subst hr127
      refine eX_block_hit ?_
      exact eX_J (fun hst => ⟨rfl, Fr.of hst (by kernel_rfl), hB, hZ⟩)
  · rintro a' w80 ⟨hJ, hF81, hB, hZ⟩
    subst hJ
    refine Fr.goX hF81 (by kernel_rfl) ?_
    refine eX_then ?_
    refine cW_seq ?_
    refine cW_region ?_
    refine wS_pure 1 [(6, .bool (false))] (by kernel_rfl) ?_
    refine wS_end (by rfl) ?_
    refine eX_then ?_
    refine cW_ret ?_
    have hq : (some false : Option ((Bool))) = some _ := hm
    replace hq := someE hq
    subst hq
    refine eX_ret (vs := [.bool (false)]) [.tmp 6] (by rfl) ⟨by (show lkE _ _ _ = _); kernel_rfl, trivial⟩ ?_
    exact ⟨rfl, hB⟩

set_option maxRecDepth 100000 in
/-- laws.toInt64S -/
theorem c_laws_toInt64S {w0 : World} {l0 : List (Int)} {A0 : Option Addr} {cap0 : Nat} {fp0 : List Nat} {r : (List (Int))} (hm : m_laws_toInt64S l0 = some r) (F0 : Sl 1 encI w0 fp0 A0 l0) :
    Calls Try.prog 50 #[.slice A0 (l0).length cap0] w0 fun e w' => ∃ A100 cap100 fp100, e = .returned (.slice A100 (r).length cap100) ∧ Ow 1 encI 2 w' fp100 A100 cap100 r ∧ (∀ x ∈ fp100, w0.heap.size ≤ x) ∧ Chg [] w0 w' := by
  have L0 := F0.low
  have hB : Chg [] w0 w0 := Chg.refl _ _
  have hZ := Nat.le_refl w0.heap.size
  unfold m_laws_toInt64S at hm
  refine enterE (N := 22) Try.func50 (by rfl) Try.ntmps50 (by simp) [(0, .slice A0 (l0).length cap0)] (by rfl) (by kernel_rfl) (fun a => ?_)
  refine cW_seq ?_
  refine cW_region ?_
  refine wS_pure 1 [(2, .slice none 0 0)] (by kernel_rfl) ?_
  refine wS_end (by rfl) ?_
  refine eX_then ?_
  refine cW_seq ?_
  refine cW_region ?_
  refine wS_pure 2 [(6, .int .i64 (((l0).length : Int))), (5, .slice A0 (l0).length cap0)] (by kernel_rfl) ?_
  obtain ⟨_, hk2, hm⟩ := bindE hm
  replace hk2 := mkE hk2
  refine wS_make (enc := encI) (x0 := (0 : Int)) (d := 7) (t := 25) (T := 2) (k1 := .i64) (k2 := .i64) (m := ((l0).length : Int)) (by kernel_rfl) el25 encI_ok (by rfl) hk2.1 hk2.2 ?_
  intro b3 w4 G5 F6 hc7
  replace F0 := F0.chg hc7 Dj.nil
  replace hB := hB.inS hc7 inNil
  replace G5 := Nat.le_trans hZ G5
  replace G5 := low1 G5
  replace hZ := Nat.le_trans hZ hc7.size
  refine wS_pure 1 [(3, .slice (some ⟨b3, 0, none⟩) (List.replicate (Int.toNat (((l0).length : Int))) ((0 : Int))).length (Int.toNat (((l0).length : Int))))] (by kernel_rfl) ?_
  refine wS_end (by rfl) ?_
  refine eX_then ?_
  refine cW_seq ?_
  refine cW_seq ?_
  refine cW_region ?_
  refine wS_pure 1 [(4, .int .i64 (0))] (by kernel_rfl) ?_
  refine wS_end (by rfl) ?_
  refine eX_then ?_
  obtain ⟨r43, hr44, hm⟩ := bindE hm
  have hm45 := hm
  refine cW_cut (fun a' w' => ∃ l34 : List (Int), l34 = r43 ∧ Fr 22 [(3, .slice (some ⟨b3, 0, none⟩) (l34).length (Int.toNat (((l0).length : Int))))] a' ∧ Ow 1 encI 2 w' [b3] (some ⟨b3, 0, none⟩) (Int.toNat (((l0).length : Int))) l34 ∧ Chg [] w0 w' ∧ w0.heap.size ≤ w'.heap.size) ?_ ?_
  · refine cW_block ?_
    refine cW_loop _ (fun (s46 : Int × (List (Int))) a' w' => ∃ x38 : Int, ∃ l39 : List (Int), (x38, l39) = s46 ∧ Fr 22 [(0, .slice A0 (l0).length cap0), (3, .slice (some ⟨b3, 0, none⟩) (l39).length (Int.toNat (((l0).length : Int)))), (4, .int .i64 (x38))] a' ∧ Sl 1 encI w' fp0 A0 l0 ∧ Ow 1 encI 2 w' [b3] (some ⟨b3, 0, none⟩) (Int.toNat (((l0).length : Int))) l39 ∧ Chg [] w0 w' ∧ w0.heap.size ≤ w'.heap.size) hr44 (fun hst => ⟨0, List.replicate (Int.toNat (((l0).length : Int))) ((0 : Int)), rfl, Fr.of hst (by kernel_rfl), F0, F6, hB, hZ⟩) ?_
    rintro _ c47 a' w37 ⟨x38, l39, rfl, hF40, F41, F42, hB, hZ⟩ hx48
    refine Fr.goOn hF40 (by kernel_rfl) ?_
    have hm := hx48
    unfold m_laws_toInt64S_s1 at hm
    refine cW_seq ?_
    refine cW_seq ?_
    refine cW_region ?_
    refine wS_pure 4 [(11, .bool (decide (x38 < (((l0).length : Int))))), (10, .int .i64 (((l0).length : Int))), (9, .slice A0 (l0).length cap0), (8, .int .i64 (x38))] (by kernel_rfl) ?_
    refine wS_end (by rfl) ?_
    refine eX_then ?_
    refine cW_cond (t := decide (x38 < (((l0).length : Int)))) (by kernel_rfl) (fun hb49 => ?_) (fun hb49 => ?_)
    · have hm := condT hb49 hm
      refine cW_skip ?_
      refine eX_then ?_
      refine cW_seq ?_
      refine cW_block ?_
      refine cW_region ?_
      refine wS_pure 4 [(17, .int .i64 (x38)), (16, .slice A0 (l0).length cap0), (15, .int .i64 (x38)), (14, .slice (some ⟨b3, 0, none⟩) (l39).length (Int.toNat (((l0).length : Int))))] (by kernel_rfl) ?_
      obtain ⟨x50, hx51, hm⟩ := bindE hm
      refine wS_idx (d := 18) (T := 25) (A := A0) (n := (l0).length) (cap := cap0) (kd := .i64) (m := x38) (by kernel_rfl) sl25 (F41.is hx51) ?_
      refine wS_load1 (d := 19) (T := 2) (ad := (elA A0 1 (x38) 0)) (v := .int .i64 (x50)) (by kernel_rfl) vt2 (Sl.cell F41 hx51 0 (by rfl)) ?_
      obtain ⟨x52, hx53, hm⟩ := bindE hm
      refine wS_idx (d := 20) (T := 25) (A := (some ⟨b3, 0, none⟩)) (n := (l39).length) (cap := (Int.toNat (((l0).length : Int)))) (kd := .i64) (m := x38) (by kernel_rfl) sl25 ((F42.sl encI_ok).is hx53) ?_
      refine wS_storeEl (x := x52) x50 (T := 2) (U := 2) (cap := (Int.toNat (((l0).length : Int)))) (j := 0) (A := (some ⟨b3, 0, none⟩)) (v := .int .i64 (x50)) (vs := [.int .i64 (x50)]) (m := x38) (by kernel_rfl) (by rfl) sz2 (by rfl) encI_ok F42 hx53 (by simp only [List.length_cons, List.length_nil]; omega) (by rfl) ?_
      intro w54 F55 hc56
      replace F41 := F41.chg hc56 (Dj.of L0 G5)
      replace hB := hB.inS hc56 (inLow G5)
      replace hZ := Nat.le_trans hZ hc56.size
      clear F42
      rewrite [show (l39).length = (l39.set (Int.toNat x38) x50).length from (List.length_set ..).symm]
      refine wS_end (by rfl) ?_
      refine eX_block ?_
      refine eX_then ?_
      refine cW_region ?_
      refine wS_pure 3 [(4, .int .i64 (wr (x38 + 1))), (13, .int .i64 (wr (x38 + 1))), (12, .int .i64 (x38))] (by kernel_rfl) ?_
      refine wS_end (by rfl) ?_
      have hq : (some (Ctl.next ((wr (x38 + 1), l39.set (Int.toNat x38) x50))) : Option (Ctl (Int × (List (Int))) ((List (Int))))) = some _ := hm
      replace hq := someE hq
      subst hq
      exact eX_next hx48 (fun hst => ⟨wr (x38 + 1), l39.set (Int.toNat x38) x50, rfl, Fr.of hst (by kernel_rfl), F41, F55, hB, hZ⟩)
    · have hm := condF hb49 hm
      refine cW_exit ?_
      refine eX_then_exit ?_
      have hq : (some (Ctl.out l39) : Option (Ctl (Int × (List (Int))) ((List (Int))))) = some _ := hm
      replace hq := someE hq
      subst hq
      refine eX_outX hx48 (fun hr57 => ?_)
      replace hr57 := hr57.symm
      subst hr57
      refine eX_block_hit ?_
      exact eX_J (fun hst => ⟨l39, rfl, Fr.of hst (by kernel_rfl), F42, hB, hZ⟩)
  · rintro a' w33 ⟨l34, hJ, hF35, F36, hB, hZ⟩
    subst hJ
    refine Fr.goX hF35 (by kernel_rfl) ?_
    refine eX_then ?_
    refine cW_seq ?_
    refine cW_region ?_
    refine wS_pure 2 [(2, .slice (some ⟨b3, 0, none⟩) (l34).length (Int.toNat (((l0).length : Int)))), (21, .slice (some ⟨b3, 0, none⟩) (l34).length (Int.toNat (((l0).length : Int))))] (by kernel_rfl) ?_
    refine wS_end (by rfl) ?_
    refine eX_then ?_
    refine cW_ret ?_
    have hq : (some l34 : Option ((List (Int)))) = some _ := hm
    replace hq := someE hq
    subst hq
    refine eX_ret (vs := [.slice (some ⟨b3, 0, none⟩) (l34).length (Int.toNat (((l0).length : Int)))]) [.tmp 2] (by rfl) ⟨by (show lkE _ _ _ = _); kernel_rfl, trivial⟩ ?_
    exact ⟨(some ⟨b3, 0, none⟩), (Int.toNat (((l0).length : Int))), [b3], rfl, F36, G5, hB⟩

set_option maxRecDepth 100000 in
/-- laws.toInt64SS -/
theorem c_laws_toInt64SS {w0 : World} {l0 : List (List (Int))} {A0 : Option Addr} {cap0 : Nat} {fp0 : List Nat} {r : (List (List (Int)))} (hm : m_laws_toInt64SS l0 = some r) (F0 : SlR 1 encI w0 fp0 A0 l0) :
    Calls Try.prog 83 #[.slice A0 (l0).length cap0] w0 fun e w' => ∃ A100 cap100 fp100 fr100, e = .returned (.slice A100 (r).length cap100) ∧ OwR 1 encI 25 2 w' fp100 fr100 A100 cap100 r ∧ (∀ x ∈ fp100 ++ fr100, w0.heap.size ≤ x) ∧ Chg [] w0 w' := by
  have L0 := F0.low
  have hB : Chg [] w0 w0 := Chg.refl _ _
  have hZ := Nat.le_refl w0.heap.size
  unfold m_laws_toInt64SS at hm
  refine enterE (N := 23) Try.func83 (by rfl) Try.ntmps83 (by simp) [(0, .slice A0 (l0).length cap0)] (by rfl) (by kernel_rfl) (fun a => ?_)
  refine cW_seq ?_
  refine cW_region ?_
  refine wS_pure 1 [(2, .slice none 0 0)] (by kernel_rfl) ?_
  refine wS_end (by rfl) ?_
  refine eX_then ?_
  refine cW_seq ?_
  refine cW_region ?_
  refine wS_pure 2 [(6, .int .i64 (((l0).length : Int))), (5, .slice A0 (l0).length cap0)] (by kernel_rfl) ?_
  obtain ⟨_, hk2, hm⟩ := bindE hm
  replace hk2 := mkE hk2
  refine wS_makeR (T2 := 2) (k := 1) (enc := encI) (d := 7) (t := 24) (T := 25) (k1 := .i64) (k2 := .i64) (m := ((l0).length : Int)) (by kernel_rfl) el24 hk2.1 hk2.2 ?_
  intro b3 w4 G5 F6 hc7
  replace F0 := F0.chg hc7 Dj.nil
  replace hB := hB.inS hc7 inNil
  replace G5 := Nat.le_trans hZ G5
  replace G5 := low1 G5
  replace hZ := Nat.le_trans hZ hc7.size
  replace G5 := lowApp G5 lowNil
  refine wS_pure 1 [(3, .slice (some ⟨b3, 0, none⟩) (List.replicate (Int.toNat (((l0).length : Int))) ([] : List (Int))).length (Int.toNat (((l0).length : Int))))] (by kernel_rfl) ?_
  refine wS_end (by rfl) ?_
  refine eX_then ?_
  refine cW_seq ?_
  refine cW_seq ?_
  refine cW_region ?_
  refine wS_pure 1 [(4, .int .i64 (0))] (by kernel_rfl) ?_
  refine wS_end (by rfl) ?_
  refine eX_then ?_
  obtain ⟨r109, hr110, hm⟩ := bindE hm
  have hm111 := hm
  refine cW_cut (fun a' w' => ∃ l88 : List (List (Int)), ∃ A89 : Option Addr, ∃ cap90 : Nat, ∃ fp91 : List Nat, ∃ fr93 : List Nat, l88 = r109 ∧ Fr 23 [(3, .slice A89 (l88).length cap90)] a' ∧ OwR 1 encI 25 2 w' fp91 fr93 A89 cap90 l88 ∧ (∀ x ∈ (fp91 ++ fr93), w0.heap.size ≤ x) ∧ Chg [] w0 w' ∧ w0.heap.size ≤ w'.heap.size) ?_ ?_
  · refine cW_block ?_
    refine cW_loop _ (fun (s112 : (List (List (Int))) × Int) a' w' => ∃ l98 : List (List (Int)), ∃ A99 : Option Addr, ∃ cap100 : Nat, ∃ fp101 : List Nat, ∃ fr103 : List Nat, ∃ x104 : Int, (l98, x104) = s112 ∧ Fr 23 [(0, .slice A0 (l0).length cap0), (3, .slice A99 (l98).length cap100), (4, .int .i64 (x104))] a' ∧ SlR 1 encI w' fp0 A0 l0 ∧ OwR 1 encI 25 2 w' fp101 fr103 A99 cap100 l98 ∧ (∀ x ∈ (fp101 ++ fr103), w0.heap.size ≤ x) ∧ Chg [] w0 w' ∧ w0.heap.size ≤ w'.heap.size) hr110 (fun hst => ⟨List.replicate (Int.toNat (((l0).length : Int))) ([] : List (Int)), (some ⟨b3, 0, none⟩), (Int.toNat (((l0).length : Int))), [b3], [], 0, rfl, Fr.of hst (by kernel_rfl), F0, F6, G5, hB, hZ⟩) ?_
    rintro _ c113 a' w97 ⟨l98, A99, cap100, fp101, fr103, x104, rfl, hF105, F106, F107, G108, hB, hZ⟩ hx114
    refine Fr.goOn hF105 (by kernel_rfl) ?_
    have hm := hx114
    unfold m_laws_toInt64SS_s1 at hm
    refine cW_seq ?_
    refine cW_seq ?_
    refine cW_region ?_
    refine wS_pure 4 [(11, .bool (decide (x104 < (((l0).length : Int))))), (10, .int .i64 (((l0).length : Int))), (9, .slice A0 (l0).length cap0), (8, .int .i64 (x104))] (by kernel_rfl) ?_
    refine wS_end (by rfl) ?_
    refine eX_then ?_
    refine cW_cond (t := decide (x104 < (((l0).length : Int)))) (by kernel_rfl) (fun hb115 => ?_) (fun hb115 => ?_)
    · have hm := condT hb115 hm
      refine cW_skip ?_
      refine eX_then ?_
      refine cW_seq ?_
      refine cW_block ?_
      refine cW_region ?_
      refine wS_pure 4 [(17, .int .i64 (x104)), (16, .slice A0 (l0).length cap0), (15, .int .i64 (x104)), (14, .slice A99 (l98).length cap100)] (by kernel_rfl) ?_
      obtain ⟨x116, hx117, hm⟩ := bindE hm
      refine wS_idx (d := 18) (T := 24) (A := A0) (n := (l0).length) (cap := cap0) (kd := .i64) (m := x104) (by kernel_rfl) sl24 (F106.is hx117) ?_
      obtain ⟨A118, cap119, hc121, F120, K122⟩ := SlR.row F106 hx117
      refine wS_load1 (d := 19) (T := 25) (ad := (elA A0 1 (x104) 0)) (v := .slice A118 (x116).length cap119) (by kernel_rfl) vt25 hc121 ?_
      obtain ⟨y124, hy125, hm⟩ := bindE hm
      refine wS_calls (d := 20) (f := 50) (vs := [.slice A118 (x116).length cap119]) (by kernel_rfl) ent50 (c_laws_toInt64S hy125 F120) ?_
      rintro _ w126 ⟨A128, cap129, fp130, rfl, F131, G132, hc127⟩
      have D135 : Dj (fp101 ++ fr103) fp130 := Dj.of F107.low G132
      replace F106 := F106.chg hc127 Dj.nil
      replace F107 := F107.chg hc127 Dj.nil
      replace F120 := F120.chg hc127 Dj.nil
      replace hB := hB.inS hc127 inNil
      replace G132 := low_le hZ G132
      replace hZ := Nat.le_trans hZ hc127.size
      refine ⟨.slice A128 (y124).length cap129, rfl, ?_⟩
      obtain ⟨x136, hx137, hm⟩ := bindE hm
      refine wS_idx (d := 21) (T := 24) (A := A99) (n := (l98).length) (cap := cap100) (kd := .i64) (m := x104) (by kernel_rfl) sl24 ((F107.slr encI_ok).is hx137) ?_
      refine wS_storeRow (k := 1) (enc := encI) (x := x136) (l := y124) (T := 25) (U := 25) (cap := cap100) (c := cap129) (A := A99) (B := A128) (m := x104) (by kernel_rfl) sz25 F107 F131 D135 hx137 ?_
      intro w141 F142 hc143
      have G145 := lowApp (low_inl G108) (lowApp (low_inr G108) G132)
      have Dm146 := Dj.inl D135.symm
      replace F106 := F106.chg hc143 (Dj.inl (Dj.of L0 G108))
      replace F120 := F120.chg hc143 (Dj.inl (Dj.of L0 G108))
      replace F131 := F131.chg hc143 (Dj.inl (D135).symm)
      replace hB := hB.inS hc143 (memS_inl (inLow G108))
      replace hZ := Nat.le_trans hZ hc143.size
      replace F131 := (F131.sl encI_ok)
      rewrite [show (l98).length = (l98.set (Int.toNat x104) y124).length from (List.length_set ..).symm]
      refine wS_end (by rfl) ?_
      refine eX_block ?_
      refine eX_then ?_
      refine cW_region ?_
      refine wS_pure 3 [(4, .int .i64 (wr (x104 + 1))), (13, .int .i64 (wr (x104 + 1))), (12, .int .i64 (x104))] (by kernel_rfl) ?_
      refine wS_end (by rfl) ?_
      have hq : (some (Ctl.next ((l98.set (Int.toNat x104) y124, wr (x104 + 1)))) : Option (Ctl ((List (List (Int))) × Int) ((List (List (Int)))))) = some _ := hm
      replace hq := someE hq
      subst hq
      exact eX_next hx114 (fun hst => ⟨l98.set (Int.toNat x104) y124, A99, cap100, fp101, (fr103 ++ fp130), wr (x104 + 1), rfl, Fr.of hst (by kernel_rfl), F106, F142, G145, hB, hZ⟩)
    · have hm := condF hb115 hm
      refine cW_exit ?_
      refine eX_then_exit ?_
      have hq : (some (Ctl.out l98) : Option (Ctl ((List (List (Int))) × Int) ((List (List (Int)))))) = some _ := hm
      replace hq := someE hq
      subst hq
      refine eX_outX hx114 (fun hr147 => ?_)
      replace hr147 := hr147.symm
      subst hr147
      refine eX_block_hit ?_
      exact eX_J (fun hst => ⟨l98, A99, cap100, fp101, fr103, rfl, Fr.of hst (by kernel_rfl), F107, G108, hB, hZ⟩)
  · rintro a' w87 ⟨l88, A89, cap90, fp91, fr93, hJ, hF94, F95, G96, hB, hZ⟩
    subst hJ
    refine Fr.goX hF94 (by kernel_rfl) ?_
    refine eX_then ?_
    refine cW_seq ?_
    refine cW_region ?_
    refine wS_pure 2 [(2, .slice A89 (l88).length cap90), (22, .slice A89 (l88).length cap90)] (by kernel_rfl) ?_
    refine wS_end (by rfl) ?_
    refine eX_then ?_
    refine cW_ret ?_
    have hq : (some l88 : Option ((List (List (Int))))) = some _ := hm
    replace hq := someE hq
    subst hq
    refine eX_ret (vs := [.slice A89 (l88).length cap90]) [.tmp 2] (by rfl) ⟨by (show lkE _ _ _ = _); kernel_rfl, trivial⟩ ?_
    exact ⟨A89, cap90, fp91, fr93, rfl, F95, G96, hB⟩

set_option maxRecDepth 100000 in
/-- laws.toWiring -/
theorem c_laws_toWiring {w0 : World} {p0_0 : Int} {l0_1 : List (List (Int))} {A0_1 : Option Addr} {cap0_1 : Nat} {fp0_1 : List Nat} {l0_2 : List (List (Int))} {A0_2 : Option Addr} {cap0_2 : Nat} {fp0_2 : List Nat} {l0_3 : List (Int)} {A0_3 : Option Addr} {cap0_3 : Nat} {fp0_3 : List Nat} {r : (Int × (List (List (Int))) × (List (List (Int))) × (List (Int)))} (hm : m_laws_toWiring p0_0 l0_1 l0_2 l0_3 = some r) (F0_1 : SlR 1 encI w0 fp0_1 A0_1 l0_1) (F0_2 : SlR 1 encI w0 fp0_2 A0_2 l0_2) (F0_3 : Sl 1 encI w0 fp0_3 A0_3 l0_3) :
    Calls Try.prog 39 #[.agg #[.int .i64 (p0_0), .slice A0_1 (l0_1).length cap0_1, .slice A0_2 (l0_2).length cap0_2, .slice A0_3 (l0_3).length cap0_3]] w0 fun e w' => ∃ A100_1 cap100_1 fp100_1 fr100_1, ∃ A100_2 cap100_2 fp100_2 fr100_2, ∃ A100_3 cap100_3 fp100_3, e = .returned (.agg #[.int .i64 (r.1), .slice A100_1 (r.2.1).length cap100_1, .slice A100_2 (r.2.2.1).length cap100_2, .slice A100_3 (r.2.2.2).length cap100_3]) ∧ OwR 1 encI 25 2 w' fp100_1 fr100_1 A100_1 cap100_1 r.2.1 ∧ (∀ x ∈ fp100_1 ++ fr100_1, w0.heap.size ≤ x) ∧ OwR 1 encI 25 2 w' fp100_2 fr100_2 A100_2 cap100_2 r.2.2.1 ∧ (∀ x ∈ fp100_2 ++ fr100_2, w0.heap.size ≤ x) ∧ Ow 1 encI 2 w' fp100_3 A100_3 cap100_3 r.2.2.2 ∧ (∀ x ∈ fp100_3, w0.heap.size ≤ x) ∧ Dj (fp100_1 ++ fr100_1) (fp100_2 ++ fr100_2) ∧ Dj (fp100_1 ++ fr100_1) fp100_3 ∧ Dj (fp100_2 ++ fr100_2) fp100_3 ∧ Chg [] w0 w' := by
  have L0_1 := F0_1.low
  have L0_2 := F0_2.low
  have L0_3 := F0_3.low
  have hB : Chg [] w0 w0 := Chg.refl _ _
  have hZ := Nat.le_refl w0.heap.size
  unfold m_laws_toWiring at hm
  refine enterE (N := 20) Try.func39 (by rfl) Try.ntmps39 (by simp) [(0, .agg #[.int .i64 (p0_0), .slice A0_1 (l0_1).length cap0_1, .slice A0_2 (l0_2).length cap0_2, .slice A0_3 (l0_3).length cap0_3])] (by rfl) (by kernel_rfl) (fun a => ?_)
  refine cW_seq ?_
  refine cW_region ?_
  refine wS_box (d := 1) (T := 59) (x := .agg #[.int .i64 (p0_0), .slice A0_1 (l0_1).length cap0_1, .slice A0_2 (l0_2).length cap0_2, .slice A0_3 (l0_3).length cap0_3]) (by kernel_rfl) ?_
  intro b4 w5 G6 F7 hc8
  replace F7 : Cl w5 b4 59 [.int .i64 (p0_0), .slice A0_1 (l0_1).length cap0_1, .slice A0_2 (l0_2).length cap0_2, .slice A0_3 (l0_3).length cap0_3] := F7
  replace F0_1 := F0_1.chg hc8 Dj.nil
  replace F0_2 := F0_2.chg hc8 Dj.nil
  replace F0_3 := F0_3.chg hc8 Dj.nil
  replace hB := hB.inS hc8 inNil
  replace G6 := Nat.le_trans hZ G6
  replace hZ := Nat.le_trans hZ hc8.size
  refine wS_alloc (d := 2) (T := 27) (z := .agg #[.int .i64 (0), .slice none 0 0, .slice none 0 0, .slice none 0 0]) (by kernel_rfl) (by kernel_rfl) ?_
  intro b10 w11 G12 F13 hc14
  replace F13 : Cl w11 b10 27 [.int .i64 (0), .slice none 0 0, .slice none 0 0, .slice none 0 0] := F13
  have D16 : Dj [b4] [b10] := Dj.of (lt1 F7.lt) (low1 G12)
  replace F0_1 := F0_1.chg hc14 Dj.nil
  replace F0_2 := F0_2.chg hc14 Dj.nil
  replace F0_3 := F0_3.chg hc14 Dj.nil
  replace F7 := F7.chg hc14 notNil
  replace hB := hB.inS hc14 inNil
  replace G12 := Nat.le_trans hZ G12
  replace hZ := Nat.le_trans hZ hc14.size
  refine wS_end (by rfl) ?_
  refine eX_then ?_
  refine cW_seq ?_
  refine cW_region ?_
  refine wS_alloc (d := 3) (T := 27) (z := .agg #[.int .i64 (0), .slice none 0 0, .slice none 0 0, .slice none 0 0]) (by kernel_rfl) (by kernel_rfl) ?_
  intro b17 w18 G19 F20 hc21
  replace F20 : Cl w18 b17 27 [.int .i64 (0), .slice none 0 0, .slice none 0 0, .slice none 0 0] := F20
  have D23 : Dj [b4] [b17] := Dj.of (lt1 F7.lt) (low1 G19)
  have D24 : Dj [b10] [b17] := Dj.of (lt1 F13.lt) (low1 G19)
  replace F0_1 := F0_1.chg hc21 Dj.nil
  replace F0_2 := F0_2.chg hc21 Dj.nil
  replace F0_3 := F0_3.chg hc21 Dj.nil
  replace F7 := F7.chg hc21 notNil
  replace F13 := F13.chg hc21 notNil
  replace hB := hB.inS hc21 inNil
  replace G19 := Nat.le_trans hZ G19
  replace hZ := Nat.le_trans hZ hc21.size
  refine wS_end (by rfl) ?_
  refine eX_then ?_
  refine cW_seq ?_
  refine cW_region ?_
  refine wS_pure 1 [(4, .pointer (some ⟨b4, 0, none⟩))] (by kernel_rfl) ?_
  refine wS_load1 (d := 5) (T := 2) (ad := ⟨b4, 0, none⟩) (v := .int .i64 (p0_0)) (by kernel_rfl) vt2 ((F7).cell 0) ?_
  refine wS_pure 1 [(6, .pointer (some ⟨b17, 0, none⟩))] (by kernel_rfl) ?_
  refine wS_store (T := 2) (g := b17) (o := 0) (ad := ⟨b17, 0, none⟩) (v := .int .i64 (p0_0)) (vs := [.int .i64 (p0_0)]) (by kernel_rfl) (by rfl) sz2 (by rfl) (by rfl) F20 (by simp only [List.length_cons, List.length_nil]; omega) ?_
  intro w25 F26 hc27
  replace F0_1 := F0_1.chg hc27 (Dj.of L0_1 (low1 G19))
  replace F0_2 := F0_2.chg hc27 (Dj.of L0_2 (low1 G19))
  replace F0_3 := F0_3.chg hc27 (Dj.of L0_3 (low1 G19))
  replace F7 := F7.chg hc27 (dj1 D23)
  replace F13 := F13.chg hc27 (dj1 D24)
  replace hB := hB.inS hc27 (inLow (low1 G19))
  replace hZ := Nat.le_trans hZ hc27.size
  replace F26 : Cl w25 b17 27 [.int .i64 (p0_0), .slice none 0 0, .slice none 0 0, .slice none 0 0] := F26
  clear F20
  refine wS_end (by rfl) ?_
  refine eX_then ?_
  refine cW_seq ?_
  refine cW_region ?_
  refine wS_pure 1 [(7, .pointer (some ⟨b4, 1, none⟩))] (by kernel_rfl) ?_
  refine wS_load1 (d := 8) (T := 24) (ad := ⟨b4, 1, none⟩) (v := .slice A0_1 (l0_1).length cap0_1) (by kernel_rfl) vt24 ((F7).cell 1) ?_
  obtain ⟨y28, hy29, hm⟩ := bindE hm
  refine wS_calls (d := 9) (f := 83) (vs := [.slice A0_1 (l0_1).length cap0_1]) (by kernel_rfl) ent83 (c_laws_toInt64SS hy29 F0_1) ?_
  rintro _ w30 ⟨A32, cap33, fp34, fr37, rfl, F35, G36, hc31⟩
  have D39 : Dj [b4] (fp34 ++ fr37) := Dj.of (lt1 F7.lt) G36
  have D40 : Dj [b10] (fp34 ++ fr37) := Dj.of (lt1 F13.lt) G36
  have D41 : Dj [b17] (fp34 ++ fr37) := Dj.of (lt1 F26.lt) G36
  replace F0_1 := F0_1.chg hc31 Dj.nil
  replace F0_2 := F0_2.chg hc31 Dj.nil
  replace F0_3 := F0_3.chg hc31 Dj.nil
  replace F7 := F7.chg hc31 notNil
  replace F13 := F13.chg hc31 notNil
  replace F26 := F26.chg hc31 notNil
  replace hB := hB.inS hc31 inNil
  replace G36 := low_le hZ G36
  replace hZ := Nat.le_trans hZ hc31.size
  refine ⟨.slice A32 (y28).length cap33, rfl, ?_⟩
  refine wS_pure 1 [(10, .pointer (some ⟨b17, 1, none⟩))] (by kernel_rfl) ?_
  refine wS_store (T := 24) (g := b17) (o := 1) (ad := ⟨b17, 1, none⟩) (v := .slice A32 (y28).length cap33) (vs := [.slice A32 (y28).length cap33]) (by kernel_rfl) (by rfl) sz24 (by rfl) (by rfl) F26 (by simp only [List.length_cons, List.length_nil]; omega) ?_
  intro w42 F43 hc44
  replace F0_1 := F0_1.chg hc44 (Dj.of L0_1 (low1 G19))
  replace F0_2 := F0_2.chg hc44 (Dj.of L0_2 (low1 G19))
  replace F0_3 := F0_3.chg hc44 (Dj.of L0_3 (low1 G19))
  replace F7 := F7.chg hc44 (dj1 D23)
  replace F13 := F13.chg hc44 (dj1 D24)
  replace F35 := F35.chg hc44 (D41).symm
  replace hB := hB.inS hc44 (inLow (low1 G19))
  replace hZ := Nat.le_trans hZ hc44.size
  replace F43 : Cl w42 b17 27 [.int .i64 (p0_0), .slice A32 (y28).length cap33, .slice none 0 0, .slice none 0 0] := F43
  clear F26
  refine wS_end (by rfl) ?_
  refine eX_then ?_
  refine cW_seq ?_
  refine cW_region ?_
  refine wS_pure 1 [(11, .pointer (some ⟨b4, 2, none⟩))] (by kernel_rfl) ?_
  refine wS_load1 (d := 12) (T := 24) (ad := ⟨b4, 2, none⟩) (v := .slice A0_2 (l0_2).length cap0_2) (by kernel_rfl) vt24 ((F7).cell 2) ?_
  obtain ⟨y45, hy46, hm⟩ := bindE hm
  refine wS_calls (d := 13) (f := 83) (vs := [.slice A0_2 (l0_2).length cap0_2]) (by kernel_rfl) ent83 (c_laws_toInt64SS hy46 F0_2) ?_
  rintro _ w47 ⟨A49, cap50, fp51, fr54, rfl, F52, G53, hc48⟩
  have D56 : Dj [b4] (fp51 ++ fr54) := Dj.of (lt1 F7.lt) G53
  have D57 : Dj [b10] (fp51 ++ fr54) := Dj.of (lt1 F13.lt) G53
  have D58 : Dj [b17] (fp51 ++ fr54) := Dj.of (lt1 F43.lt) G53
  have D59 : Dj (fp34 ++ fr37) (fp51 ++ fr54) := Dj.of F35.low G53
  replace F0_1 := F0_1.chg hc48 Dj.nil
  replace F0_2 := F0_2.chg hc48 Dj.nil
  replace F0_3 := F0_3.chg hc48 Dj.nil
  replace F7 := F7.chg hc48 notNil
  replace F13 := F13.chg hc48 notNil
  replace F43 := F43.chg hc48 notNil
  replace F35 := F35.chg hc48 Dj.nil
  replace hB := hB.inS hc48 inNil
  replace G53 := low_le hZ G53
  replace hZ := Nat.le_trans hZ hc48.size
  refine ⟨.slice A49 (y45).length cap50, rfl, ?_⟩
  refine wS_pure 1 [(14, .pointer (some ⟨b17, 2, none⟩))] (by kernel_rfl) ?_
  refine wS_store (T := 24) (g := b17) (o := 2) (ad := ⟨b17, 2, none⟩) (v := .slice A49 (y45).length cap50) (vs := [.slice A49 (y45).length cap50]) (by kernel_rfl) (by rfl) sz24 (by rfl) (by rfl) F43 (by simp only [List.length_cons, List.length_nil]; omega) ?_
  intro w60 F61 hc62
  replace F0_1 := F0_1.chg hc62 (Dj.of L0_1 (low1 G19))
  replace F0_2 := F0_2.chg hc62 (Dj.of L0_2 (low1 G19))
  replace F0_3 := F0_3.chg hc62 (Dj.of L0_3 (low1 G19))
  replace F7 := F7.chg hc62 (dj1 D23)
  replace F13 := F13.chg hc62 (dj1 D24)
  replace F35 := F35.chg hc62 (D41).symm
  replace F52 := F52.chg hc62 (D58).symm
  replace hB := hB.inS hc62 (inLow (low1 G19))
  replace hZ := Nat.le_trans hZ hc62.size
  replace F61 : Cl w60 b17 27 [.int .i64 (p0_0), .slice A32 (y28).length cap33, .slice A49 (y45).length cap50, .slice none 0 0] := F61
  clear F43
  refine wS_end (by rfl) ?_
  refine eX_then ?_
  refine cW_seq ?_
  refine cW_region ?_
  refine wS_pure 1 [(15, .pointer (some ⟨b4, 3, none⟩))] (by kernel_rfl) ?_
  refine wS_load1 (d := 16) (T := 25) (ad := ⟨b4, 3, none⟩) (v := .slice A0_3 (l0_3).length cap0_3) (by kernel_rfl) vt25 ((F7).cell 3) ?_
  obtain ⟨y63, hy64, hm⟩ := bindE hm
  refine wS_calls (d := 17) (f := 50) (vs := [.slice A0_3 (l0_3).length cap0_3]) (by kernel_rfl) ent50 (c_laws_toInt64S hy64 F0_3) ?_
  rintro _ w65 ⟨A67, cap68, fp69, rfl, F70, G71, hc66⟩
  have D74 : Dj [b4] fp69 := Dj.of (lt1 F7.lt) G71
  have D75 : Dj [b10] fp69 := Dj.of (lt1 F13.lt) G71
  have D76 : Dj [b17] fp69 := Dj.of (lt1 F61.lt) G71
  have D77 : Dj (fp34 ++ fr37) fp69 := Dj.of F35.low G71
  have D78 : Dj (fp51 ++ fr54) fp69 := Dj.of F52.low G71
  replace F0_1 := F0_1.chg hc66 Dj.nil
  replace F0_2 := F0_2.chg hc66 Dj.nil
  replace F0_3 := F0_3.chg hc66 Dj.nil
  replace F7 := F7.chg hc66 notNil
  replace F13 := F13.chg hc66 notNil
  replace F61 := F61.chg hc66 notNil
  replace F35 := F35.chg hc66 Dj.nil
  replace F52 := F52.chg hc66 Dj.nil
  replace hB := hB.inS hc66 inNil
  replace G71 := low_le hZ G71
  replace hZ := Nat.le_trans hZ hc66.size
  refine ⟨.slice A67 (y63).length cap68, rfl, ?_⟩
  refine wS_pure 1 [(18, .pointer (some ⟨b17, 3, none⟩))] (by kernel_rfl) ?_
  refine wS_store (T := 25) (g := b17) (o := 3) (ad := ⟨b17, 3, none⟩) (v := .slice A67 (y63).length cap68) (vs := [.slice A67 (y63).length cap68]) (by kernel_rfl) (by rfl) sz25 (by rfl) (by rfl) F61 (by simp only [List.length_cons, List.length_nil]; omega) ?_
  intro w79 F80 hc81
  replace F0_1 := F0_1.chg hc81 (Dj.of L0_1 (low1 G19))
  replace F0_2 := F0_2.chg hc81 (Dj.of L0_2 (low1 G19))
  replace F0_3 := F0_3.chg hc81 (Dj.of L0_3 (low1 G19))
  replace F7 := F7.chg hc81 (dj1 D23)
  replace F13 := F13.chg hc81 (dj1 D24)
  replace F35 := F35.chg hc81 (D41).symm
  replace F52 := F52.chg hc81 (D58).symm
  replace F70 := F70.chg hc81 (D76).symm
  replace hB := hB.inS hc81 (inLow (low1 G19))
  replace hZ := Nat.le_trans hZ hc81.size
  replace F80 : Cl w79 b17 27 [.int .i64 (p0_0), .slice A32 (y28).length cap33, .slice A49 (y45).length cap50, .slice A67 (y63).length cap68] := F80
  clear F61
  refine wS_end (by rfl) ?_
  refine eX_then ?_
  refine cW_seq ?_
  refine cW_region ?_
  refine wS_loadA (d := 19) (T := 27) (ad := ⟨b17, 0, none⟩) (vs := [.int .i64 (p0_0), .slice A32 (y28).length cap33, .slice A49 (y45).length cap50, .slice A67 (y63).length cap68]) (by kernel_rfl) vt27 (fun i u hu => box_cells F80 0 hu (by rfl)) ?_
  refine wS_store (T := 27) (g := b10) (o := 0) (ad := ⟨b10, 0, none⟩) (v := .agg #[.int .i64 (p0_0), .slice A32 (y28).length cap33, .slice A49 (y45).length cap50, .slice A67 (y63).length cap68]) (vs := [.int .i64 (p0_0), .slice A32 (y28).length cap33, .slice A49 (y45).length cap50, .slice A67 (y63).length cap68]) (by kernel_rfl) (by rfl) sz27 (by rfl) (by rfl) F13 (by simp only [List.length_cons, List.length_nil]; omega) ?_
  intro w82 F83 hc84
  replace F0_1 := F0_1.chg hc84 (Dj.of L0_1 (low1 G12))
  replace F0_2 := F0_2.chg hc84 (Dj.of L0_2 (low1 G12))
  replace F0_3 := F0_3.chg hc84 (Dj.of L0_3 (low1 G12))
  replace F7 := F7.chg hc84 (dj1 D16)
  replace F80 := F80.chg hc84 (dj1 (D24).symm)
  replace F35 := F35.chg hc84 (D40).symm
  replace F52 := F52.chg hc84 (D57).symm
  replace F70 := F70.chg hc84 (D75).symm
  replace hB := hB.inS hc84 (inLow (low1 G12))
  replace hZ := Nat.le_trans hZ hc84.size
  replace F83 : Cl w82 b10 27 [.int .i64 (p0_0), .slice A32 (y28).length cap33, .slice A49 (y45).length cap50, .slice A67 (y63).length cap68] := F83
  clear F13
  refine wS_end (by rfl) ?_
  refine eX_then ?_
  refine cW_ret ?_
  have hq : (some ((p0_0, y28, y45, y63)) : Option ((Int × (List (List (Int))) × (List (List (Int))) × (List (Int))))) = some _ := hm
  replace hq := someE hq
  subst hq
  refine eX_ret (vs := [.agg #[.int .i64 (p0_0), .slice A32 (y28).length cap33, .slice A49 (y45).length cap50, .slice A67 (y63).length cap68]]) [.cell 2 27] (by rfl) ⟨⟨⟨b10, 0, none⟩, by kernel_rfl, run_loadVarA (vs := [.int .i64 (p0_0), .slice A32 (y28).length cap33, .slice A49 (y45).length cap50, .slice A67 (y63).length cap68]) vt27 (fun i u hu => by exact box_cells F83 0 hu (by rfl))⟩, trivial⟩ ?_
  exact ⟨A32, cap33, fp34, fr37, A49, cap50, fp51, fr54, A67, cap68, fp69, rfl, F35, G36, F52, G53, F70, G71, D59, D77, D78, hB⟩

set_option maxRecDepth 100000 in
/-- laws.eqWiring -/
theorem c_laws_eqWiring {w0 : World} {p0_0 : Int} {l0_1 : List (List (Int))} {A0_1 : Option Addr} {cap0_1 : Nat} {fp0_1 : List Nat} {l0_2 : List (List (Int))} {A0_2 : Option Addr} {cap0_2 : Nat} {fp0_2 : List Nat} {l0_3 : List (Int)} {A0_3 : Option Addr} {cap0_3 : Nat} {fp0_3 : List Nat} {p1_0 : Int} {l1_1 : List (List (Int))} {A1_1 : Option Addr} {cap1_1 : Nat} {fp1_1 : List Nat} {l1_2 : List (List (Int))} {A1_2 : Option Addr} {cap1_2 : Nat} {fp1_2 : List Nat} {l1_3 : List (Int)} {A1_3 : Option Addr} {cap1_3 : Nat} {fp1_3 : List Nat} {r : (Bool)} (hm : m_laws_eqWiring p0_0 l0_1 l0_2 l0_3 p1_0 l1_1 l1_2 l1_3 = some r) (F0_1 : SlR 1 encI w0 fp0_1 A0_1 l0_1) (F0_2 : SlR 1 encI w0 fp0_2 A0_2 l0_2) (F0_3 : Sl 1 encI w0 fp0_3 A0_3 l0_3) (F1_1 : SlR 1 encI w0 fp1_1 A1_1 l1_1) (F1_2 : SlR 1 encI w0 fp1_2 A1_2 l1_2) (F1_3 : Sl 1 encI w0 fp1_3 A1_3 l1_3) :
    Calls Try.prog 40 #[.agg #[.int .i64 (p0_0), .slice A0_1 (l0_1).length cap0_1, .slice A0_2 (l0_2).length cap0_2, .slice A0_3 (l0_3).length cap0_3], .agg #[.int .i64 (p1_0), .slice A1_1 (l1_1).length cap1_1, .slice A1_2 (l1_2).length cap1_2, .slice A1_3 (l1_3).length cap1_3]] w0 fun e w' => e = .returned (.bool (r)) ∧ Chg [] w0 w' := by
  have L0_1 := F0_1.low
  have L0_2 := F0_2.low
  have L0_3 := F0_3.low
  have L1_1 := F1_1.low
  have L1_2 := F1_2.low
  have L1_3 := F1_3.low
  have hB : Chg [] w0 w0 := Chg.refl _ _
  have hZ := Nat.le_refl w0.heap.size
  unfold m_laws_eqWiring at hm
  refine enterE (N := 28) Try.func40 (by rfl) Try.ntmps40 (by simp) [(0, .agg #[.int .i64 (p0_0), .slice A0_1 (l0_1).length cap0_1, .slice A0_2 (l0_2).length cap0_2, .slice A0_3 (l0_3).length cap0_3]), (1, .agg #[.int .i64 (p1_0), .slice A1_1 (l1_1).length cap1_1, .slice A1_2 (l1_2).length cap1_2, .slice A1_3 (l1_3).length cap1_3])] (by rfl) (by kernel_rfl) (fun a => ?_)
  refine cW_seq ?_
  refine cW_region ?_
  refine wS_box (d := 2) (T := 27) (x := .agg #[.int .i64 (p0_0), .slice A0_1 (l0_1).length cap0_1, .slice A0_2 (l0_2).length cap0_2, .slice A0_3 (l0_3).length cap0_3]) (by kernel_rfl) ?_
  intro b7 w8 G9 F10 hc11
  replace F10 : Cl w8 b7 27 [.int .i64 (p0_0), .slice A0_1 (l0_1).length cap0_1, .slice A0_2 (l0_2).length cap0_2, .slice A0_3 (l0_3).length cap0_3] := F10
  replace F0_1 := F0_1.chg hc11 Dj.nil
  replace F0_2 := F0_2.chg hc11 Dj.nil
  replace F0_3 := F0_3.chg hc11 Dj.nil
  replace F1_1 := F1_1.chg hc11 Dj.nil
  replace F1_2 := F1_2.chg hc11 Dj.nil
  replace F1_3 := F1_3.chg hc11 Dj.nil
  replace hB := hB.inS hc11 inNil
  replace G9 := Nat.le_trans hZ G9
  replace hZ := Nat.le_trans hZ hc11.size
  refine wS_box (d := 3) (T := 27) (x := .agg #[.int .i64 (p1_0), .slice A1_1 (l1_1).length cap1_1, .slice A1_2 (l1_2).length cap1_2, .slice A1_3 (l1_3).length cap1_3]) (by kernel_rfl) ?_
  intro b13 w14 G15 F16 hc17
  replace F16 : Cl w14 b13 27 [.int .i64 (p1_0), .slice A1_1 (l1_1).length cap1_1, .slice A1_2 (l1_2).length cap1_2, .slice A1_3 (l1_3).length cap1_3] := F16
  have D19 : Dj [b7] [b13] := Dj.of (lt1 F10.lt) (low1 G15)
  replace F0_1 := F0_1.chg hc17 Dj.nil
  replace F0_2 := F0_2.chg hc17 Dj.nil
  replace F0_3 := F0_3.chg hc17 Dj.nil
  replace F1_1 := F1_1.chg hc17 Dj.nil
  replace F1_2 := F1_2.chg hc17 Dj.nil
  replace F1_3 := F1_3.chg hc17 Dj.nil
  replace F10 := F10.chg hc17 notNil
  replace hB := hB.inS hc17 inNil
  replace G15 := Nat.le_trans hZ G15
  replace hZ := Nat.le_trans hZ hc17.size
  refine wS_pure 1 [(4, .bool (false))] (by kernel_rfl) ?_
  refine wS_end (by rfl) ?_
  refine eX_then ?_
  refine cW_seq ?_
  refine cW_seq ?_
  refine cW_region ?_
  refine wS_pure 1 [(5, .pointer (some ⟨b7, 0, none⟩))] (by kernel_rfl) ?_
  refine wS_load1 (d := 6) (T := 2) (ad := ⟨b7, 0, none⟩) (v := .int .i64 (p0_0)) (by kernel_rfl) vt2 ((F10).cell 0) ?_
  refine wS_pure 1 [(7, .pointer (some ⟨b13, 0, none⟩))] (by kernel_rfl) ?_
  refine wS_load1 (d := 8) (T := 2) (ad := ⟨b13, 0, none⟩) (v := .int .i64 (p1_0)) (by kernel_rfl) vt2 ((F16).cell 0) ?_
  refine wS_pure 1 [(9, .bool (p0_0 != p1_0))] (by kernel_rfl) ?_
  refine wS_end (by rfl) ?_
  refine eX_then ?_
  refine cW_cond (t := p0_0 != p1_0) (by kernel_rfl) (fun hb20 => ?_) (fun hb20 => ?_)
  · have hm := condT hb20 hm
    refine cW_seq ?_
    refine cW_region ?_
    refine wS_pure 1 [(4, .bool (false))] (by kernel_rfl) ?_
    refine wS_end (by rfl) ?_
    refine eX_then ?_
    refine cW_ret ?_
    refine eX_then_ret ?_
    have hq : (some false : Option ((Bool))) = some _ := hm
    replace hq := someE hq
    subst hq
    refine eX_ret (vs := [.bool (false)]) [.tmp 4] (by rfl) ⟨by (show lkE _ _ _ = _); kernel_rfl, trivial⟩ ?_
    exact ⟨rfl, hB⟩
  · have hm := condF hb20 hm
    refine cW_skip ?_
    refine eX_then ?_
    refine cW_seq ?_
    refine cW_seq ?_
    refine cW_region ?_
    refine wS_pure 1 [(10, .pointer (some ⟨b7, 1, none⟩))] (by kernel_rfl) ?_
    refine wS_load1 (d := 11) (T := 24) (ad := ⟨b7, 1, none⟩) (v := .slice A0_1 (l0_1).length cap0_1) (by kernel_rfl) vt24 ((F10).cell 1) ?_
    refine wS_pure 1 [(12, .pointer (some ⟨b13, 1, none⟩))] (by kernel_rfl) ?_
    refine wS_load1 (d := 13) (T := 24) (ad := ⟨b13, 1, none⟩) (v := .slice A1_1 (l1_1).length cap1_1) (by kernel_rfl) vt24 ((F16).cell 1) ?_
    obtain ⟨y21, hy22, hm⟩ := bindE hm
    refine wS_calls (d := 14) (f := 32) (vs := [.slice A0_1 (l0_1).length cap0_1, .slice A1_1 (l1_1).length cap1_1]) (by kernel_rfl) ent32 (c_laws_eqInt64SS hy22 F0_1 F1_1) ?_
    rintro _ w23 ⟨rfl, hc24⟩
    replace F0_1 := F0_1.chg hc24 Dj.nil
    replace F0_2 := F0_2.chg hc24 Dj.nil
    replace F0_3 := F0_3.chg hc24 Dj.nil
    replace F1_1 := F1_1.chg hc24 Dj.nil
    replace F1_2 := F1_2.chg hc24 Dj.nil
    replace F1_3 := F1_3.chg hc24 Dj.nil
    replace F10 := F10.chg hc24 notNil
    replace F16 := F16.chg hc24 notNil
    replace hB := hB.inS hc24 inNil
    replace hZ := Nat.le_trans hZ hc24.size
    refine ⟨.bool (y21), rfl, ?_⟩
    refine wS_pure 1 [(15, .bool (!y21))] (by kernel_rfl) ?_
    refine wS_end (by rfl) ?_
    refine eX_then ?_
    refine cW_cond (t := !y21) (by kernel_rfl) (fun hb25 => ?_) (fun hb25 => ?_)
    · have hm := condT hb25 hm
      refine cW_seq ?_
      refine cW_region ?_
      refine wS_pure 1 [(4, .bool (false))] (by kernel_rfl) ?_
      refine wS_end (by rfl) ?_
      refine eX_then ?_
      refine cW_ret ?_
      refine eX_then_ret ?_
      have hq : (some false : Option ((Bool))) = some _ := hm
      replace hq := someE hq
      subst hq
      refine eX_ret (vs := [.bool (false)]) [.tmp 4] (by rfl) ⟨by (show lkE _ _ _ = _); kernel_rfl, trivial⟩ ?_
      exact ⟨rfl, hB⟩
    · have hm := condF hb25 hm
      refine cW_skip ?_
      refine eX_then ?_
      refine cW_seq ?_
      refine cW_seq ?_
      refine cW_region ?_
      refine wS_pure 1 [(16, .pointer (some ⟨b7, 2, none⟩))] (by kernel_rfl) ?_
      refine wS_load1 (d := 17) (T := 24) (ad := ⟨b7, 2, none⟩) (v := .slice A0_2 (l0_2).length cap0_2) (by kernel_rfl) vt24 ((F10).cell 2) ?_
      refine wS_pure 1 [(18, .pointer (some ⟨b13, 2, none⟩))] (by kernel_rfl) ?_
      refine wS_load1 (d := 19) (T := 24) (ad := ⟨b13, 2, none⟩) (v := .slice A1_2 (l1_2).length cap1_2) (by kernel_rfl) vt24 ((F16).cell 2) ?_
      obtain ⟨y26, hy27, hm⟩ := bindE hm
      refine wS_calls (d := 20) (f := 32) (vs := [.slice A0_2 (l0_2).length cap0_2, .slice A1_2 (l1_2).length cap1_2]) (by kernel_rfl) ent32 (c_laws_eqInt64SS hy27 F0_2 F1_2) ?_
      rintro _ w28 ⟨rfl, hc29⟩
      replace F0_1 := F0_1.chg hc29 Dj.nil
      replace F0_2 := F0_2.chg hc29 Dj.nil
      replace F0_3 := F0_3.chg hc29 Dj.nil
      replace F1_1 := F1_1.chg hc29 Dj.nil
      replace F1_2 := F1_2.chg hc29 Dj.nil
      replace F1_3 := F1_3.chg hc29 Dj.nil
      replace F10 := F10.chg hc29 notNil
      replace F16 := F16.chg hc29 notNil
      replace hB := hB.inS hc29 inNil
      replace hZ := Nat.le_trans hZ hc29.size
      refine ⟨.bool (y26), rfl, ?_⟩
      refine wS_pure 1 [(21, .bool (!y26))] (by kernel_rfl) ?_
      refine wS_end (by rfl) ?_
      refine eX_then ?_
      refine cW_cond (t := !y26) (by kernel_rfl) (fun hb30 => ?_) (fun hb30 => ?_)
      · have hm := condT hb30 hm
        refine cW_seq ?_
        refine cW_region ?_
        refine wS_pure 1 [(4, .bool (false))] (by kernel_rfl) ?_
        refine wS_end (by rfl) ?_
        refine eX_then ?_
        refine cW_ret ?_
        refine eX_then_ret ?_
        have hq : (some false : Option ((Bool))) = some _ := hm
        replace hq := someE hq
        subst hq
        refine eX_ret (vs := [.bool (false)]) [.tmp 4] (by rfl) ⟨by (show lkE _ _ _ = _); kernel_rfl, trivial⟩ ?_
        exact ⟨rfl, hB⟩
      · have hm := condF hb30 hm
        refine cW_skip ?_
        refine eX_then ?_
        refine cW_seq ?_
        refine cW_seq ?_
        refine cW_region ?_
        refine wS_pure 1 [(22, .pointer (some ⟨b7, 3, none⟩))] (by kernel_rfl) ?_
        refine wS_load1 (d := 23) (T := 25) (ad := ⟨b7, 3, none⟩) (v := .slice A0_3 (l0_3).length cap0_3) (by kernel_rfl) vt25 ((F10).cell 3) ?_
        refine wS_pure 1 [(24, .pointer (some ⟨b13, 3, none⟩))] (by kernel_rfl) ?_
        refine wS_load1 (d := 25) (T := 25) (ad := ⟨b13, 3, none⟩) (v := .slice A1_3 (l1_3).length cap1_3) (by kernel_rfl) vt25 ((F16).cell 3) ?_
        obtain ⟨y31, hy32, hm⟩ := bindE hm
        refine wS_calls (d := 26) (f := 42) (vs := [.slice A0_3 (l0_3).length cap0_3, .slice A1_3 (l1_3).length cap1_3]) (by kernel_rfl) ent42 (c_laws_eqInt64S hy32 F0_3 F1_3) ?_
        rintro _ w33 ⟨rfl, hc34⟩
        replace F0_1 := F0_1.chg hc34 Dj.nil
        replace F0_2 := F0_2.chg hc34 Dj.nil
        replace F0_3 := F0_3.chg hc34 Dj.nil
        replace F1_1 := F1_1.chg hc34 Dj.nil
        replace F1_2 := F1_2.chg hc34 Dj.nil
        replace F1_3 := F1_3.chg hc34 Dj.nil
        replace F10 := F10.chg hc34 notNil
        replace F16 := F16.chg hc34 notNil
        replace hB := hB.inS hc34 inNil
        replace hZ := Nat.le_trans hZ hc34.size
        refine ⟨.bool (y31), rfl, ?_⟩
        refine wS_pure 1 [(27, .bool (!y31))] (by kernel_rfl) ?_
        refine wS_end (by rfl) ?_
        refine eX_then ?_
        refine cW_prune [(27, .bool (!y31))] (by kernel_rfl) (by kernel_rfl) (fun a35 => ?_)
        refine cW_cond (t := !y31) (by kernel_rfl) (fun hb36 => ?_) (fun hb36 => ?_)
        · have hm := condT hb36 hm
          refine cW_seq ?_
          refine cW_region ?_
          refine wS_pure 1 [(4, .bool (false))] (by kernel_rfl) ?_
          refine wS_end (by rfl) ?_
          refine eX_then ?_
          refine cW_ret ?_
          refine eX_then_ret ?_
          have hq : (some false : Option ((Bool))) = some _ := hm
          replace hq := someE hq
          subst hq
          refine eX_ret (vs := [.bool (false)]) [.tmp 4] (by rfl) ⟨by (show lkE _ _ _ = _); kernel_rfl, trivial⟩ ?_
          exact ⟨rfl, hB⟩
        · have hm := condF hb36 hm
          refine cW_skip ?_
          refine eX_then ?_
          refine cW_seq ?_
          refine cW_region ?_
          refine wS_pure 1 [(4, .bool (true))] (by kernel_rfl) ?_
          refine wS_end (by rfl) ?_
          refine eX_then ?_
          refine cW_ret ?_
          have hq : (some true : Option ((Bool))) = some _ := hm
          replace hq := someE hq
          subst hq
          refine eX_ret (vs := [.bool (true)]) [.tmp 4] (by rfl) ⟨by (show lkE _ _ _ = _); kernel_rfl, trivial⟩ ?_
          exact ⟨rfl, hB⟩

set_option maxRecDepth 100000 in
/-- laws.markWiring -/
theorem c_laws_markWiring {w0 : World} {p0_0 : Int} {l0_1 : List (List (Int))} {A0_1 : Option Addr} {cap0_1 : Nat} {fp0_1 fr0_1 : List Nat} {l0_2 : List (List (Int))} {A0_2 : Option Addr} {cap0_2 : Nat} {fp0_2 fr0_2 : List Nat} {l0_3 : List (Int)} {A0_3 : Option Addr} {cap0_3 : Nat} {fp0_3 : List Nat} {p1 : Int} {r : (Int) × (List (List (Int))) × (List (List (Int))) × (List (Int))} (hm : m_laws_markWiring p0_0 l0_1 l0_2 l0_3 p1 = some r) (F0_1 : OwR 1 encI 25 2 w0 fp0_1 fr0_1 A0_1 cap0_1 l0_1) (F0_2 : OwR 1 encI 25 2 w0 fp0_2 fr0_2 A0_2 cap0_2 l0_2) (F0_3 : Ow 1 encI 2 w0 fp0_3 A0_3 cap0_3 l0_3) (J0_1__0_2 : Dj (fp0_1 ++ fr0_1) (fp0_2 ++ fr0_2)) (J0_1__0_3 : Dj (fp0_1 ++ fr0_1) fp0_3) (J0_2__0_3 : Dj (fp0_2 ++ fr0_2) fp0_3) :
    Calls Try.prog 43 #[.agg #[.int .i64 (p0_0), .slice A0_1 (l0_1).length cap0_1, .slice A0_2 (l0_2).length cap0_2, .slice A0_3 (l0_3).length cap0_3], .int .i64 (p1)] w0 fun e w' => e = .returned (.int .i64 (r.1)) ∧ OwR 1 encI 25 2 w' fp0_1 fr0_1 A0_1 cap0_1 r.2.1 ∧ (r.2.1).length = (l0_1).length ∧ OwR 1 encI 25 2 w' fp0_2 fr0_2 A0_2 cap0_2 r.2.2.1 ∧ (r.2.2.1).length = (l0_2).length ∧ Ow 1 encI 2 w' fp0_3 A0_3 cap0_3 r.2.2.2 ∧ (r.2.2.2).length = (l0_3).length ∧ Chg ((fp0_1 ++ fr0_1) ++ ((fp0_2 ++ fr0_2) ++ (fp0_3 ++ []))) w0 w' := by
  have L0_1 := F0_1.low
  have L0_2 := F0_2.low
  have L0_3 := F0_3.low
  have hB : Chg ((fp0_1 ++ fr0_1) ++ ((fp0_2 ++ fr0_2) ++ (fp0_3 ++ []))) w0 w0 := Chg.refl _ _
  have hZ := Nat.le_refl w0.heap.size
  unfold m_laws_markWiring at hm
  refine enterE (N := 18) Try.func43 (by rfl) Try.ntmps43 (by simp) [(0, .agg #[.int .i64 (p0_0), .slice A0_1 (l0_1).length cap0_1, .slice A0_2 (l0_2).length cap0_2, .slice A0_3 (l0_3).length cap0_3]), (1, .int .i64 (p1))] (by rfl) (by kernel_rfl) (fun a => ?_)
  refine cW_seq ?_
  refine cW_region ?_
  refine wS_box (d := 2) (T := 27) (x := .agg #[.int .i64 (p0_0), .slice A0_1 (l0_1).length cap0_1, .slice A0_2 (l0_2).length cap0_2, .slice A0_3 (l0_3).length cap0_3]) (by kernel_rfl) ?_
  intro b4 w5 G6 F7 hc8
  replace F7 : Cl w5 b4 27 [.int .i64 (p0_0), .slice A0_1 (l0_1).length cap0_1, .slice A0_2 (l0_2).length cap0_2, .slice A0_3 (l0_3).length cap0_3] := F7
  replace F0_1 := F0_1.chg hc8 Dj.nil
  replace F0_2 := F0_2.chg hc8 Dj.nil
  replace F0_3 := F0_3.chg hc8 Dj.nil
  replace hB := hB.inS hc8 inNil
  replace G6 := Nat.le_trans hZ G6
  replace hZ := Nat.le_trans hZ hc8.size
  refine wS_pure 1 [(4, .int .i64 (0))] (by kernel_rfl) ?_
  refine wS_end (by rfl) ?_
  refine eX_then ?_
  refine cW_seq ?_
  refine cW_region ?_
  refine wS_pure 1 [(5, .pointer (some ⟨b4, 1, none⟩))] (by kernel_rfl) ?_
  refine wS_load1 (d := 6) (T := 24) (ad := ⟨b4, 1, none⟩) (v := .slice A0_1 (l0_1).length cap0_1) (by kernel_rfl) vt24 ((F7).cell 1) ?_
  refine wS_pure 1 [(7, .int .i64 (p1))] (by kernel_rfl) ?_
  obtain ⟨y10, hy11, hm⟩ := bindE hm
  refine wS_calls (d := 8) (f := 35) (vs := [.slice A0_1 (l0_1).length cap0_1, .int .i64 (p1)]) (by kernel_rfl) ent35 (c_laws_markInt64SS hy11 F0_1) ?_
  rintro _ w12 ⟨rfl, F14, hl15, hc13⟩
  replace F0_2 := F0_2.chg hc13 (Dj.app (J0_1__0_2).symm Dj.nil)
  replace F0_3 := F0_3.chg hc13 (Dj.app (J0_1__0_3).symm Dj.nil)
  replace F7 := F7.chg hc13 (dj1 (Dj.app (Dj.of L0_1 (low1 G6)).symm Dj.nil))
  replace hB := hB.inS hc13 (inApp (inMem (fun x hx => (List.mem_append_left _ hx))) inNil)
  replace hZ := Nat.le_trans hZ hc13.size
  clear F0_1
  have hl16 := hl15.trans (Eq.refl (l0_1).length)
  refine ⟨.int .i64 (y10.1), rfl, ?_⟩
  rewrite [(show (l0_1).length = (y10.2).length from hl15.symm)]
  try rewrite [(show (l0_1).length = (y10.2).length from hl15.symm)] at F7
  refine wS_pure 1 [(1, .int .i64 (y10.1))] (by kernel_rfl) ?_
  refine wS_end (by rfl) ?_
  refine eX_then ?_
  refine cW_seq ?_
  refine cW_region ?_
  refine wS_pure 1 [(9, .pointer (some ⟨b4, 2, none⟩))] (by kernel_rfl) ?_
  refine wS_load1 (d := 10) (T := 24) (ad := ⟨b4, 2, none⟩) (v := .slice A0_2 (l0_2).length cap0_2) (by kernel_rfl) vt24 ((F7).cell 2) ?_
  refine wS_pure 1 [(11, .int .i64 (y10.1))] (by kernel_rfl) ?_
  obtain ⟨y17, hy18, hm⟩ := bindE hm
  refine wS_calls (d := 12) (f := 35) (vs := [.slice A0_2 (l0_2).length cap0_2, .int .i64 (y10.1)]) (by kernel_rfl) ent35 (c_laws_markInt64SS hy18 F0_2) ?_
  rintro _ w19 ⟨rfl, F21, hl22, hc20⟩
  replace F14 := F14.chg hc20 (Dj.app J0_1__0_2 Dj.nil)
  replace F0_3 := F0_3.chg hc20 (Dj.app (J0_2__0_3).symm Dj.nil)
  replace F7 := F7.chg hc20 (dj1 (Dj.app (Dj.of L0_2 (low1 G6)).symm Dj.nil))
  replace hB := hB.inS hc20 (inApp (inMem (fun x hx => (List.mem_append_right _ (List.mem_append_left _ hx)))) inNil)
  replace hZ := Nat.le_trans hZ hc20.size
  clear F0_2
  have hl23 := hl22.trans (Eq.refl (l0_2).length)
  refine ⟨.int .i64 (y17.1), rfl, ?_⟩
  rewrite [(show (l0_2).length = (y17.2).length from hl22.symm)]
  try rewrite [(show (l0_2).length = (y17.2).length from hl22.symm)] at F7
  refine wS_pure 1 [(1, .int .i64 (y17.1))] (by kernel_rfl) ?_
  refine wS_end (by rfl) ?_
  refine eX_then ?_
  refine cW_seq ?_
  refine cW_region ?_
  refine wS_pure 1 [(13, .pointer (some ⟨b4, 3, none⟩))] (by kernel_rfl) ?_
  refine wS_load1 (d := 14) (T := 25) (ad := ⟨b4, 3, none⟩) (v := .slice A0_3 (l0_3).length cap0_3) (by kernel_rfl) vt25 ((F7).cell 3) ?_
  refine wS_pure 1 [(15, .int .i64 (y17.1))] (by kernel_rfl) ?_
  obtain ⟨y24, hy25, hm⟩ := bindE hm
  refine wS_calls (d := 16) (f := 44) (vs := [.slice A0_3 (l0_3).length cap0_3, .int .i64 (y17.1)]) (by kernel_rfl) ent44 (c_laws_markInt64S hy25 F0_3) ?_
  rintro _ w26 ⟨rfl, F28, hl29, hc27⟩
  replace F14 := F14.chg hc27 (Dj.app J0_1__0_3 Dj.nil)
  replace F21 := F21.chg hc27 (Dj.app J0_2__0_3 Dj.nil)
  replace F7 := F7.chg hc27 (dj1 (Dj.app (Dj.of L0_3 (low1 G6)).symm Dj.nil))
  replace hB := hB.inS hc27 (inApp (inMem (fun x hx => (List.mem_append_right _ (List.mem_append_right _ (List.mem_append_left _ hx))))) inNil)
  replace hZ := Nat.le_trans hZ hc27.size
  clear F0_3
  have hl30 := hl29.trans (Eq.refl (l0_3).length)
  refine ⟨.int .i64 (y24.1), rfl, ?_⟩
  rewrite [(show (l0_3).length = (y24.2).length from hl29.symm)]
  try rewrite [(show (l0_3).length = (y24.2).length from hl29.symm)] at F7
  refine wS_pure 1 [(1, .int .i64 (y24.1))] (by kernel_rfl) ?_
  refine wS_end (by rfl) ?_
  refine eX_then ?_
  refine cW_seq ?_
  refine cW_region ?_
  refine wS_pure 2 [(4, .int .i64 (y24.1)), (17, .int .i64 (y24.1))] (by kernel_rfl) ?_
  refine wS_end (by rfl) ?_
  refine eX_then ?_
  refine cW_ret ?_
  have hq : (some ((y24.1, y10.2, y17.2, y24.2)) : Option ((Int) × (List (List (Int))) × (List (List (Int))) × (List (Int)))) = some _ := hm
  replace hq := someE hq
  subst hq
  refine eX_ret (vs := [.int .i64 (y24.1)]) [.tmp 4] (by rfl) ⟨by (show lkE _ _ _ = _); kernel_rfl, trivial⟩ ?_
  exact ⟨rfl, F14, (by first | exact hl16 | rfl), F21, (by first | exact hl23 | rfl), F28, (by first | exact hl30 | rfl), hB⟩

set_option maxRecDepth 100000 in
/-- spec.l00Has -/
theorem c_spec_l00Has {w0 : World} {l0 : List (Int)} {A0 : Option Addr} {cap0 : Nat} {fp0 : List Nat} {p1 : Int} {r : (Bool)} (hm : m_spec_l00Has l0 p1 = some r) (F0 : Sl 1 encI w0 fp0 A0 l0) :
    Calls Try.prog 119 #[.slice A0 (l0).length cap0, .int .i64 (p1)] w0 fun e w' => e = .returned (.bool (r)) ∧ Chg [] w0 w' := by
  have L0 := F0.low
  have hB : Chg [] w0 w0 := Chg.refl _ _
  have hZ := Nat.le_refl w0.heap.size
  unfold m_spec_l00Has at hm
  refine enterE (N := 18) Try.func119 (by rfl) Try.ntmps119 (by simp) [(0, .slice A0 (l0).length cap0), (1, .int .i64 (p1))] (by rfl) (by kernel_rfl) (fun a => ?_)
  refine cW_seq ?_
  refine cW_region ?_
  refine wS_pure 1 [(4, .bool (false))] (by kernel_rfl) ?_
  refine wS_end (by rfl) ?_
  refine eX_then ?_
  refine cW_seq ?_
  refine cW_seq ?_
  refine cW_region ?_
  refine wS_pure 1 [(5, .int .i64 (0))] (by kernel_rfl) ?_
  refine wS_end (by rfl) ?_
  refine eX_then ?_
  obtain ⟨r21, hr22, hm⟩ := bindE hm
  have hm23 := hm
  refine cW_cut (fun a' w' => Sum.inl (()) = r21 ∧ Fr 18 [] a' ∧ Chg [] w0 w' ∧ w0.heap.size ≤ w'.heap.size) ?_ ?_
  · refine cW_block ?_
    refine cW_loop _ (fun (s24 : Int) a' w' => ∃ x18 : Int, x18 = s24 ∧ Fr 18 [(0, .slice A0 (l0).length cap0), (1, .int .i64 (p1)), (5, .int .i64 (x18))] a' ∧ Sl 1 encI w' fp0 A0 l0 ∧ Chg [] w0 w' ∧ w0.heap.size ≤ w'.heap.size) hr22 (fun hst => ⟨0, rfl, Fr.of hst (by kernel_rfl), F0, hB, hZ⟩) ?_
    rintro _ c25 a' w17 ⟨x18, rfl, hF19, F20, hB, hZ⟩ hx26
    refine Fr.goOn hF19 (by kernel_rfl) ?_
    have hm := hx26
    unfold m_spec_l00Has_s1 at hm
    refine cW_seq ?_
    refine cW_seq ?_
    refine cW_region ?_
    refine wS_pure 4 [(9, .bool (decide (x18 < (((l0).length : Int))))), (8, .int .i64 (((l0).length : Int))), (7, .slice A0 (l0).length cap0), (6, .int .i64 (x18))] (by kernel_rfl) ?_
    refine wS_end (by rfl) ?_
    refine eX_then ?_
    refine cW_cond (t := decide (x18 < (((l0).length : Int)))) (by kernel_rfl) (fun hb27 => ?_) (fun hb27 => ?_)
    · have hm := condT hb27 hm
      refine cW_skip ?_
      refine eX_then ?_
      refine cW_seq ?_
      refine cW_block ?_
      refine cW_seq ?_
      refine cW_region ?_
      refine wS_pure 2 [(13, .int .i64 (x18)), (12, .slice A0 (l0).length cap0)] (by kernel_rfl) ?_
      obtain ⟨x28, hx29, hm⟩ := bindE hm
      refine wS_idx (d := 14) (T := 25) (A := A0) (n := (l0).length) (cap := cap0) (kd := .i64) (m := x18) (by kernel_rfl) sl25 (F20.is hx29) ?_
      refine wS_load1 (d := 15) (T := 2) (ad := (elA A0 1 (x18) 0)) (v := .int .i64 (x28)) (by kernel_rfl) vt2 (Sl.cell F20 hx29 0 (by rfl)) ?_
      refine wS_pure 2 [(17, .bool (x28 == p1)), (16, .int .i64 (p1))] (by kernel_rfl) ?_
      refine wS_end (by rfl) ?_
      refine eX_then ?_
      refine cW_cond (t := x28 == p1) (by kernel_rfl) (fun hb30 => ?_) (fun hb30 => ?_)
      · have hm := condT hb30 hm
        refine cW_seq ?_
        refine cW_region ?_
        refine wS_pure 1 [(4, .bool (true))] (by kernel_rfl) ?_
        refine wS_end (by rfl) ?_
        refine eX_then ?_
        refine cW_ret ?_
        refine eX_block_ret ?_
        refine eX_then_ret ?_
        have hq : (some (Ctl.out (Sum.inr true)) : Option (Ctl (Int) (Sum (Unit) ((Bool))))) = some _ := hm
        replace hq := someE hq
        subst hq
        refine eX_outR hx26 (fun hr => ?_)
        subst hr
        refine eX_block_ret ?_
        refine eX_then_ret ?_
        refine eX_then_ret ?_
        have hq : (some true : Option ((Bool))) = some _ := hm23
        replace hq := someE hq
        subst hq
        refine eX_ret (vs := [.bool (true)]) [.tmp 4] (by rfl) ⟨by (show lkE _ _ _ = _); kernel_rfl, trivial⟩ ?_
        exact ⟨rfl, hB⟩
      · have hm := condF hb30 hm
        refine cW_skip ?_
        refine eX_block ?_
        refine eX_then ?_
        refine cW_region ?_
        refine wS_pure 3 [(5, .int .i64 (wr (x18 + 1))), (11, .int .i64 (wr (x18 + 1))), (10, .int .i64 (x18))] (by kernel_rfl) ?_
        refine wS_end (by rfl) ?_
        have hq : (some (Ctl.next (wr (x18 + 1))) : Option (Ctl (Int) (Sum (Unit) ((Bool))))) = some _ := hm
        replace hq := someE hq
        subst hq
        exact eX_next hx26 (fun hst => ⟨wr (x18 + 1), rfl, Fr.of hst (by kernel_rfl), F20, hB, hZ⟩)
    · have hm := condF hb27 hm
      refine cW_exit ?_
      refine eX_then_exit ?_
      have hq : (some (Ctl.out (Sum.inl (()))) : Option (Ctl (Int) (Sum (Unit) ((Bool))))) = some _ := hm
      replace hq := someE hq
      subst hq
      refine eX_outX hx26 (fun hr31 => ?_)
      replace hr31 := hr31.symm
      subst hr31
      refine eX_block_hit ?_
      exact eX_J (fun hst => ⟨rfl, Fr.of hst (by kernel_rfl), hB, hZ⟩)
  · rintro a' w15 ⟨hJ, hF16, hB, hZ⟩
    subst hJ
    refine Fr.goX hF16 (by kernel_rfl) ?_
    refine eX_then ?_
    refine cW_seq ?_
    refine cW_region ?_
    refine wS_pure 1 [(4, .bool (false))] (by kernel_rfl) ?_
    refine wS_end (by rfl) ?_
    refine eX_then ?_
    refine cW_ret ?_
    have hq : (some false : Option ((Bool))) = some _ := hm
    replace hq := someE hq
    subst hq
    refine eX_ret (vs := [.bool (false)]) [.tmp 4] (by rfl) ⟨by (show lkE _ _ _ = _); kernel_rfl, trivial⟩ ?_
    exact ⟨rfl, hB⟩

end Go.Proofs.Ytngnljnfbfgfeaa
