/- Printed walks: cmp.isNaN[int64], cmp.Compare[int64], cmp.Or[int], impl.pointOrder. -/
import Derived.Test.YtgaecldkiijmpaaProg
import Derived.Test.YtgaecldkiijmpaaMod
import Derived.Test.YtgaecldkiijmpaaEqs
set_option linter.unusedSimpArgs false
set_option linter.unusedVariables false
namespace Go.Proofs.Ytgaecldkiijmpaa
open Go.RowKit
attribute [local irreducible] wS cW eX wH

theorem ent187 : Ent Try.prog 187 := fun _ => by kernel_rfl
theorem ent188 : Ent Try.prog 188 := fun _ => by kernel_rfl
theorem ent213 : Ent Try.prog 213 := fun _ => by kernel_rfl
theorem vt2 : VarTy Try.prog 2 1 false := ⟨by kernel_rfl, by kernel_rfl⟩
theorem vt3 : VarTy Try.prog 3 1 false := ⟨by kernel_rfl, by kernel_rfl⟩
theorem sl213 : SlTy Try.prog 213 3 1 := ⟨Try.underlying213, by kernel_rfl⟩
theorem el213 : ElTy Try.prog 213 3 1 (.int .i64 (0)) := ElTy.mk' Try.underlying213 (by kernel_rfl) (by rfl)

set_option maxRecDepth 100000 in
/-- cmp.isNaN[int64] -/
theorem c_cmp_isNaN_int64 {w0 : World} {p0 : Int} {r : (Bool)} (hm : m_cmp_isNaN_int64 p0 = some r)  :
    Calls Try.prog 213 #[.int .i64 (p0)] w0 fun e w' => e = .returned (.bool (r)) ∧ Chg [] w0 w' := by
  have hB : Chg [] w0 w0 := Chg.refl _ _
  have hZ := Nat.le_refl w0.heap.size
  unfold m_cmp_isNaN_int64 at hm
  refine enterE (N := 6) Try.func213 (by rfl) Try.ntmps213 (by simp) [(0, .int .i64 (p0))] (by rfl) (by kernel_rfl) (fun a => ?_)
  refine cW_seq ?_
  refine cW_region ?_
  refine wS_pure 1 [(2, .bool (false))] (by kernel_rfl) ?_
  refine wS_end (by rfl) ?_
  refine eX_then ?_
  refine cW_seq ?_
  refine cW_region ?_
  refine wS_pure 4 [(2, .bool (p0 != p0)), (5, .bool (p0 != p0)), (4, .int .i64 (p0)), (3, .int .i64 (p0))] (by kernel_rfl) ?_
  refine wS_end (by rfl) ?_
  refine eX_then ?_
  refine cW_ret ?_
  have hq : (some (p0 != p0) : Option ((Bool))) = some _ := hm
  replace hq := someE hq
  subst hq
  refine eX_ret (vs := [.bool (p0 != p0)]) [.tmp 2] (by rfl) ⟨by (show lkE _ _ _ = _); kernel_rfl, trivial⟩ ?_
  exact ⟨rfl, hB⟩

set_option maxRecDepth 100000 in
/-- cmp.Compare[int64] -/
theorem c_cmp_Compare_int64 {w0 : World} {p0 : Int} {p1 : Int} {r : (Int)} (hm : m_cmp_Compare_int64 p0 p1 = some r)  :
    Calls Try.prog 188 #[.int .i64 (p0), .int .i64 (p1)] w0 fun e w' => e = .returned (.int .i64 (r)) ∧ Chg [] w0 w' := by
  have hB : Chg [] w0 w0 := Chg.refl _ _
  have hZ := Nat.le_refl w0.heap.size
  unfold m_cmp_Compare_int64 at hm
  refine enterE (N := 20) Try.func188 (by rfl) Try.ntmps188 (by simp) [(0, .int .i64 (p0)), (1, .int .i64 (p1))] (by rfl) (by kernel_rfl) (fun a => ?_)
  refine cW_seq ?_
  refine cW_region ?_
  refine wS_pure 1 [(4, .int .i64 (0))] (by kernel_rfl) ?_
  refine wS_end (by rfl) ?_
  refine eX_then ?_
  refine cW_seq ?_
  refine cW_region ?_
  refine wS_pure 1 [(7, .int .i64 (p0))] (by kernel_rfl) ?_
  obtain ⟨y1, hy2, hm⟩ := bindE hm
  refine wS_calls (d := 8) (f := 213) (vs := [.int .i64 (p0)]) (by kernel_rfl) ent213 (c_cmp_isNaN_int64 hy2) ?_
  rintro _ w3 ⟨rfl, hc4⟩
  replace hB := hB.inS hc4 inNil
  replace hZ := Nat.le_trans hZ hc4.size
  refine ⟨.bool (y1), rfl, ?_⟩
  refine wS_pure 1 [(5, .bool (y1))] (by kernel_rfl) ?_
  refine wS_end (by rfl) ?_
  refine eX_then ?_
  refine cW_seq ?_
  refine cW_region ?_
  refine wS_pure 1 [(9, .int .i64 (p1))] (by kernel_rfl) ?_
  obtain ⟨y5, hy6, hm⟩ := bindE hm
  refine wS_calls (d := 10) (f := 213) (vs := [.int .i64 (p1)]) (by kernel_rfl) ent213 (c_cmp_isNaN_int64 hy6) ?_
  rintro _ w7 ⟨rfl, hc8⟩
  replace hB := hB.inS hc8 inNil
  replace hZ := Nat.le_trans hZ hc8.size
  refine ⟨.bool (y5), rfl, ?_⟩
  refine wS_pure 1 [(6, .bool (y5))] (by kernel_rfl) ?_
  refine wS_end (by rfl) ?_
  refine eX_then ?_
  refine cW_seq ?_
  refine cW_seq ?_
  refine cW_region ?_
  refine wS_pure 1 [(11, .bool (y1))] (by kernel_rfl) ?_
  refine wS_end (by rfl) ?_
  refine eX_then ?_
  refine cW_cond (t := y1) (by kernel_rfl) (fun hb9 => ?_) (fun hb9 => ?_)
  · have hm := condT hb9 hm
    refine cW_seq ?_
    refine cW_seq ?_
    refine cW_region ?_
    refine wS_pure 1 [(12, .bool (y5))] (by kernel_rfl) ?_
    refine wS_end (by rfl) ?_
    refine eX_then ?_
    refine cW_cond (t := y5) (by kernel_rfl) (fun hb10 => ?_) (fun hb10 => ?_)
    · have hm := condT hb10 hm
      refine cW_seq ?_
      refine cW_region ?_
      refine wS_pure 1 [(4, .int .i64 (0))] (by kernel_rfl) ?_
      refine wS_end (by rfl) ?_
      refine eX_then ?_
      refine cW_ret ?_
      refine eX_then_ret ?_
      refine eX_then_ret ?_
      have hq : (some 0 : Option ((Int))) = some _ := hm
      replace hq := someE hq
      subst hq
      refine eX_ret (vs := [.int .i64 (0)]) [.tmp 4] (by rfl) ⟨by (show lkE _ _ _ = _); kernel_rfl, trivial⟩ ?_
      exact ⟨rfl, hB⟩
    · have hm := condF hb10 hm
      refine cW_skip ?_
      refine eX_then ?_
      refine cW_seq ?_
      refine cW_region ?_
      refine wS_pure 1 [(4, .int .i64 ((-1)))] (by kernel_rfl) ?_
      refine wS_end (by rfl) ?_
      refine eX_then ?_
      refine cW_ret ?_
      refine eX_then_ret ?_
      have hq : (some ((-1)) : Option ((Int))) = some _ := hm
      replace hq := someE hq
      subst hq
      refine eX_ret (vs := [.int .i64 ((-1))]) [.tmp 4] (by rfl) ⟨by (show lkE _ _ _ = _); kernel_rfl, trivial⟩ ?_
      exact ⟨rfl, hB⟩
  · have hm := condF hb9 hm
    refine cW_skip ?_
    refine eX_then ?_
    refine cW_seq ?_
    refine cW_seq ?_
    refine cW_region ?_
    refine wS_pure 1 [(13, .bool (y5))] (by kernel_rfl) ?_
    refine wS_end (by rfl) ?_
    refine eX_then ?_
    refine cW_cond (t := y5) (by kernel_rfl) (fun hb11 => ?_) (fun hb11 => ?_)
    · have hm := condT hb11 hm
      refine cW_seq ?_
      refine cW_region ?_
      refine wS_pure 1 [(4, .int .i64 (1))] (by kernel_rfl) ?_
      refine wS_end (by rfl) ?_
      refine eX_then ?_
      refine cW_ret ?_
      refine eX_then_ret ?_
      have hq : (some 1 : Option ((Int))) = some _ := hm
      replace hq := someE hq
      subst hq
      refine eX_ret (vs := [.int .i64 (1)]) [.tmp 4] (by rfl) ⟨by (show lkE _ _ _ = _); kernel_rfl, trivial⟩ ?_
      exact ⟨rfl, hB⟩
    · have hm := condF hb11 hm
      refine cW_skip ?_
      refine eX_then ?_
      refine cW_seq ?_
      refine cW_seq ?_
      refine cW_region ?_
      refine wS_pure 3 [(16, .bool (decide (p0 < p1))), (15, .int .i64 (p1)), (14, .int .i64 (p0))] (by kernel_rfl) ?_
      refine wS_end (by rfl) ?_
      refine eX_then ?_
      refine cW_cond (t := decide (p0 < p1)) (by kernel_rfl) (fun hb12 => ?_) (fun hb12 => ?_)
      · have hm := condT hb12 hm
        refine cW_seq ?_
        refine cW_region ?_
        refine wS_pure 1 [(4, .int .i64 ((-1)))] (by kernel_rfl) ?_
        refine wS_end (by rfl) ?_
        refine eX_then ?_
        refine cW_ret ?_
        refine eX_then_ret ?_
        have hq : (some ((-1)) : Option ((Int))) = some _ := hm
        replace hq := someE hq
        subst hq
        refine eX_ret (vs := [.int .i64 ((-1))]) [.tmp 4] (by rfl) ⟨by (show lkE _ _ _ = _); kernel_rfl, trivial⟩ ?_
        exact ⟨rfl, hB⟩
      · have hm := condF hb12 hm
        refine cW_skip ?_
        refine eX_then ?_
        refine cW_seq ?_
        refine cW_seq ?_
        refine cW_region ?_
        refine wS_pure 3 [(19, .bool (decide (p0 > p1))), (18, .int .i64 (p1)), (17, .int .i64 (p0))] (by kernel_rfl) ?_
        refine wS_end (by rfl) ?_
        refine eX_then ?_
        refine cW_cond (t := decide (p0 > p1)) (by kernel_rfl) (fun hb13 => ?_) (fun hb13 => ?_)
        · have hm := condT hb13 hm
          refine cW_seq ?_
          refine cW_region ?_
          refine wS_pure 1 [(4, .int .i64 (1))] (by kernel_rfl) ?_
          refine wS_end (by rfl) ?_
          refine eX_then ?_
          refine cW_ret ?_
          refine eX_then_ret ?_
          have hq : (some 1 : Option ((Int))) = some _ := hm
          replace hq := someE hq
          subst hq
          refine eX_ret (vs := [.int .i64 (1)]) [.tmp 4] (by rfl) ⟨by (show lkE _ _ _ = _); kernel_rfl, trivial⟩ ?_
          exact ⟨rfl, hB⟩
        · have hm := condF hb13 hm
          refine cW_skip ?_
          refine eX_then ?_
          refine cW_seq ?_
          refine cW_region ?_
          refine wS_pure 1 [(4, .int .i64 (0))] (by kernel_rfl) ?_
          refine wS_end (by rfl) ?_
          refine eX_then ?_
          refine cW_ret ?_
          have hq : (some 0 : Option ((Int))) = some _ := hm
          replace hq := someE hq
          subst hq
          refine eX_ret (vs := [.int .i64 (0)]) [.tmp 4] (by rfl) ⟨by (show lkE _ _ _ = _); kernel_rfl, trivial⟩ ?_
          exact ⟨rfl, hB⟩

set_option maxRecDepth 100000 in
/-- cmp.Or[int] -/
theorem c_cmp_Or_int {w0 : World} {l0 : List (Int)} {A0 : Option Addr} {cap0 : Nat} {fp0 : List Nat} {r : (Int)} (hm : m_cmp_Or_int l0 = some r) (F0 : Sl 1 encI w0 fp0 A0 l0) :
    Calls Try.prog 187 #[.slice A0 (l0).length cap0] w0 fun e w' => e = .returned (.int .i64 (r)) ∧ Chg [] w0 w' := by
  have L0 := F0.low
  have hB : Chg [] w0 w0 := Chg.refl _ _
  have hZ := Nat.le_refl w0.heap.size
  unfold m_cmp_Or_int at hm
  refine enterE (N := 18) Try.func187 (by rfl) Try.ntmps187 (by simp) [(0, .slice A0 (l0).length cap0)] (by rfl) (by kernel_rfl) (fun a => ?_)
  refine cW_seq ?_
  refine cW_region ?_
  refine wS_pure 1 [(2, .int .i64 (0))] (by kernel_rfl) ?_
  refine wS_end (by rfl) ?_
  refine eX_then ?_
  refine cW_seq ?_
  refine cW_region ?_
  refine wS_pure 1 [(3, .int .i64 (0))] (by kernel_rfl) ?_
  refine wS_end (by rfl) ?_
  refine eX_then ?_
  refine cW_seq ?_
  refine cW_seq ?_
  refine cW_region ?_
  refine wS_pure 3 [(8, .int .i64 (0)), (7, .int .i64 (((l0).length : Int))), (6, .slice A0 (l0).length cap0)] (by kernel_rfl) ?_
  refine wS_end (by rfl) ?_
  refine eX_then ?_
  obtain ⟨r21, hr22, hm⟩ := bindE hm
  have hm23 := hm
  refine cW_cut (fun a' w' => Sum.inl (()) = r21 ∧ Fr 18 [(3, .int .i64 (0))] a' ∧ Chg [] w0 w' ∧ w0.heap.size ≤ w'.heap.size) ?_ ?_
  · refine cW_block ?_
    refine cW_loop _ (fun (s24 : Int) a' w' => ∃ x18 : Int, x18 = s24 ∧ Fr 18 [(3, .int .i64 (0)), (6, .slice A0 (l0).length cap0), (7, .int .i64 (((l0).length : Int))), (8, .int .i64 (x18))] a' ∧ Sl 1 encI w' fp0 A0 l0 ∧ Chg [] w0 w' ∧ w0.heap.size ≤ w'.heap.size) hr22 (fun hst => ⟨0, rfl, Fr.of hst (by kernel_rfl), F0, hB, hZ⟩) ?_
    rintro _ c25 a' w17 ⟨x18, rfl, hF19, F20, hB, hZ⟩ hx26
    refine Fr.goOn hF19 (by kernel_rfl) ?_
    have hm := hx26
    unfold m_cmp_Or_int_s1 at hm
    refine cW_seq ?_
    refine cW_region ?_
    refine wS_pure 1 [(9, .bool (decide (x18 < (((l0).length : Int)))))] (by kernel_rfl) ?_
    refine wS_end (by rfl) ?_
    refine eX_then ?_
    refine cW_seq ?_
    refine cW_cond (t := decide (x18 < (((l0).length : Int)))) (by kernel_rfl) (fun hb27 => ?_) (fun hb27 => ?_)
    · have hm := condT hb27 hm
      refine cW_skip ?_
      refine eX_then ?_
      refine cW_seq ?_
      refine cW_block ?_
      refine cW_seq ?_
      refine cW_region ?_
      obtain ⟨x28, hx29, hm⟩ := bindE hm
      refine wS_idx (d := 10) (T := 213) (A := A0) (n := (l0).length) (cap := cap0) (kd := .i64) (m := x18) (by kernel_rfl) sl213 (F20.is hx29) ?_
      refine wS_load1 (d := 11) (T := 3) (ad := (elA A0 1 (x18) 0)) (v := .int .i64 (x28)) (by kernel_rfl) vt3 (Sl.cell F20 hx29 0 (by rfl)) ?_
      refine wS_pure 1 [(5, .int .i64 (x28))] (by kernel_rfl) ?_
      refine wS_end (by rfl) ?_
      refine eX_then ?_
      refine cW_seq ?_
      refine cW_region ?_
      refine wS_pure 3 [(14, .bool (x28 != 0)), (13, .int .i64 (0)), (12, .int .i64 (x28))] (by kernel_rfl) ?_
      refine wS_end (by rfl) ?_
      refine eX_then ?_
      refine cW_cond (t := x28 != 0) (by kernel_rfl) (fun hb30 => ?_) (fun hb30 => ?_)
      · have hm := condT hb30 hm
        refine cW_seq ?_
        refine cW_region ?_
        refine wS_pure 2 [(2, .int .i64 (x28)), (15, .int .i64 (x28))] (by kernel_rfl) ?_
        refine wS_end (by rfl) ?_
        refine eX_then ?_
        refine cW_ret ?_
        refine eX_block_ret ?_
        refine eX_then_ret ?_
        have hq : (some (Ctl.out (Sum.inr x28)) : Option (Ctl (Int) (Sum (Unit) ((Int))))) = some _ := hm
        replace hq := someE hq
        subst hq
        refine eX_outR hx26 (fun hr => ?_)
        subst hr
        refine eX_block_ret ?_
        refine eX_then_ret ?_
        refine eX_then_ret ?_
        have hq : (some x28 : Option ((Int))) = some _ := hm23
        replace hq := someE hq
        subst hq
        refine eX_ret (vs := [.int .i64 (x28)]) [.tmp 2] (by rfl) ⟨by (show lkE _ _ _ = _); kernel_rfl, trivial⟩ ?_
        exact ⟨rfl, hB⟩
      · have hm := condF hb30 hm
        refine cW_skip ?_
        refine eX_block ?_
        refine eX_then ?_
        refine cW_region ?_
        refine wS_pure 2 [(8, .int .i64 (wr (x18 + 1))), (16, .int .i64 (wr (x18 + 1)))] (by kernel_rfl) ?_
        refine wS_end (by rfl) ?_
        have hq : (some (Ctl.next (wr (x18 + 1))) : Option (Ctl (Int) (Sum (Unit) ((Int))))) = some _ := hm
        replace hq := someE hq
        subst hq
        exact eX_next hx26 (fun hst => ⟨wr (x18 + 1), rfl, Fr.of hst (by kernel_rfl), F20, hB, hZ⟩)
    · have hm := condF hb27 hm
      refine cW_exit ?_
      refine eX_then_exit ?_
      have hq : (some (Ctl.out (Sum.inl (()))) : Option (Ctl (Int) (Sum (Unit) ((Int))))) = some _ := hm
      replace hq := someE hq
      subst hq
      refine eX_outX hx26 (fun hr31 => ?_)
      replace hr31 := hr31.symm
      subst hr31
      refine eX_block_hit ?_
      exact eX_J (fun hst => ⟨rfl, Fr.of hst (by kernel_rfl), hB, hZ⟩)
  · rintro a' w15 ⟨hJ, hF16, hB, hZ⟩
    subst hJ
    refine Fr.goX hF16 (by kernel_rfl) ?_
    refine eX_then ?_
    refine cW_seq ?_
    refine cW_region ?_
    refine wS_pure 2 [(2, .int .i64 (0)), (17, .int .i64 (0))] (by kernel_rfl) ?_
    refine wS_end (by rfl) ?_
    refine eX_then ?_
    refine cW_ret ?_
    have hq : (some 0 : Option ((Int))) = some _ := hm
    replace hq := someE hq
    subst hq
    refine eX_ret (vs := [.int .i64 (0)]) [.tmp 2] (by rfl) ⟨by (show lkE _ _ _ = _); kernel_rfl, trivial⟩ ?_
    exact ⟨rfl, hB⟩

set_option maxRecDepth 100000 in
/-- impl.pointOrder -/
theorem c_impl_pointOrder {w0 : World} {p0_0 : Int} {p0_1 : Int} {p1_0 : Int} {p1_1 : Int} {r : (Int)} (hm : m_impl_pointOrder p0_0 p0_1 p1_0 p1_1 = some r)  :
    Calls Try.prog 141 #[.agg #[.int .i64 (p0_0), .int .i64 (p0_1)], .agg #[.int .i64 (p1_0), .int .i64 (p1_1)]] w0 fun e w' => e = .returned (.int .i64 (r)) ∧ Chg [] w0 w' := by
  have hB : Chg [] w0 w0 := Chg.refl _ _
  have hZ := Nat.le_refl w0.heap.size
  unfold m_impl_pointOrder at hm
  refine enterE (N := 17) Try.func141 (by rfl) Try.ntmps141 (by simp) [(0, .agg #[.int .i64 (p0_0), .int .i64 (p0_1)]), (1, .agg #[.int .i64 (p1_0), .int .i64 (p1_1)])] (by rfl) (by kernel_rfl) (fun a => ?_)
  refine cW_seq ?_
  refine cW_region ?_
  refine wS_box (d := 2) (T := 37) (x := .agg #[.int .i64 (p0_0), .int .i64 (p0_1)]) (by kernel_rfl) ?_
  intro b1 w2 G3 F4 hc5
  replace F4 : Cl w2 b1 37 [.int .i64 (p0_0), .int .i64 (p0_1)] := F4
  replace hB := hB.inS hc5 inNil
  replace G3 := Nat.le_trans hZ G3
  replace hZ := Nat.le_trans hZ hc5.size
  refine wS_box (d := 3) (T := 37) (x := .agg #[.int .i64 (p1_0), .int .i64 (p1_1)]) (by kernel_rfl) ?_
  intro b7 w8 G9 F10 hc11
  replace F10 : Cl w8 b7 37 [.int .i64 (p1_0), .int .i64 (p1_1)] := F10
  have D13 : Dj [b1] [b7] := Dj.of (lt1 F4.lt) (low1 G9)
  replace F4 := F4.chg hc11 notNil
  replace hB := hB.inS hc11 inNil
  replace G9 := Nat.le_trans hZ G9
  replace hZ := Nat.le_trans hZ hc11.size
  refine wS_pure 1 [(4, .int .i64 (0))] (by kernel_rfl) ?_
  refine wS_end (by rfl) ?_
  refine eX_then ?_
  refine cW_seq ?_
  refine cW_drawnTail [] 9 (by kernel_rfl) (by kernel_rfl) (fun w38 hc39 => ?_)
  replace F4 := F4.chg hc39 notNil
  replace F10 := F10.chg hc39 notNil
  replace hB := hB.inS hc39 inNil
  replace hZ := Nat.le_trans hZ hc39.size
  have hS := Chg.refl [] w38
  have Z40 := F4
  have Z41 := F10
  refine wH_take [0] [0] [(5, .pointer (some ⟨b1, 0, none⟩))] (by kernel_rfl) (qT (qT qZ)) (by kernel_rfl) ?_
  refine wH_load1 (i := 1) (d := 6) (T := 2) (ad := ⟨b1, 0, none⟩) (v := .int .i64 (p0_0)) (by kernel_rfl) (qT (qT qZ)) (by kernel_rfl) (by kernel_rfl) vt2 (fun W hW => (Z40.chg hW notNil).cell 0) ?_
  refine wH_take [2] [2, 1, 0] [(7, .pointer (some ⟨b7, 0, none⟩))] (by kernel_rfl) (qT (qT qZ)) (by kernel_rfl) ?_
  refine wH_load1 (i := 3) (d := 8) (T := 2) (ad := ⟨b7, 0, none⟩) (v := .int .i64 (p1_0)) (by kernel_rfl) (qT (qT qZ)) (by kernel_rfl) (by kernel_rfl) vt2 (fun W hW => (Z41.chg hW notNil).cell 0) ?_
  refine wH_take [5] [5, 3, 2, 1, 0] [(10, .pointer (some ⟨b1, 1, none⟩))] (by kernel_rfl) (qT (qT qZ)) (by kernel_rfl) ?_
  refine wH_load1 (i := 6) (d := 11) (T := 2) (ad := ⟨b1, 1, none⟩) (v := .int .i64 (p0_1)) (by kernel_rfl) (qT (qT qZ)) (by kernel_rfl) (by kernel_rfl) vt2 (fun W hW => (Z40.chg hW notNil).cell 1) ?_
  refine wH_take [7] [7, 6, 5, 3, 2, 1, 0] [(12, .pointer (some ⟨b7, 1, none⟩))] (by kernel_rfl) (qT (qT qZ)) (by kernel_rfl) ?_
  refine wH_load1 (i := 8) (d := 13) (T := 2) (ad := ⟨b7, 1, none⟩) (v := .int .i64 (p1_1)) (by kernel_rfl) (qT (qT qZ)) (by kernel_rfl) (by kernel_rfl) vt2 (fun W hW => (Z41.chg hW notNil).cell 1) ?_
  refine wH_all [4] (by rfl) (by kernel_rfl) (by simp) ⟨⟨by kernel_rfl, ?_⟩, trivial⟩
  obtain ⟨y42, hy43, hm⟩ := bindE hm
  refine wS_calls (d := 9) (f := 188) (vs := [.int .i64 (p0_0), .int .i64 (p1_0)]) (by kernel_rfl) ent188 (c_cmp_Compare_int64 hy43) ?_
  rintro _ w44 ⟨rfl, hc45⟩
  replace F4 := F4.chg hc45 notNil
  replace F10 := F10.chg hc45 notNil
  replace hB := hB.inS hc45 inNil
  have hSz := hS
  replace hS := hS.inS hc45 inNil
  replace hZ := Nat.le_trans hZ hc45.size
  refine ⟨.int .i64 (y42), rfl, ?_⟩
  refine wS_end (by kernel_rfl) ?_
  refine eX_KH hS ?_
  refine wH_done (by kernel_rfl) ?_
  refine eX_tail ?_
  obtain ⟨y46, hy47, hm⟩ := bindE hm
  refine wS_calls (d := 14) (f := 188) (vs := [.int .i64 (p0_1), .int .i64 (p1_1)]) (by kernel_rfl) ent188 (c_cmp_Compare_int64 hy47) ?_
  rintro _ w48 ⟨rfl, hc49⟩
  replace F4 := F4.chg hc49 notNil
  replace F10 := F10.chg hc49 notNil
  replace hB := hB.inS hc49 inNil
  replace hZ := Nat.le_trans hZ hc49.size
  refine ⟨.int .i64 (y46), rfl, ?_⟩
  refine wS_bs (enc := encI) ([y42, y46] : List (Int)) [.int .i64 (y42), .int .i64 (y46)] (d := 15) (t := 213) (T := 3) (n := 2) (ps := [(0, .int .i64 (y42)), (1, .int .i64 (y46))]) (by kernel_rfl) el213 encI_ok (by rfl) (by omega) (by omega) (by kernel_rfl) (by rfl) ?_
  intro b50 w51 G52 F53 hc54
  have D56 : Dj [b1] [b50] := Dj.of (lt1 F4.lt) (low1 G52)
  have D57 : Dj [b7] [b50] := Dj.of (lt1 F10.lt) (low1 G52)
  replace F4 := F4.chg hc54 notNil
  replace F10 := F10.chg hc54 notNil
  replace hB := hB.inS hc54 inNil
  replace G52 := Nat.le_trans hZ G52
  replace G52 := low1 G52
  replace hZ := Nat.le_trans hZ hc54.size
  obtain ⟨y58, hy59, hm⟩ := bindE hm
  refine wS_calls (d := 16) (f := 187) (vs := [.slice (some ⟨b50, 0, none⟩) (([y42, y46] : List (Int))).length 2]) (by kernel_rfl) ent187 (c_cmp_Or_int hy59 (F53.sl encI_ok)) ?_
  rintro _ w60 ⟨rfl, hc61⟩
  replace F4 := F4.chg hc61 notNil
  replace F10 := F10.chg hc61 notNil
  replace F53 := F53.chg hc61 Dj.nil
  replace hB := hB.inS hc61 inNil
  replace hZ := Nat.le_trans hZ hc61.size
  refine ⟨.int .i64 (y58), rfl, ?_⟩
  refine wS_pure 1 [(4, .int .i64 (y58))] (by kernel_rfl) ?_
  refine wS_end (by rfl) ?_
  refine eX_then ?_
  refine cW_ret ?_
  have hq : (some y58 : Option ((Int))) = some _ := hm
  replace hq := someE hq
  subst hq
  refine eX_ret (vs := [.int .i64 (y58)]) [.tmp 4] (by rfl) ⟨by (show lkE _ _ _ = _); kernel_rfl, trivial⟩ ?_
  exact ⟨rfl, hB⟩

end Go.Proofs.Ytgaecldkiijmpaa
