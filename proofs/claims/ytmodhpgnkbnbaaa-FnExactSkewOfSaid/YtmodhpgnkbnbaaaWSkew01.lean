/- Printed walks: spec.l00Min, spec.l00Max, spec.SkewOf, impl.SkewOf$1, slices.IndexFunc[[]int64,int64], slices.ContainsFunc[[]int64,int64], slices.Max[[]int64,int64], slices.Min[[]int64,int64], impl.SkewOf, laws.FnExactSkewOf. -/
import Derived.Test.YtmodhpgnkbnbaaaProg
import Derived.Test.YtmodhpgnkbnbaaaWJoins01
import Derived.Test.YtmodhpgnkbnbaaaRw3
set_option linter.unusedSimpArgs false
set_option linter.unusedVariables false
namespace Go.Proofs.Ytmodhpgnkbnbaaa
open Go.RowKit
attribute [local irreducible] wS cW eX wH

theorem ent52 : Ent Try.prog 52 := fun _ => by kernel_rfl
theorem ent54 : Ent Try.prog 54 := fun _ => by kernel_rfl
theorem ent104 : Ent Try.prog 104 := fun _ => by kernel_rfl
theorem ent105 : Ent Try.prog 105 := fun _ => by kernel_rfl
theorem ent106 : Ent Try.prog 106 := fun _ => by kernel_rfl
theorem ent107 : Ent Try.prog 107 := fun _ => by kernel_rfl
theorem ent108 : Ent Try.prog 108 := fun _ => by kernel_rfl
theorem ent109 : Ent Try.prog 109 := fun _ => by kernel_rfl
theorem ent127 : Ent Try.prog 127 := fun _ => by kernel_rfl

def m_spec_l00Min (p0 : Int) (p1 : Int) : Option ((Int)) :=
  (bif decide (p0 < p1) then some p0 else some p1)
set_option maxRecDepth 100000 in
/-- spec.l00Min -/
theorem c_spec_l00Min {w0 : World} {p0 : Int} {p1 : Int} {r : (Int)} (hm : m_spec_l00Min p0 p1 = some r)  :
    Calls Try.prog 104 #[.int .i64 (p0), .int .i64 (p1)] w0 fun e w' => e = .returned (.int .i64 (r)) ∧ Chg [] w0 w' := by
  have hB : Chg [] w0 w0 := Chg.refl _ _
  have hZ := Nat.le_refl w0.heap.size
  unfold m_spec_l00Min at hm
  refine enterE (N := 10) Try.func104 (by rfl) Try.ntmps104 (by simp) [(0, .int .i64 (p0)), (1, .int .i64 (p1))] (by rfl) (by kernel_rfl) (fun a => ?_)
  refine cW_seq ?_
  refine cW_region ?_
  refine wS_pure 1 [(4, .int .i64 (0))] (by kernel_rfl) ?_
  refine wS_end (by rfl) ?_
  refine eX_then ?_
  refine cW_seq ?_
  refine cW_seq ?_
  refine cW_region ?_
  refine wS_pure 3 [(7, .bool (decide (p0 < p1))), (6, .int .i64 (p1)), (5, .int .i64 (p0))] (by kernel_rfl) ?_
  refine wS_end (by rfl) ?_
  refine eX_then ?_
  refine cW_cond (t := decide (p0 < p1)) (by kernel_rfl) (fun hb1 => ?_) (fun hb1 => ?_)
  · have hm := condT hb1 hm
    refine cW_seq ?_
    refine cW_region ?_
    refine wS_pure 2 [(4, .int .i64 (p0)), (8, .int .i64 (p0))] (by kernel_rfl) ?_
    refine wS_end (by rfl) ?_
    refine eX_then ?_
    refine cW_ret ?_
    refine eX_then_ret ?_
    have hq : (some p0 : Option ((Int))) = some _ := hm
    replace hq := someE hq
    subst hq
    refine eX_ret (vs := [.int .i64 (p0)]) [.tmp 4] (by rfl) ⟨by (show lkE _ _ _ = _); kernel_rfl, trivial⟩ ?_
    exact ⟨rfl, hB⟩
  · have hm := condF hb1 hm
    refine cW_skip ?_
    refine eX_then ?_
    refine cW_seq ?_
    refine cW_region ?_
    refine wS_pure 2 [(4, .int .i64 (p1)), (9, .int .i64 (p1))] (by kernel_rfl) ?_
    refine wS_end (by rfl) ?_
    refine eX_then ?_
    refine cW_ret ?_
    have hq : (some p1 : Option ((Int))) = some _ := hm
    replace hq := someE hq
    subst hq
    refine eX_ret (vs := [.int .i64 (p1)]) [.tmp 4] (by rfl) ⟨by (show lkE _ _ _ = _); kernel_rfl, trivial⟩ ?_
    exact ⟨rfl, hB⟩

def m_spec_l00Max (p0 : Int) (p1 : Int) : Option ((Int)) :=
  (bif decide (p0 > p1) then some p0 else some p1)
set_option maxRecDepth 100000 in
/-- spec.l00Max -/
theorem c_spec_l00Max {w0 : World} {p0 : Int} {p1 : Int} {r : (Int)} (hm : m_spec_l00Max p0 p1 = some r)  :
    Calls Try.prog 105 #[.int .i64 (p0), .int .i64 (p1)] w0 fun e w' => e = .returned (.int .i64 (r)) ∧ Chg [] w0 w' := by
  have hB : Chg [] w0 w0 := Chg.refl _ _
  have hZ := Nat.le_refl w0.heap.size
  unfold m_spec_l00Max at hm
  refine enterE (N := 10) Try.func105 (by rfl) Try.ntmps105 (by simp) [(0, .int .i64 (p0)), (1, .int .i64 (p1))] (by rfl) (by kernel_rfl) (fun a => ?_)
  refine cW_seq ?_
  refine cW_region ?_
  refine wS_pure 1 [(4, .int .i64 (0))] (by kernel_rfl) ?_
  refine wS_end (by rfl) ?_
  refine eX_then ?_
  refine cW_seq ?_
  refine cW_seq ?_
  refine cW_region ?_
  refine wS_pure 3 [(7, .bool (decide (p0 > p1))), (6, .int .i64 (p1)), (5, .int .i64 (p0))] (by kernel_rfl) ?_
  refine wS_end (by rfl) ?_
  refine eX_then ?_
  refine cW_cond (t := decide (p0 > p1)) (by kernel_rfl) (fun hb1 => ?_) (fun hb1 => ?_)
  · have hm := condT hb1 hm
    refine cW_seq ?_
    refine cW_region ?_
    refine wS_pure 2 [(4, .int .i64 (p0)), (8, .int .i64 (p0))] (by kernel_rfl) ?_
    refine wS_end (by rfl) ?_
    refine eX_then ?_
    refine cW_ret ?_
    refine eX_then_ret ?_
    have hq : (some p0 : Option ((Int))) = some _ := hm
    replace hq := someE hq
    subst hq
    refine eX_ret (vs := [.int .i64 (p0)]) [.tmp 4] (by rfl) ⟨by (show lkE _ _ _ = _); kernel_rfl, trivial⟩ ?_
    exact ⟨rfl, hB⟩
  · have hm := condF hb1 hm
    refine cW_skip ?_
    refine eX_then ?_
    refine cW_seq ?_
    refine cW_region ?_
    refine wS_pure 2 [(4, .int .i64 (p1)), (9, .int .i64 (p1))] (by kernel_rfl) ?_
    refine wS_end (by rfl) ?_
    refine eX_then ?_
    refine cW_ret ?_
    have hq : (some p1 : Option ((Int))) = some _ := hm
    replace hq := someE hq
    subst hq
    refine eX_ret (vs := [.int .i64 (p1)]) [.tmp 4] (by rfl) ⟨by (show lkE _ _ _ = _); kernel_rfl, trivial⟩ ?_
    exact ⟨rfl, hB⟩

noncomputable def m_spec_SkewOf_s3 (p0 : Int) (l360 : List (Int)) (s570 : Int × Int × Int) : Option (Ctl (Int × Int × Int) (Int × Int)) :=
  match s570 with | (x562, x563, x564) => (bif decide (x564 < p0) then Option.bind (geti l360 x564) fun x574 => Option.bind (m_spec_l00Min x562 x574) fun y576 => Option.bind (geti l360 x564) fun x580 => Option.bind (m_spec_l00Max x563 x580) fun y582 => some (Ctl.next ((y576, y582, wr (x564 + 1)))) else some (Ctl.out ((x562, x563))))
noncomputable def m_spec_SkewOf_s2 (p0 : Int) (l1 : List (List (Int))) (l2 : List (Int)) (s373 : Int × (List (Int))) : Option (Ctl (Int × (List (Int))) ((List (Int)))) :=
  match s373 with | (x364, l365) => (bif decide (x364 ≥ 0) then Option.bind (geti l1 x364) fun x416 => Option.bind (geti x416 0) fun x424 => Option.bind (geti l365 (wr (p0 + x364))) fun x426 => Option.bind (geti l1 x364) fun x428 => Option.bind (geti x428 0) fun x436 => Option.bind (geti l2 x436) fun x438 => Option.bind (geti l365 x424) fun x440 => Option.bind (geti l1 x364) fun x489 => Option.bind (geti x489 1) fun x497 => Option.bind (geti (l365.set (Int.toNat x424) (wr (x426 + x438))) (wr (p0 + x364))) fun x499 => Option.bind (geti l1 x364) fun x501 => Option.bind (geti x501 1) fun x509 => Option.bind (geti l2 x509) fun x511 => Option.bind (geti (l365.set (Int.toNat x424) (wr (x426 + x438))) x497) fun x513 => some (Ctl.next ((wr (x364 - 1), (l365.set (Int.toNat x424) (wr (x426 + x438))).set (Int.toNat x497) (wr (x499 + x511))))) else some (Ctl.out l365))
noncomputable def m_spec_SkewOf_s1 (l2 : List (Int)) (s44 : Int) : Option (Ctl (Int) (Sum (Unit) ((Int) × (Bool)))) :=
  (fun (x37 : Int) => (bif decide (x37 < (((l2).length : Int))) then Option.bind (geti l2 x37) fun x48 => Option.bind (m_spec_l00In x48 0 1000000000) fun y50 => (bif !y50 then some (Ctl.out (Sum.inr ((0, false)))) else some (Ctl.next (wr (x37 + 1)))) else some (Ctl.out (Sum.inl (()))))) s44
noncomputable def m_spec_SkewOf (p0 : Int) (l1 : List (List (Int))) (l2 : List (Int)) : Option ((Int) × (Bool)) :=
  Option.bind (m_spec_l06Joins p0 l1) fun y3 => (bif !y3 then some ((0, false)) else (bif (((l2).length : Int)) != (wr ((wr (2 * p0)) - 1)) then some ((0, false)) else Option.bind (loopM (m_spec_SkewOf_s1 l2) 0) fun (r41 : Sum (Unit) ((Int) × (Bool))) => match r41 with | Sum.inl q588 => (Option.bind (mkC (((l2).length : Int))) fun _ => Option.bind (loopM (m_spec_SkewOf_s2 p0 l1 l2) ((wr (p0 - 2), List.replicate (Int.toNat (((l2).length : Int))) ((0 : Int))))) fun (r370 : (List (Int))) => (fun (l360 : List (Int)) => Option.bind (geti l360 0) fun x520 => Option.bind (geti l360 0) fun x522 => Option.bind (loopM (m_spec_SkewOf_s3 p0 l360) ((x520, x522, 1))) fun (r567 : Int × Int) => match r567 with | (x558, x559) => some ((wr (x559 - x558), true))) r370) | Sum.inr v587 => some v587))
set_option maxRecDepth 100000 in
/-- spec.SkewOf -/
theorem c_spec_SkewOf {w0 : World} {p0 : Int} {l1 : List (List (Int))} {A1 : Option Addr} {cap1 : Nat} {fp1 : List Nat} {l2 : List (Int)} {A2 : Option Addr} {cap2 : Nat} {fp2 : List Nat} {r : (Int) × (Bool)} (hm : m_spec_SkewOf p0 l1 l2 = some r) (F1 : SlR 1 encI w0 fp1 A1 l1) (F2 : Sl 1 encI w0 fp2 A2 l2) :
    Calls Try.prog 52 #[.int .i64 (p0), .slice A1 (l1).length cap1, .slice A2 (l2).length cap2] w0 fun e w' => e = .returned (.tuple #[.int .i64 (r.1), .bool (r.2)]) ∧ Chg [] w0 w' := by
  have L1 := F1.low
  have L2 := F2.low
  have hB : Chg [] w0 w0 := Chg.refl _ _
  have hZ := Nat.le_refl w0.heap.size
  unfold m_spec_SkewOf at hm
  refine enterE (N := 121) Try.func52 (by rfl) Try.ntmps52 (by simp) [(0, .int .i64 (p0)), (1, .slice A1 (l1).length cap1), (2, .slice A2 (l2).length cap2)] (by rfl) (by kernel_rfl) (fun a => ?_)
  refine cW_seq ?_
  refine cW_region ?_
  refine wS_pure 2 [(7, .bool (false)), (6, .int .i64 (0))] (by kernel_rfl) ?_
  refine wS_end (by rfl) ?_
  refine eX_then ?_
  refine cW_seq ?_
  refine cW_seq ?_
  refine cW_region ?_
  refine wS_pure 2 [(15, .slice A1 (l1).length cap1), (14, .int .i64 (p0))] (by kernel_rfl) ?_
  obtain ⟨y3, hy4, hm⟩ := bindE hm
  refine wS_calls (d := 16) (f := 94) (vs := [.int .i64 (p0), .slice A1 (l1).length cap1]) (by kernel_rfl) ent94 (c_spec_l06Joins hy4 F1) ?_
  rintro _ w5 ⟨rfl, hc6⟩
  replace F1 := F1.chg hc6 Dj.nil
  replace F2 := F2.chg hc6 Dj.nil
  replace hB := hB.inS hc6 inNil
  replace hZ := Nat.le_trans hZ hc6.size
  refine ⟨.bool (y3), rfl, ?_⟩
  refine wS_pure 2 [(18, .bool (!y3)), (17, .bool (!y3))] (by kernel_rfl) ?_
  refine wS_bool (!y3) (fun hb7 => ?_) (fun hb7 => ?_)
  · have hm := condT hb7 hm
    rewrite [hb7]
    refine wS_pure 7 [(25, .bool (true)), (24, undef), (23, undef), (22, undef), (21, undef), (20, undef), (19, undef)] (by kernel_rfl) ?_
    refine wS_end (by rfl) ?_
    refine eX_then ?_
    refine cW_cond_t (by kernel_rfl) ?_
    refine cW_seq ?_
    refine cW_region ?_
    refine wS_pure 2 [(7, .bool (false)), (6, .int .i64 (0))] (by kernel_rfl) ?_
    refine wS_end (by rfl) ?_
    refine eX_then ?_
    refine cW_ret ?_
    refine eX_then_ret ?_
    have hq : (some ((0, false)) : Option ((Int) × (Bool))) = some _ := hm
    replace hq := someE hq
    subst hq
    refine eX_ret (vs := [.int .i64 (0), .bool (false)]) [.tmp 6, .tmp 7] (by rfl) ⟨by (show lkE _ _ _ = _); kernel_rfl, ⟨by (show lkE _ _ _ = _); kernel_rfl, trivial⟩⟩ ?_
    exact ⟨rfl, hB⟩
  · have hm := condF hb7 hm
    rewrite [hb7]
    refine wS_pure 7 [(25, .bool ((((l2).length : Int)) != (wr ((wr (2 * p0)) - 1)))), (24, .bool ((((l2).length : Int)) != (wr ((wr (2 * p0)) - 1)))), (23, .int .i64 (wr ((wr (2 * p0)) - 1))), (22, .int .i64 (wr (2 * p0))), (21, .int .i64 (p0)), (20, .int .i64 (((l2).length : Int))), (19, .slice A2 (l2).length cap2)] (by kernel_rfl) ?_
    refine wS_end (by rfl) ?_
    refine eX_then ?_
    refine cW_cond (t := (((l2).length : Int)) != (wr ((wr (2 * p0)) - 1))) (by kernel_rfl) (fun hb8 => ?_) (fun hb8 => ?_)
    · have hm := condT hb8 hm
      refine cW_seq ?_
      refine cW_region ?_
      refine wS_pure 2 [(7, .bool (false)), (6, .int .i64 (0))] (by kernel_rfl) ?_
      refine wS_end (by rfl) ?_
      refine eX_then ?_
      refine cW_ret ?_
      refine eX_then_ret ?_
      have hq : (some ((0, false)) : Option ((Int) × (Bool))) = some _ := hm
      replace hq := someE hq
      subst hq
      refine eX_ret (vs := [.int .i64 (0), .bool (false)]) [.tmp 6, .tmp 7] (by rfl) ⟨by (show lkE _ _ _ = _); kernel_rfl, ⟨by (show lkE _ _ _ = _); kernel_rfl, trivial⟩⟩ ?_
      exact ⟨rfl, hB⟩
    · have hm := condF hb8 hm
      refine cW_skip ?_
      refine eX_then ?_
      refine cW_seq ?_
      refine cW_seq ?_
      refine cW_region ?_
      refine wS_pure 1 [(8, .int .i64 (0))] (by kernel_rfl) ?_
      refine wS_end (by rfl) ?_
      refine eX_then ?_
      obtain ⟨r41, hr42, hm⟩ := bindE hm
      have hm43 := hm
      refine cW_cut (fun a' w' => Sum.inl (()) = r41 ∧ Fr 121 [(0, .int .i64 (p0)), (1, .slice A1 (l1).length cap1), (2, .slice A2 (l2).length cap2)] a' ∧ SlR 1 encI w' fp1 A1 l1 ∧ Sl 1 encI w' fp2 A2 l2 ∧ Chg [] w0 w' ∧ w0.heap.size ≤ w'.heap.size) ?_ ?_
      · refine cW_block ?_
        refine cW_loop _ (fun (s44 : Int) a' w' => ∃ x37 : Int, x37 = s44 ∧ Fr 121 [(0, .int .i64 (p0)), (1, .slice A1 (l1).length cap1), (2, .slice A2 (l2).length cap2), (8, .int .i64 (x37))] a' ∧ SlR 1 encI w' fp1 A1 l1 ∧ Sl 1 encI w' fp2 A2 l2 ∧ Chg [] w0 w' ∧ w0.heap.size ≤ w'.heap.size) hr42 (fun hst => ⟨0, rfl, Fr.of hst (by kernel_rfl), F1, F2, hB, hZ⟩) ?_
        rintro _ c45 a' w36 ⟨x37, rfl, hF38, F39, F40, hB, hZ⟩ hx46
        refine Fr.goOn hF38 (by kernel_rfl) ?_
        have hm := hx46
        unfold m_spec_SkewOf_s1 at hm
        refine cW_seq ?_
        refine cW_seq ?_
        refine cW_region ?_
        refine wS_pure 4 [(29, .bool (decide (x37 < (((l2).length : Int))))), (28, .int .i64 (((l2).length : Int))), (27, .slice A2 (l2).length cap2), (26, .int .i64 (x37))] (by kernel_rfl) ?_
        refine wS_end (by rfl) ?_
        refine eX_then ?_
        refine cW_cond (t := decide (x37 < (((l2).length : Int)))) (by kernel_rfl) (fun hb47 => ?_) (fun hb47 => ?_)
        · have hm := condT hb47 hm
          refine cW_skip ?_
          refine eX_then ?_
          refine cW_seq ?_
          refine cW_block ?_
          refine cW_seq ?_
          refine cW_region ?_
          refine wS_pure 2 [(33, .int .i64 (x37)), (32, .slice A2 (l2).length cap2)] (by kernel_rfl) ?_
          obtain ⟨x48, hx49, hm⟩ := bindE hm
          refine wS_idx (d := 34) (T := 68) (A := A2) (n := (l2).length) (cap := cap2) (kd := .i64) (m := x37) (by kernel_rfl) sl68 (F40.is hx49) ?_
          refine wS_load1 (d := 35) (T := 2) (ad := (elA A2 1 (x37) 0)) (v := .int .i64 (x48)) (by kernel_rfl) vt2 (Sl.cell F40 hx49 0 (by rfl)) ?_
          obtain ⟨y50, hy51, hm⟩ := bindE hm
          refine wS_calls (d := 36) (f := 88) (vs := [.int .i64 (x48), .int .i64 (0), .int .i64 (1000000000)]) (by kernel_rfl) ent88 (c_spec_l00In hy51) ?_
          rintro _ w52 ⟨rfl, hc53⟩
          replace F39 := F39.chg hc53 Dj.nil
          replace F40 := F40.chg hc53 Dj.nil
          replace hB := hB.inS hc53 inNil
          replace hZ := Nat.le_trans hZ hc53.size
          refine ⟨.bool (y50), rfl, ?_⟩
          refine wS_pure 1 [(37, .bool (!y50))] (by kernel_rfl) ?_
          refine wS_end (by rfl) ?_
          refine eX_then ?_
          refine cW_cond (t := !y50) (by kernel_rfl) (fun hb54 => ?_) (fun hb54 => ?_)
          · have hm := condT hb54 hm
            refine cW_seq ?_
            refine cW_region ?_
            refine wS_pure 2 [(7, .bool (false)), (6, .int .i64 (0))] (by kernel_rfl) ?_
            refine wS_end (by rfl) ?_
            refine eX_then ?_
            refine cW_ret ?_
            refine eX_block_ret ?_
            refine eX_then_ret ?_
            have hq : (some (Ctl.out (Sum.inr ((0, false)))) : Option (Ctl (Int) (Sum (Unit) ((Int) × (Bool))))) = some _ := hm
            replace hq := someE hq
            subst hq
            refine eX_outR hx46 (fun hr => ?_)
            subst hr
            refine eX_block_ret ?_
            refine eX_then_ret ?_
            refine eX_then_ret ?_
            have hq : (some ((0, false)) : Option ((Int) × (Bool))) = some _ := hm43
            replace hq := someE hq
            subst hq
            refine eX_ret (vs := [.int .i64 (0), .bool (false)]) [.tmp 6, .tmp 7] (by rfl) ⟨by (show lkE _ _ _ = _); kernel_rfl, ⟨by (show lkE _ _ _ = _); kernel_rfl, trivial⟩⟩ ?_
            exact ⟨rfl, hB⟩
          · have hm := condF hb54 hm
            refine cW_skip ?_
            refine eX_block ?_
            refine eX_then ?_
            refine cW_region ?_
            refine wS_pure 3 [(8, .int .i64 (wr (x37 + 1))), (31, .int .i64 (wr (x37 + 1))), (30, .int .i64 (x37))] (by kernel_rfl) ?_
            refine wS_end (by rfl) ?_
            have hq : (some (Ctl.next (wr (x37 + 1))) : Option (Ctl (Int) (Sum (Unit) ((Int) × (Bool))))) = some _ := hm
            replace hq := someE hq
            subst hq
            exact eX_next hx46 (fun hst => ⟨wr (x37 + 1), rfl, Fr.of hst (by kernel_rfl), F39, F40, hB, hZ⟩)
        · have hm := condF hb47 hm
          refine cW_exit ?_
          refine eX_then_exit ?_
          have hq : (some (Ctl.out (Sum.inl (()))) : Option (Ctl (Int) (Sum (Unit) ((Int) × (Bool))))) = some _ := hm
          replace hq := someE hq
          subst hq
          refine eX_outX hx46 (fun hr55 => ?_)
          replace hr55 := hr55.symm
          subst hr55
          refine eX_block_hit ?_
          exact eX_J (fun hst => ⟨rfl, Fr.of hst (by kernel_rfl), F39, F40, hB, hZ⟩)
      · rintro a' w32 ⟨hJ, hF33, F34, F35, hB, hZ⟩
        subst hJ
        refine Fr.goX hF33 (by kernel_rfl) ?_
        refine eX_then ?_
        refine cW_seq ?_
        refine cW_region ?_
        refine wS_pure 2 [(39, .int .i64 (((l2).length : Int))), (38, .slice A2 (l2).length cap2)] (by kernel_rfl) ?_
        obtain ⟨_, hk56, hm⟩ := bindE hm
        replace hk56 := mkE hk56
        refine wS_make (enc := encI) (x0 := (0 : Int)) (d := 40) (t := 68) (T := 2) (k1 := .i64) (k2 := .i64) (m := ((l2).length : Int)) (by kernel_rfl) el68 encI_ok (by rfl) hk56.1 hk56.2 ?_
        intro b57 w58 G59 F60 hc61
        replace F34 := F34.chg hc61 Dj.nil
        replace F35 := F35.chg hc61 Dj.nil
        replace hB := hB.inS hc61 inNil
        replace G59 := Nat.le_trans hZ G59
        replace G59 := low1 G59
        replace hZ := Nat.le_trans hZ hc61.size
        refine wS_pure 1 [(9, .slice (some ⟨b57, 0, none⟩) (List.replicate (Int.toNat (((l2).length : Int))) ((0 : Int))).length (Int.toNat (((l2).length : Int))))] (by kernel_rfl) ?_
        refine wS_end (by rfl) ?_
        refine eX_then ?_
        refine cW_seq ?_
        refine cW_seq ?_
        refine cW_region ?_
        refine wS_pure 3 [(10, .int .i64 (wr (p0 - 2))), (42, .int .i64 (wr (p0 - 2))), (41, .int .i64 (p0))] (by kernel_rfl) ?_
        refine wS_end (by rfl) ?_
        refine eX_then ?_
        obtain ⟨r370, hr371, hm⟩ := bindE hm
        have hm372 := hm
        refine cW_cut (fun a' w' => ∃ l360 : List (Int), l360 = r370 ∧ Fr 121 [(0, .int .i64 (p0)), (9, .slice (some ⟨b57, 0, none⟩) (l360).length (Int.toNat (((l2).length : Int))))] a' ∧ Ow 1 encI 2 w' [b57] (some ⟨b57, 0, none⟩) (Int.toNat (((l2).length : Int))) l360 ∧ Chg [] w0 w' ∧ w0.heap.size ≤ w'.heap.size) ?_ ?_
        · refine cW_block ?_
          refine cW_loop _ (fun (s373 : Int × (List (Int))) a' w' => ∃ x364 : Int, ∃ l365 : List (Int), (x364, l365) = s373 ∧ Fr 121 [(0, .int .i64 (p0)), (1, .slice A1 (l1).length cap1), (2, .slice A2 (l2).length cap2), (9, .slice (some ⟨b57, 0, none⟩) (l365).length (Int.toNat (((l2).length : Int)))), (10, .int .i64 (x364))] a' ∧ SlR 1 encI w' fp1 A1 l1 ∧ Sl 1 encI w' fp2 A2 l2 ∧ Ow 1 encI 2 w' [b57] (some ⟨b57, 0, none⟩) (Int.toNat (((l2).length : Int))) l365 ∧ Chg [] w0 w' ∧ w0.heap.size ≤ w'.heap.size) hr371 (fun hst => ⟨wr (p0 - 2), List.replicate (Int.toNat (((l2).length : Int))) ((0 : Int)), rfl, Fr.of hst (by kernel_rfl), F34, F35, F60, hB, hZ⟩) ?_
          rintro _ c374 a' w363 ⟨x364, l365, rfl, hF366, F367, F368, F369, hB, hZ⟩ hx375
          refine Fr.goOn hF366 (by kernel_rfl) ?_
          have hm := hx375
          unfold m_spec_SkewOf_s2 at hm
          refine cW_seq ?_
          refine cW_seq ?_
          refine cW_region ?_
          refine wS_pure 2 [(44, .bool (decide (x364 ≥ 0))), (43, .int .i64 (x364))] (by kernel_rfl) ?_
          refine wS_end (by rfl) ?_
          refine eX_then ?_
          refine cW_cond (t := decide (x364 ≥ 0)) (by kernel_rfl) (fun hb376 => ?_) (fun hb376 => ?_)
          · have hm := condT hb376 hm
            refine cW_skip ?_
            refine eX_then ?_
            refine cW_seq ?_
            refine cW_block ?_
            refine cW_seq ?_
            refine cW_drawnTail [] 23 (by kernel_rfl) (by kernel_rfl) (fun w411 hc412 => ?_)
            replace F367 := F367.chg hc412 Dj.nil
            replace F368 := F368.chg hc412 Dj.nil
            replace F369 := F369.chg hc412 Dj.nil
            replace hB := hB.inS hc412 inNil
            replace hZ := Nat.le_trans hZ hc412.size
            have hS := Chg.refl [] w411
            have Z413 := F367
            have Z414 := F368
            have Z415 := F369
            refine wH_take [0, 1, 2] [2, 1, 0] [(49, .int .i64 (x364)), (48, .slice A1 (l1).length cap1), (47, .slice (some ⟨b57, 0, none⟩) (l365).length (Int.toNat (((l2).length : Int))))] (by kernel_rfl) (qT (qT (qB (qT (qL (qB (qT (qT qZ)))))))) (by kernel_rfl) ?_
            obtain ⟨x416, hx417, hm⟩ := bindE hm
            refine wH_idx (i := 3) (d := 50) (T := 44) (A := A1) (n := (l1).length) (cap := cap1) (kd := .i64) (m := x364) (by kernel_rfl) (qT (qT (qB (qT (qL (qB (qT (qT qZ)))))))) (by kernel_rfl) (by kernel_rfl) sl44 (F367.is hx417) ?_
            obtain ⟨A418, cap419, hc421, F420⟩ := SlR.row Z413 hx417
            have F422 := F420.chg hS Dj.nil
            refine wH_load1 (i := 4) (d := 51) (T := 68) (ad := (elA A1 1 (x364) 0)) (v := .slice A418 (x416).length cap419) (by kernel_rfl) (qT (qT (qB (qT (qL (qB (qT (qT qZ)))))))) (by kernel_rfl) (by kernel_rfl) vt68 (fun W hW => hW.keep hc421) ?_
            obtain ⟨x424, hx425, hm⟩ := bindE hm
            refine wH_idx (i := 5) (d := 52) (T := 68) (A := A418) (n := (x416).length) (cap := cap419) (kd := .i64) (m := 0) (by kernel_rfl) (qT (qT (qB (qT (qL (qB (qT (qT qZ)))))))) (by kernel_rfl) (by kernel_rfl) sl68 (F422.is hx425) ?_
            refine wH_load1 (i := 6) (d := 53) (T := 2) (ad := (elA A418 1 (0) 0)) (v := .int .i64 (x424)) (by kernel_rfl) (qT (qT (qB (qT (qL (qB (qT (qT qZ)))))))) (by kernel_rfl) (by kernel_rfl) vt2 (fun W hW => Sl.cell (F420.chg hW Dj.nil) hx425 0 (by rfl)) ?_
            refine wH_take [7, 8, 9, 10] [10, 9, 8, 7, 6, 5, 4, 3, 2, 1, 0] [(57, .int .i64 (wr (p0 + x364))), (56, .int .i64 (x364)), (55, .int .i64 (p0)), (54, .slice (some ⟨b57, 0, none⟩) (l365).length (Int.toNat (((l2).length : Int))))] (by kernel_rfl) (qT (qT (qB (qT (qL (qB (qT (qT qZ)))))))) (by kernel_rfl) ?_
            obtain ⟨x426, hx427, hm⟩ := bindE hm
            refine wH_idx (i := 11) (d := 58) (T := 68) (A := (some ⟨b57, 0, none⟩)) (n := (l365).length) (cap := (Int.toNat (((l2).length : Int)))) (kd := .i64) (m := wr (p0 + x364)) (by kernel_rfl) (qT (qT (qB (qT (qL (qB (qT (qT qZ)))))))) (by kernel_rfl) (by kernel_rfl) sl68 ((F369.sl encI_ok).is hx427) ?_
            refine wH_load1 (i := 12) (d := 59) (T := 2) (ad := (elA (some ⟨b57, 0, none⟩) 1 (wr (p0 + x364)) 0)) (v := .int .i64 (x426)) (by kernel_rfl) (qT (qT (qB (qT (qL (qB (qT (qT qZ)))))))) (by kernel_rfl) (by kernel_rfl) vt2 (fun W hW => Sl.cell ((Z415.chg hW Dj.nil).sl encI_ok) hx427 0 (by rfl)) ?_
            refine wH_take [13, 14, 15] [15, 14, 13, 12, 11, 10, 9, 8, 7, 6, 5, 4, 3, 2, 1, 0] [(62, .int .i64 (x364)), (61, .slice A1 (l1).length cap1), (60, .slice A2 (l2).length cap2)] (by kernel_rfl) (qT (qT (qB (qT (qL (qB (qT (qT qZ)))))))) (by kernel_rfl) ?_
            obtain ⟨x428, hx429, hm⟩ := bindE hm
            refine wH_idx (i := 16) (d := 63) (T := 44) (A := A1) (n := (l1).length) (cap := cap1) (kd := .i64) (m := x364) (by kernel_rfl) (qT (qT (qB (qT (qL (qB (qT (qT qZ)))))))) (by kernel_rfl) (by kernel_rfl) sl44 (F367.is hx429) ?_
            obtain ⟨A430, cap431, hc433, F432⟩ := SlR.row Z413 hx429
            have F434 := F432.chg hS Dj.nil
            refine wH_load1 (i := 17) (d := 64) (T := 68) (ad := (elA A1 1 (x364) 0)) (v := .slice A430 (x428).length cap431) (by kernel_rfl) (qT (qT (qB (qT (qL (qB (qT (qT qZ)))))))) (by kernel_rfl) (by kernel_rfl) vt68 (fun W hW => hW.keep hc433) ?_
            obtain ⟨x436, hx437, hm⟩ := bindE hm
            refine wH_idx (i := 18) (d := 65) (T := 68) (A := A430) (n := (x428).length) (cap := cap431) (kd := .i64) (m := 0) (by kernel_rfl) (qT (qT (qB (qT (qL (qB (qT (qT qZ)))))))) (by kernel_rfl) (by kernel_rfl) sl68 (F434.is hx437) ?_
            refine wH_load1 (i := 19) (d := 66) (T := 2) (ad := (elA A430 1 (0) 0)) (v := .int .i64 (x436)) (by kernel_rfl) (qT (qT (qB (qT (qL (qB (qT (qT qZ)))))))) (by kernel_rfl) (by kernel_rfl) vt2 (fun W hW => Sl.cell (F432.chg hW Dj.nil) hx437 0 (by rfl)) ?_
            obtain ⟨x438, hx439, hm⟩ := bindE hm
            refine wH_idx (i := 20) (d := 67) (T := 68) (A := A2) (n := (l2).length) (cap := cap2) (kd := .i64) (m := x436) (by kernel_rfl) (qT (qT (qB (qT (qL (qB (qT (qT qZ)))))))) (by kernel_rfl) (by kernel_rfl) sl68 (F368.is hx439) ?_
            refine wH_load1 (i := 21) (d := 68) (T := 2) (ad := (elA A2 1 (x436) 0)) (v := .int .i64 (x438)) (by kernel_rfl) (qT (qT (qB (qT (qL (qB (qT (qT qZ)))))))) (by kernel_rfl) (by kernel_rfl) vt2 (fun W hW => Sl.cell (Z414.chg hW Dj.nil) hx439 0 (by rfl)) ?_
            refine wH_take [22] [22, 21, 20, 19, 18, 17, 16, 15, 14, 13, 12, 11, 10, 9, 8, 7, 6, 5, 4, 3, 2, 1, 0] [(69, .int .i64 (wr (x426 + x438)))] (by kernel_rfl) (qT (qT (qB (qT (qL (qB (qT (qT qZ)))))))) (by kernel_rfl) ?_
            refine wH_done (by kernel_rfl) ?_
            refine eX_tail ?_
            obtain ⟨x440, hx441, hm⟩ := bindE hm
            refine wS_idx (d := 70) (T := 68) (A := (some ⟨b57, 0, none⟩)) (n := (l365).length) (cap := (Int.toNat (((l2).length : Int)))) (kd := .i64) (m := x424) (by kernel_rfl) sl68 ((F369.sl encI_ok).is hx441) ?_
            refine wS_storeEl (x := x440) (wr (x426 + x438)) (T := 2) (U := 2) (cap := (Int.toNat (((l2).length : Int)))) (j := 0) (A := (some ⟨b57, 0, none⟩)) (v := .int .i64 (wr (x426 + x438))) (vs := [.int .i64 (wr (x426 + x438))]) (m := x424) (by kernel_rfl) (by rfl) sz2 (by rfl) encI_ok F369 hx441 (by simp only [List.length_cons, List.length_nil]; omega) (by rfl) ?_
            intro w442 F443 hc444
            replace F367 := F367.chg hc444 (Dj.of L1 G59)
            replace F368 := F368.chg hc444 (Dj.of L2 G59)
            replace F422 := F422.chg hc444 (Dj.of L1 G59)
            replace F434 := F434.chg hc444 (Dj.of L1 G59)
            replace hB := hB.inS hc444 (inLow G59)
            replace hZ := Nat.le_trans hZ hc444.size
            clear F369
            rewrite [show (l365).length = (l365.set (Int.toNat x424) (wr (x426 + x438))).length from (List.length_set ..).symm]
            refine wS_end (by rfl) ?_
            refine eX_then ?_
            refine cW_prune [(0, .int .i64 (p0)), (1, .slice A1 (l1).length cap1), (2, .slice A2 (l2).length cap2), (9, .slice (some ⟨b57, 0, none⟩) (l365.set (Int.toNat x424) (wr (x426 + x438))).length (Int.toNat (((l2).length : Int)))), (10, .int .i64 (x364))] (by kernel_rfl) (by kernel_rfl) (fun a445 => ?_)
            refine cW_drawnTail [] 23 (by kernel_rfl) (by kernel_rfl) (fun w482 hc483 => ?_)
            replace F367 := F367.chg hc483 Dj.nil
            replace F368 := F368.chg hc483 Dj.nil
            replace F443 := F443.chg hc483 Dj.nil
            replace F422 := F422.chg hc483 Dj.nil
            replace F434 := F434.chg hc483 Dj.nil
            replace hB := hB.inS hc483 inNil
            replace hZ := Nat.le_trans hZ hc483.size
            have hS := Chg.refl [] w482
            have Z484 := F367
            have Z485 := F368
            have Z486 := F443
            have Z487 := F422
            have Z488 := F434
            refine wH_take [0, 1, 2] [2, 1, 0] [(73, .int .i64 (x364)), (72, .slice A1 (l1).length cap1), (71, .slice (some ⟨b57, 0, none⟩) (l365.set (Int.toNat x424) (wr (x426 + x438))).length (Int.toNat (((l2).length : Int))))] (by kernel_rfl) (qT (qB (qT (qL (qB (qT (qT qZ))))))) (by kernel_rfl) ?_
            obtain ⟨x489, hx490, hm⟩ := bindE hm
            refine wH_idx (i := 3) (d := 74) (T := 44) (A := A1) (n := (l1).length) (cap := cap1) (kd := .i64) (m := x364) (by kernel_rfl) (qT (qB (qT (qL (qB (qT (qT qZ))))))) (by kernel_rfl) (by kernel_rfl) sl44 (F367.is hx490) ?_
            obtain ⟨A491, cap492, hc494, F493⟩ := SlR.row Z484 hx490
            have F495 := F493.chg hS Dj.nil
            refine wH_load1 (i := 4) (d := 75) (T := 68) (ad := (elA A1 1 (x364) 0)) (v := .slice A491 (x489).length cap492) (by kernel_rfl) (qT (qB (qT (qL (qB (qT (qT qZ))))))) (by kernel_rfl) (by kernel_rfl) vt68 (fun W hW => hW.keep hc494) ?_
            obtain ⟨x497, hx498, hm⟩ := bindE hm
            refine wH_idx (i := 5) (d := 76) (T := 68) (A := A491) (n := (x489).length) (cap := cap492) (kd := .i64) (m := 1) (by kernel_rfl) (qT (qB (qT (qL (qB (qT (qT qZ))))))) (by kernel_rfl) (by kernel_rfl) sl68 (F495.is hx498) ?_
            refine wH_load1 (i := 6) (d := 77) (T := 2) (ad := (elA A491 1 (1) 0)) (v := .int .i64 (x497)) (by kernel_rfl) (qT (qB (qT (qL (qB (qT (qT qZ))))))) (by kernel_rfl) (by kernel_rfl) vt2 (fun W hW => Sl.cell (F493.chg hW Dj.nil) hx498 0 (by rfl)) ?_
            refine wH_take [7, 8, 9, 10] [10, 9, 8, 7, 6, 5, 4, 3, 2, 1, 0] [(81, .int .i64 (wr (p0 + x364))), (80, .int .i64 (x364)), (79, .int .i64 (p0)), (78, .slice (some ⟨b57, 0, none⟩) (l365.set (Int.toNat x424) (wr (x426 + x438))).length (Int.toNat (((l2).length : Int))))] (by kernel_rfl) (qT (qB (qT (qL (qB (qT (qT qZ))))))) (by kernel_rfl) ?_
            obtain ⟨x499, hx500, hm⟩ := bindE hm
            refine wH_idx (i := 11) (d := 82) (T := 68) (A := (some ⟨b57, 0, none⟩)) (n := (l365.set (Int.toNat x424) (wr (x426 + x438))).length) (cap := (Int.toNat (((l2).length : Int)))) (kd := .i64) (m := wr (p0 + x364)) (by kernel_rfl) (qT (qB (qT (qL (qB (qT (qT qZ))))))) (by kernel_rfl) (by kernel_rfl) sl68 ((F443.sl encI_ok).is hx500) ?_
            refine wH_load1 (i := 12) (d := 83) (T := 2) (ad := (elA (some ⟨b57, 0, none⟩) 1 (wr (p0 + x364)) 0)) (v := .int .i64 (x499)) (by kernel_rfl) (qT (qB (qT (qL (qB (qT (qT qZ))))))) (by kernel_rfl) (by kernel_rfl) vt2 (fun W hW => Sl.cell ((Z486.chg hW Dj.nil).sl encI_ok) hx500 0 (by rfl)) ?_
            refine wH_take [13, 14, 15] [15, 14, 13, 12, 11, 10, 9, 8, 7, 6, 5, 4, 3, 2, 1, 0] [(86, .int .i64 (x364)), (85, .slice A1 (l1).length cap1), (84, .slice A2 (l2).length cap2)] (by kernel_rfl) (qT (qB (qT (qL (qB (qT (qT qZ))))))) (by kernel_rfl) ?_
            obtain ⟨x501, hx502, hm⟩ := bindE hm
            refine wH_idx (i := 16) (d := 87) (T := 44) (A := A1) (n := (l1).length) (cap := cap1) (kd := .i64) (m := x364) (by kernel_rfl) (qT (qB (qT (qL (qB (qT (qT qZ))))))) (by kernel_rfl) (by kernel_rfl) sl44 (F367.is hx502) ?_
            obtain ⟨A503, cap504, hc506, F505⟩ := SlR.row Z484 hx502
            have F507 := F505.chg hS Dj.nil
            refine wH_load1 (i := 17) (d := 88) (T := 68) (ad := (elA A1 1 (x364) 0)) (v := .slice A503 (x501).length cap504) (by kernel_rfl) (qT (qB (qT (qL (qB (qT (qT qZ))))))) (by kernel_rfl) (by kernel_rfl) vt68 (fun W hW => hW.keep hc506) ?_
            obtain ⟨x509, hx510, hm⟩ := bindE hm
            refine wH_idx (i := 18) (d := 89) (T := 68) (A := A503) (n := (x501).length) (cap := cap504) (kd := .i64) (m := 1) (by kernel_rfl) (qT (qB (qT (qL (qB (qT (qT qZ))))))) (by kernel_rfl) (by kernel_rfl) sl68 (F507.is hx510) ?_
            refine wH_load1 (i := 19) (d := 90) (T := 2) (ad := (elA A503 1 (1) 0)) (v := .int .i64 (x509)) (by kernel_rfl) (qT (qB (qT (qL (qB (qT (qT qZ))))))) (by kernel_rfl) (by kernel_rfl) vt2 (fun W hW => Sl.cell (F505.chg hW Dj.nil) hx510 0 (by rfl)) ?_
            obtain ⟨x511, hx512, hm⟩ := bindE hm
            refine wH_idx (i := 20) (d := 91) (T := 68) (A := A2) (n := (l2).length) (cap := cap2) (kd := .i64) (m := x509) (by kernel_rfl) (qT (qB (qT (qL (qB (qT (qT qZ))))))) (by kernel_rfl) (by kernel_rfl) sl68 (F368.is hx512) ?_
            refine wH_load1 (i := 21) (d := 92) (T := 2) (ad := (elA A2 1 (x509) 0)) (v := .int .i64 (x511)) (by kernel_rfl) (qT (qB (qT (qL (qB (qT (qT qZ))))))) (by kernel_rfl) (by kernel_rfl) vt2 (fun W hW => Sl.cell (Z485.chg hW Dj.nil) hx512 0 (by rfl)) ?_
            refine wH_take [22] [22, 21, 20, 19, 18, 17, 16, 15, 14, 13, 12, 11, 10, 9, 8, 7, 6, 5, 4, 3, 2, 1, 0] [(93, .int .i64 (wr (x499 + x511)))] (by kernel_rfl) (qT (qB (qT (qL (qB (qT (qT qZ))))))) (by kernel_rfl) ?_
            refine wH_done (by kernel_rfl) ?_
            refine eX_tail ?_
            obtain ⟨x513, hx514, hm⟩ := bindE hm
            refine wS_idx (d := 94) (T := 68) (A := (some ⟨b57, 0, none⟩)) (n := (l365.set (Int.toNat x424) (wr (x426 + x438))).length) (cap := (Int.toNat (((l2).length : Int)))) (kd := .i64) (m := x497) (by kernel_rfl) sl68 ((F443.sl encI_ok).is hx514) ?_
            refine wS_storeEl (x := x513) (wr (x499 + x511)) (T := 2) (U := 2) (cap := (Int.toNat (((l2).length : Int)))) (j := 0) (A := (some ⟨b57, 0, none⟩)) (v := .int .i64 (wr (x499 + x511))) (vs := [.int .i64 (wr (x499 + x511))]) (m := x497) (by kernel_rfl) (by rfl) sz2 (by rfl) encI_ok F443 hx514 (by simp only [List.length_cons, List.length_nil]; omega) (by rfl) ?_
            intro w515 F516 hc517
            replace F367 := F367.chg hc517 (Dj.of L1 G59)
            replace F368 := F368.chg hc517 (Dj.of L2 G59)
            replace F422 := F422.chg hc517 (Dj.of L1 G59)
            replace F434 := F434.chg hc517 (Dj.of L1 G59)
            replace F495 := F495.chg hc517 (Dj.of L1 G59)
            replace F507 := F507.chg hc517 (Dj.of L1 G59)
            replace hB := hB.inS hc517 (inLow G59)
            replace hZ := Nat.le_trans hZ hc517.size
            clear F443
            rewrite [show (l365.set (Int.toNat x424) (wr (x426 + x438))).length = ((l365.set (Int.toNat x424) (wr (x426 + x438))).set (Int.toNat x497) (wr (x499 + x511))).length from (List.length_set ..).symm]
            refine wS_end (by rfl) ?_
            refine eX_block ?_
            refine eX_then ?_
            refine cW_prune [(0, .int .i64 (p0)), (1, .slice A1 (l1).length cap1), (2, .slice A2 (l2).length cap2), (9, .slice (some ⟨b57, 0, none⟩) ((l365.set (Int.toNat x424) (wr (x426 + x438))).set (Int.toNat x497) (wr (x499 + x511))).length (Int.toNat (((l2).length : Int)))), (10, .int .i64 (x364))] (by kernel_rfl) (by kernel_rfl) (fun a518 => ?_)
            refine cW_region ?_
            refine wS_pure 3 [(10, .int .i64 (wr (x364 - 1))), (46, .int .i64 (wr (x364 - 1))), (45, .int .i64 (x364))] (by kernel_rfl) ?_
            refine wS_end (by rfl) ?_
            have hq : (some (Ctl.next ((wr (x364 - 1), (l365.set (Int.toNat x424) (wr (x426 + x438))).set (Int.toNat x497) (wr (x499 + x511))))) : Option (Ctl (Int × (List (Int))) ((List (Int))))) = some _ := hm
            replace hq := someE hq
            subst hq
            exact eX_next hx375 (fun hst => ⟨wr (x364 - 1), (l365.set (Int.toNat x424) (wr (x426 + x438))).set (Int.toNat x497) (wr (x499 + x511)), rfl, Fr.of hst (by kernel_rfl), F367, F368, F516, hB, hZ⟩)
          · have hm := condF hb376 hm
            refine cW_exit ?_
            refine eX_then_exit ?_
            have hq : (some (Ctl.out l365) : Option (Ctl (Int × (List (Int))) ((List (Int))))) = some _ := hm
            replace hq := someE hq
            subst hq
            refine eX_outX hx375 (fun hr519 => ?_)
            replace hr519 := hr519.symm
            subst hr519
            refine eX_block_hit ?_
            exact eX_J (fun hst => ⟨l365, rfl, Fr.of hst (by kernel_rfl), F369, hB, hZ⟩)
        · rintro a' w359 ⟨l360, hJ, hF361, F362, hB, hZ⟩
          subst hJ
          refine Fr.goX hF361 (by kernel_rfl) ?_
          refine eX_then ?_
          refine cW_seq ?_
          refine cW_region ?_
          refine wS_pure 1 [(95, .slice (some ⟨b57, 0, none⟩) (l360).length (Int.toNat (((l2).length : Int))))] (by kernel_rfl) ?_
          obtain ⟨x520, hx521, hm⟩ := bindE hm
          refine wS_idx (d := 96) (T := 68) (A := (some ⟨b57, 0, none⟩)) (n := (l360).length) (cap := (Int.toNat (((l2).length : Int)))) (kd := .i64) (m := 0) (by kernel_rfl) sl68 ((F362.sl encI_ok).is hx521) ?_
          refine wS_load1 (d := 97) (T := 2) (ad := (elA (some ⟨b57, 0, none⟩) 1 (0) 0)) (v := .int .i64 (x520)) (by kernel_rfl) vt2 (Sl.cell (F362.sl encI_ok) hx521 0 (by rfl)) ?_
          refine wS_pure 1 [(11, .int .i64 (x520))] (by kernel_rfl) ?_
          refine wS_end (by rfl) ?_
          refine eX_then ?_
          refine cW_seq ?_
          refine cW_region ?_
          refine wS_pure 1 [(98, .slice (some ⟨b57, 0, none⟩) (l360).length (Int.toNat (((l2).length : Int))))] (by kernel_rfl) ?_
          obtain ⟨x522, hx523, hm⟩ := bindE hm
          refine wS_idx (d := 99) (T := 68) (A := (some ⟨b57, 0, none⟩)) (n := (l360).length) (cap := (Int.toNat (((l2).length : Int)))) (kd := .i64) (m := 0) (by kernel_rfl) sl68 ((F362.sl encI_ok).is hx523) ?_
          refine wS_load1 (d := 100) (T := 2) (ad := (elA (some ⟨b57, 0, none⟩) 1 (0) 0)) (v := .int .i64 (x522)) (by kernel_rfl) vt2 (Sl.cell (F362.sl encI_ok) hx523 0 (by rfl)) ?_
          refine wS_pure 1 [(12, .int .i64 (x522))] (by kernel_rfl) ?_
          refine wS_end (by rfl) ?_
          refine eX_then ?_
          refine cW_seq ?_
          refine cW_seq ?_
          refine cW_region ?_
          refine wS_pure 1 [(13, .int .i64 (1))] (by kernel_rfl) ?_
          refine wS_end (by rfl) ?_
          refine eX_then ?_
          obtain ⟨r567, hr568, hm⟩ := bindE hm
          have hm569 := hm
          refine cW_cut (fun a' w' => ∃ x558 : Int, ∃ x559 : Int, (x558, x559) = r567 ∧ Fr 121 [(11, .int .i64 (x558)), (12, .int .i64 (x559))] a' ∧ Chg [] w0 w' ∧ w0.heap.size ≤ w'.heap.size) ?_ ?_
          · refine cW_block ?_
            refine cW_loop _ (fun (s570 : Int × Int × Int) a' w' => ∃ x562 : Int, ∃ x563 : Int, ∃ x564 : Int, (x562, x563, x564) = s570 ∧ Fr 121 [(0, .int .i64 (p0)), (9, .slice (some ⟨b57, 0, none⟩) (l360).length (Int.toNat (((l2).length : Int)))), (11, .int .i64 (x562)), (12, .int .i64 (x563)), (13, .int .i64 (x564))] a' ∧ Ow 1 encI 2 w' [b57] (some ⟨b57, 0, none⟩) (Int.toNat (((l2).length : Int))) l360 ∧ Chg [] w0 w' ∧ w0.heap.size ≤ w'.heap.size) hr568 (fun hst => ⟨x520, x522, 1, rfl, Fr.of hst (by kernel_rfl), F362, hB, hZ⟩) ?_
            rintro _ c571 a' w561 ⟨x562, x563, x564, rfl, hF565, F566, hB, hZ⟩ hx572
            refine Fr.goOn hF565 (by kernel_rfl) ?_
            have hm := hx572
            unfold m_spec_SkewOf_s3 at hm
            refine cW_seq ?_
            refine cW_seq ?_
            refine cW_region ?_
            refine wS_pure 3 [(103, .bool (decide (x564 < p0))), (102, .int .i64 (p0)), (101, .int .i64 (x564))] (by kernel_rfl) ?_
            refine wS_end (by rfl) ?_
            refine eX_then ?_
            refine cW_cond (t := decide (x564 < p0)) (by kernel_rfl) (fun hb573 => ?_) (fun hb573 => ?_)
            · have hm := condT hb573 hm
              refine cW_skip ?_
              refine eX_then ?_
              refine cW_seq ?_
              refine cW_block ?_
              refine cW_seq ?_
              refine cW_region ?_
              refine wS_pure 3 [(108, .int .i64 (x564)), (107, .slice (some ⟨b57, 0, none⟩) (l360).length (Int.toNat (((l2).length : Int)))), (106, .int .i64 (x562))] (by kernel_rfl) ?_
              obtain ⟨x574, hx575, hm⟩ := bindE hm
              refine wS_idx (d := 109) (T := 68) (A := (some ⟨b57, 0, none⟩)) (n := (l360).length) (cap := (Int.toNat (((l2).length : Int)))) (kd := .i64) (m := x564) (by kernel_rfl) sl68 ((F566.sl encI_ok).is hx575) ?_
              refine wS_load1 (d := 110) (T := 2) (ad := (elA (some ⟨b57, 0, none⟩) 1 (x564) 0)) (v := .int .i64 (x574)) (by kernel_rfl) vt2 (Sl.cell (F566.sl encI_ok) hx575 0 (by rfl)) ?_
              obtain ⟨y576, hy577, hm⟩ := bindE hm
              refine wS_calls (d := 111) (f := 104) (vs := [.int .i64 (x562), .int .i64 (x574)]) (by kernel_rfl) ent104 (c_spec_l00Min hy577) ?_
              rintro _ w578 ⟨rfl, hc579⟩
              replace F566 := F566.chg hc579 Dj.nil
              replace hB := hB.inS hc579 inNil
              replace hZ := Nat.le_trans hZ hc579.size
              refine ⟨.int .i64 (y576), rfl, ?_⟩
              refine wS_pure 1 [(11, .int .i64 (y576))] (by kernel_rfl) ?_
              refine wS_end (by rfl) ?_
              refine eX_then ?_
              refine cW_region ?_
              refine wS_pure 3 [(114, .int .i64 (x564)), (113, .slice (some ⟨b57, 0, none⟩) (l360).length (Int.toNat (((l2).length : Int)))), (112, .int .i64 (x563))] (by kernel_rfl) ?_
              obtain ⟨x580, hx581, hm⟩ := bindE hm
              refine wS_idx (d := 115) (T := 68) (A := (some ⟨b57, 0, none⟩)) (n := (l360).length) (cap := (Int.toNat (((l2).length : Int)))) (kd := .i64) (m := x564) (by kernel_rfl) sl68 ((F566.sl encI_ok).is hx581) ?_
              refine wS_load1 (d := 116) (T := 2) (ad := (elA (some ⟨b57, 0, none⟩) 1 (x564) 0)) (v := .int .i64 (x580)) (by kernel_rfl) vt2 (Sl.cell (F566.sl encI_ok) hx581 0 (by rfl)) ?_
              obtain ⟨y582, hy583, hm⟩ := bindE hm
              refine wS_calls (d := 117) (f := 105) (vs := [.int .i64 (x563), .int .i64 (x580)]) (by kernel_rfl) ent105 (c_spec_l00Max hy583) ?_
              rintro _ w584 ⟨rfl, hc585⟩
              replace F566 := F566.chg hc585 Dj.nil
              replace hB := hB.inS hc585 inNil
              replace hZ := Nat.le_trans hZ hc585.size
              refine ⟨.int .i64 (y582), rfl, ?_⟩
              refine wS_pure 1 [(12, .int .i64 (y582))] (by kernel_rfl) ?_
              refine wS_end (by rfl) ?_
              refine eX_block ?_
              refine eX_then ?_
              refine cW_region ?_
              refine wS_pure 3 [(13, .int .i64 (wr (x564 + 1))), (105, .int .i64 (wr (x564 + 1))), (104, .int .i64 (x564))] (by kernel_rfl) ?_
              refine wS_end (by rfl) ?_
              have hq : (some (Ctl.next ((y576, y582, wr (x564 + 1)))) : Option (Ctl (Int × Int × Int) (Int × Int))) = some _ := hm
              replace hq := someE hq
              subst hq
              exact eX_next hx572 (fun hst => ⟨y576, y582, wr (x564 + 1), rfl, Fr.of hst (by kernel_rfl), F566, hB, hZ⟩)
            · have hm := condF hb573 hm
              refine cW_exit ?_
              refine eX_then_exit ?_
              have hq : (some (Ctl.out ((x562, x563))) : Option (Ctl (Int × Int × Int) (Int × Int))) = some _ := hm
              replace hq := someE hq
              subst hq
              refine eX_outX hx572 (fun hr586 => ?_)
              replace hr586 := hr586.symm
              subst hr586
              refine eX_block_hit ?_
              exact eX_J (fun hst => ⟨x562, x563, rfl, Fr.of hst (by kernel_rfl), hB, hZ⟩)
          · rintro a' w557 ⟨x558, x559, hJ, hF560, hB, hZ⟩
            subst hJ
            refine Fr.goX hF560 (by kernel_rfl) ?_
            refine eX_then ?_
            refine cW_seq ?_
            refine cW_region ?_
            refine wS_pure 5 [(7, .bool (true)), (6, .int .i64 (wr (x559 - x558))), (120, .int .i64 (wr (x559 - x558))), (119, .int .i64 (x558)), (118, .int .i64 (x559))] (by kernel_rfl) ?_
            refine wS_end (by rfl) ?_
            refine eX_then ?_
            refine cW_ret ?_
            have hq : (some ((wr (x559 - x558), true)) : Option ((Int) × (Bool))) = some _ := hm
            replace hq := someE hq
            subst hq
            refine eX_ret (vs := [.int .i64 (wr (x559 - x558)), .bool (true)]) [.tmp 6, .tmp 7] (by rfl) ⟨by (show lkE _ _ _ = _); kernel_rfl, ⟨by (show lkE _ _ _ = _); kernel_rfl, trivial⟩⟩ ?_
            exact ⟨rfl, hB⟩

def m_impl_SkewOf_1 (p0 : Int) : Option ((Bool)) :=
  Option.bind (m_impl_in p0 0 1000000000) fun y1 => some (!y1)
set_option maxRecDepth 100000 in
/-- impl.SkewOf$1 -/
theorem c_impl_SkewOf_1 {w0 : World} {p0 : Int} {r : (Bool)} (hm : m_impl_SkewOf_1 p0 = some r)  :
    Calls Try.prog 107 #[.int .i64 (p0)] w0 fun e w' => e = .returned (.bool (r)) ∧ Chg [] w0 w' := by
  have hB : Chg [] w0 w0 := Chg.refl _ _
  have hZ := Nat.le_refl w0.heap.size
  unfold m_impl_SkewOf_1 at hm
  refine enterE (N := 6) Try.func107 (by rfl) Try.ntmps107 (by simp) [(0, .int .i64 (p0))] (by rfl) (by kernel_rfl) (fun a => ?_)
  refine cW_seq ?_
  refine cW_region ?_
  refine wS_pure 1 [(2, .bool (false))] (by kernel_rfl) ?_
  refine wS_end (by rfl) ?_
  refine eX_then ?_
  refine cW_seq ?_
  refine cW_region ?_
  refine wS_pure 1 [(3, .int .i64 (p0))] (by kernel_rfl) ?_
  obtain ⟨y1, hy2, hm⟩ := bindE hm
  refine wS_calls (d := 4) (f := 79) (vs := [.int .i64 (p0), .int .i64 (0), .int .i64 (1000000000)]) (by kernel_rfl) ent79 (c_impl_in hy2) ?_
  rintro _ w3 ⟨rfl, hc4⟩
  replace hB := hB.inS hc4 inNil
  replace hZ := Nat.le_trans hZ hc4.size
  refine ⟨.bool (y1), rfl, ?_⟩
  refine wS_pure 2 [(2, .bool (!y1)), (5, .bool (!y1))] (by kernel_rfl) ?_
  refine wS_end (by rfl) ?_
  refine eX_then ?_
  refine cW_ret ?_
  have hq : (some (!y1) : Option ((Bool))) = some _ := hm
  replace hq := someE hq
  subst hq
  refine eX_ret (vs := [.bool (!y1)]) [.tmp 2] (by rfl) ⟨by (show lkE _ _ _ = _); kernel_rfl, trivial⟩ ?_
  exact ⟨rfl, hB⟩

def m_slices_IndexFunc_int64_int64_impl_SkewOf_1_s1 (l0 : List (Int)) (s32 : Int) : Option (Ctl (Int) (Sum (Unit) ((Int)))) :=
  (fun (x26 : Int) => (bif decide (x26 < (((l0).length : Int))) then Option.bind (geti l0 x26) fun x36 => Option.bind (m_impl_SkewOf_1 x36) fun y38 => (bif y38 then some (Ctl.out (Sum.inr x26)) else some (Ctl.next (wr (x26 + 1)))) else some (Ctl.out (Sum.inl (()))))) s32
noncomputable def m_slices_IndexFunc_int64_int64_impl_SkewOf_1 (l0 : List (Int)) : Option ((Int)) :=
  Option.bind (loopM (m_slices_IndexFunc_int64_int64_impl_SkewOf_1_s1 l0) 0) fun (r29 : Sum (Unit) ((Int))) => match r29 with | Sum.inl q45 => (some ((-1))) | Sum.inr v44 => some v44
set_option maxRecDepth 100000 in
/-- slices.IndexFunc[[]int64,int64] -/
theorem c_slices_IndexFunc_int64_int64_impl_SkewOf_1 {w0 : World} {l0 : List (Int)} {A0 : Option Addr} {cap0 : Nat} {fp0 : List Nat} {r : (Int)} (hm : m_slices_IndexFunc_int64_int64_impl_SkewOf_1 l0 = some r) (F0 : Sl 1 encI w0 fp0 A0 l0) :
    Calls Try.prog 127 #[.slice A0 (l0).length cap0, .func (.func 107) #[] #[]] w0 fun e w' => e = .returned (.int .i64 (r)) ∧ Chg [] w0 w' := by
  have L0 := F0.low
  have hB : Chg [] w0 w0 := Chg.refl _ _
  have hZ := Nat.le_refl w0.heap.size
  unfold m_slices_IndexFunc_int64_int64_impl_SkewOf_1 at hm
  refine enterE (N := 19) Try.func127 (by rfl) Try.ntmps127 (by simp) [(0, .slice A0 (l0).length cap0), (1, .func (.func 107) #[] #[])] (by rfl) (by kernel_rfl) (fun a => ?_)
  refine cW_seq ?_
  refine cW_region ?_
  refine wS_pure 1 [(4, .int .i64 (0))] (by kernel_rfl) ?_
  refine wS_end (by rfl) ?_
  refine eX_then ?_
  refine cW_seq ?_
  refine cW_seq ?_
  refine cW_region ?_
  refine wS_pure 3 [(8, .int .i64 (0)), (7, .int .i64 (((l0).length : Int))), (6, .slice A0 (l0).length cap0)] (by kernel_rfl) ?_
  refine wS_end (by rfl) ?_
  refine eX_then ?_
  obtain ⟨r29, hr30, hm⟩ := bindE hm
  have hm31 := hm
  refine cW_cut (fun a' w' => Sum.inl (()) = r29 ∧ Fr 19 [] a' ∧ Chg [] w0 w' ∧ w0.heap.size ≤ w'.heap.size) ?_ ?_
  · refine cW_block ?_
    refine cW_loop _ (fun (s32 : Int) a' w' => ∃ x26 : Int, x26 = s32 ∧ Fr 19 [(0, .slice A0 (l0).length cap0), (1, .func (.func 107) #[] #[]), (7, .int .i64 (((l0).length : Int))), (8, .int .i64 (x26))] a' ∧ Sl 1 encI w' fp0 A0 l0 ∧ Chg [] w0 w' ∧ w0.heap.size ≤ w'.heap.size) hr30 (fun hst => ⟨0, rfl, Fr.of hst (by kernel_rfl), F0, hB, hZ⟩) ?_
    rintro _ c33 a' w25 ⟨x26, rfl, hF27, F28, hB, hZ⟩ hx34
    refine Fr.goOn hF27 (by kernel_rfl) ?_
    have hm := hx34
    unfold m_slices_IndexFunc_int64_int64_impl_SkewOf_1_s1 at hm
    refine cW_seq ?_
    refine cW_region ?_
    refine wS_pure 1 [(9, .bool (decide (x26 < (((l0).length : Int)))))] (by kernel_rfl) ?_
    refine wS_end (by rfl) ?_
    refine eX_then ?_
    refine cW_seq ?_
    refine cW_cond (t := decide (x26 < (((l0).length : Int)))) (by kernel_rfl) (fun hb35 => ?_) (fun hb35 => ?_)
    · have hm := condT hb35 hm
      refine cW_skip ?_
      refine eX_then ?_
      refine cW_seq ?_
      refine cW_block ?_
      refine cW_seq ?_
      refine cW_region ?_
      refine wS_pure 2 [(5, .int .i64 (x26)), (10, .int .i64 (x26))] (by kernel_rfl) ?_
      refine wS_end (by rfl) ?_
      refine eX_then ?_
      refine cW_seq ?_
      refine cW_region ?_
      refine wS_pure 3 [(13, .int .i64 (x26)), (12, .slice A0 (l0).length cap0), (11, .func (.func 107) #[] #[])] (by kernel_rfl) ?_
      obtain ⟨x36, hx37, hm⟩ := bindE hm
      refine wS_idx (d := 14) (T := 68) (A := A0) (n := (l0).length) (cap := cap0) (kd := .i64) (m := x26) (by kernel_rfl) sl68 (F28.is hx37) ?_
      refine wS_load1 (d := 15) (T := 2) (ad := (elA A0 1 (x26) 0)) (v := .int .i64 (x36)) (by kernel_rfl) vt2 (Sl.cell F28 hx37 0 (by rfl)) ?_
      obtain ⟨y38, hy39, hm⟩ := bindE hm
      refine wS_calls (d := 16) (f := 107) (vs := [.int .i64 (x36)]) (by kernel_rfl) ent107 (c_impl_SkewOf_1 hy39) ?_
      rintro _ w40 ⟨rfl, hc41⟩
      replace F28 := F28.chg hc41 Dj.nil
      replace hB := hB.inS hc41 inNil
      replace hZ := Nat.le_trans hZ hc41.size
      refine ⟨.bool (y38), rfl, ?_⟩
      refine wS_end (by rfl) ?_
      refine eX_then ?_
      refine cW_cond (t := y38) (by kernel_rfl) (fun hb42 => ?_) (fun hb42 => ?_)
      · have hm := condT hb42 hm
        refine cW_seq ?_
        refine cW_region ?_
        refine wS_pure 2 [(4, .int .i64 (x26)), (17, .int .i64 (x26))] (by kernel_rfl) ?_
        refine wS_end (by rfl) ?_
        refine eX_then ?_
        refine cW_ret ?_
        refine eX_block_ret ?_
        refine eX_then_ret ?_
        have hq : (some (Ctl.out (Sum.inr x26)) : Option (Ctl (Int) (Sum (Unit) ((Int))))) = some _ := hm
        replace hq := someE hq
        subst hq
        refine eX_outR hx34 (fun hr => ?_)
        subst hr
        refine eX_block_ret ?_
        refine eX_then_ret ?_
        refine eX_then_ret ?_
        have hq : (some x26 : Option ((Int))) = some _ := hm31
        replace hq := someE hq
        subst hq
        refine eX_ret (vs := [.int .i64 (x26)]) [.tmp 4] (by rfl) ⟨by (show lkE _ _ _ = _); kernel_rfl, trivial⟩ ?_
        exact ⟨rfl, hB⟩
      · have hm := condF hb42 hm
        refine cW_skip ?_
        refine eX_block ?_
        refine eX_then ?_
        refine cW_region ?_
        refine wS_pure 2 [(8, .int .i64 (wr (x26 + 1))), (18, .int .i64 (wr (x26 + 1)))] (by kernel_rfl) ?_
        refine wS_end (by rfl) ?_
        have hq : (some (Ctl.next (wr (x26 + 1))) : Option (Ctl (Int) (Sum (Unit) ((Int))))) = some _ := hm
        replace hq := someE hq
        subst hq
        exact eX_next hx34 (fun hst => ⟨wr (x26 + 1), rfl, Fr.of hst (by kernel_rfl), F28, hB, hZ⟩)
    · have hm := condF hb35 hm
      refine cW_exit ?_
      refine eX_then_exit ?_
      have hq : (some (Ctl.out (Sum.inl (()))) : Option (Ctl (Int) (Sum (Unit) ((Int))))) = some _ := hm
      replace hq := someE hq
      subst hq
      refine eX_outX hx34 (fun hr43 => ?_)
      replace hr43 := hr43.symm
      subst hr43
      refine eX_block_hit ?_
      exact eX_J (fun hst => ⟨rfl, Fr.of hst (by kernel_rfl), hB, hZ⟩)
  · rintro a' w23 ⟨hJ, hF24, hB, hZ⟩
    subst hJ
    refine Fr.goX hF24 (by kernel_rfl) ?_
    refine eX_then ?_
    refine cW_seq ?_
    refine cW_region ?_
    refine wS_pure 1 [(4, .int .i64 ((-1)))] (by kernel_rfl) ?_
    refine wS_end (by rfl) ?_
    refine eX_then ?_
    refine cW_ret ?_
    have hq : (some ((-1)) : Option ((Int))) = some _ := hm
    replace hq := someE hq
    subst hq
    refine eX_ret (vs := [.int .i64 ((-1))]) [.tmp 4] (by rfl) ⟨by (show lkE _ _ _ = _); kernel_rfl, trivial⟩ ?_
    exact ⟨rfl, hB⟩

noncomputable def m_slices_ContainsFunc_int64_int64_impl_SkewOf_1 (l0 : List (Int)) : Option ((Bool)) :=
  Option.bind (m_slices_IndexFunc_int64_int64_impl_SkewOf_1 l0) fun y2 => some (decide (y2 ≥ 0))
set_option maxRecDepth 100000 in
/-- slices.ContainsFunc[[]int64,int64] -/
theorem c_slices_ContainsFunc_int64_int64_impl_SkewOf_1 {w0 : World} {l0 : List (Int)} {A0 : Option Addr} {cap0 : Nat} {fp0 : List Nat} {r : (Bool)} (hm : m_slices_ContainsFunc_int64_int64_impl_SkewOf_1 l0 = some r) (F0 : Sl 1 encI w0 fp0 A0 l0) :
    Calls Try.prog 106 #[.slice A0 (l0).length cap0, .func (.func 107) #[] #[]] w0 fun e w' => e = .returned (.bool (r)) ∧ Chg [] w0 w' := by
  have L0 := F0.low
  have hB : Chg [] w0 w0 := Chg.refl _ _
  have hZ := Nat.le_refl w0.heap.size
  unfold m_slices_ContainsFunc_int64_int64_impl_SkewOf_1 at hm
  refine enterE (N := 9) Try.func106 (by rfl) Try.ntmps106 (by simp) [(0, .slice A0 (l0).length cap0), (1, .func (.func 107) #[] #[])] (by rfl) (by kernel_rfl) (fun a => ?_)
  refine cW_seq ?_
  refine cW_region ?_
  refine wS_pure 1 [(4, .bool (false))] (by kernel_rfl) ?_
  refine wS_end (by rfl) ?_
  refine eX_then ?_
  refine cW_seq ?_
  refine cW_region ?_
  refine wS_pure 2 [(6, .func (.func 107) #[] #[]), (5, .slice A0 (l0).length cap0)] (by kernel_rfl) ?_
  obtain ⟨y2, hy3, hm⟩ := bindE hm
  refine wS_calls (d := 7) (f := 127) (vs := [.slice A0 (l0).length cap0, .func (.func 107) #[] #[]]) (by kernel_rfl) ent127 (c_slices_IndexFunc_int64_int64_impl_SkewOf_1 hy3 F0) ?_
  rintro _ w4 ⟨rfl, hc5⟩
  replace F0 := F0.chg hc5 Dj.nil
  replace hB := hB.inS hc5 inNil
  replace hZ := Nat.le_trans hZ hc5.size
  refine ⟨.int .i64 (y2), rfl, ?_⟩
  refine wS_pure 2 [(4, .bool (decide (y2 ≥ 0))), (8, .bool (decide (y2 ≥ 0)))] (by kernel_rfl) ?_
  refine wS_end (by rfl) ?_
  refine eX_then ?_
  refine cW_ret ?_
  have hq : (some (decide (y2 ≥ 0)) : Option ((Bool))) = some _ := hm
  replace hq := someE hq
  subst hq
  refine eX_ret (vs := [.bool (decide (y2 ≥ 0))]) [.tmp 4] (by rfl) ⟨by (show lkE _ _ _ = _); kernel_rfl, trivial⟩ ?_
  exact ⟨rfl, hB⟩

def m_slices_Max_int64_int64_s1 (l0 : List (Int)) (s34 : Int × Int) : Option (Ctl (Int × Int) (Int)) :=
  match s34 with | (x27, x28) => (bif decide (x28 < (((l0).length : Int))) then Option.bind (geti l0 x28) fun x38 => some (Ctl.next ((if x38 > x27 then x38 else x27, wr (x28 + 1)))) else some (Ctl.out x27))
noncomputable def m_slices_Max_int64_int64 (l0 : List (Int)) : Option ((Int)) :=
  Option.bind ((bif decide ((((l0).length : Int)) < 1) then none else some (()))) fun (s6 : Unit) => Option.bind (geti l0 0) fun x9 => Option.bind (loopM (m_slices_Max_int64_int64_s1 l0) ((x9, 1))) fun (r31 : Int) => (fun (x24 : Int) => some x24) r31
set_option maxRecDepth 100000 in
/-- slices.Max[[]int64,int64] -/
theorem c_slices_Max_int64_int64 {w0 : World} {l0 : List (Int)} {A0 : Option Addr} {cap0 : Nat} {fp0 : List Nat} {r : (Int)} (hm : m_slices_Max_int64_int64 l0 = some r) (F0 : Sl 1 encI w0 fp0 A0 l0) :
    Calls Try.prog 108 #[.slice A0 (l0).length cap0] w0 fun e w' => e = .returned (.int .i64 (r)) ∧ Chg [] w0 w' := by
  have L0 := F0.low
  have hB : Chg [] w0 w0 := Chg.refl _ _
  have hZ := Nat.le_refl w0.heap.size
  unfold m_slices_Max_int64_int64 at hm
  refine enterE (N := 25) Try.func108 (by rfl) Try.ntmps108 (by simp) [(0, .slice A0 (l0).length cap0)] (by rfl) (by kernel_rfl) (fun a => ?_)
  refine cW_seq ?_
  refine cW_region ?_
  refine wS_pure 1 [(2, .int .i64 (0))] (by kernel_rfl) ?_
  refine wS_end (by rfl) ?_
  refine eX_then ?_
  refine cW_seq ?_
  obtain ⟨s6, hs7, hm⟩ := bindE hm
  refine cW_cut (fun a' w' => () = s6 ∧ Fr 25 [(0, .slice A0 (l0).length cap0)] a' ∧ Sl 1 encI w' fp0 A0 l0 ∧ Chg [] w0 w' ∧ w0.heap.size ≤ w'.heap.size) ?_ ?_
  · have hm := hs7
    refine cW_seq ?_
    refine cW_region ?_
    refine wS_pure 3 [(7, .bool (decide ((((l0).length : Int)) < 1))), (6, .int .i64 (((l0).length : Int))), (5, .slice A0 (l0).length cap0)] (by kernel_rfl) ?_
    refine wS_end (by rfl) ?_
    refine eX_then ?_
    refine cW_cond (t := decide ((((l0).length : Int)) < 1)) (by kernel_rfl) (fun hb8 => ?_) (fun hb8 => ?_)
    · have hm := condT hb8 hm
      refine cW_region ?_
      exact noneE hm
    · have hm := condF hb8 hm
      refine cW_skip ?_
      have hq : (some (()) : Option (Unit)) = some _ := hm
      replace hq := someE hq
      subst hq
      exact eX_J (fun hst => ⟨rfl, Fr.of hst (by kernel_rfl), F0, hB, hZ⟩)
  · rintro a' w3 ⟨hJ, hF4, F5, hB, hZ⟩
    subst hJ
    refine Fr.goX hF4 (by kernel_rfl) ?_
    refine eX_then ?_
    refine cW_seq ?_
    refine cW_region ?_
    refine wS_pure 1 [(9, .slice A0 (l0).length cap0)] (by kernel_rfl) ?_
    obtain ⟨x9, hx10, hm⟩ := bindE hm
    refine wS_idx (d := 10) (T := 68) (A := A0) (n := (l0).length) (cap := cap0) (kd := .i64) (m := 0) (by kernel_rfl) sl68 (F5.is hx10) ?_
    refine wS_load1 (d := 11) (T := 2) (ad := (elA A0 1 (0) 0)) (v := .int .i64 (x9)) (by kernel_rfl) vt2 (Sl.cell F5 hx10 0 (by rfl)) ?_
    refine wS_pure 1 [(3, .int .i64 (x9))] (by kernel_rfl) ?_
    refine wS_end (by rfl) ?_
    refine eX_then ?_
    refine cW_seq ?_
    refine cW_seq ?_
    refine cW_region ?_
    refine wS_pure 1 [(4, .int .i64 (1))] (by kernel_rfl) ?_
    refine wS_end (by rfl) ?_
    refine eX_then ?_
    obtain ⟨r31, hr32, hm⟩ := bindE hm
    have hm33 := hm
    refine cW_cut (fun a' w' => ∃ x24 : Int, x24 = r31 ∧ Fr 25 [(3, .int .i64 (x24))] a' ∧ Chg [] w0 w' ∧ w0.heap.size ≤ w'.heap.size) ?_ ?_
    · refine cW_block ?_
      refine cW_loop _ (fun (s34 : Int × Int) a' w' => ∃ x27 : Int, ∃ x28 : Int, (x27, x28) = s34 ∧ Fr 25 [(0, .slice A0 (l0).length cap0), (3, .int .i64 (x27)), (4, .int .i64 (x28))] a' ∧ Sl 1 encI w' fp0 A0 l0 ∧ Chg [] w0 w' ∧ w0.heap.size ≤ w'.heap.size) hr32 (fun hst => ⟨x9, 1, rfl, Fr.of hst (by kernel_rfl), F5, hB, hZ⟩) ?_
      rintro _ c35 a' w26 ⟨x27, x28, rfl, hF29, F30, hB, hZ⟩ hx36
      refine Fr.goOn hF29 (by kernel_rfl) ?_
      have hm := hx36
      unfold m_slices_Max_int64_int64_s1 at hm
      refine cW_seq ?_
      refine cW_seq ?_
      refine cW_region ?_
      refine wS_pure 4 [(15, .bool (decide (x28 < (((l0).length : Int))))), (14, .int .i64 (((l0).length : Int))), (13, .slice A0 (l0).length cap0), (12, .int .i64 (x28))] (by kernel_rfl) ?_
      refine wS_end (by rfl) ?_
      refine eX_then ?_
      refine cW_cond (t := decide (x28 < (((l0).length : Int)))) (by kernel_rfl) (fun hb37 => ?_) (fun hb37 => ?_)
      · have hm := condT hb37 hm
        refine cW_skip ?_
        refine eX_then ?_
        refine cW_seq ?_
        refine cW_block ?_
        refine cW_region ?_
        refine wS_pure 3 [(20, .int .i64 (x28)), (19, .slice A0 (l0).length cap0), (18, .int .i64 (x27))] (by kernel_rfl) ?_
        obtain ⟨x38, hx39, hm⟩ := bindE hm
        refine wS_idx (d := 21) (T := 68) (A := A0) (n := (l0).length) (cap := cap0) (kd := .i64) (m := x28) (by kernel_rfl) sl68 (F30.is hx39) ?_
        refine wS_load1 (d := 22) (T := 2) (ad := (elA A0 1 (x28) 0)) (v := .int .i64 (x38)) (by kernel_rfl) vt2 (Sl.cell F30 hx39 0 (by rfl)) ?_
        refine wS_pure 2 [(3, .int .i64 (if x38 > x27 then x38 else x27)), (23, .int .i64 (if x38 > x27 then x38 else x27))] (by kernel_rfl) ?_
        refine wS_end (by rfl) ?_
        refine eX_block ?_
        refine eX_then ?_
        refine cW_region ?_
        refine wS_pure 3 [(4, .int .i64 (wr (x28 + 1))), (17, .int .i64 (wr (x28 + 1))), (16, .int .i64 (x28))] (by kernel_rfl) ?_
        refine wS_end (by rfl) ?_
        have hq : (some (Ctl.next ((if x38 > x27 then x38 else x27, wr (x28 + 1)))) : Option (Ctl (Int × Int) (Int))) = some _ := hm
        replace hq := someE hq
        subst hq
        exact eX_next hx36 (fun hst => ⟨if x38 > x27 then x38 else x27, wr (x28 + 1), rfl, Fr.of hst (by kernel_rfl), F30, hB, hZ⟩)
      · have hm := condF hb37 hm
        refine cW_exit ?_
        refine eX_then_exit ?_
        have hq : (some (Ctl.out x27) : Option (Ctl (Int × Int) (Int))) = some _ := hm
        replace hq := someE hq
        subst hq
        refine eX_outX hx36 (fun hr40 => ?_)
        replace hr40 := hr40.symm
        subst hr40
        refine eX_block_hit ?_
        exact eX_J (fun hst => ⟨x27, rfl, Fr.of hst (by kernel_rfl), hB, hZ⟩)
    · rintro a' w23 ⟨x24, hJ, hF25, hB, hZ⟩
      subst hJ
      refine Fr.goX hF25 (by kernel_rfl) ?_
      refine eX_then ?_
      refine cW_seq ?_
      refine cW_region ?_
      refine wS_pure 2 [(2, .int .i64 (x24)), (24, .int .i64 (x24))] (by kernel_rfl) ?_
      refine wS_end (by rfl) ?_
      refine eX_then ?_
      refine cW_ret ?_
      have hq : (some x24 : Option ((Int))) = some _ := hm
      replace hq := someE hq
      subst hq
      refine eX_ret (vs := [.int .i64 (x24)]) [.tmp 2] (by rfl) ⟨by (show lkE _ _ _ = _); kernel_rfl, trivial⟩ ?_
      exact ⟨rfl, hB⟩

def m_slices_Min_int64_int64_s1 (l0 : List (Int)) (s34 : Int × Int) : Option (Ctl (Int × Int) (Int)) :=
  match s34 with | (x27, x28) => (bif decide (x28 < (((l0).length : Int))) then Option.bind (geti l0 x28) fun x38 => some (Ctl.next ((if x38 < x27 then x38 else x27, wr (x28 + 1)))) else some (Ctl.out x27))
noncomputable def m_slices_Min_int64_int64 (l0 : List (Int)) : Option ((Int)) :=
  Option.bind ((bif decide ((((l0).length : Int)) < 1) then none else some (()))) fun (s6 : Unit) => Option.bind (geti l0 0) fun x9 => Option.bind (loopM (m_slices_Min_int64_int64_s1 l0) ((x9, 1))) fun (r31 : Int) => (fun (x24 : Int) => some x24) r31
set_option maxRecDepth 100000 in
/-- slices.Min[[]int64,int64] -/
theorem c_slices_Min_int64_int64 {w0 : World} {l0 : List (Int)} {A0 : Option Addr} {cap0 : Nat} {fp0 : List Nat} {r : (Int)} (hm : m_slices_Min_int64_int64 l0 = some r) (F0 : Sl 1 encI w0 fp0 A0 l0) :
    Calls Try.prog 109 #[.slice A0 (l0).length cap0] w0 fun e w' => e = .returned (.int .i64 (r)) ∧ Chg [] w0 w' := by
  have L0 := F0.low
  have hB : Chg [] w0 w0 := Chg.refl _ _
  have hZ := Nat.le_refl w0.heap.size
  unfold m_slices_Min_int64_int64 at hm
  refine enterE (N := 25) Try.func109 (by rfl) Try.ntmps109 (by simp) [(0, .slice A0 (l0).length cap0)] (by rfl) (by kernel_rfl) (fun a => ?_)
  refine cW_seq ?_
  refine cW_region ?_
  refine wS_pure 1 [(2, .int .i64 (0))] (by kernel_rfl) ?_
  refine wS_end (by rfl) ?_
  refine eX_then ?_
  refine cW_seq ?_
  obtain ⟨s6, hs7, hm⟩ := bindE hm
  refine cW_cut (fun a' w' => () = s6 ∧ Fr 25 [(0, .slice A0 (l0).length cap0)] a' ∧ Sl 1 encI w' fp0 A0 l0 ∧ Chg [] w0 w' ∧ w0.heap.size ≤ w'.heap.size) ?_ ?_
  · have hm := hs7
    refine cW_seq ?_
    refine cW_region ?_
    refine wS_pure 3 [(7, .bool (decide ((((l0).length : Int)) < 1))), (6, .int .i64 (((l0).length : Int))), (5, .slice A0 (l0).length cap0)] (by kernel_rfl) ?_
    refine wS_end (by rfl) ?_
    refine eX_then ?_
    refine cW_cond (t := decide ((((l0).length : Int)) < 1)) (by kernel_rfl) (fun hb8 => ?_) (fun hb8 => ?_)
    · have hm := condT hb8 hm
      refine cW_region ?_
      exact noneE hm
    · have hm := condF hb8 hm
      refine cW_skip ?_
      have hq : (some (()) : Option (Unit)) = some _ := hm
      replace hq := someE hq
      subst hq
      exact eX_J (fun hst => ⟨rfl, Fr.of hst (by kernel_rfl), F0, hB, hZ⟩)
  · rintro a' w3 ⟨hJ, hF4, F5, hB, hZ⟩
    subst hJ
    refine Fr.goX hF4 (by kernel_rfl) ?_
    refine eX_then ?_
    refine cW_seq ?_
    refine cW_region ?_
    refine wS_pure 1 [(9, .slice A0 (l0).length cap0)] (by kernel_rfl) ?_
    obtain ⟨x9, hx10, hm⟩ := bindE hm
    refine wS_idx (d := 10) (T := 68) (A := A0) (n := (l0).length) (cap := cap0) (kd := .i64) (m := 0) (by kernel_rfl) sl68 (F5.is hx10) ?_
    refine wS_load1 (d := 11) (T := 2) (ad := (elA A0 1 (0) 0)) (v := .int .i64 (x9)) (by kernel_rfl) vt2 (Sl.cell F5 hx10 0 (by rfl)) ?_
    refine wS_pure 1 [(3, .int .i64 (x9))] (by kernel_rfl) ?_
    refine wS_end (by rfl) ?_
    refine eX_then ?_
    refine cW_seq ?_
    refine cW_seq ?_
    refine cW_region ?_
    refine wS_pure 1 [(4, .int .i64 (1))] (by kernel_rfl) ?_
    refine wS_end (by rfl) ?_
    refine eX_then ?_
    obtain ⟨r31, hr32, hm⟩ := bindE hm
    have hm33 := hm
    refine cW_cut (fun a' w' => ∃ x24 : Int, x24 = r31 ∧ Fr 25 [(3, .int .i64 (x24))] a' ∧ Chg [] w0 w' ∧ w0.heap.size ≤ w'.heap.size) ?_ ?_
    · refine cW_block ?_
      refine cW_loop _ (fun (s34 : Int × Int) a' w' => ∃ x27 : Int, ∃ x28 : Int, (x27, x28) = s34 ∧ Fr 25 [(0, .slice A0 (l0).length cap0), (3, .int .i64 (x27)), (4, .int .i64 (x28))] a' ∧ Sl 1 encI w' fp0 A0 l0 ∧ Chg [] w0 w' ∧ w0.heap.size ≤ w'.heap.size) hr32 (fun hst => ⟨x9, 1, rfl, Fr.of hst (by kernel_rfl), F5, hB, hZ⟩) ?_
      rintro _ c35 a' w26 ⟨x27, x28, rfl, hF29, F30, hB, hZ⟩ hx36
      refine Fr.goOn hF29 (by kernel_rfl) ?_
      have hm := hx36
      unfold m_slices_Min_int64_int64_s1 at hm
      refine cW_seq ?_
      refine cW_seq ?_
      refine cW_region ?_
      refine wS_pure 4 [(15, .bool (decide (x28 < (((l0).length : Int))))), (14, .int .i64 (((l0).length : Int))), (13, .slice A0 (l0).length cap0), (12, .int .i64 (x28))] (by kernel_rfl) ?_
      refine wS_end (by rfl) ?_
      refine eX_then ?_
      refine cW_cond (t := decide (x28 < (((l0).length : Int)))) (by kernel_rfl) (fun hb37 => ?_) (fun hb37 => ?_)
      · have hm := condT hb37 hm
        refine cW_skip ?_
        refine eX_then ?_
        refine cW_seq ?_
        refine cW_block ?_
        refine cW_region ?_
        refine wS_pure 3 [(20, .int .i64 (x28)), (19, .slice A0 (l0).length cap0), (18, .int .i64 (x27))] (by kernel_rfl) ?_
        obtain ⟨x38, hx39, hm⟩ := bindE hm
        refine wS_idx (d := 21) (T := 68) (A := A0) (n := (l0).length) (cap := cap0) (kd := .i64) (m := x28) (by kernel_rfl) sl68 (F30.is hx39) ?_
        refine wS_load1 (d := 22) (T := 2) (ad := (elA A0 1 (x28) 0)) (v := .int .i64 (x38)) (by kernel_rfl) vt2 (Sl.cell F30 hx39 0 (by rfl)) ?_
        refine wS_pure 2 [(3, .int .i64 (if x38 < x27 then x38 else x27)), (23, .int .i64 (if x38 < x27 then x38 else x27))] (by kernel_rfl) ?_
        refine wS_end (by rfl) ?_
        refine eX_block ?_
        refine eX_then ?_
        refine cW_region ?_
        refine wS_pure 3 [(4, .int .i64 (wr (x28 + 1))), (17, .int .i64 (wr (x28 + 1))), (16, .int .i64 (x28))] (by kernel_rfl) ?_
        refine wS_end (by rfl) ?_
        have hq : (some (Ctl.next ((if x38 < x27 then x38 else x27, wr (x28 + 1)))) : Option (Ctl (Int × Int) (Int))) = some _ := hm
        replace hq := someE hq
        subst hq
        exact eX_next hx36 (fun hst => ⟨if x38 < x27 then x38 else x27, wr (x28 + 1), rfl, Fr.of hst (by kernel_rfl), F30, hB, hZ⟩)
      · have hm := condF hb37 hm
        refine cW_exit ?_
        refine eX_then_exit ?_
        have hq : (some (Ctl.out x27) : Option (Ctl (Int × Int) (Int))) = some _ := hm
        replace hq := someE hq
        subst hq
        refine eX_outX hx36 (fun hr40 => ?_)
        replace hr40 := hr40.symm
        subst hr40
        refine eX_block_hit ?_
        exact eX_J (fun hst => ⟨x27, rfl, Fr.of hst (by kernel_rfl), hB, hZ⟩)
    · rintro a' w23 ⟨x24, hJ, hF25, hB, hZ⟩
      subst hJ
      refine Fr.goX hF25 (by kernel_rfl) ?_
      refine eX_then ?_
      refine cW_seq ?_
      refine cW_region ?_
      refine wS_pure 2 [(2, .int .i64 (x24)), (24, .int .i64 (x24))] (by kernel_rfl) ?_
      refine wS_end (by rfl) ?_
      refine eX_then ?_
      refine cW_ret ?_
      have hq : (some x24 : Option ((Int))) = some _ := hm
      replace hq := someE hq
      subst hq
      refine eX_ret (vs := [.int .i64 (x24)]) [.tmp 2] (by rfl) ⟨by (show lkE _ _ _ = _); kernel_rfl, trivial⟩ ?_
      exact ⟨rfl, hB⟩

noncomputable def m_impl_SkewOf_s4 (p0 : Int) (l2 : List (Int)) (x323 : Int) (x336 : List (Int)) (s440 : Int × (List (Int))) : Option (Ctl (Int × (List (Int))) ((List (Int)))) :=
  match s440 with | (x430, l431) => (bif decide (x430 < (((x336).length : Int))) then Option.bind (geti x336 x430) fun x444 => Option.bind (geti l431 (wr (p0 + x323))) fun x467 => Option.bind (geti l2 x444) fun x469 => Option.bind (geti l431 x444) fun x471 => some (Ctl.next ((wr (x430 + 1), l431.set (Int.toNat x444) (wr (x467 + x469))))) else some (Ctl.out l431))
noncomputable def m_impl_SkewOf_s3 (p0 : Int) (l1 : List (List (Int))) (l2 : List (Int)) (s332 : Int × (List (Int))) : Option (Ctl (Int × (List (Int))) ((List (Int)))) :=
  match s332 with | (x323, l324) => (bif decide (x323 ≥ 0) then Option.bind (geti l1 x323) fun x336 => Option.bind (loopM (m_impl_SkewOf_s4 p0 l2 x323 x336) ((0, l324))) fun (r437 : (List (Int))) => (fun (l424 : List (Int)) => some (Ctl.next ((wr (x323 - 1), l424)))) r437 else some (Ctl.out l324))
noncomputable def m_impl_SkewOf (p0 : Int) (l1 : List (List (Int))) (l2 : List (Int)) : Option ((Int) × (Bool)) :=
  Option.bind (m_impl_IsJoins p0 l1) fun y3 => (bif !y3 then some ((0, false)) else (bif (((l2).length : Int)) != (wr ((wr (2 * p0)) - 1)) then some ((0, false)) else Option.bind (m_slices_ContainsFunc_int64_int64_impl_SkewOf_1 l2) fun y9 => (bif y9 then some ((0, false)) else Option.bind (mkC (((l2).length : Int))) fun _ => Option.bind (loopM (m_impl_SkewOf_s3 p0 l1 l2) ((wr ((((l1).length : Int)) - 1), List.replicate (Int.toNat (((l2).length : Int))) ((0 : Int))))) fun (r329 : (List (Int))) => (fun (l319 : List (Int)) => Option.bind (slci l319 0 p0) fun y511 => Option.bind (slci l319 0 p0) fun y520 => Option.bind (m_slices_Max_int64_int64 y511) fun y529 => Option.bind (m_slices_Min_int64_int64 y520) fun y533 => some ((wr (y529 - y533), true))) r329)))
set_option maxRecDepth 100000 in
/-- impl.SkewOf -/
theorem c_impl_SkewOf {w0 : World} {p0 : Int} {l1 : List (List (Int))} {A1 : Option Addr} {cap1 : Nat} {fp1 : List Nat} {l2 : List (Int)} {A2 : Option Addr} {cap2 : Nat} {fp2 : List Nat} {r : (Int) × (Bool)} (hm : m_impl_SkewOf p0 l1 l2 = some r) (F1 : SlR 1 encI w0 fp1 A1 l1) (F2 : Sl 1 encI w0 fp2 A2 l2) :
    Calls Try.prog 54 #[.int .i64 (p0), .slice A1 (l1).length cap1, .slice A2 (l2).length cap2] w0 fun e w' => e = .returned (.tuple #[.int .i64 (r.1), .bool (r.2)]) ∧ Chg [] w0 w' := by
  have L1 := F1.low
  have L2 := F2.low
  have hB : Chg [] w0 w0 := Chg.refl _ _
  have hZ := Nat.le_refl w0.heap.size
  unfold m_impl_SkewOf at hm
  refine enterE (N := 71) Try.func54 (by rfl) Try.ntmps54 (by simp) [(0, .int .i64 (p0)), (1, .slice A1 (l1).length cap1), (2, .slice A2 (l2).length cap2)] (by rfl) (by kernel_rfl) (fun a => ?_)
  refine cW_seq ?_
  refine cW_region ?_
  refine wS_pure 2 [(7, .bool (false)), (6, .int .i64 (0))] (by kernel_rfl) ?_
  refine wS_end (by rfl) ?_
  refine eX_then ?_
  refine cW_seq ?_
  refine cW_seq ?_
  refine cW_region ?_
  refine wS_pure 2 [(13, .slice A1 (l1).length cap1), (12, .int .i64 (p0))] (by kernel_rfl) ?_
  obtain ⟨y3, hy4, hm⟩ := bindE hm
  refine wS_calls (d := 14) (f := 39) (vs := [.int .i64 (p0), .slice A1 (l1).length cap1]) (by kernel_rfl) ent39 (c_impl_IsJoins hy4 F1) ?_
  rintro _ w5 ⟨rfl, hc6⟩
  replace F1 := F1.chg hc6 Dj.nil
  replace F2 := F2.chg hc6 Dj.nil
  replace hB := hB.inS hc6 inNil
  replace hZ := Nat.le_trans hZ hc6.size
  refine ⟨.bool (y3), rfl, ?_⟩
  refine wS_pure 2 [(16, .bool (!y3)), (15, .bool (!y3))] (by kernel_rfl) ?_
  refine wS_bool (!y3) (fun hb7 => ?_) (fun hb7 => ?_)
  · have hm := condT hb7 hm
    rewrite [hb7]
    refine wS_pure 11 [(27, .bool (true)), (26, undef), (25, undef), (24, .bool (true)), (23, .bool (true)), (22, undef), (21, undef), (20, undef), (19, undef), (18, undef), (17, undef)] (by kernel_rfl) ?_
    refine wS_end (by rfl) ?_
    refine eX_then ?_
    refine cW_cond_t (by kernel_rfl) ?_
    refine cW_seq ?_
    refine cW_region ?_
    refine wS_pure 2 [(7, .bool (false)), (6, .int .i64 (0))] (by kernel_rfl) ?_
    refine wS_end (by rfl) ?_
    refine eX_then ?_
    refine cW_ret ?_
    refine eX_then_ret ?_
    have hq : (some ((0, false)) : Option ((Int) × (Bool))) = some _ := hm
    replace hq := someE hq
    subst hq
    refine eX_ret (vs := [.int .i64 (0), .bool (false)]) [.tmp 6, .tmp 7] (by rfl) ⟨by (show lkE _ _ _ = _); kernel_rfl, ⟨by (show lkE _ _ _ = _); kernel_rfl, trivial⟩⟩ ?_
    exact ⟨rfl, hB⟩
  · have hm := condF hb7 hm
    rewrite [hb7]
    refine wS_pure 8 [(24, .bool ((((l2).length : Int)) != (wr ((wr (2 * p0)) - 1)))), (23, .bool ((((l2).length : Int)) != (wr ((wr (2 * p0)) - 1)))), (22, .bool ((((l2).length : Int)) != (wr ((wr (2 * p0)) - 1)))), (21, .int .i64 (wr ((wr (2 * p0)) - 1))), (20, .int .i64 (wr (2 * p0))), (19, .int .i64 (p0)), (18, .int .i64 (((l2).length : Int))), (17, .slice A2 (l2).length cap2)] (by kernel_rfl) ?_
    refine wS_bool ((((l2).length : Int)) != (wr ((wr (2 * p0)) - 1))) (fun hb8 => ?_) (fun hb8 => ?_)
    · have hm := condT hb8 hm
      rewrite [hb8]
      refine wS_pure 3 [(27, .bool (true)), (26, undef), (25, undef)] (by kernel_rfl) ?_
      refine wS_end (by rfl) ?_
      refine eX_then ?_
      refine cW_cond_t (by kernel_rfl) ?_
      refine cW_seq ?_
      refine cW_region ?_
      refine wS_pure 2 [(7, .bool (false)), (6, .int .i64 (0))] (by kernel_rfl) ?_
      refine wS_end (by rfl) ?_
      refine eX_then ?_
      refine cW_ret ?_
      refine eX_then_ret ?_
      have hq : (some ((0, false)) : Option ((Int) × (Bool))) = some _ := hm
      replace hq := someE hq
      subst hq
      refine eX_ret (vs := [.int .i64 (0), .bool (false)]) [.tmp 6, .tmp 7] (by rfl) ⟨by (show lkE _ _ _ = _); kernel_rfl, ⟨by (show lkE _ _ _ = _); kernel_rfl, trivial⟩⟩ ?_
      exact ⟨rfl, hB⟩
    · have hm := condF hb8 hm
      rewrite [hb8]
      refine wS_pure 1 [(25, .slice A2 (l2).length cap2)] (by kernel_rfl) ?_
      obtain ⟨y9, hy10, hm⟩ := bindE hm
      refine wS_calls (d := 26) (f := 106) (vs := [.slice A2 (l2).length cap2, .func (.func 107) #[] #[]]) (by kernel_rfl) ent106 (c_slices_ContainsFunc_int64_int64_impl_SkewOf_1 hy10 F2) ?_
      rintro _ w11 ⟨rfl, hc12⟩
      replace F1 := F1.chg hc12 Dj.nil
      replace F2 := F2.chg hc12 Dj.nil
      replace hB := hB.inS hc12 inNil
      replace hZ := Nat.le_trans hZ hc12.size
      refine ⟨.bool (y9), rfl, ?_⟩
      refine wS_pure 1 [(27, .bool (y9))] (by kernel_rfl) ?_
      refine wS_end (by rfl) ?_
      refine eX_then ?_
      refine cW_cond (t := y9) (by kernel_rfl) (fun hb13 => ?_) (fun hb13 => ?_)
      · have hm := condT hb13 hm
        refine cW_seq ?_
        refine cW_region ?_
        refine wS_pure 2 [(7, .bool (false)), (6, .int .i64 (0))] (by kernel_rfl) ?_
        refine wS_end (by rfl) ?_
        refine eX_then ?_
        refine cW_ret ?_
        refine eX_then_ret ?_
        have hq : (some ((0, false)) : Option ((Int) × (Bool))) = some _ := hm
        replace hq := someE hq
        subst hq
        refine eX_ret (vs := [.int .i64 (0), .bool (false)]) [.tmp 6, .tmp 7] (by rfl) ⟨by (show lkE _ _ _ = _); kernel_rfl, ⟨by (show lkE _ _ _ = _); kernel_rfl, trivial⟩⟩ ?_
        exact ⟨rfl, hB⟩
      · have hm := condF hb13 hm
        refine cW_skip ?_
        refine eX_then ?_
        refine cW_seq ?_
        refine cW_region ?_
        refine wS_pure 2 [(29, .int .i64 (((l2).length : Int))), (28, .slice A2 (l2).length cap2)] (by kernel_rfl) ?_
        obtain ⟨_, hk14, hm⟩ := bindE hm
        replace hk14 := mkE hk14
        refine wS_make (enc := encI) (x0 := (0 : Int)) (d := 30) (t := 68) (T := 2) (k1 := .i64) (k2 := .i64) (m := ((l2).length : Int)) (by kernel_rfl) el68 encI_ok (by rfl) hk14.1 hk14.2 ?_
        intro b15 w16 G17 F18 hc19
        replace F1 := F1.chg hc19 Dj.nil
        replace F2 := F2.chg hc19 Dj.nil
        replace hB := hB.inS hc19 inNil
        replace G17 := Nat.le_trans hZ G17
        replace G17 := low1 G17
        replace hZ := Nat.le_trans hZ hc19.size
        refine wS_pure 1 [(8, .slice (some ⟨b15, 0, none⟩) (List.replicate (Int.toNat (((l2).length : Int))) ((0 : Int))).length (Int.toNat (((l2).length : Int))))] (by kernel_rfl) ?_
        refine wS_end (by rfl) ?_
        refine eX_then ?_
        refine cW_prune [(0, .int .i64 (p0)), (1, .slice A1 (l1).length cap1), (2, .slice A2 (l2).length cap2), (8, .slice (some ⟨b15, 0, none⟩) (List.replicate (Int.toNat (((l2).length : Int))) ((0 : Int))).length (Int.toNat (((l2).length : Int))))] (by kernel_rfl) (by kernel_rfl) (fun a21 => ?_)
        refine cW_seq ?_
        refine cW_seq ?_
        refine cW_region ?_
        refine wS_pure 4 [(9, .int .i64 (wr ((((l1).length : Int)) - 1))), (33, .int .i64 (wr ((((l1).length : Int)) - 1))), (32, .int .i64 (((l1).length : Int))), (31, .slice A1 (l1).length cap1)] (by kernel_rfl) ?_
        refine wS_end (by rfl) ?_
        refine eX_then ?_
        obtain ⟨r329, hr330, hm⟩ := bindE hm
        have hm331 := hm
        refine cW_cut (fun a' w' => ∃ l319 : List (Int), l319 = r329 ∧ Fr 71 [(0, .int .i64 (p0)), (8, .slice (some ⟨b15, 0, none⟩) (l319).length (Int.toNat (((l2).length : Int))))] a' ∧ Ow 1 encI 2 w' [b15] (some ⟨b15, 0, none⟩) (Int.toNat (((l2).length : Int))) l319 ∧ Chg [] w0 w' ∧ w0.heap.size ≤ w'.heap.size) ?_ ?_
        · refine cW_block ?_
          refine cW_loop _ (fun (s332 : Int × (List (Int))) a' w' => ∃ x323 : Int, ∃ l324 : List (Int), (x323, l324) = s332 ∧ Fr 71 [(0, .int .i64 (p0)), (1, .slice A1 (l1).length cap1), (2, .slice A2 (l2).length cap2), (8, .slice (some ⟨b15, 0, none⟩) (l324).length (Int.toNat (((l2).length : Int)))), (9, .int .i64 (x323))] a' ∧ SlR 1 encI w' fp1 A1 l1 ∧ Sl 1 encI w' fp2 A2 l2 ∧ Ow 1 encI 2 w' [b15] (some ⟨b15, 0, none⟩) (Int.toNat (((l2).length : Int))) l324 ∧ Chg [] w0 w' ∧ w0.heap.size ≤ w'.heap.size) hr330 (fun hst => ⟨wr ((((l1).length : Int)) - 1), List.replicate (Int.toNat (((l2).length : Int))) ((0 : Int)), rfl, Fr.of hst (by kernel_rfl), F1, F2, F18, hB, hZ⟩) ?_
          rintro _ c333 a' w322 ⟨x323, l324, rfl, hF325, F326, F327, F328, hB, hZ⟩ hx334
          refine Fr.goOn hF325 (by kernel_rfl) ?_
          have hm := hx334
          unfold m_impl_SkewOf_s3 at hm
          refine cW_seq ?_
          refine cW_seq ?_
          refine cW_region ?_
          refine wS_pure 2 [(35, .bool (decide (x323 ≥ 0))), (34, .int .i64 (x323))] (by kernel_rfl) ?_
          refine wS_end (by rfl) ?_
          refine eX_then ?_
          refine cW_cond (t := decide (x323 ≥ 0)) (by kernel_rfl) (fun hb335 => ?_) (fun hb335 => ?_)
          · have hm := condT hb335 hm
            refine cW_skip ?_
            refine eX_then ?_
            refine cW_seq ?_
            refine cW_block ?_
            refine cW_seq ?_
            refine cW_region ?_
            refine wS_pure 2 [(39, .int .i64 (x323)), (38, .slice A1 (l1).length cap1)] (by kernel_rfl) ?_
            obtain ⟨x336, hx337, hm⟩ := bindE hm
            refine wS_idx (d := 40) (T := 44) (A := A1) (n := (l1).length) (cap := cap1) (kd := .i64) (m := x323) (by kernel_rfl) sl44 (F326.is hx337) ?_
            obtain ⟨A338, cap339, hc341, F340⟩ := SlR.row F326 hx337
            refine wS_load1 (d := 41) (T := 68) (ad := (elA A1 1 (x323) 0)) (v := .slice A338 (x336).length cap339) (by kernel_rfl) vt68 hc341 ?_
            refine wS_pure 2 [(43, .int .i64 (0)), (42, .int .i64 (((x336).length : Int)))] (by kernel_rfl) ?_
            refine wS_end (by rfl) ?_
            refine eX_then ?_
            obtain ⟨r437, hr438, hm⟩ := bindE hm
            have hm439 := hm
            refine cW_cut (fun a' w' => ∃ l424 : List (Int), l424 = r437 ∧ Fr 71 [(0, .int .i64 (p0)), (1, .slice A1 (l1).length cap1), (2, .slice A2 (l2).length cap2), (8, .slice (some ⟨b15, 0, none⟩) (l424).length (Int.toNat (((l2).length : Int)))), (9, .int .i64 (x323))] a' ∧ SlR 1 encI w' fp1 A1 l1 ∧ Sl 1 encI w' fp2 A2 l2 ∧ Ow 1 encI 2 w' [b15] (some ⟨b15, 0, none⟩) (Int.toNat (((l2).length : Int))) l424 ∧ Chg [] w0 w' ∧ w0.heap.size ≤ w'.heap.size) ?_ ?_
            · refine cW_block ?_
              refine cW_loop _ (fun (s440 : Int × (List (Int))) a' w' => ∃ x430 : Int, ∃ l431 : List (Int), (x430, l431) = s440 ∧ Fr 71 [(0, .int .i64 (p0)), (1, .slice A1 (l1).length cap1), (2, .slice A2 (l2).length cap2), (8, .slice (some ⟨b15, 0, none⟩) (l431).length (Int.toNat (((l2).length : Int)))), (9, .int .i64 (x323)), (41, .slice A338 (x336).length cap339), (42, .int .i64 (((x336).length : Int))), (43, .int .i64 (x430))] a' ∧ SlR 1 encI w' fp1 A1 l1 ∧ Sl 1 encI w' fp2 A2 l2 ∧ Ow 1 encI 2 w' [b15] (some ⟨b15, 0, none⟩) (Int.toNat (((l2).length : Int))) l431 ∧ Sl 1 encI w' fp1 A338 x336 ∧ Chg [] w0 w' ∧ w0.heap.size ≤ w'.heap.size) hr438 (fun hst => ⟨0, l324, rfl, Fr.of hst (by kernel_rfl), F326, F327, F328, F340, hB, hZ⟩) ?_
              rintro _ c441 a' w429 ⟨x430, l431, rfl, hF432, F433, F434, F435, F436, hB, hZ⟩ hx442
              refine Fr.goOn hF432 (by kernel_rfl) ?_
              have hm := hx442
              unfold m_impl_SkewOf_s4 at hm
              refine cW_seq ?_
              refine cW_region ?_
              refine wS_pure 1 [(44, .bool (decide (x430 < (((x336).length : Int)))))] (by kernel_rfl) ?_
              refine wS_end (by rfl) ?_
              refine eX_then ?_
              refine cW_seq ?_
              refine cW_cond (t := decide (x430 < (((x336).length : Int)))) (by kernel_rfl) (fun hb443 => ?_) (fun hb443 => ?_)
              · have hm := condT hb443 hm
                refine cW_skip ?_
                refine eX_then ?_
                refine cW_seq ?_
                refine cW_block ?_
                refine cW_seq ?_
                refine cW_region ?_
                obtain ⟨x444, hx445, hm⟩ := bindE hm
                refine wS_idx (d := 45) (T := 68) (A := A338) (n := (x336).length) (cap := cap339) (kd := .i64) (m := x430) (by kernel_rfl) sl68 (F436.is hx445) ?_
                refine wS_load1 (d := 46) (T := 2) (ad := (elA A338 1 (x430) 0)) (v := .int .i64 (x444)) (by kernel_rfl) vt2 (Sl.cell F436 hx445 0 (by rfl)) ?_
                refine wS_pure 1 [(11, .int .i64 (x444))] (by kernel_rfl) ?_
                refine wS_end (by rfl) ?_
                refine eX_then ?_
                refine cW_drawnTail [] 13 (by kernel_rfl) (by kernel_rfl) (fun w461 hc462 => ?_)
                replace F433 := F433.chg hc462 Dj.nil
                replace F434 := F434.chg hc462 Dj.nil
                replace F435 := F435.chg hc462 Dj.nil
                replace F436 := F436.chg hc462 Dj.nil
                replace hB := hB.inS hc462 inNil
                replace hZ := Nat.le_trans hZ hc462.size
                have hS := Chg.refl [] w461
                have Z463 := F433
                have Z464 := F434
                have Z465 := F435
                have Z466 := F436
                refine wH_take [0, 1, 2, 3, 4, 5] [5, 4, 3, 2, 1, 0] [(52, .int .i64 (wr (p0 + x323))), (51, .int .i64 (x323)), (50, .int .i64 (p0)), (49, .slice (some ⟨b15, 0, none⟩) (l431).length (Int.toNat (((l2).length : Int)))), (48, .int .i64 (x444)), (47, .slice (some ⟨b15, 0, none⟩) (l431).length (Int.toNat (((l2).length : Int))))] (by kernel_rfl) (qT (qB (qT (qL (qB (qT (qB (qT (qL (qB (qT (qT qZ)))))))))))) (by kernel_rfl) ?_
                obtain ⟨x467, hx468, hm⟩ := bindE hm
                refine wH_idx (i := 6) (d := 53) (T := 68) (A := (some ⟨b15, 0, none⟩)) (n := (l431).length) (cap := (Int.toNat (((l2).length : Int)))) (kd := .i64) (m := wr (p0 + x323)) (by kernel_rfl) (qT (qB (qT (qL (qB (qT (qB (qT (qL (qB (qT (qT qZ)))))))))))) (by kernel_rfl) (by kernel_rfl) sl68 ((F435.sl encI_ok).is hx468) ?_
                refine wH_load1 (i := 7) (d := 54) (T := 2) (ad := (elA (some ⟨b15, 0, none⟩) 1 (wr (p0 + x323)) 0)) (v := .int .i64 (x467)) (by kernel_rfl) (qT (qB (qT (qL (qB (qT (qB (qT (qL (qB (qT (qT qZ)))))))))))) (by kernel_rfl) (by kernel_rfl) vt2 (fun W hW => Sl.cell ((Z465.chg hW Dj.nil).sl encI_ok) hx468 0 (by rfl)) ?_
                refine wH_take [8, 9] [9, 8, 7, 6, 5, 4, 3, 2, 1, 0] [(56, .int .i64 (x444)), (55, .slice A2 (l2).length cap2)] (by kernel_rfl) (qT (qB (qT (qL (qB (qT (qB (qT (qL (qB (qT (qT qZ)))))))))))) (by kernel_rfl) ?_
                obtain ⟨x469, hx470, hm⟩ := bindE hm
                refine wH_idx (i := 10) (d := 57) (T := 68) (A := A2) (n := (l2).length) (cap := cap2) (kd := .i64) (m := x444) (by kernel_rfl) (qT (qB (qT (qL (qB (qT (qB (qT (qL (qB (qT (qT qZ)))))))))))) (by kernel_rfl) (by kernel_rfl) sl68 (F434.is hx470) ?_
                refine wH_load1 (i := 11) (d := 58) (T := 2) (ad := (elA A2 1 (x444) 0)) (v := .int .i64 (x469)) (by kernel_rfl) (qT (qB (qT (qL (qB (qT (qB (qT (qL (qB (qT (qT qZ)))))))))))) (by kernel_rfl) (by kernel_rfl) vt2 (fun W hW => Sl.cell (Z464.chg hW Dj.nil) hx470 0 (by rfl)) ?_
                refine wH_take [12] [12, 11, 10, 9, 8, 7, 6, 5, 4, 3, 2, 1, 0] [(59, .int .i64 (wr (x467 + x469)))] (by kernel_rfl) (qT (qB (qT (qL (qB (qT (qB (qT (qL (qB (qT (qT qZ)))))))))))) (by kernel_rfl) ?_
                refine wH_done (by kernel_rfl) ?_
                refine eX_tail ?_
                obtain ⟨x471, hx472, hm⟩ := bindE hm
                refine wS_idx (d := 60) (T := 68) (A := (some ⟨b15, 0, none⟩)) (n := (l431).length) (cap := (Int.toNat (((l2).length : Int)))) (kd := .i64) (m := x444) (by kernel_rfl) sl68 ((F435.sl encI_ok).is hx472) ?_
                refine wS_storeEl (x := x471) (wr (x467 + x469)) (T := 2) (U := 2) (cap := (Int.toNat (((l2).length : Int)))) (j := 0) (A := (some ⟨b15, 0, none⟩)) (v := .int .i64 (wr (x467 + x469))) (vs := [.int .i64 (wr (x467 + x469))]) (m := x444) (by kernel_rfl) (by rfl) sz2 (by rfl) encI_ok F435 hx472 (by simp only [List.length_cons, List.length_nil]; omega) (by rfl) ?_
                intro w473 F474 hc475
                replace F433 := F433.chg hc475 (Dj.of L1 G17)
                replace F434 := F434.chg hc475 (Dj.of L2 G17)
                replace F436 := F436.chg hc475 (Dj.of L1 G17)
                replace hB := hB.inS hc475 (inLow G17)
                replace hZ := Nat.le_trans hZ hc475.size
                clear F435
                rewrite [show (l431).length = (l431.set (Int.toNat x444) (wr (x467 + x469))).length from (List.length_set ..).symm]
                refine wS_end (by rfl) ?_
                refine eX_block ?_
                refine eX_then ?_
                refine cW_prune [(0, .int .i64 (p0)), (1, .slice A1 (l1).length cap1), (2, .slice A2 (l2).length cap2), (8, .slice (some ⟨b15, 0, none⟩) (l431.set (Int.toNat x444) (wr (x467 + x469))).length (Int.toNat (((l2).length : Int)))), (9, .int .i64 (x323)), (41, .slice A338 (x336).length cap339), (42, .int .i64 (((x336).length : Int))), (43, .int .i64 (x430))] (by kernel_rfl) (by kernel_rfl) (fun a476 => ?_)
                refine cW_region ?_
                refine wS_pure 2 [(43, .int .i64 (wr (x430 + 1))), (61, .int .i64 (wr (x430 + 1)))] (by kernel_rfl) ?_
                refine wS_end (by rfl) ?_
                have hq : (some (Ctl.next ((wr (x430 + 1), l431.set (Int.toNat x444) (wr (x467 + x469))))) : Option (Ctl (Int × (List (Int))) ((List (Int))))) = some _ := hm
                replace hq := someE hq
                subst hq
                exact eX_next hx442 (fun hst => ⟨wr (x430 + 1), l431.set (Int.toNat x444) (wr (x467 + x469)), rfl, Fr.of hst (by kernel_rfl), F433, F434, F474, F436, hB, hZ⟩)
              · have hm := condF hb443 hm
                refine cW_exit ?_
                refine eX_then_exit ?_
                have hq : (some (Ctl.out l431) : Option (Ctl (Int × (List (Int))) ((List (Int))))) = some _ := hm
                replace hq := someE hq
                subst hq
                refine eX_outX hx442 (fun hr477 => ?_)
                replace hr477 := hr477.symm
                subst hr477
                refine eX_block_hit ?_
                exact eX_J (fun hst => ⟨l431, rfl, Fr.of hst (by kernel_rfl), F433, F434, F435, hB, hZ⟩)
            · rintro a' w423 ⟨l424, hJ, hF425, F426, F427, F428, hB, hZ⟩
              subst hJ
              refine Fr.goX hF425 (by kernel_rfl) ?_
              refine eX_block ?_
              refine eX_then ?_
              refine cW_region ?_
              refine wS_pure 3 [(9, .int .i64 (wr (x323 - 1))), (37, .int .i64 (wr (x323 - 1))), (36, .int .i64 (x323))] (by kernel_rfl) ?_
              refine wS_end (by rfl) ?_
              have hq : (some (Ctl.next ((wr (x323 - 1), l424))) : Option (Ctl (Int × (List (Int))) ((List (Int))))) = some _ := hm
              replace hq := someE hq
              subst hq
              exact eX_next hx334 (fun hst => ⟨wr (x323 - 1), l424, rfl, Fr.of hst (by kernel_rfl), F426, F427, F428, hB, hZ⟩)
          · have hm := condF hb335 hm
            refine cW_exit ?_
            refine eX_then_exit ?_
            have hq : (some (Ctl.out l324) : Option (Ctl (Int × (List (Int))) ((List (Int))))) = some _ := hm
            replace hq := someE hq
            subst hq
            refine eX_outX hx334 (fun hr478 => ?_)
            replace hr478 := hr478.symm
            subst hr478
            refine eX_block_hit ?_
            exact eX_J (fun hst => ⟨l324, rfl, Fr.of hst (by kernel_rfl), F328, hB, hZ⟩)
        · rintro a' w318 ⟨l319, hJ, hF320, F321, hB, hZ⟩
          subst hJ
          refine Fr.goX hF320 (by kernel_rfl) ?_
          refine eX_then ?_
          refine cW_seq ?_
          refine cW_drawnTail [] 7 (by kernel_rfl) (by kernel_rfl) (fun w508 hc509 => ?_)
          replace F321 := F321.chg hc509 Dj.nil
          replace hB := hB.inS hc509 inNil
          replace hZ := Nat.le_trans hZ hc509.size
          have hS := Chg.refl [] w508
          have Z510 := F321
          refine wH_take [0, 1] [1, 0] [(63, .int .i64 (p0)), (62, .slice (some ⟨b15, 0, none⟩) (l319).length (Int.toNat (((l2).length : Int))))] (by kernel_rfl) (qT (qT qZ)) (by kernel_rfl) ?_
          obtain ⟨y511, hy512, hm⟩ := bindE hm
          refine wH_slice (k := 1) (enc := encI) (fp := [b15]) (l := l319) (i := 2) (d := 64) (T := 68) (A := (some ⟨b15, 0, none⟩)) (cap := (Int.toNat (((l2).length : Int)))) (vlo := none) (vhi := some (.int .i64 (p0))) (lo := 0) (hi := p0) (n := 0) (by kernel_rfl) (qT (qT qZ)) (by kernel_rfl) (by kernel_rfl) sl68 (Or.inr ⟨rfl, rfl⟩) (Or.inl rfl) F321.cap_le hy512 ?_
          intro A513 cap514 hcut515 hcap516
          have F517 := hcut515 _ (F321.sl encI_ok)
          have Fz518 := hcut515 _ (Z510.sl encI_ok)
          refine wH_take [4, 5] [5, 4, 2, 1, 0] [(67, .int .i64 (p0)), (66, .slice (some ⟨b15, 0, none⟩) (l319).length (Int.toNat (((l2).length : Int))))] (by kernel_rfl) (qT (qT qZ)) (by kernel_rfl) ?_
          obtain ⟨y520, hy521, hm⟩ := bindE hm
          refine wH_slice (k := 1) (enc := encI) (fp := [b15]) (l := l319) (i := 6) (d := 68) (T := 68) (A := (some ⟨b15, 0, none⟩)) (cap := (Int.toNat (((l2).length : Int)))) (vlo := none) (vhi := some (.int .i64 (p0))) (lo := 0) (hi := p0) (n := 0) (by kernel_rfl) (qT (qT qZ)) (by kernel_rfl) (by kernel_rfl) sl68 (Or.inr ⟨rfl, rfl⟩) (Or.inl rfl) F321.cap_le hy521 ?_
          intro A522 cap523 hcut524 hcap525
          have F526 := hcut524 _ (F321.sl encI_ok)
          have Fz527 := hcut524 _ (Z510.sl encI_ok)
          refine wH_all [3] (by rfl) (by kernel_rfl) (by simp) ⟨⟨by kernel_rfl, ?_⟩, trivial⟩
          obtain ⟨y529, hy530, hm⟩ := bindE hm
          refine wS_calls (d := 65) (f := 108) (vs := [.slice A513 (y511).length cap514]) (by kernel_rfl) ent108 (c_slices_Max_int64_int64 hy530 F517) ?_
          rintro _ w531 ⟨rfl, hc532⟩
          replace F321 := F321.chg hc532 Dj.nil
          replace F517 := F517.chg hc532 Dj.nil
          replace F526 := F526.chg hc532 Dj.nil
          replace hB := hB.inS hc532 inNil
          have hSz := hS
          replace hS := hS.inS hc532 inNil
          replace hZ := Nat.le_trans hZ hc532.size
          refine ⟨.int .i64 (y529), rfl, ?_⟩
          refine wS_end (by kernel_rfl) ?_
          refine eX_KH hS ?_
          refine wH_done (by kernel_rfl) ?_
          refine eX_tail ?_
          obtain ⟨y533, hy534, hm⟩ := bindE hm
          refine wS_calls (d := 69) (f := 109) (vs := [.slice A522 (y520).length cap523]) (by kernel_rfl) ent109 (c_slices_Min_int64_int64 hy534 F526) ?_
          rintro _ w535 ⟨rfl, hc536⟩
          replace F321 := F321.chg hc536 Dj.nil
          replace F517 := F517.chg hc536 Dj.nil
          replace F526 := F526.chg hc536 Dj.nil
          replace hB := hB.inS hc536 inNil
          replace hZ := Nat.le_trans hZ hc536.size
          refine ⟨.int .i64 (y533), rfl, ?_⟩
          refine wS_pure 3 [(7, .bool (true)), (6, .int .i64 (wr (y529 - y533))), (70, .int .i64 (wr (y529 - y533)))] (by kernel_rfl) ?_
          refine wS_end (by rfl) ?_
          refine eX_then ?_
          refine cW_ret ?_
          have hq : (some ((wr (y529 - y533), true)) : Option ((Int) × (Bool))) = some _ := hm
          replace hq := someE hq
          subst hq
          refine eX_ret (vs := [.int .i64 (wr (y529 - y533)), .bool (true)]) [.tmp 6, .tmp 7] (by rfl) ⟨by (show lkE _ _ _ = _); kernel_rfl, ⟨by (show lkE _ _ _ = _); kernel_rfl, trivial⟩⟩ ?_
          exact ⟨rfl, hB⟩

noncomputable def m_laws_FnExactSkewOf (p0 : Int) (l1 : List (List (Int))) (l2 : List (Int)) : Option ((Bool)) :=
  (bif decide ((((l2).length : Int)) > 1048576) then some true else Option.bind (m_laws_szInt64SS l1 1048576) fun y4 => (bif decide (y4 < 0) then some true else Option.bind (m_laws_toInt64SS l1) fun y9 => Option.bind (m_laws_toInt64S l2) fun y19 => Option.bind (m_spec_SkewOf p0 y9 y19) fun y30 => Option.bind (m_laws_toInt64SS l1) fun y35 => Option.bind (m_laws_toInt64S l2) fun y47 => Option.bind (m_impl_SkewOf p0 y35 y47) fun y60 => (bif y60.1 != y30.1 then some false else (bif !(y60.2 == y30.2) then some false else Option.bind (m_laws_toInt64SS l1) fun y68 => Option.bind (m_laws_eqInt64SS y35 y68) fun y82 => (bif !y82 then some false else Option.bind (m_laws_toInt64S l2) fun y87 => Option.bind (m_laws_eqInt64S y47 y87) fun y102 => (bif !y102 then some false else some true))))))
set_option maxRecDepth 100000 in
/-- laws.FnExactSkewOf -/
theorem c_laws_FnExactSkewOf {w0 : World} {p0 : Int} {l1 : List (List (Int))} {A1 : Option Addr} {cap1 : Nat} {fp1 : List Nat} {l2 : List (Int)} {A2 : Option Addr} {cap2 : Nat} {fp2 : List Nat} {r : (Bool)} (hm : m_laws_FnExactSkewOf p0 l1 l2 = some r) (F1 : SlR 1 encI w0 fp1 A1 l1) (F2 : Sl 1 encI w0 fp2 A2 l2) :
    Calls Try.prog 13 #[.int .i64 (p0), .slice A1 (l1).length cap1, .slice A2 (l2).length cap2] w0 fun e w' => e = .returned (.bool (r)) ∧ Chg [] w0 w' := by
  have L1 := F1.low
  have L2 := F2.low
  have hB : Chg [] w0 w0 := Chg.refl _ _
  have hZ := Nat.le_refl w0.heap.size
  unfold m_laws_FnExactSkewOf at hm
  refine enterE (N := 60) Try.func13 (by rfl) Try.ntmps13 (by simp) [(0, .int .i64 (p0)), (1, .slice A1 (l1).length cap1), (2, .slice A2 (l2).length cap2)] (by rfl) (by kernel_rfl) (fun a => ?_)
  refine cW_seq ?_
  refine cW_region ?_
  refine wS_pure 1 [(6, .bool (false))] (by kernel_rfl) ?_
  refine wS_end (by rfl) ?_
  refine eX_then ?_
  refine cW_seq ?_
  refine cW_seq ?_
  refine cW_region ?_
  refine wS_pure 3 [(16, .bool (decide ((((l2).length : Int)) > 1048576))), (15, .int .i64 (((l2).length : Int))), (14, .slice A2 (l2).length cap2)] (by kernel_rfl) ?_
  refine wS_end (by rfl) ?_
  refine eX_then ?_
  refine cW_cond (t := decide ((((l2).length : Int)) > 1048576)) (by kernel_rfl) (fun hb3 => ?_) (fun hb3 => ?_)
  · have hm := condT hb3 hm
    refine cW_seq ?_
    refine cW_region ?_
    refine wS_pure 1 [(6, .bool (true))] (by kernel_rfl) ?_
    refine wS_end (by rfl) ?_
    refine eX_then ?_
    refine cW_ret ?_
    refine eX_then_ret ?_
    have hq : (some true : Option ((Bool))) = some _ := hm
    replace hq := someE hq
    subst hq
    refine eX_ret (vs := [.bool (true)]) [.tmp 6] (by rfl) ⟨by (show lkE _ _ _ = _); kernel_rfl, trivial⟩ ?_
    exact ⟨rfl, hB⟩
  · have hm := condF hb3 hm
    refine cW_skip ?_
    refine eX_then ?_
    refine cW_seq ?_
    refine cW_region ?_
    refine wS_pure 1 [(7, .int .i64 (1048576))] (by kernel_rfl) ?_
    refine wS_end (by rfl) ?_
    refine eX_then ?_
    refine cW_seq ?_
    refine cW_region ?_
    refine wS_pure 2 [(18, .int .i64 (1048576)), (17, .slice A1 (l1).length cap1)] (by kernel_rfl) ?_
    obtain ⟨y4, hy5, hm⟩ := bindE hm
    refine wS_calls (d := 19) (f := 36) (vs := [.slice A1 (l1).length cap1, .int .i64 (1048576)]) (by kernel_rfl) ent36 (c_laws_szInt64SS hy5 F1) ?_
    rintro _ w6 ⟨rfl, hc7⟩
    replace F1 := F1.chg hc7 Dj.nil
    replace F2 := F2.chg hc7 Dj.nil
    replace hB := hB.inS hc7 inNil
    replace hZ := Nat.le_trans hZ hc7.size
    refine ⟨.int .i64 (y4), rfl, ?_⟩
    refine wS_pure 1 [(7, .int .i64 (y4))] (by kernel_rfl) ?_
    refine wS_end (by rfl) ?_
    refine eX_then ?_
    refine cW_seq ?_
    refine cW_seq ?_
    refine cW_region ?_
    refine wS_pure 2 [(21, .bool (decide (y4 < 0))), (20, .int .i64 (y4))] (by kernel_rfl) ?_
    refine wS_end (by rfl) ?_
    refine eX_then ?_
    refine cW_cond (t := decide (y4 < 0)) (by kernel_rfl) (fun hb8 => ?_) (fun hb8 => ?_)
    · have hm := condT hb8 hm
      refine cW_seq ?_
      refine cW_region ?_
      refine wS_pure 1 [(6, .bool (true))] (by kernel_rfl) ?_
      refine wS_end (by rfl) ?_
      refine eX_then ?_
      refine cW_ret ?_
      refine eX_then_ret ?_
      have hq : (some true : Option ((Bool))) = some _ := hm
      replace hq := someE hq
      subst hq
      refine eX_ret (vs := [.bool (true)]) [.tmp 6] (by rfl) ⟨by (show lkE _ _ _ = _); kernel_rfl, trivial⟩ ?_
      exact ⟨rfl, hB⟩
    · have hm := condF hb8 hm
      refine cW_skip ?_
      refine eX_then ?_
      refine cW_seq ?_
      refine cW_region ?_
      refine wS_pure 2 [(24, .slice A1 (l1).length cap1), (23, .int .i64 (p0))] (by kernel_rfl) ?_
      obtain ⟨y9, hy10, hm⟩ := bindE hm
      refine wS_calls (d := 25) (f := 38) (vs := [.slice A1 (l1).length cap1]) (by kernel_rfl) ent38 (c_laws_toInt64SS hy10 F1) ?_
      rintro _ w11 ⟨A13, cap14, fp15, rfl, F16, G17, hc12⟩
      replace F1 := F1.chg hc12 Dj.nil
      replace F2 := F2.chg hc12 Dj.nil
      replace hB := hB.inS hc12 inNil
      replace G17 := low_le hZ G17
      replace hZ := Nat.le_trans hZ hc12.size
      refine ⟨.slice A13 (y9).length cap14, rfl, ?_⟩
      refine wS_pure 1 [(26, .slice A2 (l2).length cap2)] (by kernel_rfl) ?_
      obtain ⟨y19, hy20, hm⟩ := bindE hm
      refine wS_calls (d := 27) (f := 53) (vs := [.slice A2 (l2).length cap2]) (by kernel_rfl) ent53 (c_laws_toInt64S hy20 F2) ?_
      rintro _ w21 ⟨A23, cap24, fp25, rfl, F26, G27, hc22⟩
      have D29 : Dj fp15 fp25 := Dj.of F16.low G27
      replace F1 := F1.chg hc22 Dj.nil
      replace F2 := F2.chg hc22 Dj.nil
      replace F16 := F16.chg hc22 Dj.nil
      replace hB := hB.inS hc22 inNil
      replace G27 := low_le hZ G27
      replace hZ := Nat.le_trans hZ hc22.size
      refine ⟨.slice A23 (y19).length cap24, rfl, ?_⟩
      obtain ⟨y30, hy31, hm⟩ := bindE hm
      refine wS_calls (d := 28) (f := 52) (vs := [.int .i64 (p0), .slice A13 (y9).length cap14, .slice A23 (y19).length cap24]) (by kernel_rfl) ent52 (c_spec_SkewOf hy31 (F16.slr) (F26.sl encI_ok)) ?_
      rintro _ w32 ⟨rfl, hc33⟩
      replace F1 := F1.chg hc33 Dj.nil
      replace F2 := F2.chg hc33 Dj.nil
      replace F16 := F16.chg hc33 Dj.nil
      replace F26 := F26.chg hc33 Dj.nil
      replace hB := hB.inS hc33 inNil
      replace hZ := Nat.le_trans hZ hc33.size
      refine ⟨.tuple #[.int .i64 (y30.1), .bool (y30.2)], rfl, ?_⟩
      refine wS_pure 5 [(9, .bool (y30.2)), (8, .int .i64 (y30.1)), (30, .bool (y30.2)), (29, .int .i64 (y30.1)), (22, .tuple #[.int .i64 (y30.1), .bool (y30.2)])] (by kernel_rfl) ?_
      refine wS_end (by rfl) ?_
      refine eX_then ?_
      refine cW_prune [(0, .int .i64 (p0)), (1, .slice A1 (l1).length cap1), (2, .slice A2 (l2).length cap2), (8, .int .i64 (y30.1)), (9, .bool (y30.2))] (by kernel_rfl) (by kernel_rfl) (fun a34 => ?_)
      refine cW_seq ?_
      refine cW_region ?_
      refine wS_pure 1 [(31, .slice A1 (l1).length cap1)] (by kernel_rfl) ?_
      obtain ⟨y35, hy36, hm⟩ := bindE hm
      refine wS_calls (d := 32) (f := 38) (vs := [.slice A1 (l1).length cap1]) (by kernel_rfl) ent38 (c_laws_toInt64SS hy36 F1) ?_
      rintro _ w37 ⟨A39, cap40, fp41, rfl, F42, G43, hc38⟩
      have D45 : Dj fp15 fp41 := Dj.of F16.low G43
      have D46 : Dj fp25 fp41 := Dj.of F26.low G43
      replace F1 := F1.chg hc38 Dj.nil
      replace F2 := F2.chg hc38 Dj.nil
      replace F16 := F16.chg hc38 Dj.nil
      replace F26 := F26.chg hc38 Dj.nil
      replace hB := hB.inS hc38 inNil
      replace G43 := low_le hZ G43
      replace hZ := Nat.le_trans hZ hc38.size
      refine ⟨.slice A39 (y35).length cap40, rfl, ?_⟩
      refine wS_pure 1 [(10, .slice A39 (y35).length cap40)] (by kernel_rfl) ?_
      refine wS_end (by rfl) ?_
      refine eX_then ?_
      refine cW_seq ?_
      refine cW_region ?_
      refine wS_pure 1 [(33, .slice A2 (l2).length cap2)] (by kernel_rfl) ?_
      obtain ⟨y47, hy48, hm⟩ := bindE hm
      refine wS_calls (d := 34) (f := 53) (vs := [.slice A2 (l2).length cap2]) (by kernel_rfl) ent53 (c_laws_toInt64S hy48 F2) ?_
      rintro _ w49 ⟨A51, cap52, fp53, rfl, F54, G55, hc50⟩
      have D57 : Dj fp15 fp53 := Dj.of F16.low G55
      have D58 : Dj fp25 fp53 := Dj.of F26.low G55
      have D59 : Dj fp41 fp53 := Dj.of F42.low G55
      replace F1 := F1.chg hc50 Dj.nil
      replace F2 := F2.chg hc50 Dj.nil
      replace F16 := F16.chg hc50 Dj.nil
      replace F26 := F26.chg hc50 Dj.nil
      replace F42 := F42.chg hc50 Dj.nil
      replace hB := hB.inS hc50 inNil
      replace G55 := low_le hZ G55
      replace hZ := Nat.le_trans hZ hc50.size
      refine ⟨.slice A51 (y47).length cap52, rfl, ?_⟩
      refine wS_pure 1 [(11, .slice A51 (y47).length cap52)] (by kernel_rfl) ?_
      refine wS_end (by rfl) ?_
      refine eX_then ?_
      refine cW_seq ?_
      refine cW_region ?_
      refine wS_pure 3 [(38, .slice A51 (y47).length cap52), (37, .slice A39 (y35).length cap40), (36, .int .i64 (p0))] (by kernel_rfl) ?_
      obtain ⟨y60, hy61, hm⟩ := bindE hm
      refine wS_calls (d := 39) (f := 54) (vs := [.int .i64 (p0), .slice A39 (y35).length cap40, .slice A51 (y47).length cap52]) (by kernel_rfl) ent54 (c_impl_SkewOf hy61 (F42.slr) (F54.sl encI_ok)) ?_
      rintro _ w62 ⟨rfl, hc63⟩
      replace F1 := F1.chg hc63 Dj.nil
      replace F2 := F2.chg hc63 Dj.nil
      replace F16 := F16.chg hc63 Dj.nil
      replace F26 := F26.chg hc63 Dj.nil
      replace F42 := F42.chg hc63 Dj.nil
      replace F54 := F54.chg hc63 Dj.nil
      replace hB := hB.inS hc63 inNil
      replace hZ := Nat.le_trans hZ hc63.size
      refine ⟨.tuple #[.int .i64 (y60.1), .bool (y60.2)], rfl, ?_⟩
      refine wS_pure 5 [(13, .bool (y60.2)), (12, .int .i64 (y60.1)), (41, .bool (y60.2)), (40, .int .i64 (y60.1)), (35, .tuple #[.int .i64 (y60.1), .bool (y60.2)])] (by kernel_rfl) ?_
      refine wS_end (by rfl) ?_
      refine eX_then ?_
      refine cW_seq ?_
      refine cW_seq ?_
      refine cW_region ?_
      refine wS_pure 4 [(45, .bool (y60.1 != y30.1)), (44, .bool (y60.1 != y30.1)), (43, .int .i64 (y30.1)), (42, .int .i64 (y60.1))] (by kernel_rfl) ?_
      refine wS_bool (y60.1 != y30.1) (fun hb64 => ?_) (fun hb64 => ?_)
      · have hm := condT hb64 hm
        rewrite [hb64]
        refine wS_pure 4 [(49, .bool (true)), (48, undef), (47, undef), (46, undef)] (by kernel_rfl) ?_
        refine wS_end (by rfl) ?_
        refine eX_then ?_
        refine cW_prune [(1, .slice A1 (l1).length cap1), (2, .slice A2 (l2).length cap2), (10, .slice A39 (y35).length cap40), (11, .slice A51 (y47).length cap52), (49, .bool (true))] (by kernel_rfl) (by kernel_rfl) (fun a65 => ?_)
        refine cW_cond_t (by kernel_rfl) ?_
        refine cW_seq ?_
        refine cW_region ?_
        refine wS_pure 1 [(6, .bool (false))] (by kernel_rfl) ?_
        refine wS_end (by rfl) ?_
        refine eX_then ?_
        refine cW_ret ?_
        refine eX_then_ret ?_
        have hq : (some false : Option ((Bool))) = some _ := hm
        replace hq := someE hq
        subst hq
        refine eX_ret (vs := [.bool (false)]) [.tmp 6] (by rfl) ⟨by (show lkE _ _ _ = _); kernel_rfl, trivial⟩ ?_
        exact ⟨rfl, hB⟩
      · have hm := condF hb64 hm
        rewrite [hb64]
        refine wS_pure 4 [(49, .bool (!(y60.2 == y30.2))), (48, .bool (!(y60.2 == y30.2))), (47, .bool (y30.2)), (46, .bool (y60.2))] (by kernel_rfl) ?_
        refine wS_end (by rfl) ?_
        refine eX_then ?_
        refine cW_prune [(1, .slice A1 (l1).length cap1), (2, .slice A2 (l2).length cap2), (10, .slice A39 (y35).length cap40), (11, .slice A51 (y47).length cap52), (49, .bool (!(y60.2 == y30.2)))] (by kernel_rfl) (by kernel_rfl) (fun a66 => ?_)
        refine cW_cond (t := !(y60.2 == y30.2)) (by kernel_rfl) (fun hb67 => ?_) (fun hb67 => ?_)
        · have hm := condT hb67 hm
          refine cW_seq ?_
          refine cW_region ?_
          refine wS_pure 1 [(6, .bool (false))] (by kernel_rfl) ?_
          refine wS_end (by rfl) ?_
          refine eX_then ?_
          refine cW_ret ?_
          refine eX_then_ret ?_
          have hq : (some false : Option ((Bool))) = some _ := hm
          replace hq := someE hq
          subst hq
          refine eX_ret (vs := [.bool (false)]) [.tmp 6] (by rfl) ⟨by (show lkE _ _ _ = _); kernel_rfl, trivial⟩ ?_
          exact ⟨rfl, hB⟩
        · have hm := condF hb67 hm
          refine cW_skip ?_
          refine eX_then ?_
          refine cW_seq ?_
          refine cW_seq ?_
          refine cW_region ?_
          refine wS_pure 2 [(51, .slice A1 (l1).length cap1), (50, .slice A39 (y35).length cap40)] (by kernel_rfl) ?_
          obtain ⟨y68, hy69, hm⟩ := bindE hm
          refine wS_calls (d := 52) (f := 38) (vs := [.slice A1 (l1).length cap1]) (by kernel_rfl) ent38 (c_laws_toInt64SS hy69 F1) ?_
          rintro _ w70 ⟨A72, cap73, fp74, rfl, F75, G76, hc71⟩
          have D78 : Dj fp15 fp74 := Dj.of F16.low G76
          have D79 : Dj fp25 fp74 := Dj.of F26.low G76
          have D80 : Dj fp41 fp74 := Dj.of F42.low G76
          have D81 : Dj fp53 fp74 := Dj.of F54.low G76
          replace F1 := F1.chg hc71 Dj.nil
          replace F2 := F2.chg hc71 Dj.nil
          replace F16 := F16.chg hc71 Dj.nil
          replace F26 := F26.chg hc71 Dj.nil
          replace F42 := F42.chg hc71 Dj.nil
          replace F54 := F54.chg hc71 Dj.nil
          replace hB := hB.inS hc71 inNil
          replace G76 := low_le hZ G76
          replace hZ := Nat.le_trans hZ hc71.size
          refine ⟨.slice A72 (y68).length cap73, rfl, ?_⟩
          obtain ⟨y82, hy83, hm⟩ := bindE hm
          refine wS_calls (d := 53) (f := 40) (vs := [.slice A39 (y35).length cap40, .slice A72 (y68).length cap73]) (by kernel_rfl) ent40 (c_laws_eqInt64SS hy83 (F42.slr) (F75.slr)) ?_
          rintro _ w84 ⟨rfl, hc85⟩
          replace F1 := F1.chg hc85 Dj.nil
          replace F2 := F2.chg hc85 Dj.nil
          replace F16 := F16.chg hc85 Dj.nil
          replace F26 := F26.chg hc85 Dj.nil
          replace F42 := F42.chg hc85 Dj.nil
          replace F54 := F54.chg hc85 Dj.nil
          replace F75 := F75.chg hc85 Dj.nil
          replace hB := hB.inS hc85 inNil
          replace hZ := Nat.le_trans hZ hc85.size
          refine ⟨.bool (y82), rfl, ?_⟩
          refine wS_pure 1 [(54, .bool (!y82))] (by kernel_rfl) ?_
          refine wS_end (by rfl) ?_
          refine eX_then ?_
          refine cW_cond (t := !y82) (by kernel_rfl) (fun hb86 => ?_) (fun hb86 => ?_)
          · have hm := condT hb86 hm
            refine cW_seq ?_
            refine cW_region ?_
            refine wS_pure 1 [(6, .bool (false))] (by kernel_rfl) ?_
            refine wS_end (by rfl) ?_
            refine eX_then ?_
            refine cW_ret ?_
            refine eX_then_ret ?_
            have hq : (some false : Option ((Bool))) = some _ := hm
            replace hq := someE hq
            subst hq
            refine eX_ret (vs := [.bool (false)]) [.tmp 6] (by rfl) ⟨by (show lkE _ _ _ = _); kernel_rfl, trivial⟩ ?_
            exact ⟨rfl, hB⟩
          · have hm := condF hb86 hm
            refine cW_skip ?_
            refine eX_then ?_
            refine cW_seq ?_
            refine cW_seq ?_
            refine cW_region ?_
            refine wS_pure 2 [(56, .slice A2 (l2).length cap2), (55, .slice A51 (y47).length cap52)] (by kernel_rfl) ?_
            obtain ⟨y87, hy88, hm⟩ := bindE hm
            refine wS_calls (d := 57) (f := 53) (vs := [.slice A2 (l2).length cap2]) (by kernel_rfl) ent53 (c_laws_toInt64S hy88 F2) ?_
            rintro _ w89 ⟨A91, cap92, fp93, rfl, F94, G95, hc90⟩
            have D97 : Dj fp15 fp93 := Dj.of F16.low G95
            have D98 : Dj fp25 fp93 := Dj.of F26.low G95
            have D99 : Dj fp41 fp93 := Dj.of F42.low G95
            have D100 : Dj fp53 fp93 := Dj.of F54.low G95
            have D101 : Dj fp74 fp93 := Dj.of F75.low G95
            replace F1 := F1.chg hc90 Dj.nil
            replace F2 := F2.chg hc90 Dj.nil
            replace F16 := F16.chg hc90 Dj.nil
            replace F26 := F26.chg hc90 Dj.nil
            replace F42 := F42.chg hc90 Dj.nil
            replace F54 := F54.chg hc90 Dj.nil
            replace F75 := F75.chg hc90 Dj.nil
            replace hB := hB.inS hc90 inNil
            replace G95 := low_le hZ G95
            replace hZ := Nat.le_trans hZ hc90.size
            refine ⟨.slice A91 (y87).length cap92, rfl, ?_⟩
            obtain ⟨y102, hy103, hm⟩ := bindE hm
            refine wS_calls (d := 58) (f := 55) (vs := [.slice A51 (y47).length cap52, .slice A91 (y87).length cap92]) (by kernel_rfl) ent55 (c_laws_eqInt64S hy103 (F54.sl encI_ok) (F94.sl encI_ok)) ?_
            rintro _ w104 ⟨rfl, hc105⟩
            replace F1 := F1.chg hc105 Dj.nil
            replace F2 := F2.chg hc105 Dj.nil
            replace F16 := F16.chg hc105 Dj.nil
            replace F26 := F26.chg hc105 Dj.nil
            replace F42 := F42.chg hc105 Dj.nil
            replace F54 := F54.chg hc105 Dj.nil
            replace F75 := F75.chg hc105 Dj.nil
            replace F94 := F94.chg hc105 Dj.nil
            replace hB := hB.inS hc105 inNil
            replace hZ := Nat.le_trans hZ hc105.size
            refine ⟨.bool (y102), rfl, ?_⟩
            refine wS_pure 1 [(59, .bool (!y102))] (by kernel_rfl) ?_
            refine wS_end (by rfl) ?_
            refine eX_then ?_
            refine cW_cond (t := !y102) (by kernel_rfl) (fun hb106 => ?_) (fun hb106 => ?_)
            · have hm := condT hb106 hm
              refine cW_seq ?_
              refine cW_region ?_
              refine wS_pure 1 [(6, .bool (false))] (by kernel_rfl) ?_
              refine wS_end (by rfl) ?_
              refine eX_then ?_
              refine cW_ret ?_
              refine eX_then_ret ?_
              have hq : (some false : Option ((Bool))) = some _ := hm
              replace hq := someE hq
              subst hq
              refine eX_ret (vs := [.bool (false)]) [.tmp 6] (by rfl) ⟨by (show lkE _ _ _ = _); kernel_rfl, trivial⟩ ?_
              exact ⟨rfl, hB⟩
            · have hm := condF hb106 hm
              refine cW_skip ?_
              refine eX_then ?_
              refine cW_seq ?_
              refine cW_region ?_
              refine wS_pure 1 [(6, .bool (true))] (by kernel_rfl) ?_
              refine wS_end (by rfl) ?_
              refine eX_then ?_
              refine cW_ret ?_
              have hq : (some true : Option ((Bool))) = some _ := hm
              replace hq := someE hq
              subst hq
              refine eX_ret (vs := [.bool (true)]) [.tmp 6] (by rfl) ⟨by (show lkE _ _ _ = _); kernel_rfl, trivial⟩ ?_
              exact ⟨rfl, hB⟩

end Go.Proofs.Ytmodhpgnkbnbaaa
