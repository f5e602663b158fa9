/- Printed walks: laws.FnClocks. -/
import Derived.Test.YtajnjbmniobjhaaProg
import Derived.Test.YtajnjbmniobjhaaWCk02
set_option linter.unusedSimpArgs false
set_option linter.unusedVariables false
namespace Go.Proofs.Ytajnjbmniobjhaa
open Go.RowKit
attribute [local irreducible] wS cW eX wH

theorem ent17 : Ent Try.prog 17 := fun _ => by kernel_rfl
theorem ent38 : Ent Try.prog 38 := fun _ => by kernel_rfl
theorem ent39 : Ent Try.prog 39 := fun _ => by kernel_rfl
theorem ent40 : Ent Try.prog 40 := fun _ => by kernel_rfl
theorem ent41 : Ent Try.prog 41 := fun _ => by kernel_rfl
theorem ent42 : Ent Try.prog 42 := fun _ => by kernel_rfl
theorem ent43 : Ent Try.prog 43 := fun _ => by kernel_rfl
theorem ent45 : Ent Try.prog 45 := fun _ => by kernel_rfl

set_option maxRecDepth 100000 in
/-- laws.FnClocks -/
theorem c_laws_FnClocks {w0 : World} {l0 : List (Int)} {A0 : Option Addr} {cap0 : Nat} {fp0 : List Nat} {l1 : List (Int)} {A1 : Option Addr} {cap1 : Nat} {fp1 : List Nat} {r : (Bool)} (hm : m_laws_FnClocks l0 l1 = some r) (F0 : Sl 1 encU w0 fp0 A0 l0) (F1 : Sl 1 encU w0 fp1 A1 l1) :
    Calls Try.prog 6 #[.slice A0 (l0).length cap0, .slice A1 (l1).length cap1] w0 fun e w' => e = .returned (.bool (r)) ∧ Chg [] w0 w' := by
  have L0 := F0.low
  have L1 := F1.low
  have hB : Chg [] w0 w0 := Chg.refl _ _
  have hZ := Nat.le_refl w0.heap.size
  unfold m_laws_FnClocks at hm
  refine enterE (N := 267) Try.func6 (by rfl) Try.ntmps6 (by simp) [(0, .slice A0 (l0).length cap0), (1, .slice A1 (l1).length cap1)] (by rfl) (by kernel_rfl) (fun a => ?_)
  refine cW_seq ?_
  refine cW_region ?_
  refine wS_pure 1 [(4, .bool (false))] (by kernel_rfl) ?_
  refine wS_end (by rfl) ?_
  refine eX_then ?_
  refine cW_seq ?_
  refine cW_seq ?_
  refine cW_region ?_
  refine wS_pure 2 [(28, .slice A1 (l1).length cap1), (27, .slice A0 (l0).length cap0)] (by kernel_rfl) ?_
  obtain ⟨y3, hy4, hm⟩ := bindE hm
  refine wS_calls (d := 29) (f := 17) (vs := [.slice A0 (l0).length cap0, .slice A1 (l1).length cap1]) (by kernel_rfl) ent17 (c_laws_r8Long hy4 F0 F1) ?_
  rintro _ w5 ⟨rfl, hc6⟩
  replace F0 := F0.chg hc6 Dj.nil
  replace F1 := F1.chg hc6 Dj.nil
  replace hB := hB.inS hc6 inNil
  replace hZ := Nat.le_trans hZ hc6.size
  refine ⟨.bool (y3), rfl, ?_⟩
  refine wS_end (by rfl) ?_
  refine eX_then ?_
  refine cW_cond (t := y3) (by kernel_rfl) (fun hb7 => ?_) (fun hb7 => ?_)
  · have hm := condT hb7 hm
    refine cW_seq ?_
    refine cW_region ?_
    refine wS_pure 1 [(4, .bool (true))] (by kernel_rfl) ?_
    refine wS_end (by rfl) ?_
    refine eX_then ?_
    refine cW_ret ?_
    refine eX_then_ret ?_
    have hq : (some true : Option ((Bool))) = some _ := hm
    replace hq := someE hq
    subst hq
    refine eX_ret (vs := [.bool (true)]) [.tmp 4] (by rfl) ⟨by (show lkE _ _ _ = _); kernel_rfl, trivial⟩ ?_
    exact ⟨rfl, hB⟩
  · have hm := condF hb7 hm
    refine cW_skip ?_
    refine eX_then ?_
    refine cW_seq ?_
    refine cW_region ?_
    refine wS_pure 1 [(30, .slice A0 (l0).length cap0)] (by kernel_rfl) ?_
    obtain ⟨y8, hy9, hm⟩ := bindE hm
    refine wS_calls (d := 31) (f := 38) (vs := [.slice A0 (l0).length cap0, .int .i64 (7)]) (by kernel_rfl) ent38 (c_spec_R8Pins hy9 F0) ?_
    rintro _ w10 ⟨A12, cap13, fp14, rfl, F15, G16, hc11⟩
    replace F0 := F0.chg hc11 Dj.nil
    replace F1 := F1.chg hc11 Dj.nil
    replace hB := hB.inS hc11 inNil
    replace G16 := low_le hZ G16
    replace hZ := Nat.le_trans hZ hc11.size
    refine ⟨.slice A12 (y8).length cap13, rfl, ?_⟩
    refine wS_pure 1 [(5, .slice A12 (y8).length cap13)] (by kernel_rfl) ?_
    refine wS_end (by rfl) ?_
    refine eX_then ?_
    refine cW_seq ?_
    refine cW_region ?_
    refine wS_pure 3 [(6, .int .i64 (((y8).length : Int))), (33, .int .i64 (((y8).length : Int))), (32, .slice A12 (y8).length cap13)] (by kernel_rfl) ?_
    refine wS_end (by rfl) ?_
    refine eX_then ?_
    refine cW_seq ?_
    refine cW_region ?_
    refine wS_pure 2 [(35, .int .i64 (((y8).length : Int))), (34, .slice A1 (l1).length cap1)] (by kernel_rfl) ?_
    obtain ⟨y19, hy20, hm⟩ := bindE hm
    refine wS_calls (d := 36) (f := 39) (vs := [.slice A1 (l1).length cap1, .int .i64 (((y8).length : Int))]) (by kernel_rfl) ent39 (c_spec_R8Joins hy20 F1) ?_
    rintro _ w21 ⟨A23, cap24, fp25, fr28, rfl, F26, G27, hc22⟩
    have D30 : Dj fp14 (fp25 ++ fr28) := Dj.of F15.low G27
    replace F0 := F0.chg hc22 Dj.nil
    replace F1 := F1.chg hc22 Dj.nil
    replace F15 := F15.chg hc22 Dj.nil
    replace hB := hB.inS hc22 inNil
    replace G27 := low_le hZ G27
    replace hZ := Nat.le_trans hZ hc22.size
    refine ⟨.slice A23 (y19).length cap24, rfl, ?_⟩
    refine wS_pure 1 [(7, .slice A23 (y19).length cap24)] (by kernel_rfl) ?_
    refine wS_end (by rfl) ?_
    refine eX_then ?_
    refine cW_seq ?_
    refine cW_region ?_
    refine wS_pure 2 [(39, .slice A23 (y19).length cap24), (38, .slice A12 (y8).length cap13)] (by kernel_rfl) ?_
    obtain ⟨y31, hy32, hm⟩ := bindE hm
    refine wS_calls (d := 40) (f := 40) (vs := [.slice A12 (y8).length cap13, .slice A23 (y19).length cap24]) (by kernel_rfl) ent40 (c_impl_ClockMerges hy32 (F15.sl encII_ok) (F26.slr encI_ok)) ?_
    rintro _ w33 ⟨A35, cap36, fp37, rfl, F38, G39, hc34⟩
    have D42 : Dj fp14 fp37 := Dj.of F15.low G39
    have D43 : Dj (fp25 ++ fr28) fp37 := Dj.of F26.low G39
    replace F0 := F0.chg hc34 Dj.nil
    replace F1 := F1.chg hc34 Dj.nil
    replace F15 := F15.chg hc34 Dj.nil
    replace F26 := F26.chg hc34 Dj.nil
    replace hB := hB.inS hc34 inNil
    replace G39 := low_le hZ G39
    replace hZ := Nat.le_trans hZ hc34.size
    refine ⟨.tuple #[.slice A35 (y31.1).length cap36, .bool (y31.2)], rfl, ?_⟩
    refine wS_pure 5 [(9, .bool (y31.2)), (8, .slice A35 (y31.1).length cap36), (42, .bool (y31.2)), (41, .slice A35 (y31.1).length cap36), (37, .tuple #[.slice A35 (y31.1).length cap36, .bool (y31.2)])] (by kernel_rfl) ?_
    refine wS_end (by rfl) ?_
    refine eX_then ?_
    refine cW_prune [(1, .slice A1 (l1).length cap1), (5, .slice A12 (y8).length cap13), (6, .int .i64 (((y8).length : Int))), (7, .slice A23 (y19).length cap24), (8, .slice A35 (y31.1).length cap36), (9, .bool (y31.2))] (by kernel_rfl) (by kernel_rfl) (fun a44 => ?_)
    refine cW_seq ?_
    refine cW_region ?_
    refine wS_pure 2 [(45, .slice A23 (y19).length cap24), (44, .slice A12 (y8).length cap13)] (by kernel_rfl) ?_
    obtain ⟨y45, hy46, hm⟩ := bindE hm
    refine wS_calls (d := 46) (f := 41) (vs := [.slice A12 (y8).length cap13, .slice A23 (y19).length cap24]) (by kernel_rfl) ent41 (c_impl_ClockWires hy46 (F15.sl encII_ok) (F26.slr encI_ok)) ?_
    rintro _ w47 ⟨A49, cap50, fp51, rfl, F52, G53, hc48⟩
    have D56 : Dj fp14 fp51 := Dj.of F15.low G53
    have D57 : Dj (fp25 ++ fr28) fp51 := Dj.of F26.low G53
    have D58 : Dj fp37 fp51 := Dj.of F38.low G53
    replace F0 := F0.chg hc48 Dj.nil
    replace F1 := F1.chg hc48 Dj.nil
    replace F15 := F15.chg hc48 Dj.nil
    replace F26 := F26.chg hc48 Dj.nil
    replace F38 := F38.chg hc48 Dj.nil
    replace hB := hB.inS hc48 inNil
    replace G53 := low_le hZ G53
    replace hZ := Nat.le_trans hZ hc48.size
    refine ⟨.tuple #[.slice A49 (y45.1).length cap50, .bool (y45.2)], rfl, ?_⟩
    refine wS_pure 5 [(11, .bool (y45.2)), (10, .slice A49 (y45.1).length cap50), (48, .bool (y45.2)), (47, .slice A49 (y45.1).length cap50), (43, .tuple #[.slice A49 (y45.1).length cap50, .bool (y45.2)])] (by kernel_rfl) ?_
    refine wS_end (by rfl) ?_
    refine eX_then ?_
    refine cW_seq ?_
    refine cW_region ?_
    refine wS_pure 2 [(51, .slice A23 (y19).length cap24), (50, .slice A12 (y8).length cap13)] (by kernel_rfl) ?_
    obtain ⟨y59, hy60, hm⟩ := bindE hm
    refine wS_calls (d := 52) (f := 42) (vs := [.slice A12 (y8).length cap13, .slice A23 (y19).length cap24]) (by kernel_rfl) ent42 (c_impl_ClockPlaces hy60 (F15.sl encII_ok) (F26.slr encI_ok)) ?_
    rintro _ w61 ⟨A63, cap64, fp65, fr68, rfl, F66, G67, hc62⟩
    have D70 : Dj fp14 (fp65 ++ fr68) := Dj.of F15.low G67
    have D71 : Dj (fp25 ++ fr28) (fp65 ++ fr68) := Dj.of F26.low G67
    have D72 : Dj fp37 (fp65 ++ fr68) := Dj.of F38.low G67
    have D73 : Dj fp51 (fp65 ++ fr68) := Dj.of F52.low G67
    replace F0 := F0.chg hc62 Dj.nil
    replace F1 := F1.chg hc62 Dj.nil
    replace F15 := F15.chg hc62 Dj.nil
    replace F26 := F26.chg hc62 Dj.nil
    replace F38 := F38.chg hc62 Dj.nil
    replace F52 := F52.chg hc62 Dj.nil
    replace hB := hB.inS hc62 inNil
    replace G67 := low_le hZ G67
    replace hZ := Nat.le_trans hZ hc62.size
    refine ⟨.tuple #[.slice A63 (y59.1).length cap64, .bool (y59.2)], rfl, ?_⟩
    refine wS_pure 5 [(13, .bool (y59.2)), (12, .slice A63 (y59.1).length cap64), (54, .bool (y59.2)), (53, .slice A63 (y59.1).length cap64), (49, .tuple #[.slice A63 (y59.1).length cap64, .bool (y59.2)])] (by kernel_rfl) ?_
    refine wS_end (by rfl) ?_
    refine eX_then ?_
    refine cW_seq ?_
    refine cW_region ?_
    refine wS_pure 3 [(58, .slice A49 (y45.1).length cap50), (57, .slice A23 (y19).length cap24), (56, .int .i64 (((y8).length : Int)))] (by kernel_rfl) ?_
    obtain ⟨y74, hy75, hm⟩ := bindE hm
    refine wS_calls (d := 59) (f := 43) (vs := [.int .i64 (((y8).length : Int)), .slice A23 (y19).length cap24, .slice A49 (y45.1).length cap50]) (by kernel_rfl) ent43 (c_impl_SkewOf hy75 (F26.slr encI_ok) (F52.sl encI_ok)) ?_
    rintro _ w76 ⟨rfl, hc77⟩
    replace F0 := F0.chg hc77 Dj.nil
    replace F1 := F1.chg hc77 Dj.nil
    replace F15 := F15.chg hc77 Dj.nil
    replace F26 := F26.chg hc77 Dj.nil
    replace F38 := F38.chg hc77 Dj.nil
    replace F52 := F52.chg hc77 Dj.nil
    replace F66 := F66.chg hc77 Dj.nil
    replace hB := hB.inS hc77 inNil
    replace hZ := Nat.le_trans hZ hc77.size
    refine ⟨.tuple #[.int .i64 (y74.1), .bool (y74.2)], rfl, ?_⟩
    refine wS_pure 5 [(15, .bool (y74.2)), (14, .int .i64 (y74.1)), (61, .bool (y74.2)), (60, .int .i64 (y74.1)), (55, .tuple #[.int .i64 (y74.1), .bool (y74.2)])] (by kernel_rfl) ?_
    refine wS_end (by rfl) ?_
    refine eX_then ?_
    refine cW_prune [(1, .slice A1 (l1).length cap1), (6, .int .i64 (((y8).length : Int))), (7, .slice A23 (y19).length cap24), (8, .slice A35 (y31.1).length cap36), (9, .bool (y31.2)), (10, .slice A49 (y45.1).length cap50), (11, .bool (y45.2)), (12, .slice A63 (y59.1).length cap64), (13, .bool (y59.2)), (14, .int .i64 (y74.1)), (15, .bool (y74.2))] (by kernel_rfl) (by kernel_rfl) (fun a78 => ?_)
    refine cW_seq ?_
    refine cW_seq ?_
    refine cW_region ?_
    refine wS_pure 3 [(64, .bool (!y31.2)), (63, .bool (!y31.2)), (62, .bool (y31.2))] (by kernel_rfl) ?_
    refine wS_bool (!y31.2) (fun hb79 => ?_) (fun hb79 => ?_)
    · have hm := condT hb79 hm
      rewrite [hb79]
      refine wS_pure 45 [(109, .bool (true)), (108, undef), (107, undef), (106, undef), (105, undef), (104, .bool (true)), (103, .bool (true)), (102, undef), (101, undef), (100, undef), (99, undef), (98, undef), (97, undef), (96, .bool (true)), (95, .bool (true)), (94, undef), (93, undef), (92, undef), (91, undef), (90, undef), (89, undef), (88, .bool (true)), (87, .bool (true)), (86, undef), (85, undef), (84, undef), (83, undef), (82, undef), (81, undef), (80, .bool (true)), (79, .bool (true)), (78, undef), (77, undef), (76, .bool (true)), (75, .bool (true)), (74, undef), (73, undef), (72, .bool (true)), (71, .bool (true)), (70, undef), (69, undef), (68, .bool (true)), (67, .bool (true)), (66, undef), (65, undef)] (by kernel_rfl) ?_
      refine wS_end (by rfl) ?_
      refine eX_then ?_
      refine cW_prune [(1, .slice A1 (l1).length cap1), (6, .int .i64 (((y8).length : Int))), (7, .slice A23 (y19).length cap24), (8, .slice A35 (y31.1).length cap36), (10, .slice A49 (y45.1).length cap50), (12, .slice A63 (y59.1).length cap64), (109, .bool (true))] (by kernel_rfl) (by kernel_rfl) (fun a80 => ?_)
      refine cW_cond_t (by kernel_rfl) ?_
      refine cW_seq ?_
      refine cW_region ?_
      refine wS_pure 1 [(4, .bool (false))] (by kernel_rfl) ?_
      refine wS_end (by rfl) ?_
      refine eX_then ?_
      refine cW_ret ?_
      refine eX_then_ret ?_
      have hq : (some false : Option ((Bool))) = some _ := hm
      replace hq := someE hq
      subst hq
      refine eX_ret (vs := [.bool (false)]) [.tmp 4] (by rfl) ⟨by (show lkE _ _ _ = _); kernel_rfl, trivial⟩ ?_
      exact ⟨rfl, hB⟩
    · have hm := condF hb79 hm
      rewrite [hb79]
      refine wS_pure 4 [(68, .bool (!y45.2)), (67, .bool (!y45.2)), (66, .bool (!y45.2)), (65, .bool (y45.2))] (by kernel_rfl) ?_
      refine wS_bool (!y45.2) (fun hb81 => ?_) (fun hb81 => ?_)
      · have hm := condT hb81 hm
        rewrite [hb81]
        refine wS_pure 41 [(109, .bool (true)), (108, undef), (107, undef), (106, undef), (105, undef), (104, .bool (true)), (103, .bool (true)), (102, undef), (101, undef), (100, undef), (99, undef), (98, undef), (97, undef), (96, .bool (true)), (95, .bool (true)), (94, undef), (93, undef), (92, undef), (91, undef), (90, undef), (89, undef), (88, .bool (true)), (87, .bool (true)), (86, undef), (85, undef), (84, undef), (83, undef), (82, undef), (81, undef), (80, .bool (true)), (79, .bool (true)), (78, undef), (77, undef), (76, .bool (true)), (75, .bool (true)), (74, undef), (73, undef), (72, .bool (true)), (71, .bool (true)), (70, undef), (69, undef)] (by kernel_rfl) ?_
        refine wS_end (by rfl) ?_
        refine eX_then ?_
        refine cW_prune [(1, .slice A1 (l1).length cap1), (6, .int .i64 (((y8).length : Int))), (7, .slice A23 (y19).length cap24), (8, .slice A35 (y31.1).length cap36), (10, .slice A49 (y45.1).length cap50), (12, .slice A63 (y59.1).length cap64), (109, .bool (true))] (by kernel_rfl) (by kernel_rfl) (fun a82 => ?_)
        refine cW_cond_t (by kernel_rfl) ?_
        refine cW_seq ?_
        refine cW_region ?_
        refine wS_pure 1 [(4, .bool (false))] (by kernel_rfl) ?_
        refine wS_end (by rfl) ?_
        refine eX_then ?_
        refine cW_ret ?_
        refine eX_then_ret ?_
        have hq : (some false : Option ((Bool))) = some _ := hm
        replace hq := someE hq
        subst hq
        refine eX_ret (vs := [.bool (false)]) [.tmp 4] (by rfl) ⟨by (show lkE _ _ _ = _); kernel_rfl, trivial⟩ ?_
        exact ⟨rfl, hB⟩
      · have hm := condF hb81 hm
        rewrite [hb81]
        refine wS_pure 4 [(72, .bool (!y59.2)), (71, .bool (!y59.2)), (70, .bool (!y59.2)), (69, .bool (y59.2))] (by kernel_rfl) ?_
        refine wS_bool (!y59.2) (fun hb83 => ?_) (fun hb83 => ?_)
        · have hm := condT hb83 hm
          rewrite [hb83]
          refine wS_pure 37 [(109, .bool (true)), (108, undef), (107, undef), (106, undef), (105, undef), (104, .bool (true)), (103, .bool (true)), (102, undef), (101, undef), (100, undef), (99, undef), (98, undef), (97, undef), (96, .bool (true)), (95, .bool (true)), (94, undef), (93, undef), (92, undef), (91, undef), (90, undef), (89, undef), (88, .bool (true)), (87, .bool (true)), (86, undef), (85, undef), (84, undef), (83, undef), (82, undef), (81, undef), (80, .bool (true)), (79, .bool (true)), (78, undef), (77, undef), (76, .bool (true)), (75, .bool (true)), (74, undef), (73, undef)] (by kernel_rfl) ?_
          refine wS_end (by rfl) ?_
          refine eX_then ?_
          refine cW_prune [(1, .slice A1 (l1).length cap1), (6, .int .i64 (((y8).length : Int))), (7, .slice A23 (y19).length cap24), (8, .slice A35 (y31.1).length cap36), (10, .slice A49 (y45.1).length cap50), (12, .slice A63 (y59.1).length cap64), (109, .bool (true))] (by kernel_rfl) (by kernel_rfl) (fun a84 => ?_)
          refine cW_cond_t (by kernel_rfl) ?_
          refine cW_seq ?_
          refine cW_region ?_
          refine wS_pure 1 [(4, .bool (false))] (by kernel_rfl) ?_
          refine wS_end (by rfl) ?_
          refine eX_then ?_
          refine cW_ret ?_
          refine eX_then_ret ?_
          have hq : (some false : Option ((Bool))) = some _ := hm
          replace hq := someE hq
          subst hq
          refine eX_ret (vs := [.bool (false)]) [.tmp 4] (by rfl) ⟨by (show lkE _ _ _ = _); kernel_rfl, trivial⟩ ?_
          exact ⟨rfl, hB⟩
        · have hm := condF hb83 hm
          rewrite [hb83]
          refine wS_pure 4 [(76, .bool (!y74.2)), (75, .bool (!y74.2)), (74, .bool (!y74.2)), (73, .bool (y74.2))] (by kernel_rfl) ?_
          refine wS_bool (!y74.2) (fun hb85 => ?_) (fun hb85 => ?_)
          · have hm := condT hb85 hm
            rewrite [hb85]
            refine wS_pure 33 [(109, .bool (true)), (108, undef), (107, undef), (106, undef), (105, undef), (104, .bool (true)), (103, .bool (true)), (102, undef), (101, undef), (100, undef), (99, undef), (98, undef), (97, undef), (96, .bool (true)), (95, .bool (true)), (94, undef), (93, undef), (92, undef), (91, undef), (90, undef), (89, undef), (88, .bool (true)), (87, .bool (true)), (86, undef), (85, undef), (84, undef), (83, undef), (82, undef), (81, undef), (80, .bool (true)), (79, .bool (true)), (78, undef), (77, undef)] (by kernel_rfl) ?_
            refine wS_end (by rfl) ?_
            refine eX_then ?_
            refine cW_prune [(1, .slice A1 (l1).length cap1), (6, .int .i64 (((y8).length : Int))), (7, .slice A23 (y19).length cap24), (8, .slice A35 (y31.1).length cap36), (10, .slice A49 (y45.1).length cap50), (12, .slice A63 (y59.1).length cap64), (109, .bool (true))] (by kernel_rfl) (by kernel_rfl) (fun a86 => ?_)
            refine cW_cond_t (by kernel_rfl) ?_
            refine cW_seq ?_
            refine cW_region ?_
            refine wS_pure 1 [(4, .bool (false))] (by kernel_rfl) ?_
            refine wS_end (by rfl) ?_
            refine eX_then ?_
            refine cW_ret ?_
            refine eX_then_ret ?_
            have hq : (some false : Option ((Bool))) = some _ := hm
            replace hq := someE hq
            subst hq
            refine eX_ret (vs := [.bool (false)]) [.tmp 4] (by rfl) ⟨by (show lkE _ _ _ = _); kernel_rfl, trivial⟩ ?_
            exact ⟨rfl, hB⟩
          · have hm := condF hb85 hm
            rewrite [hb85]
            refine wS_pure 4 [(80, .bool (y74.1 != 0)), (79, .bool (y74.1 != 0)), (78, .bool (y74.1 != 0)), (77, .int .i64 (y74.1))] (by kernel_rfl) ?_
            refine wS_bool (y74.1 != 0) (fun hb87 => ?_) (fun hb87 => ?_)
            · have hm := condT hb87 hm
              rewrite [hb87]
              refine wS_pure 29 [(109, .bool (true)), (108, undef), (107, undef), (106, undef), (105, undef), (104, .bool (true)), (103, .bool (true)), (102, undef), (101, undef), (100, undef), (99, undef), (98, undef), (97, undef), (96, .bool (true)), (95, .bool (true)), (94, undef), (93, undef), (92, undef), (91, undef), (90, undef), (89, undef), (88, .bool (true)), (87, .bool (true)), (86, undef), (85, undef), (84, undef), (83, undef), (82, undef), (81, undef)] (by kernel_rfl) ?_
              refine wS_end (by rfl) ?_
              refine eX_then ?_
              refine cW_prune [(1, .slice A1 (l1).length cap1), (6, .int .i64 (((y8).length : Int))), (7, .slice A23 (y19).length cap24), (8, .slice A35 (y31.1).length cap36), (10, .slice A49 (y45.1).length cap50), (12, .slice A63 (y59.1).length cap64), (109, .bool (true))] (by kernel_rfl) (by kernel_rfl) (fun a88 => ?_)
              refine cW_cond_t (by kernel_rfl) ?_
              refine cW_seq ?_
              refine cW_region ?_
              refine wS_pure 1 [(4, .bool (false))] (by kernel_rfl) ?_
              refine wS_end (by rfl) ?_
              refine eX_then ?_
              refine cW_ret ?_
              refine eX_then_ret ?_
              have hq : (some false : Option ((Bool))) = some _ := hm
              replace hq := someE hq
              subst hq
              refine eX_ret (vs := [.bool (false)]) [.tmp 4] (by rfl) ⟨by (show lkE _ _ _ = _); kernel_rfl, trivial⟩ ?_
              exact ⟨rfl, hB⟩
            · have hm := condF hb87 hm
              rewrite [hb87]
              refine wS_pure 8 [(88, .bool ((((y31.1).length : Int)) != (wr ((wr (2 * (((y8).length : Int)))) - 1)))), (87, .bool ((((y31.1).length : Int)) != (wr ((wr (2 * (((y8).length : Int)))) - 1)))), (86, .bool ((((y31.1).length : Int)) != (wr ((wr (2 * (((y8).length : Int)))) - 1)))), (85, .int .i64 (wr ((wr (2 * (((y8).length : Int)))) - 1))), (84, .int .i64 (wr (2 * (((y8).length : Int))))), (83, .int .i64 (((y8).length : Int))), (82, .int .i64 (((y31.1).length : Int))), (81, .slice A35 (y31.1).length cap36)] (by kernel_rfl) ?_
              refine wS_bool ((((y31.1).length : Int)) != (wr ((wr (2 * (((y8).length : Int)))) - 1))) (fun hb89 => ?_) (fun hb89 => ?_)
              · have hm := condT hb89 hm
                rewrite [hb89]
                refine wS_pure 21 [(109, .bool (true)), (108, undef), (107, undef), (106, undef), (105, undef), (104, .bool (true)), (103, .bool (true)), (102, undef), (101, undef), (100, undef), (99, undef), (98, undef), (97, undef), (96, .bool (true)), (95, .bool (true)), (94, undef), (93, undef), (92, undef), (91, undef), (90, undef), (89, undef)] (by kernel_rfl) ?_
                refine wS_end (by rfl) ?_
                refine eX_then ?_
                refine cW_prune [(1, .slice A1 (l1).length cap1), (6, .int .i64 (((y8).length : Int))), (7, .slice A23 (y19).length cap24), (8, .slice A35 (y31.1).length cap36), (10, .slice A49 (y45.1).length cap50), (12, .slice A63 (y59.1).length cap64), (109, .bool (true))] (by kernel_rfl) (by kernel_rfl) (fun a90 => ?_)
                refine cW_cond_t (by kernel_rfl) ?_
                refine cW_seq ?_
                refine cW_region ?_
                refine wS_pure 1 [(4, .bool (false))] (by kernel_rfl) ?_
                refine wS_end (by rfl) ?_
                refine eX_then ?_
                refine cW_ret ?_
                refine eX_then_ret ?_
                have hq : (some false : Option ((Bool))) = some _ := hm
                replace hq := someE hq
                subst hq
                refine eX_ret (vs := [.bool (false)]) [.tmp 4] (by rfl) ⟨by (show lkE _ _ _ = _); kernel_rfl, trivial⟩ ?_
                exact ⟨rfl, hB⟩
              · have hm := condF hb89 hm
                rewrite [hb89]
                refine wS_pure 8 [(96, .bool ((((y45.1).length : Int)) != (wr ((wr (2 * (((y8).length : Int)))) - 1)))), (95, .bool ((((y45.1).length : Int)) != (wr ((wr (2 * (((y8).length : Int)))) - 1)))), (94, .bool ((((y45.1).length : Int)) != (wr ((wr (2 * (((y8).length : Int)))) - 1)))), (93, .int .i64 (wr ((wr (2 * (((y8).length : Int)))) - 1))), (92, .int .i64 (wr (2 * (((y8).length : Int))))), (91, .int .i64 (((y8).length : Int))), (90, .int .i64 (((y45.1).length : Int))), (89, .slice A49 (y45.1).length cap50)] (by kernel_rfl) ?_
                refine wS_bool ((((y45.1).length : Int)) != (wr ((wr (2 * (((y8).length : Int)))) - 1))) (fun hb91 => ?_) (fun hb91 => ?_)
                · have hm := condT hb91 hm
                  rewrite [hb91]
                  refine wS_pure 13 [(109, .bool (true)), (108, undef), (107, undef), (106, undef), (105, undef), (104, .bool (true)), (103, .bool (true)), (102, undef), (101, undef), (100, undef), (99, undef), (98, undef), (97, undef)] (by kernel_rfl) ?_
                  refine wS_end (by rfl) ?_
                  refine eX_then ?_
                  refine cW_prune [(1, .slice A1 (l1).length cap1), (6, .int .i64 (((y8).length : Int))), (7, .slice A23 (y19).length cap24), (8, .slice A35 (y31.1).length cap36), (10, .slice A49 (y45.1).length cap50), (12, .slice A63 (y59.1).length cap64), (109, .bool (true))] (by kernel_rfl) (by kernel_rfl) (fun a92 => ?_)
                  refine cW_cond_t (by kernel_rfl) ?_
                  refine cW_seq ?_
                  refine cW_region ?_
                  refine wS_pure 1 [(4, .bool (false))] (by kernel_rfl) ?_
                  refine wS_end (by rfl) ?_
                  refine eX_then ?_
                  refine cW_ret ?_
                  refine eX_then_ret ?_
                  have hq : (some false : Option ((Bool))) = some _ := hm
                  replace hq := someE hq
                  subst hq
                  refine eX_ret (vs := [.bool (false)]) [.tmp 4] (by rfl) ⟨by (show lkE _ _ _ = _); kernel_rfl, trivial⟩ ?_
                  exact ⟨rfl, hB⟩
                · have hm := condF hb91 hm
                  rewrite [hb91]
                  refine wS_pure 8 [(104, .bool ((((y59.1).length : Int)) != (wr ((wr (2 * (((y8).length : Int)))) - 1)))), (103, .bool ((((y59.1).length : Int)) != (wr ((wr (2 * (((y8).length : Int)))) - 1)))), (102, .bool ((((y59.1).length : Int)) != (wr ((wr (2 * (((y8).length : Int)))) - 1)))), (101, .int .i64 (wr ((wr (2 * (((y8).length : Int)))) - 1))), (100, .int .i64 (wr (2 * (((y8).length : Int))))), (99, .int .i64 (((y8).length : Int))), (98, .int .i64 (((y59.1).length : Int))), (97, .slice A63 (y59.1).length cap64)] (by kernel_rfl) ?_
                  refine wS_bool ((((y59.1).length : Int)) != (wr ((wr (2 * (((y8).length : Int)))) - 1))) (fun hb93 => ?_) (fun hb93 => ?_)
                  · have hm := condT hb93 hm
                    rewrite [hb93]
                    refine wS_pure 5 [(109, .bool (true)), (108, undef), (107, undef), (106, undef), (105, undef)] (by kernel_rfl) ?_
                    refine wS_end (by rfl) ?_
                    refine eX_then ?_
                    refine cW_prune [(1, .slice A1 (l1).length cap1), (6, .int .i64 (((y8).length : Int))), (7, .slice A23 (y19).length cap24), (8, .slice A35 (y31.1).length cap36), (10, .slice A49 (y45.1).length cap50), (12, .slice A63 (y59.1).length cap64), (109, .bool (true))] (by kernel_rfl) (by kernel_rfl) (fun a94 => ?_)
                    refine cW_cond_t (by kernel_rfl) ?_
                    refine cW_seq ?_
                    refine cW_region ?_
                    refine wS_pure 1 [(4, .bool (false))] (by kernel_rfl) ?_
                    refine wS_end (by rfl) ?_
                    refine eX_then ?_
                    refine cW_ret ?_
                    refine eX_then_ret ?_
                    have hq : (some false : Option ((Bool))) = some _ := hm
                    replace hq := someE hq
                    subst hq
                    refine eX_ret (vs := [.bool (false)]) [.tmp 4] (by rfl) ⟨by (show lkE _ _ _ = _); kernel_rfl, trivial⟩ ?_
                    exact ⟨rfl, hB⟩
                  · have hm := condF hb93 hm
                    rewrite [hb93]
                    refine wS_pure 2 [(106, .slice A23 (y19).length cap24), (105, .int .i64 (((y8).length : Int)))] (by kernel_rfl) ?_
                    obtain ⟨y95, hy96, hm⟩ := bindE hm
                    refine wS_calls (d := 107) (f := 44) (vs := [.int .i64 (((y8).length : Int)), .slice A23 (y19).length cap24]) (by kernel_rfl) ent44 (c_impl_IsJoins hy96 (F26.slr encI_ok)) ?_
                    rintro _ w97 ⟨rfl, hc98⟩
                    replace F0 := F0.chg hc98 Dj.nil
                    replace F1 := F1.chg hc98 Dj.nil
                    replace F15 := F15.chg hc98 Dj.nil
                    replace F26 := F26.chg hc98 Dj.nil
                    replace F38 := F38.chg hc98 Dj.nil
                    replace F52 := F52.chg hc98 Dj.nil
                    replace F66 := F66.chg hc98 Dj.nil
                    replace hB := hB.inS hc98 inNil
                    replace hZ := Nat.le_trans hZ hc98.size
                    refine ⟨.bool (y95), rfl, ?_⟩
                    refine wS_pure 2 [(109, .bool (!y95)), (108, .bool (!y95))] (by kernel_rfl) ?_
                    refine wS_end (by rfl) ?_
                    refine eX_then ?_
                    refine cW_prune [(1, .slice A1 (l1).length cap1), (6, .int .i64 (((y8).length : Int))), (7, .slice A23 (y19).length cap24), (8, .slice A35 (y31.1).length cap36), (10, .slice A49 (y45.1).length cap50), (12, .slice A63 (y59.1).length cap64), (109, .bool (!y95))] (by kernel_rfl) (by kernel_rfl) (fun a99 => ?_)
                    refine cW_cond (t := !y95) (by kernel_rfl) (fun hb100 => ?_) (fun hb100 => ?_)
                    · have hm := condT hb100 hm
                      refine cW_seq ?_
                      refine cW_region ?_
                      refine wS_pure 1 [(4, .bool (false))] (by kernel_rfl) ?_
                      refine wS_end (by rfl) ?_
                      refine eX_then ?_
                      refine cW_ret ?_
                      refine eX_then_ret ?_
                      have hq : (some false : Option ((Bool))) = some _ := hm
                      replace hq := someE hq
                      subst hq
                      refine eX_ret (vs := [.bool (false)]) [.tmp 4] (by rfl) ⟨by (show lkE _ _ _ = _); kernel_rfl, trivial⟩ ?_
                      exact ⟨rfl, hB⟩
                    · have hm := condF hb100 hm
                      refine cW_skip ?_
                      refine eX_then ?_
                      refine cW_seq ?_
                      refine cW_seq ?_
                      refine cW_region ?_
                      refine wS_pure 1 [(16, .int .i64 (0))] (by kernel_rfl) ?_
                      refine wS_end (by rfl) ?_
                      refine eX_then ?_
                      obtain ⟨r453, hr454, hm⟩ := bindE hm
                      have hm455 := hm
                      refine cW_cut (fun a' w' => Sum.inl (()) = r453 ∧ Fr 267 [(1, .slice A1 (l1).length cap1), (6, .int .i64 (((y8).length : Int))), (7, .slice A23 (y19).length cap24), (8, .slice A35 (y31.1).length cap36), (10, .slice A49 (y45.1).length cap50), (12, .slice A63 (y59.1).length cap64)] a' ∧ Sl 1 encU w' fp1 A1 l1 ∧ OwR 1 encI 38 2 w' fp25 fr28 A23 cap24 y19 ∧ Ow 5 encIIIII 27 w' fp37 A35 cap36 y31.1 ∧ Ow 1 encI 2 w' fp51 A49 cap50 y45.1 ∧ OwR 1 encI 38 2 w' fp65 fr68 A63 cap64 y59.1 ∧ Chg [] w0 w' ∧ w0.heap.size ≤ w'.heap.size) ?_ ?_
                      · refine cW_block ?_
                        refine cW_loop _ (fun (s456 : Int) a' w' => ∃ x446 : Int, x446 = s456 ∧ Fr 267 [(1, .slice A1 (l1).length cap1), (6, .int .i64 (((y8).length : Int))), (7, .slice A23 (y19).length cap24), (8, .slice A35 (y31.1).length cap36), (10, .slice A49 (y45.1).length cap50), (12, .slice A63 (y59.1).length cap64), (16, .int .i64 (x446))] a' ∧ Sl 1 encU w' fp1 A1 l1 ∧ OwR 1 encI 38 2 w' fp25 fr28 A23 cap24 y19 ∧ Ow 5 encIIIII 27 w' fp37 A35 cap36 y31.1 ∧ Ow 1 encI 2 w' fp51 A49 cap50 y45.1 ∧ OwR 1 encI 38 2 w' fp65 fr68 A63 cap64 y59.1 ∧ Chg [] w0 w' ∧ w0.heap.size ≤ w'.heap.size) hr454 (fun hst => ⟨0, rfl, Fr.of hst (by kernel_rfl), F1, F26, F38, F52, F66, hB, hZ⟩) ?_
                        rintro _ c457 a' w445 ⟨x446, rfl, hF447, F448, F449, F450, F451, F452, hB, hZ⟩ hx458
                        refine Fr.goOn hF447 (by kernel_rfl) ?_
                        have hm := hx458
                        unfold m_laws_FnClocks_s1 at hm
                        refine cW_seq ?_
                        refine cW_seq ?_
                        refine cW_region ?_
                        refine wS_pure 5 [(114, .bool (decide (x446 < (wr ((wr (2 * (((y8).length : Int)))) - 1))))), (113, .int .i64 (wr ((wr (2 * (((y8).length : Int)))) - 1))), (112, .int .i64 (wr (2 * (((y8).length : Int))))), (111, .int .i64 (((y8).length : Int))), (110, .int .i64 (x446))] (by kernel_rfl) ?_
                        refine wS_end (by rfl) ?_
                        refine eX_then ?_
                        refine cW_cond (t := decide (x446 < (wr ((wr (2 * (((y8).length : Int)))) - 1)))) (by kernel_rfl) (fun hb459 => ?_) (fun hb459 => ?_)
                        · have hm := condT hb459 hm
                          refine cW_skip ?_
                          refine eX_then ?_
                          refine cW_seq ?_
                          refine cW_block ?_
                          refine cW_seq ?_
                          refine cW_region ?_
                          refine wS_pure 2 [(118, .int .i64 (x446)), (117, .slice A35 (y31.1).length cap36)] (by kernel_rfl) ?_
                          obtain ⟨x460, hx461, hm⟩ := bindE hm
                          refine wS_idx (d := 119) (T := 61) (A := A35) (n := (y31.1).length) (cap := cap36) (kd := .i64) (m := x446) (by kernel_rfl) sl61 ((F450.sl encIIIII_ok).is hx461) ?_
                          refine wS_pure 1 [(120, .pointer (some (elA A35 5 (x446) 0)))] (by kernel_rfl) ?_
                          refine wS_loadA (d := 121) (T := 25) (ad := (elA A35 5 (x446) 0)) (vs := [.int .i64 (x460.1), .int .i64 (x460.2.1), .int .i64 (x460.2.2.1), .int .i64 (x460.2.2.2.1)]) (by kernel_rfl) vt25 (fun i u hu => Sl.cells_at (F450.sl encIIIII_ok) hx461 0 hu (by rfl)) ?_
                          refine wS_alloc (d := 17) (T := 25) (z := .agg #[.int .i64 (0), .int .i64 (0), .int .i64 (0), .int .i64 (0)]) (by kernel_rfl) (by kernel_rfl) ?_
                          intro b462 w463 G464 F465 hc466
                          replace F465 : Cl w463 b462 25 [.int .i64 (0), .int .i64 (0), .int .i64 (0), .int .i64 (0)] := F465
                          have D468 : Dj (fp25 ++ fr28) [b462] := Dj.of F449.low (low1 G464)
                          have D469 : Dj fp37 [b462] := Dj.of F450.low (low1 G464)
                          have D470 : Dj fp51 [b462] := Dj.of F451.low (low1 G464)
                          have D471 : Dj (fp65 ++ fr68) [b462] := Dj.of F452.low (low1 G464)
                          replace F448 := F448.chg hc466 Dj.nil
                          replace F449 := F449.chg hc466 Dj.nil
                          replace F450 := F450.chg hc466 Dj.nil
                          replace F451 := F451.chg hc466 Dj.nil
                          replace F452 := F452.chg hc466 Dj.nil
                          replace hB := hB.inS hc466 inNil
                          replace G464 := Nat.le_trans hZ G464
                          replace hZ := Nat.le_trans hZ hc466.size
                          refine wS_store (T := 25) (g := b462) (o := 0) (ad := ⟨b462, 0, none⟩) (v := .agg #[.int .i64 (x460.1), .int .i64 (x460.2.1), .int .i64 (x460.2.2.1), .int .i64 (x460.2.2.2.1)]) (vs := [.int .i64 (x460.1), .int .i64 (x460.2.1), .int .i64 (x460.2.2.1), .int .i64 (x460.2.2.2.1)]) (by kernel_rfl) (by rfl) sz25 (by rfl) (by rfl) F465 (by simp only [List.length_cons, List.length_nil]; omega) ?_
                          intro w472 F473 hc474
                          replace F448 := F448.chg hc474 (Dj.of L1 (low1 G464))
                          replace F449 := F449.chg hc474 D468
                          replace F450 := F450.chg hc474 D469
                          replace F451 := F451.chg hc474 D470
                          replace F452 := F452.chg hc474 D471
                          replace hB := hB.inS hc474 (inLow (low1 G464))
                          replace hZ := Nat.le_trans hZ hc474.size
                          replace F473 : Cl w472 b462 25 [.int .i64 (x460.1), .int .i64 (x460.2.1), .int .i64 (x460.2.2.1), .int .i64 (x460.2.2.2.1)] := F473
                          clear F465
                          refine wS_end (by rfl) ?_
                          refine eX_then ?_
                          refine cW_seq ?_
                          refine cW_drawnTail [] 48 (by kernel_rfl) (by kernel_rfl) (fun w545 hc546 => ?_)
                          replace F448 := F448.chg hc546 Dj.nil
                          replace F449 := F449.chg hc546 Dj.nil
                          replace F450 := F450.chg hc546 Dj.nil
                          replace F451 := F451.chg hc546 Dj.nil
                          replace F452 := F452.chg hc546 Dj.nil
                          replace F473 := F473.chg hc546 notNil
                          replace hB := hB.inS hc546 inNil
                          replace hZ := Nat.le_trans hZ hc546.size
                          have hS := Chg.refl [] w545
                          have Z547 := F448
                          have Z548 := F449
                          have Z549 := F450
                          have Z550 := F451
                          have Z551 := F452
                          have Z552 := F473
                          refine wH_take [0, 1] [1, 0] [(123, .int .i64 (x446)), (122, .slice A63 (y59.1).length cap64)] (by kernel_rfl) (qT (qT (qB (qT (qL (qB (qT (qT qZ)))))))) (by kernel_rfl) ?_
                          obtain ⟨x553, hx554, hm⟩ := bindE hm
                          refine wH_idx (i := 2) (d := 124) (T := 37) (A := A63) (n := (y59.1).length) (cap := cap64) (kd := .i64) (m := x446) (by kernel_rfl) (qT (qT (qB (qT (qL (qB (qT (qT qZ)))))))) (by kernel_rfl) (by kernel_rfl) sl37 ((F452.slr encI_ok).is hx554) ?_
                          obtain ⟨A555, cap556, hc558, F557, K559⟩ := OwR.row Z551 encI_ok hx554
                          have G561 := low_inr G67
                          have Dm562 := (F452.dj).symm
                          refine wH_load1 (i := 3) (d := 125) (T := 38) (ad := (elA A63 1 (x446) 0)) (v := .slice A555 (x553).length cap556) (by kernel_rfl) (qT (qT (qB (qT (qL (qB (qT (qT qZ)))))))) (by kernel_rfl) (by kernel_rfl) vt38 (fun W hW => hW.keep hc558) ?_
                          refine wH_take [4, 5, 6] [6, 5, 4, 3, 2, 1, 0] [(128, .bool ((((x553).length : Int)) != 2)), (127, .bool ((((x553).length : Int)) != 2)), (126, .int .i64 (((x553).length : Int)))] (by kernel_rfl) (qT (qT (qB (qT (qL (qB (qT (qT qZ)))))))) (by kernel_rfl) ?_
                          refine wH_bool ((((x553).length : Int)) != 2) (fun hb563 => ?_) (fun hb563 => ?_)
                          · have hm := condT hb563 hm
                            rewrite [hb563]
                            refine wH_take [7, 8, 9, 10, 11, 12, 13, 14, 15, 16, 17, 18, 19, 20, 21, 22, 23, 24, 25, 26, 27, 28, 29, 30, 31, 32, 33, 34, 35, 36, 37, 38, 39, 40, 41, 42, 43, 44, 45, 46, 47] [47, 46, 45, 44, 43, 42, 41, 40, 39, 38, 37, 36, 35, 34, 33, 32, 31, 30, 29, 28, 27, 26, 25, 24, 23, 22, 21, 20, 19, 18, 17, 16, 15, 14, 13, 12, 11, 10, 9, 8, 7, 6, 5, 4, 3, 2, 1, 0] [(169, undef), (168, undef), (167, undef), (166, undef), (165, undef), (164, undef), (163, undef), (162, undef), (161, .bool (true)), (160, .bool (true)), (159, undef), (158, undef), (157, undef), (156, undef), (155, undef), (154, undef), (153, undef), (152, undef), (151, undef), (150, .bool (true)), (149, .bool (true)), (148, undef), (147, undef), (146, undef), (145, undef), (144, undef), (143, undef), (142, undef), (141, undef), (140, undef), (139, .bool (true)), (138, .bool (true)), (137, undef), (136, undef), (135, undef), (134, undef), (133, undef), (132, undef), (131, undef), (130, undef), (129, undef)] (by kernel_rfl) (qT (qT (qB (qT (qL (qB (qT (qT qZ)))))))) (by kernel_rfl) ?_
                            refine wH_done (by kernel_rfl) ?_
                            refine eX_tail ?_
                            refine wS_pure 2 [(171, .bool (true)), (170, undef)] (by kernel_rfl) ?_
                            refine wS_end (by rfl) ?_
                            refine eX_then ?_
                            refine cW_prune [(1, .slice A1 (l1).length cap1), (6, .int .i64 (((y8).length : Int))), (7, .slice A23 (y19).length cap24), (8, .slice A35 (y31.1).length cap36), (10, .slice A49 (y45.1).length cap50), (12, .slice A63 (y59.1).length cap64), (16, .int .i64 (x446)), (171, .bool (true))] (by kernel_rfl) (by kernel_rfl) (fun a564 => ?_)
                            refine cW_cond_t (by kernel_rfl) ?_
                            refine cW_seq ?_
                            refine cW_region ?_
                            refine wS_pure 1 [(4, .bool (false))] (by kernel_rfl) ?_
                            refine wS_end (by rfl) ?_
                            refine eX_then ?_
                            refine cW_ret ?_
                            refine eX_block_ret ?_
                            refine eX_then_ret ?_
                            have hq : (some (Ctl.out (Sum.inr false)) : Option (Ctl (Int) (Sum (Unit) ((Bool))))) = some _ := hm
                            replace hq := someE hq
                            subst hq
                            refine eX_outR hx458 (fun hr => ?_)
                            subst hr
                            refine eX_block_ret ?_
                            refine eX_then_ret ?_
                            refine eX_then_ret ?_
                            have hq : (some false : Option ((Bool))) = some _ := hm455
                            replace hq := someE hq
                            subst hq
                            refine eX_ret (vs := [.bool (false)]) [.tmp 4] (by rfl) ⟨by (show lkE _ _ _ = _); kernel_rfl, trivial⟩ ?_
                            exact ⟨rfl, hB⟩
                          · have hm := condF hb563 hm
                            rewrite [hb563]
                            refine wH_take [7, 8] [8, 7, 6, 5, 4, 3, 2, 1, 0] [(130, .int .i64 (x446)), (129, .slice A63 (y59.1).length cap64)] (by kernel_rfl) (qT (qT (qB (qT (qL (qB (qT (qT qZ)))))))) (by kernel_rfl) ?_
                            obtain ⟨x565, hx566, hm⟩ := bindE hm
                            refine wH_idx (i := 9) (d := 131) (T := 37) (A := A63) (n := (y59.1).length) (cap := cap64) (kd := .i64) (m := x446) (by kernel_rfl) (qT (qT (qB (qT (qL (qB (qT (qT qZ)))))))) (by kernel_rfl) (by kernel_rfl) sl37 ((F452.slr encI_ok).is hx566) ?_
                            obtain ⟨A567, cap568, hc570, F569, K571⟩ := OwR.row Z551 encI_ok hx566
                            have G573 := low_inr G67
                            have Dm574 := (F452.dj).symm
                            refine wH_load1 (i := 10) (d := 132) (T := 38) (ad := (elA A63 1 (x446) 0)) (v := .slice A567 (x565).length cap568) (by kernel_rfl) (qT (qT (qB (qT (qL (qB (qT (qT qZ)))))))) (by kernel_rfl) (by kernel_rfl) vt38 (fun W hW => hW.keep hc570) ?_
                            obtain ⟨x575, hx576, hm⟩ := bindE hm
                            refine wH_idx (i := 11) (d := 133) (T := 38) (A := A567) (n := (x565).length) (cap := cap568) (kd := .i64) (m := 0) (by kernel_rfl) (qT (qT (qB (qT (qL (qB (qT (qT qZ)))))))) (by kernel_rfl) (by kernel_rfl) sl38 (F569.is hx576) ?_
                            refine wH_load1 (i := 12) (d := 134) (T := 2) (ad := (elA A567 1 (0) 0)) (v := .int .i64 (x575)) (by kernel_rfl) (qT (qT (qB (qT (qL (qB (qT (qT qZ)))))))) (by kernel_rfl) (by kernel_rfl) vt2 (fun W hW => Sl.cell (F569.chg hW Dj.nil) hx576 0 (by rfl)) ?_
                            refine wH_take [13] [13, 12, 11, 10, 9, 8, 7, 6, 5, 4, 3, 2, 1, 0] [(135, .pointer (some ⟨b462, 0, none⟩))] (by kernel_rfl) (qT (qT (qB (qT (qL (qB (qT (qT qZ)))))))) (by kernel_rfl) ?_
                            refine wH_load1 (i := 14) (d := 136) (T := 2) (ad := ⟨b462, 0, none⟩) (v := .int .i64 (x460.1)) (by kernel_rfl) (qT (qT (qB (qT (qL (qB (qT (qT qZ)))))))) (by kernel_rfl) (by kernel_rfl) vt2 (fun W hW => (Z552.chg hW notNil).cell 0) ?_
                            refine wH_take [15, 16, 17] [17, 16, 15, 14, 13, 12, 11, 10, 9, 8, 7, 6, 5, 4, 3, 2, 1, 0] [(139, .bool (decide (x575 < x460.1))), (138, .bool (decide (x575 < x460.1))), (137, .bool (decide (x575 < x460.1)))] (by kernel_rfl) (qT (qT (qB (qT (qL (qB (qT (qT qZ)))))))) (by kernel_rfl) ?_
                            refine wH_bool (decide (x575 < x460.1)) (fun hb577 => ?_) (fun hb577 => ?_)
                            · have hm := condT hb577 hm
                              rewrite [hb577]
                              refine wH_take [18, 19, 20, 21, 22, 23, 24, 25, 26, 27, 28, 29, 30, 31, 32, 33, 34, 35, 36, 37, 38, 39, 40, 41, 42, 43, 44, 45, 46, 47] [47, 46, 45, 44, 43, 42, 41, 40, 39, 38, 37, 36, 35, 34, 33, 32, 31, 30, 29, 28, 27, 26, 25, 24, 23, 22, 21, 20, 19, 18, 17, 16, 15, 14, 13, 12, 11, 10, 9, 8, 7, 6, 5, 4, 3, 2, 1, 0] [(169, undef), (168, undef), (167, undef), (166, undef), (165, undef), (164, undef), (163, undef), (162, undef), (161, .bool (true)), (160, .bool (true)), (159, undef), (158, undef), (157, undef), (156, undef), (155, undef), (154, undef), (153, undef), (152, undef), (151, undef), (150, .bool (true)), (149, .bool (true)), (148, undef), (147, undef), (146, undef), (145, undef), (144, undef), (143, undef), (142, undef), (141, undef), (140, undef)] (by kernel_rfl) (qT (qT (qB (qT (qL (qB (qT (qT qZ)))))))) (by kernel_rfl) ?_
                              refine wH_done (by kernel_rfl) ?_
                              refine eX_tail ?_
                              refine wS_pure 2 [(171, .bool (true)), (170, undef)] (by kernel_rfl) ?_
                              refine wS_end (by rfl) ?_
                              refine eX_then ?_
                              refine cW_prune [(1, .slice A1 (l1).length cap1), (6, .int .i64 (((y8).length : Int))), (7, .slice A23 (y19).length cap24), (8, .slice A35 (y31.1).length cap36), (10, .slice A49 (y45.1).length cap50), (12, .slice A63 (y59.1).length cap64), (16, .int .i64 (x446)), (171, .bool (true))] (by kernel_rfl) (by kernel_rfl) (fun a578 => ?_)
                              refine cW_cond_t (by kernel_rfl) ?_
                              refine cW_seq ?_
                              refine cW_region ?_
                              refine wS_pure 1 [(4, .bool (false))] (by kernel_rfl) ?_
                              refine wS_end (by rfl) ?_
                              refine eX_then ?_
                              refine cW_ret ?_
                              refine eX_block_ret ?_
                              refine eX_then_ret ?_
                              have hq : (some (Ctl.out (Sum.inr false)) : Option (Ctl (Int) (Sum (Unit) ((Bool))))) = some _ := hm
                              replace hq := someE hq
                              subst hq
                              refine eX_outR hx458 (fun hr => ?_)
                              subst hr
                              refine eX_block_ret ?_
                              refine eX_then_ret ?_
                              refine eX_then_ret ?_
                              have hq : (some false : Option ((Bool))) = some _ := hm455
                              replace hq := someE hq
                              subst hq
                              refine eX_ret (vs := [.bool (false)]) [.tmp 4] (by rfl) ⟨by (show lkE _ _ _ = _); kernel_rfl, trivial⟩ ?_
                              exact ⟨rfl, hB⟩
                            · have hm := condF hb577 hm
                              rewrite [hb577]
                              refine wH_take [18, 19] [19, 18, 17, 16, 15, 14, 13, 12, 11, 10, 9, 8, 7, 6, 5, 4, 3, 2, 1, 0] [(141, .int .i64 (x446)), (140, .slice A63 (y59.1).length cap64)] (by kernel_rfl) (qT (qT (qB (qT (qL (qB (qT (qT qZ)))))))) (by kernel_rfl) ?_
                              obtain ⟨x579, hx580, hm⟩ := bindE hm
                              refine wH_idx (i := 20) (d := 142) (T := 37) (A := A63) (n := (y59.1).length) (cap := cap64) (kd := .i64) (m := x446) (by kernel_rfl) (qT (qT (qB (qT (qL (qB (qT (qT qZ)))))))) (by kernel_rfl) (by kernel_rfl) sl37 ((F452.slr encI_ok).is hx580) ?_
                              obtain ⟨A581, cap582, hc584, F583, K585⟩ := OwR.row Z551 encI_ok hx580
                              have G587 := low_inr G67
                              have Dm588 := (F452.dj).symm
                              refine wH_load1 (i := 21) (d := 143) (T := 38) (ad := (elA A63 1 (x446) 0)) (v := .slice A581 (x579).length cap582) (by kernel_rfl) (qT (qT (qB (qT (qL (qB (qT (qT qZ)))))))) (by kernel_rfl) (by kernel_rfl) vt38 (fun W hW => hW.keep hc584) ?_
                              obtain ⟨x589, hx590, hm⟩ := bindE hm
                              refine wH_idx (i := 22) (d := 144) (T := 38) (A := A581) (n := (x579).length) (cap := cap582) (kd := .i64) (m := 0) (by kernel_rfl) (qT (qT (qB (qT (qL (qB (qT (qT qZ)))))))) (by kernel_rfl) (by kernel_rfl) sl38 (F583.is hx590) ?_
                              refine wH_load1 (i := 23) (d := 145) (T := 2) (ad := (elA A581 1 (0) 0)) (v := .int .i64 (x589)) (by kernel_rfl) (qT (qT (qB (qT (qL (qB (qT (qT qZ)))))))) (by kernel_rfl) (by kernel_rfl) vt2 (fun W hW => Sl.cell (F583.chg hW Dj.nil) hx590 0 (by rfl)) ?_
                              refine wH_take [24] [24, 23, 22, 21, 20, 19, 18, 17, 16, 15, 14, 13, 12, 11, 10, 9, 8, 7, 6, 5, 4, 3, 2, 1, 0] [(146, .pointer (some ⟨b462, 1, none⟩))] (by kernel_rfl) (qT (qT (qB (qT (qL (qB (qT (qT qZ)))))))) (by kernel_rfl) ?_
                              refine wH_load1 (i := 25) (d := 147) (T := 2) (ad := ⟨b462, 1, none⟩) (v := .int .i64 (x460.2.1)) (by kernel_rfl) (qT (qT (qB (qT (qL (qB (qT (qT qZ)))))))) (by kernel_rfl) (by kernel_rfl) vt2 (fun W hW => (Z552.chg hW notNil).cell 1) ?_
                              refine wH_take [26, 27, 28] [28, 27, 26, 25, 24, 23, 22, 21, 20, 19, 18, 17, 16, 15, 14, 13, 12, 11, 10, 9, 8, 7, 6, 5, 4, 3, 2, 1, 0] [(150, .bool (decide (x589 > x460.2.1))), (149, .bool (decide (x589 > x460.2.1))), (148, .bool (decide (x589 > x460.2.1)))] (by kernel_rfl) (qT (qT (qB (qT (qL (qB (qT (qT qZ)))))))) (by kernel_rfl) ?_
                              refine wH_bool (decide (x589 > x460.2.1)) (fun hb591 => ?_) (fun hb591 => ?_)
                              · have hm := condT hb591 hm
                                rewrite [hb591]
                                refine wH_take [29, 30, 31, 32, 33, 34, 35, 36, 37, 38, 39, 40, 41, 42, 43, 44, 45, 46, 47] [47, 46, 45, 44, 43, 42, 41, 40, 39, 38, 37, 36, 35, 34, 33, 32, 31, 30, 29, 28, 27, 26, 25, 24, 23, 22, 21, 20, 19, 18, 17, 16, 15, 14, 13, 12, 11, 10, 9, 8, 7, 6, 5, 4, 3, 2, 1, 0] [(169, undef), (168, undef), (167, undef), (166, undef), (165, undef), (164, undef), (163, undef), (162, undef), (161, .bool (true)), (160, .bool (true)), (159, undef), (158, undef), (157, undef), (156, undef), (155, undef), (154, undef), (153, undef), (152, undef), (151, undef)] (by kernel_rfl) (qT (qT (qB (qT (qL (qB (qT (qT qZ)))))))) (by kernel_rfl) ?_
                                refine wH_done (by kernel_rfl) ?_
                                refine eX_tail ?_
                                refine wS_pure 2 [(171, .bool (true)), (170, undef)] (by kernel_rfl) ?_
                                refine wS_end (by rfl) ?_
                                refine eX_then ?_
                                refine cW_prune [(1, .slice A1 (l1).length cap1), (6, .int .i64 (((y8).length : Int))), (7, .slice A23 (y19).length cap24), (8, .slice A35 (y31.1).length cap36), (10, .slice A49 (y45.1).length cap50), (12, .slice A63 (y59.1).length cap64), (16, .int .i64 (x446)), (171, .bool (true))] (by kernel_rfl) (by kernel_rfl) (fun a592 => ?_)
                                refine cW_cond_t (by kernel_rfl) ?_
                                refine cW_seq ?_
                                refine cW_region ?_
                                refine wS_pure 1 [(4, .bool (false))] (by kernel_rfl) ?_
                                refine wS_end (by rfl) ?_
                                refine eX_then ?_
                                refine cW_ret ?_
                                refine eX_block_ret ?_
                                refine eX_then_ret ?_
                                have hq : (some (Ctl.out (Sum.inr false)) : Option (Ctl (Int) (Sum (Unit) ((Bool))))) = some _ := hm
                                replace hq := someE hq
                                subst hq
                                refine eX_outR hx458 (fun hr => ?_)
                                subst hr
                                refine eX_block_ret ?_
                                refine eX_then_ret ?_
                                refine eX_then_ret ?_
                                have hq : (some false : Option ((Bool))) = some _ := hm455
                                replace hq := someE hq
                                subst hq
                                refine eX_ret (vs := [.bool (false)]) [.tmp 4] (by rfl) ⟨by (show lkE _ _ _ = _); kernel_rfl, trivial⟩ ?_
                                exact ⟨rfl, hB⟩
                              · have hm := condF hb591 hm
                                rewrite [hb591]
                                refine wH_take [29, 30] [30, 29, 28, 27, 26, 25, 24, 23, 22, 21, 20, 19, 18, 17, 16, 15, 14, 13, 12, 11, 10, 9, 8, 7, 6, 5, 4, 3, 2, 1, 0] [(152, .int .i64 (x446)), (151, .slice A63 (y59.1).length cap64)] (by kernel_rfl) (qT (qT (qB (qT (qL (qB (qT (qT qZ)))))))) (by kernel_rfl) ?_
                                obtain ⟨x593, hx594, hm⟩ := bindE hm
                                refine wH_idx (i := 31) (d := 153) (T := 37) (A := A63) (n := (y59.1).length) (cap := cap64) (kd := .i64) (m := x446) (by kernel_rfl) (qT (qT (qB (qT (qL (qB (qT (qT qZ)))))))) (by kernel_rfl) (by kernel_rfl) sl37 ((F452.slr encI_ok).is hx594) ?_
                                obtain ⟨A595, cap596, hc598, F597, K599⟩ := OwR.row Z551 encI_ok hx594
                                have G601 := low_inr G67
                                have Dm602 := (F452.dj).symm
                                refine wH_load1 (i := 32) (d := 154) (T := 38) (ad := (elA A63 1 (x446) 0)) (v := .slice A595 (x593).length cap596) (by kernel_rfl) (qT (qT (qB (qT (qL (qB (qT (qT qZ)))))))) (by kernel_rfl) (by kernel_rfl) vt38 (fun W hW => hW.keep hc598) ?_
                                obtain ⟨x603, hx604, hm⟩ := bindE hm
                                refine wH_idx (i := 33) (d := 155) (T := 38) (A := A595) (n := (x593).length) (cap := cap596) (kd := .i64) (m := 1) (by kernel_rfl) (qT (qT (qB (qT (qL (qB (qT (qT qZ)))))))) (by kernel_rfl) (by kernel_rfl) sl38 (F597.is hx604) ?_
                                refine wH_load1 (i := 34) (d := 156) (T := 2) (ad := (elA A595 1 (1) 0)) (v := .int .i64 (x603)) (by kernel_rfl) (qT (qT (qB (qT (qL (qB (qT (qT qZ)))))))) (by kernel_rfl) (by kernel_rfl) vt2 (fun W hW => Sl.cell (F597.chg hW Dj.nil) hx604 0 (by rfl)) ?_
                                refine wH_take [35] [35, 34, 33, 32, 31, 30, 29, 28, 27, 26, 25, 24, 23, 22, 21, 20, 19, 18, 17, 16, 15, 14, 13, 12, 11, 10, 9, 8, 7, 6, 5, 4, 3, 2, 1, 0] [(157, .pointer (some ⟨b462, 2, none⟩))] (by kernel_rfl) (qT (qT (qB (qT (qL (qB (qT (qT qZ)))))))) (by kernel_rfl) ?_
                                refine wH_load1 (i := 36) (d := 158) (T := 2) (ad := ⟨b462, 2, none⟩) (v := .int .i64 (x460.2.2.1)) (by kernel_rfl) (qT (qT (qB (qT (qL (qB (qT (qT qZ)))))))) (by kernel_rfl) (by kernel_rfl) vt2 (fun W hW => (Z552.chg hW notNil).cell 2) ?_
                                refine wH_take [37, 38, 39] [39, 38, 37, 36, 35, 34, 33, 32, 31, 30, 29, 28, 27, 26, 25, 24, 23, 22, 21, 20, 19, 18, 17, 16, 15, 14, 13, 12, 11, 10, 9, 8, 7, 6, 5, 4, 3, 2, 1, 0] [(161, .bool (decide (x603 < x460.2.2.1))), (160, .bool (decide (x603 < x460.2.2.1))), (159, .bool (decide (x603 < x460.2.2.1)))] (by kernel_rfl) (qT (qT (qB (qT (qL (qB (qT (qT qZ)))))))) (by kernel_rfl) ?_
                                refine wH_bool (decide (x603 < x460.2.2.1)) (fun hb605 => ?_) (fun hb605 => ?_)
                                · have hm := condT hb605 hm
                                  rewrite [hb605]
                                  refine wH_take [40, 41, 42, 43, 44, 45, 46, 47] [47, 46, 45, 44, 43, 42, 41, 40, 39, 38, 37, 36, 35, 34, 33, 32, 31, 30, 29, 28, 27, 26, 25, 24, 23, 22, 21, 20, 19, 18, 17, 16, 15, 14, 13, 12, 11, 10, 9, 8, 7, 6, 5, 4, 3, 2, 1, 0] [(169, undef), (168, undef), (167, undef), (166, undef), (165, undef), (164, undef), (163, undef), (162, undef)] (by kernel_rfl) (qT (qT (qB (qT (qL (qB (qT (qT qZ)))))))) (by kernel_rfl) ?_
                                  refine wH_done (by kernel_rfl) ?_
                                  refine eX_tail ?_
                                  refine wS_pure 2 [(171, .bool (true)), (170, undef)] (by kernel_rfl) ?_
                                  refine wS_end (by rfl) ?_
                                  refine eX_then ?_
                                  refine cW_prune [(1, .slice A1 (l1).length cap1), (6, .int .i64 (((y8).length : Int))), (7, .slice A23 (y19).length cap24), (8, .slice A35 (y31.1).length cap36), (10, .slice A49 (y45.1).length cap50), (12, .slice A63 (y59.1).length cap64), (16, .int .i64 (x446)), (171, .bool (true))] (by kernel_rfl) (by kernel_rfl) (fun a606 => ?_)
                                  refine cW_cond_t (by kernel_rfl) ?_
                                  refine cW_seq ?_
                                  refine cW_region ?_
                                  refine wS_pure 1 [(4, .bool (false))] (by kernel_rfl) ?_
                                  refine wS_end (by rfl) ?_
                                  refine eX_then ?_
                                  refine cW_ret ?_
                                  refine eX_block_ret ?_
                                  refine eX_then_ret ?_
                                  have hq : (some (Ctl.out (Sum.inr false)) : Option (Ctl (Int) (Sum (Unit) ((Bool))))) = some _ := hm
                                  replace hq := someE hq
                                  subst hq
                                  refine eX_outR hx458 (fun hr => ?_)
                                  subst hr
                                  refine eX_block_ret ?_
                                  refine eX_then_ret ?_
                                  refine eX_then_ret ?_
                                  have hq : (some false : Option ((Bool))) = some _ := hm455
                                  replace hq := someE hq
                                  subst hq
                                  refine eX_ret (vs := [.bool (false)]) [.tmp 4] (by rfl) ⟨by (show lkE _ _ _ = _); kernel_rfl, trivial⟩ ?_
                                  exact ⟨rfl, hB⟩
                                · have hm := condF hb605 hm
                                  rewrite [hb605]
                                  refine wH_take [40, 41] [41, 40, 39, 38, 37, 36, 35, 34, 33, 32, 31, 30, 29, 28, 27, 26, 25, 24, 23, 22, 21, 20, 19, 18, 17, 16, 15, 14, 13, 12, 11, 10, 9, 8, 7, 6, 5, 4, 3, 2, 1, 0] [(163, .int .i64 (x446)), (162, .slice A63 (y59.1).length cap64)] (by kernel_rfl) (qT (qT (qB (qT (qL (qB (qT (qT qZ)))))))) (by kernel_rfl) ?_
                                  obtain ⟨x607, hx608, hm⟩ := bindE hm
                                  refine wH_idx (i := 42) (d := 164) (T := 37) (A := A63) (n := (y59.1).length) (cap := cap64) (kd := .i64) (m := x446) (by kernel_rfl) (qT (qT (qB (qT (qL (qB (qT (qT qZ)))))))) (by kernel_rfl) (by kernel_rfl) sl37 ((F452.slr encI_ok).is hx608) ?_
                                  obtain ⟨A609, cap610, hc612, F611, K613⟩ := OwR.row Z551 encI_ok hx608
                                  have G615 := low_inr G67
                                  have Dm616 := (F452.dj).symm
                                  refine wH_load1 (i := 43) (d := 165) (T := 38) (ad := (elA A63 1 (x446) 0)) (v := .slice A609 (x607).length cap610) (by kernel_rfl) (qT (qT (qB (qT (qL (qB (qT (qT qZ)))))))) (by kernel_rfl) (by kernel_rfl) vt38 (fun W hW => hW.keep hc612) ?_
                                  obtain ⟨x617, hx618, hm⟩ := bindE hm
                                  refine wH_idx (i := 44) (d := 166) (T := 38) (A := A609) (n := (x607).length) (cap := cap610) (kd := .i64) (m := 1) (by kernel_rfl) (qT (qT (qB (qT (qL (qB (qT (qT qZ)))))))) (by kernel_rfl) (by kernel_rfl) sl38 (F611.is hx618) ?_
                                  refine wH_load1 (i := 45) (d := 167) (T := 2) (ad := (elA A609 1 (1) 0)) (v := .int .i64 (x617)) (by kernel_rfl) (qT (qT (qB (qT (qL (qB (qT (qT qZ)))))))) (by kernel_rfl) (by kernel_rfl) vt2 (fun W hW => Sl.cell (F611.chg hW Dj.nil) hx618 0 (by rfl)) ?_
                                  refine wH_take [46] [46, 45, 44, 43, 42, 41, 40, 39, 38, 37, 36, 35, 34, 33, 32, 31, 30, 29, 28, 27, 26, 25, 24, 23, 22, 21, 20, 19, 18, 17, 16, 15, 14, 13, 12, 11, 10, 9, 8, 7, 6, 5, 4, 3, 2, 1, 0] [(168, .pointer (some ⟨b462, 3, none⟩))] (by kernel_rfl) (qT (qT (qB (qT (qL (qB (qT (qT qZ)))))))) (by kernel_rfl) ?_
                                  refine wH_load1 (i := 47) (d := 169) (T := 2) (ad := ⟨b462, 3, none⟩) (v := .int .i64 (x460.2.2.2.1)) (by kernel_rfl) (qT (qT (qB (qT (qL (qB (qT (qT qZ)))))))) (by kernel_rfl) (by kernel_rfl) vt2 (fun W hW => (Z552.chg hW notNil).cell 3) ?_
                                  refine wH_done (by kernel_rfl) ?_
                                  refine eX_tail ?_
                                  refine wS_pure 2 [(171, .bool (decide (x617 > x460.2.2.2.1))), (170, .bool (decide (x617 > x460.2.2.2.1)))] (by kernel_rfl) ?_
                                  refine wS_end (by rfl) ?_
                                  refine eX_then ?_
                                  refine cW_prune [(1, .slice A1 (l1).length cap1), (6, .int .i64 (((y8).length : Int))), (7, .slice A23 (y19).length cap24), (8, .slice A35 (y31.1).length cap36), (10, .slice A49 (y45.1).length cap50), (12, .slice A63 (y59.1).length cap64), (16, .int .i64 (x446)), (171, .bool (decide (x617 > x460.2.2.2.1)))] (by kernel_rfl) (by kernel_rfl) (fun a619 => ?_)
                                  refine cW_cond (t := decide (x617 > x460.2.2.2.1)) (by kernel_rfl) (fun hb620 => ?_) (fun hb620 => ?_)
                                  · have hm := condT hb620 hm
                                    refine cW_seq ?_
                                    refine cW_region ?_
                                    refine wS_pure 1 [(4, .bool (false))] (by kernel_rfl) ?_
                                    refine wS_end (by rfl) ?_
                                    refine eX_then ?_
                                    refine cW_ret ?_
                                    refine eX_block_ret ?_
                                    refine eX_then_ret ?_
                                    have hq : (some (Ctl.out (Sum.inr false)) : Option (Ctl (Int) (Sum (Unit) ((Bool))))) = some _ := hm
                                    replace hq := someE hq
                                    subst hq
                                    refine eX_outR hx458 (fun hr => ?_)
                                    subst hr
                                    refine eX_block_ret ?_
                                    refine eX_then_ret ?_
                                    refine eX_then_ret ?_
                                    have hq : (some false : Option ((Bool))) = some _ := hm455
                                    replace hq := someE hq
                                    subst hq
                                    refine eX_ret (vs := [.bool (false)]) [.tmp 4] (by rfl) ⟨by (show lkE _ _ _ = _); kernel_rfl, trivial⟩ ?_
                                    exact ⟨rfl, hB⟩
                                  · have hm := condF hb620 hm
                                    refine cW_skip ?_
                                    refine eX_block ?_
                                    refine eX_then ?_
                                    refine cW_region ?_
                                    refine wS_pure 3 [(16, .int .i64 (wr (x446 + 1))), (116, .int .i64 (wr (x446 + 1))), (115, .int .i64 (x446))] (by kernel_rfl) ?_
                                    refine wS_end (by rfl) ?_
                                    have hq : (some (Ctl.next (wr (x446 + 1))) : Option (Ctl (Int) (Sum (Unit) ((Bool))))) = some _ := hm
                                    replace hq := someE hq
                                    subst hq
                                    exact eX_next hx458 (fun hst => ⟨wr (x446 + 1), rfl, Fr.of hst (by kernel_rfl), F448, F449, F450, F451, F452, hB, hZ⟩)
                        · have hm := condF hb459 hm
                          refine cW_exit ?_
                          refine eX_then_exit ?_
                          have hq : (some (Ctl.out (Sum.inl (()))) : Option (Ctl (Int) (Sum (Unit) ((Bool))))) = some _ := hm
                          replace hq := someE hq
                          subst hq
                          refine eX_outX hx458 (fun hr621 => ?_)
                          replace hr621 := hr621.symm
                          subst hr621
                          refine eX_block_hit ?_
                          exact eX_J (fun hst => ⟨rfl, Fr.of hst (by kernel_rfl), F448, F449, F450, F451, F452, hB, hZ⟩)
                      · rintro a' w438 ⟨hJ, hF439, F440, F441, F442, F443, F444, hB, hZ⟩
                        subst hJ
                        refine Fr.goX hF439 (by kernel_rfl) ?_
                        refine eX_then ?_
                        refine cW_seq ?_
                        refine cW_seq ?_
                        refine cW_region ?_
                        refine wS_pure 1 [(18, .int .i64 (0))] (by kernel_rfl) ?_
                        refine wS_end (by rfl) ?_
                        refine eX_then ?_
                        obtain ⟨r2488, hr2489, hm⟩ := bindE hm
                        have hm2490 := hm
                        refine cW_cut (fun a' w' => Sum.inl (()) = r2488 ∧ Fr 267 [(1, .slice A1 (l1).length cap1), (6, .int .i64 (((y8).length : Int))), (7, .slice A23 (y19).length cap24), (10, .slice A49 (y45.1).length cap50)] a' ∧ Sl 1 encU w' fp1 A1 l1 ∧ OwR 1 encI 38 2 w' fp25 fr28 A23 cap24 y19 ∧ Ow 1 encI 2 w' fp51 A49 cap50 y45.1 ∧ Chg [] w0 w' ∧ w0.heap.size ≤ w'.heap.size) ?_ ?_
                        · refine cW_block ?_
                          refine cW_loop _ (fun (s2491 : Int) a' w' => ∃ x2481 : Int, x2481 = s2491 ∧ Fr 267 [(1, .slice A1 (l1).length cap1), (6, .int .i64 (((y8).length : Int))), (7, .slice A23 (y19).length cap24), (8, .slice A35 (y31.1).length cap36), (10, .slice A49 (y45.1).length cap50), (12, .slice A63 (y59.1).length cap64), (18, .int .i64 (x2481))] a' ∧ Sl 1 encU w' fp1 A1 l1 ∧ OwR 1 encI 38 2 w' fp25 fr28 A23 cap24 y19 ∧ Ow 5 encIIIII 27 w' fp37 A35 cap36 y31.1 ∧ Ow 1 encI 2 w' fp51 A49 cap50 y45.1 ∧ OwR 1 encI 38 2 w' fp65 fr68 A63 cap64 y59.1 ∧ Chg [] w0 w' ∧ w0.heap.size ≤ w'.heap.size) hr2489 (fun hst => ⟨0, rfl, Fr.of hst (by kernel_rfl), F440, F441, F442, F443, F444, hB, hZ⟩) ?_
                          rintro _ c2492 a' w2480 ⟨x2481, rfl, hF2482, F2483, F2484, F2485, F2486, F2487, hB, hZ⟩ hx2493
                          refine Fr.goOn hF2482 (by kernel_rfl) ?_
                          have hm := hx2493
                          unfold m_laws_FnClocks_s10 at hm
                          refine cW_seq ?_
                          refine cW_seq ?_
                          refine cW_region ?_
                          refine wS_pure 4 [(175, .bool (decide (x2481 < (wr ((((y8).length : Int)) - 1))))), (174, .int .i64 (wr ((((y8).length : Int)) - 1))), (173, .int .i64 (((y8).length : Int))), (172, .int .i64 (x2481))] (by kernel_rfl) ?_
                          refine wS_end (by rfl) ?_
                          refine eX_then ?_
                          refine cW_cond (t := decide (x2481 < (wr ((((y8).length : Int)) - 1)))) (by kernel_rfl) (fun hb2494 => ?_) (fun hb2494 => ?_)
                          · have hm := condT hb2494 hm
                            refine cW_skip ?_
                            refine eX_then ?_
                            refine cW_seq ?_
                            refine cW_block ?_
                            refine cW_seq ?_
                            refine cW_region ?_
                            refine wS_pure 1 [(19, .int .i64 (0))] (by kernel_rfl) ?_
                            refine wS_end (by rfl) ?_
                            refine eX_then ?_
                            obtain ⟨r3111, hr3112, hm⟩ := bindE hm
                            have hm3113 := hm
                            refine cW_cut (fun a' w' => Sum.inl (()) = r3111 ∧ Fr 267 [(1, .slice A1 (l1).length cap1), (6, .int .i64 (((y8).length : Int))), (7, .slice A23 (y19).length cap24), (8, .slice A35 (y31.1).length cap36), (10, .slice A49 (y45.1).length cap50), (12, .slice A63 (y59.1).length cap64), (18, .int .i64 (x2481))] a' ∧ Sl 1 encU w' fp1 A1 l1 ∧ OwR 1 encI 38 2 w' fp25 fr28 A23 cap24 y19 ∧ Ow 5 encIIIII 27 w' fp37 A35 cap36 y31.1 ∧ Ow 1 encI 2 w' fp51 A49 cap50 y45.1 ∧ OwR 1 encI 38 2 w' fp65 fr68 A63 cap64 y59.1 ∧ Chg [] w0 w' ∧ w0.heap.size ≤ w'.heap.size) ?_ ?_
                            · refine cW_block ?_
                              refine cW_loop _ (fun (s3114 : Int) a' w' => ∃ x3104 : Int, x3104 = s3114 ∧ Fr 267 [(1, .slice A1 (l1).length cap1), (6, .int .i64 (((y8).length : Int))), (7, .slice A23 (y19).length cap24), (8, .slice A35 (y31.1).length cap36), (10, .slice A49 (y45.1).length cap50), (12, .slice A63 (y59.1).length cap64), (18, .int .i64 (x2481)), (19, .int .i64 (x3104))] a' ∧ Sl 1 encU w' fp1 A1 l1 ∧ OwR 1 encI 38 2 w' fp25 fr28 A23 cap24 y19 ∧ Ow 5 encIIIII 27 w' fp37 A35 cap36 y31.1 ∧ Ow 1 encI 2 w' fp51 A49 cap50 y45.1 ∧ OwR 1 encI 38 2 w' fp65 fr68 A63 cap64 y59.1 ∧ Chg [] w0 w' ∧ w0.heap.size ≤ w'.heap.size) hr3112 (fun hst => ⟨0, rfl, Fr.of hst (by kernel_rfl), F2483, F2484, F2485, F2486, F2487, hB, hZ⟩) ?_
                              rintro _ c3115 a' w3103 ⟨x3104, rfl, hF3105, F3106, F3107, F3108, F3109, F3110, hB, hZ⟩ hx3116
                              refine Fr.goOn hF3105 (by kernel_rfl) ?_
                              have hm := hx3116
                              unfold m_laws_FnClocks_s13 at hm
                              refine cW_seq ?_
                              refine cW_seq ?_
                              refine cW_region ?_
                              refine wS_pure 2 [(179, .bool (decide (x3104 < 2))), (178, .int .i64 (x3104))] (by kernel_rfl) ?_
                              refine wS_end (by rfl) ?_
                              refine eX_then ?_
                              refine cW_cond (t := decide (x3104 < 2)) (by kernel_rfl) (fun hb3117 => ?_) (fun hb3117 => ?_)
                              · have hm := condT hb3117 hm
                                refine cW_skip ?_
                                refine eX_then ?_
                                refine cW_seq ?_
                                refine cW_block ?_
                                refine cW_seq ?_
                                refine cW_region ?_
                                refine wS_pure 2 [(183, .int .i64 (x2481)), (182, .slice A23 (y19).length cap24)] (by kernel_rfl) ?_
                                obtain ⟨x3118, hx3119, hm⟩ := bindE hm
                                refine wS_idx (d := 184) (T := 37) (A := A23) (n := (y19).length) (cap := cap24) (kd := .i64) (m := x2481) (by kernel_rfl) sl37 ((F3107.slr encI_ok).is hx3119) ?_
                                obtain ⟨A3120, cap3121, hc3123, F3122, K3124⟩ := OwR.row F3107 encI_ok hx3119
                                have G3126 := low_inr G27
                                have Dm3127 := (F3107.dj).symm
                                refine wS_load1 (d := 185) (T := 38) (ad := (elA A23 1 (x2481) 0)) (v := .slice A3120 (x3118).length cap3121) (by kernel_rfl) vt38 hc3123 ?_
                                refine wS_pure 1 [(186, .int .i64 (x3104))] (by kernel_rfl) ?_
                                obtain ⟨x3128, hx3129, hm⟩ := bindE hm
                                refine wS_idx (d := 187) (T := 38) (A := A3120) (n := (x3118).length) (cap := cap3121) (kd := .i64) (m := x3104) (by kernel_rfl) sl38 (F3122.is hx3129) ?_
                                refine wS_load1 (d := 188) (T := 2) (ad := (elA A3120 1 (x3104) 0)) (v := .int .i64 (x3128)) (by kernel_rfl) vt2 (Sl.cell F3122 hx3129 0 (by rfl)) ?_
                                refine wS_pure 1 [(20, .int .i64 (x3128))] (by kernel_rfl) ?_
                                refine wS_end (by rfl) ?_
                                refine eX_then ?_
                                refine cW_seq ?_
                                refine cW_seq ?_
                                refine cW_region ?_
                                refine wS_pure 1 [(21, .int .i64 (0))] (by kernel_rfl) ?_
                                refine wS_end (by rfl) ?_
                                refine eX_then ?_
                                obtain ⟨r3302, hr3303, hm⟩ := bindE hm
                                have hm3304 := hm
                                refine cW_cut (fun a' w' => Sum.inl (()) = r3302 ∧ Fr 267 [(1, .slice A1 (l1).length cap1), (6, .int .i64 (((y8).length : Int))), (7, .slice A23 (y19).length cap24), (8, .slice A35 (y31.1).length cap36), (10, .slice A49 (y45.1).length cap50), (12, .slice A63 (y59.1).length cap64), (18, .int .i64 (x2481)), (19, .int .i64 (x3104)), (20, .int .i64 (x3128))] a' ∧ Sl 1 encU w' fp1 A1 l1 ∧ OwR 1 encI 38 2 w' fp25 fr28 A23 cap24 y19 ∧ Ow 5 encIIIII 27 w' fp37 A35 cap36 y31.1 ∧ Ow 1 encI 2 w' fp51 A49 cap50 y45.1 ∧ OwR 1 encI 38 2 w' fp65 fr68 A63 cap64 y59.1 ∧ Chg [] w0 w' ∧ w0.heap.size ≤ w'.heap.size) ?_ ?_
                                · refine cW_block ?_
                                  refine cW_loop _ (fun (s3305 : Int) a' w' => ∃ x3295 : Int, x3295 = s3305 ∧ Fr 267 [(1, .slice A1 (l1).length cap1), (6, .int .i64 (((y8).length : Int))), (7, .slice A23 (y19).length cap24), (8, .slice A35 (y31.1).length cap36), (10, .slice A49 (y45.1).length cap50), (12, .slice A63 (y59.1).length cap64), (18, .int .i64 (x2481)), (19, .int .i64 (x3104)), (20, .int .i64 (x3128)), (21, .int .i64 (x3295))] a' ∧ Sl 1 encU w' fp1 A1 l1 ∧ OwR 1 encI 38 2 w' fp25 fr28 A23 cap24 y19 ∧ Ow 5 encIIIII 27 w' fp37 A35 cap36 y31.1 ∧ Ow 1 encI 2 w' fp51 A49 cap50 y45.1 ∧ OwR 1 encI 38 2 w' fp65 fr68 A63 cap64 y59.1 ∧ Chg [] w0 w' ∧ w0.heap.size ≤ w'.heap.size) hr3303 (fun hst => ⟨0, rfl, Fr.of hst (by kernel_rfl), F3106, F3107, F3108, F3109, F3110, hB, hZ⟩) ?_
                                  rintro _ c3306 a' w3294 ⟨x3295, rfl, hF3296, F3297, F3298, F3299, F3300, F3301, hB, hZ⟩ hx3307
                                  refine Fr.goOn hF3296 (by kernel_rfl) ?_
                                  have hm := hx3307
                                  unfold m_laws_FnClocks_s14 at hm
                                  refine cW_seq ?_
                                  refine cW_seq ?_
                                  refine cW_region ?_
                                  refine wS_pure 2 [(190, .bool (decide (x3295 < 2))), (189, .int .i64 (x3295))] (by kernel_rfl) ?_
                                  refine wS_end (by rfl) ?_
                                  refine eX_then ?_
                                  refine cW_cond (t := decide (x3295 < 2)) (by kernel_rfl) (fun hb3308 => ?_) (fun hb3308 => ?_)
                                  · have hm := condT hb3308 hm
                                    refine cW_skip ?_
                                    refine eX_then ?_
                                    refine cW_seq ?_
                                    refine cW_block ?_
                                    refine cW_seq ?_
                                    refine cW_drawnTail [] 16 (by kernel_rfl) (by kernel_rfl) (fun w3340 hc3341 => ?_)
                                    replace F3297 := F3297.chg hc3341 Dj.nil
                                    replace F3298 := F3298.chg hc3341 Dj.nil
                                    replace F3299 := F3299.chg hc3341 Dj.nil
                                    replace F3300 := F3300.chg hc3341 Dj.nil
                                    replace F3301 := F3301.chg hc3341 Dj.nil
                                    replace hB := hB.inS hc3341 inNil
                                    replace hZ := Nat.le_trans hZ hc3341.size
                                    have hS := Chg.refl [] w3340
                                    have Z3342 := F3297
                                    have Z3343 := F3298
                                    have Z3344 := F3299
                                    have Z3345 := F3300
                                    have Z3346 := F3301
                                    refine wH_take [0, 1, 2, 3] [3, 2, 1, 0] [(196, .int .i64 (wr ((((y8).length : Int)) + x2481))), (195, .int .i64 (x2481)), (194, .int .i64 (((y8).length : Int))), (193, .slice A63 (y59.1).length cap64)] (by kernel_rfl) (qT (qT (qB (qT (qL (qB (qT (qT (qB (qT (qL (qB (qT (qB (qT (qL (qB (qT (qT qZ))))))))))))))))))) (by kernel_rfl) ?_
                                    obtain ⟨x3347, hx3348, hm⟩ := bindE hm
                                    refine wH_idx (i := 4) (d := 197) (T := 37) (A := A63) (n := (y59.1).length) (cap := cap64) (kd := .i64) (m := wr ((((y8).length : Int)) + x2481)) (by kernel_rfl) (qT (qT (qB (qT (qL (qB (qT (qT (qB (qT (qL (qB (qT (qB (qT (qL (qB (qT (qT qZ))))))))))))))))))) (by kernel_rfl) (by kernel_rfl) sl37 ((F3301.slr encI_ok).is hx3348) ?_
                                    obtain ⟨A3349, cap3350, hc3352, F3351, K3353⟩ := OwR.row Z3346 encI_ok hx3348
                                    have G3355 := low_inr G67
                                    have Dm3356 := (F3301.dj).symm
                                    refine wH_load1 (i := 5) (d := 198) (T := 38) (ad := (elA A63 1 (wr ((((y8).length : Int)) + x2481)) 0)) (v := .slice A3349 (x3347).length cap3350) (by kernel_rfl) (qT (qT (qB (qT (qL (qB (qT (qT (qB (qT (qL (qB (qT (qB (qT (qL (qB (qT (qT qZ))))))))))))))))))) (by kernel_rfl) (by kernel_rfl) vt38 (fun W hW => hW.keep hc3352) ?_
                                    refine wH_take [6] [6, 5, 4, 3, 2, 1, 0] [(199, .int .i64 (x3295))] (by kernel_rfl) (qT (qT (qB (qT (qL (qB (qT (qT (qB (qT (qL (qB (qT (qB (qT (qL (qB (qT (qT qZ))))))))))))))))))) (by kernel_rfl) ?_
                                    obtain ⟨x3357, hx3358, hm⟩ := bindE hm
                                    refine wH_idx (i := 7) (d := 200) (T := 38) (A := A3349) (n := (x3347).length) (cap := cap3350) (kd := .i64) (m := x3295) (by kernel_rfl) (qT (qT (qB (qT (qL (qB (qT (qT (qB (qT (qL (qB (qT (qB (qT (qL (qB (qT (qT qZ))))))))))))))))))) (by kernel_rfl) (by kernel_rfl) sl38 (F3351.is hx3358) ?_
                                    refine wH_load1 (i := 8) (d := 201) (T := 2) (ad := (elA A3349 1 (x3295) 0)) (v := .int .i64 (x3357)) (by kernel_rfl) (qT (qT (qB (qT (qL (qB (qT (qT (qB (qT (qL (qB (qT (qB (qT (qL (qB (qT (qT qZ))))))))))))))))))) (by kernel_rfl) (by kernel_rfl) vt2 (fun W hW => Sl.cell (F3351.chg hW Dj.nil) hx3358 0 (by rfl)) ?_
                                    refine wH_take [9, 10] [10, 9, 8, 7, 6, 5, 4, 3, 2, 1, 0] [(203, .int .i64 (x3128)), (202, .slice A63 (y59.1).length cap64)] (by kernel_rfl) (qT (qT (qB (qT (qL (qB (qT (qT (qB (qT (qL (qB (qT (qB (qT (qL (qB (qT (qT qZ))))))))))))))))))) (by kernel_rfl) ?_
                                    obtain ⟨x3359, hx3360, hm⟩ := bindE hm
                                    refine wH_idx (i := 11) (d := 204) (T := 37) (A := A63) (n := (y59.1).length) (cap := cap64) (kd := .i64) (m := x3128) (by kernel_rfl) (qT (qT (qB (qT (qL (qB (qT (qT (qB (qT (qL (qB (qT (qB (qT (qL (qB (qT (qT qZ))))))))))))))))))) (by kernel_rfl) (by kernel_rfl) sl37 ((F3301.slr encI_ok).is hx3360) ?_
                                    obtain ⟨A3361, cap3362, hc3364, F3363, K3365⟩ := OwR.row Z3346 encI_ok hx3360
                                    have G3367 := low_inr G67
                                    have Dm3368 := (F3301.dj).symm
                                    refine wH_load1 (i := 12) (d := 205) (T := 38) (ad := (elA A63 1 (x3128) 0)) (v := .slice A3361 (x3359).length cap3362) (by kernel_rfl) (qT (qT (qB (qT (qL (qB (qT (qT (qB (qT (qL (qB (qT (qB (qT (qL (qB (qT (qT qZ))))))))))))))))))) (by kernel_rfl) (by kernel_rfl) vt38 (fun W hW => hW.keep hc3364) ?_
                                    refine wH_take [13] [13, 12, 11, 10, 9, 8, 7, 6, 5, 4, 3, 2, 1, 0] [(206, .int .i64 (x3295))] (by kernel_rfl) (qT (qT (qB (qT (qL (qB (qT (qT (qB (qT (qL (qB (qT (qB (qT (qL (qB (qT (qT qZ))))))))))))))))))) (by kernel_rfl) ?_
                                    obtain ⟨x3369, hx3370, hm⟩ := bindE hm
                                    refine wH_idx (i := 14) (d := 207) (T := 38) (A := A3361) (n := (x3359).length) (cap := cap3362) (kd := .i64) (m := x3295) (by kernel_rfl) (qT (qT (qB (qT (qL (qB (qT (qT (qB (qT (qL (qB (qT (qB (qT (qL (qB (qT (qT qZ))))))))))))))))))) (by kernel_rfl) (by kernel_rfl) sl38 (F3363.is hx3370) ?_
                                    refine wH_load1 (i := 15) (d := 208) (T := 2) (ad := (elA A3361 1 (x3295) 0)) (v := .int .i64 (x3369)) (by kernel_rfl) (qT (qT (qB (qT (qL (qB (qT (qT (qB (qT (qL (qB (qT (qB (qT (qL (qB (qT (qT qZ))))))))))))))))))) (by kernel_rfl) (by kernel_rfl) vt2 (fun W hW => Sl.cell (F3363.chg hW Dj.nil) hx3370 0 (by rfl)) ?_
                                    refine wH_done (by kernel_rfl) ?_
                                    refine eX_tail ?_
                                    refine wS_pure 2 [(22, .int .i64 (wr (x3357 - x3369))), (209, .int .i64 (wr (x3357 - x3369)))] (by kernel_rfl) ?_
                                    refine wS_end (by rfl) ?_
                                    refine eX_then ?_
                                    refine cW_prune [(1, .slice A1 (l1).length cap1), (6, .int .i64 (((y8).length : Int))), (7, .slice A23 (y19).length cap24), (8, .slice A35 (y31.1).length cap36), (10, .slice A49 (y45.1).length cap50), (12, .slice A63 (y59.1).length cap64), (18, .int .i64 (x2481)), (19, .int .i64 (x3104)), (20, .int .i64 (x3128)), (21, .int .i64 (x3295)), (22, .int .i64 (wr (x3357 - x3369)))] (by kernel_rfl) (by kernel_rfl) (fun a3371 => ?_)
                                    refine cW_seq ?_
                                    refine cW_region ?_
                                    refine wS_pure 3 [(212, .int .i64 (x3128)), (211, .slice A49 (y45.1).length cap50), (210, .int .i64 (wr (x3357 - x3369)))] (by kernel_rfl) ?_
                                    obtain ⟨x3372, hx3373, hm⟩ := bindE hm
                                    refine wS_idx (d := 213) (T := 38) (A := A49) (n := (y45.1).length) (cap := cap50) (kd := .i64) (m := x3128) (by kernel_rfl) sl38 ((F3300.sl encI_ok).is hx3373) ?_
                                    refine wS_load1 (d := 214) (T := 2) (ad := (elA A49 1 (x3128) 0)) (v := .int .i64 (x3372)) (by kernel_rfl) vt2 (Sl.cell (F3300.sl encI_ok) hx3373 0 (by rfl)) ?_
                                    refine wS_pure 2 [(216, .bool (decide ((wr (x3357 - x3369)) > x3372))), (215, .bool (decide ((wr (x3357 - x3369)) > x3372)))] (by kernel_rfl) ?_
                                    refine wS_bool (decide ((wr (x3357 - x3369)) > x3372)) (fun hb3374 => ?_) (fun hb3374 => ?_)
                                    · have hm := condT hb3374 hm
                                      rewrite [hb3374]
                                      refine wS_pure 8 [(224, .bool (true)), (223, undef), (222, undef), (221, undef), (220, undef), (219, undef), (218, undef), (217, undef)] (by kernel_rfl) ?_
                                      refine wS_end (by rfl) ?_
                                      refine eX_then ?_
                                      refine cW_prune [(1, .slice A1 (l1).length cap1), (6, .int .i64 (((y8).length : Int))), (7, .slice A23 (y19).length cap24), (8, .slice A35 (y31.1).length cap36), (10, .slice A49 (y45.1).length cap50), (12, .slice A63 (y59.1).length cap64), (18, .int .i64 (x2481)), (19, .int .i64 (x3104)), (20, .int .i64 (x3128)), (21, .int .i64 (x3295)), (224, .bool (true))] (by kernel_rfl) (by kernel_rfl) (fun a3375 => ?_)
                                      refine cW_cond_t (by kernel_rfl) ?_
                                      refine cW_seq ?_
                                      refine cW_region ?_
                                      refine wS_pure 1 [(4, .bool (false))] (by kernel_rfl) ?_
                                      refine wS_end (by rfl) ?_
                                      refine eX_then ?_
                                      refine cW_ret ?_
                                      refine eX_block_ret ?_
                                      refine eX_then_ret ?_
                                      have hq : (some (Ctl.out (Sum.inr false)) : Option (Ctl (Int) (Sum (Unit) ((Bool))))) = some _ := hm
                                      replace hq := someE hq
                                      subst hq
                                      refine eX_outR hx3307 (fun hr => ?_)
                                      subst hr
                                      refine eX_block_ret ?_
                                      refine eX_then_ret ?_
                                      refine eX_then_ret ?_
                                      refine eX_block_ret ?_
                                      refine eX_then_ret ?_
                                      have hq : (some (Ctl.out (Sum.inr false)) : Option (Ctl (Int) (Sum (Unit) ((Bool))))) = some _ := hm3304
                                      replace hq := someE hq
                                      subst hq
                                      refine eX_outR hx3116 (fun hr => ?_)
                                      subst hr
                                      refine eX_block_ret ?_
                                      refine eX_then_ret ?_
                                      refine eX_block_ret ?_
                                      refine eX_then_ret ?_
                                      have hq : (some (Ctl.out (Sum.inr false)) : Option (Ctl (Int) (Sum (Unit) ((Bool))))) = some _ := hm3113
                                      replace hq := someE hq
                                      subst hq
                                      refine eX_outR hx2493 (fun hr => ?_)
                                      subst hr
                                      refine eX_block_ret ?_
                                      refine eX_then_ret ?_
                                      refine eX_then_ret ?_
                                      have hq : (some false : Option ((Bool))) = some _ := hm2490
                                      replace hq := someE hq
                                      subst hq
                                      refine eX_ret (vs := [.bool (false)]) [.tmp 4] (by rfl) ⟨by (show lkE _ _ _ = _); kernel_rfl, trivial⟩ ?_
                                      exact ⟨rfl, hB⟩
                                    · have hm := condF hb3374 hm
                                      rewrite [hb3374]
                                      refine wS_pure 4 [(220, .int .i64 (x3128)), (219, .slice A49 (y45.1).length cap50), (218, .int .i64 (wr (0 - (wr (x3357 - x3369))))), (217, .int .i64 (wr (x3357 - x3369)))] (by kernel_rfl) ?_
                                      obtain ⟨x3376, hx3377, hm⟩ := bindE hm
                                      refine wS_idx (d := 221) (T := 38) (A := A49) (n := (y45.1).length) (cap := cap50) (kd := .i64) (m := x3128) (by kernel_rfl) sl38 ((F3300.sl encI_ok).is hx3377) ?_
                                      refine wS_load1 (d := 222) (T := 2) (ad := (elA A49 1 (x3128) 0)) (v := .int .i64 (x3376)) (by kernel_rfl) vt2 (Sl.cell (F3300.sl encI_ok) hx3377 0 (by rfl)) ?_
                                      refine wS_pure 2 [(224, .bool (decide ((wr (0 - (wr (x3357 - x3369)))) > x3376))), (223, .bool (decide ((wr (0 - (wr (x3357 - x3369)))) > x3376)))] (by kernel_rfl) ?_
                                      refine wS_end (by rfl) ?_
                                      refine eX_then ?_
                                      refine cW_prune [(1, .slice A1 (l1).length cap1), (6, .int .i64 (((y8).length : Int))), (7, .slice A23 (y19).length cap24), (8, .slice A35 (y31.1).length cap36), (10, .slice A49 (y45.1).length cap50), (12, .slice A63 (y59.1).length cap64), (18, .int .i64 (x2481)), (19, .int .i64 (x3104)), (20, .int .i64 (x3128)), (21, .int .i64 (x3295)), (224, .bool (decide ((wr (0 - (wr (x3357 - x3369)))) > x3376)))] (by kernel_rfl) (by kernel_rfl) (fun a3378 => ?_)
                                      refine cW_cond (t := decide ((wr (0 - (wr (x3357 - x3369)))) > x3376)) (by kernel_rfl) (fun hb3379 => ?_) (fun hb3379 => ?_)
                                      · have hm := condT hb3379 hm
                                        refine cW_seq ?_
                                        refine cW_region ?_
                                        refine wS_pure 1 [(4, .bool (false))] (by kernel_rfl) ?_
                                        refine wS_end (by rfl) ?_
                                        refine eX_then ?_
                                        refine cW_ret ?_
                                        refine eX_block_ret ?_
                                        refine eX_then_ret ?_
                                        have hq : (some (Ctl.out (Sum.inr false)) : Option (Ctl (Int) (Sum (Unit) ((Bool))))) = some _ := hm
                                        replace hq := someE hq
                                        subst hq
                                        refine eX_outR hx3307 (fun hr => ?_)
                                        subst hr
                                        refine eX_block_ret ?_
                                        refine eX_then_ret ?_
                                        refine eX_then_ret ?_
                                        refine eX_block_ret ?_
                                        refine eX_then_ret ?_
                                        have hq : (some (Ctl.out (Sum.inr false)) : Option (Ctl (Int) (Sum (Unit) ((Bool))))) = some _ := hm3304
                                        replace hq := someE hq
                                        subst hq
                                        refine eX_outR hx3116 (fun hr => ?_)
                                        subst hr
                                        refine eX_block_ret ?_
                                        refine eX_then_ret ?_
                                        refine eX_block_ret ?_
                                        refine eX_then_ret ?_
                                        have hq : (some (Ctl.out (Sum.inr false)) : Option (Ctl (Int) (Sum (Unit) ((Bool))))) = some _ := hm3113
                                        replace hq := someE hq
                                        subst hq
                                        refine eX_outR hx2493 (fun hr => ?_)
                                        subst hr
                                        refine eX_block_ret ?_
                                        refine eX_then_ret ?_
                                        refine eX_then_ret ?_
                                        have hq : (some false : Option ((Bool))) = some _ := hm2490
                                        replace hq := someE hq
                                        subst hq
                                        refine eX_ret (vs := [.bool (false)]) [.tmp 4] (by rfl) ⟨by (show lkE _ _ _ = _); kernel_rfl, trivial⟩ ?_
                                        exact ⟨rfl, hB⟩
                                      · have hm := condF hb3379 hm
                                        refine cW_skip ?_
                                        refine eX_block ?_
                                        refine eX_then ?_
                                        refine cW_region ?_
                                        refine wS_pure 3 [(21, .int .i64 (wr (x3295 + 1))), (192, .int .i64 (wr (x3295 + 1))), (191, .int .i64 (x3295))] (by kernel_rfl) ?_
                                        refine wS_end (by rfl) ?_
                                        have hq : (some (Ctl.next (wr (x3295 + 1))) : Option (Ctl (Int) (Sum (Unit) ((Bool))))) = some _ := hm
                                        replace hq := someE hq
                                        subst hq
                                        exact eX_next hx3307 (fun hst => ⟨wr (x3295 + 1), rfl, Fr.of hst (by kernel_rfl), F3297, F3298, F3299, F3300, F3301, hB, hZ⟩)
                                  · have hm := condF hb3308 hm
                                    refine cW_exit ?_
                                    refine eX_then_exit ?_
                                    have hq : (some (Ctl.out (Sum.inl (()))) : Option (Ctl (Int) (Sum (Unit) ((Bool))))) = some _ := hm
                                    replace hq := someE hq
                                    subst hq
                                    refine eX_outX hx3307 (fun hr3380 => ?_)
                                    replace hr3380 := hr3380.symm
                                    subst hr3380
                                    refine eX_block_hit ?_
                                    exact eX_J (fun hst => ⟨rfl, Fr.of hst (by kernel_rfl), F3297, F3298, F3299, F3300, F3301, hB, hZ⟩)
                                · rintro a' w3287 ⟨hJ, hF3288, F3289, F3290, F3291, F3292, F3293, hB, hZ⟩
                                  subst hJ
                                  refine Fr.goX hF3288 (by kernel_rfl) ?_
                                  refine eX_then ?_
                                  refine cW_seq ?_
                                  refine cW_drawnTail [] 17 (by kernel_rfl) (by kernel_rfl) (fun w3394 hc3395 => ?_)
                                  replace F3289 := F3289.chg hc3395 Dj.nil
                                  replace F3290 := F3290.chg hc3395 Dj.nil
                                  replace F3291 := F3291.chg hc3395 Dj.nil
                                  replace F3292 := F3292.chg hc3395 Dj.nil
                                  replace F3293 := F3293.chg hc3395 Dj.nil
                                  replace hB := hB.inS hc3395 inNil
                                  replace hZ := Nat.le_trans hZ hc3395.size
                                  have hS := Chg.refl [] w3394
                                  have Z3396 := F3289
                                  have Z3397 := F3290
                                  have Z3398 := F3291
                                  have Z3399 := F3292
                                  have Z3400 := F3293
                                  refine wH_take [0, 1, 2, 3] [3, 2, 1, 0] [(228, .int .i64 (wr ((((y8).length : Int)) + x2481))), (227, .int .i64 (x2481)), (226, .int .i64 (((y8).length : Int))), (225, .slice A35 (y31.1).length cap36)] (by kernel_rfl) (qT (qT (qB (qT (qL (qB (qT (qB (qT (qL (qB (qT (qT qZ))))))))))))) (by kernel_rfl) ?_
                                  obtain ⟨x3401, hx3402, hm⟩ := bindE hm
                                  refine wH_idx (i := 4) (d := 229) (T := 61) (A := A35) (n := (y31.1).length) (cap := cap36) (kd := .i64) (m := wr ((((y8).length : Int)) + x2481)) (by kernel_rfl) (qT (qT (qB (qT (qL (qB (qT (qB (qT (qL (qB (qT (qT qZ))))))))))))) (by kernel_rfl) (by kernel_rfl) sl61 ((F3291.sl encIIIII_ok).is hx3402) ?_
                                  refine wH_take [5] [5, 4, 3, 2, 1, 0] [(230, .pointer (some (elA A35 5 (wr ((((y8).length : Int)) + x2481)) 4)))] (by kernel_rfl) (qT (qT (qB (qT (qL (qB (qT (qB (qT (qL (qB (qT (qT qZ))))))))))))) (by kernel_rfl) ?_
                                  refine wH_load1 (i := 6) (d := 231) (T := 2) (ad := (elA A35 5 (wr ((((y8).length : Int)) + x2481)) 4)) (v := .int .i64 (x3401.2.2.2.2)) (by kernel_rfl) (qT (qT (qB (qT (qL (qB (qT (qB (qT (qL (qB (qT (qT qZ))))))))))))) (by kernel_rfl) (by kernel_rfl) vt2 (fun W hW => Sl.cell ((Z3398.chg hW Dj.nil).sl encIIIII_ok) hx3402 4 (by rfl)) ?_
                                  refine wH_take [7, 8] [8, 7, 6, 5, 4, 3, 2, 1, 0] [(233, .int .i64 (x3128)), (232, .slice A35 (y31.1).length cap36)] (by kernel_rfl) (qT (qT (qB (qT (qL (qB (qT (qB (qT (qL (qB (qT (qT qZ))))))))))))) (by kernel_rfl) ?_
                                  obtain ⟨x3403, hx3404, hm⟩ := bindE hm
                                  refine wH_idx (i := 9) (d := 234) (T := 61) (A := A35) (n := (y31.1).length) (cap := cap36) (kd := .i64) (m := x3128) (by kernel_rfl) (qT (qT (qB (qT (qL (qB (qT (qB (qT (qL (qB (qT (qT qZ))))))))))))) (by kernel_rfl) (by kernel_rfl) sl61 ((F3291.sl encIIIII_ok).is hx3404) ?_
                                  refine wH_take [10] [10, 9, 8, 7, 6, 5, 4, 3, 2, 1, 0] [(235, .pointer (some (elA A35 5 (x3128) 4)))] (by kernel_rfl) (qT (qT (qB (qT (qL (qB (qT (qB (qT (qL (qB (qT (qT qZ))))))))))))) (by kernel_rfl) ?_
                                  refine wH_load1 (i := 11) (d := 236) (T := 2) (ad := (elA A35 5 (x3128) 4)) (v := .int .i64 (x3403.2.2.2.2)) (by kernel_rfl) (qT (qT (qB (qT (qL (qB (qT (qB (qT (qL (qB (qT (qT qZ))))))))))))) (by kernel_rfl) (by kernel_rfl) vt2 (fun W hW => Sl.cell ((Z3398.chg hW Dj.nil).sl encIIIII_ok) hx3404 4 (by rfl)) ?_
                                  refine wH_take [12, 13] [13, 12, 11, 10, 9, 8, 7, 6, 5, 4, 3, 2, 1, 0] [(238, .int .i64 (x3128)), (237, .slice A49 (y45.1).length cap50)] (by kernel_rfl) (qT (qT (qB (qT (qL (qB (qT (qB (qT (qL (qB (qT (qT qZ))))))))))))) (by kernel_rfl) ?_
                                  obtain ⟨x3405, hx3406, hm⟩ := bindE hm
                                  refine wH_idx (i := 14) (d := 239) (T := 38) (A := A49) (n := (y45.1).length) (cap := cap50) (kd := .i64) (m := x3128) (by kernel_rfl) (qT (qT (qB (qT (qL (qB (qT (qB (qT (qL (qB (qT (qT qZ))))))))))))) (by kernel_rfl) (by kernel_rfl) sl38 ((F3292.sl encI_ok).is hx3406) ?_
                                  refine wH_load1 (i := 15) (d := 240) (T := 2) (ad := (elA A49 1 (x3128) 0)) (v := .int .i64 (x3405)) (by kernel_rfl) (qT (qT (qB (qT (qL (qB (qT (qB (qT (qL (qB (qT (qT qZ))))))))))))) (by kernel_rfl) (by kernel_rfl) vt2 (fun W hW => Sl.cell ((Z3399.chg hW Dj.nil).sl encI_ok) hx3406 0 (by rfl)) ?_
                                  refine wH_take [16] [16, 15, 14, 13, 12, 11, 10, 9, 8, 7, 6, 5, 4, 3, 2, 1, 0] [(241, .int .i64 (wr (x3403.2.2.2.2 + x3405)))] (by kernel_rfl) (qT (qT (qB (qT (qL (qB (qT (qB (qT (qL (qB (qT (qT qZ))))))))))))) (by kernel_rfl) ?_
                                  refine wH_done (by kernel_rfl) ?_
                                  refine eX_tail ?_
                                  refine wS_pure 1 [(242, .bool (x3401.2.2.2.2 != (wr (x3403.2.2.2.2 + x3405))))] (by kernel_rfl) ?_
                                  refine wS_end (by rfl) ?_
                                  refine eX_then ?_
                                  refine cW_prune [(1, .slice A1 (l1).length cap1), (6, .int .i64 (((y8).length : Int))), (7, .slice A23 (y19).length cap24), (8, .slice A35 (y31.1).length cap36), (10, .slice A49 (y45.1).length cap50), (12, .slice A63 (y59.1).length cap64), (18, .int .i64 (x2481)), (19, .int .i64 (x3104)), (242, .bool (x3401.2.2.2.2 != (wr (x3403.2.2.2.2 + x3405))))] (by kernel_rfl) (by kernel_rfl) (fun a3407 => ?_)
                                  refine cW_cond (t := x3401.2.2.2.2 != (wr (x3403.2.2.2.2 + x3405))) (by kernel_rfl) (fun hb3408 => ?_) (fun hb3408 => ?_)
                                  · have hm := condT hb3408 hm
                                    refine cW_seq ?_
                                    refine cW_region ?_
                                    refine wS_pure 1 [(4, .bool (false))] (by kernel_rfl) ?_
                                    refine wS_end (by rfl) ?_
                                    refine eX_then ?_
                                    refine cW_ret ?_
                                    refine eX_block_ret ?_
                                    refine eX_then_ret ?_
                                    have hq : (some (Ctl.out (Sum.inr false)) : Option (Ctl (Int) (Sum (Unit) ((Bool))))) = some _ := hm
                                    replace hq := someE hq
                                    subst hq
                                    refine eX_outR hx3116 (fun hr => ?_)
                                    subst hr
                                    refine eX_block_ret ?_
                                    refine eX_then_ret ?_
                                    refine eX_block_ret ?_
                                    refine eX_then_ret ?_
                                    have hq : (some (Ctl.out (Sum.inr false)) : Option (Ctl (Int) (Sum (Unit) ((Bool))))) = some _ := hm3113
                                    replace hq := someE hq
                                    subst hq
                                    refine eX_outR hx2493 (fun hr => ?_)
                                    subst hr
                                    refine eX_block_ret ?_
                                    refine eX_then_ret ?_
                                    refine eX_then_ret ?_
                                    have hq : (some false : Option ((Bool))) = some _ := hm2490
                                    replace hq := someE hq
                                    subst hq
                                    refine eX_ret (vs := [.bool (false)]) [.tmp 4] (by rfl) ⟨by (show lkE _ _ _ = _); kernel_rfl, trivial⟩ ?_
                                    exact ⟨rfl, hB⟩
                                  · have hm := condF hb3408 hm
                                    refine cW_skip ?_
                                    refine eX_block ?_
                                    refine eX_then ?_
                                    refine cW_region ?_
                                    refine wS_pure 3 [(19, .int .i64 (wr (x3104 + 1))), (181, .int .i64 (wr (x3104 + 1))), (180, .int .i64 (x3104))] (by kernel_rfl) ?_
                                    refine wS_end (by rfl) ?_
                                    have hq : (some (Ctl.next (wr (x3104 + 1))) : Option (Ctl (Int) (Sum (Unit) ((Bool))))) = some _ := hm
                                    replace hq := someE hq
                                    subst hq
                                    exact eX_next hx3116 (fun hst => ⟨wr (x3104 + 1), rfl, Fr.of hst (by kernel_rfl), F3289, F3290, F3291, F3292, F3293, hB, hZ⟩)
                              · have hm := condF hb3117 hm
                                refine cW_exit ?_
                                refine eX_then_exit ?_
                                have hq : (some (Ctl.out (Sum.inl (()))) : Option (Ctl (Int) (Sum (Unit) ((Bool))))) = some _ := hm
                                replace hq := someE hq
                                subst hq
                                refine eX_outX hx3116 (fun hr3411 => ?_)
                                replace hr3411 := hr3411.symm
                                subst hr3411
                                refine eX_block_hit ?_
                                exact eX_J (fun hst => ⟨rfl, Fr.of hst (by kernel_rfl), F3106, F3107, F3108, F3109, F3110, hB, hZ⟩)
                            · rintro a' w3096 ⟨hJ, hF3097, F3098, F3099, F3100, F3101, F3102, hB, hZ⟩
                              subst hJ
                              refine Fr.goX hF3097 (by kernel_rfl) ?_
                              refine eX_block ?_
                              refine eX_then ?_
                              refine cW_region ?_
                              refine wS_pure 3 [(18, .int .i64 (wr (x2481 + 1))), (177, .int .i64 (wr (x2481 + 1))), (176, .int .i64 (x2481))] (by kernel_rfl) ?_
                              refine wS_end (by rfl) ?_
                              have hq : (some (Ctl.next (wr (x2481 + 1))) : Option (Ctl (Int) (Sum (Unit) ((Bool))))) = some _ := hm
                              replace hq := someE hq
                              subst hq
                              exact eX_next hx2493 (fun hst => ⟨wr (x2481 + 1), rfl, Fr.of hst (by kernel_rfl), F3098, F3099, F3100, F3101, F3102, hB, hZ⟩)
                          · have hm := condF hb2494 hm
                            refine cW_exit ?_
                            refine eX_then_exit ?_
                            have hq : (some (Ctl.out (Sum.inl (()))) : Option (Ctl (Int) (Sum (Unit) ((Bool))))) = some _ := hm
                            replace hq := someE hq
                            subst hq
                            refine eX_outX hx2493 (fun hr3414 => ?_)
                            replace hr3414 := hr3414.symm
                            subst hr3414
                            refine eX_block_hit ?_
                            exact eX_J (fun hst => ⟨rfl, Fr.of hst (by kernel_rfl), F2483, F2484, F2486, hB, hZ⟩)
                        · rintro a' w2475 ⟨hJ, hF2476, F2477, F2478, F2479, hB, hZ⟩
                          subst hJ
                          refine Fr.goX hF2476 (by kernel_rfl) ?_
                          refine eX_then ?_
                          refine cW_seq ?_
                          refine cW_region ?_
                          refine wS_bs0 (α := Int) (enc := encI) (d := 243) (t := 38) (T := 2) (by kernel_rfl) el38 ?_
                          intro b3415 w3416 G3417 F3418 hc3419
                          have D3421 : Dj (fp25 ++ fr28) [b3415] := Dj.of F2478.low (low1 G3417)
                          have D3422 : Dj fp51 [b3415] := Dj.of F2479.low (low1 G3417)
                          replace F2477 := F2477.chg hc3419 Dj.nil
                          replace F2478 := F2478.chg hc3419 Dj.nil
                          replace F2479 := F2479.chg hc3419 Dj.nil
                          replace hB := hB.inS hc3419 inNil
                          replace G3417 := Nat.le_trans hZ G3417
                          replace G3417 := low1 G3417
                          replace hZ := Nat.le_trans hZ hc3419.size
                          refine wS_pure 1 [(244, .slice A49 (y45.1).length cap50)] (by kernel_rfl) ?_
                          obtain ⟨_, hk3423, hm⟩ := bindE hm
                          replace hk3423 := apE hk3423
                          refine wS_appendAny (enc := encI) (l := (([] : List (Int)) : List (Int))) (l2 := (y45.1 : List (Int))) (d := 245) (t := 38) (T := 2) (A := (some ⟨b3415, 0, none⟩)) (A2 := A49) (cap := 0) (cap2 := cap50) (by kernel_rfl) el38 encI_ok F3418 (F2479.sl encI_ok) hk3423 ?_
                          intro w3424 fp3425 A3426 cap3427 F3428 hc3429 hp3430
                          have G3432 := low_ap G3417 hZ hp3430
                          have D3433 : Dj (fp25 ++ fr28) fp3425 := Dj.ap D3421 F2478.low hp3430
                          have D3434 : Dj fp51 fp3425 := Dj.ap D3422 F2479.low hp3430
                          replace F2477 := F2477.chg hc3429 (Dj.of L1 G3417)
                          replace F2478 := F2478.chg hc3429 D3421
                          replace F2479 := F2479.chg hc3429 D3422
                          replace hB := hB.inS hc3429 (inLow G3417)
                          replace hZ := Nat.le_trans hZ hc3429.size
                          refine wS_pure 1 [(23, .slice A3426 ((([] : List (Int))) ++ y45.1).length cap3427)] (by kernel_rfl) ?_
                          refine wS_end (by rfl) ?_
                          refine eX_then ?_
                          refine cW_seq ?_
                          refine cW_region ?_
                          refine wS_pure 2 [(247, .int .i64 (((y8).length : Int))), (246, .slice A1 (l1).length cap1)] (by kernel_rfl) ?_
                          obtain ⟨y3435, hy3436, hm⟩ := bindE hm
                          refine wS_calls (d := 248) (f := 45) (vs := [.slice A1 (l1).length cap1, .int .i64 (40), .int .i64 (((y8).length : Int))]) (by kernel_rfl) ent45 (c_laws_r8At hy3436 F2477) ?_
                          rintro _ w3437 ⟨rfl, hc3438⟩
                          replace F2477 := F2477.chg hc3438 Dj.nil
                          replace F2478 := F2478.chg hc3438 Dj.nil
                          replace F2479 := F2479.chg hc3438 Dj.nil
                          replace F3428 := F3428.chg hc3438 Dj.nil
                          replace hB := hB.inS hc3438 inNil
                          replace hZ := Nat.le_trans hZ hc3438.size
                          refine ⟨.int .i64 (y3435), rfl, ?_⟩
                          refine wS_pure 1 [(24, .int .i64 (y3435))] (by kernel_rfl) ?_
                          refine wS_end (by rfl) ?_
                          refine eX_then ?_
                          refine cW_seq ?_
                          refine cW_region ?_
                          refine wS_pure 2 [(250, .int .i64 (y3435)), (249, .slice A3426 ((([] : List (Int))) ++ y45.1).length cap3427)] (by kernel_rfl) ?_
                          obtain ⟨x3439, hx3440, hm⟩ := bindE hm
                          refine wS_idx (d := 251) (T := 38) (A := A3426) (n := ((([] : List (Int))) ++ y45.1).length) (cap := cap3427) (kd := .i64) (m := y3435) (by kernel_rfl) sl38 ((F3428.sl encI_ok).is hx3440) ?_
                          refine wS_load1 (d := 252) (T := 2) (ad := (elA A3426 1 (y3435) 0)) (v := .int .i64 (x3439)) (by kernel_rfl) vt2 (Sl.cell (F3428.sl encI_ok) hx3440 0 (by rfl)) ?_
                          refine wS_pure 1 [(253, .int .i64 (wr (x3439 + 5)))] (by kernel_rfl) ?_
                          obtain ⟨x3441, hx3442, hm⟩ := bindE hm
                          refine wS_idx (d := 254) (T := 38) (A := A3426) (n := ((([] : List (Int))) ++ y45.1).length) (cap := cap3427) (kd := .i64) (m := y3435) (by kernel_rfl) sl38 ((F3428.sl encI_ok).is hx3442) ?_
                          refine wS_storeEl (x := x3441) (wr (x3439 + 5)) (T := 2) (U := 2) (cap := cap3427) (j := 0) (A := A3426) (v := .int .i64 (wr (x3439 + 5))) (vs := [.int .i64 (wr (x3439 + 5))]) (m := y3435) (by kernel_rfl) (by rfl) sz2 (by rfl) encI_ok F3428 hx3442 (by simp only [List.length_cons, List.length_nil]; omega) (by rfl) ?_
                          intro w3443 F3444 hc3445
                          replace F2477 := F2477.chg hc3445 (Dj.of L1 G3432)
                          replace F2478 := F2478.chg hc3445 D3433
                          replace F2479 := F2479.chg hc3445 D3434
                          replace hB := hB.inS hc3445 (inLow G3432)
                          replace hZ := Nat.le_trans hZ hc3445.size
                          clear F3428
                          rewrite [show ((([] : List (Int))) ++ y45.1).length = (((([] : List (Int))) ++ y45.1).set (Int.toNat y3435) (wr (x3439 + 5))).length from (List.length_set ..).symm]
                          refine wS_end (by rfl) ?_
                          refine eX_then ?_
                          refine cW_seq ?_
                          refine cW_region ?_
                          refine wS_pure 3 [(258, .slice A3426 (((([] : List (Int))) ++ y45.1).set (Int.toNat y3435) (wr (x3439 + 5))).length cap3427), (257, .slice A23 (y19).length cap24), (256, .int .i64 (((y8).length : Int)))] (by kernel_rfl) ?_
                          obtain ⟨y3446, hy3447, hm⟩ := bindE hm
                          refine wS_calls (d := 259) (f := 43) (vs := [.int .i64 (((y8).length : Int)), .slice A23 (y19).length cap24, .slice A3426 (((([] : List (Int))) ++ y45.1).set (Int.toNat y3435) (wr (x3439 + 5))).length cap3427]) (by kernel_rfl) ent43 (c_impl_SkewOf hy3447 (F2478.slr encI_ok) (F3444.sl encI_ok)) ?_
                          rintro _ w3448 ⟨rfl, hc3449⟩
                          replace F2477 := F2477.chg hc3449 Dj.nil
                          replace F2478 := F2478.chg hc3449 Dj.nil
                          replace F2479 := F2479.chg hc3449 Dj.nil
                          replace F3444 := F3444.chg hc3449 Dj.nil
                          replace hB := hB.inS hc3449 inNil
                          replace hZ := Nat.le_trans hZ hc3449.size
                          refine ⟨.tuple #[.int .i64 (y3446.1), .bool (y3446.2)], rfl, ?_⟩
                          refine wS_pure 5 [(26, .bool (y3446.2)), (25, .int .i64 (y3446.1)), (261, .bool (y3446.2)), (260, .int .i64 (y3446.1)), (255, .tuple #[.int .i64 (y3446.1), .bool (y3446.2)])] (by kernel_rfl) ?_
                          refine wS_end (by rfl) ?_
                          refine eX_then ?_
                          refine cW_prune [(25, .int .i64 (y3446.1)), (26, .bool (y3446.2))] (by kernel_rfl) (by kernel_rfl) (fun a3450 => ?_)
                          refine cW_seq ?_
                          refine cW_region ?_
                          refine wS_pure 2 [(263, .bool (y3446.2)), (262, .bool (y3446.2))] (by kernel_rfl) ?_
                          refine wS_bool y3446.2 (fun hb3451 => ?_) (fun hb3451 => ?_)
                          · have hm := condT hb3451 hm
                            rewrite [hb3451]
                            refine wS_pure 4 [(4, .bool (y3446.1 == 5)), (266, .bool (y3446.1 == 5)), (265, .bool (y3446.1 == 5)), (264, .int .i64 (y3446.1))] (by kernel_rfl) ?_
                            refine wS_end (by rfl) ?_
                            refine eX_then ?_
                            refine cW_ret ?_
                            have hq : (some (y3446.1 == 5) : Option ((Bool))) = some _ := hm
                            replace hq := someE hq
                            subst hq
                            refine eX_ret (vs := [.bool (y3446.1 == 5)]) [.tmp 4] (by rfl) ⟨by (show lkE _ _ _ = _); kernel_rfl, trivial⟩ ?_
                            exact ⟨rfl, hB⟩
                          · have hm := condF hb3451 hm
                            rewrite [hb3451]
                            refine wS_pure 4 [(4, .bool (false)), (266, .bool (false)), (265, undef), (264, undef)] (by kernel_rfl) ?_
                            refine wS_end (by rfl) ?_
                            refine eX_then ?_
                            refine cW_ret ?_
                            have hq : (some false : Option ((Bool))) = some _ := hm
                            replace hq := someE hq
                            subst hq
                            refine eX_ret (vs := [.bool (false)]) [.tmp 4] (by rfl) ⟨by (show lkE _ _ _ = _); kernel_rfl, trivial⟩ ?_
                            exact ⟨rfl, hB⟩

end Go.Proofs.Ytajnjbmniobjhaa
