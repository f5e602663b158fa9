/- Printed walks: laws.FnExactClockPlaces. -/
import Derived.Test.YtmodhpgnkbnbaaaProg
import Derived.Test.YtmodhpgnkbnbaaaWPlaces03
set_option linter.unusedSimpArgs false
set_option linter.unusedVariables false
namespace Go.Proofs.Ytmodhpgnkbnbaaa
open Go.RowKit
attribute [local irreducible] wS cW eX wH

theorem ent36 : Ent Try.prog 36 := fun _ => by kernel_rfl
theorem ent38 : Ent Try.prog 38 := fun _ => by kernel_rfl
theorem ent40 : Ent Try.prog 40 := fun _ => by kernel_rfl
theorem ent44 : Ent Try.prog 44 := fun _ => by kernel_rfl
theorem ent46 : Ent Try.prog 46 := fun _ => by kernel_rfl
theorem ent48 : Ent Try.prog 48 := fun _ => by kernel_rfl
theorem ent60 : Ent Try.prog 60 := fun _ => by kernel_rfl
theorem ent66 : Ent Try.prog 66 := fun _ => by kernel_rfl
theorem ent67 : Ent Try.prog 67 := fun _ => by kernel_rfl
theorem ent68 : Ent Try.prog 68 := fun _ => by kernel_rfl
theorem ent73 : Ent Try.prog 73 := fun _ => by kernel_rfl

set_option maxRecDepth 100000 in
/-- laws.FnExactClockPlaces -/
theorem c_laws_FnExactClockPlaces {w0 : World} {l0 : List (Int × Int)} {A0 : Option Addr} {cap0 : Nat} {fp0 : List Nat} {l1 : List (List (Int))} {A1 : Option Addr} {cap1 : Nat} {fp1 : List Nat} {r : (Bool)} (hm : m_laws_FnExactClockPlaces l0 l1 = some r) (F0 : Sl 2 encII w0 fp0 A0 l0) (F1 : SlR 1 encI w0 fp1 A1 l1) :
    Calls Try.prog 19 #[.slice A0 (l0).length cap0, .slice A1 (l1).length cap1] w0 fun e w' => e = .returned (.bool (r)) ∧ Chg [] w0 w' := by
  have L0 := F0.low
  have L1 := F1.low
  have hB : Chg [] w0 w0 := Chg.refl _ _
  have hZ := Nat.le_refl w0.heap.size
  unfold m_laws_FnExactClockPlaces at hm
  refine enterE (N := 119) Try.func19 (by rfl) Try.ntmps19 (by simp) [(0, .slice A0 (l0).length cap0), (1, .slice A1 (l1).length cap1)] (by rfl) (by kernel_rfl) (fun a => ?_)
  refine cW_seq ?_
  refine cW_region ?_
  refine wS_pure 1 [(4, .bool (false))] (by kernel_rfl) ?_
  refine wS_end (by rfl) ?_
  refine eX_then ?_
  refine cW_seq ?_
  refine cW_region ?_
  refine wS_pure 1 [(5, .int .i64 (1048576))] (by kernel_rfl) ?_
  refine wS_end (by rfl) ?_
  refine eX_then ?_
  refine cW_seq ?_
  refine cW_region ?_
  refine wS_pure 2 [(18, .int .i64 (1048576)), (17, .slice A0 (l0).length cap0)] (by kernel_rfl) ?_
  obtain ⟨y3, hy4, hm⟩ := bindE hm
  refine wS_calls (d := 19) (f := 44) (vs := [.slice A0 (l0).length cap0, .int .i64 (1048576)]) (by kernel_rfl) ent44 (c_laws_szPointS hy4 F0) ?_
  rintro _ w5 ⟨rfl, hc6⟩
  replace F0 := F0.chg hc6 Dj.nil
  replace F1 := F1.chg hc6 Dj.nil
  replace hB := hB.inS hc6 inNil
  replace hZ := Nat.le_trans hZ hc6.size
  refine ⟨.int .i64 (y3), rfl, ?_⟩
  refine wS_pure 1 [(5, .int .i64 (y3))] (by kernel_rfl) ?_
  refine wS_end (by rfl) ?_
  refine eX_then ?_
  refine cW_seq ?_
  refine cW_seq ?_
  refine cW_region ?_
  refine wS_pure 2 [(21, .bool (decide (y3 < 0))), (20, .int .i64 (y3))] (by kernel_rfl) ?_
  refine wS_end (by rfl) ?_
  refine eX_then ?_
  refine cW_cond (t := decide (y3 < 0)) (by kernel_rfl) (fun hb7 => ?_) (fun hb7 => ?_)
  · have hm := condT hb7 hm
    refine cW_seq ?_
    refine cW_region ?_
    refine wS_pure 1 [(4, .bool (true))] (by kernel_rfl) ?_
    refine wS_end (by rfl) ?_
    refine eX_then ?_
    refine cW_ret ?_
    refine eX_then_ret ?_
    have hq : (some true : Option ((Bool))) = some _ := hm
    replace hq := someE hq
    subst hq
    refine eX_ret (vs := [.bool (true)]) [.tmp 4] (by rfl) ⟨by (show lkE _ _ _ = _); kernel_rfl, trivial⟩ ?_
    exact ⟨rfl, hB⟩
  · have hm := condF hb7 hm
    refine cW_skip ?_
    refine eX_then ?_
    refine cW_seq ?_
    refine cW_region ?_
    refine wS_pure 2 [(23, .int .i64 (y3)), (22, .slice A1 (l1).length cap1)] (by kernel_rfl) ?_
    obtain ⟨y8, hy9, hm⟩ := bindE hm
    refine wS_calls (d := 24) (f := 36) (vs := [.slice A1 (l1).length cap1, .int .i64 (y3)]) (by kernel_rfl) ent36 (c_laws_szInt64SS hy9 F1) ?_
    rintro _ w10 ⟨rfl, hc11⟩
    replace F0 := F0.chg hc11 Dj.nil
    replace F1 := F1.chg hc11 Dj.nil
    replace hB := hB.inS hc11 inNil
    replace hZ := Nat.le_trans hZ hc11.size
    refine ⟨.int .i64 (y8), rfl, ?_⟩
    refine wS_pure 1 [(5, .int .i64 (y8))] (by kernel_rfl) ?_
    refine wS_end (by rfl) ?_
    refine eX_then ?_
    refine cW_seq ?_
    refine cW_seq ?_
    refine cW_region ?_
    refine wS_pure 2 [(26, .bool (decide (y8 < 0))), (25, .int .i64 (y8))] (by kernel_rfl) ?_
    refine wS_end (by rfl) ?_
    refine eX_then ?_
    refine cW_cond (t := decide (y8 < 0)) (by kernel_rfl) (fun hb12 => ?_) (fun hb12 => ?_)
    · have hm := condT hb12 hm
      refine cW_seq ?_
      refine cW_region ?_
      refine wS_pure 1 [(4, .bool (true))] (by kernel_rfl) ?_
      refine wS_end (by rfl) ?_
      refine eX_then ?_
      refine cW_ret ?_
      refine eX_then_ret ?_
      have hq : (some true : Option ((Bool))) = some _ := hm
      replace hq := someE hq
      subst hq
      refine eX_ret (vs := [.bool (true)]) [.tmp 4] (by rfl) ⟨by (show lkE _ _ _ = _); kernel_rfl, trivial⟩ ?_
      exact ⟨rfl, hB⟩
    · have hm := condF hb12 hm
      refine cW_skip ?_
      refine eX_then ?_
      refine cW_seq ?_
      refine cW_region ?_
      refine wS_pure 1 [(28, .slice A0 (l0).length cap0)] (by kernel_rfl) ?_
      obtain ⟨y13, hy14, hm⟩ := bindE hm
      refine wS_calls (d := 29) (f := 46) (vs := [.slice A0 (l0).length cap0]) (by kernel_rfl) ent46 (c_laws_toPointS hy14 F0) ?_
      rintro _ w15 ⟨A17, cap18, fp19, rfl, F20, G21, hc16⟩
      replace F0 := F0.chg hc16 Dj.nil
      replace F1 := F1.chg hc16 Dj.nil
      replace hB := hB.inS hc16 inNil
      replace G21 := low_le hZ G21
      replace hZ := Nat.le_trans hZ hc16.size
      refine ⟨.slice A17 (y13).length cap18, rfl, ?_⟩
      refine wS_pure 1 [(30, .slice A1 (l1).length cap1)] (by kernel_rfl) ?_
      obtain ⟨y24, hy25, hm⟩ := bindE hm
      refine wS_calls (d := 31) (f := 38) (vs := [.slice A1 (l1).length cap1]) (by kernel_rfl) ent38 (c_laws_toInt64SS hy25 F1) ?_
      rintro _ w26 ⟨A28, cap29, fp30, fr33, rfl, F31, G32, hc27⟩
      have D35 : Dj fp19 (fp30 ++ fr33) := Dj.of F20.low G32
      replace F0 := F0.chg hc27 Dj.nil
      replace F1 := F1.chg hc27 Dj.nil
      replace F20 := F20.chg hc27 Dj.nil
      replace hB := hB.inS hc27 inNil
      replace G32 := low_le hZ G32
      replace hZ := Nat.le_trans hZ hc27.size
      refine ⟨.slice A28 (y24).length cap29, rfl, ?_⟩
      obtain ⟨y36, hy37, hm⟩ := bindE hm
      refine wS_calls (d := 32) (f := 73) (vs := [.slice A17 (y13).length cap18, .slice A28 (y24).length cap29]) (by kernel_rfl) ent73 (c_spec_ClockPlaces hy37 (F20.sl encII_ok) (F31.slr encI_ok)) ?_
      rintro _ w38 ⟨A40, cap41, fp42, fr45, rfl, F43, G44, hc39⟩
      have D47 : Dj fp19 (fp42 ++ fr45) := Dj.of F20.low G44
      have D48 : Dj (fp30 ++ fr33) (fp42 ++ fr45) := Dj.of F31.low G44
      replace F0 := F0.chg hc39 Dj.nil
      replace F1 := F1.chg hc39 Dj.nil
      replace F20 := F20.chg hc39 Dj.nil
      replace F31 := F31.chg hc39 Dj.nil
      replace hB := hB.inS hc39 inNil
      replace G44 := low_le hZ G44
      replace hZ := Nat.le_trans hZ hc39.size
      refine ⟨.tuple #[.slice A40 (y36.1).length cap41, .bool (y36.2)], rfl, ?_⟩
      refine wS_pure 5 [(7, .bool (y36.2)), (6, .slice A40 (y36.1).length cap41), (34, .bool (y36.2)), (33, .slice A40 (y36.1).length cap41), (27, .tuple #[.slice A40 (y36.1).length cap41, .bool (y36.2)])] (by kernel_rfl) ?_
      refine wS_end (by rfl) ?_
      refine eX_then ?_
      refine cW_prune [(0, .slice A0 (l0).length cap0), (1, .slice A1 (l1).length cap1), (6, .slice A40 (y36.1).length cap41), (7, .bool (y36.2))] (by kernel_rfl) (by kernel_rfl) (fun a49 => ?_)
      refine cW_seq ?_
      refine cW_region ?_
      refine wS_pure 1 [(35, .slice A0 (l0).length cap0)] (by kernel_rfl) ?_
      obtain ⟨y50, hy51, hm⟩ := bindE hm
      refine wS_calls (d := 36) (f := 46) (vs := [.slice A0 (l0).length cap0]) (by kernel_rfl) ent46 (c_laws_toPointS hy51 F0) ?_
      rintro _ w52 ⟨A54, cap55, fp56, rfl, F57, G58, hc53⟩
      have D61 : Dj fp19 fp56 := Dj.of F20.low G58
      have D62 : Dj (fp30 ++ fr33) fp56 := Dj.of F31.low G58
      have D63 : Dj (fp42 ++ fr45) fp56 := Dj.of F43.low G58
      replace F0 := F0.chg hc53 Dj.nil
      replace F1 := F1.chg hc53 Dj.nil
      replace F20 := F20.chg hc53 Dj.nil
      replace F31 := F31.chg hc53 Dj.nil
      replace F43 := F43.chg hc53 Dj.nil
      replace hB := hB.inS hc53 inNil
      replace G58 := low_le hZ G58
      replace hZ := Nat.le_trans hZ hc53.size
      refine ⟨.slice A54 (y50).length cap55, rfl, ?_⟩
      refine wS_pure 1 [(8, .slice A54 (y50).length cap55)] (by kernel_rfl) ?_
      refine wS_end (by rfl) ?_
      refine eX_then ?_
      refine cW_seq ?_
      refine cW_region ?_
      refine wS_pure 1 [(37, .slice A1 (l1).length cap1)] (by kernel_rfl) ?_
      obtain ⟨y64, hy65, hm⟩ := bindE hm
      refine wS_calls (d := 38) (f := 38) (vs := [.slice A1 (l1).length cap1]) (by kernel_rfl) ent38 (c_laws_toInt64SS hy65 F1) ?_
      rintro _ w66 ⟨A68, cap69, fp70, fr73, rfl, F71, G72, hc67⟩
      have D75 : Dj fp19 (fp70 ++ fr73) := Dj.of F20.low G72
      have D76 : Dj (fp30 ++ fr33) (fp70 ++ fr73) := Dj.of F31.low G72
      have D77 : Dj (fp42 ++ fr45) (fp70 ++ fr73) := Dj.of F43.low G72
      have D78 : Dj fp56 (fp70 ++ fr73) := Dj.of F57.low G72
      replace F0 := F0.chg hc67 Dj.nil
      replace F1 := F1.chg hc67 Dj.nil
      replace F20 := F20.chg hc67 Dj.nil
      replace F31 := F31.chg hc67 Dj.nil
      replace F43 := F43.chg hc67 Dj.nil
      replace F57 := F57.chg hc67 Dj.nil
      replace hB := hB.inS hc67 inNil
      replace G72 := low_le hZ G72
      replace hZ := Nat.le_trans hZ hc67.size
      refine ⟨.slice A68 (y64).length cap69, rfl, ?_⟩
      refine wS_pure 1 [(9, .slice A68 (y64).length cap69)] (by kernel_rfl) ?_
      refine wS_end (by rfl) ?_
      refine eX_then ?_
      refine cW_seq ?_
      refine cW_region ?_
      refine wS_pure 2 [(41, .slice A68 (y64).length cap69), (40, .slice A54 (y50).length cap55)] (by kernel_rfl) ?_
      obtain ⟨y79, hy80, hm⟩ := bindE hm
      refine wS_calls (d := 42) (f := 60) (vs := [.slice A54 (y50).length cap55, .slice A68 (y64).length cap69]) (by kernel_rfl) ent60 (c_impl_ClockPlaces hy80 (F57.sl encII_ok) (F71.slr encI_ok)) ?_
      rintro _ w81 ⟨A83, cap84, fp85, fr88, rfl, F86, G87, hc82⟩
      have D90 : Dj fp19 (fp85 ++ fr88) := Dj.of F20.low G87
      have D91 : Dj (fp30 ++ fr33) (fp85 ++ fr88) := Dj.of F31.low G87
      have D92 : Dj (fp42 ++ fr45) (fp85 ++ fr88) := Dj.of F43.low G87
      have D93 : Dj fp56 (fp85 ++ fr88) := Dj.of F57.low G87
      have D94 : Dj (fp70 ++ fr73) (fp85 ++ fr88) := Dj.of F71.low G87
      replace F0 := F0.chg hc82 Dj.nil
      replace F1 := F1.chg hc82 Dj.nil
      replace F20 := F20.chg hc82 Dj.nil
      replace F31 := F31.chg hc82 Dj.nil
      replace F43 := F43.chg hc82 Dj.nil
      replace F57 := F57.chg hc82 Dj.nil
      replace F71 := F71.chg hc82 Dj.nil
      replace hB := hB.inS hc82 inNil
      replace G87 := low_le hZ G87
      replace hZ := Nat.le_trans hZ hc82.size
      refine ⟨.tuple #[.slice A83 (y79.1).length cap84, .bool (y79.2)], rfl, ?_⟩
      refine wS_pure 5 [(11, .bool (y79.2)), (10, .slice A83 (y79.1).length cap84), (44, .bool (y79.2)), (43, .slice A83 (y79.1).length cap84), (39, .tuple #[.slice A83 (y79.1).length cap84, .bool (y79.2)])] (by kernel_rfl) ?_
      refine wS_end (by rfl) ?_
      refine eX_then ?_
      refine cW_seq ?_
      refine cW_seq ?_
      refine cW_region ?_
      refine wS_pure 2 [(46, .slice A40 (y36.1).length cap41), (45, .slice A83 (y79.1).length cap84)] (by kernel_rfl) ?_
      obtain ⟨y95, hy96, hm⟩ := bindE hm
      refine wS_calls (d := 47) (f := 40) (vs := [.slice A83 (y79.1).length cap84, .slice A40 (y36.1).length cap41]) (by kernel_rfl) ent40 (c_laws_eqInt64SS hy96 (F86.slr encI_ok) (F43.slr encI_ok)) ?_
      rintro _ w97 ⟨rfl, hc98⟩
      replace F0 := F0.chg hc98 Dj.nil
      replace F1 := F1.chg hc98 Dj.nil
      replace F20 := F20.chg hc98 Dj.nil
      replace F31 := F31.chg hc98 Dj.nil
      replace F43 := F43.chg hc98 Dj.nil
      replace F57 := F57.chg hc98 Dj.nil
      replace F71 := F71.chg hc98 Dj.nil
      replace F86 := F86.chg hc98 Dj.nil
      replace hB := hB.inS hc98 inNil
      replace hZ := Nat.le_trans hZ hc98.size
      refine ⟨.bool (y95), rfl, ?_⟩
      refine wS_pure 2 [(49, .bool (!y95)), (48, .bool (!y95))] (by kernel_rfl) ?_
      refine wS_bool (!y95) (fun hb99 => ?_) (fun hb99 => ?_)
      · have hm := condT hb99 hm
        rewrite [hb99]
        refine wS_pure 4 [(53, .bool (true)), (52, undef), (51, undef), (50, undef)] (by kernel_rfl) ?_
        refine wS_end (by rfl) ?_
        refine eX_then ?_
        refine cW_prune [(0, .slice A0 (l0).length cap0), (1, .slice A1 (l1).length cap1), (6, .slice A40 (y36.1).length cap41), (7, .bool (y36.2)), (8, .slice A54 (y50).length cap55), (9, .slice A68 (y64).length cap69), (10, .slice A83 (y79.1).length cap84), (11, .bool (y79.2)), (53, .bool (true))] (by kernel_rfl) (by kernel_rfl) (fun a100 => ?_)
        refine cW_cond_t (by kernel_rfl) ?_
        refine cW_seq ?_
        refine cW_region ?_
        refine wS_pure 1 [(4, .bool (false))] (by kernel_rfl) ?_
        refine wS_end (by rfl) ?_
        refine eX_then ?_
        refine cW_ret ?_
        refine eX_then_ret ?_
        have hq : (some false : Option ((Bool))) = some _ := hm
        replace hq := someE hq
        subst hq
        refine eX_ret (vs := [.bool (false)]) [.tmp 4] (by rfl) ⟨by (show lkE _ _ _ = _); kernel_rfl, trivial⟩ ?_
        exact ⟨rfl, hB⟩
      · have hm := condF hb99 hm
        rewrite [hb99]
        refine wS_pure 4 [(53, .bool (!(y79.2 == y36.2))), (52, .bool (!(y79.2 == y36.2))), (51, .bool (y36.2)), (50, .bool (y79.2))] (by kernel_rfl) ?_
        refine wS_end (by rfl) ?_
        refine eX_then ?_
        refine cW_prune [(0, .slice A0 (l0).length cap0), (1, .slice A1 (l1).length cap1), (6, .slice A40 (y36.1).length cap41), (7, .bool (y36.2)), (8, .slice A54 (y50).length cap55), (9, .slice A68 (y64).length cap69), (10, .slice A83 (y79.1).length cap84), (11, .bool (y79.2)), (53, .bool (!(y79.2 == y36.2)))] (by kernel_rfl) (by kernel_rfl) (fun a101 => ?_)
        refine cW_cond (t := !(y79.2 == y36.2)) (by kernel_rfl) (fun hb102 => ?_) (fun hb102 => ?_)
        · have hm := condT hb102 hm
          refine cW_seq ?_
          refine cW_region ?_
          refine wS_pure 1 [(4, .bool (false))] (by kernel_rfl) ?_
          refine wS_end (by rfl) ?_
          refine eX_then ?_
          refine cW_ret ?_
          refine eX_then_ret ?_
          have hq : (some false : Option ((Bool))) = some _ := hm
          replace hq := someE hq
          subst hq
          refine eX_ret (vs := [.bool (false)]) [.tmp 4] (by rfl) ⟨by (show lkE _ _ _ = _); kernel_rfl, trivial⟩ ?_
          exact ⟨rfl, hB⟩
        · have hm := condF hb102 hm
          refine cW_skip ?_
          refine eX_then ?_
          refine cW_seq ?_
          refine cW_seq ?_
          refine cW_region ?_
          refine wS_pure 2 [(55, .slice A0 (l0).length cap0), (54, .slice A54 (y50).length cap55)] (by kernel_rfl) ?_
          obtain ⟨y103, hy104, hm⟩ := bindE hm
          refine wS_calls (d := 56) (f := 46) (vs := [.slice A0 (l0).length cap0]) (by kernel_rfl) ent46 (c_laws_toPointS hy104 F0) ?_
          rintro _ w105 ⟨A107, cap108, fp109, rfl, F110, G111, hc106⟩
          have D114 : Dj fp19 fp109 := Dj.of F20.low G111
          have D115 : Dj (fp30 ++ fr33) fp109 := Dj.of F31.low G111
          have D116 : Dj (fp42 ++ fr45) fp109 := Dj.of F43.low G111
          have D117 : Dj fp56 fp109 := Dj.of F57.low G111
          have D118 : Dj (fp70 ++ fr73) fp109 := Dj.of F71.low G111
          have D119 : Dj (fp85 ++ fr88) fp109 := Dj.of F86.low G111
          replace F0 := F0.chg hc106 Dj.nil
          replace F1 := F1.chg hc106 Dj.nil
          replace F20 := F20.chg hc106 Dj.nil
          replace F31 := F31.chg hc106 Dj.nil
          replace F43 := F43.chg hc106 Dj.nil
          replace F57 := F57.chg hc106 Dj.nil
          replace F71 := F71.chg hc106 Dj.nil
          replace F86 := F86.chg hc106 Dj.nil
          replace hB := hB.inS hc106 inNil
          replace G111 := low_le hZ G111
          replace hZ := Nat.le_trans hZ hc106.size
          refine ⟨.slice A107 (y103).length cap108, rfl, ?_⟩
          obtain ⟨y120, hy121, hm⟩ := bindE hm
          refine wS_calls (d := 57) (f := 48) (vs := [.slice A54 (y50).length cap55, .slice A107 (y103).length cap108]) (by kernel_rfl) ent48 (c_laws_eqPointS hy121 (F57.sl encII_ok) (F110.sl encII_ok)) ?_
          rintro _ w122 ⟨rfl, hc123⟩
          replace F0 := F0.chg hc123 Dj.nil
          replace F1 := F1.chg hc123 Dj.nil
          replace F20 := F20.chg hc123 Dj.nil
          replace F31 := F31.chg hc123 Dj.nil
          replace F43 := F43.chg hc123 Dj.nil
          replace F57 := F57.chg hc123 Dj.nil
          replace F71 := F71.chg hc123 Dj.nil
          replace F86 := F86.chg hc123 Dj.nil
          replace F110 := F110.chg hc123 Dj.nil
          replace hB := hB.inS hc123 inNil
          replace hZ := Nat.le_trans hZ hc123.size
          refine ⟨.bool (y120), rfl, ?_⟩
          refine wS_pure 1 [(58, .bool (!y120))] (by kernel_rfl) ?_
          refine wS_end (by rfl) ?_
          refine eX_then ?_
          refine cW_cond (t := !y120) (by kernel_rfl) (fun hb124 => ?_) (fun hb124 => ?_)
          · have hm := condT hb124 hm
            refine cW_seq ?_
            refine cW_region ?_
            refine wS_pure 1 [(4, .bool (false))] (by kernel_rfl) ?_
            refine wS_end (by rfl) ?_
            refine eX_then ?_
            refine cW_ret ?_
            refine eX_then_ret ?_
            have hq : (some false : Option ((Bool))) = some _ := hm
            replace hq := someE hq
            subst hq
            refine eX_ret (vs := [.bool (false)]) [.tmp 4] (by rfl) ⟨by (show lkE _ _ _ = _); kernel_rfl, trivial⟩ ?_
            exact ⟨rfl, hB⟩
          · have hm := condF hb124 hm
            refine cW_skip ?_
            refine eX_then ?_
            refine cW_seq ?_
            refine cW_seq ?_
            refine cW_region ?_
            refine wS_pure 2 [(60, .slice A1 (l1).length cap1), (59, .slice A68 (y64).length cap69)] (by kernel_rfl) ?_
            obtain ⟨y125, hy126, hm⟩ := bindE hm
            refine wS_calls (d := 61) (f := 38) (vs := [.slice A1 (l1).length cap1]) (by kernel_rfl) ent38 (c_laws_toInt64SS hy126 F1) ?_
            rintro _ w127 ⟨A129, cap130, fp131, fr134, rfl, F132, G133, hc128⟩
            have D136 : Dj fp19 (fp131 ++ fr134) := Dj.of F20.low G133
            have D137 : Dj (fp30 ++ fr33) (fp131 ++ fr134) := Dj.of F31.low G133
            have D138 : Dj (fp42 ++ fr45) (fp131 ++ fr134) := Dj.of F43.low G133
            have D139 : Dj fp56 (fp131 ++ fr134) := Dj.of F57.low G133
            have D140 : Dj (fp70 ++ fr73) (fp131 ++ fr134) := Dj.of F71.low G133
            have D141 : Dj (fp85 ++ fr88) (fp131 ++ fr134) := Dj.of F86.low G133
            have D142 : Dj fp109 (fp131 ++ fr134) := Dj.of F110.low G133
            replace F0 := F0.chg hc128 Dj.nil
            replace F1 := F1.chg hc128 Dj.nil
            replace F20 := F20.chg hc128 Dj.nil
            replace F31 := F31.chg hc128 Dj.nil
            replace F43 := F43.chg hc128 Dj.nil
            replace F57 := F57.chg hc128 Dj.nil
            replace F71 := F71.chg hc128 Dj.nil
            replace F86 := F86.chg hc128 Dj.nil
            replace F110 := F110.chg hc128 Dj.nil
            replace hB := hB.inS hc128 inNil
            replace G133 := low_le hZ G133
            replace hZ := Nat.le_trans hZ hc128.size
            refine ⟨.slice A129 (y125).length cap130, rfl, ?_⟩
            obtain ⟨y143, hy144, hm⟩ := bindE hm
            refine wS_calls (d := 62) (f := 40) (vs := [.slice A68 (y64).length cap69, .slice A129 (y125).length cap130]) (by kernel_rfl) ent40 (c_laws_eqInt64SS hy144 (F71.slr encI_ok) (F132.slr encI_ok)) ?_
            rintro _ w145 ⟨rfl, hc146⟩
            replace F0 := F0.chg hc146 Dj.nil
            replace F1 := F1.chg hc146 Dj.nil
            replace F20 := F20.chg hc146 Dj.nil
            replace F31 := F31.chg hc146 Dj.nil
            replace F43 := F43.chg hc146 Dj.nil
            replace F57 := F57.chg hc146 Dj.nil
            replace F71 := F71.chg hc146 Dj.nil
            replace F86 := F86.chg hc146 Dj.nil
            replace F110 := F110.chg hc146 Dj.nil
            replace F132 := F132.chg hc146 Dj.nil
            replace hB := hB.inS hc146 inNil
            replace hZ := Nat.le_trans hZ hc146.size
            refine ⟨.bool (y143), rfl, ?_⟩
            refine wS_pure 1 [(63, .bool (!y143))] (by kernel_rfl) ?_
            refine wS_end (by rfl) ?_
            refine eX_then ?_
            refine cW_cond (t := !y143) (by kernel_rfl) (fun hb147 => ?_) (fun hb147 => ?_)
            · have hm := condT hb147 hm
              refine cW_seq ?_
              refine cW_region ?_
              refine wS_pure 1 [(4, .bool (false))] (by kernel_rfl) ?_
              refine wS_end (by rfl) ?_
              refine eX_then ?_
              refine cW_ret ?_
              refine eX_then_ret ?_
              have hq : (some false : Option ((Bool))) = some _ := hm
              replace hq := someE hq
              subst hq
              refine eX_ret (vs := [.bool (false)]) [.tmp 4] (by rfl) ⟨by (show lkE _ _ _ = _); kernel_rfl, trivial⟩ ?_
              exact ⟨rfl, hB⟩
            · have hm := condF hb147 hm
              refine cW_skip ?_
              refine eX_then ?_
              refine cW_seq ?_
              refine cW_region ?_
              refine wS_pure 1 [(12, .int .i64 (1))] (by kernel_rfl) ?_
              refine wS_end (by rfl) ?_
              refine eX_then ?_
              refine cW_seq ?_
              refine cW_region ?_
              refine wS_pure 2 [(65, .int .i64 (1)), (64, .slice A54 (y50).length cap55)] (by kernel_rfl) ?_
              obtain ⟨y148, hy149, hm⟩ := bindE hm
              refine wS_calls (d := 66) (f := 66) (vs := [.slice A54 (y50).length cap55, .int .i64 (1)]) (by kernel_rfl) ent66 (c_laws_markPointS hy149 F57) ?_
              rintro _ w150 ⟨rfl, F152, hl153, hc151⟩
              replace F0 := F0.chg hc151 (Dj.app (Dj.of L0 G58) Dj.nil)
              replace F1 := F1.chg hc151 (Dj.app (Dj.of L1 G58) Dj.nil)
              replace F20 := F20.chg hc151 (Dj.app D61 Dj.nil)
              replace F31 := F31.chg hc151 (Dj.app D62 Dj.nil)
              replace F43 := F43.chg hc151 (Dj.app D63 Dj.nil)
              replace F71 := F71.chg hc151 (Dj.app (D78).symm Dj.nil)
              replace F86 := F86.chg hc151 (Dj.app (D93).symm Dj.nil)
              replace F110 := F110.chg hc151 (Dj.app (D117).symm Dj.nil)
              replace F132 := F132.chg hc151 (Dj.app (D139).symm Dj.nil)
              replace hB := hB.inS hc151 (inApp (inLow G58) inNil)
              replace hZ := Nat.le_trans hZ hc151.size
              clear F57
              refine ⟨.int .i64 (y148.1), rfl, ?_⟩
              rewrite [(show (y50).length = (y148.2).length from hl153.symm)]
              refine wS_pure 1 [(12, .int .i64 (y148.1))] (by kernel_rfl) ?_
              refine wS_end (by rfl) ?_
              refine eX_then ?_
              refine cW_seq ?_
              refine cW_region ?_
              refine wS_pure 2 [(68, .int .i64 (y148.1)), (67, .slice A68 (y64).length cap69)] (by kernel_rfl) ?_
              obtain ⟨y154, hy155, hm⟩ := bindE hm
              refine wS_calls (d := 69) (f := 67) (vs := [.slice A68 (y64).length cap69, .int .i64 (y148.1)]) (by kernel_rfl) ent67 (c_laws_markInt64SS hy155 F71) ?_
              rintro _ w156 ⟨rfl, F158, hl159, hc157⟩
              replace F0 := F0.chg hc157 (Dj.app (Dj.of L0 G72) Dj.nil)
              replace F1 := F1.chg hc157 (Dj.app (Dj.of L1 G72) Dj.nil)
              replace F20 := F20.chg hc157 (Dj.app D75 Dj.nil)
              replace F31 := F31.chg hc157 (Dj.app D76 Dj.nil)
              replace F43 := F43.chg hc157 (Dj.app D77 Dj.nil)
              replace F152 := F152.chg hc157 (Dj.app D78 Dj.nil)
              replace F86 := F86.chg hc157 (Dj.app (D94).symm Dj.nil)
              replace F110 := F110.chg hc157 (Dj.app (D118).symm Dj.nil)
              replace F132 := F132.chg hc157 (Dj.app (D140).symm Dj.nil)
              replace hB := hB.inS hc157 (inApp (inLow G72) inNil)
              replace hZ := Nat.le_trans hZ hc157.size
              clear F71
              refine ⟨.int .i64 (y154.1), rfl, ?_⟩
              rewrite [(show (y64).length = (y154.2).length from hl159.symm)]
              refine wS_pure 1 [(12, .int .i64 (y154.1))] (by kernel_rfl) ?_
              refine wS_end (by rfl) ?_
              refine eX_then ?_
              refine cW_prune [(0, .slice A0 (l0).length cap0), (1, .slice A1 (l1).length cap1), (6, .slice A40 (y36.1).length cap41), (7, .bool (y36.2)), (10, .slice A83 (y79.1).length cap84), (11, .bool (y79.2)), (12, .int .i64 (y154.1))] (by kernel_rfl) (by kernel_rfl) (fun a160 => ?_)
              refine cW_seq ?_
              refine cW_seq ?_
              refine cW_region ?_
              refine wS_pure 3 [(72, .bool (decide (y154.1 < 0))), (71, .bool (decide (y154.1 < 0))), (70, .int .i64 (y154.1))] (by kernel_rfl) ?_
              refine wS_bool (decide (y154.1 < 0)) (fun hb161 => ?_) (fun hb161 => ?_)
              · have hm := condT hb161 hm
                rewrite [hb161]
                refine wS_pure 10 [(82, .bool (true)), (81, undef), (80, undef), (79, undef), (78, .bool (true)), (77, .bool (true)), (76, undef), (75, undef), (74, undef), (73, undef)] (by kernel_rfl) ?_
                refine wS_end (by rfl) ?_
                refine eX_then ?_
                refine cW_cond_t (by kernel_rfl) ?_
                refine cW_seq ?_
                refine cW_region ?_
                refine wS_pure 1 [(4, .bool (false))] (by kernel_rfl) ?_
                refine wS_end (by rfl) ?_
                refine eX_then ?_
                refine cW_ret ?_
                refine eX_then_ret ?_
                have hq : (some false : Option ((Bool))) = some _ := hm
                replace hq := someE hq
                subst hq
                refine eX_ret (vs := [.bool (false)]) [.tmp 4] (by rfl) ⟨by (show lkE _ _ _ = _); kernel_rfl, trivial⟩ ?_
                exact ⟨rfl, hB⟩
              · have hm := condF hb161 hm
                rewrite [hb161]
                refine wS_pure 2 [(74, .slice A40 (y36.1).length cap41), (73, .slice A83 (y79.1).length cap84)] (by kernel_rfl) ?_
                obtain ⟨y162, hy163, hm⟩ := bindE hm
                refine wS_calls (d := 75) (f := 40) (vs := [.slice A83 (y79.1).length cap84, .slice A40 (y36.1).length cap41]) (by kernel_rfl) ent40 (c_laws_eqInt64SS hy163 (F86.slr encI_ok) (F43.slr encI_ok)) ?_
                rintro _ w164 ⟨rfl, hc165⟩
                replace F0 := F0.chg hc165 Dj.nil
                replace F1 := F1.chg hc165 Dj.nil
                replace F20 := F20.chg hc165 Dj.nil
                replace F31 := F31.chg hc165 Dj.nil
                replace F43 := F43.chg hc165 Dj.nil
                replace F152 := F152.chg hc165 Dj.nil
                replace F158 := F158.chg hc165 Dj.nil
                replace F86 := F86.chg hc165 Dj.nil
                replace F110 := F110.chg hc165 Dj.nil
                replace F132 := F132.chg hc165 Dj.nil
                replace hB := hB.inS hc165 inNil
                replace hZ := Nat.le_trans hZ hc165.size
                refine ⟨.bool (y162), rfl, ?_⟩
                refine wS_pure 3 [(78, .bool (!y162)), (77, .bool (!y162)), (76, .bool (!y162))] (by kernel_rfl) ?_
                refine wS_bool (!y162) (fun hb166 => ?_) (fun hb166 => ?_)
                · have hm := condT hb166 hm
                  rewrite [hb166]
                  refine wS_pure 4 [(82, .bool (true)), (81, undef), (80, undef), (79, undef)] (by kernel_rfl) ?_
                  refine wS_end (by rfl) ?_
                  refine eX_then ?_
                  refine cW_cond_t (by kernel_rfl) ?_
                  refine cW_seq ?_
                  refine cW_region ?_
                  refine wS_pure 1 [(4, .bool (false))] (by kernel_rfl) ?_
                  refine wS_end (by rfl) ?_
                  refine eX_then ?_
                  refine cW_ret ?_
                  refine eX_then_ret ?_
                  have hq : (some false : Option ((Bool))) = some _ := hm
                  replace hq := someE hq
                  subst hq
                  refine eX_ret (vs := [.bool (false)]) [.tmp 4] (by rfl) ⟨by (show lkE _ _ _ = _); kernel_rfl, trivial⟩ ?_
                  exact ⟨rfl, hB⟩
                · have hm := condF hb166 hm
                  rewrite [hb166]
                  refine wS_pure 4 [(82, .bool (!(y79.2 == y36.2))), (81, .bool (!(y79.2 == y36.2))), (80, .bool (y36.2)), (79, .bool (y79.2))] (by kernel_rfl) ?_
                  refine wS_end (by rfl) ?_
                  refine eX_then ?_
                  refine cW_cond (t := !(y79.2 == y36.2)) (by kernel_rfl) (fun hb167 => ?_) (fun hb167 => ?_)
                  · have hm := condT hb167 hm
                    refine cW_seq ?_
                    refine cW_region ?_
                    refine wS_pure 1 [(4, .bool (false))] (by kernel_rfl) ?_
                    refine wS_end (by rfl) ?_
                    refine eX_then ?_
                    refine cW_ret ?_
                    refine eX_then_ret ?_
                    have hq : (some false : Option ((Bool))) = some _ := hm
                    replace hq := someE hq
                    subst hq
                    refine eX_ret (vs := [.bool (false)]) [.tmp 4] (by rfl) ⟨by (show lkE _ _ _ = _); kernel_rfl, trivial⟩ ?_
                    exact ⟨rfl, hB⟩
                  · have hm := condF hb167 hm
                    refine cW_skip ?_
                    refine eX_then ?_
                    refine cW_seq ?_
                    refine cW_region ?_
                    refine wS_pure 1 [(13, .int .i64 (1))] (by kernel_rfl) ?_
                    refine wS_end (by rfl) ?_
                    refine eX_then ?_
                    refine cW_seq ?_
                    refine cW_region ?_
                    refine wS_pure 2 [(84, .int .i64 (1)), (83, .slice A83 (y79.1).length cap84)] (by kernel_rfl) ?_
                    obtain ⟨y168, hy169, hm⟩ := bindE hm
                    refine wS_calls (d := 85) (f := 67) (vs := [.slice A83 (y79.1).length cap84, .int .i64 (1)]) (by kernel_rfl) ent67 (c_laws_markInt64SS hy169 F86) ?_
                    rintro _ w170 ⟨rfl, F172, hl173, hc171⟩
                    replace F0 := F0.chg hc171 (Dj.app (Dj.of L0 G87) Dj.nil)
                    replace F1 := F1.chg hc171 (Dj.app (Dj.of L1 G87) Dj.nil)
                    replace F20 := F20.chg hc171 (Dj.app D90 Dj.nil)
                    replace F31 := F31.chg hc171 (Dj.app D91 Dj.nil)
                    replace F43 := F43.chg hc171 (Dj.app D92 Dj.nil)
                    replace F152 := F152.chg hc171 (Dj.app D93 Dj.nil)
                    replace F158 := F158.chg hc171 (Dj.app D94 Dj.nil)
                    replace F110 := F110.chg hc171 (Dj.app (D119).symm Dj.nil)
                    replace F132 := F132.chg hc171 (Dj.app (D141).symm Dj.nil)
                    replace hB := hB.inS hc171 (inApp (inLow G87) inNil)
                    replace hZ := Nat.le_trans hZ hc171.size
                    clear F86
                    refine ⟨.int .i64 (y168.1), rfl, ?_⟩
                    rewrite [(show (y79.1).length = (y168.2).length from hl173.symm)]
                    refine wS_pure 1 [(13, .int .i64 (y168.1))] (by kernel_rfl) ?_
                    refine wS_end (by rfl) ?_
                    refine eX_then ?_
                    refine cW_prune [(0, .slice A0 (l0).length cap0), (1, .slice A1 (l1).length cap1), (6, .slice A40 (y36.1).length cap41), (7, .bool (y36.2)), (10, .slice A83 (y168.2).length cap84), (13, .int .i64 (y168.1))] (by kernel_rfl) (by kernel_rfl) (fun a174 => ?_)
                    refine cW_seq ?_
                    refine cW_region ?_
                    refine wS_pure 1 [(14, .int .i64 (1))] (by kernel_rfl) ?_
                    refine wS_end (by rfl) ?_
                    refine eX_then ?_
                    refine cW_seq ?_
                    refine cW_region ?_
                    refine wS_pure 2 [(87, .int .i64 (1)), (86, .slice A83 (y168.2).length cap84)] (by kernel_rfl) ?_
                    obtain ⟨y175, hy176, hm⟩ := bindE hm
                    refine wS_calls (d := 88) (f := 68) (vs := [.slice A83 (y168.2).length cap84, .int .i64 (1)]) (by kernel_rfl) ent68 (c_laws_heldInt64SS hy176 (F172.slr encI_ok)) ?_
                    rintro _ w177 ⟨rfl, hc178⟩
                    replace F0 := F0.chg hc178 Dj.nil
                    replace F1 := F1.chg hc178 Dj.nil
                    replace F20 := F20.chg hc178 Dj.nil
                    replace F31 := F31.chg hc178 Dj.nil
                    replace F43 := F43.chg hc178 Dj.nil
                    replace F152 := F152.chg hc178 Dj.nil
                    replace F158 := F158.chg hc178 Dj.nil
                    replace F172 := F172.chg hc178 Dj.nil
                    replace F110 := F110.chg hc178 Dj.nil
                    replace F132 := F132.chg hc178 Dj.nil
                    replace hB := hB.inS hc178 inNil
                    replace hZ := Nat.le_trans hZ hc178.size
                    refine ⟨.int .i64 (y175), rfl, ?_⟩
                    refine wS_pure 1 [(14, .int .i64 (y175))] (by kernel_rfl) ?_
                    refine wS_end (by rfl) ?_
                    refine eX_then ?_
                    refine cW_seq ?_
                    refine cW_seq ?_
                    refine cW_region ?_
                    refine wS_pure 2 [(90, .bool (decide (y175 < 0))), (89, .int .i64 (y175))] (by kernel_rfl) ?_
                    refine wS_end (by rfl) ?_
                    refine eX_then ?_
                    refine cW_cond (t := decide (y175 < 0)) (by kernel_rfl) (fun hb179 => ?_) (fun hb179 => ?_)
                    · have hm := condT hb179 hm
                      refine cW_seq ?_
                      refine cW_region ?_
                      refine wS_pure 1 [(4, .bool (false))] (by kernel_rfl) ?_
                      refine wS_end (by rfl) ?_
                      refine eX_then ?_
                      refine cW_ret ?_
                      refine eX_then_ret ?_
                      have hq : (some false : Option ((Bool))) = some _ := hm
                      replace hq := someE hq
                      subst hq
                      refine eX_ret (vs := [.bool (false)]) [.tmp 4] (by rfl) ⟨by (show lkE _ _ _ = _); kernel_rfl, trivial⟩ ?_
                      exact ⟨rfl, hB⟩
                    · have hm := condF hb179 hm
                      refine cW_skip ?_
                      refine eX_then ?_
                      refine cW_seq ?_
                      refine cW_seq ?_
                      refine cW_region ?_
                      refine wS_pure 3 [(93, .bool (y175 != y168.1)), (92, .int .i64 (y168.1)), (91, .int .i64 (y175))] (by kernel_rfl) ?_
                      refine wS_end (by rfl) ?_
                      refine eX_then ?_
                      refine cW_cond (t := y175 != y168.1) (by kernel_rfl) (fun hb180 => ?_) (fun hb180 => ?_)
                      · have hm := condT hb180 hm
                        refine cW_seq ?_
                        refine cW_region ?_
                        refine wS_pure 1 [(4, .bool (false))] (by kernel_rfl) ?_
                        refine wS_end (by rfl) ?_
                        refine eX_then ?_
                        refine cW_ret ?_
                        refine eX_then_ret ?_
                        have hq : (some false : Option ((Bool))) = some _ := hm
                        replace hq := someE hq
                        subst hq
                        refine eX_ret (vs := [.bool (false)]) [.tmp 4] (by rfl) ⟨by (show lkE _ _ _ = _); kernel_rfl, trivial⟩ ?_
                        exact ⟨rfl, hB⟩
                      · have hm := condF hb180 hm
                        refine cW_skip ?_
                        refine eX_then ?_
                        refine cW_seq ?_
                        refine cW_region ?_
                        refine wS_pure 1 [(95, .slice A0 (l0).length cap0)] (by kernel_rfl) ?_
                        obtain ⟨y181, hy182, hm⟩ := bindE hm
                        refine wS_calls (d := 96) (f := 46) (vs := [.slice A0 (l0).length cap0]) (by kernel_rfl) ent46 (c_laws_toPointS hy182 F0) ?_
                        rintro _ w183 ⟨A185, cap186, fp187, rfl, F188, G189, hc184⟩
                        have D192 : Dj fp19 fp187 := Dj.of F20.low G189
                        have D193 : Dj (fp30 ++ fr33) fp187 := Dj.of F31.low G189
                        have D194 : Dj (fp42 ++ fr45) fp187 := Dj.of F43.low G189
                        have D195 : Dj fp56 fp187 := Dj.of F152.low G189
                        have D196 : Dj (fp70 ++ fr73) fp187 := Dj.of F158.low G189
                        have D197 : Dj (fp85 ++ fr88) fp187 := Dj.of F172.low G189
                        have D198 : Dj fp109 fp187 := Dj.of F110.low G189
                        have D199 : Dj (fp131 ++ fr134) fp187 := Dj.of F132.low G189
                        replace F0 := F0.chg hc184 Dj.nil
                        replace F1 := F1.chg hc184 Dj.nil
                        replace F20 := F20.chg hc184 Dj.nil
                        replace F31 := F31.chg hc184 Dj.nil
                        replace F43 := F43.chg hc184 Dj.nil
                        replace F152 := F152.chg hc184 Dj.nil
                        replace F158 := F158.chg hc184 Dj.nil
                        replace F172 := F172.chg hc184 Dj.nil
                        replace F110 := F110.chg hc184 Dj.nil
                        replace F132 := F132.chg hc184 Dj.nil
                        replace hB := hB.inS hc184 inNil
                        replace G189 := low_le hZ G189
                        replace hZ := Nat.le_trans hZ hc184.size
                        refine ⟨.slice A185 (y181).length cap186, rfl, ?_⟩
                        refine wS_pure 1 [(97, .slice A1 (l1).length cap1)] (by kernel_rfl) ?_
                        obtain ⟨y200, hy201, hm⟩ := bindE hm
                        refine wS_calls (d := 98) (f := 38) (vs := [.slice A1 (l1).length cap1]) (by kernel_rfl) ent38 (c_laws_toInt64SS hy201 F1) ?_
                        rintro _ w202 ⟨A204, cap205, fp206, fr209, rfl, F207, G208, hc203⟩
                        have D211 : Dj fp19 (fp206 ++ fr209) := Dj.of F20.low G208
                        have D212 : Dj (fp30 ++ fr33) (fp206 ++ fr209) := Dj.of F31.low G208
                        have D213 : Dj (fp42 ++ fr45) (fp206 ++ fr209) := Dj.of F43.low G208
                        have D214 : Dj fp56 (fp206 ++ fr209) := Dj.of F152.low G208
                        have D215 : Dj (fp70 ++ fr73) (fp206 ++ fr209) := Dj.of F158.low G208
                        have D216 : Dj (fp85 ++ fr88) (fp206 ++ fr209) := Dj.of F172.low G208
                        have D217 : Dj fp109 (fp206 ++ fr209) := Dj.of F110.low G208
                        have D218 : Dj (fp131 ++ fr134) (fp206 ++ fr209) := Dj.of F132.low G208
                        have D219 : Dj fp187 (fp206 ++ fr209) := Dj.of F188.low G208
                        replace F0 := F0.chg hc203 Dj.nil
                        replace F1 := F1.chg hc203 Dj.nil
                        replace F20 := F20.chg hc203 Dj.nil
                        replace F31 := F31.chg hc203 Dj.nil
                        replace F43 := F43.chg hc203 Dj.nil
                        replace F152 := F152.chg hc203 Dj.nil
                        replace F158 := F158.chg hc203 Dj.nil
                        replace F172 := F172.chg hc203 Dj.nil
                        replace F110 := F110.chg hc203 Dj.nil
                        replace F132 := F132.chg hc203 Dj.nil
                        replace F188 := F188.chg hc203 Dj.nil
                        replace hB := hB.inS hc203 inNil
                        replace G208 := low_le hZ G208
                        replace hZ := Nat.le_trans hZ hc203.size
                        refine ⟨.slice A204 (y200).length cap205, rfl, ?_⟩
                        obtain ⟨y220, hy221, hm⟩ := bindE hm
                        refine wS_calls (d := 99) (f := 60) (vs := [.slice A185 (y181).length cap186, .slice A204 (y200).length cap205]) (by kernel_rfl) ent60 (c_impl_ClockPlaces hy221 (F188.sl encII_ok) (F207.slr encI_ok)) ?_
                        rintro _ w222 ⟨A224, cap225, fp226, fr229, rfl, F227, G228, hc223⟩
                        have D231 : Dj fp19 (fp226 ++ fr229) := Dj.of F20.low G228
                        have D232 : Dj (fp30 ++ fr33) (fp226 ++ fr229) := Dj.of F31.low G228
                        have D233 : Dj (fp42 ++ fr45) (fp226 ++ fr229) := Dj.of F43.low G228
                        have D234 : Dj fp56 (fp226 ++ fr229) := Dj.of F152.low G228
                        have D235 : Dj (fp70 ++ fr73) (fp226 ++ fr229) := Dj.of F158.low G228
                        have D236 : Dj (fp85 ++ fr88) (fp226 ++ fr229) := Dj.of F172.low G228
                        have D237 : Dj fp109 (fp226 ++ fr229) := Dj.of F110.low G228
                        have D238 : Dj (fp131 ++ fr134) (fp226 ++ fr229) := Dj.of F132.low G228
                        have D239 : Dj fp187 (fp226 ++ fr229) := Dj.of F188.low G228
                        have D240 : Dj (fp206 ++ fr209) (fp226 ++ fr229) := Dj.of F207.low G228
                        replace F0 := F0.chg hc223 Dj.nil
                        replace F1 := F1.chg hc223 Dj.nil
                        replace F20 := F20.chg hc223 Dj.nil
                        replace F31 := F31.chg hc223 Dj.nil
                        replace F43 := F43.chg hc223 Dj.nil
                        replace F152 := F152.chg hc223 Dj.nil
                        replace F158 := F158.chg hc223 Dj.nil
                        replace F172 := F172.chg hc223 Dj.nil
                        replace F110 := F110.chg hc223 Dj.nil
                        replace F132 := F132.chg hc223 Dj.nil
                        replace F188 := F188.chg hc223 Dj.nil
                        replace F207 := F207.chg hc223 Dj.nil
                        replace hB := hB.inS hc223 inNil
                        replace G228 := low_le hZ G228
                        replace hZ := Nat.le_trans hZ hc223.size
                        refine ⟨.tuple #[.slice A224 (y220.1).length cap225, .bool (y220.2)], rfl, ?_⟩
                        refine wS_pure 5 [(16, .bool (y220.2)), (15, .slice A224 (y220.1).length cap225), (101, .bool (y220.2)), (100, .slice A224 (y220.1).length cap225), (94, .tuple #[.slice A224 (y220.1).length cap225, .bool (y220.2)])] (by kernel_rfl) ?_
                        refine wS_end (by rfl) ?_
                        refine eX_then ?_
                        refine cW_prune [(6, .slice A40 (y36.1).length cap41), (7, .bool (y36.2)), (10, .slice A83 (y168.2).length cap84), (13, .int .i64 (y168.1)), (15, .slice A224 (y220.1).length cap225), (16, .bool (y220.2))] (by kernel_rfl) (by kernel_rfl) (fun a241 => ?_)
                        refine cW_seq ?_
                        refine cW_seq ?_
                        refine cW_region ?_
                        refine wS_pure 2 [(103, .slice A40 (y36.1).length cap41), (102, .slice A224 (y220.1).length cap225)] (by kernel_rfl) ?_
                        obtain ⟨y242, hy243, hm⟩ := bindE hm
                        refine wS_calls (d := 104) (f := 40) (vs := [.slice A224 (y220.1).length cap225, .slice A40 (y36.1).length cap41]) (by kernel_rfl) ent40 (c_laws_eqInt64SS hy243 (F227.slr encI_ok) (F43.slr encI_ok)) ?_
                        rintro _ w244 ⟨rfl, hc245⟩
                        replace F0 := F0.chg hc245 Dj.nil
                        replace F1 := F1.chg hc245 Dj.nil
                        replace F20 := F20.chg hc245 Dj.nil
                        replace F31 := F31.chg hc245 Dj.nil
                        replace F43 := F43.chg hc245 Dj.nil
                        replace F152 := F152.chg hc245 Dj.nil
                        replace F158 := F158.chg hc245 Dj.nil
                        replace F172 := F172.chg hc245 Dj.nil
                        replace F110 := F110.chg hc245 Dj.nil
                        replace F132 := F132.chg hc245 Dj.nil
                        replace F188 := F188.chg hc245 Dj.nil
                        replace F207 := F207.chg hc245 Dj.nil
                        replace F227 := F227.chg hc245 Dj.nil
                        replace hB := hB.inS hc245 inNil
                        replace hZ := Nat.le_trans hZ hc245.size
                        refine ⟨.bool (y242), rfl, ?_⟩
                        refine wS_pure 2 [(106, .bool (!y242)), (105, .bool (!y242))] (by kernel_rfl) ?_
                        refine wS_bool (!y242) (fun hb246 => ?_) (fun hb246 => ?_)
                        · have hm := condT hb246 hm
                          rewrite [hb246]
                          refine wS_pure 4 [(110, .bool (true)), (109, undef), (108, undef), (107, undef)] (by kernel_rfl) ?_
                          refine wS_end (by rfl) ?_
                          refine eX_then ?_
                          refine cW_cond_t (by kernel_rfl) ?_
                          refine cW_seq ?_
                          refine cW_region ?_
                          refine wS_pure 1 [(4, .bool (false))] (by kernel_rfl) ?_
                          refine wS_end (by rfl) ?_
                          refine eX_then ?_
                          refine cW_ret ?_
                          refine eX_then_ret ?_
                          have hq : (some false : Option ((Bool))) = some _ := hm
                          replace hq := someE hq
                          subst hq
                          refine eX_ret (vs := [.bool (false)]) [.tmp 4] (by rfl) ⟨by (show lkE _ _ _ = _); kernel_rfl, trivial⟩ ?_
                          exact ⟨rfl, hB⟩
                        · have hm := condF hb246 hm
                          rewrite [hb246]
                          refine wS_pure 4 [(110, .bool (!(y220.2 == y36.2))), (109, .bool (!(y220.2 == y36.2))), (108, .bool (y36.2)), (107, .bool (y220.2))] (by kernel_rfl) ?_
                          refine wS_end (by rfl) ?_
                          refine eX_then ?_
                          refine cW_cond (t := !(y220.2 == y36.2)) (by kernel_rfl) (fun hb247 => ?_) (fun hb247 => ?_)
                          · have hm := condT hb247 hm
                            refine cW_seq ?_
                            refine cW_region ?_
                            refine wS_pure 1 [(4, .bool (false))] (by kernel_rfl) ?_
                            refine wS_end (by rfl) ?_
                            refine eX_then ?_
                            refine cW_ret ?_
                            refine eX_then_ret ?_
                            have hq : (some false : Option ((Bool))) = some _ := hm
                            replace hq := someE hq
                            subst hq
                            refine eX_ret (vs := [.bool (false)]) [.tmp 4] (by rfl) ⟨by (show lkE _ _ _ = _); kernel_rfl, trivial⟩ ?_
                            exact ⟨rfl, hB⟩
                          · have hm := condF hb247 hm
                            refine cW_skip ?_
                            refine eX_then ?_
                            refine cW_seq ?_
                            refine cW_region ?_
                            refine wS_pure 1 [(14, .int .i64 (1))] (by kernel_rfl) ?_
                            refine wS_end (by rfl) ?_
                            refine eX_then ?_
                            refine cW_seq ?_
                            refine cW_region ?_
                            refine wS_pure 2 [(112, .int .i64 (1)), (111, .slice A83 (y168.2).length cap84)] (by kernel_rfl) ?_
                            obtain ⟨y248, hy249, hm⟩ := bindE hm
                            refine wS_calls (d := 113) (f := 68) (vs := [.slice A83 (y168.2).length cap84, .int .i64 (1)]) (by kernel_rfl) ent68 (c_laws_heldInt64SS hy249 (F172.slr encI_ok)) ?_
                            rintro _ w250 ⟨rfl, hc251⟩
                            replace F0 := F0.chg hc251 Dj.nil
                            replace F1 := F1.chg hc251 Dj.nil
                            replace F20 := F20.chg hc251 Dj.nil
                            replace F31 := F31.chg hc251 Dj.nil
                            replace F43 := F43.chg hc251 Dj.nil
                            replace F152 := F152.chg hc251 Dj.nil
                            replace F158 := F158.chg hc251 Dj.nil
                            replace F172 := F172.chg hc251 Dj.nil
                            replace F110 := F110.chg hc251 Dj.nil
                            replace F132 := F132.chg hc251 Dj.nil
                            replace F188 := F188.chg hc251 Dj.nil
                            replace F207 := F207.chg hc251 Dj.nil
                            replace F227 := F227.chg hc251 Dj.nil
                            replace hB := hB.inS hc251 inNil
                            replace hZ := Nat.le_trans hZ hc251.size
                            refine ⟨.int .i64 (y248), rfl, ?_⟩
                            refine wS_pure 1 [(14, .int .i64 (y248))] (by kernel_rfl) ?_
                            refine wS_end (by rfl) ?_
                            refine eX_then ?_
                            refine cW_seq ?_
                            refine cW_seq ?_
                            refine cW_region ?_
                            refine wS_pure 2 [(115, .bool (decide (y248 < 0))), (114, .int .i64 (y248))] (by kernel_rfl) ?_
                            refine wS_end (by rfl) ?_
                            refine eX_then ?_
                            refine cW_cond (t := decide (y248 < 0)) (by kernel_rfl) (fun hb252 => ?_) (fun hb252 => ?_)
                            · have hm := condT hb252 hm
                              refine cW_seq ?_
                              refine cW_region ?_
                              refine wS_pure 1 [(4, .bool (false))] (by kernel_rfl) ?_
                              refine wS_end (by rfl) ?_
                              refine eX_then ?_
                              refine cW_ret ?_
                              refine eX_then_ret ?_
                              have hq : (some false : Option ((Bool))) = some _ := hm
                              replace hq := someE hq
                              subst hq
                              refine eX_ret (vs := [.bool (false)]) [.tmp 4] (by rfl) ⟨by (show lkE _ _ _ = _); kernel_rfl, trivial⟩ ?_
                              exact ⟨rfl, hB⟩
                            · have hm := condF hb252 hm
                              refine cW_skip ?_
                              refine eX_then ?_
                              refine cW_seq ?_
                              refine cW_seq ?_
                              refine cW_region ?_
                              refine wS_pure 3 [(118, .bool (y248 != y168.1)), (117, .int .i64 (y168.1)), (116, .int .i64 (y248))] (by kernel_rfl) ?_
                              refine wS_end (by rfl) ?_
                              refine eX_then ?_
                              refine cW_prune [(118, .bool (y248 != y168.1))] (by kernel_rfl) (by kernel_rfl) (fun a253 => ?_)
                              refine cW_cond (t := y248 != y168.1) (by kernel_rfl) (fun hb254 => ?_) (fun hb254 => ?_)
                              · have hm := condT hb254 hm
                                refine cW_seq ?_
                                refine cW_region ?_
                                refine wS_pure 1 [(4, .bool (false))] (by kernel_rfl) ?_
                                refine wS_end (by rfl) ?_
                                refine eX_then ?_
                                refine cW_ret ?_
                                refine eX_then_ret ?_
                                have hq : (some false : Option ((Bool))) = some _ := hm
                                replace hq := someE hq
                                subst hq
                                refine eX_ret (vs := [.bool (false)]) [.tmp 4] (by rfl) ⟨by (show lkE _ _ _ = _); kernel_rfl, trivial⟩ ?_
                                exact ⟨rfl, hB⟩
                              · have hm := condF hb254 hm
                                refine cW_skip ?_
                                refine eX_then ?_
                                refine cW_seq ?_
                                refine cW_region ?_
                                refine wS_pure 1 [(4, .bool (true))] (by kernel_rfl) ?_
                                refine wS_end (by rfl) ?_
                                refine eX_then ?_
                                refine cW_ret ?_
                                have hq : (some true : Option ((Bool))) = some _ := hm
                                replace hq := someE hq
                                subst hq
                                refine eX_ret (vs := [.bool (true)]) [.tmp 4] (by rfl) ⟨by (show lkE _ _ _ = _); kernel_rfl, trivial⟩ ?_
                                exact ⟨rfl, hB⟩

end Go.Proofs.Ytmodhpgnkbnbaaa
