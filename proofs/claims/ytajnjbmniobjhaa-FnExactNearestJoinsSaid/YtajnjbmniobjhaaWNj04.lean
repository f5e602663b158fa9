/- Printed walks: laws.FnExactNearestJoins. -/
import Derived.Test.YtajnjbmniobjhaaProg
import Derived.Test.YtajnjbmniobjhaaWNj03
set_option linter.unusedSimpArgs false
set_option linter.unusedVariables false
namespace Go.Proofs.Ytajnjbmniobjhaa
open Go.RowKit
attribute [local irreducible] wS cW eX wH

theorem ent50 : Ent Try.prog 50 := fun _ => by kernel_rfl
theorem ent53 : Ent Try.prog 53 := fun _ => by kernel_rfl
theorem ent54 : Ent Try.prog 54 := fun _ => by kernel_rfl
theorem ent55 : Ent Try.prog 55 := fun _ => by kernel_rfl
theorem ent56 : Ent Try.prog 56 := fun _ => by kernel_rfl
theorem ent57 : Ent Try.prog 57 := fun _ => by kernel_rfl
theorem ent58 : Ent Try.prog 58 := fun _ => by kernel_rfl
theorem ent59 : Ent Try.prog 59 := fun _ => by kernel_rfl
theorem ent60 : Ent Try.prog 60 := fun _ => by kernel_rfl

set_option maxRecDepth 100000 in
/-- laws.FnExactNearestJoins -/
theorem c_laws_FnExactNearestJoins {w0 : World} {l0 : List (Int × Int)} {A0 : Option Addr} {cap0 : Nat} {fp0 : List Nat} {r : (Bool)} (hm : m_laws_FnExactNearestJoins l0 = some r) (F0 : Sl 2 encII w0 fp0 A0 l0) :
    Calls Try.prog 10 #[.slice A0 (l0).length cap0] w0 fun e w' => e = .returned (.bool (r)) ∧ Chg [] w0 w' := by
  have L0 := F0.low
  have hB : Chg [] w0 w0 := Chg.refl _ _
  have hZ := Nat.le_refl w0.heap.size
  unfold m_laws_FnExactNearestJoins at hm
  refine enterE (N := 96) Try.func10 (by rfl) Try.ntmps10 (by simp) [(0, .slice A0 (l0).length cap0)] (by rfl) (by kernel_rfl) (fun a => ?_)
  refine cW_seq ?_
  refine cW_region ?_
  refine wS_pure 1 [(2, .bool (false))] (by kernel_rfl) ?_
  refine wS_end (by rfl) ?_
  refine eX_then ?_
  refine cW_seq ?_
  refine cW_region ?_
  refine wS_pure 1 [(3, .int .i64 (1048576))] (by kernel_rfl) ?_
  refine wS_end (by rfl) ?_
  refine eX_then ?_
  refine cW_seq ?_
  refine cW_region ?_
  refine wS_pure 2 [(15, .int .i64 (1048576)), (14, .slice A0 (l0).length cap0)] (by kernel_rfl) ?_
  obtain ⟨y2, hy3, hm⟩ := bindE hm
  refine wS_calls (d := 16) (f := 53) (vs := [.slice A0 (l0).length cap0, .int .i64 (1048576)]) (by kernel_rfl) ent53 (c_laws_szPointS hy3 F0) ?_
  rintro _ w4 ⟨rfl, hc5⟩
  replace F0 := F0.chg hc5 Dj.nil
  replace hB := hB.inS hc5 inNil
  replace hZ := Nat.le_trans hZ hc5.size
  refine ⟨.int .i64 (y2), rfl, ?_⟩
  refine wS_pure 1 [(3, .int .i64 (y2))] (by kernel_rfl) ?_
  refine wS_end (by rfl) ?_
  refine eX_then ?_
  refine cW_seq ?_
  refine cW_seq ?_
  refine cW_region ?_
  refine wS_pure 2 [(18, .bool (decide (y2 < 0))), (17, .int .i64 (y2))] (by kernel_rfl) ?_
  refine wS_end (by rfl) ?_
  refine eX_then ?_
  refine cW_cond (t := decide (y2 < 0)) (by kernel_rfl) (fun hb6 => ?_) (fun hb6 => ?_)
  · have hm := condT hb6 hm
    refine cW_seq ?_
    refine cW_region ?_
    refine wS_pure 1 [(2, .bool (true))] (by kernel_rfl) ?_
    refine wS_end (by rfl) ?_
    refine eX_then ?_
    refine cW_ret ?_
    refine eX_then_ret ?_
    have hq : (some true : Option ((Bool))) = some _ := hm
    replace hq := someE hq
    subst hq
    refine eX_ret (vs := [.bool (true)]) [.tmp 2] (by rfl) ⟨by (show lkE _ _ _ = _); kernel_rfl, trivial⟩ ?_
    exact ⟨rfl, hB⟩
  · have hm := condF hb6 hm
    refine cW_skip ?_
    refine eX_then ?_
    refine cW_seq ?_
    refine cW_region ?_
    refine wS_pure 1 [(20, .slice A0 (l0).length cap0)] (by kernel_rfl) ?_
    obtain ⟨y7, hy8, hm⟩ := bindE hm
    refine wS_calls (d := 21) (f := 55) (vs := [.slice A0 (l0).length cap0]) (by kernel_rfl) ent55 (c_laws_toPointS hy8 F0) ?_
    rintro _ w9 ⟨A11, cap12, fp13, rfl, F14, G15, hc10⟩
    replace F0 := F0.chg hc10 Dj.nil
    replace hB := hB.inS hc10 inNil
    replace G15 := low_le hZ G15
    replace hZ := Nat.le_trans hZ hc10.size
    refine ⟨.slice A11 (y7).length cap12, rfl, ?_⟩
    obtain ⟨y18, hy19, hm⟩ := bindE hm
    refine wS_calls (d := 22) (f := 54) (vs := [.slice A11 (y7).length cap12]) (by kernel_rfl) ent54 (c_spec_NearestJoins hy19 (F14.sl encII_ok)) ?_
    rintro _ w20 ⟨A22, cap23, fp24, fr27, rfl, F25, G26, hc21⟩
    have D29 : Dj fp13 (fp24 ++ fr27) := Dj.of F14.low G26
    replace F0 := F0.chg hc21 Dj.nil
    replace F14 := F14.chg hc21 Dj.nil
    replace hB := hB.inS hc21 inNil
    replace G26 := low_le hZ G26
    replace hZ := Nat.le_trans hZ hc21.size
    refine ⟨.tuple #[.slice A22 (y18.1).length cap23, .bool (y18.2)], rfl, ?_⟩
    refine wS_pure 5 [(5, .bool (y18.2)), (4, .slice A22 (y18.1).length cap23), (24, .bool (y18.2)), (23, .slice A22 (y18.1).length cap23), (19, .tuple #[.slice A22 (y18.1).length cap23, .bool (y18.2)])] (by kernel_rfl) ?_
    refine wS_end (by rfl) ?_
    refine eX_then ?_
    refine cW_seq ?_
    refine cW_region ?_
    refine wS_pure 1 [(25, .slice A0 (l0).length cap0)] (by kernel_rfl) ?_
    obtain ⟨y30, hy31, hm⟩ := bindE hm
    refine wS_calls (d := 26) (f := 55) (vs := [.slice A0 (l0).length cap0]) (by kernel_rfl) ent55 (c_laws_toPointS hy31 F0) ?_
    rintro _ w32 ⟨A34, cap35, fp36, rfl, F37, G38, hc33⟩
    have D41 : Dj fp13 fp36 := Dj.of F14.low G38
    have D42 : Dj (fp24 ++ fr27) fp36 := Dj.of F25.low G38
    replace F0 := F0.chg hc33 Dj.nil
    replace F14 := F14.chg hc33 Dj.nil
    replace F25 := F25.chg hc33 Dj.nil
    replace hB := hB.inS hc33 inNil
    replace G38 := low_le hZ G38
    replace hZ := Nat.le_trans hZ hc33.size
    refine ⟨.slice A34 (y30).length cap35, rfl, ?_⟩
    refine wS_pure 1 [(6, .slice A34 (y30).length cap35)] (by kernel_rfl) ?_
    refine wS_end (by rfl) ?_
    refine eX_then ?_
    refine cW_seq ?_
    refine cW_region ?_
    refine wS_pure 1 [(28, .slice A34 (y30).length cap35)] (by kernel_rfl) ?_
    obtain ⟨y43, hy44, hm⟩ := bindE hm
    refine wS_calls (d := 29) (f := 50) (vs := [.slice A34 (y30).length cap35]) (by kernel_rfl) ent50 (c_impl_NearestJoins hy44 (F37.sl encII_ok)) ?_
    rintro _ w45 ⟨A47, cap48, fp49, fr52, rfl, F50, G51, hc46⟩
    have D54 : Dj fp13 (fp49 ++ fr52) := Dj.of F14.low G51
    have D55 : Dj (fp24 ++ fr27) (fp49 ++ fr52) := Dj.of F25.low G51
    have D56 : Dj fp36 (fp49 ++ fr52) := Dj.of F37.low G51
    replace F0 := F0.chg hc46 Dj.nil
    replace F14 := F14.chg hc46 Dj.nil
    replace F25 := F25.chg hc46 Dj.nil
    replace F37 := F37.chg hc46 Dj.nil
    replace hB := hB.inS hc46 inNil
    replace G51 := low_le hZ G51
    replace hZ := Nat.le_trans hZ hc46.size
    refine ⟨.tuple #[.slice A47 (y43.1).length cap48, .bool (y43.2)], rfl, ?_⟩
    refine wS_pure 5 [(8, .bool (y43.2)), (7, .slice A47 (y43.1).length cap48), (31, .bool (y43.2)), (30, .slice A47 (y43.1).length cap48), (27, .tuple #[.slice A47 (y43.1).length cap48, .bool (y43.2)])] (by kernel_rfl) ?_
    refine wS_end (by rfl) ?_
    refine eX_then ?_
    refine cW_prune [(0, .slice A0 (l0).length cap0), (4, .slice A22 (y18.1).length cap23), (5, .bool (y18.2)), (6, .slice A34 (y30).length cap35), (7, .slice A47 (y43.1).length cap48), (8, .bool (y43.2))] (by kernel_rfl) (by kernel_rfl) (fun a57 => ?_)
    refine cW_seq ?_
    refine cW_seq ?_
    refine cW_region ?_
    refine wS_pure 2 [(33, .slice A22 (y18.1).length cap23), (32, .slice A47 (y43.1).length cap48)] (by kernel_rfl) ?_
    obtain ⟨y58, hy59, hm⟩ := bindE hm
    refine wS_calls (d := 34) (f := 56) (vs := [.slice A47 (y43.1).length cap48, .slice A22 (y18.1).length cap23]) (by kernel_rfl) ent56 (c_laws_eqInt64SS hy59 (F50.slr encI_ok) (F25.slr encI_ok)) ?_
    rintro _ w60 ⟨rfl, hc61⟩
    replace F0 := F0.chg hc61 Dj.nil
    replace F14 := F14.chg hc61 Dj.nil
    replace F25 := F25.chg hc61 Dj.nil
    replace F37 := F37.chg hc61 Dj.nil
    replace F50 := F50.chg hc61 Dj.nil
    replace hB := hB.inS hc61 inNil
    replace hZ := Nat.le_trans hZ hc61.size
    refine ⟨.bool (y58), rfl, ?_⟩
    refine wS_pure 2 [(36, .bool (!y58)), (35, .bool (!y58))] (by kernel_rfl) ?_
    refine wS_bool (!y58) (fun hb62 => ?_) (fun hb62 => ?_)
    · have hm := condT hb62 hm
      rewrite [hb62]
      refine wS_pure 4 [(40, .bool (true)), (39, undef), (38, undef), (37, undef)] (by kernel_rfl) ?_
      refine wS_end (by rfl) ?_
      refine eX_then ?_
      refine cW_cond_t (by kernel_rfl) ?_
      refine cW_seq ?_
      refine cW_region ?_
      refine wS_pure 1 [(2, .bool (false))] (by kernel_rfl) ?_
      refine wS_end (by rfl) ?_
      refine eX_then ?_
      refine cW_ret ?_
      refine eX_then_ret ?_
      have hq : (some false : Option ((Bool))) = some _ := hm
      replace hq := someE hq
      subst hq
      refine eX_ret (vs := [.bool (false)]) [.tmp 2] (by rfl) ⟨by (show lkE _ _ _ = _); kernel_rfl, trivial⟩ ?_
      exact ⟨rfl, hB⟩
    · have hm := condF hb62 hm
      rewrite [hb62]
      refine wS_pure 4 [(40, .bool (!(y43.2 == y18.2))), (39, .bool (!(y43.2 == y18.2))), (38, .bool (y18.2)), (37, .bool (y43.2))] (by kernel_rfl) ?_
      refine wS_end (by rfl) ?_
      refine eX_then ?_
      refine cW_cond (t := !(y43.2 == y18.2)) (by kernel_rfl) (fun hb63 => ?_) (fun hb63 => ?_)
      · have hm := condT hb63 hm
        refine cW_seq ?_
        refine cW_region ?_
        refine wS_pure 1 [(2, .bool (false))] (by kernel_rfl) ?_
        refine wS_end (by rfl) ?_
        refine eX_then ?_
        refine cW_ret ?_
        refine eX_then_ret ?_
        have hq : (some false : Option ((Bool))) = some _ := hm
        replace hq := someE hq
        subst hq
        refine eX_ret (vs := [.bool (false)]) [.tmp 2] (by rfl) ⟨by (show lkE _ _ _ = _); kernel_rfl, trivial⟩ ?_
        exact ⟨rfl, hB⟩
      · have hm := condF hb63 hm
        refine cW_skip ?_
        refine eX_then ?_
        refine cW_seq ?_
        refine cW_seq ?_
        refine cW_region ?_
        refine wS_pure 2 [(42, .slice A0 (l0).length cap0), (41, .slice A34 (y30).length cap35)] (by kernel_rfl) ?_
        obtain ⟨y64, hy65, hm⟩ := bindE hm
        refine wS_calls (d := 43) (f := 55) (vs := [.slice A0 (l0).length cap0]) (by kernel_rfl) ent55 (c_laws_toPointS hy65 F0) ?_
        rintro _ w66 ⟨A68, cap69, fp70, rfl, F71, G72, hc67⟩
        have D75 : Dj fp13 fp70 := Dj.of F14.low G72
        have D76 : Dj (fp24 ++ fr27) fp70 := Dj.of F25.low G72
        have D77 : Dj fp36 fp70 := Dj.of F37.low G72
        have D78 : Dj (fp49 ++ fr52) fp70 := Dj.of F50.low G72
        replace F0 := F0.chg hc67 Dj.nil
        replace F14 := F14.chg hc67 Dj.nil
        replace F25 := F25.chg hc67 Dj.nil
        replace F37 := F37.chg hc67 Dj.nil
        replace F50 := F50.chg hc67 Dj.nil
        replace hB := hB.inS hc67 inNil
        replace G72 := low_le hZ G72
        replace hZ := Nat.le_trans hZ hc67.size
        refine ⟨.slice A68 (y64).length cap69, rfl, ?_⟩
        obtain ⟨y79, hy80, hm⟩ := bindE hm
        refine wS_calls (d := 44) (f := 57) (vs := [.slice A34 (y30).length cap35, .slice A68 (y64).length cap69]) (by kernel_rfl) ent57 (c_laws_eqPointS hy80 (F37.sl encII_ok) (F71.sl encII_ok)) ?_
        rintro _ w81 ⟨rfl, hc82⟩
        replace F0 := F0.chg hc82 Dj.nil
        replace F14 := F14.chg hc82 Dj.nil
        replace F25 := F25.chg hc82 Dj.nil
        replace F37 := F37.chg hc82 Dj.nil
        replace F50 := F50.chg hc82 Dj.nil
        replace F71 := F71.chg hc82 Dj.nil
        replace hB := hB.inS hc82 inNil
        replace hZ := Nat.le_trans hZ hc82.size
        refine ⟨.bool (y79), rfl, ?_⟩
        refine wS_pure 1 [(45, .bool (!y79))] (by kernel_rfl) ?_
        refine wS_end (by rfl) ?_
        refine eX_then ?_
        refine cW_cond (t := !y79) (by kernel_rfl) (fun hb83 => ?_) (fun hb83 => ?_)
        · have hm := condT hb83 hm
          refine cW_seq ?_
          refine cW_region ?_
          refine wS_pure 1 [(2, .bool (false))] (by kernel_rfl) ?_
          refine wS_end (by rfl) ?_
          refine eX_then ?_
          refine cW_ret ?_
          refine eX_then_ret ?_
          have hq : (some false : Option ((Bool))) = some _ := hm
          replace hq := someE hq
          subst hq
          refine eX_ret (vs := [.bool (false)]) [.tmp 2] (by rfl) ⟨by (show lkE _ _ _ = _); kernel_rfl, trivial⟩ ?_
          exact ⟨rfl, hB⟩
        · have hm := condF hb83 hm
          refine cW_skip ?_
          refine eX_then ?_
          refine cW_seq ?_
          refine cW_region ?_
          refine wS_pure 1 [(9, .int .i64 (1))] (by kernel_rfl) ?_
          refine wS_end (by rfl) ?_
          refine eX_then ?_
          refine cW_seq ?_
          refine cW_region ?_
          refine wS_pure 2 [(47, .int .i64 (1)), (46, .slice A34 (y30).length cap35)] (by kernel_rfl) ?_
          obtain ⟨y84, hy85, hm⟩ := bindE hm
          refine wS_calls (d := 48) (f := 58) (vs := [.slice A34 (y30).length cap35, .int .i64 (1)]) (by kernel_rfl) ent58 (c_laws_markPointS hy85 F37) ?_
          rintro _ w86 ⟨rfl, F88, hl89, hc87⟩
          replace F0 := F0.chg hc87 (Dj.app (Dj.of L0 G38) Dj.nil)
          replace F14 := F14.chg hc87 (Dj.app D41 Dj.nil)
          replace F25 := F25.chg hc87 (Dj.app D42 Dj.nil)
          replace F50 := F50.chg hc87 (Dj.app (D56).symm Dj.nil)
          replace F71 := F71.chg hc87 (Dj.app (D77).symm Dj.nil)
          replace hB := hB.inS hc87 (inApp (inLow G38) inNil)
          replace hZ := Nat.le_trans hZ hc87.size
          clear F37
          refine ⟨.int .i64 (y84.1), rfl, ?_⟩
          rewrite [(show (y30).length = (y84.2).length from hl89.symm)]
          refine wS_pure 1 [(9, .int .i64 (y84.1))] (by kernel_rfl) ?_
          refine wS_end (by rfl) ?_
          refine eX_then ?_
          refine cW_prune [(0, .slice A0 (l0).length cap0), (4, .slice A22 (y18.1).length cap23), (5, .bool (y18.2)), (7, .slice A47 (y43.1).length cap48), (8, .bool (y43.2)), (9, .int .i64 (y84.1))] (by kernel_rfl) (by kernel_rfl) (fun a90 => ?_)
          refine cW_seq ?_
          refine cW_seq ?_
          refine cW_region ?_
          refine wS_pure 3 [(51, .bool (decide (y84.1 < 0))), (50, .bool (decide (y84.1 < 0))), (49, .int .i64 (y84.1))] (by kernel_rfl) ?_
          refine wS_bool (decide (y84.1 < 0)) (fun hb91 => ?_) (fun hb91 => ?_)
          · have hm := condT hb91 hm
            rewrite [hb91]
            refine wS_pure 10 [(61, .bool (true)), (60, undef), (59, undef), (58, undef), (57, .bool (true)), (56, .bool (true)), (55, undef), (54, undef), (53, undef), (52, undef)] (by kernel_rfl) ?_
            refine wS_end (by rfl) ?_
            refine eX_then ?_
            refine cW_cond_t (by kernel_rfl) ?_
            refine cW_seq ?_
            refine cW_region ?_
            refine wS_pure 1 [(2, .bool (false))] (by kernel_rfl) ?_
            refine wS_end (by rfl) ?_
            refine eX_then ?_
            refine cW_ret ?_
            refine eX_then_ret ?_
            have hq : (some false : Option ((Bool))) = some _ := hm
            replace hq := someE hq
            subst hq
            refine eX_ret (vs := [.bool (false)]) [.tmp 2] (by rfl) ⟨by (show lkE _ _ _ = _); kernel_rfl, trivial⟩ ?_
            exact ⟨rfl, hB⟩
          · have hm := condF hb91 hm
            rewrite [hb91]
            refine wS_pure 2 [(53, .slice A22 (y18.1).length cap23), (52, .slice A47 (y43.1).length cap48)] (by kernel_rfl) ?_
            obtain ⟨y92, hy93, hm⟩ := bindE hm
            refine wS_calls (d := 54) (f := 56) (vs := [.slice A47 (y43.1).length cap48, .slice A22 (y18.1).length cap23]) (by kernel_rfl) ent56 (c_laws_eqInt64SS hy93 (F50.slr encI_ok) (F25.slr encI_ok)) ?_
            rintro _ w94 ⟨rfl, hc95⟩
            replace F0 := F0.chg hc95 Dj.nil
            replace F14 := F14.chg hc95 Dj.nil
            replace F25 := F25.chg hc95 Dj.nil
            replace F88 := F88.chg hc95 Dj.nil
            replace F50 := F50.chg hc95 Dj.nil
            replace F71 := F71.chg hc95 Dj.nil
            replace hB := hB.inS hc95 inNil
            replace hZ := Nat.le_trans hZ hc95.size
            refine ⟨.bool (y92), rfl, ?_⟩
            refine wS_pure 3 [(57, .bool (!y92)), (56, .bool (!y92)), (55, .bool (!y92))] (by kernel_rfl) ?_
            refine wS_bool (!y92) (fun hb96 => ?_) (fun hb96 => ?_)
            · have hm := condT hb96 hm
              rewrite [hb96]
              refine wS_pure 4 [(61, .bool (true)), (60, undef), (59, undef), (58, undef)] (by kernel_rfl) ?_
              refine wS_end (by rfl) ?_
              refine eX_then ?_
              refine cW_cond_t (by kernel_rfl) ?_
              refine cW_seq ?_
              refine cW_region ?_
              refine wS_pure 1 [(2, .bool (false))] (by kernel_rfl) ?_
              refine wS_end (by rfl) ?_
              refine eX_then ?_
              refine cW_ret ?_
              refine eX_then_ret ?_
              have hq : (some false : Option ((Bool))) = some _ := hm
              replace hq := someE hq
              subst hq
              refine eX_ret (vs := [.bool (false)]) [.tmp 2] (by rfl) ⟨by (show lkE _ _ _ = _); kernel_rfl, trivial⟩ ?_
              exact ⟨rfl, hB⟩
            · have hm := condF hb96 hm
              rewrite [hb96]
              refine wS_pure 4 [(61, .bool (!(y43.2 == y18.2))), (60, .bool (!(y43.2 == y18.2))), (59, .bool (y18.2)), (58, .bool (y43.2))] (by kernel_rfl) ?_
              refine wS_end (by rfl) ?_
              refine eX_then ?_
              refine cW_cond (t := !(y43.2 == y18.2)) (by kernel_rfl) (fun hb97 => ?_) (fun hb97 => ?_)
              · have hm := condT hb97 hm
                refine cW_seq ?_
                refine cW_region ?_
                refine wS_pure 1 [(2, .bool (false))] (by kernel_rfl) ?_
                refine wS_end (by rfl) ?_
                refine eX_then ?_
                refine cW_ret ?_
                refine eX_then_ret ?_
                have hq : (some false : Option ((Bool))) = some _ := hm
                replace hq := someE hq
                subst hq
                refine eX_ret (vs := [.bool (false)]) [.tmp 2] (by rfl) ⟨by (show lkE _ _ _ = _); kernel_rfl, trivial⟩ ?_
                exact ⟨rfl, hB⟩
              · have hm := condF hb97 hm
                refine cW_skip ?_
                refine eX_then ?_
                refine cW_seq ?_
                refine cW_region ?_
                refine wS_pure 1 [(10, .int .i64 (1))] (by kernel_rfl) ?_
                refine wS_end (by rfl) ?_
                refine eX_then ?_
                refine cW_seq ?_
                refine cW_region ?_
                refine wS_pure 2 [(63, .int .i64 (1)), (62, .slice A47 (y43.1).length cap48)] (by kernel_rfl) ?_
                obtain ⟨y98, hy99, hm⟩ := bindE hm
                refine wS_calls (d := 64) (f := 59) (vs := [.slice A47 (y43.1).length cap48, .int .i64 (1)]) (by kernel_rfl) ent59 (c_laws_markInt64SS hy99 F50) ?_
                rintro _ w100 ⟨rfl, F102, hl103, hc101⟩
                replace F0 := F0.chg hc101 (Dj.app (Dj.of L0 G51) Dj.nil)
                replace F14 := F14.chg hc101 (Dj.app D54 Dj.nil)
                replace F25 := F25.chg hc101 (Dj.app D55 Dj.nil)
                replace F88 := F88.chg hc101 (Dj.app D56 Dj.nil)
                replace F71 := F71.chg hc101 (Dj.app (D78).symm Dj.nil)
                replace hB := hB.inS hc101 (inApp (inLow G51) inNil)
                replace hZ := Nat.le_trans hZ hc101.size
                clear F50
                refine ⟨.int .i64 (y98.1), rfl, ?_⟩
                rewrite [(show (y43.1).length = (y98.2).length from hl103.symm)]
                refine wS_pure 1 [(10, .int .i64 (y98.1))] (by kernel_rfl) ?_
                refine wS_end (by rfl) ?_
                refine eX_then ?_
                refine cW_seq ?_
                refine cW_region ?_
                refine wS_pure 1 [(11, .int .i64 (1))] (by kernel_rfl) ?_
                refine wS_end (by rfl) ?_
                refine eX_then ?_
                refine cW_prune [(0, .slice A0 (l0).length cap0), (4, .slice A22 (y18.1).length cap23), (5, .bool (y18.2)), (7, .slice A47 (y98.2).length cap48), (10, .int .i64 (y98.1)), (11, .int .i64 (1))] (by kernel_rfl) (by kernel_rfl) (fun a104 => ?_)
                refine cW_seq ?_
                refine cW_region ?_
                refine wS_pure 2 [(66, .int .i64 (1)), (65, .slice A47 (y98.2).length cap48)] (by kernel_rfl) ?_
                obtain ⟨y105, hy106, hm⟩ := bindE hm
                refine wS_calls (d := 67) (f := 60) (vs := [.slice A47 (y98.2).length cap48, .int .i64 (1)]) (by kernel_rfl) ent60 (c_laws_heldInt64SS hy106 (F102.slr encI_ok)) ?_
                rintro _ w107 ⟨rfl, hc108⟩
                replace F0 := F0.chg hc108 Dj.nil
                replace F14 := F14.chg hc108 Dj.nil
                replace F25 := F25.chg hc108 Dj.nil
                replace F88 := F88.chg hc108 Dj.nil
                replace F102 := F102.chg hc108 Dj.nil
                replace F71 := F71.chg hc108 Dj.nil
                replace hB := hB.inS hc108 inNil
                replace hZ := Nat.le_trans hZ hc108.size
                refine ⟨.int .i64 (y105), rfl, ?_⟩
                refine wS_pure 1 [(11, .int .i64 (y105))] (by kernel_rfl) ?_
                refine wS_end (by rfl) ?_
                refine eX_then ?_
                refine cW_seq ?_
                refine cW_seq ?_
                refine cW_region ?_
                refine wS_pure 2 [(69, .bool (decide (y105 < 0))), (68, .int .i64 (y105))] (by kernel_rfl) ?_
                refine wS_end (by rfl) ?_
                refine eX_then ?_
                refine cW_cond (t := decide (y105 < 0)) (by kernel_rfl) (fun hb109 => ?_) (fun hb109 => ?_)
                · have hm := condT hb109 hm
                  refine cW_seq ?_
                  refine cW_region ?_
                  refine wS_pure 1 [(2, .bool (false))] (by kernel_rfl) ?_
                  refine wS_end (by rfl) ?_
                  refine eX_then ?_
                  refine cW_ret ?_
                  refine eX_then_ret ?_
                  have hq : (some false : Option ((Bool))) = some _ := hm
                  replace hq := someE hq
                  subst hq
                  refine eX_ret (vs := [.bool (false)]) [.tmp 2] (by rfl) ⟨by (show lkE _ _ _ = _); kernel_rfl, trivial⟩ ?_
                  exact ⟨rfl, hB⟩
                · have hm := condF hb109 hm
                  refine cW_skip ?_
                  refine eX_then ?_
                  refine cW_seq ?_
                  refine cW_seq ?_
                  refine cW_region ?_
                  refine wS_pure 3 [(72, .bool (y105 != y98.1)), (71, .int .i64 (y98.1)), (70, .int .i64 (y105))] (by kernel_rfl) ?_
                  refine wS_end (by rfl) ?_
                  refine eX_then ?_
                  refine cW_cond (t := y105 != y98.1) (by kernel_rfl) (fun hb110 => ?_) (fun hb110 => ?_)
                  · have hm := condT hb110 hm
                    refine cW_seq ?_
                    refine cW_region ?_
                    refine wS_pure 1 [(2, .bool (false))] (by kernel_rfl) ?_
                    refine wS_end (by rfl) ?_
                    refine eX_then ?_
                    refine cW_ret ?_
                    refine eX_then_ret ?_
                    have hq : (some false : Option ((Bool))) = some _ := hm
                    replace hq := someE hq
                    subst hq
                    refine eX_ret (vs := [.bool (false)]) [.tmp 2] (by rfl) ⟨by (show lkE _ _ _ = _); kernel_rfl, trivial⟩ ?_
                    exact ⟨rfl, hB⟩
                  · have hm := condF hb110 hm
                    refine cW_skip ?_
                    refine eX_then ?_
                    refine cW_seq ?_
                    refine cW_region ?_
                    refine wS_pure 1 [(74, .slice A0 (l0).length cap0)] (by kernel_rfl) ?_
                    obtain ⟨y111, hy112, hm⟩ := bindE hm
                    refine wS_calls (d := 75) (f := 55) (vs := [.slice A0 (l0).length cap0]) (by kernel_rfl) ent55 (c_laws_toPointS hy112 F0) ?_
                    rintro _ w113 ⟨A115, cap116, fp117, rfl, F118, G119, hc114⟩
                    have D122 : Dj fp13 fp117 := Dj.of F14.low G119
                    have D123 : Dj (fp24 ++ fr27) fp117 := Dj.of F25.low G119
                    have D124 : Dj fp36 fp117 := Dj.of F88.low G119
                    have D125 : Dj (fp49 ++ fr52) fp117 := Dj.of F102.low G119
                    have D126 : Dj fp70 fp117 := Dj.of F71.low G119
                    replace F0 := F0.chg hc114 Dj.nil
                    replace F14 := F14.chg hc114 Dj.nil
                    replace F25 := F25.chg hc114 Dj.nil
                    replace F88 := F88.chg hc114 Dj.nil
                    replace F102 := F102.chg hc114 Dj.nil
                    replace F71 := F71.chg hc114 Dj.nil
                    replace hB := hB.inS hc114 inNil
                    replace G119 := low_le hZ G119
                    replace hZ := Nat.le_trans hZ hc114.size
                    refine ⟨.slice A115 (y111).length cap116, rfl, ?_⟩
                    obtain ⟨y127, hy128, hm⟩ := bindE hm
                    refine wS_calls (d := 76) (f := 50) (vs := [.slice A115 (y111).length cap116]) (by kernel_rfl) ent50 (c_impl_NearestJoins hy128 (F118.sl encII_ok)) ?_
                    rintro _ w129 ⟨A131, cap132, fp133, fr136, rfl, F134, G135, hc130⟩
                    have D138 : Dj fp13 (fp133 ++ fr136) := Dj.of F14.low G135
                    have D139 : Dj (fp24 ++ fr27) (fp133 ++ fr136) := Dj.of F25.low G135
                    have D140 : Dj fp36 (fp133 ++ fr136) := Dj.of F88.low G135
                    have D141 : Dj (fp49 ++ fr52) (fp133 ++ fr136) := Dj.of F102.low G135
                    have D142 : Dj fp70 (fp133 ++ fr136) := Dj.of F71.low G135
                    have D143 : Dj fp117 (fp133 ++ fr136) := Dj.of F118.low G135
                    replace F0 := F0.chg hc130 Dj.nil
                    replace F14 := F14.chg hc130 Dj.nil
                    replace F25 := F25.chg hc130 Dj.nil
                    replace F88 := F88.chg hc130 Dj.nil
                    replace F102 := F102.chg hc130 Dj.nil
                    replace F71 := F71.chg hc130 Dj.nil
                    replace F118 := F118.chg hc130 Dj.nil
                    replace hB := hB.inS hc130 inNil
                    replace G135 := low_le hZ G135
                    replace hZ := Nat.le_trans hZ hc130.size
                    refine ⟨.tuple #[.slice A131 (y127.1).length cap132, .bool (y127.2)], rfl, ?_⟩
                    refine wS_pure 5 [(13, .bool (y127.2)), (12, .slice A131 (y127.1).length cap132), (78, .bool (y127.2)), (77, .slice A131 (y127.1).length cap132), (73, .tuple #[.slice A131 (y127.1).length cap132, .bool (y127.2)])] (by kernel_rfl) ?_
                    refine wS_end (by rfl) ?_
                    refine eX_then ?_
                    refine cW_seq ?_
                    refine cW_seq ?_
                    refine cW_region ?_
                    refine wS_pure 2 [(80, .slice A22 (y18.1).length cap23), (79, .slice A131 (y127.1).length cap132)] (by kernel_rfl) ?_
                    obtain ⟨y144, hy145, hm⟩ := bindE hm
                    refine wS_calls (d := 81) (f := 56) (vs := [.slice A131 (y127.1).length cap132, .slice A22 (y18.1).length cap23]) (by kernel_rfl) ent56 (c_laws_eqInt64SS hy145 (F134.slr encI_ok) (F25.slr encI_ok)) ?_
                    rintro _ w146 ⟨rfl, hc147⟩
                    replace F0 := F0.chg hc147 Dj.nil
                    replace F14 := F14.chg hc147 Dj.nil
                    replace F25 := F25.chg hc147 Dj.nil
                    replace F88 := F88.chg hc147 Dj.nil
                    replace F102 := F102.chg hc147 Dj.nil
                    replace F71 := F71.chg hc147 Dj.nil
                    replace F118 := F118.chg hc147 Dj.nil
                    replace F134 := F134.chg hc147 Dj.nil
                    replace hB := hB.inS hc147 inNil
                    replace hZ := Nat.le_trans hZ hc147.size
                    refine ⟨.bool (y144), rfl, ?_⟩
                    refine wS_pure 2 [(83, .bool (!y144)), (82, .bool (!y144))] (by kernel_rfl) ?_
                    refine wS_bool (!y144) (fun hb148 => ?_) (fun hb148 => ?_)
                    · have hm := condT hb148 hm
                      rewrite [hb148]
                      refine wS_pure 4 [(87, .bool (true)), (86, undef), (85, undef), (84, undef)] (by kernel_rfl) ?_
                      refine wS_end (by rfl) ?_
                      refine eX_then ?_
                      refine cW_prune [(7, .slice A47 (y98.2).length cap48), (10, .int .i64 (y98.1)), (87, .bool (true))] (by kernel_rfl) (by kernel_rfl) (fun a149 => ?_)
                      refine cW_cond_t (by kernel_rfl) ?_
                      refine cW_seq ?_
                      refine cW_region ?_
                      refine wS_pure 1 [(2, .bool (false))] (by kernel_rfl) ?_
                      refine wS_end (by rfl) ?_
                      refine eX_then ?_
                      refine cW_ret ?_
                      refine eX_then_ret ?_
                      have hq : (some false : Option ((Bool))) = some _ := hm
                      replace hq := someE hq
                      subst hq
                      refine eX_ret (vs := [.bool (false)]) [.tmp 2] (by rfl) ⟨by (show lkE _ _ _ = _); kernel_rfl, trivial⟩ ?_
                      exact ⟨rfl, hB⟩
                    · have hm := condF hb148 hm
                      rewrite [hb148]
                      refine wS_pure 4 [(87, .bool (!(y127.2 == y18.2))), (86, .bool (!(y127.2 == y18.2))), (85, .bool (y18.2)), (84, .bool (y127.2))] (by kernel_rfl) ?_
                      refine wS_end (by rfl) ?_
                      refine eX_then ?_
                      refine cW_prune [(7, .slice A47 (y98.2).length cap48), (10, .int .i64 (y98.1)), (87, .bool (!(y127.2 == y18.2)))] (by kernel_rfl) (by kernel_rfl) (fun a150 => ?_)
                      refine cW_cond (t := !(y127.2 == y18.2)) (by kernel_rfl) (fun hb151 => ?_) (fun hb151 => ?_)
                      · have hm := condT hb151 hm
                        refine cW_seq ?_
                        refine cW_region ?_
                        refine wS_pure 1 [(2, .bool (false))] (by kernel_rfl) ?_
                        refine wS_end (by rfl) ?_
                        refine eX_then ?_
                        refine cW_ret ?_
                        refine eX_then_ret ?_
                        have hq : (some false : Option ((Bool))) = some _ := hm
                        replace hq := someE hq
                        subst hq
                        refine eX_ret (vs := [.bool (false)]) [.tmp 2] (by rfl) ⟨by (show lkE _ _ _ = _); kernel_rfl, trivial⟩ ?_
                        exact ⟨rfl, hB⟩
                      · have hm := condF hb151 hm
                        refine cW_skip ?_
                        refine eX_then ?_
                        refine cW_seq ?_
                        refine cW_region ?_
                        refine wS_pure 1 [(11, .int .i64 (1))] (by kernel_rfl) ?_
                        refine wS_end (by rfl) ?_
                        refine eX_then ?_
                        refine cW_seq ?_
                        refine cW_region ?_
                        refine wS_pure 2 [(89, .int .i64 (1)), (88, .slice A47 (y98.2).length cap48)] (by kernel_rfl) ?_
                        obtain ⟨y152, hy153, hm⟩ := bindE hm
                        refine wS_calls (d := 90) (f := 60) (vs := [.slice A47 (y98.2).length cap48, .int .i64 (1)]) (by kernel_rfl) ent60 (c_laws_heldInt64SS hy153 (F102.slr encI_ok)) ?_
                        rintro _ w154 ⟨rfl, hc155⟩
                        replace F0 := F0.chg hc155 Dj.nil
                        replace F14 := F14.chg hc155 Dj.nil
                        replace F25 := F25.chg hc155 Dj.nil
                        replace F88 := F88.chg hc155 Dj.nil
                        replace F102 := F102.chg hc155 Dj.nil
                        replace F71 := F71.chg hc155 Dj.nil
                        replace F118 := F118.chg hc155 Dj.nil
                        replace F134 := F134.chg hc155 Dj.nil
                        replace hB := hB.inS hc155 inNil
                        replace hZ := Nat.le_trans hZ hc155.size
                        refine ⟨.int .i64 (y152), rfl, ?_⟩
                        refine wS_pure 1 [(11, .int .i64 (y152))] (by kernel_rfl) ?_
                        refine wS_end (by rfl) ?_
                        refine eX_then ?_
                        refine cW_seq ?_
                        refine cW_seq ?_
                        refine cW_region ?_
                        refine wS_pure 2 [(92, .bool (decide (y152 < 0))), (91, .int .i64 (y152))] (by kernel_rfl) ?_
                        refine wS_end (by rfl) ?_
                        refine eX_then ?_
                        refine cW_cond (t := decide (y152 < 0)) (by kernel_rfl) (fun hb156 => ?_) (fun hb156 => ?_)
                        · have hm := condT hb156 hm
                          refine cW_seq ?_
                          refine cW_region ?_
                          refine wS_pure 1 [(2, .bool (false))] (by kernel_rfl) ?_
                          refine wS_end (by rfl) ?_
                          refine eX_then ?_
                          refine cW_ret ?_
                          refine eX_then_ret ?_
                          have hq : (some false : Option ((Bool))) = some _ := hm
                          replace hq := someE hq
                          subst hq
                          refine eX_ret (vs := [.bool (false)]) [.tmp 2] (by rfl) ⟨by (show lkE _ _ _ = _); kernel_rfl, trivial⟩ ?_
                          exact ⟨rfl, hB⟩
                        · have hm := condF hb156 hm
                          refine cW_skip ?_
                          refine eX_then ?_
                          refine cW_seq ?_
                          refine cW_seq ?_
                          refine cW_region ?_
                          refine wS_pure 3 [(95, .bool (y152 != y98.1)), (94, .int .i64 (y98.1)), (93, .int .i64 (y152))] (by kernel_rfl) ?_
                          refine wS_end (by rfl) ?_
                          refine eX_then ?_
                          refine cW_cond (t := y152 != y98.1) (by kernel_rfl) (fun hb157 => ?_) (fun hb157 => ?_)
                          · have hm := condT hb157 hm
                            refine cW_seq ?_
                            refine cW_region ?_
                            refine wS_pure 1 [(2, .bool (false))] (by kernel_rfl) ?_
                            refine wS_end (by rfl) ?_
                            refine eX_then ?_
                            refine cW_ret ?_
                            refine eX_then_ret ?_
                            have hq : (some false : Option ((Bool))) = some _ := hm
                            replace hq := someE hq
                            subst hq
                            refine eX_ret (vs := [.bool (false)]) [.tmp 2] (by rfl) ⟨by (show lkE _ _ _ = _); kernel_rfl, trivial⟩ ?_
                            exact ⟨rfl, hB⟩
                          · have hm := condF hb157 hm
                            refine cW_skip ?_
                            refine eX_then ?_
                            refine cW_seq ?_
                            refine cW_region ?_
                            refine wS_pure 1 [(2, .bool (true))] (by kernel_rfl) ?_
                            refine wS_end (by rfl) ?_
                            refine eX_then ?_
                            refine cW_ret ?_
                            have hq : (some true : Option ((Bool))) = some _ := hm
                            replace hq := someE hq
                            subst hq
                            refine eX_ret (vs := [.bool (true)]) [.tmp 2] (by rfl) ⟨by (show lkE _ _ _ = _); kernel_rfl, trivial⟩ ?_
                            exact ⟨rfl, hB⟩

end Go.Proofs.Ytajnjbmniobjhaa
