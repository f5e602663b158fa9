/- Printed walks: laws.FnExactHananPoints, spec.BestRoot, impl.BestRoot, laws.FnExactBestRoot. -/
import Derived.Test.YtdkpfkmmblmlhaaProg
import Derived.Test.YtdkpfkmmblmlhaaWPb01
set_option linter.unusedSimpArgs false
set_option linter.unusedVariables false
namespace Go.Proofs.Ytdkpfkmmblmlhaa
open Go.RowKit
attribute [local irreducible] wS cW eX wH

theorem ent34 : Ent Try.prog 34 := fun _ => by kernel_rfl
theorem ent35 : Ent Try.prog 35 := fun _ => by kernel_rfl
theorem ent36 : Ent Try.prog 36 := fun _ => by kernel_rfl
theorem ent37 : Ent Try.prog 37 := fun _ => by kernel_rfl
theorem ent40 : Ent Try.prog 40 := fun _ => by kernel_rfl
theorem ent41 : Ent Try.prog 41 := fun _ => by kernel_rfl

set_option maxRecDepth 100000 in
/-- laws.FnExactHananPoints -/
theorem c_laws_FnExactHananPoints {w0 : World} {l0 : List (Int × Int)} {A0 : Option Addr} {cap0 : Nat} {fp0 : List Nat} {r : (Bool)} (hm : m_laws_FnExactHananPoints l0 = some r) (F0 : Sl 2 encII w0 fp0 A0 l0) :
    Calls Try.prog 8 #[.slice A0 (l0).length cap0] w0 fun e w' => e = .returned (.bool (r)) ∧ Chg [] w0 w' := by
  have L0 := F0.low
  have hB : Chg [] w0 w0 := Chg.refl _ _
  have hZ := Nat.le_refl w0.heap.size
  unfold m_laws_FnExactHananPoints at hm
  refine enterE (N := 96) Try.func8 (by rfl) Try.ntmps8 (by simp) [(0, .slice A0 (l0).length cap0)] (by rfl) (by kernel_rfl) (fun a => ?_)
  refine cW_seq ?_
  refine cW_region ?_
  refine wS_pure 1 [(2, .bool (false))] (by kernel_rfl) ?_
  refine wS_end (by rfl) ?_
  refine eX_then ?_
  refine cW_seq ?_
  refine cW_region ?_
  refine wS_pure 1 [(3, .int .i64 (1048576))] (by kernel_rfl) ?_
  refine wS_end (by rfl) ?_
  refine eX_then ?_
  refine cW_seq ?_
  refine cW_region ?_
  refine wS_pure 2 [(15, .int .i64 (1048576)), (14, .slice A0 (l0).length cap0)] (by kernel_rfl) ?_
  obtain ⟨y2, hy3, hm⟩ := bindE hm
  refine wS_calls (d := 16) (f := 20) (vs := [.slice A0 (l0).length cap0, .int .i64 (1048576)]) (by kernel_rfl) ent20 (c_laws_szPointS hy3 F0) ?_
  rintro _ w4 ⟨rfl, hc5⟩
  replace F0 := F0.chg hc5 Dj.nil
  replace hB := hB.inS hc5 inNil
  replace hZ := Nat.le_trans hZ hc5.size
  refine ⟨.int .i64 (y2), rfl, ?_⟩
  refine wS_pure 1 [(3, .int .i64 (y2))] (by kernel_rfl) ?_
  refine wS_end (by rfl) ?_
  refine eX_then ?_
  refine cW_seq ?_
  refine cW_seq ?_
  refine cW_region ?_
  refine wS_pure 2 [(18, .bool (decide (y2 < 0))), (17, .int .i64 (y2))] (by kernel_rfl) ?_
  refine wS_end (by rfl) ?_
  refine eX_then ?_
  refine cW_cond (t := decide (y2 < 0)) (by kernel_rfl) (fun hb6 => ?_) (fun hb6 => ?_)
  · have hm := condT hb6 hm
    refine cW_seq ?_
    refine cW_region ?_
    refine wS_pure 1 [(2, .bool (true))] (by kernel_rfl) ?_
    refine wS_end (by rfl) ?_
    refine eX_then ?_
    refine cW_ret ?_
    refine eX_then_ret ?_
    have hq : (some true : Option ((Bool))) = some _ := hm
    replace hq := someE hq
    subst hq
    refine eX_ret (vs := [.bool (true)]) [.tmp 2] (by rfl) ⟨by (show lkE _ _ _ = _); kernel_rfl, trivial⟩ ?_
    exact ⟨rfl, hB⟩
  · have hm := condF hb6 hm
    refine cW_skip ?_
    refine eX_then ?_
    refine cW_seq ?_
    refine cW_region ?_
    refine wS_pure 1 [(20, .slice A0 (l0).length cap0)] (by kernel_rfl) ?_
    obtain ⟨y7, hy8, hm⟩ := bindE hm
    refine wS_calls (d := 21) (f := 22) (vs := [.slice A0 (l0).length cap0]) (by kernel_rfl) ent22 (c_laws_toPointS hy8 F0) ?_
    rintro _ w9 ⟨A11, cap12, fp13, rfl, F14, G15, hc10⟩
    replace F0 := F0.chg hc10 Dj.nil
    replace hB := hB.inS hc10 inNil
    replace G15 := low_le hZ G15
    replace hZ := Nat.le_trans hZ hc10.size
    refine ⟨.slice A11 (y7).length cap12, rfl, ?_⟩
    obtain ⟨y18, hy19, hm⟩ := bindE hm
    refine wS_calls (d := 22) (f := 34) (vs := [.slice A11 (y7).length cap12]) (by kernel_rfl) ent34 (c_spec_HananPoints hy19 (F14.sl encII_ok) F14.cap_le) ?_
    rintro _ w20 ⟨A22, cap23, fp24, rfl, F25, G26, hc21⟩
    have D29 : Dj fp13 fp24 := Dj.of F14.low G26
    replace F0 := F0.chg hc21 Dj.nil
    replace F14 := F14.chg hc21 Dj.nil
    replace hB := hB.inS hc21 inNil
    replace G26 := low_le hZ G26
    replace hZ := Nat.le_trans hZ hc21.size
    refine ⟨.tuple #[.slice A22 (y18.1).length cap23, .bool (y18.2)], rfl, ?_⟩
    refine wS_pure 5 [(5, .bool (y18.2)), (4, .slice A22 (y18.1).length cap23), (24, .bool (y18.2)), (23, .slice A22 (y18.1).length cap23), (19, .tuple #[.slice A22 (y18.1).length cap23, .bool (y18.2)])] (by kernel_rfl) ?_
    refine wS_end (by rfl) ?_
    refine eX_then ?_
    refine cW_seq ?_
    refine cW_region ?_
    refine wS_pure 1 [(25, .slice A0 (l0).length cap0)] (by kernel_rfl) ?_
    obtain ⟨y30, hy31, hm⟩ := bindE hm
    refine wS_calls (d := 26) (f := 22) (vs := [.slice A0 (l0).length cap0]) (by kernel_rfl) ent22 (c_laws_toPointS hy31 F0) ?_
    rintro _ w32 ⟨A34, cap35, fp36, rfl, F37, G38, hc33⟩
    have D41 : Dj fp13 fp36 := Dj.of F14.low G38
    have D42 : Dj fp24 fp36 := Dj.of F25.low G38
    replace F0 := F0.chg hc33 Dj.nil
    replace F14 := F14.chg hc33 Dj.nil
    replace F25 := F25.chg hc33 Dj.nil
    replace hB := hB.inS hc33 inNil
    replace G38 := low_le hZ G38
    replace hZ := Nat.le_trans hZ hc33.size
    refine ⟨.slice A34 (y30).length cap35, rfl, ?_⟩
    refine wS_pure 1 [(6, .slice A34 (y30).length cap35)] (by kernel_rfl) ?_
    refine wS_end (by rfl) ?_
    refine eX_then ?_
    refine cW_seq ?_
    refine cW_region ?_
    refine wS_pure 1 [(28, .slice A34 (y30).length cap35)] (by kernel_rfl) ?_
    obtain ⟨y43, hy44, hm⟩ := bindE hm
    refine wS_calls (d := 29) (f := 35) (vs := [.slice A34 (y30).length cap35]) (by kernel_rfl) ent35 (c_impl_HananPoints hy44 (F37.sl encII_ok)) ?_
    rintro _ w45 ⟨A47, cap48, fp49, rfl, F50, G51, hc46⟩
    have D54 : Dj fp13 fp49 := Dj.of F14.low G51
    have D55 : Dj fp24 fp49 := Dj.of F25.low G51
    have D56 : Dj fp36 fp49 := Dj.of F37.low G51
    replace F0 := F0.chg hc46 Dj.nil
    replace F14 := F14.chg hc46 Dj.nil
    replace F25 := F25.chg hc46 Dj.nil
    replace F37 := F37.chg hc46 Dj.nil
    replace hB := hB.inS hc46 inNil
    replace G51 := low_le hZ G51
    replace hZ := Nat.le_trans hZ hc46.size
    refine ⟨.tuple #[.slice A47 (y43.1).length cap48, .bool (y43.2)], rfl, ?_⟩
    refine wS_pure 5 [(8, .bool (y43.2)), (7, .slice A47 (y43.1).length cap48), (31, .bool (y43.2)), (30, .slice A47 (y43.1).length cap48), (27, .tuple #[.slice A47 (y43.1).length cap48, .bool (y43.2)])] (by kernel_rfl) ?_
    refine wS_end (by rfl) ?_
    refine eX_then ?_
    refine cW_prune [(0, .slice A0 (l0).length cap0), (4, .slice A22 (y18.1).length cap23), (5, .bool (y18.2)), (6, .slice A34 (y30).length cap35), (7, .slice A47 (y43.1).length cap48), (8, .bool (y43.2))] (by kernel_rfl) (by kernel_rfl) (fun a57 => ?_)
    refine cW_seq ?_
    refine cW_seq ?_
    refine cW_region ?_
    refine wS_pure 2 [(33, .slice A22 (y18.1).length cap23), (32, .slice A47 (y43.1).length cap48)] (by kernel_rfl) ?_
    obtain ⟨y58, hy59, hm⟩ := bindE hm
    refine wS_calls (d := 34) (f := 24) (vs := [.slice A47 (y43.1).length cap48, .slice A22 (y18.1).length cap23]) (by kernel_rfl) ent24 (c_laws_eqPointS hy59 (F50.sl encII_ok) (F25.sl encII_ok)) ?_
    rintro _ w60 ⟨rfl, hc61⟩
    replace F0 := F0.chg hc61 Dj.nil
    replace F14 := F14.chg hc61 Dj.nil
    replace F25 := F25.chg hc61 Dj.nil
    replace F37 := F37.chg hc61 Dj.nil
    replace F50 := F50.chg hc61 Dj.nil
    replace hB := hB.inS hc61 inNil
    replace hZ := Nat.le_trans hZ hc61.size
    refine ⟨.bool (y58), rfl, ?_⟩
    refine wS_pure 2 [(36, .bool (!y58)), (35, .bool (!y58))] (by kernel_rfl) ?_
    refine wS_bool (!y58) (fun hb62 => ?_) (fun hb62 => ?_)
    · have hm := condT hb62 hm
      rewrite [hb62]
      refine wS_pure 4 [(40, .bool (true)), (39, undef), (38, undef), (37, undef)] (by kernel_rfl) ?_
      refine wS_end (by rfl) ?_
      refine eX_then ?_
      refine cW_cond_t (by kernel_rfl) ?_
      refine cW_seq ?_
      refine cW_region ?_
      refine wS_pure 1 [(2, .bool (false))] (by kernel_rfl) ?_
      refine wS_end (by rfl) ?_
      refine eX_then ?_
      refine cW_ret ?_
      refine eX_then_ret ?_
      have hq : (some false : Option ((Bool))) = some _ := hm
      replace hq := someE hq
      subst hq
      refine eX_ret (vs := [.bool (false)]) [.tmp 2] (by rfl) ⟨by (show lkE _ _ _ = _); kernel_rfl, trivial⟩ ?_
      exact ⟨rfl, hB⟩
    · have hm := condF hb62 hm
      rewrite [hb62]
      refine wS_pure 4 [(40, .bool (!(y43.2 == y18.2))), (39, .bool (!(y43.2 == y18.2))), (38, .bool (y18.2)), (37, .bool (y43.2))] (by kernel_rfl) ?_
      refine wS_end (by rfl) ?_
      refine eX_then ?_
      refine cW_cond (t := !(y43.2 == y18.2)) (by kernel_rfl) (fun hb63 => ?_) (fun hb63 => ?_)
      · have hm := condT hb63 hm
        refine cW_seq ?_
        refine cW_region ?_
        refine wS_pure 1 [(2, .bool (false))] (by kernel_rfl) ?_
        refine wS_end (by rfl) ?_
        refine eX_then ?_
        refine cW_ret ?_
        refine eX_then_ret ?_
        have hq : (some false : Option ((Bool))) = some _ := hm
        replace hq := someE hq
        subst hq
        refine eX_ret (vs := [.bool (false)]) [.tmp 2] (by rfl) ⟨by (show lkE _ _ _ = _); kernel_rfl, trivial⟩ ?_
        exact ⟨rfl, hB⟩
      · have hm := condF hb63 hm
        refine cW_skip ?_
        refine eX_then ?_
        refine cW_seq ?_
        refine cW_seq ?_
        refine cW_region ?_
        refine wS_pure 2 [(42, .slice A0 (l0).length cap0), (41, .slice A34 (y30).length cap35)] (by kernel_rfl) ?_
        obtain ⟨y64, hy65, hm⟩ := bindE hm
        refine wS_calls (d := 43) (f := 22) (vs := [.slice A0 (l0).length cap0]) (by kernel_rfl) ent22 (c_laws_toPointS hy65 F0) ?_
        rintro _ w66 ⟨A68, cap69, fp70, rfl, F71, G72, hc67⟩
        have D75 : Dj fp13 fp70 := Dj.of F14.low G72
        have D76 : Dj fp24 fp70 := Dj.of F25.low G72
        have D77 : Dj fp36 fp70 := Dj.of F37.low G72
        have D78 : Dj fp49 fp70 := Dj.of F50.low G72
        replace F0 := F0.chg hc67 Dj.nil
        replace F14 := F14.chg hc67 Dj.nil
        replace F25 := F25.chg hc67 Dj.nil
        replace F37 := F37.chg hc67 Dj.nil
        replace F50 := F50.chg hc67 Dj.nil
        replace hB := hB.inS hc67 inNil
        replace G72 := low_le hZ G72
        replace hZ := Nat.le_trans hZ hc67.size
        refine ⟨.slice A68 (y64).length cap69, rfl, ?_⟩
        obtain ⟨y79, hy80, hm⟩ := bindE hm
        refine wS_calls (d := 44) (f := 24) (vs := [.slice A34 (y30).length cap35, .slice A68 (y64).length cap69]) (by kernel_rfl) ent24 (c_laws_eqPointS hy80 (F37.sl encII_ok) (F71.sl encII_ok)) ?_
        rintro _ w81 ⟨rfl, hc82⟩
        replace F0 := F0.chg hc82 Dj.nil
        replace F14 := F14.chg hc82 Dj.nil
        replace F25 := F25.chg hc82 Dj.nil
        replace F37 := F37.chg hc82 Dj.nil
        replace F50 := F50.chg hc82 Dj.nil
        replace F71 := F71.chg hc82 Dj.nil
        replace hB := hB.inS hc82 inNil
        replace hZ := Nat.le_trans hZ hc82.size
        refine ⟨.bool (y79), rfl, ?_⟩
        refine wS_pure 1 [(45, .bool (!y79))] (by kernel_rfl) ?_
        refine wS_end (by rfl) ?_
        refine eX_then ?_
        refine cW_cond (t := !y79) (by kernel_rfl) (fun hb83 => ?_) (fun hb83 => ?_)
        · have hm := condT hb83 hm
          refine cW_seq ?_
          refine cW_region ?_
          refine wS_pure 1 [(2, .bool (false))] (by kernel_rfl) ?_
          refine wS_end (by rfl) ?_
          refine eX_then ?_
          refine cW_ret ?_
          refine eX_then_ret ?_
          have hq : (some false : Option ((Bool))) = some _ := hm
          replace hq := someE hq
          subst hq
          refine eX_ret (vs := [.bool (false)]) [.tmp 2] (by rfl) ⟨by (show lkE _ _ _ = _); kernel_rfl, trivial⟩ ?_
          exact ⟨rfl, hB⟩
        · have hm := condF hb83 hm
          refine cW_skip ?_
          refine eX_then ?_
          refine cW_seq ?_
          refine cW_region ?_
          refine wS_pure 1 [(9, .int .i64 (1))] (by kernel_rfl) ?_
          refine wS_end (by rfl) ?_
          refine eX_then ?_
          refine cW_seq ?_
          refine cW_region ?_
          refine wS_pure 2 [(47, .int .i64 (1)), (46, .slice A34 (y30).length cap35)] (by kernel_rfl) ?_
          obtain ⟨y84, hy85, hm⟩ := bindE hm
          refine wS_calls (d := 48) (f := 36) (vs := [.slice A34 (y30).length cap35, .int .i64 (1)]) (by kernel_rfl) ent36 (c_laws_markPointS hy85 F37) ?_
          rintro _ w86 ⟨rfl, F88, hl89, hc87⟩
          replace F0 := F0.chg hc87 (Dj.app (Dj.of L0 G38) Dj.nil)
          replace F14 := F14.chg hc87 (Dj.app D41 Dj.nil)
          replace F25 := F25.chg hc87 (Dj.app D42 Dj.nil)
          replace F50 := F50.chg hc87 (Dj.app (D56).symm Dj.nil)
          replace F71 := F71.chg hc87 (Dj.app (D77).symm Dj.nil)
          replace hB := hB.inS hc87 (inApp (inLow G38) inNil)
          replace hZ := Nat.le_trans hZ hc87.size
          clear F37
          refine ⟨.int .i64 (y84.1), rfl, ?_⟩
          rewrite [(show (y30).length = (y84.2).length from hl89.symm)]
          refine wS_pure 1 [(9, .int .i64 (y84.1))] (by kernel_rfl) ?_
          refine wS_end (by rfl) ?_
          refine eX_then ?_
          refine cW_prune [(0, .slice A0 (l0).length cap0), (4, .slice A22 (y18.1).length cap23), (5, .bool (y18.2)), (7, .slice A47 (y43.1).length cap48), (8, .bool (y43.2)), (9, .int .i64 (y84.1))] (by kernel_rfl) (by kernel_rfl) (fun a90 => ?_)
          refine cW_seq ?_
          refine cW_seq ?_
          refine cW_region ?_
          refine wS_pure 3 [(51, .bool (decide (y84.1 < 0))), (50, .bool (decide (y84.1 < 0))), (49, .int .i64 (y84.1))] (by kernel_rfl) ?_
          refine wS_bool (decide (y84.1 < 0)) (fun hb91 => ?_) (fun hb91 => ?_)
          · have hm := condT hb91 hm
            rewrite [hb91]
            refine wS_pure 10 [(61, .bool (true)), (60, undef), (59, undef), (58, undef), (57, .bool (true)), (56, .bool (true)), (55, undef), (54, undef), (53, undef), (52, undef)] (by kernel_rfl) ?_
            refine wS_end (by rfl) ?_
            refine eX_then ?_
            refine cW_cond_t (by kernel_rfl) ?_
            refine cW_seq ?_
            refine cW_region ?_
            refine wS_pure 1 [(2, .bool (false))] (by kernel_rfl) ?_
            refine wS_end (by rfl) ?_
            refine eX_then ?_
            refine cW_ret ?_
            refine eX_then_ret ?_
            have hq : (some false : Option ((Bool))) = some _ := hm
            replace hq := someE hq
            subst hq
            refine eX_ret (vs := [.bool (false)]) [.tmp 2] (by rfl) ⟨by (show lkE _ _ _ = _); kernel_rfl, trivial⟩ ?_
            exact ⟨rfl, hB⟩
          · have hm := condF hb91 hm
            rewrite [hb91]
            refine wS_pure 2 [(53, .slice A22 (y18.1).length cap23), (52, .slice A47 (y43.1).length cap48)] (by kernel_rfl) ?_
            obtain ⟨y92, hy93, hm⟩ := bindE hm
            refine wS_calls (d := 54) (f := 24) (vs := [.slice A47 (y43.1).length cap48, .slice A22 (y18.1).length cap23]) (by kernel_rfl) ent24 (c_laws_eqPointS hy93 (F50.sl encII_ok) (F25.sl encII_ok)) ?_
            rintro _ w94 ⟨rfl, hc95⟩
            replace F0 := F0.chg hc95 Dj.nil
            replace F14 := F14.chg hc95 Dj.nil
            replace F25 := F25.chg hc95 Dj.nil
            replace F88 := F88.chg hc95 Dj.nil
            replace F50 := F50.chg hc95 Dj.nil
            replace F71 := F71.chg hc95 Dj.nil
            replace hB := hB.inS hc95 inNil
            replace hZ := Nat.le_trans hZ hc95.size
            refine ⟨.bool (y92), rfl, ?_⟩
            refine wS_pure 3 [(57, .bool (!y92)), (56, .bool (!y92)), (55, .bool (!y92))] (by kernel_rfl) ?_
            refine wS_bool (!y92) (fun hb96 => ?_) (fun hb96 => ?_)
            · have hm := condT hb96 hm
              rewrite [hb96]
              refine wS_pure 4 [(61, .bool (true)), (60, undef), (59, undef), (58, undef)] (by kernel_rfl) ?_
              refine wS_end (by rfl) ?_
              refine eX_then ?_
              refine cW_cond_t (by kernel_rfl) ?_
              refine cW_seq ?_
              refine cW_region ?_
              refine wS_pure 1 [(2, .bool (false))] (by kernel_rfl) ?_
              refine wS_end (by rfl) ?_
              refine eX_then ?_
              refine cW_ret ?_
              refine eX_then_ret ?_
              have hq : (some false : Option ((Bool))) = some _ := hm
              replace hq := someE hq
              subst hq
              refine eX_ret (vs := [.bool (false)]) [.tmp 2] (by rfl) ⟨by (show lkE _ _ _ = _); kernel_rfl, trivial⟩ ?_
              exact ⟨rfl, hB⟩
            · have hm := condF hb96 hm
              rewrite [hb96]
              refine wS_pure 4 [(61, .bool (!(y43.2 == y18.2))), (60, .bool (!(y43.2 == y18.2))), (59, .bool (y18.2)), (58, .bool (y43.2))] (by kernel_rfl) ?_
              refine wS_end (by rfl) ?_
              refine eX_then ?_
              refine cW_cond (t := !(y43.2 == y18.2)) (by kernel_rfl) (fun hb97 => ?_) (fun hb97 => ?_)
              · have hm := condT hb97 hm
                refine cW_seq ?_
                refine cW_region ?_
                refine wS_pure 1 [(2, .bool (false))] (by kernel_rfl) ?_
                refine wS_end (by rfl) ?_
                refine eX_then ?_
                refine cW_ret ?_
                refine eX_then_ret ?_
                have hq : (some false : Option ((Bool))) = some _ := hm
                replace hq := someE hq
                subst hq
                refine eX_ret (vs := [.bool (false)]) [.tmp 2] (by rfl) ⟨by (show lkE _ _ _ = _); kernel_rfl, trivial⟩ ?_
                exact ⟨rfl, hB⟩
              · have hm := condF hb97 hm
                refine cW_skip ?_
                refine eX_then ?_
                refine cW_seq ?_
                refine cW_region ?_
                refine wS_pure 1 [(10, .int .i64 (1))] (by kernel_rfl) ?_
                refine wS_end (by rfl) ?_
                refine eX_then ?_
                refine cW_seq ?_
                refine cW_region ?_
                refine wS_pure 2 [(63, .int .i64 (1)), (62, .slice A47 (y43.1).length cap48)] (by kernel_rfl) ?_
                obtain ⟨y98, hy99, hm⟩ := bindE hm
                refine wS_calls (d := 64) (f := 36) (vs := [.slice A47 (y43.1).length cap48, .int .i64 (1)]) (by kernel_rfl) ent36 (c_laws_markPointS hy99 F50) ?_
                rintro _ w100 ⟨rfl, F102, hl103, hc101⟩
                replace F0 := F0.chg hc101 (Dj.app (Dj.of L0 G51) Dj.nil)
                replace F14 := F14.chg hc101 (Dj.app D54 Dj.nil)
                replace F25 := F25.chg hc101 (Dj.app D55 Dj.nil)
                replace F88 := F88.chg hc101 (Dj.app D56 Dj.nil)
                replace F71 := F71.chg hc101 (Dj.app (D78).symm Dj.nil)
                replace hB := hB.inS hc101 (inApp (inLow G51) inNil)
                replace hZ := Nat.le_trans hZ hc101.size
                clear F50
                refine ⟨.int .i64 (y98.1), rfl, ?_⟩
                rewrite [(show (y43.1).length = (y98.2).length from hl103.symm)]
                refine wS_pure 1 [(10, .int .i64 (y98.1))] (by kernel_rfl) ?_
                refine wS_end (by rfl) ?_
                refine eX_then ?_
                refine cW_seq ?_
                refine cW_region ?_
                refine wS_pure 1 [(11, .int .i64 (1))] (by kernel_rfl) ?_
                refine wS_end (by rfl) ?_
                refine eX_then ?_
                refine cW_prune [(0, .slice A0 (l0).length cap0), (4, .slice A22 (y18.1).length cap23), (5, .bool (y18.2)), (7, .slice A47 (y98.2).length cap48), (10, .int .i64 (y98.1)), (11, .int .i64 (1))] (by kernel_rfl) (by kernel_rfl) (fun a104 => ?_)
                refine cW_seq ?_
                refine cW_region ?_
                refine wS_pure 2 [(66, .int .i64 (1)), (65, .slice A47 (y98.2).length cap48)] (by kernel_rfl) ?_
                obtain ⟨y105, hy106, hm⟩ := bindE hm
                refine wS_calls (d := 67) (f := 37) (vs := [.slice A47 (y98.2).length cap48, .int .i64 (1)]) (by kernel_rfl) ent37 (c_laws_heldPointS hy106 (F102.sl encII_ok)) ?_
                rintro _ w107 ⟨rfl, hc108⟩
                replace F0 := F0.chg hc108 Dj.nil
                replace F14 := F14.chg hc108 Dj.nil
                replace F25 := F25.chg hc108 Dj.nil
                replace F88 := F88.chg hc108 Dj.nil
                replace F102 := F102.chg hc108 Dj.nil
                replace F71 := F71.chg hc108 Dj.nil
                replace hB := hB.inS hc108 inNil
                replace hZ := Nat.le_trans hZ hc108.size
                refine ⟨.int .i64 (y105), rfl, ?_⟩
                refine wS_pure 1 [(11, .int .i64 (y105))] (by kernel_rfl) ?_
                refine wS_end (by rfl) ?_
                refine eX_then ?_
                refine cW_seq ?_
                refine cW_seq ?_
                refine cW_region ?_
                refine wS_pure 2 [(69, .bool (decide (y105 < 0))), (68, .int .i64 (y105))] (by kernel_rfl) ?_
                refine wS_end (by rfl) ?_
                refine eX_then ?_
                refine cW_cond (t := decide (y105 < 0)) (by kernel_rfl) (fun hb109 => ?_) (fun hb109 => ?_)
                · have hm := condT hb109 hm
                  refine cW_seq ?_
                  refine cW_region ?_
                  refine wS_pure 1 [(2, .bool (false))] (by kernel_rfl) ?_
                  refine wS_end (by rfl) ?_
                  refine eX_then ?_
                  refine cW_ret ?_
                  refine eX_then_ret ?_
                  have hq : (some false : Option ((Bool))) = some _ := hm
                  replace hq := someE hq
                  subst hq
                  refine eX_ret (vs := [.bool (false)]) [.tmp 2] (by rfl) ⟨by (show lkE _ _ _ = _); kernel_rfl, trivial⟩ ?_
                  exact ⟨rfl, hB⟩
                · have hm := condF hb109 hm
                  refine cW_skip ?_
                  refine eX_then ?_
                  refine cW_seq ?_
                  refine cW_seq ?_
                  refine cW_region ?_
                  refine wS_pure 3 [(72, .bool (y105 != y98.1)), (71, .int .i64 (y98.1)), (70, .int .i64 (y105))] (by kernel_rfl) ?_
                  refine wS_end (by rfl) ?_
                  refine eX_then ?_
                  refine cW_cond (t := y105 != y98.1) (by kernel_rfl) (fun hb110 => ?_) (fun hb110 => ?_)
                  · have hm := condT hb110 hm
                    refine cW_seq ?_
                    refine cW_region ?_
                    refine wS_pure 1 [(2, .bool (false))] (by kernel_rfl) ?_
                    refine wS_end (by rfl) ?_
                    refine eX_then ?_
                    refine cW_ret ?_
                    refine eX_then_ret ?_
                    have hq : (some false : Option ((Bool))) = some _ := hm
                    replace hq := someE hq
                    subst hq
                    refine eX_ret (vs := [.bool (false)]) [.tmp 2] (by rfl) ⟨by (show lkE _ _ _ = _); kernel_rfl, trivial⟩ ?_
                    exact ⟨rfl, hB⟩
                  · have hm := condF hb110 hm
                    refine cW_skip ?_
                    refine eX_then ?_
                    refine cW_seq ?_
                    refine cW_region ?_
                    refine wS_pure 1 [(74, .slice A0 (l0).length cap0)] (by kernel_rfl) ?_
                    obtain ⟨y111, hy112, hm⟩ := bindE hm
                    refine wS_calls (d := 75) (f := 22) (vs := [.slice A0 (l0).length cap0]) (by kernel_rfl) ent22 (c_laws_toPointS hy112 F0) ?_
                    rintro _ w113 ⟨A115, cap116, fp117, rfl, F118, G119, hc114⟩
                    have D122 : Dj fp13 fp117 := Dj.of F14.low G119
                    have D123 : Dj fp24 fp117 := Dj.of F25.low G119
                    have D124 : Dj fp36 fp117 := Dj.of F88.low G119
                    have D125 : Dj fp49 fp117 := Dj.of F102.low G119
                    have D126 : Dj fp70 fp117 := Dj.of F71.low G119
                    replace F0 := F0.chg hc114 Dj.nil
                    replace F14 := F14.chg hc114 Dj.nil
                    replace F25 := F25.chg hc114 Dj.nil
                    replace F88 := F88.chg hc114 Dj.nil
                    replace F102 := F102.chg hc114 Dj.nil
                    replace F71 := F71.chg hc114 Dj.nil
                    replace hB := hB.inS hc114 inNil
                    replace G119 := low_le hZ G119
                    replace hZ := Nat.le_trans hZ hc114.size
                    refine ⟨.slice A115 (y111).length cap116, rfl, ?_⟩
                    obtain ⟨y127, hy128, hm⟩ := bindE hm
                    refine wS_calls (d := 76) (f := 35) (vs := [.slice A115 (y111).length cap116]) (by kernel_rfl) ent35 (c_impl_HananPoints hy128 (F118.sl encII_ok)) ?_
                    rintro _ w129 ⟨A131, cap132, fp133, rfl, F134, G135, hc130⟩
                    have D138 : Dj fp13 fp133 := Dj.of F14.low G135
                    have D139 : Dj fp24 fp133 := Dj.of F25.low G135
                    have D140 : Dj fp36 fp133 := Dj.of F88.low G135
                    have D141 : Dj fp49 fp133 := Dj.of F102.low G135
                    have D142 : Dj fp70 fp133 := Dj.of F71.low G135
                    have D143 : Dj fp117 fp133 := Dj.of F118.low G135
                    replace F0 := F0.chg hc130 Dj.nil
                    replace F14 := F14.chg hc130 Dj.nil
                    replace F25 := F25.chg hc130 Dj.nil
                    replace F88 := F88.chg hc130 Dj.nil
                    replace F102 := F102.chg hc130 Dj.nil
                    replace F71 := F71.chg hc130 Dj.nil
                    replace F118 := F118.chg hc130 Dj.nil
                    replace hB := hB.inS hc130 inNil
                    replace G135 := low_le hZ G135
                    replace hZ := Nat.le_trans hZ hc130.size
                    refine ⟨.tuple #[.slice A131 (y127.1).length cap132, .bool (y127.2)], rfl, ?_⟩
                    refine wS_pure 5 [(13, .bool (y127.2)), (12, .slice A131 (y127.1).length cap132), (78, .bool (y127.2)), (77, .slice A131 (y127.1).length cap132), (73, .tuple #[.slice A131 (y127.1).length cap132, .bool (y127.2)])] (by kernel_rfl) ?_
                    refine wS_end (by rfl) ?_
                    refine eX_then ?_
                    refine cW_seq ?_
                    refine cW_seq ?_
                    refine cW_region ?_
                    refine wS_pure 2 [(80, .slice A22 (y18.1).length cap23), (79, .slice A131 (y127.1).length cap132)] (by kernel_rfl) ?_
                    obtain ⟨y144, hy145, hm⟩ := bindE hm
                    refine wS_calls (d := 81) (f := 24) (vs := [.slice A131 (y127.1).length cap132, .slice A22 (y18.1).length cap23]) (by kernel_rfl) ent24 (c_laws_eqPointS hy145 (F134.sl encII_ok) (F25.sl encII_ok)) ?_
                    rintro _ w146 ⟨rfl, hc147⟩
                    replace F0 := F0.chg hc147 Dj.nil
                    replace F14 := F14.chg hc147 Dj.nil
                    replace F25 := F25.chg hc147 Dj.nil
                    replace F88 := F88.chg hc147 Dj.nil
                    replace F102 := F102.chg hc147 Dj.nil
                    replace F71 := F71.chg hc147 Dj.nil
                    replace F118 := F118.chg hc147 Dj.nil
                    replace F134 := F134.chg hc147 Dj.nil
                    replace hB := hB.inS hc147 inNil
                    replace hZ := Nat.le_trans hZ hc147.size
                    refine ⟨.bool (y144), rfl, ?_⟩
                    refine wS_pure 2 [(83, .bool (!y144)), (82, .bool (!y144))] (by kernel_rfl) ?_
                    refine wS_bool (!y144) (fun hb148 => ?_) (fun hb148 => ?_)
                    · have hm := condT hb148 hm
                      rewrite [hb148]
                      refine wS_pure 4 [(87, .bool (true)), (86, undef), (85, undef), (84, undef)] (by kernel_rfl) ?_
                      refine wS_end (by rfl) ?_
                      refine eX_then ?_
                      refine cW_prune [(7, .slice A47 (y98.2).length cap48), (10, .int .i64 (y98.1)), (87, .bool (true))] (by kernel_rfl) (by kernel_rfl) (fun a149 => ?_)
                      refine cW_cond_t (by kernel_rfl) ?_
                      refine cW_seq ?_
                      refine cW_region ?_
                      refine wS_pure 1 [(2, .bool (false))] (by kernel_rfl) ?_
                      refine wS_end (by rfl) ?_
                      refine eX_then ?_
                      refine cW_ret ?_
                      refine eX_then_ret ?_
                      have hq : (some false : Option ((Bool))) = some _ := hm
                      replace hq := someE hq
                      subst hq
                      refine eX_ret (vs := [.bool (false)]) [.tmp 2] (by rfl) ⟨by (show lkE _ _ _ = _); kernel_rfl, trivial⟩ ?_
                      exact ⟨rfl, hB⟩
                    · have hm := condF hb148 hm
                      rewrite [hb148]
                      refine wS_pure 4 [(87, .bool (!(y127.2 == y18.2))), (86, .bool (!(y127.2 == y18.2))), (85, .bool (y18.2)), (84, .bool (y127.2))] (by kernel_rfl) ?_
                      refine wS_end (by rfl) ?_
                      refine eX_then ?_
                      refine cW_prune [(7, .slice A47 (y98.2).length cap48), (10, .int .i64 (y98.1)), (87, .bool (!(y127.2 == y18.2)))] (by kernel_rfl) (by kernel_rfl) (fun a150 => ?_)
                      refine cW_cond (t := !(y127.2 == y18.2)) (by kernel_rfl) (fun hb151 => ?_) (fun hb151 => ?_)
                      · have hm := condT hb151 hm
                        refine cW_seq ?_
                        refine cW_region ?_
                        refine wS_pure 1 [(2, .bool (false))] (by kernel_rfl) ?_
                        refine wS_end (by rfl) ?_
                        refine eX_then ?_
                        refine cW_ret ?_
                        refine eX_then_ret ?_
                        have hq : (some false : Option ((Bool))) = some _ := hm
                        replace hq := someE hq
                        subst hq
                        refine eX_ret (vs := [.bool (false)]) [.tmp 2] (by rfl) ⟨by (show lkE _ _ _ = _); kernel_rfl, trivial⟩ ?_
                        exact ⟨rfl, hB⟩
                      · have hm := condF hb151 hm
                        refine cW_skip ?_
                        refine eX_then ?_
                        refine cW_seq ?_
                        refine cW_region ?_
                        refine wS_pure 1 [(11, .int .i64 (1))] (by kernel_rfl) ?_
                        refine wS_end (by rfl) ?_
                        refine eX_then ?_
                        refine cW_seq ?_
                        refine cW_region ?_
                        refine wS_pure 2 [(89, .int .i64 (1)), (88, .slice A47 (y98.2).length cap48)] (by kernel_rfl) ?_
                        obtain ⟨y152, hy153, hm⟩ := bindE hm
                        refine wS_calls (d := 90) (f := 37) (vs := [.slice A47 (y98.2).length cap48, .int .i64 (1)]) (by kernel_rfl) ent37 (c_laws_heldPointS hy153 (F102.sl encII_ok)) ?_
                        rintro _ w154 ⟨rfl, hc155⟩
                        replace F0 := F0.chg hc155 Dj.nil
                        replace F14 := F14.chg hc155 Dj.nil
                        replace F25 := F25.chg hc155 Dj.nil
                        replace F88 := F88.chg hc155 Dj.nil
                        replace F102 := F102.chg hc155 Dj.nil
                        replace F71 := F71.chg hc155 Dj.nil
                        replace F118 := F118.chg hc155 Dj.nil
                        replace F134 := F134.chg hc155 Dj.nil
                        replace hB := hB.inS hc155 inNil
                        replace hZ := Nat.le_trans hZ hc155.size
                        refine ⟨.int .i64 (y152), rfl, ?_⟩
                        refine wS_pure 1 [(11, .int .i64 (y152))] (by kernel_rfl) ?_
                        refine wS_end (by rfl) ?_
                        refine eX_then ?_
                        refine cW_seq ?_
                        refine cW_seq ?_
                        refine cW_region ?_
                        refine wS_pure 2 [(92, .bool (decide (y152 < 0))), (91, .int .i64 (y152))] (by kernel_rfl) ?_
                        refine wS_end (by rfl) ?_
                        refine eX_then ?_
                        refine cW_cond (t := decide (y152 < 0)) (by kernel_rfl) (fun hb156 => ?_) (fun hb156 => ?_)
                        · have hm := condT hb156 hm
                          refine cW_seq ?_
                          refine cW_region ?_
                          refine wS_pure 1 [(2, .bool (false))] (by kernel_rfl) ?_
                          refine wS_end (by rfl) ?_
                          refine eX_then ?_
                          refine cW_ret ?_
                          refine eX_then_ret ?_
                          have hq : (some false : Option ((Bool))) = some _ := hm
                          replace hq := someE hq
                          subst hq
                          refine eX_ret (vs := [.bool (false)]) [.tmp 2] (by rfl) ⟨by (show lkE _ _ _ = _); kernel_rfl, trivial⟩ ?_
                          exact ⟨rfl, hB⟩
                        · have hm := condF hb156 hm
                          refine cW_skip ?_
                          refine eX_then ?_
                          refine cW_seq ?_
                          refine cW_seq ?_
                          refine cW_region ?_
                          refine wS_pure 3 [(95, .bool (y152 != y98.1)), (94, .int .i64 (y98.1)), (93, .int .i64 (y152))] (by kernel_rfl) ?_
                          refine wS_end (by rfl) ?_
                          refine eX_then ?_
                          refine cW_cond (t := y152 != y98.1) (by kernel_rfl) (fun hb157 => ?_) (fun hb157 => ?_)
                          · have hm := condT hb157 hm
                            refine cW_seq ?_
                            refine cW_region ?_
                            refine wS_pure 1 [(2, .bool (false))] (by kernel_rfl) ?_
                            refine wS_end (by rfl) ?_
                            refine eX_then ?_
                            refine cW_ret ?_
                            refine eX_then_ret ?_
                            have hq : (some false : Option ((Bool))) = some _ := hm
                            replace hq := someE hq
                            subst hq
                            refine eX_ret (vs := [.bool (false)]) [.tmp 2] (by rfl) ⟨by (show lkE _ _ _ = _); kernel_rfl, trivial⟩ ?_
                            exact ⟨rfl, hB⟩
                          · have hm := condF hb157 hm
                            refine cW_skip ?_
                            refine eX_then ?_
                            refine cW_seq ?_
                            refine cW_region ?_
                            refine wS_pure 1 [(2, .bool (true))] (by kernel_rfl) ?_
                            refine wS_end (by rfl) ?_
                            refine eX_then ?_
                            refine cW_ret ?_
                            have hq : (some true : Option ((Bool))) = some _ := hm
                            replace hq := someE hq
                            subst hq
                            refine eX_ret (vs := [.bool (true)]) [.tmp 2] (by rfl) ⟨by (show lkE _ _ _ = _); kernel_rfl, trivial⟩ ?_
                            exact ⟨rfl, hB⟩

set_option maxRecDepth 100000 in
/-- spec.BestRoot -/
theorem c_spec_BestRoot {w0 : World} {l0 : List (Int × Int)} {A0 : Option Addr} {cap0 : Nat} {fp0 : List Nat} {r : (Int × Int) × (Int) × (Bool)} (hm : m_spec_BestRoot l0 = some r) (F0 : Sl 2 encII w0 fp0 A0 l0) (K0 : (l0).length ≤ cap0) :
    Calls Try.prog 40 #[.slice A0 (l0).length cap0] w0 fun e w' => e = .returned (.tuple #[.agg #[.int .i64 (r.1.1), .int .i64 (r.1.2)], .int .i64 (r.2.1), .bool (r.2.2)]) ∧ Chg [] w0 w' := by
  have L0 := F0.low
  have hB : Chg [] w0 w0 := Chg.refl _ _
  have hZ := Nat.le_refl w0.heap.size
  unfold m_spec_BestRoot at hm
  refine enterE (N := 44) Try.func40 (by rfl) Try.ntmps40 (by simp) [(0, .slice A0 (l0).length cap0)] (by rfl) (by kernel_rfl) (fun a => ?_)
  refine cW_seq ?_
  refine cW_region ?_
  refine wS_alloc (d := 2) (T := 34) (z := .agg #[.int .i64 (0), .int .i64 (0)]) (by kernel_rfl) (by kernel_rfl) ?_
  intro b2 w3 G4 F5 hc6
  replace F5 : Cl w3 b2 34 [.int .i64 (0), .int .i64 (0)] := F5
  replace F0 := F0.chg hc6 Dj.nil
  replace hB := hB.inS hc6 inNil
  replace G4 := Nat.le_trans hZ G4
  replace hZ := Nat.le_trans hZ hc6.size
  refine wS_pure 2 [(4, .bool (false)), (3, .int .i64 (0))] (by kernel_rfl) ?_
  refine wS_end (by rfl) ?_
  refine eX_then ?_
  refine cW_seq ?_
  refine cW_seq ?_
  refine cW_region ?_
  refine wS_pure 1 [(10, .slice A0 (l0).length cap0)] (by kernel_rfl) ?_
  obtain ⟨y8, hy9, hm⟩ := bindE hm
  refine wS_calls (d := 11) (f := 75) (vs := [.slice A0 (l0).length cap0]) (by kernel_rfl) ent75 (c_spec_l05Is hy9 F0 K0) ?_
  rintro _ w10 ⟨rfl, hc11⟩
  replace F0 := F0.chg hc11 Dj.nil
  replace F5 := F5.chg hc11 notNil
  replace hB := hB.inS hc11 inNil
  replace hZ := Nat.le_trans hZ hc11.size
  refine ⟨.bool (y8), rfl, ?_⟩
  refine wS_pure 1 [(12, .bool (!y8))] (by kernel_rfl) ?_
  refine wS_end (by rfl) ?_
  refine eX_then ?_
  refine cW_cond (t := !y8) (by kernel_rfl) (fun hb12 => ?_) (fun hb12 => ?_)
  · have hm := condT hb12 hm
    refine cW_seq ?_
    refine cW_region ?_
    refine wS_pure 1 [(13, .agg #[.int .i64 (0), .int .i64 (0)])] (by kernel_rfl) ?_
    refine wS_store (T := 34) (g := b2) (o := 0) (ad := ⟨b2, 0, none⟩) (v := .agg #[.int .i64 (0), .int .i64 (0)]) (vs := [.int .i64 (0), .int .i64 (0)]) (by kernel_rfl) (by rfl) sz34 (by rfl) (by rfl) F5 (by simp only [List.length_cons, List.length_nil]; omega) ?_
    intro w13 F14 hc15
    replace F0 := F0.chg hc15 (Dj.of L0 (low1 G4))
    replace hB := hB.inS hc15 (inLow (low1 G4))
    replace hZ := Nat.le_trans hZ hc15.size
    replace F14 : Cl w13 b2 34 [.int .i64 (0), .int .i64 (0)] := F14
    clear F5
    refine wS_pure 2 [(4, .bool (false)), (3, .int .i64 (0))] (by kernel_rfl) ?_
    refine wS_end (by rfl) ?_
    refine eX_then ?_
    refine cW_ret ?_
    refine eX_then_ret ?_
    have hq : (some (((0, 0), 0, false)) : Option ((Int × Int) × (Int) × (Bool))) = some _ := hm
    replace hq := someE hq
    subst hq
    refine eX_ret (vs := [.agg #[.int .i64 (0), .int .i64 (0)], .int .i64 (0), .bool (false)]) [.cell 2 34, .tmp 3, .tmp 4] (by rfl) ⟨⟨⟨b2, 0, none⟩, by kernel_rfl, run_loadVarA (vs := [.int .i64 (0), .int .i64 (0)]) vt34 (fun i u hu => by exact box_cells F14 0 hu (by rfl))⟩, ⟨by (show lkE _ _ _ = _); kernel_rfl, ⟨by (show lkE _ _ _ = _); kernel_rfl, trivial⟩⟩⟩ ?_
    exact ⟨rfl, hB⟩
  · have hm := condF hb12 hm
    refine cW_skip ?_
    refine eX_then ?_
    refine cW_seq ?_
    refine cW_region ?_
    refine wS_pure 1 [(14, .slice A0 (l0).length cap0)] (by kernel_rfl) ?_
    obtain ⟨y16, hy17, hm⟩ := bindE hm
    refine wS_calls (d := 15) (f := 87) (vs := [.slice A0 (l0).length cap0]) (by kernel_rfl) ent87 (c_spec_l05Hanan hy17 F0) ?_
    rintro _ w18 ⟨A20, cap21, fp22, rfl, F23, G24, hc19⟩
    have D27 : Dj [b2] fp22 := Dj.of (lt1 F5.lt) G24
    replace F0 := F0.chg hc19 Dj.nil
    replace F5 := F5.chg hc19 notNil
    replace hB := hB.inS hc19 inNil
    replace G24 := low_le hZ G24
    replace hZ := Nat.le_trans hZ hc19.size
    refine ⟨.slice A20 (y16).length cap21, rfl, ?_⟩
    refine wS_pure 1 [(5, .slice A20 (y16).length cap21)] (by kernel_rfl) ?_
    refine wS_end (by rfl) ?_
    refine eX_then ?_
    refine cW_seq ?_
    refine cW_region ?_
    refine wS_pure 1 [(16, .slice A20 (y16).length cap21)] (by kernel_rfl) ?_
    obtain ⟨x28, hx29, hm⟩ := bindE hm
    refine wS_idx (d := 17) (T := 25) (A := A20) (n := (y16).length) (cap := cap21) (kd := .i64) (m := 0) (by kernel_rfl) sl25 ((F23.sl encII_ok).is hx29) ?_
    refine wS_loadA (d := 18) (T := 34) (ad := (elA A20 2 (0) 0)) (vs := [.int .i64 (x28.1), .int .i64 (x28.2)]) (by kernel_rfl) vt34 (fun i u hu => Sl.cells_at (F23.sl encII_ok) hx29 0 hu (by rfl)) ?_
    refine wS_alloc (d := 6) (T := 34) (z := .agg #[.int .i64 (0), .int .i64 (0)]) (by kernel_rfl) (by kernel_rfl) ?_
    intro b30 w31 G32 F33 hc34
    replace F33 : Cl w31 b30 34 [.int .i64 (0), .int .i64 (0)] := F33
    have D36 : Dj [b2] [b30] := Dj.of (lt1 F5.lt) (low1 G32)
    have D37 : Dj fp22 [b30] := Dj.of F23.low (low1 G32)
    replace F0 := F0.chg hc34 Dj.nil
    replace F5 := F5.chg hc34 notNil
    replace F23 := F23.chg hc34 Dj.nil
    replace hB := hB.inS hc34 inNil
    replace G32 := Nat.le_trans hZ G32
    replace hZ := Nat.le_trans hZ hc34.size
    refine wS_store (T := 34) (g := b30) (o := 0) (ad := ⟨b30, 0, none⟩) (v := .agg #[.int .i64 (x28.1), .int .i64 (x28.2)]) (vs := [.int .i64 (x28.1), .int .i64 (x28.2)]) (by kernel_rfl) (by rfl) sz34 (by rfl) (by rfl) F33 (by simp only [List.length_cons, List.length_nil]; omega) ?_
    intro w38 F39 hc40
    replace F0 := F0.chg hc40 (Dj.of L0 (low1 G32))
    replace F5 := F5.chg hc40 (dj1 D36)
    replace F23 := F23.chg hc40 D37
    replace hB := hB.inS hc40 (inLow (low1 G32))
    replace hZ := Nat.le_trans hZ hc40.size
    replace F39 : Cl w38 b30 34 [.int .i64 (x28.1), .int .i64 (x28.2)] := F39
    clear F33
    refine wS_end (by rfl) ?_
    refine eX_then ?_
    refine cW_seq ?_
    refine cW_region ?_
    refine wS_pure 1 [(19, .slice A0 (l0).length cap0)] (by kernel_rfl) ?_
    refine wS_loadA (d := 20) (T := 34) (ad := ⟨b30, 0, none⟩) (vs := [.int .i64 (x28.1), .int .i64 (x28.2)]) (by kernel_rfl) vt34 (fun i u hu => box_cells F39 0 hu (by rfl)) ?_
    obtain ⟨y41, hy42, hm⟩ := bindE hm
    refine wS_calls (d := 21) (f := 77) (vs := [.slice A0 (l0).length cap0, .agg #[.int .i64 (x28.1), .int .i64 (x28.2)]]) (by kernel_rfl) ent77 (c_spec_l05Star hy42 F0) ?_
    rintro _ w43 ⟨rfl, hc44⟩
    replace F0 := F0.chg hc44 Dj.nil
    replace F5 := F5.chg hc44 notNil
    replace F23 := F23.chg hc44 Dj.nil
    replace F39 := F39.chg hc44 notNil
    replace hB := hB.inS hc44 inNil
    replace hZ := Nat.le_trans hZ hc44.size
    refine ⟨.int .i64 (y41), rfl, ?_⟩
    refine wS_pure 1 [(7, .int .i64 (y41))] (by kernel_rfl) ?_
    refine wS_end (by rfl) ?_
    refine eX_then ?_
    refine cW_seq ?_
    refine cW_seq ?_
    refine cW_region ?_
    refine wS_pure 1 [(8, .int .i64 (1))] (by kernel_rfl) ?_
    refine wS_end (by rfl) ?_
    refine eX_then ?_
    obtain ⟨r152, hr153, hm⟩ := bindE hm
    have hm154 := hm
    refine cW_cut (fun a' w' => ∃ x136 : Int, ∃ x137 : Int, ∃ x138 : Int, (x136, x137, x138) = r152 ∧ Fr 44 [(2, .pointer (some ⟨b2, 0, none⟩)), (6, .pointer (some ⟨b30, 0, none⟩)), (7, .int .i64 (x136))] a' ∧ Cl w' b2 34 [.int .i64 (0), .int .i64 (0)] ∧ Cl w' b30 34 [.int .i64 (x137), .int .i64 (x138)] ∧ Chg [] w0 w' ∧ w0.heap.size ≤ w'.heap.size) ?_ ?_
    · refine cW_block ?_
      refine cW_loop _ (fun (s155 : Int × Int × Int × Int) a' w' => ∃ x143 : Int, ∃ x144 : Int, ∃ x145 : Int, ∃ x146 : Int, (x143, x144, x145, x146) = s155 ∧ Fr 44 [(0, .slice A0 (l0).length cap0), (2, .pointer (some ⟨b2, 0, none⟩)), (5, .slice A20 (y16).length cap21), (6, .pointer (some ⟨b30, 0, none⟩)), (7, .int .i64 (x143)), (8, .int .i64 (x144))] a' ∧ Sl 2 encII w' fp0 A0 l0 ∧ Cl w' b2 34 [.int .i64 (0), .int .i64 (0)] ∧ Ow 2 encII 34 w' fp22 A20 cap21 y16 ∧ Cl w' b30 34 [.int .i64 (x145), .int .i64 (x146)] ∧ Chg [] w0 w' ∧ w0.heap.size ≤ w'.heap.size) hr153 (fun hst => ⟨y41, 1, x28.1, x28.2, rfl, Fr.of hst (by kernel_rfl), F0, F5, F23, F39, hB, hZ⟩) ?_
      rintro _ c156 a' w142 ⟨x143, x144, x145, x146, rfl, hF147, F148, F149, F150, F151, hB, hZ⟩ hx157
      refine Fr.goOn hF147 (by kernel_rfl) ?_
      have hm := hx157
      unfold m_spec_BestRoot_s1 at hm
      refine cW_seq ?_
      refine cW_seq ?_
      refine cW_region ?_
      refine wS_pure 4 [(25, .bool (decide (x144 < (((y16).length : Int))))), (24, .int .i64 (((y16).length : Int))), (23, .slice A20 (y16).length cap21), (22, .int .i64 (x144))] (by kernel_rfl) ?_
      refine wS_end (by rfl) ?_
      refine eX_then ?_
      refine cW_cond (t := decide (x144 < (((y16).length : Int)))) (by kernel_rfl) (fun hb158 => ?_) (fun hb158 => ?_)
      · have hm := condT hb158 hm
        refine cW_skip ?_
        refine eX_then ?_
        refine cW_seq ?_
        refine cW_block ?_
        obtain ⟨s181, hs182, hm⟩ := bindE hm
        refine cW_cut (fun a' w' => ∃ x173 : Int, ∃ x174 : Int, ∃ x175 : Int, (x173, x174, x175) = s181 ∧ Fr 44 [(0, .slice A0 (l0).length cap0), (2, .pointer (some ⟨b2, 0, none⟩)), (5, .slice A20 (y16).length cap21), (6, .pointer (some ⟨b30, 0, none⟩)), (7, .int .i64 (x173)), (8, .int .i64 (x144))] a' ∧ Sl 2 encII w' fp0 A0 l0 ∧ Cl w' b2 34 [.int .i64 (0), .int .i64 (0)] ∧ Ow 2 encII 34 w' fp22 A20 cap21 y16 ∧ Cl w' b30 34 [.int .i64 (x174), .int .i64 (x175)] ∧ Chg [] w0 w' ∧ w0.heap.size ≤ w'.heap.size) ?_ ?_
        · have hm := hs182
          refine cW_seq ?_
          refine cW_region ?_
          refine wS_pure 3 [(30, .int .i64 (x144)), (29, .slice A20 (y16).length cap21), (28, .slice A0 (l0).length cap0)] (by kernel_rfl) ?_
          obtain ⟨x183, hx184, hm⟩ := bindE hm
          refine wS_idx (d := 31) (T := 25) (A := A20) (n := (y16).length) (cap := cap21) (kd := .i64) (m := x144) (by kernel_rfl) sl25 ((F150.sl encII_ok).is hx184) ?_
          refine wS_loadA (d := 32) (T := 34) (ad := (elA A20 2 (x144) 0)) (vs := [.int .i64 (x183.1), .int .i64 (x183.2)]) (by kernel_rfl) vt34 (fun i u hu => Sl.cells_at (F150.sl encII_ok) hx184 0 hu (by rfl)) ?_
          obtain ⟨y185, hy186, hm⟩ := bindE hm
          refine wS_calls (d := 33) (f := 77) (vs := [.slice A0 (l0).length cap0, .agg #[.int .i64 (x183.1), .int .i64 (x183.2)]]) (by kernel_rfl) ent77 (c_spec_l05Star hy186 F148) ?_
          rintro _ w187 ⟨rfl, hc188⟩
          replace F148 := F148.chg hc188 Dj.nil
          replace F149 := F149.chg hc188 notNil
          replace F150 := F150.chg hc188 Dj.nil
          replace F151 := F151.chg hc188 notNil
          replace hB := hB.inS hc188 inNil
          replace hZ := Nat.le_trans hZ hc188.size
          refine ⟨.int .i64 (y185), rfl, ?_⟩
          refine wS_pure 1 [(9, .int .i64 (y185))] (by kernel_rfl) ?_
          refine wS_end (by rfl) ?_
          refine eX_then ?_
          refine cW_seq ?_
          refine cW_region ?_
          refine wS_pure 3 [(36, .bool (decide (y185 < x143))), (35, .int .i64 (x143)), (34, .int .i64 (y185))] (by kernel_rfl) ?_
          refine wS_end (by rfl) ?_
          refine eX_then ?_
          refine cW_cond (t := decide (y185 < x143)) (by kernel_rfl) (fun hb189 => ?_) (fun hb189 => ?_)
          · have hm := condT hb189 hm
            refine cW_seq ?_
            refine cW_region ?_
            refine wS_pure 2 [(38, .int .i64 (x144)), (37, .slice A20 (y16).length cap21)] (by kernel_rfl) ?_
            obtain ⟨x190, hx191, hm⟩ := bindE hm
            refine wS_idx (d := 39) (T := 25) (A := A20) (n := (y16).length) (cap := cap21) (kd := .i64) (m := x144) (by kernel_rfl) sl25 ((F150.sl encII_ok).is hx191) ?_
            refine wS_loadA (d := 40) (T := 34) (ad := (elA A20 2 (x144) 0)) (vs := [.int .i64 (x190.1), .int .i64 (x190.2)]) (by kernel_rfl) vt34 (fun i u hu => Sl.cells_at (F150.sl encII_ok) hx191 0 hu (by rfl)) ?_
            refine wS_store (T := 34) (g := b30) (o := 0) (ad := ⟨b30, 0, none⟩) (v := .agg #[.int .i64 (x190.1), .int .i64 (x190.2)]) (vs := [.int .i64 (x190.1), .int .i64 (x190.2)]) (by kernel_rfl) (by rfl) sz34 (by rfl) (by rfl) F151 (by simp only [List.length_cons, List.length_nil]; omega) ?_
            intro w192 F193 hc194
            replace F148 := F148.chg hc194 (Dj.of L0 (low1 G32))
            replace F149 := F149.chg hc194 (dj1 D36)
            replace F150 := F150.chg hc194 D37
            replace hB := hB.inS hc194 (inLow (low1 G32))
            replace hZ := Nat.le_trans hZ hc194.size
            replace F193 : Cl w192 b30 34 [.int .i64 (x190.1), .int .i64 (x190.2)] := F193
            clear F151
            refine wS_end (by rfl) ?_
            refine eX_then ?_
            refine cW_prune [(0, .slice A0 (l0).length cap0), (2, .pointer (some ⟨b2, 0, none⟩)), (5, .slice A20 (y16).length cap21), (6, .pointer (some ⟨b30, 0, none⟩)), (8, .int .i64 (x144)), (9, .int .i64 (y185))] (by kernel_rfl) (by kernel_rfl) (fun a195 => ?_)
            refine cW_region ?_
            refine wS_pure 2 [(7, .int .i64 (y185)), (41, .int .i64 (y185))] (by kernel_rfl) ?_
            refine wS_end (by rfl) ?_
            have hq : (some ((y185, x190.1, x190.2)) : Option (Int × Int × Int)) = some _ := hm
            replace hq := someE hq
            subst hq
            exact eX_J (fun hst => ⟨y185, x190.1, x190.2, rfl, Fr.of hst (by kernel_rfl), F148, F149, F150, F193, hB, hZ⟩)
          · have hm := condF hb189 hm
            refine cW_skip ?_
            have hq : (some ((x143, x145, x146)) : Option (Int × Int × Int)) = some _ := hm
            replace hq := someE hq
            subst hq
            exact eX_J (fun hst => ⟨x143, x145, x146, rfl, Fr.of hst (by kernel_rfl), F148, F149, F150, F151, hB, hZ⟩)
        · rintro a' w172 ⟨x173, x174, x175, hJ, hF176, F177, F178, F179, F180, hB, hZ⟩
          subst hJ
          refine Fr.goX hF176 (by kernel_rfl) ?_
          refine eX_block ?_
          refine eX_then ?_
          refine cW_region ?_
          refine wS_pure 3 [(8, .int .i64 (wr (x144 + 1))), (27, .int .i64 (wr (x144 + 1))), (26, .int .i64 (x144))] (by kernel_rfl) ?_
          refine wS_end (by rfl) ?_
          have hq : (some (Ctl.next ((x173, wr (x144 + 1), x174, x175))) : Option (Ctl (Int × Int × Int × Int) (Int × Int × Int))) = some _ := hm
          replace hq := someE hq
          subst hq
          exact eX_next hx157 (fun hst => ⟨x173, wr (x144 + 1), x174, x175, rfl, Fr.of hst (by kernel_rfl), F177, F178, F179, F180, hB, hZ⟩)
      · have hm := condF hb158 hm
        refine cW_exit ?_
        refine eX_then_exit ?_
        have hq : (some (Ctl.out ((x143, x145, x146))) : Option (Ctl (Int × Int × Int × Int) (Int × Int × Int))) = some _ := hm
        replace hq := someE hq
        subst hq
        refine eX_outX hx157 (fun hr196 => ?_)
        replace hr196 := hr196.symm
        subst hr196
        refine eX_block_hit ?_
        exact eX_J (fun hst => ⟨x143, x145, x146, rfl, Fr.of hst (by kernel_rfl), F149, F151, hB, hZ⟩)
    · rintro a' w135 ⟨x136, x137, x138, hJ, hF139, F140, F141, hB, hZ⟩
      subst hJ
      refine Fr.goX hF139 (by kernel_rfl) ?_
      refine eX_then ?_
      refine cW_seq ?_
      refine cW_region ?_
      refine wS_loadA (d := 42) (T := 34) (ad := ⟨b30, 0, none⟩) (vs := [.int .i64 (x137), .int .i64 (x138)]) (by kernel_rfl) vt34 (fun i u hu => box_cells F141 0 hu (by rfl)) ?_
      refine wS_pure 1 [(43, .int .i64 (x136))] (by kernel_rfl) ?_
      refine wS_store (T := 34) (g := b2) (o := 0) (ad := ⟨b2, 0, none⟩) (v := .agg #[.int .i64 (x137), .int .i64 (x138)]) (vs := [.int .i64 (x137), .int .i64 (x138)]) (by kernel_rfl) (by rfl) sz34 (by rfl) (by rfl) F140 (by simp only [List.length_cons, List.length_nil]; omega) ?_
      intro w197 F198 hc199
      replace F141 := F141.chg hc199 (dj1 (D36).symm)
      replace hB := hB.inS hc199 (inLow (low1 G4))
      replace hZ := Nat.le_trans hZ hc199.size
      replace F198 : Cl w197 b2 34 [.int .i64 (x137), .int .i64 (x138)] := F198
      clear F140
      refine wS_pure 2 [(4, .bool (true)), (3, .int .i64 (x136))] (by kernel_rfl) ?_
      refine wS_end (by rfl) ?_
      refine eX_then ?_
      refine cW_ret ?_
      have hq : (some (((x137, x138), x136, true)) : Option ((Int × Int) × (Int) × (Bool))) = some _ := hm
      replace hq := someE hq
      subst hq
      refine eX_ret (vs := [.agg #[.int .i64 (x137), .int .i64 (x138)], .int .i64 (x136), .bool (true)]) [.cell 2 34, .tmp 3, .tmp 4] (by rfl) ⟨⟨⟨b2, 0, none⟩, by kernel_rfl, run_loadVarA (vs := [.int .i64 (x137), .int .i64 (x138)]) vt34 (fun i u hu => by exact box_cells F198 0 hu (by rfl))⟩, ⟨by (show lkE _ _ _ = _); kernel_rfl, ⟨by (show lkE _ _ _ = _); kernel_rfl, trivial⟩⟩⟩ ?_
      exact ⟨rfl, hB⟩

set_option maxRecDepth 100000 in
/-- impl.BestRoot -/
theorem c_impl_BestRoot {w0 : World} {l0 : List (Int × Int)} {A0 : Option Addr} {cap0 : Nat} {fp0 : List Nat} {r : (Int × Int) × (Int) × (Bool)} (hm : m_impl_BestRoot l0 = some r) (F0 : Sl 2 encII w0 fp0 A0 l0) :
    Calls Try.prog 41 #[.slice A0 (l0).length cap0] w0 fun e w' => e = .returned (.tuple #[.agg #[.int .i64 (r.1.1), .int .i64 (r.1.2)], .int .i64 (r.2.1), .bool (r.2.2)]) ∧ Chg [] w0 w' := by
  have L0 := F0.low
  have hB : Chg [] w0 w0 := Chg.refl _ _
  have hZ := Nat.le_refl w0.heap.size
  unfold m_impl_BestRoot at hm
  refine enterE (N := 37) Try.func41 (by rfl) Try.ntmps41 (by simp) [(0, .slice A0 (l0).length cap0)] (by rfl) (by kernel_rfl) (fun a => ?_)
  refine cW_seq ?_
  refine cW_region ?_
  refine wS_alloc (d := 2) (T := 34) (z := .agg #[.int .i64 (0), .int .i64 (0)]) (by kernel_rfl) (by kernel_rfl) ?_
  intro b2 w3 G4 F5 hc6
  replace F5 : Cl w3 b2 34 [.int .i64 (0), .int .i64 (0)] := F5
  replace F0 := F0.chg hc6 Dj.nil
  replace hB := hB.inS hc6 inNil
  replace G4 := Nat.le_trans hZ G4
  replace hZ := Nat.le_trans hZ hc6.size
  refine wS_pure 2 [(4, .bool (false)), (3, .int .i64 (0))] (by kernel_rfl) ?_
  refine wS_end (by rfl) ?_
  refine eX_then ?_
  refine cW_seq ?_
  refine cW_seq ?_
  refine cW_region ?_
  refine wS_pure 1 [(9, .slice A0 (l0).length cap0)] (by kernel_rfl) ?_
  obtain ⟨y8, hy9, hm⟩ := bindE hm
  refine wS_calls (d := 10) (f := 78) (vs := [.slice A0 (l0).length cap0]) (by kernel_rfl) ent78 (c_impl_ArePins hy9 F0) ?_
  rintro _ w10 ⟨rfl, hc11⟩
  replace F0 := F0.chg hc11 Dj.nil
  replace F5 := F5.chg hc11 notNil
  replace hB := hB.inS hc11 inNil
  replace hZ := Nat.le_trans hZ hc11.size
  refine ⟨.bool (y8), rfl, ?_⟩
  refine wS_pure 1 [(11, .bool (!y8))] (by kernel_rfl) ?_
  refine wS_end (by rfl) ?_
  refine eX_then ?_
  refine cW_cond (t := !y8) (by kernel_rfl) (fun hb12 => ?_) (fun hb12 => ?_)
  · have hm := condT hb12 hm
    refine cW_seq ?_
    refine cW_region ?_
    refine wS_pure 1 [(12, .agg #[.int .i64 (0), .int .i64 (0)])] (by kernel_rfl) ?_
    refine wS_store (T := 34) (g := b2) (o := 0) (ad := ⟨b2, 0, none⟩) (v := .agg #[.int .i64 (0), .int .i64 (0)]) (vs := [.int .i64 (0), .int .i64 (0)]) (by kernel_rfl) (by rfl) sz34 (by rfl) (by rfl) F5 (by simp only [List.length_cons, List.length_nil]; omega) ?_
    intro w13 F14 hc15
    replace F0 := F0.chg hc15 (Dj.of L0 (low1 G4))
    replace hB := hB.inS hc15 (inLow (low1 G4))
    replace hZ := Nat.le_trans hZ hc15.size
    replace F14 : Cl w13 b2 34 [.int .i64 (0), .int .i64 (0)] := F14
    clear F5
    refine wS_pure 2 [(4, .bool (false)), (3, .int .i64 (0))] (by kernel_rfl) ?_
    refine wS_end (by rfl) ?_
    refine eX_then ?_
    refine cW_ret ?_
    refine eX_then_ret ?_
    have hq : (some (((0, 0), 0, false)) : Option ((Int × Int) × (Int) × (Bool))) = some _ := hm
    replace hq := someE hq
    subst hq
    refine eX_ret (vs := [.agg #[.int .i64 (0), .int .i64 (0)], .int .i64 (0), .bool (false)]) [.cell 2 34, .tmp 3, .tmp 4] (by rfl) ⟨⟨⟨b2, 0, none⟩, by kernel_rfl, run_loadVarA (vs := [.int .i64 (0), .int .i64 (0)]) vt34 (fun i u hu => by exact box_cells F14 0 hu (by rfl))⟩, ⟨by (show lkE _ _ _ = _); kernel_rfl, ⟨by (show lkE _ _ _ = _); kernel_rfl, trivial⟩⟩⟩ ?_
    exact ⟨rfl, hB⟩
  · have hm := condF hb12 hm
    refine cW_skip ?_
    refine eX_then ?_
    refine cW_seq ?_
    refine cW_region ?_
    refine wS_pure 1 [(13, .slice A0 (l0).length cap0)] (by kernel_rfl) ?_
    obtain ⟨y16, hy17, hm⟩ := bindE hm
    refine wS_calls (d := 14) (f := 89) (vs := [.slice A0 (l0).length cap0]) (by kernel_rfl) ent89 (c_impl_hanan hy17 F0) ?_
    rintro _ w18 ⟨A20, cap21, fp22, rfl, F23, G24, hc19⟩
    have D27 : Dj [b2] fp22 := Dj.of (lt1 F5.lt) G24
    replace F0 := F0.chg hc19 Dj.nil
    replace F5 := F5.chg hc19 notNil
    replace hB := hB.inS hc19 inNil
    replace G24 := low_le hZ G24
    replace hZ := Nat.le_trans hZ hc19.size
    refine ⟨.slice A20 (y16).length cap21, rfl, ?_⟩
    refine wS_pure 1 [(5, .slice A20 (y16).length cap21)] (by kernel_rfl) ?_
    refine wS_end (by rfl) ?_
    refine eX_then ?_
    refine cW_seq ?_
    refine cW_region ?_
    refine wS_pure 1 [(15, .slice A20 (y16).length cap21)] (by kernel_rfl) ?_
    obtain ⟨x28, hx29, hm⟩ := bindE hm
    refine wS_idx (d := 16) (T := 25) (A := A20) (n := (y16).length) (cap := cap21) (kd := .i64) (m := 0) (by kernel_rfl) sl25 ((F23.sl encII_ok).is hx29) ?_
    refine wS_loadA (d := 17) (T := 34) (ad := (elA A20 2 (0) 0)) (vs := [.int .i64 (x28.1), .int .i64 (x28.2)]) (by kernel_rfl) vt34 (fun i u hu => Sl.cells_at (F23.sl encII_ok) hx29 0 hu (by rfl)) ?_
    refine wS_alloc (d := 6) (T := 34) (z := .agg #[.int .i64 (0), .int .i64 (0)]) (by kernel_rfl) (by kernel_rfl) ?_
    intro b30 w31 G32 F33 hc34
    replace F33 : Cl w31 b30 34 [.int .i64 (0), .int .i64 (0)] := F33
    have D36 : Dj [b2] [b30] := Dj.of (lt1 F5.lt) (low1 G32)
    have D37 : Dj fp22 [b30] := Dj.of F23.low (low1 G32)
    replace F0 := F0.chg hc34 Dj.nil
    replace F5 := F5.chg hc34 notNil
    replace F23 := F23.chg hc34 Dj.nil
    replace hB := hB.inS hc34 inNil
    replace G32 := Nat.le_trans hZ G32
    replace hZ := Nat.le_trans hZ hc34.size
    refine wS_store (T := 34) (g := b30) (o := 0) (ad := ⟨b30, 0, none⟩) (v := .agg #[.int .i64 (x28.1), .int .i64 (x28.2)]) (vs := [.int .i64 (x28.1), .int .i64 (x28.2)]) (by kernel_rfl) (by rfl) sz34 (by rfl) (by rfl) F33 (by simp only [List.length_cons, List.length_nil]; omega) ?_
    intro w38 F39 hc40
    replace F0 := F0.chg hc40 (Dj.of L0 (low1 G32))
    replace F5 := F5.chg hc40 (dj1 D36)
    replace F23 := F23.chg hc40 D37
    replace hB := hB.inS hc40 (inLow (low1 G32))
    replace hZ := Nat.le_trans hZ hc40.size
    replace F39 : Cl w38 b30 34 [.int .i64 (x28.1), .int .i64 (x28.2)] := F39
    clear F33
    refine wS_end (by rfl) ?_
    refine eX_then ?_
    refine cW_seq ?_
    refine cW_seq ?_
    refine cW_region ?_
    refine wS_pure 3 [(20, .int .i64 (0)), (19, .int .i64 (((y16).length : Int))), (18, .slice A20 (y16).length cap21)] (by kernel_rfl) ?_
    refine wS_end (by rfl) ?_
    refine eX_then ?_
    obtain ⟨r284, hr285, hm⟩ := bindE hm
    have hm286 := hm
    refine cW_cut (fun a' w' => ∃ x269 : Int, ∃ x270 : Int, (x269, x270) = r284 ∧ Fr 37 [(0, .slice A0 (l0).length cap0), (2, .pointer (some ⟨b2, 0, none⟩)), (6, .pointer (some ⟨b30, 0, none⟩))] a' ∧ Sl 2 encII w' fp0 A0 l0 ∧ Cl w' b2 34 [.int .i64 (0), .int .i64 (0)] ∧ Cl w' b30 34 [.int .i64 (x269), .int .i64 (x270)] ∧ Chg [] w0 w' ∧ w0.heap.size ≤ w'.heap.size) ?_ ?_
    · refine cW_block ?_
      refine cW_loop _ (fun (s287 : Int × Int × Int) a' w' => ∃ x276 : Int, ∃ x277 : Int, ∃ x278 : Int, (x276, x277, x278) = s287 ∧ Fr 37 [(0, .slice A0 (l0).length cap0), (2, .pointer (some ⟨b2, 0, none⟩)), (6, .pointer (some ⟨b30, 0, none⟩)), (18, .slice A20 (y16).length cap21), (19, .int .i64 (((y16).length : Int))), (20, .int .i64 (x276))] a' ∧ Sl 2 encII w' fp0 A0 l0 ∧ Cl w' b2 34 [.int .i64 (0), .int .i64 (0)] ∧ Ow 2 encII 34 w' fp22 A20 cap21 y16 ∧ Cl w' b30 34 [.int .i64 (x277), .int .i64 (x278)] ∧ Chg [] w0 w' ∧ w0.heap.size ≤ w'.heap.size) hr285 (fun hst => ⟨0, x28.1, x28.2, rfl, Fr.of hst (by kernel_rfl), F0, F5, F23, F39, hB, hZ⟩) ?_
      rintro _ c288 a' w275 ⟨x276, x277, x278, rfl, hF279, F280, F281, F282, F283, hB, hZ⟩ hx289
      refine Fr.goOn hF279 (by kernel_rfl) ?_
      have hm := hx289
      unfold m_impl_BestRoot_s1 at hm
      refine cW_seq ?_
      refine cW_region ?_
      refine wS_pure 1 [(21, .bool (decide (x276 < (((y16).length : Int)))))] (by kernel_rfl) ?_
      refine wS_end (by rfl) ?_
      refine eX_then ?_
      refine cW_seq ?_
      refine cW_cond (t := decide (x276 < (((y16).length : Int)))) (by kernel_rfl) (fun hb290 => ?_) (fun hb290 => ?_)
      · have hm := condT hb290 hm
        refine cW_skip ?_
        refine eX_then ?_
        refine cW_seq ?_
        refine cW_block ?_
        obtain ⟨s347, hs348, hm⟩ := bindE hm
        refine cW_cut (fun a' w' => ∃ x340 : Int, ∃ x341 : Int, (x340, x341) = s347 ∧ Fr 37 [(0, .slice A0 (l0).length cap0), (2, .pointer (some ⟨b2, 0, none⟩)), (6, .pointer (some ⟨b30, 0, none⟩)), (18, .slice A20 (y16).length cap21), (19, .int .i64 (((y16).length : Int))), (20, .int .i64 (x276))] a' ∧ Sl 2 encII w' fp0 A0 l0 ∧ Cl w' b2 34 [.int .i64 (0), .int .i64 (0)] ∧ Ow 2 encII 34 w' fp22 A20 cap21 y16 ∧ Cl w' b30 34 [.int .i64 (x340), .int .i64 (x341)] ∧ Chg [] w0 w' ∧ w0.heap.size ≤ w'.heap.size) ?_ ?_
        · have hm := hs348
          refine cW_seq ?_
          refine cW_region ?_
          obtain ⟨x349, hx350, hm⟩ := bindE hm
          refine wS_idx (d := 22) (T := 25) (A := A20) (n := (y16).length) (cap := cap21) (kd := .i64) (m := x276) (by kernel_rfl) sl25 ((F282.sl encII_ok).is hx350) ?_
          refine wS_loadA (d := 23) (T := 34) (ad := (elA A20 2 (x276) 0)) (vs := [.int .i64 (x349.1), .int .i64 (x349.2)]) (by kernel_rfl) vt34 (fun i u hu => Sl.cells_at (F282.sl encII_ok) hx350 0 hu (by rfl)) ?_
          refine wS_alloc (d := 8) (T := 34) (z := .agg #[.int .i64 (0), .int .i64 (0)]) (by kernel_rfl) (by kernel_rfl) ?_
          intro b351 w352 G353 F354 hc355
          replace F354 : Cl w352 b351 34 [.int .i64 (0), .int .i64 (0)] := F354
          have D357 : Dj [b2] [b351] := Dj.of (lt1 F281.lt) (low1 G353)
          have D358 : Dj fp22 [b351] := Dj.of F282.low (low1 G353)
          have D359 : Dj [b30] [b351] := Dj.of (lt1 F283.lt) (low1 G353)
          replace F280 := F280.chg hc355 Dj.nil
          replace F281 := F281.chg hc355 notNil
          replace F282 := F282.chg hc355 Dj.nil
          replace F283 := F283.chg hc355 notNil
          replace hB := hB.inS hc355 inNil
          replace G353 := Nat.le_trans hZ G353
          replace hZ := Nat.le_trans hZ hc355.size
          refine wS_store (T := 34) (g := b351) (o := 0) (ad := ⟨b351, 0, none⟩) (v := .agg #[.int .i64 (x349.1), .int .i64 (x349.2)]) (vs := [.int .i64 (x349.1), .int .i64 (x349.2)]) (by kernel_rfl) (by rfl) sz34 (by rfl) (by rfl) F354 (by simp only [List.length_cons, List.length_nil]; omega) ?_
          intro w360 F361 hc362
          replace F280 := F280.chg hc362 (Dj.of L0 (low1 G353))
          replace F281 := F281.chg hc362 (dj1 D357)
          replace F282 := F282.chg hc362 D358
          replace F283 := F283.chg hc362 (dj1 D359)
          replace hB := hB.inS hc362 (inLow (low1 G353))
          replace hZ := Nat.le_trans hZ hc362.size
          replace F361 : Cl w360 b351 34 [.int .i64 (x349.1), .int .i64 (x349.2)] := F361
          clear F354
          refine wS_end (by rfl) ?_
          refine eX_then ?_
          refine cW_seq ?_
          refine cW_drawnTail [] 5 (by kernel_rfl) (by kernel_rfl) (fun w378 hc379 => ?_)
          replace F280 := F280.chg hc379 Dj.nil
          replace F281 := F281.chg hc379 notNil
          replace F282 := F282.chg hc379 Dj.nil
          replace F283 := F283.chg hc379 notNil
          replace F361 := F361.chg hc379 notNil
          replace hB := hB.inS hc379 inNil
          replace hZ := Nat.le_trans hZ hc379.size
          have hS := Chg.refl [] w378
          have Z380 := F280
          have Z381 := F281
          have Z382 := F282
          have Z383 := F283
          have Z384 := F361
          refine wH_take [0] [0] [(24, .slice A0 (l0).length cap0)] (by kernel_rfl) (qT (qT (qT (qB (qT (qL (qB (qT (qT qZ))))))))) (by kernel_rfl) ?_
          refine wH_loadA (i := 1) (d := 25) (T := 34) (ad := ⟨b351, 0, none⟩) (vs := [.int .i64 (x349.1), .int .i64 (x349.2)]) (by kernel_rfl) (qT (qT (qT (qB (qT (qL (qB (qT (qT qZ))))))))) (by kernel_rfl) (by kernel_rfl) vt34 (fun W hW i u hu => box_cells (Z384.chg hW notNil) 0 hu (by rfl)) ?_
          refine wH_take [3] [3, 1, 0] [(27, .slice A0 (l0).length cap0)] (by kernel_rfl) (qT (qT (qT (qB (qT (qL (qB (qT (qT qZ))))))))) (by kernel_rfl) ?_
          refine wH_loadA (i := 4) (d := 28) (T := 34) (ad := ⟨b30, 0, none⟩) (vs := [.int .i64 (x277), .int .i64 (x278)]) (by kernel_rfl) (qT (qT (qT (qB (qT (qL (qB (qT (qT qZ))))))))) (by kernel_rfl) (by kernel_rfl) vt34 (fun W hW i u hu => box_cells (Z383.chg hW notNil) 0 hu (by rfl)) ?_
          refine wH_all [2] (by rfl) (by kernel_rfl) (by simp) ⟨⟨by kernel_rfl, ?_⟩, trivial⟩
          obtain ⟨y385, hy386, hm⟩ := bindE hm
          refine wS_calls (d := 26) (f := 80) (vs := [.slice A0 (l0).length cap0, .agg #[.int .i64 (x349.1), .int .i64 (x349.2)]]) (by kernel_rfl) ent80 (c_impl_star hy386 F280) ?_
          rintro _ w387 ⟨rfl, hc388⟩
          replace F280 := F280.chg hc388 Dj.nil
          replace F281 := F281.chg hc388 notNil
          replace F282 := F282.chg hc388 Dj.nil
          replace F283 := F283.chg hc388 notNil
          replace F361 := F361.chg hc388 notNil
          replace hB := hB.inS hc388 inNil
          have hSz := hS
          replace hS := hS.inS hc388 inNil
          replace hZ := Nat.le_trans hZ hc388.size
          refine ⟨.int .i64 (y385), rfl, ?_⟩
          refine wS_end (by kernel_rfl) ?_
          refine eX_KH hS ?_
          refine wH_done (by kernel_rfl) ?_
          refine eX_tail ?_
          obtain ⟨y389, hy390, hm⟩ := bindE hm
          refine wS_calls (d := 29) (f := 80) (vs := [.slice A0 (l0).length cap0, .agg #[.int .i64 (x277), .int .i64 (x278)]]) (by kernel_rfl) ent80 (c_impl_star hy390 F280) ?_
          rintro _ w391 ⟨rfl, hc392⟩
          replace F280 := F280.chg hc392 Dj.nil
          replace F281 := F281.chg hc392 notNil
          replace F282 := F282.chg hc392 Dj.nil
          replace F283 := F283.chg hc392 notNil
          replace F361 := F361.chg hc392 notNil
          replace hB := hB.inS hc392 inNil
          replace hZ := Nat.le_trans hZ hc392.size
          refine ⟨.int .i64 (y389), rfl, ?_⟩
          refine wS_pure 1 [(30, .bool (decide (y385 < y389)))] (by kernel_rfl) ?_
          refine wS_end (by rfl) ?_
          refine eX_then ?_
          refine cW_cond (t := decide (y385 < y389)) (by kernel_rfl) (fun hb393 => ?_) (fun hb393 => ?_)
          · have hm := condT hb393 hm
            refine cW_region ?_
            refine wS_loadA (d := 31) (T := 34) (ad := ⟨b351, 0, none⟩) (vs := [.int .i64 (x349.1), .int .i64 (x349.2)]) (by kernel_rfl) vt34 (fun i u hu => box_cells F361 0 hu (by rfl)) ?_
            refine wS_store (T := 34) (g := b30) (o := 0) (ad := ⟨b30, 0, none⟩) (v := .agg #[.int .i64 (x349.1), .int .i64 (x349.2)]) (vs := [.int .i64 (x349.1), .int .i64 (x349.2)]) (by kernel_rfl) (by rfl) sz34 (by rfl) (by rfl) F283 (by simp only [List.length_cons, List.length_nil]; omega) ?_
            intro w394 F395 hc396
            replace F280 := F280.chg hc396 (Dj.of L0 (low1 G32))
            replace F281 := F281.chg hc396 (dj1 D36)
            replace F282 := F282.chg hc396 D37
            replace F361 := F361.chg hc396 (dj1 (D359).symm)
            replace hB := hB.inS hc396 (inLow (low1 G32))
            replace hZ := Nat.le_trans hZ hc396.size
            replace F395 : Cl w394 b30 34 [.int .i64 (x349.1), .int .i64 (x349.2)] := F395
            clear F283
            refine wS_end (by rfl) ?_
            have hq : (some ((x349.1, x349.2)) : Option (Int × Int)) = some _ := hm
            replace hq := someE hq
            subst hq
            exact eX_J (fun hst => ⟨x349.1, x349.2, rfl, Fr.of hst (by kernel_rfl), F280, F281, F282, F395, hB, hZ⟩)
          · have hm := condF hb393 hm
            refine cW_skip ?_
            have hq : (some ((x277, x278)) : Option (Int × Int)) = some _ := hm
            replace hq := someE hq
            subst hq
            exact eX_J (fun hst => ⟨x277, x278, rfl, Fr.of hst (by kernel_rfl), F280, F281, F282, F283, hB, hZ⟩)
        · rintro a' w339 ⟨x340, x341, hJ, hF342, F343, F344, F345, F346, hB, hZ⟩
          subst hJ
          refine Fr.goX hF342 (by kernel_rfl) ?_
          refine eX_block ?_
          refine eX_then ?_
          refine cW_region ?_
          refine wS_pure 2 [(20, .int .i64 (wr (x276 + 1))), (32, .int .i64 (wr (x276 + 1)))] (by kernel_rfl) ?_
          refine wS_end (by rfl) ?_
          have hq : (some (Ctl.next ((wr (x276 + 1), x340, x341))) : Option (Ctl (Int × Int × Int) (Int × Int))) = some _ := hm
          replace hq := someE hq
          subst hq
          exact eX_next hx289 (fun hst => ⟨wr (x276 + 1), x340, x341, rfl, Fr.of hst (by kernel_rfl), F343, F344, F345, F346, hB, hZ⟩)
      · have hm := condF hb290 hm
        refine cW_exit ?_
        refine eX_then_exit ?_
        have hq : (some (Ctl.out ((x277, x278))) : Option (Ctl (Int × Int × Int) (Int × Int))) = some _ := hm
        replace hq := someE hq
        subst hq
        refine eX_outX hx289 (fun hr397 => ?_)
        replace hr397 := hr397.symm
        subst hr397
        refine eX_block_hit ?_
        exact eX_J (fun hst => ⟨x277, x278, rfl, Fr.of hst (by kernel_rfl), F280, F281, F283, hB, hZ⟩)
    · rintro a' w268 ⟨x269, x270, hJ, hF271, F272, F273, F274, hB, hZ⟩
      subst hJ
      refine Fr.goX hF271 (by kernel_rfl) ?_
      refine eX_then ?_
      refine cW_seq ?_
      refine cW_drawnTail [] 4 (by kernel_rfl) (by kernel_rfl) (fun w410 hc411 => ?_)
      replace F272 := F272.chg hc411 Dj.nil
      replace F273 := F273.chg hc411 notNil
      replace F274 := F274.chg hc411 notNil
      replace hB := hB.inS hc411 inNil
      replace hZ := Nat.le_trans hZ hc411.size
      have hS := Chg.refl [] w410
      have Z412 := F272
      have Z413 := F273
      have Z414 := F274
      refine wH_loadA (i := 0) (d := 33) (T := 34) (ad := ⟨b30, 0, none⟩) (vs := [.int .i64 (x269), .int .i64 (x270)]) (by kernel_rfl) (qT (qT qZ)) (by kernel_rfl) (by kernel_rfl) vt34 (fun W hW i u hu => box_cells (Z414.chg hW notNil) 0 hu (by rfl)) ?_
      refine wH_take [1] [1, 0] [(34, .slice A0 (l0).length cap0)] (by kernel_rfl) (qT (qT qZ)) (by kernel_rfl) ?_
      refine wH_loadA (i := 2) (d := 35) (T := 34) (ad := ⟨b30, 0, none⟩) (vs := [.int .i64 (x269), .int .i64 (x270)]) (by kernel_rfl) (qT (qT qZ)) (by kernel_rfl) (by kernel_rfl) vt34 (fun W hW i u hu => box_cells (Z414.chg hW notNil) 0 hu (by rfl)) ?_
      refine wH_all [3] (by rfl) (by kernel_rfl) (by simp) ⟨⟨by kernel_rfl, ?_⟩, trivial⟩
      obtain ⟨y415, hy416, hm⟩ := bindE hm
      refine wS_calls (d := 36) (f := 80) (vs := [.slice A0 (l0).length cap0, .agg #[.int .i64 (x269), .int .i64 (x270)]]) (by kernel_rfl) ent80 (c_impl_star hy416 F272) ?_
      rintro _ w417 ⟨rfl, hc418⟩
      replace F272 := F272.chg hc418 Dj.nil
      replace F273 := F273.chg hc418 notNil
      replace F274 := F274.chg hc418 notNil
      replace hB := hB.inS hc418 inNil
      have hSz := hS
      replace hS := hS.inS hc418 inNil
      replace hZ := Nat.le_trans hZ hc418.size
      refine ⟨.int .i64 (y415), rfl, ?_⟩
      refine wS_end (by kernel_rfl) ?_
      refine eX_KH hS ?_
      refine wH_done (by kernel_rfl) ?_
      refine eX_tail ?_
      refine wS_store (T := 34) (g := b2) (o := 0) (ad := ⟨b2, 0, none⟩) (v := .agg #[.int .i64 (x269), .int .i64 (x270)]) (vs := [.int .i64 (x269), .int .i64 (x270)]) (by kernel_rfl) (by rfl) sz34 (by rfl) (by rfl) F273 (by simp only [List.length_cons, List.length_nil]; omega) ?_
      intro w419 F420 hc421
      replace F272 := F272.chg hc421 (Dj.of L0 (low1 G4))
      replace F274 := F274.chg hc421 (dj1 (D36).symm)
      replace hB := hB.inS hc421 (inLow (low1 G4))
      replace hZ := Nat.le_trans hZ hc421.size
      replace F420 : Cl w419 b2 34 [.int .i64 (x269), .int .i64 (x270)] := F420
      clear F273
      refine wS_pure 2 [(4, .bool (true)), (3, .int .i64 (y415))] (by kernel_rfl) ?_
      refine wS_end (by rfl) ?_
      refine eX_then ?_
      refine cW_ret ?_
      have hq : (some (((x269, x270), y415, true)) : Option ((Int × Int) × (Int) × (Bool))) = some _ := hm
      replace hq := someE hq
      subst hq
      refine eX_ret (vs := [.agg #[.int .i64 (x269), .int .i64 (x270)], .int .i64 (y415), .bool (true)]) [.cell 2 34, .tmp 3, .tmp 4] (by rfl) ⟨⟨⟨b2, 0, none⟩, by kernel_rfl, run_loadVarA (vs := [.int .i64 (x269), .int .i64 (x270)]) vt34 (fun i u hu => by exact box_cells F420 0 hu (by rfl))⟩, ⟨by (show lkE _ _ _ = _); kernel_rfl, ⟨by (show lkE _ _ _ = _); kernel_rfl, trivial⟩⟩⟩ ?_
      exact ⟨rfl, hB⟩

set_option maxRecDepth 100000 in
/-- laws.FnExactBestRoot -/
theorem c_laws_FnExactBestRoot {w0 : World} {l0 : List (Int × Int)} {A0 : Option Addr} {cap0 : Nat} {fp0 : List Nat} {r : (Bool)} (hm : m_laws_FnExactBestRoot l0 = some r) (F0 : Sl 2 encII w0 fp0 A0 l0) :
    Calls Try.prog 10 #[.slice A0 (l0).length cap0] w0 fun e w' => e = .returned (.bool (r)) ∧ Chg [] w0 w' := by
  have L0 := F0.low
  have hB : Chg [] w0 w0 := Chg.refl _ _
  have hZ := Nat.le_refl w0.heap.size
  unfold m_laws_FnExactBestRoot at hm
  refine enterE (N := 50) Try.func10 (by rfl) Try.ntmps10 (by simp) [(0, .slice A0 (l0).length cap0)] (by rfl) (by kernel_rfl) (fun a => ?_)
  refine cW_seq ?_
  refine cW_region ?_
  refine wS_pure 1 [(2, .bool (false))] (by kernel_rfl) ?_
  refine wS_end (by rfl) ?_
  refine eX_then ?_
  refine cW_seq ?_
  refine cW_region ?_
  refine wS_pure 1 [(3, .int .i64 (1048576))] (by kernel_rfl) ?_
  refine wS_end (by rfl) ?_
  refine eX_then ?_
  refine cW_seq ?_
  refine cW_region ?_
  refine wS_pure 2 [(12, .int .i64 (1048576)), (11, .slice A0 (l0).length cap0)] (by kernel_rfl) ?_
  obtain ⟨y2, hy3, hm⟩ := bindE hm
  refine wS_calls (d := 13) (f := 20) (vs := [.slice A0 (l0).length cap0, .int .i64 (1048576)]) (by kernel_rfl) ent20 (c_laws_szPointS hy3 F0) ?_
  rintro _ w4 ⟨rfl, hc5⟩
  replace F0 := F0.chg hc5 Dj.nil
  replace hB := hB.inS hc5 inNil
  replace hZ := Nat.le_trans hZ hc5.size
  refine ⟨.int .i64 (y2), rfl, ?_⟩
  refine wS_pure 1 [(3, .int .i64 (y2))] (by kernel_rfl) ?_
  refine wS_end (by rfl) ?_
  refine eX_then ?_
  refine cW_seq ?_
  refine cW_seq ?_
  refine cW_region ?_
  refine wS_pure 2 [(15, .bool (decide (y2 < 0))), (14, .int .i64 (y2))] (by kernel_rfl) ?_
  refine wS_end (by rfl) ?_
  refine eX_then ?_
  refine cW_cond (t := decide (y2 < 0)) (by kernel_rfl) (fun hb6 => ?_) (fun hb6 => ?_)
  · have hm := condT hb6 hm
    refine cW_seq ?_
    refine cW_region ?_
    refine wS_pure 1 [(2, .bool (true))] (by kernel_rfl) ?_
    refine wS_end (by rfl) ?_
    refine eX_then ?_
    refine cW_ret ?_
    refine eX_then_ret ?_
    have hq : (some true : Option ((Bool))) = some _ := hm
    replace hq := someE hq
    subst hq
    refine eX_ret (vs := [.bool (true)]) [.tmp 2] (by rfl) ⟨by (show lkE _ _ _ = _); kernel_rfl, trivial⟩ ?_
    exact ⟨rfl, hB⟩
  · have hm := condF hb6 hm
    refine cW_skip ?_
    refine eX_then ?_
    refine cW_seq ?_
    refine cW_region ?_
    refine wS_pure 1 [(17, .slice A0 (l0).length cap0)] (by kernel_rfl) ?_
    obtain ⟨y7, hy8, hm⟩ := bindE hm
    refine wS_calls (d := 18) (f := 22) (vs := [.slice A0 (l0).length cap0]) (by kernel_rfl) ent22 (c_laws_toPointS hy8 F0) ?_
    rintro _ w9 ⟨A11, cap12, fp13, rfl, F14, G15, hc10⟩
    replace F0 := F0.chg hc10 Dj.nil
    replace hB := hB.inS hc10 inNil
    replace G15 := low_le hZ G15
    replace hZ := Nat.le_trans hZ hc10.size
    refine ⟨.slice A11 (y7).length cap12, rfl, ?_⟩
    obtain ⟨y18, hy19, hm⟩ := bindE hm
    refine wS_calls (d := 19) (f := 40) (vs := [.slice A11 (y7).length cap12]) (by kernel_rfl) ent40 (c_spec_BestRoot hy19 (F14.sl encII_ok) F14.cap_le) ?_
    rintro _ w20 ⟨rfl, hc21⟩
    replace F0 := F0.chg hc21 Dj.nil
    replace F14 := F14.chg hc21 Dj.nil
    replace hB := hB.inS hc21 inNil
    replace hZ := Nat.le_trans hZ hc21.size
    refine ⟨.tuple #[.agg #[.int .i64 (y18.1.1), .int .i64 (y18.1.2)], .int .i64 (y18.2.1), .bool (y18.2.2)], rfl, ?_⟩
    refine wS_pure 4 [(22, .bool (y18.2.2)), (21, .int .i64 (y18.2.1)), (20, .agg #[.int .i64 (y18.1.1), .int .i64 (y18.1.2)]), (16, .tuple #[.agg #[.int .i64 (y18.1.1), .int .i64 (y18.1.2)], .int .i64 (y18.2.1), .bool (y18.2.2)])] (by kernel_rfl) ?_
    refine wS_alloc (d := 4) (T := 34) (z := .agg #[.int .i64 (0), .int .i64 (0)]) (by kernel_rfl) (by kernel_rfl) ?_
    intro b22 w23 G24 F25 hc26
    replace F25 : Cl w23 b22 34 [.int .i64 (0), .int .i64 (0)] := F25
    have D28 : Dj fp13 [b22] := Dj.of F14.low (low1 G24)
    replace F0 := F0.chg hc26 Dj.nil
    replace F14 := F14.chg hc26 Dj.nil
    replace hB := hB.inS hc26 inNil
    replace G24 := Nat.le_trans hZ G24
    replace hZ := Nat.le_trans hZ hc26.size
    refine wS_store (T := 34) (g := b22) (o := 0) (ad := ⟨b22, 0, none⟩) (v := .agg #[.int .i64 (y18.1.1), .int .i64 (y18.1.2)]) (vs := [.int .i64 (y18.1.1), .int .i64 (y18.1.2)]) (by kernel_rfl) (by rfl) sz34 (by rfl) (by rfl) F25 (by simp only [List.length_cons, List.length_nil]; omega) ?_
    intro w29 F30 hc31
    replace F0 := F0.chg hc31 (Dj.of L0 (low1 G24))
    replace F14 := F14.chg hc31 D28
    replace hB := hB.inS hc31 (inLow (low1 G24))
    replace hZ := Nat.le_trans hZ hc31.size
    replace F30 : Cl w29 b22 34 [.int .i64 (y18.1.1), .int .i64 (y18.1.2)] := F30
    clear F25
    refine wS_pure 2 [(6, .bool (y18.2.2)), (5, .int .i64 (y18.2.1))] (by kernel_rfl) ?_
    refine wS_end (by rfl) ?_
    refine eX_then ?_
    refine cW_seq ?_
    refine cW_region ?_
    refine wS_pure 1 [(23, .slice A0 (l0).length cap0)] (by kernel_rfl) ?_
    obtain ⟨y32, hy33, hm⟩ := bindE hm
    refine wS_calls (d := 24) (f := 22) (vs := [.slice A0 (l0).length cap0]) (by kernel_rfl) ent22 (c_laws_toPointS hy33 F0) ?_
    rintro _ w34 ⟨A36, cap37, fp38, rfl, F39, G40, hc35⟩
    have D43 : Dj fp13 fp38 := Dj.of F14.low G40
    have D44 : Dj [b22] fp38 := Dj.of (lt1 F30.lt) G40
    replace F0 := F0.chg hc35 Dj.nil
    replace F14 := F14.chg hc35 Dj.nil
    replace F30 := F30.chg hc35 notNil
    replace hB := hB.inS hc35 inNil
    replace G40 := low_le hZ G40
    replace hZ := Nat.le_trans hZ hc35.size
    refine ⟨.slice A36 (y32).length cap37, rfl, ?_⟩
    refine wS_pure 1 [(7, .slice A36 (y32).length cap37)] (by kernel_rfl) ?_
    refine wS_end (by rfl) ?_
    refine eX_then ?_
    refine cW_seq ?_
    refine cW_region ?_
    refine wS_pure 1 [(26, .slice A36 (y32).length cap37)] (by kernel_rfl) ?_
    obtain ⟨y45, hy46, hm⟩ := bindE hm
    refine wS_calls (d := 27) (f := 41) (vs := [.slice A36 (y32).length cap37]) (by kernel_rfl) ent41 (c_impl_BestRoot hy46 (F39.sl encII_ok)) ?_
    rintro _ w47 ⟨rfl, hc48⟩
    replace F0 := F0.chg hc48 Dj.nil
    replace F14 := F14.chg hc48 Dj.nil
    replace F30 := F30.chg hc48 notNil
    replace F39 := F39.chg hc48 Dj.nil
    replace hB := hB.inS hc48 inNil
    replace hZ := Nat.le_trans hZ hc48.size
    refine ⟨.tuple #[.agg #[.int .i64 (y45.1.1), .int .i64 (y45.1.2)], .int .i64 (y45.2.1), .bool (y45.2.2)], rfl, ?_⟩
    refine wS_pure 4 [(30, .bool (y45.2.2)), (29, .int .i64 (y45.2.1)), (28, .agg #[.int .i64 (y45.1.1), .int .i64 (y45.1.2)]), (25, .tuple #[.agg #[.int .i64 (y45.1.1), .int .i64 (y45.1.2)], .int .i64 (y45.2.1), .bool (y45.2.2)])] (by kernel_rfl) ?_
    refine wS_alloc (d := 8) (T := 34) (z := .agg #[.int .i64 (0), .int .i64 (0)]) (by kernel_rfl) (by kernel_rfl) ?_
    intro b49 w50 G51 F52 hc53
    replace F52 : Cl w50 b49 34 [.int .i64 (0), .int .i64 (0)] := F52
    have D55 : Dj fp13 [b49] := Dj.of F14.low (low1 G51)
    have D56 : Dj [b22] [b49] := Dj.of (lt1 F30.lt) (low1 G51)
    have D57 : Dj fp38 [b49] := Dj.of F39.low (low1 G51)
    replace F0 := F0.chg hc53 Dj.nil
    replace F14 := F14.chg hc53 Dj.nil
    replace F30 := F30.chg hc53 notNil
    replace F39 := F39.chg hc53 Dj.nil
    replace hB := hB.inS hc53 inNil
    replace G51 := Nat.le_trans hZ G51
    replace hZ := Nat.le_trans hZ hc53.size
    refine wS_store (T := 34) (g := b49) (o := 0) (ad := ⟨b49, 0, none⟩) (v := .agg #[.int .i64 (y45.1.1), .int .i64 (y45.1.2)]) (vs := [.int .i64 (y45.1.1), .int .i64 (y45.1.2)]) (by kernel_rfl) (by rfl) sz34 (by rfl) (by rfl) F52 (by simp only [List.length_cons, List.length_nil]; omega) ?_
    intro w58 F59 hc60
    replace F0 := F0.chg hc60 (Dj.of L0 (low1 G51))
    replace F14 := F14.chg hc60 D55
    replace F30 := F30.chg hc60 (dj1 D56)
    replace F39 := F39.chg hc60 D57
    replace hB := hB.inS hc60 (inLow (low1 G51))
    replace hZ := Nat.le_trans hZ hc60.size
    replace F59 : Cl w58 b49 34 [.int .i64 (y45.1.1), .int .i64 (y45.1.2)] := F59
    clear F52
    refine wS_pure 2 [(10, .bool (y45.2.2)), (9, .int .i64 (y45.2.1))] (by kernel_rfl) ?_
    refine wS_end (by rfl) ?_
    refine eX_then ?_
    refine cW_prune [(0, .slice A0 (l0).length cap0), (4, .pointer (some ⟨b22, 0, none⟩)), (5, .int .i64 (y18.2.1)), (6, .bool (y18.2.2)), (7, .slice A36 (y32).length cap37), (8, .pointer (some ⟨b49, 0, none⟩)), (9, .int .i64 (y45.2.1)), (10, .bool (y45.2.2))] (by kernel_rfl) (by kernel_rfl) (fun a61 => ?_)
    refine cW_seq ?_
    refine cW_seq ?_
    refine cW_region ?_
    refine wS_loadA (d := 31) (T := 34) (ad := ⟨b49, 0, none⟩) (vs := [.int .i64 (y45.1.1), .int .i64 (y45.1.2)]) (by kernel_rfl) vt34 (fun i u hu => box_cells F59 0 hu (by rfl)) ?_
    refine wS_loadA (d := 32) (T := 34) (ad := ⟨b22, 0, none⟩) (vs := [.int .i64 (y18.1.1), .int .i64 (y18.1.2)]) (by kernel_rfl) vt34 (fun i u hu => box_cells F30 0 hu (by rfl)) ?_
    obtain ⟨y62, hy63, hm⟩ := bindE hm
    refine wS_calls (d := 33) (f := 42) (vs := [.agg #[.int .i64 (y45.1.1), .int .i64 (y45.1.2)], .agg #[.int .i64 (y18.1.1), .int .i64 (y18.1.2)]]) (by kernel_rfl) ent42 (c_laws_eqPoint hy63) ?_
    rintro _ w64 ⟨rfl, hc65⟩
    replace F0 := F0.chg hc65 Dj.nil
    replace F14 := F14.chg hc65 Dj.nil
    replace F30 := F30.chg hc65 notNil
    replace F39 := F39.chg hc65 Dj.nil
    replace F59 := F59.chg hc65 notNil
    replace hB := hB.inS hc65 inNil
    replace hZ := Nat.le_trans hZ hc65.size
    refine ⟨.bool (y62), rfl, ?_⟩
    refine wS_pure 2 [(35, .bool (!y62)), (34, .bool (!y62))] (by kernel_rfl) ?_
    refine wS_bool (!y62) (fun hb66 => ?_) (fun hb66 => ?_)
    · have hm := condT hb66 hm
      rewrite [hb66]
      refine wS_pure 9 [(44, .bool (true)), (43, undef), (42, undef), (41, undef), (40, .bool (true)), (39, .bool (true)), (38, undef), (37, undef), (36, undef)] (by kernel_rfl) ?_
      refine wS_end (by rfl) ?_
      refine eX_then ?_
      refine cW_cond_t (by kernel_rfl) ?_
      refine cW_seq ?_
      refine cW_region ?_
      refine wS_pure 1 [(2, .bool (false))] (by kernel_rfl) ?_
      refine wS_end (by rfl) ?_
      refine eX_then ?_
      refine cW_ret ?_
      refine eX_then_ret ?_
      have hq : (some false : Option ((Bool))) = some _ := hm
      replace hq := someE hq
      subst hq
      refine eX_ret (vs := [.bool (false)]) [.tmp 2] (by rfl) ⟨by (show lkE _ _ _ = _); kernel_rfl, trivial⟩ ?_
      exact ⟨rfl, hB⟩
    · have hm := condF hb66 hm
      rewrite [hb66]
      refine wS_pure 5 [(40, .bool (y45.2.1 != y18.2.1)), (39, .bool (y45.2.1 != y18.2.1)), (38, .bool (y45.2.1 != y18.2.1)), (37, .int .i64 (y18.2.1)), (36, .int .i64 (y45.2.1))] (by kernel_rfl) ?_
      refine wS_bool (y45.2.1 != y18.2.1) (fun hb67 => ?_) (fun hb67 => ?_)
      · have hm := condT hb67 hm
        rewrite [hb67]
        refine wS_pure 4 [(44, .bool (true)), (43, undef), (42, undef), (41, undef)] (by kernel_rfl) ?_
        refine wS_end (by rfl) ?_
        refine eX_then ?_
        refine cW_cond_t (by kernel_rfl) ?_
        refine cW_seq ?_
        refine cW_region ?_
        refine wS_pure 1 [(2, .bool (false))] (by kernel_rfl) ?_
        refine wS_end (by rfl) ?_
        refine eX_then ?_
        refine cW_ret ?_
        refine eX_then_ret ?_
        have hq : (some false : Option ((Bool))) = some _ := hm
        replace hq := someE hq
        subst hq
        refine eX_ret (vs := [.bool (false)]) [.tmp 2] (by rfl) ⟨by (show lkE _ _ _ = _); kernel_rfl, trivial⟩ ?_
        exact ⟨rfl, hB⟩
      · have hm := condF hb67 hm
        rewrite [hb67]
        refine wS_pure 4 [(44, .bool (!(y45.2.2 == y18.2.2))), (43, .bool (!(y45.2.2 == y18.2.2))), (42, .bool (y18.2.2)), (41, .bool (y45.2.2))] (by kernel_rfl) ?_
        refine wS_end (by rfl) ?_
        refine eX_then ?_
        refine cW_cond (t := !(y45.2.2 == y18.2.2)) (by kernel_rfl) (fun hb68 => ?_) (fun hb68 => ?_)
        · have hm := condT hb68 hm
          refine cW_seq ?_
          refine cW_region ?_
          refine wS_pure 1 [(2, .bool (false))] (by kernel_rfl) ?_
          refine wS_end (by rfl) ?_
          refine eX_then ?_
          refine cW_ret ?_
          refine eX_then_ret ?_
          have hq : (some false : Option ((Bool))) = some _ := hm
          replace hq := someE hq
          subst hq
          refine eX_ret (vs := [.bool (false)]) [.tmp 2] (by rfl) ⟨by (show lkE _ _ _ = _); kernel_rfl, trivial⟩ ?_
          exact ⟨rfl, hB⟩
        · have hm := condF hb68 hm
          refine cW_skip ?_
          refine eX_then ?_
          refine cW_seq ?_
          refine cW_seq ?_
          refine cW_region ?_
          refine wS_pure 2 [(46, .slice A0 (l0).length cap0), (45, .slice A36 (y32).length cap37)] (by kernel_rfl) ?_
          obtain ⟨y69, hy70, hm⟩ := bindE hm
          refine wS_calls (d := 47) (f := 22) (vs := [.slice A0 (l0).length cap0]) (by kernel_rfl) ent22 (c_laws_toPointS hy70 F0) ?_
          rintro _ w71 ⟨A73, cap74, fp75, rfl, F76, G77, hc72⟩
          have D80 : Dj fp13 fp75 := Dj.of F14.low G77
          have D81 : Dj [b22] fp75 := Dj.of (lt1 F30.lt) G77
          have D82 : Dj fp38 fp75 := Dj.of F39.low G77
          have D83 : Dj [b49] fp75 := Dj.of (lt1 F59.lt) G77
          replace F0 := F0.chg hc72 Dj.nil
          replace F14 := F14.chg hc72 Dj.nil
          replace F30 := F30.chg hc72 notNil
          replace F39 := F39.chg hc72 Dj.nil
          replace F59 := F59.chg hc72 notNil
          replace hB := hB.inS hc72 inNil
          replace G77 := low_le hZ G77
          replace hZ := Nat.le_trans hZ hc72.size
          refine ⟨.slice A73 (y69).length cap74, rfl, ?_⟩
          obtain ⟨y84, hy85, hm⟩ := bindE hm
          refine wS_calls (d := 48) (f := 24) (vs := [.slice A36 (y32).length cap37, .slice A73 (y69).length cap74]) (by kernel_rfl) ent24 (c_laws_eqPointS hy85 (F39.sl encII_ok) (F76.sl encII_ok)) ?_
          rintro _ w86 ⟨rfl, hc87⟩
          replace F0 := F0.chg hc87 Dj.nil
          replace F14 := F14.chg hc87 Dj.nil
          replace F30 := F30.chg hc87 notNil
          replace F39 := F39.chg hc87 Dj.nil
          replace F59 := F59.chg hc87 notNil
          replace F76 := F76.chg hc87 Dj.nil
          replace hB := hB.inS hc87 inNil
          replace hZ := Nat.le_trans hZ hc87.size
          refine ⟨.bool (y84), rfl, ?_⟩
          refine wS_pure 1 [(49, .bool (!y84))] (by kernel_rfl) ?_
          refine wS_end (by rfl) ?_
          refine eX_then ?_
          refine cW_prune [(49, .bool (!y84))] (by kernel_rfl) (by kernel_rfl) (fun a88 => ?_)
          refine cW_cond (t := !y84) (by kernel_rfl) (fun hb89 => ?_) (fun hb89 => ?_)
          · have hm := condT hb89 hm
            refine cW_seq ?_
            refine cW_region ?_
            refine wS_pure 1 [(2, .bool (false))] (by kernel_rfl) ?_
            refine wS_end (by rfl) ?_
            refine eX_then ?_
            refine cW_ret ?_
            refine eX_then_ret ?_
            have hq : (some false : Option ((Bool))) = some _ := hm
            replace hq := someE hq
            subst hq
            refine eX_ret (vs := [.bool (false)]) [.tmp 2] (by rfl) ⟨by (show lkE _ _ _ = _); kernel_rfl, trivial⟩ ?_
            exact ⟨rfl, hB⟩
          · have hm := condF hb89 hm
            refine cW_skip ?_
            refine eX_then ?_
            refine cW_seq ?_
            refine cW_region ?_
            refine wS_pure 1 [(2, .bool (true))] (by kernel_rfl) ?_
            refine wS_end (by rfl) ?_
            refine eX_then ?_
            refine cW_ret ?_
            have hq : (some true : Option ((Bool))) = some _ := hm
            replace hq := someE hq
            subst hq
            refine eX_ret (vs := [.bool (true)]) [.tmp 2] (by rfl) ⟨by (show lkE _ _ _ = _); kernel_rfl, trivial⟩ ?_
            exact ⟨rfl, hB⟩

end Go.Proofs.Ytdkpfkmmblmlhaa
