/- Printed walks: spec.l05Steiner, spec.SteinerLength, slices.Clone[[]int64,int64], impl.steiner, impl.SteinerLength, laws.FnExactSteinerLength. -/
import Derived.Test.YtdkpfkmmblmlhaaProg
import Derived.Test.YtdkpfkmmblmlhaaWSn01
set_option linter.unusedSimpArgs false
set_option linter.unusedVariables false
namespace Go.Proofs.Ytdkpfkmmblmlhaa
open Go.RowKit
attribute [local irreducible] wS cW eX wH

theorem ent20 : Ent Try.prog 20 := fun _ => by kernel_rfl
theorem ent22 : Ent Try.prog 22 := fun _ => by kernel_rfl
theorem ent24 : Ent Try.prog 24 := fun _ => by kernel_rfl
theorem ent50 : Ent Try.prog 50 := fun _ => by kernel_rfl
theorem ent51 : Ent Try.prog 51 := fun _ => by kernel_rfl
theorem ent73 : Ent Try.prog 73 := fun _ => by kernel_rfl
theorem ent84 : Ent Try.prog 84 := fun _ => by kernel_rfl
theorem ent86 : Ent Try.prog 86 := fun _ => by kernel_rfl
theorem ent87 : Ent Try.prog 87 := fun _ => by kernel_rfl
theorem ent88 : Ent Try.prog 88 := fun _ => by kernel_rfl
theorem ent89 : Ent Try.prog 89 := fun _ => by kernel_rfl
theorem ent101 : Ent Try.prog 101 := fun _ => by kernel_rfl
theorem ent102 : Ent Try.prog 102 := fun _ => by kernel_rfl
theorem ent124 : Ent Try.prog 124 := fun _ => by kernel_rfl
theorem ent133 : Ent Try.prog 133 := fun _ => by kernel_rfl
theorem ent134 : Ent Try.prog 134 := fun _ => by kernel_rfl
theorem ent135 : Ent Try.prog 135 := fun _ => by kernel_rfl
theorem vt78 : VarTy Try.prog 78 1 false := ⟨by kernel_rfl, by kernel_rfl⟩
theorem sl47 : SlTy Try.prog 47 78 1 := ⟨Try.underlying47, by kernel_rfl⟩
theorem sl78 : SlTy Try.prog 78 2 1 := ⟨Try.underlying78, by kernel_rfl⟩
theorem el47 : ElTy Try.prog 47 78 1 (.slice none 0 0) := ElTy.mk' Try.underlying47 (by kernel_rfl) (by rfl)
theorem sz78 : pureRun Try.prog (sizeOf 78) = some 1 := by kernel_rfl

set_option maxRecDepth 100000 in
/-- spec.l05Steiner -/
theorem c_spec_l05Steiner {w0 : World} {l0 : List (Int × Int)} {A0 : Option Addr} {cap0 : Nat} {fp0 : List Nat} {r : (Int)} (hm : m_spec_l05Steiner l0 = some r) (F0 : Sl 2 encII w0 fp0 A0 l0) :
    Calls Try.prog 101 #[.slice A0 (l0).length cap0] w0 fun e w' => e = .returned (.int .i64 (r)) ∧ Chg [] w0 w' := by
  have L0 := F0.low
  have hB : Chg [] w0 w0 := Chg.refl _ _
  have hZ := Nat.le_refl w0.heap.size
  unfold m_spec_l05Steiner at hm
  refine enterE (N := 171) Try.func101 (by rfl) Try.ntmps101 (by simp) [(0, .slice A0 (l0).length cap0)] (by rfl) (by kernel_rfl) (fun a => ?_)
  refine cW_seq ?_
  refine cW_region ?_
  refine wS_pure 1 [(2, .int .i64 (0))] (by kernel_rfl) ?_
  refine wS_end (by rfl) ?_
  refine eX_then ?_
  refine cW_seq ?_
  refine cW_region ?_
  refine wS_pure 1 [(18, .slice A0 (l0).length cap0)] (by kernel_rfl) ?_
  obtain ⟨y2, hy3, hm⟩ := bindE hm
  refine wS_calls (d := 19) (f := 87) (vs := [.slice A0 (l0).length cap0]) (by kernel_rfl) ent87 (c_spec_l05Hanan hy3 F0) ?_
  rintro _ w4 ⟨A6, cap7, fp8, rfl, F9, G10, hc5⟩
  replace F0 := F0.chg hc5 Dj.nil
  replace hB := hB.inS hc5 inNil
  replace G10 := low_le hZ G10
  replace hZ := Nat.le_trans hZ hc5.size
  refine ⟨.slice A6 (y2).length cap7, rfl, ?_⟩
  refine wS_pure 1 [(3, .slice A6 (y2).length cap7)] (by kernel_rfl) ?_
  refine wS_end (by rfl) ?_
  refine eX_then ?_
  refine cW_seq ?_
  refine cW_region ?_
  refine wS_pure 3 [(4, .int .i64 (((y2).length : Int))), (21, .int .i64 (((y2).length : Int))), (20, .slice A6 (y2).length cap7)] (by kernel_rfl) ?_
  refine wS_end (by rfl) ?_
  refine eX_then ?_
  refine cW_seq ?_
  refine cW_region ?_
  refine wS_pure 3 [(24, .int .u64 (wu (((l0).length : Int)))), (23, .int .i64 (((l0).length : Int))), (22, .slice A0 (l0).length cap0)] (by kernel_rfl) ?_
  obtain ⟨u13, hu14, hm⟩ := bindE hm
  refine wS_shl (d := 25) (x := 1) (y := wu (((l0).length : Int))) (yk := .u64) (by kernel_rfl) (p0E hu14) ?_
  refine wS_pure 1 [(5, .int .i64 (shlI 1 (wu (((l0).length : Int)))))] (by kernel_rfl) ?_
  refine wS_end (by rfl) ?_
  refine eX_then ?_
  refine cW_seq ?_
  refine cW_region ?_
  refine wS_pure 1 [(26, .int .i64 (shlI 1 (wu (((l0).length : Int)))))] (by kernel_rfl) ?_
  obtain ⟨_, hk15, hm⟩ := bindE hm
  replace hk15 := mkE hk15
  refine wS_makeR (T2 := 2) (k := 1) (enc := encI) (d := 27) (t := 47) (T := 78) (k1 := .i64) (k2 := .i64) (m := shlI 1 (wu (((l0).length : Int)))) (by kernel_rfl) el47 hk15.1 hk15.2 ?_
  intro b16 w17 G18 F19 hc20
  have D22 : Dj fp8 ([b16] ++ []) := Dj.of F9.low (lowApp (low1 G18) lowNil)
  replace F0 := F0.chg hc20 Dj.nil
  replace F9 := F9.chg hc20 Dj.nil
  replace hB := hB.inS hc20 inNil
  replace G18 := Nat.le_trans hZ G18
  replace G18 := low1 G18
  replace hZ := Nat.le_trans hZ hc20.size
  replace G18 := lowApp G18 lowNil
  refine wS_pure 1 [(6, .slice (some ⟨b16, 0, none⟩) (List.replicate (Int.toNat (shlI 1 (wu (((l0).length : Int))))) ([] : List (Int))).length (Int.toNat (shlI 1 (wu (((l0).length : Int))))))] (by kernel_rfl) ?_
  refine wS_end (by rfl) ?_
  refine eX_then ?_
  refine cW_seq ?_
  refine cW_seq ?_
  refine cW_region ?_
  refine wS_pure 1 [(7, .int .i64 (1))] (by kernel_rfl) ?_
  refine wS_end (by rfl) ?_
  refine eX_then ?_
  obtain ⟨r7120, hr7121, hm⟩ := bindE hm
  have hm7122 := hm
  refine cW_cut (fun a' w' => ∃ l7097 : List (List (Int)), ∃ A7098 : Option Addr, ∃ cap7099 : Nat, ∃ fp7100 : List Nat, ∃ fr7102 : List Nat, l7097 = r7120 ∧ Fr 171 [(4, .int .i64 (((y2).length : Int))), (5, .int .i64 (shlI 1 (wu (((l0).length : Int))))), (6, .slice A7098 (l7097).length cap7099)] a' ∧ OwR 1 encI 78 2 w' fp7100 fr7102 A7098 cap7099 l7097 ∧ (∀ x ∈ (fp7100 ++ fr7102), w0.heap.size ≤ x) ∧ Chg [] w0 w' ∧ w0.heap.size ≤ w'.heap.size) ?_ ?_
  · refine cW_block ?_
    refine cW_loop _ (fun (s7123 : (List (List (Int))) × Int) a' w' => ∃ l7107 : List (List (Int)), ∃ A7108 : Option Addr, ∃ cap7109 : Nat, ∃ fp7110 : List Nat, ∃ fr7112 : List Nat, ∃ x7113 : Int, (l7107, x7113) = s7123 ∧ Fr 171 [(0, .slice A0 (l0).length cap0), (3, .slice A6 (y2).length cap7), (4, .int .i64 (((y2).length : Int))), (5, .int .i64 (shlI 1 (wu (((l0).length : Int))))), (6, .slice A7108 (l7107).length cap7109), (7, .int .i64 (x7113))] a' ∧ Sl 2 encII w' fp0 A0 l0 ∧ Ow 2 encII 34 w' fp8 A6 cap7 y2 ∧ OwR 1 encI 78 2 w' fp7110 fr7112 A7108 cap7109 l7107 ∧ (∀ x ∈ (fp7110 ++ fr7112), w0.heap.size ≤ x) ∧ Dj fp8 (fp7110 ++ fr7112) ∧ Chg [] w0 w' ∧ w0.heap.size ≤ w'.heap.size) hr7121 (fun hst => ⟨List.replicate (Int.toNat (shlI 1 (wu (((l0).length : Int))))) ([] : List (Int)), (some ⟨b16, 0, none⟩), (Int.toNat (shlI 1 (wu (((l0).length : Int))))), [b16], [], 1, rfl, Fr.of hst (by kernel_rfl), F0, F9, F19, G18, D22, hB, hZ⟩) ?_
    rintro _ c7124 a' w7106 ⟨l7107, A7108, cap7109, fp7110, fr7112, x7113, rfl, hF7114, F7115, F7116, F7117, G7118, D7119, hB, hZ⟩ hx7125
    refine Fr.goOn hF7114 (by kernel_rfl) ?_
    have hm := hx7125
    unfold m_spec_l05Steiner_s23 at hm
    refine cW_seq ?_
    refine cW_seq ?_
    refine cW_region ?_
    refine wS_pure 3 [(30, .bool (decide (x7113 < (shlI 1 (wu (((l0).length : Int))))))), (29, .int .i64 (shlI 1 (wu (((l0).length : Int))))), (28, .int .i64 (x7113))] (by kernel_rfl) ?_
    refine wS_end (by rfl) ?_
    refine eX_then ?_
    refine cW_cond (t := decide (x7113 < (shlI 1 (wu (((l0).length : Int)))))) (by kernel_rfl) (fun hb7126 => ?_) (fun hb7126 => ?_)
    · have hm := condT hb7126 hm
      refine cW_skip ?_
      refine eX_then ?_
      refine cW_seq ?_
      refine cW_block ?_
      refine cW_seq ?_
      refine cW_region ?_
      refine wS_pure 3 [(35, .int .i64 (((y2).length : Int))), (34, .int .i64 (x7113)), (33, .slice A7108 (l7107).length cap7109)] (by kernel_rfl) ?_
      obtain ⟨_, hk7127, hm⟩ := bindE hm
      replace hk7127 := mkE hk7127
      refine wS_make (enc := encI) (x0 := (0 : Int)) (d := 36) (t := 78) (T := 2) (k1 := .i64) (k2 := .i64) (m := ((y2).length : Int)) (by kernel_rfl) el78 encI_ok (by rfl) hk7127.1 hk7127.2 ?_
      intro b7128 w7129 G7130 F7131 hc7132
      have D7134 : Dj fp8 [b7128] := Dj.of F7116.low (low1 G7130)
      have D7135 : Dj (fp7110 ++ fr7112) [b7128] := Dj.of F7117.low (low1 G7130)
      replace F7115 := F7115.chg hc7132 Dj.nil
      replace F7116 := F7116.chg hc7132 Dj.nil
      replace F7117 := F7117.chg hc7132 Dj.nil
      replace hB := hB.inS hc7132 inNil
      replace G7130 := Nat.le_trans hZ G7130
      replace G7130 := low1 G7130
      replace hZ := Nat.le_trans hZ hc7132.size
      obtain ⟨x7136, hx7137, hm⟩ := bindE hm
      refine wS_idx (d := 37) (T := 47) (A := A7108) (n := (l7107).length) (cap := cap7109) (kd := .i64) (m := x7113) (by kernel_rfl) sl47 ((F7117.slr encI_ok).is hx7137) ?_
      refine wS_storeRow (k := 1) (enc := encI) (x := x7136) (l := List.replicate (Int.toNat (((y2).length : Int))) ((0 : Int))) (T := 78) (U := 78) (cap := cap7109) (c := (Int.toNat (((y2).length : Int)))) (A := A7108) (B := (some ⟨b7128, 0, none⟩)) (m := x7113) (by kernel_rfl) sz78 F7117 F7131 D7135 hx7137 ?_
      intro w7141 F7142 hc7143
      have D7145 : Dj fp8 (fp7110 ++ (fr7112 ++ [b7128])) := Dj.app (Dj.inl D7119) (Dj.app (Dj.inr D7119) D7134)
      have G7146 := lowApp (low_inl G7118) (lowApp (low_inr G7118) G7130)
      have Dm7147 := Dj.inl D7135.symm
      replace F7115 := F7115.chg hc7143 (Dj.inl (Dj.of L0 G7118))
      replace F7116 := F7116.chg hc7143 (Dj.inl D7119)
      replace F7131 := F7131.chg hc7143 (Dj.inl (D7135).symm)
      replace hB := hB.inS hc7143 (memS_inl (inLow G7118))
      replace hZ := Nat.le_trans hZ hc7143.size
      replace F7131 := (F7131.sl encI_ok)
      rewrite [show (l7107).length = (l7107.set (Int.toNat x7113) (List.replicate (Int.toNat (((y2).length : Int))) ((0 : Int)))).length from (List.length_set ..).symm]
      refine wS_end (by rfl) ?_
      refine eX_then ?_
      refine cW_seq ?_
      refine cW_seq ?_
      refine cW_region ?_
      refine wS_pure 1 [(8, .int .i64 (0))] (by kernel_rfl) ?_
      refine wS_end (by rfl) ?_
      refine eX_then ?_
      obtain ⟨r8671, hr8672, hm⟩ := bindE hm
      have hm8673 := hm
      refine cW_cut (fun a' w' => ∃ l8659 : List (List (Int)), l8659 = r8671 ∧ Fr 171 [(0, .slice A0 (l0).length cap0), (3, .slice A6 (y2).length cap7), (4, .int .i64 (((y2).length : Int))), (5, .int .i64 (shlI 1 (wu (((l0).length : Int))))), (6, .slice A7108 (l8659).length cap7109), (7, .int .i64 (x7113))] a' ∧ Sl 2 encII w' fp0 A0 l0 ∧ Ow 2 encII 34 w' fp8 A6 cap7 y2 ∧ OwR 1 encI 78 2 w' fp7110 (fr7112 ++ [b7128]) A7108 cap7109 l8659 ∧ Chg [] w0 w' ∧ w0.heap.size ≤ w'.heap.size) ?_ ?_
      · refine cW_block ?_
        refine cW_loop _ (fun (s8674 : Int × (List (List (Int)))) a' w' => ∃ x8665 : Int, ∃ l8666 : List (List (Int)), (x8665, l8666) = s8674 ∧ Fr 171 [(0, .slice A0 (l0).length cap0), (3, .slice A6 (y2).length cap7), (4, .int .i64 (((y2).length : Int))), (5, .int .i64 (shlI 1 (wu (((l0).length : Int))))), (6, .slice A7108 (l8666).length cap7109), (7, .int .i64 (x7113)), (8, .int .i64 (x8665))] a' ∧ Sl 2 encII w' fp0 A0 l0 ∧ Ow 2 encII 34 w' fp8 A6 cap7 y2 ∧ OwR 1 encI 78 2 w' fp7110 (fr7112 ++ [b7128]) A7108 cap7109 l8666 ∧ Chg [] w0 w' ∧ w0.heap.size ≤ w'.heap.size) hr8672 (fun hst => ⟨0, l7107.set (Int.toNat x7113) (List.replicate (Int.toNat (((y2).length : Int))) ((0 : Int))), rfl, Fr.of hst (by kernel_rfl), F7115, F7116, F7142, hB, hZ⟩) ?_
        rintro _ c8675 a' w8664 ⟨x8665, l8666, rfl, hF8667, F8668, F8669, F8670, hB, hZ⟩ hx8676
        refine Fr.goOn hF8667 (by kernel_rfl) ?_
        have hm := hx8676
        unfold m_spec_l05Steiner_s28 at hm
        refine cW_seq ?_
        refine cW_seq ?_
        refine cW_region ?_
        refine wS_pure 3 [(40, .bool (decide (x8665 < (((y2).length : Int))))), (39, .int .i64 (((y2).length : Int))), (38, .int .i64 (x8665))] (by kernel_rfl) ?_
        refine wS_end (by rfl) ?_
        refine eX_then ?_
        refine cW_cond (t := decide (x8665 < (((y2).length : Int)))) (by kernel_rfl) (fun hb8677 => ?_) (fun hb8677 => ?_)
        · have hm := condT hb8677 hm
          refine cW_skip ?_
          refine eX_then ?_
          refine cW_seq ?_
          refine cW_block ?_
          refine cW_seq ?_
          refine cW_region ?_
          refine wS_pure 1 [(9, .int .i64 ((-1)))] (by kernel_rfl) ?_
          refine wS_end (by rfl) ?_
          refine eX_then ?_
          refine cW_seq ?_
          refine cW_seq ?_
          refine cW_region ?_
          refine wS_pure 1 [(10, .int .i64 (0))] (by kernel_rfl) ?_
          refine wS_end (by rfl) ?_
          refine eX_then ?_
          obtain ⟨r8835, hr8836, hm⟩ := bindE hm
          have hm8837 := hm
          refine cW_cut (fun a' w' => ∃ x8823 : Int, x8823 = r8835 ∧ Fr 171 [(0, .slice A0 (l0).length cap0), (3, .slice A6 (y2).length cap7), (4, .int .i64 (((y2).length : Int))), (5, .int .i64 (shlI 1 (wu (((l0).length : Int))))), (6, .slice A7108 (l8666).length cap7109), (7, .int .i64 (x7113)), (8, .int .i64 (x8665)), (9, .int .i64 (x8823))] a' ∧ Sl 2 encII w' fp0 A0 l0 ∧ Ow 2 encII 34 w' fp8 A6 cap7 y2 ∧ OwR 1 encI 78 2 w' fp7110 (fr7112 ++ [b7128]) A7108 cap7109 l8666 ∧ Chg [] w0 w' ∧ w0.heap.size ≤ w'.heap.size) ?_ ?_
          · refine cW_block ?_
            refine cW_loop _ (fun (s8838 : Int × Int) a' w' => ∃ x8829 : Int, ∃ x8830 : Int, (x8829, x8830) = s8838 ∧ Fr 171 [(0, .slice A0 (l0).length cap0), (3, .slice A6 (y2).length cap7), (4, .int .i64 (((y2).length : Int))), (5, .int .i64 (shlI 1 (wu (((l0).length : Int))))), (6, .slice A7108 (l8666).length cap7109), (7, .int .i64 (x7113)), (8, .int .i64 (x8665)), (9, .int .i64 (x8829)), (10, .int .i64 (x8830))] a' ∧ Sl 2 encII w' fp0 A0 l0 ∧ Ow 2 encII 34 w' fp8 A6 cap7 y2 ∧ OwR 1 encI 78 2 w' fp7110 (fr7112 ++ [b7128]) A7108 cap7109 l8666 ∧ Chg [] w0 w' ∧ w0.heap.size ≤ w'.heap.size) hr8836 (fun hst => ⟨(-1), 0, rfl, Fr.of hst (by kernel_rfl), F8668, F8669, F8670, hB, hZ⟩) ?_
            rintro _ c8839 a' w8828 ⟨x8829, x8830, rfl, hF8831, F8832, F8833, F8834, hB, hZ⟩ hx8840
            refine Fr.goOn hF8831 (by kernel_rfl) ?_
            have hm := hx8840
            unfold m_spec_l05Steiner_s29 at hm
            refine cW_seq ?_
            refine cW_seq ?_
            refine cW_region ?_
            refine wS_pure 4 [(46, .bool (decide (x8830 < (((l0).length : Int))))), (45, .int .i64 (((l0).length : Int))), (44, .slice A0 (l0).length cap0), (43, .int .i64 (x8830))] (by kernel_rfl) ?_
            refine wS_end (by rfl) ?_
            refine eX_then ?_
            refine cW_cond (t := decide (x8830 < (((l0).length : Int)))) (by kernel_rfl) (fun hb8841 => ?_) (fun hb8841 => ?_)
            · have hm := condT hb8841 hm
              refine cW_skip ?_
              refine eX_then ?_
              refine cW_seq ?_
              refine cW_block ?_
              obtain ⟨s8877, hs8878, hm⟩ := bindE hm
              refine cW_cut (fun a' w' => ∃ x8872 : Int, x8872 = s8877 ∧ Fr 171 [(0, .slice A0 (l0).length cap0), (3, .slice A6 (y2).length cap7), (4, .int .i64 (((y2).length : Int))), (5, .int .i64 (shlI 1 (wu (((l0).length : Int))))), (6, .slice A7108 (l8666).length cap7109), (7, .int .i64 (x7113)), (8, .int .i64 (x8665)), (9, .int .i64 (x8872)), (10, .int .i64 (x8830))] a' ∧ Sl 2 encII w' fp0 A0 l0 ∧ Ow 2 encII 34 w' fp8 A6 cap7 y2 ∧ OwR 1 encI 78 2 w' fp7110 (fr7112 ++ [b7128]) A7108 cap7109 l8666 ∧ Chg [] w0 w' ∧ w0.heap.size ≤ w'.heap.size) ?_ ?_
              · have hm := hs8878
                refine cW_seq ?_
                refine cW_region ?_
                refine wS_pure 3 [(51, .int .u64 (wu x8830)), (50, .int .i64 (x8830)), (49, .int .i64 (x7113))] (by kernel_rfl) ?_
                obtain ⟨u8879, hu8880, hm⟩ := bindE hm
                refine wS_shl (d := 52) (x := 1) (y := wu x8830) (yk := .u64) (by kernel_rfl) (p0E hu8880) ?_
                refine wS_pure 1 [(53, .bool (x7113 == (shlI 1 (wu x8830))))] (by kernel_rfl) ?_
                refine wS_end (by rfl) ?_
                refine eX_then ?_
                refine cW_cond (t := x7113 == (shlI 1 (wu x8830))) (by kernel_rfl) (fun hb8881 => ?_) (fun hb8881 => ?_)
                · have hm := condT hb8881 hm
                  refine cW_drawnTail [] 8 (by kernel_rfl) (by kernel_rfl) (fun w8895 hc8896 => ?_)
                  replace F8832 := F8832.chg hc8896 Dj.nil
                  replace F8833 := F8833.chg hc8896 Dj.nil
                  replace F8834 := F8834.chg hc8896 Dj.nil
                  replace hB := hB.inS hc8896 inNil
                  replace hZ := Nat.le_trans hZ hc8896.size
                  have hS := Chg.refl [] w8895
                  have Z8897 := F8832
                  have Z8898 := F8833
                  have Z8899 := F8834
                  refine wH_take [0, 1] [1, 0] [(55, .int .i64 (x8830)), (54, .slice A0 (l0).length cap0)] (by kernel_rfl) (qT (qT (qB (qT (qL (qB (qT (qT (qB (qT (qL (qB (qT (qT (qB (qT (qL (qB (qT (qT qZ)))))))))))))))))))) (by kernel_rfl) ?_
                  obtain ⟨x8900, hx8901, hm⟩ := bindE hm
                  refine wH_idx (i := 2) (d := 56) (T := 25) (A := A0) (n := (l0).length) (cap := cap0) (kd := .i64) (m := x8830) (by kernel_rfl) (qT (qT (qB (qT (qL (qB (qT (qT (qB (qT (qL (qB (qT (qT (qB (qT (qL (qB (qT (qT qZ)))))))))))))))))))) (by kernel_rfl) (by kernel_rfl) sl25 (F8832.is hx8901) ?_
                  refine wH_loadA (i := 3) (d := 57) (T := 34) (ad := (elA A0 2 (x8830) 0)) (vs := [.int .i64 (x8900.1), .int .i64 (x8900.2)]) (by kernel_rfl) (qT (qT (qB (qT (qL (qB (qT (qT (qB (qT (qL (qB (qT (qT (qB (qT (qL (qB (qT (qT qZ)))))))))))))))))))) (by kernel_rfl) (by kernel_rfl) vt34 (fun W hW i u hu => Sl.cells_at (Z8897.chg hW Dj.nil) hx8901 0 hu (by rfl)) ?_
                  refine wH_take [4, 5] [5, 4, 3, 2, 1, 0] [(59, .int .i64 (x8665)), (58, .slice A6 (y2).length cap7)] (by kernel_rfl) (qT (qT (qB (qT (qL (qB (qT (qT (qB (qT (qL (qB (qT (qT (qB (qT (qL (qB (qT (qT qZ)))))))))))))))))))) (by kernel_rfl) ?_
                  obtain ⟨x8902, hx8903, hm⟩ := bindE hm
                  refine wH_idx (i := 6) (d := 60) (T := 25) (A := A6) (n := (y2).length) (cap := cap7) (kd := .i64) (m := x8665) (by kernel_rfl) (qT (qT (qB (qT (qL (qB (qT (qT (qB (qT (qL (qB (qT (qT (qB (qT (qL (qB (qT (qT qZ)))))))))))))))))))) (by kernel_rfl) (by kernel_rfl) sl25 ((F8833.sl encII_ok).is hx8903) ?_
                  refine wH_loadA (i := 7) (d := 61) (T := 34) (ad := (elA A6 2 (x8665) 0)) (vs := [.int .i64 (x8902.1), .int .i64 (x8902.2)]) (by kernel_rfl) (qT (qT (qB (qT (qL (qB (qT (qT (qB (qT (qL (qB (qT (qT (qB (qT (qL (qB (qT (qT qZ)))))))))))))))))))) (by kernel_rfl) (by kernel_rfl) vt34 (fun W hW i u hu => Sl.cells_at ((Z8898.chg hW Dj.nil).sl encII_ok) hx8903 0 hu (by rfl)) ?_
                  refine wH_done (by kernel_rfl) ?_
                  refine eX_tail ?_
                  obtain ⟨y8904, hy8905, hm⟩ := bindE hm
                  refine wS_calls (d := 62) (f := 84) (vs := [.agg #[.int .i64 (x8900.1), .int .i64 (x8900.2)], .agg #[.int .i64 (x8902.1), .int .i64 (x8902.2)]]) (by kernel_rfl) ent84 (c_spec_l01Far hy8905) ?_
                  rintro _ w8906 ⟨rfl, hc8907⟩
                  replace F8832 := F8832.chg hc8907 Dj.nil
                  replace F8833 := F8833.chg hc8907 Dj.nil
                  replace F8834 := F8834.chg hc8907 Dj.nil
                  replace hB := hB.inS hc8907 inNil
                  replace hZ := Nat.le_trans hZ hc8907.size
                  refine ⟨.int .i64 (y8904), rfl, ?_⟩
                  refine wS_pure 1 [(9, .int .i64 (y8904))] (by kernel_rfl) ?_
                  refine wS_end (by rfl) ?_
                  have hq : (some y8904 : Option (Int)) = some _ := hm
                  replace hq := someE hq
                  subst hq
                  exact eX_J (fun hst => ⟨y8904, rfl, Fr.of hst (by kernel_rfl), F8832, F8833, F8834, hB, hZ⟩)
                · have hm := condF hb8881 hm
                  refine cW_skip ?_
                  have hq : (some x8829 : Option (Int)) = some _ := hm
                  replace hq := someE hq
                  subst hq
                  exact eX_J (fun hst => ⟨x8829, rfl, Fr.of hst (by kernel_rfl), F8832, F8833, F8834, hB, hZ⟩)
              · rintro a' w8871 ⟨x8872, hJ, hF8873, F8874, F8875, F8876, hB, hZ⟩
                subst hJ
                refine Fr.goX hF8873 (by kernel_rfl) ?_
                refine eX_block ?_
                refine eX_then ?_
                refine cW_region ?_
                refine wS_pure 3 [(10, .int .i64 (wr (x8830 + 1))), (48, .int .i64 (wr (x8830 + 1))), (47, .int .i64 (x8830))] (by kernel_rfl) ?_
                refine wS_end (by rfl) ?_
                have hq : (some (Ctl.next ((x8872, wr (x8830 + 1)))) : Option (Ctl (Int × Int) (Int))) = some _ := hm
                replace hq := someE hq
                subst hq
                exact eX_next hx8840 (fun hst => ⟨x8872, wr (x8830 + 1), rfl, Fr.of hst (by kernel_rfl), F8874, F8875, F8876, hB, hZ⟩)
            · have hm := condF hb8841 hm
              refine cW_exit ?_
              refine eX_then_exit ?_
              have hq : (some (Ctl.out x8829) : Option (Ctl (Int × Int) (Int))) = some _ := hm
              replace hq := someE hq
              subst hq
              refine eX_outX hx8840 (fun hr8908 => ?_)
              replace hr8908 := hr8908.symm
              subst hr8908
              refine eX_block_hit ?_
              exact eX_J (fun hst => ⟨x8829, rfl, Fr.of hst (by kernel_rfl), F8832, F8833, F8834, hB, hZ⟩)
          · rintro a' w8822 ⟨x8823, hJ, hF8824, F8825, F8826, F8827, hB, hZ⟩
            subst hJ
            refine Fr.goX hF8824 (by kernel_rfl) ?_
            refine eX_then ?_
            refine cW_seq ?_
            refine cW_seq ?_
            refine cW_region ?_
            refine wS_pure 5 [(11, .int .i64 (andI (wr (x7113 - 1)) x7113)), (66, .int .i64 (andI (wr (x7113 - 1)) x7113)), (65, .int .i64 (x7113)), (64, .int .i64 (wr (x7113 - 1))), (63, .int .i64 (x7113))] (by kernel_rfl) ?_
            refine wS_end (by rfl) ?_
            refine eX_then ?_
            obtain ⟨r9242, hr9243, hm⟩ := bindE hm
            have hm9244 := hm
            refine cW_cut (fun a' w' => ∃ x9230 : Int, x9230 = r9242 ∧ Fr 171 [(0, .slice A0 (l0).length cap0), (3, .slice A6 (y2).length cap7), (4, .int .i64 (((y2).length : Int))), (5, .int .i64 (shlI 1 (wu (((l0).length : Int))))), (6, .slice A7108 (l8666).length cap7109), (7, .int .i64 (x7113)), (8, .int .i64 (x8665)), (9, .int .i64 (x9230))] a' ∧ Sl 2 encII w' fp0 A0 l0 ∧ Ow 2 encII 34 w' fp8 A6 cap7 y2 ∧ OwR 1 encI 78 2 w' fp7110 (fr7112 ++ [b7128]) A7108 cap7109 l8666 ∧ Chg [] w0 w' ∧ w0.heap.size ≤ w'.heap.size) ?_ ?_
            · refine cW_block ?_
              refine cW_loop _ (fun (s9245 : Int × Int) a' w' => ∃ x9236 : Int, ∃ x9237 : Int, (x9236, x9237) = s9245 ∧ Fr 171 [(0, .slice A0 (l0).length cap0), (3, .slice A6 (y2).length cap7), (4, .int .i64 (((y2).length : Int))), (5, .int .i64 (shlI 1 (wu (((l0).length : Int))))), (6, .slice A7108 (l8666).length cap7109), (7, .int .i64 (x7113)), (8, .int .i64 (x8665)), (9, .int .i64 (x9236)), (11, .int .i64 (x9237))] a' ∧ Sl 2 encII w' fp0 A0 l0 ∧ Ow 2 encII 34 w' fp8 A6 cap7 y2 ∧ OwR 1 encI 78 2 w' fp7110 (fr7112 ++ [b7128]) A7108 cap7109 l8666 ∧ Chg [] w0 w' ∧ w0.heap.size ≤ w'.heap.size) hr9243 (fun hst => ⟨x8823, andI (wr (x7113 - 1)) x7113, rfl, Fr.of hst (by kernel_rfl), F8825, F8826, F8827, hB, hZ⟩) ?_
              rintro _ c9246 a' w9235 ⟨x9236, x9237, rfl, hF9238, F9239, F9240, F9241, hB, hZ⟩ hx9247
              refine Fr.goOn hF9238 (by kernel_rfl) ?_
              have hm := hx9247
              unfold m_spec_l05Steiner_s30 at hm
              refine cW_seq ?_
              refine cW_seq ?_
              refine cW_region ?_
              refine wS_pure 2 [(68, .bool (decide (x9237 > 0))), (67, .int .i64 (x9237))] (by kernel_rfl) ?_
              refine wS_end (by rfl) ?_
              refine eX_then ?_
              refine cW_cond (t := decide (x9237 > 0)) (by kernel_rfl) (fun hb9248 => ?_) (fun hb9248 => ?_)
              · have hm := condT hb9248 hm
                refine cW_skip ?_
                refine eX_then ?_
                refine cW_seq ?_
                refine cW_block ?_
                obtain ⟨s9328, hs9329, hm⟩ := bindE hm
                refine cW_cut (fun a' w' => ∃ x9323 : Int, x9323 = s9328 ∧ Fr 171 [(0, .slice A0 (l0).length cap0), (3, .slice A6 (y2).length cap7), (4, .int .i64 (((y2).length : Int))), (5, .int .i64 (shlI 1 (wu (((l0).length : Int))))), (6, .slice A7108 (l8666).length cap7109), (7, .int .i64 (x7113)), (8, .int .i64 (x8665)), (9, .int .i64 (x9323)), (11, .int .i64 (x9237))] a' ∧ Sl 2 encII w' fp0 A0 l0 ∧ Ow 2 encII 34 w' fp8 A6 cap7 y2 ∧ OwR 1 encI 78 2 w' fp7110 (fr7112 ++ [b7128]) A7108 cap7109 l8666 ∧ Chg [] w0 w' ∧ w0.heap.size ≤ w'.heap.size) ?_ ?_
                · have hm := hs9329
                  refine cW_seq ?_
                  refine cW_drawnTail [] 16 (by kernel_rfl) (by kernel_rfl) (fun w9365 hc9366 => ?_)
                  replace F9239 := F9239.chg hc9366 Dj.nil
                  replace F9240 := F9240.chg hc9366 Dj.nil
                  replace F9241 := F9241.chg hc9366 Dj.nil
                  replace hB := hB.inS hc9366 inNil
                  replace hZ := Nat.le_trans hZ hc9366.size
                  have hS := Chg.refl [] w9365
                  have Z9367 := F9239
                  have Z9368 := F9240
                  have Z9369 := F9241
                  refine wH_take [0, 1] [1, 0] [(74, .int .i64 (x9237)), (73, .slice A7108 (l8666).length cap7109)] (by kernel_rfl) (qT (qT (qT (qB (qT (qL (qB (qT (qT (qB (qT (qL (qB (qT (qT (qB (qT (qL (qB (qT (qT qZ))))))))))))))))))))) (by kernel_rfl) ?_
                  obtain ⟨x9370, hx9371, hm⟩ := bindE hm
                  refine wH_idx (i := 2) (d := 75) (T := 47) (A := A7108) (n := (l8666).length) (cap := cap7109) (kd := .i64) (m := x9237) (by kernel_rfl) (qT (qT (qT (qB (qT (qL (qB (qT (qT (qB (qT (qL (qB (qT (qT (qB (qT (qL (qB (qT (qT qZ))))))))))))))))))))) (by kernel_rfl) (by kernel_rfl) sl47 ((F9241.slr encI_ok).is hx9371) ?_
                  obtain ⟨A9372, cap9373, fp9377, hc9375, hsub9378, F9374, hcl9379⟩ := OwR.lend Z9369 hx9371
                  have G9381 := low_inr G7146
                  have Dm9382 := (F9241.dj).symm
                  refine wH_load1 (i := 3) (d := 76) (T := 78) (ad := (elA A7108 1 (x9237) 0)) (v := .slice A9372 (x9370).length cap9373) (by kernel_rfl) (qT (qT (qT (qB (qT (qL (qB (qT (qT (qB (qT (qL (qB (qT (qT (qB (qT (qL (qB (qT (qT qZ))))))))))))))))))))) (by kernel_rfl) (by kernel_rfl) vt78 (fun W hW => hW.keep hc9375) ?_
                  refine wH_take [4] [4, 3, 2, 1, 0] [(77, .int .i64 (x8665))] (by kernel_rfl) (qT (qT (qT (qB (qT (qL (qB (qT (qT (qB (qT (qL (qB (qT (qT (qB (qT (qL (qB (qT (qT qZ))))))))))))))))))))) (by kernel_rfl) ?_
                  obtain ⟨x9383, hx9384, hm⟩ := bindE hm
                  refine wH_idx (i := 5) (d := 78) (T := 78) (A := A9372) (n := (x9370).length) (cap := cap9373) (kd := .i64) (m := x8665) (by kernel_rfl) (qT (qT (qT (qB (qT (qL (qB (qT (qT (qB (qT (qL (qB (qT (qT (qB (qT (qL (qB (qT (qT qZ))))))))))))))))))))) (by kernel_rfl) (by kernel_rfl) sl78 ((F9374.sl encI_ok).is hx9384) ?_
                  refine wH_load1 (i := 6) (d := 79) (T := 2) (ad := (elA A9372 1 (x8665) 0)) (v := .int .i64 (x9383)) (by kernel_rfl) (qT (qT (qT (qB (qT (qL (qB (qT (qT (qB (qT (qL (qB (qT (qT (qB (qT (qL (qB (qT (qT qZ))))))))))))))))))))) (by kernel_rfl) (by kernel_rfl) vt2 (fun W hW => Sl.cell ((F9374.chg hW Dj.nil).sl encI_ok) hx9384 0 (by rfl)) ?_
                  refine wH_take [7, 8, 9, 10] [10, 9, 8, 7, 6, 5, 4, 3, 2, 1, 0] [(83, .int .i64 (andNI x7113 x9237)), (82, .int .i64 (x9237)), (81, .int .i64 (x7113)), (80, .slice A7108 (l8666).length cap7109)] (by kernel_rfl) (qT (qT (qT (qB (qT (qL (qB (qT (qT (qB (qT (qL (qB (qT (qT (qB (qT (qL (qB (qT (qT qZ))))))))))))))))))))) (by kernel_rfl) ?_
                  obtain ⟨x9385, hx9386, hm⟩ := bindE hm
                  refine wH_idx (i := 11) (d := 84) (T := 47) (A := A7108) (n := (l8666).length) (cap := cap7109) (kd := .i64) (m := andNI x7113 x9237) (by kernel_rfl) (qT (qT (qT (qB (qT (qL (qB (qT (qT (qB (qT (qL (qB (qT (qT (qB (qT (qL (qB (qT (qT qZ))))))))))))))))))))) (by kernel_rfl) (by kernel_rfl) sl47 ((F9241.slr encI_ok).is hx9386) ?_
                  obtain ⟨A9387, cap9388, fp9392, hc9390, hsub9393, F9389, hcl9394⟩ := OwR.lend Z9369 hx9386
                  have G9396 := low_inr G7146
                  have Dm9397 := (F9241.dj).symm
                  refine wH_load1 (i := 12) (d := 85) (T := 78) (ad := (elA A7108 1 (andNI x7113 x9237) 0)) (v := .slice A9387 (x9385).length cap9388) (by kernel_rfl) (qT (qT (qT (qB (qT (qL (qB (qT (qT (qB (qT (qL (qB (qT (qT (qB (qT (qL (qB (qT (qT qZ))))))))))))))))))))) (by kernel_rfl) (by kernel_rfl) vt78 (fun W hW => hW.keep hc9390) ?_
                  refine wH_take [13] [13, 12, 11, 10, 9, 8, 7, 6, 5, 4, 3, 2, 1, 0] [(86, .int .i64 (x8665))] (by kernel_rfl) (qT (qT (qT (qB (qT (qL (qB (qT (qT (qB (qT (qL (qB (qT (qT (qB (qT (qL (qB (qT (qT qZ))))))))))))))))))))) (by kernel_rfl) ?_
                  obtain ⟨x9398, hx9399, hm⟩ := bindE hm
                  refine wH_idx (i := 14) (d := 87) (T := 78) (A := A9387) (n := (x9385).length) (cap := cap9388) (kd := .i64) (m := x8665) (by kernel_rfl) (qT (qT (qT (qB (qT (qL (qB (qT (qT (qB (qT (qL (qB (qT (qT (qB (qT (qL (qB (qT (qT qZ))))))))))))))))))))) (by kernel_rfl) (by kernel_rfl) sl78 ((F9389.sl encI_ok).is hx9399) ?_
                  refine wH_load1 (i := 15) (d := 88) (T := 2) (ad := (elA A9387 1 (x8665) 0)) (v := .int .i64 (x9398)) (by kernel_rfl) (qT (qT (qT (qB (qT (qL (qB (qT (qT (qB (qT (qL (qB (qT (qT (qB (qT (qL (qB (qT (qT qZ))))))))))))))))))))) (by kernel_rfl) (by kernel_rfl) vt2 (fun W hW => Sl.cell ((F9389.chg hW Dj.nil).sl encI_ok) hx9399 0 (by rfl)) ?_
                  refine wH_done (by kernel_rfl) ?_
                  refine eX_tail ?_
                  refine wS_pure 2 [(12, .int .i64 (wr (x9383 + x9398))), (89, .int .i64 (wr (x9383 + x9398)))] (by kernel_rfl) ?_
                  refine wS_end (by rfl) ?_
                  refine eX_then ?_
                  refine cW_prune [(0, .slice A0 (l0).length cap0), (3, .slice A6 (y2).length cap7), (4, .int .i64 (((y2).length : Int))), (5, .int .i64 (shlI 1 (wu (((l0).length : Int))))), (6, .slice A7108 (l8666).length cap7109), (7, .int .i64 (x7113)), (8, .int .i64 (x8665)), (9, .int .i64 (x9236)), (11, .int .i64 (x9237)), (12, .int .i64 (wr (x9383 + x9398)))] (by kernel_rfl) (by kernel_rfl) (fun a9400 => ?_)
                  refine cW_seq ?_
                  refine cW_region ?_
                  refine wS_pure 3 [(92, .bool (decide (x9236 < 0))), (91, .bool (decide (x9236 < 0))), (90, .int .i64 (x9236))] (by kernel_rfl) ?_
                  refine wS_bool (decide (x9236 < 0)) (fun hb9401 => ?_) (fun hb9401 => ?_)
                  · have hm := condT hb9401 hm
                    rewrite [hb9401]
                    refine wS_pure 4 [(96, .bool (true)), (95, undef), (94, undef), (93, undef)] (by kernel_rfl) ?_
                    refine wS_end (by rfl) ?_
                    refine eX_then ?_
                    refine cW_cond_t (by kernel_rfl) ?_
                    refine cW_region ?_
                    refine wS_pure 2 [(9, .int .i64 (wr (x9383 + x9398))), (97, .int .i64 (wr (x9383 + x9398)))] (by kernel_rfl) ?_
                    refine wS_end (by rfl) ?_
                    have hq : (some (wr (x9383 + x9398)) : Option (Int)) = some _ := hm
                    replace hq := someE hq
                    subst hq
                    exact eX_J (fun hst => ⟨wr (x9383 + x9398), rfl, Fr.of hst (by kernel_rfl), F9239, F9240, F9241, hB, hZ⟩)
                  · have hm := condF hb9401 hm
                    rewrite [hb9401]
                    refine wS_pure 4 [(96, .bool (decide ((wr (x9383 + x9398)) < x9236))), (95, .bool (decide ((wr (x9383 + x9398)) < x9236))), (94, .int .i64 (x9236)), (93, .int .i64 (wr (x9383 + x9398)))] (by kernel_rfl) ?_
                    refine wS_end (by rfl) ?_
                    refine eX_then ?_
                    refine cW_cond (t := decide ((wr (x9383 + x9398)) < x9236)) (by kernel_rfl) (fun hb9402 => ?_) (fun hb9402 => ?_)
                    · have hm := condT hb9402 hm
                      refine cW_region ?_
                      refine wS_pure 2 [(9, .int .i64 (wr (x9383 + x9398))), (97, .int .i64 (wr (x9383 + x9398)))] (by kernel_rfl) ?_
                      refine wS_end (by rfl) ?_
                      have hq : (some (wr (x9383 + x9398)) : Option (Int)) = some _ := hm
                      replace hq := someE hq
                      subst hq
                      exact eX_J (fun hst => ⟨wr (x9383 + x9398), rfl, Fr.of hst (by kernel_rfl), F9239, F9240, F9241, hB, hZ⟩)
                    · have hm := condF hb9402 hm
                      refine cW_skip ?_
                      have hq : (some x9236 : Option (Int)) = some _ := hm
                      replace hq := someE hq
                      subst hq
                      exact eX_J (fun hst => ⟨x9236, rfl, Fr.of hst (by kernel_rfl), F9239, F9240, F9241, hB, hZ⟩)
                · rintro a' w9322 ⟨x9323, hJ, hF9324, F9325, F9326, F9327, hB, hZ⟩
                  subst hJ
                  refine Fr.goX hF9324 (by kernel_rfl) ?_
                  refine eX_block ?_
                  refine eX_then ?_
                  refine cW_region ?_
                  refine wS_pure 5 [(11, .int .i64 (andI (wr (x9237 - 1)) x7113)), (72, .int .i64 (andI (wr (x9237 - 1)) x7113)), (71, .int .i64 (x7113)), (70, .int .i64 (wr (x9237 - 1))), (69, .int .i64 (x9237))] (by kernel_rfl) ?_
                  refine wS_end (by rfl) ?_
                  have hq : (some (Ctl.next ((x9323, andI (wr (x9237 - 1)) x7113))) : Option (Ctl (Int × Int) (Int))) = some _ := hm
                  replace hq := someE hq
                  subst hq
                  exact eX_next hx9247 (fun hst => ⟨x9323, andI (wr (x9237 - 1)) x7113, rfl, Fr.of hst (by kernel_rfl), F9325, F9326, F9327, hB, hZ⟩)
              · have hm := condF hb9248 hm
                refine cW_exit ?_
                refine eX_then_exit ?_
                have hq : (some (Ctl.out x9236) : Option (Ctl (Int × Int) (Int))) = some _ := hm
                replace hq := someE hq
                subst hq
                refine eX_outX hx9247 (fun hr9403 => ?_)
                replace hr9403 := hr9403.symm
                subst hr9403
                refine eX_block_hit ?_
                exact eX_J (fun hst => ⟨x9236, rfl, Fr.of hst (by kernel_rfl), F9239, F9240, F9241, hB, hZ⟩)
            · rintro a' w9229 ⟨x9230, hJ, hF9231, F9232, F9233, F9234, hB, hZ⟩
              subst hJ
              refine Fr.goX hF9231 (by kernel_rfl) ?_
              refine eX_then ?_
              refine cW_region ?_
              refine wS_pure 2 [(99, .int .i64 (x7113)), (98, .slice A7108 (l8666).length cap7109)] (by kernel_rfl) ?_
              obtain ⟨x9404, hx9405, hm⟩ := bindE hm
              refine wS_idx (d := 100) (T := 47) (A := A7108) (n := (l8666).length) (cap := cap7109) (kd := .i64) (m := x7113) (by kernel_rfl) sl47 ((F9234.slr encI_ok).is hx9405) ?_
              obtain ⟨A9406, cap9407, fp9411, hc9409, hsub9412, F9408, hcl9413⟩ := OwR.lend F9234 hx9405
              have G9415 := low_inr G7146
              have Dm9416 := (F9234.dj).symm
              refine wS_load1 (d := 101) (T := 78) (ad := (elA A7108 1 (x7113) 0)) (v := .slice A9406 (x9404).length cap9407) (by kernel_rfl) vt78 hc9409 ?_
              refine wS_pure 2 [(103, .int .i64 (x9230)), (102, .int .i64 (x8665))] (by kernel_rfl) ?_
              obtain ⟨x9417, hx9418, hm⟩ := bindE hm
              refine wS_idx (d := 104) (T := 78) (A := A9406) (n := (x9404).length) (cap := cap9407) (kd := .i64) (m := x8665) (by kernel_rfl) sl78 ((F9408.sl encI_ok).is hx9418) ?_
              refine wS_storeEl (x := x9417) x9230 (T := 2) (U := 2) (cap := cap9407) (j := 0) (A := A9406) (v := .int .i64 (x9230)) (vs := [.int .i64 (x9230)]) (m := x8665) (by kernel_rfl) (by rfl) sz2 (by rfl) encI_ok F9408 hx9418 (by simp only [List.length_cons, List.length_nil]; omega) (by rfl) ?_
              intro w9422 F9423 hc9424
              have F9425 := hcl9413 _ _ hc9424 F9423 (List.length_set ..)
              have hc9426 := hc9424.more (S' := (fp7110 ++ (fr7112 ++ [b7128]))) (fun x hx => hsub9412 x hx)
              replace F9232 := F9232.chg hc9426 (Dj.of L0 G7146)
              replace F9233 := F9233.chg hc9426 D7145
              replace hB := hB.inS hc9426 (inLow G7146)
              replace hZ := Nat.le_trans hZ hc9426.size
              clear F9234
              rewrite [show (l8666).length = (l8666.set (Int.toNat x7113) (x9404.set (Int.toNat x8665) x9230)).length from (List.length_set ..).symm]
              refine wS_end (by rfl) ?_
              refine eX_block ?_
              refine eX_then ?_
              refine cW_region ?_
              refine wS_pure 3 [(8, .int .i64 (wr (x8665 + 1))), (42, .int .i64 (wr (x8665 + 1))), (41, .int .i64 (x8665))] (by kernel_rfl) ?_
              refine wS_end (by rfl) ?_
              have hq : (some (Ctl.next ((wr (x8665 + 1), l8666.set (Int.toNat x7113) (x9404.set (Int.toNat x8665) x9230)))) : Option (Ctl (Int × (List (List (Int)))) ((List (List (Int)))))) = some _ := hm
              replace hq := someE hq
              subst hq
              exact eX_next hx8676 (fun hst => ⟨wr (x8665 + 1), l8666.set (Int.toNat x7113) (x9404.set (Int.toNat x8665) x9230), rfl, Fr.of hst (by kernel_rfl), F9232, F9233, F9425, hB, hZ⟩)
        · have hm := condF hb8677 hm
          refine cW_exit ?_
          refine eX_then_exit ?_
          have hq : (some (Ctl.out l8666) : Option (Ctl (Int × (List (List (Int)))) ((List (List (Int)))))) = some _ := hm
          replace hq := someE hq
          subst hq
          refine eX_outX hx8676 (fun hr9427 => ?_)
          replace hr9427 := hr9427.symm
          subst hr9427
          refine eX_block_hit ?_
          exact eX_J (fun hst => ⟨l8666, rfl, Fr.of hst (by kernel_rfl), F8668, F8669, F8670, hB, hZ⟩)
      · rintro a' w8658 ⟨l8659, hJ, hF8660, F8661, F8662, F8663, hB, hZ⟩
        subst hJ
        refine Fr.goX hF8660 (by kernel_rfl) ?_
        refine eX_then ?_
        refine cW_seq ?_
        refine cW_region ?_
        refine wS_pure 2 [(106, .int .i64 (x7113)), (105, .slice A7108 (l8659).length cap7109)] (by kernel_rfl) ?_
        obtain ⟨x9428, hx9429, hm⟩ := bindE hm
        refine wS_idx (d := 107) (T := 47) (A := A7108) (n := (l8659).length) (cap := cap7109) (kd := .i64) (m := x7113) (by kernel_rfl) sl47 ((F8663.slr encI_ok).is hx9429) ?_
        obtain ⟨A9430, cap9431, fp9435, hc9433, hsub9436, F9432, hcl9437⟩ := OwR.lend F8663 hx9429
        have G9439 := low_inr G7146
        have Dm9440 := (F8663.dj).symm
        refine wS_load1 (d := 108) (T := 78) (ad := (elA A7108 1 (x7113) 0)) (v := .slice A9430 (x9428).length cap9431) (by kernel_rfl) vt78 hc9433 ?_
        obtain ⟨y9441, hy9442, hm⟩ := bindE hm
        refine wS_calls (d := 109) (f := 133) (vs := [.slice A9430 (x9428).length cap9431]) (by kernel_rfl) ent133 (c_spec_l00Own hy9442 (F9432.sl encI_ok)) ?_
        rintro _ w9443 ⟨A9445, cap9446, fp9447, rfl, F9448, G9449, hc9444⟩
        have D9452 : Dj fp8 fp9447 := Dj.of F8662.low G9449
        have D9453 : Dj (fp7110 ++ (fr7112 ++ [b7128])) fp9447 := Dj.of F8663.low G9449
        replace F8661 := F8661.chg hc9444 Dj.nil
        replace F8662 := F8662.chg hc9444 Dj.nil
        replace F8663 := F8663.chg hc9444 Dj.nil
        replace F9432 := F9432.chg hc9444 Dj.nil
        replace hcl9437 := fun w2 l2 hc2 hO hl => hcl9437 w2 l2 ((hc9444.more (fun x hx => nomatch hx)).trans hc2) hO hl
        replace hB := hB.inS hc9444 inNil
        replace G9449 := low_le hZ G9449
        replace hZ := Nat.le_trans hZ hc9444.size
        refine ⟨.slice A9445 (y9441).length cap9446, rfl, ?_⟩
        refine wS_pure 1 [(13, .slice A9445 (y9441).length cap9446)] (by kernel_rfl) ?_
        refine wS_end (by rfl) ?_
        refine eX_then ?_
        refine cW_seq ?_
        refine cW_region ?_
        refine wS_pure 1 [(14, .int .i64 (0))] (by kernel_rfl) ?_
        refine wS_end (by rfl) ?_
        refine eX_then ?_
        obtain ⟨r10258, hr10259, hm⟩ := bindE hm
        have hm10260 := hm
        refine cW_cut (fun a' w' => ∃ l10245 : List (List (Int)), l10245 = r10258 ∧ Fr 171 [(0, .slice A0 (l0).length cap0), (3, .slice A6 (y2).length cap7), (4, .int .i64 (((y2).length : Int))), (5, .int .i64 (shlI 1 (wu (((l0).length : Int))))), (6, .slice A7108 (l10245).length cap7109), (7, .int .i64 (x7113))] a' ∧ Sl 2 encII w' fp0 A0 l0 ∧ Ow 2 encII 34 w' fp8 A6 cap7 y2 ∧ OwR 1 encI 78 2 w' fp7110 (fr7112 ++ [b7128]) A7108 cap7109 l10245 ∧ Chg [] w0 w' ∧ w0.heap.size ≤ w'.heap.size) ?_ ?_
        · refine cW_block ?_
          refine cW_loop _ (fun (s10261 : Int × (List (List (Int)))) a' w' => ∃ x10251 : Int, ∃ l10252 : List (List (Int)), (x10251, l10252) = s10261 ∧ Fr 171 [(0, .slice A0 (l0).length cap0), (3, .slice A6 (y2).length cap7), (4, .int .i64 (((y2).length : Int))), (5, .int .i64 (shlI 1 (wu (((l0).length : Int))))), (6, .slice A7108 (l10252).length cap7109), (7, .int .i64 (x7113)), (13, .slice A9445 (y9441).length cap9446), (14, .int .i64 (x10251))] a' ∧ Sl 2 encII w' fp0 A0 l0 ∧ Ow 2 encII 34 w' fp8 A6 cap7 y2 ∧ OwR 1 encI 78 2 w' fp7110 (fr7112 ++ [b7128]) A7108 cap7109 l10252 ∧ Ow 1 encI 2 w' fp9447 A9445 cap9446 y9441 ∧ Chg [] w0 w' ∧ w0.heap.size ≤ w'.heap.size) hr10259 (fun hst => ⟨0, l8659, rfl, Fr.of hst (by kernel_rfl), F8661, F8662, F8663, F9448, hB, hZ⟩) ?_
          rintro _ c10262 a' w10250 ⟨x10251, l10252, rfl, hF10253, F10254, F10255, F10256, F10257, hB, hZ⟩ hx10263
          refine Fr.goOn hF10253 (by kernel_rfl) ?_
          have hm := hx10263
          unfold m_spec_l05Steiner_s33 at hm
          refine cW_seq ?_
          refine cW_seq ?_
          refine cW_region ?_
          refine wS_pure 3 [(112, .bool (decide (x10251 < (((y2).length : Int))))), (111, .int .i64 (((y2).length : Int))), (110, .int .i64 (x10251))] (by kernel_rfl) ?_
          refine wS_end (by rfl) ?_
          refine eX_then ?_
          refine cW_cond (t := decide (x10251 < (((y2).length : Int)))) (by kernel_rfl) (fun hb10264 => ?_) (fun hb10264 => ?_)
          · have hm := condT hb10264 hm
            refine cW_skip ?_
            refine eX_then ?_
            refine cW_seq ?_
            refine cW_block ?_
            refine cW_seq ?_
            refine cW_region ?_
            refine wS_pure 1 [(15, .int .i64 (0))] (by kernel_rfl) ?_
            refine wS_end (by rfl) ?_
            refine eX_then ?_
            obtain ⟨r10528, hr10529, hm⟩ := bindE hm
            have hm10530 := hm
            refine cW_cut (fun a' w' => ∃ l10514 : List (List (Int)), l10514 = r10528 ∧ Fr 171 [(0, .slice A0 (l0).length cap0), (3, .slice A6 (y2).length cap7), (4, .int .i64 (((y2).length : Int))), (5, .int .i64 (shlI 1 (wu (((l0).length : Int))))), (6, .slice A7108 (l10514).length cap7109), (7, .int .i64 (x7113)), (13, .slice A9445 (y9441).length cap9446), (14, .int .i64 (x10251))] a' ∧ Sl 2 encII w' fp0 A0 l0 ∧ Ow 2 encII 34 w' fp8 A6 cap7 y2 ∧ OwR 1 encI 78 2 w' fp7110 (fr7112 ++ [b7128]) A7108 cap7109 l10514 ∧ Ow 1 encI 2 w' fp9447 A9445 cap9446 y9441 ∧ Chg [] w0 w' ∧ w0.heap.size ≤ w'.heap.size) ?_ ?_
            · refine cW_block ?_
              refine cW_loop _ (fun (s10531 : Int × (List (List (Int)))) a' w' => ∃ x10521 : Int, ∃ l10522 : List (List (Int)), (x10521, l10522) = s10531 ∧ Fr 171 [(0, .slice A0 (l0).length cap0), (3, .slice A6 (y2).length cap7), (4, .int .i64 (((y2).length : Int))), (5, .int .i64 (shlI 1 (wu (((l0).length : Int))))), (6, .slice A7108 (l10522).length cap7109), (7, .int .i64 (x7113)), (13, .slice A9445 (y9441).length cap9446), (14, .int .i64 (x10251)), (15, .int .i64 (x10521))] a' ∧ Sl 2 encII w' fp0 A0 l0 ∧ Ow 2 encII 34 w' fp8 A6 cap7 y2 ∧ OwR 1 encI 78 2 w' fp7110 (fr7112 ++ [b7128]) A7108 cap7109 l10522 ∧ Ow 1 encI 2 w' fp9447 A9445 cap9446 y9441 ∧ Chg [] w0 w' ∧ w0.heap.size ≤ w'.heap.size) hr10529 (fun hst => ⟨0, l10252, rfl, Fr.of hst (by kernel_rfl), F10254, F10255, F10256, F10257, hB, hZ⟩) ?_
              rintro _ c10532 a' w10520 ⟨x10521, l10522, rfl, hF10523, F10524, F10525, F10526, F10527, hB, hZ⟩ hx10533
              refine Fr.goOn hF10523 (by kernel_rfl) ?_
              have hm := hx10533
              unfold m_spec_l05Steiner_s34 at hm
              refine cW_seq ?_
              refine cW_seq ?_
              refine cW_region ?_
              refine wS_pure 3 [(117, .bool (decide (x10521 < (((y2).length : Int))))), (116, .int .i64 (((y2).length : Int))), (115, .int .i64 (x10521))] (by kernel_rfl) ?_
              refine wS_end (by rfl) ?_
              refine eX_then ?_
              refine cW_cond (t := decide (x10521 < (((y2).length : Int)))) (by kernel_rfl) (fun hb10534 => ?_) (fun hb10534 => ?_)
              · have hm := condT hb10534 hm
                refine cW_skip ?_
                refine eX_then ?_
                refine cW_seq ?_
                refine cW_block ?_
                refine cW_drawnTail [] 27 (by kernel_rfl) (by kernel_rfl) (fun w10593 hc10594 => ?_)
                replace F10524 := F10524.chg hc10594 Dj.nil
                replace F10525 := F10525.chg hc10594 Dj.nil
                replace F10526 := F10526.chg hc10594 Dj.nil
                replace F10527 := F10527.chg hc10594 Dj.nil
                replace hB := hB.inS hc10594 inNil
                replace hZ := Nat.le_trans hZ hc10594.size
                have hS := Chg.refl [] w10593
                have Z10595 := F10524
                have Z10596 := F10525
                have Z10597 := F10526
                have Z10598 := F10527
                refine wH_take [0, 1] [1, 0] [(121, .int .i64 (x7113)), (120, .slice A7108 (l10522).length cap7109)] (by kernel_rfl) (qT (qB (qT (qL (qB (qT (qB (qT (qL (qB (qT (qB (qT (qL (qB (qT (qT qZ))))))))))))))))) (by kernel_rfl) ?_
                obtain ⟨x10599, hx10600, hm⟩ := bindE hm
                refine wH_idx (i := 2) (d := 122) (T := 47) (A := A7108) (n := (l10522).length) (cap := cap7109) (kd := .i64) (m := x7113) (by kernel_rfl) (qT (qB (qT (qL (qB (qT (qB (qT (qL (qB (qT (qB (qT (qL (qB (qT (qT qZ))))))))))))))))) (by kernel_rfl) (by kernel_rfl) sl47 ((F10526.slr encI_ok).is hx10600) ?_
                obtain ⟨A10601, cap10602, fp10606, hc10604, hsub10607, F10603, hcl10608⟩ := OwR.lend Z10597 hx10600
                have G10610 := low_inr G7146
                have Dm10611 := (F10526.dj).symm
                refine wH_load1 (i := 3) (d := 123) (T := 78) (ad := (elA A7108 1 (x7113) 0)) (v := .slice A10601 (x10599).length cap10602) (by kernel_rfl) (qT (qB (qT (qL (qB (qT (qB (qT (qL (qB (qT (qB (qT (qL (qB (qT (qT qZ))))))))))))))))) (by kernel_rfl) (by kernel_rfl) vt78 (fun W hW => hW.keep hc10604) ?_
                refine wH_take [4, 5, 6] [6, 5, 4, 3, 2, 1, 0] [(126, .int .i64 (x7113)), (125, .slice A7108 (l10522).length cap7109), (124, .int .i64 (x10251))] (by kernel_rfl) (qT (qB (qT (qL (qB (qT (qB (qT (qL (qB (qT (qB (qT (qL (qB (qT (qT qZ))))))))))))))))) (by kernel_rfl) ?_
                obtain ⟨x10612, hx10613, hm⟩ := bindE hm
                refine wH_idx (i := 7) (d := 127) (T := 47) (A := A7108) (n := (l10522).length) (cap := cap7109) (kd := .i64) (m := x7113) (by kernel_rfl) (qT (qB (qT (qL (qB (qT (qB (qT (qL (qB (qT (qB (qT (qL (qB (qT (qT qZ))))))))))))))))) (by kernel_rfl) (by kernel_rfl) sl47 ((F10526.slr encI_ok).is hx10613) ?_
                obtain ⟨A10614, cap10615, fp10619, hc10617, hsub10620, F10616, hcl10621⟩ := OwR.lend Z10597 hx10613
                have G10623 := low_inr G7146
                have Dm10624 := (F10526.dj).symm
                refine wH_load1 (i := 8) (d := 128) (T := 78) (ad := (elA A7108 1 (x7113) 0)) (v := .slice A10614 (x10612).length cap10615) (by kernel_rfl) (qT (qB (qT (qL (qB (qT (qB (qT (qL (qB (qT (qB (qT (qL (qB (qT (qT qZ))))))))))))))))) (by kernel_rfl) (by kernel_rfl) vt78 (fun W hW => hW.keep hc10617) ?_
                refine wH_take [9] [9, 8, 7, 6, 5, 4, 3, 2, 1, 0] [(129, .int .i64 (x10251))] (by kernel_rfl) (qT (qB (qT (qL (qB (qT (qB (qT (qL (qB (qT (qB (qT (qL (qB (qT (qT qZ))))))))))))))))) (by kernel_rfl) ?_
                obtain ⟨x10625, hx10626, hm⟩ := bindE hm
                refine wH_idx (i := 10) (d := 130) (T := 78) (A := A10614) (n := (x10612).length) (cap := cap10615) (kd := .i64) (m := x10251) (by kernel_rfl) (qT (qB (qT (qL (qB (qT (qB (qT (qL (qB (qT (qB (qT (qL (qB (qT (qT qZ))))))))))))))))) (by kernel_rfl) (by kernel_rfl) sl78 ((F10616.sl encI_ok).is hx10626) ?_
                refine wH_load1 (i := 11) (d := 131) (T := 2) (ad := (elA A10614 1 (x10251) 0)) (v := .int .i64 (x10625)) (by kernel_rfl) (qT (qB (qT (qL (qB (qT (qB (qT (qL (qB (qT (qB (qT (qL (qB (qT (qT qZ))))))))))))))))) (by kernel_rfl) (by kernel_rfl) vt2 (fun W hW => Sl.cell ((F10616.chg hW Dj.nil).sl encI_ok) hx10626 0 (by rfl)) ?_
                refine wH_take [12, 13] [13, 12, 11, 10, 9, 8, 7, 6, 5, 4, 3, 2, 1, 0] [(133, .int .i64 (x10521)), (132, .slice A9445 (y9441).length cap9446)] (by kernel_rfl) (qT (qB (qT (qL (qB (qT (qB (qT (qL (qB (qT (qB (qT (qL (qB (qT (qT qZ))))))))))))))))) (by kernel_rfl) ?_
                obtain ⟨x10627, hx10628, hm⟩ := bindE hm
                refine wH_idx (i := 14) (d := 134) (T := 78) (A := A9445) (n := (y9441).length) (cap := cap9446) (kd := .i64) (m := x10521) (by kernel_rfl) (qT (qB (qT (qL (qB (qT (qB (qT (qL (qB (qT (qB (qT (qL (qB (qT (qT qZ))))))))))))))))) (by kernel_rfl) (by kernel_rfl) sl78 ((F10527.sl encI_ok).is hx10628) ?_
                refine wH_load1 (i := 15) (d := 135) (T := 2) (ad := (elA A9445 1 (x10521) 0)) (v := .int .i64 (x10627)) (by kernel_rfl) (qT (qB (qT (qL (qB (qT (qB (qT (qL (qB (qT (qB (qT (qL (qB (qT (qT qZ))))))))))))))))) (by kernel_rfl) (by kernel_rfl) vt2 (fun W hW => Sl.cell ((Z10598.chg hW Dj.nil).sl encI_ok) hx10628 0 (by rfl)) ?_
                refine wH_take [16, 17] [17, 16, 15, 14, 13, 12, 11, 10, 9, 8, 7, 6, 5, 4, 3, 2, 1, 0] [(137, .int .i64 (x10521)), (136, .slice A6 (y2).length cap7)] (by kernel_rfl) (qT (qB (qT (qL (qB (qT (qB (qT (qL (qB (qT (qB (qT (qL (qB (qT (qT qZ))))))))))))))))) (by kernel_rfl) ?_
                obtain ⟨x10629, hx10630, hm⟩ := bindE hm
                refine wH_idx (i := 18) (d := 138) (T := 25) (A := A6) (n := (y2).length) (cap := cap7) (kd := .i64) (m := x10521) (by kernel_rfl) (qT (qB (qT (qL (qB (qT (qB (qT (qL (qB (qT (qB (qT (qL (qB (qT (qT qZ))))))))))))))))) (by kernel_rfl) (by kernel_rfl) sl25 ((F10525.sl encII_ok).is hx10630) ?_
                refine wH_loadA (i := 19) (d := 139) (T := 34) (ad := (elA A6 2 (x10521) 0)) (vs := [.int .i64 (x10629.1), .int .i64 (x10629.2)]) (by kernel_rfl) (qT (qB (qT (qL (qB (qT (qB (qT (qL (qB (qT (qB (qT (qL (qB (qT (qT qZ))))))))))))))))) (by kernel_rfl) (by kernel_rfl) vt34 (fun W hW i u hu => Sl.cells_at ((Z10596.chg hW Dj.nil).sl encII_ok) hx10630 0 hu (by rfl)) ?_
                refine wH_take [20, 21] [21, 20, 19, 18, 17, 16, 15, 14, 13, 12, 11, 10, 9, 8, 7, 6, 5, 4, 3, 2, 1, 0] [(141, .int .i64 (x10251)), (140, .slice A6 (y2).length cap7)] (by kernel_rfl) (qT (qB (qT (qL (qB (qT (qB (qT (qL (qB (qT (qB (qT (qL (qB (qT (qT qZ))))))))))))))))) (by kernel_rfl) ?_
                obtain ⟨x10631, hx10632, hm⟩ := bindE hm
                refine wH_idx (i := 22) (d := 142) (T := 25) (A := A6) (n := (y2).length) (cap := cap7) (kd := .i64) (m := x10251) (by kernel_rfl) (qT (qB (qT (qL (qB (qT (qB (qT (qL (qB (qT (qB (qT (qL (qB (qT (qT qZ))))))))))))))))) (by kernel_rfl) (by kernel_rfl) sl25 ((F10525.sl encII_ok).is hx10632) ?_
                refine wH_loadA (i := 23) (d := 143) (T := 34) (ad := (elA A6 2 (x10251) 0)) (vs := [.int .i64 (x10631.1), .int .i64 (x10631.2)]) (by kernel_rfl) (qT (qB (qT (qL (qB (qT (qB (qT (qL (qB (qT (qB (qT (qL (qB (qT (qT qZ))))))))))))))))) (by kernel_rfl) (by kernel_rfl) vt34 (fun W hW i u hu => Sl.cells_at ((Z10596.chg hW Dj.nil).sl encII_ok) hx10632 0 hu (by rfl)) ?_
                refine wH_all [24] (by rfl) (by kernel_rfl) (by simp) ⟨⟨by kernel_rfl, ?_⟩, trivial⟩
                obtain ⟨y10633, hy10634, hm⟩ := bindE hm
                refine wS_calls (d := 144) (f := 84) (vs := [.agg #[.int .i64 (x10629.1), .int .i64 (x10629.2)], .agg #[.int .i64 (x10631.1), .int .i64 (x10631.2)]]) (by kernel_rfl) ent84 (c_spec_l01Far hy10634) ?_
                rintro _ w10635 ⟨rfl, hc10636⟩
                replace F10524 := F10524.chg hc10636 Dj.nil
                replace F10525 := F10525.chg hc10636 Dj.nil
                replace F10526 := F10526.chg hc10636 Dj.nil
                replace F10527 := F10527.chg hc10636 Dj.nil
                replace F10603 := F10603.chg hc10636 Dj.nil
                replace F10616 := F10616.chg hc10636 Dj.nil
                replace hcl10608 := fun w2 l2 hc2 hO hl => hcl10608 w2 l2 ((hc10636.more (fun x hx => nomatch hx)).trans hc2) hO hl
                replace hcl10621 := fun w2 l2 hc2 hO hl => hcl10621 w2 l2 ((hc10636.more (fun x hx => nomatch hx)).trans hc2) hO hl
                replace hB := hB.inS hc10636 inNil
                have hSz := hS
                replace hS := hS.inS hc10636 inNil
                replace hZ := Nat.le_trans hZ hc10636.size
                refine ⟨.int .i64 (y10633), rfl, ?_⟩
                refine wS_end (by kernel_rfl) ?_
                refine eX_KH hS ?_
                refine wH_take [25] [25, 24, 23, 22, 21, 20, 19, 18, 17, 16, 15, 14, 13, 12, 11, 10, 9, 8, 7, 6, 5, 4, 3, 2, 1, 0] [(145, .int .i64 (wr (x10627 + y10633)))] (by kernel_rfl) (qT (qB (qT (qL (qB (qT (qB (qT (qL (qB (qT (qB (qT (qL (qB (qT (qT qZ))))))))))))))))) (by kernel_rfl) ?_
                refine wH_all [26] (by rfl) (by kernel_rfl) (by simp) ⟨⟨by kernel_rfl, ?_⟩, trivial⟩
                obtain ⟨y10637, hy10638, hm⟩ := bindE hm
                refine wS_calls (d := 146) (f := 124) (vs := [.int .i64 (x10625), .int .i64 (wr (x10627 + y10633))]) (by kernel_rfl) ent124 (c_spec_l00Min hy10638) ?_
                rintro _ w10639 ⟨rfl, hc10640⟩
                replace F10524 := F10524.chg hc10640 Dj.nil
                replace F10525 := F10525.chg hc10640 Dj.nil
                replace F10526 := F10526.chg hc10640 Dj.nil
                replace F10527 := F10527.chg hc10640 Dj.nil
                replace F10603 := F10603.chg hc10640 Dj.nil
                replace F10616 := F10616.chg hc10640 Dj.nil
                replace hcl10608 := fun w2 l2 hc2 hO hl => hcl10608 w2 l2 ((hc10640.more (fun x hx => nomatch hx)).trans hc2) hO hl
                replace hcl10621 := fun w2 l2 hc2 hO hl => hcl10621 w2 l2 ((hc10640.more (fun x hx => nomatch hx)).trans hc2) hO hl
                replace hB := hB.inS hc10640 inNil
                have hSz := hS
                replace hS := hS.inS hc10640 inNil
                replace hZ := Nat.le_trans hZ hc10640.size
                refine ⟨.int .i64 (y10637), rfl, ?_⟩
                refine wS_end (by kernel_rfl) ?_
                refine eX_KH hS ?_
                refine wH_done (by kernel_rfl) ?_
                refine eX_tail ?_
                obtain ⟨x10641, hx10642, hm⟩ := bindE hm
                refine wS_idx (d := 147) (T := 78) (A := A10601) (n := (x10599).length) (cap := cap10602) (kd := .i64) (m := x10251) (by kernel_rfl) sl78 ((F10603.sl encI_ok).is hx10642) ?_
                refine wS_storeEl (x := x10641) y10637 (T := 2) (U := 2) (cap := cap10602) (j := 0) (A := A10601) (v := .int .i64 (y10637)) (vs := [.int .i64 (y10637)]) (m := x10251) (by kernel_rfl) (by rfl) sz2 (by rfl) encI_ok F10603 hx10642 (by simp only [List.length_cons, List.length_nil]; omega) (by rfl) ?_
                intro w10646 F10647 hc10648
                have F10649 := hcl10608 _ _ hc10648 F10647 (List.length_set ..)
                have hc10650 := hc10648.more (S' := (fp7110 ++ (fr7112 ++ [b7128]))) (fun x hx => hsub10607 x hx)
                replace F10524 := F10524.chg hc10650 (Dj.of L0 G7146)
                replace F10525 := F10525.chg hc10650 D7145
                replace F10527 := F10527.chg hc10650 (D9453).symm
                replace hB := hB.inS hc10650 (inLow G7146)
                replace hZ := Nat.le_trans hZ hc10650.size
                clear F10526
                rewrite [show (l10522).length = (l10522.set (Int.toNat x7113) (x10599.set (Int.toNat x10251) y10637)).length from (List.length_set ..).symm]
                refine wS_end (by rfl) ?_
                refine eX_block ?_
                refine eX_then ?_
                refine cW_prune [(0, .slice A0 (l0).length cap0), (3, .slice A6 (y2).length cap7), (4, .int .i64 (((y2).length : Int))), (5, .int .i64 (shlI 1 (wu (((l0).length : Int))))), (6, .slice A7108 (l10522.set (Int.toNat x7113) (x10599.set (Int.toNat x10251) y10637)).length cap7109), (7, .int .i64 (x7113)), (13, .slice A9445 (y9441).length cap9446), (14, .int .i64 (x10251)), (15, .int .i64 (x10521))] (by kernel_rfl) (by kernel_rfl) (fun a10651 => ?_)
                refine cW_region ?_
                refine wS_pure 3 [(15, .int .i64 (wr (x10521 + 1))), (119, .int .i64 (wr (x10521 + 1))), (118, .int .i64 (x10521))] (by kernel_rfl) ?_
                refine wS_end (by rfl) ?_
                have hq : (some (Ctl.next ((wr (x10521 + 1), l10522.set (Int.toNat x7113) (x10599.set (Int.toNat x10251) y10637)))) : Option (Ctl (Int × (List (List (Int)))) ((List (List (Int)))))) = some _ := hm
                replace hq := someE hq
                subst hq
                exact eX_next hx10533 (fun hst => ⟨wr (x10521 + 1), l10522.set (Int.toNat x7113) (x10599.set (Int.toNat x10251) y10637), rfl, Fr.of hst (by kernel_rfl), F10524, F10525, F10649, F10527, hB, hZ⟩)
              · have hm := condF hb10534 hm
                refine cW_exit ?_
                refine eX_then_exit ?_
                have hq : (some (Ctl.out l10522) : Option (Ctl (Int × (List (List (Int)))) ((List (List (Int)))))) = some _ := hm
                replace hq := someE hq
                subst hq
                refine eX_outX hx10533 (fun hr10652 => ?_)
                replace hr10652 := hr10652.symm
                subst hr10652
                refine eX_block_hit ?_
                exact eX_J (fun hst => ⟨l10522, rfl, Fr.of hst (by kernel_rfl), F10524, F10525, F10526, F10527, hB, hZ⟩)
            · rintro a' w10513 ⟨l10514, hJ, hF10515, F10516, F10517, F10518, F10519, hB, hZ⟩
              subst hJ
              refine Fr.goX hF10515 (by kernel_rfl) ?_
              refine eX_block ?_
              refine eX_then ?_
              refine cW_region ?_
              refine wS_pure 3 [(14, .int .i64 (wr (x10251 + 1))), (114, .int .i64 (wr (x10251 + 1))), (113, .int .i64 (x10251))] (by kernel_rfl) ?_
              refine wS_end (by rfl) ?_
              have hq : (some (Ctl.next ((wr (x10251 + 1), l10514))) : Option (Ctl (Int × (List (List (Int)))) ((List (List (Int)))))) = some _ := hm
              replace hq := someE hq
              subst hq
              exact eX_next hx10263 (fun hst => ⟨wr (x10251 + 1), l10514, rfl, Fr.of hst (by kernel_rfl), F10516, F10517, F10518, F10519, hB, hZ⟩)
          · have hm := condF hb10264 hm
            refine cW_exit ?_
            refine eX_then_exit ?_
            have hq : (some (Ctl.out l10252) : Option (Ctl (Int × (List (List (Int)))) ((List (List (Int)))))) = some _ := hm
            replace hq := someE hq
            subst hq
            refine eX_outX hx10263 (fun hr10653 => ?_)
            replace hr10653 := hr10653.symm
            subst hr10653
            refine eX_block_hit ?_
            exact eX_J (fun hst => ⟨l10252, rfl, Fr.of hst (by kernel_rfl), F10254, F10255, F10256, hB, hZ⟩)
        · rintro a' w10244 ⟨l10245, hJ, hF10246, F10247, F10248, F10249, hB, hZ⟩
          subst hJ
          refine Fr.goX hF10246 (by kernel_rfl) ?_
          refine eX_block ?_
          refine eX_then ?_
          refine cW_region ?_
          refine wS_pure 3 [(7, .int .i64 (wr (x7113 + 1))), (32, .int .i64 (wr (x7113 + 1))), (31, .int .i64 (x7113))] (by kernel_rfl) ?_
          refine wS_end (by rfl) ?_
          have hq : (some (Ctl.next ((l10245, wr (x7113 + 1)))) : Option (Ctl ((List (List (Int))) × Int) ((List (List (Int)))))) = some _ := hm
          replace hq := someE hq
          subst hq
          exact eX_next hx7125 (fun hst => ⟨l10245, A7108, cap7109, fp7110, (fr7112 ++ [b7128]), wr (x7113 + 1), rfl, Fr.of hst (by kernel_rfl), F10247, F10248, F10249, G7146, D7145, hB, hZ⟩)
    · have hm := condF hb7126 hm
      refine cW_exit ?_
      refine eX_then_exit ?_
      have hq : (some (Ctl.out l7107) : Option (Ctl ((List (List (Int))) × Int) ((List (List (Int)))))) = some _ := hm
      replace hq := someE hq
      subst hq
      refine eX_outX hx7125 (fun hr10654 => ?_)
      replace hr10654 := hr10654.symm
      subst hr10654
      refine eX_block_hit ?_
      exact eX_J (fun hst => ⟨l7107, A7108, cap7109, fp7110, fr7112, rfl, Fr.of hst (by kernel_rfl), F7117, G7118, hB, hZ⟩)
  · rintro a' w7096 ⟨l7097, A7098, cap7099, fp7100, fr7102, hJ, hF7103, F7104, G7105, hB, hZ⟩
    subst hJ
    refine Fr.goX hF7103 (by kernel_rfl) ?_
    refine eX_then ?_
    refine cW_seq ?_
    refine cW_region ?_
    refine wS_pure 3 [(150, .int .i64 (wr ((shlI 1 (wu (((l0).length : Int)))) - 1))), (149, .int .i64 (shlI 1 (wu (((l0).length : Int))))), (148, .slice A7098 (l7097).length cap7099)] (by kernel_rfl) ?_
    obtain ⟨x10655, hx10656, hm⟩ := bindE hm
    refine wS_idx (d := 151) (T := 47) (A := A7098) (n := (l7097).length) (cap := cap7099) (kd := .i64) (m := wr ((shlI 1 (wu (((l0).length : Int)))) - 1)) (by kernel_rfl) sl47 ((F7104.slr encI_ok).is hx10656) ?_
    obtain ⟨A10657, cap10658, fp10662, hc10660, hsub10663, F10659, hcl10664⟩ := OwR.lend F7104 hx10656
    have G10666 := low_inr G7105
    have Dm10667 := (F7104.dj).symm
    refine wS_load1 (d := 152) (T := 78) (ad := (elA A7098 1 (wr ((shlI 1 (wu (((l0).length : Int)))) - 1)) 0)) (v := .slice A10657 (x10655).length cap10658) (by kernel_rfl) vt78 hc10660 ?_
    obtain ⟨x10668, hx10669, hm⟩ := bindE hm
    refine wS_idx (d := 153) (T := 78) (A := A10657) (n := (x10655).length) (cap := cap10658) (kd := .i64) (m := 0) (by kernel_rfl) sl78 ((F10659.sl encI_ok).is hx10669) ?_
    refine wS_load1 (d := 154) (T := 2) (ad := (elA A10657 1 (0) 0)) (v := .int .i64 (x10668)) (by kernel_rfl) vt2 (Sl.cell (F10659.sl encI_ok) hx10669 0 (by rfl)) ?_
    refine wS_pure 1 [(16, .int .i64 (x10668))] (by kernel_rfl) ?_
    refine wS_end (by rfl) ?_
    refine eX_then ?_
    refine cW_seq ?_
    refine cW_seq ?_
    refine cW_region ?_
    refine wS_pure 1 [(17, .int .i64 (1))] (by kernel_rfl) ?_
    refine wS_end (by rfl) ?_
    refine eX_then ?_
    obtain ⟨r10724, hr10725, hm⟩ := bindE hm
    have hm10726 := hm
    refine cW_cut (fun a' w' => ∃ x10717 : Int, x10717 = r10724 ∧ Fr 171 [(16, .int .i64 (x10717))] a' ∧ Chg [] w0 w' ∧ w0.heap.size ≤ w'.heap.size) ?_ ?_
    · refine cW_block ?_
      refine cW_loop _ (fun (s10727 : Int × Int) a' w' => ∃ x10720 : Int, ∃ x10721 : Int, (x10720, x10721) = s10727 ∧ Fr 171 [(4, .int .i64 (((y2).length : Int))), (5, .int .i64 (shlI 1 (wu (((l0).length : Int))))), (6, .slice A7098 (l7097).length cap7099), (16, .int .i64 (x10720)), (17, .int .i64 (x10721))] a' ∧ OwR 1 encI 78 2 w' fp7100 fr7102 A7098 cap7099 l7097 ∧ Chg [] w0 w' ∧ w0.heap.size ≤ w'.heap.size) hr10725 (fun hst => ⟨x10668, 1, rfl, Fr.of hst (by kernel_rfl), F7104, hB, hZ⟩) ?_
      rintro _ c10728 a' w10719 ⟨x10720, x10721, rfl, hF10722, F10723, hB, hZ⟩ hx10729
      refine Fr.goOn hF10722 (by kernel_rfl) ?_
      have hm := hx10729
      unfold m_spec_l05Steiner_s35 at hm
      refine cW_seq ?_
      refine cW_seq ?_
      refine cW_region ?_
      refine wS_pure 3 [(157, .bool (decide (x10721 < (((y2).length : Int))))), (156, .int .i64 (((y2).length : Int))), (155, .int .i64 (x10721))] (by kernel_rfl) ?_
      refine wS_end (by rfl) ?_
      refine eX_then ?_
      refine cW_cond (t := decide (x10721 < (((y2).length : Int)))) (by kernel_rfl) (fun hb10730 => ?_) (fun hb10730 => ?_)
      · have hm := condT hb10730 hm
        refine cW_skip ?_
        refine eX_then ?_
        refine cW_seq ?_
        refine cW_block ?_
        refine cW_region ?_
        refine wS_pure 4 [(163, .int .i64 (wr ((shlI 1 (wu (((l0).length : Int)))) - 1))), (162, .int .i64 (shlI 1 (wu (((l0).length : Int))))), (161, .slice A7098 (l7097).length cap7099), (160, .int .i64 (x10720))] (by kernel_rfl) ?_
        obtain ⟨x10731, hx10732, hm⟩ := bindE hm
        refine wS_idx (d := 164) (T := 47) (A := A7098) (n := (l7097).length) (cap := cap7099) (kd := .i64) (m := wr ((shlI 1 (wu (((l0).length : Int)))) - 1)) (by kernel_rfl) sl47 ((F10723.slr encI_ok).is hx10732) ?_
        obtain ⟨A10733, cap10734, fp10738, hc10736, hsub10739, F10735, hcl10740⟩ := OwR.lend F10723 hx10732
        have G10742 := low_inr G7105
        have Dm10743 := (F10723.dj).symm
        refine wS_load1 (d := 165) (T := 78) (ad := (elA A7098 1 (wr ((shlI 1 (wu (((l0).length : Int)))) - 1)) 0)) (v := .slice A10733 (x10731).length cap10734) (by kernel_rfl) vt78 hc10736 ?_
        refine wS_pure 1 [(166, .int .i64 (x10721))] (by kernel_rfl) ?_
        obtain ⟨x10744, hx10745, hm⟩ := bindE hm
        refine wS_idx (d := 167) (T := 78) (A := A10733) (n := (x10731).length) (cap := cap10734) (kd := .i64) (m := x10721) (by kernel_rfl) sl78 ((F10735.sl encI_ok).is hx10745) ?_
        refine wS_load1 (d := 168) (T := 2) (ad := (elA A10733 1 (x10721) 0)) (v := .int .i64 (x10744)) (by kernel_rfl) vt2 (Sl.cell (F10735.sl encI_ok) hx10745 0 (by rfl)) ?_
        obtain ⟨y10746, hy10747, hm⟩ := bindE hm
        refine wS_calls (d := 169) (f := 124) (vs := [.int .i64 (x10720), .int .i64 (x10744)]) (by kernel_rfl) ent124 (c_spec_l00Min hy10747) ?_
        rintro _ w10748 ⟨rfl, hc10749⟩
        replace F10723 := F10723.chg hc10749 Dj.nil
        replace F10735 := F10735.chg hc10749 Dj.nil
        replace hcl10740 := fun w2 l2 hc2 hO hl => hcl10740 w2 l2 ((hc10749.more (fun x hx => nomatch hx)).trans hc2) hO hl
        replace hB := hB.inS hc10749 inNil
        replace hZ := Nat.le_trans hZ hc10749.size
        refine ⟨.int .i64 (y10746), rfl, ?_⟩
        refine wS_pure 1 [(16, .int .i64 (y10746))] (by kernel_rfl) ?_
        refine wS_end (by rfl) ?_
        refine eX_block ?_
        refine eX_then ?_
        refine cW_region ?_
        refine wS_pure 3 [(17, .int .i64 (wr (x10721 + 1))), (159, .int .i64 (wr (x10721 + 1))), (158, .int .i64 (x10721))] (by kernel_rfl) ?_
        refine wS_end (by rfl) ?_
        have hq : (some (Ctl.next ((y10746, wr (x10721 + 1)))) : Option (Ctl (Int × Int) (Int))) = some _ := hm
        replace hq := someE hq
        subst hq
        exact eX_next hx10729 (fun hst => ⟨y10746, wr (x10721 + 1), rfl, Fr.of hst (by kernel_rfl), F10723, hB, hZ⟩)
      · have hm := condF hb10730 hm
        refine cW_exit ?_
        refine eX_then_exit ?_
        have hq : (some (Ctl.out x10720) : Option (Ctl (Int × Int) (Int))) = some _ := hm
        replace hq := someE hq
        subst hq
        refine eX_outX hx10729 (fun hr10750 => ?_)
        replace hr10750 := hr10750.symm
        subst hr10750
        refine eX_block_hit ?_
        exact eX_J (fun hst => ⟨x10720, rfl, Fr.of hst (by kernel_rfl), hB, hZ⟩)
    · rintro a' w10716 ⟨x10717, hJ, hF10718, hB, hZ⟩
      subst hJ
      refine Fr.goX hF10718 (by kernel_rfl) ?_
      refine eX_then ?_
      refine cW_seq ?_
      refine cW_region ?_
      refine wS_pure 2 [(2, .int .i64 (x10717)), (170, .int .i64 (x10717))] (by kernel_rfl) ?_
      refine wS_end (by rfl) ?_
      refine eX_then ?_
      refine cW_ret ?_
      have hq : (some x10717 : Option ((Int))) = some _ := hm
      replace hq := someE hq
      subst hq
      refine eX_ret (vs := [.int .i64 (x10717)]) [.tmp 2] (by rfl) ⟨by (show lkE _ _ _ = _); kernel_rfl, trivial⟩ ?_
      exact ⟨rfl, hB⟩

set_option maxRecDepth 100000 in
/-- spec.SteinerLength -/
theorem c_spec_SteinerLength {w0 : World} {l0 : List (Int × Int)} {A0 : Option Addr} {cap0 : Nat} {fp0 : List Nat} {r : (Int) × (Bool)} (hm : m_spec_SteinerLength l0 = some r) (F0 : Sl 2 encII w0 fp0 A0 l0) (K0 : (l0).length ≤ cap0) :
    Calls Try.prog 50 #[.slice A0 (l0).length cap0] w0 fun e w' => e = .returned (.tuple #[.int .i64 (r.1), .bool (r.2)]) ∧ Chg [] w0 w' := by
  have L0 := F0.low
  have hB : Chg [] w0 w0 := Chg.refl _ _
  have hZ := Nat.le_refl w0.heap.size
  unfold m_spec_SteinerLength at hm
  refine enterE (N := 9) Try.func50 (by rfl) Try.ntmps50 (by simp) [(0, .slice A0 (l0).length cap0)] (by rfl) (by kernel_rfl) (fun a => ?_)
  refine cW_seq ?_
  refine cW_region ?_
  refine wS_pure 2 [(3, .bool (false)), (2, .int .i64 (0))] (by kernel_rfl) ?_
  refine wS_end (by rfl) ?_
  refine eX_then ?_
  refine cW_seq ?_
  refine cW_seq ?_
  refine cW_region ?_
  refine wS_pure 1 [(4, .slice A0 (l0).length cap0)] (by kernel_rfl) ?_
  obtain ⟨y2, hy3, hm⟩ := bindE hm
  refine wS_calls (d := 5) (f := 86) (vs := [.slice A0 (l0).length cap0]) (by kernel_rfl) ent86 (c_spec_l05Few hy3 F0 K0) ?_
  rintro _ w4 ⟨rfl, hc5⟩
  replace F0 := F0.chg hc5 Dj.nil
  replace hB := hB.inS hc5 inNil
  replace hZ := Nat.le_trans hZ hc5.size
  refine ⟨.bool (y2), rfl, ?_⟩
  refine wS_pure 1 [(6, .bool (!y2))] (by kernel_rfl) ?_
  refine wS_end (by rfl) ?_
  refine eX_then ?_
  refine cW_cond (t := !y2) (by kernel_rfl) (fun hb6 => ?_) (fun hb6 => ?_)
  · have hm := condT hb6 hm
    refine cW_seq ?_
    refine cW_region ?_
    refine wS_pure 2 [(3, .bool (false)), (2, .int .i64 (0))] (by kernel_rfl) ?_
    refine wS_end (by rfl) ?_
    refine eX_then ?_
    refine cW_ret ?_
    refine eX_then_ret ?_
    have hq : (some ((0, false)) : Option ((Int) × (Bool))) = some _ := hm
    replace hq := someE hq
    subst hq
    refine eX_ret (vs := [.int .i64 (0), .bool (false)]) [.tmp 2, .tmp 3] (by rfl) ⟨by (show lkE _ _ _ = _); kernel_rfl, ⟨by (show lkE _ _ _ = _); kernel_rfl, trivial⟩⟩ ?_
    exact ⟨rfl, hB⟩
  · have hm := condF hb6 hm
    refine cW_skip ?_
    refine eX_then ?_
    refine cW_seq ?_
    refine cW_region ?_
    refine wS_pure 1 [(7, .slice A0 (l0).length cap0)] (by kernel_rfl) ?_
    obtain ⟨y7, hy8, hm⟩ := bindE hm
    refine wS_calls (d := 8) (f := 101) (vs := [.slice A0 (l0).length cap0]) (by kernel_rfl) ent101 (c_spec_l05Steiner hy8 F0) ?_
    rintro _ w9 ⟨rfl, hc10⟩
    replace F0 := F0.chg hc10 Dj.nil
    replace hB := hB.inS hc10 inNil
    replace hZ := Nat.le_trans hZ hc10.size
    refine ⟨.int .i64 (y7), rfl, ?_⟩
    refine wS_pure 2 [(3, .bool (true)), (2, .int .i64 (y7))] (by kernel_rfl) ?_
    refine wS_end (by rfl) ?_
    refine eX_then ?_
    refine cW_ret ?_
    have hq : (some ((y7, true)) : Option ((Int) × (Bool))) = some _ := hm
    replace hq := someE hq
    subst hq
    refine eX_ret (vs := [.int .i64 (y7), .bool (true)]) [.tmp 2, .tmp 3] (by rfl) ⟨by (show lkE _ _ _ = _); kernel_rfl, ⟨by (show lkE _ _ _ = _); kernel_rfl, trivial⟩⟩ ?_
    exact ⟨rfl, hB⟩

set_option maxRecDepth 100000 in
/-- slices.Clone[[]int64,int64] -/
theorem c_slices_Clone_int64_int64 {w0 : World} {l0 : List (Int)} {A0 : Option Addr} {cap0 : Nat} {fp0 : List Nat} {r : (List (Int))} (hm : m_slices_Clone_int64_int64 l0 = some r) (F0 : Sl 1 encI w0 fp0 A0 l0) :
    Calls Try.prog 134 #[.slice A0 (l0).length cap0] w0 fun e w' => ∃ A100 cap100 fp100, e = .returned (.slice A100 (r).length cap100) ∧ Ow 1 encI 2 w' fp100 A100 cap100 r ∧ (∀ x ∈ fp100, w0.heap.size ≤ x) ∧ Chg [] w0 w' := by
  have L0 := F0.low
  have hB : Chg [] w0 w0 := Chg.refl _ _
  have hZ := Nat.le_refl w0.heap.size
  unfold m_slices_Clone_int64_int64 at hm
  refine enterE (N := 8) Try.func134 (by rfl) Try.ntmps134 (by simp) [(0, .slice A0 (l0).length cap0)] (by rfl) (by kernel_rfl) (fun a => ?_)
  refine cW_seq ?_
  refine cW_region ?_
  refine wS_pure 1 [(2, .slice none 0 0)] (by kernel_rfl) ?_
  refine wS_end (by rfl) ?_
  refine eX_then ?_
  refine cW_seq ?_
  refine cW_seq ?_
  refine cW_region ?_
  refine wS_pure 1 [(3, .slice A0 (l0).length cap0)] (by kernel_rfl) ?_
  rcases A0 with _ | ad2
  · have hl3 := F0.none_nil
    subst hl3
    replace hm : (some ([])) = some _ := Eq.trans (by kernel_rfl) hm
    refine wS_pure 1 [(4, .bool (true))] (by kernel_rfl) ?_
    refine wS_end (by rfl) ?_
    refine eX_then ?_
    refine cW_cond_t (by kernel_rfl) ?_
    refine cW_seq ?_
    refine cW_region ?_
    refine wS_pure 1 [(2, .slice none 0 0)] (by kernel_rfl) ?_
    refine wS_end (by rfl) ?_
    refine eX_then ?_
    refine cW_ret ?_
    refine eX_then_ret ?_
    have hq : (some ([]) : Option ((List (Int)))) = some _ := hm
    replace hq := someE hq
    subst hq
    refine eX_ret (vs := [.slice none 0 0]) [.tmp 2] (by rfl) ⟨by (show lkE _ _ _ = _); kernel_rfl, trivial⟩ ?_
    exact ⟨none, 0, [], rfl, Ow.nil _, lowNil, hB⟩
  · skip
    refine wS_pure 1 [(4, .bool (false))] (by kernel_rfl) ?_
    refine wS_end (by rfl) ?_
    refine eX_then ?_
    refine cW_cond_f (by kernel_rfl) ?_
    refine cW_skip ?_
    refine eX_then ?_
    refine cW_seq ?_
    refine cW_region ?_
    refine wS_bs0 (α := Int) (enc := encI) (d := 5) (t := 78) (T := 2) (by kernel_rfl) el78 ?_
    intro b4 w5 G6 F7 hc8
    replace F0 := F0.chg hc8 Dj.nil
    replace hB := hB.inS hc8 inNil
    replace G6 := Nat.le_trans hZ G6
    replace G6 := low1 G6
    replace hZ := Nat.le_trans hZ hc8.size
    refine wS_pure 1 [(6, .slice (some ad2) (l0).length cap0)] (by kernel_rfl) ?_
    obtain ⟨_, hk10, hm⟩ := bindE hm
    replace hk10 := apE hk10
    refine wS_appendAny (enc := encI) (l := (([] : List (Int)) : List (Int))) (l2 := (l0 : List (Int))) (d := 7) (t := 78) (T := 2) (A := (some ⟨b4, 0, none⟩)) (A2 := (some ad2)) (cap := 0) (cap2 := cap0) (by kernel_rfl) el78 encI_ok F7 F0 hk10 ?_
    intro w11 fp12 A13 cap14 F15 hc16 hp17
    have G19 := low_ap G6 hZ hp17
    replace F0 := F0.chg hc16 (Dj.of L0 G6)
    replace hB := hB.inS hc16 (inLow G6)
    replace hZ := Nat.le_trans hZ hc16.size
    refine wS_pure 1 [(2, .slice A13 ((([] : List (Int))) ++ l0).length cap14)] (by kernel_rfl) ?_
    refine wS_end (by rfl) ?_
    refine eX_then ?_
    refine cW_ret ?_
    have hq : (some ((([] : List (Int))) ++ l0) : Option ((List (Int)))) = some _ := hm
    replace hq := someE hq
    subst hq
    refine eX_ret (vs := [.slice A13 ((([] : List (Int))) ++ l0).length cap14]) [.tmp 2] (by rfl) ⟨by (show lkE _ _ _ = _); kernel_rfl, trivial⟩ ?_
    exact ⟨A13, cap14, fp12, rfl, F15, G19, hB⟩

set_option maxRecDepth 100000 in
/-- impl.steiner -/
theorem c_impl_steiner {w0 : World} {l0 : List (Int × Int)} {A0 : Option Addr} {cap0 : Nat} {fp0 : List Nat} {r : (Int)} (hm : m_impl_steiner l0 = some r) (F0 : Sl 2 encII w0 fp0 A0 l0) :
    Calls Try.prog 102 #[.slice A0 (l0).length cap0] w0 fun e w' => e = .returned (.int .i64 (r)) ∧ Chg [] w0 w' := by
  have L0 := F0.low
  have hB : Chg [] w0 w0 := Chg.refl _ _
  have hZ := Nat.le_refl w0.heap.size
  unfold m_impl_steiner at hm
  refine enterE (N := 152) Try.func102 (by rfl) Try.ntmps102 (by simp) [(0, .slice A0 (l0).length cap0)] (by rfl) (by kernel_rfl) (fun a => ?_)
  refine cW_seq ?_
  refine cW_region ?_
  refine wS_pure 1 [(2, .int .i64 (0))] (by kernel_rfl) ?_
  refine wS_end (by rfl) ?_
  refine eX_then ?_
  refine cW_seq ?_
  refine cW_region ?_
  refine wS_pure 1 [(17, .slice A0 (l0).length cap0)] (by kernel_rfl) ?_
  obtain ⟨y2, hy3, hm⟩ := bindE hm
  refine wS_calls (d := 18) (f := 89) (vs := [.slice A0 (l0).length cap0]) (by kernel_rfl) ent89 (c_impl_hanan hy3 F0) ?_
  rintro _ w4 ⟨A6, cap7, fp8, rfl, F9, G10, hc5⟩
  replace F0 := F0.chg hc5 Dj.nil
  replace hB := hB.inS hc5 inNil
  replace G10 := low_le hZ G10
  replace hZ := Nat.le_trans hZ hc5.size
  refine ⟨.slice A6 (y2).length cap7, rfl, ?_⟩
  refine wS_pure 5 [(4, .int .i64 (wr ((((l0).length : Int)) - 1))), (3, .slice A6 (y2).length cap7), (21, .int .i64 (wr ((((l0).length : Int)) - 1))), (20, .int .i64 (((l0).length : Int))), (19, .slice A0 (l0).length cap0)] (by kernel_rfl) ?_
  refine wS_end (by rfl) ?_
  refine eX_then ?_
  refine cW_seq ?_
  refine cW_seq ?_
  refine cW_region ?_
  refine wS_pure 2 [(23, .bool ((wr ((((l0).length : Int)) - 1)) == 0)), (22, .int .i64 (wr ((((l0).length : Int)) - 1)))] (by kernel_rfl) ?_
  refine wS_end (by rfl) ?_
  refine eX_then ?_
  refine cW_cond (t := (wr ((((l0).length : Int)) - 1)) == 0) (by kernel_rfl) (fun hb13 => ?_) (fun hb13 => ?_)
  · have hm := condT hb13 hm
    refine cW_seq ?_
    refine cW_region ?_
    refine wS_pure 1 [(2, .int .i64 (0))] (by kernel_rfl) ?_
    refine wS_end (by rfl) ?_
    refine eX_then ?_
    refine cW_ret ?_
    refine eX_then_ret ?_
    have hq : (some 0 : Option ((Int))) = some _ := hm
    replace hq := someE hq
    subst hq
    refine eX_ret (vs := [.int .i64 (0)]) [.tmp 2] (by rfl) ⟨by (show lkE _ _ _ = _); kernel_rfl, trivial⟩ ?_
    exact ⟨rfl, hB⟩
  · have hm := condF hb13 hm
    refine cW_skip ?_
    refine eX_then ?_
    refine cW_seq ?_
    refine cW_region ?_
    refine wS_pure 1 [(24, .int .i64 (wr ((((l0).length : Int)) - 1)))] (by kernel_rfl) ?_
    obtain ⟨u14, hu15, hm⟩ := bindE hm
    refine wS_shl (d := 25) (x := 1) (y := wr ((((l0).length : Int)) - 1)) (yk := .i64) (by kernel_rfl) (p0E hu15) ?_
    obtain ⟨_, hk16, hm⟩ := bindE hm
    replace hk16 := mkE hk16
    refine wS_makeR (T2 := 2) (k := 1) (enc := encI) (d := 26) (t := 47) (T := 78) (k1 := .i64) (k2 := .i64) (m := shlI 1 (wr ((((l0).length : Int)) - 1))) (by kernel_rfl) el47 hk16.1 hk16.2 ?_
    intro b17 w18 G19 F20 hc21
    have D23 : Dj fp8 ([b17] ++ []) := Dj.of F9.low (lowApp (low1 G19) lowNil)
    replace F0 := F0.chg hc21 Dj.nil
    replace F9 := F9.chg hc21 Dj.nil
    replace hB := hB.inS hc21 inNil
    replace G19 := Nat.le_trans hZ G19
    replace G19 := low1 G19
    replace hZ := Nat.le_trans hZ hc21.size
    replace G19 := lowApp G19 lowNil
    refine wS_pure 1 [(5, .slice (some ⟨b17, 0, none⟩) (List.replicate (Int.toNat (shlI 1 (wr ((((l0).length : Int)) - 1)))) ([] : List (Int))).length (Int.toNat (shlI 1 (wr ((((l0).length : Int)) - 1)))))] (by kernel_rfl) ?_
    refine wS_end (by rfl) ?_
    refine eX_then ?_
    refine cW_seq ?_
    refine cW_seq ?_
    refine cW_region ?_
    refine wS_pure 1 [(6, .int .i64 (1))] (by kernel_rfl) ?_
    refine wS_end (by rfl) ?_
    refine eX_then ?_
    obtain ⟨r5260, hr5261, hm⟩ := bindE hm
    have hm5262 := hm
    refine cW_cut (fun a' w' => ∃ l5234 : List (List (Int)), ∃ A5235 : Option Addr, ∃ cap5236 : Nat, ∃ fp5237 : List Nat, ∃ fr5239 : List Nat, l5234 = r5260 ∧ Fr 152 [(0, .slice A0 (l0).length cap0), (3, .slice A6 (y2).length cap7), (4, .int .i64 (wr ((((l0).length : Int)) - 1))), (5, .slice A5235 (l5234).length cap5236)] a' ∧ Sl 2 encII w' fp0 A0 l0 ∧ Ow 2 encII 34 w' fp8 A6 cap7 y2 ∧ OwR 1 encI 78 2 w' fp5237 fr5239 A5235 cap5236 l5234 ∧ (∀ x ∈ (fp5237 ++ fr5239), w0.heap.size ≤ x) ∧ Dj fp8 (fp5237 ++ fr5239) ∧ Chg [] w0 w' ∧ w0.heap.size ≤ w'.heap.size) ?_ ?_
    · refine cW_block ?_
      refine cW_loop _ (fun (s5263 : (List (List (Int))) × Int) a' w' => ∃ l5247 : List (List (Int)), ∃ A5248 : Option Addr, ∃ cap5249 : Nat, ∃ fp5250 : List Nat, ∃ fr5252 : List Nat, ∃ x5253 : Int, (l5247, x5253) = s5263 ∧ Fr 152 [(0, .slice A0 (l0).length cap0), (3, .slice A6 (y2).length cap7), (4, .int .i64 (wr ((((l0).length : Int)) - 1))), (5, .slice A5248 (l5247).length cap5249), (6, .int .i64 (x5253))] a' ∧ Sl 2 encII w' fp0 A0 l0 ∧ Ow 2 encII 34 w' fp8 A6 cap7 y2 ∧ OwR 1 encI 78 2 w' fp5250 fr5252 A5248 cap5249 l5247 ∧ (∀ x ∈ (fp5250 ++ fr5252), w0.heap.size ≤ x) ∧ Dj fp8 (fp5250 ++ fr5252) ∧ Chg [] w0 w' ∧ w0.heap.size ≤ w'.heap.size) hr5261 (fun hst => ⟨List.replicate (Int.toNat (shlI 1 (wr ((((l0).length : Int)) - 1)))) ([] : List (Int)), (some ⟨b17, 0, none⟩), (Int.toNat (shlI 1 (wr ((((l0).length : Int)) - 1)))), [b17], [], 1, rfl, Fr.of hst (by kernel_rfl), F0, F9, F20, G19, D23, hB, hZ⟩) ?_
      rintro _ c5264 a' w5246 ⟨l5247, A5248, cap5249, fp5250, fr5252, x5253, rfl, hF5254, F5255, F5256, F5257, G5258, D5259, hB, hZ⟩ hx5265
      refine Fr.goOn hF5254 (by kernel_rfl) ?_
      have hm := hx5265
      unfold m_impl_steiner_s23 at hm
      refine cW_seq ?_
      refine cW_seq ?_
      refine cW_region ?_
      refine wS_pure 2 [(28, .int .i64 (wr ((((l0).length : Int)) - 1))), (27, .int .i64 (x5253))] (by kernel_rfl) ?_
      obtain ⟨u5266, hu5267, hm⟩ := bindE hm
      refine wS_shl (d := 29) (x := 1) (y := wr ((((l0).length : Int)) - 1)) (yk := .i64) (by kernel_rfl) (p0E hu5267) ?_
      refine wS_pure 1 [(30, .bool (decide (x5253 < (shlI 1 (wr ((((l0).length : Int)) - 1))))))] (by kernel_rfl) ?_
      refine wS_end (by rfl) ?_
      refine eX_then ?_
      refine cW_cond (t := decide (x5253 < (shlI 1 (wr ((((l0).length : Int)) - 1))))) (by kernel_rfl) (fun hb5268 => ?_) (fun hb5268 => ?_)
      · have hm := condT hb5268 hm
        refine cW_skip ?_
        refine eX_then ?_
        refine cW_seq ?_
        refine cW_block ?_
        refine cW_seq ?_
        refine cW_region ?_
        refine wS_pure 2 [(34, .int .i64 (((y2).length : Int))), (33, .slice A6 (y2).length cap7)] (by kernel_rfl) ?_
        obtain ⟨_, hk5269, hm⟩ := bindE hm
        replace hk5269 := mkE hk5269
        refine wS_make (enc := encI) (x0 := (0 : Int)) (d := 35) (t := 78) (T := 2) (k1 := .i64) (k2 := .i64) (m := ((y2).length : Int)) (by kernel_rfl) el78 encI_ok (by rfl) hk5269.1 hk5269.2 ?_
        intro b5270 w5271 G5272 F5273 hc5274
        have D5276 : Dj fp8 [b5270] := Dj.of F5256.low (low1 G5272)
        have D5277 : Dj (fp5250 ++ fr5252) [b5270] := Dj.of F5257.low (low1 G5272)
        replace F5255 := F5255.chg hc5274 Dj.nil
        replace F5256 := F5256.chg hc5274 Dj.nil
        replace F5257 := F5257.chg hc5274 Dj.nil
        replace hB := hB.inS hc5274 inNil
        replace G5272 := Nat.le_trans hZ G5272
        replace G5272 := low1 G5272
        replace hZ := Nat.le_trans hZ hc5274.size
        refine wS_pure 1 [(7, .slice (some ⟨b5270, 0, none⟩) (List.replicate (Int.toNat (((y2).length : Int))) ((0 : Int))).length (Int.toNat (((y2).length : Int))))] (by kernel_rfl) ?_
        refine wS_end (by rfl) ?_
        refine eX_then ?_
        refine cW_seq ?_
        refine cW_seq ?_
        refine cW_region ?_
        refine wS_pure 3 [(38, .int .i64 (0)), (37, .int .i64 (((y2).length : Int))), (36, .slice A6 (y2).length cap7)] (by kernel_rfl) ?_
        refine wS_end (by rfl) ?_
        refine eX_then ?_
        obtain ⟨r6477, hr6478, hm⟩ := bindE hm
        have hm6479 := hm
        refine cW_cut (fun a' w' => ∃ l6463 : List (Int), l6463 = r6477 ∧ Fr 152 [(0, .slice A0 (l0).length cap0), (3, .slice A6 (y2).length cap7), (4, .int .i64 (wr ((((l0).length : Int)) - 1))), (5, .slice A5248 (l5247).length cap5249), (6, .int .i64 (x5253)), (7, .slice (some ⟨b5270, 0, none⟩) (l6463).length (Int.toNat (((y2).length : Int))))] a' ∧ Sl 2 encII w' fp0 A0 l0 ∧ Ow 2 encII 34 w' fp8 A6 cap7 y2 ∧ OwR 1 encI 78 2 w' fp5250 fr5252 A5248 cap5249 l5247 ∧ Ow 1 encI 2 w' [b5270] (some ⟨b5270, 0, none⟩) (Int.toNat (((y2).length : Int))) l6463 ∧ Chg [] w0 w' ∧ w0.heap.size ≤ w'.heap.size) ?_ ?_
        · refine cW_block ?_
          refine cW_loop _ (fun (s6480 : Int × (List (Int))) a' w' => ∃ x6470 : Int, ∃ l6471 : List (Int), (x6470, l6471) = s6480 ∧ Fr 152 [(0, .slice A0 (l0).length cap0), (3, .slice A6 (y2).length cap7), (4, .int .i64 (wr ((((l0).length : Int)) - 1))), (5, .slice A5248 (l5247).length cap5249), (6, .int .i64 (x5253)), (7, .slice (some ⟨b5270, 0, none⟩) (l6471).length (Int.toNat (((y2).length : Int)))), (36, .slice A6 (y2).length cap7), (37, .int .i64 (((y2).length : Int))), (38, .int .i64 (x6470))] a' ∧ Sl 2 encII w' fp0 A0 l0 ∧ Ow 2 encII 34 w' fp8 A6 cap7 y2 ∧ OwR 1 encI 78 2 w' fp5250 fr5252 A5248 cap5249 l5247 ∧ Ow 1 encI 2 w' [b5270] (some ⟨b5270, 0, none⟩) (Int.toNat (((y2).length : Int))) l6471 ∧ Chg [] w0 w' ∧ w0.heap.size ≤ w'.heap.size) hr6478 (fun hst => ⟨0, List.replicate (Int.toNat (((y2).length : Int))) ((0 : Int)), rfl, Fr.of hst (by kernel_rfl), F5255, F5256, F5257, F5273, hB, hZ⟩) ?_
          rintro _ c6481 a' w6469 ⟨x6470, l6471, rfl, hF6472, F6473, F6474, F6475, F6476, hB, hZ⟩ hx6482
          refine Fr.goOn hF6472 (by kernel_rfl) ?_
          have hm := hx6482
          unfold m_impl_steiner_s28 at hm
          refine cW_seq ?_
          refine cW_region ?_
          refine wS_pure 1 [(39, .bool (decide (x6470 < (((y2).length : Int)))))] (by kernel_rfl) ?_
          refine wS_end (by rfl) ?_
          refine eX_then ?_
          refine cW_seq ?_
          refine cW_cond (t := decide (x6470 < (((y2).length : Int)))) (by kernel_rfl) (fun hb6483 => ?_) (fun hb6483 => ?_)
          · have hm := condT hb6483 hm
            refine cW_skip ?_
            refine eX_then ?_
            refine cW_seq ?_
            refine cW_block ?_
            refine cW_seq ?_
            refine cW_region ?_
            refine wS_pure 1 [(40, .int .i64 (x6470))] (by kernel_rfl) ?_
            obtain ⟨x6484, hx6485, hm⟩ := bindE hm
            refine wS_idx (d := 41) (T := 25) (A := A6) (n := (y2).length) (cap := cap7) (kd := .i64) (m := x6470) (by kernel_rfl) sl25 ((F6474.sl encII_ok).is hx6485) ?_
            refine wS_loadA (d := 42) (T := 34) (ad := (elA A6 2 (x6470) 0)) (vs := [.int .i64 (x6484.1), .int .i64 (x6484.2)]) (by kernel_rfl) vt34 (fun i u hu => Sl.cells_at (F6474.sl encII_ok) hx6485 0 hu (by rfl)) ?_
            refine wS_alloc (d := 9) (T := 34) (z := .agg #[.int .i64 (0), .int .i64 (0)]) (by kernel_rfl) (by kernel_rfl) ?_
            intro b6486 w6487 G6488 F6489 hc6490
            replace F6489 : Cl w6487 b6486 34 [.int .i64 (0), .int .i64 (0)] := F6489
            have D6492 : Dj fp8 [b6486] := Dj.of F6474.low (low1 G6488)
            have D6493 : Dj (fp5250 ++ fr5252) [b6486] := Dj.of F6475.low (low1 G6488)
            have D6494 : Dj [b5270] [b6486] := Dj.of F6476.low (low1 G6488)
            replace F6473 := F6473.chg hc6490 Dj.nil
            replace F6474 := F6474.chg hc6490 Dj.nil
            replace F6475 := F6475.chg hc6490 Dj.nil
            replace F6476 := F6476.chg hc6490 Dj.nil
            replace hB := hB.inS hc6490 inNil
            replace G6488 := Nat.le_trans hZ G6488
            replace hZ := Nat.le_trans hZ hc6490.size
            refine wS_pure 1 [(8, .int .i64 (x6470))] (by kernel_rfl) ?_
            refine wS_store (T := 34) (g := b6486) (o := 0) (ad := ⟨b6486, 0, none⟩) (v := .agg #[.int .i64 (x6484.1), .int .i64 (x6484.2)]) (vs := [.int .i64 (x6484.1), .int .i64 (x6484.2)]) (by kernel_rfl) (by rfl) sz34 (by rfl) (by rfl) F6489 (by simp only [List.length_cons, List.length_nil]; omega) ?_
            intro w6495 F6496 hc6497
            replace F6473 := F6473.chg hc6497 (Dj.of L0 (low1 G6488))
            replace F6474 := F6474.chg hc6497 D6492
            replace F6475 := F6475.chg hc6497 D6493
            replace F6476 := F6476.chg hc6497 D6494
            replace hB := hB.inS hc6497 (inLow (low1 G6488))
            replace hZ := Nat.le_trans hZ hc6497.size
            replace F6496 : Cl w6495 b6486 34 [.int .i64 (x6484.1), .int .i64 (x6484.2)] := F6496
            clear F6489
            refine wS_end (by rfl) ?_
            refine eX_then ?_
            refine cW_seq ?_
            refine cW_region ?_
            refine wS_pure 2 [(44, .int .i64 (x6470)), (43, .slice (some ⟨b5270, 0, none⟩) (l6471).length (Int.toNat (((y2).length : Int))))] (by kernel_rfl) ?_
            obtain ⟨x6498, hx6499, hm⟩ := bindE hm
            refine wS_idx (d := 45) (T := 78) (A := (some ⟨b5270, 0, none⟩)) (n := (l6471).length) (cap := (Int.toNat (((y2).length : Int)))) (kd := .i64) (m := x6470) (by kernel_rfl) sl78 ((F6476.sl encI_ok).is hx6499) ?_
            refine wS_storeEl (x := x6498) 1000000000 (T := 2) (U := 2) (cap := (Int.toNat (((y2).length : Int)))) (j := 0) (A := (some ⟨b5270, 0, none⟩)) (v := .int .i64 (1000000000)) (vs := [.int .i64 (1000000000)]) (m := x6470) (by kernel_rfl) (by rfl) sz2 (by rfl) encI_ok F6476 hx6499 (by simp only [List.length_cons, List.length_nil]; omega) (by rfl) ?_
            intro w6500 F6501 hc6502
            replace F6473 := F6473.chg hc6502 (Dj.of L0 G5272)
            replace F6474 := F6474.chg hc6502 D5276
            replace F6475 := F6475.chg hc6502 D5277
            replace F6496 := F6496.chg hc6502 (dj1 (D6494).symm)
            replace hB := hB.inS hc6502 (inLow G5272)
            replace hZ := Nat.le_trans hZ hc6502.size
            clear F6476
            rewrite [show (l6471).length = (l6471.set (Int.toNat x6470) 1000000000).length from (List.length_set ..).symm]
            refine wS_end (by rfl) ?_
            refine eX_then ?_
            refine cW_seq ?_
            refine cW_seq ?_
            refine cW_region ?_
            refine wS_pure 2 [(47, .int .i64 (0)), (46, .int .i64 (wr ((((l0).length : Int)) - 1)))] (by kernel_rfl) ?_
            refine wS_end (by rfl) ?_
            refine eX_then ?_
            obtain ⟨r6711, hr6712, hm⟩ := bindE hm
            have hm6713 := hm
            refine cW_cut (fun a' w' => ∃ l6696 : List (Int), l6696 = r6711 ∧ Fr 152 [(0, .slice A0 (l0).length cap0), (3, .slice A6 (y2).length cap7), (4, .int .i64 (wr ((((l0).length : Int)) - 1))), (5, .slice A5248 (l5247).length cap5249), (6, .int .i64 (x5253)), (7, .slice (some ⟨b5270, 0, none⟩) (l6696).length (Int.toNat (((y2).length : Int)))), (8, .int .i64 (x6470)), (36, .slice A6 (y2).length cap7), (37, .int .i64 (((y2).length : Int))), (38, .int .i64 (x6470))] a' ∧ Sl 2 encII w' fp0 A0 l0 ∧ Ow 2 encII 34 w' fp8 A6 cap7 y2 ∧ OwR 1 encI 78 2 w' fp5250 fr5252 A5248 cap5249 l5247 ∧ Ow 1 encI 2 w' [b5270] (some ⟨b5270, 0, none⟩) (Int.toNat (((y2).length : Int))) l6696 ∧ Chg [] w0 w' ∧ w0.heap.size ≤ w'.heap.size) ?_ ?_
            · refine cW_block ?_
              refine cW_loop _ (fun (s6714 : Int × (List (Int))) a' w' => ∃ x6703 : Int, ∃ l6704 : List (Int), (x6703, l6704) = s6714 ∧ Fr 152 [(0, .slice A0 (l0).length cap0), (3, .slice A6 (y2).length cap7), (4, .int .i64 (wr ((((l0).length : Int)) - 1))), (5, .slice A5248 (l5247).length cap5249), (6, .int .i64 (x5253)), (7, .slice (some ⟨b5270, 0, none⟩) (l6704).length (Int.toNat (((y2).length : Int)))), (8, .int .i64 (x6470)), (9, .pointer (some ⟨b6486, 0, none⟩)), (36, .slice A6 (y2).length cap7), (37, .int .i64 (((y2).length : Int))), (38, .int .i64 (x6470)), (46, .int .i64 (wr ((((l0).length : Int)) - 1))), (47, .int .i64 (x6703))] a' ∧ Sl 2 encII w' fp0 A0 l0 ∧ Ow 2 encII 34 w' fp8 A6 cap7 y2 ∧ OwR 1 encI 78 2 w' fp5250 fr5252 A5248 cap5249 l5247 ∧ Ow 1 encI 2 w' [b5270] (some ⟨b5270, 0, none⟩) (Int.toNat (((y2).length : Int))) l6704 ∧ Cl w' b6486 34 [.int .i64 (x6484.1), .int .i64 (x6484.2)] ∧ Chg [] w0 w' ∧ w0.heap.size ≤ w'.heap.size) hr6712 (fun hst => ⟨0, l6471.set (Int.toNat x6470) 1000000000, rfl, Fr.of hst (by kernel_rfl), F6473, F6474, F6475, F6501, F6496, hB, hZ⟩) ?_
              rintro _ c6715 a' w6702 ⟨x6703, l6704, rfl, hF6705, F6706, F6707, F6708, F6709, F6710, hB, hZ⟩ hx6716
              refine Fr.goOn hF6705 (by kernel_rfl) ?_
              have hm := hx6716
              unfold m_impl_steiner_s29 at hm
              refine cW_seq ?_
              refine cW_region ?_
              refine wS_pure 1 [(48, .bool (decide (x6703 < (wr ((((l0).length : Int)) - 1)))))] (by kernel_rfl) ?_
              refine wS_end (by rfl) ?_
              refine eX_then ?_
              refine cW_seq ?_
              refine cW_cond (t := decide (x6703 < (wr ((((l0).length : Int)) - 1)))) (by kernel_rfl) (fun hb6717 => ?_) (fun hb6717 => ?_)
              · have hm := condT hb6717 hm
                refine cW_skip ?_
                refine eX_then ?_
                refine cW_seq ?_
                refine cW_block ?_
                obtain ⟨s6765, hs6766, hm⟩ := bindE hm
                refine cW_cut (fun a' w' => ∃ l6758 : List (Int), l6758 = s6765 ∧ Fr 152 [(0, .slice A0 (l0).length cap0), (3, .slice A6 (y2).length cap7), (4, .int .i64 (wr ((((l0).length : Int)) - 1))), (5, .slice A5248 (l5247).length cap5249), (6, .int .i64 (x5253)), (7, .slice (some ⟨b5270, 0, none⟩) (l6758).length (Int.toNat (((y2).length : Int)))), (8, .int .i64 (x6470)), (9, .pointer (some ⟨b6486, 0, none⟩)), (36, .slice A6 (y2).length cap7), (37, .int .i64 (((y2).length : Int))), (38, .int .i64 (x6470)), (46, .int .i64 (wr ((((l0).length : Int)) - 1))), (47, .int .i64 (x6703))] a' ∧ Sl 2 encII w' fp0 A0 l0 ∧ Ow 2 encII 34 w' fp8 A6 cap7 y2 ∧ OwR 1 encI 78 2 w' fp5250 fr5252 A5248 cap5249 l5247 ∧ Ow 1 encI 2 w' [b5270] (some ⟨b5270, 0, none⟩) (Int.toNat (((y2).length : Int))) l6758 ∧ Cl w' b6486 34 [.int .i64 (x6484.1), .int .i64 (x6484.2)] ∧ Chg [] w0 w' ∧ w0.heap.size ≤ w'.heap.size) ?_ ?_
                · have hm := hs6766
                  refine cW_seq ?_
                  refine cW_region ?_
                  refine wS_pure 2 [(10, .int .i64 (x6703)), (49, .int .i64 (x6703))] (by kernel_rfl) ?_
                  refine wS_end (by rfl) ?_
                  refine eX_then ?_
                  refine cW_seq ?_
                  refine cW_region ?_
                  refine wS_pure 2 [(51, .int .i64 (x6703)), (50, .int .i64 (x5253))] (by kernel_rfl) ?_
                  obtain ⟨u6767, hu6768, hm⟩ := bindE hm
                  refine wS_shl (d := 52) (x := 1) (y := x6703) (yk := .i64) (by kernel_rfl) (p0E hu6768) ?_
                  refine wS_pure 1 [(53, .bool (x5253 == (shlI 1 x6703)))] (by kernel_rfl) ?_
                  refine wS_end (by rfl) ?_
                  refine eX_then ?_
                  refine cW_cond (t := x5253 == (shlI 1 x6703)) (by kernel_rfl) (fun hb6769 => ?_) (fun hb6769 => ?_)
                  · have hm := condT hb6769 hm
                    refine cW_drawnTail [] 8 (by kernel_rfl) (by kernel_rfl) (fun w6788 hc6789 => ?_)
                    replace F6706 := F6706.chg hc6789 Dj.nil
                    replace F6707 := F6707.chg hc6789 Dj.nil
                    replace F6708 := F6708.chg hc6789 Dj.nil
                    replace F6709 := F6709.chg hc6789 Dj.nil
                    replace F6710 := F6710.chg hc6789 notNil
                    replace hB := hB.inS hc6789 inNil
                    replace hZ := Nat.le_trans hZ hc6789.size
                    have hS := Chg.refl [] w6788
                    have Z6790 := F6706
                    have Z6791 := F6707
                    have Z6792 := F6708
                    have Z6793 := F6709
                    have Z6794 := F6710
                    refine wH_take [0, 1] [1, 0] [(55, .int .i64 (x6470)), (54, .slice (some ⟨b5270, 0, none⟩) (l6704).length (Int.toNat (((y2).length : Int))))] (by kernel_rfl) (qT (qT (qB (qT (qL (qB (qT (qT (qB (qT (qL (qB (qT (qT (qB (qT (qL (qB (qT (qT qZ)))))))))))))))))))) (by kernel_rfl) ?_
                    refine wH_loadA (i := 2) (d := 56) (T := 34) (ad := ⟨b6486, 0, none⟩) (vs := [.int .i64 (x6484.1), .int .i64 (x6484.2)]) (by kernel_rfl) (qT (qT (qB (qT (qL (qB (qT (qT (qB (qT (qL (qB (qT (qT (qB (qT (qL (qB (qT (qT qZ)))))))))))))))))))) (by kernel_rfl) (by kernel_rfl) vt34 (fun W hW i u hu => box_cells (Z6794.chg hW notNil) 0 hu (by rfl)) ?_
                    refine wH_take [3, 4] [4, 3, 2, 1, 0] [(58, .int .i64 (x6703)), (57, .slice A0 (l0).length cap0)] (by kernel_rfl) (qT (qT (qB (qT (qL (qB (qT (qT (qB (qT (qL (qB (qT (qT (qB (qT (qL (qB (qT (qT qZ)))))))))))))))))))) (by kernel_rfl) ?_
                    obtain ⟨x6795, hx6796, hm⟩ := bindE hm
                    refine wH_idx (i := 5) (d := 59) (T := 25) (A := A0) (n := (l0).length) (cap := cap0) (kd := .i64) (m := x6703) (by kernel_rfl) (qT (qT (qB (qT (qL (qB (qT (qT (qB (qT (qL (qB (qT (qT (qB (qT (qL (qB (qT (qT qZ)))))))))))))))))))) (by kernel_rfl) (by kernel_rfl) sl25 (F6706.is hx6796) ?_
                    refine wH_loadA (i := 6) (d := 60) (T := 34) (ad := (elA A0 2 (x6703) 0)) (vs := [.int .i64 (x6795.1), .int .i64 (x6795.2)]) (by kernel_rfl) (qT (qT (qB (qT (qL (qB (qT (qT (qB (qT (qL (qB (qT (qT (qB (qT (qL (qB (qT (qT qZ)))))))))))))))))))) (by kernel_rfl) (by kernel_rfl) vt34 (fun W hW i u hu => Sl.cells_at (Z6790.chg hW Dj.nil) hx6796 0 hu (by rfl)) ?_
                    refine wH_all [7] (by rfl) (by kernel_rfl) (by simp) ⟨⟨by kernel_rfl, ?_⟩, trivial⟩
                    obtain ⟨y6797, hy6798, hm⟩ := bindE hm
                    refine wS_calls (d := 61) (f := 73) (vs := [.agg #[.int .i64 (x6484.1), .int .i64 (x6484.2)], .agg #[.int .i64 (x6795.1), .int .i64 (x6795.2)]]) (by kernel_rfl) ent73 (c_impl_far hy6798) ?_
                    rintro _ w6799 ⟨rfl, hc6800⟩
                    replace F6706 := F6706.chg hc6800 Dj.nil
                    replace F6707 := F6707.chg hc6800 Dj.nil
                    replace F6708 := F6708.chg hc6800 Dj.nil
                    replace F6709 := F6709.chg hc6800 Dj.nil
                    replace F6710 := F6710.chg hc6800 notNil
                    replace hB := hB.inS hc6800 inNil
                    have hSz := hS
                    replace hS := hS.inS hc6800 inNil
                    replace hZ := Nat.le_trans hZ hc6800.size
                    refine ⟨.int .i64 (y6797), rfl, ?_⟩
                    refine wS_end (by kernel_rfl) ?_
                    refine eX_KH hS ?_
                    refine wH_done (by kernel_rfl) ?_
                    refine eX_tail ?_
                    obtain ⟨x6801, hx6802, hm⟩ := bindE hm
                    refine wS_idx (d := 62) (T := 78) (A := (some ⟨b5270, 0, none⟩)) (n := (l6704).length) (cap := (Int.toNat (((y2).length : Int)))) (kd := .i64) (m := x6470) (by kernel_rfl) sl78 ((F6709.sl encI_ok).is hx6802) ?_
                    refine wS_storeEl (x := x6801) y6797 (T := 2) (U := 2) (cap := (Int.toNat (((y2).length : Int)))) (j := 0) (A := (some ⟨b5270, 0, none⟩)) (v := .int .i64 (y6797)) (vs := [.int .i64 (y6797)]) (m := x6470) (by kernel_rfl) (by rfl) sz2 (by rfl) encI_ok F6709 hx6802 (by simp only [List.length_cons, List.length_nil]; omega) (by rfl) ?_
                    intro w6803 F6804 hc6805
                    replace F6706 := F6706.chg hc6805 (Dj.of L0 G5272)
                    replace F6707 := F6707.chg hc6805 D5276
                    replace F6708 := F6708.chg hc6805 D5277
                    replace F6710 := F6710.chg hc6805 (dj1 (D6494).symm)
                    replace hB := hB.inS hc6805 (inLow G5272)
                    replace hZ := Nat.le_trans hZ hc6805.size
                    clear F6709
                    rewrite [show (l6704).length = (l6704.set (Int.toNat x6470) y6797).length from (List.length_set ..).symm]
                    refine wS_end (by rfl) ?_
                    have hq : (some (l6704.set (Int.toNat x6470) y6797) : Option ((List (Int)))) = some _ := hm
                    replace hq := someE hq
                    subst hq
                    exact eX_J (fun hst => ⟨l6704.set (Int.toNat x6470) y6797, rfl, Fr.of hst (by kernel_rfl), F6706, F6707, F6708, F6804, F6710, hB, hZ⟩)
                  · have hm := condF hb6769 hm
                    refine cW_skip ?_
                    have hq : (some l6704 : Option ((List (Int)))) = some _ := hm
                    replace hq := someE hq
                    subst hq
                    exact eX_J (fun hst => ⟨l6704, rfl, Fr.of hst (by kernel_rfl), F6706, F6707, F6708, F6709, F6710, hB, hZ⟩)
                · rintro a' w6757 ⟨l6758, hJ, hF6759, F6760, F6761, F6762, F6763, F6764, hB, hZ⟩
                  subst hJ
                  refine Fr.goX hF6759 (by kernel_rfl) ?_
                  refine eX_block ?_
                  refine eX_then ?_
                  refine cW_region ?_
                  refine wS_pure 2 [(47, .int .i64 (wr (x6703 + 1))), (63, .int .i64 (wr (x6703 + 1)))] (by kernel_rfl) ?_
                  refine wS_end (by rfl) ?_
                  have hq : (some (Ctl.next ((wr (x6703 + 1), l6758))) : Option (Ctl (Int × (List (Int))) ((List (Int))))) = some _ := hm
                  replace hq := someE hq
                  subst hq
                  exact eX_next hx6716 (fun hst => ⟨wr (x6703 + 1), l6758, rfl, Fr.of hst (by kernel_rfl), F6760, F6761, F6762, F6763, F6764, hB, hZ⟩)
              · have hm := condF hb6717 hm
                refine cW_exit ?_
                refine eX_then_exit ?_
                have hq : (some (Ctl.out l6704) : Option (Ctl (Int × (List (Int))) ((List (Int))))) = some _ := hm
                replace hq := someE hq
                subst hq
                refine eX_outX hx6716 (fun hr6806 => ?_)
                replace hr6806 := hr6806.symm
                subst hr6806
                refine eX_block_hit ?_
                exact eX_J (fun hst => ⟨l6704, rfl, Fr.of hst (by kernel_rfl), F6706, F6707, F6708, F6709, hB, hZ⟩)
            · rintro a' w6695 ⟨l6696, hJ, hF6697, F6698, F6699, F6700, F6701, hB, hZ⟩
              subst hJ
              refine Fr.goX hF6697 (by kernel_rfl) ?_
              refine eX_then ?_
              refine cW_seq ?_
              refine cW_region ?_
              refine wS_pure 5 [(11, .int .i64 (andI (wr (x5253 - 1)) x5253)), (67, .int .i64 (andI (wr (x5253 - 1)) x5253)), (66, .int .i64 (x5253)), (65, .int .i64 (wr (x5253 - 1))), (64, .int .i64 (x5253))] (by kernel_rfl) ?_
              refine wS_end (by rfl) ?_
              refine eX_then ?_
              obtain ⟨r6986, hr6987, hm⟩ := bindE hm
              have hm6988 := hm
              refine cW_cut (fun a' w' => ∃ l6972 : List (Int), l6972 = r6986 ∧ Fr 152 [(0, .slice A0 (l0).length cap0), (3, .slice A6 (y2).length cap7), (4, .int .i64 (wr ((((l0).length : Int)) - 1))), (5, .slice A5248 (l5247).length cap5249), (6, .int .i64 (x5253)), (7, .slice (some ⟨b5270, 0, none⟩) (l6972).length (Int.toNat (((y2).length : Int)))), (36, .slice A6 (y2).length cap7), (37, .int .i64 (((y2).length : Int))), (38, .int .i64 (x6470))] a' ∧ Sl 2 encII w' fp0 A0 l0 ∧ Ow 2 encII 34 w' fp8 A6 cap7 y2 ∧ OwR 1 encI 78 2 w' fp5250 fr5252 A5248 cap5249 l5247 ∧ Ow 1 encI 2 w' [b5270] (some ⟨b5270, 0, none⟩) (Int.toNat (((y2).length : Int))) l6972 ∧ Chg [] w0 w' ∧ w0.heap.size ≤ w'.heap.size) ?_ ?_
              · refine cW_block ?_
                refine cW_loop _ (fun (s6989 : Int × (List (Int))) a' w' => ∃ x6979 : Int, ∃ l6980 : List (Int), (x6979, l6980) = s6989 ∧ Fr 152 [(0, .slice A0 (l0).length cap0), (3, .slice A6 (y2).length cap7), (4, .int .i64 (wr ((((l0).length : Int)) - 1))), (5, .slice A5248 (l5247).length cap5249), (6, .int .i64 (x5253)), (7, .slice (some ⟨b5270, 0, none⟩) (l6980).length (Int.toNat (((y2).length : Int)))), (8, .int .i64 (x6470)), (11, .int .i64 (x6979)), (36, .slice A6 (y2).length cap7), (37, .int .i64 (((y2).length : Int))), (38, .int .i64 (x6470))] a' ∧ Sl 2 encII w' fp0 A0 l0 ∧ Ow 2 encII 34 w' fp8 A6 cap7 y2 ∧ OwR 1 encI 78 2 w' fp5250 fr5252 A5248 cap5249 l5247 ∧ Ow 1 encI 2 w' [b5270] (some ⟨b5270, 0, none⟩) (Int.toNat (((y2).length : Int))) l6980 ∧ Chg [] w0 w' ∧ w0.heap.size ≤ w'.heap.size) hr6987 (fun hst => ⟨andI (wr (x5253 - 1)) x5253, l6696, rfl, Fr.of hst (by kernel_rfl), F6698, F6699, F6700, F6701, hB, hZ⟩) ?_
                rintro _ c6990 a' w6978 ⟨x6979, l6980, rfl, hF6981, F6982, F6983, F6984, F6985, hB, hZ⟩ hx6991
                refine Fr.goOn hF6981 (by kernel_rfl) ?_
                have hm := hx6991
                unfold m_impl_steiner_s30 at hm
                refine cW_seq ?_
                refine cW_seq ?_
                refine cW_region ?_
                refine wS_pure 2 [(69, .bool (decide (x6979 > 0))), (68, .int .i64 (x6979))] (by kernel_rfl) ?_
                refine wS_end (by rfl) ?_
                refine eX_then ?_
                refine cW_cond (t := decide (x6979 > 0)) (by kernel_rfl) (fun hb6992 => ?_) (fun hb6992 => ?_)
                · have hm := condT hb6992 hm
                  refine cW_skip ?_
                  refine eX_then ?_
                  refine cW_seq ?_
                  refine cW_block ?_
                  refine cW_drawnTail [] 24 (by kernel_rfl) (by kernel_rfl) (fun w7030 hc7031 => ?_)
                  replace F6982 := F6982.chg hc7031 Dj.nil
                  replace F6983 := F6983.chg hc7031 Dj.nil
                  replace F6984 := F6984.chg hc7031 Dj.nil
                  replace F6985 := F6985.chg hc7031 Dj.nil
                  replace hB := hB.inS hc7031 inNil
                  replace hZ := Nat.le_trans hZ hc7031.size
                  have hS := Chg.refl [] w7030
                  have Z7032 := F6982
                  have Z7033 := F6983
                  have Z7034 := F6984
                  have Z7035 := F6985
                  refine wH_take [0, 1, 2, 3] [3, 2, 1, 0] [(77, .int .i64 (x6470)), (76, .slice (some ⟨b5270, 0, none⟩) (l6980).length (Int.toNat (((y2).length : Int)))), (75, .int .i64 (x6470)), (74, .slice (some ⟨b5270, 0, none⟩) (l6980).length (Int.toNat (((y2).length : Int))))] (by kernel_rfl) (qT (qB (qT (qL (qB (qT (qB (qT (qL (qB (qT (qT (qB (qT (qL (qB (qT (qT qZ)))))))))))))))))) (by kernel_rfl) ?_
                  obtain ⟨x7036, hx7037, hm⟩ := bindE hm
                  refine wH_idx (i := 4) (d := 78) (T := 78) (A := (some ⟨b5270, 0, none⟩)) (n := (l6980).length) (cap := (Int.toNat (((y2).length : Int)))) (kd := .i64) (m := x6470) (by kernel_rfl) (qT (qB (qT (qL (qB (qT (qB (qT (qL (qB (qT (qT (qB (qT (qL (qB (qT (qT qZ)))))))))))))))))) (by kernel_rfl) (by kernel_rfl) sl78 ((F6985.sl encI_ok).is hx7037) ?_
                  refine wH_load1 (i := 5) (d := 79) (T := 2) (ad := (elA (some ⟨b5270, 0, none⟩) 1 (x6470) 0)) (v := .int .i64 (x7036)) (by kernel_rfl) (qT (qB (qT (qL (qB (qT (qB (qT (qL (qB (qT (qT (qB (qT (qL (qB (qT (qT qZ)))))))))))))))))) (by kernel_rfl) (by kernel_rfl) vt2 (fun W hW => Sl.cell ((Z7035.chg hW Dj.nil).sl encI_ok) hx7037 0 (by rfl)) ?_
                  refine wH_take [6, 7] [7, 6, 5, 4, 3, 2, 1, 0] [(81, .int .i64 (x6979)), (80, .slice A5248 (l5247).length cap5249)] (by kernel_rfl) (qT (qB (qT (qL (qB (qT (qB (qT (qL (qB (qT (qT (qB (qT (qL (qB (qT (qT qZ)))))))))))))))))) (by kernel_rfl) ?_
                  obtain ⟨x7038, hx7039, hm⟩ := bindE hm
                  refine wH_idx (i := 8) (d := 82) (T := 47) (A := A5248) (n := (l5247).length) (cap := cap5249) (kd := .i64) (m := x6979) (by kernel_rfl) (qT (qB (qT (qL (qB (qT (qB (qT (qL (qB (qT (qT (qB (qT (qL (qB (qT (qT qZ)))))))))))))))))) (by kernel_rfl) (by kernel_rfl) sl47 ((F6984.slr encI_ok).is hx7039) ?_
                  obtain ⟨A7040, cap7041, hc7043, F7042, K7044⟩ := OwR.row Z7034 encI_ok hx7039
                  have G7046 := low_inr G5258
                  have Dm7047 := (F6984.dj).symm
                  refine wH_load1 (i := 9) (d := 83) (T := 78) (ad := (elA A5248 1 (x6979) 0)) (v := .slice A7040 (x7038).length cap7041) (by kernel_rfl) (qT (qB (qT (qL (qB (qT (qB (qT (qL (qB (qT (qT (qB (qT (qL (qB (qT (qT qZ)))))))))))))))))) (by kernel_rfl) (by kernel_rfl) vt78 (fun W hW => hW.keep hc7043) ?_
                  refine wH_take [10] [10, 9, 8, 7, 6, 5, 4, 3, 2, 1, 0] [(84, .int .i64 (x6470))] (by kernel_rfl) (qT (qB (qT (qL (qB (qT (qB (qT (qL (qB (qT (qT (qB (qT (qL (qB (qT (qT qZ)))))))))))))))))) (by kernel_rfl) ?_
                  obtain ⟨x7048, hx7049, hm⟩ := bindE hm
                  refine wH_idx (i := 11) (d := 85) (T := 78) (A := A7040) (n := (x7038).length) (cap := cap7041) (kd := .i64) (m := x6470) (by kernel_rfl) (qT (qB (qT (qL (qB (qT (qB (qT (qL (qB (qT (qT (qB (qT (qL (qB (qT (qT qZ)))))))))))))))))) (by kernel_rfl) (by kernel_rfl) sl78 (F7042.is hx7049) ?_
                  refine wH_load1 (i := 12) (d := 86) (T := 2) (ad := (elA A7040 1 (x6470) 0)) (v := .int .i64 (x7048)) (by kernel_rfl) (qT (qB (qT (qL (qB (qT (qB (qT (qL (qB (qT (qT (qB (qT (qL (qB (qT (qT qZ)))))))))))))))))) (by kernel_rfl) (by kernel_rfl) vt2 (fun W hW => Sl.cell (F7042.chg hW Dj.nil) hx7049 0 (by rfl)) ?_
                  refine wH_take [13, 14, 15, 16] [16, 15, 14, 13, 12, 11, 10, 9, 8, 7, 6, 5, 4, 3, 2, 1, 0] [(90, .int .i64 (andNI x5253 x6979)), (89, .int .i64 (x6979)), (88, .int .i64 (x5253)), (87, .slice A5248 (l5247).length cap5249)] (by kernel_rfl) (qT (qB (qT (qL (qB (qT (qB (qT (qL (qB (qT (qT (qB (qT (qL (qB (qT (qT qZ)))))))))))))))))) (by kernel_rfl) ?_
                  obtain ⟨x7050, hx7051, hm⟩ := bindE hm
                  refine wH_idx (i := 17) (d := 91) (T := 47) (A := A5248) (n := (l5247).length) (cap := cap5249) (kd := .i64) (m := andNI x5253 x6979) (by kernel_rfl) (qT (qB (qT (qL (qB (qT (qB (qT (qL (qB (qT (qT (qB (qT (qL (qB (qT (qT qZ)))))))))))))))))) (by kernel_rfl) (by kernel_rfl) sl47 ((F6984.slr encI_ok).is hx7051) ?_
                  obtain ⟨A7052, cap7053, hc7055, F7054, K7056⟩ := OwR.row Z7034 encI_ok hx7051
                  have G7058 := low_inr G5258
                  have Dm7059 := (F6984.dj).symm
                  refine wH_load1 (i := 18) (d := 92) (T := 78) (ad := (elA A5248 1 (andNI x5253 x6979) 0)) (v := .slice A7052 (x7050).length cap7053) (by kernel_rfl) (qT (qB (qT (qL (qB (qT (qB (qT (qL (qB (qT (qT (qB (qT (qL (qB (qT (qT qZ)))))))))))))))))) (by kernel_rfl) (by kernel_rfl) vt78 (fun W hW => hW.keep hc7055) ?_
                  refine wH_take [19] [19, 18, 17, 16, 15, 14, 13, 12, 11, 10, 9, 8, 7, 6, 5, 4, 3, 2, 1, 0] [(93, .int .i64 (x6470))] (by kernel_rfl) (qT (qB (qT (qL (qB (qT (qB (qT (qL (qB (qT (qT (qB (qT (qL (qB (qT (qT qZ)))))))))))))))))) (by kernel_rfl) ?_
                  obtain ⟨x7060, hx7061, hm⟩ := bindE hm
                  refine wH_idx (i := 20) (d := 94) (T := 78) (A := A7052) (n := (x7050).length) (cap := cap7053) (kd := .i64) (m := x6470) (by kernel_rfl) (qT (qB (qT (qL (qB (qT (qB (qT (qL (qB (qT (qT (qB (qT (qL (qB (qT (qT qZ)))))))))))))))))) (by kernel_rfl) (by kernel_rfl) sl78 (F7054.is hx7061) ?_
                  refine wH_load1 (i := 21) (d := 95) (T := 2) (ad := (elA A7052 1 (x6470) 0)) (v := .int .i64 (x7060)) (by kernel_rfl) (qT (qB (qT (qL (qB (qT (qB (qT (qL (qB (qT (qT (qB (qT (qL (qB (qT (qT qZ)))))))))))))))))) (by kernel_rfl) (by kernel_rfl) vt2 (fun W hW => Sl.cell (F7054.chg hW Dj.nil) hx7061 0 (by rfl)) ?_
                  refine wH_take [22, 23] [23, 22, 21, 20, 19, 18, 17, 16, 15, 14, 13, 12, 11, 10, 9, 8, 7, 6, 5, 4, 3, 2, 1, 0] [(97, .int .i64 (if (wr (x7048 + x7060)) < x7036 then (wr (x7048 + x7060)) else x7036)), (96, .int .i64 (wr (x7048 + x7060)))] (by kernel_rfl) (qT (qB (qT (qL (qB (qT (qB (qT (qL (qB (qT (qT (qB (qT (qL (qB (qT (qT qZ)))))))))))))))))) (by kernel_rfl) ?_
                  refine wH_done (by kernel_rfl) ?_
                  refine eX_tail ?_
                  obtain ⟨x7062, hx7063, hm⟩ := bindE hm
                  refine wS_idx (d := 98) (T := 78) (A := (some ⟨b5270, 0, none⟩)) (n := (l6980).length) (cap := (Int.toNat (((y2).length : Int)))) (kd := .i64) (m := x6470) (by kernel_rfl) sl78 ((F6985.sl encI_ok).is hx7063) ?_
                  refine wS_storeEl (x := x7062) (if (wr (x7048 + x7060)) < x7036 then (wr (x7048 + x7060)) else x7036) (T := 2) (U := 2) (cap := (Int.toNat (((y2).length : Int)))) (j := 0) (A := (some ⟨b5270, 0, none⟩)) (v := .int .i64 (if (wr (x7048 + x7060)) < x7036 then (wr (x7048 + x7060)) else x7036)) (vs := [.int .i64 (if (wr (x7048 + x7060)) < x7036 then (wr (x7048 + x7060)) else x7036)]) (m := x6470) (by kernel_rfl) (by rfl) sz2 (by rfl) encI_ok F6985 hx7063 (by simp only [List.length_cons, List.length_nil]; omega) (by rfl) ?_
                  intro w7064 F7065 hc7066
                  replace F6982 := F6982.chg hc7066 (Dj.of L0 G5272)
                  replace F6983 := F6983.chg hc7066 D5276
                  replace F6984 := F6984.chg hc7066 D5277
                  replace F7042 := F7042.chg hc7066 ((Dj.inr (D5277).symm)).symm
                  replace F7054 := F7054.chg hc7066 ((Dj.inr (D5277).symm)).symm
                  replace hB := hB.inS hc7066 (inLow G5272)
                  replace hZ := Nat.le_trans hZ hc7066.size
                  clear F6985
                  rewrite [show (l6980).length = (l6980.set (Int.toNat x6470) (if (wr (x7048 + x7060)) < x7036 then (wr (x7048 + x7060)) else x7036)).length from (List.length_set ..).symm]
                  refine wS_end (by rfl) ?_
                  refine eX_block ?_
                  refine eX_then ?_
                  refine cW_prune [(0, .slice A0 (l0).length cap0), (3, .slice A6 (y2).length cap7), (4, .int .i64 (wr ((((l0).length : Int)) - 1))), (5, .slice A5248 (l5247).length cap5249), (6, .int .i64 (x5253)), (7, .slice (some ⟨b5270, 0, none⟩) (l6980.set (Int.toNat x6470) (if (wr (x7048 + x7060)) < x7036 then (wr (x7048 + x7060)) else x7036)).length (Int.toNat (((y2).length : Int)))), (8, .int .i64 (x6470)), (11, .int .i64 (x6979)), (36, .slice A6 (y2).length cap7), (37, .int .i64 (((y2).length : Int))), (38, .int .i64 (x6470))] (by kernel_rfl) (by kernel_rfl) (fun a7067 => ?_)
                  refine cW_region ?_
                  refine wS_pure 5 [(11, .int .i64 (andI (wr (x6979 - 1)) x5253)), (73, .int .i64 (andI (wr (x6979 - 1)) x5253)), (72, .int .i64 (x5253)), (71, .int .i64 (wr (x6979 - 1))), (70, .int .i64 (x6979))] (by kernel_rfl) ?_
                  refine wS_end (by rfl) ?_
                  have hq : (some (Ctl.next ((andI (wr (x6979 - 1)) x5253, l6980.set (Int.toNat x6470) (if (wr (x7048 + x7060)) < x7036 then (wr (x7048 + x7060)) else x7036)))) : Option (Ctl (Int × (List (Int))) ((List (Int))))) = some _ := hm
                  replace hq := someE hq
                  subst hq
                  exact eX_next hx6991 (fun hst => ⟨andI (wr (x6979 - 1)) x5253, l6980.set (Int.toNat x6470) (if (wr (x7048 + x7060)) < x7036 then (wr (x7048 + x7060)) else x7036), rfl, Fr.of hst (by kernel_rfl), F6982, F6983, F6984, F7065, hB, hZ⟩)
                · have hm := condF hb6992 hm
                  refine cW_exit ?_
                  refine eX_then_exit ?_
                  have hq : (some (Ctl.out l6980) : Option (Ctl (Int × (List (Int))) ((List (Int))))) = some _ := hm
                  replace hq := someE hq
                  subst hq
                  refine eX_outX hx6991 (fun hr7068 => ?_)
                  replace hr7068 := hr7068.symm
                  subst hr7068
                  refine eX_block_hit ?_
                  exact eX_J (fun hst => ⟨l6980, rfl, Fr.of hst (by kernel_rfl), F6982, F6983, F6984, F6985, hB, hZ⟩)
              · rintro a' w6971 ⟨l6972, hJ, hF6973, F6974, F6975, F6976, F6977, hB, hZ⟩
                subst hJ
                refine Fr.goX hF6973 (by kernel_rfl) ?_
                refine eX_block ?_
                refine eX_then ?_
                refine cW_region ?_
                refine wS_pure 2 [(38, .int .i64 (wr (x6470 + 1))), (99, .int .i64 (wr (x6470 + 1)))] (by kernel_rfl) ?_
                refine wS_end (by rfl) ?_
                have hq : (some (Ctl.next ((wr (x6470 + 1), l6972))) : Option (Ctl (Int × (List (Int))) ((List (Int))))) = some _ := hm
                replace hq := someE hq
                subst hq
                exact eX_next hx6482 (fun hst => ⟨wr (x6470 + 1), l6972, rfl, Fr.of hst (by kernel_rfl), F6974, F6975, F6976, F6977, hB, hZ⟩)
          · have hm := condF hb6483 hm
            refine cW_exit ?_
            refine eX_then_exit ?_
            have hq : (some (Ctl.out l6471) : Option (Ctl (Int × (List (Int))) ((List (Int))))) = some _ := hm
            replace hq := someE hq
            subst hq
            refine eX_outX hx6482 (fun hr7069 => ?_)
            replace hr7069 := hr7069.symm
            subst hr7069
            refine eX_block_hit ?_
            exact eX_J (fun hst => ⟨l6471, rfl, Fr.of hst (by kernel_rfl), F6473, F6474, F6475, F6476, hB, hZ⟩)
        · rintro a' w6462 ⟨l6463, hJ, hF6464, F6465, F6466, F6467, F6468, hB, hZ⟩
          subst hJ
          refine Fr.goX hF6464 (by kernel_rfl) ?_
          refine eX_then ?_
          refine cW_seq ?_
          refine cW_region ?_
          refine wS_pure 1 [(100, .slice (some ⟨b5270, 0, none⟩) (l6463).length (Int.toNat (((y2).length : Int))))] (by kernel_rfl) ?_
          obtain ⟨y7070, hy7071, hm⟩ := bindE hm
          refine wS_calls (d := 101) (f := 134) (vs := [.slice (some ⟨b5270, 0, none⟩) (l6463).length (Int.toNat (((y2).length : Int)))]) (by kernel_rfl) ent134 (c_slices_Clone_int64_int64 hy7071 (F6468.sl encI_ok)) ?_
          rintro _ w7072 ⟨A7074, cap7075, fp7076, rfl, F7077, G7078, hc7073⟩
          have D7081 : Dj fp8 fp7076 := Dj.of F6466.low G7078
          have D7082 : Dj (fp5250 ++ fr5252) fp7076 := Dj.of F6467.low G7078
          have D7083 : Dj [b5270] fp7076 := Dj.of F6468.low G7078
          replace F6465 := F6465.chg hc7073 Dj.nil
          replace F6466 := F6466.chg hc7073 Dj.nil
          replace F6467 := F6467.chg hc7073 Dj.nil
          replace F6468 := F6468.chg hc7073 Dj.nil
          replace hB := hB.inS hc7073 inNil
          replace G7078 := low_le hZ G7078
          replace hZ := Nat.le_trans hZ hc7073.size
          refine ⟨.slice A7074 (y7070).length cap7075, rfl, ?_⟩
          refine wS_pure 1 [(12, .slice A7074 (y7070).length cap7075)] (by kernel_rfl) ?_
          refine wS_end (by rfl) ?_
          refine eX_then ?_
          refine cW_seq ?_
          refine cW_seq ?_
          refine cW_region ?_
          refine wS_pure 3 [(104, .int .i64 (0)), (103, .int .i64 (((y2).length : Int))), (102, .slice A6 (y2).length cap7)] (by kernel_rfl) ?_
          refine wS_end (by rfl) ?_
          refine eX_then ?_
          obtain ⟨r7600, hr7601, hm⟩ := bindE hm
          have hm7602 := hm
          refine cW_cut (fun a' w' => ∃ l7585 : List (Int), l7585 = r7600 ∧ Fr 152 [(0, .slice A0 (l0).length cap0), (3, .slice A6 (y2).length cap7), (4, .int .i64 (wr ((((l0).length : Int)) - 1))), (5, .slice A5248 (l5247).length cap5249), (6, .int .i64 (x5253)), (12, .slice A7074 (l7585).length cap7075)] a' ∧ Sl 2 encII w' fp0 A0 l0 ∧ Ow 2 encII 34 w' fp8 A6 cap7 y2 ∧ OwR 1 encI 78 2 w' fp5250 fr5252 A5248 cap5249 l5247 ∧ Ow 1 encI 2 w' fp7076 A7074 cap7075 l7585 ∧ Chg [] w0 w' ∧ w0.heap.size ≤ w'.heap.size) ?_ ?_
          · refine cW_block ?_
            refine cW_loop _ (fun (s7603 : Int × (List (Int))) a' w' => ∃ x7592 : Int, ∃ l7593 : List (Int), (x7592, l7593) = s7603 ∧ Fr 152 [(0, .slice A0 (l0).length cap0), (3, .slice A6 (y2).length cap7), (4, .int .i64 (wr ((((l0).length : Int)) - 1))), (5, .slice A5248 (l5247).length cap5249), (6, .int .i64 (x5253)), (7, .slice (some ⟨b5270, 0, none⟩) (l6463).length (Int.toNat (((y2).length : Int)))), (12, .slice A7074 (l7593).length cap7075), (102, .slice A6 (y2).length cap7), (103, .int .i64 (((y2).length : Int))), (104, .int .i64 (x7592))] a' ∧ Sl 2 encII w' fp0 A0 l0 ∧ Ow 2 encII 34 w' fp8 A6 cap7 y2 ∧ OwR 1 encI 78 2 w' fp5250 fr5252 A5248 cap5249 l5247 ∧ Ow 1 encI 2 w' [b5270] (some ⟨b5270, 0, none⟩) (Int.toNat (((y2).length : Int))) l6463 ∧ Ow 1 encI 2 w' fp7076 A7074 cap7075 l7593 ∧ Chg [] w0 w' ∧ w0.heap.size ≤ w'.heap.size) hr7601 (fun hst => ⟨0, y7070, rfl, Fr.of hst (by kernel_rfl), F6465, F6466, F6467, F6468, F7077, hB, hZ⟩) ?_
            rintro _ c7604 a' w7591 ⟨x7592, l7593, rfl, hF7594, F7595, F7596, F7597, F7598, F7599, hB, hZ⟩ hx7605
            refine Fr.goOn hF7594 (by kernel_rfl) ?_
            have hm := hx7605
            unfold m_impl_steiner_s33 at hm
            refine cW_seq ?_
            refine cW_region ?_
            refine wS_pure 1 [(105, .bool (decide (x7592 < (((y2).length : Int)))))] (by kernel_rfl) ?_
            refine wS_end (by rfl) ?_
            refine eX_then ?_
            refine cW_seq ?_
            refine cW_cond (t := decide (x7592 < (((y2).length : Int)))) (by kernel_rfl) (fun hb7606 => ?_) (fun hb7606 => ?_)
            · have hm := condT hb7606 hm
              refine cW_skip ?_
              refine eX_then ?_
              refine cW_seq ?_
              refine cW_block ?_
              refine cW_seq ?_
              refine cW_region ?_
              refine wS_pure 1 [(106, .int .i64 (x7592))] (by kernel_rfl) ?_
              obtain ⟨x7607, hx7608, hm⟩ := bindE hm
              refine wS_idx (d := 107) (T := 25) (A := A6) (n := (y2).length) (cap := cap7) (kd := .i64) (m := x7592) (by kernel_rfl) sl25 ((F7596.sl encII_ok).is hx7608) ?_
              refine wS_loadA (d := 108) (T := 34) (ad := (elA A6 2 (x7592) 0)) (vs := [.int .i64 (x7607.1), .int .i64 (x7607.2)]) (by kernel_rfl) vt34 (fun i u hu => Sl.cells_at (F7596.sl encII_ok) hx7608 0 hu (by rfl)) ?_
              refine wS_alloc (d := 14) (T := 34) (z := .agg #[.int .i64 (0), .int .i64 (0)]) (by kernel_rfl) (by kernel_rfl) ?_
              intro b7609 w7610 G7611 F7612 hc7613
              replace F7612 : Cl w7610 b7609 34 [.int .i64 (0), .int .i64 (0)] := F7612
              have D7615 : Dj fp8 [b7609] := Dj.of F7596.low (low1 G7611)
              have D7616 : Dj (fp5250 ++ fr5252) [b7609] := Dj.of F7597.low (low1 G7611)
              have D7617 : Dj [b5270] [b7609] := Dj.of F7598.low (low1 G7611)
              have D7618 : Dj fp7076 [b7609] := Dj.of F7599.low (low1 G7611)
              replace F7595 := F7595.chg hc7613 Dj.nil
              replace F7596 := F7596.chg hc7613 Dj.nil
              replace F7597 := F7597.chg hc7613 Dj.nil
              replace F7598 := F7598.chg hc7613 Dj.nil
              replace F7599 := F7599.chg hc7613 Dj.nil
              replace hB := hB.inS hc7613 inNil
              replace G7611 := Nat.le_trans hZ G7611
              replace hZ := Nat.le_trans hZ hc7613.size
              refine wS_pure 1 [(13, .int .i64 (x7592))] (by kernel_rfl) ?_
              refine wS_store (T := 34) (g := b7609) (o := 0) (ad := ⟨b7609, 0, none⟩) (v := .agg #[.int .i64 (x7607.1), .int .i64 (x7607.2)]) (vs := [.int .i64 (x7607.1), .int .i64 (x7607.2)]) (by kernel_rfl) (by rfl) sz34 (by rfl) (by rfl) F7612 (by simp only [List.length_cons, List.length_nil]; omega) ?_
              intro w7619 F7620 hc7621
              replace F7595 := F7595.chg hc7621 (Dj.of L0 (low1 G7611))
              replace F7596 := F7596.chg hc7621 D7615
              replace F7597 := F7597.chg hc7621 D7616
              replace F7598 := F7598.chg hc7621 D7617
              replace F7599 := F7599.chg hc7621 D7618
              replace hB := hB.inS hc7621 (inLow (low1 G7611))
              replace hZ := Nat.le_trans hZ hc7621.size
              replace F7620 : Cl w7619 b7609 34 [.int .i64 (x7607.1), .int .i64 (x7607.2)] := F7620
              clear F7612
              refine wS_end (by rfl) ?_
              refine eX_then ?_
              refine cW_seq ?_
              refine cW_region ?_
              refine wS_pure 3 [(111, .int .i64 (0)), (110, .int .i64 (((y2).length : Int))), (109, .slice A6 (y2).length cap7)] (by kernel_rfl) ?_
              refine wS_end (by rfl) ?_
              refine eX_then ?_
              obtain ⟨r7780, hr7781, hm⟩ := bindE hm
              have hm7782 := hm
              refine cW_cut (fun a' w' => ∃ l7763 : List (Int), l7763 = r7780 ∧ Fr 152 [(0, .slice A0 (l0).length cap0), (3, .slice A6 (y2).length cap7), (4, .int .i64 (wr ((((l0).length : Int)) - 1))), (5, .slice A5248 (l5247).length cap5249), (6, .int .i64 (x5253)), (7, .slice (some ⟨b5270, 0, none⟩) (l6463).length (Int.toNat (((y2).length : Int)))), (12, .slice A7074 (l7763).length cap7075), (102, .slice A6 (y2).length cap7), (103, .int .i64 (((y2).length : Int))), (104, .int .i64 (x7592))] a' ∧ Sl 2 encII w' fp0 A0 l0 ∧ Ow 2 encII 34 w' fp8 A6 cap7 y2 ∧ OwR 1 encI 78 2 w' fp5250 fr5252 A5248 cap5249 l5247 ∧ Ow 1 encI 2 w' [b5270] (some ⟨b5270, 0, none⟩) (Int.toNat (((y2).length : Int))) l6463 ∧ Ow 1 encI 2 w' fp7076 A7074 cap7075 l7763 ∧ Chg [] w0 w' ∧ w0.heap.size ≤ w'.heap.size) ?_ ?_
              · refine cW_block ?_
                refine cW_loop _ (fun (s7783 : Int × (List (Int))) a' w' => ∃ x7771 : Int, ∃ l7772 : List (Int), (x7771, l7772) = s7783 ∧ Fr 152 [(0, .slice A0 (l0).length cap0), (3, .slice A6 (y2).length cap7), (4, .int .i64 (wr ((((l0).length : Int)) - 1))), (5, .slice A5248 (l5247).length cap5249), (6, .int .i64 (x5253)), (7, .slice (some ⟨b5270, 0, none⟩) (l6463).length (Int.toNat (((y2).length : Int)))), (12, .slice A7074 (l7772).length cap7075), (13, .int .i64 (x7592)), (14, .pointer (some ⟨b7609, 0, none⟩)), (102, .slice A6 (y2).length cap7), (103, .int .i64 (((y2).length : Int))), (104, .int .i64 (x7592)), (109, .slice A6 (y2).length cap7), (110, .int .i64 (((y2).length : Int))), (111, .int .i64 (x7771))] a' ∧ Sl 2 encII w' fp0 A0 l0 ∧ Ow 2 encII 34 w' fp8 A6 cap7 y2 ∧ OwR 1 encI 78 2 w' fp5250 fr5252 A5248 cap5249 l5247 ∧ Ow 1 encI 2 w' [b5270] (some ⟨b5270, 0, none⟩) (Int.toNat (((y2).length : Int))) l6463 ∧ Ow 1 encI 2 w' fp7076 A7074 cap7075 l7772 ∧ Cl w' b7609 34 [.int .i64 (x7607.1), .int .i64 (x7607.2)] ∧ Chg [] w0 w' ∧ w0.heap.size ≤ w'.heap.size) hr7781 (fun hst => ⟨0, l7593, rfl, Fr.of hst (by kernel_rfl), F7595, F7596, F7597, F7598, F7599, F7620, hB, hZ⟩) ?_
                rintro _ c7784 a' w7770 ⟨x7771, l7772, rfl, hF7773, F7774, F7775, F7776, F7777, F7778, F7779, hB, hZ⟩ hx7785
                refine Fr.goOn hF7773 (by kernel_rfl) ?_
                have hm := hx7785
                unfold m_impl_steiner_s34 at hm
                refine cW_seq ?_
                refine cW_region ?_
                refine wS_pure 1 [(112, .bool (decide (x7771 < (((y2).length : Int)))))] (by kernel_rfl) ?_
                refine wS_end (by rfl) ?_
                refine eX_then ?_
                refine cW_seq ?_
                refine cW_cond (t := decide (x7771 < (((y2).length : Int)))) (by kernel_rfl) (fun hb7786 => ?_) (fun hb7786 => ?_)
                · have hm := condT hb7786 hm
                  refine cW_skip ?_
                  refine eX_then ?_
                  refine cW_seq ?_
                  refine cW_block ?_
                  refine cW_seq ?_
                  refine cW_region ?_
                  refine wS_pure 1 [(113, .int .i64 (x7771))] (by kernel_rfl) ?_
                  obtain ⟨x7787, hx7788, hm⟩ := bindE hm
                  refine wS_idx (d := 114) (T := 25) (A := A6) (n := (y2).length) (cap := cap7) (kd := .i64) (m := x7771) (by kernel_rfl) sl25 ((F7775.sl encII_ok).is hx7788) ?_
                  refine wS_loadA (d := 115) (T := 34) (ad := (elA A6 2 (x7771) 0)) (vs := [.int .i64 (x7787.1), .int .i64 (x7787.2)]) (by kernel_rfl) vt34 (fun i u hu => Sl.cells_at (F7775.sl encII_ok) hx7788 0 hu (by rfl)) ?_
                  refine wS_alloc (d := 16) (T := 34) (z := .agg #[.int .i64 (0), .int .i64 (0)]) (by kernel_rfl) (by kernel_rfl) ?_
                  intro b7789 w7790 G7791 F7792 hc7793
                  replace F7792 : Cl w7790 b7789 34 [.int .i64 (0), .int .i64 (0)] := F7792
                  have D7795 : Dj fp8 [b7789] := Dj.of F7775.low (low1 G7791)
                  have D7796 : Dj (fp5250 ++ fr5252) [b7789] := Dj.of F7776.low (low1 G7791)
                  have D7797 : Dj [b5270] [b7789] := Dj.of F7777.low (low1 G7791)
                  have D7798 : Dj fp7076 [b7789] := Dj.of F7778.low (low1 G7791)
                  have D7799 : Dj [b7609] [b7789] := Dj.of (lt1 F7779.lt) (low1 G7791)
                  replace F7774 := F7774.chg hc7793 Dj.nil
                  replace F7775 := F7775.chg hc7793 Dj.nil
                  replace F7776 := F7776.chg hc7793 Dj.nil
                  replace F7777 := F7777.chg hc7793 Dj.nil
                  replace F7778 := F7778.chg hc7793 Dj.nil
                  replace F7779 := F7779.chg hc7793 notNil
                  replace hB := hB.inS hc7793 inNil
                  replace G7791 := Nat.le_trans hZ G7791
                  replace hZ := Nat.le_trans hZ hc7793.size
                  refine wS_pure 1 [(15, .int .i64 (x7771))] (by kernel_rfl) ?_
                  refine wS_store (T := 34) (g := b7789) (o := 0) (ad := ⟨b7789, 0, none⟩) (v := .agg #[.int .i64 (x7787.1), .int .i64 (x7787.2)]) (vs := [.int .i64 (x7787.1), .int .i64 (x7787.2)]) (by kernel_rfl) (by rfl) sz34 (by rfl) (by rfl) F7792 (by simp only [List.length_cons, List.length_nil]; omega) ?_
                  intro w7800 F7801 hc7802
                  replace F7774 := F7774.chg hc7802 (Dj.of L0 (low1 G7791))
                  replace F7775 := F7775.chg hc7802 D7795
                  replace F7776 := F7776.chg hc7802 D7796
                  replace F7777 := F7777.chg hc7802 D7797
                  replace F7778 := F7778.chg hc7802 D7798
                  replace F7779 := F7779.chg hc7802 (dj1 D7799)
                  replace hB := hB.inS hc7802 (inLow (low1 G7791))
                  replace hZ := Nat.le_trans hZ hc7802.size
                  replace F7801 : Cl w7800 b7789 34 [.int .i64 (x7787.1), .int .i64 (x7787.2)] := F7801
                  clear F7792
                  refine wS_end (by rfl) ?_
                  refine eX_then ?_
                  refine cW_drawnTail [] 15 (by kernel_rfl) (by kernel_rfl) (fun w7825 hc7826 => ?_)
                  replace F7774 := F7774.chg hc7826 Dj.nil
                  replace F7775 := F7775.chg hc7826 Dj.nil
                  replace F7776 := F7776.chg hc7826 Dj.nil
                  replace F7777 := F7777.chg hc7826 Dj.nil
                  replace F7778 := F7778.chg hc7826 Dj.nil
                  replace F7779 := F7779.chg hc7826 notNil
                  replace F7801 := F7801.chg hc7826 notNil
                  replace hB := hB.inS hc7826 inNil
                  replace hZ := Nat.le_trans hZ hc7826.size
                  have hS := Chg.refl [] w7825
                  have Z7827 := F7774
                  have Z7828 := F7775
                  have Z7829 := F7776
                  have Z7830 := F7777
                  have Z7831 := F7778
                  have Z7832 := F7779
                  have Z7833 := F7801
                  refine wH_take [0, 1, 2, 3] [3, 2, 1, 0] [(119, .int .i64 (x7592)), (118, .slice A7074 (l7772).length cap7075), (117, .int .i64 (x7592)), (116, .slice A7074 (l7772).length cap7075)] (by kernel_rfl) (qT (qB (qT (qL (qB (qT (qB (qT (qL (qB (qT (qT (qB (qT (qL (qB (qT (qT qZ)))))))))))))))))) (by kernel_rfl) ?_
                  obtain ⟨x7834, hx7835, hm⟩ := bindE hm
                  refine wH_idx (i := 4) (d := 120) (T := 78) (A := A7074) (n := (l7772).length) (cap := cap7075) (kd := .i64) (m := x7592) (by kernel_rfl) (qT (qB (qT (qL (qB (qT (qB (qT (qL (qB (qT (qT (qB (qT (qL (qB (qT (qT qZ)))))))))))))))))) (by kernel_rfl) (by kernel_rfl) sl78 ((F7778.sl encI_ok).is hx7835) ?_
                  refine wH_load1 (i := 5) (d := 121) (T := 2) (ad := (elA A7074 1 (x7592) 0)) (v := .int .i64 (x7834)) (by kernel_rfl) (qT (qB (qT (qL (qB (qT (qB (qT (qL (qB (qT (qT (qB (qT (qL (qB (qT (qT qZ)))))))))))))))))) (by kernel_rfl) (by kernel_rfl) vt2 (fun W hW => Sl.cell ((Z7831.chg hW Dj.nil).sl encI_ok) hx7835 0 (by rfl)) ?_
                  refine wH_take [6, 7] [7, 6, 5, 4, 3, 2, 1, 0] [(123, .int .i64 (x7771)), (122, .slice (some ⟨b5270, 0, none⟩) (l6463).length (Int.toNat (((y2).length : Int))))] (by kernel_rfl) (qT (qB (qT (qL (qB (qT (qB (qT (qL (qB (qT (qT (qB (qT (qL (qB (qT (qT qZ)))))))))))))))))) (by kernel_rfl) ?_
                  obtain ⟨x7836, hx7837, hm⟩ := bindE hm
                  refine wH_idx (i := 8) (d := 124) (T := 78) (A := (some ⟨b5270, 0, none⟩)) (n := (l6463).length) (cap := (Int.toNat (((y2).length : Int)))) (kd := .i64) (m := x7771) (by kernel_rfl) (qT (qB (qT (qL (qB (qT (qB (qT (qL (qB (qT (qT (qB (qT (qL (qB (qT (qT qZ)))))))))))))))))) (by kernel_rfl) (by kernel_rfl) sl78 ((F7777.sl encI_ok).is hx7837) ?_
                  refine wH_load1 (i := 9) (d := 125) (T := 2) (ad := (elA (some ⟨b5270, 0, none⟩) 1 (x7771) 0)) (v := .int .i64 (x7836)) (by kernel_rfl) (qT (qB (qT (qL (qB (qT (qB (qT (qL (qB (qT (qT (qB (qT (qL (qB (qT (qT qZ)))))))))))))))))) (by kernel_rfl) (by kernel_rfl) vt2 (fun W hW => Sl.cell ((Z7830.chg hW Dj.nil).sl encI_ok) hx7837 0 (by rfl)) ?_
                  refine wH_loadA (i := 10) (d := 126) (T := 34) (ad := ⟨b7609, 0, none⟩) (vs := [.int .i64 (x7607.1), .int .i64 (x7607.2)]) (by kernel_rfl) (qT (qB (qT (qL (qB (qT (qB (qT (qL (qB (qT (qT (qB (qT (qL (qB (qT (qT qZ)))))))))))))))))) (by kernel_rfl) (by kernel_rfl) vt34 (fun W hW i u hu => box_cells (Z7832.chg hW notNil) 0 hu (by rfl)) ?_
                  refine wH_loadA (i := 11) (d := 127) (T := 34) (ad := ⟨b7789, 0, none⟩) (vs := [.int .i64 (x7787.1), .int .i64 (x7787.2)]) (by kernel_rfl) (qT (qB (qT (qL (qB (qT (qB (qT (qL (qB (qT (qT (qB (qT (qL (qB (qT (qT qZ)))))))))))))))))) (by kernel_rfl) (by kernel_rfl) vt34 (fun W hW i u hu => box_cells (Z7833.chg hW notNil) 0 hu (by rfl)) ?_
                  refine wH_all [12] (by rfl) (by kernel_rfl) (by simp) ⟨⟨by kernel_rfl, ?_⟩, trivial⟩
                  obtain ⟨y7838, hy7839, hm⟩ := bindE hm
                  refine wS_calls (d := 128) (f := 73) (vs := [.agg #[.int .i64 (x7607.1), .int .i64 (x7607.2)], .agg #[.int .i64 (x7787.1), .int .i64 (x7787.2)]]) (by kernel_rfl) ent73 (c_impl_far hy7839) ?_
                  rintro _ w7840 ⟨rfl, hc7841⟩
                  replace F7774 := F7774.chg hc7841 Dj.nil
                  replace F7775 := F7775.chg hc7841 Dj.nil
                  replace F7776 := F7776.chg hc7841 Dj.nil
                  replace F7777 := F7777.chg hc7841 Dj.nil
                  replace F7778 := F7778.chg hc7841 Dj.nil
                  replace F7779 := F7779.chg hc7841 notNil
                  replace F7801 := F7801.chg hc7841 notNil
                  replace hB := hB.inS hc7841 inNil
                  have hSz := hS
                  replace hS := hS.inS hc7841 inNil
                  replace hZ := Nat.le_trans hZ hc7841.size
                  refine ⟨.int .i64 (y7838), rfl, ?_⟩
                  refine wS_end (by kernel_rfl) ?_
                  refine eX_KH hS ?_
                  refine wH_take [13, 14] [14, 13, 12, 11, 10, 9, 8, 7, 6, 5, 4, 3, 2, 1, 0] [(130, .int .i64 (if (wr (x7836 + y7838)) < x7834 then (wr (x7836 + y7838)) else x7834)), (129, .int .i64 (wr (x7836 + y7838)))] (by kernel_rfl) (qT (qB (qT (qL (qB (qT (qB (qT (qL (qB (qT (qT (qB (qT (qL (qB (qT (qT qZ)))))))))))))))))) (by kernel_rfl) ?_
                  refine wH_done (by kernel_rfl) ?_
                  refine eX_tail ?_
                  obtain ⟨x7842, hx7843, hm⟩ := bindE hm
                  refine wS_idx (d := 131) (T := 78) (A := A7074) (n := (l7772).length) (cap := cap7075) (kd := .i64) (m := x7592) (by kernel_rfl) sl78 ((F7778.sl encI_ok).is hx7843) ?_
                  refine wS_storeEl (x := x7842) (if (wr (x7836 + y7838)) < x7834 then (wr (x7836 + y7838)) else x7834) (T := 2) (U := 2) (cap := cap7075) (j := 0) (A := A7074) (v := .int .i64 (if (wr (x7836 + y7838)) < x7834 then (wr (x7836 + y7838)) else x7834)) (vs := [.int .i64 (if (wr (x7836 + y7838)) < x7834 then (wr (x7836 + y7838)) else x7834)]) (m := x7592) (by kernel_rfl) (by rfl) sz2 (by rfl) encI_ok F7778 hx7843 (by simp only [List.length_cons, List.length_nil]; omega) (by rfl) ?_
                  intro w7844 F7845 hc7846
                  replace F7774 := F7774.chg hc7846 (Dj.of L0 G7078)
                  replace F7775 := F7775.chg hc7846 D7081
                  replace F7776 := F7776.chg hc7846 D7082
                  replace F7777 := F7777.chg hc7846 D7083
                  replace F7779 := F7779.chg hc7846 (dj1 (D7618).symm)
                  replace F7801 := F7801.chg hc7846 (dj1 (D7798).symm)
                  replace hB := hB.inS hc7846 (inLow G7078)
                  replace hZ := Nat.le_trans hZ hc7846.size
                  clear F7778
                  rewrite [show (l7772).length = (l7772.set (Int.toNat x7592) (if (wr (x7836 + y7838)) < x7834 then (wr (x7836 + y7838)) else x7834)).length from (List.length_set ..).symm]
                  refine wS_end (by rfl) ?_
                  refine eX_block ?_
                  refine eX_then ?_
                  refine cW_prune [(0, .slice A0 (l0).length cap0), (3, .slice A6 (y2).length cap7), (4, .int .i64 (wr ((((l0).length : Int)) - 1))), (5, .slice A5248 (l5247).length cap5249), (6, .int .i64 (x5253)), (7, .slice (some ⟨b5270, 0, none⟩) (l6463).length (Int.toNat (((y2).length : Int)))), (12, .slice A7074 (l7772.set (Int.toNat x7592) (if (wr (x7836 + y7838)) < x7834 then (wr (x7836 + y7838)) else x7834)).length cap7075), (13, .int .i64 (x7592)), (14, .pointer (some ⟨b7609, 0, none⟩)), (102, .slice A6 (y2).length cap7), (103, .int .i64 (((y2).length : Int))), (104, .int .i64 (x7592)), (109, .slice A6 (y2).length cap7), (110, .int .i64 (((y2).length : Int))), (111, .int .i64 (x7771))] (by kernel_rfl) (by kernel_rfl) (fun a7847 => ?_)
                  refine cW_region ?_
                  refine wS_pure 2 [(111, .int .i64 (wr (x7771 + 1))), (132, .int .i64 (wr (x7771 + 1)))] (by kernel_rfl) ?_
                  refine wS_end (by rfl) ?_
                  have hq : (some (Ctl.next ((wr (x7771 + 1), l7772.set (Int.toNat x7592) (if (wr (x7836 + y7838)) < x7834 then (wr (x7836 + y7838)) else x7834)))) : Option (Ctl (Int × (List (Int))) ((List (Int))))) = some _ := hm
                  replace hq := someE hq
                  subst hq
                  exact eX_next hx7785 (fun hst => ⟨wr (x7771 + 1), l7772.set (Int.toNat x7592) (if (wr (x7836 + y7838)) < x7834 then (wr (x7836 + y7838)) else x7834), rfl, Fr.of hst (by kernel_rfl), F7774, F7775, F7776, F7777, F7845, F7779, hB, hZ⟩)
                · have hm := condF hb7786 hm
                  refine cW_exit ?_
                  refine eX_then_exit ?_
                  have hq : (some (Ctl.out l7772) : Option (Ctl (Int × (List (Int))) ((List (Int))))) = some _ := hm
                  replace hq := someE hq
                  subst hq
                  refine eX_outX hx7785 (fun hr7848 => ?_)
                  replace hr7848 := hr7848.symm
                  subst hr7848
                  refine eX_block_hit ?_
                  exact eX_J (fun hst => ⟨l7772, rfl, Fr.of hst (by kernel_rfl), F7774, F7775, F7776, F7777, F7778, hB, hZ⟩)
              · rintro a' w7762 ⟨l7763, hJ, hF7764, F7765, F7766, F7767, F7768, F7769, hB, hZ⟩
                subst hJ
                refine Fr.goX hF7764 (by kernel_rfl) ?_
                refine eX_block ?_
                refine eX_then ?_
                refine cW_region ?_
                refine wS_pure 2 [(104, .int .i64 (wr (x7592 + 1))), (133, .int .i64 (wr (x7592 + 1)))] (by kernel_rfl) ?_
                refine wS_end (by rfl) ?_
                have hq : (some (Ctl.next ((wr (x7592 + 1), l7763))) : Option (Ctl (Int × (List (Int))) ((List (Int))))) = some _ := hm
                replace hq := someE hq
                subst hq
                exact eX_next hx7605 (fun hst => ⟨wr (x7592 + 1), l7763, rfl, Fr.of hst (by kernel_rfl), F7765, F7766, F7767, F7768, F7769, hB, hZ⟩)
            · have hm := condF hb7606 hm
              refine cW_exit ?_
              refine eX_then_exit ?_
              have hq : (some (Ctl.out l7593) : Option (Ctl (Int × (List (Int))) ((List (Int))))) = some _ := hm
              replace hq := someE hq
              subst hq
              refine eX_outX hx7605 (fun hr7849 => ?_)
              replace hr7849 := hr7849.symm
              subst hr7849
              refine eX_block_hit ?_
              exact eX_J (fun hst => ⟨l7593, rfl, Fr.of hst (by kernel_rfl), F7595, F7596, F7597, F7599, hB, hZ⟩)
          · rintro a' w7584 ⟨l7585, hJ, hF7586, F7587, F7588, F7589, F7590, hB, hZ⟩
            subst hJ
            refine Fr.goX hF7586 (by kernel_rfl) ?_
            refine eX_then ?_
            refine cW_region ?_
            refine wS_pure 3 [(136, .slice A7074 (l7585).length cap7075), (135, .int .i64 (x5253)), (134, .slice A5248 (l5247).length cap5249)] (by kernel_rfl) ?_
            obtain ⟨x7850, hx7851, hm⟩ := bindE hm
            refine wS_idx (d := 137) (T := 47) (A := A5248) (n := (l5247).length) (cap := cap5249) (kd := .i64) (m := x5253) (by kernel_rfl) sl47 ((F7589.slr encI_ok).is hx7851) ?_
            refine wS_storeRow (k := 1) (enc := encI) (x := x7850) (l := l7585) (T := 78) (U := 78) (cap := cap5249) (c := cap7075) (A := A5248) (B := A7074) (m := x5253) (by kernel_rfl) sz78 F7589 F7590 D7082 hx7851 ?_
            intro w7855 F7856 hc7857
            have D7859 : Dj fp8 (fp5250 ++ (fr5252 ++ fp7076)) := Dj.app (Dj.inl D5259) (Dj.app (Dj.inr D5259) D7081)
            have G7860 := lowApp (low_inl G5258) (lowApp (low_inr G5258) G7078)
            have Dm7861 := Dj.inl D7082.symm
            replace F7587 := F7587.chg hc7857 (Dj.inl (Dj.of L0 G5258))
            replace F7588 := F7588.chg hc7857 (Dj.inl D5259)
            replace F7590 := F7590.chg hc7857 (Dj.inl (D7082).symm)
            replace hB := hB.inS hc7857 (memS_inl (inLow G5258))
            replace hZ := Nat.le_trans hZ hc7857.size
            replace F7590 := (F7590.sl encI_ok)
            rewrite [show (l5247).length = (l5247.set (Int.toNat x5253) l7585).length from (List.length_set ..).symm]
            refine wS_end (by rfl) ?_
            refine eX_block ?_
            refine eX_then ?_
            refine cW_region ?_
            refine wS_pure 3 [(6, .int .i64 (wr (x5253 + 1))), (32, .int .i64 (wr (x5253 + 1))), (31, .int .i64 (x5253))] (by kernel_rfl) ?_
            refine wS_end (by rfl) ?_
            have hq : (some (Ctl.next ((l5247.set (Int.toNat x5253) l7585, wr (x5253 + 1)))) : Option (Ctl ((List (List (Int))) × Int) ((List (List (Int)))))) = some _ := hm
            replace hq := someE hq
            subst hq
            exact eX_next hx5265 (fun hst => ⟨l5247.set (Int.toNat x5253) l7585, A5248, cap5249, fp5250, (fr5252 ++ fp7076), wr (x5253 + 1), rfl, Fr.of hst (by kernel_rfl), F7587, F7588, F7856, G7860, D7859, hB, hZ⟩)
      · have hm := condF hb5268 hm
        refine cW_exit ?_
        refine eX_then_exit ?_
        have hq : (some (Ctl.out l5247) : Option (Ctl ((List (List (Int))) × Int) ((List (List (Int)))))) = some _ := hm
        replace hq := someE hq
        subst hq
        refine eX_outX hx5265 (fun hr7862 => ?_)
        replace hr7862 := hr7862.symm
        subst hr7862
        refine eX_block_hit ?_
        exact eX_J (fun hst => ⟨l5247, A5248, cap5249, fp5250, fr5252, rfl, Fr.of hst (by kernel_rfl), F5255, F5256, F5257, G5258, D5259, hB, hZ⟩)
    · rintro a' w5233 ⟨l5234, A5235, cap5236, fp5237, fr5239, hJ, hF5240, F5241, F5242, F5243, G5244, D5245, hB, hZ⟩
      subst hJ
      refine Fr.goX hF5240 (by kernel_rfl) ?_
      refine eX_then ?_
      refine cW_seq ?_
      refine cW_drawnTail [] 12 (by kernel_rfl) (by kernel_rfl) (fun w7888 hc7889 => ?_)
      replace F5241 := F5241.chg hc7889 Dj.nil
      replace F5242 := F5242.chg hc7889 Dj.nil
      replace F5243 := F5243.chg hc7889 Dj.nil
      replace hB := hB.inS hc7889 inNil
      replace hZ := Nat.le_trans hZ hc7889.size
      have hS := Chg.refl [] w7888
      have Z7890 := F5241
      have Z7891 := F5242
      have Z7892 := F5243
      refine wH_take [0, 1] [1, 0] [(139, .int .i64 (wr ((((l0).length : Int)) - 1))), (138, .slice A5235 (l5234).length cap5236)] (by kernel_rfl) (qT (qT qZ)) (by kernel_rfl) ?_
      obtain ⟨u7893, hu7894, hm⟩ := bindE hm
      refine wH_shl (i := 2) (d := 140) (x := 1) (y := wr ((((l0).length : Int)) - 1)) (yk := .i64) (by kernel_rfl) (qT (qT qZ)) (by kernel_rfl) (by kernel_rfl) (p0E hu7894) ?_
      refine wH_take [3] [3, 2, 1, 0] [(141, .int .i64 (wr ((shlI 1 (wr ((((l0).length : Int)) - 1))) - 1)))] (by kernel_rfl) (qT (qT qZ)) (by kernel_rfl) ?_
      obtain ⟨x7895, hx7896, hm⟩ := bindE hm
      refine wH_idx (i := 4) (d := 142) (T := 47) (A := A5235) (n := (l5234).length) (cap := cap5236) (kd := .i64) (m := wr ((shlI 1 (wr ((((l0).length : Int)) - 1))) - 1)) (by kernel_rfl) (qT (qT qZ)) (by kernel_rfl) (by kernel_rfl) sl47 ((F5243.slr encI_ok).is hx7896) ?_
      obtain ⟨A7897, cap7898, hc7900, F7899, K7901⟩ := OwR.row Z7892 encI_ok hx7896
      have G7903 := low_inr G5244
      have Dm7904 := (F5243.dj).symm
      refine wH_load1 (i := 5) (d := 143) (T := 78) (ad := (elA A5235 1 (wr ((shlI 1 (wr ((((l0).length : Int)) - 1))) - 1)) 0)) (v := .slice A7897 (x7895).length cap7898) (by kernel_rfl) (qT (qT qZ)) (by kernel_rfl) (by kernel_rfl) vt78 (fun W hW => hW.keep hc7900) ?_
      refine wH_take [6, 7, 8] [8, 7, 6, 5, 4, 3, 2, 1, 0] [(146, .int .i64 (wr ((((l0).length : Int)) - 1))), (145, .slice A0 (l0).length cap0), (144, .slice A6 (y2).length cap7)] (by kernel_rfl) (qT (qT qZ)) (by kernel_rfl) ?_
      obtain ⟨x7905, hx7906, hm⟩ := bindE hm
      refine wH_idx (i := 9) (d := 147) (T := 25) (A := A0) (n := (l0).length) (cap := cap0) (kd := .i64) (m := wr ((((l0).length : Int)) - 1)) (by kernel_rfl) (qT (qT qZ)) (by kernel_rfl) (by kernel_rfl) sl25 (F5241.is hx7906) ?_
      refine wH_loadA (i := 10) (d := 148) (T := 34) (ad := (elA A0 2 (wr ((((l0).length : Int)) - 1)) 0)) (vs := [.int .i64 (x7905.1), .int .i64 (x7905.2)]) (by kernel_rfl) (qT (qT qZ)) (by kernel_rfl) (by kernel_rfl) vt34 (fun W hW i u hu => Sl.cells_at (Z7890.chg hW Dj.nil) hx7906 0 hu (by rfl)) ?_
      refine wH_all [11] (by rfl) (by kernel_rfl) (by simp) ⟨⟨by kernel_rfl, ?_⟩, trivial⟩
      obtain ⟨y7907, hy7908, hm⟩ := bindE hm
      refine wS_calls (d := 149) (f := 135) (vs := [.slice A6 (y2).length cap7, .agg #[.int .i64 (x7905.1), .int .i64 (x7905.2)]]) (by kernel_rfl) ent135 (c_slices_Index_impl_Point_impl_Point hy7908 (F5242.sl encII_ok)) ?_
      rintro _ w7909 ⟨rfl, hc7910⟩
      replace F5241 := F5241.chg hc7910 Dj.nil
      replace F5242 := F5242.chg hc7910 Dj.nil
      replace F5243 := F5243.chg hc7910 Dj.nil
      replace F7899 := F7899.chg hc7910 Dj.nil
      replace hB := hB.inS hc7910 inNil
      have hSz := hS
      replace hS := hS.inS hc7910 inNil
      replace hZ := Nat.le_trans hZ hc7910.size
      refine ⟨.int .i64 (y7907), rfl, ?_⟩
      refine wS_end (by kernel_rfl) ?_
      refine eX_KH hS ?_
      refine wH_done (by kernel_rfl) ?_
      refine eX_tail ?_
      obtain ⟨x7911, hx7912, hm⟩ := bindE hm
      refine wS_idx (d := 150) (T := 78) (A := A7897) (n := (x7895).length) (cap := cap7898) (kd := .i64) (m := y7907) (by kernel_rfl) sl78 (F7899.is hx7912) ?_
      refine wS_load1 (d := 151) (T := 2) (ad := (elA A7897 1 (y7907) 0)) (v := .int .i64 (x7911)) (by kernel_rfl) vt2 (Sl.cell F7899 hx7912 0 (by rfl)) ?_
      refine wS_pure 1 [(2, .int .i64 (x7911))] (by kernel_rfl) ?_
      refine wS_end (by rfl) ?_
      refine eX_then ?_
      refine cW_ret ?_
      have hq : (some x7911 : Option ((Int))) = some _ := hm
      replace hq := someE hq
      subst hq
      refine eX_ret (vs := [.int .i64 (x7911)]) [.tmp 2] (by rfl) ⟨by (show lkE _ _ _ = _); kernel_rfl, trivial⟩ ?_
      exact ⟨rfl, hB⟩

set_option maxRecDepth 100000 in
/-- impl.SteinerLength -/
theorem c_impl_SteinerLength {w0 : World} {l0 : List (Int × Int)} {A0 : Option Addr} {cap0 : Nat} {fp0 : List Nat} {r : (Int) × (Bool)} (hm : m_impl_SteinerLength l0 = some r) (F0 : Sl 2 encII w0 fp0 A0 l0) :
    Calls Try.prog 51 #[.slice A0 (l0).length cap0] w0 fun e w' => e = .returned (.tuple #[.int .i64 (r.1), .bool (r.2)]) ∧ Chg [] w0 w' := by
  have L0 := F0.low
  have hB : Chg [] w0 w0 := Chg.refl _ _
  have hZ := Nat.le_refl w0.heap.size
  unfold m_impl_SteinerLength at hm
  refine enterE (N := 9) Try.func51 (by rfl) Try.ntmps51 (by simp) [(0, .slice A0 (l0).length cap0)] (by rfl) (by kernel_rfl) (fun a => ?_)
  refine cW_seq ?_
  refine cW_region ?_
  refine wS_pure 2 [(3, .bool (false)), (2, .int .i64 (0))] (by kernel_rfl) ?_
  refine wS_end (by rfl) ?_
  refine eX_then ?_
  refine cW_seq ?_
  refine cW_seq ?_
  refine cW_region ?_
  refine wS_pure 1 [(4, .slice A0 (l0).length cap0)] (by kernel_rfl) ?_
  obtain ⟨y2, hy3, hm⟩ := bindE hm
  refine wS_calls (d := 5) (f := 88) (vs := [.slice A0 (l0).length cap0, .int .i64 (7)]) (by kernel_rfl) ent88 (c_impl_pinsOk hy3 F0) ?_
  rintro _ w4 ⟨rfl, hc5⟩
  replace F0 := F0.chg hc5 Dj.nil
  replace hB := hB.inS hc5 inNil
  replace hZ := Nat.le_trans hZ hc5.size
  refine ⟨.bool (y2), rfl, ?_⟩
  refine wS_pure 1 [(6, .bool (!y2))] (by kernel_rfl) ?_
  refine wS_end (by rfl) ?_
  refine eX_then ?_
  refine cW_cond (t := !y2) (by kernel_rfl) (fun hb6 => ?_) (fun hb6 => ?_)
  · have hm := condT hb6 hm
    refine cW_seq ?_
    refine cW_region ?_
    refine wS_pure 2 [(3, .bool (false)), (2, .int .i64 (0))] (by kernel_rfl) ?_
    refine wS_end (by rfl) ?_
    refine eX_then ?_
    refine cW_ret ?_
    refine eX_then_ret ?_
    have hq : (some ((0, false)) : Option ((Int) × (Bool))) = some _ := hm
    replace hq := someE hq
    subst hq
    refine eX_ret (vs := [.int .i64 (0), .bool (false)]) [.tmp 2, .tmp 3] (by rfl) ⟨by (show lkE _ _ _ = _); kernel_rfl, ⟨by (show lkE _ _ _ = _); kernel_rfl, trivial⟩⟩ ?_
    exact ⟨rfl, hB⟩
  · have hm := condF hb6 hm
    refine cW_skip ?_
    refine eX_then ?_
    refine cW_seq ?_
    refine cW_region ?_
    refine wS_pure 1 [(7, .slice A0 (l0).length cap0)] (by kernel_rfl) ?_
    obtain ⟨y7, hy8, hm⟩ := bindE hm
    refine wS_calls (d := 8) (f := 102) (vs := [.slice A0 (l0).length cap0]) (by kernel_rfl) ent102 (c_impl_steiner hy8 F0) ?_
    rintro _ w9 ⟨rfl, hc10⟩
    replace F0 := F0.chg hc10 Dj.nil
    replace hB := hB.inS hc10 inNil
    replace hZ := Nat.le_trans hZ hc10.size
    refine ⟨.int .i64 (y7), rfl, ?_⟩
    refine wS_pure 2 [(3, .bool (true)), (2, .int .i64 (y7))] (by kernel_rfl) ?_
    refine wS_end (by rfl) ?_
    refine eX_then ?_
    refine cW_ret ?_
    have hq : (some ((y7, true)) : Option ((Int) × (Bool))) = some _ := hm
    replace hq := someE hq
    subst hq
    refine eX_ret (vs := [.int .i64 (y7), .bool (true)]) [.tmp 2, .tmp 3] (by rfl) ⟨by (show lkE _ _ _ = _); kernel_rfl, ⟨by (show lkE _ _ _ = _); kernel_rfl, trivial⟩⟩ ?_
    exact ⟨rfl, hB⟩

set_option maxRecDepth 100000 in
/-- laws.FnExactSteinerLength -/
theorem c_laws_FnExactSteinerLength {w0 : World} {l0 : List (Int × Int)} {A0 : Option Addr} {cap0 : Nat} {fp0 : List Nat} {r : (Bool)} (hm : m_laws_FnExactSteinerLength l0 = some r) (F0 : Sl 2 encII w0 fp0 A0 l0) :
    Calls Try.prog 13 #[.slice A0 (l0).length cap0] w0 fun e w' => e = .returned (.bool (r)) ∧ Chg [] w0 w' := by
  have L0 := F0.low
  have hB : Chg [] w0 w0 := Chg.refl _ _
  have hZ := Nat.le_refl w0.heap.size
  unfold m_laws_FnExactSteinerLength at hm
  refine enterE (N := 40) Try.func13 (by rfl) Try.ntmps13 (by simp) [(0, .slice A0 (l0).length cap0)] (by rfl) (by kernel_rfl) (fun a => ?_)
  refine cW_seq ?_
  refine cW_region ?_
  refine wS_pure 1 [(2, .bool (false))] (by kernel_rfl) ?_
  refine wS_end (by rfl) ?_
  refine eX_then ?_
  refine cW_seq ?_
  refine cW_region ?_
  refine wS_pure 1 [(3, .int .i64 (1048576))] (by kernel_rfl) ?_
  refine wS_end (by rfl) ?_
  refine eX_then ?_
  refine cW_seq ?_
  refine cW_region ?_
  refine wS_pure 2 [(10, .int .i64 (1048576)), (9, .slice A0 (l0).length cap0)] (by kernel_rfl) ?_
  obtain ⟨y2, hy3, hm⟩ := bindE hm
  refine wS_calls (d := 11) (f := 20) (vs := [.slice A0 (l0).length cap0, .int .i64 (1048576)]) (by kernel_rfl) ent20 (c_laws_szPointS hy3 F0) ?_
  rintro _ w4 ⟨rfl, hc5⟩
  replace F0 := F0.chg hc5 Dj.nil
  replace hB := hB.inS hc5 inNil
  replace hZ := Nat.le_trans hZ hc5.size
  refine ⟨.int .i64 (y2), rfl, ?_⟩
  refine wS_pure 1 [(3, .int .i64 (y2))] (by kernel_rfl) ?_
  refine wS_end (by rfl) ?_
  refine eX_then ?_
  refine cW_seq ?_
  refine cW_seq ?_
  refine cW_region ?_
  refine wS_pure 2 [(13, .bool (decide (y2 < 0))), (12, .int .i64 (y2))] (by kernel_rfl) ?_
  refine wS_end (by rfl) ?_
  refine eX_then ?_
  refine cW_cond (t := decide (y2 < 0)) (by kernel_rfl) (fun hb6 => ?_) (fun hb6 => ?_)
  · have hm := condT hb6 hm
    refine cW_seq ?_
    refine cW_region ?_
    refine wS_pure 1 [(2, .bool (true))] (by kernel_rfl) ?_
    refine wS_end (by rfl) ?_
    refine eX_then ?_
    refine cW_ret ?_
    refine eX_then_ret ?_
    have hq : (some true : Option ((Bool))) = some _ := hm
    replace hq := someE hq
    subst hq
    refine eX_ret (vs := [.bool (true)]) [.tmp 2] (by rfl) ⟨by (show lkE _ _ _ = _); kernel_rfl, trivial⟩ ?_
    exact ⟨rfl, hB⟩
  · have hm := condF hb6 hm
    refine cW_skip ?_
    refine eX_then ?_
    refine cW_seq ?_
    refine cW_region ?_
    refine wS_pure 1 [(15, .slice A0 (l0).length cap0)] (by kernel_rfl) ?_
    obtain ⟨y7, hy8, hm⟩ := bindE hm
    refine wS_calls (d := 16) (f := 22) (vs := [.slice A0 (l0).length cap0]) (by kernel_rfl) ent22 (c_laws_toPointS hy8 F0) ?_
    rintro _ w9 ⟨A11, cap12, fp13, rfl, F14, G15, hc10⟩
    replace F0 := F0.chg hc10 Dj.nil
    replace hB := hB.inS hc10 inNil
    replace G15 := low_le hZ G15
    replace hZ := Nat.le_trans hZ hc10.size
    refine ⟨.slice A11 (y7).length cap12, rfl, ?_⟩
    obtain ⟨y18, hy19, hm⟩ := bindE hm
    refine wS_calls (d := 17) (f := 50) (vs := [.slice A11 (y7).length cap12]) (by kernel_rfl) ent50 (c_spec_SteinerLength hy19 (F14.sl encII_ok) F14.cap_le) ?_
    rintro _ w20 ⟨rfl, hc21⟩
    replace F0 := F0.chg hc21 Dj.nil
    replace F14 := F14.chg hc21 Dj.nil
    replace hB := hB.inS hc21 inNil
    replace hZ := Nat.le_trans hZ hc21.size
    refine ⟨.tuple #[.int .i64 (y18.1), .bool (y18.2)], rfl, ?_⟩
    refine wS_pure 5 [(5, .bool (y18.2)), (4, .int .i64 (y18.1)), (19, .bool (y18.2)), (18, .int .i64 (y18.1)), (14, .tuple #[.int .i64 (y18.1), .bool (y18.2)])] (by kernel_rfl) ?_
    refine wS_end (by rfl) ?_
    refine eX_then ?_
    refine cW_seq ?_
    refine cW_region ?_
    refine wS_pure 1 [(20, .slice A0 (l0).length cap0)] (by kernel_rfl) ?_
    obtain ⟨y22, hy23, hm⟩ := bindE hm
    refine wS_calls (d := 21) (f := 22) (vs := [.slice A0 (l0).length cap0]) (by kernel_rfl) ent22 (c_laws_toPointS hy23 F0) ?_
    rintro _ w24 ⟨A26, cap27, fp28, rfl, F29, G30, hc25⟩
    have D33 : Dj fp13 fp28 := Dj.of F14.low G30
    replace F0 := F0.chg hc25 Dj.nil
    replace F14 := F14.chg hc25 Dj.nil
    replace hB := hB.inS hc25 inNil
    replace G30 := low_le hZ G30
    replace hZ := Nat.le_trans hZ hc25.size
    refine ⟨.slice A26 (y22).length cap27, rfl, ?_⟩
    refine wS_pure 1 [(6, .slice A26 (y22).length cap27)] (by kernel_rfl) ?_
    refine wS_end (by rfl) ?_
    refine eX_then ?_
    refine cW_seq ?_
    refine cW_region ?_
    refine wS_pure 1 [(23, .slice A26 (y22).length cap27)] (by kernel_rfl) ?_
    obtain ⟨y34, hy35, hm⟩ := bindE hm
    refine wS_calls (d := 24) (f := 51) (vs := [.slice A26 (y22).length cap27]) (by kernel_rfl) ent51 (c_impl_SteinerLength hy35 (F29.sl encII_ok)) ?_
    rintro _ w36 ⟨rfl, hc37⟩
    replace F0 := F0.chg hc37 Dj.nil
    replace F14 := F14.chg hc37 Dj.nil
    replace F29 := F29.chg hc37 Dj.nil
    replace hB := hB.inS hc37 inNil
    replace hZ := Nat.le_trans hZ hc37.size
    refine ⟨.tuple #[.int .i64 (y34.1), .bool (y34.2)], rfl, ?_⟩
    refine wS_pure 5 [(8, .bool (y34.2)), (7, .int .i64 (y34.1)), (26, .bool (y34.2)), (25, .int .i64 (y34.1)), (22, .tuple #[.int .i64 (y34.1), .bool (y34.2)])] (by kernel_rfl) ?_
    refine wS_end (by rfl) ?_
    refine eX_then ?_
    refine cW_prune [(0, .slice A0 (l0).length cap0), (4, .int .i64 (y18.1)), (5, .bool (y18.2)), (6, .slice A26 (y22).length cap27), (7, .int .i64 (y34.1)), (8, .bool (y34.2))] (by kernel_rfl) (by kernel_rfl) (fun a38 => ?_)
    refine cW_seq ?_
    refine cW_seq ?_
    refine cW_region ?_
    refine wS_pure 4 [(30, .bool (y34.1 != y18.1)), (29, .bool (y34.1 != y18.1)), (28, .int .i64 (y18.1)), (27, .int .i64 (y34.1))] (by kernel_rfl) ?_
    refine wS_bool (y34.1 != y18.1) (fun hb39 => ?_) (fun hb39 => ?_)
    · have hm := condT hb39 hm
      rewrite [hb39]
      refine wS_pure 4 [(34, .bool (true)), (33, undef), (32, undef), (31, undef)] (by kernel_rfl) ?_
      refine wS_end (by rfl) ?_
      refine eX_then ?_
      refine cW_cond_t (by kernel_rfl) ?_
      refine cW_seq ?_
      refine cW_region ?_
      refine wS_pure 1 [(2, .bool (false))] (by kernel_rfl) ?_
      refine wS_end (by rfl) ?_
      refine eX_then ?_
      refine cW_ret ?_
      refine eX_then_ret ?_
      have hq : (some false : Option ((Bool))) = some _ := hm
      replace hq := someE hq
      subst hq
      refine eX_ret (vs := [.bool (false)]) [.tmp 2] (by rfl) ⟨by (show lkE _ _ _ = _); kernel_rfl, trivial⟩ ?_
      exact ⟨rfl, hB⟩
    · have hm := condF hb39 hm
      rewrite [hb39]
      refine wS_pure 4 [(34, .bool (!(y34.2 == y18.2))), (33, .bool (!(y34.2 == y18.2))), (32, .bool (y18.2)), (31, .bool (y34.2))] (by kernel_rfl) ?_
      refine wS_end (by rfl) ?_
      refine eX_then ?_
      refine cW_cond (t := !(y34.2 == y18.2)) (by kernel_rfl) (fun hb40 => ?_) (fun hb40 => ?_)
      · have hm := condT hb40 hm
        refine cW_seq ?_
        refine cW_region ?_
        refine wS_pure 1 [(2, .bool (false))] (by kernel_rfl) ?_
        refine wS_end (by rfl) ?_
        refine eX_then ?_
        refine cW_ret ?_
        refine eX_then_ret ?_
        have hq : (some false : Option ((Bool))) = some _ := hm
        replace hq := someE hq
        subst hq
        refine eX_ret (vs := [.bool (false)]) [.tmp 2] (by rfl) ⟨by (show lkE _ _ _ = _); kernel_rfl, trivial⟩ ?_
        exact ⟨rfl, hB⟩
      · have hm := condF hb40 hm
        refine cW_skip ?_
        refine eX_then ?_
        refine cW_seq ?_
        refine cW_seq ?_
        refine cW_region ?_
        refine wS_pure 2 [(36, .slice A0 (l0).length cap0), (35, .slice A26 (y22).length cap27)] (by kernel_rfl) ?_
        obtain ⟨y41, hy42, hm⟩ := bindE hm
        refine wS_calls (d := 37) (f := 22) (vs := [.slice A0 (l0).length cap0]) (by kernel_rfl) ent22 (c_laws_toPointS hy42 F0) ?_
        rintro _ w43 ⟨A45, cap46, fp47, rfl, F48, G49, hc44⟩
        have D52 : Dj fp13 fp47 := Dj.of F14.low G49
        have D53 : Dj fp28 fp47 := Dj.of F29.low G49
        replace F0 := F0.chg hc44 Dj.nil
        replace F14 := F14.chg hc44 Dj.nil
        replace F29 := F29.chg hc44 Dj.nil
        replace hB := hB.inS hc44 inNil
        replace G49 := low_le hZ G49
        replace hZ := Nat.le_trans hZ hc44.size
        refine ⟨.slice A45 (y41).length cap46, rfl, ?_⟩
        obtain ⟨y54, hy55, hm⟩ := bindE hm
        refine wS_calls (d := 38) (f := 24) (vs := [.slice A26 (y22).length cap27, .slice A45 (y41).length cap46]) (by kernel_rfl) ent24 (c_laws_eqPointS hy55 (F29.sl encII_ok) (F48.sl encII_ok)) ?_
        rintro _ w56 ⟨rfl, hc57⟩
        replace F0 := F0.chg hc57 Dj.nil
        replace F14 := F14.chg hc57 Dj.nil
        replace F29 := F29.chg hc57 Dj.nil
        replace F48 := F48.chg hc57 Dj.nil
        replace hB := hB.inS hc57 inNil
        replace hZ := Nat.le_trans hZ hc57.size
        refine ⟨.bool (y54), rfl, ?_⟩
        refine wS_pure 1 [(39, .bool (!y54))] (by kernel_rfl) ?_
        refine wS_end (by rfl) ?_
        refine eX_then ?_
        refine cW_cond (t := !y54) (by kernel_rfl) (fun hb58 => ?_) (fun hb58 => ?_)
        · have hm := condT hb58 hm
          refine cW_seq ?_
          refine cW_region ?_
          refine wS_pure 1 [(2, .bool (false))] (by kernel_rfl) ?_
          refine wS_end (by rfl) ?_
          refine eX_then ?_
          refine cW_ret ?_
          refine eX_then_ret ?_
          have hq : (some false : Option ((Bool))) = some _ := hm
          replace hq := someE hq
          subst hq
          refine eX_ret (vs := [.bool (false)]) [.tmp 2] (by rfl) ⟨by (show lkE _ _ _ = _); kernel_rfl, trivial⟩ ?_
          exact ⟨rfl, hB⟩
        · have hm := condF hb58 hm
          refine cW_skip ?_
          refine eX_then ?_
          refine cW_seq ?_
          refine cW_region ?_
          refine wS_pure 1 [(2, .bool (true))] (by kernel_rfl) ?_
          refine wS_end (by rfl) ?_
          refine eX_then ?_
          refine cW_ret ?_
          have hq : (some true : Option ((Bool))) = some _ := hm
          replace hq := someE hq
          subst hq
          refine eX_ret (vs := [.bool (true)]) [.tmp 2] (by rfl) ⟨by (show lkE _ _ _ = _); kernel_rfl, trivial⟩ ?_
          exact ⟨rfl, hB⟩

end Go.Proofs.Ytdkpfkmmblmlhaa
