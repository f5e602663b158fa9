/- Printed walks: laws.FnExactFlipGroup. -/
import Derived.Test.YtngnljnfbfgfeaaProg
import Derived.Test.YtngnljnfbfgfeaaWGr03
set_option linter.unusedSimpArgs false
set_option linter.unusedVariables false
namespace Go.Proofs.Ytngnljnfbfgfeaa
open Go.RowKit
attribute [local irreducible] wS cW eX wH

theorem ent49 : Ent Try.prog 49 := fun _ => by kernel_rfl
theorem ent51 : Ent Try.prog 51 := fun _ => by kernel_rfl

set_option maxHeartbeats 20000000 in
set_option maxRecDepth 100000 in
/-- laws.FnExactFlipGroup -/
theorem c_laws_FnExactFlipGroup {w0 : World} {p0_0 : Int} {l0_1 : List (List (Int))} {A0_1 : Option Addr} {cap0_1 : Nat} {fp0_1 : List Nat} {l0_2 : List (List (Int))} {A0_2 : Option Addr} {cap0_2 : Nat} {fp0_2 : List Nat} {l0_3 : List (Int)} {A0_3 : Option Addr} {cap0_3 : Nat} {fp0_3 : List Nat} {l1 : List (Int)} {A1 : Option Addr} {cap1 : Nat} {fp1 : List Nat} {p2 : Int} {r : (Bool)} (hm : m_laws_FnExactFlipGroup p0_0 l0_1 l0_2 l0_3 l1 p2 = some r) (F0_1 : SlR 1 encI w0 fp0_1 A0_1 l0_1) (F0_2 : SlR 1 encI w0 fp0_2 A0_2 l0_2) (F0_3 : Sl 1 encI w0 fp0_3 A0_3 l0_3) (F1 : Sl 1 encI w0 fp1 A1 l1) :
    Calls Try.prog 10 #[.agg #[.int .i64 (p0_0), .slice A0_1 (l0_1).length cap0_1, .slice A0_2 (l0_2).length cap0_2, .slice A0_3 (l0_3).length cap0_3], .slice A1 (l1).length cap1, .int .i64 (p2)] w0 fun e w' => e = .returned (.bool (r)) ∧ Chg [] w0 w' := by
  have L0_1 := F0_1.low
  have L0_2 := F0_2.low
  have L0_3 := F0_3.low
  have L1 := F1.low
  have hB : Chg [] w0 w0 := Chg.refl _ _
  have hZ := Nat.le_refl w0.heap.size
  unfold m_laws_FnExactFlipGroup at hm
  refine enterE (N := 122) Try.func10 (by rfl) Try.ntmps10 (by simp) [(0, .agg #[.int .i64 (p0_0), .slice A0_1 (l0_1).length cap0_1, .slice A0_2 (l0_2).length cap0_2, .slice A0_3 (l0_3).length cap0_3]), (1, .slice A1 (l1).length cap1), (2, .int .i64 (p2))] (by rfl) (by kernel_rfl) (fun a => ?_)
  refine cW_seq ?_
  refine cW_region ?_
  refine wS_box (d := 3) (T := 59) (x := .agg #[.int .i64 (p0_0), .slice A0_1 (l0_1).length cap0_1, .slice A0_2 (l0_2).length cap0_2, .slice A0_3 (l0_3).length cap0_3]) (by kernel_rfl) ?_
  intro b5 w6 G7 F8 hc9
  replace F8 : Cl w6 b5 59 [.int .i64 (p0_0), .slice A0_1 (l0_1).length cap0_1, .slice A0_2 (l0_2).length cap0_2, .slice A0_3 (l0_3).length cap0_3] := F8
  replace F0_1 := F0_1.chg hc9 Dj.nil
  replace F0_2 := F0_2.chg hc9 Dj.nil
  replace F0_3 := F0_3.chg hc9 Dj.nil
  replace F1 := F1.chg hc9 Dj.nil
  replace hB := hB.inS hc9 inNil
  replace G7 := Nat.le_trans hZ G7
  replace hZ := Nat.le_trans hZ hc9.size
  refine wS_pure 1 [(6, .bool (false))] (by kernel_rfl) ?_
  refine wS_end (by rfl) ?_
  refine eX_then ?_
  refine cW_seq ?_
  refine cW_seq ?_
  refine cW_region ?_
  refine wS_pure 3 [(21, .bool (decide ((((l1).length : Int)) > 1048576))), (20, .int .i64 (((l1).length : Int))), (19, .slice A1 (l1).length cap1)] (by kernel_rfl) ?_
  refine wS_end (by rfl) ?_
  refine eX_then ?_
  refine cW_cond (t := decide ((((l1).length : Int)) > 1048576)) (by kernel_rfl) (fun hb11 => ?_) (fun hb11 => ?_)
  · have hm := condT hb11 hm
    refine cW_seq ?_
    refine cW_region ?_
    refine wS_pure 1 [(6, .bool (true))] (by kernel_rfl) ?_
    refine wS_end (by rfl) ?_
    refine eX_then ?_
    refine cW_ret ?_
    refine eX_then_ret ?_
    have hq : (some true : Option ((Bool))) = some _ := hm
    replace hq := someE hq
    subst hq
    refine eX_ret (vs := [.bool (true)]) [.tmp 6] (by rfl) ⟨by (show lkE _ _ _ = _); kernel_rfl, trivial⟩ ?_
    exact ⟨rfl, hB⟩
  · have hm := condF hb11 hm
    refine cW_skip ?_
    refine eX_then ?_
    refine cW_seq ?_
    refine cW_region ?_
    refine wS_pure 1 [(7, .int .i64 (1048576))] (by kernel_rfl) ?_
    refine wS_end (by rfl) ?_
    refine eX_then ?_
    refine cW_seq ?_
    refine cW_region ?_
    refine wS_loadA (d := 22) (T := 59) (ad := ⟨b5, 0, none⟩) (vs := [.int .i64 (p0_0), .slice A0_1 (l0_1).length cap0_1, .slice A0_2 (l0_2).length cap0_2, .slice A0_3 (l0_3).length cap0_3]) (by kernel_rfl) vt59 (fun i u hu => box_cells F8 0 hu (by rfl)) ?_
    refine wS_pure 1 [(23, .int .i64 (1048576))] (by kernel_rfl) ?_
    obtain ⟨y12, hy13, hm⟩ := bindE hm
    refine wS_calls (d := 24) (f := 37) (vs := [.agg #[.int .i64 (p0_0), .slice A0_1 (l0_1).length cap0_1, .slice A0_2 (l0_2).length cap0_2, .slice A0_3 (l0_3).length cap0_3], .int .i64 (1048576)]) (by kernel_rfl) ent37 (c_laws_szWiring hy13 F0_1 F0_2 F0_3) ?_
    rintro _ w14 ⟨rfl, hc15⟩
    replace F0_1 := F0_1.chg hc15 Dj.nil
    replace F0_2 := F0_2.chg hc15 Dj.nil
    replace F0_3 := F0_3.chg hc15 Dj.nil
    replace F1 := F1.chg hc15 Dj.nil
    replace F8 := F8.chg hc15 notNil
    replace hB := hB.inS hc15 inNil
    replace hZ := Nat.le_trans hZ hc15.size
    refine ⟨.int .i64 (y12), rfl, ?_⟩
    refine wS_pure 1 [(7, .int .i64 (y12))] (by kernel_rfl) ?_
    refine wS_end (by rfl) ?_
    refine eX_then ?_
    refine cW_seq ?_
    refine cW_seq ?_
    refine cW_region ?_
    refine wS_pure 2 [(26, .bool (decide (y12 < 0))), (25, .int .i64 (y12))] (by kernel_rfl) ?_
    refine wS_end (by rfl) ?_
    refine eX_then ?_
    refine cW_cond (t := decide (y12 < 0)) (by kernel_rfl) (fun hb16 => ?_) (fun hb16 => ?_)
    · have hm := condT hb16 hm
      refine cW_seq ?_
      refine cW_region ?_
      refine wS_pure 1 [(6, .bool (true))] (by kernel_rfl) ?_
      refine wS_end (by rfl) ?_
      refine eX_then ?_
      refine cW_ret ?_
      refine eX_then_ret ?_
      have hq : (some true : Option ((Bool))) = some _ := hm
      replace hq := someE hq
      subst hq
      refine eX_ret (vs := [.bool (true)]) [.tmp 6] (by rfl) ⟨by (show lkE _ _ _ = _); kernel_rfl, trivial⟩ ?_
      exact ⟨rfl, hB⟩
    · have hm := condF hb16 hm
      refine cW_skip ?_
      refine eX_then ?_
      refine cW_seq ?_
      refine cW_region ?_
      refine wS_loadA (d := 28) (T := 59) (ad := ⟨b5, 0, none⟩) (vs := [.int .i64 (p0_0), .slice A0_1 (l0_1).length cap0_1, .slice A0_2 (l0_2).length cap0_2, .slice A0_3 (l0_3).length cap0_3]) (by kernel_rfl) vt59 (fun i u hu => box_cells F8 0 hu (by rfl)) ?_
      obtain ⟨y17, hy18, hm⟩ := bindE hm
      refine wS_calls (d := 29) (f := 39) (vs := [.agg #[.int .i64 (p0_0), .slice A0_1 (l0_1).length cap0_1, .slice A0_2 (l0_2).length cap0_2, .slice A0_3 (l0_3).length cap0_3]]) (by kernel_rfl) ent39 (c_laws_toWiring hy18 F0_1 F0_2 F0_3) ?_
      rintro _ w19 ⟨A21, cap22, fp23, fr26, A27, cap28, fp29, fr32, A33, cap34, fp35, rfl, F24, G25, F30, G31, F36, G37, D39, D40, D41, hc20⟩
      have D43 : Dj [b5] (fp23 ++ fr26) := Dj.of (lt1 F8.lt) G25
      have D45 : Dj [b5] (fp29 ++ fr32) := Dj.of (lt1 F8.lt) G31
      have D47 : Dj [b5] fp35 := Dj.of (lt1 F8.lt) G37
      replace F0_1 := F0_1.chg hc20 Dj.nil
      replace F0_2 := F0_2.chg hc20 Dj.nil
      replace F0_3 := F0_3.chg hc20 Dj.nil
      replace F1 := F1.chg hc20 Dj.nil
      replace F8 := F8.chg hc20 notNil
      replace hB := hB.inS hc20 inNil
      replace G25 := low_le hZ G25
      replace G31 := low_le hZ G31
      replace G37 := low_le hZ G37
      replace hZ := Nat.le_trans hZ hc20.size
      refine ⟨.agg #[.int .i64 (y17.1), .slice A21 (y17.2.1).length cap22, .slice A27 (y17.2.2.1).length cap28, .slice A33 (y17.2.2.2).length cap34], rfl, ?_⟩
      refine wS_pure 1 [(30, .slice A1 (l1).length cap1)] (by kernel_rfl) ?_
      obtain ⟨y48, hy49, hm⟩ := bindE hm
      refine wS_calls (d := 31) (f := 50) (vs := [.slice A1 (l1).length cap1]) (by kernel_rfl) ent50 (c_laws_toInt64S hy49 F1) ?_
      rintro _ w50 ⟨A52, cap53, fp54, rfl, F55, G56, hc51⟩
      have D59 : Dj [b5] fp54 := Dj.of (lt1 F8.lt) G56
      have D60 : Dj (fp23 ++ fr26) fp54 := Dj.of F24.low G56
      have D61 : Dj (fp29 ++ fr32) fp54 := Dj.of F30.low G56
      have D62 : Dj fp35 fp54 := Dj.of F36.low G56
      replace F0_1 := F0_1.chg hc51 Dj.nil
      replace F0_2 := F0_2.chg hc51 Dj.nil
      replace F0_3 := F0_3.chg hc51 Dj.nil
      replace F1 := F1.chg hc51 Dj.nil
      replace F8 := F8.chg hc51 notNil
      replace F24 := F24.chg hc51 Dj.nil
      replace F30 := F30.chg hc51 Dj.nil
      replace F36 := F36.chg hc51 Dj.nil
      replace hB := hB.inS hc51 inNil
      replace G56 := low_le hZ G56
      replace hZ := Nat.le_trans hZ hc51.size
      refine ⟨.slice A52 (y48).length cap53, rfl, ?_⟩
      refine wS_pure 1 [(32, .int .i64 (p2))] (by kernel_rfl) ?_
      obtain ⟨y63, hy64, hm⟩ := bindE hm
      refine wS_calls (d := 33) (f := 49) (vs := [.agg #[.int .i64 (y17.1), .slice A21 (y17.2.1).length cap22, .slice A27 (y17.2.2.1).length cap28, .slice A33 (y17.2.2.2).length cap34], .slice A52 (y48).length cap53, .int .i64 (p2)]) (by kernel_rfl) ent49 (c_spec_FlipGroup hy64 (F24.slr encI_ok) (F30.slr encI_ok) (F36.sl encI_ok) (F55.sl encI_ok)) ?_
      rintro _ w65 ⟨A67, cap68, fp69, rfl, F70, G71, hc66⟩
      have D74 : Dj [b5] fp69 := Dj.of (lt1 F8.lt) G71
      have D75 : Dj (fp23 ++ fr26) fp69 := Dj.of F24.low G71
      have D76 : Dj (fp29 ++ fr32) fp69 := Dj.of F30.low G71
      have D77 : Dj fp35 fp69 := Dj.of F36.low G71
      have D78 : Dj fp54 fp69 := Dj.of F55.low G71
      replace F0_1 := F0_1.chg hc66 Dj.nil
      replace F0_2 := F0_2.chg hc66 Dj.nil
      replace F0_3 := F0_3.chg hc66 Dj.nil
      replace F1 := F1.chg hc66 Dj.nil
      replace F8 := F8.chg hc66 notNil
      replace F24 := F24.chg hc66 Dj.nil
      replace F30 := F30.chg hc66 Dj.nil
      replace F36 := F36.chg hc66 Dj.nil
      replace F55 := F55.chg hc66 Dj.nil
      replace hB := hB.inS hc66 inNil
      replace G71 := low_le hZ G71
      replace hZ := Nat.le_trans hZ hc66.size
      refine ⟨.tuple #[.slice A67 (y63.1).length cap68, .bool (y63.2)], rfl, ?_⟩
      refine wS_pure 5 [(9, .bool (y63.2)), (8, .slice A67 (y63.1).length cap68), (35, .bool (y63.2)), (34, .slice A67 (y63.1).length cap68), (27, .tuple #[.slice A67 (y63.1).length cap68, .bool (y63.2)])] (by kernel_rfl) ?_
      refine wS_end (by rfl) ?_
      refine eX_then ?_
      refine cW_prune [(1, .slice A1 (l1).length cap1), (2, .int .i64 (p2)), (3, .pointer (some ⟨b5, 0, none⟩)), (8, .slice A67 (y63.1).length cap68), (9, .bool (y63.2))] (by kernel_rfl) (by kernel_rfl) (fun a79 => ?_)
      refine cW_seq ?_
      refine cW_region ?_
      refine wS_loadA (d := 36) (T := 59) (ad := ⟨b5, 0, none⟩) (vs := [.int .i64 (p0_0), .slice A0_1 (l0_1).length cap0_1, .slice A0_2 (l0_2).length cap0_2, .slice A0_3 (l0_3).length cap0_3]) (by kernel_rfl) vt59 (fun i u hu => box_cells F8 0 hu (by rfl)) ?_
      obtain ⟨y80, hy81, hm⟩ := bindE hm
      refine wS_calls (d := 37) (f := 39) (vs := [.agg #[.int .i64 (p0_0), .slice A0_1 (l0_1).length cap0_1, .slice A0_2 (l0_2).length cap0_2, .slice A0_3 (l0_3).length cap0_3]]) (by kernel_rfl) ent39 (c_laws_toWiring hy81 F0_1 F0_2 F0_3) ?_
      rintro _ w82 ⟨A84, cap85, fp86, fr89, A90, cap91, fp92, fr95, A96, cap97, fp98, rfl, F87, G88, F93, G94, F99, G100, D102, D103, D104, hc83⟩
      have D106 : Dj [b5] (fp86 ++ fr89) := Dj.of (lt1 F8.lt) G88
      have D107 : Dj (fp23 ++ fr26) (fp86 ++ fr89) := Dj.of F24.low G88
      have D108 : Dj (fp29 ++ fr32) (fp86 ++ fr89) := Dj.of F30.low G88
      have D109 : Dj fp35 (fp86 ++ fr89) := Dj.of F36.low G88
      have D110 : Dj fp54 (fp86 ++ fr89) := Dj.of F55.low G88
      have D111 : Dj fp69 (fp86 ++ fr89) := Dj.of F70.low G88
      have D113 : Dj [b5] (fp92 ++ fr95) := Dj.of (lt1 F8.lt) G94
      have D114 : Dj (fp23 ++ fr26) (fp92 ++ fr95) := Dj.of F24.low G94
      have D115 : Dj (fp29 ++ fr32) (fp92 ++ fr95) := Dj.of F30.low G94
      have D116 : Dj fp35 (fp92 ++ fr95) := Dj.of F36.low G94
      have D117 : Dj fp54 (fp92 ++ fr95) := Dj.of F55.low G94
      have D118 : Dj fp69 (fp92 ++ fr95) := Dj.of F70.low G94
      have D120 : Dj [b5] fp98 := Dj.of (lt1 F8.lt) G100
      have D121 : Dj (fp23 ++ fr26) fp98 := Dj.of F24.low G100
      have D122 : Dj (fp29 ++ fr32) fp98 := Dj.of F30.low G100
      have D123 : Dj fp35 fp98 := Dj.of F36.low G100
      have D124 : Dj fp54 fp98 := Dj.of F55.low G100
      have D125 : Dj fp69 fp98 := Dj.of F70.low G100
      replace F0_1 := F0_1.chg hc83 Dj.nil
      replace F0_2 := F0_2.chg hc83 Dj.nil
      replace F0_3 := F0_3.chg hc83 Dj.nil
      replace F1 := F1.chg hc83 Dj.nil
      replace F8 := F8.chg hc83 notNil
      replace F24 := F24.chg hc83 Dj.nil
      replace F30 := F30.chg hc83 Dj.nil
      replace F36 := F36.chg hc83 Dj.nil
      replace F55 := F55.chg hc83 Dj.nil
      replace F70 := F70.chg hc83 Dj.nil
      replace hB := hB.inS hc83 inNil
      replace G88 := low_le hZ G88
      replace G94 := low_le hZ G94
      replace G100 := low_le hZ G100
      replace hZ := Nat.le_trans hZ hc83.size
      refine ⟨.agg #[.int .i64 (y80.1), .slice A84 (y80.2.1).length cap85, .slice A90 (y80.2.2.1).length cap91, .slice A96 (y80.2.2.2).length cap97], rfl, ?_⟩
      refine wS_alloc (d := 10) (T := 27) (z := .agg #[.int .i64 (0), .slice none 0 0, .slice none 0 0, .slice none 0 0]) (by kernel_rfl) (by kernel_rfl) ?_
      intro b126 w127 G128 F129 hc130
      replace F129 : Cl w127 b126 27 [.int .i64 (0), .slice none 0 0, .slice none 0 0, .slice none 0 0] := F129
      have D132 : Dj [b5] [b126] := Dj.of (lt1 F8.lt) (low1 G128)
      have D133 : Dj (fp23 ++ fr26) [b126] := Dj.of F24.low (low1 G128)
      have D134 : Dj (fp29 ++ fr32) [b126] := Dj.of F30.low (low1 G128)
      have D135 : Dj fp35 [b126] := Dj.of F36.low (low1 G128)
      have D136 : Dj fp54 [b126] := Dj.of F55.low (low1 G128)
      have D137 : Dj fp69 [b126] := Dj.of F70.low (low1 G128)
      have D138 : Dj (fp86 ++ fr89) [b126] := Dj.of F87.low (low1 G128)
      have D139 : Dj (fp92 ++ fr95) [b126] := Dj.of F93.low (low1 G128)
      have D140 : Dj fp98 [b126] := Dj.of F99.low (low1 G128)
      replace F0_1 := F0_1.chg hc130 Dj.nil
      replace F0_2 := F0_2.chg hc130 Dj.nil
      replace F0_3 := F0_3.chg hc130 Dj.nil
      replace F1 := F1.chg hc130 Dj.nil
      replace F8 := F8.chg hc130 notNil
      replace F24 := F24.chg hc130 Dj.nil
      replace F30 := F30.chg hc130 Dj.nil
      replace F36 := F36.chg hc130 Dj.nil
      replace F55 := F55.chg hc130 Dj.nil
      replace F70 := F70.chg hc130 Dj.nil
      replace F87 := F87.chg hc130 Dj.nil
      replace F93 := F93.chg hc130 Dj.nil
      replace F99 := F99.chg hc130 Dj.nil
      replace hB := hB.inS hc130 inNil
      replace G128 := Nat.le_trans hZ G128
      replace hZ := Nat.le_trans hZ hc130.size
      refine wS_store (T := 27) (g := b126) (o := 0) (ad := ⟨b126, 0, none⟩) (v := .agg #[.int .i64 (y80.1), .slice A84 (y80.2.1).length cap85, .slice A90 (y80.2.2.1).length cap91, .slice A96 (y80.2.2.2).length cap97]) (vs := [.int .i64 (y80.1), .slice A84 (y80.2.1).length cap85, .slice A90 (y80.2.2.1).length cap91, .slice A96 (y80.2.2.2).length cap97]) (by kernel_rfl) (by rfl) sz27 (by rfl) (by rfl) F129 (by simp only [List.length_cons, List.length_nil]; omega) ?_
      intro w141 F142 hc143
      replace F0_1 := F0_1.chg hc143 (Dj.of L0_1 (low1 G128))
      replace F0_2 := F0_2.chg hc143 (Dj.of L0_2 (low1 G128))
      replace F0_3 := F0_3.chg hc143 (Dj.of L0_3 (low1 G128))
      replace F1 := F1.chg hc143 (Dj.of L1 (low1 G128))
      replace F8 := F8.chg hc143 (dj1 D132)
      replace F24 := F24.chg hc143 D133
      replace F30 := F30.chg hc143 D134
      replace F36 := F36.chg hc143 D135
      replace F55 := F55.chg hc143 D136
      replace F70 := F70.chg hc143 D137
      replace F87 := F87.chg hc143 D138
      replace F93 := F93.chg hc143 D139
      replace F99 := F99.chg hc143 D140
      replace hB := hB.inS hc143 (inLow (low1 G128))
      replace hZ := Nat.le_trans hZ hc143.size
      replace F142 : Cl w141 b126 27 [.int .i64 (y80.1), .slice A84 (y80.2.1).length cap85, .slice A90 (y80.2.2.1).length cap91, .slice A96 (y80.2.2.2).length cap97] := F142
      clear F129
      refine wS_end (by rfl) ?_
      refine eX_then ?_
      refine cW_seq ?_
      refine cW_region ?_
      refine wS_pure 1 [(38, .slice A1 (l1).length cap1)] (by kernel_rfl) ?_
      obtain ⟨y144, hy145, hm⟩ := bindE hm
      refine wS_calls (d := 39) (f := 50) (vs := [.slice A1 (l1).length cap1]) (by kernel_rfl) ent50 (c_laws_toInt64S hy145 F1) ?_
      rintro _ w146 ⟨A148, cap149, fp150, rfl, F151, G152, hc147⟩
      have D155 : Dj [b5] fp150 := Dj.of (lt1 F8.lt) G152
      have D156 : Dj (fp23 ++ fr26) fp150 := Dj.of F24.low G152
      have D157 : Dj (fp29 ++ fr32) fp150 := Dj.of F30.low G152
      have D158 : Dj fp35 fp150 := Dj.of F36.low G152
      have D159 : Dj fp54 fp150 := Dj.of F55.low G152
      have D160 : Dj fp69 fp150 := Dj.of F70.low G152
      have D161 : Dj (fp86 ++ fr89) fp150 := Dj.of F87.low G152
      have D162 : Dj (fp92 ++ fr95) fp150 := Dj.of F93.low G152
      have D163 : Dj fp98 fp150 := Dj.of F99.low G152
      have D164 : Dj [b126] fp150 := Dj.of (lt1 F142.lt) G152
      replace F0_1 := F0_1.chg hc147 Dj.nil
      replace F0_2 := F0_2.chg hc147 Dj.nil
      replace F0_3 := F0_3.chg hc147 Dj.nil
      replace F1 := F1.chg hc147 Dj.nil
      replace F8 := F8.chg hc147 notNil
      replace F24 := F24.chg hc147 Dj.nil
      replace F30 := F30.chg hc147 Dj.nil
      replace F36 := F36.chg hc147 Dj.nil
      replace F55 := F55.chg hc147 Dj.nil
      replace F70 := F70.chg hc147 Dj.nil
      replace F87 := F87.chg hc147 Dj.nil
      replace F93 := F93.chg hc147 Dj.nil
      replace F99 := F99.chg hc147 Dj.nil
      replace F142 := F142.chg hc147 notNil
      replace hB := hB.inS hc147 inNil
      replace G152 := low_le hZ G152
      replace hZ := Nat.le_trans hZ hc147.size
      refine ⟨.slice A148 (y144).length cap149, rfl, ?_⟩
      refine wS_pure 1 [(11, .slice A148 (y144).length cap149)] (by kernel_rfl) ?_
      refine wS_end (by rfl) ?_
      refine eX_then ?_
      refine cW_seq ?_
      refine cW_region ?_
      refine wS_loadA (d := 41) (T := 27) (ad := ⟨b126, 0, none⟩) (vs := [.int .i64 (y80.1), .slice A84 (y80.2.1).length cap85, .slice A90 (y80.2.2.1).length cap91, .slice A96 (y80.2.2.2).length cap97]) (by kernel_rfl) vt27 (fun i u hu => box_cells F142 0 hu (by rfl)) ?_
      refine wS_pure 2 [(43, .int .i64 (p2)), (42, .slice A148 (y144).length cap149)] (by kernel_rfl) ?_
      obtain ⟨y165, hy166, hm⟩ := bindE hm
      refine wS_calls (d := 44) (f := 51) (vs := [.agg #[.int .i64 (y80.1), .slice A84 (y80.2.1).length cap85, .slice A90 (y80.2.2.1).length cap91, .slice A96 (y80.2.2.2).length cap97], .slice A148 (y144).length cap149, .int .i64 (p2)]) (by kernel_rfl) ent51 (c_impl_FlipGroup hy166 (F87.slr encI_ok) (F93.slr encI_ok) (F99.sl encI_ok) (F151.sl encI_ok)) ?_
      rintro _ w167 ⟨A169, cap170, fp171, rfl, F172, G173, hc168⟩
      have D176 : Dj [b5] fp171 := Dj.of (lt1 F8.lt) G173
      have D177 : Dj (fp23 ++ fr26) fp171 := Dj.of F24.low G173
      have D178 : Dj (fp29 ++ fr32) fp171 := Dj.of F30.low G173
      have D179 : Dj fp35 fp171 := Dj.of F36.low G173
      have D180 : Dj fp54 fp171 := Dj.of F55.low G173
      have D181 : Dj fp69 fp171 := Dj.of F70.low G173
      have D182 : Dj (fp86 ++ fr89) fp171 := Dj.of F87.low G173
      have D183 : Dj (fp92 ++ fr95) fp171 := Dj.of F93.low G173
      have D184 : Dj fp98 fp171 := Dj.of F99.low G173
      have D185 : Dj [b126] fp171 := Dj.of (lt1 F142.lt) G173
      have D186 : Dj fp150 fp171 := Dj.of F151.low G173
      replace F0_1 := F0_1.chg hc168 Dj.nil
      replace F0_2 := F0_2.chg hc168 Dj.nil
      replace F0_3 := F0_3.chg hc168 Dj.nil
      replace F1 := F1.chg hc168 Dj.nil
      replace F8 := F8.chg hc168 notNil
      replace F24 := F24.chg hc168 Dj.nil
      replace F30 := F30.chg hc168 Dj.nil
      replace F36 := F36.chg hc168 Dj.nil
      replace F55 := F55.chg hc168 Dj.nil
      replace F70 := F70.chg hc168 Dj.nil
      replace F87 := F87.chg hc168 Dj.nil
      replace F93 := F93.chg hc168 Dj.nil
      replace F99 := F99.chg hc168 Dj.nil
      replace F142 := F142.chg hc168 notNil
      replace F151 := F151.chg hc168 Dj.nil
      replace hB := hB.inS hc168 inNil
      replace G173 := low_le hZ G173
      replace hZ := Nat.le_trans hZ hc168.size
      refine ⟨.tuple #[.slice A169 (y165.1).length cap170, .bool (y165.2)], rfl, ?_⟩
      refine wS_pure 5 [(13, .bool (y165.2)), (12, .slice A169 (y165.1).length cap170), (46, .bool (y165.2)), (45, .slice A169 (y165.1).length cap170), (40, .tuple #[.slice A169 (y165.1).length cap170, .bool (y165.2)])] (by kernel_rfl) ?_
      refine wS_end (by rfl) ?_
      refine eX_then ?_
      refine cW_seq ?_
      refine cW_seq ?_
      refine cW_region ?_
      refine wS_pure 2 [(48, .slice A67 (y63.1).length cap68), (47, .slice A169 (y165.1).length cap170)] (by kernel_rfl) ?_
      obtain ⟨y187, hy188, hm⟩ := bindE hm
      refine wS_calls (d := 49) (f := 42) (vs := [.slice A169 (y165.1).length cap170, .slice A67 (y63.1).length cap68]) (by kernel_rfl) ent42 (c_laws_eqInt64S hy188 (F172.sl encI_ok) (F70.sl encI_ok)) ?_
      rintro _ w189 ⟨rfl, hc190⟩
      replace F0_1 := F0_1.chg hc190 Dj.nil
      replace F0_2 := F0_2.chg hc190 Dj.nil
      replace F0_3 := F0_3.chg hc190 Dj.nil
      replace F1 := F1.chg hc190 Dj.nil
      replace F8 := F8.chg hc190 notNil
      replace F24 := F24.chg hc190 Dj.nil
      replace F30 := F30.chg hc190 Dj.nil
      replace F36 := F36.chg hc190 Dj.nil
      replace F55 := F55.chg hc190 Dj.nil
      replace F70 := F70.chg hc190 Dj.nil
      replace F87 := F87.chg hc190 Dj.nil
      replace F93 := F93.chg hc190 Dj.nil
      replace F99 := F99.chg hc190 Dj.nil
      replace F142 := F142.chg hc190 notNil
      replace F151 := F151.chg hc190 Dj.nil
      replace F172 := F172.chg hc190 Dj.nil
      replace hB := hB.inS hc190 inNil
      replace hZ := Nat.le_trans hZ hc190.size
      refine ⟨.bool (y187), rfl, ?_⟩
      refine wS_pure 2 [(51, .bool (!y187)), (50, .bool (!y187))] (by kernel_rfl) ?_
      refine wS_bool (!y187) (fun hb191 => ?_) (fun hb191 => ?_)
      · have hm := condT hb191 hm
        rewrite [hb191]
        refine wS_pure 4 [(55, .bool (true)), (54, undef), (53, undef), (52, undef)] (by kernel_rfl) ?_
        refine wS_end (by rfl) ?_
        refine eX_then ?_
        refine cW_prune [(1, .slice A1 (l1).length cap1), (2, .int .i64 (p2)), (3, .pointer (some ⟨b5, 0, none⟩)), (8, .slice A67 (y63.1).length cap68), (9, .bool (y63.2)), (10, .pointer (some ⟨b126, 0, none⟩)), (11, .slice A148 (y144).length cap149), (12, .slice A169 (y165.1).length cap170), (13, .bool (y165.2)), (55, .bool (true))] (by kernel_rfl) (by kernel_rfl) (fun a192 => ?_)
        refine cW_cond_t (by kernel_rfl) ?_
        refine cW_seq ?_
        refine cW_region ?_
        refine wS_pure 1 [(6, .bool (false))] (by kernel_rfl) ?_
        refine wS_end (by rfl) ?_
        refine eX_then ?_
        refine cW_ret ?_
        refine eX_then_ret ?_
        have hq : (some false : Option ((Bool))) = some _ := hm
        replace hq := someE hq
        subst hq
        refine eX_ret (vs := [.bool (false)]) [.tmp 6] (by rfl) ⟨by (show lkE _ _ _ = _); kernel_rfl, trivial⟩ ?_
        exact ⟨rfl, hB⟩
      · have hm := condF hb191 hm
        rewrite [hb191]
        refine wS_pure 4 [(55, .bool (!(y165.2 == y63.2))), (54, .bool (!(y165.2 == y63.2))), (53, .bool (y63.2)), (52, .bool (y165.2))] (by kernel_rfl) ?_
        refine wS_end (by rfl) ?_
        refine eX_then ?_
        refine cW_prune [(1, .slice A1 (l1).length cap1), (2, .int .i64 (p2)), (3, .pointer (some ⟨b5, 0, none⟩)), (8, .slice A67 (y63.1).length cap68), (9, .bool (y63.2)), (10, .pointer (some ⟨b126, 0, none⟩)), (11, .slice A148 (y144).length cap149), (12, .slice A169 (y165.1).length cap170), (13, .bool (y165.2)), (55, .bool (!(y165.2 == y63.2)))] (by kernel_rfl) (by kernel_rfl) (fun a193 => ?_)
        refine cW_cond (t := !(y165.2 == y63.2)) (by kernel_rfl) (fun hb194 => ?_) (fun hb194 => ?_)
        · have hm := condT hb194 hm
          refine cW_seq ?_
          refine cW_region ?_
          refine wS_pure 1 [(6, .bool (false))] (by kernel_rfl) ?_
          refine wS_end (by rfl) ?_
          refine eX_then ?_
          refine cW_ret ?_
          refine eX_then_ret ?_
          have hq : (some false : Option ((Bool))) = some _ := hm
          replace hq := someE hq
          subst hq
          refine eX_ret (vs := [.bool (false)]) [.tmp 6] (by rfl) ⟨by (show lkE _ _ _ = _); kernel_rfl, trivial⟩ ?_
          exact ⟨rfl, hB⟩
        · have hm := condF hb194 hm
          refine cW_skip ?_
          refine eX_then ?_
          refine cW_seq ?_
          refine cW_seq ?_
          refine cW_drawnTail [] 3 (by kernel_rfl) (by kernel_rfl) (fun w281 hc282 => ?_)
          replace F0_1 := F0_1.chg hc282 Dj.nil
          replace F0_2 := F0_2.chg hc282 Dj.nil
          replace F0_3 := F0_3.chg hc282 Dj.nil
          replace F1 := F1.chg hc282 Dj.nil
          replace F8 := F8.chg hc282 notNil
          replace F24 := F24.chg hc282 Dj.nil
          replace F30 := F30.chg hc282 Dj.nil
          replace F36 := F36.chg hc282 Dj.nil
          replace F55 := F55.chg hc282 Dj.nil
          replace F70 := F70.chg hc282 Dj.nil
          replace F87 := F87.chg hc282 Dj.nil
          replace F93 := F93.chg hc282 Dj.nil
          replace F99 := F99.chg hc282 Dj.nil
          replace F142 := F142.chg hc282 notNil
          replace F151 := F151.chg hc282 Dj.nil
          replace F172 := F172.chg hc282 Dj.nil
          replace hB := hB.inS hc282 inNil
          replace hZ := Nat.le_trans hZ hc282.size
          have hS := Chg.refl [] w281
          have Z283 := F0_1
          have Z284 := F0_2
          have Z285 := F0_3
          have Z286 := F1
          have Z287 := F8
          have Z288 := F24
          have Z289 := F30
          have Z290 := F36
          have Z291 := F55
          have Z292 := F70
          have Z293 := F87
          have Z294 := F93
          have Z295 := F99
          have Z296 := F142
          have Z297 := F151
          have Z298 := F172
          refine wH_loadA (i := 0) (d := 56) (T := 27) (ad := ⟨b126, 0, none⟩) (vs := [.int .i64 (y80.1), .slice A84 (y80.2.1).length cap85, .slice A90 (y80.2.2.1).length cap91, .slice A96 (y80.2.2.2).length cap97]) (by kernel_rfl) (qT (qT (qT qZ))) (by kernel_rfl) (by kernel_rfl) vt27 (fun W hW i u hu => box_cells (Z296.chg hW notNil) 0 hu (by rfl)) ?_
          refine wH_loadA (i := 1) (d := 57) (T := 59) (ad := ⟨b5, 0, none⟩) (vs := [.int .i64 (p0_0), .slice A0_1 (l0_1).length cap0_1, .slice A0_2 (l0_2).length cap0_2, .slice A0_3 (l0_3).length cap0_3]) (by kernel_rfl) (qT (qT (qT qZ))) (by kernel_rfl) (by kernel_rfl) vt59 (fun W hW i u hu => box_cells (Z287.chg hW notNil) 0 hu (by rfl)) ?_
          refine wH_all [2] (by rfl) (by kernel_rfl) (by simp) ⟨⟨by kernel_rfl, ?_⟩, trivial⟩
          obtain ⟨y299, hy300, hm⟩ := bindE hm
          refine wS_calls (d := 58) (f := 39) (vs := [.agg #[.int .i64 (p0_0), .slice A0_1 (l0_1).length cap0_1, .slice A0_2 (l0_2).length cap0_2, .slice A0_3 (l0_3).length cap0_3]]) (by kernel_rfl) ent39 (c_laws_toWiring hy300 F0_1 F0_2 F0_3) ?_
          rintro _ w301 ⟨A303, cap304, fp305, fr308, A309, cap310, fp311, fr314, A315, cap316, fp317, rfl, F306, G307, F312, G313, F318, G319, D321, D322, D323, hc302⟩
          have D325 : Dj [b5] (fp305 ++ fr308) := Dj.of (lt1 F8.lt) G307
          have D326 : Dj (fp23 ++ fr26) (fp305 ++ fr308) := Dj.of F24.low G307
          have D327 : Dj (fp29 ++ fr32) (fp305 ++ fr308) := Dj.of F30.low G307
          have D328 : Dj fp35 (fp305 ++ fr308) := Dj.of F36.low G307
          have D329 : Dj fp54 (fp305 ++ fr308) := Dj.of F55.low G307
          have D330 : Dj fp69 (fp305 ++ fr308) := Dj.of F70.low G307
          have D331 : Dj (fp86 ++ fr89) (fp305 ++ fr308) := Dj.of F87.low G307
          have D332 : Dj (fp92 ++ fr95) (fp305 ++ fr308) := Dj.of F93.low G307
          have D333 : Dj fp98 (fp305 ++ fr308) := Dj.of F99.low G307
          have D334 : Dj [b126] (fp305 ++ fr308) := Dj.of (lt1 F142.lt) G307
          have D335 : Dj fp150 (fp305 ++ fr308) := Dj.of F151.low G307
          have D336 : Dj fp171 (fp305 ++ fr308) := Dj.of F172.low G307
          have D338 : Dj [b5] (fp311 ++ fr314) := Dj.of (lt1 F8.lt) G313
          have D339 : Dj (fp23 ++ fr26) (fp311 ++ fr314) := Dj.of F24.low G313
          have D340 : Dj (fp29 ++ fr32) (fp311 ++ fr314) := Dj.of F30.low G313
          have D341 : Dj fp35 (fp311 ++ fr314) := Dj.of F36.low G313
          have D342 : Dj fp54 (fp311 ++ fr314) := Dj.of F55.low G313
          have D343 : Dj fp69 (fp311 ++ fr314) := Dj.of F70.low G313
          have D344 : Dj (fp86 ++ fr89) (fp311 ++ fr314) := Dj.of F87.low G313
          have D345 : Dj (fp92 ++ fr95) (fp311 ++ fr314) := Dj.of F93.low G313
          have D346 : Dj fp98 (fp311 ++ fr314) := Dj.of F99.low G313
          have D347 : Dj [b126] (fp311 ++ fr314) := Dj.of (lt1 F142.lt) G313
          have D348 : Dj fp150 (fp311 ++ fr314) := Dj.of F151.low G313
          have D349 : Dj fp171 (fp311 ++ fr314) := Dj.of F172.low G313
          have D351 : Dj [b5] fp317 := Dj.of (lt1 F8.lt) G319
          have D352 : Dj (fp23 ++ fr26) fp317 := Dj.of F24.low G319
          have D353 : Dj (fp29 ++ fr32) fp317 := Dj.of F30.low G319
          have D354 : Dj fp35 fp317 := Dj.of F36.low G319
          have D355 : Dj fp54 fp317 := Dj.of F55.low G319
          have D356 : Dj fp69 fp317 := Dj.of F70.low G319
          have D357 : Dj (fp86 ++ fr89) fp317 := Dj.of F87.low G319
          have D358 : Dj (fp92 ++ fr95) fp317 := Dj.of F93.low G319
          have D359 : Dj fp98 fp317 := Dj.of F99.low G319
          have D360 : Dj [b126] fp317 := Dj.of (lt1 F142.lt) G319
          have D361 : Dj fp150 fp317 := Dj.of F151.low G319
          have D362 : Dj fp171 fp317 := Dj.of F172.low G319
          replace F0_1 := F0_1.chg hc302 Dj.nil
          replace F0_2 := F0_2.chg hc302 Dj.nil
          replace F0_3 := F0_3.chg hc302 Dj.nil
          replace F1 := F1.chg hc302 Dj.nil
          replace F8 := F8.chg hc302 notNil
          replace F24 := F24.chg hc302 Dj.nil
          replace F30 := F30.chg hc302 Dj.nil
          replace F36 := F36.chg hc302 Dj.nil
          replace F55 := F55.chg hc302 Dj.nil
          replace F70 := F70.chg hc302 Dj.nil
          replace F87 := F87.chg hc302 Dj.nil
          replace F93 := F93.chg hc302 Dj.nil
          replace F99 := F99.chg hc302 Dj.nil
          replace F142 := F142.chg hc302 notNil
          replace F151 := F151.chg hc302 Dj.nil
          replace F172 := F172.chg hc302 Dj.nil
          replace hB := hB.inS hc302 inNil
          have hSz := hS
          replace hS := hS.inS hc302 inNil
          replace G307 := low_le hZ G307
          replace G313 := low_le hZ G313
          replace G319 := low_le hZ G319
          replace hZ := Nat.le_trans hZ hc302.size
          refine ⟨.agg #[.int .i64 (y299.1), .slice A303 (y299.2.1).length cap304, .slice A309 (y299.2.2.1).length cap310, .slice A315 (y299.2.2.2).length cap316], rfl, ?_⟩
          refine wS_end (by kernel_rfl) ?_
          refine eX_KH hS ?_
          refine wH_done (by kernel_rfl) ?_
          refine eX_tail ?_
          obtain ⟨y363, hy364, hm⟩ := bindE hm
          refine wS_calls (d := 59) (f := 40) (vs := [.agg #[.int .i64 (y80.1), .slice A84 (y80.2.1).length cap85, .slice A90 (y80.2.2.1).length cap91, .slice A96 (y80.2.2.2).length cap97], .agg #[.int .i64 (y299.1), .slice A303 (y299.2.1).length cap304, .slice A309 (y299.2.2.1).length cap310, .slice A315 (y299.2.2.2).length cap316]]) (by kernel_rfl) ent40 (c_laws_eqWiring hy364 (F87.slr encI_ok) (F93.slr encI_ok) (F99.sl encI_ok) (F306.slr encI_ok) (F312.slr encI_ok) (F318.sl encI_ok)) ?_
          rintro _ w365 ⟨rfl, hc366⟩
          replace F0_1 := F0_1.chg hc366 Dj.nil
          replace F0_2 := F0_2.chg hc366 Dj.nil
          replace F0_3 := F0_3.chg hc366 Dj.nil
          replace F1 := F1.chg hc366 Dj.nil
          replace F8 := F8.chg hc366 notNil
          replace F24 := F24.chg hc366 Dj.nil
          replace F30 := F30.chg hc366 Dj.nil
          replace F36 := F36.chg hc366 Dj.nil
          replace F55 := F55.chg hc366 Dj.nil
          replace F70 := F70.chg hc366 Dj.nil
          replace F87 := F87.chg hc366 Dj.nil
          replace F93 := F93.chg hc366 Dj.nil
          replace F99 := F99.chg hc366 Dj.nil
          replace F142 := F142.chg hc366 notNil
          replace F151 := F151.chg hc366 Dj.nil
          replace F172 := F172.chg hc366 Dj.nil
          replace F306 := F306.chg hc366 Dj.nil
          replace F312 := F312.chg hc366 Dj.nil
          replace F318 := F318.chg hc366 Dj.nil
          replace hB := hB.inS hc366 inNil
          replace hZ := Nat.le_trans hZ hc366.size
          refine ⟨.bool (y363), rfl, ?_⟩
          refine wS_pure 1 [(60, .bool (!y363))] (by kernel_rfl) ?_
          refine wS_end (by rfl) ?_
          refine eX_then ?_
          refine cW_cond (t := !y363) (by kernel_rfl) (fun hb367 => ?_) (fun hb367 => ?_)
          · have hm := condT hb367 hm
            refine cW_seq ?_
            refine cW_region ?_
            refine wS_pure 1 [(6, .bool (false))] (by kernel_rfl) ?_
            refine wS_end (by rfl) ?_
            refine eX_then ?_
            refine cW_ret ?_
            refine eX_then_ret ?_
            have hq : (some false : Option ((Bool))) = some _ := hm
            replace hq := someE hq
            subst hq
            refine eX_ret (vs := [.bool (false)]) [.tmp 6] (by rfl) ⟨by (show lkE _ _ _ = _); kernel_rfl, trivial⟩ ?_
            exact ⟨rfl, hB⟩
          · have hm := condF hb367 hm
            refine cW_skip ?_
            refine eX_then ?_
            refine cW_seq ?_
            refine cW_seq ?_
            refine cW_region ?_
            refine wS_pure 2 [(62, .slice A1 (l1).length cap1), (61, .slice A148 (y144).length cap149)] (by kernel_rfl) ?_
            obtain ⟨y368, hy369, hm⟩ := bindE hm
            refine wS_calls (d := 63) (f := 50) (vs := [.slice A1 (l1).length cap1]) (by kernel_rfl) ent50 (c_laws_toInt64S hy369 F1) ?_
            rintro _ w370 ⟨A372, cap373, fp374, rfl, F375, G376, hc371⟩
            have D379 : Dj [b5] fp374 := Dj.of (lt1 F8.lt) G376
            have D380 : Dj (fp23 ++ fr26) fp374 := Dj.of F24.low G376
            have D381 : Dj (fp29 ++ fr32) fp374 := Dj.of F30.low G376
            have D382 : Dj fp35 fp374 := Dj.of F36.low G376
            have D383 : Dj fp54 fp374 := Dj.of F55.low G376
            have D384 : Dj fp69 fp374 := Dj.of F70.low G376
            have D385 : Dj (fp86 ++ fr89) fp374 := Dj.of F87.low G376
            have D386 : Dj (fp92 ++ fr95) fp374 := Dj.of F93.low G376
            have D387 : Dj fp98 fp374 := Dj.of F99.low G376
            have D388 : Dj [b126] fp374 := Dj.of (lt1 F142.lt) G376
            have D389 : Dj fp150 fp374 := Dj.of F151.low G376
            have D390 : Dj fp171 fp374 := Dj.of F172.low G376
            have D391 : Dj (fp305 ++ fr308) fp374 := Dj.of F306.low G376
            have D392 : Dj (fp311 ++ fr314) fp374 := Dj.of F312.low G376
            have D393 : Dj fp317 fp374 := Dj.of F318.low G376
            replace F0_1 := F0_1.chg hc371 Dj.nil
            replace F0_2 := F0_2.chg hc371 Dj.nil
            replace F0_3 := F0_3.chg hc371 Dj.nil
            replace F1 := F1.chg hc371 Dj.nil
            replace F8 := F8.chg hc371 notNil
            replace F24 := F24.chg hc371 Dj.nil
            replace F30 := F30.chg hc371 Dj.nil
            replace F36 := F36.chg hc371 Dj.nil
            replace F55 := F55.chg hc371 Dj.nil
            replace F70 := F70.chg hc371 Dj.nil
            replace F87 := F87.chg hc371 Dj.nil
            replace F93 := F93.chg hc371 Dj.nil
            replace F99 := F99.chg hc371 Dj.nil
            replace F142 := F142.chg hc371 notNil
            replace F151 := F151.chg hc371 Dj.nil
            replace F172 := F172.chg hc371 Dj.nil
            replace F306 := F306.chg hc371 Dj.nil
            replace F312 := F312.chg hc371 Dj.nil
            replace F318 := F318.chg hc371 Dj.nil
            replace hB := hB.inS hc371 inNil
            replace G376 := low_le hZ G376
            replace hZ := Nat.le_trans hZ hc371.size
            refine ⟨.slice A372 (y368).length cap373, rfl, ?_⟩
            obtain ⟨y394, hy395, hm⟩ := bindE hm
            refine wS_calls (d := 64) (f := 42) (vs := [.slice A148 (y144).length cap149, .slice A372 (y368).length cap373]) (by kernel_rfl) ent42 (c_laws_eqInt64S hy395 (F151.sl encI_ok) (F375.sl encI_ok)) ?_
            rintro _ w396 ⟨rfl, hc397⟩
            replace F0_1 := F0_1.chg hc397 Dj.nil
            replace F0_2 := F0_2.chg hc397 Dj.nil
            replace F0_3 := F0_3.chg hc397 Dj.nil
            replace F1 := F1.chg hc397 Dj.nil
            replace F8 := F8.chg hc397 notNil
            replace F24 := F24.chg hc397 Dj.nil
            replace F30 := F30.chg hc397 Dj.nil
            replace F36 := F36.chg hc397 Dj.nil
            replace F55 := F55.chg hc397 Dj.nil
            replace F70 := F70.chg hc397 Dj.nil
            replace F87 := F87.chg hc397 Dj.nil
            replace F93 := F93.chg hc397 Dj.nil
            replace F99 := F99.chg hc397 Dj.nil
            replace F142 := F142.chg hc397 notNil
            replace F151 := F151.chg hc397 Dj.nil
            replace F172 := F172.chg hc397 Dj.nil
            replace F306 := F306.chg hc397 Dj.nil
            replace F312 := F312.chg hc397 Dj.nil
            replace F318 := F318.chg hc397 Dj.nil
            replace F375 := F375.chg hc397 Dj.nil
            replace hB := hB.inS hc397 inNil
            replace hZ := Nat.le_trans hZ hc397.size
            refine ⟨.bool (y394), rfl, ?_⟩
            refine wS_pure 1 [(65, .bool (!y394))] (by kernel_rfl) ?_
            refine wS_end (by rfl) ?_
            refine eX_then ?_
            refine cW_cond (t := !y394) (by kernel_rfl) (fun hb398 => ?_) (fun hb398 => ?_)
            · have hm := condT hb398 hm
              refine cW_seq ?_
              refine cW_region ?_
              refine wS_pure 1 [(6, .bool (false))] (by kernel_rfl) ?_
              refine wS_end (by rfl) ?_
              refine eX_then ?_
              refine cW_ret ?_
              refine eX_then_ret ?_
              have hq : (some false : Option ((Bool))) = some _ := hm
              replace hq := someE hq
              subst hq
              refine eX_ret (vs := [.bool (false)]) [.tmp 6] (by rfl) ⟨by (show lkE _ _ _ = _); kernel_rfl, trivial⟩ ?_
              exact ⟨rfl, hB⟩
            · have hm := condF hb398 hm
              refine cW_skip ?_
              refine eX_then ?_
              refine cW_seq ?_
              refine cW_region ?_
              refine wS_pure 1 [(14, .int .i64 (1))] (by kernel_rfl) ?_
              refine wS_end (by rfl) ?_
              refine eX_then ?_
              refine cW_seq ?_
              refine cW_region ?_
              refine wS_loadA (d := 66) (T := 27) (ad := ⟨b126, 0, none⟩) (vs := [.int .i64 (y80.1), .slice A84 (y80.2.1).length cap85, .slice A90 (y80.2.2.1).length cap91, .slice A96 (y80.2.2.2).length cap97]) (by kernel_rfl) vt27 (fun i u hu => box_cells F142 0 hu (by rfl)) ?_
              refine wS_pure 1 [(67, .int .i64 (1))] (by kernel_rfl) ?_
              obtain ⟨y399, hy400, hm⟩ := bindE hm
              refine wS_calls (d := 68) (f := 43) (vs := [.agg #[.int .i64 (y80.1), .slice A84 (y80.2.1).length cap85, .slice A90 (y80.2.2.1).length cap91, .slice A96 (y80.2.2.2).length cap97], .int .i64 (1)]) (by kernel_rfl) ent43 (c_laws_markWiring hy400 F87 F93 F99 D102 D103 D104) ?_
              rintro _ w401 ⟨rfl, F403, hl404, F405, hl406, F407, hl408, hc402⟩
              replace F0_1 := F0_1.chg hc402 (Dj.app (Dj.of L0_1 G88) (Dj.app (Dj.of L0_1 G94) (Dj.app (Dj.of L0_1 G100) Dj.nil)))
              replace F0_2 := F0_2.chg hc402 (Dj.app (Dj.of L0_2 G88) (Dj.app (Dj.of L0_2 G94) (Dj.app (Dj.of L0_2 G100) Dj.nil)))
              replace F0_3 := F0_3.chg hc402 (Dj.app (Dj.of L0_3 G88) (Dj.app (Dj.of L0_3 G94) (Dj.app (Dj.of L0_3 G100) Dj.nil)))
              replace F1 := F1.chg hc402 (Dj.app (Dj.of L1 G88) (Dj.app (Dj.of L1 G94) (Dj.app (Dj.of L1 G100) Dj.nil)))
              replace F8 := F8.chg hc402 (dj1 (Dj.app D106 (Dj.app D113 (Dj.app D120 Dj.nil))))
              replace F24 := F24.chg hc402 (Dj.app D107 (Dj.app D114 (Dj.app D121 Dj.nil)))
              replace F30 := F30.chg hc402 (Dj.app D108 (Dj.app D115 (Dj.app D122 Dj.nil)))
              replace F36 := F36.chg hc402 (Dj.app D109 (Dj.app D116 (Dj.app D123 Dj.nil)))
              replace F55 := F55.chg hc402 (Dj.app D110 (Dj.app D117 (Dj.app D124 Dj.nil)))
              replace F70 := F70.chg hc402 (Dj.app D111 (Dj.app D118 (Dj.app D125 Dj.nil)))
              replace F142 := F142.chg hc402 (dj1 (Dj.app (D138).symm (Dj.app (D139).symm (Dj.app (D140).symm Dj.nil))))
              replace F151 := F151.chg hc402 (Dj.app (D161).symm (Dj.app (D162).symm (Dj.app (D163).symm Dj.nil)))
              replace F172 := F172.chg hc402 (Dj.app (D182).symm (Dj.app (D183).symm (Dj.app (D184).symm Dj.nil)))
              replace F306 := F306.chg hc402 (Dj.app (D331).symm (Dj.app (D332).symm (Dj.app (D333).symm Dj.nil)))
              replace F312 := F312.chg hc402 (Dj.app (D344).symm (Dj.app (D345).symm (Dj.app (D346).symm Dj.nil)))
              replace F318 := F318.chg hc402 (Dj.app (D357).symm (Dj.app (D358).symm (Dj.app (D359).symm Dj.nil)))
              replace F375 := F375.chg hc402 (Dj.app (D385).symm (Dj.app (D386).symm (Dj.app (D387).symm Dj.nil)))
              replace hB := hB.inS hc402 (inApp (inLow G88) (inApp (inLow G94) (inApp (inLow G100) inNil)))
              replace hZ := Nat.le_trans hZ hc402.size
              clear F87
              clear F93
              clear F99
              refine ⟨.int .i64 (y399.1), rfl, ?_⟩
              rewrite [(show (y80.2.1).length = (y399.2.1).length from hl404.symm)]
              try rewrite [(show (y80.2.1).length = (y399.2.1).length from hl404.symm)] at F8
              try rewrite [(show (y80.2.1).length = (y399.2.1).length from hl404.symm)] at F142
              rewrite [(show (y80.2.2.1).length = (y399.2.2.1).length from hl406.symm)]
              try rewrite [(show (y80.2.2.1).length = (y399.2.2.1).length from hl406.symm)] at F8
              try rewrite [(show (y80.2.2.1).length = (y399.2.2.1).length from hl406.symm)] at F142
              rewrite [(show (y80.2.2.2).length = (y399.2.2.2).length from hl408.symm)]
              try rewrite [(show (y80.2.2.2).length = (y399.2.2.2).length from hl408.symm)] at F8
              try rewrite [(show (y80.2.2.2).length = (y399.2.2.2).length from hl408.symm)] at F142
              refine wS_pure 1 [(14, .int .i64 (y399.1))] (by kernel_rfl) ?_
              refine wS_end (by rfl) ?_
              refine eX_then ?_
              refine cW_prune [(1, .slice A1 (l1).length cap1), (2, .int .i64 (p2)), (3, .pointer (some ⟨b5, 0, none⟩)), (8, .slice A67 (y63.1).length cap68), (9, .bool (y63.2)), (11, .slice A148 (y144).length cap149), (12, .slice A169 (y165.1).length cap170), (13, .bool (y165.2)), (14, .int .i64 (y399.1))] (by kernel_rfl) (by kernel_rfl) (fun a409 => ?_)
              refine cW_seq ?_
              refine cW_region ?_
              refine wS_pure 2 [(70, .int .i64 (y399.1)), (69, .slice A148 (y144).length cap149)] (by kernel_rfl) ?_
              obtain ⟨y410, hy411, hm⟩ := bindE hm
              refine wS_calls (d := 71) (f := 44) (vs := [.slice A148 (y144).length cap149, .int .i64 (y399.1)]) (by kernel_rfl) ent44 (c_laws_markInt64S hy411 F151) ?_
              rintro _ w412 ⟨rfl, F414, hl415, hc413⟩
              replace F0_1 := F0_1.chg hc413 (Dj.app (Dj.of L0_1 G152) Dj.nil)
              replace F0_2 := F0_2.chg hc413 (Dj.app (Dj.of L0_2 G152) Dj.nil)
              replace F0_3 := F0_3.chg hc413 (Dj.app (Dj.of L0_3 G152) Dj.nil)
              replace F1 := F1.chg hc413 (Dj.app (Dj.of L1 G152) Dj.nil)
              replace F8 := F8.chg hc413 (dj1 (Dj.app D155 Dj.nil))
              replace F24 := F24.chg hc413 (Dj.app D156 Dj.nil)
              replace F30 := F30.chg hc413 (Dj.app D157 Dj.nil)
              replace F36 := F36.chg hc413 (Dj.app D158 Dj.nil)
              replace F55 := F55.chg hc413 (Dj.app D159 Dj.nil)
              replace F70 := F70.chg hc413 (Dj.app D160 Dj.nil)
              replace F403 := F403.chg hc413 (Dj.app D161 Dj.nil)
              replace F405 := F405.chg hc413 (Dj.app D162 Dj.nil)
              replace F407 := F407.chg hc413 (Dj.app D163 Dj.nil)
              replace F142 := F142.chg hc413 (dj1 (Dj.app D164 Dj.nil))
              replace F172 := F172.chg hc413 (Dj.app (D186).symm Dj.nil)
              replace F306 := F306.chg hc413 (Dj.app (D335).symm Dj.nil)
              replace F312 := F312.chg hc413 (Dj.app (D348).symm Dj.nil)
              replace F318 := F318.chg hc413 (Dj.app (D361).symm Dj.nil)
              replace F375 := F375.chg hc413 (Dj.app (D389).symm Dj.nil)
              replace hB := hB.inS hc413 (inApp (inLow G152) inNil)
              replace hZ := Nat.le_trans hZ hc413.size
              clear F151
              refine ⟨.int .i64 (y410.1), rfl, ?_⟩
              rewrite [(show (y144).length = (y410.2).length from hl415.symm)]
              try rewrite [(show (y144).length = (y410.2).length from hl415.symm)] at F8
              try rewrite [(show (y144).length = (y410.2).length from hl415.symm)] at F142
              refine wS_pure 1 [(14, .int .i64 (y410.1))] (by kernel_rfl) ?_
              refine wS_end (by rfl) ?_
              refine eX_then ?_
              refine cW_seq ?_
              refine cW_seq ?_
              refine cW_region ?_
              refine wS_pure 3 [(74, .bool (decide (y410.1 < 0))), (73, .bool (decide (y410.1 < 0))), (72, .int .i64 (y410.1))] (by kernel_rfl) ?_
              refine wS_bool (decide (y410.1 < 0)) (fun hb416 => ?_) (fun hb416 => ?_)
              · have hm := condT hb416 hm
                rewrite [hb416]
                refine wS_pure 10 [(84, .bool (true)), (83, undef), (82, undef), (81, undef), (80, .bool (true)), (79, .bool (true)), (78, undef), (77, undef), (76, undef), (75, undef)] (by kernel_rfl) ?_
                refine wS_end (by rfl) ?_
                refine eX_then ?_
                refine cW_prune [(1, .slice A1 (l1).length cap1), (2, .int .i64 (p2)), (3, .pointer (some ⟨b5, 0, none⟩)), (8, .slice A67 (y63.1).length cap68), (9, .bool (y63.2)), (12, .slice A169 (y165.1).length cap170), (84, .bool (true))] (by kernel_rfl) (by kernel_rfl) (fun a417 => ?_)
                refine cW_cond_t (by kernel_rfl) ?_
                refine cW_seq ?_
                refine cW_region ?_
                refine wS_pure 1 [(6, .bool (false))] (by kernel_rfl) ?_
                refine wS_end (by rfl) ?_
                refine eX_then ?_
                refine cW_ret ?_
                refine eX_then_ret ?_
                have hq : (some false : Option ((Bool))) = some _ := hm
                replace hq := someE hq
                subst hq
                refine eX_ret (vs := [.bool (false)]) [.tmp 6] (by rfl) ⟨by (show lkE _ _ _ = _); kernel_rfl, trivial⟩ ?_
                exact ⟨rfl, hB⟩
              · have hm := condF hb416 hm
                rewrite [hb416]
                refine wS_pure 2 [(76, .slice A67 (y63.1).length cap68), (75, .slice A169 (y165.1).length cap170)] (by kernel_rfl) ?_
                obtain ⟨y418, hy419, hm⟩ := bindE hm
                refine wS_calls (d := 77) (f := 42) (vs := [.slice A169 (y165.1).length cap170, .slice A67 (y63.1).length cap68]) (by kernel_rfl) ent42 (c_laws_eqInt64S hy419 (F172.sl encI_ok) (F70.sl encI_ok)) ?_
                rintro _ w420 ⟨rfl, hc421⟩
                replace F0_1 := F0_1.chg hc421 Dj.nil
                replace F0_2 := F0_2.chg hc421 Dj.nil
                replace F0_3 := F0_3.chg hc421 Dj.nil
                replace F1 := F1.chg hc421 Dj.nil
                replace F8 := F8.chg hc421 notNil
                replace F24 := F24.chg hc421 Dj.nil
                replace F30 := F30.chg hc421 Dj.nil
                replace F36 := F36.chg hc421 Dj.nil
                replace F55 := F55.chg hc421 Dj.nil
                replace F70 := F70.chg hc421 Dj.nil
                replace F403 := F403.chg hc421 Dj.nil
                replace F405 := F405.chg hc421 Dj.nil
                replace F407 := F407.chg hc421 Dj.nil
                replace F142 := F142.chg hc421 notNil
                replace F414 := F414.chg hc421 Dj.nil
                replace F172 := F172.chg hc421 Dj.nil
                replace F306 := F306.chg hc421 Dj.nil
                replace F312 := F312.chg hc421 Dj.nil
                replace F318 := F318.chg hc421 Dj.nil
                replace F375 := F375.chg hc421 Dj.nil
                replace hB := hB.inS hc421 inNil
                replace hZ := Nat.le_trans hZ hc421.size
                refine ⟨.bool (y418), rfl, ?_⟩
                refine wS_pure 3 [(80, .bool (!y418)), (79, .bool (!y418)), (78, .bool (!y418))] (by kernel_rfl) ?_
                refine wS_bool (!y418) (fun hb422 => ?_) (fun hb422 => ?_)
                · have hm := condT hb422 hm
                  rewrite [hb422]
                  refine wS_pure 4 [(84, .bool (true)), (83, undef), (82, undef), (81, undef)] (by kernel_rfl) ?_
                  refine wS_end (by rfl) ?_
                  refine eX_then ?_
                  refine cW_prune [(1, .slice A1 (l1).length cap1), (2, .int .i64 (p2)), (3, .pointer (some ⟨b5, 0, none⟩)), (8, .slice A67 (y63.1).length cap68), (9, .bool (y63.2)), (12, .slice A169 (y165.1).length cap170), (84, .bool (true))] (by kernel_rfl) (by kernel_rfl) (fun a423 => ?_)
                  refine cW_cond_t (by kernel_rfl) ?_
                  refine cW_seq ?_
                  refine cW_region ?_
                  refine wS_pure 1 [(6, .bool (false))] (by kernel_rfl) ?_
                  refine wS_end (by rfl) ?_
                  refine eX_then ?_
                  refine cW_ret ?_
                  refine eX_then_ret ?_
                  have hq : (some false : Option ((Bool))) = some _ := hm
                  replace hq := someE hq
                  subst hq
                  refine eX_ret (vs := [.bool (false)]) [.tmp 6] (by rfl) ⟨by (show lkE _ _ _ = _); kernel_rfl, trivial⟩ ?_
                  exact ⟨rfl, hB⟩
                · have hm := condF hb422 hm
                  rewrite [hb422]
                  refine wS_pure 4 [(84, .bool (!(y165.2 == y63.2))), (83, .bool (!(y165.2 == y63.2))), (82, .bool (y63.2)), (81, .bool (y165.2))] (by kernel_rfl) ?_
                  refine wS_end (by rfl) ?_
                  refine eX_then ?_
                  refine cW_prune [(1, .slice A1 (l1).length cap1), (2, .int .i64 (p2)), (3, .pointer (some ⟨b5, 0, none⟩)), (8, .slice A67 (y63.1).length cap68), (9, .bool (y63.2)), (12, .slice A169 (y165.1).length cap170), (84, .bool (!(y165.2 == y63.2)))] (by kernel_rfl) (by kernel_rfl) (fun a424 => ?_)
                  refine cW_cond (t := !(y165.2 == y63.2)) (by kernel_rfl) (fun hb425 => ?_) (fun hb425 => ?_)
                  · have hm := condT hb425 hm
                    refine cW_seq ?_
                    refine cW_region ?_
                    refine wS_pure 1 [(6, .bool (false))] (by kernel_rfl) ?_
                    refine wS_end (by rfl) ?_
                    refine eX_then ?_
                    refine cW_ret ?_
                    refine eX_then_ret ?_
                    have hq : (some false : Option ((Bool))) = some _ := hm
                    replace hq := someE hq
                    subst hq
                    refine eX_ret (vs := [.bool (false)]) [.tmp 6] (by rfl) ⟨by (show lkE _ _ _ = _); kernel_rfl, trivial⟩ ?_
                    exact ⟨rfl, hB⟩
                  · have hm := condF hb425 hm
                    refine cW_skip ?_
                    refine eX_then ?_
                    refine cW_seq ?_
                    refine cW_region ?_
                    refine wS_pure 1 [(15, .int .i64 (1))] (by kernel_rfl) ?_
                    refine wS_end (by rfl) ?_
                    refine eX_then ?_
                    refine cW_seq ?_
                    refine cW_region ?_
                    refine wS_pure 2 [(86, .int .i64 (1)), (85, .slice A169 (y165.1).length cap170)] (by kernel_rfl) ?_
                    obtain ⟨y426, hy427, hm⟩ := bindE hm
                    refine wS_calls (d := 87) (f := 44) (vs := [.slice A169 (y165.1).length cap170, .int .i64 (1)]) (by kernel_rfl) ent44 (c_laws_markInt64S hy427 F172) ?_
                    rintro _ w428 ⟨rfl, F430, hl431, hc429⟩
                    replace F0_1 := F0_1.chg hc429 (Dj.app (Dj.of L0_1 G173) Dj.nil)
                    replace F0_2 := F0_2.chg hc429 (Dj.app (Dj.of L0_2 G173) Dj.nil)
                    replace F0_3 := F0_3.chg hc429 (Dj.app (Dj.of L0_3 G173) Dj.nil)
                    replace F1 := F1.chg hc429 (Dj.app (Dj.of L1 G173) Dj.nil)
                    replace F8 := F8.chg hc429 (dj1 (Dj.app D176 Dj.nil))
                    replace F24 := F24.chg hc429 (Dj.app D177 Dj.nil)
                    replace F30 := F30.chg hc429 (Dj.app D178 Dj.nil)
                    replace F36 := F36.chg hc429 (Dj.app D179 Dj.nil)
                    replace F55 := F55.chg hc429 (Dj.app D180 Dj.nil)
                    replace F70 := F70.chg hc429 (Dj.app D181 Dj.nil)
                    replace F403 := F403.chg hc429 (Dj.app D182 Dj.nil)
                    replace F405 := F405.chg hc429 (Dj.app D183 Dj.nil)
                    replace F407 := F407.chg hc429 (Dj.app D184 Dj.nil)
                    replace F142 := F142.chg hc429 (dj1 (Dj.app D185 Dj.nil))
                    replace F414 := F414.chg hc429 (Dj.app D186 Dj.nil)
                    replace F306 := F306.chg hc429 (Dj.app (D336).symm Dj.nil)
                    replace F312 := F312.chg hc429 (Dj.app (D349).symm Dj.nil)
                    replace F318 := F318.chg hc429 (Dj.app (D362).symm Dj.nil)
                    replace F375 := F375.chg hc429 (Dj.app (D390).symm Dj.nil)
                    replace hB := hB.inS hc429 (inApp (inLow G173) inNil)
                    replace hZ := Nat.le_trans hZ hc429.size
                    clear F172
                    refine ⟨.int .i64 (y426.1), rfl, ?_⟩
                    rewrite [(show (y165.1).length = (y426.2).length from hl431.symm)]
                    try rewrite [(show (y165.1).length = (y426.2).length from hl431.symm)] at F8
                    try rewrite [(show (y165.1).length = (y426.2).length from hl431.symm)] at F142
                    refine wS_pure 1 [(15, .int .i64 (y426.1))] (by kernel_rfl) ?_
                    refine wS_end (by rfl) ?_
                    refine eX_then ?_
                    refine cW_seq ?_
                    refine cW_region ?_
                    refine wS_pure 1 [(16, .int .i64 (1))] (by kernel_rfl) ?_
                    refine wS_end (by rfl) ?_
                    refine eX_then ?_
                    refine cW_seq ?_
                    refine cW_region ?_
                    refine wS_pure 2 [(89, .int .i64 (1)), (88, .slice A169 (y426.2).length cap170)] (by kernel_rfl) ?_
                    obtain ⟨y432, hy433, hm⟩ := bindE hm
                    refine wS_calls (d := 90) (f := 45) (vs := [.slice A169 (y426.2).length cap170, .int .i64 (1)]) (by kernel_rfl) ent45 (c_laws_heldInt64S hy433 (F430.sl encI_ok)) ?_
                    rintro _ w434 ⟨rfl, hc435⟩
                    replace F0_1 := F0_1.chg hc435 Dj.nil
                    replace F0_2 := F0_2.chg hc435 Dj.nil
                    replace F0_3 := F0_3.chg hc435 Dj.nil
                    replace F1 := F1.chg hc435 Dj.nil
                    replace F8 := F8.chg hc435 notNil
                    replace F24 := F24.chg hc435 Dj.nil
                    replace F30 := F30.chg hc435 Dj.nil
                    replace F36 := F36.chg hc435 Dj.nil
                    replace F55 := F55.chg hc435 Dj.nil
                    replace F70 := F70.chg hc435 Dj.nil
                    replace F403 := F403.chg hc435 Dj.nil
                    replace F405 := F405.chg hc435 Dj.nil
                    replace F407 := F407.chg hc435 Dj.nil
                    replace F142 := F142.chg hc435 notNil
                    replace F414 := F414.chg hc435 Dj.nil
                    replace F430 := F430.chg hc435 Dj.nil
                    replace F306 := F306.chg hc435 Dj.nil
                    replace F312 := F312.chg hc435 Dj.nil
                    replace F318 := F318.chg hc435 Dj.nil
                    replace F375 := F375.chg hc435 Dj.nil
                    replace hB := hB.inS hc435 inNil
                    replace hZ := Nat.le_trans hZ hc435.size
                    refine ⟨.int .i64 (y432), rfl, ?_⟩
                    refine wS_pure 1 [(16, .int .i64 (y432))] (by kernel_rfl) ?_
                    refine wS_end (by rfl) ?_
                    refine eX_then ?_
                    refine cW_seq ?_
                    refine cW_seq ?_
                    refine cW_region ?_
                    refine wS_pure 2 [(92, .bool (decide (y432 < 0))), (91, .int .i64 (y432))] (by kernel_rfl) ?_
                    refine wS_end (by rfl) ?_
                    refine eX_then ?_
                    refine cW_cond (t := decide (y432 < 0)) (by kernel_rfl) (fun hb436 => ?_) (fun hb436 => ?_)
                    · have hm := condT hb436 hm
                      refine cW_seq ?_
                      refine cW_region ?_
                      refine wS_pure 1 [(6, .bool (false))] (by kernel_rfl) ?_
                      refine wS_end (by rfl) ?_
                      refine eX_then ?_
                      refine cW_ret ?_
                      refine eX_then_ret ?_
                      have hq : (some false : Option ((Bool))) = some _ := hm
                      replace hq := someE hq
                      subst hq
                      refine eX_ret (vs := [.bool (false)]) [.tmp 6] (by rfl) ⟨by (show lkE _ _ _ = _); kernel_rfl, trivial⟩ ?_
                      exact ⟨rfl, hB⟩
                    · have hm := condF hb436 hm
                      refine cW_skip ?_
                      refine eX_then ?_
                      refine cW_seq ?_
                      refine cW_seq ?_
                      refine cW_region ?_
                      refine wS_pure 3 [(95, .bool (y432 != y426.1)), (94, .int .i64 (y426.1)), (93, .int .i64 (y432))] (by kernel_rfl) ?_
                      refine wS_end (by rfl) ?_
                      refine eX_then ?_
                      refine cW_cond (t := y432 != y426.1) (by kernel_rfl) (fun hb437 => ?_) (fun hb437 => ?_)
                      · have hm := condT hb437 hm
                        refine cW_seq ?_
                        refine cW_region ?_
                        refine wS_pure 1 [(6, .bool (false))] (by kernel_rfl) ?_
                        refine wS_end (by rfl) ?_
                        refine eX_then ?_
                        refine cW_ret ?_
                        refine eX_then_ret ?_
                        have hq : (some false : Option ((Bool))) = some _ := hm
                        replace hq := someE hq
                        subst hq
                        refine eX_ret (vs := [.bool (false)]) [.tmp 6] (by rfl) ⟨by (show lkE _ _ _ = _); kernel_rfl, trivial⟩ ?_
                        exact ⟨rfl, hB⟩
                      · have hm := condF hb437 hm
                        refine cW_skip ?_
                        refine eX_then ?_
                        refine cW_seq ?_
                        refine cW_region ?_
                        refine wS_loadA (d := 97) (T := 59) (ad := ⟨b5, 0, none⟩) (vs := [.int .i64 (p0_0), .slice A0_1 (l0_1).length cap0_1, .slice A0_2 (l0_2).length cap0_2, .slice A0_3 (l0_3).length cap0_3]) (by kernel_rfl) vt59 (fun i u hu => box_cells F8 0 hu (by rfl)) ?_
                        obtain ⟨y438, hy439, hm⟩ := bindE hm
                        refine wS_calls (d := 98) (f := 39) (vs := [.agg #[.int .i64 (p0_0), .slice A0_1 (l0_1).length cap0_1, .slice A0_2 (l0_2).length cap0_2, .slice A0_3 (l0_3).length cap0_3]]) (by kernel_rfl) ent39 (c_laws_toWiring hy439 F0_1 F0_2 F0_3) ?_
                        rintro _ w440 ⟨A442, cap443, fp444, fr447, A448, cap449, fp450, fr453, A454, cap455, fp456, rfl, F445, G446, F451, G452, F457, G458, D460, D461, D462, hc441⟩
                        have D464 : Dj [b5] (fp444 ++ fr447) := Dj.of (lt1 F8.lt) G446
                        have D465 : Dj (fp23 ++ fr26) (fp444 ++ fr447) := Dj.of F24.low G446
                        have D466 : Dj (fp29 ++ fr32) (fp444 ++ fr447) := Dj.of F30.low G446
                        have D467 : Dj fp35 (fp444 ++ fr447) := Dj.of F36.low G446
                        have D468 : Dj fp54 (fp444 ++ fr447) := Dj.of F55.low G446
                        have D469 : Dj fp69 (fp444 ++ fr447) := Dj.of F70.low G446
                        have D470 : Dj (fp86 ++ fr89) (fp444 ++ fr447) := Dj.of F403.low G446
                        have D471 : Dj (fp92 ++ fr95) (fp444 ++ fr447) := Dj.of F405.low G446
                        have D472 : Dj fp98 (fp444 ++ fr447) := Dj.of F407.low G446
                        have D473 : Dj [b126] (fp444 ++ fr447) := Dj.of (lt1 F142.lt) G446
                        have D474 : Dj fp150 (fp444 ++ fr447) := Dj.of F414.low G446
                        have D475 : Dj fp171 (fp444 ++ fr447) := Dj.of F430.low G446
                        have D476 : Dj (fp305 ++ fr308) (fp444 ++ fr447) := Dj.of F306.low G446
                        have D477 : Dj (fp311 ++ fr314) (fp444 ++ fr447) := Dj.of F312.low G446
                        have D478 : Dj fp317 (fp444 ++ fr447) := Dj.of F318.low G446
                        have D479 : Dj fp374 (fp444 ++ fr447) := Dj.of F375.low G446
                        have D481 : Dj [b5] (fp450 ++ fr453) := Dj.of (lt1 F8.lt) G452
                        have D482 : Dj (fp23 ++ fr26) (fp450 ++ fr453) := Dj.of F24.low G452
                        have D483 : Dj (fp29 ++ fr32) (fp450 ++ fr453) := Dj.of F30.low G452
                        have D484 : Dj fp35 (fp450 ++ fr453) := Dj.of F36.low G452
                        have D485 : Dj fp54 (fp450 ++ fr453) := Dj.of F55.low G452
                        have D486 : Dj fp69 (fp450 ++ fr453) := Dj.of F70.low G452
                        have D487 : Dj (fp86 ++ fr89) (fp450 ++ fr453) := Dj.of F403.low G452
                        have D488 : Dj (fp92 ++ fr95) (fp450 ++ fr453) := Dj.of F405.low G452
                        have D489 : Dj fp98 (fp450 ++ fr453) := Dj.of F407.low G452
                        have D490 : Dj [b126] (fp450 ++ fr453) := Dj.of (lt1 F142.lt) G452
                        have D491 : Dj fp150 (fp450 ++ fr453) := Dj.of F414.low G452
                        have D492 : Dj fp171 (fp450 ++ fr453) := Dj.of F430.low G452
                        have D493 : Dj (fp305 ++ fr308) (fp450 ++ fr453) := Dj.of F306.low G452
                        have D494 : Dj (fp311 ++ fr314) (fp450 ++ fr453) := Dj.of F312.low G452
                        have D495 : Dj fp317 (fp450 ++ fr453) := Dj.of F318.low G452
                        have D496 : Dj fp374 (fp450 ++ fr453) := Dj.of F375.low G452
                        have D498 : Dj [b5] fp456 := Dj.of (lt1 F8.lt) G458
                        have D499 : Dj (fp23 ++ fr26) fp456 := Dj.of F24.low G458
                        have D500 : Dj (fp29 ++ fr32) fp456 := Dj.of F30.low G458
                        have D501 : Dj fp35 fp456 := Dj.of F36.low G458
                        have D502 : Dj fp54 fp456 := Dj.of F55.low G458
                        have D503 : Dj fp69 fp456 := Dj.of F70.low G458
                        have D504 : Dj (fp86 ++ fr89) fp456 := Dj.of F403.low G458
                        have D505 : Dj (fp92 ++ fr95) fp456 := Dj.of F405.low G458
                        have D506 : Dj fp98 fp456 := Dj.of F407.low G458
                        have D507 : Dj [b126] fp456 := Dj.of (lt1 F142.lt) G458
                        have D508 : Dj fp150 fp456 := Dj.of F414.low G458
                        have D509 : Dj fp171 fp456 := Dj.of F430.low G458
                        have D510 : Dj (fp305 ++ fr308) fp456 := Dj.of F306.low G458
                        have D511 : Dj (fp311 ++ fr314) fp456 := Dj.of F312.low G458
                        have D512 : Dj fp317 fp456 := Dj.of F318.low G458
                        have D513 : Dj fp374 fp456 := Dj.of F375.low G458
                        replace F0_1 := F0_1.chg hc441 Dj.nil
                        replace F0_2 := F0_2.chg hc441 Dj.nil
                        replace F0_3 := F0_3.chg hc441 Dj.nil
                        replace F1 := F1.chg hc441 Dj.nil
                        replace F8 := F8.chg hc441 notNil
                        replace F24 := F24.chg hc441 Dj.nil
                        replace F30 := F30.chg hc441 Dj.nil
                        replace F36 := F36.chg hc441 Dj.nil
                        replace F55 := F55.chg hc441 Dj.nil
                        replace F70 := F70.chg hc441 Dj.nil
                        replace F403 := F403.chg hc441 Dj.nil
                        replace F405 := F405.chg hc441 Dj.nil
                        replace F407 := F407.chg hc441 Dj.nil
                        replace F142 := F142.chg hc441 notNil
                        replace F414 := F414.chg hc441 Dj.nil
                        replace F430 := F430.chg hc441 Dj.nil
                        replace F306 := F306.chg hc441 Dj.nil
                        replace F312 := F312.chg hc441 Dj.nil
                        replace F318 := F318.chg hc441 Dj.nil
                        replace F375 := F375.chg hc441 Dj.nil
                        replace hB := hB.inS hc441 inNil
                        replace G446 := low_le hZ G446
                        replace G452 := low_le hZ G452
                        replace G458 := low_le hZ G458
                        replace hZ := Nat.le_trans hZ hc441.size
                        refine ⟨.agg #[.int .i64 (y438.1), .slice A442 (y438.2.1).length cap443, .slice A448 (y438.2.2.1).length cap449, .slice A454 (y438.2.2.2).length cap455], rfl, ?_⟩
                        refine wS_pure 1 [(99, .slice A1 (l1).length cap1)] (by kernel_rfl) ?_
                        obtain ⟨y514, hy515, hm⟩ := bindE hm
                        refine wS_calls (d := 100) (f := 50) (vs := [.slice A1 (l1).length cap1]) (by kernel_rfl) ent50 (c_laws_toInt64S hy515 F1) ?_
                        rintro _ w516 ⟨A518, cap519, fp520, rfl, F521, G522, hc517⟩
                        have D525 : Dj [b5] fp520 := Dj.of (lt1 F8.lt) G522
                        have D526 : Dj (fp23 ++ fr26) fp520 := Dj.of F24.low G522
                        have D527 : Dj (fp29 ++ fr32) fp520 := Dj.of F30.low G522
                        have D528 : Dj fp35 fp520 := Dj.of F36.low G522
                        have D529 : Dj fp54 fp520 := Dj.of F55.low G522
                        have D530 : Dj fp69 fp520 := Dj.of F70.low G522
                        have D531 : Dj (fp86 ++ fr89) fp520 := Dj.of F403.low G522
                        have D532 : Dj (fp92 ++ fr95) fp520 := Dj.of F405.low G522
                        have D533 : Dj fp98 fp520 := Dj.of F407.low G522
                        have D534 : Dj [b126] fp520 := Dj.of (lt1 F142.lt) G522
                        have D535 : Dj fp150 fp520 := Dj.of F414.low G522
                        have D536 : Dj fp171 fp520 := Dj.of F430.low G522
                        have D537 : Dj (fp305 ++ fr308) fp520 := Dj.of F306.low G522
                        have D538 : Dj (fp311 ++ fr314) fp520 := Dj.of F312.low G522
                        have D539 : Dj fp317 fp520 := Dj.of F318.low G522
                        have D540 : Dj fp374 fp520 := Dj.of F375.low G522
                        have D541 : Dj (fp444 ++ fr447) fp520 := Dj.of F445.low G522
                        have D542 : Dj (fp450 ++ fr453) fp520 := Dj.of F451.low G522
                        have D543 : Dj fp456 fp520 := Dj.of F457.low G522
                        replace F0_1 := F0_1.chg hc517 Dj.nil
                        replace F0_2 := F0_2.chg hc517 Dj.nil
                        replace F0_3 := F0_3.chg hc517 Dj.nil
                        replace F1 := F1.chg hc517 Dj.nil
                        replace F8 := F8.chg hc517 notNil
                        replace F24 := F24.chg hc517 Dj.nil
                        replace F30 := F30.chg hc517 Dj.nil
                        replace F36 := F36.chg hc517 Dj.nil
                        replace F55 := F55.chg hc517 Dj.nil
                        replace F70 := F70.chg hc517 Dj.nil
                        replace F403 := F403.chg hc517 Dj.nil
                        replace F405 := F405.chg hc517 Dj.nil
                        replace F407 := F407.chg hc517 Dj.nil
                        replace F142 := F142.chg hc517 notNil
                        replace F414 := F414.chg hc517 Dj.nil
                        replace F430 := F430.chg hc517 Dj.nil
                        replace F306 := F306.chg hc517 Dj.nil
                        replace F312 := F312.chg hc517 Dj.nil
                        replace F318 := F318.chg hc517 Dj.nil
                        replace F375 := F375.chg hc517 Dj.nil
                        replace F445 := F445.chg hc517 Dj.nil
                        replace F451 := F451.chg hc517 Dj.nil
                        replace F457 := F457.chg hc517 Dj.nil
                        replace hB := hB.inS hc517 inNil
                        replace G522 := low_le hZ G522
                        replace hZ := Nat.le_trans hZ hc517.size
                        refine ⟨.slice A518 (y514).length cap519, rfl, ?_⟩
                        refine wS_pure 1 [(101, .int .i64 (p2))] (by kernel_rfl) ?_
                        obtain ⟨y544, hy545, hm⟩ := bindE hm
                        refine wS_calls (d := 102) (f := 51) (vs := [.agg #[.int .i64 (y438.1), .slice A442 (y438.2.1).length cap443, .slice A448 (y438.2.2.1).length cap449, .slice A454 (y438.2.2.2).length cap455], .slice A518 (y514).length cap519, .int .i64 (p2)]) (by kernel_rfl) ent51 (c_impl_FlipGroup hy545 (F445.slr encI_ok) (F451.slr encI_ok) (F457.sl encI_ok) (F521.sl encI_ok)) ?_
                        rintro _ w546 ⟨A548, cap549, fp550, rfl, F551, G552, hc547⟩
                        have D555 : Dj [b5] fp550 := Dj.of (lt1 F8.lt) G552
                        have D556 : Dj (fp23 ++ fr26) fp550 := Dj.of F24.low G552
                        have D557 : Dj (fp29 ++ fr32) fp550 := Dj.of F30.low G552
                        have D558 : Dj fp35 fp550 := Dj.of F36.low G552
                        have D559 : Dj fp54 fp550 := Dj.of F55.low G552
                        have D560 : Dj fp69 fp550 := Dj.of F70.low G552
                        have D561 : Dj (fp86 ++ fr89) fp550 := Dj.of F403.low G552
                        have D562 : Dj (fp92 ++ fr95) fp550 := Dj.of F405.low G552
                        have D563 : Dj fp98 fp550 := Dj.of F407.low G552
                        have D564 : Dj [b126] fp550 := Dj.of (lt1 F142.lt) G552
                        have D565 : Dj fp150 fp550 := Dj.of F414.low G552
                        have D566 : Dj fp171 fp550 := Dj.of F430.low G552
                        have D567 : Dj (fp305 ++ fr308) fp550 := Dj.of F306.low G552
                        have D568 : Dj (fp311 ++ fr314) fp550 := Dj.of F312.low G552
                        have D569 : Dj fp317 fp550 := Dj.of F318.low G552
                        have D570 : Dj fp374 fp550 := Dj.of F375.low G552
                        have D571 : Dj (fp444 ++ fr447) fp550 := Dj.of F445.low G552
                        have D572 : Dj (fp450 ++ fr453) fp550 := Dj.of F451.low G552
                        have D573 : Dj fp456 fp550 := Dj.of F457.low G552
                        have D574 : Dj fp520 fp550 := Dj.of F521.low G552
                        replace F0_1 := F0_1.chg hc547 Dj.nil
                        replace F0_2 := F0_2.chg hc547 Dj.nil
                        replace F0_3 := F0_3.chg hc547 Dj.nil
                        replace F1 := F1.chg hc547 Dj.nil
                        replace F8 := F8.chg hc547 notNil
                        replace F24 := F24.chg hc547 Dj.nil
                        replace F30 := F30.chg hc547 Dj.nil
                        replace F36 := F36.chg hc547 Dj.nil
                        replace F55 := F55.chg hc547 Dj.nil
                        replace F70 := F70.chg hc547 Dj.nil
                        replace F403 := F403.chg hc547 Dj.nil
                        replace F405 := F405.chg hc547 Dj.nil
                        replace F407 := F407.chg hc547 Dj.nil
                        replace F142 := F142.chg hc547 notNil
                        replace F414 := F414.chg hc547 Dj.nil
                        replace F430 := F430.chg hc547 Dj.nil
                        replace F306 := F306.chg hc547 Dj.nil
                        replace F312 := F312.chg hc547 Dj.nil
                        replace F318 := F318.chg hc547 Dj.nil
                        replace F375 := F375.chg hc547 Dj.nil
                        replace F445 := F445.chg hc547 Dj.nil
                        replace F451 := F451.chg hc547 Dj.nil
                        replace F457 := F457.chg hc547 Dj.nil
                        replace F521 := F521.chg hc547 Dj.nil
                        replace hB := hB.inS hc547 inNil
                        replace G552 := low_le hZ G552
                        replace hZ := Nat.le_trans hZ hc547.size
                        refine ⟨.tuple #[.slice A548 (y544.1).length cap549, .bool (y544.2)], rfl, ?_⟩
                        refine wS_pure 5 [(18, .bool (y544.2)), (17, .slice A548 (y544.1).length cap549), (104, .bool (y544.2)), (103, .slice A548 (y544.1).length cap549), (96, .tuple #[.slice A548 (y544.1).length cap549, .bool (y544.2)])] (by kernel_rfl) ?_
                        refine wS_end (by rfl) ?_
                        refine eX_then ?_
                        refine cW_prune [(8, .slice A67 (y63.1).length cap68), (9, .bool (y63.2)), (12, .slice A169 (y426.2).length cap170), (15, .int .i64 (y426.1)), (17, .slice A548 (y544.1).length cap549), (18, .bool (y544.2))] (by kernel_rfl) (by kernel_rfl) (fun a575 => ?_)
                        refine cW_seq ?_
                        refine cW_seq ?_
                        refine cW_region ?_
                        refine wS_pure 2 [(106, .slice A67 (y63.1).length cap68), (105, .slice A548 (y544.1).length cap549)] (by kernel_rfl) ?_
                        obtain ⟨y576, hy577, hm⟩ := bindE hm
                        refine wS_calls (d := 107) (f := 42) (vs := [.slice A548 (y544.1).length cap549, .slice A67 (y63.1).length cap68]) (by kernel_rfl) ent42 (c_laws_eqInt64S hy577 (F551.sl encI_ok) (F70.sl encI_ok)) ?_
                        rintro _ w578 ⟨rfl, hc579⟩
                        replace F0_1 := F0_1.chg hc579 Dj.nil
                        replace F0_2 := F0_2.chg hc579 Dj.nil
                        replace F0_3 := F0_3.chg hc579 Dj.nil
                        replace F1 := F1.chg hc579 Dj.nil
                        replace F8 := F8.chg hc579 notNil
                        replace F24 := F24.chg hc579 Dj.nil
                        replace F30 := F30.chg hc579 Dj.nil
                        replace F36 := F36.chg hc579 Dj.nil
                        replace F55 := F55.chg hc579 Dj.nil
                        replace F70 := F70.chg hc579 Dj.nil
                        replace F403 := F403.chg hc579 Dj.nil
                        replace F405 := F405.chg hc579 Dj.nil
                        replace F407 := F407.chg hc579 Dj.nil
                        replace F142 := F142.chg hc579 notNil
                        replace F414 := F414.chg hc579 Dj.nil
                        replace F430 := F430.chg hc579 Dj.nil
                        replace F306 := F306.chg hc579 Dj.nil
                        replace F312 := F312.chg hc579 Dj.nil
                        replace F318 := F318.chg hc579 Dj.nil
                        replace F375 := F375.chg hc579 Dj.nil
                        replace F445 := F445.chg hc579 Dj.nil
                        replace F451 := F451.chg hc579 Dj.nil
                        replace F457 := F457.chg hc579 Dj.nil
                        replace F521 := F521.chg hc579 Dj.nil
                        replace F551 := F551.chg hc579 Dj.nil
                        replace hB := hB.inS hc579 inNil
                        replace hZ := Nat.le_trans hZ hc579.size
                        refine ⟨.bool (y576), rfl, ?_⟩
                        refine wS_pure 2 [(109, .bool (!y576)), (108, .bool (!y576))] (by kernel_rfl) ?_
                        refine wS_bool (!y576) (fun hb580 => ?_) (fun hb580 => ?_)
                        · have hm := condT hb580 hm
                          rewrite [hb580]
                          refine wS_pure 4 [(113, .bool (true)), (112, undef), (111, undef), (110, undef)] (by kernel_rfl) ?_
                          refine wS_end (by rfl) ?_
                          refine eX_then ?_
                          refine cW_cond_t (by kernel_rfl) ?_
                          refine cW_seq ?_
                          refine cW_region ?_
                          refine wS_pure 1 [(6, .bool (false))] (by kernel_rfl) ?_
                          refine wS_end (by rfl) ?_
                          refine eX_then ?_
                          refine cW_ret ?_
                          refine eX_then_ret ?_
                          have hq : (some false : Option ((Bool))) = some _ := hm
                          replace hq := someE hq
                          subst hq
                          refine eX_ret (vs := [.bool (false)]) [.tmp 6] (by rfl) ⟨by (show lkE _ _ _ = _); kernel_rfl, trivial⟩ ?_
                          exact ⟨rfl, hB⟩
                        · have hm := condF hb580 hm
                          rewrite [hb580]
                          refine wS_pure 4 [(113, .bool (!(y544.2 == y63.2))), (112, .bool (!(y544.2 == y63.2))), (111, .bool (y63.2)), (110, .bool (y544.2))] (by kernel_rfl) ?_
                          refine wS_end (by rfl) ?_
                          refine eX_then ?_
                          refine cW_cond (t := !(y544.2 == y63.2)) (by kernel_rfl) (fun hb581 => ?_) (fun hb581 => ?_)
                          · have hm := condT hb581 hm
                            refine cW_seq ?_
                            refine cW_region ?_
                            refine wS_pure 1 [(6, .bool (false))] (by kernel_rfl) ?_
                            refine wS_end (by rfl) ?_
                            refine eX_then ?_
                            refine cW_ret ?_
                            refine eX_then_ret ?_
                            have hq : (some false : Option ((Bool))) = some _ := hm
                            replace hq := someE hq
                            subst hq
                            refine eX_ret (vs := [.bool (false)]) [.tmp 6] (by rfl) ⟨by (show lkE _ _ _ = _); kernel_rfl, trivial⟩ ?_
                            exact ⟨rfl, hB⟩
                          · have hm := condF hb581 hm
                            refine cW_skip ?_
                            refine eX_then ?_
                            refine cW_seq ?_
                            refine cW_region ?_
                            refine wS_pure 1 [(16, .int .i64 (1))] (by kernel_rfl) ?_
                            refine wS_end (by rfl) ?_
                            refine eX_then ?_
                            refine cW_seq ?_
                            refine cW_region ?_
                            refine wS_pure 2 [(115, .int .i64 (1)), (114, .slice A169 (y426.2).length cap170)] (by kernel_rfl) ?_
                            obtain ⟨y582, hy583, hm⟩ := bindE hm
                            refine wS_calls (d := 116) (f := 45) (vs := [.slice A169 (y426.2).length cap170, .int .i64 (1)]) (by kernel_rfl) ent45 (c_laws_heldInt64S hy583 (F430.sl encI_ok)) ?_
                            rintro _ w584 ⟨rfl, hc585⟩
                            replace F0_1 := F0_1.chg hc585 Dj.nil
                            replace F0_2 := F0_2.chg hc585 Dj.nil
                            replace F0_3 := F0_3.chg hc585 Dj.nil
                            replace F1 := F1.chg hc585 Dj.nil
                            replace F8 := F8.chg hc585 notNil
                            replace F24 := F24.chg hc585 Dj.nil
                            replace F30 := F30.chg hc585 Dj.nil
                            replace F36 := F36.chg hc585 Dj.nil
                            replace F55 := F55.chg hc585 Dj.nil
                            replace F70 := F70.chg hc585 Dj.nil
                            replace F403 := F403.chg hc585 Dj.nil
                            replace F405 := F405.chg hc585 Dj.nil
                            replace F407 := F407.chg hc585 Dj.nil
                            replace F142 := F142.chg hc585 notNil
                            replace F414 := F414.chg hc585 Dj.nil
                            replace F430 := F430.chg hc585 Dj.nil
                            replace F306 := F306.chg hc585 Dj.nil
                            replace F312 := F312.chg hc585 Dj.nil
                            replace F318 := F318.chg hc585 Dj.nil
                            replace F375 := F375.chg hc585 Dj.nil
                            replace F445 := F445.chg hc585 Dj.nil
                            replace F451 := F451.chg hc585 Dj.nil
                            replace F457 := F457.chg hc585 Dj.nil
                            replace F521 := F521.chg hc585 Dj.nil
                            replace F551 := F551.chg hc585 Dj.nil
                            replace hB := hB.inS hc585 inNil
                            replace hZ := Nat.le_trans hZ hc585.size
                            refine ⟨.int .i64 (y582), rfl, ?_⟩
                            refine wS_pure 1 [(16, .int .i64 (y582))] (by kernel_rfl) ?_
                            refine wS_end (by rfl) ?_
                            refine eX_then ?_
                            refine cW_seq ?_
                            refine cW_seq ?_
                            refine cW_region ?_
                            refine wS_pure 2 [(118, .bool (decide (y582 < 0))), (117, .int .i64 (y582))] (by kernel_rfl) ?_
                            refine wS_end (by rfl) ?_
                            refine eX_then ?_
                            refine cW_cond (t := decide (y582 < 0)) (by kernel_rfl) (fun hb586 => ?_) (fun hb586 => ?_)
                            · have hm := condT hb586 hm
                              refine cW_seq ?_
                              refine cW_region ?_
                              refine wS_pure 1 [(6, .bool (false))] (by kernel_rfl) ?_
                              refine wS_end (by rfl) ?_
                              refine eX_then ?_
                              refine cW_ret ?_
                              refine eX_then_ret ?_
                              have hq : (some false : Option ((Bool))) = some _ := hm
                              replace hq := someE hq
                              subst hq
                              refine eX_ret (vs := [.bool (false)]) [.tmp 6] (by rfl) ⟨by (show lkE _ _ _ = _); kernel_rfl, trivial⟩ ?_
                              exact ⟨rfl, hB⟩
                            · have hm := condF hb586 hm
                              refine cW_skip ?_
                              refine eX_then ?_
                              refine cW_seq ?_
                              refine cW_seq ?_
                              refine cW_region ?_
                              refine wS_pure 3 [(121, .bool (y582 != y426.1)), (120, .int .i64 (y426.1)), (119, .int .i64 (y582))] (by kernel_rfl) ?_
                              refine wS_end (by rfl) ?_
                              refine eX_then ?_
                              refine cW_prune [(121, .bool (y582 != y426.1))] (by kernel_rfl) (by kernel_rfl) (fun a587 => ?_)
                              refine cW_cond (t := y582 != y426.1) (by kernel_rfl) (fun hb588 => ?_) (fun hb588 => ?_)
                              · have hm := condT hb588 hm
                                refine cW_seq ?_
                                refine cW_region ?_
                                refine wS_pure 1 [(6, .bool (false))] (by kernel_rfl) ?_
                                refine wS_end (by rfl) ?_
                                refine eX_then ?_
                                refine cW_ret ?_
                                refine eX_then_ret ?_
                                have hq : (some false : Option ((Bool))) = some _ := hm
                                replace hq := someE hq
                                subst hq
                                refine eX_ret (vs := [.bool (false)]) [.tmp 6] (by rfl) ⟨by (show lkE _ _ _ = _); kernel_rfl, trivial⟩ ?_
                                exact ⟨rfl, hB⟩
                              · have hm := condF hb588 hm
                                refine cW_skip ?_
                                refine eX_then ?_
                                refine cW_seq ?_
                                refine cW_region ?_
                                refine wS_pure 1 [(6, .bool (true))] (by kernel_rfl) ?_
                                refine wS_end (by rfl) ?_
                                refine eX_then ?_
                                refine cW_ret ?_
                                have hq : (some true : Option ((Bool))) = some _ := hm
                                replace hq := someE hq
                                subst hq
                                refine eX_ret (vs := [.bool (true)]) [.tmp 6] (by rfl) ⟨by (show lkE _ _ _ = _); kernel_rfl, trivial⟩ ?_
                                exact ⟨rfl, hB⟩

end Go.Proofs.Ytngnljnfbfgfeaa
