/- Printed walks: laws.FnExactOddRing. -/
import Derived.Test.YtngnljnfbfgfeaaProg
import Derived.Test.YtngnljnfbfgfeaaWOd03
set_option linter.unusedSimpArgs false
set_option linter.unusedVariables false
namespace Go.Proofs.Ytngnljnfbfgfeaa
open Go.RowKit
attribute [local irreducible] wS cW eX wH

theorem ent14 : Ent Try.prog 14 := fun _ => by kernel_rfl
theorem ent37 : Ent Try.prog 37 := fun _ => by kernel_rfl
theorem ent39 : Ent Try.prog 39 := fun _ => by kernel_rfl
theorem ent40 : Ent Try.prog 40 := fun _ => by kernel_rfl
theorem ent43 : Ent Try.prog 43 := fun _ => by kernel_rfl
theorem ent45 : Ent Try.prog 45 := fun _ => by kernel_rfl
theorem ent48 : Ent Try.prog 48 := fun _ => by kernel_rfl
theorem vt59 : VarTy Try.prog 59 4 true := ⟨by kernel_rfl, by kernel_rfl⟩

set_option maxRecDepth 100000 in
/-- laws.FnExactOddRing -/
theorem c_laws_FnExactOddRing {w0 : World} {p0_0 : Int} {l0_1 : List (List (Int))} {A0_1 : Option Addr} {cap0_1 : Nat} {fp0_1 : List Nat} {l0_2 : List (List (Int))} {A0_2 : Option Addr} {cap0_2 : Nat} {fp0_2 : List Nat} {l0_3 : List (Int)} {A0_3 : Option Addr} {cap0_3 : Nat} {fp0_3 : List Nat} {r : (Bool)} (hm : m_laws_FnExactOddRing p0_0 l0_1 l0_2 l0_3 = some r) (F0_1 : SlR 1 encI w0 fp0_1 A0_1 l0_1) (F0_2 : SlR 1 encI w0 fp0_2 A0_2 l0_2) (F0_3 : Sl 1 encI w0 fp0_3 A0_3 l0_3) :
    Calls Try.prog 9 #[.agg #[.int .i64 (p0_0), .slice A0_1 (l0_1).length cap0_1, .slice A0_2 (l0_2).length cap0_2, .slice A0_3 (l0_3).length cap0_3]] w0 fun e w' => e = .returned (.bool (r)) ∧ Chg [] w0 w' := by
  have L0_1 := F0_1.low
  have L0_2 := F0_2.low
  have L0_3 := F0_3.low
  have hB : Chg [] w0 w0 := Chg.refl _ _
  have hZ := Nat.le_refl w0.heap.size
  unfold m_laws_FnExactOddRing at hm
  refine enterE (N := 96) Try.func9 (by rfl) Try.ntmps9 (by simp) [(0, .agg #[.int .i64 (p0_0), .slice A0_1 (l0_1).length cap0_1, .slice A0_2 (l0_2).length cap0_2, .slice A0_3 (l0_3).length cap0_3])] (by rfl) (by kernel_rfl) (fun a => ?_)
  refine cW_seq ?_
  refine cW_region ?_
  refine wS_box (d := 1) (T := 59) (x := .agg #[.int .i64 (p0_0), .slice A0_1 (l0_1).length cap0_1, .slice A0_2 (l0_2).length cap0_2, .slice A0_3 (l0_3).length cap0_3]) (by kernel_rfl) ?_
  intro b4 w5 G6 F7 hc8
  replace F7 : Cl w5 b4 59 [.int .i64 (p0_0), .slice A0_1 (l0_1).length cap0_1, .slice A0_2 (l0_2).length cap0_2, .slice A0_3 (l0_3).length cap0_3] := F7
  replace F0_1 := F0_1.chg hc8 Dj.nil
  replace F0_2 := F0_2.chg hc8 Dj.nil
  replace F0_3 := F0_3.chg hc8 Dj.nil
  replace hB := hB.inS hc8 inNil
  replace G6 := Nat.le_trans hZ G6
  replace hZ := Nat.le_trans hZ hc8.size
  refine wS_pure 1 [(2, .bool (false))] (by kernel_rfl) ?_
  refine wS_end (by rfl) ?_
  refine eX_then ?_
  refine cW_seq ?_
  refine cW_region ?_
  refine wS_pure 1 [(3, .int .i64 (1048576))] (by kernel_rfl) ?_
  refine wS_end (by rfl) ?_
  refine eX_then ?_
  refine cW_seq ?_
  refine cW_region ?_
  refine wS_loadA (d := 14) (T := 59) (ad := ⟨b4, 0, none⟩) (vs := [.int .i64 (p0_0), .slice A0_1 (l0_1).length cap0_1, .slice A0_2 (l0_2).length cap0_2, .slice A0_3 (l0_3).length cap0_3]) (by kernel_rfl) vt59 (fun i u hu => box_cells F7 0 hu (by rfl)) ?_
  refine wS_pure 1 [(15, .int .i64 (1048576))] (by kernel_rfl) ?_
  obtain ⟨y10, hy11, hm⟩ := bindE hm
  refine wS_calls (d := 16) (f := 37) (vs := [.agg #[.int .i64 (p0_0), .slice A0_1 (l0_1).length cap0_1, .slice A0_2 (l0_2).length cap0_2, .slice A0_3 (l0_3).length cap0_3], .int .i64 (1048576)]) (by kernel_rfl) ent37 (c_laws_szWiring hy11 F0_1 F0_2 F0_3) ?_
  rintro _ w12 ⟨rfl, hc13⟩
  replace F0_1 := F0_1.chg hc13 Dj.nil
  replace F0_2 := F0_2.chg hc13 Dj.nil
  replace F0_3 := F0_3.chg hc13 Dj.nil
  replace F7 := F7.chg hc13 notNil
  replace hB := hB.inS hc13 inNil
  replace hZ := Nat.le_trans hZ hc13.size
  refine ⟨.int .i64 (y10), rfl, ?_⟩
  refine wS_pure 1 [(3, .int .i64 (y10))] (by kernel_rfl) ?_
  refine wS_end (by rfl) ?_
  refine eX_then ?_
  refine cW_seq ?_
  refine cW_seq ?_
  refine cW_region ?_
  refine wS_pure 2 [(18, .bool (decide (y10 < 0))), (17, .int .i64 (y10))] (by kernel_rfl) ?_
  refine wS_end (by rfl) ?_
  refine eX_then ?_
  refine cW_cond (t := decide (y10 < 0)) (by kernel_rfl) (fun hb14 => ?_) (fun hb14 => ?_)
  · have hm := condT hb14 hm
    refine cW_seq ?_
    refine cW_region ?_
    refine wS_pure 1 [(2, .bool (true))] (by kernel_rfl) ?_
    refine wS_end (by rfl) ?_
    refine eX_then ?_
    refine cW_ret ?_
    refine eX_then_ret ?_
    have hq : (some true : Option ((Bool))) = some _ := hm
    replace hq := someE hq
    subst hq
    refine eX_ret (vs := [.bool (true)]) [.tmp 2] (by rfl) ⟨by (show lkE _ _ _ = _); kernel_rfl, trivial⟩ ?_
    exact ⟨rfl, hB⟩
  · have hm := condF hb14 hm
    refine cW_skip ?_
    refine eX_then ?_
    refine cW_seq ?_
    refine cW_region ?_
    refine wS_loadA (d := 20) (T := 59) (ad := ⟨b4, 0, none⟩) (vs := [.int .i64 (p0_0), .slice A0_1 (l0_1).length cap0_1, .slice A0_2 (l0_2).length cap0_2, .slice A0_3 (l0_3).length cap0_3]) (by kernel_rfl) vt59 (fun i u hu => box_cells F7 0 hu (by rfl)) ?_
    obtain ⟨y15, hy16, hm⟩ := bindE hm
    refine wS_calls (d := 21) (f := 39) (vs := [.agg #[.int .i64 (p0_0), .slice A0_1 (l0_1).length cap0_1, .slice A0_2 (l0_2).length cap0_2, .slice A0_3 (l0_3).length cap0_3]]) (by kernel_rfl) ent39 (c_laws_toWiring hy16 F0_1 F0_2 F0_3) ?_
    rintro _ w17 ⟨A19, cap20, fp21, fr24, A25, cap26, fp27, fr30, A31, cap32, fp33, rfl, F22, G23, F28, G29, F34, G35, D37, D38, D39, hc18⟩
    have D41 : Dj [b4] (fp21 ++ fr24) := Dj.of (lt1 F7.lt) G23
    have D43 : Dj [b4] (fp27 ++ fr30) := Dj.of (lt1 F7.lt) G29
    have D45 : Dj [b4] fp33 := Dj.of (lt1 F7.lt) G35
    replace F0_1 := F0_1.chg hc18 Dj.nil
    replace F0_2 := F0_2.chg hc18 Dj.nil
    replace F0_3 := F0_3.chg hc18 Dj.nil
    replace F7 := F7.chg hc18 notNil
    replace hB := hB.inS hc18 inNil
    replace G23 := low_le hZ G23
    replace G29 := low_le hZ G29
    replace G35 := low_le hZ G35
    replace hZ := Nat.le_trans hZ hc18.size
    refine ⟨.agg #[.int .i64 (y15.1), .slice A19 (y15.2.1).length cap20, .slice A25 (y15.2.2.1).length cap26, .slice A31 (y15.2.2.2).length cap32], rfl, ?_⟩
    obtain ⟨y46, hy47, hm⟩ := bindE hm
    refine wS_calls (d := 22) (f := 48) (vs := [.agg #[.int .i64 (y15.1), .slice A19 (y15.2.1).length cap20, .slice A25 (y15.2.2.1).length cap26, .slice A31 (y15.2.2.2).length cap32]]) (by kernel_rfl) ent48 (c_spec_OddRing hy47 (F22.slr encI_ok) (F28.slr encI_ok) (F34.sl encI_ok)) ?_
    rintro _ w48 ⟨A50, cap51, fp52, rfl, F53, G54, K55, hc49⟩
    have Rt57 : Rt w0.heap.size (fp0_1 ++ (fp0_2 ++ (fp0_3 ++ []))) fp52 := Rt.of G54 hZ (Rt.app (Rt.low G23) (Rt.app (Rt.low G29) (Rt.app (Rt.low G35) Rt.nil)))
    have G58 := Rt.lowof G54 hZ (lowApp G23 (lowApp G29 (lowApp G35 lowNil)))
    have D59 : Dj [b4] fp52 := Rt.dj G54 (lt1 F7.lt) (Dj.app D41 (Dj.app D43 (Dj.app D45 Dj.nil)))
    replace F0_1 := F0_1.chg hc49 Dj.nil
    replace F0_2 := F0_2.chg hc49 Dj.nil
    replace F0_3 := F0_3.chg hc49 Dj.nil
    replace F7 := F7.chg hc49 notNil
    replace F22 := F22.chg hc49 Dj.nil
    replace F28 := F28.chg hc49 Dj.nil
    replace F34 := F34.chg hc49 Dj.nil
    replace hB := hB.inS hc49 inNil
    replace hZ := Nat.le_trans hZ hc49.size
    refine ⟨.tuple #[.slice A50 (y46.1).length cap51, .bool (y46.2)], rfl, ?_⟩
    refine wS_pure 5 [(5, .bool (y46.2)), (4, .slice A50 (y46.1).length cap51), (24, .bool (y46.2)), (23, .slice A50 (y46.1).length cap51), (19, .tuple #[.slice A50 (y46.1).length cap51, .bool (y46.2)])] (by kernel_rfl) ?_
    refine wS_end (by rfl) ?_
    refine eX_then ?_
    refine cW_seq ?_
    refine cW_region ?_
    refine wS_loadA (d := 25) (T := 59) (ad := ⟨b4, 0, none⟩) (vs := [.int .i64 (p0_0), .slice A0_1 (l0_1).length cap0_1, .slice A0_2 (l0_2).length cap0_2, .slice A0_3 (l0_3).length cap0_3]) (by kernel_rfl) vt59 (fun i u hu => box_cells F7 0 hu (by rfl)) ?_
    obtain ⟨y60, hy61, hm⟩ := bindE hm
    refine wS_calls (d := 26) (f := 39) (vs := [.agg #[.int .i64 (p0_0), .slice A0_1 (l0_1).length cap0_1, .slice A0_2 (l0_2).length cap0_2, .slice A0_3 (l0_3).length cap0_3]]) (by kernel_rfl) ent39 (c_laws_toWiring hy61 F0_1 F0_2 F0_3) ?_
    rintro _ w62 ⟨A64, cap65, fp66, fr69, A70, cap71, fp72, fr75, A76, cap77, fp78, rfl, F67, G68, F73, G74, F79, G80, D82, D83, D84, hc63⟩
    have D86 : Dj [b4] (fp66 ++ fr69) := Dj.of (lt1 F7.lt) G68
    have D87 : Dj (fp21 ++ fr24) (fp66 ++ fr69) := Dj.of F22.low G68
    have D88 : Dj (fp27 ++ fr30) (fp66 ++ fr69) := Dj.of F28.low G68
    have D89 : Dj fp33 (fp66 ++ fr69) := Dj.of F34.low G68
    have D90 : Dj fp52 (fp66 ++ fr69) := Dj.of F53.low G68
    have D92 : Dj [b4] (fp72 ++ fr75) := Dj.of (lt1 F7.lt) G74
    have D93 : Dj (fp21 ++ fr24) (fp72 ++ fr75) := Dj.of F22.low G74
    have D94 : Dj (fp27 ++ fr30) (fp72 ++ fr75) := Dj.of F28.low G74
    have D95 : Dj fp33 (fp72 ++ fr75) := Dj.of F34.low G74
    have D96 : Dj fp52 (fp72 ++ fr75) := Dj.of F53.low G74
    have D98 : Dj [b4] fp78 := Dj.of (lt1 F7.lt) G80
    have D99 : Dj (fp21 ++ fr24) fp78 := Dj.of F22.low G80
    have D100 : Dj (fp27 ++ fr30) fp78 := Dj.of F28.low G80
    have D101 : Dj fp33 fp78 := Dj.of F34.low G80
    have D102 : Dj fp52 fp78 := Dj.of F53.low G80
    replace F0_1 := F0_1.chg hc63 Dj.nil
    replace F0_2 := F0_2.chg hc63 Dj.nil
    replace F0_3 := F0_3.chg hc63 Dj.nil
    replace F7 := F7.chg hc63 notNil
    replace F22 := F22.chg hc63 Dj.nil
    replace F28 := F28.chg hc63 Dj.nil
    replace F34 := F34.chg hc63 Dj.nil
    replace F53 := F53.chg hc63 Dj.nil
    replace hB := hB.inS hc63 inNil
    replace G68 := low_le hZ G68
    replace G74 := low_le hZ G74
    replace G80 := low_le hZ G80
    replace hZ := Nat.le_trans hZ hc63.size
    refine ⟨.agg #[.int .i64 (y60.1), .slice A64 (y60.2.1).length cap65, .slice A70 (y60.2.2.1).length cap71, .slice A76 (y60.2.2.2).length cap77], rfl, ?_⟩
    refine wS_alloc (d := 6) (T := 27) (z := .agg #[.int .i64 (0), .slice none 0 0, .slice none 0 0, .slice none 0 0]) (by kernel_rfl) (by kernel_rfl) ?_
    intro b103 w104 G105 F106 hc107
    replace F106 : Cl w104 b103 27 [.int .i64 (0), .slice none 0 0, .slice none 0 0, .slice none 0 0] := F106
    have D109 : Dj [b4] [b103] := Dj.of (lt1 F7.lt) (low1 G105)
    have D110 : Dj (fp21 ++ fr24) [b103] := Dj.of F22.low (low1 G105)
    have D111 : Dj (fp27 ++ fr30) [b103] := Dj.of F28.low (low1 G105)
    have D112 : Dj fp33 [b103] := Dj.of F34.low (low1 G105)
    have D113 : Dj fp52 [b103] := Dj.of F53.low (low1 G105)
    have D114 : Dj (fp66 ++ fr69) [b103] := Dj.of F67.low (low1 G105)
    have D115 : Dj (fp72 ++ fr75) [b103] := Dj.of F73.low (low1 G105)
    have D116 : Dj fp78 [b103] := Dj.of F79.low (low1 G105)
    replace F0_1 := F0_1.chg hc107 Dj.nil
    replace F0_2 := F0_2.chg hc107 Dj.nil
    replace F0_3 := F0_3.chg hc107 Dj.nil
    replace F7 := F7.chg hc107 notNil
    replace F22 := F22.chg hc107 Dj.nil
    replace F28 := F28.chg hc107 Dj.nil
    replace F34 := F34.chg hc107 Dj.nil
    replace F53 := F53.chg hc107 Dj.nil
    replace F67 := F67.chg hc107 Dj.nil
    replace F73 := F73.chg hc107 Dj.nil
    replace F79 := F79.chg hc107 Dj.nil
    replace hB := hB.inS hc107 inNil
    replace G105 := Nat.le_trans hZ G105
    replace hZ := Nat.le_trans hZ hc107.size
    refine wS_store (T := 27) (g := b103) (o := 0) (ad := ⟨b103, 0, none⟩) (v := .agg #[.int .i64 (y60.1), .slice A64 (y60.2.1).length cap65, .slice A70 (y60.2.2.1).length cap71, .slice A76 (y60.2.2.2).length cap77]) (vs := [.int .i64 (y60.1), .slice A64 (y60.2.1).length cap65, .slice A70 (y60.2.2.1).length cap71, .slice A76 (y60.2.2.2).length cap77]) (by kernel_rfl) (by rfl) sz27 (by rfl) (by rfl) F106 (by simp only [List.length_cons, List.length_nil]; omega) ?_
    intro w117 F118 hc119
    replace F0_1 := F0_1.chg hc119 (Dj.of L0_1 (low1 G105))
    replace F0_2 := F0_2.chg hc119 (Dj.of L0_2 (low1 G105))
    replace F0_3 := F0_3.chg hc119 (Dj.of L0_3 (low1 G105))
    replace F7 := F7.chg hc119 (dj1 D109)
    replace F22 := F22.chg hc119 D110
    replace F28 := F28.chg hc119 D111
    replace F34 := F34.chg hc119 D112
    replace F53 := F53.chg hc119 D113
    replace F67 := F67.chg hc119 D114
    replace F73 := F73.chg hc119 D115
    replace F79 := F79.chg hc119 D116
    replace hB := hB.inS hc119 (inLow (low1 G105))
    replace hZ := Nat.le_trans hZ hc119.size
    replace F118 : Cl w117 b103 27 [.int .i64 (y60.1), .slice A64 (y60.2.1).length cap65, .slice A70 (y60.2.2.1).length cap71, .slice A76 (y60.2.2.2).length cap77] := F118
    clear F106
    refine wS_end (by rfl) ?_
    refine eX_then ?_
    refine cW_seq ?_
    refine cW_region ?_
    refine wS_loadA (d := 28) (T := 27) (ad := ⟨b103, 0, none⟩) (vs := [.int .i64 (y60.1), .slice A64 (y60.2.1).length cap65, .slice A70 (y60.2.2.1).length cap71, .slice A76 (y60.2.2.2).length cap77]) (by kernel_rfl) vt27 (fun i u hu => box_cells F118 0 hu (by rfl)) ?_
    obtain ⟨y120, hy121, hm⟩ := bindE hm
    refine wS_calls (d := 29) (f := 14) (vs := [.agg #[.int .i64 (y60.1), .slice A64 (y60.2.1).length cap65, .slice A70 (y60.2.2.1).length cap71, .slice A76 (y60.2.2.2).length cap77]]) (by kernel_rfl) ent14 (c_impl_OddRing hy121 (F67.slr encI_ok) (F73.slr encI_ok) (F79.sl encI_ok)) ?_
    rintro _ w122 ⟨A124, cap125, fp126, rfl, F127, G128, hc123⟩
    have D131 : Dj [b4] fp126 := Dj.of (lt1 F7.lt) G128
    have D132 : Dj (fp21 ++ fr24) fp126 := Dj.of F22.low G128
    have D133 : Dj (fp27 ++ fr30) fp126 := Dj.of F28.low G128
    have D134 : Dj fp33 fp126 := Dj.of F34.low G128
    have D135 : Dj fp52 fp126 := Dj.of F53.low G128
    have D136 : Dj (fp66 ++ fr69) fp126 := Dj.of F67.low G128
    have D137 : Dj (fp72 ++ fr75) fp126 := Dj.of F73.low G128
    have D138 : Dj fp78 fp126 := Dj.of F79.low G128
    have D139 : Dj [b103] fp126 := Dj.of (lt1 F118.lt) G128
    replace F0_1 := F0_1.chg hc123 Dj.nil
    replace F0_2 := F0_2.chg hc123 Dj.nil
    replace F0_3 := F0_3.chg hc123 Dj.nil
    replace F7 := F7.chg hc123 notNil
    replace F22 := F22.chg hc123 Dj.nil
    replace F28 := F28.chg hc123 Dj.nil
    replace F34 := F34.chg hc123 Dj.nil
    replace F53 := F53.chg hc123 Dj.nil
    replace F67 := F67.chg hc123 Dj.nil
    replace F73 := F73.chg hc123 Dj.nil
    replace F79 := F79.chg hc123 Dj.nil
    replace F118 := F118.chg hc123 notNil
    replace hB := hB.inS hc123 inNil
    replace G128 := low_le hZ G128
    replace hZ := Nat.le_trans hZ hc123.size
    refine ⟨.tuple #[.slice A124 (y120.1).length cap125, .bool (y120.2)], rfl, ?_⟩
    refine wS_pure 5 [(8, .bool (y120.2)), (7, .slice A124 (y120.1).length cap125), (31, .bool (y120.2)), (30, .slice A124 (y120.1).length cap125), (27, .tuple #[.slice A124 (y120.1).length cap125, .bool (y120.2)])] (by kernel_rfl) ?_
    refine wS_end (by rfl) ?_
    refine eX_then ?_
    refine cW_prune [(1, .pointer (some ⟨b4, 0, none⟩)), (4, .slice A50 (y46.1).length cap51), (5, .bool (y46.2)), (6, .pointer (some ⟨b103, 0, none⟩)), (7, .slice A124 (y120.1).length cap125), (8, .bool (y120.2))] (by kernel_rfl) (by kernel_rfl) (fun a140 => ?_)
    refine cW_seq ?_
    refine cW_seq ?_
    refine cW_region ?_
    refine wS_pure 2 [(33, .slice A50 (y46.1).length cap51), (32, .slice A124 (y120.1).length cap125)] (by kernel_rfl) ?_
    obtain ⟨y141, hy142, hm⟩ := bindE hm
    refine wS_calls (d := 34) (f := 42) (vs := [.slice A124 (y120.1).length cap125, .slice A50 (y46.1).length cap51]) (by kernel_rfl) ent42 (c_laws_eqInt64S hy142 (F127.sl encI_ok) F53) ?_
    rintro _ w143 ⟨rfl, hc144⟩
    replace F0_1 := F0_1.chg hc144 Dj.nil
    replace F0_2 := F0_2.chg hc144 Dj.nil
    replace F0_3 := F0_3.chg hc144 Dj.nil
    replace F7 := F7.chg hc144 notNil
    replace F22 := F22.chg hc144 Dj.nil
    replace F28 := F28.chg hc144 Dj.nil
    replace F34 := F34.chg hc144 Dj.nil
    replace F53 := F53.chg hc144 Dj.nil
    replace F67 := F67.chg hc144 Dj.nil
    replace F73 := F73.chg hc144 Dj.nil
    replace F79 := F79.chg hc144 Dj.nil
    replace F118 := F118.chg hc144 notNil
    replace F127 := F127.chg hc144 Dj.nil
    replace hB := hB.inS hc144 inNil
    replace hZ := Nat.le_trans hZ hc144.size
    refine ⟨.bool (y141), rfl, ?_⟩
    refine wS_pure 2 [(36, .bool (!y141)), (35, .bool (!y141))] (by kernel_rfl) ?_
    refine wS_bool (!y141) (fun hb145 => ?_) (fun hb145 => ?_)
    · have hm := condT hb145 hm
      rewrite [hb145]
      refine wS_pure 4 [(40, .bool (true)), (39, undef), (38, undef), (37, undef)] (by kernel_rfl) ?_
      refine wS_end (by rfl) ?_
      refine eX_then ?_
      refine cW_cond_t (by kernel_rfl) ?_
      refine cW_seq ?_
      refine cW_region ?_
      refine wS_pure 1 [(2, .bool (false))] (by kernel_rfl) ?_
      refine wS_end (by rfl) ?_
      refine eX_then ?_
      refine cW_ret ?_
      refine eX_then_ret ?_
      have hq : (some false : Option ((Bool))) = some _ := hm
      replace hq := someE hq
      subst hq
      refine eX_ret (vs := [.bool (false)]) [.tmp 2] (by rfl) ⟨by (show lkE _ _ _ = _); kernel_rfl, trivial⟩ ?_
      exact ⟨rfl, hB⟩
    · have hm := condF hb145 hm
      rewrite [hb145]
      refine wS_pure 4 [(40, .bool (!(y120.2 == y46.2))), (39, .bool (!(y120.2 == y46.2))), (38, .bool (y46.2)), (37, .bool (y120.2))] (by kernel_rfl) ?_
      refine wS_end (by rfl) ?_
      refine eX_then ?_
      refine cW_cond (t := !(y120.2 == y46.2)) (by kernel_rfl) (fun hb146 => ?_) (fun hb146 => ?_)
      · have hm := condT hb146 hm
        refine cW_seq ?_
        refine cW_region ?_
        refine wS_pure 1 [(2, .bool (false))] (by kernel_rfl) ?_
        refine wS_end (by rfl) ?_
        refine eX_then ?_
        refine cW_ret ?_
        refine eX_then_ret ?_
        have hq : (some false : Option ((Bool))) = some _ := hm
        replace hq := someE hq
        subst hq
        refine eX_ret (vs := [.bool (false)]) [.tmp 2] (by rfl) ⟨by (show lkE _ _ _ = _); kernel_rfl, trivial⟩ ?_
        exact ⟨rfl, hB⟩
      · have hm := condF hb146 hm
        refine cW_skip ?_
        refine eX_then ?_
        refine cW_seq ?_
        refine cW_seq ?_
        refine cW_drawnTail [] 3 (by kernel_rfl) (by kernel_rfl) (fun w224 hc225 => ?_)
        replace F0_1 := F0_1.chg hc225 Dj.nil
        replace F0_2 := F0_2.chg hc225 Dj.nil
        replace F0_3 := F0_3.chg hc225 Dj.nil
        replace F7 := F7.chg hc225 notNil
        replace F22 := F22.chg hc225 Dj.nil
        replace F28 := F28.chg hc225 Dj.nil
        replace F34 := F34.chg hc225 Dj.nil
        replace F53 := F53.chg hc225 Dj.nil
        replace F67 := F67.chg hc225 Dj.nil
        replace F73 := F73.chg hc225 Dj.nil
        replace F79 := F79.chg hc225 Dj.nil
        replace F118 := F118.chg hc225 notNil
        replace F127 := F127.chg hc225 Dj.nil
        replace hB := hB.inS hc225 inNil
        replace hZ := Nat.le_trans hZ hc225.size
        have hS := Chg.refl [] w224
        have Z226 := F0_1
        have Z227 := F0_2
        have Z228 := F0_3
        have Z229 := F7
        have Z230 := F22
        have Z231 := F28
        have Z232 := F34
        have Z233 := F53
        have Z234 := F67
        have Z235 := F73
        have Z236 := F79
        have Z237 := F118
        have Z238 := F127
        refine wH_loadA (i := 0) (d := 41) (T := 27) (ad := ⟨b103, 0, none⟩) (vs := [.int .i64 (y60.1), .slice A64 (y60.2.1).length cap65, .slice A70 (y60.2.2.1).length cap71, .slice A76 (y60.2.2.2).length cap77]) (by kernel_rfl) (qT (qT (qT qZ))) (by kernel_rfl) (by kernel_rfl) vt27 (fun W hW i u hu => box_cells (Z237.chg hW notNil) 0 hu (by rfl)) ?_
        refine wH_loadA (i := 1) (d := 42) (T := 59) (ad := ⟨b4, 0, none⟩) (vs := [.int .i64 (p0_0), .slice A0_1 (l0_1).length cap0_1, .slice A0_2 (l0_2).length cap0_2, .slice A0_3 (l0_3).length cap0_3]) (by kernel_rfl) (qT (qT (qT qZ))) (by kernel_rfl) (by kernel_rfl) vt59 (fun W hW i u hu => box_cells (Z229.chg hW notNil) 0 hu (by rfl)) ?_
        refine wH_all [2] (by rfl) (by kernel_rfl) (by simp) ⟨⟨by kernel_rfl, ?_⟩, trivial⟩
        obtain ⟨y239, hy240, hm⟩ := bindE hm
        refine wS_calls (d := 43) (f := 39) (vs := [.agg #[.int .i64 (p0_0), .slice A0_1 (l0_1).length cap0_1, .slice A0_2 (l0_2).length cap0_2, .slice A0_3 (l0_3).length cap0_3]]) (by kernel_rfl) ent39 (c_laws_toWiring hy240 F0_1 F0_2 F0_3) ?_
        rintro _ w241 ⟨A243, cap244, fp245, fr248, A249, cap250, fp251, fr254, A255, cap256, fp257, rfl, F246, G247, F252, G253, F258, G259, D261, D262, D263, hc242⟩
        have D265 : Dj [b4] (fp245 ++ fr248) := Dj.of (lt1 F7.lt) G247
        have D266 : Dj (fp21 ++ fr24) (fp245 ++ fr248) := Dj.of F22.low G247
        have D267 : Dj (fp27 ++ fr30) (fp245 ++ fr248) := Dj.of F28.low G247
        have D268 : Dj fp33 (fp245 ++ fr248) := Dj.of F34.low G247
        have D269 : Dj fp52 (fp245 ++ fr248) := Dj.of F53.low G247
        have D270 : Dj (fp66 ++ fr69) (fp245 ++ fr248) := Dj.of F67.low G247
        have D271 : Dj (fp72 ++ fr75) (fp245 ++ fr248) := Dj.of F73.low G247
        have D272 : Dj fp78 (fp245 ++ fr248) := Dj.of F79.low G247
        have D273 : Dj [b103] (fp245 ++ fr248) := Dj.of (lt1 F118.lt) G247
        have D274 : Dj fp126 (fp245 ++ fr248) := Dj.of F127.low G247
        have D276 : Dj [b4] (fp251 ++ fr254) := Dj.of (lt1 F7.lt) G253
        have D277 : Dj (fp21 ++ fr24) (fp251 ++ fr254) := Dj.of F22.low G253
        have D278 : Dj (fp27 ++ fr30) (fp251 ++ fr254) := Dj.of F28.low G253
        have D279 : Dj fp33 (fp251 ++ fr254) := Dj.of F34.low G253
        have D280 : Dj fp52 (fp251 ++ fr254) := Dj.of F53.low G253
        have D281 : Dj (fp66 ++ fr69) (fp251 ++ fr254) := Dj.of F67.low G253
        have D282 : Dj (fp72 ++ fr75) (fp251 ++ fr254) := Dj.of F73.low G253
        have D283 : Dj fp78 (fp251 ++ fr254) := Dj.of F79.low G253
        have D284 : Dj [b103] (fp251 ++ fr254) := Dj.of (lt1 F118.lt) G253
        have D285 : Dj fp126 (fp251 ++ fr254) := Dj.of F127.low G253
        have D287 : Dj [b4] fp257 := Dj.of (lt1 F7.lt) G259
        have D288 : Dj (fp21 ++ fr24) fp257 := Dj.of F22.low G259
        have D289 : Dj (fp27 ++ fr30) fp257 := Dj.of F28.low G259
        have D290 : Dj fp33 fp257 := Dj.of F34.low G259
        have D291 : Dj fp52 fp257 := Dj.of F53.low G259
        have D292 : Dj (fp66 ++ fr69) fp257 := Dj.of F67.low G259
        have D293 : Dj (fp72 ++ fr75) fp257 := Dj.of F73.low G259
        have D294 : Dj fp78 fp257 := Dj.of F79.low G259
        have D295 : Dj [b103] fp257 := Dj.of (lt1 F118.lt) G259
        have D296 : Dj fp126 fp257 := Dj.of F127.low G259
        replace F0_1 := F0_1.chg hc242 Dj.nil
        replace F0_2 := F0_2.chg hc242 Dj.nil
        replace F0_3 := F0_3.chg hc242 Dj.nil
        replace F7 := F7.chg hc242 notNil
        replace F22 := F22.chg hc242 Dj.nil
        replace F28 := F28.chg hc242 Dj.nil
        replace F34 := F34.chg hc242 Dj.nil
        replace F53 := F53.chg hc242 Dj.nil
        replace F67 := F67.chg hc242 Dj.nil
        replace F73 := F73.chg hc242 Dj.nil
        replace F79 := F79.chg hc242 Dj.nil
        replace F118 := F118.chg hc242 notNil
        replace F127 := F127.chg hc242 Dj.nil
        replace hB := hB.inS hc242 inNil
        have hSz := hS
        replace hS := hS.inS hc242 inNil
        replace G247 := low_le hZ G247
        replace G253 := low_le hZ G253
        replace G259 := low_le hZ G259
        replace hZ := Nat.le_trans hZ hc242.size
        refine ⟨.agg #[.int .i64 (y239.1), .slice A243 (y239.2.1).length cap244, .slice A249 (y239.2.2.1).length cap250, .slice A255 (y239.2.2.2).length cap256], rfl, ?_⟩
        refine wS_end (by kernel_rfl) ?_
        refine eX_KH hS ?_
        refine wH_done (by kernel_rfl) ?_
        refine eX_tail ?_
        obtain ⟨y297, hy298, hm⟩ := bindE hm
        refine wS_calls (d := 44) (f := 40) (vs := [.agg #[.int .i64 (y60.1), .slice A64 (y60.2.1).length cap65, .slice A70 (y60.2.2.1).length cap71, .slice A76 (y60.2.2.2).length cap77], .agg #[.int .i64 (y239.1), .slice A243 (y239.2.1).length cap244, .slice A249 (y239.2.2.1).length cap250, .slice A255 (y239.2.2.2).length cap256]]) (by kernel_rfl) ent40 (c_laws_eqWiring hy298 (F67.slr encI_ok) (F73.slr encI_ok) (F79.sl encI_ok) (F246.slr encI_ok) (F252.slr encI_ok) (F258.sl encI_ok)) ?_
        rintro _ w299 ⟨rfl, hc300⟩
        replace F0_1 := F0_1.chg hc300 Dj.nil
        replace F0_2 := F0_2.chg hc300 Dj.nil
        replace F0_3 := F0_3.chg hc300 Dj.nil
        replace F7 := F7.chg hc300 notNil
        replace F22 := F22.chg hc300 Dj.nil
        replace F28 := F28.chg hc300 Dj.nil
        replace F34 := F34.chg hc300 Dj.nil
        replace F53 := F53.chg hc300 Dj.nil
        replace F67 := F67.chg hc300 Dj.nil
        replace F73 := F73.chg hc300 Dj.nil
        replace F79 := F79.chg hc300 Dj.nil
        replace F118 := F118.chg hc300 notNil
        replace F127 := F127.chg hc300 Dj.nil
        replace F246 := F246.chg hc300 Dj.nil
        replace F252 := F252.chg hc300 Dj.nil
        replace F258 := F258.chg hc300 Dj.nil
        replace hB := hB.inS hc300 inNil
        replace hZ := Nat.le_trans hZ hc300.size
        refine ⟨.bool (y297), rfl, ?_⟩
        refine wS_pure 1 [(45, .bool (!y297))] (by kernel_rfl) ?_
        refine wS_end (by rfl) ?_
        refine eX_then ?_
        refine cW_cond (t := !y297) (by kernel_rfl) (fun hb301 => ?_) (fun hb301 => ?_)
        · have hm := condT hb301 hm
          refine cW_seq ?_
          refine cW_region ?_
          refine wS_pure 1 [(2, .bool (false))] (by kernel_rfl) ?_
          refine wS_end (by rfl) ?_
          refine eX_then ?_
          refine cW_ret ?_
          refine eX_then_ret ?_
          have hq : (some false : Option ((Bool))) = some _ := hm
          replace hq := someE hq
          subst hq
          refine eX_ret (vs := [.bool (false)]) [.tmp 2] (by rfl) ⟨by (show lkE _ _ _ = _); kernel_rfl, trivial⟩ ?_
          exact ⟨rfl, hB⟩
        · have hm := condF hb301 hm
          refine cW_skip ?_
          refine eX_then ?_
          refine cW_seq ?_
          refine cW_region ?_
          refine wS_pure 1 [(9, .int .i64 (1))] (by kernel_rfl) ?_
          refine wS_end (by rfl) ?_
          refine eX_then ?_
          refine cW_seq ?_
          refine cW_region ?_
          refine wS_loadA (d := 46) (T := 27) (ad := ⟨b103, 0, none⟩) (vs := [.int .i64 (y60.1), .slice A64 (y60.2.1).length cap65, .slice A70 (y60.2.2.1).length cap71, .slice A76 (y60.2.2.2).length cap77]) (by kernel_rfl) vt27 (fun i u hu => box_cells F118 0 hu (by rfl)) ?_
          refine wS_pure 1 [(47, .int .i64 (1))] (by kernel_rfl) ?_
          obtain ⟨y302, hy303, hm⟩ := bindE hm
          refine wS_calls (d := 48) (f := 43) (vs := [.agg #[.int .i64 (y60.1), .slice A64 (y60.2.1).length cap65, .slice A70 (y60.2.2.1).length cap71, .slice A76 (y60.2.2.2).length cap77], .int .i64 (1)]) (by kernel_rfl) ent43 (c_laws_markWiring hy303 F67 F73 F79 D82 D83 D84) ?_
          rintro _ w304 ⟨rfl, F306, hl307, F308, hl309, F310, hl311, hc305⟩
          replace F0_1 := F0_1.chg hc305 (Dj.app (Dj.of L0_1 G68) (Dj.app (Dj.of L0_1 G74) (Dj.app (Dj.of L0_1 G80) Dj.nil)))
          replace F0_2 := F0_2.chg hc305 (Dj.app (Dj.of L0_2 G68) (Dj.app (Dj.of L0_2 G74) (Dj.app (Dj.of L0_2 G80) Dj.nil)))
          replace F0_3 := F0_3.chg hc305 (Dj.app (Dj.of L0_3 G68) (Dj.app (Dj.of L0_3 G74) (Dj.app (Dj.of L0_3 G80) Dj.nil)))
          replace F7 := F7.chg hc305 (dj1 (Dj.app D86 (Dj.app D92 (Dj.app D98 Dj.nil))))
          replace F22 := F22.chg hc305 (Dj.app D87 (Dj.app D93 (Dj.app D99 Dj.nil)))
          replace F28 := F28.chg hc305 (Dj.app D88 (Dj.app D94 (Dj.app D100 Dj.nil)))
          replace F34 := F34.chg hc305 (Dj.app D89 (Dj.app D95 (Dj.app D101 Dj.nil)))
          replace F53 := F53.chg hc305 (Dj.app D90 (Dj.app D96 (Dj.app D102 Dj.nil)))
          replace F118 := F118.chg hc305 (dj1 (Dj.app (D114).symm (Dj.app (D115).symm (Dj.app (D116).symm Dj.nil))))
          replace F127 := F127.chg hc305 (Dj.app (D136).symm (Dj.app (D137).symm (Dj.app (D138).symm Dj.nil)))
          replace F246 := F246.chg hc305 (Dj.app (D270).symm (Dj.app (D271).symm (Dj.app (D272).symm Dj.nil)))
          replace F252 := F252.chg hc305 (Dj.app (D281).symm (Dj.app (D282).symm (Dj.app (D283).symm Dj.nil)))
          replace F258 := F258.chg hc305 (Dj.app (D292).symm (Dj.app (D293).symm (Dj.app (D294).symm Dj.nil)))
          replace hB := hB.inS hc305 (inApp (inLow G68) (inApp (inLow G74) (inApp (inLow G80) inNil)))
          replace hZ := Nat.le_trans hZ hc305.size
          clear F67
          clear F73
          clear F79
          refine ⟨.int .i64 (y302.1), rfl, ?_⟩
          rewrite [(show (y60.2.1).length = (y302.2.1).length from hl307.symm)]
          try rewrite [(show (y60.2.1).length = (y302.2.1).length from hl307.symm)] at F7
          try rewrite [(show (y60.2.1).length = (y302.2.1).length from hl307.symm)] at F118
          rewrite [(show (y60.2.2.1).length = (y302.2.2.1).length from hl309.symm)]
          try rewrite [(show (y60.2.2.1).length = (y302.2.2.1).length from hl309.symm)] at F7
          try rewrite [(show (y60.2.2.1).length = (y302.2.2.1).length from hl309.symm)] at F118
          rewrite [(show (y60.2.2.2).length = (y302.2.2.2).length from hl311.symm)]
          try rewrite [(show (y60.2.2.2).length = (y302.2.2.2).length from hl311.symm)] at F7
          try rewrite [(show (y60.2.2.2).length = (y302.2.2.2).length from hl311.symm)] at F118
          refine wS_pure 1 [(9, .int .i64 (y302.1))] (by kernel_rfl) ?_
          refine wS_end (by rfl) ?_
          refine eX_then ?_
          refine cW_prune [(1, .pointer (some ⟨b4, 0, none⟩)), (4, .slice A50 (y46.1).length cap51), (5, .bool (y46.2)), (7, .slice A124 (y120.1).length cap125), (8, .bool (y120.2)), (9, .int .i64 (y302.1))] (by kernel_rfl) (by kernel_rfl) (fun a312 => ?_)
          refine cW_seq ?_
          refine cW_seq ?_
          refine cW_region ?_
          refine wS_pure 3 [(51, .bool (decide (y302.1 < 0))), (50, .bool (decide (y302.1 < 0))), (49, .int .i64 (y302.1))] (by kernel_rfl) ?_
          refine wS_bool (decide (y302.1 < 0)) (fun hb313 => ?_) (fun hb313 => ?_)
          · have hm := condT hb313 hm
            rewrite [hb313]
            refine wS_pure 10 [(61, .bool (true)), (60, undef), (59, undef), (58, undef), (57, .bool (true)), (56, .bool (true)), (55, undef), (54, undef), (53, undef), (52, undef)] (by kernel_rfl) ?_
            refine wS_end (by rfl) ?_
            refine eX_then ?_
            refine cW_cond_t (by kernel_rfl) ?_
            refine cW_seq ?_
            refine cW_region ?_
            refine wS_pure 1 [(2, .bool (false))] (by kernel_rfl) ?_
            refine wS_end (by rfl) ?_
            refine eX_then ?_
            refine cW_ret ?_
            refine eX_then_ret ?_
            have hq : (some false : Option ((Bool))) = some _ := hm
            replace hq := someE hq
            subst hq
            refine eX_ret (vs := [.bool (false)]) [.tmp 2] (by rfl) ⟨by (show lkE _ _ _ = _); kernel_rfl, trivial⟩ ?_
            exact ⟨rfl, hB⟩
          · have hm := condF hb313 hm
            rewrite [hb313]
            refine wS_pure 2 [(53, .slice A50 (y46.1).length cap51), (52, .slice A124 (y120.1).length cap125)] (by kernel_rfl) ?_
            obtain ⟨y314, hy315, hm⟩ := bindE hm
            refine wS_calls (d := 54) (f := 42) (vs := [.slice A124 (y120.1).length cap125, .slice A50 (y46.1).length cap51]) (by kernel_rfl) ent42 (c_laws_eqInt64S hy315 (F127.sl encI_ok) F53) ?_
            rintro _ w316 ⟨rfl, hc317⟩
            replace F0_1 := F0_1.chg hc317 Dj.nil
            replace F0_2 := F0_2.chg hc317 Dj.nil
            replace F0_3 := F0_3.chg hc317 Dj.nil
            replace F7 := F7.chg hc317 notNil
            replace F22 := F22.chg hc317 Dj.nil
            replace F28 := F28.chg hc317 Dj.nil
            replace F34 := F34.chg hc317 Dj.nil
            replace F53 := F53.chg hc317 Dj.nil
            replace F306 := F306.chg hc317 Dj.nil
            replace F308 := F308.chg hc317 Dj.nil
            replace F310 := F310.chg hc317 Dj.nil
            replace F118 := F118.chg hc317 notNil
            replace F127 := F127.chg hc317 Dj.nil
            replace F246 := F246.chg hc317 Dj.nil
            replace F252 := F252.chg hc317 Dj.nil
            replace F258 := F258.chg hc317 Dj.nil
            replace hB := hB.inS hc317 inNil
            replace hZ := Nat.le_trans hZ hc317.size
            refine ⟨.bool (y314), rfl, ?_⟩
            refine wS_pure 3 [(57, .bool (!y314)), (56, .bool (!y314)), (55, .bool (!y314))] (by kernel_rfl) ?_
            refine wS_bool (!y314) (fun hb318 => ?_) (fun hb318 => ?_)
            · have hm := condT hb318 hm
              rewrite [hb318]
              refine wS_pure 4 [(61, .bool (true)), (60, undef), (59, undef), (58, undef)] (by kernel_rfl) ?_
              refine wS_end (by rfl) ?_
              refine eX_then ?_
              refine cW_cond_t (by kernel_rfl) ?_
              refine cW_seq ?_
              refine cW_region ?_
              refine wS_pure 1 [(2, .bool (false))] (by kernel_rfl) ?_
              refine wS_end (by rfl) ?_
              refine eX_then ?_
              refine cW_ret ?_
              refine eX_then_ret ?_
              have hq : (some false : Option ((Bool))) = some _ := hm
              replace hq := someE hq
              subst hq
              refine eX_ret (vs := [.bool (false)]) [.tmp 2] (by rfl) ⟨by (show lkE _ _ _ = _); kernel_rfl, trivial⟩ ?_
              exact ⟨rfl, hB⟩
            · have hm := condF hb318 hm
              rewrite [hb318]
              refine wS_pure 4 [(61, .bool (!(y120.2 == y46.2))), (60, .bool (!(y120.2 == y46.2))), (59, .bool (y46.2)), (58, .bool (y120.2))] (by kernel_rfl) ?_
              refine wS_end (by rfl) ?_
              refine eX_then ?_
              refine cW_cond (t := !(y120.2 == y46.2)) (by kernel_rfl) (fun hb319 => ?_) (fun hb319 => ?_)
              · have hm := condT hb319 hm
                refine cW_seq ?_
                refine cW_region ?_
                refine wS_pure 1 [(2, .bool (false))] (by kernel_rfl) ?_
                refine wS_end (by rfl) ?_
                refine eX_then ?_
                refine cW_ret ?_
                refine eX_then_ret ?_
                have hq : (some false : Option ((Bool))) = some _ := hm
                replace hq := someE hq
                subst hq
                refine eX_ret (vs := [.bool (false)]) [.tmp 2] (by rfl) ⟨by (show lkE _ _ _ = _); kernel_rfl, trivial⟩ ?_
                exact ⟨rfl, hB⟩
              · have hm := condF hb319 hm
                refine cW_skip ?_
                refine eX_then ?_
                refine cW_seq ?_
                refine cW_region ?_
                refine wS_pure 1 [(10, .int .i64 (1))] (by kernel_rfl) ?_
                refine wS_end (by rfl) ?_
                refine eX_then ?_
                refine cW_seq ?_
                refine cW_region ?_
                refine wS_pure 2 [(63, .int .i64 (1)), (62, .slice A124 (y120.1).length cap125)] (by kernel_rfl) ?_
                obtain ⟨y320, hy321, hm⟩ := bindE hm
                refine wS_calls (d := 64) (f := 44) (vs := [.slice A124 (y120.1).length cap125, .int .i64 (1)]) (by kernel_rfl) ent44 (c_laws_markInt64S hy321 F127) ?_
                rintro _ w322 ⟨rfl, F324, hl325, hc323⟩
                replace F0_1 := F0_1.chg hc323 (Dj.app (Dj.of L0_1 G128) Dj.nil)
                replace F0_2 := F0_2.chg hc323 (Dj.app (Dj.of L0_2 G128) Dj.nil)
                replace F0_3 := F0_3.chg hc323 (Dj.app (Dj.of L0_3 G128) Dj.nil)
                replace F7 := F7.chg hc323 (dj1 (Dj.app D131 Dj.nil))
                replace F22 := F22.chg hc323 (Dj.app D132 Dj.nil)
                replace F28 := F28.chg hc323 (Dj.app D133 Dj.nil)
                replace F34 := F34.chg hc323 (Dj.app D134 Dj.nil)
                replace F53 := F53.chg hc323 (Dj.app D135 Dj.nil)
                replace F306 := F306.chg hc323 (Dj.app D136 Dj.nil)
                replace F308 := F308.chg hc323 (Dj.app D137 Dj.nil)
                replace F310 := F310.chg hc323 (Dj.app D138 Dj.nil)
                replace F118 := F118.chg hc323 (dj1 (Dj.app D139 Dj.nil))
                replace F246 := F246.chg hc323 (Dj.app (D274).symm Dj.nil)
                replace F252 := F252.chg hc323 (Dj.app (D285).symm Dj.nil)
                replace F258 := F258.chg hc323 (Dj.app (D296).symm Dj.nil)
                replace hB := hB.inS hc323 (inApp (inLow G128) inNil)
                replace hZ := Nat.le_trans hZ hc323.size
                clear F127
                refine ⟨.int .i64 (y320.1), rfl, ?_⟩
                rewrite [(show (y120.1).length = (y320.2).length from hl325.symm)]
                try rewrite [(show (y120.1).length = (y320.2).length from hl325.symm)] at F7
                try rewrite [(show (y120.1).length = (y320.2).length from hl325.symm)] at F118
                refine wS_pure 1 [(10, .int .i64 (y320.1))] (by kernel_rfl) ?_
                refine wS_end (by rfl) ?_
                refine eX_then ?_
                refine cW_seq ?_
                refine cW_region ?_
                refine wS_pure 1 [(11, .int .i64 (1))] (by kernel_rfl) ?_
                refine wS_end (by rfl) ?_
                refine eX_then ?_
                refine cW_prune [(1, .pointer (some ⟨b4, 0, none⟩)), (4, .slice A50 (y46.1).length cap51), (5, .bool (y46.2)), (7, .slice A124 (y320.2).length cap125), (10, .int .i64 (y320.1)), (11, .int .i64 (1))] (by kernel_rfl) (by kernel_rfl) (fun a326 => ?_)
                refine cW_seq ?_
                refine cW_region ?_
                refine wS_pure 2 [(66, .int .i64 (1)), (65, .slice A124 (y320.2).length cap125)] (by kernel_rfl) ?_
                obtain ⟨y327, hy328, hm⟩ := bindE hm
                refine wS_calls (d := 67) (f := 45) (vs := [.slice A124 (y320.2).length cap125, .int .i64 (1)]) (by kernel_rfl) ent45 (c_laws_heldInt64S hy328 (F324.sl encI_ok)) ?_
                rintro _ w329 ⟨rfl, hc330⟩
                replace F0_1 := F0_1.chg hc330 Dj.nil
                replace F0_2 := F0_2.chg hc330 Dj.nil
                replace F0_3 := F0_3.chg hc330 Dj.nil
                replace F7 := F7.chg hc330 notNil
                replace F22 := F22.chg hc330 Dj.nil
                replace F28 := F28.chg hc330 Dj.nil
                replace F34 := F34.chg hc330 Dj.nil
                replace F53 := F53.chg hc330 Dj.nil
                replace F306 := F306.chg hc330 Dj.nil
                replace F308 := F308.chg hc330 Dj.nil
                replace F310 := F310.chg hc330 Dj.nil
                replace F118 := F118.chg hc330 notNil
                replace F324 := F324.chg hc330 Dj.nil
                replace F246 := F246.chg hc330 Dj.nil
                replace F252 := F252.chg hc330 Dj.nil
                replace F258 := F258.chg hc330 Dj.nil
                replace hB := hB.inS hc330 inNil
                replace hZ := Nat.le_trans hZ hc330.size
                refine ⟨.int .i64 (y327), rfl, ?_⟩
                refine wS_pure 1 [(11, .int .i64 (y327))] (by kernel_rfl) ?_
                refine wS_end (by rfl) ?_
                refine eX_then ?_
                refine cW_seq ?_
                refine cW_seq ?_
                refine cW_region ?_
                refine wS_pure 2 [(69, .bool (decide (y327 < 0))), (68, .int .i64 (y327))] (by kernel_rfl) ?_
                refine wS_end (by rfl) ?_
                refine eX_then ?_
                refine cW_cond (t := decide (y327 < 0)) (by kernel_rfl) (fun hb331 => ?_) (fun hb331 => ?_)
                · have hm := condT hb331 hm
                  refine cW_seq ?_
                  refine cW_region ?_
                  refine wS_pure 1 [(2, .bool (false))] (by kernel_rfl) ?_
                  refine wS_end (by rfl) ?_
                  refine eX_then ?_
                  refine cW_ret ?_
                  refine eX_then_ret ?_
                  have hq : (some false : Option ((Bool))) = some _ := hm
                  replace hq := someE hq
                  subst hq
                  refine eX_ret (vs := [.bool (false)]) [.tmp 2] (by rfl) ⟨by (show lkE _ _ _ = _); kernel_rfl, trivial⟩ ?_
                  exact ⟨rfl, hB⟩
                · have hm := condF hb331 hm
                  refine cW_skip ?_
                  refine eX_then ?_
                  refine cW_seq ?_
                  refine cW_seq ?_
                  refine cW_region ?_
                  refine wS_pure 3 [(72, .bool (y327 != y320.1)), (71, .int .i64 (y320.1)), (70, .int .i64 (y327))] (by kernel_rfl) ?_
                  refine wS_end (by rfl) ?_
                  refine eX_then ?_
                  refine cW_cond (t := y327 != y320.1) (by kernel_rfl) (fun hb332 => ?_) (fun hb332 => ?_)
                  · have hm := condT hb332 hm
                    refine cW_seq ?_
                    refine cW_region ?_
                    refine wS_pure 1 [(2, .bool (false))] (by kernel_rfl) ?_
                    refine wS_end (by rfl) ?_
                    refine eX_then ?_
                    refine cW_ret ?_
                    refine eX_then_ret ?_
                    have hq : (some false : Option ((Bool))) = some _ := hm
                    replace hq := someE hq
                    subst hq
                    refine eX_ret (vs := [.bool (false)]) [.tmp 2] (by rfl) ⟨by (show lkE _ _ _ = _); kernel_rfl, trivial⟩ ?_
                    exact ⟨rfl, hB⟩
                  · have hm := condF hb332 hm
                    refine cW_skip ?_
                    refine eX_then ?_
                    refine cW_seq ?_
                    refine cW_region ?_
                    refine wS_loadA (d := 74) (T := 59) (ad := ⟨b4, 0, none⟩) (vs := [.int .i64 (p0_0), .slice A0_1 (l0_1).length cap0_1, .slice A0_2 (l0_2).length cap0_2, .slice A0_3 (l0_3).length cap0_3]) (by kernel_rfl) vt59 (fun i u hu => box_cells F7 0 hu (by rfl)) ?_
                    obtain ⟨y333, hy334, hm⟩ := bindE hm
                    refine wS_calls (d := 75) (f := 39) (vs := [.agg #[.int .i64 (p0_0), .slice A0_1 (l0_1).length cap0_1, .slice A0_2 (l0_2).length cap0_2, .slice A0_3 (l0_3).length cap0_3]]) (by kernel_rfl) ent39 (c_laws_toWiring hy334 F0_1 F0_2 F0_3) ?_
                    rintro _ w335 ⟨A337, cap338, fp339, fr342, A343, cap344, fp345, fr348, A349, cap350, fp351, rfl, F340, G341, F346, G347, F352, G353, D355, D356, D357, hc336⟩
                    have D359 : Dj [b4] (fp339 ++ fr342) := Dj.of (lt1 F7.lt) G341
                    have D360 : Dj (fp21 ++ fr24) (fp339 ++ fr342) := Dj.of F22.low G341
                    have D361 : Dj (fp27 ++ fr30) (fp339 ++ fr342) := Dj.of F28.low G341
                    have D362 : Dj fp33 (fp339 ++ fr342) := Dj.of F34.low G341
                    have D363 : Dj fp52 (fp339 ++ fr342) := Dj.of F53.low G341
                    have D364 : Dj (fp66 ++ fr69) (fp339 ++ fr342) := Dj.of F306.low G341
                    have D365 : Dj (fp72 ++ fr75) (fp339 ++ fr342) := Dj.of F308.low G341
                    have D366 : Dj fp78 (fp339 ++ fr342) := Dj.of F310.low G341
                    have D367 : Dj [b103] (fp339 ++ fr342) := Dj.of (lt1 F118.lt) G341
                    have D368 : Dj fp126 (fp339 ++ fr342) := Dj.of F324.low G341
                    have D369 : Dj (fp245 ++ fr248) (fp339 ++ fr342) := Dj.of F246.low G341
                    have D370 : Dj (fp251 ++ fr254) (fp339 ++ fr342) := Dj.of F252.low G341
                    have D371 : Dj fp257 (fp339 ++ fr342) := Dj.of F258.low G341
                    have D373 : Dj [b4] (fp345 ++ fr348) := Dj.of (lt1 F7.lt) G347
                    have D374 : Dj (fp21 ++ fr24) (fp345 ++ fr348) := Dj.of F22.low G347
                    have D375 : Dj (fp27 ++ fr30) (fp345 ++ fr348) := Dj.of F28.low G347
                    have D376 : Dj fp33 (fp345 ++ fr348) := Dj.of F34.low G347
                    have D377 : Dj fp52 (fp345 ++ fr348) := Dj.of F53.low G347
                    have D378 : Dj (fp66 ++ fr69) (fp345 ++ fr348) := Dj.of F306.low G347
                    have D379 : Dj (fp72 ++ fr75) (fp345 ++ fr348) := Dj.of F308.low G347
                    have D380 : Dj fp78 (fp345 ++ fr348) := Dj.of F310.low G347
                    have D381 : Dj [b103] (fp345 ++ fr348) := Dj.of (lt1 F118.lt) G347
                    have D382 : Dj fp126 (fp345 ++ fr348) := Dj.of F324.low G347
                    have D383 : Dj (fp245 ++ fr248) (fp345 ++ fr348) := Dj.of F246.low G347
                    have D384 : Dj (fp251 ++ fr254) (fp345 ++ fr348) := Dj.of F252.low G347
                    have D385 : Dj fp257 (fp345 ++ fr348) := Dj.of F258.low G347
                    have D387 : Dj [b4] fp351 := Dj.of (lt1 F7.lt) G353
                    have D388 : Dj (fp21 ++ fr24) fp351 := Dj.of F22.low G353
                    have D389 : Dj (fp27 ++ fr30) fp351 := Dj.of F28.low G353
                    have D390 : Dj fp33 fp351 := Dj.of F34.low G353
                    have D391 : Dj fp52 fp351 := Dj.of F53.low G353
                    have D392 : Dj (fp66 ++ fr69) fp351 := Dj.of F306.low G353
                    have D393 : Dj (fp72 ++ fr75) fp351 := Dj.of F308.low G353
                    have D394 : Dj fp78 fp351 := Dj.of F310.low G353
                    have D395 : Dj [b103] fp351 := Dj.of (lt1 F118.lt) G353
                    have D396 : Dj fp126 fp351 := Dj.of F324.low G353
                    have D397 : Dj (fp245 ++ fr248) fp351 := Dj.of F246.low G353
                    have D398 : Dj (fp251 ++ fr254) fp351 := Dj.of F252.low G353
                    have D399 : Dj fp257 fp351 := Dj.of F258.low G353
                    replace F0_1 := F0_1.chg hc336 Dj.nil
                    replace F0_2 := F0_2.chg hc336 Dj.nil
                    replace F0_3 := F0_3.chg hc336 Dj.nil
                    replace F7 := F7.chg hc336 notNil
                    replace F22 := F22.chg hc336 Dj.nil
                    replace F28 := F28.chg hc336 Dj.nil
                    replace F34 := F34.chg hc336 Dj.nil
                    replace F53 := F53.chg hc336 Dj.nil
                    replace F306 := F306.chg hc336 Dj.nil
                    replace F308 := F308.chg hc336 Dj.nil
                    replace F310 := F310.chg hc336 Dj.nil
                    replace F118 := F118.chg hc336 notNil
                    replace F324 := F324.chg hc336 Dj.nil
                    replace F246 := F246.chg hc336 Dj.nil
                    replace F252 := F252.chg hc336 Dj.nil
                    replace F258 := F258.chg hc336 Dj.nil
                    replace hB := hB.inS hc336 inNil
                    replace G341 := low_le hZ G341
                    replace G347 := low_le hZ G347
                    replace G353 := low_le hZ G353
                    replace hZ := Nat.le_trans hZ hc336.size
                    refine ⟨.agg #[.int .i64 (y333.1), .slice A337 (y333.2.1).length cap338, .slice A343 (y333.2.2.1).length cap344, .slice A349 (y333.2.2.2).length cap350], rfl, ?_⟩
                    obtain ⟨y400, hy401, hm⟩ := bindE hm
                    refine wS_calls (d := 76) (f := 14) (vs := [.agg #[.int .i64 (y333.1), .slice A337 (y333.2.1).length cap338, .slice A343 (y333.2.2.1).length cap344, .slice A349 (y333.2.2.2).length cap350]]) (by kernel_rfl) ent14 (c_impl_OddRing hy401 (F340.slr encI_ok) (F346.slr encI_ok) (F352.sl encI_ok)) ?_
                    rintro _ w402 ⟨A404, cap405, fp406, rfl, F407, G408, hc403⟩
                    have D411 : Dj [b4] fp406 := Dj.of (lt1 F7.lt) G408
                    have D412 : Dj (fp21 ++ fr24) fp406 := Dj.of F22.low G408
                    have D413 : Dj (fp27 ++ fr30) fp406 := Dj.of F28.low G408
                    have D414 : Dj fp33 fp406 := Dj.of F34.low G408
                    have D415 : Dj fp52 fp406 := Dj.of F53.low G408
                    have D416 : Dj (fp66 ++ fr69) fp406 := Dj.of F306.low G408
                    have D417 : Dj (fp72 ++ fr75) fp406 := Dj.of F308.low G408
                    have D418 : Dj fp78 fp406 := Dj.of F310.low G408
                    have D419 : Dj [b103] fp406 := Dj.of (lt1 F118.lt) G408
                    have D420 : Dj fp126 fp406 := Dj.of F324.low G408
                    have D421 : Dj (fp245 ++ fr248) fp406 := Dj.of F246.low G408
                    have D422 : Dj (fp251 ++ fr254) fp406 := Dj.of F252.low G408
                    have D423 : Dj fp257 fp406 := Dj.of F258.low G408
                    have D424 : Dj (fp339 ++ fr342) fp406 := Dj.of F340.low G408
                    have D425 : Dj (fp345 ++ fr348) fp406 := Dj.of F346.low G408
                    have D426 : Dj fp351 fp406 := Dj.of F352.low G408
                    replace F0_1 := F0_1.chg hc403 Dj.nil
                    replace F0_2 := F0_2.chg hc403 Dj.nil
                    replace F0_3 := F0_3.chg hc403 Dj.nil
                    replace F7 := F7.chg hc403 notNil
                    replace F22 := F22.chg hc403 Dj.nil
                    replace F28 := F28.chg hc403 Dj.nil
                    replace F34 := F34.chg hc403 Dj.nil
                    replace F53 := F53.chg hc403 Dj.nil
                    replace F306 := F306.chg hc403 Dj.nil
                    replace F308 := F308.chg hc403 Dj.nil
                    replace F310 := F310.chg hc403 Dj.nil
                    replace F118 := F118.chg hc403 notNil
                    replace F324 := F324.chg hc403 Dj.nil
                    replace F246 := F246.chg hc403 Dj.nil
                    replace F252 := F252.chg hc403 Dj.nil
                    replace F258 := F258.chg hc403 Dj.nil
                    replace F340 := F340.chg hc403 Dj.nil
                    replace F346 := F346.chg hc403 Dj.nil
                    replace F352 := F352.chg hc403 Dj.nil
                    replace hB := hB.inS hc403 inNil
                    replace G408 := low_le hZ G408
                    replace hZ := Nat.le_trans hZ hc403.size
                    refine ⟨.tuple #[.slice A404 (y400.1).length cap405, .bool (y400.2)], rfl, ?_⟩
                    refine wS_pure 5 [(13, .bool (y400.2)), (12, .slice A404 (y400.1).length cap405), (78, .bool (y400.2)), (77, .slice A404 (y400.1).length cap405), (73, .tuple #[.slice A404 (y400.1).length cap405, .bool (y400.2)])] (by kernel_rfl) ?_
                    refine wS_end (by rfl) ?_
                    refine eX_then ?_
                    refine cW_seq ?_
                    refine cW_seq ?_
                    refine cW_region ?_
                    refine wS_pure 2 [(80, .slice A50 (y46.1).length cap51), (79, .slice A404 (y400.1).length cap405)] (by kernel_rfl) ?_
                    obtain ⟨y427, hy428, hm⟩ := bindE hm
                    refine wS_calls (d := 81) (f := 42) (vs := [.slice A404 (y400.1).length cap405, .slice A50 (y46.1).length cap51]) (by kernel_rfl) ent42 (c_laws_eqInt64S hy428 (F407.sl encI_ok) F53) ?_
                    rintro _ w429 ⟨rfl, hc430⟩
                    replace F0_1 := F0_1.chg hc430 Dj.nil
                    replace F0_2 := F0_2.chg hc430 Dj.nil
                    replace F0_3 := F0_3.chg hc430 Dj.nil
                    replace F7 := F7.chg hc430 notNil
                    replace F22 := F22.chg hc430 Dj.nil
                    replace F28 := F28.chg hc430 Dj.nil
                    replace F34 := F34.chg hc430 Dj.nil
                    replace F53 := F53.chg hc430 Dj.nil
                    replace F306 := F306.chg hc430 Dj.nil
                    replace F308 := F308.chg hc430 Dj.nil
                    replace F310 := F310.chg hc430 Dj.nil
                    replace F118 := F118.chg hc430 notNil
                    replace F324 := F324.chg hc430 Dj.nil
                    replace F246 := F246.chg hc430 Dj.nil
                    replace F252 := F252.chg hc430 Dj.nil
                    replace F258 := F258.chg hc430 Dj.nil
                    replace F340 := F340.chg hc430 Dj.nil
                    replace F346 := F346.chg hc430 Dj.nil
                    replace F352 := F352.chg hc430 Dj.nil
                    replace F407 := F407.chg hc430 Dj.nil
                    replace hB := hB.inS hc430 inNil
                    replace hZ := Nat.le_trans hZ hc430.size
                    refine ⟨.bool (y427), rfl, ?_⟩
                    refine wS_pure 2 [(83, .bool (!y427)), (82, .bool (!y427))] (by kernel_rfl) ?_
                    refine wS_bool (!y427) (fun hb431 => ?_) (fun hb431 => ?_)
                    · have hm := condT hb431 hm
                      rewrite [hb431]
                      refine wS_pure 4 [(87, .bool (true)), (86, undef), (85, undef), (84, undef)] (by kernel_rfl) ?_
                      refine wS_end (by rfl) ?_
                      refine eX_then ?_
                      refine cW_prune [(7, .slice A124 (y320.2).length cap125), (10, .int .i64 (y320.1)), (87, .bool (true))] (by kernel_rfl) (by kernel_rfl) (fun a432 => ?_)
                      refine cW_cond_t (by kernel_rfl) ?_
                      refine cW_seq ?_
                      refine cW_region ?_
                      refine wS_pure 1 [(2, .bool (false))] (by kernel_rfl) ?_
                      refine wS_end (by rfl) ?_
                      refine eX_then ?_
                      refine cW_ret ?_
                      refine eX_then_ret ?_
                      have hq : (some false : Option ((Bool))) = some _ := hm
                      replace hq := someE hq
                      subst hq
                      refine eX_ret (vs := [.bool (false)]) [.tmp 2] (by rfl) ⟨by (show lkE _ _ _ = _); kernel_rfl, trivial⟩ ?_
                      exact ⟨rfl, hB⟩
                    · have hm := condF hb431 hm
                      rewrite [hb431]
                      refine wS_pure 4 [(87, .bool (!(y400.2 == y46.2))), (86, .bool (!(y400.2 == y46.2))), (85, .bool (y46.2)), (84, .bool (y400.2))] (by kernel_rfl) ?_
                      refine wS_end (by rfl) ?_
                      refine eX_then ?_
                      refine cW_prune [(7, .slice A124 (y320.2).length cap125), (10, .int .i64 (y320.1)), (87, .bool (!(y400.2 == y46.2)))] (by kernel_rfl) (by kernel_rfl) (fun a433 => ?_)
                      refine cW_cond (t := !(y400.2 == y46.2)) (by kernel_rfl) (fun hb434 => ?_) (fun hb434 => ?_)
                      · have hm := condT hb434 hm
                        refine cW_seq ?_
                        refine cW_region ?_
                        refine wS_pure 1 [(2, .bool (false))] (by kernel_rfl) ?_
                        refine wS_end (by rfl) ?_
                        refine eX_then ?_
                        refine cW_ret ?_
                        refine eX_then_ret ?_
                        have hq : (some false : Option ((Bool))) = some _ := hm
                        replace hq := someE hq
                        subst hq
                        refine eX_ret (vs := [.bool (false)]) [.tmp 2] (by rfl) ⟨by (show lkE _ _ _ = _); kernel_rfl, trivial⟩ ?_
                        exact ⟨rfl, hB⟩
                      · have hm := condF hb434 hm
                        refine cW_skip ?_
                        refine eX_then ?_
                        refine cW_seq ?_
                        refine cW_region ?_
                        refine wS_pure 1 [(11, .int .i64 (1))] (by kernel_rfl) ?_
                        refine wS_end (by rfl) ?_
                        refine eX_then ?_
                        refine cW_seq ?_
                        refine cW_region ?_
                        refine wS_pure 2 [(89, .int .i64 (1)), (88, .slice A124 (y320.2).length cap125)] (by kernel_rfl) ?_
                        obtain ⟨y435, hy436, hm⟩ := bindE hm
                        refine wS_calls (d := 90) (f := 45) (vs := [.slice A124 (y320.2).length cap125, .int .i64 (1)]) (by kernel_rfl) ent45 (c_laws_heldInt64S hy436 (F324.sl encI_ok)) ?_
                        rintro _ w437 ⟨rfl, hc438⟩
                        replace F0_1 := F0_1.chg hc438 Dj.nil
                        replace F0_2 := F0_2.chg hc438 Dj.nil
                        replace F0_3 := F0_3.chg hc438 Dj.nil
                        replace F7 := F7.chg hc438 notNil
                        replace F22 := F22.chg hc438 Dj.nil
                        replace F28 := F28.chg hc438 Dj.nil
                        replace F34 := F34.chg hc438 Dj.nil
                        replace F53 := F53.chg hc438 Dj.nil
                        replace F306 := F306.chg hc438 Dj.nil
                        replace F308 := F308.chg hc438 Dj.nil
                        replace F310 := F310.chg hc438 Dj.nil
                        replace F118 := F118.chg hc438 notNil
                        replace F324 := F324.chg hc438 Dj.nil
                        replace F246 := F246.chg hc438 Dj.nil
                        replace F252 := F252.chg hc438 Dj.nil
                        replace F258 := F258.chg hc438 Dj.nil
                        replace F340 := F340.chg hc438 Dj.nil
                        replace F346 := F346.chg hc438 Dj.nil
                        replace F352 := F352.chg hc438 Dj.nil
                        replace F407 := F407.chg hc438 Dj.nil
                        replace hB := hB.inS hc438 inNil
                        replace hZ := Nat.le_trans hZ hc438.size
                        refine ⟨.int .i64 (y435), rfl, ?_⟩
                        refine wS_pure 1 [(11, .int .i64 (y435))] (by kernel_rfl) ?_
                        refine wS_end (by rfl) ?_
                        refine eX_then ?_
                        refine cW_seq ?_
                        refine cW_seq ?_
                        refine cW_region ?_
                        refine wS_pure 2 [(92, .bool (decide (y435 < 0))), (91, .int .i64 (y435))] (by kernel_rfl) ?_
                        refine wS_end (by rfl) ?_
                        refine eX_then ?_
                        refine cW_cond (t := decide (y435 < 0)) (by kernel_rfl) (fun hb439 => ?_) (fun hb439 => ?_)
                        · have hm := condT hb439 hm
                          refine cW_seq ?_
                          refine cW_region ?_
                          refine wS_pure 1 [(2, .bool (false))] (by kernel_rfl) ?_
                          refine wS_end (by rfl) ?_
                          refine eX_then ?_
                          refine cW_ret ?_
                          refine eX_then_ret ?_
                          have hq : (some false : Option ((Bool))) = some _ := hm
                          replace hq := someE hq
                          subst hq
                          refine eX_ret (vs := [.bool (false)]) [.tmp 2] (by rfl) ⟨by (show lkE _ _ _ = _); kernel_rfl, trivial⟩ ?_
                          exact ⟨rfl, hB⟩
                        · have hm := condF hb439 hm
                          refine cW_skip ?_
                          refine eX_then ?_
                          refine cW_seq ?_
                          refine cW_seq ?_
                          refine cW_region ?_
                          refine wS_pure 3 [(95, .bool (y435 != y320.1)), (94, .int .i64 (y320.1)), (93, .int .i64 (y435))] (by kernel_rfl) ?_
                          refine wS_end (by rfl) ?_
                          refine eX_then ?_
                          refine cW_cond (t := y435 != y320.1) (by kernel_rfl) (fun hb440 => ?_) (fun hb440 => ?_)
                          · have hm := condT hb440 hm
                            refine cW_seq ?_
                            refine cW_region ?_
                            refine wS_pure 1 [(2, .bool (false))] (by kernel_rfl) ?_
                            refine wS_end (by rfl) ?_
                            refine eX_then ?_
                            refine cW_ret ?_
                            refine eX_then_ret ?_
                            have hq : (some false : Option ((Bool))) = some _ := hm
                            replace hq := someE hq
                            subst hq
                            refine eX_ret (vs := [.bool (false)]) [.tmp 2] (by rfl) ⟨by (show lkE _ _ _ = _); kernel_rfl, trivial⟩ ?_
                            exact ⟨rfl, hB⟩
                          · have hm := condF hb440 hm
                            refine cW_skip ?_
                            refine eX_then ?_
                            refine cW_seq ?_
                            refine cW_region ?_
                            refine wS_pure 1 [(2, .bool (true))] (by kernel_rfl) ?_
                            refine wS_end (by rfl) ?_
                            refine eX_then ?_
                            refine cW_ret ?_
                            have hq : (some true : Option ((Bool))) = some _ := hm
                            replace hq := someE hq
                            subst hq
                            refine eX_ret (vs := [.bool (true)]) [.tmp 2] (by rfl) ⟨by (show lkE _ _ _ = _); kernel_rfl, trivial⟩ ?_
                            exact ⟨rfl, hB⟩

end Go.Proofs.Ytngnljnfbfgfeaa
