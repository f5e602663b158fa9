/- Printed walks: spec.WiringOf, laws.toPointSS, impl.pathsOk$1, slices.IndexFunc[[][]impl.Point,[]impl.Point], slices.ContainsFunc[[][]impl.Point,[]impl.Point], impl.pathsOk, impl.segments, impl.touch, impl.ValidWiring$1, impl.ValidWiring$2, (*impl.Wiring).pairsOk, slices.IndexFunc[[][]int64,[]int64], slices.ContainsFunc[[][]int64,[]int64], slices.IndexFunc[[]int64,int64], slices.ContainsFunc[[]int64,int64], impl.ValidWiring, impl.WiringOf$1. -/
import Derived.Test.YtgaecldkiijmpaaProg
import Derived.Test.YtgaecldkiijmpaaWWo02
set_option linter.unusedSimpArgs false
set_option linter.unusedVariables false
namespace Go.Proofs.Ytgaecldkiijmpaa
open Go.RowKit
attribute [local irreducible] wS cW eX wH

theorem ent31 : Ent Try.prog 31 := fun _ => by kernel_rfl
theorem ent72 : Ent Try.prog 72 := fun _ => by kernel_rfl
theorem ent112 : Ent Try.prog 112 := fun _ => by kernel_rfl
theorem ent118 : Ent Try.prog 118 := fun _ => by kernel_rfl
theorem ent119 : Ent Try.prog 119 := fun _ => by kernel_rfl
theorem ent121 : Ent Try.prog 121 := fun _ => by kernel_rfl
theorem ent122 : Ent Try.prog 122 := fun _ => by kernel_rfl
theorem ent138 : Ent Try.prog 138 := fun _ => by kernel_rfl
theorem ent148 : Ent Try.prog 148 := fun _ => by kernel_rfl
theorem ent157 : Ent Try.prog 157 := fun _ => by kernel_rfl
theorem ent177 : Ent Try.prog 177 := fun _ => by kernel_rfl
theorem ent178 : Ent Try.prog 178 := fun _ => by kernel_rfl
theorem ent179 : Ent Try.prog 179 := fun _ => by kernel_rfl
theorem ent180 : Ent Try.prog 180 := fun _ => by kernel_rfl
theorem ent181 : Ent Try.prog 181 := fun _ => by kernel_rfl
theorem ent182 : Ent Try.prog 182 := fun _ => by kernel_rfl
theorem ent191 : Ent Try.prog 191 := fun _ => by kernel_rfl
theorem ent201 : Ent Try.prog 201 := fun _ => by kernel_rfl
theorem ent202 : Ent Try.prog 202 := fun _ => by kernel_rfl
theorem vt31 : VarTy Try.prog 31 1 false := ⟨by kernel_rfl, by kernel_rfl⟩
theorem vt83 : VarTy Try.prog 83 4 true := ⟨by kernel_rfl, by kernel_rfl⟩
theorem el31 : ElTy Try.prog 31 32 1 (.slice none 0 0) := ElTy.mk' Try.underlying31 (by kernel_rfl) (by rfl)
theorem sz25 : pureRun Try.prog (sizeOf 25) = some 1 := by kernel_rfl
theorem sz32 : pureRun Try.prog (sizeOf 32) = some 1 := by kernel_rfl
theorem sz40 : pureRun Try.prog (sizeOf 40) = some 1 := by kernel_rfl
theorem sz83 : pureRun Try.prog (sizeOf 83) = some 4 := by kernel_rfl

set_option maxRecDepth 100000 in
/-- spec.WiringOf -/
theorem c_spec_WiringOf {w0 : World} {l0 : List (List (Int × Int))} {A0 : Option Addr} {cap0 : Nat} {fp0 : List Nat} {r : (Int × (List (List (Int))) × (List (List (Int))) × (List (Int))) × (Bool)} (hm : m_spec_WiringOf l0 = some r) (F0 : SlR 2 encII w0 fp0 A0 l0) :
    Calls Try.prog 58 #[.slice A0 (l0).length cap0] w0 fun e w' => ∃ A100_1 cap100_1 fp100_1 fr100_1, ∃ A100_2 cap100_2 fp100_2 fr100_2, ∃ A100_3 cap100_3 fp100_3, e = .returned (.tuple #[.agg #[.int .i64 (r.1.1), .slice A100_1 (r.1.2.1).length cap100_1, .slice A100_2 (r.1.2.2.1).length cap100_2, .slice A100_3 (r.1.2.2.2).length cap100_3], .bool (r.2)]) ∧ OwR 1 encI 25 2 w' fp100_1 fr100_1 A100_1 cap100_1 r.1.2.1 ∧ (∀ x ∈ fp100_1 ++ fr100_1, w0.heap.size ≤ x) ∧ OwR 1 encI 25 2 w' fp100_2 fr100_2 A100_2 cap100_2 r.1.2.2.1 ∧ (∀ x ∈ fp100_2 ++ fr100_2, w0.heap.size ≤ x) ∧ Ow 1 encI 2 w' fp100_3 A100_3 cap100_3 r.1.2.2.2 ∧ (∀ x ∈ fp100_3, w0.heap.size ≤ x) ∧ Dj (fp100_1 ++ fr100_1) (fp100_2 ++ fr100_2) ∧ Dj (fp100_1 ++ fr100_1) fp100_3 ∧ Dj (fp100_2 ++ fr100_2) fp100_3 ∧ Chg [] w0 w' := by
  have L0 := F0.low
  have hB : Chg [] w0 w0 := Chg.refl _ _
  have hZ := Nat.le_refl w0.heap.size
  unfold m_spec_WiringOf at hm
  refine enterE (N := 153) Try.func58 (by rfl) Try.ntmps58 (by simp) [(0, .slice A0 (l0).length cap0)] (by rfl) (by kernel_rfl) (fun a => ?_)
  refine cW_seq ?_
  refine cW_region ?_
  refine wS_alloc (d := 2) (T := 83) (z := .agg #[.int .i64 (0), .slice none 0 0, .slice none 0 0, .slice none 0 0]) (by kernel_rfl) (by kernel_rfl) ?_
  intro b2 w3 G4 F5 hc6
  replace F5 : Cl w3 b2 83 [.int .i64 (0), .slice none 0 0, .slice none 0 0, .slice none 0 0] := F5
  replace F0 := F0.chg hc6 Dj.nil
  replace hB := hB.inS hc6 inNil
  replace G4 := Nat.le_trans hZ G4
  replace hZ := Nat.le_trans hZ hc6.size
  refine wS_pure 1 [(3, .bool (false))] (by kernel_rfl) ?_
  refine wS_end (by rfl) ?_
  refine eX_then ?_
  refine cW_seq ?_
  refine cW_seq ?_
  refine cW_region ?_
  refine wS_pure 1 [(12, .slice A0 (l0).length cap0)] (by kernel_rfl) ?_
  obtain ⟨y8, hy9, hm⟩ := bindE hm
  refine wS_calls (d := 13) (f := 118) (vs := [.slice A0 (l0).length cap0]) (by kernel_rfl) ent118 (c_spec_l07Paths hy9 F0) ?_
  rintro _ w10 ⟨rfl, hc11⟩
  replace F0 := F0.chg hc11 Dj.nil
  replace F5 := F5.chg hc11 notNil
  replace hB := hB.inS hc11 inNil
  replace hZ := Nat.le_trans hZ hc11.size
  refine ⟨.bool (y8), rfl, ?_⟩
  refine wS_pure 1 [(14, .bool (!y8))] (by kernel_rfl) ?_
  refine wS_end (by rfl) ?_
  refine eX_then ?_
  refine cW_cond (t := !y8) (by kernel_rfl) (fun hb12 => ?_) (fun hb12 => ?_)
  · have hm := condT hb12 hm
    refine cW_seq ?_
    refine cW_region ?_
    refine wS_pure 1 [(15, .agg #[.int .i64 (0), .slice none 0 0, .slice none 0 0, .slice none 0 0])] (by kernel_rfl) ?_
    refine wS_store (T := 83) (g := b2) (o := 0) (ad := ⟨b2, 0, none⟩) (v := .agg #[.int .i64 (0), .slice none 0 0, .slice none 0 0, .slice none 0 0]) (vs := [.int .i64 (0), .slice none 0 0, .slice none 0 0, .slice none 0 0]) (by kernel_rfl) (by rfl) sz83 (by rfl) (by rfl) F5 (by simp only [List.length_cons, List.length_nil]; omega) ?_
    intro w13 F14 hc15
    replace F0 := F0.chg hc15 (Dj.of L0 (low1 G4))
    replace hB := hB.inS hc15 (inLow (low1 G4))
    replace hZ := Nat.le_trans hZ hc15.size
    replace F14 : Cl w13 b2 83 [.int .i64 (0), .slice none 0 0, .slice none 0 0, .slice none 0 0] := F14
    clear F5
    refine wS_pure 1 [(3, .bool (false))] (by kernel_rfl) ?_
    refine wS_end (by rfl) ?_
    refine eX_then ?_
    refine cW_ret ?_
    refine eX_then_ret ?_
    have hq : (some (((0, [], [], []), false)) : Option ((Int × (List (List (Int))) × (List (List (Int))) × (List (Int))) × (Bool))) = some _ := hm
    replace hq := someE hq
    subst hq
    refine eX_ret (vs := [.agg #[.int .i64 (0), .slice none 0 0, .slice none 0 0, .slice none 0 0], .bool (false)]) [.cell 2 83, .tmp 3] (by rfl) ⟨⟨⟨b2, 0, none⟩, by kernel_rfl, run_loadVarA (vs := [.int .i64 (0), .slice none 0 0, .slice none 0 0, .slice none 0 0]) vt83 (fun i u hu => by exact box_cells F14 0 hu (by rfl))⟩, ⟨by (show lkE _ _ _ = _); kernel_rfl, trivial⟩⟩ ?_
    exact ⟨none, 0, [], [], none, 0, [], [], none, 0, [], rfl, OwR.nil _, (lowApp lowNil lowNil), OwR.nil _, (lowApp lowNil lowNil), Ow.nil _, lowNil, (Dj.app Dj.nil Dj.nil), Dj.nil, Dj.nil, hB⟩
  · have hm := condF hb12 hm
    refine cW_skip ?_
    refine eX_then ?_
    refine cW_seq ?_
    refine cW_region ?_
    refine wS_pure 1 [(16, .slice A0 (l0).length cap0)] (by kernel_rfl) ?_
    obtain ⟨y16, hy17, hm⟩ := bindE hm
    refine wS_calls (d := 17) (f := 119) (vs := [.slice A0 (l0).length cap0]) (by kernel_rfl) ent119 (c_spec_l07Segments hy17 F0) ?_
    rintro _ w18 ⟨A20, cap21, fp22, fr25, rfl, F23, G24, hc19⟩
    have D27 : Dj [b2] (fp22 ++ fr25) := Dj.of (lt1 F5.lt) G24
    replace F0 := F0.chg hc19 Dj.nil
    replace F5 := F5.chg hc19 notNil
    replace hB := hB.inS hc19 inNil
    replace G24 := low_le hZ G24
    replace hZ := Nat.le_trans hZ hc19.size
    refine ⟨.slice A20 (y16).length cap21, rfl, ?_⟩
    refine wS_pure 1 [(4, .slice A20 (y16).length cap21)] (by kernel_rfl) ?_
    refine wS_end (by rfl) ?_
    refine eX_then ?_
    refine cW_seq ?_
    refine cW_region ?_
    refine wS_pure 3 [(20, .agg #[.int .i64 (((y16).length : Int)), .slice none 0 0, .slice none 0 0, .slice none 0 0]), (19, .int .i64 (((y16).length : Int))), (18, .slice A20 (y16).length cap21)] (by kernel_rfl) ?_
    refine wS_alloc (d := 5) (T := 83) (z := .agg #[.int .i64 (0), .slice none 0 0, .slice none 0 0, .slice none 0 0]) (by kernel_rfl) (by kernel_rfl) ?_
    intro b28 w29 G30 F31 hc32
    replace F31 : Cl w29 b28 83 [.int .i64 (0), .slice none 0 0, .slice none 0 0, .slice none 0 0] := F31
    have D34 : Dj [b2] [b28] := Dj.of (lt1 F5.lt) (low1 G30)
    have D35 : Dj (fp22 ++ fr25) [b28] := Dj.of F23.low (low1 G30)
    replace F0 := F0.chg hc32 Dj.nil
    replace F5 := F5.chg hc32 notNil
    replace F23 := F23.chg hc32 Dj.nil
    replace hB := hB.inS hc32 inNil
    replace G30 := Nat.le_trans hZ G30
    replace hZ := Nat.le_trans hZ hc32.size
    refine wS_store (T := 83) (g := b28) (o := 0) (ad := ⟨b28, 0, none⟩) (v := .agg #[.int .i64 (((y16).length : Int)), .slice none 0 0, .slice none 0 0, .slice none 0 0]) (vs := [.int .i64 (((y16).length : Int)), .slice none 0 0, .slice none 0 0, .slice none 0 0]) (by kernel_rfl) (by rfl) sz83 (by rfl) (by rfl) F31 (by simp only [List.length_cons, List.length_nil]; omega) ?_
    intro w36 F37 hc38
    replace F0 := F0.chg hc38 (Dj.of L0 (low1 G30))
    replace F5 := F5.chg hc38 (dj1 D34)
    replace F23 := F23.chg hc38 D35
    replace hB := hB.inS hc38 (inLow (low1 G30))
    replace hZ := Nat.le_trans hZ hc38.size
    replace F37 : Cl w36 b28 83 [.int .i64 (((y16).length : Int)), .slice none 0 0, .slice none 0 0, .slice none 0 0] := F37
    clear F31
    refine wS_end (by rfl) ?_
    refine eX_then ?_
    refine cW_seq ?_
    refine cW_region ?_
    refine wS_rows0 (k := 2) (enc := encII) (d := 21) (t := 31) (T := 32) (T2 := 37) (by kernel_rfl) el31 ?_
    intro b39 w40 G41 F42 hc43
    have D45 : Dj [b2] ([b39] ++ []) := Dj.of (lt1 F5.lt) (lowApp (low1 G41) lowNil)
    have D46 : Dj (fp22 ++ fr25) ([b39] ++ []) := Dj.of F23.low (lowApp (low1 G41) lowNil)
    have D47 : Dj [b28] ([b39] ++ []) := Dj.of (lt1 F37.lt) (lowApp (low1 G41) lowNil)
    replace F0 := F0.chg hc43 Dj.nil
    replace F5 := F5.chg hc43 notNil
    replace F23 := F23.chg hc43 Dj.nil
    replace F37 := F37.chg hc43 notNil
    replace hB := hB.inS hc43 inNil
    replace G41 := Nat.le_trans hZ G41
    replace G41 := low1 G41
    replace hZ := Nat.le_trans hZ hc43.size
    replace G41 := lowApp G41 lowNil
    refine wS_pure 1 [(6, .slice (some ⟨b39, 0, none⟩) (([] : List (List (Int × Int)))).length 0)] (by kernel_rfl) ?_
    refine wS_end (by rfl) ?_
    refine eX_then ?_
    refine cW_seq ?_
    refine cW_seq ?_
    refine cW_region ?_
    refine wS_pure 1 [(7, .int .i64 (0))] (by kernel_rfl) ?_
    refine wS_end (by rfl) ?_
    refine eX_then ?_
    obtain ⟨r199, hr200, hm⟩ := bindE hm
    have hm201 := hm
    refine cW_cut (fun a' w' => ∃ l166 : List (List (Int × Int)), ∃ A167 : Option Addr, ∃ cap168 : Nat, ∃ fp169 : List Nat, ∃ fr171 : List Nat, l166 = r199 ∧ Fr 153 [(2, .pointer (some ⟨b2, 0, none⟩)), (4, .slice A20 (y16).length cap21), (5, .pointer (some ⟨b28, 0, none⟩)), (6, .slice A167 (l166).length cap168)] a' ∧ Cl w' b2 83 [.int .i64 (0), .slice none 0 0, .slice none 0 0, .slice none 0 0] ∧ OwR 1 encI 25 2 w' fp22 fr25 A20 cap21 y16 ∧ Cl w' b28 83 [.int .i64 (((y16).length : Int)), .slice none 0 0, .slice none 0 0, .slice none 0 0] ∧ OwR 2 encII 32 37 w' fp169 fr171 A167 cap168 l166 ∧ (∀ x ∈ (fp169 ++ fr171), w0.heap.size ≤ x) ∧ Dj [b2] (fp169 ++ fr171) ∧ Dj (fp22 ++ fr25) (fp169 ++ fr171) ∧ Dj [b28] (fp169 ++ fr171) ∧ Chg [] w0 w' ∧ w0.heap.size ≤ w'.heap.size) ?_ ?_
    · refine cW_block ?_
      refine cW_loop _ (fun (s202 : (List (List (Int × Int))) × Int) a' w' => ∃ l182 : List (List (Int × Int)), ∃ A183 : Option Addr, ∃ cap184 : Nat, ∃ fp185 : List Nat, ∃ fr187 : List Nat, ∃ x188 : Int, (l182, x188) = s202 ∧ Fr 153 [(0, .slice A0 (l0).length cap0), (2, .pointer (some ⟨b2, 0, none⟩)), (4, .slice A20 (y16).length cap21), (5, .pointer (some ⟨b28, 0, none⟩)), (6, .slice A183 (l182).length cap184), (7, .int .i64 (x188))] a' ∧ SlR 2 encII w' fp0 A0 l0 ∧ Cl w' b2 83 [.int .i64 (0), .slice none 0 0, .slice none 0 0, .slice none 0 0] ∧ OwR 1 encI 25 2 w' fp22 fr25 A20 cap21 y16 ∧ Cl w' b28 83 [.int .i64 (((y16).length : Int)), .slice none 0 0, .slice none 0 0, .slice none 0 0] ∧ OwR 2 encII 32 37 w' fp185 fr187 A183 cap184 l182 ∧ (∀ x ∈ (fp185 ++ fr187), w0.heap.size ≤ x) ∧ Dj [b2] (fp185 ++ fr187) ∧ Dj (fp22 ++ fr25) (fp185 ++ fr187) ∧ Dj [b28] (fp185 ++ fr187) ∧ Chg [] w0 w' ∧ w0.heap.size ≤ w'.heap.size) hr200 (fun hst => ⟨([] : List (List (Int × Int))), (some ⟨b39, 0, none⟩), 0, [b39], [], 0, rfl, Fr.of hst (by kernel_rfl), F0, F5, F23, F37, F42, G41, D45, D46, D47, hB, hZ⟩) ?_
      rintro _ c203 a' w181 ⟨l182, A183, cap184, fp185, fr187, x188, rfl, hF189, F190, F191, F192, F193, F194, G195, D196, D197, D198, hB, hZ⟩ hx204
      refine Fr.goOn hF189 (by kernel_rfl) ?_
      have hm := hx204
      unfold m_spec_WiringOf_s1 at hm
      refine cW_seq ?_
      refine cW_seq ?_
      refine cW_region ?_
      refine wS_pure 4 [(25, .bool (decide (x188 < (((l0).length : Int))))), (24, .int .i64 (((l0).length : Int))), (23, .slice A0 (l0).length cap0), (22, .int .i64 (x188))] (by kernel_rfl) ?_
      refine wS_end (by rfl) ?_
      refine eX_then ?_
      refine cW_cond (t := decide (x188 < (((l0).length : Int)))) (by kernel_rfl) (fun hb205 => ?_) (fun hb205 => ?_)
      · have hm := condT hb205 hm
        refine cW_skip ?_
        refine eX_then ?_
        refine cW_seq ?_
        refine cW_block ?_
        refine cW_region ?_
        refine wS_pure 3 [(30, .int .i64 (x188)), (29, .slice A0 (l0).length cap0), (28, .slice A183 (l182).length cap184)] (by kernel_rfl) ?_
        obtain ⟨x206, hx207, hm⟩ := bindE hm
        refine wS_idx (d := 31) (T := 31) (A := A0) (n := (l0).length) (cap := cap0) (kd := .i64) (m := x188) (by kernel_rfl) sl31 (F190.is hx207) ?_
        obtain ⟨A208, cap209, hc211, F210, K212⟩ := SlR.row F190 hx207
        refine wS_load1 (d := 32) (T := 32) (ad := (elA A0 1 (x188) 0)) (v := .slice A208 (x206).length cap209) (by kernel_rfl) vt32 hc211 ?_
        obtain ⟨y214, hy215, hm⟩ := bindE hm
        refine wS_calls (d := 33) (f := 120) (vs := [.slice A208 (x206).length cap209]) (by kernel_rfl) ent120 (c_spec_l01Corners hy215 F210) ?_
        rintro _ w216 ⟨A218, cap219, fp220, rfl, F221, G222, hc217⟩
        have D225 : Dj [b2] fp220 := Dj.of (lt1 F191.lt) G222
        have D226 : Dj (fp22 ++ fr25) fp220 := Dj.of F192.low G222
        have D227 : Dj [b28] fp220 := Dj.of (lt1 F193.lt) G222
        have D228 : Dj (fp185 ++ fr187) fp220 := Dj.of F194.low G222
        replace F190 := F190.chg hc217 Dj.nil
        replace F191 := F191.chg hc217 notNil
        replace F192 := F192.chg hc217 Dj.nil
        replace F193 := F193.chg hc217 notNil
        replace F194 := F194.chg hc217 Dj.nil
        replace F210 := F210.chg hc217 Dj.nil
        replace hB := hB.inS hc217 inNil
        replace G222 := low_le hZ G222
        replace hZ := Nat.le_trans hZ hc217.size
        refine ⟨.slice A218 (y214).length cap219, rfl, ?_⟩
        refine wS_row1 (k := 2) (enc := encII) (l := y214) (d := 34) (t := 31) (T := 32) (B := A218) (c := cap219) (by kernel_rfl) el31 F221 ?_
        intro b229 w230 G231 F232 hc233
        have D235 : Dj [b2] ([b229] ++ fp220) := Dj.app (Dj.of (lt1 F191.lt) (low1 G231)) D225
        have D236 : Dj (fp22 ++ fr25) ([b229] ++ fp220) := Dj.app (Dj.of F192.low (low1 G231)) D226
        have D237 : Dj [b28] ([b229] ++ fp220) := Dj.app (Dj.of (lt1 F193.lt) (low1 G231)) D227
        have D238 : Dj (fp185 ++ fr187) ([b229] ++ fp220) := Dj.app (Dj.of F194.low (low1 G231)) D228
        replace F190 := F190.chg hc233 Dj.nil
        replace F191 := F191.chg hc233 notNil
        replace F192 := F192.chg hc233 Dj.nil
        replace F193 := F193.chg hc233 notNil
        replace F194 := F194.chg hc233 Dj.nil
        replace F210 := F210.chg hc233 Dj.nil
        replace F221 := F221.chg hc233 Dj.nil
        replace hB := hB.inS hc233 inNil
        replace G231 := Nat.le_trans hZ G231
        replace G231 := lowApp (low1 G231) G222
        replace hZ := Nat.le_trans hZ hc233.size
        replace F221 := (F221.sl encII_ok)
        obtain ⟨_, hk239, hm⟩ := bindE hm
        replace hk239 := apE hk239
        refine wS_appendR (k := 2) (enc := encII) (ll := (l182 : List (List (Int × Int)))) (ll2 := (([y214] : List (List (Int × Int))) : List (List (Int × Int)))) (d := 35) (t := 31) (T := 32) (A := A183) (A2 := (some ⟨b229, 0, none⟩)) (cap := cap184) (cap2 := 1) (by kernel_rfl) el31 F194 F232 (by rfl) D238 hk239 ?_
        intro w240 fp241 A242 cap243 F244 hc245 hp246
        have G248 := lowApp (low_ap (low_inl G195) hZ hp246) (lowApp (low_inr G195) (low_inr G231))
        have D249 : Dj [b2] (fp241 ++ (fr187 ++ fp220)) := Dj.app (Dj.ap (Dj.inl D196) (lt1 F191.lt) hp246) (Dj.app (Dj.inr D196) (Dj.inr D235))
        have D250 : Dj (fp22 ++ fr25) (fp241 ++ (fr187 ++ fp220)) := Dj.app (Dj.ap (Dj.inl D197) F192.low hp246) (Dj.app (Dj.inr D197) (Dj.inr D236))
        have D251 : Dj [b28] (fp241 ++ (fr187 ++ fp220)) := Dj.app (Dj.ap (Dj.inl D198) (lt1 F193.lt) hp246) (Dj.app (Dj.inr D198) (Dj.inr D237))
        replace F190 := F190.chg hc245 (Dj.inl (Dj.of L0 G195))
        replace F191 := F191.chg hc245 (dj1 (Dj.inl D196))
        replace F192 := F192.chg hc245 (Dj.inl D197)
        replace F193 := F193.chg hc245 (dj1 (Dj.inl D198))
        replace F210 := F210.chg hc245 (Dj.inl (Dj.of L0 G195))
        replace hB := hB.inS hc245 (memS_inl (inLow G195))
        replace hZ := Nat.le_trans hZ hc245.size
        refine wS_pure 1 [(6, .slice A242 (l182 ++ (([y214] : List (List (Int × Int))))).length cap243)] (by kernel_rfl) ?_
        refine wS_end (by rfl) ?_
        refine eX_block ?_
        refine eX_then ?_
        refine cW_region ?_
        refine wS_pure 3 [(7, .int .i64 (wr (x188 + 1))), (27, .int .i64 (wr (x188 + 1))), (26, .int .i64 (x188))] (by kernel_rfl) ?_
        refine wS_end (by rfl) ?_
        have hq : (some (Ctl.next ((l182 ++ (([y214] : List (List (Int × Int)))), wr (x188 + 1)))) : Option (Ctl ((List (List (Int × Int))) × Int) ((List (List (Int × Int)))))) = some _ := hm
        replace hq := someE hq
        subst hq
        exact eX_next hx204 (fun hst => ⟨l182 ++ (([y214] : List (List (Int × Int)))), A242, cap243, fp241, (fr187 ++ fp220), wr (x188 + 1), rfl, Fr.of hst (by kernel_rfl), F190, F191, F192, F193, F244, G248, D249, D250, D251, hB, hZ⟩)
      · have hm := condF hb205 hm
        refine cW_exit ?_
        refine eX_then_exit ?_
        have hq : (some (Ctl.out l182) : Option (Ctl ((List (List (Int × Int))) × Int) ((List (List (Int × Int)))))) = some _ := hm
        replace hq := someE hq
        subst hq
        refine eX_outX hx204 (fun hr252 => ?_)
        replace hr252 := hr252.symm
        subst hr252
        refine eX_block_hit ?_
        exact eX_J (fun hst => ⟨l182, A183, cap184, fp185, fr187, rfl, Fr.of hst (by kernel_rfl), F191, F192, F193, F194, G195, D196, D197, D198, hB, hZ⟩)
    · rintro a' w165 ⟨l166, A167, cap168, fp169, fr171, hJ, hF172, F173, F174, F175, F176, G177, D178, D179, D180, hB, hZ⟩
      subst hJ
      refine Fr.goX hF172 (by kernel_rfl) ?_
      refine eX_then ?_
      refine cW_seq ?_
      refine cW_seq ?_
      refine cW_region ?_
      refine wS_pure 1 [(8, .int .i64 (0))] (by kernel_rfl) ?_
      refine wS_end (by rfl) ?_
      refine eX_then ?_
      obtain ⟨r6440, hr6441, hm⟩ := bindE hm
      have hm6442 := hm
      refine cW_cut (fun a' w' => ∃ l6360 : List (List (Int)), ∃ A6361 : Option Addr, ∃ cap6362 : Nat, ∃ fp6363 : List Nat, ∃ fr6365 : List Nat, ∃ l6366 : List (List (Int)), ∃ A6367 : Option Addr, ∃ cap6368 : Nat, ∃ fp6369 : List Nat, ∃ fr6371 : List Nat, ∃ l6372 : List (Int), ∃ A6373 : Option Addr, ∃ cap6374 : Nat, ∃ fp6375 : List Nat, (l6360, l6366, l6372) = r6440 ∧ Fr 153 [(2, .pointer (some ⟨b2, 0, none⟩)), (5, .pointer (some ⟨b28, 0, none⟩))] a' ∧ Cl w' b2 83 [.int .i64 (0), .slice none 0 0, .slice none 0 0, .slice none 0 0] ∧ Cl w' b28 83 [.int .i64 (((y16).length : Int)), .slice A6361 (l6360).length cap6362, .slice A6367 (l6366).length cap6368, .slice A6373 (l6372).length cap6374] ∧ OwR 1 encI 25 2 w' fp6363 fr6365 A6361 cap6362 l6360 ∧ OwR 1 encI 25 2 w' fp6369 fr6371 A6367 cap6368 l6366 ∧ Ow 1 encI 2 w' fp6375 A6373 cap6374 l6372 ∧ (∀ x ∈ (fp6363 ++ fr6365), w0.heap.size ≤ x) ∧ (∀ x ∈ (fp6369 ++ fr6371), w0.heap.size ≤ x) ∧ (∀ x ∈ fp6375, w0.heap.size ≤ x) ∧ Dj [b2] (fp6363 ++ fr6365) ∧ Dj [b28] (fp6363 ++ fr6365) ∧ Dj (fp6369 ++ fr6371) (fp6363 ++ fr6365) ∧ Dj fp6375 (fp6363 ++ fr6365) ∧ Dj [b2] (fp6369 ++ fr6371) ∧ Dj [b28] (fp6369 ++ fr6371) ∧ Dj fp6375 (fp6369 ++ fr6371) ∧ Dj [b2] fp6375 ∧ Dj [b28] fp6375 ∧ Chg [] w0 w' ∧ w0.heap.size ≤ w'.heap.size) ?_ ?_
      · refine cW_block ?_
        refine cW_loop _ (fun (s6443 : Int × (List (List (Int))) × (List (List (Int))) × (List (Int))) a' w' => ∃ x6396 : Int, ∃ l6397 : List (List (Int)), ∃ A6398 : Option Addr, ∃ cap6399 : Nat, ∃ fp6400 : List Nat, ∃ fr6402 : List Nat, ∃ l6403 : List (List (Int)), ∃ A6404 : Option Addr, ∃ cap6405 : Nat, ∃ fp6406 : List Nat, ∃ fr6408 : List Nat, ∃ l6409 : List (Int), ∃ A6410 : Option Addr, ∃ cap6411 : Nat, ∃ fp6412 : List Nat, (x6396, l6397, l6403, l6409) = s6443 ∧ Fr 153 [(2, .pointer (some ⟨b2, 0, none⟩)), (4, .slice A20 (y16).length cap21), (5, .pointer (some ⟨b28, 0, none⟩)), (6, .slice A167 (l166).length cap168), (8, .int .i64 (x6396))] a' ∧ Cl w' b2 83 [.int .i64 (0), .slice none 0 0, .slice none 0 0, .slice none 0 0] ∧ OwR 1 encI 25 2 w' fp22 fr25 A20 cap21 y16 ∧ Cl w' b28 83 [.int .i64 (((y16).length : Int)), .slice A6398 (l6397).length cap6399, .slice A6404 (l6403).length cap6405, .slice A6410 (l6409).length cap6411] ∧ OwR 2 encII 32 37 w' fp169 fr171 A167 cap168 l166 ∧ OwR 1 encI 25 2 w' fp6400 fr6402 A6398 cap6399 l6397 ∧ OwR 1 encI 25 2 w' fp6406 fr6408 A6404 cap6405 l6403 ∧ Ow 1 encI 2 w' fp6412 A6410 cap6411 l6409 ∧ (∀ x ∈ (fp6400 ++ fr6402), w0.heap.size ≤ x) ∧ (∀ x ∈ (fp6406 ++ fr6408), w0.heap.size ≤ x) ∧ (∀ x ∈ fp6412, w0.heap.size ≤ x) ∧ Dj [b2] (fp6400 ++ fr6402) ∧ Dj (fp22 ++ fr25) (fp6400 ++ fr6402) ∧ Dj [b28] (fp6400 ++ fr6402) ∧ Dj (fp169 ++ fr171) (fp6400 ++ fr6402) ∧ Dj (fp6406 ++ fr6408) (fp6400 ++ fr6402) ∧ Dj fp6412 (fp6400 ++ fr6402) ∧ Dj [b2] (fp6406 ++ fr6408) ∧ Dj (fp22 ++ fr25) (fp6406 ++ fr6408) ∧ Dj [b28] (fp6406 ++ fr6408) ∧ Dj (fp169 ++ fr171) (fp6406 ++ fr6408) ∧ Dj fp6412 (fp6406 ++ fr6408) ∧ Dj [b2] fp6412 ∧ Dj (fp22 ++ fr25) fp6412 ∧ Dj [b28] fp6412 ∧ Dj (fp169 ++ fr171) fp6412 ∧ Chg [] w0 w' ∧ w0.heap.size ≤ w'.heap.size) hr6441 (fun hst => ⟨0, [], none, 0, [], [], [], none, 0, [], [], [], none, 0, [], rfl, Fr.of hst (by kernel_rfl), F173, F174, F175, F176, OwR.nil _, OwR.nil _, Ow.nil _, (lowApp lowNil lowNil), (lowApp lowNil lowNil), lowNil, (Dj.app Dj.nil Dj.nil), (Dj.app Dj.nil Dj.nil), (Dj.app Dj.nil Dj.nil), (Dj.app Dj.nil Dj.nil), (Dj.app Dj.nil Dj.nil), (Dj.app Dj.nil Dj.nil), (Dj.app Dj.nil Dj.nil), (Dj.app Dj.nil Dj.nil), (Dj.app Dj.nil Dj.nil), (Dj.app Dj.nil Dj.nil), (Dj.app Dj.nil Dj.nil), Dj.nil, Dj.nil, Dj.nil, Dj.nil, hB, hZ⟩) ?_
        rintro _ c6444 a' w6395 ⟨x6396, l6397, A6398, cap6399, fp6400, fr6402, l6403, A6404, cap6405, fp6406, fr6408, l6409, A6410, cap6411, fp6412, rfl, hF6414, F6415, F6416, F6417, F6418, F6419, F6420, F6421, G6422, G6423, G6424, D6425, D6426, D6427, D6428, D6429, D6430, D6431, D6432, D6433, D6434, D6435, D6436, D6437, D6438, D6439, hB, hZ⟩ hx6445
        refine Fr.goOn hF6414 (by kernel_rfl) ?_
        have hm := hx6445
        unfold m_spec_WiringOf_s4 at hm
        refine cW_seq ?_
        refine cW_seq ?_
        refine cW_region ?_
        refine wS_pure 4 [(39, .bool (decide (x6396 < (((y16).length : Int))))), (38, .int .i64 (((y16).length : Int))), (37, .slice A20 (y16).length cap21), (36, .int .i64 (x6396))] (by kernel_rfl) ?_
        refine wS_end (by rfl) ?_
        refine eX_then ?_
        refine cW_cond (t := decide (x6396 < (((y16).length : Int)))) (by kernel_rfl) (fun hb6446 => ?_) (fun hb6446 => ?_)
        · have hm := condT hb6446 hm
          refine cW_skip ?_
          refine eX_then ?_
          refine cW_seq ?_
          refine cW_block ?_
          refine cW_seq ?_
          refine cW_region ?_
          refine wS_pure 1 [(42, .pointer (some ⟨b28, 3, none⟩))] (by kernel_rfl) ?_
          refine wS_load1 (d := 43) (T := 25) (ad := ⟨b28, 3, none⟩) (v := .slice A6410 (l6409).length cap6411) (by kernel_rfl) vt25 ((F6417).cell 3) ?_
          refine wS_bs (enc := encI) ([(-1)] : List (Int)) [.int .i64 ((-1))] (d := 44) (t := 25) (T := 2) (n := 1) (ps := [(0, .int .i64 ((-1)))]) (by kernel_rfl) el25 encI_ok (by rfl) (by omega) (by omega) (by kernel_rfl) (by rfl) ?_
          intro b6447 w6448 G6449 F6450 hc6451
          have D6453 : Dj [b2] [b6447] := Dj.of (lt1 F6415.lt) (low1 G6449)
          have D6454 : Dj (fp22 ++ fr25) [b6447] := Dj.of F6416.low (low1 G6449)
          have D6455 : Dj [b28] [b6447] := Dj.of (lt1 F6417.lt) (low1 G6449)
          have D6456 : Dj (fp169 ++ fr171) [b6447] := Dj.of F6418.low (low1 G6449)
          have D6457 : Dj (fp6400 ++ fr6402) [b6447] := Dj.of F6419.low (low1 G6449)
          have D6458 : Dj (fp6406 ++ fr6408) [b6447] := Dj.of F6420.low (low1 G6449)
          have D6459 : Dj fp6412 [b6447] := Dj.of F6421.low (low1 G6449)
          replace F6415 := F6415.chg hc6451 notNil
          replace F6416 := F6416.chg hc6451 Dj.nil
          replace F6417 := F6417.chg hc6451 notNil
          replace F6418 := F6418.chg hc6451 Dj.nil
          replace F6419 := F6419.chg hc6451 Dj.nil
          replace F6420 := F6420.chg hc6451 Dj.nil
          replace F6421 := F6421.chg hc6451 Dj.nil
          replace hB := hB.inS hc6451 inNil
          replace G6449 := Nat.le_trans hZ G6449
          replace G6449 := low1 G6449
          replace hZ := Nat.le_trans hZ hc6451.size
          obtain ⟨_, hk6460, hm⟩ := bindE hm
          replace hk6460 := apE hk6460
          refine wS_append (enc := encI) (l := (l6409 : List (Int))) (l2 := (([(-1)] : List (Int)) : List (Int))) (d := 45) (t := 25) (T := 2) (A := A6410) (A2 := (some ⟨b6447, 0, none⟩)) (cap := cap6411) (cap2 := 1) (by kernel_rfl) el25 encI_ok F6421 (F6450.sl encI_ok) (by rfl) hk6460 ?_
          intro w6461 fp6462 A6463 cap6464 F6465 hc6466 hp6467
          have G6469 := low_ap G6424 hZ hp6467
          have D6470 : Dj [b2] fp6462 := Dj.ap D6436 (lt1 F6415.lt) hp6467
          have D6471 : Dj (fp22 ++ fr25) fp6462 := Dj.ap D6437 F6416.low hp6467
          have D6472 : Dj [b28] fp6462 := Dj.ap D6438 (lt1 F6417.lt) hp6467
          have D6473 : Dj (fp169 ++ fr171) fp6462 := Dj.ap D6439 F6418.low hp6467
          have D6474 : Dj (fp6400 ++ fr6402) fp6462 := Dj.ap (D6430).symm F6419.low hp6467
          have D6475 : Dj (fp6406 ++ fr6408) fp6462 := Dj.ap (D6435).symm F6420.low hp6467
          have D6476 : Dj [b6447] fp6462 := Dj.ap (D6459).symm F6450.low hp6467
          replace F6415 := F6415.chg hc6466 (dj1 D6436)
          replace F6416 := F6416.chg hc6466 D6437
          replace F6417 := F6417.chg hc6466 (dj1 D6438)
          replace F6418 := F6418.chg hc6466 D6439
          replace F6419 := F6419.chg hc6466 (D6430).symm
          replace F6420 := F6420.chg hc6466 (D6435).symm
          replace F6450 := F6450.chg hc6466 (D6459).symm
          replace hB := hB.inS hc6466 (inLow G6424)
          replace hZ := Nat.le_trans hZ hc6466.size
          refine wS_pure 1 [(46, .pointer (some ⟨b28, 3, none⟩))] (by kernel_rfl) ?_
          refine wS_store (T := 25) (g := b28) (o := 3) (ad := ⟨b28, 3, none⟩) (v := .slice A6463 (l6409 ++ (([(-1)] : List (Int)))).length cap6464) (vs := [.slice A6463 (l6409 ++ (([(-1)] : List (Int)))).length cap6464]) (by kernel_rfl) (by rfl) sz25 (by rfl) (by rfl) F6417 (by simp only [List.length_cons, List.length_nil]; omega) ?_
          intro w6477 F6478 hc6479
          replace F6415 := F6415.chg hc6479 (dj1 D34)
          replace F6416 := F6416.chg hc6479 D35
          replace F6418 := F6418.chg hc6479 (D180).symm
          replace F6419 := F6419.chg hc6479 (D6427).symm
          replace F6420 := F6420.chg hc6479 (D6433).symm
          replace F6450 := F6450.chg hc6479 (D6455).symm
          replace F6465 := F6465.chg hc6479 (D6472).symm
          replace hB := hB.inS hc6479 (inLow (low1 G30))
          replace hZ := Nat.le_trans hZ hc6479.size
          replace F6478 : Cl w6477 b28 83 [.int .i64 (((y16).length : Int)), .slice A6398 (l6397).length cap6399, .slice A6404 (l6403).length cap6405, .slice A6463 (l6409 ++ (([(-1)] : List (Int)))).length cap6464] := F6478
          clear F6417
          refine wS_end (by rfl) ?_
          refine eX_then ?_
          refine cW_seq ?_
          refine cW_region ?_
          refine wS_pure 2 [(48, .int .i64 (x6396)), (47, .slice A20 (y16).length cap21)] (by kernel_rfl) ?_
          obtain ⟨x6480, hx6481, hm⟩ := bindE hm
          refine wS_idx (d := 49) (T := 40) (A := A20) (n := (y16).length) (cap := cap21) (kd := .i64) (m := x6396) (by kernel_rfl) sl40 ((F6416.slr encI_ok).is hx6481) ?_
          obtain ⟨A6482, cap6483, hc6485, F6484, K6486⟩ := OwR.row F6416 encI_ok hx6481
          have G6488 := low_inr G24
          have Dm6489 := (F6416.dj).symm
          refine wS_load1 (d := 50) (T := 25) (ad := (elA A20 1 (x6396) 0)) (v := .slice A6482 (x6480).length cap6483) (by kernel_rfl) vt25 hc6485 ?_
          refine wS_pure 1 [(9, .slice A6482 (x6480).length cap6483)] (by kernel_rfl) ?_
          refine wS_end (by rfl) ?_
          refine eX_then ?_
          refine cW_seq ?_
          refine cW_region ?_
          refine wS_pure 3 [(10, .int .i64 (wr (x6396 + 1))), (52, .int .i64 (wr (x6396 + 1))), (51, .int .i64 (x6396))] (by kernel_rfl) ?_
          refine wS_end (by rfl) ?_
          refine eX_then ?_
          obtain ⟨r8528, hr8529, hm⟩ := bindE hm
          have hm8530 := hm
          refine cW_cut (fun a' w' => ∃ l8457 : List (List (Int)), ∃ A8458 : Option Addr, ∃ cap8459 : Nat, ∃ fp8460 : List Nat, ∃ fr8462 : List Nat, ∃ l8463 : List (List (Int)), ∃ A8464 : Option Addr, ∃ cap8465 : Nat, ∃ fp8466 : List Nat, ∃ fr8468 : List Nat, (l8457, l8463) = r8528 ∧ Fr 153 [(2, .pointer (some ⟨b2, 0, none⟩)), (4, .slice A20 (y16).length cap21), (5, .pointer (some ⟨b28, 0, none⟩)), (6, .slice A167 (l166).length cap168), (8, .int .i64 (x6396))] a' ∧ Cl w' b2 83 [.int .i64 (0), .slice none 0 0, .slice none 0 0, .slice none 0 0] ∧ OwR 1 encI 25 2 w' fp22 fr25 A20 cap21 y16 ∧ Cl w' b28 83 [.int .i64 (((y16).length : Int)), .slice A8458 (l8457).length cap8459, .slice A8464 (l8463).length cap8465, .slice A6463 (l6409 ++ (([(-1)] : List (Int)))).length cap6464] ∧ OwR 2 encII 32 37 w' fp169 fr171 A167 cap168 l166 ∧ Ow 1 encI 2 w' fp6462 A6463 cap6464 (l6409 ++ (([(-1)] : List (Int)))) ∧ OwR 1 encI 25 2 w' fp8460 fr8462 A8458 cap8459 l8457 ∧ OwR 1 encI 25 2 w' fp8466 fr8468 A8464 cap8465 l8463 ∧ (∀ x ∈ (fp8460 ++ fr8462), w0.heap.size ≤ x) ∧ (∀ x ∈ (fp8466 ++ fr8468), w0.heap.size ≤ x) ∧ Dj [b2] (fp8460 ++ fr8462) ∧ Dj (fp22 ++ fr25) (fp8460 ++ fr8462) ∧ Dj [b28] (fp8460 ++ fr8462) ∧ Dj (fp169 ++ fr171) (fp8460 ++ fr8462) ∧ Dj fp6462 (fp8460 ++ fr8462) ∧ Dj (fp8466 ++ fr8468) (fp8460 ++ fr8462) ∧ Dj [b2] (fp8466 ++ fr8468) ∧ Dj (fp22 ++ fr25) (fp8466 ++ fr8468) ∧ Dj [b28] (fp8466 ++ fr8468) ∧ Dj (fp169 ++ fr171) (fp8466 ++ fr8468) ∧ Dj fp6462 (fp8466 ++ fr8468) ∧ Chg [] w0 w' ∧ w0.heap.size ≤ w'.heap.size) ?_ ?_
          · refine cW_block ?_
            refine cW_loop _ (fun (s8531 : Int × (List (List (Int))) × (List (List (Int)))) a' w' => ∃ x8491 : Int, ∃ l8492 : List (List (Int)), ∃ A8493 : Option Addr, ∃ cap8494 : Nat, ∃ fp8495 : List Nat, ∃ fr8497 : List Nat, ∃ l8498 : List (List (Int)), ∃ A8499 : Option Addr, ∃ cap8500 : Nat, ∃ fp8501 : List Nat, ∃ fr8503 : List Nat, (x8491, l8492, l8498) = s8531 ∧ Fr 153 [(2, .pointer (some ⟨b2, 0, none⟩)), (4, .slice A20 (y16).length cap21), (5, .pointer (some ⟨b28, 0, none⟩)), (6, .slice A167 (l166).length cap168), (8, .int .i64 (x6396)), (9, .slice A6482 (x6480).length cap6483), (10, .int .i64 (x8491))] a' ∧ Cl w' b2 83 [.int .i64 (0), .slice none 0 0, .slice none 0 0, .slice none 0 0] ∧ OwR 1 encI 25 2 w' fp22 fr25 A20 cap21 y16 ∧ Cl w' b28 83 [.int .i64 (((y16).length : Int)), .slice A8493 (l8492).length cap8494, .slice A8499 (l8498).length cap8500, .slice A6463 (l6409 ++ (([(-1)] : List (Int)))).length cap6464] ∧ OwR 2 encII 32 37 w' fp169 fr171 A167 cap168 l166 ∧ Ow 1 encI 2 w' fp6462 A6463 cap6464 (l6409 ++ (([(-1)] : List (Int)))) ∧ Sl 1 encI w' fr25 A6482 x6480 ∧ OwR 1 encI 25 2 w' fp8495 fr8497 A8493 cap8494 l8492 ∧ OwR 1 encI 25 2 w' fp8501 fr8503 A8499 cap8500 l8498 ∧ (∀ x ∈ (fp8495 ++ fr8497), w0.heap.size ≤ x) ∧ (∀ x ∈ (fp8501 ++ fr8503), w0.heap.size ≤ x) ∧ Dj [b2] (fp8495 ++ fr8497) ∧ Dj (fp22 ++ fr25) (fp8495 ++ fr8497) ∧ Dj [b28] (fp8495 ++ fr8497) ∧ Dj (fp169 ++ fr171) (fp8495 ++ fr8497) ∧ Dj fp6462 (fp8495 ++ fr8497) ∧ Dj fr25 (fp8495 ++ fr8497) ∧ Dj (fp8501 ++ fr8503) (fp8495 ++ fr8497) ∧ Dj [b2] (fp8501 ++ fr8503) ∧ Dj (fp22 ++ fr25) (fp8501 ++ fr8503) ∧ Dj [b28] (fp8501 ++ fr8503) ∧ Dj (fp169 ++ fr171) (fp8501 ++ fr8503) ∧ Dj fp6462 (fp8501 ++ fr8503) ∧ Dj fr25 (fp8501 ++ fr8503) ∧ Chg [] w0 w' ∧ w0.heap.size ≤ w'.heap.size) hr8529 (fun hst => ⟨wr (x6396 + 1), l6397, A6398, cap6399, fp6400, fr6402, l6403, A6404, cap6405, fp6406, fr6408, rfl, Fr.of hst (by kernel_rfl), F6415, F6416, F6478, F6418, F6465, F6484, F6419, F6420, G6422, G6423, D6425, D6426, D6427, D6428, (D6474).symm, ((Dj.inr (D6426).symm)).symm, D6429, D6431, D6432, D6433, D6434, (D6475).symm, ((Dj.inr (D6432).symm)).symm, hB, hZ⟩) ?_
            rintro _ c8532 a' w8490 ⟨x8491, l8492, A8493, cap8494, fp8495, fr8497, l8498, A8499, cap8500, fp8501, fr8503, rfl, hF8504, F8505, F8506, F8507, F8508, F8509, F8510, F8511, F8512, G8513, G8514, D8515, D8516, D8517, D8518, D8519, D8520, D8521, D8522, D8523, D8524, D8525, D8526, D8527, hB, hZ⟩ hx8533
            refine Fr.goOn hF8504 (by kernel_rfl) ?_
            have hm := hx8533
            unfold m_spec_WiringOf_s5 at hm
            refine cW_seq ?_
            refine cW_seq ?_
            refine cW_region ?_
            refine wS_pure 4 [(56, .bool (decide (x8491 < (((y16).length : Int))))), (55, .int .i64 (((y16).length : Int))), (54, .slice A20 (y16).length cap21), (53, .int .i64 (x8491))] (by kernel_rfl) ?_
            refine wS_end (by rfl) ?_
            refine eX_then ?_
            refine cW_cond (t := decide (x8491 < (((y16).length : Int)))) (by kernel_rfl) (fun hb8534 => ?_) (fun hb8534 => ?_)
            · have hm := condT hb8534 hm
              refine cW_skip ?_
              refine eX_then ?_
              refine cW_seq ?_
              refine cW_block ?_
              obtain ⟨s9032, hs9033, hm⟩ := bindE hm
              refine cW_cut (fun a' w' => ∃ l8996 : List (List (Int)), ∃ A8997 : Option Addr, ∃ cap8998 : Nat, ∃ fp8999 : List Nat, ∃ fr9001 : List Nat, ∃ l9002 : List (List (Int)), ∃ A9003 : Option Addr, ∃ cap9004 : Nat, ∃ fp9005 : List Nat, ∃ fr9007 : List Nat, (l8996, l9002) = s9032 ∧ Fr 153 [(2, .pointer (some ⟨b2, 0, none⟩)), (4, .slice A20 (y16).length cap21), (5, .pointer (some ⟨b28, 0, none⟩)), (6, .slice A167 (l166).length cap168), (8, .int .i64 (x6396)), (9, .slice A6482 (x6480).length cap6483), (10, .int .i64 (x8491))] a' ∧ Cl w' b2 83 [.int .i64 (0), .slice none 0 0, .slice none 0 0, .slice none 0 0] ∧ OwR 1 encI 25 2 w' fp22 fr25 A20 cap21 y16 ∧ Cl w' b28 83 [.int .i64 (((y16).length : Int)), .slice A8997 (l8996).length cap8998, .slice A9003 (l9002).length cap9004, .slice A6463 (l6409 ++ (([(-1)] : List (Int)))).length cap6464] ∧ OwR 2 encII 32 37 w' fp169 fr171 A167 cap168 l166 ∧ Ow 1 encI 2 w' fp6462 A6463 cap6464 (l6409 ++ (([(-1)] : List (Int)))) ∧ Sl 1 encI w' fr25 A6482 x6480 ∧ OwR 1 encI 25 2 w' fp8999 fr9001 A8997 cap8998 l8996 ∧ OwR 1 encI 25 2 w' fp9005 fr9007 A9003 cap9004 l9002 ∧ (∀ x ∈ (fp8999 ++ fr9001), w0.heap.size ≤ x) ∧ (∀ x ∈ (fp9005 ++ fr9007), w0.heap.size ≤ x) ∧ Dj [b2] (fp8999 ++ fr9001) ∧ Dj (fp22 ++ fr25) (fp8999 ++ fr9001) ∧ Dj [b28] (fp8999 ++ fr9001) ∧ Dj (fp169 ++ fr171) (fp8999 ++ fr9001) ∧ Dj fp6462 (fp8999 ++ fr9001) ∧ Dj fr25 (fp8999 ++ fr9001) ∧ Dj (fp9005 ++ fr9007) (fp8999 ++ fr9001) ∧ Dj [b2] (fp9005 ++ fr9007) ∧ Dj (fp22 ++ fr25) (fp9005 ++ fr9007) ∧ Dj [b28] (fp9005 ++ fr9007) ∧ Dj (fp169 ++ fr171) (fp9005 ++ fr9007) ∧ Dj fp6462 (fp9005 ++ fr9007) ∧ Dj fr25 (fp9005 ++ fr9007) ∧ Chg [] w0 w' ∧ w0.heap.size ≤ w'.heap.size) ?_ ?_
              · have hm := hs9033
                refine cW_seq ?_
                refine cW_region ?_
                refine wS_pure 2 [(60, .int .i64 (x8491)), (59, .slice A20 (y16).length cap21)] (by kernel_rfl) ?_
                obtain ⟨x9034, hx9035, hm⟩ := bindE hm
                refine wS_idx (d := 61) (T := 40) (A := A20) (n := (y16).length) (cap := cap21) (kd := .i64) (m := x8491) (by kernel_rfl) sl40 ((F8506.slr encI_ok).is hx9035) ?_
                obtain ⟨A9036, cap9037, hc9039, F9038, K9040⟩ := OwR.row F8506 encI_ok hx9035
                have G9042 := low_inr G24
                have Dm9043 := (F8506.dj).symm
                refine wS_load1 (d := 62) (T := 25) (ad := (elA A20 1 (x8491) 0)) (v := .slice A9036 (x9034).length cap9037) (by kernel_rfl) vt25 hc9039 ?_
                refine wS_pure 1 [(11, .slice A9036 (x9034).length cap9037)] (by kernel_rfl) ?_
                refine wS_end (by rfl) ?_
                refine eX_then ?_
                refine cW_seq ?_
                obtain ⟨s9164, hs9165, hm⟩ := bindE hm
                refine cW_cut (fun a' w' => ∃ l9139 : List (List (Int)), ∃ A9140 : Option Addr, ∃ cap9141 : Nat, ∃ fp9142 : List Nat, ∃ fr9144 : List Nat, l9139 = s9164 ∧ Fr 153 [(2, .pointer (some ⟨b2, 0, none⟩)), (4, .slice A20 (y16).length cap21), (5, .pointer (some ⟨b28, 0, none⟩)), (6, .slice A167 (l166).length cap168), (8, .int .i64 (x6396)), (9, .slice A6482 (x6480).length cap6483), (10, .int .i64 (x8491)), (11, .slice A9036 (x9034).length cap9037)] a' ∧ Cl w' b2 83 [.int .i64 (0), .slice none 0 0, .slice none 0 0, .slice none 0 0] ∧ OwR 1 encI 25 2 w' fp22 fr25 A20 cap21 y16 ∧ Cl w' b28 83 [.int .i64 (((y16).length : Int)), .slice A8493 (l8492).length cap8494, .slice A9140 (l9139).length cap9141, .slice A6463 (l6409 ++ (([(-1)] : List (Int)))).length cap6464] ∧ OwR 2 encII 32 37 w' fp169 fr171 A167 cap168 l166 ∧ Ow 1 encI 2 w' fp6462 A6463 cap6464 (l6409 ++ (([(-1)] : List (Int)))) ∧ Sl 1 encI w' fr25 A6482 x6480 ∧ OwR 1 encI 25 2 w' fp8495 fr8497 A8493 cap8494 l8492 ∧ Sl 1 encI w' fr25 A9036 x9034 ∧ OwR 1 encI 25 2 w' fp9142 fr9144 A9140 cap9141 l9139 ∧ (∀ x ∈ (fp9142 ++ fr9144), w0.heap.size ≤ x) ∧ Dj [b2] (fp9142 ++ fr9144) ∧ Dj (fp22 ++ fr25) (fp9142 ++ fr9144) ∧ Dj [b28] (fp9142 ++ fr9144) ∧ Dj (fp169 ++ fr171) (fp9142 ++ fr9144) ∧ Dj fp6462 (fp9142 ++ fr9144) ∧ Dj fr25 (fp9142 ++ fr9144) ∧ Dj (fp8495 ++ fr8497) (fp9142 ++ fr9144) ∧ Dj fr25 (fp9142 ++ fr9144) ∧ Chg [] w0 w' ∧ w0.heap.size ≤ w'.heap.size) ?_ ?_
                · have hm := hs9165
                  refine cW_seq ?_
                  refine cW_drawnTail [] 14 (by kernel_rfl) (by kernel_rfl) (fun w9186 hc9187 => ?_)
                  replace F8505 := F8505.chg hc9187 notNil
                  replace F8506 := F8506.chg hc9187 Dj.nil
                  replace F8507 := F8507.chg hc9187 notNil
                  replace F8508 := F8508.chg hc9187 Dj.nil
                  replace F8509 := F8509.chg hc9187 Dj.nil
                  replace F8510 := F8510.chg hc9187 Dj.nil
                  replace F8511 := F8511.chg hc9187 Dj.nil
                  replace F8512 := F8512.chg hc9187 Dj.nil
                  replace F9038 := F9038.chg hc9187 Dj.nil
                  replace hB := hB.inS hc9187 inNil
                  replace hZ := Nat.le_trans hZ hc9187.size
                  have hS := Chg.refl [] w9186
                  have Z9188 := F8505
                  have Z9189 := F8506
                  have Z9190 := F8507
                  have Z9191 := F8508
                  have Z9192 := F8509
                  have Z9193 := F8510
                  have Z9194 := F8511
                  have Z9195 := F8512
                  have Z9196 := F9038
                  refine wH_take [0] [0] [(63, .slice A6482 (x6480).length cap6483)] (by kernel_rfl) (qT (qT (qT (qT (qT (qB (qT (qL (qB (qT (qB (qT (qL (qB (qT (qT qZ)))))))))))))))) (by kernel_rfl) ?_
                  obtain ⟨x9197, hx9198, hm⟩ := bindE hm
                  refine wH_idx (i := 1) (d := 64) (T := 25) (A := A6482) (n := (x6480).length) (cap := cap6483) (kd := .i64) (m := 0) (by kernel_rfl) (qT (qT (qT (qT (qT (qB (qT (qL (qB (qT (qB (qT (qL (qB (qT (qT qZ)))))))))))))))) (by kernel_rfl) (by kernel_rfl) sl25 (F8510.is hx9198) ?_
                  refine wH_load1 (i := 2) (d := 65) (T := 2) (ad := (elA A6482 1 (0) 0)) (v := .int .i64 (x9197)) (by kernel_rfl) (qT (qT (qT (qT (qT (qB (qT (qL (qB (qT (qB (qT (qL (qB (qT (qT qZ)))))))))))))))) (by kernel_rfl) (by kernel_rfl) vt2 (fun W hW => Sl.cell (Z9193.chg hW Dj.nil) hx9198 0 (by rfl)) ?_
                  refine wH_take [3] [3, 2, 1, 0] [(66, .slice A9036 (x9034).length cap9037)] (by kernel_rfl) (qT (qT (qT (qT (qT (qB (qT (qL (qB (qT (qB (qT (qL (qB (qT (qT qZ)))))))))))))))) (by kernel_rfl) ?_
                  obtain ⟨x9199, hx9200, hm⟩ := bindE hm
                  refine wH_idx (i := 4) (d := 67) (T := 25) (A := A9036) (n := (x9034).length) (cap := cap9037) (kd := .i64) (m := 0) (by kernel_rfl) (qT (qT (qT (qT (qT (qB (qT (qL (qB (qT (qB (qT (qL (qB (qT (qT qZ)))))))))))))))) (by kernel_rfl) (by kernel_rfl) sl25 (F9038.is hx9200) ?_
                  refine wH_load1 (i := 5) (d := 68) (T := 2) (ad := (elA A9036 1 (0) 0)) (v := .int .i64 (x9199)) (by kernel_rfl) (qT (qT (qT (qT (qT (qB (qT (qL (qB (qT (qB (qT (qL (qB (qT (qT qZ)))))))))))))))) (by kernel_rfl) (by kernel_rfl) vt2 (fun W hW => Sl.cell (Z9196.chg hW Dj.nil) hx9200 0 (by rfl)) ?_
                  refine wH_take [6, 7] [7, 6, 5, 4, 3, 2, 1, 0] [(70, .bool (x9197 == x9199)), (69, .bool (x9197 == x9199))] (by kernel_rfl) (qT (qT (qT (qT (qT (qB (qT (qL (qB (qT (qB (qT (qL (qB (qT (qT qZ)))))))))))))))) (by kernel_rfl) ?_
                  refine wH_bool (x9197 == x9199) (fun hb9201 => ?_) (fun hb9201 => ?_)
                  · have hm := condT hb9201 hm
                    rewrite [hb9201]
                    refine wH_take [8] [8, 7, 6, 5, 4, 3, 2, 1, 0] [(71, .slice A6482 (x6480).length cap6483)] (by kernel_rfl) (qT (qT (qT (qT (qT (qB (qT (qL (qB (qT (qB (qT (qL (qB (qT (qT qZ)))))))))))))))) (by kernel_rfl) ?_
                    obtain ⟨x9202, hx9203, hm⟩ := bindE hm
                    refine wH_idx (i := 9) (d := 72) (T := 25) (A := A6482) (n := (x6480).length) (cap := cap6483) (kd := .i64) (m := 2) (by kernel_rfl) (qT (qT (qT (qT (qT (qB (qT (qL (qB (qT (qB (qT (qL (qB (qT (qT qZ)))))))))))))))) (by kernel_rfl) (by kernel_rfl) sl25 (F8510.is hx9203) ?_
                    refine wH_load1 (i := 10) (d := 73) (T := 2) (ad := (elA A6482 1 (2) 0)) (v := .int .i64 (x9202)) (by kernel_rfl) (qT (qT (qT (qT (qT (qB (qT (qL (qB (qT (qB (qT (qL (qB (qT (qT qZ)))))))))))))))) (by kernel_rfl) (by kernel_rfl) vt2 (fun W hW => Sl.cell (Z9193.chg hW Dj.nil) hx9203 0 (by rfl)) ?_
                    refine wH_take [11] [11, 10, 9, 8, 7, 6, 5, 4, 3, 2, 1, 0] [(74, .slice A9036 (x9034).length cap9037)] (by kernel_rfl) (qT (qT (qT (qT (qT (qB (qT (qL (qB (qT (qB (qT (qL (qB (qT (qT qZ)))))))))))))))) (by kernel_rfl) ?_
                    obtain ⟨x9204, hx9205, hm⟩ := bindE hm
                    refine wH_idx (i := 12) (d := 75) (T := 25) (A := A9036) (n := (x9034).length) (cap := cap9037) (kd := .i64) (m := 1) (by kernel_rfl) (qT (qT (qT (qT (qT (qB (qT (qL (qB (qT (qB (qT (qL (qB (qT (qT qZ)))))))))))))))) (by kernel_rfl) (by kernel_rfl) sl25 (F9038.is hx9205) ?_
                    refine wH_load1 (i := 13) (d := 76) (T := 2) (ad := (elA A9036 1 (1) 0)) (v := .int .i64 (x9204)) (by kernel_rfl) (qT (qT (qT (qT (qT (qB (qT (qL (qB (qT (qB (qT (qL (qB (qT (qT qZ)))))))))))))))) (by kernel_rfl) (by kernel_rfl) vt2 (fun W hW => Sl.cell (Z9196.chg hW Dj.nil) hx9205 0 (by rfl)) ?_
                    refine wH_done (by kernel_rfl) ?_
                    refine eX_tail ?_
                    refine wS_pure 2 [(78, .bool (x9202 == x9204)), (77, .bool (x9202 == x9204))] (by kernel_rfl) ?_
                    refine wS_end (by rfl) ?_
                    refine eX_then ?_
                    refine cW_prune [(2, .pointer (some ⟨b2, 0, none⟩)), (4, .slice A20 (y16).length cap21), (5, .pointer (some ⟨b28, 0, none⟩)), (6, .slice A167 (l166).length cap168), (8, .int .i64 (x6396)), (9, .slice A6482 (x6480).length cap6483), (10, .int .i64 (x8491)), (11, .slice A9036 (x9034).length cap9037), (78, .bool (x9202 == x9204))] (by kernel_rfl) (by kernel_rfl) (fun a9206 => ?_)
                    refine cW_cond (t := x9202 == x9204) (by kernel_rfl) (fun hb9207 => ?_) (fun hb9207 => ?_)
                    · have hm := condT hb9207 hm
                      refine cW_region ?_
                      refine wS_pure 1 [(79, .pointer (some ⟨b28, 2, none⟩))] (by kernel_rfl) ?_
                      refine wS_load1 (d := 80) (T := 40) (ad := ⟨b28, 2, none⟩) (v := .slice A8499 (l8498).length cap8500) (by kernel_rfl) vt40 ((F8507).cell 2) ?_
                      refine wS_pure 2 [(82, .int .i64 (x8491)), (81, .int .i64 (x6396))] (by kernel_rfl) ?_
                      refine wS_bs (enc := encI) ([x6396, x8491, 1] : List (Int)) [.int .i64 (x6396), .int .i64 (x8491), .int .i64 (1)] (d := 83) (t := 25) (T := 2) (n := 3) (ps := [(0, .int .i64 (x6396)), (1, .int .i64 (x8491)), (2, .int .i64 (1))]) (by kernel_rfl) el25 encI_ok (by rfl) (by omega) (by omega) (by kernel_rfl) (by rfl) ?_
                      intro b9208 w9209 G9210 F9211 hc9212
                      have D9214 : Dj [b2] [b9208] := Dj.of (lt1 F8505.lt) (low1 G9210)
                      have D9215 : Dj (fp22 ++ fr25) [b9208] := Dj.of F8506.low (low1 G9210)
                      have D9216 : Dj [b28] [b9208] := Dj.of (lt1 F8507.lt) (low1 G9210)
                      have D9217 : Dj (fp169 ++ fr171) [b9208] := Dj.of F8508.low (low1 G9210)
                      have D9218 : Dj fp6462 [b9208] := Dj.of F8509.low (low1 G9210)
                      have D9219 : Dj fr25 [b9208] := Dj.of F8510.low (low1 G9210)
                      have D9220 : Dj (fp8495 ++ fr8497) [b9208] := Dj.of F8511.low (low1 G9210)
                      have D9221 : Dj (fp8501 ++ fr8503) [b9208] := Dj.of F8512.low (low1 G9210)
                      have D9222 : Dj fr25 [b9208] := Dj.of F9038.low (low1 G9210)
                      replace F8505 := F8505.chg hc9212 notNil
                      replace F8506 := F8506.chg hc9212 Dj.nil
                      replace F8507 := F8507.chg hc9212 notNil
                      replace F8508 := F8508.chg hc9212 Dj.nil
                      replace F8509 := F8509.chg hc9212 Dj.nil
                      replace F8510 := F8510.chg hc9212 Dj.nil
                      replace F8511 := F8511.chg hc9212 Dj.nil
                      replace F8512 := F8512.chg hc9212 Dj.nil
                      replace F9038 := F9038.chg hc9212 Dj.nil
                      replace hB := hB.inS hc9212 inNil
                      replace G9210 := Nat.le_trans hZ G9210
                      replace G9210 := low1 G9210
                      replace hZ := Nat.le_trans hZ hc9212.size
                      refine wS_row1 (k := 1) (enc := encI) (l := ([x6396, x8491, 1] : List (Int))) (d := 84) (t := 40) (T := 25) (B := (some ⟨b9208, 0, none⟩)) (c := 3) (by kernel_rfl) el40 F9211 ?_
                      intro b9223 w9224 G9225 F9226 hc9227
                      have D9229 : Dj [b2] ([b9223] ++ [b9208]) := Dj.app (Dj.of (lt1 F8505.lt) (low1 G9225)) D9214
                      have D9230 : Dj (fp22 ++ fr25) ([b9223] ++ [b9208]) := Dj.app (Dj.of F8506.low (low1 G9225)) D9215
                      have D9231 : Dj [b28] ([b9223] ++ [b9208]) := Dj.app (Dj.of (lt1 F8507.lt) (low1 G9225)) D9216
                      have D9232 : Dj (fp169 ++ fr171) ([b9223] ++ [b9208]) := Dj.app (Dj.of F8508.low (low1 G9225)) D9217
                      have D9233 : Dj fp6462 ([b9223] ++ [b9208]) := Dj.app (Dj.of F8509.low (low1 G9225)) D9218
                      have D9234 : Dj fr25 ([b9223] ++ [b9208]) := Dj.app (Dj.of F8510.low (low1 G9225)) D9219
                      have D9235 : Dj (fp8495 ++ fr8497) ([b9223] ++ [b9208]) := Dj.app (Dj.of F8511.low (low1 G9225)) D9220
                      have D9236 : Dj (fp8501 ++ fr8503) ([b9223] ++ [b9208]) := Dj.app (Dj.of F8512.low (low1 G9225)) D9221
                      have D9237 : Dj fr25 ([b9223] ++ [b9208]) := Dj.app (Dj.of F9038.low (low1 G9225)) D9222
                      replace F8505 := F8505.chg hc9227 notNil
                      replace F8506 := F8506.chg hc9227 Dj.nil
                      replace F8507 := F8507.chg hc9227 notNil
                      replace F8508 := F8508.chg hc9227 Dj.nil
                      replace F8509 := F8509.chg hc9227 Dj.nil
                      replace F8510 := F8510.chg hc9227 Dj.nil
                      replace F8511 := F8511.chg hc9227 Dj.nil
                      replace F8512 := F8512.chg hc9227 Dj.nil
                      replace F9038 := F9038.chg hc9227 Dj.nil
                      replace F9211 := F9211.chg hc9227 Dj.nil
                      replace hB := hB.inS hc9227 inNil
                      replace G9225 := Nat.le_trans hZ G9225
                      replace G9225 := lowApp (low1 G9225) G9210
                      replace hZ := Nat.le_trans hZ hc9227.size
                      replace F9211 := (F9211.sl encI_ok)
                      obtain ⟨_, hk9238, hm⟩ := bindE hm
                      replace hk9238 := apE hk9238
                      refine wS_appendR (k := 1) (enc := encI) (ll := (l8498 : List (List (Int)))) (ll2 := (([([x6396, x8491, 1] : List (Int))] : List (List (Int))) : List (List (Int)))) (d := 85) (t := 40) (T := 25) (A := A8499) (A2 := (some ⟨b9223, 0, none⟩)) (cap := cap8500) (cap2 := 1) (by kernel_rfl) el40 F8512 F9226 (by rfl) D9236 hk9238 ?_
                      intro w9239 fp9240 A9241 cap9242 F9243 hc9244 hp9245
                      have G9247 := lowApp (low_ap (low_inl G8514) hZ hp9245) (lowApp (low_inr G8514) (low_inr G9225))
                      have D9248 : Dj [b2] (fp9240 ++ (fr8503 ++ [b9208])) := Dj.app (Dj.ap (Dj.inl D8522) (lt1 F8505.lt) hp9245) (Dj.app (Dj.inr D8522) (Dj.inr D9229))
                      have D9249 : Dj (fp22 ++ fr25) (fp9240 ++ (fr8503 ++ [b9208])) := Dj.app (Dj.ap (Dj.inl D8523) F8506.low hp9245) (Dj.app (Dj.inr D8523) (Dj.inr D9230))
                      have D9250 : Dj [b28] (fp9240 ++ (fr8503 ++ [b9208])) := Dj.app (Dj.ap (Dj.inl D8524) (lt1 F8507.lt) hp9245) (Dj.app (Dj.inr D8524) (Dj.inr D9231))
                      have D9251 : Dj (fp169 ++ fr171) (fp9240 ++ (fr8503 ++ [b9208])) := Dj.app (Dj.ap (Dj.inl D8525) F8508.low hp9245) (Dj.app (Dj.inr D8525) (Dj.inr D9232))
                      have D9252 : Dj fp6462 (fp9240 ++ (fr8503 ++ [b9208])) := Dj.app (Dj.ap (Dj.inl D8526) F8509.low hp9245) (Dj.app (Dj.inr D8526) (Dj.inr D9233))
                      have D9253 : Dj fr25 (fp9240 ++ (fr8503 ++ [b9208])) := Dj.app (Dj.ap (Dj.inl D8527) F8510.low hp9245) (Dj.app (Dj.inr D8527) (Dj.inr D9234))
                      have D9254 : Dj (fp8495 ++ fr8497) (fp9240 ++ (fr8503 ++ [b9208])) := Dj.app (Dj.ap (Dj.inl (D8521).symm) F8511.low hp9245) (Dj.app (Dj.inr (D8521).symm) (Dj.inr D9235))
                      have D9255 : Dj fr25 (fp9240 ++ (fr8503 ++ [b9208])) := Dj.app (Dj.ap (Dj.inl ((Dj.inr (D8523).symm)).symm) F9038.low hp9245) (Dj.app (Dj.inr ((Dj.inr (D8523).symm)).symm) (Dj.inr D9237))
                      replace F8505 := F8505.chg hc9244 (dj1 (Dj.inl D8522))
                      replace F8506 := F8506.chg hc9244 (Dj.inl D8523)
                      replace F8507 := F8507.chg hc9244 (dj1 (Dj.inl D8524))
                      replace F8508 := F8508.chg hc9244 (Dj.inl D8525)
                      replace F8509 := F8509.chg hc9244 (Dj.inl D8526)
                      replace F8510 := F8510.chg hc9244 (Dj.inl D8527)
                      replace F8511 := F8511.chg hc9244 (Dj.inl (D8521).symm)
                      replace F9038 := F9038.chg hc9244 (Dj.inl ((Dj.inr (D8523).symm)).symm)
                      replace hB := hB.inS hc9244 (memS_inl (inLow G8514))
                      replace hZ := Nat.le_trans hZ hc9244.size
                      refine wS_pure 1 [(86, .pointer (some ⟨b28, 2, none⟩))] (by kernel_rfl) ?_
                      refine wS_store (T := 40) (g := b28) (o := 2) (ad := ⟨b28, 2, none⟩) (v := .slice A9241 (l8498 ++ (([([x6396, x8491, 1] : List (Int))] : List (List (Int))))).length cap9242) (vs := [.slice A9241 (l8498 ++ (([([x6396, x8491, 1] : List (Int))] : List (List (Int))))).length cap9242]) (by kernel_rfl) (by rfl) sz40 (by rfl) (by rfl) F8507 (by simp only [List.length_cons, List.length_nil]; omega) ?_
                      intro w9256 F9257 hc9258
                      replace F8505 := F8505.chg hc9258 (dj1 D34)
                      replace F8506 := F8506.chg hc9258 D35
                      replace F8508 := F8508.chg hc9258 (D180).symm
                      replace F8509 := F8509.chg hc9258 (D6472).symm
                      replace F8510 := F8510.chg hc9258 ((Dj.inr (D35).symm)).symm
                      replace F8511 := F8511.chg hc9258 (D8517).symm
                      replace F9038 := F9038.chg hc9258 ((Dj.inr (D35).symm)).symm
                      replace F9243 := F9243.chg hc9258 (D9250).symm
                      replace hB := hB.inS hc9258 (inLow (low1 G30))
                      replace hZ := Nat.le_trans hZ hc9258.size
                      replace F9257 : Cl w9256 b28 83 [.int .i64 (((y16).length : Int)), .slice A8493 (l8492).length cap8494, .slice A9241 (l8498 ++ (([([x6396, x8491, 1] : List (Int))] : List (List (Int))))).length cap9242, .slice A6463 (l6409 ++ (([(-1)] : List (Int)))).length cap6464] := F9257
                      clear F8507
                      refine wS_end (by rfl) ?_
                      have hq : (some (l8498 ++ (([([x6396, x8491, 1] : List (Int))] : List (List (Int))))) : Option ((List (List (Int))))) = some _ := hm
                      replace hq := someE hq
                      subst hq
                      exact eX_J (fun hst => ⟨l8498 ++ (([([x6396, x8491, 1] : List (Int))] : List (List (Int)))), A9241, cap9242, fp9240, (fr8503 ++ [b9208]), rfl, Fr.of hst (by kernel_rfl), F8505, F8506, F9257, F8508, F8509, F8510, F8511, F9038, F9243, G9247, D9248, D9249, D9250, D9251, D9252, D9253, D9254, D9255, hB, hZ⟩)
                    · have hm := condF hb9207 hm
                      refine cW_skip ?_
                      have hq : (some l8498 : Option ((List (List (Int))))) = some _ := hm
                      replace hq := someE hq
                      subst hq
                      exact eX_J (fun hst => ⟨l8498, A8499, cap8500, fp8501, fr8503, rfl, Fr.of hst (by kernel_rfl), F8505, F8506, F8507, F8508, F8509, F8510, F8511, F9038, F8512, G8514, D8522, D8523, D8524, D8525, D8526, D8527, (D8521).symm, ((Dj.inr (D8523).symm)).symm, hB, hZ⟩)
                  · have hm := condF hb9201 hm
                    rewrite [hb9201]
                    refine wH_take [8, 9, 10, 11, 12, 13] [13, 12, 11, 10, 9, 8, 7, 6, 5, 4, 3, 2, 1, 0] [(76, undef), (75, undef), (74, undef), (73, undef), (72, undef), (71, undef)] (by kernel_rfl) (qT (qT (qT (qT (qT (qB (qT (qL (qB (qT (qB (qT (qL (qB (qT (qT qZ)))))))))))))))) (by kernel_rfl) ?_
                    refine wH_done (by kernel_rfl) ?_
                    refine eX_tail ?_
                    refine wS_pure 2 [(78, .bool (false)), (77, undef)] (by kernel_rfl) ?_
                    refine wS_end (by rfl) ?_
                    refine eX_then ?_
                    refine cW_prune [(2, .pointer (some ⟨b2, 0, none⟩)), (4, .slice A20 (y16).length cap21), (5, .pointer (some ⟨b28, 0, none⟩)), (6, .slice A167 (l166).length cap168), (8, .int .i64 (x6396)), (9, .slice A6482 (x6480).length cap6483), (10, .int .i64 (x8491)), (11, .slice A9036 (x9034).length cap9037), (78, .bool (false))] (by kernel_rfl) (by kernel_rfl) (fun a9259 => ?_)
                    refine cW_cond_f (by kernel_rfl) ?_
                    refine cW_skip ?_
                    have hq : (some l8498 : Option ((List (List (Int))))) = some _ := hm
                    replace hq := someE hq
                    subst hq
                    exact eX_J (fun hst => ⟨l8498, A8499, cap8500, fp8501, fr8503, rfl, Fr.of hst (by kernel_rfl), F8505, F8506, F8507, F8508, F8509, F8510, F8511, F9038, F8512, G8514, D8522, D8523, D8524, D8525, D8526, D8527, (D8521).symm, ((Dj.inr (D8523).symm)).symm, hB, hZ⟩)
                · rintro a' w9138 ⟨l9139, A9140, cap9141, fp9142, fr9144, hJ, hF9145, F9146, F9147, F9148, F9149, F9150, F9151, F9152, F9153, F9154, G9155, D9156, D9157, D9158, D9159, D9160, D9161, D9162, D9163, hB, hZ⟩
                  subst hJ
                  refine Fr.goX hF9145 (by kernel_rfl) ?_
                  refine eX_then ?_
                  refine cW_seq ?_
                  refine cW_drawnTail [] 52 (by kernel_rfl) (by kernel_rfl) (fun w9344 hc9345 => ?_)
                  replace F9146 := F9146.chg hc9345 notNil
                  replace F9147 := F9147.chg hc9345 Dj.nil
                  replace F9148 := F9148.chg hc9345 notNil
                  replace F9149 := F9149.chg hc9345 Dj.nil
                  replace F9150 := F9150.chg hc9345 Dj.nil
                  replace F9151 := F9151.chg hc9345 Dj.nil
                  replace F9152 := F9152.chg hc9345 Dj.nil
                  replace F9153 := F9153.chg hc9345 Dj.nil
                  replace F9154 := F9154.chg hc9345 Dj.nil
                  replace hB := hB.inS hc9345 inNil
                  replace hZ := Nat.le_trans hZ hc9345.size
                  have hS := Chg.refl [] w9344
                  have Z9346 := F9146
                  have Z9347 := F9147
                  have Z9348 := F9148
                  have Z9349 := F9149
                  have Z9350 := F9150
                  have Z9351 := F9151
                  have Z9352 := F9152
                  have Z9353 := F9153
                  have Z9354 := F9154
                  refine wH_take [0] [0] [(87, .slice A6482 (x6480).length cap6483)] (by kernel_rfl) (qT (qT (qT (qB (qT (qL (qB (qT (qB (qT (qL (qB (qT (qT qZ)))))))))))))) (by kernel_rfl) ?_
                  obtain ⟨x9355, hx9356, hm⟩ := bindE hm
                  refine wH_idx (i := 1) (d := 88) (T := 25) (A := A6482) (n := (x6480).length) (cap := cap6483) (kd := .i64) (m := 0) (by kernel_rfl) (qT (qT (qT (qB (qT (qL (qB (qT (qB (qT (qL (qB (qT (qT qZ)))))))))))))) (by kernel_rfl) (by kernel_rfl) sl25 (F9151.is hx9356) ?_
                  refine wH_load1 (i := 2) (d := 89) (T := 2) (ad := (elA A6482 1 (0) 0)) (v := .int .i64 (x9355)) (by kernel_rfl) (qT (qT (qT (qB (qT (qL (qB (qT (qB (qT (qL (qB (qT (qT qZ)))))))))))))) (by kernel_rfl) (by kernel_rfl) vt2 (fun W hW => Sl.cell (Z9351.chg hW Dj.nil) hx9356 0 (by rfl)) ?_
                  refine wH_take [3] [3, 2, 1, 0] [(90, .slice A9036 (x9034).length cap9037)] (by kernel_rfl) (qT (qT (qT (qB (qT (qL (qB (qT (qB (qT (qL (qB (qT (qT qZ)))))))))))))) (by kernel_rfl) ?_
                  obtain ⟨x9357, hx9358, hm⟩ := bindE hm
                  refine wH_idx (i := 4) (d := 91) (T := 25) (A := A9036) (n := (x9034).length) (cap := cap9037) (kd := .i64) (m := 0) (by kernel_rfl) (qT (qT (qT (qB (qT (qL (qB (qT (qB (qT (qL (qB (qT (qT qZ)))))))))))))) (by kernel_rfl) (by kernel_rfl) sl25 (F9153.is hx9358) ?_
                  refine wH_load1 (i := 5) (d := 92) (T := 2) (ad := (elA A9036 1 (0) 0)) (v := .int .i64 (x9357)) (by kernel_rfl) (qT (qT (qT (qB (qT (qL (qB (qT (qB (qT (qL (qB (qT (qT qZ)))))))))))))) (by kernel_rfl) (by kernel_rfl) vt2 (fun W hW => Sl.cell (Z9353.chg hW Dj.nil) hx9358 0 (by rfl)) ?_
                  refine wH_take [6, 7] [7, 6, 5, 4, 3, 2, 1, 0] [(94, .bool (x9355 != x9357)), (93, .bool (x9355 != x9357))] (by kernel_rfl) (qT (qT (qT (qB (qT (qL (qB (qT (qB (qT (qL (qB (qT (qT qZ)))))))))))))) (by kernel_rfl) ?_
                  refine wH_bool (x9355 != x9357) (fun hb9359 => ?_) (fun hb9359 => ?_)
                  · have hm := condT hb9359 hm
                    rewrite [hb9359]
                    refine wH_take [8, 9] [9, 8, 7, 6, 5, 4, 3, 2, 1, 0] [(96, .slice A6482 (x6480).length cap6483), (95, .slice A167 (l166).length cap168)] (by kernel_rfl) (qT (qT (qT (qB (qT (qL (qB (qT (qB (qT (qL (qB (qT (qT qZ)))))))))))))) (by kernel_rfl) ?_
                    obtain ⟨x9360, hx9361, hm⟩ := bindE hm
                    refine wH_idx (i := 10) (d := 97) (T := 25) (A := A6482) (n := (x6480).length) (cap := cap6483) (kd := .i64) (m := 0) (by kernel_rfl) (qT (qT (qT (qB (qT (qL (qB (qT (qB (qT (qL (qB (qT (qT qZ)))))))))))))) (by kernel_rfl) (by kernel_rfl) sl25 (F9151.is hx9361) ?_
                    refine wH_load1 (i := 11) (d := 98) (T := 2) (ad := (elA A6482 1 (0) 0)) (v := .int .i64 (x9360)) (by kernel_rfl) (qT (qT (qT (qB (qT (qL (qB (qT (qB (qT (qL (qB (qT (qT qZ)))))))))))))) (by kernel_rfl) (by kernel_rfl) vt2 (fun W hW => Sl.cell (Z9351.chg hW Dj.nil) hx9361 0 (by rfl)) ?_
                    obtain ⟨x9362, hx9363, hm⟩ := bindE hm
                    refine wH_idx (i := 12) (d := 99) (T := 31) (A := A167) (n := (l166).length) (cap := cap168) (kd := .i64) (m := x9360) (by kernel_rfl) (qT (qT (qT (qB (qT (qL (qB (qT (qB (qT (qL (qB (qT (qT qZ)))))))))))))) (by kernel_rfl) (by kernel_rfl) sl31 ((F9149.slr encII_ok).is hx9363) ?_
                    obtain ⟨A9364, cap9365, hc9367, F9366, K9368⟩ := OwR.row Z9349 encII_ok hx9363
                    have G9370 := low_inr G177
                    have Dm9371 := (F9149.dj).symm
                    refine wH_load1 (i := 13) (d := 100) (T := 32) (ad := (elA A167 1 (x9360) 0)) (v := .slice A9364 (x9362).length cap9365) (by kernel_rfl) (qT (qT (qT (qB (qT (qL (qB (qT (qB (qT (qL (qB (qT (qT qZ)))))))))))))) (by kernel_rfl) (by kernel_rfl) vt32 (fun W hW => hW.keep hc9367) ?_
                    refine wH_take [14] [14, 13, 12, 11, 10, 9, 8, 7, 6, 5, 4, 3, 2, 1, 0] [(101, .slice A6482 (x6480).length cap6483)] (by kernel_rfl) (qT (qT (qT (qB (qT (qL (qB (qT (qB (qT (qL (qB (qT (qT qZ)))))))))))))) (by kernel_rfl) ?_
                    obtain ⟨x9372, hx9373, hm⟩ := bindE hm
                    refine wH_idx (i := 15) (d := 102) (T := 25) (A := A6482) (n := (x6480).length) (cap := cap6483) (kd := .i64) (m := 1) (by kernel_rfl) (qT (qT (qT (qB (qT (qL (qB (qT (qB (qT (qL (qB (qT (qT qZ)))))))))))))) (by kernel_rfl) (by kernel_rfl) sl25 (F9151.is hx9373) ?_
                    refine wH_load1 (i := 16) (d := 103) (T := 2) (ad := (elA A6482 1 (1) 0)) (v := .int .i64 (x9372)) (by kernel_rfl) (qT (qT (qT (qB (qT (qL (qB (qT (qB (qT (qL (qB (qT (qT qZ)))))))))))))) (by kernel_rfl) (by kernel_rfl) vt2 (fun W hW => Sl.cell (Z9351.chg hW Dj.nil) hx9373 0 (by rfl)) ?_
                    obtain ⟨x9374, hx9375, hm⟩ := bindE hm
                    refine wH_idx (i := 17) (d := 104) (T := 32) (A := A9364) (n := (x9362).length) (cap := cap9365) (kd := .i64) (m := x9372) (by kernel_rfl) (qT (qT (qT (qB (qT (qL (qB (qT (qB (qT (qL (qB (qT (qT qZ)))))))))))))) (by kernel_rfl) (by kernel_rfl) sl32 (F9366.is hx9375) ?_
                    refine wH_loadA (i := 18) (d := 105) (T := 37) (ad := (elA A9364 2 (x9372) 0)) (vs := [.int .i64 (x9374.1), .int .i64 (x9374.2)]) (by kernel_rfl) (qT (qT (qT (qB (qT (qL (qB (qT (qB (qT (qL (qB (qT (qT qZ)))))))))))))) (by kernel_rfl) (by kernel_rfl) vt37 (fun W hW i u hu => Sl.cells_at (F9366.chg hW Dj.nil) hx9375 0 hu (by rfl)) ?_
                    refine wH_take [19, 20] [20, 19, 18, 17, 16, 15, 14, 13, 12, 11, 10, 9, 8, 7, 6, 5, 4, 3, 2, 1, 0] [(107, .slice A6482 (x6480).length cap6483), (106, .slice A167 (l166).length cap168)] (by kernel_rfl) (qT (qT (qT (qB (qT (qL (qB (qT (qB (qT (qL (qB (qT (qT qZ)))))))))))))) (by kernel_rfl) ?_
                    obtain ⟨x9376, hx9377, hm⟩ := bindE hm
                    refine wH_idx (i := 21) (d := 108) (T := 25) (A := A6482) (n := (x6480).length) (cap := cap6483) (kd := .i64) (m := 0) (by kernel_rfl) (qT (qT (qT (qB (qT (qL (qB (qT (qB (qT (qL (qB (qT (qT qZ)))))))))))))) (by kernel_rfl) (by kernel_rfl) sl25 (F9151.is hx9377) ?_
                    refine wH_load1 (i := 22) (d := 109) (T := 2) (ad := (elA A6482 1 (0) 0)) (v := .int .i64 (x9376)) (by kernel_rfl) (qT (qT (qT (qB (qT (qL (qB (qT (qB (qT (qL (qB (qT (qT qZ)))))))))))))) (by kernel_rfl) (by kernel_rfl) vt2 (fun W hW => Sl.cell (Z9351.chg hW Dj.nil) hx9377 0 (by rfl)) ?_
                    obtain ⟨x9378, hx9379, hm⟩ := bindE hm
                    refine wH_idx (i := 23) (d := 110) (T := 31) (A := A167) (n := (l166).length) (cap := cap168) (kd := .i64) (m := x9376) (by kernel_rfl) (qT (qT (qT (qB (qT (qL (qB (qT (qB (qT (qL (qB (qT (qT qZ)))))))))))))) (by kernel_rfl) (by kernel_rfl) sl31 ((F9149.slr encII_ok).is hx9379) ?_
                    obtain ⟨A9380, cap9381, hc9383, F9382, K9384⟩ := OwR.row Z9349 encII_ok hx9379
                    have G9386 := low_inr G177
                    have Dm9387 := (F9149.dj).symm
                    refine wH_load1 (i := 24) (d := 111) (T := 32) (ad := (elA A167 1 (x9376) 0)) (v := .slice A9380 (x9378).length cap9381) (by kernel_rfl) (qT (qT (qT (qB (qT (qL (qB (qT (qB (qT (qL (qB (qT (qT qZ)))))))))))))) (by kernel_rfl) (by kernel_rfl) vt32 (fun W hW => hW.keep hc9383) ?_
                    refine wH_take [25] [25, 24, 23, 22, 21, 20, 19, 18, 17, 16, 15, 14, 13, 12, 11, 10, 9, 8, 7, 6, 5, 4, 3, 2, 1, 0] [(112, .slice A6482 (x6480).length cap6483)] (by kernel_rfl) (qT (qT (qT (qB (qT (qL (qB (qT (qB (qT (qL (qB (qT (qT qZ)))))))))))))) (by kernel_rfl) ?_
                    obtain ⟨x9388, hx9389, hm⟩ := bindE hm
                    refine wH_idx (i := 26) (d := 113) (T := 25) (A := A6482) (n := (x6480).length) (cap := cap6483) (kd := .i64) (m := 2) (by kernel_rfl) (qT (qT (qT (qB (qT (qL (qB (qT (qB (qT (qL (qB (qT (qT qZ)))))))))))))) (by kernel_rfl) (by kernel_rfl) sl25 (F9151.is hx9389) ?_
                    refine wH_load1 (i := 27) (d := 114) (T := 2) (ad := (elA A6482 1 (2) 0)) (v := .int .i64 (x9388)) (by kernel_rfl) (qT (qT (qT (qB (qT (qL (qB (qT (qB (qT (qL (qB (qT (qT qZ)))))))))))))) (by kernel_rfl) (by kernel_rfl) vt2 (fun W hW => Sl.cell (Z9351.chg hW Dj.nil) hx9389 0 (by rfl)) ?_
                    obtain ⟨x9390, hx9391, hm⟩ := bindE hm
                    refine wH_idx (i := 28) (d := 115) (T := 32) (A := A9380) (n := (x9378).length) (cap := cap9381) (kd := .i64) (m := x9388) (by kernel_rfl) (qT (qT (qT (qB (qT (qL (qB (qT (qB (qT (qL (qB (qT (qT qZ)))))))))))))) (by kernel_rfl) (by kernel_rfl) sl32 (F9382.is hx9391) ?_
                    refine wH_loadA (i := 29) (d := 116) (T := 37) (ad := (elA A9380 2 (x9388) 0)) (vs := [.int .i64 (x9390.1), .int .i64 (x9390.2)]) (by kernel_rfl) (qT (qT (qT (qB (qT (qL (qB (qT (qB (qT (qL (qB (qT (qT qZ)))))))))))))) (by kernel_rfl) (by kernel_rfl) vt37 (fun W hW i u hu => Sl.cells_at (F9382.chg hW Dj.nil) hx9391 0 hu (by rfl)) ?_
                    refine wH_take [30, 31] [31, 30, 29, 28, 27, 26, 25, 24, 23, 22, 21, 20, 19, 18, 17, 16, 15, 14, 13, 12, 11, 10, 9, 8, 7, 6, 5, 4, 3, 2, 1, 0] [(118, .slice A9036 (x9034).length cap9037), (117, .slice A167 (l166).length cap168)] (by kernel_rfl) (qT (qT (qT (qB (qT (qL (qB (qT (qB (qT (qL (qB (qT (qT qZ)))))))))))))) (by kernel_rfl) ?_
                    obtain ⟨x9392, hx9393, hm⟩ := bindE hm
                    refine wH_idx (i := 32) (d := 119) (T := 25) (A := A9036) (n := (x9034).length) (cap := cap9037) (kd := .i64) (m := 0) (by kernel_rfl) (qT (qT (qT (qB (qT (qL (qB (qT (qB (qT (qL (qB (qT (qT qZ)))))))))))))) (by kernel_rfl) (by kernel_rfl) sl25 (F9153.is hx9393) ?_
                    refine wH_load1 (i := 33) (d := 120) (T := 2) (ad := (elA A9036 1 (0) 0)) (v := .int .i64 (x9392)) (by kernel_rfl) (qT (qT (qT (qB (qT (qL (qB (qT (qB (qT (qL (qB (qT (qT qZ)))))))))))))) (by kernel_rfl) (by kernel_rfl) vt2 (fun W hW => Sl.cell (Z9353.chg hW Dj.nil) hx9393 0 (by rfl)) ?_
                    obtain ⟨x9394, hx9395, hm⟩ := bindE hm
                    refine wH_idx (i := 34) (d := 121) (T := 31) (A := A167) (n := (l166).length) (cap := cap168) (kd := .i64) (m := x9392) (by kernel_rfl) (qT (qT (qT (qB (qT (qL (qB (qT (qB (qT (qL (qB (qT (qT qZ)))))))))))))) (by kernel_rfl) (by kernel_rfl) sl31 ((F9149.slr encII_ok).is hx9395) ?_
                    obtain ⟨A9396, cap9397, hc9399, F9398, K9400⟩ := OwR.row Z9349 encII_ok hx9395
                    have G9402 := low_inr G177
                    have Dm9403 := (F9149.dj).symm
                    refine wH_load1 (i := 35) (d := 122) (T := 32) (ad := (elA A167 1 (x9392) 0)) (v := .slice A9396 (x9394).length cap9397) (by kernel_rfl) (qT (qT (qT (qB (qT (qL (qB (qT (qB (qT (qL (qB (qT (qT qZ)))))))))))))) (by kernel_rfl) (by kernel_rfl) vt32 (fun W hW => hW.keep hc9399) ?_
                    refine wH_take [36] [36, 35, 34, 33, 32, 31, 30, 29, 28, 27, 26, 25, 24, 23, 22, 21, 20, 19, 18, 17, 16, 15, 14, 13, 12, 11, 10, 9, 8, 7, 6, 5, 4, 3, 2, 1, 0] [(123, .slice A9036 (x9034).length cap9037)] (by kernel_rfl) (qT (qT (qT (qB (qT (qL (qB (qT (qB (qT (qL (qB (qT (qT qZ)))))))))))))) (by kernel_rfl) ?_
                    obtain ⟨x9404, hx9405, hm⟩ := bindE hm
                    refine wH_idx (i := 37) (d := 124) (T := 25) (A := A9036) (n := (x9034).length) (cap := cap9037) (kd := .i64) (m := 1) (by kernel_rfl) (qT (qT (qT (qB (qT (qL (qB (qT (qB (qT (qL (qB (qT (qT qZ)))))))))))))) (by kernel_rfl) (by kernel_rfl) sl25 (F9153.is hx9405) ?_
                    refine wH_load1 (i := 38) (d := 125) (T := 2) (ad := (elA A9036 1 (1) 0)) (v := .int .i64 (x9404)) (by kernel_rfl) (qT (qT (qT (qB (qT (qL (qB (qT (qB (qT (qL (qB (qT (qT qZ)))))))))))))) (by kernel_rfl) (by kernel_rfl) vt2 (fun W hW => Sl.cell (Z9353.chg hW Dj.nil) hx9405 0 (by rfl)) ?_
                    obtain ⟨x9406, hx9407, hm⟩ := bindE hm
                    refine wH_idx (i := 39) (d := 126) (T := 32) (A := A9396) (n := (x9394).length) (cap := cap9397) (kd := .i64) (m := x9404) (by kernel_rfl) (qT (qT (qT (qB (qT (qL (qB (qT (qB (qT (qL (qB (qT (qT qZ)))))))))))))) (by kernel_rfl) (by kernel_rfl) sl32 (F9398.is hx9407) ?_
                    refine wH_loadA (i := 40) (d := 127) (T := 37) (ad := (elA A9396 2 (x9404) 0)) (vs := [.int .i64 (x9406.1), .int .i64 (x9406.2)]) (by kernel_rfl) (qT (qT (qT (qB (qT (qL (qB (qT (qB (qT (qL (qB (qT (qT qZ)))))))))))))) (by kernel_rfl) (by kernel_rfl) vt37 (fun W hW i u hu => Sl.cells_at (F9398.chg hW Dj.nil) hx9407 0 hu (by rfl)) ?_
                    refine wH_take [41, 42] [42, 41, 40, 39, 38, 37, 36, 35, 34, 33, 32, 31, 30, 29, 28, 27, 26, 25, 24, 23, 22, 21, 20, 19, 18, 17, 16, 15, 14, 13, 12, 11, 10, 9, 8, 7, 6, 5, 4, 3, 2, 1, 0] [(129, .slice A9036 (x9034).length cap9037), (128, .slice A167 (l166).length cap168)] (by kernel_rfl) (qT (qT (qT (qB (qT (qL (qB (qT (qB (qT (qL (qB (qT (qT qZ)))))))))))))) (by kernel_rfl) ?_
                    obtain ⟨x9408, hx9409, hm⟩ := bindE hm
                    refine wH_idx (i := 43) (d := 130) (T := 25) (A := A9036) (n := (x9034).length) (cap := cap9037) (kd := .i64) (m := 0) (by kernel_rfl) (qT (qT (qT (qB (qT (qL (qB (qT (qB (qT (qL (qB (qT (qT qZ)))))))))))))) (by kernel_rfl) (by kernel_rfl) sl25 (F9153.is hx9409) ?_
                    refine wH_load1 (i := 44) (d := 131) (T := 2) (ad := (elA A9036 1 (0) 0)) (v := .int .i64 (x9408)) (by kernel_rfl) (qT (qT (qT (qB (qT (qL (qB (qT (qB (qT (qL (qB (qT (qT qZ)))))))))))))) (by kernel_rfl) (by kernel_rfl) vt2 (fun W hW => Sl.cell (Z9353.chg hW Dj.nil) hx9409 0 (by rfl)) ?_
                    obtain ⟨x9410, hx9411, hm⟩ := bindE hm
                    refine wH_idx (i := 45) (d := 132) (T := 31) (A := A167) (n := (l166).length) (cap := cap168) (kd := .i64) (m := x9408) (by kernel_rfl) (qT (qT (qT (qB (qT (qL (qB (qT (qB (qT (qL (qB (qT (qT qZ)))))))))))))) (by kernel_rfl) (by kernel_rfl) sl31 ((F9149.slr encII_ok).is hx9411) ?_
                    obtain ⟨A9412, cap9413, hc9415, F9414, K9416⟩ := OwR.row Z9349 encII_ok hx9411
                    have G9418 := low_inr G177
                    have Dm9419 := (F9149.dj).symm
                    refine wH_load1 (i := 46) (d := 133) (T := 32) (ad := (elA A167 1 (x9408) 0)) (v := .slice A9412 (x9410).length cap9413) (by kernel_rfl) (qT (qT (qT (qB (qT (qL (qB (qT (qB (qT (qL (qB (qT (qT qZ)))))))))))))) (by kernel_rfl) (by kernel_rfl) vt32 (fun W hW => hW.keep hc9415) ?_
                    refine wH_take [47] [47, 46, 45, 44, 43, 42, 41, 40, 39, 38, 37, 36, 35, 34, 33, 32, 31, 30, 29, 28, 27, 26, 25, 24, 23, 22, 21, 20, 19, 18, 17, 16, 15, 14, 13, 12, 11, 10, 9, 8, 7, 6, 5, 4, 3, 2, 1, 0] [(134, .slice A9036 (x9034).length cap9037)] (by kernel_rfl) (qT (qT (qT (qB (qT (qL (qB (qT (qB (qT (qL (qB (qT (qT qZ)))))))))))))) (by kernel_rfl) ?_
                    obtain ⟨x9420, hx9421, hm⟩ := bindE hm
                    refine wH_idx (i := 48) (d := 135) (T := 25) (A := A9036) (n := (x9034).length) (cap := cap9037) (kd := .i64) (m := 2) (by kernel_rfl) (qT (qT (qT (qB (qT (qL (qB (qT (qB (qT (qL (qB (qT (qT qZ)))))))))))))) (by kernel_rfl) (by kernel_rfl) sl25 (F9153.is hx9421) ?_
                    refine wH_load1 (i := 49) (d := 136) (T := 2) (ad := (elA A9036 1 (2) 0)) (v := .int .i64 (x9420)) (by kernel_rfl) (qT (qT (qT (qB (qT (qL (qB (qT (qB (qT (qL (qB (qT (qT qZ)))))))))))))) (by kernel_rfl) (by kernel_rfl) vt2 (fun W hW => Sl.cell (Z9353.chg hW Dj.nil) hx9421 0 (by rfl)) ?_
                    obtain ⟨x9422, hx9423, hm⟩ := bindE hm
                    refine wH_idx (i := 50) (d := 137) (T := 32) (A := A9412) (n := (x9410).length) (cap := cap9413) (kd := .i64) (m := x9420) (by kernel_rfl) (qT (qT (qT (qB (qT (qL (qB (qT (qB (qT (qL (qB (qT (qT qZ)))))))))))))) (by kernel_rfl) (by kernel_rfl) sl32 (F9414.is hx9423) ?_
                    refine wH_loadA (i := 51) (d := 138) (T := 37) (ad := (elA A9412 2 (x9420) 0)) (vs := [.int .i64 (x9422.1), .int .i64 (x9422.2)]) (by kernel_rfl) (qT (qT (qT (qB (qT (qL (qB (qT (qB (qT (qL (qB (qT (qT qZ)))))))))))))) (by kernel_rfl) (by kernel_rfl) vt37 (fun W hW i u hu => Sl.cells_at (F9414.chg hW Dj.nil) hx9423 0 hu (by rfl)) ?_
                    refine wH_done (by kernel_rfl) ?_
                    refine eX_tail ?_
                    obtain ⟨y9424, hy9425, hm⟩ := bindE hm
                    refine wS_calls (d := 139) (f := 121) (vs := [.agg #[.int .i64 (x9374.1), .int .i64 (x9374.2)], .agg #[.int .i64 (x9390.1), .int .i64 (x9390.2)], .agg #[.int .i64 (x9406.1), .int .i64 (x9406.2)], .agg #[.int .i64 (x9422.1), .int .i64 (x9422.2)]]) (by kernel_rfl) ent121 (c_spec_l07Share hy9425) ?_
                    rintro _ w9426 ⟨rfl, hc9427⟩
                    replace F9146 := F9146.chg hc9427 notNil
                    replace F9147 := F9147.chg hc9427 Dj.nil
                    replace F9148 := F9148.chg hc9427 notNil
                    replace F9149 := F9149.chg hc9427 Dj.nil
                    replace F9150 := F9150.chg hc9427 Dj.nil
                    replace F9151 := F9151.chg hc9427 Dj.nil
                    replace F9152 := F9152.chg hc9427 Dj.nil
                    replace F9153 := F9153.chg hc9427 Dj.nil
                    replace F9154 := F9154.chg hc9427 Dj.nil
                    replace F9366 := F9366.chg hc9427 Dj.nil
                    replace F9382 := F9382.chg hc9427 Dj.nil
                    replace F9398 := F9398.chg hc9427 Dj.nil
                    replace F9414 := F9414.chg hc9427 Dj.nil
                    replace hB := hB.inS hc9427 inNil
                    replace hZ := Nat.le_trans hZ hc9427.size
                    refine ⟨.bool (y9424), rfl, ?_⟩
                    refine wS_pure 1 [(140, .bool (y9424))] (by kernel_rfl) ?_
                    refine wS_end (by rfl) ?_
                    refine eX_then ?_
                    refine cW_prune [(2, .pointer (some ⟨b2, 0, none⟩)), (4, .slice A20 (y16).length cap21), (5, .pointer (some ⟨b28, 0, none⟩)), (6, .slice A167 (l166).length cap168), (8, .int .i64 (x6396)), (9, .slice A6482 (x6480).length cap6483), (10, .int .i64 (x8491)), (140, .bool (y9424))] (by kernel_rfl) (by kernel_rfl) (fun a9428 => ?_)
                    refine cW_cond (t := y9424) (by kernel_rfl) (fun hb9429 => ?_) (fun hb9429 => ?_)
                    · have hm := condT hb9429 hm
                      refine cW_region ?_
                      refine wS_pure 1 [(141, .pointer (some ⟨b28, 1, none⟩))] (by kernel_rfl) ?_
                      refine wS_load1 (d := 142) (T := 40) (ad := ⟨b28, 1, none⟩) (v := .slice A8493 (l8492).length cap8494) (by kernel_rfl) vt40 ((F9148).cell 1) ?_
                      refine wS_pure 2 [(144, .int .i64 (x8491)), (143, .int .i64 (x6396))] (by kernel_rfl) ?_
                      refine wS_bs (enc := encI) ([x6396, x8491] : List (Int)) [.int .i64 (x6396), .int .i64 (x8491)] (d := 145) (t := 25) (T := 2) (n := 2) (ps := [(0, .int .i64 (x6396)), (1, .int .i64 (x8491))]) (by kernel_rfl) el25 encI_ok (by rfl) (by omega) (by omega) (by kernel_rfl) (by rfl) ?_
                      intro b9430 w9431 G9432 F9433 hc9434
                      have D9436 : Dj [b2] [b9430] := Dj.of (lt1 F9146.lt) (low1 G9432)
                      have D9437 : Dj (fp22 ++ fr25) [b9430] := Dj.of F9147.low (low1 G9432)
                      have D9438 : Dj [b28] [b9430] := Dj.of (lt1 F9148.lt) (low1 G9432)
                      have D9439 : Dj (fp169 ++ fr171) [b9430] := Dj.of F9149.low (low1 G9432)
                      have D9440 : Dj fp6462 [b9430] := Dj.of F9150.low (low1 G9432)
                      have D9441 : Dj fr25 [b9430] := Dj.of F9151.low (low1 G9432)
                      have D9442 : Dj (fp8495 ++ fr8497) [b9430] := Dj.of F9152.low (low1 G9432)
                      have D9443 : Dj fr25 [b9430] := Dj.of F9153.low (low1 G9432)
                      have D9444 : Dj (fp9142 ++ fr9144) [b9430] := Dj.of F9154.low (low1 G9432)
                      have D9445 : Dj fr171 [b9430] := Dj.of F9366.low (low1 G9432)
                      have D9446 : Dj fr171 [b9430] := Dj.of F9382.low (low1 G9432)
                      have D9447 : Dj fr171 [b9430] := Dj.of F9398.low (low1 G9432)
                      have D9448 : Dj fr171 [b9430] := Dj.of F9414.low (low1 G9432)
                      replace F9146 := F9146.chg hc9434 notNil
                      replace F9147 := F9147.chg hc9434 Dj.nil
                      replace F9148 := F9148.chg hc9434 notNil
                      replace F9149 := F9149.chg hc9434 Dj.nil
                      replace F9150 := F9150.chg hc9434 Dj.nil
                      replace F9151 := F9151.chg hc9434 Dj.nil
                      replace F9152 := F9152.chg hc9434 Dj.nil
                      replace F9153 := F9153.chg hc9434 Dj.nil
                      replace F9154 := F9154.chg hc9434 Dj.nil
                      replace F9366 := F9366.chg hc9434 Dj.nil
                      replace F9382 := F9382.chg hc9434 Dj.nil
                      replace F9398 := F9398.chg hc9434 Dj.nil
                      replace F9414 := F9414.chg hc9434 Dj.nil
                      replace hB := hB.inS hc9434 inNil
                      replace G9432 := Nat.le_trans hZ G9432
                      replace G9432 := low1 G9432
                      replace hZ := Nat.le_trans hZ hc9434.size
                      refine wS_row1 (k := 1) (enc := encI) (l := ([x6396, x8491] : List (Int))) (d := 146) (t := 40) (T := 25) (B := (some ⟨b9430, 0, none⟩)) (c := 2) (by kernel_rfl) el40 F9433 ?_
                      intro b9449 w9450 G9451 F9452 hc9453
                      have D9455 : Dj [b2] ([b9449] ++ [b9430]) := Dj.app (Dj.of (lt1 F9146.lt) (low1 G9451)) D9436
                      have D9456 : Dj (fp22 ++ fr25) ([b9449] ++ [b9430]) := Dj.app (Dj.of F9147.low (low1 G9451)) D9437
                      have D9457 : Dj [b28] ([b9449] ++ [b9430]) := Dj.app (Dj.of (lt1 F9148.lt) (low1 G9451)) D9438
                      have D9458 : Dj (fp169 ++ fr171) ([b9449] ++ [b9430]) := Dj.app (Dj.of F9149.low (low1 G9451)) D9439
                      have D9459 : Dj fp6462 ([b9449] ++ [b9430]) := Dj.app (Dj.of F9150.low (low1 G9451)) D9440
                      have D9460 : Dj fr25 ([b9449] ++ [b9430]) := Dj.app (Dj.of F9151.low (low1 G9451)) D9441
                      have D9461 : Dj (fp8495 ++ fr8497) ([b9449] ++ [b9430]) := Dj.app (Dj.of F9152.low (low1 G9451)) D9442
                      have D9462 : Dj fr25 ([b9449] ++ [b9430]) := Dj.app (Dj.of F9153.low (low1 G9451)) D9443
                      have D9463 : Dj (fp9142 ++ fr9144) ([b9449] ++ [b9430]) := Dj.app (Dj.of F9154.low (low1 G9451)) D9444
                      have D9464 : Dj fr171 ([b9449] ++ [b9430]) := Dj.app (Dj.of F9366.low (low1 G9451)) D9445
                      have D9465 : Dj fr171 ([b9449] ++ [b9430]) := Dj.app (Dj.of F9382.low (low1 G9451)) D9446
                      have D9466 : Dj fr171 ([b9449] ++ [b9430]) := Dj.app (Dj.of F9398.low (low1 G9451)) D9447
                      have D9467 : Dj fr171 ([b9449] ++ [b9430]) := Dj.app (Dj.of F9414.low (low1 G9451)) D9448
                      replace F9146 := F9146.chg hc9453 notNil
                      replace F9147 := F9147.chg hc9453 Dj.nil
                      replace F9148 := F9148.chg hc9453 notNil
                      replace F9149 := F9149.chg hc9453 Dj.nil
                      replace F9150 := F9150.chg hc9453 Dj.nil
                      replace F9151 := F9151.chg hc9453 Dj.nil
                      replace F9152 := F9152.chg hc9453 Dj.nil
                      replace F9153 := F9153.chg hc9453 Dj.nil
                      replace F9154 := F9154.chg hc9453 Dj.nil
                      replace F9366 := F9366.chg hc9453 Dj.nil
                      replace F9382 := F9382.chg hc9453 Dj.nil
                      replace F9398 := F9398.chg hc9453 Dj.nil
                      replace F9414 := F9414.chg hc9453 Dj.nil
                      replace F9433 := F9433.chg hc9453 Dj.nil
                      replace hB := hB.inS hc9453 inNil
                      replace G9451 := Nat.le_trans hZ G9451
                      replace G9451 := lowApp (low1 G9451) G9432
                      replace hZ := Nat.le_trans hZ hc9453.size
                      replace F9433 := (F9433.sl encI_ok)
                      obtain ⟨_, hk9468, hm⟩ := bindE hm
                      replace hk9468 := apE hk9468
                      refine wS_appendR (k := 1) (enc := encI) (ll := (l8492 : List (List (Int)))) (ll2 := (([([x6396, x8491] : List (Int))] : List (List (Int))) : List (List (Int)))) (d := 147) (t := 40) (T := 25) (A := A8493) (A2 := (some ⟨b9449, 0, none⟩)) (cap := cap8494) (cap2 := 1) (by kernel_rfl) el40 F9152 F9452 (by rfl) D9461 hk9468 ?_
                      intro w9469 fp9470 A9471 cap9472 F9473 hc9474 hp9475
                      have G9477 := lowApp (low_ap (low_inl G8513) hZ hp9475) (lowApp (low_inr G8513) (low_inr G9451))
                      have D9478 : Dj [b2] (fp9470 ++ (fr8497 ++ [b9430])) := Dj.app (Dj.ap (Dj.inl D8515) (lt1 F9146.lt) hp9475) (Dj.app (Dj.inr D8515) (Dj.inr D9455))
                      have D9479 : Dj (fp22 ++ fr25) (fp9470 ++ (fr8497 ++ [b9430])) := Dj.app (Dj.ap (Dj.inl D8516) F9147.low hp9475) (Dj.app (Dj.inr D8516) (Dj.inr D9456))
                      have D9480 : Dj [b28] (fp9470 ++ (fr8497 ++ [b9430])) := Dj.app (Dj.ap (Dj.inl D8517) (lt1 F9148.lt) hp9475) (Dj.app (Dj.inr D8517) (Dj.inr D9457))
                      have D9481 : Dj (fp169 ++ fr171) (fp9470 ++ (fr8497 ++ [b9430])) := Dj.app (Dj.ap (Dj.inl D8518) F9149.low hp9475) (Dj.app (Dj.inr D8518) (Dj.inr D9458))
                      have D9482 : Dj fp6462 (fp9470 ++ (fr8497 ++ [b9430])) := Dj.app (Dj.ap (Dj.inl D8519) F9150.low hp9475) (Dj.app (Dj.inr D8519) (Dj.inr D9459))
                      have D9483 : Dj fr25 (fp9470 ++ (fr8497 ++ [b9430])) := Dj.app (Dj.ap (Dj.inl D8520) F9151.low hp9475) (Dj.app (Dj.inr D8520) (Dj.inr D9460))
                      have D9484 : Dj fr25 (fp9470 ++ (fr8497 ++ [b9430])) := Dj.app (Dj.ap (Dj.inl ((Dj.inr (D8516).symm)).symm) F9153.low hp9475) (Dj.app (Dj.inr ((Dj.inr (D8516).symm)).symm) (Dj.inr D9462))
                      have D9485 : Dj (fp9142 ++ fr9144) (fp9470 ++ (fr8497 ++ [b9430])) := Dj.app (Dj.ap (Dj.inl (D9162).symm) F9154.low hp9475) (Dj.app (Dj.inr (D9162).symm) (Dj.inr D9463))
                      have D9486 : Dj fr171 (fp9470 ++ (fr8497 ++ [b9430])) := Dj.app (Dj.ap (Dj.inl ((Dj.inr (D8518).symm)).symm) F9366.low hp9475) (Dj.app (Dj.inr ((Dj.inr (D8518).symm)).symm) (Dj.inr D9464))
                      have D9487 : Dj fr171 (fp9470 ++ (fr8497 ++ [b9430])) := Dj.app (Dj.ap (Dj.inl ((Dj.inr (D8518).symm)).symm) F9382.low hp9475) (Dj.app (Dj.inr ((Dj.inr (D8518).symm)).symm) (Dj.inr D9465))
                      have D9488 : Dj fr171 (fp9470 ++ (fr8497 ++ [b9430])) := Dj.app (Dj.ap (Dj.inl ((Dj.inr (D8518).symm)).symm) F9398.low hp9475) (Dj.app (Dj.inr ((Dj.inr (D8518).symm)).symm) (Dj.inr D9466))
                      have D9489 : Dj fr171 (fp9470 ++ (fr8497 ++ [b9430])) := Dj.app (Dj.ap (Dj.inl ((Dj.inr (D8518).symm)).symm) F9414.low hp9475) (Dj.app (Dj.inr ((Dj.inr (D8518).symm)).symm) (Dj.inr D9467))
                      replace F9146 := F9146.chg hc9474 (dj1 (Dj.inl D8515))
                      replace F9147 := F9147.chg hc9474 (Dj.inl D8516)
                      replace F9148 := F9148.chg hc9474 (dj1 (Dj.inl D8517))
                      replace F9149 := F9149.chg hc9474 (Dj.inl D8518)
                      replace F9150 := F9150.chg hc9474 (Dj.inl D8519)
                      replace F9151 := F9151.chg hc9474 (Dj.inl D8520)
                      replace F9153 := F9153.chg hc9474 (Dj.inl ((Dj.inr (D8516).symm)).symm)
                      replace F9154 := F9154.chg hc9474 (Dj.inl (D9162).symm)
                      replace F9366 := F9366.chg hc9474 (Dj.inl ((Dj.inr (D8518).symm)).symm)
                      replace F9382 := F9382.chg hc9474 (Dj.inl ((Dj.inr (D8518).symm)).symm)
                      replace F9398 := F9398.chg hc9474 (Dj.inl ((Dj.inr (D8518).symm)).symm)
                      replace F9414 := F9414.chg hc9474 (Dj.inl ((Dj.inr (D8518).symm)).symm)
                      replace hB := hB.inS hc9474 (memS_inl (inLow G8513))
                      replace hZ := Nat.le_trans hZ hc9474.size
                      refine wS_pure 1 [(148, .pointer (some ⟨b28, 1, none⟩))] (by kernel_rfl) ?_
                      refine wS_store (T := 40) (g := b28) (o := 1) (ad := ⟨b28, 1, none⟩) (v := .slice A9471 (l8492 ++ (([([x6396, x8491] : List (Int))] : List (List (Int))))).length cap9472) (vs := [.slice A9471 (l8492 ++ (([([x6396, x8491] : List (Int))] : List (List (Int))))).length cap9472]) (by kernel_rfl) (by rfl) sz40 (by rfl) (by rfl) F9148 (by simp only [List.length_cons, List.length_nil]; omega) ?_
                      intro w9490 F9491 hc9492
                      replace F9146 := F9146.chg hc9492 (dj1 D34)
                      replace F9147 := F9147.chg hc9492 D35
                      replace F9149 := F9149.chg hc9492 (D180).symm
                      replace F9150 := F9150.chg hc9492 (D6472).symm
                      replace F9151 := F9151.chg hc9492 ((Dj.inr (D35).symm)).symm
                      replace F9153 := F9153.chg hc9492 ((Dj.inr (D35).symm)).symm
                      replace F9154 := F9154.chg hc9492 (D9158).symm
                      replace F9366 := F9366.chg hc9492 ((Dj.inr D180)).symm
                      replace F9382 := F9382.chg hc9492 ((Dj.inr D180)).symm
                      replace F9398 := F9398.chg hc9492 ((Dj.inr D180)).symm
                      replace F9414 := F9414.chg hc9492 ((Dj.inr D180)).symm
                      replace F9473 := F9473.chg hc9492 (D9480).symm
                      replace hB := hB.inS hc9492 (inLow (low1 G30))
                      replace hZ := Nat.le_trans hZ hc9492.size
                      replace F9491 : Cl w9490 b28 83 [.int .i64 (((y16).length : Int)), .slice A9471 (l8492 ++ (([([x6396, x8491] : List (Int))] : List (List (Int))))).length cap9472, .slice A9140 (l9139).length cap9141, .slice A6463 (l6409 ++ (([(-1)] : List (Int)))).length cap6464] := F9491
                      clear F9148
                      refine wS_end (by rfl) ?_
                      have hq : (some ((l8492 ++ (([([x6396, x8491] : List (Int))] : List (List (Int)))), l9139)) : Option ((List (List (Int))) × (List (List (Int))))) = some _ := hm
                      replace hq := someE hq
                      subst hq
                      exact eX_J (fun hst => ⟨l8492 ++ (([([x6396, x8491] : List (Int))] : List (List (Int)))), A9471, cap9472, fp9470, (fr8497 ++ [b9430]), l9139, A9140, cap9141, fp9142, fr9144, rfl, Fr.of hst (by kernel_rfl), F9146, F9147, F9491, F9149, F9150, F9151, F9473, F9154, G9477, G9155, D9478, D9479, D9480, D9481, D9482, D9483, D9485, D9156, D9157, D9158, D9159, D9160, D9161, hB, hZ⟩)
                    · have hm := condF hb9429 hm
                      refine cW_skip ?_
                      have hq : (some ((l8492, l9139)) : Option ((List (List (Int))) × (List (List (Int))))) = some _ := hm
                      replace hq := someE hq
                      subst hq
                      exact eX_J (fun hst => ⟨l8492, A8493, cap8494, fp8495, fr8497, l9139, A9140, cap9141, fp9142, fr9144, rfl, Fr.of hst (by kernel_rfl), F9146, F9147, F9148, F9149, F9150, F9151, F9152, F9154, G8513, G9155, D8515, D8516, D8517, D8518, D8519, D8520, (D9162).symm, D9156, D9157, D9158, D9159, D9160, D9161, hB, hZ⟩)
                  · have hm := condF hb9359 hm
                    rewrite [hb9359]
                    refine wH_take [8, 9, 10, 11, 12, 13, 14, 15, 16, 17, 18, 19, 20, 21, 22, 23, 24, 25, 26, 27, 28, 29, 30, 31, 32, 33, 34, 35, 36, 37, 38, 39, 40, 41, 42, 43, 44, 45, 46, 47, 48, 49, 50, 51] [51, 50, 49, 48, 47, 46, 45, 44, 43, 42, 41, 40, 39, 38, 37, 36, 35, 34, 33, 32, 31, 30, 29, 28, 27, 26, 25, 24, 23, 22, 21, 20, 19, 18, 17, 16, 15, 14, 13, 12, 11, 10, 9, 8, 7, 6, 5, 4, 3, 2, 1, 0] [(138, undef), (137, undef), (136, undef), (135, undef), (134, undef), (133, undef), (132, undef), (131, undef), (130, undef), (129, undef), (128, undef), (127, undef), (126, undef), (125, undef), (124, undef), (123, undef), (122, undef), (121, undef), (120, undef), (119, undef), (118, undef), (117, undef), (116, undef), (115, undef), (114, undef), (113, undef), (112, undef), (111, undef), (110, undef), (109, undef), (108, undef), (107, undef), (106, undef), (105, undef), (104, undef), (103, undef), (102, undef), (101, undef), (100, undef), (99, undef), (98, undef), (97, undef), (96, undef), (95, undef)] (by kernel_rfl) (qT (qT (qT (qB (qT (qL (qB (qT (qB (qT (qL (qB (qT (qT qZ)))))))))))))) (by kernel_rfl) ?_
                    refine wH_done (by kernel_rfl) ?_
                    refine eX_tail ?_
                    refine wS_pure 2 [(140, .bool (false)), (139, undef)] (by kernel_rfl) ?_
                    refine wS_end (by rfl) ?_
                    refine eX_then ?_
                    refine cW_prune [(2, .pointer (some ⟨b2, 0, none⟩)), (4, .slice A20 (y16).length cap21), (5, .pointer (some ⟨b28, 0, none⟩)), (6, .slice A167 (l166).length cap168), (8, .int .i64 (x6396)), (9, .slice A6482 (x6480).length cap6483), (10, .int .i64 (x8491)), (140, .bool (false))] (by kernel_rfl) (by kernel_rfl) (fun a9493 => ?_)
                    refine cW_cond_f (by kernel_rfl) ?_
                    refine cW_skip ?_
                    have hq : (some ((l8492, l9139)) : Option ((List (List (Int))) × (List (List (Int))))) = some _ := hm
                    replace hq := someE hq
                    subst hq
                    exact eX_J (fun hst => ⟨l8492, A8493, cap8494, fp8495, fr8497, l9139, A9140, cap9141, fp9142, fr9144, rfl, Fr.of hst (by kernel_rfl), F9146, F9147, F9148, F9149, F9150, F9151, F9152, F9154, G8513, G9155, D8515, D8516, D8517, D8518, D8519, D8520, (D9162).symm, D9156, D9157, D9158, D9159, D9160, D9161, hB, hZ⟩)
              · rintro a' w8995 ⟨l8996, A8997, cap8998, fp8999, fr9001, l9002, A9003, cap9004, fp9005, fr9007, hJ, hF9008, F9009, F9010, F9011, F9012, F9013, F9014, F9015, F9016, G9017, G9018, D9019, D9020, D9021, D9022, D9023, D9024, D9025, D9026, D9027, D9028, D9029, D9030, D9031, hB, hZ⟩
                subst hJ
                refine Fr.goX hF9008 (by kernel_rfl) ?_
                refine eX_block ?_
                refine eX_then ?_
                refine cW_region ?_
                refine wS_pure 3 [(10, .int .i64 (wr (x8491 + 1))), (58, .int .i64 (wr (x8491 + 1))), (57, .int .i64 (x8491))] (by kernel_rfl) ?_
                refine wS_end (by rfl) ?_
                have hq : (some (Ctl.next ((wr (x8491 + 1), l8996, l9002))) : Option (Ctl (Int × (List (List (Int))) × (List (List (Int)))) ((List (List (Int))) × (List (List (Int)))))) = some _ := hm
                replace hq := someE hq
                subst hq
                exact eX_next hx8533 (fun hst => ⟨wr (x8491 + 1), l8996, A8997, cap8998, fp8999, fr9001, l9002, A9003, cap9004, fp9005, fr9007, rfl, Fr.of hst (by kernel_rfl), F9009, F9010, F9011, F9012, F9013, F9014, F9015, F9016, G9017, G9018, D9019, D9020, D9021, D9022, D9023, D9024, D9025, D9026, D9027, D9028, D9029, D9030, D9031, hB, hZ⟩)
            · have hm := condF hb8534 hm
              refine cW_exit ?_
              refine eX_then_exit ?_
              have hq : (some (Ctl.out ((l8492, l8498))) : Option (Ctl (Int × (List (List (Int))) × (List (List (Int)))) ((List (List (Int))) × (List (List (Int)))))) = some _ := hm
              replace hq := someE hq
              subst hq
              refine eX_outX hx8533 (fun hr9494 => ?_)
              replace hr9494 := hr9494.symm
              subst hr9494
              refine eX_block_hit ?_
              exact eX_J (fun hst => ⟨l8492, A8493, cap8494, fp8495, fr8497, l8498, A8499, cap8500, fp8501, fr8503, rfl, Fr.of hst (by kernel_rfl), F8505, F8506, F8507, F8508, F8509, F8511, F8512, G8513, G8514, D8515, D8516, D8517, D8518, D8519, D8521, D8522, D8523, D8524, D8525, D8526, hB, hZ⟩)
          · rintro a' w8456 ⟨l8457, A8458, cap8459, fp8460, fr8462, l8463, A8464, cap8465, fp8466, fr8468, hJ, hF8469, F8470, F8471, F8472, F8473, F8474, F8475, F8476, G8477, G8478, D8479, D8480, D8481, D8482, D8483, D8484, D8485, D8486, D8487, D8488, D8489, hB, hZ⟩
            subst hJ
            refine Fr.goX hF8469 (by kernel_rfl) ?_
            refine eX_block ?_
            refine eX_then ?_
            refine cW_region ?_
            refine wS_pure 3 [(8, .int .i64 (wr (x6396 + 1))), (41, .int .i64 (wr (x6396 + 1))), (40, .int .i64 (x6396))] (by kernel_rfl) ?_
            refine wS_end (by rfl) ?_
            have hq : (some (Ctl.next ((wr (x6396 + 1), l8457, l8463, l6409 ++ (([(-1)] : List (Int)))))) : Option (Ctl (Int × (List (List (Int))) × (List (List (Int))) × (List (Int))) ((List (List (Int))) × (List (List (Int))) × (List (Int))))) = some _ := hm
            replace hq := someE hq
            subst hq
            exact eX_next hx6445 (fun hst => ⟨wr (x6396 + 1), l8457, A8458, cap8459, fp8460, fr8462, l8463, A8464, cap8465, fp8466, fr8468, l6409 ++ (([(-1)] : List (Int))), A6463, cap6464, fp6462, rfl, Fr.of hst (by kernel_rfl), F8470, F8471, F8472, F8473, F8475, F8476, F8474, G8477, G8478, G6469, D8479, D8480, D8481, D8482, D8484, D8483, D8485, D8486, D8487, D8488, D8489, D6470, D6471, D6472, D6473, hB, hZ⟩)
        · have hm := condF hb6446 hm
          refine cW_exit ?_
          refine eX_then_exit ?_
          have hq : (some (Ctl.out ((l6397, l6403, l6409))) : Option (Ctl (Int × (List (List (Int))) × (List (List (Int))) × (List (Int))) ((List (List (Int))) × (List (List (Int))) × (List (Int))))) = some _ := hm
          replace hq := someE hq
          subst hq
          refine eX_outX hx6445 (fun hr9495 => ?_)
          replace hr9495 := hr9495.symm
          subst hr9495
          refine eX_block_hit ?_
          exact eX_J (fun hst => ⟨l6397, A6398, cap6399, fp6400, fr6402, l6403, A6404, cap6405, fp6406, fr6408, l6409, A6410, cap6411, fp6412, rfl, Fr.of hst (by kernel_rfl), F6415, F6417, F6419, F6420, F6421, G6422, G6423, G6424, D6425, D6427, D6429, D6430, D6431, D6433, D6435, D6436, D6438, hB, hZ⟩)
      · rintro a' w6359 ⟨l6360, A6361, cap6362, fp6363, fr6365, l6366, A6367, cap6368, fp6369, fr6371, l6372, A6373, cap6374, fp6375, hJ, hF6377, F6378, F6379, F6380, F6381, F6382, G6383, G6384, G6385, D6386, D6387, D6388, D6389, D6390, D6391, D6392, D6393, D6394, hB, hZ⟩
        subst hJ
        refine Fr.goX hF6377 (by kernel_rfl) ?_
        refine eX_then ?_
        refine cW_seq ?_
        refine cW_seq ?_
        refine cW_region ?_
        obtain ⟨y9496, hy9497, hm⟩ := bindE hm
        refine wS_calls (d := 149) (f := 122) (vs := [.pointer (some ⟨b28, 0, none⟩)]) (by kernel_rfl) ent122 (c_spec_l07Is_bimplWiring hy9497 (F6380.slr encI_ok) (F6381.slr encI_ok) (F6382.sl encI_ok) F6379) ?_
        rintro _ w9498 ⟨rfl, hc9499⟩
        replace F6378 := F6378.chg hc9499 notNil
        replace F6379 := F6379.chg hc9499 notNil
        replace F6380 := F6380.chg hc9499 Dj.nil
        replace F6381 := F6381.chg hc9499 Dj.nil
        replace F6382 := F6382.chg hc9499 Dj.nil
        replace hB := hB.inS hc9499 inNil
        replace hZ := Nat.le_trans hZ hc9499.size
        refine ⟨.bool (y9496), rfl, ?_⟩
        refine wS_pure 1 [(150, .bool (!y9496))] (by kernel_rfl) ?_
        refine wS_end (by rfl) ?_
        refine eX_then ?_
        refine cW_cond (t := !y9496) (by kernel_rfl) (fun hb9500 => ?_) (fun hb9500 => ?_)
        · have hm := condT hb9500 hm
          refine cW_seq ?_
          refine cW_region ?_
          refine wS_pure 1 [(151, .agg #[.int .i64 (0), .slice none 0 0, .slice none 0 0, .slice none 0 0])] (by kernel_rfl) ?_
          refine wS_store (T := 83) (g := b2) (o := 0) (ad := ⟨b2, 0, none⟩) (v := .agg #[.int .i64 (0), .slice none 0 0, .slice none 0 0, .slice none 0 0]) (vs := [.int .i64 (0), .slice none 0 0, .slice none 0 0, .slice none 0 0]) (by kernel_rfl) (by rfl) sz83 (by rfl) (by rfl) F6378 (by simp only [List.length_cons, List.length_nil]; omega) ?_
          intro w9501 F9502 hc9503
          replace F6379 := F6379.chg hc9503 (dj1 (D34).symm)
          replace F6380 := F6380.chg hc9503 (D6386).symm
          replace F6381 := F6381.chg hc9503 (D6390).symm
          replace F6382 := F6382.chg hc9503 (D6393).symm
          replace hB := hB.inS hc9503 (inLow (low1 G4))
          replace hZ := Nat.le_trans hZ hc9503.size
          replace F9502 : Cl w9501 b2 83 [.int .i64 (0), .slice none 0 0, .slice none 0 0, .slice none 0 0] := F9502
          clear F6378
          refine wS_pure 1 [(3, .bool (false))] (by kernel_rfl) ?_
          refine wS_end (by rfl) ?_
          refine eX_then ?_
          refine cW_ret ?_
          refine eX_then_ret ?_
          have hq : (some (((0, [], [], []), false)) : Option ((Int × (List (List (Int))) × (List (List (Int))) × (List (Int))) × (Bool))) = some _ := hm
          replace hq := someE hq
          subst hq
          refine eX_ret (vs := [.agg #[.int .i64 (0), .slice none 0 0, .slice none 0 0, .slice none 0 0], .bool (false)]) [.cell 2 83, .tmp 3] (by rfl) ⟨⟨⟨b2, 0, none⟩, by kernel_rfl, run_loadVarA (vs := [.int .i64 (0), .slice none 0 0, .slice none 0 0, .slice none 0 0]) vt83 (fun i u hu => by exact box_cells F9502 0 hu (by rfl))⟩, ⟨by (show lkE _ _ _ = _); kernel_rfl, trivial⟩⟩ ?_
          exact ⟨none, 0, [], [], none, 0, [], [], none, 0, [], rfl, OwR.nil _, (lowApp lowNil lowNil), OwR.nil _, (lowApp lowNil lowNil), Ow.nil _, lowNil, (Dj.app Dj.nil Dj.nil), Dj.nil, Dj.nil, hB⟩
        · have hm := condF hb9500 hm
          refine cW_skip ?_
          refine eX_then ?_
          refine cW_seq ?_
          refine cW_region ?_
          refine wS_loadA (d := 152) (T := 83) (ad := ⟨b28, 0, none⟩) (vs := [.int .i64 (((y16).length : Int)), .slice A6361 (l6360).length cap6362, .slice A6367 (l6366).length cap6368, .slice A6373 (l6372).length cap6374]) (by kernel_rfl) vt83 (fun i u hu => box_cells F6379 0 hu (by rfl)) ?_
          refine wS_store (T := 83) (g := b2) (o := 0) (ad := ⟨b2, 0, none⟩) (v := .agg #[.int .i64 (((y16).length : Int)), .slice A6361 (l6360).length cap6362, .slice A6367 (l6366).length cap6368, .slice A6373 (l6372).length cap6374]) (vs := [.int .i64 (((y16).length : Int)), .slice A6361 (l6360).length cap6362, .slice A6367 (l6366).length cap6368, .slice A6373 (l6372).length cap6374]) (by kernel_rfl) (by rfl) sz83 (by rfl) (by rfl) F6378 (by simp only [List.length_cons, List.length_nil]; omega) ?_
          intro w9504 F9505 hc9506
          replace F6379 := F6379.chg hc9506 (dj1 (D34).symm)
          replace F6380 := F6380.chg hc9506 (D6386).symm
          replace F6381 := F6381.chg hc9506 (D6390).symm
          replace F6382 := F6382.chg hc9506 (D6393).symm
          replace hB := hB.inS hc9506 (inLow (low1 G4))
          replace hZ := Nat.le_trans hZ hc9506.size
          replace F9505 : Cl w9504 b2 83 [.int .i64 (((y16).length : Int)), .slice A6361 (l6360).length cap6362, .slice A6367 (l6366).length cap6368, .slice A6373 (l6372).length cap6374] := F9505
          clear F6378
          refine wS_pure 1 [(3, .bool (true))] (by kernel_rfl) ?_
          refine wS_end (by rfl) ?_
          refine eX_then ?_
          refine cW_ret ?_
          have hq : (some (((((y16).length : Int), l6360, l6366, l6372), true)) : Option ((Int × (List (List (Int))) × (List (List (Int))) × (List (Int))) × (Bool))) = some _ := hm
          replace hq := someE hq
          subst hq
          refine eX_ret (vs := [.agg #[.int .i64 (((y16).length : Int)), .slice A6361 (l6360).length cap6362, .slice A6367 (l6366).length cap6368, .slice A6373 (l6372).length cap6374], .bool (true)]) [.cell 2 83, .tmp 3] (by rfl) ⟨⟨⟨b2, 0, none⟩, by kernel_rfl, run_loadVarA (vs := [.int .i64 (((y16).length : Int)), .slice A6361 (l6360).length cap6362, .slice A6367 (l6366).length cap6368, .slice A6373 (l6372).length cap6374]) vt83 (fun i u hu => by exact box_cells F9505 0 hu (by rfl))⟩, ⟨by (show lkE _ _ _ = _); kernel_rfl, trivial⟩⟩ ?_
          exact ⟨A6361, cap6362, fp6363, fr6365, A6367, cap6368, fp6369, fr6371, A6373, cap6374, fp6375, rfl, F6380, G6383, F6381, G6384, F6382, G6385, (D6388).symm, (D6389).symm, (D6392).symm, hB⟩

set_option maxRecDepth 100000 in
/-- laws.toPointSS -/
theorem c_laws_toPointSS {w0 : World} {l0 : List (List (Int × Int))} {A0 : Option Addr} {cap0 : Nat} {fp0 : List Nat} {r : (List (List (Int × Int)))} (hm : m_laws_toPointSS l0 = some r) (F0 : SlR 2 encII w0 fp0 A0 l0) :
    Calls Try.prog 59 #[.slice A0 (l0).length cap0] w0 fun e w' => ∃ A100 cap100 fp100 fr100, e = .returned (.slice A100 (r).length cap100) ∧ OwR 2 encII 32 37 w' fp100 fr100 A100 cap100 r ∧ (∀ x ∈ fp100 ++ fr100, w0.heap.size ≤ x) ∧ Chg [] w0 w' := by
  have L0 := F0.low
  have hB : Chg [] w0 w0 := Chg.refl _ _
  have hZ := Nat.le_refl w0.heap.size
  unfold m_laws_toPointSS at hm
  refine enterE (N := 23) Try.func59 (by rfl) Try.ntmps59 (by simp) [(0, .slice A0 (l0).length cap0)] (by rfl) (by kernel_rfl) (fun a => ?_)
  refine cW_seq ?_
  refine cW_region ?_
  refine wS_pure 1 [(2, .slice none 0 0)] (by kernel_rfl) ?_
  refine wS_end (by rfl) ?_
  refine eX_then ?_
  refine cW_seq ?_
  refine cW_region ?_
  refine wS_pure 2 [(6, .int .i64 (((l0).length : Int))), (5, .slice A0 (l0).length cap0)] (by kernel_rfl) ?_
  obtain ⟨_, hk2, hm⟩ := bindE hm
  replace hk2 := mkE hk2
  refine wS_makeR (T2 := 37) (k := 2) (enc := encII) (d := 7) (t := 31) (T := 32) (k1 := .i64) (k2 := .i64) (m := ((l0).length : Int)) (by kernel_rfl) el31 hk2.1 hk2.2 ?_
  intro b3 w4 G5 F6 hc7
  replace F0 := F0.chg hc7 Dj.nil
  replace hB := hB.inS hc7 inNil
  replace G5 := Nat.le_trans hZ G5
  replace G5 := low1 G5
  replace hZ := Nat.le_trans hZ hc7.size
  replace G5 := lowApp G5 lowNil
  refine wS_pure 1 [(3, .slice (some ⟨b3, 0, none⟩) (List.replicate (Int.toNat (((l0).length : Int))) ([] : List (Int × Int))).length (Int.toNat (((l0).length : Int))))] (by kernel_rfl) ?_
  refine wS_end (by rfl) ?_
  refine eX_then ?_
  refine cW_seq ?_
  refine cW_seq ?_
  refine cW_region ?_
  refine wS_pure 1 [(4, .int .i64 (0))] (by kernel_rfl) ?_
  refine wS_end (by rfl) ?_
  refine eX_then ?_
  obtain ⟨r109, hr110, hm⟩ := bindE hm
  have hm111 := hm
  refine cW_cut (fun a' w' => ∃ l88 : List (List (Int × Int)), ∃ A89 : Option Addr, ∃ cap90 : Nat, ∃ fp91 : List Nat, ∃ fr93 : List Nat, l88 = r109 ∧ Fr 23 [(3, .slice A89 (l88).length cap90)] a' ∧ OwR 2 encII 32 37 w' fp91 fr93 A89 cap90 l88 ∧ (∀ x ∈ (fp91 ++ fr93), w0.heap.size ≤ x) ∧ Chg [] w0 w' ∧ w0.heap.size ≤ w'.heap.size) ?_ ?_
  · refine cW_block ?_
    refine cW_loop _ (fun (s112 : (List (List (Int × Int))) × Int) a' w' => ∃ l98 : List (List (Int × Int)), ∃ A99 : Option Addr, ∃ cap100 : Nat, ∃ fp101 : List Nat, ∃ fr103 : List Nat, ∃ x104 : Int, (l98, x104) = s112 ∧ Fr 23 [(0, .slice A0 (l0).length cap0), (3, .slice A99 (l98).length cap100), (4, .int .i64 (x104))] a' ∧ SlR 2 encII w' fp0 A0 l0 ∧ OwR 2 encII 32 37 w' fp101 fr103 A99 cap100 l98 ∧ (∀ x ∈ (fp101 ++ fr103), w0.heap.size ≤ x) ∧ Chg [] w0 w' ∧ w0.heap.size ≤ w'.heap.size) hr110 (fun hst => ⟨List.replicate (Int.toNat (((l0).length : Int))) ([] : List (Int × Int)), (some ⟨b3, 0, none⟩), (Int.toNat (((l0).length : Int))), [b3], [], 0, rfl, Fr.of hst (by kernel_rfl), F0, F6, G5, hB, hZ⟩) ?_
    rintro _ c113 a' w97 ⟨l98, A99, cap100, fp101, fr103, x104, rfl, hF105, F106, F107, G108, hB, hZ⟩ hx114
    refine Fr.goOn hF105 (by kernel_rfl) ?_
    have hm := hx114
    unfold m_laws_toPointSS_s1 at hm
    refine cW_seq ?_
    refine cW_seq ?_
    refine cW_region ?_
    refine wS_pure 4 [(11, .bool (decide (x104 < (((l0).length : Int))))), (10, .int .i64 (((l0).length : Int))), (9, .slice A0 (l0).length cap0), (8, .int .i64 (x104))] (by kernel_rfl) ?_
    refine wS_end (by rfl) ?_
    refine eX_then ?_
    refine cW_cond (t := decide (x104 < (((l0).length : Int)))) (by kernel_rfl) (fun hb115 => ?_) (fun hb115 => ?_)
    · have hm := condT hb115 hm
      refine cW_skip ?_
      refine eX_then ?_
      refine cW_seq ?_
      refine cW_block ?_
      refine cW_region ?_
      refine wS_pure 4 [(17, .int .i64 (x104)), (16, .slice A0 (l0).length cap0), (15, .int .i64 (x104)), (14, .slice A99 (l98).length cap100)] (by kernel_rfl) ?_
      obtain ⟨x116, hx117, hm⟩ := bindE hm
      refine wS_idx (d := 18) (T := 80) (A := A0) (n := (l0).length) (cap := cap0) (kd := .i64) (m := x104) (by kernel_rfl) sl80 (F106.is hx117) ?_
      obtain ⟨A118, cap119, hc121, F120, K122⟩ := SlR.row F106 hx117
      refine wS_load1 (d := 19) (T := 51) (ad := (elA A0 1 (x104) 0)) (v := .slice A118 (x116).length cap119) (by kernel_rfl) vt51 hc121 ?_
      obtain ⟨y124, hy125, hm⟩ := bindE hm
      refine wS_calls (d := 20) (f := 31) (vs := [.slice A118 (x116).length cap119]) (by kernel_rfl) ent31 (c_laws_toPointS hy125 F120) ?_
      rintro _ w126 ⟨A128, cap129, fp130, rfl, F131, G132, hc127⟩
      have D135 : Dj (fp101 ++ fr103) fp130 := Dj.of F107.low G132
      replace F106 := F106.chg hc127 Dj.nil
      replace F107 := F107.chg hc127 Dj.nil
      replace F120 := F120.chg hc127 Dj.nil
      replace hB := hB.inS hc127 inNil
      replace G132 := low_le hZ G132
      replace hZ := Nat.le_trans hZ hc127.size
      refine ⟨.slice A128 (y124).length cap129, rfl, ?_⟩
      obtain ⟨x136, hx137, hm⟩ := bindE hm
      refine wS_idx (d := 21) (T := 31) (A := A99) (n := (l98).length) (cap := cap100) (kd := .i64) (m := x104) (by kernel_rfl) sl31 ((F107.slr encII_ok).is hx137) ?_
      refine wS_storeRow (k := 2) (enc := encII) (x := x136) (l := y124) (T := 32) (U := 32) (cap := cap100) (c := cap129) (A := A99) (B := A128) (m := x104) (by kernel_rfl) sz32 F107 F131 D135 hx137 ?_
      intro w141 F142 hc143
      have G145 := lowApp (low_inl G108) (lowApp (low_inr G108) G132)
      have Dm146 := Dj.inl D135.symm
      replace F106 := F106.chg hc143 (Dj.inl (Dj.of L0 G108))
      replace F120 := F120.chg hc143 (Dj.inl (Dj.of L0 G108))
      replace F131 := F131.chg hc143 (Dj.inl (D135).symm)
      replace hB := hB.inS hc143 (memS_inl (inLow G108))
      replace hZ := Nat.le_trans hZ hc143.size
      replace F131 := (F131.sl encII_ok)
      rewrite [show (l98).length = (l98.set (Int.toNat x104) y124).length from (List.length_set ..).symm]
      refine wS_end (by rfl) ?_
      refine eX_block ?_
      refine eX_then ?_
      refine cW_region ?_
      refine wS_pure 3 [(4, .int .i64 (wr (x104 + 1))), (13, .int .i64 (wr (x104 + 1))), (12, .int .i64 (x104))] (by kernel_rfl) ?_
      refine wS_end (by rfl) ?_
      have hq : (some (Ctl.next ((l98.set (Int.toNat x104) y124, wr (x104 + 1)))) : Option (Ctl ((List (List (Int × Int))) × Int) ((List (List (Int × Int)))))) = some _ := hm
      replace hq := someE hq
      subst hq
      exact eX_next hx114 (fun hst => ⟨l98.set (Int.toNat x104) y124, A99, cap100, fp101, (fr103 ++ fp130), wr (x104 + 1), rfl, Fr.of hst (by kernel_rfl), F106, F142, G145, hB, hZ⟩)
    · have hm := condF hb115 hm
      refine cW_exit ?_
      refine eX_then_exit ?_
      have hq : (some (Ctl.out l98) : Option (Ctl ((List (List (Int × Int))) × Int) ((List (List (Int × Int)))))) = some _ := hm
      replace hq := someE hq
      subst hq
      refine eX_outX hx114 (fun hr147 => ?_)
      replace hr147 := hr147.symm
      subst hr147
      refine eX_block_hit ?_
      exact eX_J (fun hst => ⟨l98, A99, cap100, fp101, fr103, rfl, Fr.of hst (by kernel_rfl), F107, G108, hB, hZ⟩)
  · rintro a' w87 ⟨l88, A89, cap90, fp91, fr93, hJ, hF94, F95, G96, hB, hZ⟩
    subst hJ
    refine Fr.goX hF94 (by kernel_rfl) ?_
    refine eX_then ?_
    refine cW_seq ?_
    refine cW_region ?_
    refine wS_pure 2 [(2, .slice A89 (l88).length cap90), (22, .slice A89 (l88).length cap90)] (by kernel_rfl) ?_
    refine wS_end (by rfl) ?_
    refine eX_then ?_
    refine cW_ret ?_
    have hq : (some l88 : Option ((List (List (Int × Int))))) = some _ := hm
    replace hq := someE hq
    subst hq
    refine eX_ret (vs := [.slice A89 (l88).length cap90]) [.tmp 2] (by rfl) ⟨by (show lkE _ _ _ = _); kernel_rfl, trivial⟩ ?_
    exact ⟨A89, cap90, fp91, fr93, rfl, F95, G96, hB⟩

set_option maxRecDepth 100000 in
/-- impl.pathsOk$1 -/
theorem c_impl_pathsOk_1 {w0 : World} {l0 : List (Int × Int)} {A0 : Option Addr} {cap0 : Nat} {fp0 : List Nat} {r : (Bool)} (hm : m_impl_pathsOk_1 l0 = some r) (F0 : Sl 2 encII w0 fp0 A0 l0) :
    Calls Try.prog 178 #[.slice A0 (l0).length cap0] w0 fun e w' => e = .returned (.bool (r)) ∧ Chg [] w0 w' := by
  have L0 := F0.low
  have hB : Chg [] w0 w0 := Chg.refl _ _
  have hZ := Nat.le_refl w0.heap.size
  unfold m_impl_pathsOk_1 at hm
  refine enterE (N := 11) Try.func178 (by rfl) Try.ntmps178 (by simp) [(0, .slice A0 (l0).length cap0)] (by rfl) (by kernel_rfl) (fun a => ?_)
  refine cW_seq ?_
  refine cW_region ?_
  refine wS_pure 1 [(2, .bool (false))] (by kernel_rfl) ?_
  refine wS_end (by rfl) ?_
  refine eX_then ?_
  refine cW_seq ?_
  refine cW_region ?_
  refine wS_pure 4 [(6, .bool (decide ((((l0).length : Int)) < 2))), (5, .bool (decide ((((l0).length : Int)) < 2))), (4, .int .i64 (((l0).length : Int))), (3, .slice A0 (l0).length cap0)] (by kernel_rfl) ?_
  refine wS_bool (decide ((((l0).length : Int)) < 2)) (fun hb2 => ?_) (fun hb2 => ?_)
  · have hm := condT hb2 hm
    rewrite [hb2]
    refine wS_pure 5 [(2, .bool (true)), (10, .bool (true)), (9, undef), (8, undef), (7, undef)] (by kernel_rfl) ?_
    refine wS_end (by rfl) ?_
    refine eX_then ?_
    refine cW_ret ?_
    have hq : (some true : Option ((Bool))) = some _ := hm
    replace hq := someE hq
    subst hq
    refine eX_ret (vs := [.bool (true)]) [.tmp 2] (by rfl) ⟨by (show lkE _ _ _ = _); kernel_rfl, trivial⟩ ?_
    exact ⟨rfl, hB⟩
  · have hm := condF hb2 hm
    rewrite [hb2]
    refine wS_pure 1 [(7, .slice A0 (l0).length cap0)] (by kernel_rfl) ?_
    obtain ⟨y3, hy4, hm⟩ := bindE hm
    refine wS_calls (d := 8) (f := 138) (vs := [.slice A0 (l0).length cap0]) (by kernel_rfl) ent138 (c_impl_IsPath hy4 F0) ?_
    rintro _ w5 ⟨rfl, hc6⟩
    replace F0 := F0.chg hc6 Dj.nil
    replace hB := hB.inS hc6 inNil
    replace hZ := Nat.le_trans hZ hc6.size
    refine ⟨.bool (y3), rfl, ?_⟩
    refine wS_pure 3 [(2, .bool (!y3)), (10, .bool (!y3)), (9, .bool (!y3))] (by kernel_rfl) ?_
    refine wS_end (by rfl) ?_
    refine eX_then ?_
    refine cW_ret ?_
    have hq : (some (!y3) : Option ((Bool))) = some _ := hm
    replace hq := someE hq
    subst hq
    refine eX_ret (vs := [.bool (!y3)]) [.tmp 2] (by rfl) ⟨by (show lkE _ _ _ = _); kernel_rfl, trivial⟩ ?_
    exact ⟨rfl, hB⟩

set_option maxRecDepth 100000 in
/-- impl.Point] -/
theorem c_slices_IndexFunc_impl_Point_impl_Point_impl_pathsOk_1 {w0 : World} {l0 : List (List (Int × Int))} {A0 : Option Addr} {cap0 : Nat} {fp0 : List Nat} {r : (Int)} (hm : m_slices_IndexFunc_impl_Point_impl_Point_impl_pathsOk_1 l0 = some r) (F0 : SlR 2 encII w0 fp0 A0 l0) :
    Calls Try.prog 201 #[.slice A0 (l0).length cap0, .func (.func 178) #[] #[]] w0 fun e w' => e = .returned (.int .i64 (r)) ∧ Chg [] w0 w' := by
  have L0 := F0.low
  have hB : Chg [] w0 w0 := Chg.refl _ _
  have hZ := Nat.le_refl w0.heap.size
  unfold m_slices_IndexFunc_impl_Point_impl_Point_impl_pathsOk_1 at hm
  refine enterE (N := 19) Try.func201 (by rfl) Try.ntmps201 (by simp) [(0, .slice A0 (l0).length cap0), (1, .func (.func 178) #[] #[])] (by rfl) (by kernel_rfl) (fun a => ?_)
  refine cW_seq ?_
  refine cW_region ?_
  refine wS_pure 1 [(4, .int .i64 (0))] (by kernel_rfl) ?_
  refine wS_end (by rfl) ?_
  refine eX_then ?_
  refine cW_seq ?_
  refine cW_seq ?_
  refine cW_region ?_
  refine wS_pure 3 [(8, .int .i64 (0)), (7, .int .i64 (((l0).length : Int))), (6, .slice A0 (l0).length cap0)] (by kernel_rfl) ?_
  refine wS_end (by rfl) ?_
  refine eX_then ?_
  obtain ⟨r41, hr42, hm⟩ := bindE hm
  have hm43 := hm
  refine cW_cut (fun a' w' => Sum.inl (()) = r41 ∧ Fr 19 [] a' ∧ Chg [] w0 w' ∧ w0.heap.size ≤ w'.heap.size) ?_ ?_
  · refine cW_block ?_
    refine cW_loop _ (fun (s44 : Int) a' w' => ∃ x38 : Int, x38 = s44 ∧ Fr 19 [(0, .slice A0 (l0).length cap0), (1, .func (.func 178) #[] #[]), (7, .int .i64 (((l0).length : Int))), (8, .int .i64 (x38))] a' ∧ SlR 2 encII w' fp0 A0 l0 ∧ Chg [] w0 w' ∧ w0.heap.size ≤ w'.heap.size) hr42 (fun hst => ⟨0, rfl, Fr.of hst (by kernel_rfl), F0, hB, hZ⟩) ?_
    rintro _ c45 a' w37 ⟨x38, rfl, hF39, F40, hB, hZ⟩ hx46
    refine Fr.goOn hF39 (by kernel_rfl) ?_
    have hm := hx46
    unfold m_slices_IndexFunc_impl_Point_impl_Point_impl_pathsOk_1_s1 at hm
    refine cW_seq ?_
    refine cW_region ?_
    refine wS_pure 1 [(9, .bool (decide (x38 < (((l0).length : Int)))))] (by kernel_rfl) ?_
    refine wS_end (by rfl) ?_
    refine eX_then ?_
    refine cW_seq ?_
    refine cW_cond (t := decide (x38 < (((l0).length : Int)))) (by kernel_rfl) (fun hb47 => ?_) (fun hb47 => ?_)
    · have hm := condT hb47 hm
      refine cW_skip ?_
      refine eX_then ?_
      refine cW_seq ?_
      refine cW_block ?_
      refine cW_seq ?_
      refine cW_region ?_
      refine wS_pure 2 [(5, .int .i64 (x38)), (10, .int .i64 (x38))] (by kernel_rfl) ?_
      refine wS_end (by rfl) ?_
      refine eX_then ?_
      refine cW_seq ?_
      refine cW_region ?_
      refine wS_pure 3 [(13, .int .i64 (x38)), (12, .slice A0 (l0).length cap0), (11, .func (.func 178) #[] #[])] (by kernel_rfl) ?_
      obtain ⟨x48, hx49, hm⟩ := bindE hm
      refine wS_idx (d := 14) (T := 31) (A := A0) (n := (l0).length) (cap := cap0) (kd := .i64) (m := x38) (by kernel_rfl) sl31 (F40.is hx49) ?_
      obtain ⟨A50, cap51, hc53, F52, K54⟩ := SlR.row F40 hx49
      refine wS_load1 (d := 15) (T := 32) (ad := (elA A0 1 (x38) 0)) (v := .slice A50 (x48).length cap51) (by kernel_rfl) vt32 hc53 ?_
      obtain ⟨y56, hy57, hm⟩ := bindE hm
      refine wS_calls (d := 16) (f := 178) (vs := [.slice A50 (x48).length cap51]) (by kernel_rfl) ent178 (c_impl_pathsOk_1 hy57 F52) ?_
      rintro _ w58 ⟨rfl, hc59⟩
      replace F40 := F40.chg hc59 Dj.nil
      replace F52 := F52.chg hc59 Dj.nil
      replace hB := hB.inS hc59 inNil
      replace hZ := Nat.le_trans hZ hc59.size
      refine ⟨.bool (y56), rfl, ?_⟩
      refine wS_end (by rfl) ?_
      refine eX_then ?_
      refine cW_cond (t := y56) (by kernel_rfl) (fun hb60 => ?_) (fun hb60 => ?_)
      · have hm := condT hb60 hm
        refine cW_seq ?_
        refine cW_region ?_
        refine wS_pure 2 [(4, .int .i64 (x38)), (17, .int .i64 (x38))] (by kernel_rfl) ?_
        refine wS_end (by rfl) ?_
        refine eX_then ?_
        refine cW_ret ?_
        refine eX_block_ret ?_
        refine eX_then_ret ?_
        have hq : (some (Ctl.out (Sum.inr x38)) : Option (Ctl (Int) (Sum (Unit) ((Int))))) = some _ := hm
        replace hq := someE hq
        subst hq
        refine eX_outR hx46 (fun hr => ?_)
        subst hr
        refine eX_block_ret ?_
        refine eX_then_ret ?_
        refine eX_then_ret ?_
        have hq : (some x38 : Option ((Int))) = some _ := hm43
        replace hq := someE hq
        subst hq
        refine eX_ret (vs := [.int .i64 (x38)]) [.tmp 4] (by rfl) ⟨by (show lkE _ _ _ = _); kernel_rfl, trivial⟩ ?_
        exact ⟨rfl, hB⟩
      · have hm := condF hb60 hm
        refine cW_skip ?_
        refine eX_block ?_
        refine eX_then ?_
        refine cW_region ?_
        refine wS_pure 2 [(8, .int .i64 (wr (x38 + 1))), (18, .int .i64 (wr (x38 + 1)))] (by kernel_rfl) ?_
        refine wS_end (by rfl) ?_
        have hq : (some (Ctl.next (wr (x38 + 1))) : Option (Ctl (Int) (Sum (Unit) ((Int))))) = some _ := hm
        replace hq := someE hq
        subst hq
        exact eX_next hx46 (fun hst => ⟨wr (x38 + 1), rfl, Fr.of hst (by kernel_rfl), F40, hB, hZ⟩)
    · have hm := condF hb47 hm
      refine cW_exit ?_
      refine eX_then_exit ?_
      have hq : (some (Ctl.out (Sum.inl (()))) : Option (Ctl (Int) (Sum (Unit) ((Int))))) = some _ := hm
      replace hq := someE hq
      subst hq
      refine eX_outX hx46 (fun hr61 => ?_)
      replace hr61 := hr61.symm
      subst hr61
      refine eX_block_hit ?_
      exact eX_J (fun hst => ⟨rfl, Fr.of hst (by kernel_rfl), hB, hZ⟩)
  · rintro a' w35 ⟨hJ, hF36, hB, hZ⟩
    subst hJ
    refine Fr.goX hF36 (by kernel_rfl) ?_
    refine eX_then ?_
    refine cW_seq ?_
    refine cW_region ?_
    refine wS_pure 1 [(4, .int .i64 ((-1)))] (by kernel_rfl) ?_
    refine wS_end (by rfl) ?_
    refine eX_then ?_
    refine cW_ret ?_
    have hq : (some ((-1)) : Option ((Int))) = some _ := hm
    replace hq := someE hq
    subst hq
    refine eX_ret (vs := [.int .i64 ((-1))]) [.tmp 4] (by rfl) ⟨by (show lkE _ _ _ = _); kernel_rfl, trivial⟩ ?_
    exact ⟨rfl, hB⟩

set_option maxRecDepth 100000 in
/-- impl.Point] -/
theorem c_slices_ContainsFunc_impl_Point_impl_Point_impl_pathsOk_1 {w0 : World} {l0 : List (List (Int × Int))} {A0 : Option Addr} {cap0 : Nat} {fp0 : List Nat} {r : (Bool)} (hm : m_slices_ContainsFunc_impl_Point_impl_Point_impl_pathsOk_1 l0 = some r) (F0 : SlR 2 encII w0 fp0 A0 l0) :
    Calls Try.prog 177 #[.slice A0 (l0).length cap0, .func (.func 178) #[] #[]] w0 fun e w' => e = .returned (.bool (r)) ∧ Chg [] w0 w' := by
  have L0 := F0.low
  have hB : Chg [] w0 w0 := Chg.refl _ _
  have hZ := Nat.le_refl w0.heap.size
  unfold m_slices_ContainsFunc_impl_Point_impl_Point_impl_pathsOk_1 at hm
  refine enterE (N := 9) Try.func177 (by rfl) Try.ntmps177 (by simp) [(0, .slice A0 (l0).length cap0), (1, .func (.func 178) #[] #[])] (by rfl) (by kernel_rfl) (fun a => ?_)
  refine cW_seq ?_
  refine cW_region ?_
  refine wS_pure 1 [(4, .bool (false))] (by kernel_rfl) ?_
  refine wS_end (by rfl) ?_
  refine eX_then ?_
  refine cW_seq ?_
  refine cW_region ?_
  refine wS_pure 2 [(6, .func (.func 178) #[] #[]), (5, .slice A0 (l0).length cap0)] (by kernel_rfl) ?_
  obtain ⟨y2, hy3, hm⟩ := bindE hm
  refine wS_calls (d := 7) (f := 201) (vs := [.slice A0 (l0).length cap0, .func (.func 178) #[] #[]]) (by kernel_rfl) ent201 (c_slices_IndexFunc_impl_Point_impl_Point_impl_pathsOk_1 hy3 F0) ?_
  rintro _ w4 ⟨rfl, hc5⟩
  replace F0 := F0.chg hc5 Dj.nil
  replace hB := hB.inS hc5 inNil
  replace hZ := Nat.le_trans hZ hc5.size
  refine ⟨.int .i64 (y2), rfl, ?_⟩
  refine wS_pure 2 [(4, .bool (decide (y2 ≥ 0))), (8, .bool (decide (y2 ≥ 0)))] (by kernel_rfl) ?_
  refine wS_end (by rfl) ?_
  refine eX_then ?_
  refine cW_ret ?_
  have hq : (some (decide (y2 ≥ 0)) : Option ((Bool))) = some _ := hm
  replace hq := someE hq
  subst hq
  refine eX_ret (vs := [.bool (decide (y2 ≥ 0))]) [.tmp 4] (by rfl) ⟨by (show lkE _ _ _ = _); kernel_rfl, trivial⟩ ?_
  exact ⟨rfl, hB⟩

set_option maxRecDepth 100000 in
/-- impl.pathsOk -/
theorem c_impl_pathsOk {w0 : World} {l0 : List (List (Int × Int))} {A0 : Option Addr} {cap0 : Nat} {fp0 : List Nat} {r : (Bool)} (hm : m_impl_pathsOk l0 = some r) (F0 : SlR 2 encII w0 fp0 A0 l0) :
    Calls Try.prog 123 #[.slice A0 (l0).length cap0] w0 fun e w' => e = .returned (.bool (r)) ∧ Chg [] w0 w' := by
  have L0 := F0.low
  have hB : Chg [] w0 w0 := Chg.refl _ _
  have hZ := Nat.le_refl w0.heap.size
  unfold m_impl_pathsOk at hm
  refine enterE (N := 11) Try.func123 (by rfl) Try.ntmps123 (by simp) [(0, .slice A0 (l0).length cap0)] (by rfl) (by kernel_rfl) (fun a => ?_)
  refine cW_seq ?_
  refine cW_region ?_
  refine wS_pure 1 [(2, .bool (false))] (by kernel_rfl) ?_
  refine wS_end (by rfl) ?_
  refine eX_then ?_
  refine cW_seq ?_
  refine cW_region ?_
  refine wS_pure 4 [(6, .bool (decide ((((l0).length : Int)) ≤ 6))), (5, .bool (decide ((((l0).length : Int)) ≤ 6))), (4, .int .i64 (((l0).length : Int))), (3, .slice A0 (l0).length cap0)] (by kernel_rfl) ?_
  refine wS_bool (decide ((((l0).length : Int)) ≤ 6)) (fun hb2 => ?_) (fun hb2 => ?_)
  · have hm := condT hb2 hm
    rewrite [hb2]
    refine wS_pure 1 [(7, .slice A0 (l0).length cap0)] (by kernel_rfl) ?_
    obtain ⟨y3, hy4, hm⟩ := bindE hm
    refine wS_calls (d := 8) (f := 177) (vs := [.slice A0 (l0).length cap0, .func (.func 178) #[] #[]]) (by kernel_rfl) ent177 (c_slices_ContainsFunc_impl_Point_impl_Point_impl_pathsOk_1 hy4 F0) ?_
    rintro _ w5 ⟨rfl, hc6⟩
    replace F0 := F0.chg hc6 Dj.nil
    replace hB := hB.inS hc6 inNil
    replace hZ := Nat.le_trans hZ hc6.size
    refine ⟨.bool (y3), rfl, ?_⟩
    refine wS_pure 3 [(2, .bool (!y3)), (10, .bool (!y3)), (9, .bool (!y3))] (by kernel_rfl) ?_
    refine wS_end (by rfl) ?_
    refine eX_then ?_
    refine cW_ret ?_
    have hq : (some (!y3) : Option ((Bool))) = some _ := hm
    replace hq := someE hq
    subst hq
    refine eX_ret (vs := [.bool (!y3)]) [.tmp 2] (by rfl) ⟨by (show lkE _ _ _ = _); kernel_rfl, trivial⟩ ?_
    exact ⟨rfl, hB⟩
  · have hm := condF hb2 hm
    rewrite [hb2]
    refine wS_pure 5 [(2, .bool (false)), (10, .bool (false)), (9, undef), (8, undef), (7, undef)] (by kernel_rfl) ?_
    refine wS_end (by rfl) ?_
    refine eX_then ?_
    refine cW_ret ?_
    have hq : (some false : Option ((Bool))) = some _ := hm
    replace hq := someE hq
    subst hq
    refine eX_ret (vs := [.bool (false)]) [.tmp 2] (by rfl) ⟨by (show lkE _ _ _ = _); kernel_rfl, trivial⟩ ?_
    exact ⟨rfl, hB⟩

set_option maxRecDepth 100000 in
/-- impl.segments -/
theorem c_impl_segments {w0 : World} {l0 : List (List (Int × Int))} {A0 : Option Addr} {cap0 : Nat} {fp0 : List Nat} {r : (List (List (Int)))} (hm : m_impl_segments l0 = some r) (F0 : SlR 2 encII w0 fp0 A0 l0) :
    Calls Try.prog 124 #[.slice A0 (l0).length cap0] w0 fun e w' => ∃ A100 cap100 fp100 fr100, e = .returned (.slice A100 (r).length cap100) ∧ OwR 1 encI 25 2 w' fp100 fr100 A100 cap100 r ∧ (∀ x ∈ fp100 ++ fr100, w0.heap.size ≤ x) ∧ Chg [] w0 w' := by
  have L0 := F0.low
  have hB : Chg [] w0 w0 := Chg.refl _ _
  have hZ := Nat.le_refl w0.heap.size
  unfold m_impl_segments at hm
  refine enterE (N := 32) Try.func124 (by rfl) Try.ntmps124 (by simp) [(0, .slice A0 (l0).length cap0)] (by rfl) (by kernel_rfl) (fun a => ?_)
  refine cW_seq ?_
  refine cW_region ?_
  refine wS_pure 1 [(2, .slice none 0 0)] (by kernel_rfl) ?_
  refine wS_end (by rfl) ?_
  refine eX_then ?_
  refine cW_seq ?_
  refine cW_region ?_
  refine wS_rows0 (k := 1) (enc := encI) (d := 7) (t := 40) (T := 25) (T2 := 2) (by kernel_rfl) el40 ?_
  intro b2 w3 G4 F5 hc6
  replace F0 := F0.chg hc6 Dj.nil
  replace hB := hB.inS hc6 inNil
  replace G4 := Nat.le_trans hZ G4
  replace G4 := low1 G4
  replace hZ := Nat.le_trans hZ hc6.size
  replace G4 := lowApp G4 lowNil
  refine wS_pure 1 [(3, .slice (some ⟨b2, 0, none⟩) (([] : List (List (Int)))).length 0)] (by kernel_rfl) ?_
  refine wS_end (by rfl) ?_
  refine eX_then ?_
  refine cW_seq ?_
  refine cW_seq ?_
  refine cW_region ?_
  refine wS_pure 3 [(10, .int .i64 (0)), (9, .int .i64 (((l0).length : Int))), (8, .slice A0 (l0).length cap0)] (by kernel_rfl) ?_
  refine wS_end (by rfl) ?_
  refine eX_then ?_
  obtain ⟨r396, hr397, hm⟩ := bindE hm
  have hm398 := hm
  refine cW_cut (fun a' w' => ∃ l375 : List (List (Int)), ∃ A376 : Option Addr, ∃ cap377 : Nat, ∃ fp378 : List Nat, ∃ fr380 : List Nat, l375 = r396 ∧ Fr 32 [(3, .slice A376 (l375).length cap377)] a' ∧ OwR 1 encI 25 2 w' fp378 fr380 A376 cap377 l375 ∧ (∀ x ∈ (fp378 ++ fr380), w0.heap.size ≤ x) ∧ Chg [] w0 w' ∧ w0.heap.size ≤ w'.heap.size) ?_ ?_
  · refine cW_block ?_
    refine cW_loop _ (fun (s399 : (List (List (Int))) × Int) a' w' => ∃ l385 : List (List (Int)), ∃ A386 : Option Addr, ∃ cap387 : Nat, ∃ fp388 : List Nat, ∃ fr390 : List Nat, ∃ x391 : Int, (l385, x391) = s399 ∧ Fr 32 [(3, .slice A386 (l385).length cap387), (8, .slice A0 (l0).length cap0), (9, .int .i64 (((l0).length : Int))), (10, .int .i64 (x391))] a' ∧ SlR 2 encII w' fp0 A0 l0 ∧ OwR 1 encI 25 2 w' fp388 fr390 A386 cap387 l385 ∧ (∀ x ∈ (fp388 ++ fr390), w0.heap.size ≤ x) ∧ Chg [] w0 w' ∧ w0.heap.size ≤ w'.heap.size) hr397 (fun hst => ⟨([] : List (List (Int))), (some ⟨b2, 0, none⟩), 0, [b2], [], 0, rfl, Fr.of hst (by kernel_rfl), F0, F5, G4, hB, hZ⟩) ?_
    rintro _ c400 a' w384 ⟨l385, A386, cap387, fp388, fr390, x391, rfl, hF392, F393, F394, G395, hB, hZ⟩ hx401
    refine Fr.goOn hF392 (by kernel_rfl) ?_
    have hm := hx401
    unfold m_impl_segments_s3 at hm
    refine cW_seq ?_
    refine cW_region ?_
    refine wS_pure 1 [(11, .bool (decide (x391 < (((l0).length : Int)))))] (by kernel_rfl) ?_
    refine wS_end (by rfl) ?_
    refine eX_then ?_
    refine cW_seq ?_
    refine cW_cond (t := decide (x391 < (((l0).length : Int)))) (by kernel_rfl) (fun hb402 => ?_) (fun hb402 => ?_)
    · have hm := condT hb402 hm
      refine cW_skip ?_
      refine eX_then ?_
      refine cW_seq ?_
      refine cW_block ?_
      refine cW_seq ?_
      refine cW_region ?_
      refine wS_pure 1 [(12, .int .i64 (x391))] (by kernel_rfl) ?_
      obtain ⟨x403, hx404, hm⟩ := bindE hm
      refine wS_idx (d := 13) (T := 31) (A := A0) (n := (l0).length) (cap := cap0) (kd := .i64) (m := x391) (by kernel_rfl) sl31 (F393.is hx404) ?_
      obtain ⟨A405, cap406, hc408, F407, K409⟩ := SlR.row F393 hx404
      refine wS_load1 (d := 14) (T := 32) (ad := (elA A0 1 (x391) 0)) (v := .slice A405 (x403).length cap406) (by kernel_rfl) vt32 hc408 ?_
      refine wS_pure 2 [(5, .slice A405 (x403).length cap406), (4, .int .i64 (x391))] (by kernel_rfl) ?_
      refine wS_end (by rfl) ?_
      refine eX_then ?_
      refine cW_seq ?_
      refine cW_region ?_
      refine wS_pure 1 [(6, .int .i64 (1))] (by kernel_rfl) ?_
      refine wS_end (by rfl) ?_
      refine eX_then ?_
      obtain ⟨r531, hr532, hm⟩ := bindE hm
      have hm533 := hm
      refine cW_cut (fun a' w' => ∃ l508 : List (List (Int)), ∃ A509 : Option Addr, ∃ cap510 : Nat, ∃ fp511 : List Nat, ∃ fr513 : List Nat, l508 = r531 ∧ Fr 32 [(3, .slice A509 (l508).length cap510), (8, .slice A0 (l0).length cap0), (9, .int .i64 (((l0).length : Int))), (10, .int .i64 (x391))] a' ∧ SlR 2 encII w' fp0 A0 l0 ∧ OwR 1 encI 25 2 w' fp511 fr513 A509 cap510 l508 ∧ (∀ x ∈ (fp511 ++ fr513), w0.heap.size ≤ x) ∧ Chg [] w0 w' ∧ w0.heap.size ≤ w'.heap.size) ?_ ?_
      · refine cW_block ?_
        refine cW_loop _ (fun (s534 : (List (List (Int))) × Int) a' w' => ∃ l519 : List (List (Int)), ∃ A520 : Option Addr, ∃ cap521 : Nat, ∃ fp522 : List Nat, ∃ fr524 : List Nat, ∃ x525 : Int, (l519, x525) = s534 ∧ Fr 32 [(3, .slice A520 (l519).length cap521), (4, .int .i64 (x391)), (5, .slice A405 (x403).length cap406), (6, .int .i64 (x525)), (8, .slice A0 (l0).length cap0), (9, .int .i64 (((l0).length : Int))), (10, .int .i64 (x391))] a' ∧ SlR 2 encII w' fp0 A0 l0 ∧ Sl 2 encII w' fp0 A405 x403 ∧ OwR 1 encI 25 2 w' fp522 fr524 A520 cap521 l519 ∧ (∀ x ∈ (fp522 ++ fr524), w0.heap.size ≤ x) ∧ Chg [] w0 w' ∧ w0.heap.size ≤ w'.heap.size) hr532 (fun hst => ⟨l385, A386, cap387, fp388, fr390, 1, rfl, Fr.of hst (by kernel_rfl), F393, F407, F394, G395, hB, hZ⟩) ?_
        rintro _ c535 a' w518 ⟨l519, A520, cap521, fp522, fr524, x525, rfl, hF526, F527, F528, F529, G530, hB, hZ⟩ hx536
        refine Fr.goOn hF526 (by kernel_rfl) ?_
        have hm := hx536
        unfold m_impl_segments_s4 at hm
        refine cW_seq ?_
        refine cW_seq ?_
        refine cW_region ?_
        refine wS_pure 2 [(16, .slice A405 (x403).length cap406), (15, .int .i64 (x525))] (by kernel_rfl) ?_
        obtain ⟨y537, hy538, hm⟩ := bindE hm
        refine wS_calls (d := 17) (f := 72) (vs := [.slice A405 (x403).length cap406]) (by kernel_rfl) ent72 (c_impl_corners hy538 F528) ?_
        rintro _ w539 ⟨A541, cap542, fp543, rfl, F544, G545, hc540⟩
        have D548 : Dj (fp522 ++ fr524) fp543 := Dj.of F529.low G545
        replace F527 := F527.chg hc540 Dj.nil
        replace F528 := F528.chg hc540 Dj.nil
        replace F529 := F529.chg hc540 Dj.nil
        replace hB := hB.inS hc540 inNil
        replace G545 := low_le hZ G545
        replace hZ := Nat.le_trans hZ hc540.size
        refine ⟨.slice A541 (y537).length cap542, rfl, ?_⟩
        refine wS_pure 2 [(19, .bool (decide (x525 < (((y537).length : Int))))), (18, .int .i64 (((y537).length : Int)))] (by kernel_rfl) ?_
        refine wS_end (by rfl) ?_
        refine eX_then ?_
        refine cW_cond (t := decide (x525 < (((y537).length : Int)))) (by kernel_rfl) (fun hb549 => ?_) (fun hb549 => ?_)
        · have hm := condT hb549 hm
          refine cW_skip ?_
          refine eX_then ?_
          refine cW_seq ?_
          refine cW_block ?_
          refine cW_region ?_
          refine wS_pure 5 [(26, .int .i64 (x525)), (25, .int .i64 (wr (x525 - 1))), (24, .int .i64 (x525)), (23, .int .i64 (x391)), (22, .slice A520 (l519).length cap521)] (by kernel_rfl) ?_
          refine wS_bs (enc := encI) ([x391, wr (x525 - 1), x525] : List (Int)) [.int .i64 (x391), .int .i64 (wr (x525 - 1)), .int .i64 (x525)] (d := 27) (t := 25) (T := 2) (n := 3) (ps := [(0, .int .i64 (x391)), (1, .int .i64 (wr (x525 - 1))), (2, .int .i64 (x525))]) (by kernel_rfl) el25 encI_ok (by rfl) (by omega) (by omega) (by kernel_rfl) (by rfl) ?_
          intro b550 w551 G552 F553 hc554
          have D556 : Dj (fp522 ++ fr524) [b550] := Dj.of F529.low (low1 G552)
          have D557 : Dj fp543 [b550] := Dj.of F544.low (low1 G552)
          replace F527 := F527.chg hc554 Dj.nil
          replace F528 := F528.chg hc554 Dj.nil
          replace F529 := F529.chg hc554 Dj.nil
          replace F544 := F544.chg hc554 Dj.nil
          replace hB := hB.inS hc554 inNil
          replace G552 := Nat.le_trans hZ G552
          replace G552 := low1 G552
          replace hZ := Nat.le_trans hZ hc554.size
          refine wS_row1 (k := 1) (enc := encI) (l := ([x391, wr (x525 - 1), x525] : List (Int))) (d := 28) (t := 40) (T := 25) (B := (some ⟨b550, 0, none⟩)) (c := 3) (by kernel_rfl) el40 F553 ?_
          intro b558 w559 G560 F561 hc562
          have D564 : Dj (fp522 ++ fr524) ([b558] ++ [b550]) := Dj.app (Dj.of F529.low (low1 G560)) D556
          have D565 : Dj fp543 ([b558] ++ [b550]) := Dj.app (Dj.of F544.low (low1 G560)) D557
          replace F527 := F527.chg hc562 Dj.nil
          replace F528 := F528.chg hc562 Dj.nil
          replace F529 := F529.chg hc562 Dj.nil
          replace F544 := F544.chg hc562 Dj.nil
          replace F553 := F553.chg hc562 Dj.nil
          replace hB := hB.inS hc562 inNil
          replace G560 := Nat.le_trans hZ G560
          replace G560 := lowApp (low1 G560) G552
          replace hZ := Nat.le_trans hZ hc562.size
          replace F553 := (F553.sl encI_ok)
          obtain ⟨_, hk566, hm⟩ := bindE hm
          replace hk566 := apE hk566
          refine wS_appendR (k := 1) (enc := encI) (ll := (l519 : List (List (Int)))) (ll2 := (([([x391, wr (x525 - 1), x525] : List (Int))] : List (List (Int))) : List (List (Int)))) (d := 29) (t := 40) (T := 25) (A := A520) (A2 := (some ⟨b558, 0, none⟩)) (cap := cap521) (cap2 := 1) (by kernel_rfl) el40 F529 F561 (by rfl) D564 hk566 ?_
          intro w567 fp568 A569 cap570 F571 hc572 hp573
          have G575 := lowApp (low_ap (low_inl G530) hZ hp573) (lowApp (low_inr G530) (low_inr G560))
          have D576 : Dj fp543 (fp568 ++ (fr524 ++ [b550])) := Dj.app (Dj.ap (Dj.inl (D548).symm) F544.low hp573) (Dj.app (Dj.inr (D548).symm) (Dj.inr D565))
          replace F527 := F527.chg hc572 (Dj.inl (Dj.of L0 G530))
          replace F528 := F528.chg hc572 (Dj.inl (Dj.of L0 G530))
          replace F544 := F544.chg hc572 (Dj.inl (D548).symm)
          replace hB := hB.inS hc572 (memS_inl (inLow G530))
          replace hZ := Nat.le_trans hZ hc572.size
          refine wS_pure 1 [(3, .slice A569 (l519 ++ (([([x391, wr (x525 - 1), x525] : List (Int))] : List (List (Int))))).length cap570)] (by kernel_rfl) ?_
          refine wS_end (by rfl) ?_
          refine eX_block ?_
          refine eX_then ?_
          refine cW_region ?_
          refine wS_pure 3 [(6, .int .i64 (wr (x525 + 1))), (21, .int .i64 (wr (x525 + 1))), (20, .int .i64 (x525))] (by kernel_rfl) ?_
          refine wS_end (by rfl) ?_
          have hq : (some (Ctl.next ((l519 ++ (([([x391, wr (x525 - 1), x525] : List (Int))] : List (List (Int)))), wr (x525 + 1)))) : Option (Ctl ((List (List (Int))) × Int) ((List (List (Int)))))) = some _ := hm
          replace hq := someE hq
          subst hq
          exact eX_next hx536 (fun hst => ⟨l519 ++ (([([x391, wr (x525 - 1), x525] : List (Int))] : List (List (Int)))), A569, cap570, fp568, (fr524 ++ [b550]), wr (x525 + 1), rfl, Fr.of hst (by kernel_rfl), F527, F528, F571, G575, hB, hZ⟩)
        · have hm := condF hb549 hm
          refine cW_exit ?_
          refine eX_then_exit ?_
          have hq : (some (Ctl.out l519) : Option (Ctl ((List (List (Int))) × Int) ((List (List (Int)))))) = some _ := hm
          replace hq := someE hq
          subst hq
          refine eX_outX hx536 (fun hr577 => ?_)
          replace hr577 := hr577.symm
          subst hr577
          refine eX_block_hit ?_
          exact eX_J (fun hst => ⟨l519, A520, cap521, fp522, fr524, rfl, Fr.of hst (by kernel_rfl), F527, F529, G530, hB, hZ⟩)
      · rintro a' w507 ⟨l508, A509, cap510, fp511, fr513, hJ, hF514, F515, F516, G517, hB, hZ⟩
        subst hJ
        refine Fr.goX hF514 (by kernel_rfl) ?_
        refine eX_block ?_
        refine eX_then ?_
        refine cW_region ?_
        refine wS_pure 2 [(10, .int .i64 (wr (x391 + 1))), (30, .int .i64 (wr (x391 + 1)))] (by kernel_rfl) ?_
        refine wS_end (by rfl) ?_
        have hq : (some (Ctl.next ((l508, wr (x391 + 1)))) : Option (Ctl ((List (List (Int))) × Int) ((List (List (Int)))))) = some _ := hm
        replace hq := someE hq
        subst hq
        exact eX_next hx401 (fun hst => ⟨l508, A509, cap510, fp511, fr513, wr (x391 + 1), rfl, Fr.of hst (by kernel_rfl), F515, F516, G517, hB, hZ⟩)
    · have hm := condF hb402 hm
      refine cW_exit ?_
      refine eX_then_exit ?_
      have hq : (some (Ctl.out l385) : Option (Ctl ((List (List (Int))) × Int) ((List (List (Int)))))) = some _ := hm
      replace hq := someE hq
      subst hq
      refine eX_outX hx401 (fun hr578 => ?_)
      replace hr578 := hr578.symm
      subst hr578
      refine eX_block_hit ?_
      exact eX_J (fun hst => ⟨l385, A386, cap387, fp388, fr390, rfl, Fr.of hst (by kernel_rfl), F394, G395, hB, hZ⟩)
  · rintro a' w374 ⟨l375, A376, cap377, fp378, fr380, hJ, hF381, F382, G383, hB, hZ⟩
    subst hJ
    refine Fr.goX hF381 (by kernel_rfl) ?_
    refine eX_then ?_
    refine cW_seq ?_
    refine cW_region ?_
    refine wS_pure 2 [(2, .slice A376 (l375).length cap377), (31, .slice A376 (l375).length cap377)] (by kernel_rfl) ?_
    refine wS_end (by rfl) ?_
    refine eX_then ?_
    refine cW_ret ?_
    have hq : (some l375 : Option ((List (List (Int))))) = some _ := hm
    replace hq := someE hq
    subst hq
    refine eX_ret (vs := [.slice A376 (l375).length cap377]) [.tmp 2] (by rfl) ⟨by (show lkE _ _ _ = _); kernel_rfl, trivial⟩ ?_
    exact ⟨A376, cap377, fp378, fr380, rfl, F382, G383, hB⟩

set_option maxRecDepth 100000 in
/-- impl.touch -/
theorem c_impl_touch {w0 : World} {l0 : List (Int × Int)} {A0 : Option Addr} {cap0 : Nat} {fp0 : List Nat} {l1 : List (Int × Int)} {A1 : Option Addr} {cap1 : Nat} {fp1 : List Nat} {r : (Bool)} (hm : m_impl_touch l0 l1 = some r) (F0 : Sl 2 encII w0 fp0 A0 l0) (F1 : Sl 2 encII w0 fp1 A1 l1) :
    Calls Try.prog 126 #[.slice A0 (l0).length cap0, .slice A1 (l1).length cap1] w0 fun e w' => e = .returned (.bool (r)) ∧ Chg [] w0 w' := by
  have L0 := F0.low
  have L1 := F1.low
  have hB : Chg [] w0 w0 := Chg.refl _ _
  have hZ := Nat.le_refl w0.heap.size
  unfold m_impl_touch at hm
  refine enterE (N := 45) Try.func126 (by rfl) Try.ntmps126 (by simp) [(0, .slice A0 (l0).length cap0), (1, .slice A1 (l1).length cap1)] (by rfl) (by kernel_rfl) (fun a => ?_)
  refine cW_seq ?_
  refine cW_region ?_
  refine wS_pure 1 [(4, .bool (false))] (by kernel_rfl) ?_
  refine wS_end (by rfl) ?_
  refine eX_then ?_
  refine cW_seq ?_
  refine cW_region ?_
  refine wS_pure 1 [(10, .slice A0 (l0).length cap0)] (by kernel_rfl) ?_
  obtain ⟨y3, hy4, hm⟩ := bindE hm
  refine wS_calls (d := 11) (f := 112) (vs := [.slice A0 (l0).length cap0]) (by kernel_rfl) ent112 (c_impl_box hy4 F0) ?_
  rintro _ w5 ⟨rfl, hc6⟩
  replace F0 := F0.chg hc6 Dj.nil
  replace F1 := F1.chg hc6 Dj.nil
  replace hB := hB.inS hc6 inNil
  replace hZ := Nat.le_trans hZ hc6.size
  refine ⟨.tuple #[.agg #[.int .i64 (y3.1.1), .int .i64 (y3.1.2)], .agg #[.int .i64 (y3.2.1), .int .i64 (y3.2.2)]], rfl, ?_⟩
  refine wS_pure 3 [(13, .agg #[.int .i64 (y3.2.1), .int .i64 (y3.2.2)]), (12, .agg #[.int .i64 (y3.1.1), .int .i64 (y3.1.2)]), (9, .tuple #[.agg #[.int .i64 (y3.1.1), .int .i64 (y3.1.2)], .agg #[.int .i64 (y3.2.1), .int .i64 (y3.2.2)]])] (by kernel_rfl) ?_
  refine wS_alloc (d := 5) (T := 37) (z := .agg #[.int .i64 (0), .int .i64 (0)]) (by kernel_rfl) (by kernel_rfl) ?_
  intro b7 w8 G9 F10 hc11
  replace F10 : Cl w8 b7 37 [.int .i64 (0), .int .i64 (0)] := F10
  replace F0 := F0.chg hc11 Dj.nil
  replace F1 := F1.chg hc11 Dj.nil
  replace hB := hB.inS hc11 inNil
  replace G9 := Nat.le_trans hZ G9
  replace hZ := Nat.le_trans hZ hc11.size
  refine wS_alloc (d := 6) (T := 37) (z := .agg #[.int .i64 (0), .int .i64 (0)]) (by kernel_rfl) (by kernel_rfl) ?_
  intro b13 w14 G15 F16 hc17
  replace F16 : Cl w14 b13 37 [.int .i64 (0), .int .i64 (0)] := F16
  have D19 : Dj [b7] [b13] := Dj.of (lt1 F10.lt) (low1 G15)
  replace F0 := F0.chg hc17 Dj.nil
  replace F1 := F1.chg hc17 Dj.nil
  replace F10 := F10.chg hc17 notNil
  replace hB := hB.inS hc17 inNil
  replace G15 := Nat.le_trans hZ G15
  replace hZ := Nat.le_trans hZ hc17.size
  refine wS_store (T := 37) (g := b7) (o := 0) (ad := ⟨b7, 0, none⟩) (v := .agg #[.int .i64 (y3.1.1), .int .i64 (y3.1.2)]) (vs := [.int .i64 (y3.1.1), .int .i64 (y3.1.2)]) (by kernel_rfl) (by rfl) sz37 (by rfl) (by rfl) F10 (by simp only [List.length_cons, List.length_nil]; omega) ?_
  intro w20 F21 hc22
  replace F0 := F0.chg hc22 (Dj.of L0 (low1 G9))
  replace F1 := F1.chg hc22 (Dj.of L1 (low1 G9))
  replace F16 := F16.chg hc22 (dj1 (D19).symm)
  replace hB := hB.inS hc22 (inLow (low1 G9))
  replace hZ := Nat.le_trans hZ hc22.size
  replace F21 : Cl w20 b7 37 [.int .i64 (y3.1.1), .int .i64 (y3.1.2)] := F21
  clear F10
  refine wS_store (T := 37) (g := b13) (o := 0) (ad := ⟨b13, 0, none⟩) (v := .agg #[.int .i64 (y3.2.1), .int .i64 (y3.2.2)]) (vs := [.int .i64 (y3.2.1), .int .i64 (y3.2.2)]) (by kernel_rfl) (by rfl) sz37 (by rfl) (by rfl) F16 (by simp only [List.length_cons, List.length_nil]; omega) ?_
  intro w23 F24 hc25
  replace F0 := F0.chg hc25 (Dj.of L0 (low1 G15))
  replace F1 := F1.chg hc25 (Dj.of L1 (low1 G15))
  replace F21 := F21.chg hc25 (dj1 D19)
  replace hB := hB.inS hc25 (inLow (low1 G15))
  replace hZ := Nat.le_trans hZ hc25.size
  replace F24 : Cl w23 b13 37 [.int .i64 (y3.2.1), .int .i64 (y3.2.2)] := F24
  clear F16
  refine wS_end (by rfl) ?_
  refine eX_then ?_
  refine cW_seq ?_
  refine cW_region ?_
  refine wS_pure 1 [(15, .slice A1 (l1).length cap1)] (by kernel_rfl) ?_
  obtain ⟨y26, hy27, hm⟩ := bindE hm
  refine wS_calls (d := 16) (f := 112) (vs := [.slice A1 (l1).length cap1]) (by kernel_rfl) ent112 (c_impl_box hy27 F1) ?_
  rintro _ w28 ⟨rfl, hc29⟩
  replace F0 := F0.chg hc29 Dj.nil
  replace F1 := F1.chg hc29 Dj.nil
  replace F21 := F21.chg hc29 notNil
  replace F24 := F24.chg hc29 notNil
  replace hB := hB.inS hc29 inNil
  replace hZ := Nat.le_trans hZ hc29.size
  refine ⟨.tuple #[.agg #[.int .i64 (y26.1.1), .int .i64 (y26.1.2)], .agg #[.int .i64 (y26.2.1), .int .i64 (y26.2.2)]], rfl, ?_⟩
  refine wS_pure 3 [(18, .agg #[.int .i64 (y26.2.1), .int .i64 (y26.2.2)]), (17, .agg #[.int .i64 (y26.1.1), .int .i64 (y26.1.2)]), (14, .tuple #[.agg #[.int .i64 (y26.1.1), .int .i64 (y26.1.2)], .agg #[.int .i64 (y26.2.1), .int .i64 (y26.2.2)]])] (by kernel_rfl) ?_
  refine wS_alloc (d := 7) (T := 37) (z := .agg #[.int .i64 (0), .int .i64 (0)]) (by kernel_rfl) (by kernel_rfl) ?_
  intro b30 w31 G32 F33 hc34
  replace F33 : Cl w31 b30 37 [.int .i64 (0), .int .i64 (0)] := F33
  have D36 : Dj [b7] [b30] := Dj.of (lt1 F21.lt) (low1 G32)
  have D37 : Dj [b13] [b30] := Dj.of (lt1 F24.lt) (low1 G32)
  replace F0 := F0.chg hc34 Dj.nil
  replace F1 := F1.chg hc34 Dj.nil
  replace F21 := F21.chg hc34 notNil
  replace F24 := F24.chg hc34 notNil
  replace hB := hB.inS hc34 inNil
  replace G32 := Nat.le_trans hZ G32
  replace hZ := Nat.le_trans hZ hc34.size
  refine wS_alloc (d := 8) (T := 37) (z := .agg #[.int .i64 (0), .int .i64 (0)]) (by kernel_rfl) (by kernel_rfl) ?_
  intro b38 w39 G40 F41 hc42
  replace F41 : Cl w39 b38 37 [.int .i64 (0), .int .i64 (0)] := F41
  have D44 : Dj [b7] [b38] := Dj.of (lt1 F21.lt) (low1 G40)
  have D45 : Dj [b13] [b38] := Dj.of (lt1 F24.lt) (low1 G40)
  have D46 : Dj [b30] [b38] := Dj.of (lt1 F33.lt) (low1 G40)
  replace F0 := F0.chg hc42 Dj.nil
  replace F1 := F1.chg hc42 Dj.nil
  replace F21 := F21.chg hc42 notNil
  replace F24 := F24.chg hc42 notNil
  replace F33 := F33.chg hc42 notNil
  replace hB := hB.inS hc42 inNil
  replace G40 := Nat.le_trans hZ G40
  replace hZ := Nat.le_trans hZ hc42.size
  refine wS_store (T := 37) (g := b30) (o := 0) (ad := ⟨b30, 0, none⟩) (v := .agg #[.int .i64 (y26.1.1), .int .i64 (y26.1.2)]) (vs := [.int .i64 (y26.1.1), .int .i64 (y26.1.2)]) (by kernel_rfl) (by rfl) sz37 (by rfl) (by rfl) F33 (by simp only [List.length_cons, List.length_nil]; omega) ?_
  intro w47 F48 hc49
  replace F0 := F0.chg hc49 (Dj.of L0 (low1 G32))
  replace F1 := F1.chg hc49 (Dj.of L1 (low1 G32))
  replace F21 := F21.chg hc49 (dj1 D36)
  replace F24 := F24.chg hc49 (dj1 D37)
  replace F41 := F41.chg hc49 (dj1 (D46).symm)
  replace hB := hB.inS hc49 (inLow (low1 G32))
  replace hZ := Nat.le_trans hZ hc49.size
  replace F48 : Cl w47 b30 37 [.int .i64 (y26.1.1), .int .i64 (y26.1.2)] := F48
  clear F33
  refine wS_store (T := 37) (g := b38) (o := 0) (ad := ⟨b38, 0, none⟩) (v := .agg #[.int .i64 (y26.2.1), .int .i64 (y26.2.2)]) (vs := [.int .i64 (y26.2.1), .int .i64 (y26.2.2)]) (by kernel_rfl) (by rfl) sz37 (by rfl) (by rfl) F41 (by simp only [List.length_cons, List.length_nil]; omega) ?_
  intro w50 F51 hc52
  replace F0 := F0.chg hc52 (Dj.of L0 (low1 G40))
  replace F1 := F1.chg hc52 (Dj.of L1 (low1 G40))
  replace F21 := F21.chg hc52 (dj1 D44)
  replace F24 := F24.chg hc52 (dj1 D45)
  replace F48 := F48.chg hc52 (dj1 D46)
  replace hB := hB.inS hc52 (inLow (low1 G40))
  replace hZ := Nat.le_trans hZ hc52.size
  replace F51 : Cl w50 b38 37 [.int .i64 (y26.2.1), .int .i64 (y26.2.2)] := F51
  clear F41
  refine wS_end (by rfl) ?_
  refine eX_then ?_
  refine cW_seq ?_
  refine cW_region ?_
  refine wS_pure 1 [(19, .pointer (some ⟨b7, 0, none⟩))] (by kernel_rfl) ?_
  refine wS_load1 (d := 20) (T := 2) (ad := ⟨b7, 0, none⟩) (v := .int .i64 (y3.1.1)) (by kernel_rfl) vt2 ((F21).cell 0) ?_
  refine wS_pure 1 [(21, .pointer (some ⟨b38, 0, none⟩))] (by kernel_rfl) ?_
  refine wS_load1 (d := 22) (T := 2) (ad := ⟨b38, 0, none⟩) (v := .int .i64 (y26.2.1)) (by kernel_rfl) vt2 ((F51).cell 0) ?_
  refine wS_pure 2 [(24, .bool (decide (y3.1.1 ≤ y26.2.1))), (23, .bool (decide (y3.1.1 ≤ y26.2.1)))] (by kernel_rfl) ?_
  refine wS_bool (decide (y3.1.1 ≤ y26.2.1)) (fun hb53 => ?_) (fun hb53 => ?_)
  · have hm := condT hb53 hm
    rewrite [hb53]
    refine wS_pure 1 [(25, .pointer (some ⟨b30, 0, none⟩))] (by kernel_rfl) ?_
    refine wS_load1 (d := 26) (T := 2) (ad := ⟨b30, 0, none⟩) (v := .int .i64 (y26.1.1)) (by kernel_rfl) vt2 ((F48).cell 0) ?_
    refine wS_pure 1 [(27, .pointer (some ⟨b13, 0, none⟩))] (by kernel_rfl) ?_
    refine wS_load1 (d := 28) (T := 2) (ad := ⟨b13, 0, none⟩) (v := .int .i64 (y3.2.1)) (by kernel_rfl) vt2 ((F24).cell 0) ?_
    refine wS_pure 3 [(31, .bool (decide (y26.1.1 ≤ y3.2.1))), (30, .bool (decide (y26.1.1 ≤ y3.2.1))), (29, .bool (decide (y26.1.1 ≤ y3.2.1)))] (by kernel_rfl) ?_
    refine wS_bool (decide (y26.1.1 ≤ y3.2.1)) (fun hb54 => ?_) (fun hb54 => ?_)
    · have hm := condT hb54 hm
      rewrite [hb54]
      refine wS_pure 1 [(32, .pointer (some ⟨b7, 1, none⟩))] (by kernel_rfl) ?_
      refine wS_load1 (d := 33) (T := 2) (ad := ⟨b7, 1, none⟩) (v := .int .i64 (y3.1.2)) (by kernel_rfl) vt2 ((F21).cell 1) ?_
      refine wS_pure 1 [(34, .pointer (some ⟨b38, 1, none⟩))] (by kernel_rfl) ?_
      refine wS_load1 (d := 35) (T := 2) (ad := ⟨b38, 1, none⟩) (v := .int .i64 (y26.2.2)) (by kernel_rfl) vt2 ((F51).cell 1) ?_
      refine wS_pure 3 [(38, .bool (decide (y3.1.2 ≤ y26.2.2))), (37, .bool (decide (y3.1.2 ≤ y26.2.2))), (36, .bool (decide (y3.1.2 ≤ y26.2.2)))] (by kernel_rfl) ?_
      refine wS_bool (decide (y3.1.2 ≤ y26.2.2)) (fun hb55 => ?_) (fun hb55 => ?_)
      · have hm := condT hb55 hm
        rewrite [hb55]
        refine wS_pure 1 [(39, .pointer (some ⟨b30, 1, none⟩))] (by kernel_rfl) ?_
        refine wS_load1 (d := 40) (T := 2) (ad := ⟨b30, 1, none⟩) (v := .int .i64 (y26.1.2)) (by kernel_rfl) vt2 ((F48).cell 1) ?_
        refine wS_pure 1 [(41, .pointer (some ⟨b13, 1, none⟩))] (by kernel_rfl) ?_
        refine wS_load1 (d := 42) (T := 2) (ad := ⟨b13, 1, none⟩) (v := .int .i64 (y3.2.2)) (by kernel_rfl) vt2 ((F24).cell 1) ?_
        refine wS_pure 3 [(4, .bool (decide (y26.1.2 ≤ y3.2.2))), (44, .bool (decide (y26.1.2 ≤ y3.2.2))), (43, .bool (decide (y26.1.2 ≤ y3.2.2)))] (by kernel_rfl) ?_
        refine wS_end (by rfl) ?_
        refine eX_then ?_
        refine cW_prune [(4, .bool (decide (y26.1.2 ≤ y3.2.2)))] (by kernel_rfl) (by kernel_rfl) (fun a56 => ?_)
        refine cW_ret ?_
        have hq : (some (decide (y26.1.2 ≤ y3.2.2)) : Option ((Bool))) = some _ := hm
        replace hq := someE hq
        subst hq
        refine eX_ret (vs := [.bool (decide (y26.1.2 ≤ y3.2.2))]) [.tmp 4] (by rfl) ⟨by (show lkE _ _ _ = _); kernel_rfl, trivial⟩ ?_
        exact ⟨rfl, hB⟩
      · have hm := condF hb55 hm
        rewrite [hb55]
        refine wS_pure 7 [(4, .bool (false)), (44, .bool (false)), (43, undef), (42, undef), (41, undef), (40, undef), (39, undef)] (by kernel_rfl) ?_
        refine wS_end (by rfl) ?_
        refine eX_then ?_
        refine cW_prune [(4, .bool (false))] (by kernel_rfl) (by kernel_rfl) (fun a57 => ?_)
        refine cW_ret ?_
        have hq : (some false : Option ((Bool))) = some _ := hm
        replace hq := someE hq
        subst hq
        refine eX_ret (vs := [.bool (false)]) [.tmp 4] (by rfl) ⟨by (show lkE _ _ _ = _); kernel_rfl, trivial⟩ ?_
        exact ⟨rfl, hB⟩
    · have hm := condF hb54 hm
      rewrite [hb54]
      refine wS_pure 14 [(4, .bool (false)), (44, .bool (false)), (43, undef), (42, undef), (41, undef), (40, undef), (39, undef), (38, .bool (false)), (37, .bool (false)), (36, undef), (35, undef), (34, undef), (33, undef), (32, undef)] (by kernel_rfl) ?_
      refine wS_end (by rfl) ?_
      refine eX_then ?_
      refine cW_prune [(4, .bool (false))] (by kernel_rfl) (by kernel_rfl) (fun a58 => ?_)
      refine cW_ret ?_
      have hq : (some false : Option ((Bool))) = some _ := hm
      replace hq := someE hq
      subst hq
      refine eX_ret (vs := [.bool (false)]) [.tmp 4] (by rfl) ⟨by (show lkE _ _ _ = _); kernel_rfl, trivial⟩ ?_
      exact ⟨rfl, hB⟩
  · have hm := condF hb53 hm
    rewrite [hb53]
    refine wS_pure 21 [(4, .bool (false)), (44, .bool (false)), (43, undef), (42, undef), (41, undef), (40, undef), (39, undef), (38, .bool (false)), (37, .bool (false)), (36, undef), (35, undef), (34, undef), (33, undef), (32, undef), (31, .bool (false)), (30, .bool (false)), (29, undef), (28, undef), (27, undef), (26, undef), (25, undef)] (by kernel_rfl) ?_
    refine wS_end (by rfl) ?_
    refine eX_then ?_
    refine cW_prune [(4, .bool (false))] (by kernel_rfl) (by kernel_rfl) (fun a59 => ?_)
    refine cW_ret ?_
    have hq : (some false : Option ((Bool))) = some _ := hm
    replace hq := someE hq
    subst hq
    refine eX_ret (vs := [.bool (false)]) [.tmp 4] (by rfl) ⟨by (show lkE _ _ _ = _); kernel_rfl, trivial⟩ ?_
    exact ⟨rfl, hB⟩

set_option maxRecDepth 100000 in
/-- impl.ValidWiring$1 -/
theorem c_impl_ValidWiring_1 {w0 : World} {l0 : List (Int)} {A0 : Option Addr} {cap0 : Nat} {fp0 : List Nat} {r : (Bool)} (hm : m_impl_ValidWiring_1 l0 = some r) (F0 : Sl 1 encI w0 fp0 A0 l0) :
    Calls Try.prog 181 #[.slice A0 (l0).length cap0] w0 fun e w' => e = .returned (.bool (r)) ∧ Chg [] w0 w' := by
  have L0 := F0.low
  have hB : Chg [] w0 w0 := Chg.refl _ _
  have hZ := Nat.le_refl w0.heap.size
  unfold m_impl_ValidWiring_1 at hm
  refine enterE (N := 8) Try.func181 (by rfl) Try.ntmps181 (by simp) [(0, .slice A0 (l0).length cap0)] (by rfl) (by kernel_rfl) (fun a => ?_)
  refine cW_seq ?_
  refine cW_region ?_
  refine wS_pure 1 [(2, .bool (false))] (by kernel_rfl) ?_
  refine wS_end (by rfl) ?_
  refine eX_then ?_
  refine cW_seq ?_
  refine cW_region ?_
  refine wS_pure 1 [(3, .slice A0 (l0).length cap0)] (by kernel_rfl) ?_
  obtain ⟨x2, hx3, hm⟩ := bindE hm
  refine wS_idx (d := 4) (T := 25) (A := A0) (n := (l0).length) (cap := cap0) (kd := .i64) (m := 2) (by kernel_rfl) sl25 (F0.is hx3) ?_
  refine wS_load1 (d := 5) (T := 2) (ad := (elA A0 1 (2) 0)) (v := .int .i64 (x2)) (by kernel_rfl) vt2 (Sl.cell F0 hx3 0 (by rfl)) ?_
  obtain ⟨y4, hy5, hm⟩ := bindE hm
  refine wS_calls (d := 6) (f := 71) (vs := [.int .i64 (x2), .int .i64 (0), .int .i64 (1000)]) (by kernel_rfl) ent71 (c_impl_in hy5) ?_
  rintro _ w6 ⟨rfl, hc7⟩
  replace F0 := F0.chg hc7 Dj.nil
  replace hB := hB.inS hc7 inNil
  replace hZ := Nat.le_trans hZ hc7.size
  refine ⟨.bool (y4), rfl, ?_⟩
  refine wS_pure 2 [(2, .bool (!y4)), (7, .bool (!y4))] (by kernel_rfl) ?_
  refine wS_end (by rfl) ?_
  refine eX_then ?_
  refine cW_ret ?_
  have hq : (some (!y4) : Option ((Bool))) = some _ := hm
  replace hq := someE hq
  subst hq
  refine eX_ret (vs := [.bool (!y4)]) [.tmp 2] (by rfl) ⟨by (show lkE _ _ _ = _); kernel_rfl, trivial⟩ ?_
  exact ⟨rfl, hB⟩

set_option maxRecDepth 100000 in
/-- impl.ValidWiring$2 -/
theorem c_impl_ValidWiring_2 {w0 : World} {p0 : Int} {r : (Bool)} (hm : m_impl_ValidWiring_2 p0 = some r)  :
    Calls Try.prog 182 #[.int .i64 (p0)] w0 fun e w' => e = .returned (.bool (r)) ∧ Chg [] w0 w' := by
  have hB : Chg [] w0 w0 := Chg.refl _ _
  have hZ := Nat.le_refl w0.heap.size
  unfold m_impl_ValidWiring_2 at hm
  refine enterE (N := 6) Try.func182 (by rfl) Try.ntmps182 (by simp) [(0, .int .i64 (p0))] (by rfl) (by kernel_rfl) (fun a => ?_)
  refine cW_seq ?_
  refine cW_region ?_
  refine wS_pure 1 [(2, .bool (false))] (by kernel_rfl) ?_
  refine wS_end (by rfl) ?_
  refine eX_then ?_
  refine cW_seq ?_
  refine cW_region ?_
  refine wS_pure 1 [(3, .int .i64 (p0))] (by kernel_rfl) ?_
  obtain ⟨y1, hy2, hm⟩ := bindE hm
  refine wS_calls (d := 4) (f := 71) (vs := [.int .i64 (p0), .int .i64 ((-1)), .int .i64 (1)]) (by kernel_rfl) ent71 (c_impl_in hy2) ?_
  rintro _ w3 ⟨rfl, hc4⟩
  replace hB := hB.inS hc4 inNil
  replace hZ := Nat.le_trans hZ hc4.size
  refine ⟨.bool (y1), rfl, ?_⟩
  refine wS_pure 2 [(2, .bool (!y1)), (5, .bool (!y1))] (by kernel_rfl) ?_
  refine wS_end (by rfl) ?_
  refine eX_then ?_
  refine cW_ret ?_
  have hq : (some (!y1) : Option ((Bool))) = some _ := hm
  replace hq := someE hq
  subst hq
  refine eX_ret (vs := [.bool (!y1)]) [.tmp 2] (by rfl) ⟨by (show lkE _ _ _ = _); kernel_rfl, trivial⟩ ?_
  exact ⟨rfl, hB⟩

set_option maxRecDepth 100000 in
/-- impl.Wiring).pairsOk -/
theorem c_impl_Wiring_pairsOk_bimplWiring {w0 : World} {q0_0 : Int} {l0_1 : List (List (Int))} {A0_1 : Option Addr} {cap0_1 : Nat} {fp0_1 : List Nat} {l0_2 : List (List (Int))} {A0_2 : Option Addr} {cap0_2 : Nat} {fp0_2 : List Nat} {l0_3 : List (Int)} {A0_3 : Option Addr} {cap0_3 : Nat} {fp0_3 : List Nat} {b0 : Nat} {l1 : List (List (Int))} {A1 : Option Addr} {cap1 : Nat} {fp1 : List Nat} {p2 : Int} {r : (Bool)} (hm : m_impl_Wiring_pairsOk_bimplWiring q0_0 l0_1 l0_2 l0_3 l1 p2 = some r) (F0_1 : SlR 1 encI w0 fp0_1 A0_1 l0_1) (F0_2 : SlR 1 encI w0 fp0_2 A0_2 l0_2) (F0_3 : Sl 1 encI w0 fp0_3 A0_3 l0_3) (F0 : Cl w0 b0 83 [.int .i64 (q0_0), .slice A0_1 (l0_1).length cap0_1, .slice A0_2 (l0_2).length cap0_2, .slice A0_3 (l0_3).length cap0_3]) (F1 : SlR 1 encI w0 fp1 A1 l1) :
    Calls Try.prog 179 #[.pointer (some ⟨b0, 0, none⟩), .slice A1 (l1).length cap1, .int .i64 (p2)] w0 fun e w' => e = .returned (.bool (r)) ∧ Chg [] w0 w' := by
  have L0_1 := F0_1.low
  have L0_2 := F0_2.low
  have L0_3 := F0_3.low
  have L0 := lt1 F0.lt
  have L1 := F1.low
  have hB : Chg [] w0 w0 := Chg.refl _ _
  have hZ := Nat.le_refl w0.heap.size
  unfold m_impl_Wiring_pairsOk_bimplWiring at hm
  refine enterE (N := 63) Try.func179 (by rfl) Try.ntmps179 (by simp) [(0, .pointer (some ⟨b0, 0, none⟩)), (1, .slice A1 (l1).length cap1), (2, .int .i64 (p2))] (by rfl) (by kernel_rfl) (fun a => ?_)
  refine cW_seq ?_
  refine cW_region ?_
  refine wS_pure 1 [(6, .bool (false))] (by kernel_rfl) ?_
  refine wS_end (by rfl) ?_
  refine eX_then ?_
  refine cW_seq ?_
  refine cW_seq ?_
  refine cW_region ?_
  refine wS_pure 3 [(11, .int .i64 (0)), (10, .int .i64 (((l1).length : Int))), (9, .slice A1 (l1).length cap1)] (by kernel_rfl) ?_
  refine wS_end (by rfl) ?_
  refine eX_then ?_
  obtain ⟨r194, hr195, hm⟩ := bindE hm
  have hm196 := hm
  refine cW_cut (fun a' w' => Sum.inl (()) = r194 ∧ Fr 63 [(1, .slice A1 (l1).length cap1)] a' ∧ SlR 1 encI w' fp1 A1 l1 ∧ Chg [] w0 w' ∧ w0.heap.size ≤ w'.heap.size) ?_ ?_
  · refine cW_block ?_
    refine cW_loop _ (fun (s197 : Int) a' w' => ∃ x187 : Int, x187 = s197 ∧ Fr 63 [(0, .pointer (some ⟨b0, 0, none⟩)), (1, .slice A1 (l1).length cap1), (2, .int .i64 (p2)), (9, .slice A1 (l1).length cap1), (10, .int .i64 (((l1).length : Int))), (11, .int .i64 (x187))] a' ∧ SlR 1 encI w' fp0_1 A0_1 l0_1 ∧ SlR 1 encI w' fp0_2 A0_2 l0_2 ∧ Sl 1 encI w' fp0_3 A0_3 l0_3 ∧ Cl w' b0 83 [.int .i64 (q0_0), .slice A0_1 (l0_1).length cap0_1, .slice A0_2 (l0_2).length cap0_2, .slice A0_3 (l0_3).length cap0_3] ∧ SlR 1 encI w' fp1 A1 l1 ∧ Chg [] w0 w' ∧ w0.heap.size ≤ w'.heap.size) hr195 (fun hst => ⟨0, rfl, Fr.of hst (by kernel_rfl), F0_1, F0_2, F0_3, F0, F1, hB, hZ⟩) ?_
    rintro _ c198 a' w186 ⟨x187, rfl, hF188, F189, F190, F191, F192, F193, hB, hZ⟩ hx199
    refine Fr.goOn hF188 (by kernel_rfl) ?_
    have hm := hx199
    unfold m_impl_Wiring_pairsOk_bimplWiring_s1 at hm
    refine cW_seq ?_
    refine cW_region ?_
    refine wS_pure 1 [(12, .bool (decide (x187 < (((l1).length : Int)))))] (by kernel_rfl) ?_
    refine wS_end (by rfl) ?_
    refine eX_then ?_
    refine cW_seq ?_
    refine cW_cond (t := decide (x187 < (((l1).length : Int)))) (by kernel_rfl) (fun hb200 => ?_) (fun hb200 => ?_)
    · have hm := condT hb200 hm
      refine cW_skip ?_
      refine eX_then ?_
      refine cW_seq ?_
      refine cW_block ?_
      refine cW_seq ?_
      refine cW_region ?_
      refine wS_pure 1 [(13, .int .i64 (x187))] (by kernel_rfl) ?_
      obtain ⟨x201, hx202, hm⟩ := bindE hm
      refine wS_idx (d := 14) (T := 40) (A := A1) (n := (l1).length) (cap := cap1) (kd := .i64) (m := x187) (by kernel_rfl) sl40 (F193.is hx202) ?_
      obtain ⟨A203, cap204, hc206, F205, K207⟩ := SlR.row F193 hx202
      refine wS_load1 (d := 15) (T := 25) (ad := (elA A1 1 (x187) 0)) (v := .slice A203 (x201).length cap204) (by kernel_rfl) vt25 hc206 ?_
      refine wS_pure 2 [(8, .slice A203 (x201).length cap204), (7, .int .i64 (x187))] (by kernel_rfl) ?_
      refine wS_end (by rfl) ?_
      refine eX_then ?_
      refine cW_seq ?_
      refine cW_drawnTail [] 39 (by kernel_rfl) (by kernel_rfl) (fun w242 hc243 => ?_)
      replace F189 := F189.chg hc243 Dj.nil
      replace F190 := F190.chg hc243 Dj.nil
      replace F191 := F191.chg hc243 Dj.nil
      replace F192 := F192.chg hc243 notNil
      replace F193 := F193.chg hc243 Dj.nil
      replace F205 := F205.chg hc243 Dj.nil
      replace hB := hB.inS hc243 inNil
      replace hZ := Nat.le_trans hZ hc243.size
      have hS := Chg.refl [] w242
      have Z244 := F189
      have Z245 := F190
      have Z246 := F191
      have Z247 := F192
      have Z248 := F193
      have Z249 := F205
      refine wH_take [0, 1, 2, 3, 4] [4, 3, 2, 1, 0] [(20, .bool ((((x201).length : Int)) != p2)), (19, .bool ((((x201).length : Int)) != p2)), (18, .int .i64 (p2)), (17, .int .i64 (((x201).length : Int))), (16, .slice A203 (x201).length cap204)] (by kernel_rfl) (qT (qT (qB (qT (qL (qB (qT (qT qZ)))))))) (by kernel_rfl) ?_
      refine wH_bool ((((x201).length : Int)) != p2) (fun hb250 => ?_) (fun hb250 => ?_)
      · have hm := condT hb250 hm
        rewrite [hb250]
        refine wH_take [5, 6, 7, 8, 9, 10, 11, 12, 13, 14, 15, 16, 17, 18, 19, 20, 21, 22, 23, 24, 25, 26, 27, 28, 29, 30, 31, 32, 33, 34, 35, 36, 37, 38] [38, 37, 36, 35, 34, 33, 32, 31, 30, 29, 28, 27, 26, 25, 24, 23, 22, 21, 20, 19, 18, 17, 16, 15, 14, 13, 12, 11, 10, 9, 8, 7, 6, 5, 4, 3, 2, 1, 0] [(54, undef), (53, undef), (52, undef), (51, undef), (50, undef), (49, undef), (48, undef), (47, undef), (46, undef), (45, .bool (true)), (44, .bool (true)), (43, undef), (42, undef), (41, undef), (40, undef), (39, undef), (38, undef), (37, undef), (36, undef), (35, .bool (true)), (34, .bool (true)), (33, undef), (32, undef), (31, undef), (30, undef), (29, undef), (28, undef), (27, undef), (26, .bool (true)), (25, .bool (true)), (24, undef), (23, undef), (22, undef), (21, undef)] (by kernel_rfl) (qT (qT (qB (qT (qL (qB (qT (qT qZ)))))))) (by kernel_rfl) ?_
        refine wH_done (by kernel_rfl) ?_
        refine eX_tail ?_
        refine wS_pure 4 [(58, .bool (true)), (57, undef), (56, undef), (55, undef)] (by kernel_rfl) ?_
        refine wS_end (by rfl) ?_
        refine eX_then ?_
        refine cW_prune [(0, .pointer (some ⟨b0, 0, none⟩)), (1, .slice A1 (l1).length cap1), (2, .int .i64 (p2)), (9, .slice A1 (l1).length cap1), (10, .int .i64 (((l1).length : Int))), (11, .int .i64 (x187)), (58, .bool (true))] (by kernel_rfl) (by kernel_rfl) (fun a251 => ?_)
        refine cW_cond_t (by kernel_rfl) ?_
        refine cW_seq ?_
        refine cW_region ?_
        refine wS_pure 1 [(6, .bool (false))] (by kernel_rfl) ?_
        refine wS_end (by rfl) ?_
        refine eX_then ?_
        refine cW_ret ?_
        refine eX_block_ret ?_
        refine eX_then_ret ?_
        have hq : (some (Ctl.out (Sum.inr false)) : Option (Ctl (Int) (Sum (Unit) ((Bool))))) = some _ := hm
        replace hq := someE hq
        subst hq
        refine eX_outR hx199 (fun hr => ?_)
        subst hr
        refine eX_block_ret ?_
        refine eX_then_ret ?_
        refine eX_then_ret ?_
        have hq : (some false : Option ((Bool))) = some _ := hm196
        replace hq := someE hq
        subst hq
        refine eX_ret (vs := [.bool (false)]) [.tmp 6] (by rfl) ⟨by (show lkE _ _ _ = _); kernel_rfl, trivial⟩ ?_
        exact ⟨rfl, hB⟩
      · have hm := condF hb250 hm
        rewrite [hb250]
        refine wH_take [5] [5, 4, 3, 2, 1, 0] [(21, .slice A203 (x201).length cap204)] (by kernel_rfl) (qT (qT (qB (qT (qL (qB (qT (qT qZ)))))))) (by kernel_rfl) ?_
        obtain ⟨x252, hx253, hm⟩ := bindE hm
        refine wH_idx (i := 6) (d := 22) (T := 25) (A := A203) (n := (x201).length) (cap := cap204) (kd := .i64) (m := 0) (by kernel_rfl) (qT (qT (qB (qT (qL (qB (qT (qT qZ)))))))) (by kernel_rfl) (by kernel_rfl) sl25 (F205.is hx253) ?_
        refine wH_load1 (i := 7) (d := 23) (T := 2) (ad := (elA A203 1 (0) 0)) (v := .int .i64 (x252)) (by kernel_rfl) (qT (qT (qB (qT (qL (qB (qT (qT qZ)))))))) (by kernel_rfl) (by kernel_rfl) vt2 (fun W hW => Sl.cell (Z249.chg hW Dj.nil) hx253 0 (by rfl)) ?_
        refine wH_take [8, 9, 10] [10, 9, 8, 7, 6, 5, 4, 3, 2, 1, 0] [(26, .bool (decide (x252 < 0))), (25, .bool (decide (x252 < 0))), (24, .bool (decide (x252 < 0)))] (by kernel_rfl) (qT (qT (qB (qT (qL (qB (qT (qT qZ)))))))) (by kernel_rfl) ?_
        refine wH_bool (decide (x252 < 0)) (fun hb254 => ?_) (fun hb254 => ?_)
        · have hm := condT hb254 hm
          rewrite [hb254]
          refine wH_take [11, 12, 13, 14, 15, 16, 17, 18, 19, 20, 21, 22, 23, 24, 25, 26, 27, 28, 29, 30, 31, 32, 33, 34, 35, 36, 37, 38] [38, 37, 36, 35, 34, 33, 32, 31, 30, 29, 28, 27, 26, 25, 24, 23, 22, 21, 20, 19, 18, 17, 16, 15, 14, 13, 12, 11, 10, 9, 8, 7, 6, 5, 4, 3, 2, 1, 0] [(54, undef), (53, undef), (52, undef), (51, undef), (50, undef), (49, undef), (48, undef), (47, undef), (46, undef), (45, .bool (true)), (44, .bool (true)), (43, undef), (42, undef), (41, undef), (40, undef), (39, undef), (38, undef), (37, undef), (36, undef), (35, .bool (true)), (34, .bool (true)), (33, undef), (32, undef), (31, undef), (30, undef), (29, undef), (28, undef), (27, undef)] (by kernel_rfl) (qT (qT (qB (qT (qL (qB (qT (qT qZ)))))))) (by kernel_rfl) ?_
          refine wH_done (by kernel_rfl) ?_
          refine eX_tail ?_
          refine wS_pure 4 [(58, .bool (true)), (57, undef), (56, undef), (55, undef)] (by kernel_rfl) ?_
          refine wS_end (by rfl) ?_
          refine eX_then ?_
          refine cW_prune [(0, .pointer (some ⟨b0, 0, none⟩)), (1, .slice A1 (l1).length cap1), (2, .int .i64 (p2)), (9, .slice A1 (l1).length cap1), (10, .int .i64 (((l1).length : Int))), (11, .int .i64 (x187)), (58, .bool (true))] (by kernel_rfl) (by kernel_rfl) (fun a255 => ?_)
          refine cW_cond_t (by kernel_rfl) ?_
          refine cW_seq ?_
          refine cW_region ?_
          refine wS_pure 1 [(6, .bool (false))] (by kernel_rfl) ?_
          refine wS_end (by rfl) ?_
          refine eX_then ?_
          refine cW_ret ?_
          refine eX_block_ret ?_
          refine eX_then_ret ?_
          have hq : (some (Ctl.out (Sum.inr false)) : Option (Ctl (Int) (Sum (Unit) ((Bool))))) = some _ := hm
          replace hq := someE hq
          subst hq
          refine eX_outR hx199 (fun hr => ?_)
          subst hr
          refine eX_block_ret ?_
          refine eX_then_ret ?_
          refine eX_then_ret ?_
          have hq : (some false : Option ((Bool))) = some _ := hm196
          replace hq := someE hq
          subst hq
          refine eX_ret (vs := [.bool (false)]) [.tmp 6] (by rfl) ⟨by (show lkE _ _ _ = _); kernel_rfl, trivial⟩ ?_
          exact ⟨rfl, hB⟩
        · have hm := condF hb254 hm
          rewrite [hb254]
          refine wH_take [11] [11, 10, 9, 8, 7, 6, 5, 4, 3, 2, 1, 0] [(27, .slice A203 (x201).length cap204)] (by kernel_rfl) (qT (qT (qB (qT (qL (qB (qT (qT qZ)))))))) (by kernel_rfl) ?_
          obtain ⟨x256, hx257, hm⟩ := bindE hm
          refine wH_idx (i := 12) (d := 28) (T := 25) (A := A203) (n := (x201).length) (cap := cap204) (kd := .i64) (m := 0) (by kernel_rfl) (qT (qT (qB (qT (qL (qB (qT (qT qZ)))))))) (by kernel_rfl) (by kernel_rfl) sl25 (F205.is hx257) ?_
          refine wH_load1 (i := 13) (d := 29) (T := 2) (ad := (elA A203 1 (0) 0)) (v := .int .i64 (x256)) (by kernel_rfl) (qT (qT (qB (qT (qL (qB (qT (qT qZ)))))))) (by kernel_rfl) (by kernel_rfl) vt2 (fun W hW => Sl.cell (Z249.chg hW Dj.nil) hx257 0 (by rfl)) ?_
          refine wH_take [14] [14, 13, 12, 11, 10, 9, 8, 7, 6, 5, 4, 3, 2, 1, 0] [(30, .slice A203 (x201).length cap204)] (by kernel_rfl) (qT (qT (qB (qT (qL (qB (qT (qT qZ)))))))) (by kernel_rfl) ?_
          obtain ⟨x258, hx259, hm⟩ := bindE hm
          refine wH_idx (i := 15) (d := 31) (T := 25) (A := A203) (n := (x201).length) (cap := cap204) (kd := .i64) (m := 1) (by kernel_rfl) (qT (qT (qB (qT (qL (qB (qT (qT qZ)))))))) (by kernel_rfl) (by kernel_rfl) sl25 (F205.is hx259) ?_
          refine wH_load1 (i := 16) (d := 32) (T := 2) (ad := (elA A203 1 (1) 0)) (v := .int .i64 (x258)) (by kernel_rfl) (qT (qT (qB (qT (qL (qB (qT (qT qZ)))))))) (by kernel_rfl) (by kernel_rfl) vt2 (fun W hW => Sl.cell (Z249.chg hW Dj.nil) hx259 0 (by rfl)) ?_
          refine wH_take [17, 18, 19] [19, 18, 17, 16, 15, 14, 13, 12, 11, 10, 9, 8, 7, 6, 5, 4, 3, 2, 1, 0] [(35, .bool (decide (x256 ≥ x258))), (34, .bool (decide (x256 ≥ x258))), (33, .bool (decide (x256 ≥ x258)))] (by kernel_rfl) (qT (qT (qB (qT (qL (qB (qT (qT qZ)))))))) (by kernel_rfl) ?_
          refine wH_bool (decide (x256 ≥ x258)) (fun hb260 => ?_) (fun hb260 => ?_)
          · have hm := condT hb260 hm
            rewrite [hb260]
            refine wH_take [20, 21, 22, 23, 24, 25, 26, 27, 28, 29, 30, 31, 32, 33, 34, 35, 36, 37, 38] [38, 37, 36, 35, 34, 33, 32, 31, 30, 29, 28, 27, 26, 25, 24, 23, 22, 21, 20, 19, 18, 17, 16, 15, 14, 13, 12, 11, 10, 9, 8, 7, 6, 5, 4, 3, 2, 1, 0] [(54, undef), (53, undef), (52, undef), (51, undef), (50, undef), (49, undef), (48, undef), (47, undef), (46, undef), (45, .bool (true)), (44, .bool (true)), (43, undef), (42, undef), (41, undef), (40, undef), (39, undef), (38, undef), (37, undef), (36, undef)] (by kernel_rfl) (qT (qT (qB (qT (qL (qB (qT (qT qZ)))))))) (by kernel_rfl) ?_
            refine wH_done (by kernel_rfl) ?_
            refine eX_tail ?_
            refine wS_pure 4 [(58, .bool (true)), (57, undef), (56, undef), (55, undef)] (by kernel_rfl) ?_
            refine wS_end (by rfl) ?_
            refine eX_then ?_
            refine cW_prune [(0, .pointer (some ⟨b0, 0, none⟩)), (1, .slice A1 (l1).length cap1), (2, .int .i64 (p2)), (9, .slice A1 (l1).length cap1), (10, .int .i64 (((l1).length : Int))), (11, .int .i64 (x187)), (58, .bool (true))] (by kernel_rfl) (by kernel_rfl) (fun a261 => ?_)
            refine cW_cond_t (by kernel_rfl) ?_
            refine cW_seq ?_
            refine cW_region ?_
            refine wS_pure 1 [(6, .bool (false))] (by kernel_rfl) ?_
            refine wS_end (by rfl) ?_
            refine eX_then ?_
            refine cW_ret ?_
            refine eX_block_ret ?_
            refine eX_then_ret ?_
            have hq : (some (Ctl.out (Sum.inr false)) : Option (Ctl (Int) (Sum (Unit) ((Bool))))) = some _ := hm
            replace hq := someE hq
            subst hq
            refine eX_outR hx199 (fun hr => ?_)
            subst hr
            refine eX_block_ret ?_
            refine eX_then_ret ?_
            refine eX_then_ret ?_
            have hq : (some false : Option ((Bool))) = some _ := hm196
            replace hq := someE hq
            subst hq
            refine eX_ret (vs := [.bool (false)]) [.tmp 6] (by rfl) ⟨by (show lkE _ _ _ = _); kernel_rfl, trivial⟩ ?_
            exact ⟨rfl, hB⟩
          · have hm := condF hb260 hm
            rewrite [hb260]
            refine wH_take [20] [20, 19, 18, 17, 16, 15, 14, 13, 12, 11, 10, 9, 8, 7, 6, 5, 4, 3, 2, 1, 0] [(36, .slice A203 (x201).length cap204)] (by kernel_rfl) (qT (qT (qB (qT (qL (qB (qT (qT qZ)))))))) (by kernel_rfl) ?_
            obtain ⟨x262, hx263, hm⟩ := bindE hm
            refine wH_idx (i := 21) (d := 37) (T := 25) (A := A203) (n := (x201).length) (cap := cap204) (kd := .i64) (m := 1) (by kernel_rfl) (qT (qT (qB (qT (qL (qB (qT (qT qZ)))))))) (by kernel_rfl) (by kernel_rfl) sl25 (F205.is hx263) ?_
            refine wH_load1 (i := 22) (d := 38) (T := 2) (ad := (elA A203 1 (1) 0)) (v := .int .i64 (x262)) (by kernel_rfl) (qT (qT (qB (qT (qL (qB (qT (qT qZ)))))))) (by kernel_rfl) (by kernel_rfl) vt2 (fun W hW => Sl.cell (Z249.chg hW Dj.nil) hx263 0 (by rfl)) ?_
            refine wH_take [23, 24, 25] [25, 24, 23, 22, 21, 20, 19, 18, 17, 16, 15, 14, 13, 12, 11, 10, 9, 8, 7, 6, 5, 4, 3, 2, 1, 0] [(41, .pointer (some ⟨b0, 0, none⟩)), (40, .pointer (some ⟨b0, 0, none⟩)), (39, .pointer (some ⟨b0, 0, none⟩))] (by kernel_rfl) (qT (qT (qB (qT (qL (qB (qT (qT qZ)))))))) (by kernel_rfl) ?_
            refine wH_load1 (i := 26) (d := 42) (T := 2) (ad := ⟨b0, 0, none⟩) (v := .int .i64 (q0_0)) (by kernel_rfl) (qT (qT (qB (qT (qL (qB (qT (qT qZ)))))))) (by kernel_rfl) (by kernel_rfl) vt2 (fun W hW => (Z247.chg hW notNil).cell 0) ?_
            refine wH_take [27, 28, 29] [29, 28, 27, 26, 25, 24, 23, 22, 21, 20, 19, 18, 17, 16, 15, 14, 13, 12, 11, 10, 9, 8, 7, 6, 5, 4, 3, 2, 1, 0] [(45, .bool (decide (x262 ≥ q0_0))), (44, .bool (decide (x262 ≥ q0_0))), (43, .bool (decide (x262 ≥ q0_0)))] (by kernel_rfl) (qT (qT (qB (qT (qL (qB (qT (qT qZ)))))))) (by kernel_rfl) ?_
            refine wH_bool (decide (x262 ≥ q0_0)) (fun hb264 => ?_) (fun hb264 => ?_)
            · have hm := condT hb264 hm
              rewrite [hb264]
              refine wH_take [30, 31, 32, 33, 34, 35, 36, 37, 38] [38, 37, 36, 35, 34, 33, 32, 31, 30, 29, 28, 27, 26, 25, 24, 23, 22, 21, 20, 19, 18, 17, 16, 15, 14, 13, 12, 11, 10, 9, 8, 7, 6, 5, 4, 3, 2, 1, 0] [(54, undef), (53, undef), (52, undef), (51, undef), (50, undef), (49, undef), (48, undef), (47, undef), (46, undef)] (by kernel_rfl) (qT (qT (qB (qT (qL (qB (qT (qT qZ)))))))) (by kernel_rfl) ?_
              refine wH_done (by kernel_rfl) ?_
              refine eX_tail ?_
              refine wS_pure 4 [(58, .bool (true)), (57, undef), (56, undef), (55, undef)] (by kernel_rfl) ?_
              refine wS_end (by rfl) ?_
              refine eX_then ?_
              refine cW_prune [(0, .pointer (some ⟨b0, 0, none⟩)), (1, .slice A1 (l1).length cap1), (2, .int .i64 (p2)), (9, .slice A1 (l1).length cap1), (10, .int .i64 (((l1).length : Int))), (11, .int .i64 (x187)), (58, .bool (true))] (by kernel_rfl) (by kernel_rfl) (fun a265 => ?_)
              refine cW_cond_t (by kernel_rfl) ?_
              refine cW_seq ?_
              refine cW_region ?_
              refine wS_pure 1 [(6, .bool (false))] (by kernel_rfl) ?_
              refine wS_end (by rfl) ?_
              refine eX_then ?_
              refine cW_ret ?_
              refine eX_block_ret ?_
              refine eX_then_ret ?_
              have hq : (some (Ctl.out (Sum.inr false)) : Option (Ctl (Int) (Sum (Unit) ((Bool))))) = some _ := hm
              replace hq := someE hq
              subst hq
              refine eX_outR hx199 (fun hr => ?_)
              subst hr
              refine eX_block_ret ?_
              refine eX_then_ret ?_
              refine eX_then_ret ?_
              have hq : (some false : Option ((Bool))) = some _ := hm196
              replace hq := someE hq
              subst hq
              refine eX_ret (vs := [.bool (false)]) [.tmp 6] (by rfl) ⟨by (show lkE _ _ _ = _); kernel_rfl, trivial⟩ ?_
              exact ⟨rfl, hB⟩
            · have hm := condF hb264 hm
              rewrite [hb264]
              refine wH_take [30, 31, 32] [32, 31, 30, 29, 28, 27, 26, 25, 24, 23, 22, 21, 20, 19, 18, 17, 16, 15, 14, 13, 12, 11, 10, 9, 8, 7, 6, 5, 4, 3, 2, 1, 0] [(48, .bool (decide (x187 > 0))), (47, .bool (decide (x187 > 0))), (46, .int .i64 (x187))] (by kernel_rfl) (qT (qT (qB (qT (qL (qB (qT (qT qZ)))))))) (by kernel_rfl) ?_
              refine wH_bool (decide (x187 > 0)) (fun hb266 => ?_) (fun hb266 => ?_)
              · have hm := condT hb266 hm
                rewrite [hb266]
                refine wH_take [33, 34, 35] [35, 34, 33, 32, 31, 30, 29, 28, 27, 26, 25, 24, 23, 22, 21, 20, 19, 18, 17, 16, 15, 14, 13, 12, 11, 10, 9, 8, 7, 6, 5, 4, 3, 2, 1, 0] [(51, .int .i64 (wr (x187 - 1))), (50, .int .i64 (x187)), (49, .slice A1 (l1).length cap1)] (by kernel_rfl) (qT (qT (qB (qT (qL (qB (qT (qT qZ)))))))) (by kernel_rfl) ?_
                obtain ⟨x267, hx268, hm⟩ := bindE hm
                refine wH_idx (i := 36) (d := 52) (T := 40) (A := A1) (n := (l1).length) (cap := cap1) (kd := .i64) (m := wr (x187 - 1)) (by kernel_rfl) (qT (qT (qB (qT (qL (qB (qT (qT qZ)))))))) (by kernel_rfl) (by kernel_rfl) sl40 (F193.is hx268) ?_
                obtain ⟨A269, cap270, hc272, F271, K273⟩ := SlR.row Z248 hx268
                refine wH_load1 (i := 37) (d := 53) (T := 25) (ad := (elA A1 1 (wr (x187 - 1)) 0)) (v := .slice A269 (x267).length cap270) (by kernel_rfl) (qT (qT (qB (qT (qL (qB (qT (qT qZ)))))))) (by kernel_rfl) (by kernel_rfl) vt25 (fun W hW => hW.keep hc272) ?_
                refine wH_take [38] [38, 37, 36, 35, 34, 33, 32, 31, 30, 29, 28, 27, 26, 25, 24, 23, 22, 21, 20, 19, 18, 17, 16, 15, 14, 13, 12, 11, 10, 9, 8, 7, 6, 5, 4, 3, 2, 1, 0] [(54, .slice A203 (x201).length cap204)] (by kernel_rfl) (qT (qT (qB (qT (qL (qB (qT (qT qZ)))))))) (by kernel_rfl) ?_
                refine wH_done (by kernel_rfl) ?_
                refine eX_tail ?_
                obtain ⟨y275, hy276, hm⟩ := bindE hm
                refine wS_calls (d := 55) (f := 157) (vs := [.slice A269 (x267).length cap270, .slice A203 (x201).length cap204]) (by kernel_rfl) ent157 (c_slices_Compare_int64_int64 hy276 F271 F205) ?_
                rintro _ w277 ⟨rfl, hc278⟩
                replace F189 := F189.chg hc278 Dj.nil
                replace F190 := F190.chg hc278 Dj.nil
                replace F191 := F191.chg hc278 Dj.nil
                replace F192 := F192.chg hc278 notNil
                replace F193 := F193.chg hc278 Dj.nil
                replace F205 := F205.chg hc278 Dj.nil
                replace F271 := F271.chg hc278 Dj.nil
                replace hB := hB.inS hc278 inNil
                replace hZ := Nat.le_trans hZ hc278.size
                refine ⟨.int .i64 (y275), rfl, ?_⟩
                refine wS_pure 3 [(58, .bool (decide (y275 ≥ 0))), (57, .bool (decide (y275 ≥ 0))), (56, .bool (decide (y275 ≥ 0)))] (by kernel_rfl) ?_
                refine wS_end (by rfl) ?_
                refine eX_then ?_
                refine cW_prune [(0, .pointer (some ⟨b0, 0, none⟩)), (1, .slice A1 (l1).length cap1), (2, .int .i64 (p2)), (9, .slice A1 (l1).length cap1), (10, .int .i64 (((l1).length : Int))), (11, .int .i64 (x187)), (58, .bool (decide (y275 ≥ 0)))] (by kernel_rfl) (by kernel_rfl) (fun a279 => ?_)
                refine cW_cond (t := decide (y275 ≥ 0)) (by kernel_rfl) (fun hb280 => ?_) (fun hb280 => ?_)
                · have hm := condT hb280 hm
                  refine cW_seq ?_
                  refine cW_region ?_
                  refine wS_pure 1 [(6, .bool (false))] (by kernel_rfl) ?_
                  refine wS_end (by rfl) ?_
                  refine eX_then ?_
                  refine cW_ret ?_
                  refine eX_block_ret ?_
                  refine eX_then_ret ?_
                  have hq : (some (Ctl.out (Sum.inr false)) : Option (Ctl (Int) (Sum (Unit) ((Bool))))) = some _ := hm
                  replace hq := someE hq
                  subst hq
                  refine eX_outR hx199 (fun hr => ?_)
                  subst hr
                  refine eX_block_ret ?_
                  refine eX_then_ret ?_
                  refine eX_then_ret ?_
                  have hq : (some false : Option ((Bool))) = some _ := hm196
                  replace hq := someE hq
                  subst hq
                  refine eX_ret (vs := [.bool (false)]) [.tmp 6] (by rfl) ⟨by (show lkE _ _ _ = _); kernel_rfl, trivial⟩ ?_
                  exact ⟨rfl, hB⟩
                · have hm := condF hb280 hm
                  refine cW_skip ?_
                  refine eX_block ?_
                  refine eX_then ?_
                  refine cW_region ?_
                  refine wS_pure 2 [(11, .int .i64 (wr (x187 + 1))), (59, .int .i64 (wr (x187 + 1)))] (by kernel_rfl) ?_
                  refine wS_end (by rfl) ?_
                  have hq : (some (Ctl.next (wr (x187 + 1))) : Option (Ctl (Int) (Sum (Unit) ((Bool))))) = some _ := hm
                  replace hq := someE hq
                  subst hq
                  exact eX_next hx199 (fun hst => ⟨wr (x187 + 1), rfl, Fr.of hst (by kernel_rfl), F189, F190, F191, F192, F193, hB, hZ⟩)
              · have hm := condF hb266 hm
                rewrite [hb266]
                refine wH_take [33, 34, 35, 36, 37, 38] [38, 37, 36, 35, 34, 33, 32, 31, 30, 29, 28, 27, 26, 25, 24, 23, 22, 21, 20, 19, 18, 17, 16, 15, 14, 13, 12, 11, 10, 9, 8, 7, 6, 5, 4, 3, 2, 1, 0] [(54, undef), (53, undef), (52, undef), (51, undef), (50, undef), (49, undef)] (by kernel_rfl) (qT (qT (qB (qT (qL (qB (qT (qT qZ)))))))) (by kernel_rfl) ?_
                refine wH_done (by kernel_rfl) ?_
                refine eX_tail ?_
                refine wS_pure 4 [(58, .bool (false)), (57, .bool (false)), (56, undef), (55, undef)] (by kernel_rfl) ?_
                refine wS_end (by rfl) ?_
                refine eX_then ?_
                refine cW_prune [(0, .pointer (some ⟨b0, 0, none⟩)), (1, .slice A1 (l1).length cap1), (2, .int .i64 (p2)), (9, .slice A1 (l1).length cap1), (10, .int .i64 (((l1).length : Int))), (11, .int .i64 (x187)), (58, .bool (false))] (by kernel_rfl) (by kernel_rfl) (fun a281 => ?_)
                refine cW_cond_f (by kernel_rfl) ?_
                refine cW_skip ?_
                refine eX_block ?_
                refine eX_then ?_
                refine cW_region ?_
                refine wS_pure 2 [(11, .int .i64 (wr (x187 + 1))), (59, .int .i64 (wr (x187 + 1)))] (by kernel_rfl) ?_
                refine wS_end (by rfl) ?_
                have hq : (some (Ctl.next (wr (x187 + 1))) : Option (Ctl (Int) (Sum (Unit) ((Bool))))) = some _ := hm
                replace hq := someE hq
                subst hq
                exact eX_next hx199 (fun hst => ⟨wr (x187 + 1), rfl, Fr.of hst (by kernel_rfl), F189, F190, F191, F192, F193, hB, hZ⟩)
    · have hm := condF hb200 hm
      refine cW_exit ?_
      refine eX_then_exit ?_
      have hq : (some (Ctl.out (Sum.inl (()))) : Option (Ctl (Int) (Sum (Unit) ((Bool))))) = some _ := hm
      replace hq := someE hq
      subst hq
      refine eX_outX hx199 (fun hr282 => ?_)
      replace hr282 := hr282.symm
      subst hr282
      refine eX_block_hit ?_
      exact eX_J (fun hst => ⟨rfl, Fr.of hst (by kernel_rfl), F193, hB, hZ⟩)
  · rintro a' w183 ⟨hJ, hF184, F185, hB, hZ⟩
    subst hJ
    refine Fr.goX hF184 (by kernel_rfl) ?_
    refine eX_then ?_
    refine cW_seq ?_
    refine cW_region ?_
    refine wS_pure 4 [(6, .bool (decide ((((l1).length : Int)) ≤ 30))), (62, .bool (decide ((((l1).length : Int)) ≤ 30))), (61, .int .i64 (((l1).length : Int))), (60, .slice A1 (l1).length cap1)] (by kernel_rfl) ?_
    refine wS_end (by rfl) ?_
    refine eX_then ?_
    refine cW_ret ?_
    have hq : (some (decide ((((l1).length : Int)) ≤ 30)) : Option ((Bool))) = some _ := hm
    replace hq := someE hq
    subst hq
    refine eX_ret (vs := [.bool (decide ((((l1).length : Int)) ≤ 30))]) [.tmp 6] (by rfl) ⟨by (show lkE _ _ _ = _); kernel_rfl, trivial⟩ ?_
    exact ⟨rfl, hB⟩

set_option maxRecDepth 100000 in
/-- slices.IndexFunc[[][]int64,[]int64] -/
theorem c_slices_IndexFunc_int64_int64_impl_ValidWiring_1 {w0 : World} {l0 : List (List (Int))} {A0 : Option Addr} {cap0 : Nat} {fp0 : List Nat} {r : (Int)} (hm : m_slices_IndexFunc_int64_int64_impl_ValidWiring_1 l0 = some r) (F0 : SlR 1 encI w0 fp0 A0 l0) :
    Calls Try.prog 202 #[.slice A0 (l0).length cap0, .func (.func 181) #[] #[]] w0 fun e w' => e = .returned (.int .i64 (r)) ∧ Chg [] w0 w' := by
  have L0 := F0.low
  have hB : Chg [] w0 w0 := Chg.refl _ _
  have hZ := Nat.le_refl w0.heap.size
  unfold m_slices_IndexFunc_int64_int64_impl_ValidWiring_1 at hm
  refine enterE (N := 19) Try.func202 (by rfl) Try.ntmps202 (by simp) [(0, .slice A0 (l0).length cap0), (1, .func (.func 181) #[] #[])] (by rfl) (by kernel_rfl) (fun a => ?_)
  refine cW_seq ?_
  refine cW_region ?_
  refine wS_pure 1 [(4, .int .i64 (0))] (by kernel_rfl) ?_
  refine wS_end (by rfl) ?_
  refine eX_then ?_
  refine cW_seq ?_
  refine cW_seq ?_
  refine cW_region ?_
  refine wS_pure 3 [(8, .int .i64 (0)), (7, .int .i64 (((l0).length : Int))), (6, .slice A0 (l0).length cap0)] (by kernel_rfl) ?_
  refine wS_end (by rfl) ?_
  refine eX_then ?_
  obtain ⟨r41, hr42, hm⟩ := bindE hm
  have hm43 := hm
  refine cW_cut (fun a' w' => Sum.inl (()) = r41 ∧ Fr 19 [] a' ∧ Chg [] w0 w' ∧ w0.heap.size ≤ w'.heap.size) ?_ ?_
  · refine cW_block ?_
    refine cW_loop _ (fun (s44 : Int) a' w' => ∃ x38 : Int, x38 = s44 ∧ Fr 19 [(0, .slice A0 (l0).length cap0), (1, .func (.func 181) #[] #[]), (7, .int .i64 (((l0).length : Int))), (8, .int .i64 (x38))] a' ∧ SlR 1 encI w' fp0 A0 l0 ∧ Chg [] w0 w' ∧ w0.heap.size ≤ w'.heap.size) hr42 (fun hst => ⟨0, rfl, Fr.of hst (by kernel_rfl), F0, hB, hZ⟩) ?_
    rintro _ c45 a' w37 ⟨x38, rfl, hF39, F40, hB, hZ⟩ hx46
    refine Fr.goOn hF39 (by kernel_rfl) ?_
    have hm := hx46
    unfold m_slices_IndexFunc_int64_int64_impl_ValidWiring_1_s1 at hm
    refine cW_seq ?_
    refine cW_region ?_
    refine wS_pure 1 [(9, .bool (decide (x38 < (((l0).length : Int)))))] (by kernel_rfl) ?_
    refine wS_end (by rfl) ?_
    refine eX_then ?_
    refine cW_seq ?_
    refine cW_cond (t := decide (x38 < (((l0).length : Int)))) (by kernel_rfl) (fun hb47 => ?_) (fun hb47 => ?_)
    · have hm := condT hb47 hm
      refine cW_skip ?_
      refine eX_then ?_
      refine cW_seq ?_
      refine cW_block ?_
      refine cW_seq ?_
      refine cW_region ?_
      refine wS_pure 2 [(5, .int .i64 (x38)), (10, .int .i64 (x38))] (by kernel_rfl) ?_
      refine wS_end (by rfl) ?_
      refine eX_then ?_
      refine cW_seq ?_
      refine cW_region ?_
      refine wS_pure 3 [(13, .int .i64 (x38)), (12, .slice A0 (l0).length cap0), (11, .func (.func 181) #[] #[])] (by kernel_rfl) ?_
      obtain ⟨x48, hx49, hm⟩ := bindE hm
      refine wS_idx (d := 14) (T := 40) (A := A0) (n := (l0).length) (cap := cap0) (kd := .i64) (m := x38) (by kernel_rfl) sl40 (F40.is hx49) ?_
      obtain ⟨A50, cap51, hc53, F52, K54⟩ := SlR.row F40 hx49
      refine wS_load1 (d := 15) (T := 25) (ad := (elA A0 1 (x38) 0)) (v := .slice A50 (x48).length cap51) (by kernel_rfl) vt25 hc53 ?_
      obtain ⟨y56, hy57, hm⟩ := bindE hm
      refine wS_calls (d := 16) (f := 181) (vs := [.slice A50 (x48).length cap51]) (by kernel_rfl) ent181 (c_impl_ValidWiring_1 hy57 F52) ?_
      rintro _ w58 ⟨rfl, hc59⟩
      replace F40 := F40.chg hc59 Dj.nil
      replace F52 := F52.chg hc59 Dj.nil
      replace hB := hB.inS hc59 inNil
      replace hZ := Nat.le_trans hZ hc59.size
      refine ⟨.bool (y56), rfl, ?_⟩
      refine wS_end (by rfl) ?_
      refine eX_then ?_
      refine cW_cond (t := y56) (by kernel_rfl) (fun hb60 => ?_) (fun hb60 => ?_)
      · have hm := condT hb60 hm
        refine cW_seq ?_
        refine cW_region ?_
        refine wS_pure 2 [(4, .int .i64 (x38)), (17, .int .i64 (x38))] (by kernel_rfl) ?_
        refine wS_end (by rfl) ?_
        refine eX_then ?_
        refine cW_ret ?_
        refine eX_block_ret ?_
        refine eX_then_ret ?_
        have hq : (some (Ctl.out (Sum.inr x38)) : Option (Ctl (Int) (Sum (Unit) ((Int))))) = some _ := hm
        replace hq := someE hq
        subst hq
        refine eX_outR hx46 (fun hr => ?_)
        subst hr
        refine eX_block_ret ?_
        refine eX_then_ret ?_
        refine eX_then_ret ?_
        have hq : (some x38 : Option ((Int))) = some _ := hm43
        replace hq := someE hq
        subst hq
        refine eX_ret (vs := [.int .i64 (x38)]) [.tmp 4] (by rfl) ⟨by (show lkE _ _ _ = _); kernel_rfl, trivial⟩ ?_
        exact ⟨rfl, hB⟩
      · have hm := condF hb60 hm
        refine cW_skip ?_
        refine eX_block ?_
        refine eX_then ?_
        refine cW_region ?_
        refine wS_pure 2 [(8, .int .i64 (wr (x38 + 1))), (18, .int .i64 (wr (x38 + 1)))] (by kernel_rfl) ?_
        refine wS_end (by rfl) ?_
        have hq : (some (Ctl.next (wr (x38 + 1))) : Option (Ctl (Int) (Sum (Unit) ((Int))))) = some _ := hm
        replace hq := someE hq
        subst hq
        exact eX_next hx46 (fun hst => ⟨wr (x38 + 1), rfl, Fr.of hst (by kernel_rfl), F40, hB, hZ⟩)
    · have hm := condF hb47 hm
      refine cW_exit ?_
      refine eX_then_exit ?_
      have hq : (some (Ctl.out (Sum.inl (()))) : Option (Ctl (Int) (Sum (Unit) ((Int))))) = some _ := hm
      replace hq := someE hq
      subst hq
      refine eX_outX hx46 (fun hr61 => ?_)
      replace hr61 := hr61.symm
      subst hr61
      refine eX_block_hit ?_
      exact eX_J (fun hst => ⟨rfl, Fr.of hst (by kernel_rfl), hB, hZ⟩)
  · rintro a' w35 ⟨hJ, hF36, hB, hZ⟩
    subst hJ
    refine Fr.goX hF36 (by kernel_rfl) ?_
    refine eX_then ?_
    refine cW_seq ?_
    refine cW_region ?_
    refine wS_pure 1 [(4, .int .i64 ((-1)))] (by kernel_rfl) ?_
    refine wS_end (by rfl) ?_
    refine eX_then ?_
    refine cW_ret ?_
    have hq : (some ((-1)) : Option ((Int))) = some _ := hm
    replace hq := someE hq
    subst hq
    refine eX_ret (vs := [.int .i64 ((-1))]) [.tmp 4] (by rfl) ⟨by (show lkE _ _ _ = _); kernel_rfl, trivial⟩ ?_
    exact ⟨rfl, hB⟩

set_option maxRecDepth 100000 in
/-- slices.ContainsFunc[[][]int64,[]int64] -/
theorem c_slices_ContainsFunc_int64_int64_impl_ValidWiring_1 {w0 : World} {l0 : List (List (Int))} {A0 : Option Addr} {cap0 : Nat} {fp0 : List Nat} {r : (Bool)} (hm : m_slices_ContainsFunc_int64_int64_impl_ValidWiring_1 l0 = some r) (F0 : SlR 1 encI w0 fp0 A0 l0) :
    Calls Try.prog 180 #[.slice A0 (l0).length cap0, .func (.func 181) #[] #[]] w0 fun e w' => e = .returned (.bool (r)) ∧ Chg [] w0 w' := by
  have L0 := F0.low
  have hB : Chg [] w0 w0 := Chg.refl _ _
  have hZ := Nat.le_refl w0.heap.size
  unfold m_slices_ContainsFunc_int64_int64_impl_ValidWiring_1 at hm
  refine enterE (N := 9) Try.func180 (by rfl) Try.ntmps180 (by simp) [(0, .slice A0 (l0).length cap0), (1, .func (.func 181) #[] #[])] (by rfl) (by kernel_rfl) (fun a => ?_)
  refine cW_seq ?_
  refine cW_region ?_
  refine wS_pure 1 [(4, .bool (false))] (by kernel_rfl) ?_
  refine wS_end (by rfl) ?_
  refine eX_then ?_
  refine cW_seq ?_
  refine cW_region ?_
  refine wS_pure 2 [(6, .func (.func 181) #[] #[]), (5, .slice A0 (l0).length cap0)] (by kernel_rfl) ?_
  obtain ⟨y2, hy3, hm⟩ := bindE hm
  refine wS_calls (d := 7) (f := 202) (vs := [.slice A0 (l0).length cap0, .func (.func 181) #[] #[]]) (by kernel_rfl) ent202 (c_slices_IndexFunc_int64_int64_impl_ValidWiring_1 hy3 F0) ?_
  rintro _ w4 ⟨rfl, hc5⟩
  replace F0 := F0.chg hc5 Dj.nil
  replace hB := hB.inS hc5 inNil
  replace hZ := Nat.le_trans hZ hc5.size
  refine ⟨.int .i64 (y2), rfl, ?_⟩
  refine wS_pure 2 [(4, .bool (decide (y2 ≥ 0))), (8, .bool (decide (y2 ≥ 0)))] (by kernel_rfl) ?_
  refine wS_end (by rfl) ?_
  refine eX_then ?_
  refine cW_ret ?_
  have hq : (some (decide (y2 ≥ 0)) : Option ((Bool))) = some _ := hm
  replace hq := someE hq
  subst hq
  refine eX_ret (vs := [.bool (decide (y2 ≥ 0))]) [.tmp 4] (by rfl) ⟨by (show lkE _ _ _ = _); kernel_rfl, trivial⟩ ?_
  exact ⟨rfl, hB⟩

set_option maxRecDepth 100000 in
/-- slices.IndexFunc[[]int64,int64] -/
theorem c_slices_IndexFunc_int64_int64_impl_ValidWiring_2 {w0 : World} {l0 : List (Int)} {A0 : Option Addr} {cap0 : Nat} {fp0 : List Nat} {r : (Int)} (hm : m_slices_IndexFunc_int64_int64_impl_ValidWiring_2 l0 = some r) (F0 : Sl 1 encI w0 fp0 A0 l0) :
    Calls Try.prog 191 #[.slice A0 (l0).length cap0, .func (.func 182) #[] #[]] w0 fun e w' => e = .returned (.int .i64 (r)) ∧ Chg [] w0 w' := by
  have L0 := F0.low
  have hB : Chg [] w0 w0 := Chg.refl _ _
  have hZ := Nat.le_refl w0.heap.size
  unfold m_slices_IndexFunc_int64_int64_impl_ValidWiring_2 at hm
  refine enterE (N := 19) Try.func191 (by rfl) Try.ntmps191 (by simp) [(0, .slice A0 (l0).length cap0), (1, .func (.func 182) #[] #[])] (by rfl) (by kernel_rfl) (fun a => ?_)
  refine cW_seq ?_
  refine cW_region ?_
  refine wS_pure 1 [(4, .int .i64 (0))] (by kernel_rfl) ?_
  refine wS_end (by rfl) ?_
  refine eX_then ?_
  refine cW_seq ?_
  refine cW_seq ?_
  refine cW_region ?_
  refine wS_pure 3 [(8, .int .i64 (0)), (7, .int .i64 (((l0).length : Int))), (6, .slice A0 (l0).length cap0)] (by kernel_rfl) ?_
  refine wS_end (by rfl) ?_
  refine eX_then ?_
  obtain ⟨r29, hr30, hm⟩ := bindE hm
  have hm31 := hm
  refine cW_cut (fun a' w' => Sum.inl (()) = r29 ∧ Fr 19 [] a' ∧ Chg [] w0 w' ∧ w0.heap.size ≤ w'.heap.size) ?_ ?_
  · refine cW_block ?_
    refine cW_loop _ (fun (s32 : Int) a' w' => ∃ x26 : Int, x26 = s32 ∧ Fr 19 [(0, .slice A0 (l0).length cap0), (1, .func (.func 182) #[] #[]), (7, .int .i64 (((l0).length : Int))), (8, .int .i64 (x26))] a' ∧ Sl 1 encI w' fp0 A0 l0 ∧ Chg [] w0 w' ∧ w0.heap.size ≤ w'.heap.size) hr30 (fun hst => ⟨0, rfl, Fr.of hst (by kernel_rfl), F0, hB, hZ⟩) ?_
    rintro _ c33 a' w25 ⟨x26, rfl, hF27, F28, hB, hZ⟩ hx34
    refine Fr.goOn hF27 (by kernel_rfl) ?_
    have hm := hx34
    unfold m_slices_IndexFunc_int64_int64_impl_ValidWiring_2_s1 at hm
    refine cW_seq ?_
    refine cW_region ?_
    refine wS_pure 1 [(9, .bool (decide (x26 < (((l0).length : Int)))))] (by kernel_rfl) ?_
    refine wS_end (by rfl) ?_
    refine eX_then ?_
    refine cW_seq ?_
    refine cW_cond (t := decide (x26 < (((l0).length : Int)))) (by kernel_rfl) (fun hb35 => ?_) (fun hb35 => ?_)
    · have hm := condT hb35 hm
      refine cW_skip ?_
      refine eX_then ?_
      refine cW_seq ?_
      refine cW_block ?_
      refine cW_seq ?_
      refine cW_region ?_
      refine wS_pure 2 [(5, .int .i64 (x26)), (10, .int .i64 (x26))] (by kernel_rfl) ?_
      refine wS_end (by rfl) ?_
      refine eX_then ?_
      refine cW_seq ?_
      refine cW_region ?_
      refine wS_pure 3 [(13, .int .i64 (x26)), (12, .slice A0 (l0).length cap0), (11, .func (.func 182) #[] #[])] (by kernel_rfl) ?_
      obtain ⟨x36, hx37, hm⟩ := bindE hm
      refine wS_idx (d := 14) (T := 25) (A := A0) (n := (l0).length) (cap := cap0) (kd := .i64) (m := x26) (by kernel_rfl) sl25 (F28.is hx37) ?_
      refine wS_load1 (d := 15) (T := 2) (ad := (elA A0 1 (x26) 0)) (v := .int .i64 (x36)) (by kernel_rfl) vt2 (Sl.cell F28 hx37 0 (by rfl)) ?_
      obtain ⟨y38, hy39, hm⟩ := bindE hm
      refine wS_calls (d := 16) (f := 182) (vs := [.int .i64 (x36)]) (by kernel_rfl) ent182 (c_impl_ValidWiring_2 hy39) ?_
      rintro _ w40 ⟨rfl, hc41⟩
      replace F28 := F28.chg hc41 Dj.nil
      replace hB := hB.inS hc41 inNil
      replace hZ := Nat.le_trans hZ hc41.size
      refine ⟨.bool (y38), rfl, ?_⟩
      refine wS_end (by rfl) ?_
      refine eX_then ?_
      refine cW_cond (t := y38) (by kernel_rfl) (fun hb42 => ?_) (fun hb42 => ?_)
      · have hm := condT hb42 hm
        refine cW_seq ?_
        refine cW_region ?_
        refine wS_pure 2 [(4, .int .i64 (x26)), (17, .int .i64 (x26))] (by kernel_rfl) ?_
        refine wS_end (by rfl) ?_
        refine eX_then ?_
        refine cW_ret ?_
        refine eX_block_ret ?_
        refine eX_then_ret ?_
        have hq : (some (Ctl.out (Sum.inr x26)) : Option (Ctl (Int) (Sum (Unit) ((Int))))) = some _ := hm
        replace hq := someE hq
        subst hq
        refine eX_outR hx34 (fun hr => ?_)
        subst hr
        refine eX_block_ret ?_
        refine eX_then_ret ?_
        refine eX_then_ret ?_
        have hq : (some x26 : Option ((Int))) = some _ := hm31
        replace hq := someE hq
        subst hq
        refine eX_ret (vs := [.int .i64 (x26)]) [.tmp 4] (by rfl) ⟨by (show lkE _ _ _ = _); kernel_rfl, trivial⟩ ?_
        exact ⟨rfl, hB⟩
      · have hm := condF hb42 hm
        refine cW_skip ?_
        refine eX_block ?_
        refine eX_then ?_
        refine cW_region ?_
        refine wS_pure 2 [(8, .int .i64 (wr (x26 + 1))), (18, .int .i64 (wr (x26 + 1)))] (by kernel_rfl) ?_
        refine wS_end (by rfl) ?_
        have hq : (some (Ctl.next (wr (x26 + 1))) : Option (Ctl (Int) (Sum (Unit) ((Int))))) = some _ := hm
        replace hq := someE hq
        subst hq
        exact eX_next hx34 (fun hst => ⟨wr (x26 + 1), rfl, Fr.of hst (by kernel_rfl), F28, hB, hZ⟩)
    · have hm := condF hb35 hm
      refine cW_exit ?_
      refine eX_then_exit ?_
      have hq : (some (Ctl.out (Sum.inl (()))) : Option (Ctl (Int) (Sum (Unit) ((Int))))) = some _ := hm
      replace hq := someE hq
      subst hq
      refine eX_outX hx34 (fun hr43 => ?_)
      replace hr43 := hr43.symm
      subst hr43
      refine eX_block_hit ?_
      exact eX_J (fun hst => ⟨rfl, Fr.of hst (by kernel_rfl), hB, hZ⟩)
  · rintro a' w23 ⟨hJ, hF24, hB, hZ⟩
    subst hJ
    refine Fr.goX hF24 (by kernel_rfl) ?_
    refine eX_then ?_
    refine cW_seq ?_
    refine cW_region ?_
    refine wS_pure 1 [(4, .int .i64 ((-1)))] (by kernel_rfl) ?_
    refine wS_end (by rfl) ?_
    refine eX_then ?_
    refine cW_ret ?_
    have hq : (some ((-1)) : Option ((Int))) = some _ := hm
    replace hq := someE hq
    subst hq
    refine eX_ret (vs := [.int .i64 ((-1))]) [.tmp 4] (by rfl) ⟨by (show lkE _ _ _ = _); kernel_rfl, trivial⟩ ?_
    exact ⟨rfl, hB⟩

set_option maxRecDepth 100000 in
/-- slices.ContainsFunc[[]int64,int64] -/
theorem c_slices_ContainsFunc_int64_int64_impl_ValidWiring_2 {w0 : World} {l0 : List (Int)} {A0 : Option Addr} {cap0 : Nat} {fp0 : List Nat} {r : (Bool)} (hm : m_slices_ContainsFunc_int64_int64_impl_ValidWiring_2 l0 = some r) (F0 : Sl 1 encI w0 fp0 A0 l0) :
    Calls Try.prog 148 #[.slice A0 (l0).length cap0, .func (.func 182) #[] #[]] w0 fun e w' => e = .returned (.bool (r)) ∧ Chg [] w0 w' := by
  have L0 := F0.low
  have hB : Chg [] w0 w0 := Chg.refl _ _
  have hZ := Nat.le_refl w0.heap.size
  unfold m_slices_ContainsFunc_int64_int64_impl_ValidWiring_2 at hm
  refine enterE (N := 9) Try.func148 (by rfl) Try.ntmps148 (by simp) [(0, .slice A0 (l0).length cap0), (1, .func (.func 182) #[] #[])] (by rfl) (by kernel_rfl) (fun a => ?_)
  refine cW_seq ?_
  refine cW_region ?_
  refine wS_pure 1 [(4, .bool (false))] (by kernel_rfl) ?_
  refine wS_end (by rfl) ?_
  refine eX_then ?_
  refine cW_seq ?_
  refine cW_region ?_
  refine wS_pure 2 [(6, .func (.func 182) #[] #[]), (5, .slice A0 (l0).length cap0)] (by kernel_rfl) ?_
  obtain ⟨y2, hy3, hm⟩ := bindE hm
  refine wS_calls (d := 7) (f := 191) (vs := [.slice A0 (l0).length cap0, .func (.func 182) #[] #[]]) (by kernel_rfl) ent191 (c_slices_IndexFunc_int64_int64_impl_ValidWiring_2 hy3 F0) ?_
  rintro _ w4 ⟨rfl, hc5⟩
  replace F0 := F0.chg hc5 Dj.nil
  replace hB := hB.inS hc5 inNil
  replace hZ := Nat.le_trans hZ hc5.size
  refine ⟨.int .i64 (y2), rfl, ?_⟩
  refine wS_pure 2 [(4, .bool (decide (y2 ≥ 0))), (8, .bool (decide (y2 ≥ 0)))] (by kernel_rfl) ?_
  refine wS_end (by rfl) ?_
  refine eX_then ?_
  refine cW_ret ?_
  have hq : (some (decide (y2 ≥ 0)) : Option ((Bool))) = some _ := hm
  replace hq := someE hq
  subst hq
  refine eX_ret (vs := [.bool (decide (y2 ≥ 0))]) [.tmp 4] (by rfl) ⟨by (show lkE _ _ _ = _); kernel_rfl, trivial⟩ ?_
  exact ⟨rfl, hB⟩

set_option maxRecDepth 100000 in
/-- impl.ValidWiring -/
theorem c_impl_ValidWiring {w0 : World} {p0_0 : Int} {l0_1 : List (List (Int))} {A0_1 : Option Addr} {cap0_1 : Nat} {fp0_1 : List Nat} {l0_2 : List (List (Int))} {A0_2 : Option Addr} {cap0_2 : Nat} {fp0_2 : List Nat} {l0_3 : List (Int)} {A0_3 : Option Addr} {cap0_3 : Nat} {fp0_3 : List Nat} {r : (Bool)} (hm : m_impl_ValidWiring p0_0 l0_1 l0_2 l0_3 = some r) (F0_1 : SlR 1 encI w0 fp0_1 A0_1 l0_1) (F0_2 : SlR 1 encI w0 fp0_2 A0_2 l0_2) (F0_3 : Sl 1 encI w0 fp0_3 A0_3 l0_3) :
    Calls Try.prog 127 #[.agg #[.int .i64 (p0_0), .slice A0_1 (l0_1).length cap0_1, .slice A0_2 (l0_2).length cap0_2, .slice A0_3 (l0_3).length cap0_3]] w0 fun e w' => e = .returned (.bool (r)) ∧ Chg [] w0 w' := by
  have L0_1 := F0_1.low
  have L0_2 := F0_2.low
  have L0_3 := F0_3.low
  have hB : Chg [] w0 w0 := Chg.refl _ _
  have hZ := Nat.le_refl w0.heap.size
  unfold m_impl_ValidWiring at hm
  refine enterE (N := 34) Try.func127 (by rfl) Try.ntmps127 (by simp) [(0, .agg #[.int .i64 (p0_0), .slice A0_1 (l0_1).length cap0_1, .slice A0_2 (l0_2).length cap0_2, .slice A0_3 (l0_3).length cap0_3])] (by rfl) (by kernel_rfl) (fun a => ?_)
  refine cW_seq ?_
  refine cW_region ?_
  refine wS_box (d := 1) (T := 83) (x := .agg #[.int .i64 (p0_0), .slice A0_1 (l0_1).length cap0_1, .slice A0_2 (l0_2).length cap0_2, .slice A0_3 (l0_3).length cap0_3]) (by kernel_rfl) ?_
  intro b4 w5 G6 F7 hc8
  replace F7 : Cl w5 b4 83 [.int .i64 (p0_0), .slice A0_1 (l0_1).length cap0_1, .slice A0_2 (l0_2).length cap0_2, .slice A0_3 (l0_3).length cap0_3] := F7
  replace F0_1 := F0_1.chg hc8 Dj.nil
  replace F0_2 := F0_2.chg hc8 Dj.nil
  replace F0_3 := F0_3.chg hc8 Dj.nil
  replace hB := hB.inS hc8 inNil
  replace G6 := Nat.le_trans hZ G6
  replace hZ := Nat.le_trans hZ hc8.size
  refine wS_pure 1 [(2, .bool (false))] (by kernel_rfl) ?_
  refine wS_end (by rfl) ?_
  refine eX_then ?_
  refine cW_seq ?_
  refine cW_seq ?_
  refine cW_region ?_
  refine wS_pure 1 [(3, .pointer (some ⟨b4, 0, none⟩))] (by kernel_rfl) ?_
  refine wS_load1 (d := 4) (T := 2) (ad := ⟨b4, 0, none⟩) (v := .int .i64 (p0_0)) (by kernel_rfl) vt2 ((F7).cell 0) ?_
  obtain ⟨y10, hy11, hm⟩ := bindE hm
  refine wS_calls (d := 5) (f := 71) (vs := [.int .i64 (p0_0), .int .i64 (0), .int .i64 (14)]) (by kernel_rfl) ent71 (c_impl_in hy11) ?_
  rintro _ w12 ⟨rfl, hc13⟩
  replace F0_1 := F0_1.chg hc13 Dj.nil
  replace F0_2 := F0_2.chg hc13 Dj.nil
  replace F0_3 := F0_3.chg hc13 Dj.nil
  replace F7 := F7.chg hc13 notNil
  replace hB := hB.inS hc13 inNil
  replace hZ := Nat.le_trans hZ hc13.size
  refine ⟨.bool (y10), rfl, ?_⟩
  refine wS_pure 2 [(7, .bool (!y10)), (6, .bool (!y10))] (by kernel_rfl) ?_
  refine wS_bool (!y10) (fun hb14 => ?_) (fun hb14 => ?_)
  · have hm := condT hb14 hm
    rewrite [hb14]
    refine wS_pure 19 [(26, .bool (true)), (25, undef), (24, undef), (23, undef), (22, undef), (21, .bool (true)), (20, .bool (true)), (19, undef), (18, undef), (17, undef), (16, undef), (15, .bool (true)), (14, .bool (true)), (13, undef), (12, undef), (11, undef), (10, undef), (9, undef), (8, undef)] (by kernel_rfl) ?_
    refine wS_end (by rfl) ?_
    refine eX_then ?_
    refine cW_prune [(1, .pointer (some ⟨b4, 0, none⟩)), (26, .bool (true))] (by kernel_rfl) (by kernel_rfl) (fun a15 => ?_)
    refine cW_cond_t (by kernel_rfl) ?_
    refine cW_seq ?_
    refine cW_region ?_
    refine wS_pure 1 [(2, .bool (false))] (by kernel_rfl) ?_
    refine wS_end (by rfl) ?_
    refine eX_then ?_
    refine cW_ret ?_
    refine eX_then_ret ?_
    have hq : (some false : Option ((Bool))) = some _ := hm
    replace hq := someE hq
    subst hq
    refine eX_ret (vs := [.bool (false)]) [.tmp 2] (by rfl) ⟨by (show lkE _ _ _ = _); kernel_rfl, trivial⟩ ?_
    exact ⟨rfl, hB⟩
  · have hm := condF hb14 hm
    rewrite [hb14]
    refine wS_pure 1 [(8, .pointer (some ⟨b4, 3, none⟩))] (by kernel_rfl) ?_
    refine wS_load1 (d := 9) (T := 25) (ad := ⟨b4, 3, none⟩) (v := .slice A0_3 (l0_3).length cap0_3) (by kernel_rfl) vt25 ((F7).cell 3) ?_
    refine wS_pure 2 [(11, .pointer (some ⟨b4, 0, none⟩)), (10, .int .i64 (((l0_3).length : Int)))] (by kernel_rfl) ?_
    refine wS_load1 (d := 12) (T := 2) (ad := ⟨b4, 0, none⟩) (v := .int .i64 (p0_0)) (by kernel_rfl) vt2 ((F7).cell 0) ?_
    refine wS_pure 3 [(15, .bool ((((l0_3).length : Int)) != p0_0)), (14, .bool ((((l0_3).length : Int)) != p0_0)), (13, .bool ((((l0_3).length : Int)) != p0_0))] (by kernel_rfl) ?_
    refine wS_bool ((((l0_3).length : Int)) != p0_0) (fun hb16 => ?_) (fun hb16 => ?_)
    · have hm := condT hb16 hm
      rewrite [hb16]
      refine wS_pure 11 [(26, .bool (true)), (25, undef), (24, undef), (23, undef), (22, undef), (21, .bool (true)), (20, .bool (true)), (19, undef), (18, undef), (17, undef), (16, undef)] (by kernel_rfl) ?_
      refine wS_end (by rfl) ?_
      refine eX_then ?_
      refine cW_prune [(1, .pointer (some ⟨b4, 0, none⟩)), (26, .bool (true))] (by kernel_rfl) (by kernel_rfl) (fun a17 => ?_)
      refine cW_cond_t (by kernel_rfl) ?_
      refine cW_seq ?_
      refine cW_region ?_
      refine wS_pure 1 [(2, .bool (false))] (by kernel_rfl) ?_
      refine wS_end (by rfl) ?_
      refine eX_then ?_
      refine cW_ret ?_
      refine eX_then_ret ?_
      have hq : (some false : Option ((Bool))) = some _ := hm
      replace hq := someE hq
      subst hq
      refine eX_ret (vs := [.bool (false)]) [.tmp 2] (by rfl) ⟨by (show lkE _ _ _ = _); kernel_rfl, trivial⟩ ?_
      exact ⟨rfl, hB⟩
    · have hm := condF hb16 hm
      rewrite [hb16]
      refine wS_pure 1 [(16, .pointer (some ⟨b4, 1, none⟩))] (by kernel_rfl) ?_
      refine wS_load1 (d := 17) (T := 40) (ad := ⟨b4, 1, none⟩) (v := .slice A0_1 (l0_1).length cap0_1) (by kernel_rfl) vt40 ((F7).cell 1) ?_
      obtain ⟨y18, hy19, hm⟩ := bindE hm
      refine wS_calls (d := 18) (f := 179) (vs := [.pointer (some ⟨b4, 0, none⟩), .slice A0_1 (l0_1).length cap0_1, .int .i64 (2)]) (by kernel_rfl) ent179 (c_impl_Wiring_pairsOk_bimplWiring hy19 F0_1 F0_2 F0_3 F7 F0_1) ?_
      rintro _ w20 ⟨rfl, hc21⟩
      replace F0_1 := F0_1.chg hc21 Dj.nil
      replace F0_2 := F0_2.chg hc21 Dj.nil
      replace F0_3 := F0_3.chg hc21 Dj.nil
      replace F7 := F7.chg hc21 notNil
      replace hB := hB.inS hc21 inNil
      replace hZ := Nat.le_trans hZ hc21.size
      refine ⟨.bool (y18), rfl, ?_⟩
      refine wS_pure 3 [(21, .bool (!y18)), (20, .bool (!y18)), (19, .bool (!y18))] (by kernel_rfl) ?_
      refine wS_bool (!y18) (fun hb22 => ?_) (fun hb22 => ?_)
      · have hm := condT hb22 hm
        rewrite [hb22]
        refine wS_pure 5 [(26, .bool (true)), (25, undef), (24, undef), (23, undef), (22, undef)] (by kernel_rfl) ?_
        refine wS_end (by rfl) ?_
        refine eX_then ?_
        refine cW_prune [(1, .pointer (some ⟨b4, 0, none⟩)), (26, .bool (true))] (by kernel_rfl) (by kernel_rfl) (fun a23 => ?_)
        refine cW_cond_t (by kernel_rfl) ?_
        refine cW_seq ?_
        refine cW_region ?_
        refine wS_pure 1 [(2, .bool (false))] (by kernel_rfl) ?_
        refine wS_end (by rfl) ?_
        refine eX_then ?_
        refine cW_ret ?_
        refine eX_then_ret ?_
        have hq : (some false : Option ((Bool))) = some _ := hm
        replace hq := someE hq
        subst hq
        refine eX_ret (vs := [.bool (false)]) [.tmp 2] (by rfl) ⟨by (show lkE _ _ _ = _); kernel_rfl, trivial⟩ ?_
        exact ⟨rfl, hB⟩
      · have hm := condF hb22 hm
        rewrite [hb22]
        refine wS_pure 1 [(22, .pointer (some ⟨b4, 2, none⟩))] (by kernel_rfl) ?_
        refine wS_load1 (d := 23) (T := 40) (ad := ⟨b4, 2, none⟩) (v := .slice A0_2 (l0_2).length cap0_2) (by kernel_rfl) vt40 ((F7).cell 2) ?_
        obtain ⟨y24, hy25, hm⟩ := bindE hm
        refine wS_calls (d := 24) (f := 179) (vs := [.pointer (some ⟨b4, 0, none⟩), .slice A0_2 (l0_2).length cap0_2, .int .i64 (3)]) (by kernel_rfl) ent179 (c_impl_Wiring_pairsOk_bimplWiring hy25 F0_1 F0_2 F0_3 F7 F0_2) ?_
        rintro _ w26 ⟨rfl, hc27⟩
        replace F0_1 := F0_1.chg hc27 Dj.nil
        replace F0_2 := F0_2.chg hc27 Dj.nil
        replace F0_3 := F0_3.chg hc27 Dj.nil
        replace F7 := F7.chg hc27 notNil
        replace hB := hB.inS hc27 inNil
        replace hZ := Nat.le_trans hZ hc27.size
        refine ⟨.bool (y24), rfl, ?_⟩
        refine wS_pure 2 [(26, .bool (!y24)), (25, .bool (!y24))] (by kernel_rfl) ?_
        refine wS_end (by rfl) ?_
        refine eX_then ?_
        refine cW_prune [(1, .pointer (some ⟨b4, 0, none⟩)), (26, .bool (!y24))] (by kernel_rfl) (by kernel_rfl) (fun a28 => ?_)
        refine cW_cond (t := !y24) (by kernel_rfl) (fun hb29 => ?_) (fun hb29 => ?_)
        · have hm := condT hb29 hm
          refine cW_seq ?_
          refine cW_region ?_
          refine wS_pure 1 [(2, .bool (false))] (by kernel_rfl) ?_
          refine wS_end (by rfl) ?_
          refine eX_then ?_
          refine cW_ret ?_
          refine eX_then_ret ?_
          have hq : (some false : Option ((Bool))) = some _ := hm
          replace hq := someE hq
          subst hq
          refine eX_ret (vs := [.bool (false)]) [.tmp 2] (by rfl) ⟨by (show lkE _ _ _ = _); kernel_rfl, trivial⟩ ?_
          exact ⟨rfl, hB⟩
        · have hm := condF hb29 hm
          refine cW_skip ?_
          refine eX_then ?_
          refine cW_seq ?_
          refine cW_seq ?_
          refine cW_region ?_
          refine wS_pure 1 [(27, .pointer (some ⟨b4, 2, none⟩))] (by kernel_rfl) ?_
          refine wS_load1 (d := 28) (T := 40) (ad := ⟨b4, 2, none⟩) (v := .slice A0_2 (l0_2).length cap0_2) (by kernel_rfl) vt40 ((F7).cell 2) ?_
          obtain ⟨y30, hy31, hm⟩ := bindE hm
          refine wS_calls (d := 29) (f := 180) (vs := [.slice A0_2 (l0_2).length cap0_2, .func (.func 181) #[] #[]]) (by kernel_rfl) ent180 (c_slices_ContainsFunc_int64_int64_impl_ValidWiring_1 hy31 F0_2) ?_
          rintro _ w32 ⟨rfl, hc33⟩
          replace F0_1 := F0_1.chg hc33 Dj.nil
          replace F0_2 := F0_2.chg hc33 Dj.nil
          replace F0_3 := F0_3.chg hc33 Dj.nil
          replace F7 := F7.chg hc33 notNil
          replace hB := hB.inS hc33 inNil
          replace hZ := Nat.le_trans hZ hc33.size
          refine ⟨.bool (y30), rfl, ?_⟩
          refine wS_end (by rfl) ?_
          refine eX_then ?_
          refine cW_cond (t := y30) (by kernel_rfl) (fun hb34 => ?_) (fun hb34 => ?_)
          · have hm := condT hb34 hm
            refine cW_seq ?_
            refine cW_region ?_
            refine wS_pure 1 [(2, .bool (false))] (by kernel_rfl) ?_
            refine wS_end (by rfl) ?_
            refine eX_then ?_
            refine cW_ret ?_
            refine eX_then_ret ?_
            have hq : (some false : Option ((Bool))) = some _ := hm
            replace hq := someE hq
            subst hq
            refine eX_ret (vs := [.bool (false)]) [.tmp 2] (by rfl) ⟨by (show lkE _ _ _ = _); kernel_rfl, trivial⟩ ?_
            exact ⟨rfl, hB⟩
          · have hm := condF hb34 hm
            refine cW_skip ?_
            refine eX_then ?_
            refine cW_seq ?_
            refine cW_region ?_
            refine wS_pure 1 [(30, .pointer (some ⟨b4, 3, none⟩))] (by kernel_rfl) ?_
            refine wS_load1 (d := 31) (T := 25) (ad := ⟨b4, 3, none⟩) (v := .slice A0_3 (l0_3).length cap0_3) (by kernel_rfl) vt25 ((F7).cell 3) ?_
            obtain ⟨y35, hy36, hm⟩ := bindE hm
            refine wS_calls (d := 32) (f := 148) (vs := [.slice A0_3 (l0_3).length cap0_3, .func (.func 182) #[] #[]]) (by kernel_rfl) ent148 (c_slices_ContainsFunc_int64_int64_impl_ValidWiring_2 hy36 F0_3) ?_
            rintro _ w37 ⟨rfl, hc38⟩
            replace F0_1 := F0_1.chg hc38 Dj.nil
            replace F0_2 := F0_2.chg hc38 Dj.nil
            replace F0_3 := F0_3.chg hc38 Dj.nil
            replace F7 := F7.chg hc38 notNil
            replace hB := hB.inS hc38 inNil
            replace hZ := Nat.le_trans hZ hc38.size
            refine ⟨.bool (y35), rfl, ?_⟩
            refine wS_pure 2 [(2, .bool (!y35)), (33, .bool (!y35))] (by kernel_rfl) ?_
            refine wS_end (by rfl) ?_
            refine eX_then ?_
            refine cW_ret ?_
            have hq : (some (!y35) : Option ((Bool))) = some _ := hm
            replace hq := someE hq
            subst hq
            refine eX_ret (vs := [.bool (!y35)]) [.tmp 2] (by rfl) ⟨by (show lkE _ _ _ = _); kernel_rfl, trivial⟩ ?_
            exact ⟨rfl, hB⟩

set_option maxRecDepth 100000 in
/-- impl.WiringOf$1 -/
theorem c_impl_WiringOf_1_bimplPoint {w0 : World} {l0 : List (Int)} {A0 : Option Addr} {cap0 : Nat} {fp0 : List Nat} {l1_0 : List (List (Int × Int))} {A1_0 : Option Addr} {cap1_0 : Nat} {fp1_0 : List Nat} {b1 : Nat} {r : (List (Int × Int))} (hm : m_impl_WiringOf_1_bimplPoint l0 l1_0 = some r) (F0 : Sl 1 encI w0 fp0 A0 l0) (F1_0 : SlR 2 encII w0 fp1_0 A1_0 l1_0) (F1 : Cl w0 b1 31 [.slice A1_0 (l1_0).length cap1_0]) :
    Calls Try.prog 125 #[.slice A0 (l0).length cap0, .pointer (some ⟨b1, 0, none⟩)] w0 fun e w' => ∃ A100 cap100 fp100, e = .returned (.slice A100 (r).length cap100) ∧ Sl 2 encII w' fp100 A100 r ∧ Rt w0.heap.size (fp0 ++ (fp1_0 ++ [])) fp100 ∧ (r).length ≤ cap100 ∧ Chg [] w0 w' := by
  have L0 := F0.low
  have L1_0 := F1_0.low
  have L1 := lt1 F1.lt
  have hB : Chg [] w0 w0 := Chg.refl _ _
  have hZ := Nat.le_refl w0.heap.size
  unfold m_impl_WiringOf_1_bimplPoint at hm
  refine enterE (N := 19) Try.func125 (by rfl) Try.ntmps125 (by simp) [(0, .slice A0 (l0).length cap0), (1, .pointer (some ⟨b1, 0, none⟩))] (by rfl) (by kernel_rfl) (fun a => ?_)
  refine cW_seq ?_
  refine cW_region ?_
  refine wS_pure 1 [(3, .slice none 0 0)] (by kernel_rfl) ?_
  refine wS_end (by rfl) ?_
  refine eX_then ?_
  refine cW_seq ?_
  refine cW_drawnTail [] 14 (by kernel_rfl) (by kernel_rfl) (fun w44 hc45 => ?_)
  replace F0 := F0.chg hc45 Dj.nil
  replace F1_0 := F1_0.chg hc45 Dj.nil
  replace F1 := F1.chg hc45 notNil
  replace hB := hB.inS hc45 inNil
  replace hZ := Nat.le_trans hZ hc45.size
  have hS := Chg.refl [] w44
  have Z46 := F0
  have Z47 := F1_0
  have Z48 := F1
  refine wH_load1 (i := 0) (d := 4) (T := 31) (ad := ⟨b1, 0, none⟩) (v := .slice A1_0 (l1_0).length cap1_0) (by kernel_rfl) (qT (qT qZ)) (by kernel_rfl) (by kernel_rfl) vt31 (fun W hW => (Z48.chg hW notNil).cell 0) ?_
  refine wH_take [1] [1, 0] [(5, .slice A0 (l0).length cap0)] (by kernel_rfl) (qT (qT qZ)) (by kernel_rfl) ?_
  obtain ⟨x49, hx50, hm⟩ := bindE hm
  refine wH_idx (i := 2) (d := 6) (T := 25) (A := A0) (n := (l0).length) (cap := cap0) (kd := .i64) (m := 0) (by kernel_rfl) (qT (qT qZ)) (by kernel_rfl) (by kernel_rfl) sl25 (F0.is hx50) ?_
  refine wH_load1 (i := 3) (d := 7) (T := 2) (ad := (elA A0 1 (0) 0)) (v := .int .i64 (x49)) (by kernel_rfl) (qT (qT qZ)) (by kernel_rfl) (by kernel_rfl) vt2 (fun W hW => Sl.cell (Z46.chg hW Dj.nil) hx50 0 (by rfl)) ?_
  obtain ⟨x51, hx52, hm⟩ := bindE hm
  refine wH_idx (i := 4) (d := 8) (T := 31) (A := A1_0) (n := (l1_0).length) (cap := cap1_0) (kd := .i64) (m := x49) (by kernel_rfl) (qT (qT qZ)) (by kernel_rfl) (by kernel_rfl) sl31 (F1_0.is hx52) ?_
  obtain ⟨A53, cap54, hc56, F55, K57⟩ := SlR.row Z47 hx52
  refine wH_load1 (i := 5) (d := 9) (T := 32) (ad := (elA A1_0 1 (x49) 0)) (v := .slice A53 (x51).length cap54) (by kernel_rfl) (qT (qT qZ)) (by kernel_rfl) (by kernel_rfl) vt32 (fun W hW => hW.keep hc56) ?_
  refine wH_take [7] [7, 5, 4, 3, 2, 1, 0] [(11, .slice A0 (l0).length cap0)] (by kernel_rfl) (qT (qT qZ)) (by kernel_rfl) ?_
  obtain ⟨x59, hx60, hm⟩ := bindE hm
  refine wH_idx (i := 8) (d := 12) (T := 25) (A := A0) (n := (l0).length) (cap := cap0) (kd := .i64) (m := 1) (by kernel_rfl) (qT (qT qZ)) (by kernel_rfl) (by kernel_rfl) sl25 (F0.is hx60) ?_
  refine wH_load1 (i := 9) (d := 13) (T := 2) (ad := (elA A0 1 (1) 0)) (v := .int .i64 (x59)) (by kernel_rfl) (qT (qT qZ)) (by kernel_rfl) (by kernel_rfl) vt2 (fun W hW => Sl.cell (Z46.chg hW Dj.nil) hx60 0 (by rfl)) ?_
  refine wH_take [10] [10, 9, 8, 7, 5, 4, 3, 2, 1, 0] [(14, .slice A0 (l0).length cap0)] (by kernel_rfl) (qT (qT qZ)) (by kernel_rfl) ?_
  obtain ⟨x61, hx62, hm⟩ := bindE hm
  refine wH_idx (i := 11) (d := 15) (T := 25) (A := A0) (n := (l0).length) (cap := cap0) (kd := .i64) (m := 2) (by kernel_rfl) (qT (qT qZ)) (by kernel_rfl) (by kernel_rfl) sl25 (F0.is hx62) ?_
  refine wH_load1 (i := 12) (d := 16) (T := 2) (ad := (elA A0 1 (2) 0)) (v := .int .i64 (x61)) (by kernel_rfl) (qT (qT qZ)) (by kernel_rfl) (by kernel_rfl) vt2 (fun W hW => Sl.cell (Z46.chg hW Dj.nil) hx62 0 (by rfl)) ?_
  refine wH_take [13] [13, 12, 11, 10, 9, 8, 7, 5, 4, 3, 2, 1, 0] [(17, .int .i64 (wr (x61 + 1)))] (by kernel_rfl) (qT (qT qZ)) (by kernel_rfl) ?_
  refine wH_all [6] (by rfl) (by kernel_rfl) (by simp) ⟨⟨by kernel_rfl, ?_⟩, trivial⟩
  obtain ⟨y63, hy64, hm⟩ := bindE hm
  refine wS_calls (d := 10) (f := 72) (vs := [.slice A53 (x51).length cap54]) (by kernel_rfl) ent72 (c_impl_corners hy64 F55) ?_
  rintro _ w65 ⟨A67, cap68, fp69, rfl, F70, G71, hc66⟩
  replace F0 := F0.chg hc66 Dj.nil
  replace F1_0 := F1_0.chg hc66 Dj.nil
  replace F1 := F1.chg hc66 notNil
  replace F55 := F55.chg hc66 Dj.nil
  replace hB := hB.inS hc66 inNil
  have hSz := hS
  replace hS := hS.inS hc66 inNil
  replace G71 := low_le hZ G71
  replace hZ := Nat.le_trans hZ hc66.size
  refine ⟨.slice A67 (y63).length cap68, rfl, ?_⟩
  refine wS_end (by kernel_rfl) ?_
  refine eX_KH hS ?_
  refine wH_done (by kernel_rfl) ?_
  refine eX_tail ?_
  obtain ⟨y74, hy75, hm⟩ := bindE hm
  refine wS_cutA (enc := encII) (l := y63) (d := 18) (T := 32) (A := A67) (cap := cap68) (vlo := some (.int .i64 (x59))) (vhi := some (.int .i64 (wr (x61 + 1)))) (lo := x59) (hi := wr (x61 + 1)) (n := 0) (by kernel_rfl) sl32 (Or.inl rfl) (Or.inl rfl) (F70.sl encII_ok) F70.cap_le hy75 ?_
  intro A76 cap77 hA80 F78 hcap79
  obtain rfl := slci_slc hy75
  have hlv82 := Eq.refl (y63).length
  have hcz83 := F70.cap_le
  refine wS_pure 1 [(3, .slice A76 (slc y63 x59 (wr (x61 + 1))).length cap77)] (by kernel_rfl) ?_
  refine wS_end (by rfl) ?_
  refine eX_then ?_
  refine cW_ret ?_
  have hq : (some (slc y63 x59 (wr (x61 + 1))) : Option ((List (Int × Int)))) = some _ := hm
  replace hq := someE hq
  subst hq
  refine eX_ret (vs := [.slice A76 (slc y63 x59 (wr (x61 + 1))).length cap77]) [.tmp 3] (by rfl) ⟨by (show lkE _ _ _ = _); kernel_rfl, trivial⟩ ?_
  exact ⟨A76, cap77, fp69, rfl, F78, (Rt.low G71), hcap79, hB⟩

end Go.Proofs.Ytgaecldkiijmpaa
