/- Printed walks: spec.l01DrawGood, spec.B10Path, impl.side, impl.line, slices.Equal[[]impl.Point,impl.Point], impl.through, impl.PathThrough, laws.b10Same, laws.b10Abs, laws.b10Far, laws.FnPathCorners, spec.l01Sign. -/
import Derived.Test.YtdkpfkmmblmlhaaProg
import Derived.Test.YtdkpfkmmblmlhaaWPt01
set_option linter.unusedSimpArgs false
set_option linter.unusedVariables false
namespace Go.Proofs.Ytdkpfkmmblmlhaa
open Go.RowKit
attribute [local irreducible] wS cW eX wH

theorem ent26 : Ent Try.prog 26 := fun _ => by kernel_rfl
theorem ent31 : Ent Try.prog 31 := fun _ => by kernel_rfl
theorem ent39 : Ent Try.prog 39 := fun _ => by kernel_rfl
theorem ent43 : Ent Try.prog 43 := fun _ => by kernel_rfl
theorem ent44 : Ent Try.prog 44 := fun _ => by kernel_rfl
theorem ent45 : Ent Try.prog 45 := fun _ => by kernel_rfl
theorem ent46 : Ent Try.prog 46 := fun _ => by kernel_rfl
theorem ent47 : Ent Try.prog 47 := fun _ => by kernel_rfl
theorem ent91 : Ent Try.prog 91 := fun _ => by kernel_rfl
theorem ent92 : Ent Try.prog 92 := fun _ => by kernel_rfl
theorem ent94 : Ent Try.prog 94 := fun _ => by kernel_rfl
theorem ent96 : Ent Try.prog 96 := fun _ => by kernel_rfl
theorem ent98 : Ent Try.prog 98 := fun _ => by kernel_rfl
theorem ent129 : Ent Try.prog 129 := fun _ => by kernel_rfl
theorem ent130 : Ent Try.prog 130 := fun _ => by kernel_rfl
theorem ent149 : Ent Try.prog 149 := fun _ => by kernel_rfl
theorem sl78 : SlTy Try.prog 78 2 1 := ⟨Try.underlying78, by kernel_rfl⟩
theorem el78 : ElTy Try.prog 78 2 1 (.int .i64 (0)) := ElTy.mk' Try.underlying78 (by kernel_rfl) (by rfl)

set_option maxRecDepth 100000 in
/-- spec.l01DrawGood -/
theorem c_spec_l01DrawGood_bspecl00Src {w0 : World} {l0_0 : List (Int)} {A0_0 : Option Addr} {cap0_0 : Nat} {fp0_0 : List Nat} {q0_1 : Int} {q0_2 : Int} {b0 : Nat} {r : (Int × Int) × (Int) × (Int)} (hm : m_spec_l01DrawGood_bspecl00Src l0_0 q0_1 q0_2 = some r) (F0_0 : Sl 1 encU w0 fp0_0 A0_0 l0_0) (F0 : Cl w0 b0 98 [.slice A0_0 (l0_0).length cap0_0, .int .i64 (q0_1), .int .u64 (q0_2)]) (J0__0_0 : Dj [b0] fp0_0) :
    Calls Try.prog 92 #[.pointer (some ⟨b0, 0, none⟩)] w0 fun e w' => e = .returned (.agg #[.int .i64 (r.1.1), .int .i64 (r.1.2)]) ∧ Cl w' b0 98 [.slice A0_0 (l0_0).length cap0_0, .int .i64 (r.2.1), .int .u64 (r.2.2)] ∧ Chg ([b0] ++ []) w0 w' := by
  have L0_0 := F0_0.low
  have L0 := lt1 F0.lt
  have hB : Chg ([b0] ++ []) w0 w0 := Chg.refl _ _
  have hZ := Nat.le_refl w0.heap.size
  unfold m_spec_l01DrawGood_bspecl00Src at hm
  refine enterE (N := 16) Try.func92 (by rfl) Try.ntmps92 (by simp) [(0, .pointer (some ⟨b0, 0, none⟩))] (by rfl) (by kernel_rfl) (fun a => ?_)
  refine cW_seq ?_
  refine cW_region ?_
  refine wS_alloc (d := 2) (T := 34) (z := .agg #[.int .i64 (0), .int .i64 (0)]) (by kernel_rfl) (by kernel_rfl) ?_
  intro b3 w4 G5 F6 hc7
  replace F6 : Cl w4 b3 34 [.int .i64 (0), .int .i64 (0)] := F6
  replace F0_0 := F0_0.chg hc7 Dj.nil
  replace F0 := F0.chg hc7 notNil
  replace hB := hB.inS hc7 inNil
  replace G5 := Nat.le_trans hZ G5
  replace hZ := Nat.le_trans hZ hc7.size
  refine wS_end (by rfl) ?_
  refine eX_then ?_
  refine cW_seq ?_
  refine cW_region ?_
  refine wS_pure 1 [(3, .int .i64 (10))] (by kernel_rfl) ?_
  refine wS_end (by rfl) ?_
  refine eX_then ?_
  refine cW_seq ?_
  obtain ⟨s23, hs24, hm⟩ := bindE hm
  refine cW_cut (fun a' w' => ∃ x16 : Int, ∃ x17 : Int, ∃ x18 : Int, (x16, x17, x18) = s23 ∧ Fr 16 [(0, .pointer (some ⟨b0, 0, none⟩)), (2, .pointer (some ⟨b3, 0, none⟩)), (3, .int .i64 (x16))] a' ∧ Sl 1 encU w' fp0_0 A0_0 l0_0 ∧ Cl w' b0 98 [.slice A0_0 (l0_0).length cap0_0, .int .i64 (x17), .int .u64 (x18)] ∧ Cl w' b3 34 [.int .i64 (0), .int .i64 (0)] ∧ Chg ([b0] ++ []) w0 w' ∧ w0.heap.size ≤ w'.heap.size) ?_ ?_
  · have hm := hs24
    refine cW_seq ?_
    refine cW_region ?_
    refine wS_pure 1 [(5, .pointer (some ⟨b0, 0, none⟩))] (by kernel_rfl) ?_
    obtain ⟨y25, hy26, hm⟩ := bindE hm
    refine wS_calls (d := 6) (f := 94) (vs := [.pointer (some ⟨b0, 0, none⟩), .int .i64 (8)]) (by kernel_rfl) ent94 (c_spec_l00Src_one_bspecl00Src hy26 F0_0 F0 J0__0_0) ?_
    rintro _ w27 ⟨rfl, F29, hc28⟩
    replace F0_0 := F0_0.chg hc28 (Dj.app (J0__0_0).symm Dj.nil)
    replace F6 := F6.chg hc28 (dj1 (Dj.app (Dj.of L0 (low1 G5)).symm Dj.nil))
    replace hB := hB.inS hc28 (inApp (inMem (fun x hx => (List.mem_append_left _ hx))) inNil)
    replace hZ := Nat.le_trans hZ hc28.size
    clear F0
    refine ⟨.bool (y25.1), rfl, ?_⟩
    refine wS_end (by rfl) ?_
    refine eX_then ?_
    refine cW_cond (t := y25.1) (by kernel_rfl) (fun hb30 => ?_) (fun hb30 => ?_)
    · have hm := condT hb30 hm
      refine cW_region ?_
      refine wS_pure 1 [(3, .int .i64 (100))] (by kernel_rfl) ?_
      refine wS_end (by rfl) ?_
      have hq : (some ((100, y25.2.1, y25.2.2)) : Option (Int × Int × Int)) = some _ := hm
      replace hq := someE hq
      subst hq
      exact eX_J (fun hst => ⟨100, y25.2.1, y25.2.2, rfl, Fr.of hst (by kernel_rfl), F0_0, F29, F6, hB, hZ⟩)
    · have hm := condF hb30 hm
      refine cW_skip ?_
      have hq : (some ((10, y25.2.1, y25.2.2)) : Option (Int × Int × Int)) = some _ := hm
      replace hq := someE hq
      subst hq
      exact eX_J (fun hst => ⟨10, y25.2.1, y25.2.2, rfl, Fr.of hst (by kernel_rfl), F0_0, F29, F6, hB, hZ⟩)
  · rintro a' w15 ⟨x16, x17, x18, hJ, hF19, F20, F21, F22, hB, hZ⟩
    subst hJ
    refine Fr.goX hF19 (by kernel_rfl) ?_
    refine eX_then ?_
    refine cW_seq ?_
    refine cW_region ?_
    refine wS_pure 2 [(8, .int .i64 (x16)), (7, .pointer (some ⟨b0, 0, none⟩))] (by kernel_rfl) ?_
    obtain ⟨y31, hy32, hm⟩ := bindE hm
    refine wS_calls (d := 9) (f := 93) (vs := [.pointer (some ⟨b0, 0, none⟩), .int .i64 (x16)]) (by kernel_rfl) ent93 (c_spec_l00Src_pick_bspecl00Src hy32 F20 F21 J0__0_0) ?_
    rintro _ w33 ⟨rfl, F35, hc34⟩
    replace F20 := F20.chg hc34 (Dj.app (J0__0_0).symm Dj.nil)
    replace F22 := F22.chg hc34 (dj1 (Dj.app (Dj.of L0 (low1 G5)).symm Dj.nil))
    replace hB := hB.inS hc34 (inApp (inMem (fun x hx => (List.mem_append_left _ hx))) inNil)
    replace hZ := Nat.le_trans hZ hc34.size
    clear F21
    refine ⟨.int .i64 (y31.1), rfl, ?_⟩
    refine wS_pure 1 [(10, .agg #[.int .i64 (y31.1), .int .i64 (0)])] (by kernel_rfl) ?_
    refine wS_alloc (d := 4) (T := 34) (z := .agg #[.int .i64 (0), .int .i64 (0)]) (by kernel_rfl) (by kernel_rfl) ?_
    intro b36 w37 G38 F39 hc40
    replace F39 : Cl w37 b36 34 [.int .i64 (0), .int .i64 (0)] := F39
    have D42 : Dj [b3] [b36] := Dj.of (lt1 F22.lt) (low1 G38)
    replace F20 := F20.chg hc40 Dj.nil
    replace F35 := F35.chg hc40 notNil
    replace F22 := F22.chg hc40 notNil
    replace hB := hB.inS hc40 inNil
    replace G38 := Nat.le_trans hZ G38
    replace hZ := Nat.le_trans hZ hc40.size
    refine wS_store (T := 34) (g := b36) (o := 0) (ad := ⟨b36, 0, none⟩) (v := .agg #[.int .i64 (y31.1), .int .i64 (0)]) (vs := [.int .i64 (y31.1), .int .i64 (0)]) (by kernel_rfl) (by rfl) sz34 (by rfl) (by rfl) F39 (by simp only [List.length_cons, List.length_nil]; omega) ?_
    intro w43 F44 hc45
    replace F20 := F20.chg hc45 (Dj.of L0_0 (low1 G38))
    replace F35 := F35.chg hc45 (dj1 (Dj.of L0 (low1 G38)))
    replace F22 := F22.chg hc45 (dj1 D42)
    replace hB := hB.inS hc45 (inLow (low1 G38))
    replace hZ := Nat.le_trans hZ hc45.size
    replace F44 : Cl w43 b36 34 [.int .i64 (y31.1), .int .i64 (0)] := F44
    clear F39
    refine wS_end (by rfl) ?_
    refine eX_then ?_
    refine cW_seq ?_
    refine cW_region ?_
    refine wS_pure 2 [(12, .int .i64 (x16)), (11, .pointer (some ⟨b0, 0, none⟩))] (by kernel_rfl) ?_
    obtain ⟨y46, hy47, hm⟩ := bindE hm
    refine wS_calls (d := 13) (f := 93) (vs := [.pointer (some ⟨b0, 0, none⟩), .int .i64 (x16)]) (by kernel_rfl) ent93 (c_spec_l00Src_pick_bspecl00Src hy47 F20 F35 J0__0_0) ?_
    rintro _ w48 ⟨rfl, F50, hc49⟩
    replace F20 := F20.chg hc49 (Dj.app (J0__0_0).symm Dj.nil)
    replace F22 := F22.chg hc49 (dj1 (Dj.app (Dj.of L0 (low1 G5)).symm Dj.nil))
    replace F44 := F44.chg hc49 (dj1 (Dj.app (Dj.of L0 (low1 G38)).symm Dj.nil))
    replace hB := hB.inS hc49 (inApp (inMem (fun x hx => (List.mem_append_left _ hx))) inNil)
    replace hZ := Nat.le_trans hZ hc49.size
    clear F35
    refine ⟨.int .i64 (y46.1), rfl, ?_⟩
    refine wS_pure 1 [(14, .pointer (some ⟨b36, 1, none⟩))] (by kernel_rfl) ?_
    refine wS_store (T := 2) (g := b36) (o := 1) (ad := ⟨b36, 1, none⟩) (v := .int .i64 (y46.1)) (vs := [.int .i64 (y46.1)]) (by kernel_rfl) (by rfl) sz2 (by rfl) (by rfl) F44 (by simp only [List.length_cons, List.length_nil]; omega) ?_
    intro w51 F52 hc53
    replace F20 := F20.chg hc53 (Dj.of L0_0 (low1 G38))
    replace F50 := F50.chg hc53 (dj1 (Dj.of L0 (low1 G38)))
    replace F22 := F22.chg hc53 (dj1 D42)
    replace hB := hB.inS hc53 (inLow (low1 G38))
    replace hZ := Nat.le_trans hZ hc53.size
    replace F52 : Cl w51 b36 34 [.int .i64 (y31.1), .int .i64 (y46.1)] := F52
    clear F44
    refine wS_end (by rfl) ?_
    refine eX_then ?_
    refine cW_seq ?_
    refine cW_region ?_
    refine wS_loadA (d := 15) (T := 34) (ad := ⟨b36, 0, none⟩) (vs := [.int .i64 (y31.1), .int .i64 (y46.1)]) (by kernel_rfl) vt34 (fun i u hu => box_cells F52 0 hu (by rfl)) ?_
    refine wS_store (T := 34) (g := b3) (o := 0) (ad := ⟨b3, 0, none⟩) (v := .agg #[.int .i64 (y31.1), .int .i64 (y46.1)]) (vs := [.int .i64 (y31.1), .int .i64 (y46.1)]) (by kernel_rfl) (by rfl) sz34 (by rfl) (by rfl) F22 (by simp only [List.length_cons, List.length_nil]; omega) ?_
    intro w54 F55 hc56
    replace F20 := F20.chg hc56 (Dj.of L0_0 (low1 G5))
    replace F50 := F50.chg hc56 (dj1 (Dj.of L0 (low1 G5)))
    replace F52 := F52.chg hc56 (dj1 (D42).symm)
    replace hB := hB.inS hc56 (inLow (low1 G5))
    replace hZ := Nat.le_trans hZ hc56.size
    replace F55 : Cl w54 b3 34 [.int .i64 (y31.1), .int .i64 (y46.1)] := F55
    clear F22
    refine wS_end (by rfl) ?_
    refine eX_then ?_
    refine cW_ret ?_
    have hq : (some (((y31.1, y46.1), y46.2.1, y46.2.2)) : Option ((Int × Int) × (Int) × (Int))) = some _ := hm
    replace hq := someE hq
    subst hq
    refine eX_ret (vs := [.agg #[.int .i64 (y31.1), .int .i64 (y46.1)]]) [.cell 2 34] (by rfl) ⟨⟨⟨b3, 0, none⟩, by kernel_rfl, run_loadVarA (vs := [.int .i64 (y31.1), .int .i64 (y46.1)]) vt34 (fun i u hu => by exact box_cells F55 0 hu (by rfl))⟩, trivial⟩ ?_
    exact ⟨rfl, F50, hB⟩

set_option maxRecDepth 100000 in
/-- spec.B10Path -/
theorem c_spec_B10Path {w0 : World} {l0 : List (Int)} {A0 : Option Addr} {cap0 : Nat} {fp0 : List Nat} {r : (List (Int × Int))} (hm : m_spec_B10Path l0 = some r) (F0 : Sl 1 encU w0 fp0 A0 l0) :
    Calls Try.prog 44 #[.slice A0 (l0).length cap0] w0 fun e w' => ∃ A100 cap100 fp100, e = .returned (.slice A100 (r).length cap100) ∧ Ow 2 encII 34 w' fp100 A100 cap100 r ∧ (∀ x ∈ fp100, w0.heap.size ≤ x) ∧ Chg [] w0 w' := by
  have L0 := F0.low
  have hB : Chg [] w0 w0 := Chg.refl _ _
  have hZ := Nat.le_refl w0.heap.size
  unfold m_spec_B10Path at hm
  refine enterE (N := 60) Try.func44 (by rfl) Try.ntmps44 (by simp) [(0, .slice A0 (l0).length cap0)] (by rfl) (by kernel_rfl) (fun a => ?_)
  refine cW_seq ?_
  refine cW_region ?_
  refine wS_pure 1 [(2, .slice none 0 0)] (by kernel_rfl) ?_
  refine wS_end (by rfl) ?_
  refine eX_then ?_
  refine cW_seq ?_
  refine cW_region ?_
  refine wS_pure 1 [(8, .slice A0 (l0).length cap0)] (by kernel_rfl) ?_
  obtain ⟨y2, hy3, hm⟩ := bindE hm
  refine wS_calls (d := 9) (f := 91) (vs := [.slice A0 (l0).length cap0]) (by kernel_rfl) ent91 (c_spec_l00From hy3 F0) ?_
  rintro _ w4 ⟨b6, rfl, F7, G8, hc5⟩
  replace F0 := F0.chg hc5 Dj.nil
  replace hB := hB.inS hc5 inNil
  replace G8 := Nat.le_trans hZ G8
  replace hZ := Nat.le_trans hZ hc5.size
  refine ⟨.pointer (some ⟨b6, 0, none⟩), rfl, ?_⟩
  refine wS_pure 1 [(3, .pointer (some ⟨b6, 0, none⟩))] (by kernel_rfl) ?_
  refine wS_end (by rfl) ?_
  refine eX_then ?_
  refine cW_seq ?_
  refine cW_region ?_
  refine wS_pure 1 [(10, .pointer (some ⟨b6, 0, none⟩))] (by kernel_rfl) ?_
  obtain ⟨y10, hy11, hm⟩ := bindE hm
  refine wS_calls (d := 11) (f := 92) (vs := [.pointer (some ⟨b6, 0, none⟩)]) (by kernel_rfl) ent92 (c_spec_l01DrawGood_bspecl00Src hy11 F0 F7 (Dj.of L0 (low1 G8)).symm) ?_
  rintro _ w12 ⟨rfl, F14, hc13⟩
  replace F0 := F0.chg hc13 (Dj.app (Dj.of L0 (low1 G8)) Dj.nil)
  replace hB := hB.inS hc13 (inApp (inLow (low1 G8)) inNil)
  replace hZ := Nat.le_trans hZ hc13.size
  clear F7
  refine ⟨.agg #[.int .i64 (y10.1.1), .int .i64 (y10.1.2)], rfl, ?_⟩
  refine wS_bs (enc := encII) ([(y10.1.1, y10.1.2)] : List (Int × Int)) [.int .i64 (y10.1.1), .int .i64 (y10.1.2)] (d := 12) (t := 25) (T := 34) (n := 1) (ps := [(0, .agg #[.int .i64 (y10.1.1), .int .i64 (y10.1.2)])]) (by kernel_rfl) el25 encII_ok (by rfl) (by omega) (by omega) (by kernel_rfl) (by rfl) ?_
  intro b15 w16 G17 F18 hc19
  have D21 : Dj [b6] [b15] := Dj.of (lt1 F14.lt) (low1 G17)
  replace F0 := F0.chg hc19 Dj.nil
  replace F14 := F14.chg hc19 notNil
  replace hB := hB.inS hc19 inNil
  replace G17 := Nat.le_trans hZ G17
  replace G17 := low1 G17
  replace hZ := Nat.le_trans hZ hc19.size
  refine wS_pure 1 [(4, .slice (some ⟨b15, 0, none⟩) (([(y10.1.1, y10.1.2)] : List (Int × Int))).length 1)] (by kernel_rfl) ?_
  refine wS_end (by rfl) ?_
  refine eX_then ?_
  refine cW_seq ?_
  refine cW_region ?_
  refine wS_pure 1 [(13, .pointer (some ⟨b6, 0, none⟩))] (by kernel_rfl) ?_
  obtain ⟨y22, hy23, hm⟩ := bindE hm
  refine wS_calls (d := 14) (f := 93) (vs := [.pointer (some ⟨b6, 0, none⟩), .int .i64 (4)]) (by kernel_rfl) ent93 (c_spec_l00Src_pick_bspecl00Src hy23 F0 F14 (Dj.of L0 (low1 G8)).symm) ?_
  rintro _ w24 ⟨rfl, F26, hc25⟩
  replace F0 := F0.chg hc25 (Dj.app (Dj.of L0 (low1 G8)) Dj.nil)
  replace F18 := F18.chg hc25 (Dj.app (D21).symm Dj.nil)
  replace hB := hB.inS hc25 (inApp (inLow (low1 G8)) inNil)
  replace hZ := Nat.le_trans hZ hc25.size
  clear F14
  refine ⟨.int .i64 (y22.1), rfl, ?_⟩
  refine wS_pure 1 [(5, .int .i64 (y22.1))] (by kernel_rfl) ?_
  refine wS_end (by rfl) ?_
  refine eX_then ?_
  refine cW_seq ?_
  refine cW_seq ?_
  refine cW_region ?_
  refine wS_pure 1 [(15, .pointer (some ⟨b6, 0, none⟩))] (by kernel_rfl) ?_
  obtain ⟨y27, hy28, hm⟩ := bindE hm
  refine wS_calls (d := 16) (f := 93) (vs := [.pointer (some ⟨b6, 0, none⟩), .int .i64 (14)]) (by kernel_rfl) ent93 (c_spec_l00Src_pick_bspecl00Src hy28 F0 F26 (Dj.of L0 (low1 G8)).symm) ?_
  rintro _ w29 ⟨rfl, F31, hc30⟩
  replace F0 := F0.chg hc30 (Dj.app (Dj.of L0 (low1 G8)) Dj.nil)
  replace F18 := F18.chg hc30 (Dj.app (D21).symm Dj.nil)
  replace hB := hB.inS hc30 (inApp (inLow (low1 G8)) inNil)
  replace hZ := Nat.le_trans hZ hc30.size
  clear F26
  refine ⟨.int .i64 (y27.1), rfl, ?_⟩
  refine wS_pure 1 [(6, .int .i64 (y27.1))] (by kernel_rfl) ?_
  refine wS_end (by rfl) ?_
  refine eX_then ?_
  obtain ⟨r792, hr793, hm⟩ := bindE hm
  have hm794 := hm
  refine cW_cut (fun a' w' => ∃ l768 : List (Int × Int), ∃ A769 : Option Addr, ∃ cap770 : Nat, ∃ fp771 : List Nat, l768 = r792 ∧ Fr 60 [(4, .slice A769 (l768).length cap770)] a' ∧ Ow 2 encII 34 w' fp771 A769 cap770 l768 ∧ (∀ x ∈ fp771, w0.heap.size ≤ x) ∧ Chg [] w0 w' ∧ w0.heap.size ≤ w'.heap.size) ?_ ?_
  · refine cW_block ?_
    refine cW_loop _ (fun (s795 : (List (Int × Int)) × Int × Int × Int × Int) a' w' => ∃ l777 : List (Int × Int), ∃ A778 : Option Addr, ∃ cap779 : Nat, ∃ fp780 : List Nat, ∃ x782 : Int, ∃ x783 : Int, ∃ x784 : Int, ∃ x785 : Int, (l777, x782, x783, x784, x785) = s795 ∧ Fr 60 [(3, .pointer (some ⟨b6, 0, none⟩)), (4, .slice A778 (l777).length cap779), (5, .int .i64 (x782)), (6, .int .i64 (x783))] a' ∧ Sl 1 encU w' fp0 A0 l0 ∧ Cl w' b6 98 [.slice A0 (l0).length cap0, .int .i64 (x784), .int .u64 (x785)] ∧ Ow 2 encII 34 w' fp780 A778 cap779 l777 ∧ (∀ x ∈ fp780, w0.heap.size ≤ x) ∧ Dj [b6] fp780 ∧ Chg [] w0 w' ∧ w0.heap.size ≤ w'.heap.size) hr793 (fun hst => ⟨([(y10.1.1, y10.1.2)] : List (Int × Int)), (some ⟨b15, 0, none⟩), 1, [b15], y22.1, y27.1, y27.2.1, y27.2.2, rfl, Fr.of hst (by kernel_rfl), F0, F31, F18, G17, D21, hB, hZ⟩) ?_
    rintro _ c796 a' w776 ⟨l777, A778, cap779, fp780, x782, x783, x784, x785, rfl, hF786, F787, F788, F789, G790, D791, hB, hZ⟩ hx797
    refine Fr.goOn hF786 (by kernel_rfl) ?_
    have hm := hx797
    unfold m_spec_B10Path_s1 at hm
    refine cW_seq ?_
    refine cW_seq ?_
    refine cW_region ?_
    refine wS_pure 2 [(18, .bool (decide (x783 > 0))), (17, .int .i64 (x783))] (by kernel_rfl) ?_
    refine wS_end (by rfl) ?_
    refine eX_then ?_
    refine cW_cond (t := decide (x783 > 0)) (by kernel_rfl) (fun hb798 => ?_) (fun hb798 => ?_)
    · have hm := condT hb798 hm
      refine cW_skip ?_
      refine eX_then ?_
      refine cW_seq ?_
      refine cW_block ?_
      obtain ⟨s984, hs985, hm⟩ := bindE hm
      refine cW_cut (fun a' w' => ∃ l970 : List (Int × Int), ∃ A971 : Option Addr, ∃ cap972 : Nat, ∃ fp973 : List Nat, ∃ x975 : Int, ∃ x976 : Int, ∃ x977 : Int, (l970, x975, x976, x977) = s984 ∧ Fr 60 [(3, .pointer (some ⟨b6, 0, none⟩)), (4, .slice A971 (l970).length cap972), (5, .int .i64 (x975)), (6, .int .i64 (x783))] a' ∧ Sl 1 encU w' fp0 A0 l0 ∧ Cl w' b6 98 [.slice A0 (l0).length cap0, .int .i64 (x976), .int .u64 (x977)] ∧ Ow 2 encII 34 w' fp973 A971 cap972 l970 ∧ (∀ x ∈ fp973, w0.heap.size ≤ x) ∧ Dj [b6] fp973 ∧ Chg [] w0 w' ∧ w0.heap.size ≤ w'.heap.size) ?_ ?_
      · have hm := hs985
        refine cW_seq ?_
        obtain ⟨s1005, hs1006, hm⟩ := bindE hm
        refine cW_cut (fun a' w' => ∃ x998 : Int, ∃ x999 : Int, ∃ x1000 : Int, (x998, x999, x1000) = s1005 ∧ Fr 60 [(3, .pointer (some ⟨b6, 0, none⟩)), (4, .slice A778 (l777).length cap779), (5, .int .i64 (x998)), (6, .int .i64 (x783))] a' ∧ Sl 1 encU w' fp0 A0 l0 ∧ Cl w' b6 98 [.slice A0 (l0).length cap0, .int .i64 (x999), .int .u64 (x1000)] ∧ Ow 2 encII 34 w' fp780 A778 cap779 l777 ∧ Chg [] w0 w' ∧ w0.heap.size ≤ w'.heap.size) ?_ ?_
        · have hm := hs1006
          refine cW_seq ?_
          refine cW_region ?_
          refine wS_pure 1 [(21, .pointer (some ⟨b6, 0, none⟩))] (by kernel_rfl) ?_
          obtain ⟨y1007, hy1008, hm⟩ := bindE hm
          refine wS_calls (d := 22) (f := 94) (vs := [.pointer (some ⟨b6, 0, none⟩), .int .i64 (3)]) (by kernel_rfl) ent94 (c_spec_l00Src_one_bspecl00Src hy1008 F787 F788 (Dj.of L0 (low1 G8)).symm) ?_
          rintro _ w1009 ⟨rfl, F1011, hc1010⟩
          replace F787 := F787.chg hc1010 (Dj.app (Dj.of L0 (low1 G8)) Dj.nil)
          replace F789 := F789.chg hc1010 (Dj.app (D791).symm Dj.nil)
          replace hB := hB.inS hc1010 (inApp (inLow (low1 G8)) inNil)
          replace hZ := Nat.le_trans hZ hc1010.size
          clear F788
          refine ⟨.bool (y1007.1), rfl, ?_⟩
          refine wS_end (by rfl) ?_
          refine eX_then ?_
          refine cW_cond (t := y1007.1) (by kernel_rfl) (fun hb1012 => ?_) (fun hb1012 => ?_)
          · have hm := condT hb1012 hm
            refine cW_region ?_
            refine wS_pure 1 [(23, .pointer (some ⟨b6, 0, none⟩))] (by kernel_rfl) ?_
            obtain ⟨y1013, hy1014, hm⟩ := bindE hm
            refine wS_calls (d := 24) (f := 93) (vs := [.pointer (some ⟨b6, 0, none⟩), .int .i64 (4)]) (by kernel_rfl) ent93 (c_spec_l00Src_pick_bspecl00Src hy1014 F787 F1011 (Dj.of L0 (low1 G8)).symm) ?_
            rintro _ w1015 ⟨rfl, F1017, hc1016⟩
            replace F787 := F787.chg hc1016 (Dj.app (Dj.of L0 (low1 G8)) Dj.nil)
            replace F789 := F789.chg hc1016 (Dj.app (D791).symm Dj.nil)
            replace hB := hB.inS hc1016 (inApp (inLow (low1 G8)) inNil)
            replace hZ := Nat.le_trans hZ hc1016.size
            clear F1011
            refine ⟨.int .i64 (y1013.1), rfl, ?_⟩
            refine wS_pure 1 [(5, .int .i64 (y1013.1))] (by kernel_rfl) ?_
            refine wS_end (by rfl) ?_
            have hq : (some ((y1013.1, y1013.2.1, y1013.2.2)) : Option (Int × Int × Int)) = some _ := hm
            replace hq := someE hq
            subst hq
            exact eX_J (fun hst => ⟨y1013.1, y1013.2.1, y1013.2.2, rfl, Fr.of hst (by kernel_rfl), F787, F1017, F789, hB, hZ⟩)
          · have hm := condF hb1012 hm
            refine cW_skip ?_
            have hq : (some ((x782, y1007.2.1, y1007.2.2)) : Option (Int × Int × Int)) = some _ := hm
            replace hq := someE hq
            subst hq
            exact eX_J (fun hst => ⟨x782, y1007.2.1, y1007.2.2, rfl, Fr.of hst (by kernel_rfl), F787, F1011, F789, hB, hZ⟩)
        · rintro a' w997 ⟨x998, x999, x1000, hJ, hF1001, F1002, F1003, F1004, hB, hZ⟩
          subst hJ
          refine Fr.goX hF1001 (by kernel_rfl) ?_
          refine eX_then ?_
          refine cW_seq ?_
          refine cW_region ?_
          refine wS_pure 4 [(28, .int .i64 (wr ((((l777).length : Int)) - 1))), (27, .int .i64 (((l777).length : Int))), (26, .slice A778 (l777).length cap779), (25, .slice A778 (l777).length cap779)] (by kernel_rfl) ?_
          obtain ⟨x1018, hx1019, hm⟩ := bindE hm
          refine wS_idx (d := 29) (T := 25) (A := A778) (n := (l777).length) (cap := cap779) (kd := .i64) (m := wr ((((l777).length : Int)) - 1)) (by kernel_rfl) sl25 ((F1004.sl encII_ok).is hx1019) ?_
          refine wS_loadA (d := 30) (T := 34) (ad := (elA A778 2 (wr ((((l777).length : Int)) - 1)) 0)) (vs := [.int .i64 (x1018.1), .int .i64 (x1018.2)]) (by kernel_rfl) vt34 (fun i u hu => Sl.cells_at (F1004.sl encII_ok) hx1019 0 hu (by rfl)) ?_
          refine wS_alloc (d := 7) (T := 34) (z := .agg #[.int .i64 (0), .int .i64 (0)]) (by kernel_rfl) (by kernel_rfl) ?_
          intro b1020 w1021 G1022 F1023 hc1024
          replace F1023 : Cl w1021 b1020 34 [.int .i64 (0), .int .i64 (0)] := F1023
          have D1026 : Dj [b6] [b1020] := Dj.of (lt1 F1003.lt) (low1 G1022)
          have D1027 : Dj fp780 [b1020] := Dj.of F1004.low (low1 G1022)
          replace F1002 := F1002.chg hc1024 Dj.nil
          replace F1003 := F1003.chg hc1024 notNil
          replace F1004 := F1004.chg hc1024 Dj.nil
          replace hB := hB.inS hc1024 inNil
          replace G1022 := Nat.le_trans hZ G1022
          replace hZ := Nat.le_trans hZ hc1024.size
          refine wS_store (T := 34) (g := b1020) (o := 0) (ad := ⟨b1020, 0, none⟩) (v := .agg #[.int .i64 (x1018.1), .int .i64 (x1018.2)]) (vs := [.int .i64 (x1018.1), .int .i64 (x1018.2)]) (by kernel_rfl) (by rfl) sz34 (by rfl) (by rfl) F1023 (by simp only [List.length_cons, List.length_nil]; omega) ?_
          intro w1028 F1029 hc1030
          replace F1002 := F1002.chg hc1030 (Dj.of L0 (low1 G1022))
          replace F1003 := F1003.chg hc1030 (dj1 D1026)
          replace F1004 := F1004.chg hc1030 D1027
          replace hB := hB.inS hc1030 (inLow (low1 G1022))
          replace hZ := Nat.le_trans hZ hc1030.size
          replace F1029 : Cl w1028 b1020 34 [.int .i64 (x1018.1), .int .i64 (x1018.2)] := F1029
          clear F1023
          refine wS_end (by rfl) ?_
          refine eX_then ?_
          refine cW_seq ?_
          refine cW_drawnTail [] 6 (by kernel_rfl) (by kernel_rfl) (fun w1052 hc1053 => ?_)
          replace F1002 := F1002.chg hc1053 Dj.nil
          replace F1003 := F1003.chg hc1053 notNil
          replace F1004 := F1004.chg hc1053 Dj.nil
          replace F1029 := F1029.chg hc1053 notNil
          replace hB := hB.inS hc1053 inNil
          replace hZ := Nat.le_trans hZ hc1053.size
          have hS := Chg.refl [] w1052
          have Z1054 := F1002
          have Z1055 := F1003
          have Z1056 := F1004
          have Z1057 := F1029
          refine wH_take [0] [0] [(31, .pointer (some ⟨b1020, 0, none⟩))] (by kernel_rfl) (qT (qT (qT (qB (qT (qL (qB (qT (qT qZ))))))))) (by kernel_rfl) ?_
          refine wH_load1 (i := 1) (d := 32) (T := 2) (ad := ⟨b1020, 0, none⟩) (v := .int .i64 (x1018.1)) (by kernel_rfl) (qT (qT (qT (qB (qT (qL (qB (qT (qT qZ))))))))) (by kernel_rfl) (by kernel_rfl) vt2 (fun W hW => (Z1057.chg hW notNil).cell 0) ?_
          refine wH_take [3] [3, 1, 0] [(34, .int .i64 (x998))] (by kernel_rfl) (qT (qT (qT (qB (qT (qL (qB (qT (qT qZ))))))))) (by kernel_rfl) ?_
          refine wH_all [2] (by rfl) (by kernel_rfl) (by simp) ⟨⟨by kernel_rfl, ?_⟩, trivial⟩
          refine wS_bs (enc := encI) ([1, 0, (-1), 0] : List (Int)) [.int .i64 (1), .int .i64 (0), .int .i64 ((-1)), .int .i64 (0)] (d := 33) (t := 78) (T := 2) (n := 4) (ps := [(0, .int .i64 (1)), (1, .int .i64 (0)), (2, .int .i64 ((-1))), (3, .int .i64 (0))]) (by kernel_rfl) el78 encI_ok (by rfl) (by omega) (by omega) (by kernel_rfl) (by rfl) ?_
          intro b1058 w1059 G1060 F1061 hc1062
          have D1064 : Dj [b6] [b1058] := Dj.of (lt1 F1003.lt) (low1 G1060)
          have D1065 : Dj fp780 [b1058] := Dj.of F1004.low (low1 G1060)
          have D1066 : Dj [b1020] [b1058] := Dj.of (lt1 F1029.lt) (low1 G1060)
          replace F1002 := F1002.chg hc1062 Dj.nil
          replace F1003 := F1003.chg hc1062 notNil
          replace F1004 := F1004.chg hc1062 Dj.nil
          replace F1029 := F1029.chg hc1062 notNil
          replace hB := hB.inS hc1062 inNil
          have hSz := hS
          replace hS := hS.inS hc1062 inNil
          have Gz1067 := low1 (Nat.le_trans hSz.size G1060)
          replace G1060 := Nat.le_trans hZ G1060
          replace G1060 := low1 G1060
          replace hZ := Nat.le_trans hZ hc1062.size
          refine wS_end (by kernel_rfl) ?_
          refine eX_KH hS ?_
          obtain ⟨x1068, hx1069, hm⟩ := bindE hm
          refine wH_idx (i := 4) (d := 35) (T := 78) (A := (some ⟨b1058, 0, none⟩)) (n := (([1, 0, (-1), 0] : List (Int))).length) (cap := 4) (kd := .i64) (m := x998) (by kernel_rfl) (qT (qT (qT (qB (qT (qL (qB (qT (qT qZ))))))))) (by kernel_rfl) (by kernel_rfl) sl78 ((F1061.sl encI_ok).is hx1069) ?_
          refine wH_all [5] (by rfl) (by kernel_rfl) (by simp) ⟨⟨by kernel_rfl, ?_⟩, trivial⟩
          refine wS_load1 (d := 36) (T := 2) (ad := (elA (some ⟨b1058, 0, none⟩) 1 (x998) 0)) (v := .int .i64 (x1068)) (by kernel_rfl) vt2 (Sl.cell (F1061.sl encI_ok) hx1069 0 (by rfl)) ?_
          refine wS_end (by kernel_rfl) ?_
          refine eX_KH hS ?_
          refine wH_done (by kernel_rfl) ?_
          refine eX_tail ?_
          refine wS_pure 2 [(38, .pointer (some ⟨b1020, 0, none⟩)), (37, .int .i64 (wr (x1018.1 + x1068)))] (by kernel_rfl) ?_
          refine wS_store (T := 2) (g := b1020) (o := 0) (ad := ⟨b1020, 0, none⟩) (v := .int .i64 (wr (x1018.1 + x1068))) (vs := [.int .i64 (wr (x1018.1 + x1068))]) (by kernel_rfl) (by rfl) sz2 (by rfl) (by rfl) F1029 (by simp only [List.length_cons, List.length_nil]; omega) ?_
          intro w1070 F1071 hc1072
          replace F1002 := F1002.chg hc1072 (Dj.of L0 (low1 G1022))
          replace F1003 := F1003.chg hc1072 (dj1 D1026)
          replace F1004 := F1004.chg hc1072 D1027
          replace F1061 := F1061.chg hc1072 (D1066).symm
          replace hB := hB.inS hc1072 (inLow (low1 G1022))
          replace hZ := Nat.le_trans hZ hc1072.size
          replace F1071 : Cl w1070 b1020 34 [.int .i64 (wr (x1018.1 + x1068)), .int .i64 (x1018.2)] := F1071
          clear F1029
          refine wS_end (by rfl) ?_
          refine eX_then ?_
          refine cW_seq ?_
          refine cW_drawnTail [] 6 (by kernel_rfl) (by kernel_rfl) (fun w1096 hc1097 => ?_)
          replace F1002 := F1002.chg hc1097 Dj.nil
          replace F1003 := F1003.chg hc1097 notNil
          replace F1004 := F1004.chg hc1097 Dj.nil
          replace F1071 := F1071.chg hc1097 notNil
          replace F1061 := F1061.chg hc1097 Dj.nil
          replace hB := hB.inS hc1097 inNil
          replace hZ := Nat.le_trans hZ hc1097.size
          have hS := Chg.refl [] w1096
          have Z1098 := F1002
          have Z1099 := F1003
          have Z1100 := F1004
          have Z1101 := F1071
          have Z1102 := F1061
          refine wH_take [0] [0] [(39, .pointer (some ⟨b1020, 1, none⟩))] (by kernel_rfl) (qT (qT (qT (qB (qT (qL (qB (qT (qT qZ))))))))) (by kernel_rfl) ?_
          refine wH_load1 (i := 1) (d := 40) (T := 2) (ad := ⟨b1020, 1, none⟩) (v := .int .i64 (x1018.2)) (by kernel_rfl) (qT (qT (qT (qB (qT (qL (qB (qT (qT qZ))))))))) (by kernel_rfl) (by kernel_rfl) vt2 (fun W hW => (Z1101.chg hW notNil).cell 1) ?_
          refine wH_take [3] [3, 1, 0] [(42, .int .i64 (x998))] (by kernel_rfl) (qT (qT (qT (qB (qT (qL (qB (qT (qT qZ))))))))) (by kernel_rfl) ?_
          refine wH_all [2] (by rfl) (by kernel_rfl) (by simp) ⟨⟨by kernel_rfl, ?_⟩, trivial⟩
          refine wS_bs (enc := encI) ([0, 1, 0, (-1)] : List (Int)) [.int .i64 (0), .int .i64 (1), .int .i64 (0), .int .i64 ((-1))] (d := 41) (t := 78) (T := 2) (n := 4) (ps := [(0, .int .i64 (0)), (1, .int .i64 (1)), (2, .int .i64 (0)), (3, .int .i64 ((-1)))]) (by kernel_rfl) el78 encI_ok (by rfl) (by omega) (by omega) (by kernel_rfl) (by rfl) ?_
          intro b1103 w1104 G1105 F1106 hc1107
          have D1109 : Dj [b6] [b1103] := Dj.of (lt1 F1003.lt) (low1 G1105)
          have D1110 : Dj fp780 [b1103] := Dj.of F1004.low (low1 G1105)
          have D1111 : Dj [b1020] [b1103] := Dj.of (lt1 F1071.lt) (low1 G1105)
          have D1112 : Dj [b1058] [b1103] := Dj.of F1061.low (low1 G1105)
          replace F1002 := F1002.chg hc1107 Dj.nil
          replace F1003 := F1003.chg hc1107 notNil
          replace F1004 := F1004.chg hc1107 Dj.nil
          replace F1071 := F1071.chg hc1107 notNil
          replace F1061 := F1061.chg hc1107 Dj.nil
          replace hB := hB.inS hc1107 inNil
          have hSz := hS
          replace hS := hS.inS hc1107 inNil
          have Gz1113 := low1 (Nat.le_trans hSz.size G1105)
          replace G1105 := Nat.le_trans hZ G1105
          replace G1105 := low1 G1105
          replace hZ := Nat.le_trans hZ hc1107.size
          refine wS_end (by kernel_rfl) ?_
          refine eX_KH hS ?_
          obtain ⟨x1114, hx1115, hm⟩ := bindE hm
          refine wH_idx (i := 4) (d := 43) (T := 78) (A := (some ⟨b1103, 0, none⟩)) (n := (([0, 1, 0, (-1)] : List (Int))).length) (cap := 4) (kd := .i64) (m := x998) (by kernel_rfl) (qT (qT (qT (qB (qT (qL (qB (qT (qT qZ))))))))) (by kernel_rfl) (by kernel_rfl) sl78 ((F1106.sl encI_ok).is hx1115) ?_
          refine wH_all [5] (by rfl) (by kernel_rfl) (by simp) ⟨⟨by kernel_rfl, ?_⟩, trivial⟩
          refine wS_load1 (d := 44) (T := 2) (ad := (elA (some ⟨b1103, 0, none⟩) 1 (x998) 0)) (v := .int .i64 (x1114)) (by kernel_rfl) vt2 (Sl.cell (F1106.sl encI_ok) hx1115 0 (by rfl)) ?_
          refine wS_end (by kernel_rfl) ?_
          refine eX_KH hS ?_
          refine wH_done (by kernel_rfl) ?_
          refine eX_tail ?_
          refine wS_pure 2 [(46, .pointer (some ⟨b1020, 1, none⟩)), (45, .int .i64 (wr (x1018.2 + x1114)))] (by kernel_rfl) ?_
          refine wS_store (T := 2) (g := b1020) (o := 1) (ad := ⟨b1020, 1, none⟩) (v := .int .i64 (wr (x1018.2 + x1114))) (vs := [.int .i64 (wr (x1018.2 + x1114))]) (by kernel_rfl) (by rfl) sz2 (by rfl) (by rfl) F1071 (by simp only [List.length_cons, List.length_nil]; omega) ?_
          intro w1116 F1117 hc1118
          replace F1002 := F1002.chg hc1118 (Dj.of L0 (low1 G1022))
          replace F1003 := F1003.chg hc1118 (dj1 D1026)
          replace F1004 := F1004.chg hc1118 D1027
          replace F1061 := F1061.chg hc1118 (D1066).symm
          replace F1106 := F1106.chg hc1118 (D1111).symm
          replace hB := hB.inS hc1118 (inLow (low1 G1022))
          replace hZ := Nat.le_trans hZ hc1118.size
          replace F1117 : Cl w1116 b1020 34 [.int .i64 (wr (x1018.1 + x1068)), .int .i64 (wr (x1018.2 + x1114))] := F1117
          clear F1071
          refine wS_end (by rfl) ?_
          refine eX_then ?_
          refine cW_prune [(3, .pointer (some ⟨b6, 0, none⟩)), (4, .slice A778 (l777).length cap779), (5, .int .i64 (x998)), (6, .int .i64 (x783)), (7, .pointer (some ⟨b1020, 0, none⟩))] (by kernel_rfl) (by kernel_rfl) (fun a1119 => ?_)
          refine cW_seq ?_
          refine cW_region ?_
          refine wS_loadA (d := 47) (T := 34) (ad := ⟨b1020, 0, none⟩) (vs := [.int .i64 (wr (x1018.1 + x1068)), .int .i64 (wr (x1018.2 + x1114))]) (by kernel_rfl) vt34 (fun i u hu => box_cells F1117 0 hu (by rfl)) ?_
          obtain ⟨y1120, hy1121, hm⟩ := bindE hm
          refine wS_calls (d := 48) (f := 76) (vs := [.agg #[.int .i64 (wr (x1018.1 + x1068)), .int .i64 (wr (x1018.2 + x1114))]]) (by kernel_rfl) ent76 (c_spec_l01Point hy1121) ?_
          rintro _ w1122 ⟨rfl, hc1123⟩
          replace F1002 := F1002.chg hc1123 Dj.nil
          replace F1003 := F1003.chg hc1123 notNil
          replace F1004 := F1004.chg hc1123 Dj.nil
          replace F1117 := F1117.chg hc1123 notNil
          replace F1061 := F1061.chg hc1123 Dj.nil
          replace F1106 := F1106.chg hc1123 Dj.nil
          replace hB := hB.inS hc1123 inNil
          replace hZ := Nat.le_trans hZ hc1123.size
          refine ⟨.bool (y1120), rfl, ?_⟩
          refine wS_pure 1 [(49, .bool (y1120))] (by kernel_rfl) ?_
          refine wS_bool y1120 (fun hb1124 => ?_) (fun hb1124 => ?_)
          · have hm := condT hb1124 hm
            rewrite [hb1124]
            refine wS_pure 1 [(50, .slice A778 (l777).length cap779)] (by kernel_rfl) ?_
            refine wS_loadA (d := 51) (T := 34) (ad := ⟨b1020, 0, none⟩) (vs := [.int .i64 (wr (x1018.1 + x1068)), .int .i64 (wr (x1018.2 + x1114))]) (by kernel_rfl) vt34 (fun i u hu => box_cells F1117 0 hu (by rfl)) ?_
            obtain ⟨y1125, hy1126, hm⟩ := bindE hm
            refine wS_calls (d := 52) (f := 95) (vs := [.slice A778 (l777).length cap779, .agg #[.int .i64 (wr (x1018.1 + x1068)), .int .i64 (wr (x1018.2 + x1114))]]) (by kernel_rfl) ent95 (c_spec_l01Index hy1126 (F1004.sl encII_ok)) ?_
            rintro _ w1127 ⟨rfl, hc1128⟩
            replace F1002 := F1002.chg hc1128 Dj.nil
            replace F1003 := F1003.chg hc1128 notNil
            replace F1004 := F1004.chg hc1128 Dj.nil
            replace F1117 := F1117.chg hc1128 notNil
            replace F1061 := F1061.chg hc1128 Dj.nil
            replace F1106 := F1106.chg hc1128 Dj.nil
            replace hB := hB.inS hc1128 inNil
            replace hZ := Nat.le_trans hZ hc1128.size
            refine ⟨.int .i64 (y1125), rfl, ?_⟩
            refine wS_pure 2 [(54, .bool (decide (y1125 < 0))), (53, .bool (decide (y1125 < 0)))] (by kernel_rfl) ?_
            refine wS_end (by rfl) ?_
            refine eX_then ?_
            refine cW_cond (t := decide (y1125 < 0)) (by kernel_rfl) (fun hb1129 => ?_) (fun hb1129 => ?_)
            · have hm := condT hb1129 hm
              refine cW_region ?_
              refine wS_pure 1 [(55, .slice A778 (l777).length cap779)] (by kernel_rfl) ?_
              refine wS_loadA (d := 56) (T := 34) (ad := ⟨b1020, 0, none⟩) (vs := [.int .i64 (wr (x1018.1 + x1068)), .int .i64 (wr (x1018.2 + x1114))]) (by kernel_rfl) vt34 (fun i u hu => box_cells F1117 0 hu (by rfl)) ?_
              refine wS_bs (enc := encII) ([(wr (x1018.1 + x1068), wr (x1018.2 + x1114))] : List (Int × Int)) [.int .i64 (wr (x1018.1 + x1068)), .int .i64 (wr (x1018.2 + x1114))] (d := 57) (t := 25) (T := 34) (n := 1) (ps := [(0, .agg #[.int .i64 (wr (x1018.1 + x1068)), .int .i64 (wr (x1018.2 + x1114))])]) (by kernel_rfl) el25 encII_ok (by rfl) (by omega) (by omega) (by kernel_rfl) (by rfl) ?_
              intro b1130 w1131 G1132 F1133 hc1134
              have D1136 : Dj [b6] [b1130] := Dj.of (lt1 F1003.lt) (low1 G1132)
              have D1137 : Dj fp780 [b1130] := Dj.of F1004.low (low1 G1132)
              have D1138 : Dj [b1020] [b1130] := Dj.of (lt1 F1117.lt) (low1 G1132)
              have D1139 : Dj [b1058] [b1130] := Dj.of F1061.low (low1 G1132)
              have D1140 : Dj [b1103] [b1130] := Dj.of F1106.low (low1 G1132)
              replace F1002 := F1002.chg hc1134 Dj.nil
              replace F1003 := F1003.chg hc1134 notNil
              replace F1004 := F1004.chg hc1134 Dj.nil
              replace F1117 := F1117.chg hc1134 notNil
              replace F1061 := F1061.chg hc1134 Dj.nil
              replace F1106 := F1106.chg hc1134 Dj.nil
              replace hB := hB.inS hc1134 inNil
              replace G1132 := Nat.le_trans hZ G1132
              replace G1132 := low1 G1132
              replace hZ := Nat.le_trans hZ hc1134.size
              obtain ⟨_, hk1141, hm⟩ := bindE hm
              replace hk1141 := apE hk1141
              refine wS_append (enc := encII) (l := (l777 : List (Int × Int))) (l2 := (([(wr (x1018.1 + x1068), wr (x1018.2 + x1114))] : List (Int × Int)) : List (Int × Int))) (d := 58) (t := 25) (T := 34) (A := A778) (A2 := (some ⟨b1130, 0, none⟩)) (cap := cap779) (cap2 := 1) (by kernel_rfl) el25 encII_ok F1004 (F1133.sl encII_ok) (by rfl) hk1141 ?_
              intro w1142 fp1143 A1144 cap1145 F1146 hc1147 hp1148
              have G1150 := low_ap G790 hZ hp1148
              have D1151 : Dj [b6] fp1143 := Dj.ap D791 (lt1 F1003.lt) hp1148
              have D1152 : Dj [b1020] fp1143 := Dj.ap (D1027).symm (lt1 F1117.lt) hp1148
              have D1153 : Dj [b1058] fp1143 := Dj.ap (D1065).symm F1061.low hp1148
              have D1154 : Dj [b1103] fp1143 := Dj.ap (D1110).symm F1106.low hp1148
              have D1155 : Dj [b1130] fp1143 := Dj.ap (D1137).symm F1133.low hp1148
              replace F1002 := F1002.chg hc1147 (Dj.of L0 G790)
              replace F1003 := F1003.chg hc1147 (dj1 D791)
              replace F1117 := F1117.chg hc1147 (dj1 (D1027).symm)
              replace F1061 := F1061.chg hc1147 (D1065).symm
              replace F1106 := F1106.chg hc1147 (D1110).symm
              replace F1133 := F1133.chg hc1147 (D1137).symm
              replace hB := hB.inS hc1147 (inLow G790)
              replace hZ := Nat.le_trans hZ hc1147.size
              refine wS_pure 1 [(4, .slice A1144 (l777 ++ (([(wr (x1018.1 + x1068), wr (x1018.2 + x1114))] : List (Int × Int)))).length cap1145)] (by kernel_rfl) ?_
              refine wS_end (by rfl) ?_
              have hq : (some ((l777 ++ (([(wr (x1018.1 + x1068), wr (x1018.2 + x1114))] : List (Int × Int))), x998, x999, x1000)) : Option ((List (Int × Int)) × Int × Int × Int)) = some _ := hm
              replace hq := someE hq
              subst hq
              exact eX_J (fun hst => ⟨l777 ++ (([(wr (x1018.1 + x1068), wr (x1018.2 + x1114))] : List (Int × Int))), A1144, cap1145, fp1143, x998, x999, x1000, rfl, Fr.of hst (by kernel_rfl), F1002, F1003, F1146, G1150, D1151, hB, hZ⟩)
            · have hm := condF hb1129 hm
              refine cW_skip ?_
              have hq : (some ((l777, x998, x999, x1000)) : Option ((List (Int × Int)) × Int × Int × Int)) = some _ := hm
              replace hq := someE hq
              subst hq
              exact eX_J (fun hst => ⟨l777, A778, cap779, fp780, x998, x999, x1000, rfl, Fr.of hst (by kernel_rfl), F1002, F1003, F1004, G790, D791, hB, hZ⟩)
          · have hm := condF hb1124 hm
            rewrite [hb1124]
            refine wS_pure 5 [(54, .bool (false)), (53, undef), (52, undef), (51, undef), (50, undef)] (by kernel_rfl) ?_
            refine wS_end (by rfl) ?_
            refine eX_then ?_
            refine cW_cond_f (by kernel_rfl) ?_
            refine cW_skip ?_
            have hq : (some ((l777, x998, x999, x1000)) : Option ((List (Int × Int)) × Int × Int × Int)) = some _ := hm
            replace hq := someE hq
            subst hq
            exact eX_J (fun hst => ⟨l777, A778, cap779, fp780, x998, x999, x1000, rfl, Fr.of hst (by kernel_rfl), F1002, F1003, F1004, G790, D791, hB, hZ⟩)
      · rintro a' w969 ⟨l970, A971, cap972, fp973, x975, x976, x977, hJ, hF978, F979, F980, F981, G982, D983, hB, hZ⟩
        subst hJ
        refine Fr.goX hF978 (by kernel_rfl) ?_
        refine eX_block ?_
        refine eX_then ?_
        refine cW_region ?_
        refine wS_pure 3 [(6, .int .i64 (wr (x783 - 1))), (20, .int .i64 (wr (x783 - 1))), (19, .int .i64 (x783))] (by kernel_rfl) ?_
        refine wS_end (by rfl) ?_
        have hq : (some (Ctl.next ((l970, x975, wr (x783 - 1), x976, x977))) : Option (Ctl ((List (Int × Int)) × Int × Int × Int × Int) ((List (Int × Int))))) = some _ := hm
        replace hq := someE hq
        subst hq
        exact eX_next hx797 (fun hst => ⟨l970, A971, cap972, fp973, x975, wr (x783 - 1), x976, x977, rfl, Fr.of hst (by kernel_rfl), F979, F980, F981, G982, D983, hB, hZ⟩)
    · have hm := condF hb798 hm
      refine cW_exit ?_
      refine eX_then_exit ?_
      have hq : (some (Ctl.out l777) : Option (Ctl ((List (Int × Int)) × Int × Int × Int × Int) ((List (Int × Int))))) = some _ := hm
      replace hq := someE hq
      subst hq
      refine eX_outX hx797 (fun hr1156 => ?_)
      replace hr1156 := hr1156.symm
      subst hr1156
      refine eX_block_hit ?_
      exact eX_J (fun hst => ⟨l777, A778, cap779, fp780, rfl, Fr.of hst (by kernel_rfl), F789, G790, hB, hZ⟩)
  · rintro a' w767 ⟨l768, A769, cap770, fp771, hJ, hF773, F774, G775, hB, hZ⟩
    subst hJ
    refine Fr.goX hF773 (by kernel_rfl) ?_
    refine eX_then ?_
    refine cW_seq ?_
    refine cW_region ?_
    refine wS_pure 2 [(2, .slice A769 (l768).length cap770), (59, .slice A769 (l768).length cap770)] (by kernel_rfl) ?_
    refine wS_end (by rfl) ?_
    refine eX_then ?_
    refine cW_ret ?_
    have hq : (some l768 : Option ((List (Int × Int)))) = some _ := hm
    replace hq := someE hq
    subst hq
    refine eX_ret (vs := [.slice A769 (l768).length cap770]) [.tmp 2] (by rfl) ⟨by (show lkE _ _ _ = _); kernel_rfl, trivial⟩ ?_
    exact ⟨A769, cap770, fp771, rfl, F774, G775, hB⟩

set_option maxRecDepth 100000 in
/-- impl.side -/
theorem c_impl_side {w0 : World} {p0 : Int} {r : (Int)} (hm : m_impl_side p0 = some r)  :
    Calls Try.prog 149 #[.int .i64 (p0)] w0 fun e w' => e = .returned (.int .i64 (r)) ∧ Chg [] w0 w' := by
  have hB : Chg [] w0 w0 := Chg.refl _ _
  have hZ := Nat.le_refl w0.heap.size
  unfold m_impl_side at hm
  refine enterE (N := 5) Try.func149 (by rfl) Try.ntmps149 (by simp) [(0, .int .i64 (p0))] (by rfl) (by kernel_rfl) (fun a => ?_)
  refine cW_seq ?_
  refine cW_region ?_
  refine wS_pure 1 [(2, .int .i64 (0))] (by kernel_rfl) ?_
  refine wS_end (by rfl) ?_
  refine eX_then ?_
  refine cW_seq ?_
  refine cW_region ?_
  refine wS_pure 1 [(3, .int .i64 (p0))] (by kernel_rfl) ?_
  obtain ⟨y1, hy2, hm⟩ := bindE hm
  refine wS_calls (d := 4) (f := 147) (vs := [.int .i64 (p0), .int .i64 (0)]) (by kernel_rfl) ent147 (c_cmp_Compare_int64 hy2) ?_
  rintro _ w3 ⟨rfl, hc4⟩
  replace hB := hB.inS hc4 inNil
  replace hZ := Nat.le_trans hZ hc4.size
  refine ⟨.int .i64 (y1), rfl, ?_⟩
  refine wS_pure 1 [(2, .int .i64 (y1))] (by kernel_rfl) ?_
  refine wS_end (by rfl) ?_
  refine eX_then ?_
  refine cW_ret ?_
  have hq : (some y1 : Option ((Int))) = some _ := hm
  replace hq := someE hq
  subst hq
  refine eX_ret (vs := [.int .i64 (y1)]) [.tmp 2] (by rfl) ⟨by (show lkE _ _ _ = _); kernel_rfl, trivial⟩ ?_
  exact ⟨rfl, hB⟩

set_option maxRecDepth 100000 in
/-- impl.line -/
theorem c_impl_line {w0 : World} {p0_0 : Int} {p0_1 : Int} {p1_0 : Int} {p1_1 : Int} {r : (List (Int × Int))} (hm : m_impl_line p0_0 p0_1 p1_0 p1_1 = some r)  :
    Calls Try.prog 129 #[.agg #[.int .i64 (p0_0), .int .i64 (p0_1)], .agg #[.int .i64 (p1_0), .int .i64 (p1_1)]] w0 fun e w' => ∃ A100 cap100 fp100, e = .returned (.slice A100 (r).length cap100) ∧ Ow 2 encII 34 w' fp100 A100 cap100 r ∧ (∀ x ∈ fp100, w0.heap.size ≤ x) ∧ Chg [] w0 w' := by
  have hB : Chg [] w0 w0 := Chg.refl _ _
  have hZ := Nat.le_refl w0.heap.size
  unfold m_impl_line at hm
  refine enterE (N := 34) Try.func129 (by rfl) Try.ntmps129 (by simp) [(0, .agg #[.int .i64 (p0_0), .int .i64 (p0_1)]), (1, .agg #[.int .i64 (p1_0), .int .i64 (p1_1)])] (by rfl) (by kernel_rfl) (fun a => ?_)
  refine cW_seq ?_
  refine cW_region ?_
  refine wS_box (d := 2) (T := 34) (x := .agg #[.int .i64 (p0_0), .int .i64 (p0_1)]) (by kernel_rfl) ?_
  intro b1 w2 G3 F4 hc5
  replace F4 : Cl w2 b1 34 [.int .i64 (p0_0), .int .i64 (p0_1)] := F4
  replace hB := hB.inS hc5 inNil
  replace G3 := Nat.le_trans hZ G3
  replace hZ := Nat.le_trans hZ hc5.size
  refine wS_box (d := 3) (T := 34) (x := .agg #[.int .i64 (p1_0), .int .i64 (p1_1)]) (by kernel_rfl) ?_
  intro b7 w8 G9 F10 hc11
  replace F10 : Cl w8 b7 34 [.int .i64 (p1_0), .int .i64 (p1_1)] := F10
  have D13 : Dj [b1] [b7] := Dj.of (lt1 F4.lt) (low1 G9)
  replace F4 := F4.chg hc11 notNil
  replace hB := hB.inS hc11 inNil
  replace G9 := Nat.le_trans hZ G9
  replace hZ := Nat.le_trans hZ hc11.size
  refine wS_pure 1 [(4, .slice none 0 0)] (by kernel_rfl) ?_
  refine wS_end (by rfl) ?_
  refine eX_then ?_
  refine cW_seq ?_
  refine cW_region ?_
  refine wS_bs0 (α := Int × Int) (enc := encII) (d := 6) (t := 25) (T := 34) (by kernel_rfl) el25 ?_
  intro b14 w15 G16 F17 hc18
  have D20 : Dj [b1] [b14] := Dj.of (lt1 F4.lt) (low1 G16)
  have D21 : Dj [b7] [b14] := Dj.of (lt1 F10.lt) (low1 G16)
  replace F4 := F4.chg hc18 notNil
  replace F10 := F10.chg hc18 notNil
  replace hB := hB.inS hc18 inNil
  replace G16 := Nat.le_trans hZ G16
  replace G16 := low1 G16
  replace hZ := Nat.le_trans hZ hc18.size
  refine wS_pure 1 [(5, .slice (some ⟨b14, 0, none⟩) (([] : List (Int × Int))).length 0)] (by kernel_rfl) ?_
  refine wS_end (by rfl) ?_
  refine eX_then ?_
  refine cW_seq ?_
  obtain ⟨r176, hr177, hm⟩ := bindE hm
  have hm178 := hm
  refine cW_cut (fun a' w' => ∃ l153 : List (Int × Int), ∃ A154 : Option Addr, ∃ cap155 : Nat, ∃ fp156 : List Nat, l153 = r176 ∧ Fr 34 [(5, .slice A154 (l153).length cap155)] a' ∧ Ow 2 encII 34 w' fp156 A154 cap155 l153 ∧ (∀ x ∈ fp156, w0.heap.size ≤ x) ∧ Chg [] w0 w' ∧ w0.heap.size ≤ w'.heap.size) ?_ ?_
  · refine cW_block ?_
    refine cW_loop _ (fun (s179 : (List (Int × Int)) × Int × Int) a' w' => ∃ l162 : List (Int × Int), ∃ A163 : Option Addr, ∃ cap164 : Nat, ∃ fp165 : List Nat, ∃ x167 : Int, ∃ x168 : Int, (l162, x167, x168) = s179 ∧ Fr 34 [(2, .pointer (some ⟨b1, 0, none⟩)), (3, .pointer (some ⟨b7, 0, none⟩)), (5, .slice A163 (l162).length cap164)] a' ∧ Cl w' b1 34 [.int .i64 (x167), .int .i64 (x168)] ∧ Cl w' b7 34 [.int .i64 (p1_0), .int .i64 (p1_1)] ∧ Ow 2 encII 34 w' fp165 A163 cap164 l162 ∧ (∀ x ∈ fp165, w0.heap.size ≤ x) ∧ Dj [b1] fp165 ∧ Dj [b7] fp165 ∧ Chg [] w0 w' ∧ w0.heap.size ≤ w'.heap.size) hr177 (fun hst => ⟨([] : List (Int × Int)), (some ⟨b14, 0, none⟩), 0, [b14], p0_0, p0_1, rfl, Fr.of hst (by kernel_rfl), F4, F10, F17, G16, D20, D21, hB, hZ⟩) ?_
    rintro _ c180 a' w161 ⟨l162, A163, cap164, fp165, x167, x168, rfl, hF169, F170, F171, F172, G173, D174, D175, hB, hZ⟩ hx181
    refine Fr.goOn hF169 (by kernel_rfl) ?_
    have hm := hx181
    unfold m_impl_line_s1 at hm
    refine cW_seq ?_
    refine cW_seq ?_
    refine cW_region ?_
    refine wS_loadA (d := 7) (T := 34) (ad := ⟨b1, 0, none⟩) (vs := [.int .i64 (x167), .int .i64 (x168)]) (by kernel_rfl) vt34 (fun i u hu => box_cells F170 0 hu (by rfl)) ?_
    refine wS_loadA (d := 8) (T := 34) (ad := ⟨b7, 0, none⟩) (vs := [.int .i64 (p1_0), .int .i64 (p1_1)]) (by kernel_rfl) vt34 (fun i u hu => box_cells F171 0 hu (by rfl)) ?_
    refine wS_neS (d := 9) (T := 34) (x := x167) (y := x168) (x' := p1_0) (y' := p1_1) (by kernel_rfl) eq34 ?_
    refine wS_end (by rfl) ?_
    refine eX_then ?_
    refine cW_cond (t := !(x167 == p1_0 && x168 == p1_1)) (by kernel_rfl) (fun hb182 => ?_) (fun hb182 => ?_)
    · have hm := condT hb182 hm
      refine cW_skip ?_
      refine eX_then ?_
      refine cW_block ?_
      refine cW_seq ?_
      refine cW_drawnTail [] 18 (by kernel_rfl) (by kernel_rfl) (fun w199 hc200 => ?_)
      replace F170 := F170.chg hc200 notNil
      replace F171 := F171.chg hc200 notNil
      replace F172 := F172.chg hc200 Dj.nil
      replace hB := hB.inS hc200 inNil
      replace hZ := Nat.le_trans hZ hc200.size
      have hS := Chg.refl [] w199
      have Z201 := F170
      have Z202 := F171
      have Z203 := F172
      refine wH_take [0] [0] [(10, .pointer (some ⟨b1, 0, none⟩))] (by kernel_rfl) (qT (qT (qB (qL (qB (qT (qT qZ))))))) (by kernel_rfl) ?_
      refine wH_load1 (i := 1) (d := 11) (T := 2) (ad := ⟨b1, 0, none⟩) (v := .int .i64 (x167)) (by kernel_rfl) (qT (qT (qB (qL (qB (qT (qT qZ))))))) (by kernel_rfl) (by kernel_rfl) vt2 (fun W hW => (Z201.chg hW notNil).cell 0) ?_
      refine wH_take [2] [2, 1, 0] [(12, .pointer (some ⟨b7, 0, none⟩))] (by kernel_rfl) (qT (qT (qB (qL (qB (qT (qT qZ))))))) (by kernel_rfl) ?_
      refine wH_load1 (i := 3) (d := 13) (T := 2) (ad := ⟨b7, 0, none⟩) (v := .int .i64 (p1_0)) (by kernel_rfl) (qT (qT (qB (qL (qB (qT (qT qZ))))))) (by kernel_rfl) (by kernel_rfl) vt2 (fun W hW => (Z202.chg hW notNil).cell 0) ?_
      refine wH_take [4] [4, 3, 2, 1, 0] [(14, .pointer (some ⟨b1, 0, none⟩))] (by kernel_rfl) (qT (qT (qB (qL (qB (qT (qT qZ))))))) (by kernel_rfl) ?_
      refine wH_load1 (i := 5) (d := 15) (T := 2) (ad := ⟨b1, 0, none⟩) (v := .int .i64 (x167)) (by kernel_rfl) (qT (qT (qB (qL (qB (qT (qT qZ))))))) (by kernel_rfl) (by kernel_rfl) vt2 (fun W hW => (Z201.chg hW notNil).cell 0) ?_
      refine wH_take [6, 9] [9, 6, 5, 4, 3, 2, 1, 0] [(19, .pointer (some ⟨b1, 1, none⟩)), (16, .int .i64 (wr (p1_0 - x167)))] (by kernel_rfl) (qT (qT (qB (qL (qB (qT (qT qZ))))))) (by kernel_rfl) ?_
      refine wH_load1 (i := 10) (d := 20) (T := 2) (ad := ⟨b1, 1, none⟩) (v := .int .i64 (x168)) (by kernel_rfl) (qT (qT (qB (qL (qB (qT (qT qZ))))))) (by kernel_rfl) (by kernel_rfl) vt2 (fun W hW => (Z201.chg hW notNil).cell 1) ?_
      refine wH_take [11] [11, 10, 9, 6, 5, 4, 3, 2, 1, 0] [(21, .pointer (some ⟨b7, 1, none⟩))] (by kernel_rfl) (qT (qT (qB (qL (qB (qT (qT qZ))))))) (by kernel_rfl) ?_
      refine wH_load1 (i := 12) (d := 22) (T := 2) (ad := ⟨b7, 1, none⟩) (v := .int .i64 (p1_1)) (by kernel_rfl) (qT (qT (qB (qL (qB (qT (qT qZ))))))) (by kernel_rfl) (by kernel_rfl) vt2 (fun W hW => (Z202.chg hW notNil).cell 1) ?_
      refine wH_take [13] [13, 12, 11, 10, 9, 6, 5, 4, 3, 2, 1, 0] [(23, .pointer (some ⟨b1, 1, none⟩))] (by kernel_rfl) (qT (qT (qB (qL (qB (qT (qT qZ))))))) (by kernel_rfl) ?_
      refine wH_load1 (i := 14) (d := 24) (T := 2) (ad := ⟨b1, 1, none⟩) (v := .int .i64 (x168)) (by kernel_rfl) (qT (qT (qB (qL (qB (qT (qT qZ))))))) (by kernel_rfl) (by kernel_rfl) vt2 (fun W hW => (Z201.chg hW notNil).cell 1) ?_
      refine wH_take [15] [15, 14, 13, 12, 11, 10, 9, 6, 5, 4, 3, 2, 1, 0] [(25, .int .i64 (wr (p1_1 - x168)))] (by kernel_rfl) (qT (qT (qB (qL (qB (qT (qT qZ))))))) (by kernel_rfl) ?_
      refine wH_all [7] (by rfl) (by kernel_rfl) (by simp) ⟨⟨by kernel_rfl, ?_⟩, trivial⟩
      obtain ⟨y204, hy205, hm⟩ := bindE hm
      refine wS_calls (d := 17) (f := 149) (vs := [.int .i64 (wr (p1_0 - x167))]) (by kernel_rfl) ent149 (c_impl_side hy205) ?_
      rintro _ w206 ⟨rfl, hc207⟩
      replace F170 := F170.chg hc207 notNil
      replace F171 := F171.chg hc207 notNil
      replace F172 := F172.chg hc207 Dj.nil
      replace hB := hB.inS hc207 inNil
      have hSz := hS
      replace hS := hS.inS hc207 inNil
      replace hZ := Nat.le_trans hZ hc207.size
      refine ⟨.int .i64 (y204), rfl, ?_⟩
      refine wS_end (by kernel_rfl) ?_
      refine eX_KH hS ?_
      refine wH_take [8] [8, 7, 15, 14, 13, 12, 11, 10, 9, 6, 5, 4, 3, 2, 1, 0] [(18, .int .i64 (wr (x167 + y204)))] (by kernel_rfl) (qT (qT (qB (qL (qB (qT (qT qZ))))))) (by kernel_rfl) ?_
      refine wH_all [16] (by rfl) (by kernel_rfl) (by simp) ⟨⟨by kernel_rfl, ?_⟩, trivial⟩
      obtain ⟨y208, hy209, hm⟩ := bindE hm
      refine wS_calls (d := 26) (f := 149) (vs := [.int .i64 (wr (p1_1 - x168))]) (by kernel_rfl) ent149 (c_impl_side hy209) ?_
      rintro _ w210 ⟨rfl, hc211⟩
      replace F170 := F170.chg hc211 notNil
      replace F171 := F171.chg hc211 notNil
      replace F172 := F172.chg hc211 Dj.nil
      replace hB := hB.inS hc211 inNil
      have hSz := hS
      replace hS := hS.inS hc211 inNil
      replace hZ := Nat.le_trans hZ hc211.size
      refine ⟨.int .i64 (y208), rfl, ?_⟩
      refine wS_end (by kernel_rfl) ?_
      refine eX_KH hS ?_
      refine wH_take [17] [17, 16, 8, 7, 15, 14, 13, 12, 11, 10, 9, 6, 5, 4, 3, 2, 1, 0] [(27, .int .i64 (wr (x168 + y208)))] (by kernel_rfl) (qT (qT (qB (qL (qB (qT (qT qZ))))))) (by kernel_rfl) ?_
      refine wH_done (by kernel_rfl) ?_
      refine eX_tail ?_
      refine wS_pure 1 [(28, .agg #[.int .i64 (wr (x167 + y204)), .int .i64 (wr (x168 + y208))])] (by kernel_rfl) ?_
      refine wS_store (T := 34) (g := b1) (o := 0) (ad := ⟨b1, 0, none⟩) (v := .agg #[.int .i64 (wr (x167 + y204)), .int .i64 (wr (x168 + y208))]) (vs := [.int .i64 (wr (x167 + y204)), .int .i64 (wr (x168 + y208))]) (by kernel_rfl) (by rfl) sz34 (by rfl) (by rfl) F170 (by simp only [List.length_cons, List.length_nil]; omega) ?_
      intro w212 F213 hc214
      replace F171 := F171.chg hc214 (dj1 (D13).symm)
      replace F172 := F172.chg hc214 (D174).symm
      replace hB := hB.inS hc214 (inLow (low1 G3))
      replace hZ := Nat.le_trans hZ hc214.size
      replace F213 : Cl w212 b1 34 [.int .i64 (wr (x167 + y204)), .int .i64 (wr (x168 + y208))] := F213
      clear F170
      refine wS_end (by rfl) ?_
      refine eX_then ?_
      refine cW_prune [(2, .pointer (some ⟨b1, 0, none⟩)), (3, .pointer (some ⟨b7, 0, none⟩)), (5, .slice A163 (l162).length cap164)] (by kernel_rfl) (by kernel_rfl) (fun a215 => ?_)
      refine cW_region ?_
      refine wS_pure 1 [(29, .slice A163 (l162).length cap164)] (by kernel_rfl) ?_
      refine wS_loadA (d := 30) (T := 34) (ad := ⟨b1, 0, none⟩) (vs := [.int .i64 (wr (x167 + y204)), .int .i64 (wr (x168 + y208))]) (by kernel_rfl) vt34 (fun i u hu => box_cells F213 0 hu (by rfl)) ?_
      refine wS_bs (enc := encII) ([(wr (x167 + y204), wr (x168 + y208))] : List (Int × Int)) [.int .i64 (wr (x167 + y204)), .int .i64 (wr (x168 + y208))] (d := 31) (t := 25) (T := 34) (n := 1) (ps := [(0, .agg #[.int .i64 (wr (x167 + y204)), .int .i64 (wr (x168 + y208))])]) (by kernel_rfl) el25 encII_ok (by rfl) (by omega) (by omega) (by kernel_rfl) (by rfl) ?_
      intro b216 w217 G218 F219 hc220
      have D222 : Dj [b1] [b216] := Dj.of (lt1 F213.lt) (low1 G218)
      have D223 : Dj [b7] [b216] := Dj.of (lt1 F171.lt) (low1 G218)
      have D224 : Dj fp165 [b216] := Dj.of F172.low (low1 G218)
      replace F213 := F213.chg hc220 notNil
      replace F171 := F171.chg hc220 notNil
      replace F172 := F172.chg hc220 Dj.nil
      replace hB := hB.inS hc220 inNil
      replace G218 := Nat.le_trans hZ G218
      replace G218 := low1 G218
      replace hZ := Nat.le_trans hZ hc220.size
      obtain ⟨_, hk225, hm⟩ := bindE hm
      replace hk225 := apE hk225
      refine wS_append (enc := encII) (l := (l162 : List (Int × Int))) (l2 := (([(wr (x167 + y204), wr (x168 + y208))] : List (Int × Int)) : List (Int × Int))) (d := 32) (t := 25) (T := 34) (A := A163) (A2 := (some ⟨b216, 0, none⟩)) (cap := cap164) (cap2 := 1) (by kernel_rfl) el25 encII_ok F172 (F219.sl encII_ok) (by rfl) hk225 ?_
      intro w226 fp227 A228 cap229 F230 hc231 hp232
      have G234 := low_ap G173 hZ hp232
      have D235 : Dj [b1] fp227 := Dj.ap D174 (lt1 F213.lt) hp232
      have D236 : Dj [b7] fp227 := Dj.ap D175 (lt1 F171.lt) hp232
      have D237 : Dj [b216] fp227 := Dj.ap (D224).symm F219.low hp232
      replace F213 := F213.chg hc231 (dj1 D174)
      replace F171 := F171.chg hc231 (dj1 D175)
      replace F219 := F219.chg hc231 (D224).symm
      replace hB := hB.inS hc231 (inLow G173)
      replace hZ := Nat.le_trans hZ hc231.size
      refine wS_pure 1 [(5, .slice A228 (l162 ++ (([(wr (x167 + y204), wr (x168 + y208))] : List (Int × Int)))).length cap229)] (by kernel_rfl) ?_
      refine wS_end (by rfl) ?_
      refine eX_block ?_
      have hq : (some (Ctl.next ((l162 ++ (([(wr (x167 + y204), wr (x168 + y208))] : List (Int × Int))), wr (x167 + y204), wr (x168 + y208)))) : Option (Ctl ((List (Int × Int)) × Int × Int) ((List (Int × Int))))) = some _ := hm
      replace hq := someE hq
      subst hq
      exact eX_next hx181 (fun hst => ⟨l162 ++ (([(wr (x167 + y204), wr (x168 + y208))] : List (Int × Int))), A228, cap229, fp227, wr (x167 + y204), wr (x168 + y208), rfl, Fr.of hst (by kernel_rfl), F213, F171, F230, G234, D235, D236, hB, hZ⟩)
    · have hm := condF hb182 hm
      refine cW_exit ?_
      refine eX_then_exit ?_
      have hq : (some (Ctl.out l162) : Option (Ctl ((List (Int × Int)) × Int × Int) ((List (Int × Int))))) = some _ := hm
      replace hq := someE hq
      subst hq
      refine eX_outX hx181 (fun hr238 => ?_)
      replace hr238 := hr238.symm
      subst hr238
      refine eX_block_hit ?_
      exact eX_J (fun hst => ⟨l162, A163, cap164, fp165, rfl, Fr.of hst (by kernel_rfl), F172, G173, hB, hZ⟩)
  · rintro a' w152 ⟨l153, A154, cap155, fp156, hJ, hF158, F159, G160, hB, hZ⟩
    subst hJ
    refine Fr.goX hF158 (by kernel_rfl) ?_
    refine eX_then ?_
    refine cW_seq ?_
    refine cW_region ?_
    refine wS_pure 2 [(4, .slice A154 (l153).length cap155), (33, .slice A154 (l153).length cap155)] (by kernel_rfl) ?_
    refine wS_end (by rfl) ?_
    refine eX_then ?_
    refine cW_ret ?_
    have hq : (some l153 : Option ((List (Int × Int)))) = some _ := hm
    replace hq := someE hq
    subst hq
    refine eX_ret (vs := [.slice A154 (l153).length cap155]) [.tmp 4] (by rfl) ⟨by (show lkE _ _ _ = _); kernel_rfl, trivial⟩ ?_
    exact ⟨A154, cap155, fp156, rfl, F159, G160, hB⟩

set_option maxRecDepth 100000 in
/-- impl.Point] -/
theorem c_slices_Equal_impl_Point_impl_Point {w0 : World} {l0 : List (Int × Int)} {A0 : Option Addr} {cap0 : Nat} {fp0 : List Nat} {l1 : List (Int × Int)} {A1 : Option Addr} {cap1 : Nat} {fp1 : List Nat} {r : (Bool)} (hm : m_slices_Equal_impl_Point_impl_Point l0 l1 = some r) (F0 : Sl 2 encII w0 fp0 A0 l0) (F1 : Sl 2 encII w0 fp1 A1 l1) :
    Calls Try.prog 130 #[.slice A0 (l0).length cap0, .slice A1 (l1).length cap1] w0 fun e w' => e = .returned (.bool (r)) ∧ Chg [] w0 w' := by
  have L0 := F0.low
  have L1 := F1.low
  have hB : Chg [] w0 w0 := Chg.refl _ _
  have hZ := Nat.le_refl w0.heap.size
  unfold m_slices_Equal_impl_Point_impl_Point at hm
  refine enterE (N := 26) Try.func130 (by rfl) Try.ntmps130 (by simp) [(0, .slice A0 (l0).length cap0), (1, .slice A1 (l1).length cap1)] (by rfl) (by kernel_rfl) (fun a => ?_)
  refine cW_seq ?_
  refine cW_region ?_
  refine wS_pure 1 [(4, .bool (false))] (by kernel_rfl) ?_
  refine wS_end (by rfl) ?_
  refine eX_then ?_
  refine cW_seq ?_
  refine cW_seq ?_
  refine cW_region ?_
  refine wS_pure 5 [(10, .bool ((((l0).length : Int)) != (((l1).length : Int)))), (9, .int .i64 (((l1).length : Int))), (8, .slice A1 (l1).length cap1), (7, .int .i64 (((l0).length : Int))), (6, .slice A0 (l0).length cap0)] (by kernel_rfl) ?_
  refine wS_end (by rfl) ?_
  refine eX_then ?_
  refine cW_cond (t := (((l0).length : Int)) != (((l1).length : Int))) (by kernel_rfl) (fun hb3 => ?_) (fun hb3 => ?_)
  · have hm := condT hb3 hm
    refine cW_seq ?_
    refine cW_region ?_
    refine wS_pure 1 [(4, .bool (false))] (by kernel_rfl) ?_
    refine wS_end (by rfl) ?_
    refine eX_then ?_
    refine cW_ret ?_
    refine eX_then_ret ?_
    have hq : (some false : Option ((Bool))) = some _ := hm
    replace hq := someE hq
    subst hq
    refine eX_ret (vs := [.bool (false)]) [.tmp 4] (by rfl) ⟨by (show lkE _ _ _ = _); kernel_rfl, trivial⟩ ?_
    exact ⟨rfl, hB⟩
  · have hm := condF hb3 hm
    refine cW_skip ?_
    refine eX_then ?_
    refine cW_seq ?_
    refine cW_seq ?_
    refine cW_region ?_
    refine wS_pure 3 [(13, .int .i64 (0)), (12, .int .i64 (((l0).length : Int))), (11, .slice A0 (l0).length cap0)] (by kernel_rfl) ?_
    refine wS_end (by rfl) ?_
    refine eX_then ?_
    obtain ⟨r54, hr55, hm⟩ := bindE hm
    have hm56 := hm
    refine cW_cut (fun a' w' => Sum.inl (()) = r54 ∧ Fr 26 [] a' ∧ Chg [] w0 w' ∧ w0.heap.size ≤ w'.heap.size) ?_ ?_
    · refine cW_block ?_
      refine cW_loop _ (fun (s57 : Int) a' w' => ∃ x50 : Int, x50 = s57 ∧ Fr 26 [(0, .slice A0 (l0).length cap0), (1, .slice A1 (l1).length cap1), (12, .int .i64 (((l0).length : Int))), (13, .int .i64 (x50))] a' ∧ Sl 2 encII w' fp0 A0 l0 ∧ Sl 2 encII w' fp1 A1 l1 ∧ Chg [] w0 w' ∧ w0.heap.size ≤ w'.heap.size) hr55 (fun hst => ⟨0, rfl, Fr.of hst (by kernel_rfl), F0, F1, hB, hZ⟩) ?_
      rintro _ c58 a' w49 ⟨x50, rfl, hF51, F52, F53, hB, hZ⟩ hx59
      refine Fr.goOn hF51 (by kernel_rfl) ?_
      have hm := hx59
      unfold m_slices_Equal_impl_Point_impl_Point_s1 at hm
      refine cW_seq ?_
      refine cW_region ?_
      refine wS_pure 1 [(14, .bool (decide (x50 < (((l0).length : Int)))))] (by kernel_rfl) ?_
      refine wS_end (by rfl) ?_
      refine eX_then ?_
      refine cW_seq ?_
      refine cW_cond (t := decide (x50 < (((l0).length : Int)))) (by kernel_rfl) (fun hb60 => ?_) (fun hb60 => ?_)
      · have hm := condT hb60 hm
        refine cW_skip ?_
        refine eX_then ?_
        refine cW_seq ?_
        refine cW_block ?_
        refine cW_seq ?_
        refine cW_region ?_
        refine wS_pure 2 [(5, .int .i64 (x50)), (15, .int .i64 (x50))] (by kernel_rfl) ?_
        refine wS_end (by rfl) ?_
        refine eX_then ?_
        refine cW_seq ?_
        refine cW_drawnTail [] 8 (by kernel_rfl) (by kernel_rfl) (fun w69 hc70 => ?_)
        replace F52 := F52.chg hc70 Dj.nil
        replace F53 := F53.chg hc70 Dj.nil
        replace hB := hB.inS hc70 inNil
        replace hZ := Nat.le_trans hZ hc70.size
        have hS := Chg.refl [] w69
        have Z71 := F52
        have Z72 := F53
        refine wH_take [0, 1] [1, 0] [(17, .int .i64 (x50)), (16, .slice A0 (l0).length cap0)] (by kernel_rfl) (qT (qT (qB (qT (qL (qB (qT (qT qZ)))))))) (by kernel_rfl) ?_
        obtain ⟨x73, hx74, hm⟩ := bindE hm
        refine wH_idx (i := 2) (d := 18) (T := 25) (A := A0) (n := (l0).length) (cap := cap0) (kd := .i64) (m := x50) (by kernel_rfl) (qT (qT (qB (qT (qL (qB (qT (qT qZ)))))))) (by kernel_rfl) (by kernel_rfl) sl25 (F52.is hx74) ?_
        refine wH_loadA (i := 3) (d := 19) (T := 34) (ad := (elA A0 2 (x50) 0)) (vs := [.int .i64 (x73.1), .int .i64 (x73.2)]) (by kernel_rfl) (qT (qT (qB (qT (qL (qB (qT (qT qZ)))))))) (by kernel_rfl) (by kernel_rfl) vt34 (fun W hW i u hu => Sl.cells_at (Z71.chg hW Dj.nil) hx74 0 hu (by rfl)) ?_
        refine wH_take [4, 5] [5, 4, 3, 2, 1, 0] [(21, .int .i64 (x50)), (20, .slice A1 (l1).length cap1)] (by kernel_rfl) (qT (qT (qB (qT (qL (qB (qT (qT qZ)))))))) (by kernel_rfl) ?_
        obtain ⟨x75, hx76, hm⟩ := bindE hm
        refine wH_idx (i := 6) (d := 22) (T := 25) (A := A1) (n := (l1).length) (cap := cap1) (kd := .i64) (m := x50) (by kernel_rfl) (qT (qT (qB (qT (qL (qB (qT (qT qZ)))))))) (by kernel_rfl) (by kernel_rfl) sl25 (F53.is hx76) ?_
        refine wH_loadA (i := 7) (d := 23) (T := 34) (ad := (elA A1 2 (x50) 0)) (vs := [.int .i64 (x75.1), .int .i64 (x75.2)]) (by kernel_rfl) (qT (qT (qB (qT (qL (qB (qT (qT qZ)))))))) (by kernel_rfl) (by kernel_rfl) vt34 (fun W hW i u hu => Sl.cells_at (Z72.chg hW Dj.nil) hx76 0 hu (by rfl)) ?_
        refine wH_done (by kernel_rfl) ?_
        refine eX_tail ?_
        refine wS_neS (d := 24) (T := 34) (x := x73.1) (y := x73.2) (x' := x75.1) (y' := x75.2) (by kernel_rfl) eq34 ?_
        refine wS_end (by rfl) ?_
        refine eX_then ?_
        refine cW_cond (t := !(x73.1 == x75.1 && x73.2 == x75.2)) (by kernel_rfl) (fun hb77 => ?_) (fun hb77 => ?_)
        · have hm := condT hb77 hm
          refine cW_seq ?_
          refine cW_region ?_
          refine wS_pure 1 [(4, .bool (false))] (by kernel_rfl) ?_
          refine wS_end (by rfl) ?_
          refine eX_then ?_
          refine cW_ret ?_
          refine eX_block_ret ?_
          refine eX_then_ret ?_
          have hq : (some (Ctl.out (Sum.inr false)) : Option (Ctl (Int) (Sum (Unit) ((Bool))))) = some _ := hm
          replace hq := someE hq
          subst hq
          refine eX_outR hx59 (fun hr => ?_)
          subst hr
          refine eX_block_ret ?_
          refine eX_then_ret ?_
          refine eX_then_ret ?_
          have hq : (some false : Option ((Bool))) = some _ := hm56
          replace hq := someE hq
          subst hq
          refine eX_ret (vs := [.bool (false)]) [.tmp 4] (by rfl) ⟨by (show lkE _ _ _ = _); kernel_rfl, trivial⟩ ?_
          exact ⟨rfl, hB⟩
        · have hm := condF hb77 hm
          refine cW_skip ?_
          refine eX_block ?_
          refine eX_then ?_
          refine cW_region ?_
          refine wS_pure 2 [(13, .int .i64 (wr (x50 + 1))), (25, .int .i64 (wr (x50 + 1)))] (by kernel_rfl) ?_
          refine wS_end (by rfl) ?_
          have hq : (some (Ctl.next (wr (x50 + 1))) : Option (Ctl (Int) (Sum (Unit) ((Bool))))) = some _ := hm
          replace hq := someE hq
          subst hq
          exact eX_next hx59 (fun hst => ⟨wr (x50 + 1), rfl, Fr.of hst (by kernel_rfl), F52, F53, hB, hZ⟩)
      · have hm := condF hb60 hm
        refine cW_exit ?_
        refine eX_then_exit ?_
        have hq : (some (Ctl.out (Sum.inl (()))) : Option (Ctl (Int) (Sum (Unit) ((Bool))))) = some _ := hm
        replace hq := someE hq
        subst hq
        refine eX_outX hx59 (fun hr78 => ?_)
        replace hr78 := hr78.symm
        subst hr78
        refine eX_block_hit ?_
        exact eX_J (fun hst => ⟨rfl, Fr.of hst (by kernel_rfl), hB, hZ⟩)
    · rintro a' w47 ⟨hJ, hF48, hB, hZ⟩
      subst hJ
      refine Fr.goX hF48 (by kernel_rfl) ?_
      refine eX_then ?_
      refine cW_seq ?_
      refine cW_region ?_
      refine wS_pure 1 [(4, .bool (true))] (by kernel_rfl) ?_
      refine wS_end (by rfl) ?_
      refine eX_then ?_
      refine cW_ret ?_
      have hq : (some true : Option ((Bool))) = some _ := hm
      replace hq := someE hq
      subst hq
      refine eX_ret (vs := [.bool (true)]) [.tmp 4] (by rfl) ⟨by (show lkE _ _ _ = _); kernel_rfl, trivial⟩ ?_
      exact ⟨rfl, hB⟩

set_option maxRecDepth 100000 in
/-- impl.through -/
theorem c_impl_through {w0 : World} {l0 : List (Int × Int)} {A0 : Option Addr} {cap0 : Nat} {fp0 : List Nat} {r : (List (Int × Int)) × (Bool)} (hm : m_impl_through l0 = some r) (F0 : Sl 2 encII w0 fp0 A0 l0) (K0 : (l0).length ≤ cap0) :
    Calls Try.prog 96 #[.slice A0 (l0).length cap0] w0 fun e w' => ∃ A100 cap100 fp100, e = .returned (.tuple #[.slice A100 (r.1).length cap100, .bool (r.2)]) ∧ Mx 2 encII 34 w' fp0 fp100 A100 cap100 r.1 ∧ (∀ x ∈ fp100, w0.heap.size ≤ x) ∧ Chg [] w0 w' := by
  have L0 := F0.low
  have hB : Chg [] w0 w0 := Chg.refl _ _
  have hZ := Nat.le_refl w0.heap.size
  unfold m_impl_through at hm
  refine enterE (N := 73) Try.func96 (by rfl) Try.ntmps96 (by simp) [(0, .slice A0 (l0).length cap0)] (by rfl) (by kernel_rfl) (fun a => ?_)
  refine cW_seq ?_
  refine cW_region ?_
  refine wS_pure 2 [(3, .bool (false)), (2, .slice none 0 0)] (by kernel_rfl) ?_
  refine wS_end (by rfl) ?_
  refine eX_then ?_
  refine cW_seq ?_
  refine cW_seq ?_
  refine cW_region ?_
  refine wS_pure 4 [(11, .bool ((((l0).length : Int)) == 0)), (10, .bool ((((l0).length : Int)) == 0)), (9, .int .i64 (((l0).length : Int))), (8, .slice A0 (l0).length cap0)] (by kernel_rfl) ?_
  refine wS_bool ((((l0).length : Int)) == 0) (fun hb2 => ?_) (fun hb2 => ?_)
  · have hm := condT hb2 hm
    rewrite [hb2]
    refine wS_pure 8 [(19, .bool (true)), (18, undef), (17, undef), (16, .bool (true)), (15, .bool (true)), (14, undef), (13, undef), (12, undef)] (by kernel_rfl) ?_
    refine wS_end (by rfl) ?_
    refine eX_then ?_
    refine cW_cond_t (by kernel_rfl) ?_
    refine cW_seq ?_
    refine cW_region ?_
    refine wS_pure 2 [(3, .bool (false)), (2, .slice none 0 0)] (by kernel_rfl) ?_
    refine wS_end (by rfl) ?_
    refine eX_then ?_
    refine cW_ret ?_
    refine eX_then_ret ?_
    have hq : (some (([], false)) : Option ((List (Int × Int)) × (Bool))) = some _ := hm
    replace hq := someE hq
    subst hq
    refine eX_ret (vs := [.slice none 0 0, .bool (false)]) [.tmp 2, .tmp 3] (by rfl) ⟨by (show lkE _ _ _ = _); kernel_rfl, ⟨by (show lkE _ _ _ = _); kernel_rfl, trivial⟩⟩ ?_
    exact ⟨none, 0, [], rfl, (Mx.nil F0.low), lowNil, hB⟩
  · have hm := condF hb2 hm
    rewrite [hb2]
    refine wS_pure 5 [(16, .bool (decide ((((l0).length : Int)) > 576))), (15, .bool (decide ((((l0).length : Int)) > 576))), (14, .bool (decide ((((l0).length : Int)) > 576))), (13, .int .i64 (((l0).length : Int))), (12, .slice A0 (l0).length cap0)] (by kernel_rfl) ?_
    refine wS_bool (decide ((((l0).length : Int)) > 576)) (fun hb3 => ?_) (fun hb3 => ?_)
    · have hm := condT hb3 hm
      rewrite [hb3]
      refine wS_pure 3 [(19, .bool (true)), (18, undef), (17, undef)] (by kernel_rfl) ?_
      refine wS_end (by rfl) ?_
      refine eX_then ?_
      refine cW_cond_t (by kernel_rfl) ?_
      refine cW_seq ?_
      refine cW_region ?_
      refine wS_pure 2 [(3, .bool (false)), (2, .slice none 0 0)] (by kernel_rfl) ?_
      refine wS_end (by rfl) ?_
      refine eX_then ?_
      refine cW_ret ?_
      refine eX_then_ret ?_
      have hq : (some (([], false)) : Option ((List (Int × Int)) × (Bool))) = some _ := hm
      replace hq := someE hq
      subst hq
      refine eX_ret (vs := [.slice none 0 0, .bool (false)]) [.tmp 2, .tmp 3] (by rfl) ⟨by (show lkE _ _ _ = _); kernel_rfl, ⟨by (show lkE _ _ _ = _); kernel_rfl, trivial⟩⟩ ?_
      exact ⟨none, 0, [], rfl, (Mx.nil F0.low), lowNil, hB⟩
    · have hm := condF hb3 hm
      rewrite [hb3]
      refine wS_pure 1 [(17, .slice A0 (l0).length cap0)] (by kernel_rfl) ?_
      obtain ⟨y4, hy5, hm⟩ := bindE hm
      refine wS_calls (d := 18) (f := 71) (vs := [.slice A0 (l0).length cap0, .func (.func 72) #[] #[]]) (by kernel_rfl) ent71 (c_slices_ContainsFunc_impl_Point_impl_Point_impl_noPoint hy5 F0) ?_
      rintro _ w6 ⟨rfl, hc7⟩
      replace F0 := F0.chg hc7 Dj.nil
      replace hB := hB.inS hc7 inNil
      replace hZ := Nat.le_trans hZ hc7.size
      refine ⟨.bool (y4), rfl, ?_⟩
      refine wS_pure 1 [(19, .bool (y4))] (by kernel_rfl) ?_
      refine wS_end (by rfl) ?_
      refine eX_then ?_
      refine cW_cond (t := y4) (by kernel_rfl) (fun hb8 => ?_) (fun hb8 => ?_)
      · have hm := condT hb8 hm
        refine cW_seq ?_
        refine cW_region ?_
        refine wS_pure 2 [(3, .bool (false)), (2, .slice none 0 0)] (by kernel_rfl) ?_
        refine wS_end (by rfl) ?_
        refine eX_then ?_
        refine cW_ret ?_
        refine eX_then_ret ?_
        have hq : (some (([], false)) : Option ((List (Int × Int)) × (Bool))) = some _ := hm
        replace hq := someE hq
        subst hq
        refine eX_ret (vs := [.slice none 0 0, .bool (false)]) [.tmp 2, .tmp 3] (by rfl) ⟨by (show lkE _ _ _ = _); kernel_rfl, ⟨by (show lkE _ _ _ = _); kernel_rfl, trivial⟩⟩ ?_
        exact ⟨none, 0, [], rfl, (Mx.nil F0.low), lowNil, hB⟩
      · have hm := condF hb8 hm
        refine cW_skip ?_
        refine eX_then ?_
        refine cW_seq ?_
        refine cW_region ?_
        refine wS_pure 1 [(20, .slice A0 (l0).length cap0)] (by kernel_rfl) ?_
        obtain ⟨y9, hy10, hm⟩ := bindE hm
        refine wS_slice3v (enc := encII) (U := 34) (l := l0) (d := 21) (T := 25) (A := A0) (cap := cap0) (hi := 1) (by kernel_rfl) sl25 F0 K0 hy10 ?_
        intro F11
        refine wS_pure 1 [(4, .slice A0 (y9).length (y9).length)] (by kernel_rfl) ?_
        refine wS_end (by rfl) ?_
        refine eX_then ?_
        refine cW_seq ?_
        refine cW_seq ?_
        refine cW_region ?_
        refine wS_pure 1 [(5, .int .i64 (1))] (by kernel_rfl) ?_
        refine wS_end (by rfl) ?_
        refine eX_then ?_
        obtain ⟨r545, hr546, hm⟩ := bindE hm
        have hm547 := hm
        refine cW_cut (fun a' w' => ∃ l525 : List (Int × Int), ∃ A526 : Option Addr, ∃ cap527 : Nat, ∃ fp528 : List Nat, Sum.inl l525 = r545 ∧ Fr 73 [(0, .slice A0 (l0).length cap0), (4, .slice A526 (l525).length cap527)] a' ∧ Sl 2 encII w' fp0 A0 l0 ∧ Mx 2 encII 34 w' fp0 fp528 A526 cap527 l525 ∧ (∀ x ∈ fp528, w0.heap.size ≤ x) ∧ Chg [] w0 w' ∧ w0.heap.size ≤ w'.heap.size) ?_ ?_
        · refine cW_block ?_
          refine cW_loop _ (fun (s548 : (List (Int × Int)) × Int) a' w' => ∃ l535 : List (Int × Int), ∃ A536 : Option Addr, ∃ cap537 : Nat, ∃ fp538 : List Nat, ∃ x540 : Int, (l535, x540) = s548 ∧ Fr 73 [(0, .slice A0 (l0).length cap0), (4, .slice A536 (l535).length cap537), (5, .int .i64 (x540))] a' ∧ Sl 2 encII w' fp0 A0 l0 ∧ Mx 2 encII 34 w' fp0 fp538 A536 cap537 l535 ∧ (∀ x ∈ fp538, w0.heap.size ≤ x) ∧ Chg [] w0 w' ∧ w0.heap.size ≤ w'.heap.size) hr546 (fun hst => ⟨y9, A0, (y9).length, [], 1, rfl, Fr.of hst (by kernel_rfl), F0, F11, lowNil, hB, hZ⟩) ?_
          rintro _ c549 a' w534 ⟨l535, A536, cap537, fp538, x540, rfl, hF541, F542, F543, G544, hB, hZ⟩ hx550
          refine Fr.goOn hF541 (by kernel_rfl) ?_
          have hm := hx550
          unfold m_impl_through_s1 at hm
          refine cW_seq ?_
          refine cW_seq ?_
          refine cW_region ?_
          refine wS_pure 4 [(25, .bool (decide (x540 < (((l0).length : Int))))), (24, .int .i64 (((l0).length : Int))), (23, .slice A0 (l0).length cap0), (22, .int .i64 (x540))] (by kernel_rfl) ?_
          refine wS_end (by rfl) ?_
          refine eX_then ?_
          refine cW_cond (t := decide (x540 < (((l0).length : Int)))) (by kernel_rfl) (fun hb551 => ?_) (fun hb551 => ?_)
          · have hm := condT hb551 hm
            refine cW_skip ?_
            refine eX_then ?_
            refine cW_seq ?_
            refine cW_block ?_
            refine cW_seq ?_
            obtain ⟨s679, hs680, hm⟩ := bindE hm
            refine cW_cut (fun a' w' => ∃ b661 : Nat, ∃ x662 : Int, ∃ x663 : Int, ∃ b665 : Nat, ∃ x666 : Int, ∃ x667 : Int, (x662, x663, x666, x667) = s679 ∧ Fr 73 [(0, .slice A0 (l0).length cap0), (4, .slice A536 (l535).length cap537), (5, .int .i64 (x540)), (6, .pointer (some ⟨b661, 0, none⟩)), (7, .pointer (some ⟨b665, 0, none⟩))] a' ∧ Sl 2 encII w' fp0 A0 l0 ∧ Mx 2 encII 34 w' fp0 fp538 A536 cap537 l535 ∧ Cl w' b661 34 [.int .i64 (x662), .int .i64 (x663)] ∧ Cl w' b665 34 [.int .i64 (x666), .int .i64 (x667)] ∧ w0.heap.size ≤ b661 ∧ w0.heap.size ≤ b665 ∧ Dj fp538 [b661] ∧ Dj [b665] [b661] ∧ Dj fp538 [b665] ∧ Chg [] w0 w' ∧ w0.heap.size ≤ w'.heap.size) ?_ ?_
            · have hm := hs680
              refine cW_drawnTail [] 12 (by kernel_rfl) (by kernel_rfl) (fun w681 hc682 => ?_)
              replace F542 := F542.chg hc682 Dj.nil
              replace F543 := F543.chg hc682 Dj.nil Dj.nil
              replace hB := hB.inS hc682 inNil
              replace hZ := Nat.le_trans hZ hc682.size
              have hS := Chg.refl [] w681
              have Z683 := F542
              have Z684 := F543
              refine wH_take [0, 1, 2] [2, 1, 0] [(30, .int .i64 (wr (x540 - 1))), (29, .int .i64 (x540)), (28, .slice A0 (l0).length cap0)] (by kernel_rfl) (qT (qT (qT (qB (qT (qL (qB (qT (qT qZ))))))))) (by kernel_rfl) ?_
              obtain ⟨x685, hx686, hm⟩ := bindE hm
              refine wH_idx (i := 3) (d := 31) (T := 25) (A := A0) (n := (l0).length) (cap := cap0) (kd := .i64) (m := wr (x540 - 1)) (by kernel_rfl) (qT (qT (qT (qB (qT (qL (qB (qT (qT qZ))))))))) (by kernel_rfl) (by kernel_rfl) sl25 (F542.is hx686) ?_
              refine wH_loadA (i := 4) (d := 32) (T := 34) (ad := (elA A0 2 (wr (x540 - 1)) 0)) (vs := [.int .i64 (x685.1), .int .i64 (x685.2)]) (by kernel_rfl) (qT (qT (qT (qB (qT (qL (qB (qT (qT qZ))))))))) (by kernel_rfl) (by kernel_rfl) vt34 (fun W hW i u hu => Sl.cells_at (Z683.chg hW Dj.nil) hx686 0 hu (by rfl)) ?_
              refine wH_take [5, 6] [6, 5, 4, 3, 2, 1, 0] [(34, .int .i64 (x540)), (33, .slice A0 (l0).length cap0)] (by kernel_rfl) (qT (qT (qT (qB (qT (qL (qB (qT (qT qZ))))))))) (by kernel_rfl) ?_
              obtain ⟨x687, hx688, hm⟩ := bindE hm
              refine wH_idx (i := 7) (d := 35) (T := 25) (A := A0) (n := (l0).length) (cap := cap0) (kd := .i64) (m := x540) (by kernel_rfl) (qT (qT (qT (qB (qT (qL (qB (qT (qT qZ))))))))) (by kernel_rfl) (by kernel_rfl) sl25 (F542.is hx688) ?_
              refine wH_loadA (i := 8) (d := 36) (T := 34) (ad := (elA A0 2 (x540) 0)) (vs := [.int .i64 (x687.1), .int .i64 (x687.2)]) (by kernel_rfl) (qT (qT (qT (qB (qT (qL (qB (qT (qT qZ))))))))) (by kernel_rfl) (by kernel_rfl) vt34 (fun W hW i u hu => Sl.cells_at (Z683.chg hW Dj.nil) hx688 0 hu (by rfl)) ?_
              refine wH_all [9, 10] (by rfl) (by kernel_rfl) (by simp) ⟨⟨by kernel_rfl, ?_⟩, ⟨by kernel_rfl, ?_⟩, trivial⟩
              · skip
                refine wS_alloc (d := 6) (T := 34) (z := .agg #[.int .i64 (0), .int .i64 (0)]) (by kernel_rfl) (by kernel_rfl) ?_
                intro b689 w690 G691 F692 hc693
                replace F692 : Cl w690 b689 34 [.int .i64 (0), .int .i64 (0)] := F692
                have D695 : Dj fp538 [b689] := Dj.of F543.low (low1 G691)
                replace F542 := F542.chg hc693 Dj.nil
                replace F543 := F543.chg hc693 Dj.nil Dj.nil
                replace hB := hB.inS hc693 inNil
                have hSz := hS
                replace hS := hS.inS hc693 inNil
                have Gz696 := low1 (Nat.le_trans hSz.size G691)
                replace G691 := Nat.le_trans hZ G691
                replace hZ := Nat.le_trans hZ hc693.size
                refine wS_end (by kernel_rfl) ?_
                refine eX_KH hS ?_
                refine wH_all [10] (by rfl) (by kernel_rfl) (by simp) ⟨⟨by kernel_rfl, ?_⟩, trivial⟩
                refine wS_alloc (d := 7) (T := 34) (z := .agg #[.int .i64 (0), .int .i64 (0)]) (by kernel_rfl) (by kernel_rfl) ?_
                intro b697 w698 G699 F700 hc701
                replace F700 : Cl w698 b697 34 [.int .i64 (0), .int .i64 (0)] := F700
                have D703 : Dj fp538 [b697] := Dj.of F543.low (low1 G699)
                have D704 : Dj [b689] [b697] := Dj.of (lt1 F692.lt) (low1 G699)
                replace F542 := F542.chg hc701 Dj.nil
                replace F543 := F543.chg hc701 Dj.nil Dj.nil
                replace F692 := F692.chg hc701 notNil
                replace hB := hB.inS hc701 inNil
                have hSz := hS
                replace hS := hS.inS hc701 inNil
                have Gz705 := low1 (Nat.le_trans hSz.size G699)
                replace G699 := Nat.le_trans hZ G699
                replace hZ := Nat.le_trans hZ hc701.size
                refine wS_end (by kernel_rfl) ?_
                refine eX_KH hS ?_
                refine wH_all [11] (by rfl) (by kernel_rfl) (by simp) ⟨⟨by kernel_rfl, ?_⟩, trivial⟩
                refine wS_store (T := 34) (g := b689) (o := 0) (ad := ⟨b689, 0, none⟩) (v := .agg #[.int .i64 (x685.1), .int .i64 (x685.2)]) (vs := [.int .i64 (x685.1), .int .i64 (x685.2)]) (by kernel_rfl) (by rfl) sz34 (by rfl) (by rfl) F692 (by simp only [List.length_cons, List.length_nil]; omega) ?_
                intro w706 F707 hc708
                replace F542 := F542.chg hc708 (Dj.of L0 (low1 G691))
                replace F543 := F543.chg hc708 (Dj.of L0 (low1 G691)) D695
                replace F700 := F700.chg hc708 (dj1 (D704).symm)
                replace hB := hB.inS hc708 (inLow (low1 G691))
                have hSz := hS
                replace hS := hS.inS hc708 (inLow Gz696)
                replace hZ := Nat.le_trans hZ hc708.size
                replace F707 : Cl w706 b689 34 [.int .i64 (x685.1), .int .i64 (x685.2)] := F707
                clear F692
                refine wS_end (by kernel_rfl) ?_
                refine eX_KH hS ?_
                refine wH_done (by kernel_rfl) ?_
                refine eX_tail ?_
                refine wS_store (T := 34) (g := b697) (o := 0) (ad := ⟨b697, 0, none⟩) (v := .agg #[.int .i64 (x687.1), .int .i64 (x687.2)]) (vs := [.int .i64 (x687.1), .int .i64 (x687.2)]) (by kernel_rfl) (by rfl) sz34 (by rfl) (by rfl) F700 (by simp only [List.length_cons, List.length_nil]; omega) ?_
                intro w709 F710 hc711
                replace F542 := F542.chg hc711 (Dj.of L0 (low1 G699))
                replace F543 := F543.chg hc711 (Dj.of L0 (low1 G699)) D703
                replace F707 := F707.chg hc711 (dj1 D704)
                replace hB := hB.inS hc711 (inLow (low1 G699))
                replace hZ := Nat.le_trans hZ hc711.size
                replace F710 : Cl w709 b697 34 [.int .i64 (x687.1), .int .i64 (x687.2)] := F710
                clear F700
                refine wS_end (by rfl) ?_
                have hq : (some ((x685.1, x685.2, x687.1, x687.2)) : Option (Int × Int × Int × Int)) = some _ := hm
                replace hq := someE hq
                subst hq
                exact eX_J (fun hst => ⟨b689, x685.1, x685.2, b697, x687.1, x687.2, rfl, Fr.of hst (by kernel_rfl), F542, F543, F707, F710, G691, G699, D695, (D704).symm, D703, hB, hZ⟩)
              · skip
                refine wS_alloc (d := 7) (T := 34) (z := .agg #[.int .i64 (0), .int .i64 (0)]) (by kernel_rfl) (by kernel_rfl) ?_
                intro b712 w713 G714 F715 hc716
                replace F715 : Cl w713 b712 34 [.int .i64 (0), .int .i64 (0)] := F715
                have D718 : Dj fp538 [b712] := Dj.of F543.low (low1 G714)
                replace F542 := F542.chg hc716 Dj.nil
                replace F543 := F543.chg hc716 Dj.nil Dj.nil
                replace hB := hB.inS hc716 inNil
                have hSz := hS
                replace hS := hS.inS hc716 inNil
                have Gz719 := low1 (Nat.le_trans hSz.size G714)
                replace G714 := Nat.le_trans hZ G714
                replace hZ := Nat.le_trans hZ hc716.size
                refine wS_end (by kernel_rfl) ?_
                refine eX_KH hS ?_
                refine wH_all [9] (by rfl) (by kernel_rfl) (by simp) ⟨⟨by kernel_rfl, ?_⟩, trivial⟩
                refine wS_alloc (d := 6) (T := 34) (z := .agg #[.int .i64 (0), .int .i64 (0)]) (by kernel_rfl) (by kernel_rfl) ?_
                intro b720 w721 G722 F723 hc724
                replace F723 : Cl w721 b720 34 [.int .i64 (0), .int .i64 (0)] := F723
                have D726 : Dj fp538 [b720] := Dj.of F543.low (low1 G722)
                have D727 : Dj [b712] [b720] := Dj.of (lt1 F715.lt) (low1 G722)
                replace F542 := F542.chg hc724 Dj.nil
                replace F543 := F543.chg hc724 Dj.nil Dj.nil
                replace F715 := F715.chg hc724 notNil
                replace hB := hB.inS hc724 inNil
                have hSz := hS
                replace hS := hS.inS hc724 inNil
                have Gz728 := low1 (Nat.le_trans hSz.size G722)
                replace G722 := Nat.le_trans hZ G722
                replace hZ := Nat.le_trans hZ hc724.size
                refine wS_end (by kernel_rfl) ?_
                refine eX_KH hS ?_
                refine wH_all [11] (by rfl) (by kernel_rfl) (by simp) ⟨⟨by kernel_rfl, ?_⟩, trivial⟩
                refine wS_store (T := 34) (g := b720) (o := 0) (ad := ⟨b720, 0, none⟩) (v := .agg #[.int .i64 (x685.1), .int .i64 (x685.2)]) (vs := [.int .i64 (x685.1), .int .i64 (x685.2)]) (by kernel_rfl) (by rfl) sz34 (by rfl) (by rfl) F723 (by simp only [List.length_cons, List.length_nil]; omega) ?_
                intro w729 F730 hc731
                replace F542 := F542.chg hc731 (Dj.of L0 (low1 G722))
                replace F543 := F543.chg hc731 (Dj.of L0 (low1 G722)) D726
                replace F715 := F715.chg hc731 (dj1 D727)
                replace hB := hB.inS hc731 (inLow (low1 G722))
                have hSz := hS
                replace hS := hS.inS hc731 (inLow Gz728)
                replace hZ := Nat.le_trans hZ hc731.size
                replace F730 : Cl w729 b720 34 [.int .i64 (x685.1), .int .i64 (x685.2)] := F730
                clear F723
                refine wS_end (by kernel_rfl) ?_
                refine eX_KH hS ?_
                refine wH_done (by kernel_rfl) ?_
                refine eX_tail ?_
                refine wS_store (T := 34) (g := b712) (o := 0) (ad := ⟨b712, 0, none⟩) (v := .agg #[.int .i64 (x687.1), .int .i64 (x687.2)]) (vs := [.int .i64 (x687.1), .int .i64 (x687.2)]) (by kernel_rfl) (by rfl) sz34 (by rfl) (by rfl) F715 (by simp only [List.length_cons, List.length_nil]; omega) ?_
                intro w732 F733 hc734
                replace F542 := F542.chg hc734 (Dj.of L0 (low1 G714))
                replace F543 := F543.chg hc734 (Dj.of L0 (low1 G714)) D718
                replace F730 := F730.chg hc734 (dj1 (D727).symm)
                replace hB := hB.inS hc734 (inLow (low1 G714))
                replace hZ := Nat.le_trans hZ hc734.size
                replace F733 : Cl w732 b712 34 [.int .i64 (x687.1), .int .i64 (x687.2)] := F733
                clear F715
                refine wS_end (by rfl) ?_
                have hq : (some ((x685.1, x685.2, x687.1, x687.2)) : Option (Int × Int × Int × Int)) = some _ := hm
                replace hq := someE hq
                subst hq
                exact eX_J (fun hst => ⟨b720, x685.1, x685.2, b712, x687.1, x687.2, rfl, Fr.of hst (by kernel_rfl), F542, F543, F730, F733, G722, G714, D726, D727, D718, hB, hZ⟩)
            · rintro a' w660 ⟨b661, x662, x663, b665, x666, x667, hJ, hF669, F670, F671, F672, F673, G674, G675, D676, D677, D678, hB, hZ⟩
              subst hJ
              refine Fr.goX hF669 (by kernel_rfl) ?_
              refine eX_then ?_
              refine cW_seq ?_
              refine cW_seq ?_
              refine cW_region ?_
              refine wS_loadA (d := 37) (T := 34) (ad := ⟨b661, 0, none⟩) (vs := [.int .i64 (x662), .int .i64 (x663)]) (by kernel_rfl) vt34 (fun i u hu => box_cells F672 0 hu (by rfl)) ?_
              refine wS_loadA (d := 38) (T := 34) (ad := ⟨b665, 0, none⟩) (vs := [.int .i64 (x666), .int .i64 (x667)]) (by kernel_rfl) vt34 (fun i u hu => box_cells F673 0 hu (by rfl)) ?_
              refine wS_eqS (d := 39) (T := 34) (x := x662) (y := x663) (x' := x666) (y' := x667) (by kernel_rfl) eq34 ?_
              refine wS_pure 1 [(40, .bool (x662 == x666 && x663 == x667))] (by kernel_rfl) ?_
              refine wS_bool (x662 == x666 && x663 == x667) (fun hb735 => ?_) (fun hb735 => ?_)
              · have hm := condT hb735 hm
                rewrite [hb735]
                refine wS_pure 18 [(58, .bool (true)), (57, undef), (56, undef), (55, undef), (54, .bool (true)), (53, .bool (true)), (52, undef), (51, undef), (50, undef), (49, undef), (48, undef), (47, undef), (46, undef), (45, undef), (44, undef), (43, undef), (42, undef), (41, undef)] (by kernel_rfl) ?_
                refine wS_end (by rfl) ?_
                refine eX_then ?_
                refine cW_prune [(0, .slice A0 (l0).length cap0), (4, .slice A536 (l535).length cap537), (5, .int .i64 (x540)), (6, .pointer (some ⟨b661, 0, none⟩)), (7, .pointer (some ⟨b665, 0, none⟩)), (58, .bool (true))] (by kernel_rfl) (by kernel_rfl) (fun a736 => ?_)
                refine cW_cond_t (by kernel_rfl) ?_
                refine cW_seq ?_
                refine cW_region ?_
                refine wS_pure 2 [(3, .bool (false)), (2, .slice none 0 0)] (by kernel_rfl) ?_
                refine wS_end (by rfl) ?_
                refine eX_then ?_
                refine cW_ret ?_
                refine eX_then_ret ?_
                refine eX_block_ret ?_
                refine eX_then_ret ?_
                have hq : (some (Ctl.out (Sum.inr (([], false)))) : Option (Ctl ((List (Int × Int)) × Int) (Sum ((List (Int × Int))) ((List (Int × Int)) × (Bool))))) = some _ := hm
                replace hq := someE hq
                subst hq
                refine eX_outR hx550 (fun hr => ?_)
                subst hr
                refine eX_block_ret ?_
                refine eX_then_ret ?_
                refine eX_then_ret ?_
                have hq : (some (([], false)) : Option ((List (Int × Int)) × (Bool))) = some _ := hm547
                replace hq := someE hq
                subst hq
                refine eX_ret (vs := [.slice none 0 0, .bool (false)]) [.tmp 2, .tmp 3] (by rfl) ⟨by (show lkE _ _ _ = _); kernel_rfl, ⟨by (show lkE _ _ _ = _); kernel_rfl, trivial⟩⟩ ?_
                exact ⟨none, 0, [], rfl, (Mx.nil F670.low), lowNil, hB⟩
              · have hm := condF hb735 hm
                rewrite [hb735]
                refine wS_pure 1 [(41, .pointer (some ⟨b661, 0, none⟩))] (by kernel_rfl) ?_
                refine wS_load1 (d := 42) (T := 2) (ad := ⟨b661, 0, none⟩) (v := .int .i64 (x662)) (by kernel_rfl) vt2 ((F672).cell 0) ?_
                refine wS_pure 1 [(43, .pointer (some ⟨b665, 0, none⟩))] (by kernel_rfl) ?_
                refine wS_load1 (d := 44) (T := 2) (ad := ⟨b665, 0, none⟩) (v := .int .i64 (x666)) (by kernel_rfl) vt2 ((F673).cell 0) ?_
                refine wS_pure 2 [(46, .bool (x662 != x666)), (45, .bool (x662 != x666))] (by kernel_rfl) ?_
                refine wS_bool (x662 != x666) (fun hb737 => ?_) (fun hb737 => ?_)
                · have hm := condT hb737 hm
                  rewrite [hb737]
                  refine wS_pure 1 [(47, .pointer (some ⟨b661, 1, none⟩))] (by kernel_rfl) ?_
                  refine wS_load1 (d := 48) (T := 2) (ad := ⟨b661, 1, none⟩) (v := .int .i64 (x663)) (by kernel_rfl) vt2 ((F672).cell 1) ?_
                  refine wS_pure 1 [(49, .pointer (some ⟨b665, 1, none⟩))] (by kernel_rfl) ?_
                  refine wS_load1 (d := 50) (T := 2) (ad := ⟨b665, 1, none⟩) (v := .int .i64 (x667)) (by kernel_rfl) vt2 ((F673).cell 1) ?_
                  refine wS_pure 4 [(54, .bool (x663 != x667)), (53, .bool (x663 != x667)), (52, .bool (x663 != x667)), (51, .bool (x663 != x667))] (by kernel_rfl) ?_
                  refine wS_bool (x663 != x667) (fun hb738 => ?_) (fun hb738 => ?_)
                  · have hm := condT hb738 hm
                    rewrite [hb738]
                    refine wS_pure 4 [(58, .bool (true)), (57, undef), (56, undef), (55, undef)] (by kernel_rfl) ?_
                    refine wS_end (by rfl) ?_
                    refine eX_then ?_
                    refine cW_prune [(0, .slice A0 (l0).length cap0), (4, .slice A536 (l535).length cap537), (5, .int .i64 (x540)), (6, .pointer (some ⟨b661, 0, none⟩)), (7, .pointer (some ⟨b665, 0, none⟩)), (58, .bool (true))] (by kernel_rfl) (by kernel_rfl) (fun a739 => ?_)
                    refine cW_cond_t (by kernel_rfl) ?_
                    refine cW_seq ?_
                    refine cW_region ?_
                    refine wS_pure 2 [(3, .bool (false)), (2, .slice none 0 0)] (by kernel_rfl) ?_
                    refine wS_end (by rfl) ?_
                    refine eX_then ?_
                    refine cW_ret ?_
                    refine eX_then_ret ?_
                    refine eX_block_ret ?_
                    refine eX_then_ret ?_
                    have hq : (some (Ctl.out (Sum.inr (([], false)))) : Option (Ctl ((List (Int × Int)) × Int) (Sum ((List (Int × Int))) ((List (Int × Int)) × (Bool))))) = some _ := hm
                    replace hq := someE hq
                    subst hq
                    refine eX_outR hx550 (fun hr => ?_)
                    subst hr
                    refine eX_block_ret ?_
                    refine eX_then_ret ?_
                    refine eX_then_ret ?_
                    have hq : (some (([], false)) : Option ((List (Int × Int)) × (Bool))) = some _ := hm547
                    replace hq := someE hq
                    subst hq
                    refine eX_ret (vs := [.slice none 0 0, .bool (false)]) [.tmp 2, .tmp 3] (by rfl) ⟨by (show lkE _ _ _ = _); kernel_rfl, ⟨by (show lkE _ _ _ = _); kernel_rfl, trivial⟩⟩ ?_
                    exact ⟨none, 0, [], rfl, (Mx.nil F670.low), lowNil, hB⟩
                  · have hm := condF hb738 hm
                    rewrite [hb738]
                    refine wS_pure 4 [(58, .bool (decide ((((l535).length : Int)) > 576))), (57, .bool (decide ((((l535).length : Int)) > 576))), (56, .int .i64 (((l535).length : Int))), (55, .slice A536 (l535).length cap537)] (by kernel_rfl) ?_
                    refine wS_end (by rfl) ?_
                    refine eX_then ?_
                    refine cW_prune [(0, .slice A0 (l0).length cap0), (4, .slice A536 (l535).length cap537), (5, .int .i64 (x540)), (6, .pointer (some ⟨b661, 0, none⟩)), (7, .pointer (some ⟨b665, 0, none⟩)), (58, .bool (decide ((((l535).length : Int)) > 576)))] (by kernel_rfl) (by kernel_rfl) (fun a740 => ?_)
                    refine cW_cond (t := decide ((((l535).length : Int)) > 576)) (by kernel_rfl) (fun hb741 => ?_) (fun hb741 => ?_)
                    · have hm := condT hb741 hm
                      refine cW_seq ?_
                      refine cW_region ?_
                      refine wS_pure 2 [(3, .bool (false)), (2, .slice none 0 0)] (by kernel_rfl) ?_
                      refine wS_end (by rfl) ?_
                      refine eX_then ?_
                      refine cW_ret ?_
                      refine eX_then_ret ?_
                      refine eX_block_ret ?_
                      refine eX_then_ret ?_
                      have hq : (some (Ctl.out (Sum.inr (([], false)))) : Option (Ctl ((List (Int × Int)) × Int) (Sum ((List (Int × Int))) ((List (Int × Int)) × (Bool))))) = some _ := hm
                      replace hq := someE hq
                      subst hq
                      refine eX_outR hx550 (fun hr => ?_)
                      subst hr
                      refine eX_block_ret ?_
                      refine eX_then_ret ?_
                      refine eX_then_ret ?_
                      have hq : (some (([], false)) : Option ((List (Int × Int)) × (Bool))) = some _ := hm547
                      replace hq := someE hq
                      subst hq
                      refine eX_ret (vs := [.slice none 0 0, .bool (false)]) [.tmp 2, .tmp 3] (by rfl) ⟨by (show lkE _ _ _ = _); kernel_rfl, ⟨by (show lkE _ _ _ = _); kernel_rfl, trivial⟩⟩ ?_
                      exact ⟨none, 0, [], rfl, (Mx.nil F670.low), lowNil, hB⟩
                    · have hm := condF hb741 hm
                      refine cW_skip ?_
                      refine eX_then ?_
                      refine cW_region ?_
                      refine wS_pure 1 [(59, .slice A536 (l535).length cap537)] (by kernel_rfl) ?_
                      refine wS_loadA (d := 60) (T := 34) (ad := ⟨b661, 0, none⟩) (vs := [.int .i64 (x662), .int .i64 (x663)]) (by kernel_rfl) vt34 (fun i u hu => box_cells F672 0 hu (by rfl)) ?_
                      refine wS_loadA (d := 61) (T := 34) (ad := ⟨b665, 0, none⟩) (vs := [.int .i64 (x666), .int .i64 (x667)]) (by kernel_rfl) vt34 (fun i u hu => box_cells F673 0 hu (by rfl)) ?_
                      obtain ⟨y742, hy743, hm⟩ := bindE hm
                      refine wS_calls (d := 62) (f := 129) (vs := [.agg #[.int .i64 (x662), .int .i64 (x663)], .agg #[.int .i64 (x666), .int .i64 (x667)]]) (by kernel_rfl) ent129 (c_impl_line hy743) ?_
                      rintro _ w744 ⟨A746, cap747, fp748, rfl, F749, G750, hc745⟩
                      have D753 : Dj fp538 fp748 := Dj.of F671.low G750
                      have D754 : Dj [b661] fp748 := Dj.of (lt1 F672.lt) G750
                      have D755 : Dj [b665] fp748 := Dj.of (lt1 F673.lt) G750
                      replace F670 := F670.chg hc745 Dj.nil
                      replace F671 := F671.chg hc745 Dj.nil Dj.nil
                      replace F672 := F672.chg hc745 notNil
                      replace F673 := F673.chg hc745 notNil
                      replace hB := hB.inS hc745 inNil
                      replace G750 := low_le hZ G750
                      replace hZ := Nat.le_trans hZ hc745.size
                      refine ⟨.slice A746 (y742).length cap747, rfl, ?_⟩
                      obtain ⟨_, hne756, hm⟩ := bindE hm
                      replace hne756 := neE hne756
                      obtain ⟨_, hk757, hm⟩ := bindE hm
                      replace hk757 := apE hk757
                      refine wS_appendMx (enc := encII) (l := (l535 : List (Int × Int))) (l2 := (y742 : List (Int × Int))) (d := 63) (t := 25) (T := 34) (A := A536) (A2 := A746) (cap := cap537) (cap2 := cap747) (by kernel_rfl) el25 encII_ok F671 (F749.sl encII_ok) hne756 hk757 ?_
                      intro w758 fp759 A760 cap761 F762 hc763 hp764
                      have G766 := low_ap G544 hZ hp764
                      have D767 : Dj [b661] fp759 := Dj.ap (D676).symm (lt1 F672.lt) hp764
                      have D768 : Dj [b665] fp759 := Dj.ap (D678).symm (lt1 F673.lt) hp764
                      have D769 : Dj fp748 fp759 := Dj.ap (D753).symm F749.low hp764
                      replace F670 := F670.chg hc763 (Dj.of L0 G544)
                      replace F672 := F672.chg hc763 (dj1 (D676).symm)
                      replace F673 := F673.chg hc763 (dj1 (D678).symm)
                      replace F749 := F749.chg hc763 (D753).symm
                      replace hB := hB.inS hc763 (inLow G544)
                      replace hZ := Nat.le_trans hZ hc763.size
                      refine wS_pure 1 [(4, .slice A760 (l535 ++ y742).length cap761)] (by kernel_rfl) ?_
                      refine wS_end (by rfl) ?_
                      refine eX_block ?_
                      refine eX_then ?_
                      refine cW_region ?_
                      refine wS_pure 3 [(5, .int .i64 (wr (x540 + 1))), (27, .int .i64 (wr (x540 + 1))), (26, .int .i64 (x540))] (by kernel_rfl) ?_
                      refine wS_end (by rfl) ?_
                      have hq : (some (Ctl.next ((l535 ++ y742, wr (x540 + 1)))) : Option (Ctl ((List (Int × Int)) × Int) (Sum ((List (Int × Int))) ((List (Int × Int)) × (Bool))))) = some _ := hm
                      replace hq := someE hq
                      subst hq
                      exact eX_next hx550 (fun hst => ⟨l535 ++ y742, A760, cap761, fp759, wr (x540 + 1), rfl, Fr.of hst (by kernel_rfl), F670, F762, G766, hB, hZ⟩)
                · have hm := condF hb737 hm
                  rewrite [hb737]
                  refine wS_pure 12 [(58, .bool (decide ((((l535).length : Int)) > 576))), (57, .bool (decide ((((l535).length : Int)) > 576))), (56, .int .i64 (((l535).length : Int))), (55, .slice A536 (l535).length cap537), (54, .bool (false)), (53, .bool (false)), (52, .bool (false)), (51, undef), (50, undef), (49, undef), (48, undef), (47, undef)] (by kernel_rfl) ?_
                  refine wS_end (by rfl) ?_
                  refine eX_then ?_
                  refine cW_prune [(0, .slice A0 (l0).length cap0), (4, .slice A536 (l535).length cap537), (5, .int .i64 (x540)), (6, .pointer (some ⟨b661, 0, none⟩)), (7, .pointer (some ⟨b665, 0, none⟩)), (58, .bool (decide ((((l535).length : Int)) > 576)))] (by kernel_rfl) (by kernel_rfl) (fun a770 => ?_)
                  refine cW_cond (t := decide ((((l535).length : Int)) > 576)) (by kernel_rfl) (fun hb771 => ?_) (fun hb771 => ?_)
                  · have hm := condT hb771 hm
                    refine cW_seq ?_
                    refine cW_region ?_
                    refine wS_pure 2 [(3, .bool (false)), (2, .slice none 0 0)] (by kernel_rfl) ?_
                    refine wS_end (by rfl) ?_
                    refine eX_then ?_
                    refine cW_ret ?_
                    refine eX_then_ret ?_
                    refine eX_block_ret ?_
                    refine eX_then_ret ?_
                    have hq : (some (Ctl.out (Sum.inr (([], false)))) : Option (Ctl ((List (Int × Int)) × Int) (Sum ((List (Int × Int))) ((List (Int × Int)) × (Bool))))) = some _ := hm
                    replace hq := someE hq
                    subst hq
                    refine eX_outR hx550 (fun hr => ?_)
                    subst hr
                    refine eX_block_ret ?_
                    refine eX_then_ret ?_
                    refine eX_then_ret ?_
                    have hq : (some (([], false)) : Option ((List (Int × Int)) × (Bool))) = some _ := hm547
                    replace hq := someE hq
                    subst hq
                    refine eX_ret (vs := [.slice none 0 0, .bool (false)]) [.tmp 2, .tmp 3] (by rfl) ⟨by (show lkE _ _ _ = _); kernel_rfl, ⟨by (show lkE _ _ _ = _); kernel_rfl, trivial⟩⟩ ?_
                    exact ⟨none, 0, [], rfl, (Mx.nil F670.low), lowNil, hB⟩
                  · have hm := condF hb771 hm
                    refine cW_skip ?_
                    refine eX_then ?_
                    refine cW_region ?_
                    refine wS_pure 1 [(59, .slice A536 (l535).length cap537)] (by kernel_rfl) ?_
                    refine wS_loadA (d := 60) (T := 34) (ad := ⟨b661, 0, none⟩) (vs := [.int .i64 (x662), .int .i64 (x663)]) (by kernel_rfl) vt34 (fun i u hu => box_cells F672 0 hu (by rfl)) ?_
                    refine wS_loadA (d := 61) (T := 34) (ad := ⟨b665, 0, none⟩) (vs := [.int .i64 (x666), .int .i64 (x667)]) (by kernel_rfl) vt34 (fun i u hu => box_cells F673 0 hu (by rfl)) ?_
                    obtain ⟨y772, hy773, hm⟩ := bindE hm
                    refine wS_calls (d := 62) (f := 129) (vs := [.agg #[.int .i64 (x662), .int .i64 (x663)], .agg #[.int .i64 (x666), .int .i64 (x667)]]) (by kernel_rfl) ent129 (c_impl_line hy773) ?_
                    rintro _ w774 ⟨A776, cap777, fp778, rfl, F779, G780, hc775⟩
                    have D783 : Dj fp538 fp778 := Dj.of F671.low G780
                    have D784 : Dj [b661] fp778 := Dj.of (lt1 F672.lt) G780
                    have D785 : Dj [b665] fp778 := Dj.of (lt1 F673.lt) G780
                    replace F670 := F670.chg hc775 Dj.nil
                    replace F671 := F671.chg hc775 Dj.nil Dj.nil
                    replace F672 := F672.chg hc775 notNil
                    replace F673 := F673.chg hc775 notNil
                    replace hB := hB.inS hc775 inNil
                    replace G780 := low_le hZ G780
                    replace hZ := Nat.le_trans hZ hc775.size
                    refine ⟨.slice A776 (y772).length cap777, rfl, ?_⟩
                    obtain ⟨_, hne786, hm⟩ := bindE hm
                    replace hne786 := neE hne786
                    obtain ⟨_, hk787, hm⟩ := bindE hm
                    replace hk787 := apE hk787
                    refine wS_appendMx (enc := encII) (l := (l535 : List (Int × Int))) (l2 := (y772 : List (Int × Int))) (d := 63) (t := 25) (T := 34) (A := A536) (A2 := A776) (cap := cap537) (cap2 := cap777) (by kernel_rfl) el25 encII_ok F671 (F779.sl encII_ok) hne786 hk787 ?_
                    intro w788 fp789 A790 cap791 F792 hc793 hp794
                    have G796 := low_ap G544 hZ hp794
                    have D797 : Dj [b661] fp789 := Dj.ap (D676).symm (lt1 F672.lt) hp794
                    have D798 : Dj [b665] fp789 := Dj.ap (D678).symm (lt1 F673.lt) hp794
                    have D799 : Dj fp778 fp789 := Dj.ap (D783).symm F779.low hp794
                    replace F670 := F670.chg hc793 (Dj.of L0 G544)
                    replace F672 := F672.chg hc793 (dj1 (D676).symm)
                    replace F673 := F673.chg hc793 (dj1 (D678).symm)
                    replace F779 := F779.chg hc793 (D783).symm
                    replace hB := hB.inS hc793 (inLow G544)
                    replace hZ := Nat.le_trans hZ hc793.size
                    refine wS_pure 1 [(4, .slice A790 (l535 ++ y772).length cap791)] (by kernel_rfl) ?_
                    refine wS_end (by rfl) ?_
                    refine eX_block ?_
                    refine eX_then ?_
                    refine cW_region ?_
                    refine wS_pure 3 [(5, .int .i64 (wr (x540 + 1))), (27, .int .i64 (wr (x540 + 1))), (26, .int .i64 (x540))] (by kernel_rfl) ?_
                    refine wS_end (by rfl) ?_
                    have hq : (some (Ctl.next ((l535 ++ y772, wr (x540 + 1)))) : Option (Ctl ((List (Int × Int)) × Int) (Sum ((List (Int × Int))) ((List (Int × Int)) × (Bool))))) = some _ := hm
                    replace hq := someE hq
                    subst hq
                    exact eX_next hx550 (fun hst => ⟨l535 ++ y772, A790, cap791, fp789, wr (x540 + 1), rfl, Fr.of hst (by kernel_rfl), F670, F792, G796, hB, hZ⟩)
          · have hm := condF hb551 hm
            refine cW_exit ?_
            refine eX_then_exit ?_
            have hq : (some (Ctl.out (Sum.inl l535)) : Option (Ctl ((List (Int × Int)) × Int) (Sum ((List (Int × Int))) ((List (Int × Int)) × (Bool))))) = some _ := hm
            replace hq := someE hq
            subst hq
            refine eX_outX hx550 (fun hr800 => ?_)
            replace hr800 := hr800.symm
            subst hr800
            refine eX_block_hit ?_
            exact eX_J (fun hst => ⟨l535, A536, cap537, fp538, rfl, Fr.of hst (by kernel_rfl), F542, F543, G544, hB, hZ⟩)
        · rintro a' w524 ⟨l525, A526, cap527, fp528, hJ, hF530, F531, F532, G533, hB, hZ⟩
          subst hJ
          refine Fr.goX hF530 (by kernel_rfl) ?_
          refine eX_then ?_
          refine cW_seq ?_
          refine cW_region ?_
          refine wS_pure 2 [(65, .slice A526 (l525).length cap527), (64, .slice A526 (l525).length cap527)] (by kernel_rfl) ?_
          obtain ⟨y801, hy802, hm⟩ := bindE hm
          refine wS_calls (d := 66) (f := 23) (vs := [.slice A526 (l525).length cap527]) (by kernel_rfl) ent23 (c_impl_IsPath hy802 (F532.sl encII_ok)) ?_
          rintro _ w803 ⟨rfl, hc804⟩
          replace F531 := F531.chg hc804 Dj.nil
          replace F532 := F532.chg hc804 Dj.nil Dj.nil
          replace hB := hB.inS hc804 inNil
          replace hZ := Nat.le_trans hZ hc804.size
          refine ⟨.bool (y801), rfl, ?_⟩
          refine wS_pure 1 [(67, .bool (y801))] (by kernel_rfl) ?_
          refine wS_bool y801 (fun hb805 => ?_) (fun hb805 => ?_)
          · have hm := condT hb805 hm
            rewrite [hb805]
            refine wS_pure 1 [(68, .slice A526 (l525).length cap527)] (by kernel_rfl) ?_
            obtain ⟨y806, hy807, hm⟩ := bindE hm
            refine wS_calls (d := 69) (f := 82) (vs := [.slice A526 (l525).length cap527]) (by kernel_rfl) ent82 (c_impl_corners hy807 (F532.sl encII_ok)) ?_
            rintro _ w808 ⟨A810, cap811, fp812, rfl, F813, G814, hc809⟩
            have D817 : Dj fp528 fp812 := Dj.of F532.low G814
            replace F531 := F531.chg hc809 Dj.nil
            replace F532 := F532.chg hc809 Dj.nil Dj.nil
            replace hB := hB.inS hc809 inNil
            replace G814 := low_le hZ G814
            replace hZ := Nat.le_trans hZ hc809.size
            refine ⟨.slice A810 (y806).length cap811, rfl, ?_⟩
            refine wS_pure 1 [(70, .slice A0 (l0).length cap0)] (by kernel_rfl) ?_
            obtain ⟨y818, hy819, hm⟩ := bindE hm
            refine wS_calls (d := 71) (f := 130) (vs := [.slice A810 (y806).length cap811, .slice A0 (l0).length cap0]) (by kernel_rfl) ent130 (c_slices_Equal_impl_Point_impl_Point hy819 (F813.sl encII_ok) F531) ?_
            rintro _ w820 ⟨rfl, hc821⟩
            replace F531 := F531.chg hc821 Dj.nil
            replace F532 := F532.chg hc821 Dj.nil Dj.nil
            replace F813 := F813.chg hc821 Dj.nil
            replace hB := hB.inS hc821 inNil
            replace hZ := Nat.le_trans hZ hc821.size
            refine ⟨.bool (y818), rfl, ?_⟩
            refine wS_pure 3 [(3, .bool (y818)), (2, .slice A526 (l525).length cap527), (72, .bool (y818))] (by kernel_rfl) ?_
            refine wS_end (by rfl) ?_
            refine eX_then ?_
            refine cW_ret ?_
            have hq : (some ((l525, y818)) : Option ((List (Int × Int)) × (Bool))) = some _ := hm
            replace hq := someE hq
            subst hq
            refine eX_ret (vs := [.slice A526 (l525).length cap527, .bool (y818)]) [.tmp 2, .tmp 3] (by rfl) ⟨by (show lkE _ _ _ = _); kernel_rfl, ⟨by (show lkE _ _ _ = _); kernel_rfl, trivial⟩⟩ ?_
            exact ⟨A526, cap527, fp528, rfl, F532, G533, hB⟩
          · have hm := condF hb805 hm
            rewrite [hb805]
            refine wS_pure 7 [(3, .bool (false)), (2, .slice A526 (l525).length cap527), (72, .bool (false)), (71, undef), (70, undef), (69, undef), (68, undef)] (by kernel_rfl) ?_
            refine wS_end (by rfl) ?_
            refine eX_then ?_
            refine cW_ret ?_
            have hq : (some ((l525, false)) : Option ((List (Int × Int)) × (Bool))) = some _ := hm
            replace hq := someE hq
            subst hq
            refine eX_ret (vs := [.slice A526 (l525).length cap527, .bool (false)]) [.tmp 2, .tmp 3] (by rfl) ⟨by (show lkE _ _ _ = _); kernel_rfl, ⟨by (show lkE _ _ _ = _); kernel_rfl, trivial⟩⟩ ?_
            exact ⟨A526, cap527, fp528, rfl, F532, G533, hB⟩

set_option maxRecDepth 100000 in
/-- impl.PathThrough -/
theorem c_impl_PathThrough {w0 : World} {l0 : List (Int × Int)} {A0 : Option Addr} {cap0 : Nat} {fp0 : List Nat} {r : (List (Int × Int)) × (Bool)} (hm : m_impl_PathThrough l0 = some r) (F0 : Sl 2 encII w0 fp0 A0 l0) (K0 : (l0).length ≤ cap0) :
    Calls Try.prog 45 #[.slice A0 (l0).length cap0] w0 fun e w' => ∃ A100 cap100 fp100, e = .returned (.tuple #[.slice A100 (r.1).length cap100, .bool (r.2)]) ∧ Ow 2 encII 34 w' fp100 A100 cap100 r.1 ∧ (∀ x ∈ fp100, w0.heap.size ≤ x) ∧ Chg [] w0 w' := by
  have L0 := F0.low
  have hB : Chg [] w0 w0 := Chg.refl _ _
  have hZ := Nat.le_refl w0.heap.size
  unfold m_impl_PathThrough at hm
  refine enterE (N := 15) Try.func45 (by rfl) Try.ntmps45 (by simp) [(0, .slice A0 (l0).length cap0)] (by rfl) (by kernel_rfl) (fun a => ?_)
  refine cW_seq ?_
  refine cW_region ?_
  refine wS_pure 2 [(3, .bool (false)), (2, .slice none 0 0)] (by kernel_rfl) ?_
  refine wS_end (by rfl) ?_
  refine eX_then ?_
  refine cW_seq ?_
  refine cW_region ?_
  refine wS_pure 1 [(7, .slice A0 (l0).length cap0)] (by kernel_rfl) ?_
  obtain ⟨y2, hy3, hm⟩ := bindE hm
  refine wS_calls (d := 8) (f := 96) (vs := [.slice A0 (l0).length cap0]) (by kernel_rfl) ent96 (c_impl_through hy3 F0 K0) ?_
  rintro _ w4 ⟨A6, cap7, fp8, rfl, F9, G10, hc5⟩
  replace F0 := F0.chg hc5 Dj.nil
  replace hB := hB.inS hc5 inNil
  replace G10 := low_le hZ G10
  replace hZ := Nat.le_trans hZ hc5.size
  refine ⟨.tuple #[.slice A6 (y2.1).length cap7, .bool (y2.2)], rfl, ?_⟩
  refine wS_pure 5 [(5, .bool (y2.2)), (4, .slice A6 (y2.1).length cap7), (10, .bool (y2.2)), (9, .slice A6 (y2.1).length cap7), (6, .tuple #[.slice A6 (y2.1).length cap7, .bool (y2.2)])] (by kernel_rfl) ?_
  refine wS_end (by rfl) ?_
  refine eX_then ?_
  refine cW_seq ?_
  refine cW_seq ?_
  refine cW_region ?_
  refine wS_pure 2 [(12, .bool (!y2.2)), (11, .bool (y2.2))] (by kernel_rfl) ?_
  refine wS_end (by rfl) ?_
  refine eX_then ?_
  refine cW_cond (t := !y2.2) (by kernel_rfl) (fun hb13 => ?_) (fun hb13 => ?_)
  · have hm := condT hb13 hm
    refine cW_seq ?_
    refine cW_region ?_
    refine wS_pure 2 [(3, .bool (false)), (2, .slice none 0 0)] (by kernel_rfl) ?_
    refine wS_end (by rfl) ?_
    refine eX_then ?_
    refine cW_ret ?_
    refine eX_then_ret ?_
    have hq : (some (([], false)) : Option ((List (Int × Int)) × (Bool))) = some _ := hm
    replace hq := someE hq
    subst hq
    refine eX_ret (vs := [.slice none 0 0, .bool (false)]) [.tmp 2, .tmp 3] (by rfl) ⟨by (show lkE _ _ _ = _); kernel_rfl, ⟨by (show lkE _ _ _ = _); kernel_rfl, trivial⟩⟩ ?_
    exact ⟨none, 0, [], rfl, Ow.nil _, lowNil, hB⟩
  · have hm := condF hb13 hm
    refine cW_skip ?_
    refine eX_then ?_
    refine cW_seq ?_
    refine cW_region ?_
    refine wS_pure 1 [(13, .slice A6 (y2.1).length cap7)] (by kernel_rfl) ?_
    obtain ⟨y14, hy15, hm⟩ := bindE hm
    refine wS_calls (d := 14) (f := 97) (vs := [.slice A6 (y2.1).length cap7]) (by kernel_rfl) ent97 (c_slices_Clone_impl_Point_impl_Point hy15 (F9.sl encII_ok)) ?_
    rintro _ w16 ⟨A18, cap19, fp20, rfl, F21, G22, hc17⟩
    have D25 : Dj fp8 fp20 := Dj.of F9.low G22
    replace F0 := F0.chg hc17 Dj.nil
    replace F9 := F9.chg hc17 Dj.nil Dj.nil
    replace hB := hB.inS hc17 inNil
    replace G22 := low_le hZ G22
    replace hZ := Nat.le_trans hZ hc17.size
    refine ⟨.slice A18 (y14).length cap19, rfl, ?_⟩
    refine wS_pure 2 [(3, .bool (true)), (2, .slice A18 (y14).length cap19)] (by kernel_rfl) ?_
    refine wS_end (by rfl) ?_
    refine eX_then ?_
    refine cW_ret ?_
    have hq : (some ((y14, true)) : Option ((List (Int × Int)) × (Bool))) = some _ := hm
    replace hq := someE hq
    subst hq
    refine eX_ret (vs := [.slice A18 (y14).length cap19, .bool (true)]) [.tmp 2, .tmp 3] (by rfl) ⟨by (show lkE _ _ _ = _); kernel_rfl, ⟨by (show lkE _ _ _ = _); kernel_rfl, trivial⟩⟩ ?_
    exact ⟨A18, cap19, fp20, rfl, F21, G22, hB⟩

set_option maxRecDepth 100000 in
/-- laws.b10Same -/
theorem c_laws_b10Same {w0 : World} {l0 : List (Int × Int)} {A0 : Option Addr} {cap0 : Nat} {fp0 : List Nat} {l1 : List (Int × Int)} {A1 : Option Addr} {cap1 : Nat} {fp1 : List Nat} {r : (Bool)} (hm : m_laws_b10Same l0 l1 = some r) (F0 : Sl 2 encII w0 fp0 A0 l0) (F1 : Sl 2 encII w0 fp1 A1 l1) :
    Calls Try.prog 46 #[.slice A0 (l0).length cap0, .slice A1 (l1).length cap1] w0 fun e w' => e = .returned (.bool (r)) ∧ Chg [] w0 w' := by
  have L0 := F0.low
  have L1 := F1.low
  have hB : Chg [] w0 w0 := Chg.refl _ _
  have hZ := Nat.le_refl w0.heap.size
  unfold m_laws_b10Same at hm
  refine enterE (N := 26) Try.func46 (by rfl) Try.ntmps46 (by simp) [(0, .slice A0 (l0).length cap0), (1, .slice A1 (l1).length cap1)] (by rfl) (by kernel_rfl) (fun a => ?_)
  refine cW_seq ?_
  refine cW_region ?_
  refine wS_pure 1 [(4, .bool (false))] (by kernel_rfl) ?_
  refine wS_end (by rfl) ?_
  refine eX_then ?_
  refine cW_seq ?_
  refine cW_seq ?_
  refine cW_region ?_
  refine wS_pure 5 [(10, .bool ((((l0).length : Int)) != (((l1).length : Int)))), (9, .int .i64 (((l1).length : Int))), (8, .slice A1 (l1).length cap1), (7, .int .i64 (((l0).length : Int))), (6, .slice A0 (l0).length cap0)] (by kernel_rfl) ?_
  refine wS_end (by rfl) ?_
  refine eX_then ?_
  refine cW_cond (t := (((l0).length : Int)) != (((l1).length : Int))) (by kernel_rfl) (fun hb3 => ?_) (fun hb3 => ?_)
  · have hm := condT hb3 hm
    refine cW_seq ?_
    refine cW_region ?_
    refine wS_pure 1 [(4, .bool (false))] (by kernel_rfl) ?_
    refine wS_end (by rfl) ?_
    refine eX_then ?_
    refine cW_ret ?_
    refine eX_then_ret ?_
    have hq : (some false : Option ((Bool))) = some _ := hm
    replace hq := someE hq
    subst hq
    refine eX_ret (vs := [.bool (false)]) [.tmp 4] (by rfl) ⟨by (show lkE _ _ _ = _); kernel_rfl, trivial⟩ ?_
    exact ⟨rfl, hB⟩
  · have hm := condF hb3 hm
    refine cW_skip ?_
    refine eX_then ?_
    refine cW_seq ?_
    refine cW_seq ?_
    refine cW_region ?_
    refine wS_pure 1 [(5, .int .i64 (0))] (by kernel_rfl) ?_
    refine wS_end (by rfl) ?_
    refine eX_then ?_
    obtain ⟨r54, hr55, hm⟩ := bindE hm
    have hm56 := hm
    refine cW_cut (fun a' w' => Sum.inl (()) = r54 ∧ Fr 26 [] a' ∧ Chg [] w0 w' ∧ w0.heap.size ≤ w'.heap.size) ?_ ?_
    · refine cW_block ?_
      refine cW_loop _ (fun (s57 : Int) a' w' => ∃ x50 : Int, x50 = s57 ∧ Fr 26 [(0, .slice A0 (l0).length cap0), (1, .slice A1 (l1).length cap1), (5, .int .i64 (x50))] a' ∧ Sl 2 encII w' fp0 A0 l0 ∧ Sl 2 encII w' fp1 A1 l1 ∧ Chg [] w0 w' ∧ w0.heap.size ≤ w'.heap.size) hr55 (fun hst => ⟨0, rfl, Fr.of hst (by kernel_rfl), F0, F1, hB, hZ⟩) ?_
      rintro _ c58 a' w49 ⟨x50, rfl, hF51, F52, F53, hB, hZ⟩ hx59
      refine Fr.goOn hF51 (by kernel_rfl) ?_
      have hm := hx59
      unfold m_laws_b10Same_s1 at hm
      refine cW_seq ?_
      refine cW_seq ?_
      refine cW_region ?_
      refine wS_pure 4 [(14, .bool (decide (x50 < (((l0).length : Int))))), (13, .int .i64 (((l0).length : Int))), (12, .slice A0 (l0).length cap0), (11, .int .i64 (x50))] (by kernel_rfl) ?_
      refine wS_end (by rfl) ?_
      refine eX_then ?_
      refine cW_cond (t := decide (x50 < (((l0).length : Int)))) (by kernel_rfl) (fun hb60 => ?_) (fun hb60 => ?_)
      · have hm := condT hb60 hm
        refine cW_skip ?_
        refine eX_then ?_
        refine cW_seq ?_
        refine cW_block ?_
        refine cW_seq ?_
        refine cW_drawnTail [] 8 (by kernel_rfl) (by kernel_rfl) (fun w69 hc70 => ?_)
        replace F52 := F52.chg hc70 Dj.nil
        replace F53 := F53.chg hc70 Dj.nil
        replace hB := hB.inS hc70 inNil
        replace hZ := Nat.le_trans hZ hc70.size
        have hS := Chg.refl [] w69
        have Z71 := F52
        have Z72 := F53
        refine wH_take [0, 1] [1, 0] [(18, .int .i64 (x50)), (17, .slice A0 (l0).length cap0)] (by kernel_rfl) (qT (qT (qB (qT (qL (qB (qT (qT qZ)))))))) (by kernel_rfl) ?_
        obtain ⟨x73, hx74, hm⟩ := bindE hm
        refine wH_idx (i := 2) (d := 19) (T := 25) (A := A0) (n := (l0).length) (cap := cap0) (kd := .i64) (m := x50) (by kernel_rfl) (qT (qT (qB (qT (qL (qB (qT (qT qZ)))))))) (by kernel_rfl) (by kernel_rfl) sl25 (F52.is hx74) ?_
        refine wH_loadA (i := 3) (d := 20) (T := 34) (ad := (elA A0 2 (x50) 0)) (vs := [.int .i64 (x73.1), .int .i64 (x73.2)]) (by kernel_rfl) (qT (qT (qB (qT (qL (qB (qT (qT qZ)))))))) (by kernel_rfl) (by kernel_rfl) vt34 (fun W hW i u hu => Sl.cells_at (Z71.chg hW Dj.nil) hx74 0 hu (by rfl)) ?_
        refine wH_take [4, 5] [5, 4, 3, 2, 1, 0] [(22, .int .i64 (x50)), (21, .slice A1 (l1).length cap1)] (by kernel_rfl) (qT (qT (qB (qT (qL (qB (qT (qT qZ)))))))) (by kernel_rfl) ?_
        obtain ⟨x75, hx76, hm⟩ := bindE hm
        refine wH_idx (i := 6) (d := 23) (T := 25) (A := A1) (n := (l1).length) (cap := cap1) (kd := .i64) (m := x50) (by kernel_rfl) (qT (qT (qB (qT (qL (qB (qT (qT qZ)))))))) (by kernel_rfl) (by kernel_rfl) sl25 (F53.is hx76) ?_
        refine wH_loadA (i := 7) (d := 24) (T := 34) (ad := (elA A1 2 (x50) 0)) (vs := [.int .i64 (x75.1), .int .i64 (x75.2)]) (by kernel_rfl) (qT (qT (qB (qT (qL (qB (qT (qT qZ)))))))) (by kernel_rfl) (by kernel_rfl) vt34 (fun W hW i u hu => Sl.cells_at (Z72.chg hW Dj.nil) hx76 0 hu (by rfl)) ?_
        refine wH_done (by kernel_rfl) ?_
        refine eX_tail ?_
        refine wS_neS (d := 25) (T := 34) (x := x73.1) (y := x73.2) (x' := x75.1) (y' := x75.2) (by kernel_rfl) eq34 ?_
        refine wS_end (by rfl) ?_
        refine eX_then ?_
        refine cW_cond (t := !(x73.1 == x75.1 && x73.2 == x75.2)) (by kernel_rfl) (fun hb77 => ?_) (fun hb77 => ?_)
        · have hm := condT hb77 hm
          refine cW_seq ?_
          refine cW_region ?_
          refine wS_pure 1 [(4, .bool (false))] (by kernel_rfl) ?_
          refine wS_end (by rfl) ?_
          refine eX_then ?_
          refine cW_ret ?_
          refine eX_block_ret ?_
          refine eX_then_ret ?_
          have hq : (some (Ctl.out (Sum.inr false)) : Option (Ctl (Int) (Sum (Unit) ((Bool))))) = some _ := hm
          replace hq := someE hq
          subst hq
          refine eX_outR hx59 (fun hr => ?_)
          subst hr
          refine eX_block_ret ?_
          refine eX_then_ret ?_
          refine eX_then_ret ?_
          have hq : (some false : Option ((Bool))) = some _ := hm56
          replace hq := someE hq
          subst hq
          refine eX_ret (vs := [.bool (false)]) [.tmp 4] (by rfl) ⟨by (show lkE _ _ _ = _); kernel_rfl, trivial⟩ ?_
          exact ⟨rfl, hB⟩
        · have hm := condF hb77 hm
          refine cW_skip ?_
          refine eX_block ?_
          refine eX_then ?_
          refine cW_region ?_
          refine wS_pure 3 [(5, .int .i64 (wr (x50 + 1))), (16, .int .i64 (wr (x50 + 1))), (15, .int .i64 (x50))] (by kernel_rfl) ?_
          refine wS_end (by rfl) ?_
          have hq : (some (Ctl.next (wr (x50 + 1))) : Option (Ctl (Int) (Sum (Unit) ((Bool))))) = some _ := hm
          replace hq := someE hq
          subst hq
          exact eX_next hx59 (fun hst => ⟨wr (x50 + 1), rfl, Fr.of hst (by kernel_rfl), F52, F53, hB, hZ⟩)
      · have hm := condF hb60 hm
        refine cW_exit ?_
        refine eX_then_exit ?_
        have hq : (some (Ctl.out (Sum.inl (()))) : Option (Ctl (Int) (Sum (Unit) ((Bool))))) = some _ := hm
        replace hq := someE hq
        subst hq
        refine eX_outX hx59 (fun hr78 => ?_)
        replace hr78 := hr78.symm
        subst hr78
        refine eX_block_hit ?_
        exact eX_J (fun hst => ⟨rfl, Fr.of hst (by kernel_rfl), hB, hZ⟩)
    · rintro a' w47 ⟨hJ, hF48, hB, hZ⟩
      subst hJ
      refine Fr.goX hF48 (by kernel_rfl) ?_
      refine eX_then ?_
      refine cW_seq ?_
      refine cW_region ?_
      refine wS_pure 1 [(4, .bool (true))] (by kernel_rfl) ?_
      refine wS_end (by rfl) ?_
      refine eX_then ?_
      refine cW_ret ?_
      have hq : (some true : Option ((Bool))) = some _ := hm
      replace hq := someE hq
      subst hq
      refine eX_ret (vs := [.bool (true)]) [.tmp 4] (by rfl) ⟨by (show lkE _ _ _ = _); kernel_rfl, trivial⟩ ?_
      exact ⟨rfl, hB⟩

set_option maxRecDepth 100000 in
/-- laws.b10Abs -/
theorem c_laws_b10Abs {w0 : World} {p0 : Int} {r : (Int)} (hm : m_laws_b10Abs p0 = some r)  :
    Calls Try.prog 98 #[.int .i64 (p0)] w0 fun e w' => e = .returned (.int .i64 (r)) ∧ Chg [] w0 w' := by
  have hB : Chg [] w0 w0 := Chg.refl _ _
  have hZ := Nat.le_refl w0.heap.size
  unfold m_laws_b10Abs at hm
  refine enterE (N := 8) Try.func98 (by rfl) Try.ntmps98 (by simp) [(0, .int .i64 (p0))] (by rfl) (by kernel_rfl) (fun a => ?_)
  refine cW_seq ?_
  refine cW_region ?_
  refine wS_pure 1 [(2, .int .i64 (0))] (by kernel_rfl) ?_
  refine wS_end (by rfl) ?_
  refine eX_then ?_
  refine cW_seq ?_
  refine cW_seq ?_
  refine cW_region ?_
  refine wS_pure 2 [(4, .bool (decide (p0 < 0))), (3, .int .i64 (p0))] (by kernel_rfl) ?_
  refine wS_end (by rfl) ?_
  refine eX_then ?_
  refine cW_cond (t := decide (p0 < 0)) (by kernel_rfl) (fun hb1 => ?_) (fun hb1 => ?_)
  · have hm := condT hb1 hm
    refine cW_seq ?_
    refine cW_region ?_
    refine wS_pure 3 [(2, .int .i64 (wr (0 - p0))), (6, .int .i64 (wr (0 - p0))), (5, .int .i64 (p0))] (by kernel_rfl) ?_
    refine wS_end (by rfl) ?_
    refine eX_then ?_
    refine cW_ret ?_
    refine eX_then_ret ?_
    have hq : (some (wr (0 - p0)) : Option ((Int))) = some _ := hm
    replace hq := someE hq
    subst hq
    refine eX_ret (vs := [.int .i64 (wr (0 - p0))]) [.tmp 2] (by rfl) ⟨by (show lkE _ _ _ = _); kernel_rfl, trivial⟩ ?_
    exact ⟨rfl, hB⟩
  · have hm := condF hb1 hm
    refine cW_skip ?_
    refine eX_then ?_
    refine cW_seq ?_
    refine cW_region ?_
    refine wS_pure 2 [(2, .int .i64 (p0)), (7, .int .i64 (p0))] (by kernel_rfl) ?_
    refine wS_end (by rfl) ?_
    refine eX_then ?_
    refine cW_ret ?_
    have hq : (some p0 : Option ((Int))) = some _ := hm
    replace hq := someE hq
    subst hq
    refine eX_ret (vs := [.int .i64 (p0)]) [.tmp 2] (by rfl) ⟨by (show lkE _ _ _ = _); kernel_rfl, trivial⟩ ?_
    exact ⟨rfl, hB⟩

set_option maxRecDepth 100000 in
/-- laws.b10Far -/
theorem c_laws_b10Far {w0 : World} {p0_0 : Int} {p0_1 : Int} {p1_0 : Int} {p1_1 : Int} {r : (Int)} (hm : m_laws_b10Far p0_0 p0_1 p1_0 p1_1 = some r)  :
    Calls Try.prog 47 #[.agg #[.int .i64 (p0_0), .int .i64 (p0_1)], .agg #[.int .i64 (p1_0), .int .i64 (p1_1)]] w0 fun e w' => e = .returned (.int .i64 (r)) ∧ Chg [] w0 w' := by
  have hB : Chg [] w0 w0 := Chg.refl _ _
  have hZ := Nat.le_refl w0.heap.size
  unfold m_laws_b10Far at hm
  refine enterE (N := 18) Try.func47 (by rfl) Try.ntmps47 (by simp) [(0, .agg #[.int .i64 (p0_0), .int .i64 (p0_1)]), (1, .agg #[.int .i64 (p1_0), .int .i64 (p1_1)])] (by rfl) (by kernel_rfl) (fun a => ?_)
  refine cW_seq ?_
  refine cW_region ?_
  refine wS_box (d := 2) (T := 34) (x := .agg #[.int .i64 (p0_0), .int .i64 (p0_1)]) (by kernel_rfl) ?_
  intro b1 w2 G3 F4 hc5
  replace F4 : Cl w2 b1 34 [.int .i64 (p0_0), .int .i64 (p0_1)] := F4
  replace hB := hB.inS hc5 inNil
  replace G3 := Nat.le_trans hZ G3
  replace hZ := Nat.le_trans hZ hc5.size
  refine wS_box (d := 3) (T := 34) (x := .agg #[.int .i64 (p1_0), .int .i64 (p1_1)]) (by kernel_rfl) ?_
  intro b7 w8 G9 F10 hc11
  replace F10 : Cl w8 b7 34 [.int .i64 (p1_0), .int .i64 (p1_1)] := F10
  have D13 : Dj [b1] [b7] := Dj.of (lt1 F4.lt) (low1 G9)
  replace F4 := F4.chg hc11 notNil
  replace hB := hB.inS hc11 inNil
  replace G9 := Nat.le_trans hZ G9
  replace hZ := Nat.le_trans hZ hc11.size
  refine wS_pure 1 [(4, .int .i64 (0))] (by kernel_rfl) ?_
  refine wS_end (by rfl) ?_
  refine eX_then ?_
  refine cW_seq ?_
  refine cW_drawnTail [] 11 (by kernel_rfl) (by kernel_rfl) (fun w26 hc27 => ?_)
  replace F4 := F4.chg hc27 notNil
  replace F10 := F10.chg hc27 notNil
  replace hB := hB.inS hc27 inNil
  replace hZ := Nat.le_trans hZ hc27.size
  have hS := Chg.refl [] w26
  have Z28 := F4
  have Z29 := F10
  refine wH_take [0] [0] [(5, .pointer (some ⟨b1, 0, none⟩))] (by kernel_rfl) (qT (qT qZ)) (by kernel_rfl) ?_
  refine wH_load1 (i := 1) (d := 6) (T := 2) (ad := ⟨b1, 0, none⟩) (v := .int .i64 (p0_0)) (by kernel_rfl) (qT (qT qZ)) (by kernel_rfl) (by kernel_rfl) vt2 (fun W hW => (Z28.chg hW notNil).cell 0) ?_
  refine wH_take [2] [2, 1, 0] [(7, .pointer (some ⟨b7, 0, none⟩))] (by kernel_rfl) (qT (qT qZ)) (by kernel_rfl) ?_
  refine wH_load1 (i := 3) (d := 8) (T := 2) (ad := ⟨b7, 0, none⟩) (v := .int .i64 (p1_0)) (by kernel_rfl) (qT (qT qZ)) (by kernel_rfl) (by kernel_rfl) vt2 (fun W hW => (Z29.chg hW notNil).cell 0) ?_
  refine wH_take [4, 6] [6, 4, 3, 2, 1, 0] [(11, .pointer (some ⟨b1, 1, none⟩)), (9, .int .i64 (wr (p0_0 - p1_0)))] (by kernel_rfl) (qT (qT qZ)) (by kernel_rfl) ?_
  refine wH_load1 (i := 7) (d := 12) (T := 2) (ad := ⟨b1, 1, none⟩) (v := .int .i64 (p0_1)) (by kernel_rfl) (qT (qT qZ)) (by kernel_rfl) (by kernel_rfl) vt2 (fun W hW => (Z28.chg hW notNil).cell 1) ?_
  refine wH_take [8] [8, 7, 6, 4, 3, 2, 1, 0] [(13, .pointer (some ⟨b7, 1, none⟩))] (by kernel_rfl) (qT (qT qZ)) (by kernel_rfl) ?_
  refine wH_load1 (i := 9) (d := 14) (T := 2) (ad := ⟨b7, 1, none⟩) (v := .int .i64 (p1_1)) (by kernel_rfl) (qT (qT qZ)) (by kernel_rfl) (by kernel_rfl) vt2 (fun W hW => (Z29.chg hW notNil).cell 1) ?_
  refine wH_take [10] [10, 9, 8, 7, 6, 4, 3, 2, 1, 0] [(15, .int .i64 (wr (p0_1 - p1_1)))] (by kernel_rfl) (qT (qT qZ)) (by kernel_rfl) ?_
  refine wH_all [5] (by rfl) (by kernel_rfl) (by simp) ⟨⟨by kernel_rfl, ?_⟩, trivial⟩
  obtain ⟨y30, hy31, hm⟩ := bindE hm
  refine wS_calls (d := 10) (f := 98) (vs := [.int .i64 (wr (p0_0 - p1_0))]) (by kernel_rfl) ent98 (c_laws_b10Abs hy31) ?_
  rintro _ w32 ⟨rfl, hc33⟩
  replace F4 := F4.chg hc33 notNil
  replace F10 := F10.chg hc33 notNil
  replace hB := hB.inS hc33 inNil
  have hSz := hS
  replace hS := hS.inS hc33 inNil
  replace hZ := Nat.le_trans hZ hc33.size
  refine ⟨.int .i64 (y30), rfl, ?_⟩
  refine wS_end (by kernel_rfl) ?_
  refine eX_KH hS ?_
  refine wH_done (by kernel_rfl) ?_
  refine eX_tail ?_
  obtain ⟨y34, hy35, hm⟩ := bindE hm
  refine wS_calls (d := 16) (f := 98) (vs := [.int .i64 (wr (p0_1 - p1_1))]) (by kernel_rfl) ent98 (c_laws_b10Abs hy35) ?_
  rintro _ w36 ⟨rfl, hc37⟩
  replace F4 := F4.chg hc37 notNil
  replace F10 := F10.chg hc37 notNil
  replace hB := hB.inS hc37 inNil
  replace hZ := Nat.le_trans hZ hc37.size
  refine ⟨.int .i64 (y34), rfl, ?_⟩
  refine wS_pure 2 [(4, .int .i64 (wr (y30 + y34))), (17, .int .i64 (wr (y30 + y34)))] (by kernel_rfl) ?_
  refine wS_end (by rfl) ?_
  refine eX_then ?_
  refine cW_ret ?_
  have hq : (some (wr (y30 + y34)) : Option ((Int))) = some _ := hm
  replace hq := someE hq
  subst hq
  refine eX_ret (vs := [.int .i64 (wr (y30 + y34))]) [.tmp 4] (by rfl) ⟨by (show lkE _ _ _ = _); kernel_rfl, trivial⟩ ?_
  exact ⟨rfl, hB⟩

set_option maxRecDepth 100000 in
/-- laws.FnPathCorners -/
theorem c_laws_FnPathCorners {w0 : World} {l0 : List (Int)} {A0 : Option Addr} {cap0 : Nat} {fp0 : List Nat} {l1 : List (Int)} {A1 : Option Addr} {cap1 : Nat} {fp1 : List Nat} {r : (Bool)} (hm : m_laws_FnPathCorners l0 l1 = some r) (F0 : Sl 1 encU w0 fp0 A0 l0) (F1 : Sl 1 encU w0 fp1 A1 l1) :
    Calls Try.prog 11 #[.slice A0 (l0).length cap0, .slice A1 (l1).length cap1] w0 fun e w' => e = .returned (.bool (r)) ∧ Chg [] w0 w' := by
  have L0 := F0.low
  have L1 := F1.low
  have hB : Chg [] w0 w0 := Chg.refl _ _
  have hZ := Nat.le_refl w0.heap.size
  unfold m_laws_FnPathCorners at hm
  refine enterE (N := 109) Try.func11 (by rfl) Try.ntmps11 (by simp) [(0, .slice A0 (l0).length cap0), (1, .slice A1 (l1).length cap1)] (by rfl) (by kernel_rfl) (fun a => ?_)
  refine cW_seq ?_
  refine cW_region ?_
  refine wS_pure 1 [(4, .bool (false))] (by kernel_rfl) ?_
  refine wS_end (by rfl) ?_
  refine eX_then ?_
  refine cW_seq ?_
  refine cW_seq ?_
  refine cW_region ?_
  refine wS_pure 2 [(17, .slice A1 (l1).length cap1), (16, .slice A0 (l0).length cap0)] (by kernel_rfl) ?_
  obtain ⟨y3, hy4, hm⟩ := bindE hm
  refine wS_calls (d := 18) (f := 43) (vs := [.slice A0 (l0).length cap0, .slice A1 (l1).length cap1]) (by kernel_rfl) ent43 (c_laws_b10Long hy4 F0 F1) ?_
  rintro _ w5 ⟨rfl, hc6⟩
  replace F0 := F0.chg hc6 Dj.nil
  replace F1 := F1.chg hc6 Dj.nil
  replace hB := hB.inS hc6 inNil
  replace hZ := Nat.le_trans hZ hc6.size
  refine ⟨.bool (y3), rfl, ?_⟩
  refine wS_end (by rfl) ?_
  refine eX_then ?_
  refine cW_cond (t := y3) (by kernel_rfl) (fun hb7 => ?_) (fun hb7 => ?_)
  · have hm := condT hb7 hm
    refine cW_seq ?_
    refine cW_region ?_
    refine wS_pure 1 [(4, .bool (true))] (by kernel_rfl) ?_
    refine wS_end (by rfl) ?_
    refine eX_then ?_
    refine cW_ret ?_
    refine eX_then_ret ?_
    have hq : (some true : Option ((Bool))) = some _ := hm
    replace hq := someE hq
    subst hq
    refine eX_ret (vs := [.bool (true)]) [.tmp 4] (by rfl) ⟨by (show lkE _ _ _ = _); kernel_rfl, trivial⟩ ?_
    exact ⟨rfl, hB⟩
  · have hm := condF hb7 hm
    refine cW_skip ?_
    refine eX_then ?_
    refine cW_seq ?_
    refine cW_region ?_
    refine wS_pure 1 [(19, .slice A0 (l0).length cap0)] (by kernel_rfl) ?_
    obtain ⟨y8, hy9, hm⟩ := bindE hm
    refine wS_calls (d := 20) (f := 44) (vs := [.slice A0 (l0).length cap0]) (by kernel_rfl) ent44 (c_spec_B10Path hy9 F0) ?_
    rintro _ w10 ⟨A12, cap13, fp14, rfl, F15, G16, hc11⟩
    replace F0 := F0.chg hc11 Dj.nil
    replace F1 := F1.chg hc11 Dj.nil
    replace hB := hB.inS hc11 inNil
    replace G16 := low_le hZ G16
    replace hZ := Nat.le_trans hZ hc11.size
    refine ⟨.slice A12 (y8).length cap13, rfl, ?_⟩
    refine wS_pure 1 [(5, .slice A12 (y8).length cap13)] (by kernel_rfl) ?_
    refine wS_end (by rfl) ?_
    refine eX_then ?_
    refine cW_seq ?_
    refine cW_region ?_
    refine wS_pure 1 [(22, .slice A12 (y8).length cap13)] (by kernel_rfl) ?_
    obtain ⟨y19, hy20, hm⟩ := bindE hm
    refine wS_calls (d := 23) (f := 39) (vs := [.slice A12 (y8).length cap13]) (by kernel_rfl) ent39 (c_impl_CornersOf hy20 (F15.sl encII_ok)) ?_
    rintro _ w21 ⟨A23, cap24, fp25, rfl, F26, G27, hc22⟩
    have D30 : Dj fp14 fp25 := Dj.of F15.low G27
    replace F0 := F0.chg hc22 Dj.nil
    replace F1 := F1.chg hc22 Dj.nil
    replace F15 := F15.chg hc22 Dj.nil
    replace hB := hB.inS hc22 inNil
    replace G27 := low_le hZ G27
    replace hZ := Nat.le_trans hZ hc22.size
    refine ⟨.tuple #[.slice A23 (y19.1).length cap24, .bool (y19.2)], rfl, ?_⟩
    refine wS_pure 5 [(7, .bool (y19.2)), (6, .slice A23 (y19.1).length cap24), (25, .bool (y19.2)), (24, .slice A23 (y19.1).length cap24), (21, .tuple #[.slice A23 (y19.1).length cap24, .bool (y19.2)])] (by kernel_rfl) ?_
    refine wS_end (by rfl) ?_
    refine eX_then ?_
    refine cW_seq ?_
    refine cW_region ?_
    refine wS_pure 1 [(27, .slice A23 (y19.1).length cap24)] (by kernel_rfl) ?_
    obtain ⟨y31, hy32, hm⟩ := bindE hm
    refine wS_calls (d := 28) (f := 45) (vs := [.slice A23 (y19.1).length cap24]) (by kernel_rfl) ent45 (c_impl_PathThrough hy32 (F26.sl encII_ok) F26.cap_le) ?_
    rintro _ w33 ⟨A35, cap36, fp37, rfl, F38, G39, hc34⟩
    have D42 : Dj fp14 fp37 := Dj.of F15.low G39
    have D43 : Dj fp25 fp37 := Dj.of F26.low G39
    replace F0 := F0.chg hc34 Dj.nil
    replace F1 := F1.chg hc34 Dj.nil
    replace F15 := F15.chg hc34 Dj.nil
    replace F26 := F26.chg hc34 Dj.nil
    replace hB := hB.inS hc34 inNil
    replace G39 := low_le hZ G39
    replace hZ := Nat.le_trans hZ hc34.size
    refine ⟨.tuple #[.slice A35 (y31.1).length cap36, .bool (y31.2)], rfl, ?_⟩
    refine wS_pure 5 [(9, .bool (y31.2)), (8, .slice A35 (y31.1).length cap36), (30, .bool (y31.2)), (29, .slice A35 (y31.1).length cap36), (26, .tuple #[.slice A35 (y31.1).length cap36, .bool (y31.2)])] (by kernel_rfl) ?_
    refine wS_end (by rfl) ?_
    refine eX_then ?_
    refine cW_seq ?_
    refine cW_region ?_
    refine wS_pure 1 [(32, .slice A12 (y8).length cap13)] (by kernel_rfl) ?_
    obtain ⟨y44, hy45, hm⟩ := bindE hm
    refine wS_calls (d := 33) (f := 26) (vs := [.slice A12 (y8).length cap13]) (by kernel_rfl) ent26 (c_impl_LengthOf hy45 (F15.sl encII_ok)) ?_
    rintro _ w46 ⟨rfl, hc47⟩
    replace F0 := F0.chg hc47 Dj.nil
    replace F1 := F1.chg hc47 Dj.nil
    replace F15 := F15.chg hc47 Dj.nil
    replace F26 := F26.chg hc47 Dj.nil
    replace F38 := F38.chg hc47 Dj.nil
    replace hB := hB.inS hc47 inNil
    replace hZ := Nat.le_trans hZ hc47.size
    refine ⟨.tuple #[.int .i64 (y44.1), .bool (y44.2)], rfl, ?_⟩
    refine wS_pure 5 [(11, .bool (y44.2)), (10, .int .i64 (y44.1)), (35, .bool (y44.2)), (34, .int .i64 (y44.1)), (31, .tuple #[.int .i64 (y44.1), .bool (y44.2)])] (by kernel_rfl) ?_
    refine wS_end (by rfl) ?_
    refine eX_then ?_
    refine cW_prune [(5, .slice A12 (y8).length cap13), (6, .slice A23 (y19.1).length cap24), (7, .bool (y19.2)), (8, .slice A35 (y31.1).length cap36), (9, .bool (y31.2)), (10, .int .i64 (y44.1)), (11, .bool (y44.2))] (by kernel_rfl) (by kernel_rfl) (fun a48 => ?_)
    refine cW_seq ?_
    refine cW_region ?_
    refine wS_pure 1 [(37, .slice A12 (y8).length cap13)] (by kernel_rfl) ?_
    obtain ⟨y49, hy50, hm⟩ := bindE hm
    refine wS_calls (d := 38) (f := 31) (vs := [.slice A12 (y8).length cap13]) (by kernel_rfl) ent31 (c_impl_BendsOf hy50 (F15.sl encII_ok)) ?_
    rintro _ w51 ⟨rfl, hc52⟩
    replace F0 := F0.chg hc52 Dj.nil
    replace F1 := F1.chg hc52 Dj.nil
    replace F15 := F15.chg hc52 Dj.nil
    replace F26 := F26.chg hc52 Dj.nil
    replace F38 := F38.chg hc52 Dj.nil
    replace hB := hB.inS hc52 inNil
    replace hZ := Nat.le_trans hZ hc52.size
    refine ⟨.tuple #[.int .i64 (y49.1), .bool (y49.2)], rfl, ?_⟩
    refine wS_pure 5 [(13, .bool (y49.2)), (12, .int .i64 (y49.1)), (40, .bool (y49.2)), (39, .int .i64 (y49.1)), (36, .tuple #[.int .i64 (y49.1), .bool (y49.2)])] (by kernel_rfl) ?_
    refine wS_end (by rfl) ?_
    refine eX_then ?_
    refine cW_seq ?_
    refine cW_seq ?_
    refine cW_region ?_
    refine wS_pure 3 [(43, .bool (!y19.2)), (42, .bool (!y19.2)), (41, .bool (y19.2))] (by kernel_rfl) ?_
    refine wS_bool (!y19.2) (fun hb53 => ?_) (fun hb53 => ?_)
    · have hm := condT hb53 hm
      rewrite [hb53]
      refine wS_pure 29 [(72, .bool (true)), (71, undef), (70, undef), (69, undef), (68, undef), (67, undef), (66, .bool (true)), (65, .bool (true)), (64, undef), (63, undef), (62, undef), (61, undef), (60, .bool (true)), (59, .bool (true)), (58, undef), (57, undef), (56, undef), (55, .bool (true)), (54, .bool (true)), (53, undef), (52, undef), (51, .bool (true)), (50, .bool (true)), (49, undef), (48, undef), (47, .bool (true)), (46, .bool (true)), (45, undef), (44, undef)] (by kernel_rfl) ?_
      refine wS_end (by rfl) ?_
      refine eX_then ?_
      refine cW_prune [(5, .slice A12 (y8).length cap13), (6, .slice A23 (y19.1).length cap24), (10, .int .i64 (y44.1)), (12, .int .i64 (y49.1)), (72, .bool (true))] (by kernel_rfl) (by kernel_rfl) (fun a54 => ?_)
      refine cW_cond_t (by kernel_rfl) ?_
      refine cW_seq ?_
      refine cW_region ?_
      refine wS_pure 1 [(4, .bool (false))] (by kernel_rfl) ?_
      refine wS_end (by rfl) ?_
      refine eX_then ?_
      refine cW_ret ?_
      refine eX_then_ret ?_
      have hq : (some false : Option ((Bool))) = some _ := hm
      replace hq := someE hq
      subst hq
      refine eX_ret (vs := [.bool (false)]) [.tmp 4] (by rfl) ⟨by (show lkE _ _ _ = _); kernel_rfl, trivial⟩ ?_
      exact ⟨rfl, hB⟩
    · have hm := condF hb53 hm
      rewrite [hb53]
      refine wS_pure 4 [(47, .bool (!y31.2)), (46, .bool (!y31.2)), (45, .bool (!y31.2)), (44, .bool (y31.2))] (by kernel_rfl) ?_
      refine wS_bool (!y31.2) (fun hb55 => ?_) (fun hb55 => ?_)
      · have hm := condT hb55 hm
        rewrite [hb55]
        refine wS_pure 25 [(72, .bool (true)), (71, undef), (70, undef), (69, undef), (68, undef), (67, undef), (66, .bool (true)), (65, .bool (true)), (64, undef), (63, undef), (62, undef), (61, undef), (60, .bool (true)), (59, .bool (true)), (58, undef), (57, undef), (56, undef), (55, .bool (true)), (54, .bool (true)), (53, undef), (52, undef), (51, .bool (true)), (50, .bool (true)), (49, undef), (48, undef)] (by kernel_rfl) ?_
        refine wS_end (by rfl) ?_
        refine eX_then ?_
        refine cW_prune [(5, .slice A12 (y8).length cap13), (6, .slice A23 (y19.1).length cap24), (10, .int .i64 (y44.1)), (12, .int .i64 (y49.1)), (72, .bool (true))] (by kernel_rfl) (by kernel_rfl) (fun a56 => ?_)
        refine cW_cond_t (by kernel_rfl) ?_
        refine cW_seq ?_
        refine cW_region ?_
        refine wS_pure 1 [(4, .bool (false))] (by kernel_rfl) ?_
        refine wS_end (by rfl) ?_
        refine eX_then ?_
        refine cW_ret ?_
        refine eX_then_ret ?_
        have hq : (some false : Option ((Bool))) = some _ := hm
        replace hq := someE hq
        subst hq
        refine eX_ret (vs := [.bool (false)]) [.tmp 4] (by rfl) ⟨by (show lkE _ _ _ = _); kernel_rfl, trivial⟩ ?_
        exact ⟨rfl, hB⟩
      · have hm := condF hb55 hm
        rewrite [hb55]
        refine wS_pure 4 [(51, .bool (!y44.2)), (50, .bool (!y44.2)), (49, .bool (!y44.2)), (48, .bool (y44.2))] (by kernel_rfl) ?_
        refine wS_bool (!y44.2) (fun hb57 => ?_) (fun hb57 => ?_)
        · have hm := condT hb57 hm
          rewrite [hb57]
          refine wS_pure 21 [(72, .bool (true)), (71, undef), (70, undef), (69, undef), (68, undef), (67, undef), (66, .bool (true)), (65, .bool (true)), (64, undef), (63, undef), (62, undef), (61, undef), (60, .bool (true)), (59, .bool (true)), (58, undef), (57, undef), (56, undef), (55, .bool (true)), (54, .bool (true)), (53, undef), (52, undef)] (by kernel_rfl) ?_
          refine wS_end (by rfl) ?_
          refine eX_then ?_
          refine cW_prune [(5, .slice A12 (y8).length cap13), (6, .slice A23 (y19.1).length cap24), (10, .int .i64 (y44.1)), (12, .int .i64 (y49.1)), (72, .bool (true))] (by kernel_rfl) (by kernel_rfl) (fun a58 => ?_)
          refine cW_cond_t (by kernel_rfl) ?_
          refine cW_seq ?_
          refine cW_region ?_
          refine wS_pure 1 [(4, .bool (false))] (by kernel_rfl) ?_
          refine wS_end (by rfl) ?_
          refine eX_then ?_
          refine cW_ret ?_
          refine eX_then_ret ?_
          have hq : (some false : Option ((Bool))) = some _ := hm
          replace hq := someE hq
          subst hq
          refine eX_ret (vs := [.bool (false)]) [.tmp 4] (by rfl) ⟨by (show lkE _ _ _ = _); kernel_rfl, trivial⟩ ?_
          exact ⟨rfl, hB⟩
        · have hm := condF hb57 hm
          rewrite [hb57]
          refine wS_pure 4 [(55, .bool (!y49.2)), (54, .bool (!y49.2)), (53, .bool (!y49.2)), (52, .bool (y49.2))] (by kernel_rfl) ?_
          refine wS_bool (!y49.2) (fun hb59 => ?_) (fun hb59 => ?_)
          · have hm := condT hb59 hm
            rewrite [hb59]
            refine wS_pure 17 [(72, .bool (true)), (71, undef), (70, undef), (69, undef), (68, undef), (67, undef), (66, .bool (true)), (65, .bool (true)), (64, undef), (63, undef), (62, undef), (61, undef), (60, .bool (true)), (59, .bool (true)), (58, undef), (57, undef), (56, undef)] (by kernel_rfl) ?_
            refine wS_end (by rfl) ?_
            refine eX_then ?_
            refine cW_prune [(5, .slice A12 (y8).length cap13), (6, .slice A23 (y19.1).length cap24), (10, .int .i64 (y44.1)), (12, .int .i64 (y49.1)), (72, .bool (true))] (by kernel_rfl) (by kernel_rfl) (fun a60 => ?_)
            refine cW_cond_t (by kernel_rfl) ?_
            refine cW_seq ?_
            refine cW_region ?_
            refine wS_pure 1 [(4, .bool (false))] (by kernel_rfl) ?_
            refine wS_end (by rfl) ?_
            refine eX_then ?_
            refine cW_ret ?_
            refine eX_then_ret ?_
            have hq : (some false : Option ((Bool))) = some _ := hm
            replace hq := someE hq
            subst hq
            refine eX_ret (vs := [.bool (false)]) [.tmp 4] (by rfl) ⟨by (show lkE _ _ _ = _); kernel_rfl, trivial⟩ ?_
            exact ⟨rfl, hB⟩
          · have hm := condF hb59 hm
            rewrite [hb59]
            refine wS_pure 1 [(56, .slice A12 (y8).length cap13)] (by kernel_rfl) ?_
            obtain ⟨y61, hy62, hm⟩ := bindE hm
            refine wS_calls (d := 57) (f := 23) (vs := [.slice A12 (y8).length cap13]) (by kernel_rfl) ent23 (c_impl_IsPath hy62 (F15.sl encII_ok)) ?_
            rintro _ w63 ⟨rfl, hc64⟩
            replace F0 := F0.chg hc64 Dj.nil
            replace F1 := F1.chg hc64 Dj.nil
            replace F15 := F15.chg hc64 Dj.nil
            replace F26 := F26.chg hc64 Dj.nil
            replace F38 := F38.chg hc64 Dj.nil
            replace hB := hB.inS hc64 inNil
            replace hZ := Nat.le_trans hZ hc64.size
            refine ⟨.bool (y61), rfl, ?_⟩
            refine wS_pure 3 [(60, .bool (!y61)), (59, .bool (!y61)), (58, .bool (!y61))] (by kernel_rfl) ?_
            refine wS_bool (!y61) (fun hb65 => ?_) (fun hb65 => ?_)
            · have hm := condT hb65 hm
              rewrite [hb65]
              refine wS_pure 12 [(72, .bool (true)), (71, undef), (70, undef), (69, undef), (68, undef), (67, undef), (66, .bool (true)), (65, .bool (true)), (64, undef), (63, undef), (62, undef), (61, undef)] (by kernel_rfl) ?_
              refine wS_end (by rfl) ?_
              refine eX_then ?_
              refine cW_prune [(5, .slice A12 (y8).length cap13), (6, .slice A23 (y19.1).length cap24), (10, .int .i64 (y44.1)), (12, .int .i64 (y49.1)), (72, .bool (true))] (by kernel_rfl) (by kernel_rfl) (fun a66 => ?_)
              refine cW_cond_t (by kernel_rfl) ?_
              refine cW_seq ?_
              refine cW_region ?_
              refine wS_pure 1 [(4, .bool (false))] (by kernel_rfl) ?_
              refine wS_end (by rfl) ?_
              refine eX_then ?_
              refine cW_ret ?_
              refine eX_then_ret ?_
              have hq : (some false : Option ((Bool))) = some _ := hm
              replace hq := someE hq
              subst hq
              refine eX_ret (vs := [.bool (false)]) [.tmp 4] (by rfl) ⟨by (show lkE _ _ _ = _); kernel_rfl, trivial⟩ ?_
              exact ⟨rfl, hB⟩
            · have hm := condF hb65 hm
              rewrite [hb65]
              refine wS_pure 2 [(62, .slice A12 (y8).length cap13), (61, .slice A35 (y31.1).length cap36)] (by kernel_rfl) ?_
              obtain ⟨y67, hy68, hm⟩ := bindE hm
              refine wS_calls (d := 63) (f := 46) (vs := [.slice A35 (y31.1).length cap36, .slice A12 (y8).length cap13]) (by kernel_rfl) ent46 (c_laws_b10Same hy68 (F38.sl encII_ok) (F15.sl encII_ok)) ?_
              rintro _ w69 ⟨rfl, hc70⟩
              replace F0 := F0.chg hc70 Dj.nil
              replace F1 := F1.chg hc70 Dj.nil
              replace F15 := F15.chg hc70 Dj.nil
              replace F26 := F26.chg hc70 Dj.nil
              replace F38 := F38.chg hc70 Dj.nil
              replace hB := hB.inS hc70 inNil
              replace hZ := Nat.le_trans hZ hc70.size
              refine ⟨.bool (y67), rfl, ?_⟩
              refine wS_pure 3 [(66, .bool (!y67)), (65, .bool (!y67)), (64, .bool (!y67))] (by kernel_rfl) ?_
              refine wS_bool (!y67) (fun hb71 => ?_) (fun hb71 => ?_)
              · have hm := condT hb71 hm
                rewrite [hb71]
                refine wS_pure 6 [(72, .bool (true)), (71, undef), (70, undef), (69, undef), (68, undef), (67, undef)] (by kernel_rfl) ?_
                refine wS_end (by rfl) ?_
                refine eX_then ?_
                refine cW_prune [(5, .slice A12 (y8).length cap13), (6, .slice A23 (y19.1).length cap24), (10, .int .i64 (y44.1)), (12, .int .i64 (y49.1)), (72, .bool (true))] (by kernel_rfl) (by kernel_rfl) (fun a72 => ?_)
                refine cW_cond_t (by kernel_rfl) ?_
                refine cW_seq ?_
                refine cW_region ?_
                refine wS_pure 1 [(4, .bool (false))] (by kernel_rfl) ?_
                refine wS_end (by rfl) ?_
                refine eX_then ?_
                refine cW_ret ?_
                refine eX_then_ret ?_
                have hq : (some false : Option ((Bool))) = some _ := hm
                replace hq := someE hq
                subst hq
                refine eX_ret (vs := [.bool (false)]) [.tmp 4] (by rfl) ⟨by (show lkE _ _ _ = _); kernel_rfl, trivial⟩ ?_
                exact ⟨rfl, hB⟩
              · have hm := condF hb71 hm
                rewrite [hb71]
                refine wS_pure 6 [(72, .bool (y44.1 != (wr ((((y8).length : Int)) - 1)))), (71, .bool (y44.1 != (wr ((((y8).length : Int)) - 1)))), (70, .int .i64 (wr ((((y8).length : Int)) - 1))), (69, .int .i64 (((y8).length : Int))), (68, .slice A12 (y8).length cap13), (67, .int .i64 (y44.1))] (by kernel_rfl) ?_
                refine wS_end (by rfl) ?_
                refine eX_then ?_
                refine cW_prune [(5, .slice A12 (y8).length cap13), (6, .slice A23 (y19.1).length cap24), (10, .int .i64 (y44.1)), (12, .int .i64 (y49.1)), (72, .bool (y44.1 != (wr ((((y8).length : Int)) - 1))))] (by kernel_rfl) (by kernel_rfl) (fun a73 => ?_)
                refine cW_cond (t := y44.1 != (wr ((((y8).length : Int)) - 1))) (by kernel_rfl) (fun hb74 => ?_) (fun hb74 => ?_)
                · have hm := condT hb74 hm
                  refine cW_seq ?_
                  refine cW_region ?_
                  refine wS_pure 1 [(4, .bool (false))] (by kernel_rfl) ?_
                  refine wS_end (by rfl) ?_
                  refine eX_then ?_
                  refine cW_ret ?_
                  refine eX_then_ret ?_
                  have hq : (some false : Option ((Bool))) = some _ := hm
                  replace hq := someE hq
                  subst hq
                  refine eX_ret (vs := [.bool (false)]) [.tmp 4] (by rfl) ⟨by (show lkE _ _ _ = _); kernel_rfl, trivial⟩ ?_
                  exact ⟨rfl, hB⟩
                · have hm := condF hb74 hm
                  refine cW_skip ?_
                  refine eX_then ?_
                  refine cW_seq ?_
                  refine cW_region ?_
                  refine wS_pure 1 [(14, .int .i64 (0))] (by kernel_rfl) ?_
                  refine wS_end (by rfl) ?_
                  refine eX_then ?_
                  refine cW_seq ?_
                  refine cW_seq ?_
                  refine cW_region ?_
                  refine wS_pure 1 [(15, .int .i64 (1))] (by kernel_rfl) ?_
                  refine wS_end (by rfl) ?_
                  refine eX_then ?_
                  obtain ⟨r144, hr145, hm⟩ := bindE hm
                  have hm146 := hm
                  refine cW_cut (fun a' w' => ∃ x134 : Int, x134 = r144 ∧ Fr 109 [(5, .slice A12 (y8).length cap13), (6, .slice A23 (y19.1).length cap24), (10, .int .i64 (y44.1)), (12, .int .i64 (y49.1)), (14, .int .i64 (x134))] a' ∧ Ow 2 encII 34 w' fp14 A12 cap13 y8 ∧ Ow 2 encII 34 w' fp25 A23 cap24 y19.1 ∧ Chg [] w0 w' ∧ w0.heap.size ≤ w'.heap.size) ?_ ?_
                  · refine cW_block ?_
                    refine cW_loop _ (fun (s147 : Int × Int) a' w' => ∃ x139 : Int, ∃ x140 : Int, (x139, x140) = s147 ∧ Fr 109 [(5, .slice A12 (y8).length cap13), (6, .slice A23 (y19.1).length cap24), (10, .int .i64 (y44.1)), (12, .int .i64 (y49.1)), (14, .int .i64 (x139)), (15, .int .i64 (x140))] a' ∧ Ow 2 encII 34 w' fp14 A12 cap13 y8 ∧ Ow 2 encII 34 w' fp25 A23 cap24 y19.1 ∧ Chg [] w0 w' ∧ w0.heap.size ≤ w'.heap.size) hr145 (fun hst => ⟨0, 1, rfl, Fr.of hst (by kernel_rfl), F15, F26, hB, hZ⟩) ?_
                    rintro _ c148 a' w138 ⟨x139, x140, rfl, hF141, F142, F143, hB, hZ⟩ hx149
                    refine Fr.goOn hF141 (by kernel_rfl) ?_
                    have hm := hx149
                    unfold m_laws_FnPathCorners_s1 at hm
                    refine cW_seq ?_
                    refine cW_seq ?_
                    refine cW_region ?_
                    refine wS_pure 4 [(76, .bool (decide (x140 < (((y19.1).length : Int))))), (75, .int .i64 (((y19.1).length : Int))), (74, .slice A23 (y19.1).length cap24), (73, .int .i64 (x140))] (by kernel_rfl) ?_
                    refine wS_end (by rfl) ?_
                    refine eX_then ?_
                    refine cW_cond (t := decide (x140 < (((y19.1).length : Int)))) (by kernel_rfl) (fun hb150 => ?_) (fun hb150 => ?_)
                    · have hm := condT hb150 hm
                      refine cW_skip ?_
                      refine eX_then ?_
                      refine cW_seq ?_
                      refine cW_block ?_
                      refine cW_drawnTail [] 11 (by kernel_rfl) (by kernel_rfl) (fun w163 hc164 => ?_)
                      replace F142 := F142.chg hc164 Dj.nil
                      replace F143 := F143.chg hc164 Dj.nil
                      replace hB := hB.inS hc164 inNil
                      replace hZ := Nat.le_trans hZ hc164.size
                      have hS := Chg.refl [] w163
                      have Z165 := F142
                      have Z166 := F143
                      refine wH_take [0, 1, 2, 3] [3, 2, 1, 0] [(82, .int .i64 (wr (x140 - 1))), (81, .int .i64 (x140)), (80, .slice A23 (y19.1).length cap24), (79, .int .i64 (x139))] (by kernel_rfl) (qT (qB (qT (qL (qB (qT (qT qZ))))))) (by kernel_rfl) ?_
                      obtain ⟨x167, hx168, hm⟩ := bindE hm
                      refine wH_idx (i := 4) (d := 83) (T := 25) (A := A23) (n := (y19.1).length) (cap := cap24) (kd := .i64) (m := wr (x140 - 1)) (by kernel_rfl) (qT (qB (qT (qL (qB (qT (qT qZ))))))) (by kernel_rfl) (by kernel_rfl) sl25 ((F143.sl encII_ok).is hx168) ?_
                      refine wH_loadA (i := 5) (d := 84) (T := 34) (ad := (elA A23 2 (wr (x140 - 1)) 0)) (vs := [.int .i64 (x167.1), .int .i64 (x167.2)]) (by kernel_rfl) (qT (qB (qT (qL (qB (qT (qT qZ))))))) (by kernel_rfl) (by kernel_rfl) vt34 (fun W hW i u hu => Sl.cells_at ((Z166.chg hW Dj.nil).sl encII_ok) hx168 0 hu (by rfl)) ?_
                      refine wH_take [6, 7] [7, 6, 5, 4, 3, 2, 1, 0] [(86, .int .i64 (x140)), (85, .slice A23 (y19.1).length cap24)] (by kernel_rfl) (qT (qB (qT (qL (qB (qT (qT qZ))))))) (by kernel_rfl) ?_
                      obtain ⟨x169, hx170, hm⟩ := bindE hm
                      refine wH_idx (i := 8) (d := 87) (T := 25) (A := A23) (n := (y19.1).length) (cap := cap24) (kd := .i64) (m := x140) (by kernel_rfl) (qT (qB (qT (qL (qB (qT (qT qZ))))))) (by kernel_rfl) (by kernel_rfl) sl25 ((F143.sl encII_ok).is hx170) ?_
                      refine wH_loadA (i := 9) (d := 88) (T := 34) (ad := (elA A23 2 (x140) 0)) (vs := [.int .i64 (x169.1), .int .i64 (x169.2)]) (by kernel_rfl) (qT (qB (qT (qL (qB (qT (qT qZ))))))) (by kernel_rfl) (by kernel_rfl) vt34 (fun W hW i u hu => Sl.cells_at ((Z166.chg hW Dj.nil).sl encII_ok) hx170 0 hu (by rfl)) ?_
                      refine wH_all [10] (by rfl) (by kernel_rfl) (by simp) ⟨⟨by kernel_rfl, ?_⟩, trivial⟩
                      obtain ⟨y171, hy172, hm⟩ := bindE hm
                      refine wS_calls (d := 89) (f := 47) (vs := [.agg #[.int .i64 (x167.1), .int .i64 (x167.2)], .agg #[.int .i64 (x169.1), .int .i64 (x169.2)]]) (by kernel_rfl) ent47 (c_laws_b10Far hy172) ?_
                      rintro _ w173 ⟨rfl, hc174⟩
                      replace F142 := F142.chg hc174 Dj.nil
                      replace F143 := F143.chg hc174 Dj.nil
                      replace hB := hB.inS hc174 inNil
                      have hSz := hS
                      replace hS := hS.inS hc174 inNil
                      replace hZ := Nat.le_trans hZ hc174.size
                      refine ⟨.int .i64 (y171), rfl, ?_⟩
                      refine wS_end (by kernel_rfl) ?_
                      refine eX_KH hS ?_
                      refine wH_done (by kernel_rfl) ?_
                      refine eX_tail ?_
                      refine wS_pure 2 [(14, .int .i64 (wr (x139 + y171))), (90, .int .i64 (wr (x139 + y171)))] (by kernel_rfl) ?_
                      refine wS_end (by rfl) ?_
                      refine eX_block ?_
                      refine eX_then ?_
                      refine cW_region ?_
                      refine wS_pure 3 [(15, .int .i64 (wr (x140 + 1))), (78, .int .i64 (wr (x140 + 1))), (77, .int .i64 (x140))] (by kernel_rfl) ?_
                      refine wS_end (by rfl) ?_
                      have hq : (some (Ctl.next ((wr (x139 + y171), wr (x140 + 1)))) : Option (Ctl (Int × Int) (Int))) = some _ := hm
                      replace hq := someE hq
                      subst hq
                      exact eX_next hx149 (fun hst => ⟨wr (x139 + y171), wr (x140 + 1), rfl, Fr.of hst (by kernel_rfl), F142, F143, hB, hZ⟩)
                    · have hm := condF hb150 hm
                      refine cW_exit ?_
                      refine eX_then_exit ?_
                      have hq : (some (Ctl.out x139) : Option (Ctl (Int × Int) (Int))) = some _ := hm
                      replace hq := someE hq
                      subst hq
                      refine eX_outX hx149 (fun hr175 => ?_)
                      replace hr175 := hr175.symm
                      subst hr175
                      refine eX_block_hit ?_
                      exact eX_J (fun hst => ⟨x139, rfl, Fr.of hst (by kernel_rfl), F142, F143, hB, hZ⟩)
                  · rintro a' w133 ⟨x134, hJ, hF135, F136, F137, hB, hZ⟩
                    subst hJ
                    refine Fr.goX hF135 (by kernel_rfl) ?_
                    refine eX_then ?_
                    refine cW_seq ?_
                    refine cW_seq ?_
                    refine cW_region ?_
                    refine wS_pure 3 [(93, .bool (x134 != y44.1)), (92, .int .i64 (y44.1)), (91, .int .i64 (x134))] (by kernel_rfl) ?_
                    refine wS_end (by rfl) ?_
                    refine eX_then ?_
                    refine cW_cond (t := x134 != y44.1) (by kernel_rfl) (fun hb176 => ?_) (fun hb176 => ?_)
                    · have hm := condT hb176 hm
                      refine cW_seq ?_
                      refine cW_region ?_
                      refine wS_pure 1 [(4, .bool (false))] (by kernel_rfl) ?_
                      refine wS_end (by rfl) ?_
                      refine eX_then ?_
                      refine cW_ret ?_
                      refine eX_then_ret ?_
                      have hq : (some false : Option ((Bool))) = some _ := hm
                      replace hq := someE hq
                      subst hq
                      refine eX_ret (vs := [.bool (false)]) [.tmp 4] (by rfl) ⟨by (show lkE _ _ _ = _); kernel_rfl, trivial⟩ ?_
                      exact ⟨rfl, hB⟩
                    · have hm := condF hb176 hm
                      refine cW_skip ?_
                      refine eX_then ?_
                      refine cW_seq ?_
                      refine cW_seq ?_
                      refine cW_region ?_
                      refine wS_pure 3 [(96, .bool ((((y8).length : Int)) == 1)), (95, .int .i64 (((y8).length : Int))), (94, .slice A12 (y8).length cap13)] (by kernel_rfl) ?_
                      refine wS_end (by rfl) ?_
                      refine eX_then ?_
                      refine cW_cond (t := (((y8).length : Int)) == 1) (by kernel_rfl) (fun hb177 => ?_) (fun hb177 => ?_)
                      · have hm := condT hb177 hm
                        refine cW_seq ?_
                        refine cW_region ?_
                        refine wS_pure 3 [(99, .bool (y49.1 == 0)), (98, .bool (y49.1 == 0)), (97, .int .i64 (y49.1))] (by kernel_rfl) ?_
                        refine wS_bool (y49.1 == 0) (fun hb178 => ?_) (fun hb178 => ?_)
                        · have hm := condT hb178 hm
                          rewrite [hb178]
                          refine wS_pure 5 [(4, .bool ((((y19.1).length : Int)) == 1)), (103, .bool ((((y19.1).length : Int)) == 1)), (102, .bool ((((y19.1).length : Int)) == 1)), (101, .int .i64 (((y19.1).length : Int))), (100, .slice A23 (y19.1).length cap24)] (by kernel_rfl) ?_
                          refine wS_end (by rfl) ?_
                          refine eX_then ?_
                          refine cW_ret ?_
                          refine eX_then_ret ?_
                          have hq : (some ((((y19.1).length : Int)) == 1) : Option ((Bool))) = some _ := hm
                          replace hq := someE hq
                          subst hq
                          refine eX_ret (vs := [.bool ((((y19.1).length : Int)) == 1)]) [.tmp 4] (by rfl) ⟨by (show lkE _ _ _ = _); kernel_rfl, trivial⟩ ?_
                          exact ⟨rfl, hB⟩
                        · have hm := condF hb178 hm
                          rewrite [hb178]
                          refine wS_pure 5 [(4, .bool (false)), (103, .bool (false)), (102, undef), (101, undef), (100, undef)] (by kernel_rfl) ?_
                          refine wS_end (by rfl) ?_
                          refine eX_then ?_
                          refine cW_ret ?_
                          refine eX_then_ret ?_
                          have hq : (some false : Option ((Bool))) = some _ := hm
                          replace hq := someE hq
                          subst hq
                          refine eX_ret (vs := [.bool (false)]) [.tmp 4] (by rfl) ⟨by (show lkE _ _ _ = _); kernel_rfl, trivial⟩ ?_
                          exact ⟨rfl, hB⟩
                      · have hm := condF hb177 hm
                        refine cW_skip ?_
                        refine eX_then ?_
                        refine cW_seq ?_
                        refine cW_region ?_
                        refine wS_pure 6 [(4, .bool (y49.1 == (wr ((((y19.1).length : Int)) - 2)))), (108, .bool (y49.1 == (wr ((((y19.1).length : Int)) - 2)))), (107, .int .i64 (wr ((((y19.1).length : Int)) - 2))), (106, .int .i64 (((y19.1).length : Int))), (105, .slice A23 (y19.1).length cap24), (104, .int .i64 (y49.1))] (by kernel_rfl) ?_
                        refine wS_end (by rfl) ?_
                        refine eX_then ?_
                        refine cW_ret ?_
                        have hq : (some (y49.1 == (wr ((((y19.1).length : Int)) - 2))) : Option ((Bool))) = some _ := hm
                        replace hq := someE hq
                        subst hq
                        refine eX_ret (vs := [.bool (y49.1 == (wr ((((y19.1).length : Int)) - 2)))]) [.tmp 4] (by rfl) ⟨by (show lkE _ _ _ = _); kernel_rfl, trivial⟩ ?_
                        exact ⟨rfl, hB⟩

set_option maxRecDepth 100000 in
/-- spec.l01Sign -/
theorem c_spec_l01Sign {w0 : World} {p0 : Int} {r : (Int)} (hm : m_spec_l01Sign p0 = some r)  :
    Calls Try.prog 136 #[.int .i64 (p0)] w0 fun e w' => e = .returned (.int .i64 (r)) ∧ Chg [] w0 w' := by
  have hB : Chg [] w0 w0 := Chg.refl _ _
  have hZ := Nat.le_refl w0.heap.size
  unfold m_spec_l01Sign at hm
  refine enterE (N := 7) Try.func136 (by rfl) Try.ntmps136 (by simp) [(0, .int .i64 (p0))] (by rfl) (by kernel_rfl) (fun a => ?_)
  refine cW_seq ?_
  refine cW_region ?_
  refine wS_pure 1 [(2, .int .i64 (0))] (by kernel_rfl) ?_
  refine wS_end (by rfl) ?_
  refine eX_then ?_
  refine cW_seq ?_
  refine cW_seq ?_
  refine cW_region ?_
  refine wS_pure 2 [(4, .bool (decide (p0 < 0))), (3, .int .i64 (p0))] (by kernel_rfl) ?_
  refine wS_end (by rfl) ?_
  refine eX_then ?_
  refine cW_cond (t := decide (p0 < 0)) (by kernel_rfl) (fun hb1 => ?_) (fun hb1 => ?_)
  · have hm := condT hb1 hm
    refine cW_seq ?_
    refine cW_region ?_
    refine wS_pure 1 [(2, .int .i64 ((-1)))] (by kernel_rfl) ?_
    refine wS_end (by rfl) ?_
    refine eX_then ?_
    refine cW_ret ?_
    refine eX_then_ret ?_
    have hq : (some ((-1)) : Option ((Int))) = some _ := hm
    replace hq := someE hq
    subst hq
    refine eX_ret (vs := [.int .i64 ((-1))]) [.tmp 2] (by rfl) ⟨by (show lkE _ _ _ = _); kernel_rfl, trivial⟩ ?_
    exact ⟨rfl, hB⟩
  · have hm := condF hb1 hm
    refine cW_skip ?_
    refine eX_then ?_
    refine cW_seq ?_
    refine cW_seq ?_
    refine cW_region ?_
    refine wS_pure 2 [(6, .bool (decide (p0 > 0))), (5, .int .i64 (p0))] (by kernel_rfl) ?_
    refine wS_end (by rfl) ?_
    refine eX_then ?_
    refine cW_cond (t := decide (p0 > 0)) (by kernel_rfl) (fun hb2 => ?_) (fun hb2 => ?_)
    · have hm := condT hb2 hm
      refine cW_seq ?_
      refine cW_region ?_
      refine wS_pure 1 [(2, .int .i64 (1))] (by kernel_rfl) ?_
      refine wS_end (by rfl) ?_
      refine eX_then ?_
      refine cW_ret ?_
      refine eX_then_ret ?_
      have hq : (some 1 : Option ((Int))) = some _ := hm
      replace hq := someE hq
      subst hq
      refine eX_ret (vs := [.int .i64 (1)]) [.tmp 2] (by rfl) ⟨by (show lkE _ _ _ = _); kernel_rfl, trivial⟩ ?_
      exact ⟨rfl, hB⟩
    · have hm := condF hb2 hm
      refine cW_skip ?_
      refine eX_then ?_
      refine cW_seq ?_
      refine cW_region ?_
      refine wS_pure 1 [(2, .int .i64 (0))] (by kernel_rfl) ?_
      refine wS_end (by rfl) ?_
      refine eX_then ?_
      refine cW_ret ?_
      have hq : (some 0 : Option ((Int))) = some _ := hm
      replace hq := someE hq
      subst hq
      refine eX_ret (vs := [.int .i64 (0)]) [.tmp 2] (by rfl) ⟨by (show lkE _ _ _ = _); kernel_rfl, trivial⟩ ?_
      exact ⟨rfl, hB⟩

end Go.Proofs.Ytdkpfkmmblmlhaa
