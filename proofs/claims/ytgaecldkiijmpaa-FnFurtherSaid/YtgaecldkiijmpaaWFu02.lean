/- Printed walks: spec.l05DrawOk, spec.B10Pins, impl.hanan, impl.HananPoints, slices.Index[[]impl.Point,impl.Point], slices.Contains[[]impl.Point,impl.Point], impl.gain, impl.oneByOne, impl.OneByOne, laws.b10In, spec.SpanningTree, laws.b10At, laws.b10Pin, impl.middle, impl.MedianPoint, slices.Clone[[]int64,int64], impl.steiner, impl.SteinerLength, impl.ArePins. -/
import Derived.Test.YtgaecldkiijmpaaProg
import Derived.Test.YtgaecldkiijmpaaWFu01
set_option linter.unusedSimpArgs false
set_option linter.unusedVariables false
namespace Go.Proofs.Ytgaecldkiijmpaa
open Go.RowKit
attribute [local irreducible] wS cW eX wH

theorem ent66 : Ent Try.prog 66 := fun _ => by kernel_rfl
theorem ent67 : Ent Try.prog 67 := fun _ => by kernel_rfl
theorem ent92 : Ent Try.prog 92 := fun _ => by kernel_rfl
theorem ent93 : Ent Try.prog 93 := fun _ => by kernel_rfl
theorem ent95 : Ent Try.prog 95 := fun _ => by kernel_rfl
theorem ent96 : Ent Try.prog 96 := fun _ => by kernel_rfl
theorem ent104 : Ent Try.prog 104 := fun _ => by kernel_rfl
theorem ent105 : Ent Try.prog 105 := fun _ => by kernel_rfl
theorem ent106 : Ent Try.prog 106 := fun _ => by kernel_rfl
theorem ent107 : Ent Try.prog 107 := fun _ => by kernel_rfl
theorem ent108 : Ent Try.prog 108 := fun _ => by kernel_rfl
theorem ent109 : Ent Try.prog 109 := fun _ => by kernel_rfl
theorem ent110 : Ent Try.prog 110 := fun _ => by kernel_rfl
theorem ent166 : Ent Try.prog 166 := fun _ => by kernel_rfl
theorem ent168 : Ent Try.prog 168 := fun _ => by kernel_rfl
theorem ent169 : Ent Try.prog 169 := fun _ => by kernel_rfl
theorem ent198 : Ent Try.prog 198 := fun _ => by kernel_rfl
theorem ent199 : Ent Try.prog 199 := fun _ => by kernel_rfl
theorem sz2 : pureRun Try.prog (sizeOf 2) = some 1 := by kernel_rfl
theorem sz25 : pureRun Try.prog (sizeOf 25) = some 1 := by kernel_rfl

set_option maxRecDepth 100000 in
/-- spec.l05DrawOk -/
theorem c_spec_l05DrawOk_bspecl00Src {w0 : World} {l0_0 : List (Int)} {A0_0 : Option Addr} {cap0_0 : Nat} {fp0_0 : List Nat} {q0_1 : Int} {q0_2 : Int} {b0 : Nat} {p1 : Int} {r : (List (Int × Int)) × (Int) × (Int)} (hm : m_spec_l05DrawOk_bspecl00Src l0_0 q0_1 q0_2 p1 = some r) (F0_0 : Sl 1 encU w0 fp0_0 A0_0 l0_0) (F0 : Cl w0 b0 147 [.slice A0_0 (l0_0).length cap0_0, .int .i64 (q0_1), .int .u64 (q0_2)]) (J0__0_0 : Dj [b0] fp0_0) :
    Calls Try.prog 104 #[.pointer (some ⟨b0, 0, none⟩), .int .i64 (p1)] w0 fun e w' => ∃ A100 cap100 fp100, e = .returned (.slice A100 (r.1).length cap100) ∧ Ow 2 encII 37 w' fp100 A100 cap100 r.1 ∧ (∀ x ∈ fp100, w0.heap.size ≤ x) ∧ Cl w' b0 147 [.slice A0_0 (l0_0).length cap0_0, .int .i64 (r.2.1), .int .u64 (r.2.2)] ∧ Chg ([b0] ++ []) w0 w' := by
  have L0_0 := F0_0.low
  have L0 := lt1 F0.lt
  have hB : Chg ([b0] ++ []) w0 w0 := Chg.refl _ _
  have hZ := Nat.le_refl w0.heap.size
  unfold m_spec_l05DrawOk_bspecl00Src at hm
  refine enterE (N := 32) Try.func104 (by rfl) Try.ntmps104 (by simp) [(0, .pointer (some ⟨b0, 0, none⟩)), (1, .int .i64 (p1))] (by rfl) (by kernel_rfl) (fun a => ?_)
  refine cW_seq ?_
  refine cW_region ?_
  refine wS_pure 1 [(4, .slice none 0 0)] (by kernel_rfl) ?_
  refine wS_end (by rfl) ?_
  refine eX_then ?_
  refine cW_seq ?_
  refine cW_region ?_
  refine wS_bs0 (α := Int × Int) (enc := encII) (d := 8) (t := 32) (T := 37) (by kernel_rfl) el32 ?_
  intro b3 w4 G5 F6 hc7
  replace F0_0 := F0_0.chg hc7 Dj.nil
  replace F0 := F0.chg hc7 notNil
  replace hB := hB.inS hc7 inNil
  replace G5 := Nat.le_trans hZ G5
  replace G5 := low1 G5
  replace hZ := Nat.le_trans hZ hc7.size
  refine wS_pure 1 [(5, .slice (some ⟨b3, 0, none⟩) (([] : List (Int × Int))).length 0)] (by kernel_rfl) ?_
  refine wS_end (by rfl) ?_
  refine eX_then ?_
  refine cW_seq ?_
  refine cW_seq ?_
  refine cW_region ?_
  refine wS_pure 2 [(10, .int .i64 (p1)), (9, .pointer (some ⟨b0, 0, none⟩))] (by kernel_rfl) ?_
  obtain ⟨y9, hy10, hm⟩ := bindE hm
  refine wS_calls (d := 11) (f := 67) (vs := [.pointer (some ⟨b0, 0, none⟩), .int .i64 (p1)]) (by kernel_rfl) ent67 (c_spec_l00Src_pick_bspecl00Src hy10 F0_0 F0 J0__0_0) ?_
  rintro _ w11 ⟨rfl, F13, hc12⟩
  replace F0_0 := F0_0.chg hc12 (Dj.app (J0__0_0).symm Dj.nil)
  replace F6 := F6.chg hc12 (Dj.app (Dj.of L0 G5).symm Dj.nil)
  replace hB := hB.inS hc12 (inApp (inMem (fun x hx => (List.mem_append_left _ hx))) inNil)
  replace hZ := Nat.le_trans hZ hc12.size
  clear F0
  refine ⟨.int .i64 (y9.1), rfl, ?_⟩
  refine wS_pure 2 [(6, .int .i64 (wr (1 + y9.1))), (12, .int .i64 (wr (1 + y9.1)))] (by kernel_rfl) ?_
  refine wS_end (by rfl) ?_
  refine eX_then ?_
  obtain ⟨r282, hr283, hm⟩ := bindE hm
  have hm284 := hm
  refine cW_cut (fun a' w' => ∃ l256 : List (Int × Int), ∃ A257 : Option Addr, ∃ cap258 : Nat, ∃ fp259 : List Nat, ∃ x261 : Int, ∃ x262 : Int, (l256, x261, x262) = r282 ∧ Fr 32 [(5, .slice A257 (l256).length cap258)] a' ∧ Sl 1 encU w' fp0_0 A0_0 l0_0 ∧ Cl w' b0 147 [.slice A0_0 (l0_0).length cap0_0, .int .i64 (x261), .int .u64 (x262)] ∧ Ow 2 encII 37 w' fp259 A257 cap258 l256 ∧ (∀ x ∈ fp259, w0.heap.size ≤ x) ∧ Chg ([b0] ++ []) w0 w' ∧ w0.heap.size ≤ w'.heap.size) ?_ ?_
  · refine cW_block ?_
    refine cW_loop _ (fun (s285 : (List (Int × Int)) × Int × Int × Int) a' w' => ∃ l269 : List (Int × Int), ∃ A270 : Option Addr, ∃ cap271 : Nat, ∃ fp272 : List Nat, ∃ x274 : Int, ∃ x275 : Int, ∃ x276 : Int, (l269, x274, x275, x276) = s285 ∧ Fr 32 [(0, .pointer (some ⟨b0, 0, none⟩)), (5, .slice A270 (l269).length cap271), (6, .int .i64 (x274))] a' ∧ Sl 1 encU w' fp0_0 A0_0 l0_0 ∧ Cl w' b0 147 [.slice A0_0 (l0_0).length cap0_0, .int .i64 (x275), .int .u64 (x276)] ∧ Ow 2 encII 37 w' fp272 A270 cap271 l269 ∧ (∀ x ∈ fp272, w0.heap.size ≤ x) ∧ Chg ([b0] ++ []) w0 w' ∧ w0.heap.size ≤ w'.heap.size) hr283 (fun hst => ⟨([] : List (Int × Int)), (some ⟨b3, 0, none⟩), 0, [b3], wr (1 + y9.1), y9.2.1, y9.2.2, rfl, Fr.of hst (by kernel_rfl), F0_0, F13, F6, G5, hB, hZ⟩) ?_
    rintro _ c286 a' w268 ⟨l269, A270, cap271, fp272, x274, x275, x276, rfl, hF277, F278, F279, F280, G281, hB, hZ⟩ hx287
    refine Fr.goOn hF277 (by kernel_rfl) ?_
    have hm := hx287
    unfold m_spec_l05DrawOk_bspecl00Src_s1 at hm
    refine cW_seq ?_
    refine cW_seq ?_
    refine cW_region ?_
    refine wS_pure 2 [(14, .bool (decide (x274 > 0))), (13, .int .i64 (x274))] (by kernel_rfl) ?_
    refine wS_end (by rfl) ?_
    refine eX_then ?_
    refine cW_cond (t := decide (x274 > 0)) (by kernel_rfl) (fun hb288 => ?_) (fun hb288 => ?_)
    · have hm := condT hb288 hm
      refine cW_skip ?_
      refine eX_then ?_
      refine cW_seq ?_
      refine cW_block ?_
      obtain ⟨s350, hs351, hm⟩ := bindE hm
      refine cW_cut (fun a' w' => ∃ l338 : List (Int × Int), ∃ A339 : Option Addr, ∃ cap340 : Nat, ∃ fp341 : List Nat, ∃ x343 : Int, ∃ x344 : Int, (l338, x343, x344) = s350 ∧ Fr 32 [(0, .pointer (some ⟨b0, 0, none⟩)), (5, .slice A339 (l338).length cap340), (6, .int .i64 (x274))] a' ∧ Sl 1 encU w' fp0_0 A0_0 l0_0 ∧ Cl w' b0 147 [.slice A0_0 (l0_0).length cap0_0, .int .i64 (x343), .int .u64 (x344)] ∧ Ow 2 encII 37 w' fp341 A339 cap340 l338 ∧ (∀ x ∈ fp341, w0.heap.size ≤ x) ∧ Chg ([b0] ++ []) w0 w' ∧ w0.heap.size ≤ w'.heap.size) ?_ ?_
      · have hm := hs351
        refine cW_seq ?_
        refine cW_region ?_
        refine wS_pure 1 [(17, .pointer (some ⟨b0, 0, none⟩))] (by kernel_rfl) ?_
        obtain ⟨y352, hy353, hm⟩ := bindE hm
        refine wS_calls (d := 18) (f := 67) (vs := [.pointer (some ⟨b0, 0, none⟩), .int .i64 (9)]) (by kernel_rfl) ent67 (c_spec_l00Src_pick_bspecl00Src hy353 F278 F279 J0__0_0) ?_
        rintro _ w354 ⟨rfl, F356, hc355⟩
        replace F278 := F278.chg hc355 (Dj.app (J0__0_0).symm Dj.nil)
        replace F280 := F280.chg hc355 (Dj.app (Dj.of L0 G281).symm Dj.nil)
        replace hB := hB.inS hc355 (inApp (inMem (fun x hx => (List.mem_append_left _ hx))) inNil)
        replace hZ := Nat.le_trans hZ hc355.size
        clear F279
        refine ⟨.int .i64 (y352.1), rfl, ?_⟩
        refine wS_pure 1 [(19, .agg #[.int .i64 (y352.1), .int .i64 (0)])] (by kernel_rfl) ?_
        refine wS_alloc (d := 7) (T := 37) (z := .agg #[.int .i64 (0), .int .i64 (0)]) (by kernel_rfl) (by kernel_rfl) ?_
        intro b357 w358 G359 F360 hc361
        replace F360 : Cl w358 b357 37 [.int .i64 (0), .int .i64 (0)] := F360
        have D363 : Dj fp272 [b357] := Dj.of F280.low (low1 G359)
        replace F278 := F278.chg hc361 Dj.nil
        replace F356 := F356.chg hc361 notNil
        replace F280 := F280.chg hc361 Dj.nil
        replace hB := hB.inS hc361 inNil
        replace G359 := Nat.le_trans hZ G359
        replace hZ := Nat.le_trans hZ hc361.size
        refine wS_store (T := 37) (g := b357) (o := 0) (ad := ⟨b357, 0, none⟩) (v := .agg #[.int .i64 (y352.1), .int .i64 (0)]) (vs := [.int .i64 (y352.1), .int .i64 (0)]) (by kernel_rfl) (by rfl) sz37 (by rfl) (by rfl) F360 (by simp only [List.length_cons, List.length_nil]; omega) ?_
        intro w364 F365 hc366
        replace F278 := F278.chg hc366 (Dj.of L0_0 (low1 G359))
        replace F356 := F356.chg hc366 (dj1 (Dj.of L0 (low1 G359)))
        replace F280 := F280.chg hc366 D363
        replace hB := hB.inS hc366 (inLow (low1 G359))
        replace hZ := Nat.le_trans hZ hc366.size
        replace F365 : Cl w364 b357 37 [.int .i64 (y352.1), .int .i64 (0)] := F365
        clear F360
        refine wS_end (by rfl) ?_
        refine eX_then ?_
        refine cW_seq ?_
        refine cW_region ?_
        refine wS_pure 1 [(20, .pointer (some ⟨b0, 0, none⟩))] (by kernel_rfl) ?_
        obtain ⟨y367, hy368, hm⟩ := bindE hm
        refine wS_calls (d := 21) (f := 67) (vs := [.pointer (some ⟨b0, 0, none⟩), .int .i64 (9)]) (by kernel_rfl) ent67 (c_spec_l00Src_pick_bspecl00Src hy368 F278 F356 J0__0_0) ?_
        rintro _ w369 ⟨rfl, F371, hc370⟩
        replace F278 := F278.chg hc370 (Dj.app (J0__0_0).symm Dj.nil)
        replace F280 := F280.chg hc370 (Dj.app (Dj.of L0 G281).symm Dj.nil)
        replace F365 := F365.chg hc370 (dj1 (Dj.app (Dj.of L0 (low1 G359)).symm Dj.nil))
        replace hB := hB.inS hc370 (inApp (inMem (fun x hx => (List.mem_append_left _ hx))) inNil)
        replace hZ := Nat.le_trans hZ hc370.size
        clear F356
        refine ⟨.int .i64 (y367.1), rfl, ?_⟩
        refine wS_pure 1 [(22, .pointer (some ⟨b357, 1, none⟩))] (by kernel_rfl) ?_
        refine wS_store (T := 2) (g := b357) (o := 1) (ad := ⟨b357, 1, none⟩) (v := .int .i64 (y367.1)) (vs := [.int .i64 (y367.1)]) (by kernel_rfl) (by rfl) sz2 (by rfl) (by rfl) F365 (by simp only [List.length_cons, List.length_nil]; omega) ?_
        intro w372 F373 hc374
        replace F278 := F278.chg hc374 (Dj.of L0_0 (low1 G359))
        replace F371 := F371.chg hc374 (dj1 (Dj.of L0 (low1 G359)))
        replace F280 := F280.chg hc374 D363
        replace hB := hB.inS hc374 (inLow (low1 G359))
        replace hZ := Nat.le_trans hZ hc374.size
        replace F373 : Cl w372 b357 37 [.int .i64 (y352.1), .int .i64 (y367.1)] := F373
        clear F365
        refine wS_end (by rfl) ?_
        refine eX_then ?_
        refine cW_seq ?_
        refine cW_region ?_
        refine wS_pure 1 [(23, .slice A270 (l269).length cap271)] (by kernel_rfl) ?_
        refine wS_loadA (d := 24) (T := 37) (ad := ⟨b357, 0, none⟩) (vs := [.int .i64 (y352.1), .int .i64 (y367.1)]) (by kernel_rfl) vt37 (fun i u hu => box_cells F373 0 hu (by rfl)) ?_
        obtain ⟨y375, hy376, hm⟩ := bindE hm
        refine wS_calls (d := 25) (f := 165) (vs := [.slice A270 (l269).length cap271, .agg #[.int .i64 (y352.1), .int .i64 (y367.1)]]) (by kernel_rfl) ent165 (c_spec_l01Index hy376 (F280.sl encII_ok)) ?_
        rintro _ w377 ⟨rfl, hc378⟩
        replace F278 := F278.chg hc378 Dj.nil
        replace F371 := F371.chg hc378 notNil
        replace F280 := F280.chg hc378 Dj.nil
        replace F373 := F373.chg hc378 notNil
        replace hB := hB.inS hc378 inNil
        replace hZ := Nat.le_trans hZ hc378.size
        refine ⟨.int .i64 (y375), rfl, ?_⟩
        refine wS_pure 1 [(26, .bool (decide (y375 < 0)))] (by kernel_rfl) ?_
        refine wS_end (by rfl) ?_
        refine eX_then ?_
        refine cW_cond (t := decide (y375 < 0)) (by kernel_rfl) (fun hb379 => ?_) (fun hb379 => ?_)
        · have hm := condT hb379 hm
          refine cW_region ?_
          refine wS_pure 1 [(27, .slice A270 (l269).length cap271)] (by kernel_rfl) ?_
          refine wS_loadA (d := 28) (T := 37) (ad := ⟨b357, 0, none⟩) (vs := [.int .i64 (y352.1), .int .i64 (y367.1)]) (by kernel_rfl) vt37 (fun i u hu => box_cells F373 0 hu (by rfl)) ?_
          refine wS_bs (enc := encII) ([(y352.1, y367.1)] : List (Int × Int)) [.int .i64 (y352.1), .int .i64 (y367.1)] (d := 29) (t := 32) (T := 37) (n := 1) (ps := [(0, .agg #[.int .i64 (y352.1), .int .i64 (y367.1)])]) (by kernel_rfl) el32 encII_ok (by rfl) (by omega) (by omega) (by kernel_rfl) (by rfl) ?_
          intro b380 w381 G382 F383 hc384
          have D386 : Dj fp272 [b380] := Dj.of F280.low (low1 G382)
          have D387 : Dj [b357] [b380] := Dj.of (lt1 F373.lt) (low1 G382)
          replace F278 := F278.chg hc384 Dj.nil
          replace F371 := F371.chg hc384 notNil
          replace F280 := F280.chg hc384 Dj.nil
          replace F373 := F373.chg hc384 notNil
          replace hB := hB.inS hc384 inNil
          replace G382 := Nat.le_trans hZ G382
          replace G382 := low1 G382
          replace hZ := Nat.le_trans hZ hc384.size
          obtain ⟨_, hk388, hm⟩ := bindE hm
          replace hk388 := apE hk388
          refine wS_append (enc := encII) (l := (l269 : List (Int × Int))) (l2 := (([(y352.1, y367.1)] : List (Int × Int)) : List (Int × Int))) (d := 30) (t := 32) (T := 37) (A := A270) (A2 := (some ⟨b380, 0, none⟩)) (cap := cap271) (cap2 := 1) (by kernel_rfl) el32 encII_ok F280 (F383.sl encII_ok) (by rfl) hk388 ?_
          intro w389 fp390 A391 cap392 F393 hc394 hp395
          have G397 := low_ap G281 hZ hp395
          have D398 : Dj [b357] fp390 := Dj.ap (D363).symm (lt1 F373.lt) hp395
          have D399 : Dj [b380] fp390 := Dj.ap (D386).symm F383.low hp395
          replace F278 := F278.chg hc394 (Dj.of L0_0 G281)
          replace F371 := F371.chg hc394 (dj1 (Dj.of L0 G281))
          replace F373 := F373.chg hc394 (dj1 (D363).symm)
          replace F383 := F383.chg hc394 (D386).symm
          replace hB := hB.inS hc394 (inLow G281)
          replace hZ := Nat.le_trans hZ hc394.size
          refine wS_pure 1 [(5, .slice A391 (l269 ++ (([(y352.1, y367.1)] : List (Int × Int)))).length cap392)] (by kernel_rfl) ?_
          refine wS_end (by rfl) ?_
          have hq : (some ((l269 ++ (([(y352.1, y367.1)] : List (Int × Int))), y367.2.1, y367.2.2)) : Option ((List (Int × Int)) × Int × Int)) = some _ := hm
          replace hq := someE hq
          subst hq
          exact eX_J (fun hst => ⟨l269 ++ (([(y352.1, y367.1)] : List (Int × Int))), A391, cap392, fp390, y367.2.1, y367.2.2, rfl, Fr.of hst (by kernel_rfl), F278, F371, F393, G397, hB, hZ⟩)
        · have hm := condF hb379 hm
          refine cW_skip ?_
          have hq : (some ((l269, y367.2.1, y367.2.2)) : Option ((List (Int × Int)) × Int × Int)) = some _ := hm
          replace hq := someE hq
          subst hq
          exact eX_J (fun hst => ⟨l269, A270, cap271, fp272, y367.2.1, y367.2.2, rfl, Fr.of hst (by kernel_rfl), F278, F371, F280, G281, hB, hZ⟩)
      · rintro a' w337 ⟨l338, A339, cap340, fp341, x343, x344, hJ, hF345, F346, F347, F348, G349, hB, hZ⟩
        subst hJ
        refine Fr.goX hF345 (by kernel_rfl) ?_
        refine eX_block ?_
        refine eX_then ?_
        refine cW_region ?_
        refine wS_pure 3 [(6, .int .i64 (wr (x274 - 1))), (16, .int .i64 (wr (x274 - 1))), (15, .int .i64 (x274))] (by kernel_rfl) ?_
        refine wS_end (by rfl) ?_
        have hq : (some (Ctl.next ((l338, wr (x274 - 1), x343, x344))) : Option (Ctl ((List (Int × Int)) × Int × Int × Int) ((List (Int × Int)) × Int × Int))) = some _ := hm
        replace hq := someE hq
        subst hq
        exact eX_next hx287 (fun hst => ⟨l338, A339, cap340, fp341, wr (x274 - 1), x343, x344, rfl, Fr.of hst (by kernel_rfl), F346, F347, F348, G349, hB, hZ⟩)
    · have hm := condF hb288 hm
      refine cW_exit ?_
      refine eX_then_exit ?_
      have hq : (some (Ctl.out ((l269, x275, x276))) : Option (Ctl ((List (Int × Int)) × Int × Int × Int) ((List (Int × Int)) × Int × Int))) = some _ := hm
      replace hq := someE hq
      subst hq
      refine eX_outX hx287 (fun hr400 => ?_)
      replace hr400 := hr400.symm
      subst hr400
      refine eX_block_hit ?_
      exact eX_J (fun hst => ⟨l269, A270, cap271, fp272, x275, x276, rfl, Fr.of hst (by kernel_rfl), F278, F279, F280, G281, hB, hZ⟩)
  · rintro a' w255 ⟨l256, A257, cap258, fp259, x261, x262, hJ, hF263, F264, F265, F266, G267, hB, hZ⟩
    subst hJ
    refine Fr.goX hF263 (by kernel_rfl) ?_
    refine eX_then ?_
    refine cW_seq ?_
    refine cW_region ?_
    refine wS_pure 2 [(4, .slice A257 (l256).length cap258), (31, .slice A257 (l256).length cap258)] (by kernel_rfl) ?_
    refine wS_end (by rfl) ?_
    refine eX_then ?_
    refine cW_ret ?_
    have hq : (some ((l256, x261, x262)) : Option ((List (Int × Int)) × (Int) × (Int))) = some _ := hm
    replace hq := someE hq
    subst hq
    refine eX_ret (vs := [.slice A257 (l256).length cap258]) [.tmp 4] (by rfl) ⟨by (show lkE _ _ _ = _); kernel_rfl, trivial⟩ ?_
    exact ⟨A257, cap258, fp259, rfl, F266, G267, F265, hB⟩

set_option maxRecDepth 100000 in
/-- spec.B10Pins -/
theorem c_spec_B10Pins {w0 : World} {l0 : List (Int)} {A0 : Option Addr} {cap0 : Nat} {fp0 : List Nat} {p1 : Int} {r : (List (Int × Int))} (hm : m_spec_B10Pins l0 p1 = some r) (F0 : Sl 1 encU w0 fp0 A0 l0) :
    Calls Try.prog 40 #[.slice A0 (l0).length cap0, .int .i64 (p1)] w0 fun e w' => ∃ A100 cap100 fp100, e = .returned (.slice A100 (r).length cap100) ∧ Ow 2 encII 37 w' fp100 A100 cap100 r ∧ (∀ x ∈ fp100, w0.heap.size ≤ x) ∧ Chg [] w0 w' := by
  have L0 := F0.low
  have hB : Chg [] w0 w0 := Chg.refl _ _
  have hZ := Nat.le_refl w0.heap.size
  unfold m_spec_B10Pins at hm
  refine enterE (N := 11) Try.func40 (by rfl) Try.ntmps40 (by simp) [(0, .slice A0 (l0).length cap0), (1, .int .i64 (p1))] (by rfl) (by kernel_rfl) (fun a => ?_)
  refine cW_seq ?_
  refine cW_region ?_
  refine wS_pure 1 [(4, .slice none 0 0)] (by kernel_rfl) ?_
  refine wS_end (by rfl) ?_
  refine eX_then ?_
  refine cW_seq ?_
  refine cW_region ?_
  refine wS_pure 1 [(6, .slice A0 (l0).length cap0)] (by kernel_rfl) ?_
  obtain ⟨y2, hy3, hm⟩ := bindE hm
  refine wS_calls (d := 7) (f := 66) (vs := [.slice A0 (l0).length cap0]) (by kernel_rfl) ent66 (c_spec_l00From hy3 F0) ?_
  rintro _ w4 ⟨b6, rfl, F7, G8, hc5⟩
  replace F0 := F0.chg hc5 Dj.nil
  replace hB := hB.inS hc5 inNil
  replace G8 := Nat.le_trans hZ G8
  replace hZ := Nat.le_trans hZ hc5.size
  refine ⟨.pointer (some ⟨b6, 0, none⟩), rfl, ?_⟩
  refine wS_pure 1 [(5, .pointer (some ⟨b6, 0, none⟩))] (by kernel_rfl) ?_
  refine wS_end (by rfl) ?_
  refine eX_then ?_
  refine cW_seq ?_
  refine cW_region ?_
  refine wS_pure 2 [(9, .int .i64 (p1)), (8, .pointer (some ⟨b6, 0, none⟩))] (by kernel_rfl) ?_
  obtain ⟨y10, hy11, hm⟩ := bindE hm
  refine wS_calls (d := 10) (f := 104) (vs := [.pointer (some ⟨b6, 0, none⟩), .int .i64 (p1)]) (by kernel_rfl) ent104 (c_spec_l05DrawOk_bspecl00Src hy11 F0 F7 (Dj.of L0 (low1 G8)).symm) ?_
  rintro _ w12 ⟨A14, cap15, fp16, rfl, F17, G18, F20, hc13⟩
  have D22 : Dj [b6] fp16 := Dj.of (lt1 F7.lt) G18
  replace F0 := F0.chg hc13 (Dj.app (Dj.of L0 (low1 G8)) Dj.nil)
  replace hB := hB.inS hc13 (inApp (inLow (low1 G8)) inNil)
  replace G18 := low_le hZ G18
  replace hZ := Nat.le_trans hZ hc13.size
  clear F7
  refine ⟨.slice A14 (y10.1).length cap15, rfl, ?_⟩
  refine wS_pure 1 [(4, .slice A14 (y10.1).length cap15)] (by kernel_rfl) ?_
  refine wS_end (by rfl) ?_
  refine eX_then ?_
  refine cW_ret ?_
  have hq : (some y10.1 : Option ((List (Int × Int)))) = some _ := hm
  replace hq := someE hq
  subst hq
  refine eX_ret (vs := [.slice A14 (y10.1).length cap15]) [.tmp 4] (by rfl) ⟨by (show lkE _ _ _ = _); kernel_rfl, trivial⟩ ?_
  exact ⟨A14, cap15, fp16, rfl, F17, G18, hB⟩

set_option maxRecDepth 100000 in
/-- impl.hanan -/
theorem c_impl_hanan {w0 : World} {l0 : List (Int × Int)} {A0 : Option Addr} {cap0 : Nat} {fp0 : List Nat} {r : (List (Int × Int))} (hm : m_impl_hanan l0 = some r) (F0 : Sl 2 encII w0 fp0 A0 l0) :
    Calls Try.prog 105 #[.slice A0 (l0).length cap0] w0 fun e w' => ∃ A100 cap100 fp100, e = .returned (.slice A100 (r).length cap100) ∧ Ow 2 encII 37 w' fp100 A100 cap100 r ∧ (∀ x ∈ fp100, w0.heap.size ≤ x) ∧ Chg [] w0 w' := by
  have L0 := F0.low
  have hB : Chg [] w0 w0 := Chg.refl _ _
  have hZ := Nat.le_refl w0.heap.size
  unfold m_impl_hanan at hm
  refine enterE (N := 33) Try.func105 (by rfl) Try.ntmps105 (by simp) [(0, .slice A0 (l0).length cap0)] (by rfl) (by kernel_rfl) (fun a => ?_)
  refine cW_seq ?_
  refine cW_region ?_
  refine wS_pure 1 [(2, .slice none 0 0)] (by kernel_rfl) ?_
  refine wS_end (by rfl) ?_
  refine eX_then ?_
  refine cW_seq ?_
  refine cW_region ?_
  refine wS_bs0 (α := Int × Int) (enc := encII) (d := 8) (t := 32) (T := 37) (by kernel_rfl) el32 ?_
  intro b2 w3 G4 F5 hc6
  replace F0 := F0.chg hc6 Dj.nil
  replace hB := hB.inS hc6 inNil
  replace G4 := Nat.le_trans hZ G4
  replace G4 := low1 G4
  replace hZ := Nat.le_trans hZ hc6.size
  refine wS_pure 1 [(3, .slice (some ⟨b2, 0, none⟩) (([] : List (Int × Int))).length 0)] (by kernel_rfl) ?_
  refine wS_end (by rfl) ?_
  refine eX_then ?_
  refine cW_seq ?_
  refine cW_seq ?_
  refine cW_region ?_
  refine wS_pure 3 [(11, .int .i64 (0)), (10, .int .i64 (((l0).length : Int))), (9, .slice A0 (l0).length cap0)] (by kernel_rfl) ?_
  refine wS_end (by rfl) ?_
  refine eX_then ?_
  obtain ⟨r375, hr376, hm⟩ := bindE hm
  have hm377 := hm
  refine cW_cut (fun a' w' => ∃ l356 : List (Int × Int), ∃ A357 : Option Addr, ∃ cap358 : Nat, ∃ fp359 : List Nat, l356 = r375 ∧ Fr 33 [(3, .slice A357 (l356).length cap358)] a' ∧ Ow 2 encII 37 w' fp359 A357 cap358 l356 ∧ (∀ x ∈ fp359, w0.heap.size ≤ x) ∧ Chg [] w0 w' ∧ w0.heap.size ≤ w'.heap.size) ?_ ?_
  · refine cW_block ?_
    refine cW_loop _ (fun (s378 : (List (Int × Int)) × Int) a' w' => ∃ l365 : List (Int × Int), ∃ A366 : Option Addr, ∃ cap367 : Nat, ∃ fp368 : List Nat, ∃ x370 : Int, (l365, x370) = s378 ∧ Fr 33 [(0, .slice A0 (l0).length cap0), (3, .slice A366 (l365).length cap367), (9, .slice A0 (l0).length cap0), (10, .int .i64 (((l0).length : Int))), (11, .int .i64 (x370))] a' ∧ Sl 2 encII w' fp0 A0 l0 ∧ Ow 2 encII 37 w' fp368 A366 cap367 l365 ∧ (∀ x ∈ fp368, w0.heap.size ≤ x) ∧ Chg [] w0 w' ∧ w0.heap.size ≤ w'.heap.size) hr376 (fun hst => ⟨([] : List (Int × Int)), (some ⟨b2, 0, none⟩), 0, [b2], 0, rfl, Fr.of hst (by kernel_rfl), F0, F5, G4, hB, hZ⟩) ?_
    rintro _ c379 a' w364 ⟨l365, A366, cap367, fp368, x370, rfl, hF371, F372, F373, G374, hB, hZ⟩ hx380
    refine Fr.goOn hF371 (by kernel_rfl) ?_
    have hm := hx380
    unfold m_impl_hanan_s3 at hm
    refine cW_seq ?_
    refine cW_region ?_
    refine wS_pure 1 [(12, .bool (decide (x370 < (((l0).length : Int)))))] (by kernel_rfl) ?_
    refine wS_end (by rfl) ?_
    refine eX_then ?_
    refine cW_seq ?_
    refine cW_cond (t := decide (x370 < (((l0).length : Int)))) (by kernel_rfl) (fun hb381 => ?_) (fun hb381 => ?_)
    · have hm := condT hb381 hm
      refine cW_skip ?_
      refine eX_then ?_
      refine cW_seq ?_
      refine cW_block ?_
      refine cW_seq ?_
      refine cW_region ?_
      obtain ⟨x382, hx383, hm⟩ := bindE hm
      refine wS_idx (d := 13) (T := 32) (A := A0) (n := (l0).length) (cap := cap0) (kd := .i64) (m := x370) (by kernel_rfl) sl32 (F372.is hx383) ?_
      refine wS_loadA (d := 14) (T := 37) (ad := (elA A0 2 (x370) 0)) (vs := [.int .i64 (x382.1), .int .i64 (x382.2)]) (by kernel_rfl) vt37 (fun i u hu => Sl.cells_at F372 hx383 0 hu (by rfl)) ?_
      refine wS_alloc (d := 5) (T := 37) (z := .agg #[.int .i64 (0), .int .i64 (0)]) (by kernel_rfl) (by kernel_rfl) ?_
      intro b384 w385 G386 F387 hc388
      replace F387 : Cl w385 b384 37 [.int .i64 (0), .int .i64 (0)] := F387
      have D390 : Dj fp368 [b384] := Dj.of F373.low (low1 G386)
      replace F372 := F372.chg hc388 Dj.nil
      replace F373 := F373.chg hc388 Dj.nil
      replace hB := hB.inS hc388 inNil
      replace G386 := Nat.le_trans hZ G386
      replace hZ := Nat.le_trans hZ hc388.size
      refine wS_store (T := 37) (g := b384) (o := 0) (ad := ⟨b384, 0, none⟩) (v := .agg #[.int .i64 (x382.1), .int .i64 (x382.2)]) (vs := [.int .i64 (x382.1), .int .i64 (x382.2)]) (by kernel_rfl) (by rfl) sz37 (by rfl) (by rfl) F387 (by simp only [List.length_cons, List.length_nil]; omega) ?_
      intro w391 F392 hc393
      replace F372 := F372.chg hc393 (Dj.of L0 (low1 G386))
      replace F373 := F373.chg hc393 D390
      replace hB := hB.inS hc393 (inLow (low1 G386))
      replace hZ := Nat.le_trans hZ hc393.size
      replace F392 : Cl w391 b384 37 [.int .i64 (x382.1), .int .i64 (x382.2)] := F392
      clear F387
      refine wS_end (by rfl) ?_
      refine eX_then ?_
      refine cW_seq ?_
      refine cW_region ?_
      refine wS_pure 3 [(17, .int .i64 (0)), (16, .int .i64 (((l0).length : Int))), (15, .slice A0 (l0).length cap0)] (by kernel_rfl) ?_
      refine wS_end (by rfl) ?_
      refine eX_then ?_
      obtain ⟨r505, hr506, hm⟩ := bindE hm
      have hm507 := hm
      refine cW_cut (fun a' w' => ∃ l483 : List (Int × Int), ∃ A484 : Option Addr, ∃ cap485 : Nat, ∃ fp486 : List Nat, l483 = r505 ∧ Fr 33 [(0, .slice A0 (l0).length cap0), (3, .slice A484 (l483).length cap485), (9, .slice A0 (l0).length cap0), (10, .int .i64 (((l0).length : Int))), (11, .int .i64 (x370))] a' ∧ Sl 2 encII w' fp0 A0 l0 ∧ Ow 2 encII 37 w' fp486 A484 cap485 l483 ∧ (∀ x ∈ fp486, w0.heap.size ≤ x) ∧ Chg [] w0 w' ∧ w0.heap.size ≤ w'.heap.size) ?_ ?_
      · refine cW_block ?_
        refine cW_loop _ (fun (s508 : (List (Int × Int)) × Int) a' w' => ∃ l493 : List (Int × Int), ∃ A494 : Option Addr, ∃ cap495 : Nat, ∃ fp496 : List Nat, ∃ x498 : Int, (l493, x498) = s508 ∧ Fr 33 [(0, .slice A0 (l0).length cap0), (3, .slice A494 (l493).length cap495), (5, .pointer (some ⟨b384, 0, none⟩)), (9, .slice A0 (l0).length cap0), (10, .int .i64 (((l0).length : Int))), (11, .int .i64 (x370)), (15, .slice A0 (l0).length cap0), (16, .int .i64 (((l0).length : Int))), (17, .int .i64 (x498))] a' ∧ Sl 2 encII w' fp0 A0 l0 ∧ Cl w' b384 37 [.int .i64 (x382.1), .int .i64 (x382.2)] ∧ Ow 2 encII 37 w' fp496 A494 cap495 l493 ∧ (∀ x ∈ fp496, w0.heap.size ≤ x) ∧ Dj [b384] fp496 ∧ Chg [] w0 w' ∧ w0.heap.size ≤ w'.heap.size) hr506 (fun hst => ⟨l365, A366, cap367, fp368, 0, rfl, Fr.of hst (by kernel_rfl), F372, F392, F373, G374, (D390).symm, hB, hZ⟩) ?_
        rintro _ c509 a' w492 ⟨l493, A494, cap495, fp496, x498, rfl, hF499, F500, F501, F502, G503, D504, hB, hZ⟩ hx510
        refine Fr.goOn hF499 (by kernel_rfl) ?_
        have hm := hx510
        unfold m_impl_hanan_s4 at hm
        refine cW_seq ?_
        refine cW_region ?_
        refine wS_pure 1 [(18, .bool (decide (x498 < (((l0).length : Int)))))] (by kernel_rfl) ?_
        refine wS_end (by rfl) ?_
        refine eX_then ?_
        refine cW_seq ?_
        refine cW_cond (t := decide (x498 < (((l0).length : Int)))) (by kernel_rfl) (fun hb511 => ?_) (fun hb511 => ?_)
        · have hm := condT hb511 hm
          refine cW_skip ?_
          refine eX_then ?_
          refine cW_seq ?_
          refine cW_block ?_
          refine cW_seq ?_
          refine cW_region ?_
          obtain ⟨x512, hx513, hm⟩ := bindE hm
          refine wS_idx (d := 19) (T := 32) (A := A0) (n := (l0).length) (cap := cap0) (kd := .i64) (m := x498) (by kernel_rfl) sl32 (F500.is hx513) ?_
          refine wS_loadA (d := 20) (T := 37) (ad := (elA A0 2 (x498) 0)) (vs := [.int .i64 (x512.1), .int .i64 (x512.2)]) (by kernel_rfl) vt37 (fun i u hu => Sl.cells_at F500 hx513 0 hu (by rfl)) ?_
          refine wS_alloc (d := 7) (T := 37) (z := .agg #[.int .i64 (0), .int .i64 (0)]) (by kernel_rfl) (by kernel_rfl) ?_
          intro b514 w515 G516 F517 hc518
          replace F517 : Cl w515 b514 37 [.int .i64 (0), .int .i64 (0)] := F517
          have D520 : Dj [b384] [b514] := Dj.of (lt1 F501.lt) (low1 G516)
          have D521 : Dj fp496 [b514] := Dj.of F502.low (low1 G516)
          replace F500 := F500.chg hc518 Dj.nil
          replace F501 := F501.chg hc518 notNil
          replace F502 := F502.chg hc518 Dj.nil
          replace hB := hB.inS hc518 inNil
          replace G516 := Nat.le_trans hZ G516
          replace hZ := Nat.le_trans hZ hc518.size
          refine wS_store (T := 37) (g := b514) (o := 0) (ad := ⟨b514, 0, none⟩) (v := .agg #[.int .i64 (x512.1), .int .i64 (x512.2)]) (vs := [.int .i64 (x512.1), .int .i64 (x512.2)]) (by kernel_rfl) (by rfl) sz37 (by rfl) (by rfl) F517 (by simp only [List.length_cons, List.length_nil]; omega) ?_
          intro w522 F523 hc524
          replace F500 := F500.chg hc524 (Dj.of L0 (low1 G516))
          replace F501 := F501.chg hc524 (dj1 D520)
          replace F502 := F502.chg hc524 D521
          replace hB := hB.inS hc524 (inLow (low1 G516))
          replace hZ := Nat.le_trans hZ hc524.size
          replace F523 : Cl w522 b514 37 [.int .i64 (x512.1), .int .i64 (x512.2)] := F523
          clear F517
          refine wS_end (by rfl) ?_
          refine eX_then ?_
          refine cW_region ?_
          refine wS_pure 2 [(22, .pointer (some ⟨b384, 0, none⟩)), (21, .slice A494 (l493).length cap495)] (by kernel_rfl) ?_
          refine wS_load1 (d := 23) (T := 2) (ad := ⟨b384, 0, none⟩) (v := .int .i64 (x382.1)) (by kernel_rfl) vt2 ((F501).cell 0) ?_
          refine wS_pure 1 [(24, .pointer (some ⟨b514, 1, none⟩))] (by kernel_rfl) ?_
          refine wS_load1 (d := 25) (T := 2) (ad := ⟨b514, 1, none⟩) (v := .int .i64 (x512.2)) (by kernel_rfl) vt2 ((F523).cell 1) ?_
          refine wS_pure 1 [(26, .agg #[.int .i64 (x382.1), .int .i64 (x512.2)])] (by kernel_rfl) ?_
          refine wS_bs (enc := encII) ([(x382.1, x512.2)] : List (Int × Int)) [.int .i64 (x382.1), .int .i64 (x512.2)] (d := 27) (t := 32) (T := 37) (n := 1) (ps := [(0, .agg #[.int .i64 (x382.1), .int .i64 (x512.2)])]) (by kernel_rfl) el32 encII_ok (by rfl) (by omega) (by omega) (by kernel_rfl) (by rfl) ?_
          intro b525 w526 G527 F528 hc529
          have D531 : Dj [b384] [b525] := Dj.of (lt1 F501.lt) (low1 G527)
          have D532 : Dj fp496 [b525] := Dj.of F502.low (low1 G527)
          have D533 : Dj [b514] [b525] := Dj.of (lt1 F523.lt) (low1 G527)
          replace F500 := F500.chg hc529 Dj.nil
          replace F501 := F501.chg hc529 notNil
          replace F502 := F502.chg hc529 Dj.nil
          replace F523 := F523.chg hc529 notNil
          replace hB := hB.inS hc529 inNil
          replace G527 := Nat.le_trans hZ G527
          replace G527 := low1 G527
          replace hZ := Nat.le_trans hZ hc529.size
          obtain ⟨_, hk534, hm⟩ := bindE hm
          replace hk534 := apE hk534
          refine wS_append (enc := encII) (l := (l493 : List (Int × Int))) (l2 := (([(x382.1, x512.2)] : List (Int × Int)) : List (Int × Int))) (d := 28) (t := 32) (T := 37) (A := A494) (A2 := (some ⟨b525, 0, none⟩)) (cap := cap495) (cap2 := 1) (by kernel_rfl) el32 encII_ok F502 (F528.sl encII_ok) (by rfl) hk534 ?_
          intro w535 fp536 A537 cap538 F539 hc540 hp541
          have G543 := low_ap G503 hZ hp541
          have D544 : Dj [b384] fp536 := Dj.ap D504 (lt1 F501.lt) hp541
          have D545 : Dj [b514] fp536 := Dj.ap (D521).symm (lt1 F523.lt) hp541
          have D546 : Dj [b525] fp536 := Dj.ap (D532).symm F528.low hp541
          replace F500 := F500.chg hc540 (Dj.of L0 G503)
          replace F501 := F501.chg hc540 (dj1 D504)
          replace F523 := F523.chg hc540 (dj1 (D521).symm)
          replace F528 := F528.chg hc540 (D532).symm
          replace hB := hB.inS hc540 (inLow G503)
          replace hZ := Nat.le_trans hZ hc540.size
          refine wS_pure 1 [(3, .slice A537 (l493 ++ (([(x382.1, x512.2)] : List (Int × Int)))).length cap538)] (by kernel_rfl) ?_
          refine wS_end (by rfl) ?_
          refine eX_block ?_
          refine eX_then ?_
          refine cW_region ?_
          refine wS_pure 2 [(17, .int .i64 (wr (x498 + 1))), (29, .int .i64 (wr (x498 + 1)))] (by kernel_rfl) ?_
          refine wS_end (by rfl) ?_
          have hq : (some (Ctl.next ((l493 ++ (([(x382.1, x512.2)] : List (Int × Int))), wr (x498 + 1)))) : Option (Ctl ((List (Int × Int)) × Int) ((List (Int × Int))))) = some _ := hm
          replace hq := someE hq
          subst hq
          exact eX_next hx510 (fun hst => ⟨l493 ++ (([(x382.1, x512.2)] : List (Int × Int))), A537, cap538, fp536, wr (x498 + 1), rfl, Fr.of hst (by kernel_rfl), F500, F501, F539, G543, D544, hB, hZ⟩)
        · have hm := condF hb511 hm
          refine cW_exit ?_
          refine eX_then_exit ?_
          have hq : (some (Ctl.out l493) : Option (Ctl ((List (Int × Int)) × Int) ((List (Int × Int))))) = some _ := hm
          replace hq := someE hq
          subst hq
          refine eX_outX hx510 (fun hr547 => ?_)
          replace hr547 := hr547.symm
          subst hr547
          refine eX_block_hit ?_
          exact eX_J (fun hst => ⟨l493, A494, cap495, fp496, rfl, Fr.of hst (by kernel_rfl), F500, F502, G503, hB, hZ⟩)
      · rintro a' w482 ⟨l483, A484, cap485, fp486, hJ, hF488, F489, F490, G491, hB, hZ⟩
        subst hJ
        refine Fr.goX hF488 (by kernel_rfl) ?_
        refine eX_block ?_
        refine eX_then ?_
        refine cW_region ?_
        refine wS_pure 2 [(11, .int .i64 (wr (x370 + 1))), (30, .int .i64 (wr (x370 + 1)))] (by kernel_rfl) ?_
        refine wS_end (by rfl) ?_
        have hq : (some (Ctl.next ((l483, wr (x370 + 1)))) : Option (Ctl ((List (Int × Int)) × Int) ((List (Int × Int))))) = some _ := hm
        replace hq := someE hq
        subst hq
        exact eX_next hx380 (fun hst => ⟨l483, A484, cap485, fp486, wr (x370 + 1), rfl, Fr.of hst (by kernel_rfl), F489, F490, G491, hB, hZ⟩)
    · have hm := condF hb381 hm
      refine cW_exit ?_
      refine eX_then_exit ?_
      have hq : (some (Ctl.out l365) : Option (Ctl ((List (Int × Int)) × Int) ((List (Int × Int))))) = some _ := hm
      replace hq := someE hq
      subst hq
      refine eX_outX hx380 (fun hr548 => ?_)
      replace hr548 := hr548.symm
      subst hr548
      refine eX_block_hit ?_
      exact eX_J (fun hst => ⟨l365, A366, cap367, fp368, rfl, Fr.of hst (by kernel_rfl), F373, G374, hB, hZ⟩)
  · rintro a' w355 ⟨l356, A357, cap358, fp359, hJ, hF361, F362, G363, hB, hZ⟩
    subst hJ
    refine Fr.goX hF361 (by kernel_rfl) ?_
    refine eX_then ?_
    refine cW_seq ?_
    refine cW_region ?_
    refine wS_pure 1 [(31, .slice A357 (l356).length cap358)] (by kernel_rfl) ?_
    obtain ⟨y549, hy550, hm⟩ := bindE hm
    refine wS_calls (d := 32) (f := 79) (vs := [.slice A357 (l356).length cap358]) (by kernel_rfl) ent79 (c_impl_sorted hy550 (F362.sl encII_ok)) ?_
    rintro _ w551 ⟨A553, cap554, fp555, rfl, F556, G557, hc552⟩
    have D560 : Dj fp359 fp555 := Dj.of F362.low G557
    replace F362 := F362.chg hc552 Dj.nil
    replace hB := hB.inS hc552 inNil
    replace G557 := low_le hZ G557
    replace hZ := Nat.le_trans hZ hc552.size
    refine ⟨.slice A553 (y549).length cap554, rfl, ?_⟩
    refine wS_pure 1 [(2, .slice A553 (y549).length cap554)] (by kernel_rfl) ?_
    refine wS_end (by rfl) ?_
    refine eX_then ?_
    refine cW_ret ?_
    have hq : (some y549 : Option ((List (Int × Int)))) = some _ := hm
    replace hq := someE hq
    subst hq
    refine eX_ret (vs := [.slice A553 (y549).length cap554]) [.tmp 2] (by rfl) ⟨by (show lkE _ _ _ = _); kernel_rfl, trivial⟩ ?_
    exact ⟨A553, cap554, fp555, rfl, F556, G557, hB⟩

set_option maxRecDepth 100000 in
/-- impl.HananPoints -/
theorem c_impl_HananPoints {w0 : World} {l0 : List (Int × Int)} {A0 : Option Addr} {cap0 : Nat} {fp0 : List Nat} {r : (List (Int × Int)) × (Bool)} (hm : m_impl_HananPoints l0 = some r) (F0 : Sl 2 encII w0 fp0 A0 l0) :
    Calls Try.prog 41 #[.slice A0 (l0).length cap0] w0 fun e w' => ∃ A100 cap100 fp100, e = .returned (.tuple #[.slice A100 (r.1).length cap100, .bool (r.2)]) ∧ Ow 2 encII 37 w' fp100 A100 cap100 r.1 ∧ (∀ x ∈ fp100, w0.heap.size ≤ x) ∧ Chg [] w0 w' := by
  have L0 := F0.low
  have hB : Chg [] w0 w0 := Chg.refl _ _
  have hZ := Nat.le_refl w0.heap.size
  unfold m_impl_HananPoints at hm
  refine enterE (N := 9) Try.func41 (by rfl) Try.ntmps41 (by simp) [(0, .slice A0 (l0).length cap0)] (by rfl) (by kernel_rfl) (fun a => ?_)
  refine cW_seq ?_
  refine cW_region ?_
  refine wS_pure 2 [(3, .bool (false)), (2, .slice none 0 0)] (by kernel_rfl) ?_
  refine wS_end (by rfl) ?_
  refine eX_then ?_
  refine cW_seq ?_
  refine cW_seq ?_
  refine cW_region ?_
  refine wS_pure 1 [(4, .slice A0 (l0).length cap0)] (by kernel_rfl) ?_
  obtain ⟨y2, hy3, hm⟩ := bindE hm
  refine wS_calls (d := 5) (f := 95) (vs := [.slice A0 (l0).length cap0, .int .i64 (7)]) (by kernel_rfl) ent95 (c_impl_pinsOk hy3 F0) ?_
  rintro _ w4 ⟨rfl, hc5⟩
  replace F0 := F0.chg hc5 Dj.nil
  replace hB := hB.inS hc5 inNil
  replace hZ := Nat.le_trans hZ hc5.size
  refine ⟨.bool (y2), rfl, ?_⟩
  refine wS_pure 1 [(6, .bool (!y2))] (by kernel_rfl) ?_
  refine wS_end (by rfl) ?_
  refine eX_then ?_
  refine cW_cond (t := !y2) (by kernel_rfl) (fun hb6 => ?_) (fun hb6 => ?_)
  · have hm := condT hb6 hm
    refine cW_seq ?_
    refine cW_region ?_
    refine wS_pure 2 [(3, .bool (false)), (2, .slice none 0 0)] (by kernel_rfl) ?_
    refine wS_end (by rfl) ?_
    refine eX_then ?_
    refine cW_ret ?_
    refine eX_then_ret ?_
    have hq : (some (([], false)) : Option ((List (Int × Int)) × (Bool))) = some _ := hm
    replace hq := someE hq
    subst hq
    refine eX_ret (vs := [.slice none 0 0, .bool (false)]) [.tmp 2, .tmp 3] (by rfl) ⟨by (show lkE _ _ _ = _); kernel_rfl, ⟨by (show lkE _ _ _ = _); kernel_rfl, trivial⟩⟩ ?_
    exact ⟨none, 0, [], rfl, Ow.nil _, lowNil, hB⟩
  · have hm := condF hb6 hm
    refine cW_skip ?_
    refine eX_then ?_
    refine cW_seq ?_
    refine cW_region ?_
    refine wS_pure 1 [(7, .slice A0 (l0).length cap0)] (by kernel_rfl) ?_
    obtain ⟨y7, hy8, hm⟩ := bindE hm
    refine wS_calls (d := 8) (f := 105) (vs := [.slice A0 (l0).length cap0]) (by kernel_rfl) ent105 (c_impl_hanan hy8 F0) ?_
    rintro _ w9 ⟨A11, cap12, fp13, rfl, F14, G15, hc10⟩
    replace F0 := F0.chg hc10 Dj.nil
    replace hB := hB.inS hc10 inNil
    replace G15 := low_le hZ G15
    replace hZ := Nat.le_trans hZ hc10.size
    refine ⟨.slice A11 (y7).length cap12, rfl, ?_⟩
    refine wS_pure 2 [(3, .bool (true)), (2, .slice A11 (y7).length cap12)] (by kernel_rfl) ?_
    refine wS_end (by rfl) ?_
    refine eX_then ?_
    refine cW_ret ?_
    have hq : (some ((y7, true)) : Option ((List (Int × Int)) × (Bool))) = some _ := hm
    replace hq := someE hq
    subst hq
    refine eX_ret (vs := [.slice A11 (y7).length cap12, .bool (true)]) [.tmp 2, .tmp 3] (by rfl) ⟨by (show lkE _ _ _ = _); kernel_rfl, ⟨by (show lkE _ _ _ = _); kernel_rfl, trivial⟩⟩ ?_
    exact ⟨A11, cap12, fp13, rfl, F14, G15, hB⟩

set_option maxRecDepth 100000 in
/-- impl.Point] -/
theorem c_slices_Index_impl_Point_impl_Point {w0 : World} {l0 : List (Int × Int)} {A0 : Option Addr} {cap0 : Nat} {fp0 : List Nat} {p1_0 : Int} {p1_1 : Int} {r : (Int)} (hm : m_slices_Index_impl_Point_impl_Point l0 p1_0 p1_1 = some r) (F0 : Sl 2 encII w0 fp0 A0 l0) :
    Calls Try.prog 169 #[.slice A0 (l0).length cap0, .agg #[.int .i64 (p1_0), .int .i64 (p1_1)]] w0 fun e w' => e = .returned (.int .i64 (r)) ∧ Chg [] w0 w' := by
  have L0 := F0.low
  have hB : Chg [] w0 w0 := Chg.refl _ _
  have hZ := Nat.le_refl w0.heap.size
  unfold m_slices_Index_impl_Point_impl_Point at hm
  refine enterE (N := 19) Try.func169 (by rfl) Try.ntmps169 (by simp) [(0, .slice A0 (l0).length cap0), (1, .agg #[.int .i64 (p1_0), .int .i64 (p1_1)])] (by rfl) (by kernel_rfl) (fun a => ?_)
  refine cW_seq ?_
  refine cW_region ?_
  refine wS_box (d := 3) (T := 37) (x := .agg #[.int .i64 (p1_0), .int .i64 (p1_1)]) (by kernel_rfl) ?_
  intro b2 w3 G4 F5 hc6
  replace F5 : Cl w3 b2 37 [.int .i64 (p1_0), .int .i64 (p1_1)] := F5
  replace F0 := F0.chg hc6 Dj.nil
  replace hB := hB.inS hc6 inNil
  replace G4 := Nat.le_trans hZ G4
  replace hZ := Nat.le_trans hZ hc6.size
  refine wS_pure 1 [(4, .int .i64 (0))] (by kernel_rfl) ?_
  refine wS_end (by rfl) ?_
  refine eX_then ?_
  refine cW_seq ?_
  refine cW_seq ?_
  refine cW_region ?_
  refine wS_pure 3 [(8, .int .i64 (0)), (7, .int .i64 (((l0).length : Int))), (6, .slice A0 (l0).length cap0)] (by kernel_rfl) ?_
  refine wS_end (by rfl) ?_
  refine eX_then ?_
  obtain ⟨r50, hr51, hm⟩ := bindE hm
  have hm52 := hm
  refine cW_cut (fun a' w' => Sum.inl (()) = r50 ∧ Fr 19 [] a' ∧ Chg [] w0 w' ∧ w0.heap.size ≤ w'.heap.size) ?_ ?_
  · refine cW_block ?_
    refine cW_loop _ (fun (s53 : Int) a' w' => ∃ x46 : Int, x46 = s53 ∧ Fr 19 [(0, .slice A0 (l0).length cap0), (3, .pointer (some ⟨b2, 0, none⟩)), (7, .int .i64 (((l0).length : Int))), (8, .int .i64 (x46))] a' ∧ Sl 2 encII w' fp0 A0 l0 ∧ Cl w' b2 37 [.int .i64 (p1_0), .int .i64 (p1_1)] ∧ Chg [] w0 w' ∧ w0.heap.size ≤ w'.heap.size) hr51 (fun hst => ⟨0, rfl, Fr.of hst (by kernel_rfl), F0, F5, hB, hZ⟩) ?_
    rintro _ c54 a' w45 ⟨x46, rfl, hF47, F48, F49, hB, hZ⟩ hx55
    refine Fr.goOn hF47 (by kernel_rfl) ?_
    have hm := hx55
    unfold m_slices_Index_impl_Point_impl_Point_s1 at hm
    refine cW_seq ?_
    refine cW_region ?_
    refine wS_pure 1 [(9, .bool (decide (x46 < (((l0).length : Int)))))] (by kernel_rfl) ?_
    refine wS_end (by rfl) ?_
    refine eX_then ?_
    refine cW_seq ?_
    refine cW_cond (t := decide (x46 < (((l0).length : Int)))) (by kernel_rfl) (fun hb56 => ?_) (fun hb56 => ?_)
    · have hm := condT hb56 hm
      refine cW_skip ?_
      refine eX_then ?_
      refine cW_seq ?_
      refine cW_block ?_
      refine cW_seq ?_
      refine cW_region ?_
      refine wS_pure 2 [(5, .int .i64 (x46)), (10, .int .i64 (x46))] (by kernel_rfl) ?_
      refine wS_end (by rfl) ?_
      refine eX_then ?_
      refine cW_seq ?_
      refine cW_drawnTail [] 5 (by kernel_rfl) (by kernel_rfl) (fun w63 hc64 => ?_)
      replace F48 := F48.chg hc64 Dj.nil
      replace F49 := F49.chg hc64 notNil
      replace hB := hB.inS hc64 inNil
      replace hZ := Nat.le_trans hZ hc64.size
      have hS := Chg.refl [] w63
      have Z65 := F48
      have Z66 := F49
      refine wH_loadA (i := 0) (d := 11) (T := 37) (ad := ⟨b2, 0, none⟩) (vs := [.int .i64 (p1_0), .int .i64 (p1_1)]) (by kernel_rfl) (qT (qT (qB (qT (qL (qB (qT (qT qZ)))))))) (by kernel_rfl) (by kernel_rfl) vt37 (fun W hW i u hu => box_cells (Z66.chg hW notNil) 0 hu (by rfl)) ?_
      refine wH_take [1, 2] [2, 1, 0] [(13, .int .i64 (x46)), (12, .slice A0 (l0).length cap0)] (by kernel_rfl) (qT (qT (qB (qT (qL (qB (qT (qT qZ)))))))) (by kernel_rfl) ?_
      obtain ⟨x67, hx68, hm⟩ := bindE hm
      refine wH_idx (i := 3) (d := 14) (T := 32) (A := A0) (n := (l0).length) (cap := cap0) (kd := .i64) (m := x46) (by kernel_rfl) (qT (qT (qB (qT (qL (qB (qT (qT qZ)))))))) (by kernel_rfl) (by kernel_rfl) sl32 (F48.is hx68) ?_
      refine wH_loadA (i := 4) (d := 15) (T := 37) (ad := (elA A0 2 (x46) 0)) (vs := [.int .i64 (x67.1), .int .i64 (x67.2)]) (by kernel_rfl) (qT (qT (qB (qT (qL (qB (qT (qT qZ)))))))) (by kernel_rfl) (by kernel_rfl) vt37 (fun W hW i u hu => Sl.cells_at (Z65.chg hW Dj.nil) hx68 0 hu (by rfl)) ?_
      refine wH_done (by kernel_rfl) ?_
      refine eX_tail ?_
      refine wS_eqS (d := 16) (T := 37) (x := p1_0) (y := p1_1) (x' := x67.1) (y' := x67.2) (by kernel_rfl) eq37 ?_
      refine wS_end (by rfl) ?_
      refine eX_then ?_
      refine cW_cond (t := p1_0 == x67.1 && p1_1 == x67.2) (by kernel_rfl) (fun hb69 => ?_) (fun hb69 => ?_)
      · have hm := condT hb69 hm
        refine cW_seq ?_
        refine cW_region ?_
        refine wS_pure 2 [(4, .int .i64 (x46)), (17, .int .i64 (x46))] (by kernel_rfl) ?_
        refine wS_end (by rfl) ?_
        refine eX_then ?_
        refine cW_ret ?_
        refine eX_block_ret ?_
        refine eX_then_ret ?_
        have hq : (some (Ctl.out (Sum.inr x46)) : Option (Ctl (Int) (Sum (Unit) ((Int))))) = some _ := hm
        replace hq := someE hq
        subst hq
        refine eX_outR hx55 (fun hr => ?_)
        subst hr
        refine eX_block_ret ?_
        refine eX_then_ret ?_
        refine eX_then_ret ?_
        have hq : (some x46 : Option ((Int))) = some _ := hm52
        replace hq := someE hq
        subst hq
        refine eX_ret (vs := [.int .i64 (x46)]) [.tmp 4] (by rfl) ⟨by (show lkE _ _ _ = _); kernel_rfl, trivial⟩ ?_
        exact ⟨rfl, hB⟩
      · have hm := condF hb69 hm
        refine cW_skip ?_
        refine eX_block ?_
        refine eX_then ?_
        refine cW_region ?_
        refine wS_pure 2 [(8, .int .i64 (wr (x46 + 1))), (18, .int .i64 (wr (x46 + 1)))] (by kernel_rfl) ?_
        refine wS_end (by rfl) ?_
        have hq : (some (Ctl.next (wr (x46 + 1))) : Option (Ctl (Int) (Sum (Unit) ((Int))))) = some _ := hm
        replace hq := someE hq
        subst hq
        exact eX_next hx55 (fun hst => ⟨wr (x46 + 1), rfl, Fr.of hst (by kernel_rfl), F48, F49, hB, hZ⟩)
    · have hm := condF hb56 hm
      refine cW_exit ?_
      refine eX_then_exit ?_
      have hq : (some (Ctl.out (Sum.inl (()))) : Option (Ctl (Int) (Sum (Unit) ((Int))))) = some _ := hm
      replace hq := someE hq
      subst hq
      refine eX_outX hx55 (fun hr70 => ?_)
      replace hr70 := hr70.symm
      subst hr70
      refine eX_block_hit ?_
      exact eX_J (fun hst => ⟨rfl, Fr.of hst (by kernel_rfl), hB, hZ⟩)
  · rintro a' w43 ⟨hJ, hF44, hB, hZ⟩
    subst hJ
    refine Fr.goX hF44 (by kernel_rfl) ?_
    refine eX_then ?_
    refine cW_seq ?_
    refine cW_region ?_
    refine wS_pure 1 [(4, .int .i64 ((-1)))] (by kernel_rfl) ?_
    refine wS_end (by rfl) ?_
    refine eX_then ?_
    refine cW_ret ?_
    have hq : (some ((-1)) : Option ((Int))) = some _ := hm
    replace hq := someE hq
    subst hq
    refine eX_ret (vs := [.int .i64 ((-1))]) [.tmp 4] (by rfl) ⟨by (show lkE _ _ _ = _); kernel_rfl, trivial⟩ ?_
    exact ⟨rfl, hB⟩

set_option maxRecDepth 100000 in
/-- impl.Point] -/
theorem c_slices_Contains_impl_Point_impl_Point {w0 : World} {l0 : List (Int × Int)} {A0 : Option Addr} {cap0 : Nat} {fp0 : List Nat} {p1_0 : Int} {p1_1 : Int} {r : (Bool)} (hm : m_slices_Contains_impl_Point_impl_Point l0 p1_0 p1_1 = some r) (F0 : Sl 2 encII w0 fp0 A0 l0) :
    Calls Try.prog 198 #[.slice A0 (l0).length cap0, .agg #[.int .i64 (p1_0), .int .i64 (p1_1)]] w0 fun e w' => e = .returned (.bool (r)) ∧ Chg [] w0 w' := by
  have L0 := F0.low
  have hB : Chg [] w0 w0 := Chg.refl _ _
  have hZ := Nat.le_refl w0.heap.size
  unfold m_slices_Contains_impl_Point_impl_Point at hm
  refine enterE (N := 9) Try.func198 (by rfl) Try.ntmps198 (by simp) [(0, .slice A0 (l0).length cap0), (1, .agg #[.int .i64 (p1_0), .int .i64 (p1_1)])] (by rfl) (by kernel_rfl) (fun a => ?_)
  refine cW_seq ?_
  refine cW_region ?_
  refine wS_box (d := 3) (T := 37) (x := .agg #[.int .i64 (p1_0), .int .i64 (p1_1)]) (by kernel_rfl) ?_
  intro b2 w3 G4 F5 hc6
  replace F5 : Cl w3 b2 37 [.int .i64 (p1_0), .int .i64 (p1_1)] := F5
  replace F0 := F0.chg hc6 Dj.nil
  replace hB := hB.inS hc6 inNil
  replace G4 := Nat.le_trans hZ G4
  replace hZ := Nat.le_trans hZ hc6.size
  refine wS_pure 1 [(4, .bool (false))] (by kernel_rfl) ?_
  refine wS_end (by rfl) ?_
  refine eX_then ?_
  refine cW_seq ?_
  refine cW_region ?_
  refine wS_pure 1 [(5, .slice A0 (l0).length cap0)] (by kernel_rfl) ?_
  refine wS_loadA (d := 6) (T := 37) (ad := ⟨b2, 0, none⟩) (vs := [.int .i64 (p1_0), .int .i64 (p1_1)]) (by kernel_rfl) vt37 (fun i u hu => box_cells F5 0 hu (by rfl)) ?_
  obtain ⟨y8, hy9, hm⟩ := bindE hm
  refine wS_calls (d := 7) (f := 169) (vs := [.slice A0 (l0).length cap0, .agg #[.int .i64 (p1_0), .int .i64 (p1_1)]]) (by kernel_rfl) ent169 (c_slices_Index_impl_Point_impl_Point hy9 F0) ?_
  rintro _ w10 ⟨rfl, hc11⟩
  replace F0 := F0.chg hc11 Dj.nil
  replace F5 := F5.chg hc11 notNil
  replace hB := hB.inS hc11 inNil
  replace hZ := Nat.le_trans hZ hc11.size
  refine ⟨.int .i64 (y8), rfl, ?_⟩
  refine wS_pure 2 [(4, .bool (decide (y8 ≥ 0))), (8, .bool (decide (y8 ≥ 0)))] (by kernel_rfl) ?_
  refine wS_end (by rfl) ?_
  refine eX_then ?_
  refine cW_ret ?_
  have hq : (some (decide (y8 ≥ 0)) : Option ((Bool))) = some _ := hm
  replace hq := someE hq
  subst hq
  refine eX_ret (vs := [.bool (decide (y8 ≥ 0))]) [.tmp 4] (by rfl) ⟨by (show lkE _ _ _ = _); kernel_rfl, trivial⟩ ?_
  exact ⟨rfl, hB⟩

set_option maxRecDepth 100000 in
/-- impl.gain -/
theorem c_impl_gain {w0 : World} {l0 : List (Int × Int)} {A0 : Option Addr} {cap0 : Nat} {fp0 : List Nat} {p1_0 : Int} {p1_1 : Int} {r : (Int)} (hm : m_impl_gain l0 p1_0 p1_1 = some r) (F0 : Sl 2 encII w0 fp0 A0 l0) (K0 : (l0).length ≤ cap0) :
    Calls Try.prog 166 #[.slice A0 (l0).length cap0, .agg #[.int .i64 (p1_0), .int .i64 (p1_1)]] w0 fun e w' => e = .returned (.int .i64 (r)) ∧ Chg [] w0 w' := by
  have L0 := F0.low
  have hB : Chg [] w0 w0 := Chg.refl _ _
  have hZ := Nat.le_refl w0.heap.size
  unfold m_impl_gain at hm
  refine enterE (N := 29) Try.func166 (by rfl) Try.ntmps166 (by simp) [(0, .slice A0 (l0).length cap0), (1, .agg #[.int .i64 (p1_0), .int .i64 (p1_1)])] (by rfl) (by kernel_rfl) (fun a => ?_)
  refine cW_seq ?_
  refine cW_region ?_
  refine wS_box (d := 3) (T := 37) (x := .agg #[.int .i64 (p1_0), .int .i64 (p1_1)]) (by kernel_rfl) ?_
  intro b2 w3 G4 F5 hc6
  replace F5 : Cl w3 b2 37 [.int .i64 (p1_0), .int .i64 (p1_1)] := F5
  replace F0 := F0.chg hc6 Dj.nil
  replace hB := hB.inS hc6 inNil
  replace G4 := Nat.le_trans hZ G4
  replace hZ := Nat.le_trans hZ hc6.size
  refine wS_pure 1 [(4, .int .i64 (0))] (by kernel_rfl) ?_
  refine wS_end (by rfl) ?_
  refine eX_then ?_
  refine cW_seq ?_
  refine cW_seq ?_
  refine cW_region ?_
  refine wS_pure 1 [(9, .slice A0 (l0).length cap0)] (by kernel_rfl) ?_
  refine wS_loadA (d := 10) (T := 37) (ad := ⟨b2, 0, none⟩) (vs := [.int .i64 (p1_0), .int .i64 (p1_1)]) (by kernel_rfl) vt37 (fun i u hu => box_cells F5 0 hu (by rfl)) ?_
  obtain ⟨y8, hy9, hm⟩ := bindE hm
  refine wS_calls (d := 11) (f := 198) (vs := [.slice A0 (l0).length cap0, .agg #[.int .i64 (p1_0), .int .i64 (p1_1)]]) (by kernel_rfl) ent198 (c_slices_Contains_impl_Point_impl_Point hy9 F0) ?_
  rintro _ w10 ⟨rfl, hc11⟩
  replace F0 := F0.chg hc11 Dj.nil
  replace F5 := F5.chg hc11 notNil
  replace hB := hB.inS hc11 inNil
  replace hZ := Nat.le_trans hZ hc11.size
  refine ⟨.bool (y8), rfl, ?_⟩
  refine wS_end (by rfl) ?_
  refine eX_then ?_
  refine cW_cond (t := y8) (by kernel_rfl) (fun hb12 => ?_) (fun hb12 => ?_)
  · have hm := condT hb12 hm
    refine cW_seq ?_
    refine cW_region ?_
    refine wS_pure 1 [(4, .int .i64 (0))] (by kernel_rfl) ?_
    refine wS_end (by rfl) ?_
    refine eX_then ?_
    refine cW_ret ?_
    refine eX_then_ret ?_
    have hq : (some 0 : Option ((Int))) = some _ := hm
    replace hq := someE hq
    subst hq
    refine eX_ret (vs := [.int .i64 (0)]) [.tmp 4] (by rfl) ⟨by (show lkE _ _ _ = _); kernel_rfl, trivial⟩ ?_
    exact ⟨rfl, hB⟩
  · have hm := condF hb12 hm
    refine cW_skip ?_
    refine eX_then ?_
    refine cW_seq ?_
    refine cW_region ?_
    refine wS_pure 1 [(13, .slice A0 (l0).length cap0)] (by kernel_rfl) ?_
    obtain ⟨y13, hy14, hm⟩ := bindE hm
    refine wS_calls (d := 14) (f := 96) (vs := [.slice A0 (l0).length cap0]) (by kernel_rfl) ent96 (c_impl_spanning hy14 F0) ?_
    rintro _ w15 ⟨A17, cap18, fp19, fr22, rfl, F20, G21, hc16⟩
    have D24 : Dj [b2] (fp19 ++ fr22) := Dj.of (lt1 F5.lt) G21
    replace F0 := F0.chg hc16 Dj.nil
    replace F5 := F5.chg hc16 notNil
    replace hB := hB.inS hc16 inNil
    replace G21 := low_le hZ G21
    replace hZ := Nat.le_trans hZ hc16.size
    refine ⟨.tuple #[.slice A17 (y13.1).length cap18, .int .i64 (y13.2)], rfl, ?_⟩
    refine wS_pure 5 [(6, .int .i64 (y13.2)), (5, .slice A17 (y13.1).length cap18), (16, .int .i64 (y13.2)), (15, .slice A17 (y13.1).length cap18), (12, .tuple #[.slice A17 (y13.1).length cap18, .int .i64 (y13.2)])] (by kernel_rfl) ?_
    refine wS_end (by rfl) ?_
    refine eX_then ?_
    refine cW_seq ?_
    obtain ⟨s198, hs199, hm⟩ := bindE hm
    refine cW_cut (fun a' w' => ∃ x196 : Int, x196 = s198 ∧ Fr 29 [(6, .int .i64 (y13.2)), (8, .int .i64 (x196))] a' ∧ Chg [] w0 w' ∧ w0.heap.size ≤ w'.heap.size) ?_ ?_
    · have hm := hs199
      refine cW_drawnTail [] 10 (by kernel_rfl) (by kernel_rfl) (fun w200 hc201 => ?_)
      replace F0 := F0.chg hc201 Dj.nil
      replace F5 := F5.chg hc201 notNil
      replace F20 := F20.chg hc201 Dj.nil
      replace hB := hB.inS hc201 inNil
      replace hZ := Nat.le_trans hZ hc201.size
      have hS := Chg.refl [] w200
      have Z202 := F0
      have Z203 := F5
      have Z204 := F20
      refine wH_take [0] [0] [(18, .slice A0 (l0).length cap0)] (by kernel_rfl) (qT (qT (qT qZ))) (by kernel_rfl) ?_
      refine wH_loadA (i := 2) (d := 20) (T := 37) (ad := ⟨b2, 0, none⟩) (vs := [.int .i64 (p1_0), .int .i64 (p1_1)]) (by kernel_rfl) (qT (qT (qT qZ))) (by kernel_rfl) (by kernel_rfl) vt37 (fun W hW i u hu => box_cells (Z203.chg hW notNil) 0 hu (by rfl)) ?_
      refine wH_all [1, 3] (by rfl) (by kernel_rfl) (by simp) ⟨⟨by kernel_rfl, ?_⟩, ⟨by kernel_rfl, ?_⟩, trivial⟩
      · skip
        refine wS_calls (d := 19) (f := 199) (vs := [.slice A0 (l0).length cap0]) (by kernel_rfl) ent199 (c_slices_Clip_impl_Point_impl_Point (w0 := w200) (A0 := A0) K0) ?_
        rintro _ w205 ⟨rfl, hc206⟩
        replace F0 := F0.chg hc206 Dj.nil
        replace F5 := F5.chg hc206 notNil
        replace F20 := F20.chg hc206 Dj.nil
        replace hB := hB.inS hc206 inNil
        have hSz := hS
        replace hS := hS.inS hc206 inNil
        replace hZ := Nat.le_trans hZ hc206.size
        have F207 := F0
        refine ⟨.slice A0 (l0).length (l0).length, rfl, ?_⟩
        refine wS_end (by kernel_rfl) ?_
        refine eX_KH hS ?_
        refine wH_all [3] (by rfl) (by kernel_rfl) (by simp) ⟨⟨by kernel_rfl, ?_⟩, trivial⟩
        refine wS_bs (enc := encII) ([(p1_0, p1_1)] : List (Int × Int)) [.int .i64 (p1_0), .int .i64 (p1_1)] (d := 21) (t := 32) (T := 37) (n := 1) (ps := [(0, .agg #[.int .i64 (p1_0), .int .i64 (p1_1)])]) (by kernel_rfl) el32 encII_ok (by rfl) (by omega) (by omega) (by kernel_rfl) (by rfl) ?_
        intro b209 w210 G211 F212 hc213
        have D215 : Dj [b2] [b209] := Dj.of (lt1 F5.lt) (low1 G211)
        have D216 : Dj (fp19 ++ fr22) [b209] := Dj.of F20.low (low1 G211)
        replace F0 := F0.chg hc213 Dj.nil
        replace F5 := F5.chg hc213 notNil
        replace F20 := F20.chg hc213 Dj.nil
        replace F207 := F207.chg hc213 Dj.nil
        replace hB := hB.inS hc213 inNil
        have hSz := hS
        replace hS := hS.inS hc213 inNil
        have Gz217 := low1 (Nat.le_trans hSz.size G211)
        replace G211 := Nat.le_trans hZ G211
        replace G211 := low1 G211
        replace hZ := Nat.le_trans hZ hc213.size
        refine wS_end (by kernel_rfl) ?_
        refine eX_KH hS ?_
        refine wH_all [4] (by rfl) (by kernel_rfl) (by simp) ⟨⟨by kernel_rfl, ?_⟩, trivial⟩
        obtain ⟨_, hk218, hm⟩ := bindE hm
        replace hk218 := apE hk218
        refine wS_appendFull (enc := encII) (l := (l0 : List (Int × Int))) (l2 := (([(p1_0, p1_1)] : List (Int × Int)) : List (Int × Int))) (d := 22) (t := 32) (T := 37) (A := A0) (A2 := (some ⟨b209, 0, none⟩)) (cap := (l0).length) (cap2 := 1) (by kernel_rfl) el32 encII_ok F207 rfl (F212.sl encII_ok) (by simp) hk218 ?_
        intro w219 fp220 A221 cap222 F223 hc224 G225
        have D227 : Dj [b2] fp220 := Dj.of (lt1 F5.lt) G225
        have D228 : Dj (fp19 ++ fr22) fp220 := Dj.of F20.low G225
        have D229 : Dj [b209] fp220 := Dj.of F212.low G225
        replace F0 := F0.chg hc224 Dj.nil
        replace F5 := F5.chg hc224 notNil
        replace F20 := F20.chg hc224 Dj.nil
        replace F207 := F207.chg hc224 Dj.nil
        replace F212 := F212.chg hc224 Dj.nil
        replace hB := hB.inS hc224 inNil
        have hSz := hS
        replace hS := hS.inS hc224 inNil
        replace G225 := low_le hZ G225
        replace hZ := Nat.le_trans hZ hc224.size
        refine wS_end (by kernel_rfl) ?_
        refine eX_KH hS ?_
        refine wH_all [5] (by rfl) (by kernel_rfl) (by simp) ⟨⟨by kernel_rfl, ?_⟩, trivial⟩
        obtain ⟨y230, hy231, hm⟩ := bindE hm
        refine wS_calls (d := 23) (f := 96) (vs := [.slice A221 (l0 ++ (([(p1_0, p1_1)] : List (Int × Int)))).length cap222]) (by kernel_rfl) ent96 (c_impl_spanning hy231 (F223.sl encII_ok)) ?_
        rintro _ w232 ⟨A234, cap235, fp236, fr239, rfl, F237, G238, hc233⟩
        have D241 : Dj [b2] (fp236 ++ fr239) := Dj.of (lt1 F5.lt) G238
        have D242 : Dj (fp19 ++ fr22) (fp236 ++ fr239) := Dj.of F20.low G238
        have D243 : Dj [b209] (fp236 ++ fr239) := Dj.of F212.low G238
        have D244 : Dj fp220 (fp236 ++ fr239) := Dj.of F223.low G238
        replace F0 := F0.chg hc233 Dj.nil
        replace F5 := F5.chg hc233 notNil
        replace F20 := F20.chg hc233 Dj.nil
        replace F207 := F207.chg hc233 Dj.nil
        replace F212 := F212.chg hc233 Dj.nil
        replace F223 := F223.chg hc233 Dj.nil
        replace hB := hB.inS hc233 inNil
        have hSz := hS
        replace hS := hS.inS hc233 inNil
        replace G238 := low_le hZ G238
        replace hZ := Nat.le_trans hZ hc233.size
        refine ⟨.tuple #[.slice A234 (y230.1).length cap235, .int .i64 (y230.2)], rfl, ?_⟩
        refine wS_end (by kernel_rfl) ?_
        refine eX_KH hS ?_
        refine wH_take [6, 7, 8, 9] [9, 8, 7, 6, 5, 4, 3, 1, 2, 0] [(7, .slice A234 (y230.1).length cap235), (25, .int .i64 (y230.2)), (24, .slice A234 (y230.1).length cap235), (17, .tuple #[.slice A234 (y230.1).length cap235, .int .i64 (y230.2)])] (by kernel_rfl) (qT (qT (qT qZ))) (by kernel_rfl) ?_
        refine wH_done (by kernel_rfl) ?_
        refine eX_tail ?_
        refine wS_pure 1 [(8, .int .i64 (y230.2))] (by kernel_rfl) ?_
        refine wS_end (by rfl) ?_
        have hq : (some y230.2 : Option (Int)) = some _ := hm
        replace hq := someE hq
        subst hq
        exact eX_J (fun hst => ⟨y230.2, rfl, Fr.of hst (by kernel_rfl), hB, hZ⟩)
      · skip
        refine wS_bs (enc := encII) ([(p1_0, p1_1)] : List (Int × Int)) [.int .i64 (p1_0), .int .i64 (p1_1)] (d := 21) (t := 32) (T := 37) (n := 1) (ps := [(0, .agg #[.int .i64 (p1_0), .int .i64 (p1_1)])]) (by kernel_rfl) el32 encII_ok (by rfl) (by omega) (by omega) (by kernel_rfl) (by rfl) ?_
        intro b245 w246 G247 F248 hc249
        have D251 : Dj [b2] [b245] := Dj.of (lt1 F5.lt) (low1 G247)
        have D252 : Dj (fp19 ++ fr22) [b245] := Dj.of F20.low (low1 G247)
        replace F0 := F0.chg hc249 Dj.nil
        replace F5 := F5.chg hc249 notNil
        replace F20 := F20.chg hc249 Dj.nil
        replace hB := hB.inS hc249 inNil
        have hSz := hS
        replace hS := hS.inS hc249 inNil
        have Gz253 := low1 (Nat.le_trans hSz.size G247)
        replace G247 := Nat.le_trans hZ G247
        replace G247 := low1 G247
        replace hZ := Nat.le_trans hZ hc249.size
        refine wS_end (by kernel_rfl) ?_
        refine eX_KH hS ?_
        refine wH_all [1] (by rfl) (by kernel_rfl) (by simp) ⟨⟨by kernel_rfl, ?_⟩, trivial⟩
        refine wS_calls (d := 19) (f := 199) (vs := [.slice A0 (l0).length cap0]) (by kernel_rfl) ent199 (c_slices_Clip_impl_Point_impl_Point (w0 := w246) (A0 := A0) K0) ?_
        rintro _ w254 ⟨rfl, hc255⟩
        replace F0 := F0.chg hc255 Dj.nil
        replace F5 := F5.chg hc255 notNil
        replace F20 := F20.chg hc255 Dj.nil
        replace F248 := F248.chg hc255 Dj.nil
        replace hB := hB.inS hc255 inNil
        have hSz := hS
        replace hS := hS.inS hc255 inNil
        replace hZ := Nat.le_trans hZ hc255.size
        have F256 := F0
        refine ⟨.slice A0 (l0).length (l0).length, rfl, ?_⟩
        refine wS_end (by kernel_rfl) ?_
        refine eX_KH hS ?_
        refine wH_all [4] (by rfl) (by kernel_rfl) (by simp) ⟨⟨by kernel_rfl, ?_⟩, trivial⟩
        obtain ⟨_, hk258, hm⟩ := bindE hm
        replace hk258 := apE hk258
        refine wS_appendFull (enc := encII) (l := (l0 : List (Int × Int))) (l2 := (([(p1_0, p1_1)] : List (Int × Int)) : List (Int × Int))) (d := 22) (t := 32) (T := 37) (A := A0) (A2 := (some ⟨b245, 0, none⟩)) (cap := (l0).length) (cap2 := 1) (by kernel_rfl) el32 encII_ok F256 rfl (F248.sl encII_ok) (by simp) hk258 ?_
        intro w259 fp260 A261 cap262 F263 hc264 G265
        have D267 : Dj [b2] fp260 := Dj.of (lt1 F5.lt) G265
        have D268 : Dj (fp19 ++ fr22) fp260 := Dj.of F20.low G265
        have D269 : Dj [b245] fp260 := Dj.of F248.low G265
        replace F0 := F0.chg hc264 Dj.nil
        replace F5 := F5.chg hc264 notNil
        replace F20 := F20.chg hc264 Dj.nil
        replace F248 := F248.chg hc264 Dj.nil
        replace F256 := F256.chg hc264 Dj.nil
        replace hB := hB.inS hc264 inNil
        have hSz := hS
        replace hS := hS.inS hc264 inNil
        replace G265 := low_le hZ G265
        replace hZ := Nat.le_trans hZ hc264.size
        refine wS_end (by kernel_rfl) ?_
        refine eX_KH hS ?_
        refine wH_all [5] (by rfl) (by kernel_rfl) (by simp) ⟨⟨by kernel_rfl, ?_⟩, trivial⟩
        obtain ⟨y270, hy271, hm⟩ := bindE hm
        refine wS_calls (d := 23) (f := 96) (vs := [.slice A261 (l0 ++ (([(p1_0, p1_1)] : List (Int × Int)))).length cap262]) (by kernel_rfl) ent96 (c_impl_spanning hy271 (F263.sl encII_ok)) ?_
        rintro _ w272 ⟨A274, cap275, fp276, fr279, rfl, F277, G278, hc273⟩
        have D281 : Dj [b2] (fp276 ++ fr279) := Dj.of (lt1 F5.lt) G278
        have D282 : Dj (fp19 ++ fr22) (fp276 ++ fr279) := Dj.of F20.low G278
        have D283 : Dj [b245] (fp276 ++ fr279) := Dj.of F248.low G278
        have D284 : Dj fp260 (fp276 ++ fr279) := Dj.of F263.low G278
        replace F0 := F0.chg hc273 Dj.nil
        replace F5 := F5.chg hc273 notNil
        replace F20 := F20.chg hc273 Dj.nil
        replace F248 := F248.chg hc273 Dj.nil
        replace F256 := F256.chg hc273 Dj.nil
        replace F263 := F263.chg hc273 Dj.nil
        replace hB := hB.inS hc273 inNil
        have hSz := hS
        replace hS := hS.inS hc273 inNil
        replace G278 := low_le hZ G278
        replace hZ := Nat.le_trans hZ hc273.size
        refine ⟨.tuple #[.slice A274 (y270.1).length cap275, .int .i64 (y270.2)], rfl, ?_⟩
        refine wS_end (by kernel_rfl) ?_
        refine eX_KH hS ?_
        refine wH_take [6, 7, 8, 9] [9, 8, 7, 6, 5, 4, 1, 3, 2, 0] [(7, .slice A274 (y270.1).length cap275), (25, .int .i64 (y270.2)), (24, .slice A274 (y270.1).length cap275), (17, .tuple #[.slice A274 (y270.1).length cap275, .int .i64 (y270.2)])] (by kernel_rfl) (qT (qT (qT qZ))) (by kernel_rfl) ?_
        refine wH_done (by kernel_rfl) ?_
        refine eX_tail ?_
        refine wS_pure 1 [(8, .int .i64 (y270.2))] (by kernel_rfl) ?_
        refine wS_end (by rfl) ?_
        have hq : (some y270.2 : Option (Int)) = some _ := hm
        replace hq := someE hq
        subst hq
        exact eX_J (fun hst => ⟨y270.2, rfl, Fr.of hst (by kernel_rfl), hB, hZ⟩)
    · rintro a' w195 ⟨x196, hJ, hF197, hB, hZ⟩
      subst hJ
      refine Fr.goX hF197 (by kernel_rfl) ?_
      refine eX_then ?_
      refine cW_seq ?_
      refine cW_region ?_
      refine wS_pure 4 [(4, .int .i64 (wr (y13.2 - x196))), (28, .int .i64 (wr (y13.2 - x196))), (27, .int .i64 (x196)), (26, .int .i64 (y13.2))] (by kernel_rfl) ?_
      refine wS_end (by rfl) ?_
      refine eX_then ?_
      refine cW_ret ?_
      have hq : (some (wr (y13.2 - x196)) : Option ((Int))) = some _ := hm
      replace hq := someE hq
      subst hq
      refine eX_ret (vs := [.int .i64 (wr (y13.2 - x196))]) [.tmp 4] (by rfl) ⟨by (show lkE _ _ _ = _); kernel_rfl, trivial⟩ ?_
      exact ⟨rfl, hB⟩

set_option maxRecDepth 100000 in
/-- impl.oneByOne -/
theorem c_impl_oneByOne {w0 : World} {l0 : List (Int × Int)} {A0 : Option Addr} {cap0 : Nat} {fp0 : List Nat} {r : (List (Int × Int))} (hm : m_impl_oneByOne l0 = some r) (F0 : Sl 2 encII w0 fp0 A0 l0) :
    Calls Try.prog 106 #[.slice A0 (l0).length cap0] w0 fun e w' => ∃ A100 cap100 fp100, e = .returned (.slice A100 (r).length cap100) ∧ Ow 2 encII 37 w' fp100 A100 cap100 r ∧ (∀ x ∈ fp100, w0.heap.size ≤ x) ∧ Chg [] w0 w' := by
  have L0 := F0.low
  have hB : Chg [] w0 w0 := Chg.refl _ _
  have hZ := Nat.le_refl w0.heap.size
  unfold m_impl_oneByOne at hm
  refine enterE (N := 38) Try.func106 (by rfl) Try.ntmps106 (by simp) [(0, .slice A0 (l0).length cap0)] (by rfl) (by kernel_rfl) (fun a => ?_)
  refine cW_seq ?_
  refine cW_region ?_
  refine wS_pure 1 [(2, .slice none 0 0)] (by kernel_rfl) ?_
  refine wS_end (by rfl) ?_
  refine eX_then ?_
  refine cW_seq ?_
  refine cW_region ?_
  refine wS_pure 1 [(9, .slice A0 (l0).length cap0)] (by kernel_rfl) ?_
  obtain ⟨y2, hy3, hm⟩ := bindE hm
  refine wS_calls (d := 10) (f := 75) (vs := [.slice A0 (l0).length cap0]) (by kernel_rfl) ent75 (c_slices_Clone_impl_Point_impl_Point hy3 F0) ?_
  rintro _ w4 ⟨A6, cap7, fp8, rfl, F9, G10, hc5⟩
  replace F0 := F0.chg hc5 Dj.nil
  replace hB := hB.inS hc5 inNil
  replace G10 := low_le hZ G10
  replace hZ := Nat.le_trans hZ hc5.size
  refine ⟨.slice A6 (y2).length cap7, rfl, ?_⟩
  refine wS_pure 1 [(3, .slice A6 (y2).length cap7)] (by kernel_rfl) ?_
  refine wS_end (by rfl) ?_
  refine eX_then ?_
  refine cW_seq ?_
  obtain ⟨r752, hr753, hm⟩ := bindE hm
  have hm754 := hm
  refine cW_cut (fun a' w' => ∃ l734 : List (Int × Int), ∃ A735 : Option Addr, ∃ cap736 : Nat, ∃ fp737 : List Nat, l734 = r752 ∧ Fr 38 [(3, .slice A735 (l734).length cap736)] a' ∧ Ow 2 encII 37 w' fp737 A735 cap736 l734 ∧ (∀ x ∈ fp737, w0.heap.size ≤ x) ∧ Chg [] w0 w' ∧ w0.heap.size ≤ w'.heap.size) ?_ ?_
  · refine cW_block ?_
    refine cW_loop _ (fun (s755 : (List (Int × Int))) a' w' => ∃ l743 : List (Int × Int), ∃ A744 : Option Addr, ∃ cap745 : Nat, ∃ fp746 : List Nat, l743 = s755 ∧ Fr 38 [(0, .slice A0 (l0).length cap0), (3, .slice A744 (l743).length cap745)] a' ∧ Sl 2 encII w' fp0 A0 l0 ∧ Ow 2 encII 37 w' fp746 A744 cap745 l743 ∧ (∀ x ∈ fp746, w0.heap.size ≤ x) ∧ Chg [] w0 w' ∧ w0.heap.size ≤ w'.heap.size) hr753 (fun hst => ⟨y2, A6, cap7, fp8, rfl, Fr.of hst (by kernel_rfl), F0, F9, G10, hB, hZ⟩) ?_
    rintro _ c756 a' w742 ⟨l743, A744, cap745, fp746, rfl, hF748, F749, F750, G751, hB, hZ⟩ hx757
    refine Fr.goOn hF748 (by kernel_rfl) ?_
    have hm := hx757
    unfold m_impl_oneByOne_s3 at hm
    refine cW_seq ?_
    refine cW_seq ?_
    refine cW_region ?_
    refine wS_pure 3 [(13, .bool (decide ((((l743).length : Int)) < 20))), (12, .int .i64 (((l743).length : Int))), (11, .slice A744 (l743).length cap745)] (by kernel_rfl) ?_
    refine wS_end (by rfl) ?_
    refine eX_then ?_
    refine cW_cond (t := decide ((((l743).length : Int)) < 20)) (by kernel_rfl) (fun hb758 => ?_) (fun hb758 => ?_)
    · have hm := condT hb758 hm
      refine cW_skip ?_
      refine eX_then ?_
      refine cW_block ?_
      refine cW_seq ?_
      refine cW_region ?_
      refine wS_pure 1 [(14, .agg #[.int .i64 (0), .int .i64 (0)])] (by kernel_rfl) ?_
      refine wS_alloc (d := 5) (T := 37) (z := .agg #[.int .i64 (0), .int .i64 (0)]) (by kernel_rfl) (by kernel_rfl) ?_
      intro b759 w760 G761 F762 hc763
      replace F762 : Cl w760 b759 37 [.int .i64 (0), .int .i64 (0)] := F762
      have D765 : Dj fp746 [b759] := Dj.of F750.low (low1 G761)
      replace F749 := F749.chg hc763 Dj.nil
      replace F750 := F750.chg hc763 Dj.nil
      replace hB := hB.inS hc763 inNil
      replace G761 := Nat.le_trans hZ G761
      replace hZ := Nat.le_trans hZ hc763.size
      refine wS_pure 1 [(4, .int .i64 (0))] (by kernel_rfl) ?_
      refine wS_store (T := 37) (g := b759) (o := 0) (ad := ⟨b759, 0, none⟩) (v := .agg #[.int .i64 (0), .int .i64 (0)]) (vs := [.int .i64 (0), .int .i64 (0)]) (by kernel_rfl) (by rfl) sz37 (by rfl) (by rfl) F762 (by simp only [List.length_cons, List.length_nil]; omega) ?_
      intro w766 F767 hc768
      replace F749 := F749.chg hc768 (Dj.of L0 (low1 G761))
      replace F750 := F750.chg hc768 D765
      replace hB := hB.inS hc768 (inLow (low1 G761))
      replace hZ := Nat.le_trans hZ hc768.size
      replace F767 : Cl w766 b759 37 [.int .i64 (0), .int .i64 (0)] := F767
      clear F762
      refine wS_end (by rfl) ?_
      refine eX_then ?_
      refine cW_seq ?_
      refine cW_seq ?_
      refine cW_region ?_
      refine wS_pure 1 [(15, .slice A0 (l0).length cap0)] (by kernel_rfl) ?_
      obtain ⟨y769, hy770, hm⟩ := bindE hm
      refine wS_calls (d := 16) (f := 105) (vs := [.slice A0 (l0).length cap0]) (by kernel_rfl) ent105 (c_impl_hanan hy770 F749) ?_
      rintro _ w771 ⟨A773, cap774, fp775, rfl, F776, G777, hc772⟩
      have D780 : Dj fp746 fp775 := Dj.of F750.low G777
      have D781 : Dj [b759] fp775 := Dj.of (lt1 F767.lt) G777
      replace F749 := F749.chg hc772 Dj.nil
      replace F750 := F750.chg hc772 Dj.nil
      replace F767 := F767.chg hc772 notNil
      replace hB := hB.inS hc772 inNil
      replace G777 := low_le hZ G777
      replace hZ := Nat.le_trans hZ hc772.size
      refine ⟨.slice A773 (y769).length cap774, rfl, ?_⟩
      refine wS_pure 2 [(18, .int .i64 (0)), (17, .int .i64 (((y769).length : Int)))] (by kernel_rfl) ?_
      refine wS_end (by rfl) ?_
      refine eX_then ?_
      obtain ⟨r994, hr995, hm⟩ := bindE hm
      have hm996 := hm
      refine cW_cut (fun a' w' => ∃ x977 : Int, ∃ x978 : Int, ∃ x979 : Int, (x977, x978, x979) = r994 ∧ Fr 38 [(0, .slice A0 (l0).length cap0), (3, .slice A744 (l743).length cap745), (4, .int .i64 (x977)), (5, .pointer (some ⟨b759, 0, none⟩))] a' ∧ Sl 2 encII w' fp0 A0 l0 ∧ Ow 2 encII 37 w' fp746 A744 cap745 l743 ∧ Cl w' b759 37 [.int .i64 (x978), .int .i64 (x979)] ∧ Chg [] w0 w' ∧ w0.heap.size ≤ w'.heap.size) ?_ ?_
      · refine cW_block ?_
        refine cW_loop _ (fun (s997 : Int × Int × Int × Int) a' w' => ∃ x985 : Int, ∃ x986 : Int, ∃ x987 : Int, ∃ x988 : Int, (x985, x986, x987, x988) = s997 ∧ Fr 38 [(0, .slice A0 (l0).length cap0), (3, .slice A744 (l743).length cap745), (4, .int .i64 (x985)), (5, .pointer (some ⟨b759, 0, none⟩)), (16, .slice A773 (y769).length cap774), (17, .int .i64 (((y769).length : Int))), (18, .int .i64 (x986))] a' ∧ Sl 2 encII w' fp0 A0 l0 ∧ Ow 2 encII 37 w' fp746 A744 cap745 l743 ∧ Cl w' b759 37 [.int .i64 (x987), .int .i64 (x988)] ∧ Ow 2 encII 37 w' fp775 A773 cap774 y769 ∧ Chg [] w0 w' ∧ w0.heap.size ≤ w'.heap.size) hr995 (fun hst => ⟨0, 0, 0, 0, rfl, Fr.of hst (by kernel_rfl), F749, F750, F767, F776, hB, hZ⟩) ?_
        rintro _ c998 a' w984 ⟨x985, x986, x987, x988, rfl, hF989, F990, F991, F992, F993, hB, hZ⟩ hx999
        refine Fr.goOn hF989 (by kernel_rfl) ?_
        have hm := hx999
        unfold m_impl_oneByOne_s4 at hm
        refine cW_seq ?_
        refine cW_region ?_
        refine wS_pure 1 [(19, .bool (decide (x986 < (((y769).length : Int)))))] (by kernel_rfl) ?_
        refine wS_end (by rfl) ?_
        refine eX_then ?_
        refine cW_seq ?_
        refine cW_cond (t := decide (x986 < (((y769).length : Int)))) (by kernel_rfl) (fun hb1000 => ?_) (fun hb1000 => ?_)
        · have hm := condT hb1000 hm
          refine cW_skip ?_
          refine eX_then ?_
          refine cW_seq ?_
          refine cW_block ?_
          obtain ⟨s1049, hs1050, hm⟩ := bindE hm
          refine cW_cut (fun a' w' => ∃ x1041 : Int, ∃ x1042 : Int, ∃ x1043 : Int, (x1041, x1042, x1043) = s1049 ∧ Fr 38 [(0, .slice A0 (l0).length cap0), (3, .slice A744 (l743).length cap745), (4, .int .i64 (x1041)), (5, .pointer (some ⟨b759, 0, none⟩)), (16, .slice A773 (y769).length cap774), (17, .int .i64 (((y769).length : Int))), (18, .int .i64 (x986))] a' ∧ Sl 2 encII w' fp0 A0 l0 ∧ Ow 2 encII 37 w' fp746 A744 cap745 l743 ∧ Cl w' b759 37 [.int .i64 (x1042), .int .i64 (x1043)] ∧ Ow 2 encII 37 w' fp775 A773 cap774 y769 ∧ Chg [] w0 w' ∧ w0.heap.size ≤ w'.heap.size) ?_ ?_
          · have hm := hs1050
            refine cW_seq ?_
            refine cW_region ?_
            obtain ⟨x1051, hx1052, hm⟩ := bindE hm
            refine wS_idx (d := 20) (T := 32) (A := A773) (n := (y769).length) (cap := cap774) (kd := .i64) (m := x986) (by kernel_rfl) sl32 ((F993.sl encII_ok).is hx1052) ?_
            refine wS_loadA (d := 21) (T := 37) (ad := (elA A773 2 (x986) 0)) (vs := [.int .i64 (x1051.1), .int .i64 (x1051.2)]) (by kernel_rfl) vt37 (fun i u hu => Sl.cells_at (F993.sl encII_ok) hx1052 0 hu (by rfl)) ?_
            refine wS_alloc (d := 7) (T := 37) (z := .agg #[.int .i64 (0), .int .i64 (0)]) (by kernel_rfl) (by kernel_rfl) ?_
            intro b1053 w1054 G1055 F1056 hc1057
            replace F1056 : Cl w1054 b1053 37 [.int .i64 (0), .int .i64 (0)] := F1056
            have D1059 : Dj fp746 [b1053] := Dj.of F991.low (low1 G1055)
            have D1060 : Dj [b759] [b1053] := Dj.of (lt1 F992.lt) (low1 G1055)
            have D1061 : Dj fp775 [b1053] := Dj.of F993.low (low1 G1055)
            replace F990 := F990.chg hc1057 Dj.nil
            replace F991 := F991.chg hc1057 Dj.nil
            replace F992 := F992.chg hc1057 notNil
            replace F993 := F993.chg hc1057 Dj.nil
            replace hB := hB.inS hc1057 inNil
            replace G1055 := Nat.le_trans hZ G1055
            replace hZ := Nat.le_trans hZ hc1057.size
            refine wS_store (T := 37) (g := b1053) (o := 0) (ad := ⟨b1053, 0, none⟩) (v := .agg #[.int .i64 (x1051.1), .int .i64 (x1051.2)]) (vs := [.int .i64 (x1051.1), .int .i64 (x1051.2)]) (by kernel_rfl) (by rfl) sz37 (by rfl) (by rfl) F1056 (by simp only [List.length_cons, List.length_nil]; omega) ?_
            intro w1062 F1063 hc1064
            replace F990 := F990.chg hc1064 (Dj.of L0 (low1 G1055))
            replace F991 := F991.chg hc1064 D1059
            replace F992 := F992.chg hc1064 (dj1 D1060)
            replace F993 := F993.chg hc1064 D1061
            replace hB := hB.inS hc1064 (inLow (low1 G1055))
            replace hZ := Nat.le_trans hZ hc1064.size
            replace F1063 : Cl w1062 b1053 37 [.int .i64 (x1051.1), .int .i64 (x1051.2)] := F1063
            clear F1056
            refine wS_end (by rfl) ?_
            refine eX_then ?_
            refine cW_seq ?_
            refine cW_region ?_
            refine wS_pure 1 [(22, .slice A744 (l743).length cap745)] (by kernel_rfl) ?_
            refine wS_loadA (d := 23) (T := 37) (ad := ⟨b1053, 0, none⟩) (vs := [.int .i64 (x1051.1), .int .i64 (x1051.2)]) (by kernel_rfl) vt37 (fun i u hu => box_cells F1063 0 hu (by rfl)) ?_
            obtain ⟨y1065, hy1066, hm⟩ := bindE hm
            refine wS_calls (d := 24) (f := 166) (vs := [.slice A744 (l743).length cap745, .agg #[.int .i64 (x1051.1), .int .i64 (x1051.2)]]) (by kernel_rfl) ent166 (c_impl_gain hy1066 (F991.sl encII_ok) F991.cap_le) ?_
            rintro _ w1067 ⟨rfl, hc1068⟩
            replace F990 := F990.chg hc1068 Dj.nil
            replace F991 := F991.chg hc1068 Dj.nil
            replace F992 := F992.chg hc1068 notNil
            replace F993 := F993.chg hc1068 Dj.nil
            replace F1063 := F1063.chg hc1068 notNil
            replace hB := hB.inS hc1068 inNil
            replace hZ := Nat.le_trans hZ hc1068.size
            refine ⟨.int .i64 (y1065), rfl, ?_⟩
            refine wS_pure 1 [(8, .int .i64 (y1065))] (by kernel_rfl) ?_
            refine wS_end (by rfl) ?_
            refine eX_then ?_
            refine cW_seq ?_
            refine cW_region ?_
            refine wS_pure 3 [(27, .bool (decide (y1065 > x985))), (26, .int .i64 (x985)), (25, .int .i64 (y1065))] (by kernel_rfl) ?_
            refine wS_end (by rfl) ?_
            refine eX_then ?_
            refine cW_cond (t := decide (y1065 > x985)) (by kernel_rfl) (fun hb1069 => ?_) (fun hb1069 => ?_)
            · have hm := condT hb1069 hm
              refine cW_drawnTail [] 3 (by kernel_rfl) (by kernel_rfl) (fun w1080 hc1081 => ?_)
              replace F990 := F990.chg hc1081 Dj.nil
              replace F991 := F991.chg hc1081 Dj.nil
              replace F992 := F992.chg hc1081 notNil
              replace F993 := F993.chg hc1081 Dj.nil
              replace F1063 := F1063.chg hc1081 notNil
              replace hB := hB.inS hc1081 inNil
              replace hZ := Nat.le_trans hZ hc1081.size
              have hS := Chg.refl [] w1080
              have Z1082 := F990
              have Z1083 := F991
              have Z1084 := F992
              have Z1085 := F993
              have Z1086 := F1063
              refine wH_take [0] [0] [(28, .int .i64 (y1065))] (by kernel_rfl) (qT (qT (qB (qT (qL (qB (qT (qT (qB (qL (qB (qT (qT qZ))))))))))))) (by kernel_rfl) ?_
              refine wH_loadA (i := 1) (d := 29) (T := 37) (ad := ⟨b1053, 0, none⟩) (vs := [.int .i64 (x1051.1), .int .i64 (x1051.2)]) (by kernel_rfl) (qT (qT (qB (qT (qL (qB (qT (qT (qB (qL (qB (qT (qT qZ))))))))))))) (by kernel_rfl) (by kernel_rfl) vt37 (fun W hW i u hu => box_cells (Z1086.chg hW notNil) 0 hu (by rfl)) ?_
              refine wH_take [2] [2, 1, 0] [(4, .int .i64 (y1065))] (by kernel_rfl) (qT (qT (qB (qT (qL (qB (qT (qT (qB (qL (qB (qT (qT qZ))))))))))))) (by kernel_rfl) ?_
              refine wH_done (by kernel_rfl) ?_
              refine eX_tail ?_
              refine wS_store (T := 37) (g := b759) (o := 0) (ad := ⟨b759, 0, none⟩) (v := .agg #[.int .i64 (x1051.1), .int .i64 (x1051.2)]) (vs := [.int .i64 (x1051.1), .int .i64 (x1051.2)]) (by kernel_rfl) (by rfl) sz37 (by rfl) (by rfl) F992 (by simp only [List.length_cons, List.length_nil]; omega) ?_
              intro w1087 F1088 hc1089
              replace F990 := F990.chg hc1089 (Dj.of L0 (low1 G761))
              replace F991 := F991.chg hc1089 D765
              replace F993 := F993.chg hc1089 (D781).symm
              replace F1063 := F1063.chg hc1089 (dj1 (D1060).symm)
              replace hB := hB.inS hc1089 (inLow (low1 G761))
              replace hZ := Nat.le_trans hZ hc1089.size
              replace F1088 : Cl w1087 b759 37 [.int .i64 (x1051.1), .int .i64 (x1051.2)] := F1088
              clear F992
              refine wS_end (by rfl) ?_
              have hq : (some ((y1065, x1051.1, x1051.2)) : Option (Int × Int × Int)) = some _ := hm
              replace hq := someE hq
              subst hq
              exact eX_J (fun hst => ⟨y1065, x1051.1, x1051.2, rfl, Fr.of hst (by kernel_rfl), F990, F991, F1088, F993, hB, hZ⟩)
            · have hm := condF hb1069 hm
              refine cW_skip ?_
              have hq : (some ((x985, x987, x988)) : Option (Int × Int × Int)) = some _ := hm
              replace hq := someE hq
              subst hq
              exact eX_J (fun hst => ⟨x985, x987, x988, rfl, Fr.of hst (by kernel_rfl), F990, F991, F992, F993, hB, hZ⟩)
          · rintro a' w1040 ⟨x1041, x1042, x1043, hJ, hF1044, F1045, F1046, F1047, F1048, hB, hZ⟩
            subst hJ
            refine Fr.goX hF1044 (by kernel_rfl) ?_
            refine eX_block ?_
            refine eX_then ?_
            refine cW_region ?_
            refine wS_pure 2 [(18, .int .i64 (wr (x986 + 1))), (30, .int .i64 (wr (x986 + 1)))] (by kernel_rfl) ?_
            refine wS_end (by rfl) ?_
            have hq : (some (Ctl.next ((x1041, wr (x986 + 1), x1042, x1043))) : Option (Ctl (Int × Int × Int × Int) (Int × Int × Int))) = some _ := hm
            replace hq := someE hq
            subst hq
            exact eX_next hx999 (fun hst => ⟨x1041, wr (x986 + 1), x1042, x1043, rfl, Fr.of hst (by kernel_rfl), F1045, F1046, F1047, F1048, hB, hZ⟩)
        · have hm := condF hb1000 hm
          refine cW_exit ?_
          refine eX_then_exit ?_
          have hq : (some (Ctl.out ((x985, x987, x988))) : Option (Ctl (Int × Int × Int × Int) (Int × Int × Int))) = some _ := hm
          replace hq := someE hq
          subst hq
          refine eX_outX hx999 (fun hr1090 => ?_)
          replace hr1090 := hr1090.symm
          subst hr1090
          refine eX_block_hit ?_
          exact eX_J (fun hst => ⟨x985, x987, x988, rfl, Fr.of hst (by kernel_rfl), F990, F991, F992, hB, hZ⟩)
      · rintro a' w976 ⟨x977, x978, x979, hJ, hF980, F981, F982, F983, hB, hZ⟩
        subst hJ
        refine Fr.goX hF980 (by kernel_rfl) ?_
        refine eX_then ?_
        refine cW_seq ?_
        refine cW_seq ?_
        refine cW_region ?_
        refine wS_pure 2 [(32, .bool (x977 == 0)), (31, .int .i64 (x977))] (by kernel_rfl) ?_
        refine wS_end (by rfl) ?_
        refine eX_then ?_
        refine cW_cond (t := x977 == 0) (by kernel_rfl) (fun hb1091 => ?_) (fun hb1091 => ?_)
        · have hm := condT hb1091 hm
          refine cW_exit ?_
          refine eX_then_exit ?_
          refine eX_block_miss (by rfl) ?_
          have hq : (some (Ctl.out l743) : Option (Ctl ((List (Int × Int))) ((List (Int × Int))))) = some _ := hm
          replace hq := someE hq
          subst hq
          refine eX_outX hx757 (fun hr1092 => ?_)
          replace hr1092 := hr1092.symm
          subst hr1092
          refine eX_block_hit ?_
          exact eX_J (fun hst => ⟨l743, A744, cap745, fp746, rfl, Fr.of hst (by kernel_rfl), F982, G751, hB, hZ⟩)
        · have hm := condF hb1091 hm
          refine cW_skip ?_
          refine eX_then ?_
          refine cW_region ?_
          refine wS_pure 1 [(33, .slice A744 (l743).length cap745)] (by kernel_rfl) ?_
          refine wS_loadA (d := 34) (T := 37) (ad := ⟨b759, 0, none⟩) (vs := [.int .i64 (x978), .int .i64 (x979)]) (by kernel_rfl) vt37 (fun i u hu => box_cells F983 0 hu (by rfl)) ?_
          refine wS_bs (enc := encII) ([(x978, x979)] : List (Int × Int)) [.int .i64 (x978), .int .i64 (x979)] (d := 35) (t := 32) (T := 37) (n := 1) (ps := [(0, .agg #[.int .i64 (x978), .int .i64 (x979)])]) (by kernel_rfl) el32 encII_ok (by rfl) (by omega) (by omega) (by kernel_rfl) (by rfl) ?_
          intro b1093 w1094 G1095 F1096 hc1097
          have D1099 : Dj fp746 [b1093] := Dj.of F982.low (low1 G1095)
          have D1100 : Dj [b759] [b1093] := Dj.of (lt1 F983.lt) (low1 G1095)
          replace F981 := F981.chg hc1097 Dj.nil
          replace F982 := F982.chg hc1097 Dj.nil
          replace F983 := F983.chg hc1097 notNil
          replace hB := hB.inS hc1097 inNil
          replace G1095 := Nat.le_trans hZ G1095
          replace G1095 := low1 G1095
          replace hZ := Nat.le_trans hZ hc1097.size
          obtain ⟨_, hk1101, hm⟩ := bindE hm
          replace hk1101 := apE hk1101
          refine wS_append (enc := encII) (l := (l743 : List (Int × Int))) (l2 := (([(x978, x979)] : List (Int × Int)) : List (Int × Int))) (d := 36) (t := 32) (T := 37) (A := A744) (A2 := (some ⟨b1093, 0, none⟩)) (cap := cap745) (cap2 := 1) (by kernel_rfl) el32 encII_ok F982 (F1096.sl encII_ok) (by rfl) hk1101 ?_
          intro w1102 fp1103 A1104 cap1105 F1106 hc1107 hp1108
          have G1110 := low_ap G751 hZ hp1108
          have D1111 : Dj [b759] fp1103 := Dj.ap (D765).symm (lt1 F983.lt) hp1108
          have D1112 : Dj [b1093] fp1103 := Dj.ap (D1099).symm F1096.low hp1108
          replace F981 := F981.chg hc1107 (Dj.of L0 G751)
          replace F983 := F983.chg hc1107 (dj1 (D765).symm)
          replace F1096 := F1096.chg hc1107 (D1099).symm
          replace hB := hB.inS hc1107 (inLow G751)
          replace hZ := Nat.le_trans hZ hc1107.size
          refine wS_pure 1 [(3, .slice A1104 (l743 ++ (([(x978, x979)] : List (Int × Int)))).length cap1105)] (by kernel_rfl) ?_
          refine wS_end (by rfl) ?_
          refine eX_block ?_
          have hq : (some (Ctl.next (l743 ++ (([(x978, x979)] : List (Int × Int))))) : Option (Ctl ((List (Int × Int))) ((List (Int × Int))))) = some _ := hm
          replace hq := someE hq
          subst hq
          exact eX_next hx757 (fun hst => ⟨l743 ++ (([(x978, x979)] : List (Int × Int))), A1104, cap1105, fp1103, rfl, Fr.of hst (by kernel_rfl), F981, F1106, G1110, hB, hZ⟩)
    · have hm := condF hb758 hm
      refine cW_exit ?_
      refine eX_then_exit ?_
      have hq : (some (Ctl.out l743) : Option (Ctl ((List (Int × Int))) ((List (Int × Int))))) = some _ := hm
      replace hq := someE hq
      subst hq
      refine eX_outX hx757 (fun hr1113 => ?_)
      replace hr1113 := hr1113.symm
      subst hr1113
      refine eX_block_hit ?_
      exact eX_J (fun hst => ⟨l743, A744, cap745, fp746, rfl, Fr.of hst (by kernel_rfl), F750, G751, hB, hZ⟩)
  · rintro a' w733 ⟨l734, A735, cap736, fp737, hJ, hF739, F740, G741, hB, hZ⟩
    subst hJ
    refine Fr.goX hF739 (by kernel_rfl) ?_
    refine eX_then ?_
    refine cW_seq ?_
    refine cW_region ?_
    refine wS_pure 2 [(2, .slice A735 (l734).length cap736), (37, .slice A735 (l734).length cap736)] (by kernel_rfl) ?_
    refine wS_end (by rfl) ?_
    refine eX_then ?_
    refine cW_ret ?_
    have hq : (some l734 : Option ((List (Int × Int)))) = some _ := hm
    replace hq := someE hq
    subst hq
    refine eX_ret (vs := [.slice A735 (l734).length cap736]) [.tmp 2] (by rfl) ⟨by (show lkE _ _ _ = _); kernel_rfl, trivial⟩ ?_
    exact ⟨A735, cap736, fp737, rfl, F740, G741, hB⟩

set_option maxRecDepth 100000 in
/-- impl.OneByOne -/
theorem c_impl_OneByOne {w0 : World} {l0 : List (Int × Int)} {A0 : Option Addr} {cap0 : Nat} {fp0 : List Nat} {r : (List (Int × Int)) × (Int) × (Bool)} (hm : m_impl_OneByOne l0 = some r) (F0 : Sl 2 encII w0 fp0 A0 l0) :
    Calls Try.prog 42 #[.slice A0 (l0).length cap0] w0 fun e w' => ∃ A100 cap100 fp100, e = .returned (.tuple #[.slice A100 (r.1).length cap100, .int .i64 (r.2.1), .bool (r.2.2)]) ∧ Ow 2 encII 37 w' fp100 A100 cap100 r.1 ∧ (∀ x ∈ fp100, w0.heap.size ≤ x) ∧ Chg [] w0 w' := by
  have L0 := F0.low
  have hB : Chg [] w0 w0 := Chg.refl _ _
  have hZ := Nat.le_refl w0.heap.size
  unfold m_impl_OneByOne at hm
  refine enterE (N := 24) Try.func42 (by rfl) Try.ntmps42 (by simp) [(0, .slice A0 (l0).length cap0)] (by rfl) (by kernel_rfl) (fun a => ?_)
  refine cW_seq ?_
  refine cW_region ?_
  refine wS_pure 3 [(4, .bool (false)), (3, .int .i64 (0)), (2, .slice none 0 0)] (by kernel_rfl) ?_
  refine wS_end (by rfl) ?_
  refine eX_then ?_
  refine cW_seq ?_
  refine cW_seq ?_
  refine cW_region ?_
  refine wS_pure 1 [(8, .slice A0 (l0).length cap0)] (by kernel_rfl) ?_
  obtain ⟨y2, hy3, hm⟩ := bindE hm
  refine wS_calls (d := 9) (f := 95) (vs := [.slice A0 (l0).length cap0, .int .i64 (7)]) (by kernel_rfl) ent95 (c_impl_pinsOk hy3 F0) ?_
  rintro _ w4 ⟨rfl, hc5⟩
  replace F0 := F0.chg hc5 Dj.nil
  replace hB := hB.inS hc5 inNil
  replace hZ := Nat.le_trans hZ hc5.size
  refine ⟨.bool (y2), rfl, ?_⟩
  refine wS_pure 1 [(10, .bool (!y2))] (by kernel_rfl) ?_
  refine wS_end (by rfl) ?_
  refine eX_then ?_
  refine cW_cond (t := !y2) (by kernel_rfl) (fun hb6 => ?_) (fun hb6 => ?_)
  · have hm := condT hb6 hm
    refine cW_seq ?_
    refine cW_region ?_
    refine wS_pure 3 [(4, .bool (false)), (3, .int .i64 (0)), (2, .slice none 0 0)] (by kernel_rfl) ?_
    refine wS_end (by rfl) ?_
    refine eX_then ?_
    refine cW_ret ?_
    refine eX_then_ret ?_
    have hq : (some (([], 0, false)) : Option ((List (Int × Int)) × (Int) × (Bool))) = some _ := hm
    replace hq := someE hq
    subst hq
    refine eX_ret (vs := [.slice none 0 0, .int .i64 (0), .bool (false)]) [.tmp 2, .tmp 3, .tmp 4] (by rfl) ⟨by (show lkE _ _ _ = _); kernel_rfl, ⟨by (show lkE _ _ _ = _); kernel_rfl, ⟨by (show lkE _ _ _ = _); kernel_rfl, trivial⟩⟩⟩ ?_
    exact ⟨none, 0, [], rfl, Ow.nil _, lowNil, hB⟩
  · have hm := condF hb6 hm
    refine cW_skip ?_
    refine eX_then ?_
    refine cW_seq ?_
    refine cW_region ?_
    refine wS_pure 1 [(11, .slice A0 (l0).length cap0)] (by kernel_rfl) ?_
    obtain ⟨y7, hy8, hm⟩ := bindE hm
    refine wS_calls (d := 12) (f := 106) (vs := [.slice A0 (l0).length cap0]) (by kernel_rfl) ent106 (c_impl_oneByOne hy8 F0) ?_
    rintro _ w9 ⟨A11, cap12, fp13, rfl, F14, G15, hc10⟩
    replace F0 := F0.chg hc10 Dj.nil
    replace hB := hB.inS hc10 inNil
    replace G15 := low_le hZ G15
    replace hZ := Nat.le_trans hZ hc10.size
    refine ⟨.slice A11 (y7).length cap12, rfl, ?_⟩
    refine wS_pure 1 [(5, .slice A11 (y7).length cap12)] (by kernel_rfl) ?_
    refine wS_end (by rfl) ?_
    refine eX_then ?_
    refine cW_seq ?_
    refine cW_region ?_
    refine wS_pure 1 [(14, .slice A11 (y7).length cap12)] (by kernel_rfl) ?_
    obtain ⟨y18, hy19, hm⟩ := bindE hm
    refine wS_calls (d := 15) (f := 96) (vs := [.slice A11 (y7).length cap12]) (by kernel_rfl) ent96 (c_impl_spanning hy19 (F14.sl encII_ok)) ?_
    rintro _ w20 ⟨A22, cap23, fp24, fr27, rfl, F25, G26, hc21⟩
    have D29 : Dj fp13 (fp24 ++ fr27) := Dj.of F14.low G26
    replace F0 := F0.chg hc21 Dj.nil
    replace F14 := F14.chg hc21 Dj.nil
    replace hB := hB.inS hc21 inNil
    replace G26 := low_le hZ G26
    replace hZ := Nat.le_trans hZ hc21.size
    refine ⟨.tuple #[.slice A22 (y18.1).length cap23, .int .i64 (y18.2)], rfl, ?_⟩
    refine wS_pure 5 [(7, .int .i64 (y18.2)), (6, .slice A22 (y18.1).length cap23), (17, .int .i64 (y18.2)), (16, .slice A22 (y18.1).length cap23), (13, .tuple #[.slice A22 (y18.1).length cap23, .int .i64 (y18.2)])] (by kernel_rfl) ?_
    refine wS_end (by rfl) ?_
    refine eX_then ?_
    refine cW_seq ?_
    refine cW_region ?_
    refine wS_pure 3 [(20, .int .i64 (((l0).length : Int))), (19, .slice A0 (l0).length cap0), (18, .slice A11 (y7).length cap12)] (by kernel_rfl) ?_
    obtain ⟨y30, hy31, hm⟩ := bindE hm
    refine wS_cutA (enc := encII) (l := y7) (d := 21) (T := 32) (A := A11) (cap := cap12) (vlo := some (.int .i64 (((l0).length : Int)))) (vhi := none) (lo := ((l0).length : Int)) (hi := ((y7).length : Int)) (n := 0) (by kernel_rfl) sl32 (Or.inl rfl) (Or.inr ⟨rfl, rfl⟩) (F14.sl encII_ok) F14.cap_le hy31 ?_
    intro A32 cap33 hA36 F34 hcap35
    obtain rfl := slci_slc hy31
    have hlv38 := Eq.refl (y7).length
    have hcz39 := F14.cap_le
    obtain ⟨y40, hy41, hm⟩ := bindE hm
    refine wS_calls (d := 22) (f := 75) (vs := [.slice A32 (slc y7 (((l0).length : Int)) (((y7).length : Int))).length cap33]) (by kernel_rfl) ent75 (c_slices_Clone_impl_Point_impl_Point hy41 F34) ?_
    rintro _ w42 ⟨A44, cap45, fp46, rfl, F47, G48, hc43⟩
    have D51 : Dj fp13 fp46 := Dj.of F14.low G48
    have D52 : Dj (fp24 ++ fr27) fp46 := Dj.of F25.low G48
    have D53 : Dj fp13 fp46 := Dj.of F34.low G48
    replace F0 := F0.chg hc43 Dj.nil
    replace F14 := F14.chg hc43 Dj.nil
    replace F25 := F25.chg hc43 Dj.nil
    replace F34 := F34.chg hc43 Dj.nil
    replace hB := hB.inS hc43 inNil
    replace G48 := low_le hZ G48
    replace hZ := Nat.le_trans hZ hc43.size
    refine ⟨.slice A44 (y40).length cap45, rfl, ?_⟩
    refine wS_pure 4 [(4, .bool (true)), (3, .int .i64 (y18.2)), (2, .slice A44 (y40).length cap45), (23, .int .i64 (y18.2))] (by kernel_rfl) ?_
    refine wS_end (by rfl) ?_
    refine eX_then ?_
    refine cW_ret ?_
    have hq : (some ((y40, y18.2, true)) : Option ((List (Int × Int)) × (Int) × (Bool))) = some _ := hm
    replace hq := someE hq
    subst hq
    refine eX_ret (vs := [.slice A44 (y40).length cap45, .int .i64 (y18.2), .bool (true)]) [.tmp 2, .tmp 3, .tmp 4] (by rfl) ⟨by (show lkE _ _ _ = _); kernel_rfl, ⟨by (show lkE _ _ _ = _); kernel_rfl, ⟨by (show lkE _ _ _ = _); kernel_rfl, trivial⟩⟩⟩ ?_
    exact ⟨A44, cap45, fp46, rfl, F47, G48, hB⟩

set_option maxRecDepth 100000 in
/-- laws.b10In -/
theorem c_laws_b10In {w0 : World} {l0 : List (Int × Int)} {A0 : Option Addr} {cap0 : Nat} {fp0 : List Nat} {p1_0 : Int} {p1_1 : Int} {r : (Bool)} (hm : m_laws_b10In l0 p1_0 p1_1 = some r) (F0 : Sl 2 encII w0 fp0 A0 l0) :
    Calls Try.prog 43 #[.slice A0 (l0).length cap0, .agg #[.int .i64 (p1_0), .int .i64 (p1_1)]] w0 fun e w' => e = .returned (.bool (r)) ∧ Chg [] w0 w' := by
  have L0 := F0.low
  have hB : Chg [] w0 w0 := Chg.refl _ _
  have hZ := Nat.le_refl w0.heap.size
  unfold m_laws_b10In at hm
  refine enterE (N := 18) Try.func43 (by rfl) Try.ntmps43 (by simp) [(0, .slice A0 (l0).length cap0), (1, .agg #[.int .i64 (p1_0), .int .i64 (p1_1)])] (by rfl) (by kernel_rfl) (fun a => ?_)
  refine cW_seq ?_
  refine cW_region ?_
  refine wS_box (d := 3) (T := 37) (x := .agg #[.int .i64 (p1_0), .int .i64 (p1_1)]) (by kernel_rfl) ?_
  intro b2 w3 G4 F5 hc6
  replace F5 : Cl w3 b2 37 [.int .i64 (p1_0), .int .i64 (p1_1)] := F5
  replace F0 := F0.chg hc6 Dj.nil
  replace hB := hB.inS hc6 inNil
  replace G4 := Nat.le_trans hZ G4
  replace hZ := Nat.le_trans hZ hc6.size
  refine wS_pure 1 [(4, .bool (false))] (by kernel_rfl) ?_
  refine wS_end (by rfl) ?_
  refine eX_then ?_
  refine cW_seq ?_
  refine cW_seq ?_
  refine cW_region ?_
  refine wS_pure 1 [(5, .int .i64 (0))] (by kernel_rfl) ?_
  refine wS_end (by rfl) ?_
  refine eX_then ?_
  obtain ⟨r50, hr51, hm⟩ := bindE hm
  have hm52 := hm
  refine cW_cut (fun a' w' => Sum.inl (()) = r50 ∧ Fr 18 [] a' ∧ Chg [] w0 w' ∧ w0.heap.size ≤ w'.heap.size) ?_ ?_
  · refine cW_block ?_
    refine cW_loop _ (fun (s53 : Int) a' w' => ∃ x46 : Int, x46 = s53 ∧ Fr 18 [(0, .slice A0 (l0).length cap0), (3, .pointer (some ⟨b2, 0, none⟩)), (5, .int .i64 (x46))] a' ∧ Sl 2 encII w' fp0 A0 l0 ∧ Cl w' b2 37 [.int .i64 (p1_0), .int .i64 (p1_1)] ∧ Chg [] w0 w' ∧ w0.heap.size ≤ w'.heap.size) hr51 (fun hst => ⟨0, rfl, Fr.of hst (by kernel_rfl), F0, F5, hB, hZ⟩) ?_
    rintro _ c54 a' w45 ⟨x46, rfl, hF47, F48, F49, hB, hZ⟩ hx55
    refine Fr.goOn hF47 (by kernel_rfl) ?_
    have hm := hx55
    unfold m_laws_b10In_s1 at hm
    refine cW_seq ?_
    refine cW_seq ?_
    refine cW_region ?_
    refine wS_pure 4 [(9, .bool (decide (x46 < (((l0).length : Int))))), (8, .int .i64 (((l0).length : Int))), (7, .slice A0 (l0).length cap0), (6, .int .i64 (x46))] (by kernel_rfl) ?_
    refine wS_end (by rfl) ?_
    refine eX_then ?_
    refine cW_cond (t := decide (x46 < (((l0).length : Int)))) (by kernel_rfl) (fun hb56 => ?_) (fun hb56 => ?_)
    · have hm := condT hb56 hm
      refine cW_skip ?_
      refine eX_then ?_
      refine cW_seq ?_
      refine cW_block ?_
      refine cW_seq ?_
      refine cW_drawnTail [] 5 (by kernel_rfl) (by kernel_rfl) (fun w63 hc64 => ?_)
      replace F48 := F48.chg hc64 Dj.nil
      replace F49 := F49.chg hc64 notNil
      replace hB := hB.inS hc64 inNil
      replace hZ := Nat.le_trans hZ hc64.size
      have hS := Chg.refl [] w63
      have Z65 := F48
      have Z66 := F49
      refine wH_take [0, 1] [1, 0] [(13, .int .i64 (x46)), (12, .slice A0 (l0).length cap0)] (by kernel_rfl) (qT (qT (qB (qT (qL (qB (qT (qT qZ)))))))) (by kernel_rfl) ?_
      obtain ⟨x67, hx68, hm⟩ := bindE hm
      refine wH_idx (i := 2) (d := 14) (T := 32) (A := A0) (n := (l0).length) (cap := cap0) (kd := .i64) (m := x46) (by kernel_rfl) (qT (qT (qB (qT (qL (qB (qT (qT qZ)))))))) (by kernel_rfl) (by kernel_rfl) sl32 (F48.is hx68) ?_
      refine wH_loadA (i := 3) (d := 15) (T := 37) (ad := (elA A0 2 (x46) 0)) (vs := [.int .i64 (x67.1), .int .i64 (x67.2)]) (by kernel_rfl) (qT (qT (qB (qT (qL (qB (qT (qT qZ)))))))) (by kernel_rfl) (by kernel_rfl) vt37 (fun W hW i u hu => Sl.cells_at (Z65.chg hW Dj.nil) hx68 0 hu (by rfl)) ?_
      refine wH_loadA (i := 4) (d := 16) (T := 37) (ad := ⟨b2, 0, none⟩) (vs := [.int .i64 (p1_0), .int .i64 (p1_1)]) (by kernel_rfl) (qT (qT (qB (qT (qL (qB (qT (qT qZ)))))))) (by kernel_rfl) (by kernel_rfl) vt37 (fun W hW i u hu => box_cells (Z66.chg hW notNil) 0 hu (by rfl)) ?_
      refine wH_done (by kernel_rfl) ?_
      refine eX_tail ?_
      refine wS_eqS (d := 17) (T := 37) (x := x67.1) (y := x67.2) (x' := p1_0) (y' := p1_1) (by kernel_rfl) eq37 ?_
      refine wS_end (by rfl) ?_
      refine eX_then ?_
      refine cW_cond (t := x67.1 == p1_0 && x67.2 == p1_1) (by kernel_rfl) (fun hb69 => ?_) (fun hb69 => ?_)
      · have hm := condT hb69 hm
        refine cW_seq ?_
        refine cW_region ?_
        refine wS_pure 1 [(4, .bool (true))] (by kernel_rfl) ?_
        refine wS_end (by rfl) ?_
        refine eX_then ?_
        refine cW_ret ?_
        refine eX_block_ret ?_
        refine eX_then_ret ?_
        have hq : (some (Ctl.out (Sum.inr true)) : Option (Ctl (Int) (Sum (Unit) ((Bool))))) = some _ := hm
        replace hq := someE hq
        subst hq
        refine eX_outR hx55 (fun hr => ?_)
        subst hr
        refine eX_block_ret ?_
        refine eX_then_ret ?_
        refine eX_then_ret ?_
        have hq : (some true : Option ((Bool))) = some _ := hm52
        replace hq := someE hq
        subst hq
        refine eX_ret (vs := [.bool (true)]) [.tmp 4] (by rfl) ⟨by (show lkE _ _ _ = _); kernel_rfl, trivial⟩ ?_
        exact ⟨rfl, hB⟩
      · have hm := condF hb69 hm
        refine cW_skip ?_
        refine eX_block ?_
        refine eX_then ?_
        refine cW_region ?_
        refine wS_pure 3 [(5, .int .i64 (wr (x46 + 1))), (11, .int .i64 (wr (x46 + 1))), (10, .int .i64 (x46))] (by kernel_rfl) ?_
        refine wS_end (by rfl) ?_
        have hq : (some (Ctl.next (wr (x46 + 1))) : Option (Ctl (Int) (Sum (Unit) ((Bool))))) = some _ := hm
        replace hq := someE hq
        subst hq
        exact eX_next hx55 (fun hst => ⟨wr (x46 + 1), rfl, Fr.of hst (by kernel_rfl), F48, F49, hB, hZ⟩)
    · have hm := condF hb56 hm
      refine cW_exit ?_
      refine eX_then_exit ?_
      have hq : (some (Ctl.out (Sum.inl (()))) : Option (Ctl (Int) (Sum (Unit) ((Bool))))) = some _ := hm
      replace hq := someE hq
      subst hq
      refine eX_outX hx55 (fun hr70 => ?_)
      replace hr70 := hr70.symm
      subst hr70
      refine eX_block_hit ?_
      exact eX_J (fun hst => ⟨rfl, Fr.of hst (by kernel_rfl), hB, hZ⟩)
  · rintro a' w43 ⟨hJ, hF44, hB, hZ⟩
    subst hJ
    refine Fr.goX hF44 (by kernel_rfl) ?_
    refine eX_then ?_
    refine cW_seq ?_
    refine cW_region ?_
    refine wS_pure 1 [(4, .bool (false))] (by kernel_rfl) ?_
    refine wS_end (by rfl) ?_
    refine eX_then ?_
    refine cW_ret ?_
    have hq : (some false : Option ((Bool))) = some _ := hm
    replace hq := someE hq
    subst hq
    refine eX_ret (vs := [.bool (false)]) [.tmp 4] (by rfl) ⟨by (show lkE _ _ _ = _); kernel_rfl, trivial⟩ ?_
    exact ⟨rfl, hB⟩

set_option maxRecDepth 100000 in
/-- spec.SpanningTree -/
theorem c_spec_SpanningTree {w0 : World} {l0 : List (Int × Int)} {A0 : Option Addr} {cap0 : Nat} {fp0 : List Nat} {r : (List (List (Int))) × (Int) × (Bool)} (hm : m_spec_SpanningTree l0 = some r) (F0 : Sl 2 encII w0 fp0 A0 l0) (K0 : (l0).length ≤ cap0) :
    Calls Try.prog 44 #[.slice A0 (l0).length cap0] w0 fun e w' => ∃ A100 cap100 fp100 fr100, e = .returned (.tuple #[.slice A100 (r.1).length cap100, .int .i64 (r.2.1), .bool (r.2.2)]) ∧ OwR 1 encI 25 2 w' fp100 fr100 A100 cap100 r.1 ∧ (∀ x ∈ fp100 ++ fr100, w0.heap.size ≤ x) ∧ Chg [] w0 w' := by
  have L0 := F0.low
  have hB : Chg [] w0 w0 := Chg.refl _ _
  have hZ := Nat.le_refl w0.heap.size
  unfold m_spec_SpanningTree at hm
  refine enterE (N := 18) Try.func44 (by rfl) Try.ntmps44 (by simp) [(0, .slice A0 (l0).length cap0)] (by rfl) (by kernel_rfl) (fun a => ?_)
  refine cW_seq ?_
  refine cW_region ?_
  refine wS_pure 3 [(4, .bool (false)), (3, .int .i64 (0)), (2, .slice none 0 0)] (by kernel_rfl) ?_
  refine wS_end (by rfl) ?_
  refine eX_then ?_
  refine cW_seq ?_
  refine cW_seq ?_
  refine cW_region ?_
  refine wS_pure 1 [(7, .slice A0 (l0).length cap0)] (by kernel_rfl) ?_
  obtain ⟨y2, hy3, hm⟩ := bindE hm
  refine wS_calls (d := 8) (f := 107) (vs := [.slice A0 (l0).length cap0]) (by kernel_rfl) ent107 (c_spec_l05Is hy3 F0 K0) ?_
  rintro _ w4 ⟨rfl, hc5⟩
  replace F0 := F0.chg hc5 Dj.nil
  replace hB := hB.inS hc5 inNil
  replace hZ := Nat.le_trans hZ hc5.size
  refine ⟨.bool (y2), rfl, ?_⟩
  refine wS_pure 1 [(9, .bool (!y2))] (by kernel_rfl) ?_
  refine wS_end (by rfl) ?_
  refine eX_then ?_
  refine cW_cond (t := !y2) (by kernel_rfl) (fun hb6 => ?_) (fun hb6 => ?_)
  · have hm := condT hb6 hm
    refine cW_seq ?_
    refine cW_region ?_
    refine wS_pure 3 [(4, .bool (false)), (3, .int .i64 (0)), (2, .slice none 0 0)] (by kernel_rfl) ?_
    refine wS_end (by rfl) ?_
    refine eX_then ?_
    refine cW_ret ?_
    refine eX_then_ret ?_
    have hq : (some (([], 0, false)) : Option ((List (List (Int))) × (Int) × (Bool))) = some _ := hm
    replace hq := someE hq
    subst hq
    refine eX_ret (vs := [.slice none 0 0, .int .i64 (0), .bool (false)]) [.tmp 2, .tmp 3, .tmp 4] (by rfl) ⟨by (show lkE _ _ _ = _); kernel_rfl, ⟨by (show lkE _ _ _ = _); kernel_rfl, ⟨by (show lkE _ _ _ = _); kernel_rfl, trivial⟩⟩⟩ ?_
    exact ⟨none, 0, [], [], rfl, OwR.nil _, (lowApp lowNil lowNil), hB⟩
  · have hm := condF hb6 hm
    refine cW_skip ?_
    refine eX_then ?_
    refine cW_seq ?_
    refine cW_region ?_
    refine wS_pure 1 [(11, .slice A0 (l0).length cap0)] (by kernel_rfl) ?_
    obtain ⟨y7, hy8, hm⟩ := bindE hm
    refine wS_calls (d := 12) (f := 92) (vs := [.slice A0 (l0).length cap0]) (by kernel_rfl) ent92 (c_spec_l05Tree hy8 F0) ?_
    rintro _ w9 ⟨A11, cap12, fp13, fr16, rfl, F14, G15, hc10⟩
    replace F0 := F0.chg hc10 Dj.nil
    replace hB := hB.inS hc10 inNil
    replace G15 := low_le hZ G15
    replace hZ := Nat.le_trans hZ hc10.size
    refine ⟨.tuple #[.slice A11 (y7.1).length cap12, .int .i64 (y7.2)], rfl, ?_⟩
    refine wS_pure 5 [(6, .int .i64 (y7.2)), (5, .slice A11 (y7.1).length cap12), (14, .int .i64 (y7.2)), (13, .slice A11 (y7.1).length cap12), (10, .tuple #[.slice A11 (y7.1).length cap12, .int .i64 (y7.2)])] (by kernel_rfl) ?_
    refine wS_end (by rfl) ?_
    refine eX_then ?_
    refine cW_seq ?_
    refine cW_region ?_
    refine wS_pure 1 [(15, .slice A11 (y7.1).length cap12)] (by kernel_rfl) ?_
    obtain ⟨y18, hy19, hm⟩ := bindE hm
    refine wS_calls (d := 16) (f := 93) (vs := [.slice A11 (y7.1).length cap12]) (by kernel_rfl) ent93 (c_spec_l05Pairs hy19 F14) ?_
    rintro _ w20 ⟨A22, cap23, fp24, rfl, F25, G26, hc21⟩
    have G27 := lowApp (low_le hZ G26) (low_inr G15)
    replace F0 := F0.chg hc21 Dj.nil
    replace F14 := F14.chg hc21 Dj.nil
    replace hB := hB.inS hc21 inNil
    replace hZ := Nat.le_trans hZ hc21.size
    refine ⟨.slice A22 (y18).length cap23, rfl, ?_⟩
    refine wS_pure 4 [(4, .bool (true)), (3, .int .i64 (y7.2)), (2, .slice A22 (y18).length cap23), (17, .int .i64 (y7.2))] (by kernel_rfl) ?_
    refine wS_end (by rfl) ?_
    refine eX_then ?_
    refine cW_ret ?_
    have hq : (some ((y18, y7.2, true)) : Option ((List (List (Int))) × (Int) × (Bool))) = some _ := hm
    replace hq := someE hq
    subst hq
    refine eX_ret (vs := [.slice A22 (y18).length cap23, .int .i64 (y7.2), .bool (true)]) [.tmp 2, .tmp 3, .tmp 4] (by rfl) ⟨by (show lkE _ _ _ = _); kernel_rfl, ⟨by (show lkE _ _ _ = _); kernel_rfl, ⟨by (show lkE _ _ _ = _); kernel_rfl, trivial⟩⟩⟩ ?_
    exact ⟨A22, cap23, fp24, fr16, rfl, F25, G27, hB⟩

set_option maxRecDepth 100000 in
/-- laws.b10At -/
theorem c_laws_b10At {w0 : World} {l0 : List (Int)} {A0 : Option Addr} {cap0 : Nat} {fp0 : List Nat} {p1 : Int} {p2 : Int} {r : (Int)} (hm : m_laws_b10At l0 p1 p2 = some r) (F0 : Sl 1 encU w0 fp0 A0 l0) :
    Calls Try.prog 108 #[.slice A0 (l0).length cap0, .int .i64 (p1), .int .i64 (p2)] w0 fun e w' => e = .returned (.int .i64 (r)) ∧ Chg [] w0 w' := by
  have L0 := F0.low
  have hB : Chg [] w0 w0 := Chg.refl _ _
  have hZ := Nat.le_refl w0.heap.size
  unfold m_laws_b10At at hm
  refine enterE (N := 25) Try.func108 (by rfl) Try.ntmps108 (by simp) [(0, .slice A0 (l0).length cap0), (1, .int .i64 (p1)), (2, .int .i64 (p2))] (by rfl) (by kernel_rfl) (fun a => ?_)
  refine cW_seq ?_
  refine cW_region ?_
  refine wS_pure 1 [(6, .int .i64 (0))] (by kernel_rfl) ?_
  refine wS_end (by rfl) ?_
  refine eX_then ?_
  refine cW_seq ?_
  refine cW_seq ?_
  refine cW_region ?_
  refine wS_pure 2 [(8, .bool (decide (p2 ≤ 1))), (7, .int .i64 (p2))] (by kernel_rfl) ?_
  refine wS_end (by rfl) ?_
  refine eX_then ?_
  refine cW_cond (t := decide (p2 ≤ 1)) (by kernel_rfl) (fun hb2 => ?_) (fun hb2 => ?_)
  · have hm := condT hb2 hm
    refine cW_seq ?_
    refine cW_region ?_
    refine wS_pure 1 [(6, .int .i64 (0))] (by kernel_rfl) ?_
    refine wS_end (by rfl) ?_
    refine eX_then ?_
    refine cW_ret ?_
    refine eX_then_ret ?_
    have hq : (some 0 : Option ((Int))) = some _ := hm
    replace hq := someE hq
    subst hq
    refine eX_ret (vs := [.int .i64 (0)]) [.tmp 6] (by rfl) ⟨by (show lkE _ _ _ = _); kernel_rfl, trivial⟩ ?_
    exact ⟨rfl, hB⟩
  · have hm := condF hb2 hm
    refine cW_skip ?_
    refine eX_then ?_
    refine cW_seq ?_
    refine cW_seq ?_
    refine cW_region ?_
    refine wS_pure 4 [(12, .bool (decide (p1 < (((l0).length : Int))))), (11, .int .i64 (((l0).length : Int))), (10, .slice A0 (l0).length cap0), (9, .int .i64 (p1))] (by kernel_rfl) ?_
    refine wS_end (by rfl) ?_
    refine eX_then ?_
    refine cW_cond (t := decide (p1 < (((l0).length : Int)))) (by kernel_rfl) (fun hb3 => ?_) (fun hb3 => ?_)
    · have hm := condT hb3 hm
      refine cW_seq ?_
      refine cW_region ?_
      refine wS_pure 2 [(14, .int .i64 (p1)), (13, .slice A0 (l0).length cap0)] (by kernel_rfl) ?_
      obtain ⟨x4, hx5, hm⟩ := bindE hm
      refine wS_idx (d := 15) (T := 22) (A := A0) (n := (l0).length) (cap := cap0) (kd := .i64) (m := p1) (by kernel_rfl) sl22 (F0.is hx5) ?_
      refine wS_load1 (d := 16) (T := 5) (ad := (elA A0 1 (p1) 0)) (v := .int .u8 (x4)) (by kernel_rfl) vt5 (Sl.cell F0 hx5 0 (by rfl)) ?_
      refine wS_pure 2 [(18, .int .i64 (p2)), (17, .int .i64 (wr x4))] (by kernel_rfl) ?_
      obtain ⟨u6, hu7, hm⟩ := bindE hm
      refine wS_rem (d := 19) (x := wr x4) (y := p2) (by kernel_rfl) (nzE hu7) ?_
      refine wS_pure 1 [(6, .int .i64 (Int.tmod (wr x4) p2))] (by kernel_rfl) ?_
      refine wS_end (by rfl) ?_
      refine eX_then ?_
      refine cW_ret ?_
      refine eX_then_ret ?_
      have hq : (some (Int.tmod (wr x4) p2) : Option ((Int))) = some _ := hm
      replace hq := someE hq
      subst hq
      refine eX_ret (vs := [.int .i64 (Int.tmod (wr x4) p2)]) [.tmp 6] (by rfl) ⟨by (show lkE _ _ _ = _); kernel_rfl, trivial⟩ ?_
      exact ⟨rfl, hB⟩
    · have hm := condF hb3 hm
      refine cW_skip ?_
      refine eX_then ?_
      refine cW_seq ?_
      refine cW_region ?_
      refine wS_pure 4 [(23, .int .i64 (p2)), (22, .int .i64 (wr ((wr (p1 * 37)) + 11))), (21, .int .i64 (wr (p1 * 37))), (20, .int .i64 (p1))] (by kernel_rfl) ?_
      obtain ⟨u8, hu9, hm⟩ := bindE hm
      refine wS_rem (d := 24) (x := wr ((wr (p1 * 37)) + 11)) (y := p2) (by kernel_rfl) (nzE hu9) ?_
      refine wS_pure 1 [(6, .int .i64 (Int.tmod (wr ((wr (p1 * 37)) + 11)) p2))] (by kernel_rfl) ?_
      refine wS_end (by rfl) ?_
      refine eX_then ?_
      refine cW_ret ?_
      have hq : (some (Int.tmod (wr ((wr (p1 * 37)) + 11)) p2) : Option ((Int))) = some _ := hm
      replace hq := someE hq
      subst hq
      refine eX_ret (vs := [.int .i64 (Int.tmod (wr ((wr (p1 * 37)) + 11)) p2)]) [.tmp 6] (by rfl) ⟨by (show lkE _ _ _ = _); kernel_rfl, trivial⟩ ?_
      exact ⟨rfl, hB⟩

set_option maxRecDepth 100000 in
/-- laws.b10Pin -/
theorem c_laws_b10Pin {w0 : World} {l0 : List (Int)} {A0 : Option Addr} {cap0 : Nat} {fp0 : List Nat} {p1 : Int} {r : (Int × Int)} (hm : m_laws_b10Pin l0 p1 = some r) (F0 : Sl 1 encU w0 fp0 A0 l0) :
    Calls Try.prog 45 #[.slice A0 (l0).length cap0, .int .i64 (p1)] w0 fun e w' => e = .returned (.agg #[.int .i64 (r.1), .int .i64 (r.2)]) ∧ Chg [] w0 w' := by
  have L0 := F0.low
  have hB : Chg [] w0 w0 := Chg.refl _ _
  have hZ := Nat.le_refl w0.heap.size
  unfold m_laws_b10Pin at hm
  refine enterE (N := 13) Try.func45 (by rfl) Try.ntmps45 (by simp) [(0, .slice A0 (l0).length cap0), (1, .int .i64 (p1))] (by rfl) (by kernel_rfl) (fun a => ?_)
  refine cW_seq ?_
  refine cW_region ?_
  refine wS_alloc (d := 4) (T := 37) (z := .agg #[.int .i64 (0), .int .i64 (0)]) (by kernel_rfl) (by kernel_rfl) ?_
  intro b2 w3 G4 F5 hc6
  replace F5 : Cl w3 b2 37 [.int .i64 (0), .int .i64 (0)] := F5
  replace F0 := F0.chg hc6 Dj.nil
  replace hB := hB.inS hc6 inNil
  replace G4 := Nat.le_trans hZ G4
  replace hZ := Nat.le_trans hZ hc6.size
  refine wS_end (by rfl) ?_
  refine eX_then ?_
  refine cW_seq ?_
  refine cW_region ?_
  refine wS_pure 2 [(6, .int .i64 (p1)), (5, .slice A0 (l0).length cap0)] (by kernel_rfl) ?_
  obtain ⟨y8, hy9, hm⟩ := bindE hm
  refine wS_calls (d := 7) (f := 108) (vs := [.slice A0 (l0).length cap0, .int .i64 (p1), .int .i64 (10)]) (by kernel_rfl) ent108 (c_laws_b10At hy9 F0) ?_
  rintro _ w10 ⟨rfl, hc11⟩
  replace F0 := F0.chg hc11 Dj.nil
  replace F5 := F5.chg hc11 notNil
  replace hB := hB.inS hc11 inNil
  replace hZ := Nat.le_trans hZ hc11.size
  refine ⟨.int .i64 (y8), rfl, ?_⟩
  refine wS_pure 3 [(10, .int .i64 (wr (p1 + 1))), (9, .int .i64 (p1)), (8, .slice A0 (l0).length cap0)] (by kernel_rfl) ?_
  obtain ⟨y12, hy13, hm⟩ := bindE hm
  refine wS_calls (d := 11) (f := 108) (vs := [.slice A0 (l0).length cap0, .int .i64 (wr (p1 + 1)), .int .i64 (10)]) (by kernel_rfl) ent108 (c_laws_b10At hy13 F0) ?_
  rintro _ w14 ⟨rfl, hc15⟩
  replace F0 := F0.chg hc15 Dj.nil
  replace F5 := F5.chg hc15 notNil
  replace hB := hB.inS hc15 inNil
  replace hZ := Nat.le_trans hZ hc15.size
  refine ⟨.int .i64 (y12), rfl, ?_⟩
  refine wS_pure 1 [(12, .agg #[.int .i64 (y8), .int .i64 (y12)])] (by kernel_rfl) ?_
  refine wS_store (T := 37) (g := b2) (o := 0) (ad := ⟨b2, 0, none⟩) (v := .agg #[.int .i64 (y8), .int .i64 (y12)]) (vs := [.int .i64 (y8), .int .i64 (y12)]) (by kernel_rfl) (by rfl) sz37 (by rfl) (by rfl) F5 (by simp only [List.length_cons, List.length_nil]; omega) ?_
  intro w16 F17 hc18
  replace F0 := F0.chg hc18 (Dj.of L0 (low1 G4))
  replace hB := hB.inS hc18 (inLow (low1 G4))
  replace hZ := Nat.le_trans hZ hc18.size
  replace F17 : Cl w16 b2 37 [.int .i64 (y8), .int .i64 (y12)] := F17
  clear F5
  refine wS_end (by rfl) ?_
  refine eX_then ?_
  refine cW_ret ?_
  have hq : (some ((y8, y12)) : Option ((Int × Int))) = some _ := hm
  replace hq := someE hq
  subst hq
  refine eX_ret (vs := [.agg #[.int .i64 (y8), .int .i64 (y12)]]) [.cell 4 37] (by rfl) ⟨⟨⟨b2, 0, none⟩, by kernel_rfl, run_loadVarA (vs := [.int .i64 (y8), .int .i64 (y12)]) vt37 (fun i u hu => by exact box_cells F17 0 hu (by rfl))⟩, trivial⟩ ?_
  exact ⟨rfl, hB⟩

set_option maxRecDepth 100000 in
/-- impl.middle -/
theorem c_impl_middle {w0 : World} {p0 : Int} {p1 : Int} {p2 : Int} {r : (Int)} (hm : m_impl_middle p0 p1 p2 = some r)  :
    Calls Try.prog 109 #[.int .i64 (p0), .int .i64 (p1), .int .i64 (p2)] w0 fun e w' => e = .returned (.int .i64 (r)) ∧ Chg [] w0 w' := by
  have hB : Chg [] w0 w0 := Chg.refl _ _
  have hZ := Nat.le_refl w0.heap.size
  unfold m_impl_middle at hm
  refine enterE (N := 16) Try.func109 (by rfl) Try.ntmps109 (by simp) [(0, .int .i64 (p0)), (1, .int .i64 (p1)), (2, .int .i64 (p2))] (by rfl) (by kernel_rfl) (fun a => ?_)
  refine cW_seq ?_
  refine cW_region ?_
  refine wS_pure 1 [(6, .int .i64 (0))] (by kernel_rfl) ?_
  refine wS_end (by rfl) ?_
  refine eX_then ?_
  refine cW_seq ?_
  refine cW_region ?_
  refine wS_pure 10 [(6, .int .i64 (if (if p2 < (if p1 > p0 then p1 else p0) then p2 else (if p1 > p0 then p1 else p0)) > (if p1 < p0 then p1 else p0) then (if p2 < (if p1 > p0 then p1 else p0) then p2 else (if p1 > p0 then p1 else p0)) else (if p1 < p0 then p1 else p0))), (15, .int .i64 (if (if p2 < (if p1 > p0 then p1 else p0) then p2 else (if p1 > p0 then p1 else p0)) > (if p1 < p0 then p1 else p0) then (if p2 < (if p1 > p0 then p1 else p0) then p2 else (if p1 > p0 then p1 else p0)) else (if p1 < p0 then p1 else p0))), (14, .int .i64 (if p2 < (if p1 > p0 then p1 else p0) then p2 else (if p1 > p0 then p1 else p0))), (13, .int .i64 (p2)), (12, .int .i64 (if p1 > p0 then p1 else p0)), (11, .int .i64 (p1)), (10, .int .i64 (p0)), (9, .int .i64 (if p1 < p0 then p1 else p0)), (8, .int .i64 (p1)), (7, .int .i64 (p0))] (by kernel_rfl) ?_
  refine wS_end (by rfl) ?_
  refine eX_then ?_
  refine cW_ret ?_
  have hq : (some (if (if p2 < (if p1 > p0 then p1 else p0) then p2 else (if p1 > p0 then p1 else p0)) > (if p1 < p0 then p1 else p0) then (if p2 < (if p1 > p0 then p1 else p0) then p2 else (if p1 > p0 then p1 else p0)) else (if p1 < p0 then p1 else p0)) : Option ((Int))) = some _ := hm
  replace hq := someE hq
  subst hq
  refine eX_ret (vs := [.int .i64 (if (if p2 < (if p1 > p0 then p1 else p0) then p2 else (if p1 > p0 then p1 else p0)) > (if p1 < p0 then p1 else p0) then (if p2 < (if p1 > p0 then p1 else p0) then p2 else (if p1 > p0 then p1 else p0)) else (if p1 < p0 then p1 else p0))]) [.tmp 6] (by rfl) ⟨by (show lkE _ _ _ = _); kernel_rfl, trivial⟩ ?_
  exact ⟨rfl, hB⟩

set_option maxRecDepth 100000 in
/-- impl.MedianPoint -/
theorem c_impl_MedianPoint {w0 : World} {p0_0 : Int} {p0_1 : Int} {p1_0 : Int} {p1_1 : Int} {p2_0 : Int} {p2_1 : Int} {r : (Int × Int) × (Bool)} (hm : m_impl_MedianPoint p0_0 p0_1 p1_0 p1_1 p2_0 p2_1 = some r)  :
    Calls Try.prog 46 #[.agg #[.int .i64 (p0_0), .int .i64 (p0_1)], .agg #[.int .i64 (p1_0), .int .i64 (p1_1)], .agg #[.int .i64 (p2_0), .int .i64 (p2_1)]] w0 fun e w' => e = .returned (.tuple #[.agg #[.int .i64 (r.1.1), .int .i64 (r.1.2)], .bool (r.2)]) ∧ Chg [] w0 w' := by
  have hB : Chg [] w0 w0 := Chg.refl _ _
  have hZ := Nat.le_refl w0.heap.size
  unfold m_impl_MedianPoint at hm
  refine enterE (N := 37) Try.func46 (by rfl) Try.ntmps46 (by simp) [(0, .agg #[.int .i64 (p0_0), .int .i64 (p0_1)]), (1, .agg #[.int .i64 (p1_0), .int .i64 (p1_1)]), (2, .agg #[.int .i64 (p2_0), .int .i64 (p2_1)])] (by rfl) (by kernel_rfl) (fun a => ?_)
  refine cW_seq ?_
  refine cW_region ?_
  refine wS_box (d := 3) (T := 37) (x := .agg #[.int .i64 (p0_0), .int .i64 (p0_1)]) (by kernel_rfl) ?_
  intro b1 w2 G3 F4 hc5
  replace F4 : Cl w2 b1 37 [.int .i64 (p0_0), .int .i64 (p0_1)] := F4
  replace hB := hB.inS hc5 inNil
  replace G3 := Nat.le_trans hZ G3
  replace hZ := Nat.le_trans hZ hc5.size
  refine wS_box (d := 4) (T := 37) (x := .agg #[.int .i64 (p1_0), .int .i64 (p1_1)]) (by kernel_rfl) ?_
  intro b7 w8 G9 F10 hc11
  replace F10 : Cl w8 b7 37 [.int .i64 (p1_0), .int .i64 (p1_1)] := F10
  have D13 : Dj [b1] [b7] := Dj.of (lt1 F4.lt) (low1 G9)
  replace F4 := F4.chg hc11 notNil
  replace hB := hB.inS hc11 inNil
  replace G9 := Nat.le_trans hZ G9
  replace hZ := Nat.le_trans hZ hc11.size
  refine wS_box (d := 5) (T := 37) (x := .agg #[.int .i64 (p2_0), .int .i64 (p2_1)]) (by kernel_rfl) ?_
  intro b14 w15 G16 F17 hc18
  replace F17 : Cl w15 b14 37 [.int .i64 (p2_0), .int .i64 (p2_1)] := F17
  have D20 : Dj [b1] [b14] := Dj.of (lt1 F4.lt) (low1 G16)
  have D21 : Dj [b7] [b14] := Dj.of (lt1 F10.lt) (low1 G16)
  replace F4 := F4.chg hc18 notNil
  replace F10 := F10.chg hc18 notNil
  replace hB := hB.inS hc18 inNil
  replace G16 := Nat.le_trans hZ G16
  replace hZ := Nat.le_trans hZ hc18.size
  refine wS_alloc (d := 6) (T := 37) (z := .agg #[.int .i64 (0), .int .i64 (0)]) (by kernel_rfl) (by kernel_rfl) ?_
  intro b22 w23 G24 F25 hc26
  replace F25 : Cl w23 b22 37 [.int .i64 (0), .int .i64 (0)] := F25
  have D28 : Dj [b1] [b22] := Dj.of (lt1 F4.lt) (low1 G24)
  have D29 : Dj [b7] [b22] := Dj.of (lt1 F10.lt) (low1 G24)
  have D30 : Dj [b14] [b22] := Dj.of (lt1 F17.lt) (low1 G24)
  replace F4 := F4.chg hc26 notNil
  replace F10 := F10.chg hc26 notNil
  replace F17 := F17.chg hc26 notNil
  replace hB := hB.inS hc26 inNil
  replace G24 := Nat.le_trans hZ G24
  replace hZ := Nat.le_trans hZ hc26.size
  refine wS_pure 1 [(7, .bool (false))] (by kernel_rfl) ?_
  refine wS_end (by rfl) ?_
  refine eX_then ?_
  refine cW_seq ?_
  refine cW_seq ?_
  refine cW_region ?_
  refine wS_loadA (d := 8) (T := 37) (ad := ⟨b1, 0, none⟩) (vs := [.int .i64 (p0_0), .int .i64 (p0_1)]) (by kernel_rfl) vt37 (fun i u hu => box_cells F4 0 hu (by rfl)) ?_
  obtain ⟨y31, hy32, hm⟩ := bindE hm
  refine wS_calls (d := 9) (f := 84) (vs := [.agg #[.int .i64 (p0_0), .int .i64 (p0_1)]]) (by kernel_rfl) ent84 (c_impl_IsPoint hy32) ?_
  rintro _ w33 ⟨rfl, hc34⟩
  replace F4 := F4.chg hc34 notNil
  replace F10 := F10.chg hc34 notNil
  replace F17 := F17.chg hc34 notNil
  replace F25 := F25.chg hc34 notNil
  replace hB := hB.inS hc34 inNil
  replace hZ := Nat.le_trans hZ hc34.size
  refine ⟨.bool (y31), rfl, ?_⟩
  refine wS_pure 2 [(11, .bool (!y31)), (10, .bool (!y31))] (by kernel_rfl) ?_
  refine wS_bool (!y31) (fun hb35 => ?_) (fun hb35 => ?_)
  · have hm := condT hb35 hm
    rewrite [hb35]
    refine wS_pure 9 [(20, .bool (true)), (19, undef), (18, undef), (17, undef), (16, .bool (true)), (15, .bool (true)), (14, undef), (13, undef), (12, undef)] (by kernel_rfl) ?_
    refine wS_end (by rfl) ?_
    refine eX_then ?_
    refine cW_cond_t (by kernel_rfl) ?_
    refine cW_seq ?_
    refine cW_region ?_
    refine wS_pure 1 [(21, .agg #[.int .i64 (0), .int .i64 (0)])] (by kernel_rfl) ?_
    refine wS_store (T := 37) (g := b22) (o := 0) (ad := ⟨b22, 0, none⟩) (v := .agg #[.int .i64 (0), .int .i64 (0)]) (vs := [.int .i64 (0), .int .i64 (0)]) (by kernel_rfl) (by rfl) sz37 (by rfl) (by rfl) F25 (by simp only [List.length_cons, List.length_nil]; omega) ?_
    intro w36 F37 hc38
    replace F4 := F4.chg hc38 (dj1 D28)
    replace F10 := F10.chg hc38 (dj1 D29)
    replace F17 := F17.chg hc38 (dj1 D30)
    replace hB := hB.inS hc38 (inLow (low1 G24))
    replace hZ := Nat.le_trans hZ hc38.size
    replace F37 : Cl w36 b22 37 [.int .i64 (0), .int .i64 (0)] := F37
    clear F25
    refine wS_pure 1 [(7, .bool (false))] (by kernel_rfl) ?_
    refine wS_end (by rfl) ?_
    refine eX_then ?_
    refine cW_ret ?_
    refine eX_then_ret ?_
    have hq : (some (((0, 0), false)) : Option ((Int × Int) × (Bool))) = some _ := hm
    replace hq := someE hq
    subst hq
    refine eX_ret (vs := [.agg #[.int .i64 (0), .int .i64 (0)], .bool (false)]) [.cell 6 37, .tmp 7] (by rfl) ⟨⟨⟨b22, 0, none⟩, by kernel_rfl, run_loadVarA (vs := [.int .i64 (0), .int .i64 (0)]) vt37 (fun i u hu => by exact box_cells F37 0 hu (by rfl))⟩, ⟨by (show lkE _ _ _ = _); kernel_rfl, trivial⟩⟩ ?_
    exact ⟨rfl, hB⟩
  · have hm := condF hb35 hm
    rewrite [hb35]
    refine wS_loadA (d := 12) (T := 37) (ad := ⟨b7, 0, none⟩) (vs := [.int .i64 (p1_0), .int .i64 (p1_1)]) (by kernel_rfl) vt37 (fun i u hu => box_cells F10 0 hu (by rfl)) ?_
    obtain ⟨y39, hy40, hm⟩ := bindE hm
    refine wS_calls (d := 13) (f := 84) (vs := [.agg #[.int .i64 (p1_0), .int .i64 (p1_1)]]) (by kernel_rfl) ent84 (c_impl_IsPoint hy40) ?_
    rintro _ w41 ⟨rfl, hc42⟩
    replace F4 := F4.chg hc42 notNil
    replace F10 := F10.chg hc42 notNil
    replace F17 := F17.chg hc42 notNil
    replace F25 := F25.chg hc42 notNil
    replace hB := hB.inS hc42 inNil
    replace hZ := Nat.le_trans hZ hc42.size
    refine ⟨.bool (y39), rfl, ?_⟩
    refine wS_pure 3 [(16, .bool (!y39)), (15, .bool (!y39)), (14, .bool (!y39))] (by kernel_rfl) ?_
    refine wS_bool (!y39) (fun hb43 => ?_) (fun hb43 => ?_)
    · have hm := condT hb43 hm
      rewrite [hb43]
      refine wS_pure 4 [(20, .bool (true)), (19, undef), (18, undef), (17, undef)] (by kernel_rfl) ?_
      refine wS_end (by rfl) ?_
      refine eX_then ?_
      refine cW_cond_t (by kernel_rfl) ?_
      refine cW_seq ?_
      refine cW_region ?_
      refine wS_pure 1 [(21, .agg #[.int .i64 (0), .int .i64 (0)])] (by kernel_rfl) ?_
      refine wS_store (T := 37) (g := b22) (o := 0) (ad := ⟨b22, 0, none⟩) (v := .agg #[.int .i64 (0), .int .i64 (0)]) (vs := [.int .i64 (0), .int .i64 (0)]) (by kernel_rfl) (by rfl) sz37 (by rfl) (by rfl) F25 (by simp only [List.length_cons, List.length_nil]; omega) ?_
      intro w44 F45 hc46
      replace F4 := F4.chg hc46 (dj1 D28)
      replace F10 := F10.chg hc46 (dj1 D29)
      replace F17 := F17.chg hc46 (dj1 D30)
      replace hB := hB.inS hc46 (inLow (low1 G24))
      replace hZ := Nat.le_trans hZ hc46.size
      replace F45 : Cl w44 b22 37 [.int .i64 (0), .int .i64 (0)] := F45
      clear F25
      refine wS_pure 1 [(7, .bool (false))] (by kernel_rfl) ?_
      refine wS_end (by rfl) ?_
      refine eX_then ?_
      refine cW_ret ?_
      refine eX_then_ret ?_
      have hq : (some (((0, 0), false)) : Option ((Int × Int) × (Bool))) = some _ := hm
      replace hq := someE hq
      subst hq
      refine eX_ret (vs := [.agg #[.int .i64 (0), .int .i64 (0)], .bool (false)]) [.cell 6 37, .tmp 7] (by rfl) ⟨⟨⟨b22, 0, none⟩, by kernel_rfl, run_loadVarA (vs := [.int .i64 (0), .int .i64 (0)]) vt37 (fun i u hu => by exact box_cells F45 0 hu (by rfl))⟩, ⟨by (show lkE _ _ _ = _); kernel_rfl, trivial⟩⟩ ?_
      exact ⟨rfl, hB⟩
    · have hm := condF hb43 hm
      rewrite [hb43]
      refine wS_loadA (d := 17) (T := 37) (ad := ⟨b14, 0, none⟩) (vs := [.int .i64 (p2_0), .int .i64 (p2_1)]) (by kernel_rfl) vt37 (fun i u hu => box_cells F17 0 hu (by rfl)) ?_
      obtain ⟨y47, hy48, hm⟩ := bindE hm
      refine wS_calls (d := 18) (f := 84) (vs := [.agg #[.int .i64 (p2_0), .int .i64 (p2_1)]]) (by kernel_rfl) ent84 (c_impl_IsPoint hy48) ?_
      rintro _ w49 ⟨rfl, hc50⟩
      replace F4 := F4.chg hc50 notNil
      replace F10 := F10.chg hc50 notNil
      replace F17 := F17.chg hc50 notNil
      replace F25 := F25.chg hc50 notNil
      replace hB := hB.inS hc50 inNil
      replace hZ := Nat.le_trans hZ hc50.size
      refine ⟨.bool (y47), rfl, ?_⟩
      refine wS_pure 2 [(20, .bool (!y47)), (19, .bool (!y47))] (by kernel_rfl) ?_
      refine wS_end (by rfl) ?_
      refine eX_then ?_
      refine cW_cond (t := !y47) (by kernel_rfl) (fun hb51 => ?_) (fun hb51 => ?_)
      · have hm := condT hb51 hm
        refine cW_seq ?_
        refine cW_region ?_
        refine wS_pure 1 [(21, .agg #[.int .i64 (0), .int .i64 (0)])] (by kernel_rfl) ?_
        refine wS_store (T := 37) (g := b22) (o := 0) (ad := ⟨b22, 0, none⟩) (v := .agg #[.int .i64 (0), .int .i64 (0)]) (vs := [.int .i64 (0), .int .i64 (0)]) (by kernel_rfl) (by rfl) sz37 (by rfl) (by rfl) F25 (by simp only [List.length_cons, List.length_nil]; omega) ?_
        intro w52 F53 hc54
        replace F4 := F4.chg hc54 (dj1 D28)
        replace F10 := F10.chg hc54 (dj1 D29)
        replace F17 := F17.chg hc54 (dj1 D30)
        replace hB := hB.inS hc54 (inLow (low1 G24))
        replace hZ := Nat.le_trans hZ hc54.size
        replace F53 : Cl w52 b22 37 [.int .i64 (0), .int .i64 (0)] := F53
        clear F25
        refine wS_pure 1 [(7, .bool (false))] (by kernel_rfl) ?_
        refine wS_end (by rfl) ?_
        refine eX_then ?_
        refine cW_ret ?_
        refine eX_then_ret ?_
        have hq : (some (((0, 0), false)) : Option ((Int × Int) × (Bool))) = some _ := hm
        replace hq := someE hq
        subst hq
        refine eX_ret (vs := [.agg #[.int .i64 (0), .int .i64 (0)], .bool (false)]) [.cell 6 37, .tmp 7] (by rfl) ⟨⟨⟨b22, 0, none⟩, by kernel_rfl, run_loadVarA (vs := [.int .i64 (0), .int .i64 (0)]) vt37 (fun i u hu => by exact box_cells F53 0 hu (by rfl))⟩, ⟨by (show lkE _ _ _ = _); kernel_rfl, trivial⟩⟩ ?_
        exact ⟨rfl, hB⟩
      · have hm := condF hb51 hm
        refine cW_skip ?_
        refine eX_then ?_
        refine cW_seq ?_
        refine cW_drawnTail [] 13 (by kernel_rfl) (by kernel_rfl) (fun w72 hc73 => ?_)
        replace F4 := F4.chg hc73 notNil
        replace F10 := F10.chg hc73 notNil
        replace F17 := F17.chg hc73 notNil
        replace F25 := F25.chg hc73 notNil
        replace hB := hB.inS hc73 inNil
        replace hZ := Nat.le_trans hZ hc73.size
        have hS := Chg.refl [] w72
        have Z74 := F4
        have Z75 := F10
        have Z76 := F17
        have Z77 := F25
        refine wH_take [0] [0] [(22, .pointer (some ⟨b1, 0, none⟩))] (by kernel_rfl) (qT (qT qZ)) (by kernel_rfl) ?_
        refine wH_load1 (i := 1) (d := 23) (T := 2) (ad := ⟨b1, 0, none⟩) (v := .int .i64 (p0_0)) (by kernel_rfl) (qT (qT qZ)) (by kernel_rfl) (by kernel_rfl) vt2 (fun W hW => (Z74.chg hW notNil).cell 0) ?_
        refine wH_take [2] [2, 1, 0] [(24, .pointer (some ⟨b7, 0, none⟩))] (by kernel_rfl) (qT (qT qZ)) (by kernel_rfl) ?_
        refine wH_load1 (i := 3) (d := 25) (T := 2) (ad := ⟨b7, 0, none⟩) (v := .int .i64 (p1_0)) (by kernel_rfl) (qT (qT qZ)) (by kernel_rfl) (by kernel_rfl) vt2 (fun W hW => (Z75.chg hW notNil).cell 0) ?_
        refine wH_take [4] [4, 3, 2, 1, 0] [(26, .pointer (some ⟨b14, 0, none⟩))] (by kernel_rfl) (qT (qT qZ)) (by kernel_rfl) ?_
        refine wH_load1 (i := 5) (d := 27) (T := 2) (ad := ⟨b14, 0, none⟩) (v := .int .i64 (p2_0)) (by kernel_rfl) (qT (qT qZ)) (by kernel_rfl) (by kernel_rfl) vt2 (fun W hW => (Z76.chg hW notNil).cell 0) ?_
        refine wH_take [7] [7, 5, 4, 3, 2, 1, 0] [(29, .pointer (some ⟨b1, 1, none⟩))] (by kernel_rfl) (qT (qT qZ)) (by kernel_rfl) ?_
        refine wH_load1 (i := 8) (d := 30) (T := 2) (ad := ⟨b1, 1, none⟩) (v := .int .i64 (p0_1)) (by kernel_rfl) (qT (qT qZ)) (by kernel_rfl) (by kernel_rfl) vt2 (fun W hW => (Z74.chg hW notNil).cell 1) ?_
        refine wH_take [9] [9, 8, 7, 5, 4, 3, 2, 1, 0] [(31, .pointer (some ⟨b7, 1, none⟩))] (by kernel_rfl) (qT (qT qZ)) (by kernel_rfl) ?_
        refine wH_load1 (i := 10) (d := 32) (T := 2) (ad := ⟨b7, 1, none⟩) (v := .int .i64 (p1_1)) (by kernel_rfl) (qT (qT qZ)) (by kernel_rfl) (by kernel_rfl) vt2 (fun W hW => (Z75.chg hW notNil).cell 1) ?_
        refine wH_take [11] [11, 10, 9, 8, 7, 5, 4, 3, 2, 1, 0] [(33, .pointer (some ⟨b14, 1, none⟩))] (by kernel_rfl) (qT (qT qZ)) (by kernel_rfl) ?_
        refine wH_load1 (i := 12) (d := 34) (T := 2) (ad := ⟨b14, 1, none⟩) (v := .int .i64 (p2_1)) (by kernel_rfl) (qT (qT qZ)) (by kernel_rfl) (by kernel_rfl) vt2 (fun W hW => (Z76.chg hW notNil).cell 1) ?_
        refine wH_all [6] (by rfl) (by kernel_rfl) (by simp) ⟨⟨by kernel_rfl, ?_⟩, trivial⟩
        obtain ⟨y78, hy79, hm⟩ := bindE hm
        refine wS_calls (d := 28) (f := 109) (vs := [.int .i64 (p0_0), .int .i64 (p1_0), .int .i64 (p2_0)]) (by kernel_rfl) ent109 (c_impl_middle hy79) ?_
        rintro _ w80 ⟨rfl, hc81⟩
        replace F4 := F4.chg hc81 notNil
        replace F10 := F10.chg hc81 notNil
        replace F17 := F17.chg hc81 notNil
        replace F25 := F25.chg hc81 notNil
        replace hB := hB.inS hc81 inNil
        have hSz := hS
        replace hS := hS.inS hc81 inNil
        replace hZ := Nat.le_trans hZ hc81.size
        refine ⟨.int .i64 (y78), rfl, ?_⟩
        refine wS_end (by kernel_rfl) ?_
        refine eX_KH hS ?_
        refine wH_done (by kernel_rfl) ?_
        refine eX_tail ?_
        obtain ⟨y82, hy83, hm⟩ := bindE hm
        refine wS_calls (d := 35) (f := 109) (vs := [.int .i64 (p0_1), .int .i64 (p1_1), .int .i64 (p2_1)]) (by kernel_rfl) ent109 (c_impl_middle hy83) ?_
        rintro _ w84 ⟨rfl, hc85⟩
        replace F4 := F4.chg hc85 notNil
        replace F10 := F10.chg hc85 notNil
        replace F17 := F17.chg hc85 notNil
        replace F25 := F25.chg hc85 notNil
        replace hB := hB.inS hc85 inNil
        replace hZ := Nat.le_trans hZ hc85.size
        refine ⟨.int .i64 (y82), rfl, ?_⟩
        refine wS_pure 1 [(36, .agg #[.int .i64 (y78), .int .i64 (y82)])] (by kernel_rfl) ?_
        refine wS_store (T := 37) (g := b22) (o := 0) (ad := ⟨b22, 0, none⟩) (v := .agg #[.int .i64 (y78), .int .i64 (y82)]) (vs := [.int .i64 (y78), .int .i64 (y82)]) (by kernel_rfl) (by rfl) sz37 (by rfl) (by rfl) F25 (by simp only [List.length_cons, List.length_nil]; omega) ?_
        intro w86 F87 hc88
        replace F4 := F4.chg hc88 (dj1 D28)
        replace F10 := F10.chg hc88 (dj1 D29)
        replace F17 := F17.chg hc88 (dj1 D30)
        replace hB := hB.inS hc88 (inLow (low1 G24))
        replace hZ := Nat.le_trans hZ hc88.size
        replace F87 : Cl w86 b22 37 [.int .i64 (y78), .int .i64 (y82)] := F87
        clear F25
        refine wS_pure 1 [(7, .bool (true))] (by kernel_rfl) ?_
        refine wS_end (by rfl) ?_
        refine eX_then ?_
        refine cW_prune [(6, .pointer (some ⟨b22, 0, none⟩)), (7, .bool (true))] (by kernel_rfl) (by kernel_rfl) (fun a89 => ?_)
        refine cW_ret ?_
        have hq : (some (((y78, y82), true)) : Option ((Int × Int) × (Bool))) = some _ := hm
        replace hq := someE hq
        subst hq
        refine eX_ret (vs := [.agg #[.int .i64 (y78), .int .i64 (y82)], .bool (true)]) [.cell 6 37, .tmp 7] (by rfl) ⟨⟨⟨b22, 0, none⟩, by kernel_rfl, run_loadVarA (vs := [.int .i64 (y78), .int .i64 (y82)]) vt37 (fun i u hu => by exact box_cells F87 0 hu (by rfl))⟩, ⟨by (show lkE _ _ _ = _); kernel_rfl, trivial⟩⟩ ?_
        exact ⟨rfl, hB⟩

set_option maxRecDepth 100000 in
/-- slices.Clone[[]int64,int64] -/
theorem c_slices_Clone_int64_int64 {w0 : World} {l0 : List (Int)} {A0 : Option Addr} {cap0 : Nat} {fp0 : List Nat} {r : (List (Int))} (hm : m_slices_Clone_int64_int64 l0 = some r) (F0 : Sl 1 encI w0 fp0 A0 l0) :
    Calls Try.prog 168 #[.slice A0 (l0).length cap0] w0 fun e w' => ∃ A100 cap100 fp100, e = .returned (.slice A100 (r).length cap100) ∧ Ow 1 encI 2 w' fp100 A100 cap100 r ∧ (∀ x ∈ fp100, w0.heap.size ≤ x) ∧ Chg [] w0 w' := by
  have L0 := F0.low
  have hB : Chg [] w0 w0 := Chg.refl _ _
  have hZ := Nat.le_refl w0.heap.size
  unfold m_slices_Clone_int64_int64 at hm
  refine enterE (N := 8) Try.func168 (by rfl) Try.ntmps168 (by simp) [(0, .slice A0 (l0).length cap0)] (by rfl) (by kernel_rfl) (fun a => ?_)
  refine cW_seq ?_
  refine cW_region ?_
  refine wS_pure 1 [(2, .slice none 0 0)] (by kernel_rfl) ?_
  refine wS_end (by rfl) ?_
  refine eX_then ?_
  refine cW_seq ?_
  refine cW_seq ?_
  refine cW_region ?_
  refine wS_pure 1 [(3, .slice A0 (l0).length cap0)] (by kernel_rfl) ?_
  rcases A0 with _ | ad2
  · have hl3 := F0.none_nil
    subst hl3
    replace hm : (some ([])) = some _ := Eq.trans (by kernel_rfl) hm
    refine wS_pure 1 [(4, .bool (true))] (by kernel_rfl) ?_
    refine wS_end (by rfl) ?_
    refine eX_then ?_
    refine cW_cond_t (by kernel_rfl) ?_
    refine cW_seq ?_
    refine cW_region ?_
    refine wS_pure 1 [(2, .slice none 0 0)] (by kernel_rfl) ?_
    refine wS_end (by rfl) ?_
    refine eX_then ?_
    refine cW_ret ?_
    refine eX_then_ret ?_
    have hq : (some ([]) : Option ((List (Int)))) = some _ := hm
    replace hq := someE hq
    subst hq
    refine eX_ret (vs := [.slice none 0 0]) [.tmp 2] (by rfl) ⟨by (show lkE _ _ _ = _); kernel_rfl, trivial⟩ ?_
    exact ⟨none, 0, [], rfl, Ow.nil _, lowNil, hB⟩
  · skip
    refine wS_pure 1 [(4, .bool (false))] (by kernel_rfl) ?_
    refine wS_end (by rfl) ?_
    refine eX_then ?_
    refine cW_cond_f (by kernel_rfl) ?_
    refine cW_skip ?_
    refine eX_then ?_
    refine cW_seq ?_
    refine cW_region ?_
    refine wS_bs0 (α := Int) (enc := encI) (d := 5) (t := 25) (T := 2) (by kernel_rfl) el25 ?_
    intro b4 w5 G6 F7 hc8
    replace F0 := F0.chg hc8 Dj.nil
    replace hB := hB.inS hc8 inNil
    replace G6 := Nat.le_trans hZ G6
    replace G6 := low1 G6
    replace hZ := Nat.le_trans hZ hc8.size
    refine wS_pure 1 [(6, .slice (some ad2) (l0).length cap0)] (by kernel_rfl) ?_
    obtain ⟨_, hk10, hm⟩ := bindE hm
    replace hk10 := apE hk10
    refine wS_appendAny (enc := encI) (l := (([] : List (Int)) : List (Int))) (l2 := (l0 : List (Int))) (d := 7) (t := 25) (T := 2) (A := (some ⟨b4, 0, none⟩)) (A2 := (some ad2)) (cap := 0) (cap2 := cap0) (by kernel_rfl) el25 encI_ok F7 F0 hk10 ?_
    intro w11 fp12 A13 cap14 F15 hc16 hp17
    have G19 := low_ap G6 hZ hp17
    replace F0 := F0.chg hc16 (Dj.of L0 G6)
    replace hB := hB.inS hc16 (inLow G6)
    replace hZ := Nat.le_trans hZ hc16.size
    refine wS_pure 1 [(2, .slice A13 ((([] : List (Int))) ++ l0).length cap14)] (by kernel_rfl) ?_
    refine wS_end (by rfl) ?_
    refine eX_then ?_
    refine cW_ret ?_
    have hq : (some ((([] : List (Int))) ++ l0) : Option ((List (Int)))) = some _ := hm
    replace hq := someE hq
    subst hq
    refine eX_ret (vs := [.slice A13 ((([] : List (Int))) ++ l0).length cap14]) [.tmp 2] (by rfl) ⟨by (show lkE _ _ _ = _); kernel_rfl, trivial⟩ ?_
    exact ⟨A13, cap14, fp12, rfl, F15, G19, hB⟩

set_option maxRecDepth 100000 in
/-- impl.steiner -/
theorem c_impl_steiner {w0 : World} {l0 : List (Int × Int)} {A0 : Option Addr} {cap0 : Nat} {fp0 : List Nat} {r : (Int)} (hm : m_impl_steiner l0 = some r) (F0 : Sl 2 encII w0 fp0 A0 l0) :
    Calls Try.prog 110 #[.slice A0 (l0).length cap0] w0 fun e w' => e = .returned (.int .i64 (r)) ∧ Chg [] w0 w' := by
  have L0 := F0.low
  have hB : Chg [] w0 w0 := Chg.refl _ _
  have hZ := Nat.le_refl w0.heap.size
  unfold m_impl_steiner at hm
  refine enterE (N := 152) Try.func110 (by rfl) Try.ntmps110 (by simp) [(0, .slice A0 (l0).length cap0)] (by rfl) (by kernel_rfl) (fun a => ?_)
  refine cW_seq ?_
  refine cW_region ?_
  refine wS_pure 1 [(2, .int .i64 (0))] (by kernel_rfl) ?_
  refine wS_end (by rfl) ?_
  refine eX_then ?_
  refine cW_seq ?_
  refine cW_region ?_
  refine wS_pure 1 [(17, .slice A0 (l0).length cap0)] (by kernel_rfl) ?_
  obtain ⟨y2, hy3, hm⟩ := bindE hm
  refine wS_calls (d := 18) (f := 105) (vs := [.slice A0 (l0).length cap0]) (by kernel_rfl) ent105 (c_impl_hanan hy3 F0) ?_
  rintro _ w4 ⟨A6, cap7, fp8, rfl, F9, G10, hc5⟩
  replace F0 := F0.chg hc5 Dj.nil
  replace hB := hB.inS hc5 inNil
  replace G10 := low_le hZ G10
  replace hZ := Nat.le_trans hZ hc5.size
  refine ⟨.slice A6 (y2).length cap7, rfl, ?_⟩
  refine wS_pure 5 [(4, .int .i64 (wr ((((l0).length : Int)) - 1))), (3, .slice A6 (y2).length cap7), (21, .int .i64 (wr ((((l0).length : Int)) - 1))), (20, .int .i64 (((l0).length : Int))), (19, .slice A0 (l0).length cap0)] (by kernel_rfl) ?_
  refine wS_end (by rfl) ?_
  refine eX_then ?_
  refine cW_seq ?_
  refine cW_seq ?_
  refine cW_region ?_
  refine wS_pure 2 [(23, .bool ((wr ((((l0).length : Int)) - 1)) == 0)), (22, .int .i64 (wr ((((l0).length : Int)) - 1)))] (by kernel_rfl) ?_
  refine wS_end (by rfl) ?_
  refine eX_then ?_
  refine cW_cond (t := (wr ((((l0).length : Int)) - 1)) == 0) (by kernel_rfl) (fun hb13 => ?_) (fun hb13 => ?_)
  · have hm := condT hb13 hm
    refine cW_seq ?_
    refine cW_region ?_
    refine wS_pure 1 [(2, .int .i64 (0))] (by kernel_rfl) ?_
    refine wS_end (by rfl) ?_
    refine eX_then ?_
    refine cW_ret ?_
    refine eX_then_ret ?_
    have hq : (some 0 : Option ((Int))) = some _ := hm
    replace hq := someE hq
    subst hq
    refine eX_ret (vs := [.int .i64 (0)]) [.tmp 2] (by rfl) ⟨by (show lkE _ _ _ = _); kernel_rfl, trivial⟩ ?_
    exact ⟨rfl, hB⟩
  · have hm := condF hb13 hm
    refine cW_skip ?_
    refine eX_then ?_
    refine cW_seq ?_
    refine cW_region ?_
    refine wS_pure 1 [(24, .int .i64 (wr ((((l0).length : Int)) - 1)))] (by kernel_rfl) ?_
    obtain ⟨u14, hu15, hm⟩ := bindE hm
    refine wS_shl (d := 25) (x := 1) (y := wr ((((l0).length : Int)) - 1)) (yk := .i64) (by kernel_rfl) (p0E hu15) ?_
    obtain ⟨_, hk16, hm⟩ := bindE hm
    replace hk16 := mkE hk16
    refine wS_makeR (T2 := 2) (k := 1) (enc := encI) (d := 26) (t := 40) (T := 25) (k1 := .i64) (k2 := .i64) (m := shlI 1 (wr ((((l0).length : Int)) - 1))) (by kernel_rfl) el40 hk16.1 hk16.2 ?_
    intro b17 w18 G19 F20 hc21
    have D23 : Dj fp8 ([b17] ++ []) := Dj.of F9.low (lowApp (low1 G19) lowNil)
    replace F0 := F0.chg hc21 Dj.nil
    replace F9 := F9.chg hc21 Dj.nil
    replace hB := hB.inS hc21 inNil
    replace G19 := Nat.le_trans hZ G19
    replace G19 := low1 G19
    replace hZ := Nat.le_trans hZ hc21.size
    replace G19 := lowApp G19 lowNil
    refine wS_pure 1 [(5, .slice (some ⟨b17, 0, none⟩) (List.replicate (Int.toNat (shlI 1 (wr ((((l0).length : Int)) - 1)))) ([] : List (Int))).length (Int.toNat (shlI 1 (wr ((((l0).length : Int)) - 1)))))] (by kernel_rfl) ?_
    refine wS_end (by rfl) ?_
    refine eX_then ?_
    refine cW_seq ?_
    refine cW_seq ?_
    refine cW_region ?_
    refine wS_pure 1 [(6, .int .i64 (1))] (by kernel_rfl) ?_
    refine wS_end (by rfl) ?_
    refine eX_then ?_
    obtain ⟨r5260, hr5261, hm⟩ := bindE hm
    have hm5262 := hm
    refine cW_cut (fun a' w' => ∃ l5234 : List (List (Int)), ∃ A5235 : Option Addr, ∃ cap5236 : Nat, ∃ fp5237 : List Nat, ∃ fr5239 : List Nat, l5234 = r5260 ∧ Fr 152 [(0, .slice A0 (l0).length cap0), (3, .slice A6 (y2).length cap7), (4, .int .i64 (wr ((((l0).length : Int)) - 1))), (5, .slice A5235 (l5234).length cap5236)] a' ∧ Sl 2 encII w' fp0 A0 l0 ∧ Ow 2 encII 37 w' fp8 A6 cap7 y2 ∧ OwR 1 encI 25 2 w' fp5237 fr5239 A5235 cap5236 l5234 ∧ (∀ x ∈ (fp5237 ++ fr5239), w0.heap.size ≤ x) ∧ Dj fp8 (fp5237 ++ fr5239) ∧ Chg [] w0 w' ∧ w0.heap.size ≤ w'.heap.size) ?_ ?_
    · refine cW_block ?_
      refine cW_loop _ (fun (s5263 : (List (List (Int))) × Int) a' w' => ∃ l5247 : List (List (Int)), ∃ A5248 : Option Addr, ∃ cap5249 : Nat, ∃ fp5250 : List Nat, ∃ fr5252 : List Nat, ∃ x5253 : Int, (l5247, x5253) = s5263 ∧ Fr 152 [(0, .slice A0 (l0).length cap0), (3, .slice A6 (y2).length cap7), (4, .int .i64 (wr ((((l0).length : Int)) - 1))), (5, .slice A5248 (l5247).length cap5249), (6, .int .i64 (x5253))] a' ∧ Sl 2 encII w' fp0 A0 l0 ∧ Ow 2 encII 37 w' fp8 A6 cap7 y2 ∧ OwR 1 encI 25 2 w' fp5250 fr5252 A5248 cap5249 l5247 ∧ (∀ x ∈ (fp5250 ++ fr5252), w0.heap.size ≤ x) ∧ Dj fp8 (fp5250 ++ fr5252) ∧ Chg [] w0 w' ∧ w0.heap.size ≤ w'.heap.size) hr5261 (fun hst => ⟨List.replicate (Int.toNat (shlI 1 (wr ((((l0).length : Int)) - 1)))) ([] : List (Int)), (some ⟨b17, 0, none⟩), (Int.toNat (shlI 1 (wr ((((l0).length : Int)) - 1)))), [b17], [], 1, rfl, Fr.of hst (by kernel_rfl), F0, F9, F20, G19, D23, hB, hZ⟩) ?_
      rintro _ c5264 a' w5246 ⟨l5247, A5248, cap5249, fp5250, fr5252, x5253, rfl, hF5254, F5255, F5256, F5257, G5258, D5259, hB, hZ⟩ hx5265
      refine Fr.goOn hF5254 (by kernel_rfl) ?_
      have hm := hx5265
      unfold m_impl_steiner_s23 at hm
      refine cW_seq ?_
      refine cW_seq ?_
      refine cW_region ?_
      refine wS_pure 2 [(28, .int .i64 (wr ((((l0).length : Int)) - 1))), (27, .int .i64 (x5253))] (by kernel_rfl) ?_
      obtain ⟨u5266, hu5267, hm⟩ := bindE hm
      refine wS_shl (d := 29) (x := 1) (y := wr ((((l0).length : Int)) - 1)) (yk := .i64) (by kernel_rfl) (p0E hu5267) ?_
      refine wS_pure 1 [(30, .bool (decide (x5253 < (shlI 1 (wr ((((l0).length : Int)) - 1))))))] (by kernel_rfl) ?_
      refine wS_end (by rfl) ?_
      refine eX_then ?_
      refine cW_cond (t := decide (x5253 < (shlI 1 (wr ((((l0).length : Int)) - 1))))) (by kernel_rfl) (fun hb5268 => ?_) (fun hb5268 => ?_)
      · have hm := condT hb5268 hm
        refine cW_skip ?_
        refine eX_then ?_
        refine cW_seq ?_
        refine cW_block ?_
        refine cW_seq ?_
        refine cW_region ?_
        refine wS_pure 2 [(34, .int .i64 (((y2).length : Int))), (33, .slice A6 (y2).length cap7)] (by kernel_rfl) ?_
        obtain ⟨_, hk5269, hm⟩ := bindE hm
        replace hk5269 := mkE hk5269
        refine wS_make (enc := encI) (x0 := (0 : Int)) (d := 35) (t := 25) (T := 2) (k1 := .i64) (k2 := .i64) (m := ((y2).length : Int)) (by kernel_rfl) el25 encI_ok (by rfl) hk5269.1 hk5269.2 ?_
        intro b5270 w5271 G5272 F5273 hc5274
        have D5276 : Dj fp8 [b5270] := Dj.of F5256.low (low1 G5272)
        have D5277 : Dj (fp5250 ++ fr5252) [b5270] := Dj.of F5257.low (low1 G5272)
        replace F5255 := F5255.chg hc5274 Dj.nil
        replace F5256 := F5256.chg hc5274 Dj.nil
        replace F5257 := F5257.chg hc5274 Dj.nil
        replace hB := hB.inS hc5274 inNil
        replace G5272 := Nat.le_trans hZ G5272
        replace G5272 := low1 G5272
        replace hZ := Nat.le_trans hZ hc5274.size
        refine wS_pure 1 [(7, .slice (some ⟨b5270, 0, none⟩) (List.replicate (Int.toNat (((y2).length : Int))) ((0 : Int))).length (Int.toNat (((y2).length : Int))))] (by kernel_rfl) ?_
        refine wS_end (by rfl) ?_
        refine eX_then ?_
        refine cW_seq ?_
        refine cW_seq ?_
        refine cW_region ?_
        refine wS_pure 3 [(38, .int .i64 (0)), (37, .int .i64 (((y2).length : Int))), (36, .slice A6 (y2).length cap7)] (by kernel_rfl) ?_
        refine wS_end (by rfl) ?_
        refine eX_then ?_
        obtain ⟨r6477, hr6478, hm⟩ := bindE hm
        have hm6479 := hm
        refine cW_cut (fun a' w' => ∃ l6463 : List (Int), l6463 = r6477 ∧ Fr 152 [(0, .slice A0 (l0).length cap0), (3, .slice A6 (y2).length cap7), (4, .int .i64 (wr ((((l0).length : Int)) - 1))), (5, .slice A5248 (l5247).length cap5249), (6, .int .i64 (x5253)), (7, .slice (some ⟨b5270, 0, none⟩) (l6463).length (Int.toNat (((y2).length : Int))))] a' ∧ Sl 2 encII w' fp0 A0 l0 ∧ Ow 2 encII 37 w' fp8 A6 cap7 y2 ∧ OwR 1 encI 25 2 w' fp5250 fr5252 A5248 cap5249 l5247 ∧ Ow 1 encI 2 w' [b5270] (some ⟨b5270, 0, none⟩) (Int.toNat (((y2).length : Int))) l6463 ∧ Chg [] w0 w' ∧ w0.heap.size ≤ w'.heap.size) ?_ ?_
        · refine cW_block ?_
          refine cW_loop _ (fun (s6480 : Int × (List (Int))) a' w' => ∃ x6470 : Int, ∃ l6471 : List (Int), (x6470, l6471) = s6480 ∧ Fr 152 [(0, .slice A0 (l0).length cap0), (3, .slice A6 (y2).length cap7), (4, .int .i64 (wr ((((l0).length : Int)) - 1))), (5, .slice A5248 (l5247).length cap5249), (6, .int .i64 (x5253)), (7, .slice (some ⟨b5270, 0, none⟩) (l6471).length (Int.toNat (((y2).length : Int)))), (36, .slice A6 (y2).length cap7), (37, .int .i64 (((y2).length : Int))), (38, .int .i64 (x6470))] a' ∧ Sl 2 encII w' fp0 A0 l0 ∧ Ow 2 encII 37 w' fp8 A6 cap7 y2 ∧ OwR 1 encI 25 2 w' fp5250 fr5252 A5248 cap5249 l5247 ∧ Ow 1 encI 2 w' [b5270] (some ⟨b5270, 0, none⟩) (Int.toNat (((y2).length : Int))) l6471 ∧ Chg [] w0 w' ∧ w0.heap.size ≤ w'.heap.size) hr6478 (fun hst => ⟨0, List.replicate (Int.toNat (((y2).length : Int))) ((0 : Int)), rfl, Fr.of hst (by kernel_rfl), F5255, F5256, F5257, F5273, hB, hZ⟩) ?_
          rintro _ c6481 a' w6469 ⟨x6470, l6471, rfl, hF6472, F6473, F6474, F6475, F6476, hB, hZ⟩ hx6482
          refine Fr.goOn hF6472 (by kernel_rfl) ?_
          have hm := hx6482
          unfold m_impl_steiner_s28 at hm
          refine cW_seq ?_
          refine cW_region ?_
          refine wS_pure 1 [(39, .bool (decide (x6470 < (((y2).length : Int)))))] (by kernel_rfl) ?_
          refine wS_end (by rfl) ?_
          refine eX_then ?_
          refine cW_seq ?_
          refine cW_cond (t := decide (x6470 < (((y2).length : Int)))) (by kernel_rfl) (fun hb6483 => ?_) (fun hb6483 => ?_)
          · have hm := condT hb6483 hm
            refine cW_skip ?_
            refine eX_then ?_
            refine cW_seq ?_
            refine cW_block ?_
            refine cW_seq ?_
            refine cW_region ?_
            refine wS_pure 1 [(40, .int .i64 (x6470))] (by kernel_rfl) ?_
            obtain ⟨x6484, hx6485, hm⟩ := bindE hm
            refine wS_idx (d := 41) (T := 32) (A := A6) (n := (y2).length) (cap := cap7) (kd := .i64) (m := x6470) (by kernel_rfl) sl32 ((F6474.sl encII_ok).is hx6485) ?_
            refine wS_loadA (d := 42) (T := 37) (ad := (elA A6 2 (x6470) 0)) (vs := [.int .i64 (x6484.1), .int .i64 (x6484.2)]) (by kernel_rfl) vt37 (fun i u hu => Sl.cells_at (F6474.sl encII_ok) hx6485 0 hu (by rfl)) ?_
            refine wS_alloc (d := 9) (T := 37) (z := .agg #[.int .i64 (0), .int .i64 (0)]) (by kernel_rfl) (by kernel_rfl) ?_
            intro b6486 w6487 G6488 F6489 hc6490
            replace F6489 : Cl w6487 b6486 37 [.int .i64 (0), .int .i64 (0)] := F6489
            have D6492 : Dj fp8 [b6486] := Dj.of F6474.low (low1 G6488)
            have D6493 : Dj (fp5250 ++ fr5252) [b6486] := Dj.of F6475.low (low1 G6488)
            have D6494 : Dj [b5270] [b6486] := Dj.of F6476.low (low1 G6488)
            replace F6473 := F6473.chg hc6490 Dj.nil
            replace F6474 := F6474.chg hc6490 Dj.nil
            replace F6475 := F6475.chg hc6490 Dj.nil
            replace F6476 := F6476.chg hc6490 Dj.nil
            replace hB := hB.inS hc6490 inNil
            replace G6488 := Nat.le_trans hZ G6488
            replace hZ := Nat.le_trans hZ hc6490.size
            refine wS_pure 1 [(8, .int .i64 (x6470))] (by kernel_rfl) ?_
            refine wS_store (T := 37) (g := b6486) (o := 0) (ad := ⟨b6486, 0, none⟩) (v := .agg #[.int .i64 (x6484.1), .int .i64 (x6484.2)]) (vs := [.int .i64 (x6484.1), .int .i64 (x6484.2)]) (by kernel_rfl) (by rfl) sz37 (by rfl) (by rfl) F6489 (by simp only [List.length_cons, List.length_nil]; omega) ?_
            intro w6495 F6496 hc6497
            replace F6473 := F6473.chg hc6497 (Dj.of L0 (low1 G6488))
            replace F6474 := F6474.chg hc6497 D6492
            replace F6475 := F6475.chg hc6497 D6493
            replace F6476 := F6476.chg hc6497 D6494
            replace hB := hB.inS hc6497 (inLow (low1 G6488))
            replace hZ := Nat.le_trans hZ hc6497.size
            replace F6496 : Cl w6495 b6486 37 [.int .i64 (x6484.1), .int .i64 (x6484.2)] := F6496
            clear F6489
            refine wS_end (by rfl) ?_
            refine eX_then ?_
            refine cW_seq ?_
            refine cW_region ?_
            refine wS_pure 2 [(44, .int .i64 (x6470)), (43, .slice (some ⟨b5270, 0, none⟩) (l6471).length (Int.toNat (((y2).length : Int))))] (by kernel_rfl) ?_
            obtain ⟨x6498, hx6499, hm⟩ := bindE hm
            refine wS_idx (d := 45) (T := 25) (A := (some ⟨b5270, 0, none⟩)) (n := (l6471).length) (cap := (Int.toNat (((y2).length : Int)))) (kd := .i64) (m := x6470) (by kernel_rfl) sl25 ((F6476.sl encI_ok).is hx6499) ?_
            refine wS_storeEl (x := x6498) 1000000000 (T := 2) (U := 2) (cap := (Int.toNat (((y2).length : Int)))) (j := 0) (A := (some ⟨b5270, 0, none⟩)) (v := .int .i64 (1000000000)) (vs := [.int .i64 (1000000000)]) (m := x6470) (by kernel_rfl) (by rfl) sz2 (by rfl) encI_ok F6476 hx6499 (by simp only [List.length_cons, List.length_nil]; omega) (by rfl) ?_
            intro w6500 F6501 hc6502
            replace F6473 := F6473.chg hc6502 (Dj.of L0 G5272)
            replace F6474 := F6474.chg hc6502 D5276
            replace F6475 := F6475.chg hc6502 D5277
            replace F6496 := F6496.chg hc6502 (dj1 (D6494).symm)
            replace hB := hB.inS hc6502 (inLow G5272)
            replace hZ := Nat.le_trans hZ hc6502.size
            clear F6476
            rewrite [show (l6471).length = (l6471.set (Int.toNat x6470) 1000000000).length from (List.length_set ..).symm]
            refine wS_end (by rfl) ?_
            refine eX_then ?_
            refine cW_seq ?_
            refine cW_seq ?_
            refine cW_region ?_
            refine wS_pure 2 [(47, .int .i64 (0)), (46, .int .i64 (wr ((((l0).length : Int)) - 1)))] (by kernel_rfl) ?_
            refine wS_end (by rfl) ?_
            refine eX_then ?_
            obtain ⟨r6711, hr6712, hm⟩ := bindE hm
            have hm6713 := hm
            refine cW_cut (fun a' w' => ∃ l6696 : List (Int), l6696 = r6711 ∧ Fr 152 [(0, .slice A0 (l0).length cap0), (3, .slice A6 (y2).length cap7), (4, .int .i64 (wr ((((l0).length : Int)) - 1))), (5, .slice A5248 (l5247).length cap5249), (6, .int .i64 (x5253)), (7, .slice (some ⟨b5270, 0, none⟩) (l6696).length (Int.toNat (((y2).length : Int)))), (8, .int .i64 (x6470)), (36, .slice A6 (y2).length cap7), (37, .int .i64 (((y2).length : Int))), (38, .int .i64 (x6470))] a' ∧ Sl 2 encII w' fp0 A0 l0 ∧ Ow 2 encII 37 w' fp8 A6 cap7 y2 ∧ OwR 1 encI 25 2 w' fp5250 fr5252 A5248 cap5249 l5247 ∧ Ow 1 encI 2 w' [b5270] (some ⟨b5270, 0, none⟩) (Int.toNat (((y2).length : Int))) l6696 ∧ Chg [] w0 w' ∧ w0.heap.size ≤ w'.heap.size) ?_ ?_
            · refine cW_block ?_
              refine cW_loop _ (fun (s6714 : Int × (List (Int))) a' w' => ∃ x6703 : Int, ∃ l6704 : List (Int), (x6703, l6704) = s6714 ∧ Fr 152 [(0, .slice A0 (l0).length cap0), (3, .slice A6 (y2).length cap7), (4, .int .i64 (wr ((((l0).length : Int)) - 1))), (5, .slice A5248 (l5247).length cap5249), (6, .int .i64 (x5253)), (7, .slice (some ⟨b5270, 0, none⟩) (l6704).length (Int.toNat (((y2).length : Int)))), (8, .int .i64 (x6470)), (9, .pointer (some ⟨b6486, 0, none⟩)), (36, .slice A6 (y2).length cap7), (37, .int .i64 (((y2).length : Int))), (38, .int .i64 (x6470)), (46, .int .i64 (wr ((((l0).length : Int)) - 1))), (47, .int .i64 (x6703))] a' ∧ Sl 2 encII w' fp0 A0 l0 ∧ Ow 2 encII 37 w' fp8 A6 cap7 y2 ∧ OwR 1 encI 25 2 w' fp5250 fr5252 A5248 cap5249 l5247 ∧ Ow 1 encI 2 w' [b5270] (some ⟨b5270, 0, none⟩) (Int.toNat (((y2).length : Int))) l6704 ∧ Cl w' b6486 37 [.int .i64 (x6484.1), .int .i64 (x6484.2)] ∧ Chg [] w0 w' ∧ w0.heap.size ≤ w'.heap.size) hr6712 (fun hst => ⟨0, l6471.set (Int.toNat x6470) 1000000000, rfl, Fr.of hst (by kernel_rfl), F6473, F6474, F6475, F6501, F6496, hB, hZ⟩) ?_
              rintro _ c6715 a' w6702 ⟨x6703, l6704, rfl, hF6705, F6706, F6707, F6708, F6709, F6710, hB, hZ⟩ hx6716
              refine Fr.goOn hF6705 (by kernel_rfl) ?_
              have hm := hx6716
              unfold m_impl_steiner_s29 at hm
              refine cW_seq ?_
              refine cW_region ?_
              refine wS_pure 1 [(48, .bool (decide (x6703 < (wr ((((l0).length : Int)) - 1)))))] (by kernel_rfl) ?_
              refine wS_end (by rfl) ?_
              refine eX_then ?_
              refine cW_seq ?_
              refine cW_cond (t := decide (x6703 < (wr ((((l0).length : Int)) - 1)))) (by kernel_rfl) (fun hb6717 => ?_) (fun hb6717 => ?_)
              · have hm := condT hb6717 hm
                refine cW_skip ?_
                refine eX_then ?_
                refine cW_seq ?_
                refine cW_block ?_
                obtain ⟨s6765, hs6766, hm⟩ := bindE hm
                refine cW_cut (fun a' w' => ∃ l6758 : List (Int), l6758 = s6765 ∧ Fr 152 [(0, .slice A0 (l0).length cap0), (3, .slice A6 (y2).length cap7), (4, .int .i64 (wr ((((l0).length : Int)) - 1))), (5, .slice A5248 (l5247).length cap5249), (6, .int .i64 (x5253)), (7, .slice (some ⟨b5270, 0, none⟩) (l6758).length (Int.toNat (((y2).length : Int)))), (8, .int .i64 (x6470)), (9, .pointer (some ⟨b6486, 0, none⟩)), (36, .slice A6 (y2).length cap7), (37, .int .i64 (((y2).length : Int))), (38, .int .i64 (x6470)), (46, .int .i64 (wr ((((l0).length : Int)) - 1))), (47, .int .i64 (x6703))] a' ∧ Sl 2 encII w' fp0 A0 l0 ∧ Ow 2 encII 37 w' fp8 A6 cap7 y2 ∧ OwR 1 encI 25 2 w' fp5250 fr5252 A5248 cap5249 l5247 ∧ Ow 1 encI 2 w' [b5270] (some ⟨b5270, 0, none⟩) (Int.toNat (((y2).length : Int))) l6758 ∧ Cl w' b6486 37 [.int .i64 (x6484.1), .int .i64 (x6484.2)] ∧ Chg [] w0 w' ∧ w0.heap.size ≤ w'.heap.size) ?_ ?_
                · have hm := hs6766
                  refine cW_seq ?_
                  refine cW_region ?_
                  refine wS_pure 2 [(10, .int .i64 (x6703)), (49, .int .i64 (x6703))] (by kernel_rfl) ?_
                  refine wS_end (by rfl) ?_
                  refine eX_then ?_
                  refine cW_seq ?_
                  refine cW_region ?_
                  refine wS_pure 2 [(51, .int .i64 (x6703)), (50, .int .i64 (x5253))] (by kernel_rfl) ?_
                  obtain ⟨u6767, hu6768, hm⟩ := bindE hm
                  refine wS_shl (d := 52) (x := 1) (y := x6703) (yk := .i64) (by kernel_rfl) (p0E hu6768) ?_
                  refine wS_pure 1 [(53, .bool (x5253 == (shlI 1 x6703)))] (by kernel_rfl) ?_
                  refine wS_end (by rfl) ?_
                  refine eX_then ?_
                  refine cW_cond (t := x5253 == (shlI 1 x6703)) (by kernel_rfl) (fun hb6769 => ?_) (fun hb6769 => ?_)
                  · have hm := condT hb6769 hm
                    refine cW_drawnTail [] 8 (by kernel_rfl) (by kernel_rfl) (fun w6788 hc6789 => ?_)
                    replace F6706 := F6706.chg hc6789 Dj.nil
                    replace F6707 := F6707.chg hc6789 Dj.nil
                    replace F6708 := F6708.chg hc6789 Dj.nil
                    replace F6709 := F6709.chg hc6789 Dj.nil
                    replace F6710 := F6710.chg hc6789 notNil
                    replace hB := hB.inS hc6789 inNil
                    replace hZ := Nat.le_trans hZ hc6789.size
                    have hS := Chg.refl [] w6788
                    have Z6790 := F6706
                    have Z6791 := F6707
                    have Z6792 := F6708
                    have Z6793 := F6709
                    have Z6794 := F6710
                    refine wH_take [0, 1] [1, 0] [(55, .int .i64 (x6470)), (54, .slice (some ⟨b5270, 0, none⟩) (l6704).length (Int.toNat (((y2).length : Int))))] (by kernel_rfl) (qT (qT (qB (qT (qL (qB (qT (qT (qB (qT (qL (qB (qT (qT (qB (qT (qL (qB (qT (qT qZ)))))))))))))))))))) (by kernel_rfl) ?_
                    refine wH_loadA (i := 2) (d := 56) (T := 37) (ad := ⟨b6486, 0, none⟩) (vs := [.int .i64 (x6484.1), .int .i64 (x6484.2)]) (by kernel_rfl) (qT (qT (qB (qT (qL (qB (qT (qT (qB (qT (qL (qB (qT (qT (qB (qT (qL (qB (qT (qT qZ)))))))))))))))))))) (by kernel_rfl) (by kernel_rfl) vt37 (fun W hW i u hu => box_cells (Z6794.chg hW notNil) 0 hu (by rfl)) ?_
                    refine wH_take [3, 4] [4, 3, 2, 1, 0] [(58, .int .i64 (x6703)), (57, .slice A0 (l0).length cap0)] (by kernel_rfl) (qT (qT (qB (qT (qL (qB (qT (qT (qB (qT (qL (qB (qT (qT (qB (qT (qL (qB (qT (qT qZ)))))))))))))))))))) (by kernel_rfl) ?_
                    obtain ⟨x6795, hx6796, hm⟩ := bindE hm
                    refine wH_idx (i := 5) (d := 59) (T := 32) (A := A0) (n := (l0).length) (cap := cap0) (kd := .i64) (m := x6703) (by kernel_rfl) (qT (qT (qB (qT (qL (qB (qT (qT (qB (qT (qL (qB (qT (qT (qB (qT (qL (qB (qT (qT qZ)))))))))))))))))))) (by kernel_rfl) (by kernel_rfl) sl32 (F6706.is hx6796) ?_
                    refine wH_loadA (i := 6) (d := 60) (T := 37) (ad := (elA A0 2 (x6703) 0)) (vs := [.int .i64 (x6795.1), .int .i64 (x6795.2)]) (by kernel_rfl) (qT (qT (qB (qT (qL (qB (qT (qT (qB (qT (qL (qB (qT (qT (qB (qT (qL (qB (qT (qT qZ)))))))))))))))))))) (by kernel_rfl) (by kernel_rfl) vt37 (fun W hW i u hu => Sl.cells_at (Z6790.chg hW Dj.nil) hx6796 0 hu (by rfl)) ?_
                    refine wH_all [7] (by rfl) (by kernel_rfl) (by simp) ⟨⟨by kernel_rfl, ?_⟩, trivial⟩
                    obtain ⟨y6797, hy6798, hm⟩ := bindE hm
                    refine wS_calls (d := 61) (f := 85) (vs := [.agg #[.int .i64 (x6484.1), .int .i64 (x6484.2)], .agg #[.int .i64 (x6795.1), .int .i64 (x6795.2)]]) (by kernel_rfl) ent85 (c_impl_far hy6798) ?_
                    rintro _ w6799 ⟨rfl, hc6800⟩
                    replace F6706 := F6706.chg hc6800 Dj.nil
                    replace F6707 := F6707.chg hc6800 Dj.nil
                    replace F6708 := F6708.chg hc6800 Dj.nil
                    replace F6709 := F6709.chg hc6800 Dj.nil
                    replace F6710 := F6710.chg hc6800 notNil
                    replace hB := hB.inS hc6800 inNil
                    have hSz := hS
                    replace hS := hS.inS hc6800 inNil
                    replace hZ := Nat.le_trans hZ hc6800.size
                    refine ⟨.int .i64 (y6797), rfl, ?_⟩
                    refine wS_end (by kernel_rfl) ?_
                    refine eX_KH hS ?_
                    refine wH_done (by kernel_rfl) ?_
                    refine eX_tail ?_
                    obtain ⟨x6801, hx6802, hm⟩ := bindE hm
                    refine wS_idx (d := 62) (T := 25) (A := (some ⟨b5270, 0, none⟩)) (n := (l6704).length) (cap := (Int.toNat (((y2).length : Int)))) (kd := .i64) (m := x6470) (by kernel_rfl) sl25 ((F6709.sl encI_ok).is hx6802) ?_
                    refine wS_storeEl (x := x6801) y6797 (T := 2) (U := 2) (cap := (Int.toNat (((y2).length : Int)))) (j := 0) (A := (some ⟨b5270, 0, none⟩)) (v := .int .i64 (y6797)) (vs := [.int .i64 (y6797)]) (m := x6470) (by kernel_rfl) (by rfl) sz2 (by rfl) encI_ok F6709 hx6802 (by simp only [List.length_cons, List.length_nil]; omega) (by rfl) ?_
                    intro w6803 F6804 hc6805
                    replace F6706 := F6706.chg hc6805 (Dj.of L0 G5272)
                    replace F6707 := F6707.chg hc6805 D5276
                    replace F6708 := F6708.chg hc6805 D5277
                    replace F6710 := F6710.chg hc6805 (dj1 (D6494).symm)
                    replace hB := hB.inS hc6805 (inLow G5272)
                    replace hZ := Nat.le_trans hZ hc6805.size
                    clear F6709
                    rewrite [show (l6704).length = (l6704.set (Int.toNat x6470) y6797).length from (List.length_set ..).symm]
                    refine wS_end (by rfl) ?_
                    have hq : (some (l6704.set (Int.toNat x6470) y6797) : Option ((List (Int)))) = some _ := hm
                    replace hq := someE hq
                    subst hq
                    exact eX_J (fun hst => ⟨l6704.set (Int.toNat x6470) y6797, rfl, Fr.of hst (by kernel_rfl), F6706, F6707, F6708, F6804, F6710, hB, hZ⟩)
                  · have hm := condF hb6769 hm
                    refine cW_skip ?_
                    have hq : (some l6704 : Option ((List (Int)))) = some _ := hm
                    replace hq := someE hq
                    subst hq
                    exact eX_J (fun hst => ⟨l6704, rfl, Fr.of hst (by kernel_rfl), F6706, F6707, F6708, F6709, F6710, hB, hZ⟩)
                · rintro a' w6757 ⟨l6758, hJ, hF6759, F6760, F6761, F6762, F6763, F6764, hB, hZ⟩
                  subst hJ
                  refine Fr.goX hF6759 (by kernel_rfl) ?_
                  refine eX_block ?_
                  refine eX_then ?_
                  refine cW_region ?_
                  refine wS_pure 2 [(47, .int .i64 (wr (x6703 + 1))), (63, .int .i64 (wr (x6703 + 1)))] (by kernel_rfl) ?_
                  refine wS_end (by rfl) ?_
                  have hq : (some (Ctl.next ((wr (x6703 + 1), l6758))) : Option (Ctl (Int × (List (Int))) ((List (Int))))) = some _ := hm
                  replace hq := someE hq
                  subst hq
                  exact eX_next hx6716 (fun hst => ⟨wr (x6703 + 1), l6758, rfl, Fr.of hst (by kernel_rfl), F6760, F6761, F6762, F6763, F6764, hB, hZ⟩)
              · have hm := condF hb6717 hm
                refine cW_exit ?_
                refine eX_then_exit ?_
                have hq : (some (Ctl.out l6704) : Option (Ctl (Int × (List (Int))) ((List (Int))))) = some _ := hm
                replace hq := someE hq
                subst hq
                refine eX_outX hx6716 (fun hr6806 => ?_)
                replace hr6806 := hr6806.symm
                subst hr6806
                refine eX_block_hit ?_
                exact eX_J (fun hst => ⟨l6704, rfl, Fr.of hst (by kernel_rfl), F6706, F6707, F6708, F6709, hB, hZ⟩)
            · rintro a' w6695 ⟨l6696, hJ, hF6697, F6698, F6699, F6700, F6701, hB, hZ⟩
              subst hJ
              refine Fr.goX hF6697 (by kernel_rfl) ?_
              refine eX_then ?_
              refine cW_seq ?_
              refine cW_region ?_
              refine wS_pure 5 [(11, .int .i64 (andI (wr (x5253 - 1)) x5253)), (67, .int .i64 (andI (wr (x5253 - 1)) x5253)), (66, .int .i64 (x5253)), (65, .int .i64 (wr (x5253 - 1))), (64, .int .i64 (x5253))] (by kernel_rfl) ?_
              refine wS_end (by rfl) ?_
              refine eX_then ?_
              obtain ⟨r6986, hr6987, hm⟩ := bindE hm
              have hm6988 := hm
              refine cW_cut (fun a' w' => ∃ l6972 : List (Int), l6972 = r6986 ∧ Fr 152 [(0, .slice A0 (l0).length cap0), (3, .slice A6 (y2).length cap7), (4, .int .i64 (wr ((((l0).length : Int)) - 1))), (5, .slice A5248 (l5247).length cap5249), (6, .int .i64 (x5253)), (7, .slice (some ⟨b5270, 0, none⟩) (l6972).length (Int.toNat (((y2).length : Int)))), (36, .slice A6 (y2).length cap7), (37, .int .i64 (((y2).length : Int))), (38, .int .i64 (x6470))] a' ∧ Sl 2 encII w' fp0 A0 l0 ∧ Ow 2 encII 37 w' fp8 A6 cap7 y2 ∧ OwR 1 encI 25 2 w' fp5250 fr5252 A5248 cap5249 l5247 ∧ Ow 1 encI 2 w' [b5270] (some ⟨b5270, 0, none⟩) (Int.toNat (((y2).length : Int))) l6972 ∧ Chg [] w0 w' ∧ w0.heap.size ≤ w'.heap.size) ?_ ?_
              · refine cW_block ?_
                refine cW_loop _ (fun (s6989 : Int × (List (Int))) a' w' => ∃ x6979 : Int, ∃ l6980 : List (Int), (x6979, l6980) = s6989 ∧ Fr 152 [(0, .slice A0 (l0).length cap0), (3, .slice A6 (y2).length cap7), (4, .int .i64 (wr ((((l0).length : Int)) - 1))), (5, .slice A5248 (l5247).length cap5249), (6, .int .i64 (x5253)), (7, .slice (some ⟨b5270, 0, none⟩) (l6980).length (Int.toNat (((y2).length : Int)))), (8, .int .i64 (x6470)), (11, .int .i64 (x6979)), (36, .slice A6 (y2).length cap7), (37, .int .i64 (((y2).length : Int))), (38, .int .i64 (x6470))] a' ∧ Sl 2 encII w' fp0 A0 l0 ∧ Ow 2 encII 37 w' fp8 A6 cap7 y2 ∧ OwR 1 encI 25 2 w' fp5250 fr5252 A5248 cap5249 l5247 ∧ Ow 1 encI 2 w' [b5270] (some ⟨b5270, 0, none⟩) (Int.toNat (((y2).length : Int))) l6980 ∧ Chg [] w0 w' ∧ w0.heap.size ≤ w'.heap.size) hr6987 (fun hst => ⟨andI (wr (x5253 - 1)) x5253, l6696, rfl, Fr.of hst (by kernel_rfl), F6698, F6699, F6700, F6701, hB, hZ⟩) ?_
                rintro _ c6990 a' w6978 ⟨x6979, l6980, rfl, hF6981, F6982, F6983, F6984, F6985, hB, hZ⟩ hx6991
                refine Fr.goOn hF6981 (by kernel_rfl) ?_
                have hm := hx6991
                unfold m_impl_steiner_s30 at hm
                refine cW_seq ?_
                refine cW_seq ?_
                refine cW_region ?_
                refine wS_pure 2 [(69, .bool (decide (x6979 > 0))), (68, .int .i64 (x6979))] (by kernel_rfl) ?_
                refine wS_end (by rfl) ?_
                refine eX_then ?_
                refine cW_cond (t := decide (x6979 > 0)) (by kernel_rfl) (fun hb6992 => ?_) (fun hb6992 => ?_)
                · have hm := condT hb6992 hm
                  refine cW_skip ?_
                  refine eX_then ?_
                  refine cW_seq ?_
                  refine cW_block ?_
                  refine cW_drawnTail [] 24 (by kernel_rfl) (by kernel_rfl) (fun w7030 hc7031 => ?_)
                  replace F6982 := F6982.chg hc7031 Dj.nil
                  replace F6983 := F6983.chg hc7031 Dj.nil
                  replace F6984 := F6984.chg hc7031 Dj.nil
                  replace F6985 := F6985.chg hc7031 Dj.nil
                  replace hB := hB.inS hc7031 inNil
                  replace hZ := Nat.le_trans hZ hc7031.size
                  have hS := Chg.refl [] w7030
                  have Z7032 := F6982
                  have Z7033 := F6983
                  have Z7034 := F6984
                  have Z7035 := F6985
                  refine wH_take [0, 1, 2, 3] [3, 2, 1, 0] [(77, .int .i64 (x6470)), (76, .slice (some ⟨b5270, 0, none⟩) (l6980).length (Int.toNat (((y2).length : Int)))), (75, .int .i64 (x6470)), (74, .slice (some ⟨b5270, 0, none⟩) (l6980).length (Int.toNat (((y2).length : Int))))] (by kernel_rfl) (qT (qB (qT (qL (qB (qT (qB (qT (qL (qB (qT (qT (qB (qT (qL (qB (qT (qT qZ)))))))))))))))))) (by kernel_rfl) ?_
                  obtain ⟨x7036, hx7037, hm⟩ := bindE hm
                  refine wH_idx (i := 4) (d := 78) (T := 25) (A := (some ⟨b5270, 0, none⟩)) (n := (l6980).length) (cap := (Int.toNat (((y2).length : Int)))) (kd := .i64) (m := x6470) (by kernel_rfl) (qT (qB (qT (qL (qB (qT (qB (qT (qL (qB (qT (qT (qB (qT (qL (qB (qT (qT qZ)))))))))))))))))) (by kernel_rfl) (by kernel_rfl) sl25 ((F6985.sl encI_ok).is hx7037) ?_
                  refine wH_load1 (i := 5) (d := 79) (T := 2) (ad := (elA (some ⟨b5270, 0, none⟩) 1 (x6470) 0)) (v := .int .i64 (x7036)) (by kernel_rfl) (qT (qB (qT (qL (qB (qT (qB (qT (qL (qB (qT (qT (qB (qT (qL (qB (qT (qT qZ)))))))))))))))))) (by kernel_rfl) (by kernel_rfl) vt2 (fun W hW => Sl.cell ((Z7035.chg hW Dj.nil).sl encI_ok) hx7037 0 (by rfl)) ?_
                  refine wH_take [6, 7] [7, 6, 5, 4, 3, 2, 1, 0] [(81, .int .i64 (x6979)), (80, .slice A5248 (l5247).length cap5249)] (by kernel_rfl) (qT (qB (qT (qL (qB (qT (qB (qT (qL (qB (qT (qT (qB (qT (qL (qB (qT (qT qZ)))))))))))))))))) (by kernel_rfl) ?_
                  obtain ⟨x7038, hx7039, hm⟩ := bindE hm
                  refine wH_idx (i := 8) (d := 82) (T := 40) (A := A5248) (n := (l5247).length) (cap := cap5249) (kd := .i64) (m := x6979) (by kernel_rfl) (qT (qB (qT (qL (qB (qT (qB (qT (qL (qB (qT (qT (qB (qT (qL (qB (qT (qT qZ)))))))))))))))))) (by kernel_rfl) (by kernel_rfl) sl40 ((F6984.slr encI_ok).is hx7039) ?_
                  obtain ⟨A7040, cap7041, hc7043, F7042, K7044⟩ := OwR.row Z7034 encI_ok hx7039
                  have G7046 := low_inr G5258
                  have Dm7047 := (F6984.dj).symm
                  refine wH_load1 (i := 9) (d := 83) (T := 25) (ad := (elA A5248 1 (x6979) 0)) (v := .slice A7040 (x7038).length cap7041) (by kernel_rfl) (qT (qB (qT (qL (qB (qT (qB (qT (qL (qB (qT (qT (qB (qT (qL (qB (qT (qT qZ)))))))))))))))))) (by kernel_rfl) (by kernel_rfl) vt25 (fun W hW => hW.keep hc7043) ?_
                  refine wH_take [10] [10, 9, 8, 7, 6, 5, 4, 3, 2, 1, 0] [(84, .int .i64 (x6470))] (by kernel_rfl) (qT (qB (qT (qL (qB (qT (qB (qT (qL (qB (qT (qT (qB (qT (qL (qB (qT (qT qZ)))))))))))))))))) (by kernel_rfl) ?_
                  obtain ⟨x7048, hx7049, hm⟩ := bindE hm
                  refine wH_idx (i := 11) (d := 85) (T := 25) (A := A7040) (n := (x7038).length) (cap := cap7041) (kd := .i64) (m := x6470) (by kernel_rfl) (qT (qB (qT (qL (qB (qT (qB (qT (qL (qB (qT (qT (qB (qT (qL (qB (qT (qT qZ)))))))))))))))))) (by kernel_rfl) (by kernel_rfl) sl25 (F7042.is hx7049) ?_
                  refine wH_load1 (i := 12) (d := 86) (T := 2) (ad := (elA A7040 1 (x6470) 0)) (v := .int .i64 (x7048)) (by kernel_rfl) (qT (qB (qT (qL (qB (qT (qB (qT (qL (qB (qT (qT (qB (qT (qL (qB (qT (qT qZ)))))))))))))))))) (by kernel_rfl) (by kernel_rfl) vt2 (fun W hW => Sl.cell (F7042.chg hW Dj.nil) hx7049 0 (by rfl)) ?_
                  refine wH_take [13, 14, 15, 16] [16, 15, 14, 13, 12, 11, 10, 9, 8, 7, 6, 5, 4, 3, 2, 1, 0] [(90, .int .i64 (andNI x5253 x6979)), (89, .int .i64 (x6979)), (88, .int .i64 (x5253)), (87, .slice A5248 (l5247).length cap5249)] (by kernel_rfl) (qT (qB (qT (qL (qB (qT (qB (qT (qL (qB (qT (qT (qB (qT (qL (qB (qT (qT qZ)))))))))))))))))) (by kernel_rfl) ?_
                  obtain ⟨x7050, hx7051, hm⟩ := bindE hm
                  refine wH_idx (i := 17) (d := 91) (T := 40) (A := A5248) (n := (l5247).length) (cap := cap5249) (kd := .i64) (m := andNI x5253 x6979) (by kernel_rfl) (qT (qB (qT (qL (qB (qT (qB (qT (qL (qB (qT (qT (qB (qT (qL (qB (qT (qT qZ)))))))))))))))))) (by kernel_rfl) (by kernel_rfl) sl40 ((F6984.slr encI_ok).is hx7051) ?_
                  obtain ⟨A7052, cap7053, hc7055, F7054, K7056⟩ := OwR.row Z7034 encI_ok hx7051
                  have G7058 := low_inr G5258
                  have Dm7059 := (F6984.dj).symm
                  refine wH_load1 (i := 18) (d := 92) (T := 25) (ad := (elA A5248 1 (andNI x5253 x6979) 0)) (v := .slice A7052 (x7050).length cap7053) (by kernel_rfl) (qT (qB (qT (qL (qB (qT (qB (qT (qL (qB (qT (qT (qB (qT (qL (qB (qT (qT qZ)))))))))))))))))) (by kernel_rfl) (by kernel_rfl) vt25 (fun W hW => hW.keep hc7055) ?_
                  refine wH_take [19] [19, 18, 17, 16, 15, 14, 13, 12, 11, 10, 9, 8, 7, 6, 5, 4, 3, 2, 1, 0] [(93, .int .i64 (x6470))] (by kernel_rfl) (qT (qB (qT (qL (qB (qT (qB (qT (qL (qB (qT (qT (qB (qT (qL (qB (qT (qT qZ)))))))))))))))))) (by kernel_rfl) ?_
                  obtain ⟨x7060, hx7061, hm⟩ := bindE hm
                  refine wH_idx (i := 20) (d := 94) (T := 25) (A := A7052) (n := (x7050).length) (cap := cap7053) (kd := .i64) (m := x6470) (by kernel_rfl) (qT (qB (qT (qL (qB (qT (qB (qT (qL (qB (qT (qT (qB (qT (qL (qB (qT (qT qZ)))))))))))))))))) (by kernel_rfl) (by kernel_rfl) sl25 (F7054.is hx7061) ?_
                  refine wH_load1 (i := 21) (d := 95) (T := 2) (ad := (elA A7052 1 (x6470) 0)) (v := .int .i64 (x7060)) (by kernel_rfl) (qT (qB (qT (qL (qB (qT (qB (qT (qL (qB (qT (qT (qB (qT (qL (qB (qT (qT qZ)))))))))))))))))) (by kernel_rfl) (by kernel_rfl) vt2 (fun W hW => Sl.cell (F7054.chg hW Dj.nil) hx7061 0 (by rfl)) ?_
                  refine wH_take [22, 23] [23, 22, 21, 20, 19, 18, 17, 16, 15, 14, 13, 12, 11, 10, 9, 8, 7, 6, 5, 4, 3, 2, 1, 0] [(97, .int .i64 (if (wr (x7048 + x7060)) < x7036 then (wr (x7048 + x7060)) else x7036)), (96, .int .i64 (wr (x7048 + x7060)))] (by kernel_rfl) (qT (qB (qT (qL (qB (qT (qB (qT (qL (qB (qT (qT (qB (qT (qL (qB (qT (qT qZ)))))))))))))))))) (by kernel_rfl) ?_
                  refine wH_done (by kernel_rfl) ?_
                  refine eX_tail ?_
                  obtain ⟨x7062, hx7063, hm⟩ := bindE hm
                  refine wS_idx (d := 98) (T := 25) (A := (some ⟨b5270, 0, none⟩)) (n := (l6980).length) (cap := (Int.toNat (((y2).length : Int)))) (kd := .i64) (m := x6470) (by kernel_rfl) sl25 ((F6985.sl encI_ok).is hx7063) ?_
                  refine wS_storeEl (x := x7062) (if (wr (x7048 + x7060)) < x7036 then (wr (x7048 + x7060)) else x7036) (T := 2) (U := 2) (cap := (Int.toNat (((y2).length : Int)))) (j := 0) (A := (some ⟨b5270, 0, none⟩)) (v := .int .i64 (if (wr (x7048 + x7060)) < x7036 then (wr (x7048 + x7060)) else x7036)) (vs := [.int .i64 (if (wr (x7048 + x7060)) < x7036 then (wr (x7048 + x7060)) else x7036)]) (m := x6470) (by kernel_rfl) (by rfl) sz2 (by rfl) encI_ok F6985 hx7063 (by simp only [List.length_cons, List.length_nil]; omega) (by rfl) ?_
                  intro w7064 F7065 hc7066
                  replace F6982 := F6982.chg hc7066 (Dj.of L0 G5272)
                  replace F6983 := F6983.chg hc7066 D5276
                  replace F6984 := F6984.chg hc7066 D5277
                  replace F7042 := F7042.chg hc7066 ((Dj.inr (D5277).symm)).symm
                  replace F7054 := F7054.chg hc7066 ((Dj.inr (D5277).symm)).symm
                  replace hB := hB.inS hc7066 (inLow G5272)
                  replace hZ := Nat.le_trans hZ hc7066.size
                  clear F6985
                  rewrite [show (l6980).length = (l6980.set (Int.toNat x6470) (if (wr (x7048 + x7060)) < x7036 then (wr (x7048 + x7060)) else x7036)).length from (List.length_set ..).symm]
                  refine wS_end (by rfl) ?_
                  refine eX_block ?_
                  refine eX_then ?_
                  refine cW_prune [(0, .slice A0 (l0).length cap0), (3, .slice A6 (y2).length cap7), (4, .int .i64 (wr ((((l0).length : Int)) - 1))), (5, .slice A5248 (l5247).length cap5249), (6, .int .i64 (x5253)), (7, .slice (some ⟨b5270, 0, none⟩) (l6980.set (Int.toNat x6470) (if (wr (x7048 + x7060)) < x7036 then (wr (x7048 + x7060)) else x7036)).length (Int.toNat (((y2).length : Int)))), (8, .int .i64 (x6470)), (11, .int .i64 (x6979)), (36, .slice A6 (y2).length cap7), (37, .int .i64 (((y2).length : Int))), (38, .int .i64 (x6470))] (by kernel_rfl) (by kernel_rfl) (fun a7067 => ?_)
                  refine cW_region ?_
                  refine wS_pure 5 [(11, .int .i64 (andI (wr (x6979 - 1)) x5253)), (73, .int .i64 (andI (wr (x6979 - 1)) x5253)), (72, .int .i64 (x5253)), (71, .int .i64 (wr (x6979 - 1))), (70, .int .i64 (x6979))] (by kernel_rfl) ?_
                  refine wS_end (by rfl) ?_
                  have hq : (some (Ctl.next ((andI (wr (x6979 - 1)) x5253, l6980.set (Int.toNat x6470) (if (wr (x7048 + x7060)) < x7036 then (wr (x7048 + x7060)) else x7036)))) : Option (Ctl (Int × (List (Int))) ((List (Int))))) = some _ := hm
                  replace hq := someE hq
                  subst hq
                  exact eX_next hx6991 (fun hst => ⟨andI (wr (x6979 - 1)) x5253, l6980.set (Int.toNat x6470) (if (wr (x7048 + x7060)) < x7036 then (wr (x7048 + x7060)) else x7036), rfl, Fr.of hst (by kernel_rfl), F6982, F6983, F6984, F7065, hB, hZ⟩)
                · have hm := condF hb6992 hm
                  refine cW_exit ?_
                  refine eX_then_exit ?_
                  have hq : (some (Ctl.out l6980) : Option (Ctl (Int × (List (Int))) ((List (Int))))) = some _ := hm
                  replace hq := someE hq
                  subst hq
                  refine eX_outX hx6991 (fun hr7068 => ?_)
                  replace hr7068 := hr7068.symm
                  subst hr7068
                  refine eX_block_hit ?_
                  exact eX_J (fun hst => ⟨l6980, rfl, Fr.of hst (by kernel_rfl), F6982, F6983, F6984, F6985, hB, hZ⟩)
              · rintro a' w6971 ⟨l6972, hJ, hF6973, F6974, F6975, F6976, F6977, hB, hZ⟩
                subst hJ
                refine Fr.goX hF6973 (by kernel_rfl) ?_
                refine eX_block ?_
                refine eX_then ?_
                refine cW_region ?_
                refine wS_pure 2 [(38, .int .i64 (wr (x6470 + 1))), (99, .int .i64 (wr (x6470 + 1)))] (by kernel_rfl) ?_
                refine wS_end (by rfl) ?_
                have hq : (some (Ctl.next ((wr (x6470 + 1), l6972))) : Option (Ctl (Int × (List (Int))) ((List (Int))))) = some _ := hm
                replace hq := someE hq
                subst hq
                exact eX_next hx6482 (fun hst => ⟨wr (x6470 + 1), l6972, rfl, Fr.of hst (by kernel_rfl), F6974, F6975, F6976, F6977, hB, hZ⟩)
          · have hm := condF hb6483 hm
            refine cW_exit ?_
            refine eX_then_exit ?_
            have hq : (some (Ctl.out l6471) : Option (Ctl (Int × (List (Int))) ((List (Int))))) = some _ := hm
            replace hq := someE hq
            subst hq
            refine eX_outX hx6482 (fun hr7069 => ?_)
            replace hr7069 := hr7069.symm
            subst hr7069
            refine eX_block_hit ?_
            exact eX_J (fun hst => ⟨l6471, rfl, Fr.of hst (by kernel_rfl), F6473, F6474, F6475, F6476, hB, hZ⟩)
        · rintro a' w6462 ⟨l6463, hJ, hF6464, F6465, F6466, F6467, F6468, hB, hZ⟩
          subst hJ
          refine Fr.goX hF6464 (by kernel_rfl) ?_
          refine eX_then ?_
          refine cW_seq ?_
          refine cW_region ?_
          refine wS_pure 1 [(100, .slice (some ⟨b5270, 0, none⟩) (l6463).length (Int.toNat (((y2).length : Int))))] (by kernel_rfl) ?_
          obtain ⟨y7070, hy7071, hm⟩ := bindE hm
          refine wS_calls (d := 101) (f := 168) (vs := [.slice (some ⟨b5270, 0, none⟩) (l6463).length (Int.toNat (((y2).length : Int)))]) (by kernel_rfl) ent168 (c_slices_Clone_int64_int64 hy7071 (F6468.sl encI_ok)) ?_
          rintro _ w7072 ⟨A7074, cap7075, fp7076, rfl, F7077, G7078, hc7073⟩
          have D7081 : Dj fp8 fp7076 := Dj.of F6466.low G7078
          have D7082 : Dj (fp5250 ++ fr5252) fp7076 := Dj.of F6467.low G7078
          have D7083 : Dj [b5270] fp7076 := Dj.of F6468.low G7078
          replace F6465 := F6465.chg hc7073 Dj.nil
          replace F6466 := F6466.chg hc7073 Dj.nil
          replace F6467 := F6467.chg hc7073 Dj.nil
          replace F6468 := F6468.chg hc7073 Dj.nil
          replace hB := hB.inS hc7073 inNil
          replace G7078 := low_le hZ G7078
          replace hZ := Nat.le_trans hZ hc7073.size
          refine ⟨.slice A7074 (y7070).length cap7075, rfl, ?_⟩
          refine wS_pure 1 [(12, .slice A7074 (y7070).length cap7075)] (by kernel_rfl) ?_
          refine wS_end (by rfl) ?_
          refine eX_then ?_
          refine cW_seq ?_
          refine cW_seq ?_
          refine cW_region ?_
          refine wS_pure 3 [(104, .int .i64 (0)), (103, .int .i64 (((y2).length : Int))), (102, .slice A6 (y2).length cap7)] (by kernel_rfl) ?_
          refine wS_end (by rfl) ?_
          refine eX_then ?_
          obtain ⟨r7600, hr7601, hm⟩ := bindE hm
          have hm7602 := hm
          refine cW_cut (fun a' w' => ∃ l7585 : List (Int), l7585 = r7600 ∧ Fr 152 [(0, .slice A0 (l0).length cap0), (3, .slice A6 (y2).length cap7), (4, .int .i64 (wr ((((l0).length : Int)) - 1))), (5, .slice A5248 (l5247).length cap5249), (6, .int .i64 (x5253)), (12, .slice A7074 (l7585).length cap7075)] a' ∧ Sl 2 encII w' fp0 A0 l0 ∧ Ow 2 encII 37 w' fp8 A6 cap7 y2 ∧ OwR 1 encI 25 2 w' fp5250 fr5252 A5248 cap5249 l5247 ∧ Ow 1 encI 2 w' fp7076 A7074 cap7075 l7585 ∧ Chg [] w0 w' ∧ w0.heap.size ≤ w'.heap.size) ?_ ?_
          · refine cW_block ?_
            refine cW_loop _ (fun (s7603 : Int × (List (Int))) a' w' => ∃ x7592 : Int, ∃ l7593 : List (Int), (x7592, l7593) = s7603 ∧ Fr 152 [(0, .slice A0 (l0).length cap0), (3, .slice A6 (y2).length cap7), (4, .int .i64 (wr ((((l0).length : Int)) - 1))), (5, .slice A5248 (l5247).length cap5249), (6, .int .i64 (x5253)), (7, .slice (some ⟨b5270, 0, none⟩) (l6463).length (Int.toNat (((y2).length : Int)))), (12, .slice A7074 (l7593).length cap7075), (102, .slice A6 (y2).length cap7), (103, .int .i64 (((y2).length : Int))), (104, .int .i64 (x7592))] a' ∧ Sl 2 encII w' fp0 A0 l0 ∧ Ow 2 encII 37 w' fp8 A6 cap7 y2 ∧ OwR 1 encI 25 2 w' fp5250 fr5252 A5248 cap5249 l5247 ∧ Ow 1 encI 2 w' [b5270] (some ⟨b5270, 0, none⟩) (Int.toNat (((y2).length : Int))) l6463 ∧ Ow 1 encI 2 w' fp7076 A7074 cap7075 l7593 ∧ Chg [] w0 w' ∧ w0.heap.size ≤ w'.heap.size) hr7601 (fun hst => ⟨0, y7070, rfl, Fr.of hst (by kernel_rfl), F6465, F6466, F6467, F6468, F7077, hB, hZ⟩) ?_
            rintro _ c7604 a' w7591 ⟨x7592, l7593, rfl, hF7594, F7595, F7596, F7597, F7598, F7599, hB, hZ⟩ hx7605
            refine Fr.goOn hF7594 (by kernel_rfl) ?_
            have hm := hx7605
            unfold m_impl_steiner_s33 at hm
            refine cW_seq ?_
            refine cW_region ?_
            refine wS_pure 1 [(105, .bool (decide (x7592 < (((y2).length : Int)))))] (by kernel_rfl) ?_
            refine wS_end (by rfl) ?_
            refine eX_then ?_
            refine cW_seq ?_
            refine cW_cond (t := decide (x7592 < (((y2).length : Int)))) (by kernel_rfl) (fun hb7606 => ?_) (fun hb7606 => ?_)
            · have hm := condT hb7606 hm
              refine cW_skip ?_
              refine eX_then ?_
              refine cW_seq ?_
              refine cW_block ?_
              refine cW_seq ?_
              refine cW_region ?_
              refine wS_pure 1 [(106, .int .i64 (x7592))] (by kernel_rfl) ?_
              obtain ⟨x7607, hx7608, hm⟩ := bindE hm
              refine wS_idx (d := 107) (T := 32) (A := A6) (n := (y2).length) (cap := cap7) (kd := .i64) (m := x7592) (by kernel_rfl) sl32 ((F7596.sl encII_ok).is hx7608) ?_
              refine wS_loadA (d := 108) (T := 37) (ad := (elA A6 2 (x7592) 0)) (vs := [.int .i64 (x7607.1), .int .i64 (x7607.2)]) (by kernel_rfl) vt37 (fun i u hu => Sl.cells_at (F7596.sl encII_ok) hx7608 0 hu (by rfl)) ?_
              refine wS_alloc (d := 14) (T := 37) (z := .agg #[.int .i64 (0), .int .i64 (0)]) (by kernel_rfl) (by kernel_rfl) ?_
              intro b7609 w7610 G7611 F7612 hc7613
              replace F7612 : Cl w7610 b7609 37 [.int .i64 (0), .int .i64 (0)] := F7612
              have D7615 : Dj fp8 [b7609] := Dj.of F7596.low (low1 G7611)
              have D7616 : Dj (fp5250 ++ fr5252) [b7609] := Dj.of F7597.low (low1 G7611)
              have D7617 : Dj [b5270] [b7609] := Dj.of F7598.low (low1 G7611)
              have D7618 : Dj fp7076 [b7609] := Dj.of F7599.low (low1 G7611)
              replace F7595 := F7595.chg hc7613 Dj.nil
              replace F7596 := F7596.chg hc7613 Dj.nil
              replace F7597 := F7597.chg hc7613 Dj.nil
              replace F7598 := F7598.chg hc7613 Dj.nil
              replace F7599 := F7599.chg hc7613 Dj.nil
              replace hB := hB.inS hc7613 inNil
              replace G7611 := Nat.le_trans hZ G7611
              replace hZ := Nat.le_trans hZ hc7613.size
              refine wS_pure 1 [(13, .int .i64 (x7592))] (by kernel_rfl) ?_
              refine wS_store (T := 37) (g := b7609) (o := 0) (ad := ⟨b7609, 0, none⟩) (v := .agg #[.int .i64 (x7607.1), .int .i64 (x7607.2)]) (vs := [.int .i64 (x7607.1), .int .i64 (x7607.2)]) (by kernel_rfl) (by rfl) sz37 (by rfl) (by rfl) F7612 (by simp only [List.length_cons, List.length_nil]; omega) ?_
              intro w7619 F7620 hc7621
              replace F7595 := F7595.chg hc7621 (Dj.of L0 (low1 G7611))
              replace F7596 := F7596.chg hc7621 D7615
              replace F7597 := F7597.chg hc7621 D7616
              replace F7598 := F7598.chg hc7621 D7617
              replace F7599 := F7599.chg hc7621 D7618
              replace hB := hB.inS hc7621 (inLow (low1 G7611))
              replace hZ := Nat.le_trans hZ hc7621.size
              replace F7620 : Cl w7619 b7609 37 [.int .i64 (x7607.1), .int .i64 (x7607.2)] := F7620
              clear F7612
              refine wS_end (by rfl) ?_
              refine eX_then ?_
              refine cW_seq ?_
              refine cW_region ?_
              refine wS_pure 3 [(111, .int .i64 (0)), (110, .int .i64 (((y2).length : Int))), (109, .slice A6 (y2).length cap7)] (by kernel_rfl) ?_
              refine wS_end (by rfl) ?_
              refine eX_then ?_
              obtain ⟨r7780, hr7781, hm⟩ := bindE hm
              have hm7782 := hm
              refine cW_cut (fun a' w' => ∃ l7763 : List (Int), l7763 = r7780 ∧ Fr 152 [(0, .slice A0 (l0).length cap0), (3, .slice A6 (y2).length cap7), (4, .int .i64 (wr ((((l0).length : Int)) - 1))), (5, .slice A5248 (l5247).length cap5249), (6, .int .i64 (x5253)), (7, .slice (some ⟨b5270, 0, none⟩) (l6463).length (Int.toNat (((y2).length : Int)))), (12, .slice A7074 (l7763).length cap7075), (102, .slice A6 (y2).length cap7), (103, .int .i64 (((y2).length : Int))), (104, .int .i64 (x7592))] a' ∧ Sl 2 encII w' fp0 A0 l0 ∧ Ow 2 encII 37 w' fp8 A6 cap7 y2 ∧ OwR 1 encI 25 2 w' fp5250 fr5252 A5248 cap5249 l5247 ∧ Ow 1 encI 2 w' [b5270] (some ⟨b5270, 0, none⟩) (Int.toNat (((y2).length : Int))) l6463 ∧ Ow 1 encI 2 w' fp7076 A7074 cap7075 l7763 ∧ Chg [] w0 w' ∧ w0.heap.size ≤ w'.heap.size) ?_ ?_
              · refine cW_block ?_
                refine cW_loop _ (fun (s7783 : Int × (List (Int))) a' w' => ∃ x7771 : Int, ∃ l7772 : List (Int), (x7771, l7772) = s7783 ∧ Fr 152 [(0, .slice A0 (l0).length cap0), (3, .slice A6 (y2).length cap7), (4, .int .i64 (wr ((((l0).length : Int)) - 1))), (5, .slice A5248 (l5247).length cap5249), (6, .int .i64 (x5253)), (7, .slice (some ⟨b5270, 0, none⟩) (l6463).length (Int.toNat (((y2).length : Int)))), (12, .slice A7074 (l7772).length cap7075), (13, .int .i64 (x7592)), (14, .pointer (some ⟨b7609, 0, none⟩)), (102, .slice A6 (y2).length cap7), (103, .int .i64 (((y2).length : Int))), (104, .int .i64 (x7592)), (109, .slice A6 (y2).length cap7), (110, .int .i64 (((y2).length : Int))), (111, .int .i64 (x7771))] a' ∧ Sl 2 encII w' fp0 A0 l0 ∧ Ow 2 encII 37 w' fp8 A6 cap7 y2 ∧ OwR 1 encI 25 2 w' fp5250 fr5252 A5248 cap5249 l5247 ∧ Ow 1 encI 2 w' [b5270] (some ⟨b5270, 0, none⟩) (Int.toNat (((y2).length : Int))) l6463 ∧ Ow 1 encI 2 w' fp7076 A7074 cap7075 l7772 ∧ Cl w' b7609 37 [.int .i64 (x7607.1), .int .i64 (x7607.2)] ∧ Chg [] w0 w' ∧ w0.heap.size ≤ w'.heap.size) hr7781 (fun hst => ⟨0, l7593, rfl, Fr.of hst (by kernel_rfl), F7595, F7596, F7597, F7598, F7599, F7620, hB, hZ⟩) ?_
                rintro _ c7784 a' w7770 ⟨x7771, l7772, rfl, hF7773, F7774, F7775, F7776, F7777, F7778, F7779, hB, hZ⟩ hx7785
                refine Fr.goOn hF7773 (by kernel_rfl) ?_
                have hm := hx7785
                unfold m_impl_steiner_s34 at hm
                refine cW_seq ?_
                refine cW_region ?_
                refine wS_pure 1 [(112, .bool (decide (x7771 < (((y2).length : Int)))))] (by kernel_rfl) ?_
                refine wS_end (by rfl) ?_
                refine eX_then ?_
                refine cW_seq ?_
                refine cW_cond (t := decide (x7771 < (((y2).length : Int)))) (by kernel_rfl) (fun hb7786 => ?_) (fun hb7786 => ?_)
                · have hm := condT hb7786 hm
                  refine cW_skip ?_
                  refine eX_then ?_
                  refine cW_seq ?_
                  refine cW_block ?_
                  refine cW_seq ?_
                  refine cW_region ?_
                  refine wS_pure 1 [(113, .int .i64 (x7771))] (by kernel_rfl) ?_
                  obtain ⟨x7787, hx7788, hm⟩ := bindE hm
                  refine wS_idx (d := 114) (T := 32) (A := A6) (n := (y2).length) (cap := cap7) (kd := .i64) (m := x7771) (by kernel_rfl) sl32 ((F7775.sl encII_ok).is hx7788) ?_
                  refine wS_loadA (d := 115) (T := 37) (ad := (elA A6 2 (x7771) 0)) (vs := [.int .i64 (x7787.1), .int .i64 (x7787.2)]) (by kernel_rfl) vt37 (fun i u hu => Sl.cells_at (F7775.sl encII_ok) hx7788 0 hu (by rfl)) ?_
                  refine wS_alloc (d := 16) (T := 37) (z := .agg #[.int .i64 (0), .int .i64 (0)]) (by kernel_rfl) (by kernel_rfl) ?_
                  intro b7789 w7790 G7791 F7792 hc7793
                  replace F7792 : Cl w7790 b7789 37 [.int .i64 (0), .int .i64 (0)] := F7792
                  have D7795 : Dj fp8 [b7789] := Dj.of F7775.low (low1 G7791)
                  have D7796 : Dj (fp5250 ++ fr5252) [b7789] := Dj.of F7776.low (low1 G7791)
                  have D7797 : Dj [b5270] [b7789] := Dj.of F7777.low (low1 G7791)
                  have D7798 : Dj fp7076 [b7789] := Dj.of F7778.low (low1 G7791)
                  have D7799 : Dj [b7609] [b7789] := Dj.of (lt1 F7779.lt) (low1 G7791)
                  replace F7774 := F7774.chg hc7793 Dj.nil
                  replace F7775 := F7775.chg hc7793 Dj.nil
                  replace F7776 := F7776.chg hc7793 Dj.nil
                  replace F7777 := F7777.chg hc7793 Dj.nil
                  replace F7778 := F7778.chg hc7793 Dj.nil
                  replace F7779 := F7779.chg hc7793 notNil
                  replace hB := hB.inS hc7793 inNil
                  replace G7791 := Nat.le_trans hZ G7791
                  replace hZ := Nat.le_trans hZ hc7793.size
                  refine wS_pure 1 [(15, .int .i64 (x7771))] (by kernel_rfl) ?_
                  refine wS_store (T := 37) (g := b7789) (o := 0) (ad := ⟨b7789, 0, none⟩) (v := .agg #[.int .i64 (x7787.1), .int .i64 (x7787.2)]) (vs := [.int .i64 (x7787.1), .int .i64 (x7787.2)]) (by kernel_rfl) (by rfl) sz37 (by rfl) (by rfl) F7792 (by simp only [List.length_cons, List.length_nil]; omega) ?_
                  intro w7800 F7801 hc7802
                  replace F7774 := F7774.chg hc7802 (Dj.of L0 (low1 G7791))
                  replace F7775 := F7775.chg hc7802 D7795
                  replace F7776 := F7776.chg hc7802 D7796
                  replace F7777 := F7777.chg hc7802 D7797
                  replace F7778 := F7778.chg hc7802 D7798
                  replace F7779 := F7779.chg hc7802 (dj1 D7799)
                  replace hB := hB.inS hc7802 (inLow (low1 G7791))
                  replace hZ := Nat.le_trans hZ hc7802.size
                  replace F7801 : Cl w7800 b7789 37 [.int .i64 (x7787.1), .int .i64 (x7787.2)] := F7801
                  clear F7792
                  refine wS_end (by rfl) ?_
                  refine eX_then ?_
                  refine cW_drawnTail [] 15 (by kernel_rfl) (by kernel_rfl) (fun w7825 hc7826 => ?_)
                  replace F7774 := F7774.chg hc7826 Dj.nil
                  replace F7775 := F7775.chg hc7826 Dj.nil
                  replace F7776 := F7776.chg hc7826 Dj.nil
                  replace F7777 := F7777.chg hc7826 Dj.nil
                  replace F7778 := F7778.chg hc7826 Dj.nil
                  replace F7779 := F7779.chg hc7826 notNil
                  replace F7801 := F7801.chg hc7826 notNil
                  replace hB := hB.inS hc7826 inNil
                  replace hZ := Nat.le_trans hZ hc7826.size
                  have hS := Chg.refl [] w7825
                  have Z7827 := F7774
                  have Z7828 := F7775
                  have Z7829 := F7776
                  have Z7830 := F7777
                  have Z7831 := F7778
                  have Z7832 := F7779
                  have Z7833 := F7801
                  refine wH_take [0, 1, 2, 3] [3, 2, 1, 0] [(119, .int .i64 (x7592)), (118, .slice A7074 (l7772).length cap7075), (117, .int .i64 (x7592)), (116, .slice A7074 (l7772).length cap7075)] (by kernel_rfl) (qT (qB (qT (qL (qB (qT (qB (qT (qL (qB (qT (qT (qB (qT (qL (qB (qT (qT qZ)))))))))))))))))) (by kernel_rfl) ?_
                  obtain ⟨x7834, hx7835, hm⟩ := bindE hm
                  refine wH_idx (i := 4) (d := 120) (T := 25) (A := A7074) (n := (l7772).length) (cap := cap7075) (kd := .i64) (m := x7592) (by kernel_rfl) (qT (qB (qT (qL (qB (qT (qB (qT (qL (qB (qT (qT (qB (qT (qL (qB (qT (qT qZ)))))))))))))))))) (by kernel_rfl) (by kernel_rfl) sl25 ((F7778.sl encI_ok).is hx7835) ?_
                  refine wH_load1 (i := 5) (d := 121) (T := 2) (ad := (elA A7074 1 (x7592) 0)) (v := .int .i64 (x7834)) (by kernel_rfl) (qT (qB (qT (qL (qB (qT (qB (qT (qL (qB (qT (qT (qB (qT (qL (qB (qT (qT qZ)))))))))))))))))) (by kernel_rfl) (by kernel_rfl) vt2 (fun W hW => Sl.cell ((Z7831.chg hW Dj.nil).sl encI_ok) hx7835 0 (by rfl)) ?_
                  refine wH_take [6, 7] [7, 6, 5, 4, 3, 2, 1, 0] [(123, .int .i64 (x7771)), (122, .slice (some ⟨b5270, 0, none⟩) (l6463).length (Int.toNat (((y2).length : Int))))] (by kernel_rfl) (qT (qB (qT (qL (qB (qT (qB (qT (qL (qB (qT (qT (qB (qT (qL (qB (qT (qT qZ)))))))))))))))))) (by kernel_rfl) ?_
                  obtain ⟨x7836, hx7837, hm⟩ := bindE hm
                  refine wH_idx (i := 8) (d := 124) (T := 25) (A := (some ⟨b5270, 0, none⟩)) (n := (l6463).length) (cap := (Int.toNat (((y2).length : Int)))) (kd := .i64) (m := x7771) (by kernel_rfl) (qT (qB (qT (qL (qB (qT (qB (qT (qL (qB (qT (qT (qB (qT (qL (qB (qT (qT qZ)))))))))))))))))) (by kernel_rfl) (by kernel_rfl) sl25 ((F7777.sl encI_ok).is hx7837) ?_
                  refine wH_load1 (i := 9) (d := 125) (T := 2) (ad := (elA (some ⟨b5270, 0, none⟩) 1 (x7771) 0)) (v := .int .i64 (x7836)) (by kernel_rfl) (qT (qB (qT (qL (qB (qT (qB (qT (qL (qB (qT (qT (qB (qT (qL (qB (qT (qT qZ)))))))))))))))))) (by kernel_rfl) (by kernel_rfl) vt2 (fun W hW => Sl.cell ((Z7830.chg hW Dj.nil).sl encI_ok) hx7837 0 (by rfl)) ?_
                  refine wH_loadA (i := 10) (d := 126) (T := 37) (ad := ⟨b7609, 0, none⟩) (vs := [.int .i64 (x7607.1), .int .i64 (x7607.2)]) (by kernel_rfl) (qT (qB (qT (qL (qB (qT (qB (qT (qL (qB (qT (qT (qB (qT (qL (qB (qT (qT qZ)))))))))))))))))) (by kernel_rfl) (by kernel_rfl) vt37 (fun W hW i u hu => box_cells (Z7832.chg hW notNil) 0 hu (by rfl)) ?_
                  refine wH_loadA (i := 11) (d := 127) (T := 37) (ad := ⟨b7789, 0, none⟩) (vs := [.int .i64 (x7787.1), .int .i64 (x7787.2)]) (by kernel_rfl) (qT (qB (qT (qL (qB (qT (qB (qT (qL (qB (qT (qT (qB (qT (qL (qB (qT (qT qZ)))))))))))))))))) (by kernel_rfl) (by kernel_rfl) vt37 (fun W hW i u hu => box_cells (Z7833.chg hW notNil) 0 hu (by rfl)) ?_
                  refine wH_all [12] (by rfl) (by kernel_rfl) (by simp) ⟨⟨by kernel_rfl, ?_⟩, trivial⟩
                  obtain ⟨y7838, hy7839, hm⟩ := bindE hm
                  refine wS_calls (d := 128) (f := 85) (vs := [.agg #[.int .i64 (x7607.1), .int .i64 (x7607.2)], .agg #[.int .i64 (x7787.1), .int .i64 (x7787.2)]]) (by kernel_rfl) ent85 (c_impl_far hy7839) ?_
                  rintro _ w7840 ⟨rfl, hc7841⟩
                  replace F7774 := F7774.chg hc7841 Dj.nil
                  replace F7775 := F7775.chg hc7841 Dj.nil
                  replace F7776 := F7776.chg hc7841 Dj.nil
                  replace F7777 := F7777.chg hc7841 Dj.nil
                  replace F7778 := F7778.chg hc7841 Dj.nil
                  replace F7779 := F7779.chg hc7841 notNil
                  replace F7801 := F7801.chg hc7841 notNil
                  replace hB := hB.inS hc7841 inNil
                  have hSz := hS
                  replace hS := hS.inS hc7841 inNil
                  replace hZ := Nat.le_trans hZ hc7841.size
                  refine ⟨.int .i64 (y7838), rfl, ?_⟩
                  refine wS_end (by kernel_rfl) ?_
                  refine eX_KH hS ?_
                  refine wH_take [13, 14] [14, 13, 12, 11, 10, 9, 8, 7, 6, 5, 4, 3, 2, 1, 0] [(130, .int .i64 (if (wr (x7836 + y7838)) < x7834 then (wr (x7836 + y7838)) else x7834)), (129, .int .i64 (wr (x7836 + y7838)))] (by kernel_rfl) (qT (qB (qT (qL (qB (qT (qB (qT (qL (qB (qT (qT (qB (qT (qL (qB (qT (qT qZ)))))))))))))))))) (by kernel_rfl) ?_
                  refine wH_done (by kernel_rfl) ?_
                  refine eX_tail ?_
                  obtain ⟨x7842, hx7843, hm⟩ := bindE hm
                  refine wS_idx (d := 131) (T := 25) (A := A7074) (n := (l7772).length) (cap := cap7075) (kd := .i64) (m := x7592) (by kernel_rfl) sl25 ((F7778.sl encI_ok).is hx7843) ?_
                  refine wS_storeEl (x := x7842) (if (wr (x7836 + y7838)) < x7834 then (wr (x7836 + y7838)) else x7834) (T := 2) (U := 2) (cap := cap7075) (j := 0) (A := A7074) (v := .int .i64 (if (wr (x7836 + y7838)) < x7834 then (wr (x7836 + y7838)) else x7834)) (vs := [.int .i64 (if (wr (x7836 + y7838)) < x7834 then (wr (x7836 + y7838)) else x7834)]) (m := x7592) (by kernel_rfl) (by rfl) sz2 (by rfl) encI_ok F7778 hx7843 (by simp only [List.length_cons, List.length_nil]; omega) (by rfl) ?_
                  intro w7844 F7845 hc7846
                  replace F7774 := F7774.chg hc7846 (Dj.of L0 G7078)
                  replace F7775 := F7775.chg hc7846 D7081
                  replace F7776 := F7776.chg hc7846 D7082
                  replace F7777 := F7777.chg hc7846 D7083
                  replace F7779 := F7779.chg hc7846 (dj1 (D7618).symm)
                  replace F7801 := F7801.chg hc7846 (dj1 (D7798).symm)
                  replace hB := hB.inS hc7846 (inLow G7078)
                  replace hZ := Nat.le_trans hZ hc7846.size
                  clear F7778
                  rewrite [show (l7772).length = (l7772.set (Int.toNat x7592) (if (wr (x7836 + y7838)) < x7834 then (wr (x7836 + y7838)) else x7834)).length from (List.length_set ..).symm]
                  refine wS_end (by rfl) ?_
                  refine eX_block ?_
                  refine eX_then ?_
                  refine cW_prune [(0, .slice A0 (l0).length cap0), (3, .slice A6 (y2).length cap7), (4, .int .i64 (wr ((((l0).length : Int)) - 1))), (5, .slice A5248 (l5247).length cap5249), (6, .int .i64 (x5253)), (7, .slice (some ⟨b5270, 0, none⟩) (l6463).length (Int.toNat (((y2).length : Int)))), (12, .slice A7074 (l7772.set (Int.toNat x7592) (if (wr (x7836 + y7838)) < x7834 then (wr (x7836 + y7838)) else x7834)).length cap7075), (13, .int .i64 (x7592)), (14, .pointer (some ⟨b7609, 0, none⟩)), (102, .slice A6 (y2).length cap7), (103, .int .i64 (((y2).length : Int))), (104, .int .i64 (x7592)), (109, .slice A6 (y2).length cap7), (110, .int .i64 (((y2).length : Int))), (111, .int .i64 (x7771))] (by kernel_rfl) (by kernel_rfl) (fun a7847 => ?_)
                  refine cW_region ?_
                  refine wS_pure 2 [(111, .int .i64 (wr (x7771 + 1))), (132, .int .i64 (wr (x7771 + 1)))] (by kernel_rfl) ?_
                  refine wS_end (by rfl) ?_
                  have hq : (some (Ctl.next ((wr (x7771 + 1), l7772.set (Int.toNat x7592) (if (wr (x7836 + y7838)) < x7834 then (wr (x7836 + y7838)) else x7834)))) : Option (Ctl (Int × (List (Int))) ((List (Int))))) = some _ := hm
                  replace hq := someE hq
                  subst hq
                  exact eX_next hx7785 (fun hst => ⟨wr (x7771 + 1), l7772.set (Int.toNat x7592) (if (wr (x7836 + y7838)) < x7834 then (wr (x7836 + y7838)) else x7834), rfl, Fr.of hst (by kernel_rfl), F7774, F7775, F7776, F7777, F7845, F7779, hB, hZ⟩)
                · have hm := condF hb7786 hm
                  refine cW_exit ?_
                  refine eX_then_exit ?_
                  have hq : (some (Ctl.out l7772) : Option (Ctl (Int × (List (Int))) ((List (Int))))) = some _ := hm
                  replace hq := someE hq
                  subst hq
                  refine eX_outX hx7785 (fun hr7848 => ?_)
                  replace hr7848 := hr7848.symm
                  subst hr7848
                  refine eX_block_hit ?_
                  exact eX_J (fun hst => ⟨l7772, rfl, Fr.of hst (by kernel_rfl), F7774, F7775, F7776, F7777, F7778, hB, hZ⟩)
              · rintro a' w7762 ⟨l7763, hJ, hF7764, F7765, F7766, F7767, F7768, F7769, hB, hZ⟩
                subst hJ
                refine Fr.goX hF7764 (by kernel_rfl) ?_
                refine eX_block ?_
                refine eX_then ?_
                refine cW_region ?_
                refine wS_pure 2 [(104, .int .i64 (wr (x7592 + 1))), (133, .int .i64 (wr (x7592 + 1)))] (by kernel_rfl) ?_
                refine wS_end (by rfl) ?_
                have hq : (some (Ctl.next ((wr (x7592 + 1), l7763))) : Option (Ctl (Int × (List (Int))) ((List (Int))))) = some _ := hm
                replace hq := someE hq
                subst hq
                exact eX_next hx7605 (fun hst => ⟨wr (x7592 + 1), l7763, rfl, Fr.of hst (by kernel_rfl), F7765, F7766, F7767, F7768, F7769, hB, hZ⟩)
            · have hm := condF hb7606 hm
              refine cW_exit ?_
              refine eX_then_exit ?_
              have hq : (some (Ctl.out l7593) : Option (Ctl (Int × (List (Int))) ((List (Int))))) = some _ := hm
              replace hq := someE hq
              subst hq
              refine eX_outX hx7605 (fun hr7849 => ?_)
              replace hr7849 := hr7849.symm
              subst hr7849
              refine eX_block_hit ?_
              exact eX_J (fun hst => ⟨l7593, rfl, Fr.of hst (by kernel_rfl), F7595, F7596, F7597, F7599, hB, hZ⟩)
          · rintro a' w7584 ⟨l7585, hJ, hF7586, F7587, F7588, F7589, F7590, hB, hZ⟩
            subst hJ
            refine Fr.goX hF7586 (by kernel_rfl) ?_
            refine eX_then ?_
            refine cW_region ?_
            refine wS_pure 3 [(136, .slice A7074 (l7585).length cap7075), (135, .int .i64 (x5253)), (134, .slice A5248 (l5247).length cap5249)] (by kernel_rfl) ?_
            obtain ⟨x7850, hx7851, hm⟩ := bindE hm
            refine wS_idx (d := 137) (T := 40) (A := A5248) (n := (l5247).length) (cap := cap5249) (kd := .i64) (m := x5253) (by kernel_rfl) sl40 ((F7589.slr encI_ok).is hx7851) ?_
            refine wS_storeRow (k := 1) (enc := encI) (x := x7850) (l := l7585) (T := 25) (U := 25) (cap := cap5249) (c := cap7075) (A := A5248) (B := A7074) (m := x5253) (by kernel_rfl) sz25 F7589 F7590 D7082 hx7851 ?_
            intro w7855 F7856 hc7857
            have D7859 : Dj fp8 (fp5250 ++ (fr5252 ++ fp7076)) := Dj.app (Dj.inl D5259) (Dj.app (Dj.inr D5259) D7081)
            have G7860 := lowApp (low_inl G5258) (lowApp (low_inr G5258) G7078)
            have Dm7861 := Dj.inl D7082.symm
            replace F7587 := F7587.chg hc7857 (Dj.inl (Dj.of L0 G5258))
            replace F7588 := F7588.chg hc7857 (Dj.inl D5259)
            replace F7590 := F7590.chg hc7857 (Dj.inl (D7082).symm)
            replace hB := hB.inS hc7857 (memS_inl (inLow G5258))
            replace hZ := Nat.le_trans hZ hc7857.size
            replace F7590 := (F7590.sl encI_ok)
            rewrite [show (l5247).length = (l5247.set (Int.toNat x5253) l7585).length from (List.length_set ..).symm]
            refine wS_end (by rfl) ?_
            refine eX_block ?_
            refine eX_then ?_
            refine cW_region ?_
            refine wS_pure 3 [(6, .int .i64 (wr (x5253 + 1))), (32, .int .i64 (wr (x5253 + 1))), (31, .int .i64 (x5253))] (by kernel_rfl) ?_
            refine wS_end (by rfl) ?_
            have hq : (some (Ctl.next ((l5247.set (Int.toNat x5253) l7585, wr (x5253 + 1)))) : Option (Ctl ((List (List (Int))) × Int) ((List (List (Int)))))) = some _ := hm
            replace hq := someE hq
            subst hq
            exact eX_next hx5265 (fun hst => ⟨l5247.set (Int.toNat x5253) l7585, A5248, cap5249, fp5250, (fr5252 ++ fp7076), wr (x5253 + 1), rfl, Fr.of hst (by kernel_rfl), F7587, F7588, F7856, G7860, D7859, hB, hZ⟩)
      · have hm := condF hb5268 hm
        refine cW_exit ?_
        refine eX_then_exit ?_
        have hq : (some (Ctl.out l5247) : Option (Ctl ((List (List (Int))) × Int) ((List (List (Int)))))) = some _ := hm
        replace hq := someE hq
        subst hq
        refine eX_outX hx5265 (fun hr7862 => ?_)
        replace hr7862 := hr7862.symm
        subst hr7862
        refine eX_block_hit ?_
        exact eX_J (fun hst => ⟨l5247, A5248, cap5249, fp5250, fr5252, rfl, Fr.of hst (by kernel_rfl), F5255, F5256, F5257, G5258, D5259, hB, hZ⟩)
    · rintro a' w5233 ⟨l5234, A5235, cap5236, fp5237, fr5239, hJ, hF5240, F5241, F5242, F5243, G5244, D5245, hB, hZ⟩
      subst hJ
      refine Fr.goX hF5240 (by kernel_rfl) ?_
      refine eX_then ?_
      refine cW_seq ?_
      refine cW_drawnTail [] 12 (by kernel_rfl) (by kernel_rfl) (fun w7889 hc7890 => ?_)
      replace F5241 := F5241.chg hc7890 Dj.nil
      replace F5242 := F5242.chg hc7890 Dj.nil
      replace F5243 := F5243.chg hc7890 Dj.nil
      replace hB := hB.inS hc7890 inNil
      replace hZ := Nat.le_trans hZ hc7890.size
      have hS := Chg.refl [] w7889
      have Z7891 := F5241
      have Z7892 := F5242
      have Z7893 := F5243
      refine wH_take [0, 1] [1, 0] [(139, .int .i64 (wr ((((l0).length : Int)) - 1))), (138, .slice A5235 (l5234).length cap5236)] (by kernel_rfl) (qT (qT qZ)) (by kernel_rfl) ?_
      obtain ⟨u7894, hu7895, hm⟩ := bindE hm
      refine wH_shl (i := 2) (d := 140) (x := 1) (y := wr ((((l0).length : Int)) - 1)) (yk := .i64) (by kernel_rfl) (qT (qT qZ)) (by kernel_rfl) (by kernel_rfl) (p0E hu7895) ?_
      refine wH_take [3] [3, 2, 1, 0] [(141, .int .i64 (wr ((shlI 1 (wr ((((l0).length : Int)) - 1))) - 1)))] (by kernel_rfl) (qT (qT qZ)) (by kernel_rfl) ?_
      obtain ⟨x7896, hx7897, hm⟩ := bindE hm
      refine wH_idx (i := 4) (d := 142) (T := 40) (A := A5235) (n := (l5234).length) (cap := cap5236) (kd := .i64) (m := wr ((shlI 1 (wr ((((l0).length : Int)) - 1))) - 1)) (by kernel_rfl) (qT (qT qZ)) (by kernel_rfl) (by kernel_rfl) sl40 ((F5243.slr encI_ok).is hx7897) ?_
      obtain ⟨A7898, cap7899, hc7901, F7900, K7902⟩ := OwR.row Z7893 encI_ok hx7897
      have G7904 := low_inr G5244
      have Dm7905 := (F5243.dj).symm
      refine wH_load1 (i := 5) (d := 143) (T := 25) (ad := (elA A5235 1 (wr ((shlI 1 (wr ((((l0).length : Int)) - 1))) - 1)) 0)) (v := .slice A7898 (x7896).length cap7899) (by kernel_rfl) (qT (qT qZ)) (by kernel_rfl) (by kernel_rfl) vt25 (fun W hW => hW.keep hc7901) ?_
      refine wH_take [6, 7, 8] [8, 7, 6, 5, 4, 3, 2, 1, 0] [(146, .int .i64 (wr ((((l0).length : Int)) - 1))), (145, .slice A0 (l0).length cap0), (144, .slice A6 (y2).length cap7)] (by kernel_rfl) (qT (qT qZ)) (by kernel_rfl) ?_
      obtain ⟨x7906, hx7907, hm⟩ := bindE hm
      refine wH_idx (i := 9) (d := 147) (T := 32) (A := A0) (n := (l0).length) (cap := cap0) (kd := .i64) (m := wr ((((l0).length : Int)) - 1)) (by kernel_rfl) (qT (qT qZ)) (by kernel_rfl) (by kernel_rfl) sl32 (F5241.is hx7907) ?_
      refine wH_loadA (i := 10) (d := 148) (T := 37) (ad := (elA A0 2 (wr ((((l0).length : Int)) - 1)) 0)) (vs := [.int .i64 (x7906.1), .int .i64 (x7906.2)]) (by kernel_rfl) (qT (qT qZ)) (by kernel_rfl) (by kernel_rfl) vt37 (fun W hW i u hu => Sl.cells_at (Z7891.chg hW Dj.nil) hx7907 0 hu (by rfl)) ?_
      refine wH_all [11] (by rfl) (by kernel_rfl) (by simp) ⟨⟨by kernel_rfl, ?_⟩, trivial⟩
      obtain ⟨y7908, hy7909, hm⟩ := bindE hm
      refine wS_calls (d := 149) (f := 169) (vs := [.slice A6 (y2).length cap7, .agg #[.int .i64 (x7906.1), .int .i64 (x7906.2)]]) (by kernel_rfl) ent169 (c_slices_Index_impl_Point_impl_Point hy7909 (F5242.sl encII_ok)) ?_
      rintro _ w7910 ⟨rfl, hc7911⟩
      replace F5241 := F5241.chg hc7911 Dj.nil
      replace F5242 := F5242.chg hc7911 Dj.nil
      replace F5243 := F5243.chg hc7911 Dj.nil
      replace F7900 := F7900.chg hc7911 Dj.nil
      have hc7912 := hc7911.keep hc7901
      replace hB := hB.inS hc7911 inNil
      have hSz := hS
      replace hS := hS.inS hc7911 inNil
      replace hZ := Nat.le_trans hZ hc7911.size
      refine ⟨.int .i64 (y7908), rfl, ?_⟩
      refine wS_end (by kernel_rfl) ?_
      refine eX_KH hS ?_
      refine wH_done (by kernel_rfl) ?_
      refine eX_tail ?_
      obtain ⟨x7913, hx7914, hm⟩ := bindE hm
      refine wS_idx (d := 150) (T := 25) (A := A7898) (n := (x7896).length) (cap := cap7899) (kd := .i64) (m := y7908) (by kernel_rfl) sl25 (F7900.is hx7914) ?_
      refine wS_load1 (d := 151) (T := 2) (ad := (elA A7898 1 (y7908) 0)) (v := .int .i64 (x7913)) (by kernel_rfl) vt2 (Sl.cell F7900 hx7914 0 (by rfl)) ?_
      refine wS_pure 1 [(2, .int .i64 (x7913))] (by kernel_rfl) ?_
      refine wS_end (by rfl) ?_
      refine eX_then ?_
      refine cW_ret ?_
      have hq : (some x7913 : Option ((Int))) = some _ := hm
      replace hq := someE hq
      subst hq
      refine eX_ret (vs := [.int .i64 (x7913)]) [.tmp 2] (by rfl) ⟨by (show lkE _ _ _ = _); kernel_rfl, trivial⟩ ?_
      exact ⟨rfl, hB⟩

set_option maxRecDepth 100000 in
/-- impl.SteinerLength -/
theorem c_impl_SteinerLength {w0 : World} {l0 : List (Int × Int)} {A0 : Option Addr} {cap0 : Nat} {fp0 : List Nat} {r : (Int) × (Bool)} (hm : m_impl_SteinerLength l0 = some r) (F0 : Sl 2 encII w0 fp0 A0 l0) :
    Calls Try.prog 47 #[.slice A0 (l0).length cap0] w0 fun e w' => e = .returned (.tuple #[.int .i64 (r.1), .bool (r.2)]) ∧ Chg [] w0 w' := by
  have L0 := F0.low
  have hB : Chg [] w0 w0 := Chg.refl _ _
  have hZ := Nat.le_refl w0.heap.size
  unfold m_impl_SteinerLength at hm
  refine enterE (N := 9) Try.func47 (by rfl) Try.ntmps47 (by simp) [(0, .slice A0 (l0).length cap0)] (by rfl) (by kernel_rfl) (fun a => ?_)
  refine cW_seq ?_
  refine cW_region ?_
  refine wS_pure 2 [(3, .bool (false)), (2, .int .i64 (0))] (by kernel_rfl) ?_
  refine wS_end (by rfl) ?_
  refine eX_then ?_
  refine cW_seq ?_
  refine cW_seq ?_
  refine cW_region ?_
  refine wS_pure 1 [(4, .slice A0 (l0).length cap0)] (by kernel_rfl) ?_
  obtain ⟨y2, hy3, hm⟩ := bindE hm
  refine wS_calls (d := 5) (f := 95) (vs := [.slice A0 (l0).length cap0, .int .i64 (7)]) (by kernel_rfl) ent95 (c_impl_pinsOk hy3 F0) ?_
  rintro _ w4 ⟨rfl, hc5⟩
  replace F0 := F0.chg hc5 Dj.nil
  replace hB := hB.inS hc5 inNil
  replace hZ := Nat.le_trans hZ hc5.size
  refine ⟨.bool (y2), rfl, ?_⟩
  refine wS_pure 1 [(6, .bool (!y2))] (by kernel_rfl) ?_
  refine wS_end (by rfl) ?_
  refine eX_then ?_
  refine cW_cond (t := !y2) (by kernel_rfl) (fun hb6 => ?_) (fun hb6 => ?_)
  · have hm := condT hb6 hm
    refine cW_seq ?_
    refine cW_region ?_
    refine wS_pure 2 [(3, .bool (false)), (2, .int .i64 (0))] (by kernel_rfl) ?_
    refine wS_end (by rfl) ?_
    refine eX_then ?_
    refine cW_ret ?_
    refine eX_then_ret ?_
    have hq : (some ((0, false)) : Option ((Int) × (Bool))) = some _ := hm
    replace hq := someE hq
    subst hq
    refine eX_ret (vs := [.int .i64 (0), .bool (false)]) [.tmp 2, .tmp 3] (by rfl) ⟨by (show lkE _ _ _ = _); kernel_rfl, ⟨by (show lkE _ _ _ = _); kernel_rfl, trivial⟩⟩ ?_
    exact ⟨rfl, hB⟩
  · have hm := condF hb6 hm
    refine cW_skip ?_
    refine eX_then ?_
    refine cW_seq ?_
    refine cW_region ?_
    refine wS_pure 1 [(7, .slice A0 (l0).length cap0)] (by kernel_rfl) ?_
    obtain ⟨y7, hy8, hm⟩ := bindE hm
    refine wS_calls (d := 8) (f := 110) (vs := [.slice A0 (l0).length cap0]) (by kernel_rfl) ent110 (c_impl_steiner hy8 F0) ?_
    rintro _ w9 ⟨rfl, hc10⟩
    replace F0 := F0.chg hc10 Dj.nil
    replace hB := hB.inS hc10 inNil
    replace hZ := Nat.le_trans hZ hc10.size
    refine ⟨.int .i64 (y7), rfl, ?_⟩
    refine wS_pure 2 [(3, .bool (true)), (2, .int .i64 (y7))] (by kernel_rfl) ?_
    refine wS_end (by rfl) ?_
    refine eX_then ?_
    refine cW_ret ?_
    have hq : (some ((y7, true)) : Option ((Int) × (Bool))) = some _ := hm
    replace hq := someE hq
    subst hq
    refine eX_ret (vs := [.int .i64 (y7), .bool (true)]) [.tmp 2, .tmp 3] (by rfl) ⟨by (show lkE _ _ _ = _); kernel_rfl, ⟨by (show lkE _ _ _ = _); kernel_rfl, trivial⟩⟩ ?_
    exact ⟨rfl, hB⟩

set_option maxRecDepth 100000 in
/-- impl.ArePins -/
theorem c_impl_ArePins {w0 : World} {l0 : List (Int × Int)} {A0 : Option Addr} {cap0 : Nat} {fp0 : List Nat} {r : (Bool)} (hm : m_impl_ArePins l0 = some r) (F0 : Sl 2 encII w0 fp0 A0 l0) :
    Calls Try.prog 111 #[.slice A0 (l0).length cap0] w0 fun e w' => e = .returned (.bool (r)) ∧ Chg [] w0 w' := by
  have L0 := F0.low
  have hB : Chg [] w0 w0 := Chg.refl _ _
  have hZ := Nat.le_refl w0.heap.size
  unfold m_impl_ArePins at hm
  refine enterE (N := 5) Try.func111 (by rfl) Try.ntmps111 (by simp) [(0, .slice A0 (l0).length cap0)] (by rfl) (by kernel_rfl) (fun a => ?_)
  refine cW_seq ?_
  refine cW_region ?_
  refine wS_pure 1 [(2, .bool (false))] (by kernel_rfl) ?_
  refine wS_end (by rfl) ?_
  refine eX_then ?_
  refine cW_seq ?_
  refine cW_region ?_
  refine wS_pure 1 [(3, .slice A0 (l0).length cap0)] (by kernel_rfl) ?_
  obtain ⟨y2, hy3, hm⟩ := bindE hm
  refine wS_calls (d := 4) (f := 95) (vs := [.slice A0 (l0).length cap0, .int .i64 (20)]) (by kernel_rfl) ent95 (c_impl_pinsOk hy3 F0) ?_
  rintro _ w4 ⟨rfl, hc5⟩
  replace F0 := F0.chg hc5 Dj.nil
  replace hB := hB.inS hc5 inNil
  replace hZ := Nat.le_trans hZ hc5.size
  refine ⟨.bool (y2), rfl, ?_⟩
  refine wS_pure 1 [(2, .bool (y2))] (by kernel_rfl) ?_
  refine wS_end (by rfl) ?_
  refine eX_then ?_
  refine cW_ret ?_
  have hq : (some y2 : Option ((Bool))) = some _ := hm
  replace hq := someE hq
  subst hq
  refine eX_ret (vs := [.bool (y2)]) [.tmp 2] (by rfl) ⟨by (show lkE _ _ _ = _); kernel_rfl, trivial⟩ ?_
  exact ⟨rfl, hB⟩

end Go.Proofs.Ytgaecldkiijmpaa
