/- Printed walks: spec.l05Gain, spec.GainOf, impl.spanning, slices.Index[[]impl.Point,impl.Point], slices.Contains[[]impl.Point,impl.Point], impl.gain, impl.GainOf, laws.FnExactGainOf, spec.OneByOne, impl.oneByOne, impl.OneByOne, laws.FnExactOneByOne. -/
import Derived.Test.YtdkpfkmmblmlhaaProg
import Derived.Test.YtdkpfkmmblmlhaaWGn01
set_option linter.unusedSimpArgs false
set_option linter.unusedVariables false
namespace Go.Proofs.Ytdkpfkmmblmlhaa
open Go.RowKit
attribute [local irreducible] wS cW eX wH

theorem ent20 : Ent Try.prog 20 := fun _ => by kernel_rfl
theorem ent22 : Ent Try.prog 22 := fun _ => by kernel_rfl
theorem ent24 : Ent Try.prog 24 := fun _ => by kernel_rfl
theorem ent36 : Ent Try.prog 36 := fun _ => by kernel_rfl
theorem ent37 : Ent Try.prog 37 := fun _ => by kernel_rfl
theorem ent48 : Ent Try.prog 48 := fun _ => by kernel_rfl
theorem ent49 : Ent Try.prog 49 := fun _ => by kernel_rfl
theorem ent66 : Ent Try.prog 66 := fun _ => by kernel_rfl
theorem ent67 : Ent Try.prog 67 := fun _ => by kernel_rfl
theorem ent73 : Ent Try.prog 73 := fun _ => by kernel_rfl
theorem ent86 : Ent Try.prog 86 := fun _ => by kernel_rfl
theorem ent87 : Ent Try.prog 87 := fun _ => by kernel_rfl
theorem ent88 : Ent Try.prog 88 := fun _ => by kernel_rfl
theorem ent89 : Ent Try.prog 89 := fun _ => by kernel_rfl
theorem ent99 : Ent Try.prog 99 := fun _ => by kernel_rfl
theorem ent100 : Ent Try.prog 100 := fun _ => by kernel_rfl
theorem ent104 : Ent Try.prog 104 := fun _ => by kernel_rfl
theorem ent106 : Ent Try.prog 106 := fun _ => by kernel_rfl
theorem ent114 : Ent Try.prog 114 := fun _ => by kernel_rfl
theorem ent131 : Ent Try.prog 131 := fun _ => by kernel_rfl
theorem ent132 : Ent Try.prog 132 := fun _ => by kernel_rfl
theorem ent135 : Ent Try.prog 135 := fun _ => by kernel_rfl
theorem ent138 : Ent Try.prog 138 := fun _ => by kernel_rfl

set_option maxRecDepth 100000 in
/-- spec.l05Gain -/
theorem c_spec_l05Gain {w0 : World} {l0 : List (Int × Int)} {A0 : Option Addr} {cap0 : Nat} {fp0 : List Nat} {p1_0 : Int} {p1_1 : Int} {r : (Int)} (hm : m_spec_l05Gain l0 p1_0 p1_1 = some r) (F0 : Sl 2 encII w0 fp0 A0 l0) :
    Calls Try.prog 99 #[.slice A0 (l0).length cap0, .agg #[.int .i64 (p1_0), .int .i64 (p1_1)]] w0 fun e w' => e = .returned (.int .i64 (r)) ∧ Chg [] w0 w' := by
  have L0 := F0.low
  have hB : Chg [] w0 w0 := Chg.refl _ _
  have hZ := Nat.le_refl w0.heap.size
  unfold m_spec_l05Gain at hm
  refine enterE (N := 27) Try.func99 (by rfl) Try.ntmps99 (by simp) [(0, .slice A0 (l0).length cap0), (1, .agg #[.int .i64 (p1_0), .int .i64 (p1_1)])] (by rfl) (by kernel_rfl) (fun a => ?_)
  refine cW_seq ?_
  refine cW_region ?_
  refine wS_box (d := 3) (T := 34) (x := .agg #[.int .i64 (p1_0), .int .i64 (p1_1)]) (by kernel_rfl) ?_
  intro b2 w3 G4 F5 hc6
  replace F5 : Cl w3 b2 34 [.int .i64 (p1_0), .int .i64 (p1_1)] := F5
  replace F0 := F0.chg hc6 Dj.nil
  replace hB := hB.inS hc6 inNil
  replace G4 := Nat.le_trans hZ G4
  replace hZ := Nat.le_trans hZ hc6.size
  refine wS_pure 1 [(4, .int .i64 (0))] (by kernel_rfl) ?_
  refine wS_end (by rfl) ?_
  refine eX_then ?_
  refine cW_seq ?_
  refine cW_region ?_
  refine wS_pure 1 [(10, .slice A0 (l0).length cap0)] (by kernel_rfl) ?_
  obtain ⟨y8, hy9, hm⟩ := bindE hm
  refine wS_calls (d := 11) (f := 104) (vs := [.slice A0 (l0).length cap0]) (by kernel_rfl) ent104 (c_spec_l05Tree hy9 F0) ?_
  rintro _ w10 ⟨A12, cap13, fp14, fr17, rfl, F15, G16, hc11⟩
  have D19 : Dj [b2] (fp14 ++ fr17) := Dj.of (lt1 F5.lt) G16
  replace F0 := F0.chg hc11 Dj.nil
  replace F5 := F5.chg hc11 notNil
  replace hB := hB.inS hc11 inNil
  replace G16 := low_le hZ G16
  replace hZ := Nat.le_trans hZ hc11.size
  refine ⟨.tuple #[.slice A12 (y8.1).length cap13, .int .i64 (y8.2)], rfl, ?_⟩
  refine wS_pure 5 [(6, .int .i64 (y8.2)), (5, .slice A12 (y8.1).length cap13), (13, .int .i64 (y8.2)), (12, .slice A12 (y8.1).length cap13), (9, .tuple #[.slice A12 (y8.1).length cap13, .int .i64 (y8.2)])] (by kernel_rfl) ?_
  refine wS_end (by rfl) ?_
  refine eX_then ?_
  refine cW_seq ?_
  obtain ⟨s385, hs386, hm⟩ := bindE hm
  refine cW_cut (fun a' w' => ∃ x383 : Int, x383 = s385 ∧ Fr 27 [(6, .int .i64 (y8.2)), (8, .int .i64 (x383))] a' ∧ Chg [] w0 w' ∧ w0.heap.size ≤ w'.heap.size) ?_ ?_
  · have hm := hs386
    refine cW_drawnTail [] 11 (by kernel_rfl) (by kernel_rfl) (fun w387 hc388 => ?_)
    replace F0 := F0.chg hc388 Dj.nil
    replace F5 := F5.chg hc388 notNil
    replace F15 := F15.chg hc388 Dj.nil
    replace hB := hB.inS hc388 inNil
    replace hZ := Nat.le_trans hZ hc388.size
    have hS := Chg.refl [] w387
    have Z389 := F0
    have Z390 := F5
    have Z391 := F15
    refine wH_take [1] [1] [(16, .slice A0 (l0).length cap0)] (by kernel_rfl) (qT (qT (qT qZ))) (by kernel_rfl) ?_
    refine wH_loadA (i := 3) (d := 18) (T := 34) (ad := ⟨b2, 0, none⟩) (vs := [.int .i64 (p1_0), .int .i64 (p1_1)]) (by kernel_rfl) (qT (qT (qT qZ))) (by kernel_rfl) (by kernel_rfl) vt34 (fun W hW i u hu => box_cells (Z390.chg hW notNil) 0 hu (by rfl)) ?_
    refine wH_all [0, 4] (by rfl) (by kernel_rfl) (by simp) ⟨⟨by kernel_rfl, ?_⟩, ⟨by kernel_rfl, ?_⟩, trivial⟩
    · skip
      refine wS_bs0 (α := Int × Int) (enc := encII) (d := 15) (t := 25) (T := 34) (by kernel_rfl) el25 ?_
      intro b392 w393 G394 F395 hc396
      have D398 : Dj [b2] [b392] := Dj.of (lt1 F5.lt) (low1 G394)
      have D399 : Dj (fp14 ++ fr17) [b392] := Dj.of F15.low (low1 G394)
      replace F0 := F0.chg hc396 Dj.nil
      replace F5 := F5.chg hc396 notNil
      replace F15 := F15.chg hc396 Dj.nil
      replace hB := hB.inS hc396 inNil
      have hSz := hS
      replace hS := hS.inS hc396 inNil
      have Gz400 := low1 (Nat.le_trans hSz.size G394)
      replace G394 := Nat.le_trans hZ G394
      replace G394 := low1 G394
      replace hZ := Nat.le_trans hZ hc396.size
      refine wS_end (by kernel_rfl) ?_
      refine eX_KH hS ?_
      refine wH_all [2, 4] (by rfl) (by kernel_rfl) (by simp) ⟨⟨by kernel_rfl, ?_⟩, ⟨by kernel_rfl, ?_⟩, trivial⟩
      · skip
        obtain ⟨_, hk401, hm⟩ := bindE hm
        replace hk401 := apE hk401
        refine wS_appendAny (enc := encII) (l := (([] : List (Int × Int)) : List (Int × Int))) (l2 := (l0 : List (Int × Int))) (d := 17) (t := 25) (T := 34) (A := (some ⟨b392, 0, none⟩)) (A2 := A0) (cap := 0) (cap2 := cap0) (by kernel_rfl) el25 encII_ok F395 F0 hk401 ?_
        intro w402 fp403 A404 cap405 F406 hc407 hp408
        have G410 := low_ap G394 hZ hp408
        have D411 : Dj [b2] fp403 := Dj.ap D398 (lt1 F5.lt) hp408
        have D412 : Dj (fp14 ++ fr17) fp403 := Dj.ap D399 F15.low hp408
        replace F0 := F0.chg hc407 (Dj.of L0 G394)
        replace F5 := F5.chg hc407 (dj1 D398)
        replace F15 := F15.chg hc407 D399
        replace hB := hB.inS hc407 (inLow G394)
        have hSz := hS
        replace hS := hS.inS hc407 (inLow Gz400)
        have Sn413 := sin_ap (Sg := []) (inLow Gz400) hSz.size hp408
        replace hZ := Nat.le_trans hZ hc407.size
        refine wS_end (by kernel_rfl) ?_
        refine eX_KH hS ?_
        refine wH_all [4] (by rfl) (by kernel_rfl) (by simp) ⟨⟨by kernel_rfl, ?_⟩, trivial⟩
        refine wS_bs (enc := encII) ([(p1_0, p1_1)] : List (Int × Int)) [.int .i64 (p1_0), .int .i64 (p1_1)] (d := 19) (t := 25) (T := 34) (n := 1) (ps := [(0, .agg #[.int .i64 (p1_0), .int .i64 (p1_1)])]) (by kernel_rfl) el25 encII_ok (by rfl) (by omega) (by omega) (by kernel_rfl) (by rfl) ?_
        intro b414 w415 G416 F417 hc418
        have D420 : Dj [b2] [b414] := Dj.of (lt1 F5.lt) (low1 G416)
        have D421 : Dj (fp14 ++ fr17) [b414] := Dj.of F15.low (low1 G416)
        have D422 : Dj fp403 [b414] := Dj.of F406.low (low1 G416)
        replace F0 := F0.chg hc418 Dj.nil
        replace F5 := F5.chg hc418 notNil
        replace F15 := F15.chg hc418 Dj.nil
        replace F406 := F406.chg hc418 Dj.nil
        replace hB := hB.inS hc418 inNil
        have hSz := hS
        replace hS := hS.inS hc418 inNil
        have Gz423 := low1 (Nat.le_trans hSz.size G416)
        replace G416 := Nat.le_trans hZ G416
        replace G416 := low1 G416
        replace hZ := Nat.le_trans hZ hc418.size
        refine wS_end (by kernel_rfl) ?_
        refine eX_KH hS ?_
        refine wH_all [5] (by rfl) (by kernel_rfl) (by simp) ⟨⟨by kernel_rfl, ?_⟩, trivial⟩
        obtain ⟨_, hk424, hm⟩ := bindE hm
        replace hk424 := apE hk424
        refine wS_append (enc := encII) (l := ((([] : List (Int × Int))) ++ l0 : List (Int × Int))) (l2 := (([(p1_0, p1_1)] : List (Int × Int)) : List (Int × Int))) (d := 20) (t := 25) (T := 34) (A := A404) (A2 := (some ⟨b414, 0, none⟩)) (cap := cap405) (cap2 := 1) (by kernel_rfl) el25 encII_ok F406 (F417.sl encII_ok) (by rfl) hk424 ?_
        intro w425 fp426 A427 cap428 F429 hc430 hp431
        have G433 := low_ap G410 hZ hp431
        have D434 : Dj [b2] fp426 := Dj.ap D411 (lt1 F5.lt) hp431
        have D435 : Dj (fp14 ++ fr17) fp426 := Dj.ap D412 F15.low hp431
        have D436 : Dj [b414] fp426 := Dj.ap (D422).symm F417.low hp431
        replace F0 := F0.chg hc430 (Dj.of L0 G410)
        replace F5 := F5.chg hc430 (dj1 D411)
        replace F15 := F15.chg hc430 D412
        replace F417 := F417.chg hc430 (D422).symm
        replace hB := hB.inS hc430 (inLow G410)
        have hSz := hS
        replace hS := hS.inS hc430 Sn413
        have Sn437 := sin_ap (Sg := []) Sn413 hSz.size hp431
        replace hZ := Nat.le_trans hZ hc430.size
        refine wS_end (by kernel_rfl) ?_
        refine eX_KH hS ?_
        refine wH_all [6] (by rfl) (by kernel_rfl) (by simp) ⟨⟨by kernel_rfl, ?_⟩, trivial⟩
        obtain ⟨y438, hy439, hm⟩ := bindE hm
        refine wS_calls (d := 21) (f := 104) (vs := [.slice A427 (((([] : List (Int × Int))) ++ l0) ++ (([(p1_0, p1_1)] : List (Int × Int)))).length cap428]) (by kernel_rfl) ent104 (c_spec_l05Tree hy439 (F429.sl encII_ok)) ?_
        rintro _ w440 ⟨A442, cap443, fp444, fr447, rfl, F445, G446, hc441⟩
        have D449 : Dj [b2] (fp444 ++ fr447) := Dj.of (lt1 F5.lt) G446
        have D450 : Dj (fp14 ++ fr17) (fp444 ++ fr447) := Dj.of F15.low G446
        have D451 : Dj [b414] (fp444 ++ fr447) := Dj.of F417.low G446
        have D452 : Dj fp426 (fp444 ++ fr447) := Dj.of F429.low G446
        replace F0 := F0.chg hc441 Dj.nil
        replace F5 := F5.chg hc441 notNil
        replace F15 := F15.chg hc441 Dj.nil
        replace F417 := F417.chg hc441 Dj.nil
        replace F429 := F429.chg hc441 Dj.nil
        replace hB := hB.inS hc441 inNil
        have hSz := hS
        replace hS := hS.inS hc441 inNil
        replace G446 := low_le hZ G446
        replace hZ := Nat.le_trans hZ hc441.size
        refine ⟨.tuple #[.slice A442 (y438.1).length cap443, .int .i64 (y438.2)], rfl, ?_⟩
        refine wS_end (by kernel_rfl) ?_
        refine eX_KH hS ?_
        refine wH_take [7, 8, 9, 10] [10, 9, 8, 7, 6, 5, 4, 2, 0, 3, 1] [(7, .slice A442 (y438.1).length cap443), (23, .int .i64 (y438.2)), (22, .slice A442 (y438.1).length cap443), (14, .tuple #[.slice A442 (y438.1).length cap443, .int .i64 (y438.2)])] (by kernel_rfl) (qT (qT (qT qZ))) (by kernel_rfl) ?_
        refine wH_done (by kernel_rfl) ?_
        refine eX_tail ?_
        refine wS_pure 1 [(8, .int .i64 (y438.2))] (by kernel_rfl) ?_
        refine wS_end (by rfl) ?_
        have hq : (some y438.2 : Option (Int)) = some _ := hm
        replace hq := someE hq
        subst hq
        exact eX_J (fun hst => ⟨y438.2, rfl, Fr.of hst (by kernel_rfl), hB, hZ⟩)
      · skip
        refine wS_bs (enc := encII) ([(p1_0, p1_1)] : List (Int × Int)) [.int .i64 (p1_0), .int .i64 (p1_1)] (d := 19) (t := 25) (T := 34) (n := 1) (ps := [(0, .agg #[.int .i64 (p1_0), .int .i64 (p1_1)])]) (by kernel_rfl) el25 encII_ok (by rfl) (by omega) (by omega) (by kernel_rfl) (by rfl) ?_
        intro b453 w454 G455 F456 hc457
        have D459 : Dj [b2] [b453] := Dj.of (lt1 F5.lt) (low1 G455)
        have D460 : Dj (fp14 ++ fr17) [b453] := Dj.of F15.low (low1 G455)
        have D461 : Dj [b392] [b453] := Dj.of F395.low (low1 G455)
        replace F0 := F0.chg hc457 Dj.nil
        replace F5 := F5.chg hc457 notNil
        replace F15 := F15.chg hc457 Dj.nil
        replace F395 := F395.chg hc457 Dj.nil
        replace hB := hB.inS hc457 inNil
        have hSz := hS
        replace hS := hS.inS hc457 inNil
        have Gz462 := low1 (Nat.le_trans hSz.size G455)
        replace G455 := Nat.le_trans hZ G455
        replace G455 := low1 G455
        replace hZ := Nat.le_trans hZ hc457.size
        refine wS_end (by kernel_rfl) ?_
        refine eX_KH hS ?_
        refine wH_all [2] (by rfl) (by kernel_rfl) (by simp) ⟨⟨by kernel_rfl, ?_⟩, trivial⟩
        obtain ⟨_, hk463, hm⟩ := bindE hm
        replace hk463 := apE hk463
        refine wS_appendAny (enc := encII) (l := (([] : List (Int × Int)) : List (Int × Int))) (l2 := (l0 : List (Int × Int))) (d := 17) (t := 25) (T := 34) (A := (some ⟨b392, 0, none⟩)) (A2 := A0) (cap := 0) (cap2 := cap0) (by kernel_rfl) el25 encII_ok F395 F0 hk463 ?_
        intro w464 fp465 A466 cap467 F468 hc469 hp470
        have G472 := low_ap G394 hZ hp470
        have D473 : Dj [b2] fp465 := Dj.ap D398 (lt1 F5.lt) hp470
        have D474 : Dj (fp14 ++ fr17) fp465 := Dj.ap D399 F15.low hp470
        have D475 : Dj [b453] fp465 := Dj.ap (D461).symm F456.low hp470
        replace F0 := F0.chg hc469 (Dj.of L0 G394)
        replace F5 := F5.chg hc469 (dj1 D398)
        replace F15 := F15.chg hc469 D399
        replace F456 := F456.chg hc469 (D461).symm
        replace hB := hB.inS hc469 (inLow G394)
        have hSz := hS
        replace hS := hS.inS hc469 (inLow Gz400)
        have Sn476 := sin_ap (Sg := []) (inLow Gz400) hSz.size hp470
        replace hZ := Nat.le_trans hZ hc469.size
        refine wS_end (by kernel_rfl) ?_
        refine eX_KH hS ?_
        refine wH_all [5] (by rfl) (by kernel_rfl) (by simp) ⟨⟨by kernel_rfl, ?_⟩, trivial⟩
        obtain ⟨_, hk477, hm⟩ := bindE hm
        replace hk477 := apE hk477
        refine wS_append (enc := encII) (l := ((([] : List (Int × Int))) ++ l0 : List (Int × Int))) (l2 := (([(p1_0, p1_1)] : List (Int × Int)) : List (Int × Int))) (d := 20) (t := 25) (T := 34) (A := A466) (A2 := (some ⟨b453, 0, none⟩)) (cap := cap467) (cap2 := 1) (by kernel_rfl) el25 encII_ok F468 (F456.sl encII_ok) (by rfl) hk477 ?_
        intro w478 fp479 A480 cap481 F482 hc483 hp484
        have G486 := low_ap G472 hZ hp484
        have D487 : Dj [b2] fp479 := Dj.ap D473 (lt1 F5.lt) hp484
        have D488 : Dj (fp14 ++ fr17) fp479 := Dj.ap D474 F15.low hp484
        have D489 : Dj [b453] fp479 := Dj.ap D475 F456.low hp484
        replace F0 := F0.chg hc483 (Dj.of L0 G472)
        replace F5 := F5.chg hc483 (dj1 D473)
        replace F15 := F15.chg hc483 D474
        replace F456 := F456.chg hc483 D475
        replace hB := hB.inS hc483 (inLow G472)
        have hSz := hS
        replace hS := hS.inS hc483 Sn476
        have Sn490 := sin_ap (Sg := []) Sn476 hSz.size hp484
        replace hZ := Nat.le_trans hZ hc483.size
        refine wS_end (by kernel_rfl) ?_
        refine eX_KH hS ?_
        refine wH_all [6] (by rfl) (by kernel_rfl) (by simp) ⟨⟨by kernel_rfl, ?_⟩, trivial⟩
        obtain ⟨y491, hy492, hm⟩ := bindE hm
        refine wS_calls (d := 21) (f := 104) (vs := [.slice A480 (((([] : List (Int × Int))) ++ l0) ++ (([(p1_0, p1_1)] : List (Int × Int)))).length cap481]) (by kernel_rfl) ent104 (c_spec_l05Tree hy492 (F482.sl encII_ok)) ?_
        rintro _ w493 ⟨A495, cap496, fp497, fr500, rfl, F498, G499, hc494⟩
        have D502 : Dj [b2] (fp497 ++ fr500) := Dj.of (lt1 F5.lt) G499
        have D503 : Dj (fp14 ++ fr17) (fp497 ++ fr500) := Dj.of F15.low G499
        have D504 : Dj [b453] (fp497 ++ fr500) := Dj.of F456.low G499
        have D505 : Dj fp479 (fp497 ++ fr500) := Dj.of F482.low G499
        replace F0 := F0.chg hc494 Dj.nil
        replace F5 := F5.chg hc494 notNil
        replace F15 := F15.chg hc494 Dj.nil
        replace F456 := F456.chg hc494 Dj.nil
        replace F482 := F482.chg hc494 Dj.nil
        replace hB := hB.inS hc494 inNil
        have hSz := hS
        replace hS := hS.inS hc494 inNil
        replace G499 := low_le hZ G499
        replace hZ := Nat.le_trans hZ hc494.size
        refine ⟨.tuple #[.slice A495 (y491.1).length cap496, .int .i64 (y491.2)], rfl, ?_⟩
        refine wS_end (by kernel_rfl) ?_
        refine eX_KH hS ?_
        refine wH_take [7, 8, 9, 10] [10, 9, 8, 7, 6, 5, 2, 4, 0, 3, 1] [(7, .slice A495 (y491.1).length cap496), (23, .int .i64 (y491.2)), (22, .slice A495 (y491.1).length cap496), (14, .tuple #[.slice A495 (y491.1).length cap496, .int .i64 (y491.2)])] (by kernel_rfl) (qT (qT (qT qZ))) (by kernel_rfl) ?_
        refine wH_done (by kernel_rfl) ?_
        refine eX_tail ?_
        refine wS_pure 1 [(8, .int .i64 (y491.2))] (by kernel_rfl) ?_
        refine wS_end (by rfl) ?_
        have hq : (some y491.2 : Option (Int)) = some _ := hm
        replace hq := someE hq
        subst hq
        exact eX_J (fun hst => ⟨y491.2, rfl, Fr.of hst (by kernel_rfl), hB, hZ⟩)
    · skip
      refine wS_bs (enc := encII) ([(p1_0, p1_1)] : List (Int × Int)) [.int .i64 (p1_0), .int .i64 (p1_1)] (d := 19) (t := 25) (T := 34) (n := 1) (ps := [(0, .agg #[.int .i64 (p1_0), .int .i64 (p1_1)])]) (by kernel_rfl) el25 encII_ok (by rfl) (by omega) (by omega) (by kernel_rfl) (by rfl) ?_
      intro b506 w507 G508 F509 hc510
      have D512 : Dj [b2] [b506] := Dj.of (lt1 F5.lt) (low1 G508)
      have D513 : Dj (fp14 ++ fr17) [b506] := Dj.of F15.low (low1 G508)
      replace F0 := F0.chg hc510 Dj.nil
      replace F5 := F5.chg hc510 notNil
      replace F15 := F15.chg hc510 Dj.nil
      replace hB := hB.inS hc510 inNil
      have hSz := hS
      replace hS := hS.inS hc510 inNil
      have Gz514 := low1 (Nat.le_trans hSz.size G508)
      replace G508 := Nat.le_trans hZ G508
      replace G508 := low1 G508
      replace hZ := Nat.le_trans hZ hc510.size
      refine wS_end (by kernel_rfl) ?_
      refine eX_KH hS ?_
      refine wH_all [0] (by rfl) (by kernel_rfl) (by simp) ⟨⟨by kernel_rfl, ?_⟩, trivial⟩
      refine wS_bs0 (α := Int × Int) (enc := encII) (d := 15) (t := 25) (T := 34) (by kernel_rfl) el25 ?_
      intro b515 w516 G517 F518 hc519
      have D521 : Dj [b2] [b515] := Dj.of (lt1 F5.lt) (low1 G517)
      have D522 : Dj (fp14 ++ fr17) [b515] := Dj.of F15.low (low1 G517)
      have D523 : Dj [b506] [b515] := Dj.of F509.low (low1 G517)
      replace F0 := F0.chg hc519 Dj.nil
      replace F5 := F5.chg hc519 notNil
      replace F15 := F15.chg hc519 Dj.nil
      replace F509 := F509.chg hc519 Dj.nil
      replace hB := hB.inS hc519 inNil
      have hSz := hS
      replace hS := hS.inS hc519 inNil
      have Gz524 := low1 (Nat.le_trans hSz.size G517)
      replace G517 := Nat.le_trans hZ G517
      replace G517 := low1 G517
      replace hZ := Nat.le_trans hZ hc519.size
      refine wS_end (by kernel_rfl) ?_
      refine eX_KH hS ?_
      refine wH_all [2] (by rfl) (by kernel_rfl) (by simp) ⟨⟨by kernel_rfl, ?_⟩, trivial⟩
      obtain ⟨_, hk525, hm⟩ := bindE hm
      replace hk525 := apE hk525
      refine wS_appendAny (enc := encII) (l := (([] : List (Int × Int)) : List (Int × Int))) (l2 := (l0 : List (Int × Int))) (d := 17) (t := 25) (T := 34) (A := (some ⟨b515, 0, none⟩)) (A2 := A0) (cap := 0) (cap2 := cap0) (by kernel_rfl) el25 encII_ok F518 F0 hk525 ?_
      intro w526 fp527 A528 cap529 F530 hc531 hp532
      have G534 := low_ap G517 hZ hp532
      have D535 : Dj [b2] fp527 := Dj.ap D521 (lt1 F5.lt) hp532
      have D536 : Dj (fp14 ++ fr17) fp527 := Dj.ap D522 F15.low hp532
      have D537 : Dj [b506] fp527 := Dj.ap D523 F509.low hp532
      replace F0 := F0.chg hc531 (Dj.of L0 G517)
      replace F5 := F5.chg hc531 (dj1 D521)
      replace F15 := F15.chg hc531 D522
      replace F509 := F509.chg hc531 D523
      replace hB := hB.inS hc531 (inLow G517)
      have hSz := hS
      replace hS := hS.inS hc531 (inLow Gz524)
      have Sn538 := sin_ap (Sg := []) (inLow Gz524) hSz.size hp532
      replace hZ := Nat.le_trans hZ hc531.size
      refine wS_end (by kernel_rfl) ?_
      refine eX_KH hS ?_
      refine wH_all [5] (by rfl) (by kernel_rfl) (by simp) ⟨⟨by kernel_rfl, ?_⟩, trivial⟩
      obtain ⟨_, hk539, hm⟩ := bindE hm
      replace hk539 := apE hk539
      refine wS_append (enc := encII) (l := ((([] : List (Int × Int))) ++ l0 : List (Int × Int))) (l2 := (([(p1_0, p1_1)] : List (Int × Int)) : List (Int × Int))) (d := 20) (t := 25) (T := 34) (A := A528) (A2 := (some ⟨b506, 0, none⟩)) (cap := cap529) (cap2 := 1) (by kernel_rfl) el25 encII_ok F530 (F509.sl encII_ok) (by rfl) hk539 ?_
      intro w540 fp541 A542 cap543 F544 hc545 hp546
      have G548 := low_ap G534 hZ hp546
      have D549 : Dj [b2] fp541 := Dj.ap D535 (lt1 F5.lt) hp546
      have D550 : Dj (fp14 ++ fr17) fp541 := Dj.ap D536 F15.low hp546
      have D551 : Dj [b506] fp541 := Dj.ap D537 F509.low hp546
      replace F0 := F0.chg hc545 (Dj.of L0 G534)
      replace F5 := F5.chg hc545 (dj1 D535)
      replace F15 := F15.chg hc545 D536
      replace F509 := F509.chg hc545 D537
      replace hB := hB.inS hc545 (inLow G534)
      have hSz := hS
      replace hS := hS.inS hc545 Sn538
      have Sn552 := sin_ap (Sg := []) Sn538 hSz.size hp546
      replace hZ := Nat.le_trans hZ hc545.size
      refine wS_end (by kernel_rfl) ?_
      refine eX_KH hS ?_
      refine wH_all [6] (by rfl) (by kernel_rfl) (by simp) ⟨⟨by kernel_rfl, ?_⟩, trivial⟩
      obtain ⟨y553, hy554, hm⟩ := bindE hm
      refine wS_calls (d := 21) (f := 104) (vs := [.slice A542 (((([] : List (Int × Int))) ++ l0) ++ (([(p1_0, p1_1)] : List (Int × Int)))).length cap543]) (by kernel_rfl) ent104 (c_spec_l05Tree hy554 (F544.sl encII_ok)) ?_
      rintro _ w555 ⟨A557, cap558, fp559, fr562, rfl, F560, G561, hc556⟩
      have D564 : Dj [b2] (fp559 ++ fr562) := Dj.of (lt1 F5.lt) G561
      have D565 : Dj (fp14 ++ fr17) (fp559 ++ fr562) := Dj.of F15.low G561
      have D566 : Dj [b506] (fp559 ++ fr562) := Dj.of F509.low G561
      have D567 : Dj fp541 (fp559 ++ fr562) := Dj.of F544.low G561
      replace F0 := F0.chg hc556 Dj.nil
      replace F5 := F5.chg hc556 notNil
      replace F15 := F15.chg hc556 Dj.nil
      replace F509 := F509.chg hc556 Dj.nil
      replace F544 := F544.chg hc556 Dj.nil
      replace hB := hB.inS hc556 inNil
      have hSz := hS
      replace hS := hS.inS hc556 inNil
      replace G561 := low_le hZ G561
      replace hZ := Nat.le_trans hZ hc556.size
      refine ⟨.tuple #[.slice A557 (y553.1).length cap558, .int .i64 (y553.2)], rfl, ?_⟩
      refine wS_end (by kernel_rfl) ?_
      refine eX_KH hS ?_
      refine wH_take [7, 8, 9, 10] [10, 9, 8, 7, 6, 5, 2, 0, 4, 3, 1] [(7, .slice A557 (y553.1).length cap558), (23, .int .i64 (y553.2)), (22, .slice A557 (y553.1).length cap558), (14, .tuple #[.slice A557 (y553.1).length cap558, .int .i64 (y553.2)])] (by kernel_rfl) (qT (qT (qT qZ))) (by kernel_rfl) ?_
      refine wH_done (by kernel_rfl) ?_
      refine eX_tail ?_
      refine wS_pure 1 [(8, .int .i64 (y553.2))] (by kernel_rfl) ?_
      refine wS_end (by rfl) ?_
      have hq : (some y553.2 : Option (Int)) = some _ := hm
      replace hq := someE hq
      subst hq
      exact eX_J (fun hst => ⟨y553.2, rfl, Fr.of hst (by kernel_rfl), hB, hZ⟩)
  · rintro a' w382 ⟨x383, hJ, hF384, hB, hZ⟩
    subst hJ
    refine Fr.goX hF384 (by kernel_rfl) ?_
    refine eX_then ?_
    refine cW_seq ?_
    refine cW_region ?_
    refine wS_pure 4 [(4, .int .i64 (wr (y8.2 - x383))), (26, .int .i64 (wr (y8.2 - x383))), (25, .int .i64 (x383)), (24, .int .i64 (y8.2))] (by kernel_rfl) ?_
    refine wS_end (by rfl) ?_
    refine eX_then ?_
    refine cW_ret ?_
    have hq : (some (wr (y8.2 - x383)) : Option ((Int))) = some _ := hm
    replace hq := someE hq
    subst hq
    refine eX_ret (vs := [.int .i64 (wr (y8.2 - x383))]) [.tmp 4] (by rfl) ⟨by (show lkE _ _ _ = _); kernel_rfl, trivial⟩ ?_
    exact ⟨rfl, hB⟩

set_option maxRecDepth 100000 in
/-- spec.GainOf -/
theorem c_spec_GainOf {w0 : World} {l0 : List (Int × Int)} {A0 : Option Addr} {cap0 : Nat} {fp0 : List Nat} {p1_0 : Int} {p1_1 : Int} {r : (Int) × (Bool)} (hm : m_spec_GainOf l0 p1_0 p1_1 = some r) (F0 : Sl 2 encII w0 fp0 A0 l0) (K0 : (l0).length ≤ cap0) :
    Calls Try.prog 48 #[.slice A0 (l0).length cap0, .agg #[.int .i64 (p1_0), .int .i64 (p1_1)]] w0 fun e w' => e = .returned (.tuple #[.int .i64 (r.1), .bool (r.2)]) ∧ Chg [] w0 w' := by
  have L0 := F0.low
  have hB : Chg [] w0 w0 := Chg.refl _ _
  have hZ := Nat.le_refl w0.heap.size
  unfold m_spec_GainOf at hm
  refine enterE (N := 26) Try.func48 (by rfl) Try.ntmps48 (by simp) [(0, .slice A0 (l0).length cap0), (1, .agg #[.int .i64 (p1_0), .int .i64 (p1_1)])] (by rfl) (by kernel_rfl) (fun a => ?_)
  refine cW_seq ?_
  refine cW_region ?_
  refine wS_box (d := 3) (T := 34) (x := .agg #[.int .i64 (p1_0), .int .i64 (p1_1)]) (by kernel_rfl) ?_
  intro b2 w3 G4 F5 hc6
  replace F5 : Cl w3 b2 34 [.int .i64 (p1_0), .int .i64 (p1_1)] := F5
  replace F0 := F0.chg hc6 Dj.nil
  replace hB := hB.inS hc6 inNil
  replace G4 := Nat.le_trans hZ G4
  replace hZ := Nat.le_trans hZ hc6.size
  refine wS_pure 2 [(5, .bool (false)), (4, .int .i64 (0))] (by kernel_rfl) ?_
  refine wS_end (by rfl) ?_
  refine eX_then ?_
  refine cW_seq ?_
  refine cW_seq ?_
  refine cW_region ?_
  refine wS_pure 1 [(6, .slice A0 (l0).length cap0)] (by kernel_rfl) ?_
  obtain ⟨y8, hy9, hm⟩ := bindE hm
  refine wS_calls (d := 7) (f := 75) (vs := [.slice A0 (l0).length cap0]) (by kernel_rfl) ent75 (c_spec_l05Is hy9 F0 K0) ?_
  rintro _ w10 ⟨rfl, hc11⟩
  replace F0 := F0.chg hc11 Dj.nil
  replace F5 := F5.chg hc11 notNil
  replace hB := hB.inS hc11 inNil
  replace hZ := Nat.le_trans hZ hc11.size
  refine ⟨.bool (y8), rfl, ?_⟩
  refine wS_pure 2 [(9, .bool (!y8)), (8, .bool (!y8))] (by kernel_rfl) ?_
  refine wS_bool (!y8) (fun hb12 => ?_) (fun hb12 => ?_)
  · have hm := condT hb12 hm
    rewrite [hb12]
    refine wS_pure 9 [(18, .bool (true)), (17, undef), (16, undef), (15, undef), (14, .bool (true)), (13, .bool (true)), (12, undef), (11, undef), (10, undef)] (by kernel_rfl) ?_
    refine wS_end (by rfl) ?_
    refine eX_then ?_
    refine cW_cond_t (by kernel_rfl) ?_
    refine cW_seq ?_
    refine cW_region ?_
    refine wS_pure 2 [(5, .bool (false)), (4, .int .i64 (0))] (by kernel_rfl) ?_
    refine wS_end (by rfl) ?_
    refine eX_then ?_
    refine cW_ret ?_
    refine eX_then_ret ?_
    have hq : (some ((0, false)) : Option ((Int) × (Bool))) = some _ := hm
    replace hq := someE hq
    subst hq
    refine eX_ret (vs := [.int .i64 (0), .bool (false)]) [.tmp 4, .tmp 5] (by rfl) ⟨by (show lkE _ _ _ = _); kernel_rfl, ⟨by (show lkE _ _ _ = _); kernel_rfl, trivial⟩⟩ ?_
    exact ⟨rfl, hB⟩
  · have hm := condF hb12 hm
    rewrite [hb12]
    refine wS_pure 5 [(14, .bool (decide ((((l0).length : Int)) ≥ 20))), (13, .bool (decide ((((l0).length : Int)) ≥ 20))), (12, .bool (decide ((((l0).length : Int)) ≥ 20))), (11, .int .i64 (((l0).length : Int))), (10, .slice A0 (l0).length cap0)] (by kernel_rfl) ?_
    refine wS_bool (decide ((((l0).length : Int)) ≥ 20)) (fun hb13 => ?_) (fun hb13 => ?_)
    · have hm := condT hb13 hm
      rewrite [hb13]
      refine wS_pure 4 [(18, .bool (true)), (17, undef), (16, undef), (15, undef)] (by kernel_rfl) ?_
      refine wS_end (by rfl) ?_
      refine eX_then ?_
      refine cW_cond_t (by kernel_rfl) ?_
      refine cW_seq ?_
      refine cW_region ?_
      refine wS_pure 2 [(5, .bool (false)), (4, .int .i64 (0))] (by kernel_rfl) ?_
      refine wS_end (by rfl) ?_
      refine eX_then ?_
      refine cW_ret ?_
      refine eX_then_ret ?_
      have hq : (some ((0, false)) : Option ((Int) × (Bool))) = some _ := hm
      replace hq := someE hq
      subst hq
      refine eX_ret (vs := [.int .i64 (0), .bool (false)]) [.tmp 4, .tmp 5] (by rfl) ⟨by (show lkE _ _ _ = _); kernel_rfl, ⟨by (show lkE _ _ _ = _); kernel_rfl, trivial⟩⟩ ?_
      exact ⟨rfl, hB⟩
    · have hm := condF hb13 hm
      rewrite [hb13]
      refine wS_loadA (d := 15) (T := 34) (ad := ⟨b2, 0, none⟩) (vs := [.int .i64 (p1_0), .int .i64 (p1_1)]) (by kernel_rfl) vt34 (fun i u hu => box_cells F5 0 hu (by rfl)) ?_
      obtain ⟨y14, hy15, hm⟩ := bindE hm
      refine wS_calls (d := 16) (f := 76) (vs := [.agg #[.int .i64 (p1_0), .int .i64 (p1_1)]]) (by kernel_rfl) ent76 (c_spec_l01Point hy15) ?_
      rintro _ w16 ⟨rfl, hc17⟩
      replace F0 := F0.chg hc17 Dj.nil
      replace F5 := F5.chg hc17 notNil
      replace hB := hB.inS hc17 inNil
      replace hZ := Nat.le_trans hZ hc17.size
      refine ⟨.bool (y14), rfl, ?_⟩
      refine wS_pure 2 [(18, .bool (!y14)), (17, .bool (!y14))] (by kernel_rfl) ?_
      refine wS_end (by rfl) ?_
      refine eX_then ?_
      refine cW_cond (t := !y14) (by kernel_rfl) (fun hb18 => ?_) (fun hb18 => ?_)
      · have hm := condT hb18 hm
        refine cW_seq ?_
        refine cW_region ?_
        refine wS_pure 2 [(5, .bool (false)), (4, .int .i64 (0))] (by kernel_rfl) ?_
        refine wS_end (by rfl) ?_
        refine eX_then ?_
        refine cW_ret ?_
        refine eX_then_ret ?_
        have hq : (some ((0, false)) : Option ((Int) × (Bool))) = some _ := hm
        replace hq := someE hq
        subst hq
        refine eX_ret (vs := [.int .i64 (0), .bool (false)]) [.tmp 4, .tmp 5] (by rfl) ⟨by (show lkE _ _ _ = _); kernel_rfl, ⟨by (show lkE _ _ _ = _); kernel_rfl, trivial⟩⟩ ?_
        exact ⟨rfl, hB⟩
      · have hm := condF hb18 hm
        refine cW_skip ?_
        refine eX_then ?_
        refine cW_seq ?_
        refine cW_seq ?_
        refine cW_region ?_
        refine wS_pure 1 [(19, .slice A0 (l0).length cap0)] (by kernel_rfl) ?_
        refine wS_loadA (d := 20) (T := 34) (ad := ⟨b2, 0, none⟩) (vs := [.int .i64 (p1_0), .int .i64 (p1_1)]) (by kernel_rfl) vt34 (fun i u hu => box_cells F5 0 hu (by rfl)) ?_
        obtain ⟨y19, hy20, hm⟩ := bindE hm
        refine wS_calls (d := 21) (f := 95) (vs := [.slice A0 (l0).length cap0, .agg #[.int .i64 (p1_0), .int .i64 (p1_1)]]) (by kernel_rfl) ent95 (c_spec_l01Index hy20 F0) ?_
        rintro _ w21 ⟨rfl, hc22⟩
        replace F0 := F0.chg hc22 Dj.nil
        replace F5 := F5.chg hc22 notNil
        replace hB := hB.inS hc22 inNil
        replace hZ := Nat.le_trans hZ hc22.size
        refine ⟨.int .i64 (y19), rfl, ?_⟩
        refine wS_pure 1 [(22, .bool (decide (y19 ≥ 0)))] (by kernel_rfl) ?_
        refine wS_end (by rfl) ?_
        refine eX_then ?_
        refine cW_cond (t := decide (y19 ≥ 0)) (by kernel_rfl) (fun hb23 => ?_) (fun hb23 => ?_)
        · have hm := condT hb23 hm
          refine cW_seq ?_
          refine cW_region ?_
          refine wS_pure 2 [(5, .bool (true)), (4, .int .i64 (0))] (by kernel_rfl) ?_
          refine wS_end (by rfl) ?_
          refine eX_then ?_
          refine cW_ret ?_
          refine eX_then_ret ?_
          have hq : (some ((0, true)) : Option ((Int) × (Bool))) = some _ := hm
          replace hq := someE hq
          subst hq
          refine eX_ret (vs := [.int .i64 (0), .bool (true)]) [.tmp 4, .tmp 5] (by rfl) ⟨by (show lkE _ _ _ = _); kernel_rfl, ⟨by (show lkE _ _ _ = _); kernel_rfl, trivial⟩⟩ ?_
          exact ⟨rfl, hB⟩
        · have hm := condF hb23 hm
          refine cW_skip ?_
          refine eX_then ?_
          refine cW_seq ?_
          refine cW_region ?_
          refine wS_pure 1 [(23, .slice A0 (l0).length cap0)] (by kernel_rfl) ?_
          refine wS_loadA (d := 24) (T := 34) (ad := ⟨b2, 0, none⟩) (vs := [.int .i64 (p1_0), .int .i64 (p1_1)]) (by kernel_rfl) vt34 (fun i u hu => box_cells F5 0 hu (by rfl)) ?_
          obtain ⟨y24, hy25, hm⟩ := bindE hm
          refine wS_calls (d := 25) (f := 99) (vs := [.slice A0 (l0).length cap0, .agg #[.int .i64 (p1_0), .int .i64 (p1_1)]]) (by kernel_rfl) ent99 (c_spec_l05Gain hy25 F0) ?_
          rintro _ w26 ⟨rfl, hc27⟩
          replace F0 := F0.chg hc27 Dj.nil
          replace F5 := F5.chg hc27 notNil
          replace hB := hB.inS hc27 inNil
          replace hZ := Nat.le_trans hZ hc27.size
          refine ⟨.int .i64 (y24), rfl, ?_⟩
          refine wS_pure 2 [(5, .bool (true)), (4, .int .i64 (y24))] (by kernel_rfl) ?_
          refine wS_end (by rfl) ?_
          refine eX_then ?_
          refine cW_prune [(4, .int .i64 (y24)), (5, .bool (true))] (by kernel_rfl) (by kernel_rfl) (fun a28 => ?_)
          refine cW_ret ?_
          have hq : (some ((y24, true)) : Option ((Int) × (Bool))) = some _ := hm
          replace hq := someE hq
          subst hq
          refine eX_ret (vs := [.int .i64 (y24), .bool (true)]) [.tmp 4, .tmp 5] (by rfl) ⟨by (show lkE _ _ _ = _); kernel_rfl, ⟨by (show lkE _ _ _ = _); kernel_rfl, trivial⟩⟩ ?_
          exact ⟨rfl, hB⟩

set_option maxRecDepth 100000 in
/-- impl.spanning -/
theorem c_impl_spanning {w0 : World} {l0 : List (Int × Int)} {A0 : Option Addr} {cap0 : Nat} {fp0 : List Nat} {r : (List (List (Int))) × (Int)} (hm : m_impl_spanning l0 = some r) (F0 : Sl 2 encII w0 fp0 A0 l0) :
    Calls Try.prog 106 #[.slice A0 (l0).length cap0] w0 fun e w' => ∃ A100 cap100 fp100 fr100, e = .returned (.tuple #[.slice A100 (r.1).length cap100, .int .i64 (r.2)]) ∧ OwR 1 encI 78 2 w' fp100 fr100 A100 cap100 r.1 ∧ (∀ x ∈ fp100 ++ fr100, w0.heap.size ≤ x) ∧ Chg [] w0 w' := by
  have L0 := F0.low
  have hB : Chg [] w0 w0 := Chg.refl _ _
  have hZ := Nat.le_refl w0.heap.size
  unfold m_impl_spanning at hm
  refine enterE (N := 100) Try.func106 (by rfl) Try.ntmps106 (by simp) [(0, .slice A0 (l0).length cap0)] (by rfl) (by kernel_rfl) (fun a => ?_)
  refine cW_seq ?_
  refine cW_region ?_
  refine wS_pure 2 [(3, .int .i64 (0)), (2, .slice none 0 0)] (by kernel_rfl) ?_
  refine wS_end (by rfl) ?_
  refine eX_then ?_
  refine cW_seq ?_
  refine cW_region ?_
  refine wS_rows0 (k := 1) (enc := encI) (d := 11) (t := 47) (T := 78) (T2 := 2) (by kernel_rfl) el47 ?_
  intro b2 w3 G4 F5 hc6
  replace F0 := F0.chg hc6 Dj.nil
  replace hB := hB.inS hc6 inNil
  replace G4 := Nat.le_trans hZ G4
  replace G4 := low1 G4
  replace hZ := Nat.le_trans hZ hc6.size
  replace G4 := lowApp G4 lowNil
  refine wS_pure 2 [(5, .int .i64 (0)), (4, .slice (some ⟨b2, 0, none⟩) (([] : List (List (Int)))).length 0)] (by kernel_rfl) ?_
  refine wS_end (by rfl) ?_
  refine eX_then ?_
  refine cW_seq ?_
  refine cW_region ?_
  refine wS_pure 2 [(13, .int .i64 (((l0).length : Int))), (12, .slice A0 (l0).length cap0)] (by kernel_rfl) ?_
  obtain ⟨_, hk8, hm⟩ := bindE hm
  replace hk8 := mkE hk8
  refine wS_make (enc := encB) (x0 := (false : Bool)) (d := 14) (t := 86) (T := 4) (k1 := .i64) (k2 := .i64) (m := ((l0).length : Int)) (by kernel_rfl) el86 encB_ok (by rfl) hk8.1 hk8.2 ?_
  intro b9 w10 G11 F12 hc13
  have D15 : Dj ([b2] ++ []) [b9] := Dj.of F5.low (low1 G11)
  replace F0 := F0.chg hc13 Dj.nil
  replace F5 := F5.chg hc13 Dj.nil
  replace hB := hB.inS hc13 inNil
  replace G11 := Nat.le_trans hZ G11
  replace G11 := low1 G11
  replace hZ := Nat.le_trans hZ hc13.size
  refine wS_pure 1 [(6, .slice (some ⟨b9, 0, none⟩) (List.replicate (Int.toNat (((l0).length : Int))) ((false : Bool))).length (Int.toNat (((l0).length : Int))))] (by kernel_rfl) ?_
  refine wS_end (by rfl) ?_
  refine eX_then ?_
  refine cW_seq ?_
  refine cW_region ?_
  refine wS_pure 1 [(15, .slice (some ⟨b9, 0, none⟩) (List.replicate (Int.toNat (((l0).length : Int))) ((false : Bool))).length (Int.toNat (((l0).length : Int))))] (by kernel_rfl) ?_
  obtain ⟨x16, hx17, hm⟩ := bindE hm
  refine wS_idx (d := 16) (T := 86) (A := (some ⟨b9, 0, none⟩)) (n := (List.replicate (Int.toNat (((l0).length : Int))) ((false : Bool))).length) (cap := (Int.toNat (((l0).length : Int)))) (kd := .i64) (m := 0) (by kernel_rfl) sl86 ((F12.sl encB_ok).is hx17) ?_
  refine wS_storeEl (x := x16) true (T := 4) (U := 4) (cap := (Int.toNat (((l0).length : Int)))) (j := 0) (A := (some ⟨b9, 0, none⟩)) (v := .bool (true)) (vs := [.bool (true)]) (m := 0) (by kernel_rfl) (by rfl) sz4 (by rfl) encB_ok F12 hx17 (by simp only [List.length_cons, List.length_nil]; omega) (by rfl) ?_
  intro w18 F19 hc20
  replace F0 := F0.chg hc20 (Dj.of L0 G11)
  replace F5 := F5.chg hc20 D15
  replace hB := hB.inS hc20 (inLow G11)
  replace hZ := Nat.le_trans hZ hc20.size
  clear F12
  rewrite [show (List.replicate (Int.toNat (((l0).length : Int))) ((false : Bool))).length = ((List.replicate (Int.toNat (((l0).length : Int))) ((false : Bool))).set (Int.toNat 0) true).length from (List.length_set ..).symm]
  refine wS_end (by rfl) ?_
  refine eX_then ?_
  refine cW_seq ?_
  obtain ⟨r2789, hr2790, hm⟩ := bindE hm
  have hm2791 := hm
  refine cW_cut (fun a' w' => ∃ l2764 : List (List (Int)), ∃ A2765 : Option Addr, ∃ cap2766 : Nat, ∃ fp2767 : List Nat, ∃ fr2769 : List Nat, ∃ x2770 : Int, (l2764, x2770) = r2789 ∧ Fr 100 [(4, .slice A2765 (l2764).length cap2766), (5, .int .i64 (x2770))] a' ∧ OwR 1 encI 78 2 w' fp2767 fr2769 A2765 cap2766 l2764 ∧ (∀ x ∈ (fp2767 ++ fr2769), w0.heap.size ≤ x) ∧ Chg [] w0 w' ∧ w0.heap.size ≤ w'.heap.size) ?_ ?_
  · refine cW_block ?_
    refine cW_loop _ (fun (s2792 : (List (List (Int))) × Int × (List (Bool))) a' w' => ∃ l2775 : List (List (Int)), ∃ A2776 : Option Addr, ∃ cap2777 : Nat, ∃ fp2778 : List Nat, ∃ fr2780 : List Nat, ∃ x2781 : Int, ∃ l2782 : List (Bool), (l2775, x2781, l2782) = s2792 ∧ Fr 100 [(0, .slice A0 (l0).length cap0), (4, .slice A2776 (l2775).length cap2777), (5, .int .i64 (x2781)), (6, .slice (some ⟨b9, 0, none⟩) (l2782).length (Int.toNat (((l0).length : Int))))] a' ∧ Sl 2 encII w' fp0 A0 l0 ∧ Ow 1 encB 4 w' [b9] (some ⟨b9, 0, none⟩) (Int.toNat (((l0).length : Int))) l2782 ∧ OwR 1 encI 78 2 w' fp2778 fr2780 A2776 cap2777 l2775 ∧ (∀ x ∈ (fp2778 ++ fr2780), w0.heap.size ≤ x) ∧ Dj [b9] (fp2778 ++ fr2780) ∧ Chg [] w0 w' ∧ w0.heap.size ≤ w'.heap.size) hr2790 (fun hst => ⟨([] : List (List (Int))), (some ⟨b2, 0, none⟩), 0, [b2], [], 0, (List.replicate (Int.toNat (((l0).length : Int))) ((false : Bool))).set (Int.toNat 0) true, rfl, Fr.of hst (by kernel_rfl), F0, F19, F5, G4, (D15).symm, hB, hZ⟩) ?_
    rintro _ c2793 a' w2774 ⟨l2775, A2776, cap2777, fp2778, fr2780, x2781, l2782, rfl, hF2783, F2784, F2785, F2786, G2787, D2788, hB, hZ⟩ hx2794
    refine Fr.goOn hF2783 (by kernel_rfl) ?_
    have hm := hx2794
    unfold m_impl_spanning_s9 at hm
    refine cW_seq ?_
    refine cW_seq ?_
    refine cW_region ?_
    refine wS_pure 6 [(22, .bool (decide ((wr ((((l2775).length : Int)) + 1)) < (((l0).length : Int))))), (21, .int .i64 (((l0).length : Int))), (20, .slice A0 (l0).length cap0), (19, .int .i64 (wr ((((l2775).length : Int)) + 1))), (18, .int .i64 (((l2775).length : Int))), (17, .slice A2776 (l2775).length cap2777)] (by kernel_rfl) ?_
    refine wS_end (by rfl) ?_
    refine eX_then ?_
    refine cW_cond (t := decide ((wr ((((l2775).length : Int)) + 1)) < (((l0).length : Int)))) (by kernel_rfl) (fun hb2795 => ?_) (fun hb2795 => ?_)
    · have hm := condT hb2795 hm
      refine cW_skip ?_
      refine eX_then ?_
      refine cW_block ?_
      refine cW_seq ?_
      refine cW_region ?_
      refine wS_pure 2 [(8, .int .i64 ((-1))), (7, .int .i64 ((-1)))] (by kernel_rfl) ?_
      refine wS_end (by rfl) ?_
      refine eX_then ?_
      refine cW_seq ?_
      refine cW_seq ?_
      refine cW_region ?_
      refine wS_pure 3 [(25, .int .i64 (0)), (24, .int .i64 (((l0).length : Int))), (23, .slice A0 (l0).length cap0)] (by kernel_rfl) ?_
      refine wS_end (by rfl) ?_
      refine eX_then ?_
      obtain ⟨r3646, hr3647, hm⟩ := bindE hm
      have hm3648 := hm
      refine cW_cut (fun a' w' => ∃ x3632 : Int, ∃ x3633 : Int, (x3632, x3633) = r3646 ∧ Fr 100 [(0, .slice A0 (l0).length cap0), (4, .slice A2776 (l2775).length cap2777), (5, .int .i64 (x2781)), (6, .slice (some ⟨b9, 0, none⟩) (l2782).length (Int.toNat (((l0).length : Int)))), (7, .int .i64 (x3632)), (8, .int .i64 (x3633))] a' ∧ Sl 2 encII w' fp0 A0 l0 ∧ Ow 1 encB 4 w' [b9] (some ⟨b9, 0, none⟩) (Int.toNat (((l0).length : Int))) l2782 ∧ OwR 1 encI 78 2 w' fp2778 fr2780 A2776 cap2777 l2775 ∧ Chg [] w0 w' ∧ w0.heap.size ≤ w'.heap.size) ?_ ?_
      · refine cW_block ?_
        refine cW_loop _ (fun (s3649 : Int × Int × Int) a' w' => ∃ x3639 : Int, ∃ x3640 : Int, ∃ x3641 : Int, (x3639, x3640, x3641) = s3649 ∧ Fr 100 [(0, .slice A0 (l0).length cap0), (4, .slice A2776 (l2775).length cap2777), (5, .int .i64 (x2781)), (6, .slice (some ⟨b9, 0, none⟩) (l2782).length (Int.toNat (((l0).length : Int)))), (7, .int .i64 (x3639)), (8, .int .i64 (x3640)), (24, .int .i64 (((l0).length : Int))), (25, .int .i64 (x3641))] a' ∧ Sl 2 encII w' fp0 A0 l0 ∧ Ow 1 encB 4 w' [b9] (some ⟨b9, 0, none⟩) (Int.toNat (((l0).length : Int))) l2782 ∧ OwR 1 encI 78 2 w' fp2778 fr2780 A2776 cap2777 l2775 ∧ Chg [] w0 w' ∧ w0.heap.size ≤ w'.heap.size) hr3647 (fun hst => ⟨(-1), (-1), 0, rfl, Fr.of hst (by kernel_rfl), F2784, F2785, F2786, hB, hZ⟩) ?_
        rintro _ c3650 a' w3638 ⟨x3639, x3640, x3641, rfl, hF3642, F3643, F3644, F3645, hB, hZ⟩ hx3651
        refine Fr.goOn hF3642 (by kernel_rfl) ?_
        have hm := hx3651
        unfold m_impl_spanning_s12 at hm
        refine cW_seq ?_
        refine cW_region ?_
        refine wS_pure 1 [(26, .bool (decide (x3641 < (((l0).length : Int)))))] (by kernel_rfl) ?_
        refine wS_end (by rfl) ?_
        refine eX_then ?_
        refine cW_seq ?_
        refine cW_cond (t := decide (x3641 < (((l0).length : Int)))) (by kernel_rfl) (fun hb3652 => ?_) (fun hb3652 => ?_)
        · have hm := condT hb3652 hm
          refine cW_skip ?_
          refine eX_then ?_
          refine cW_seq ?_
          refine cW_block ?_
          refine cW_seq ?_
          refine cW_region ?_
          refine wS_pure 2 [(9, .int .i64 (x3641)), (27, .int .i64 (x3641))] (by kernel_rfl) ?_
          refine wS_end (by rfl) ?_
          refine eX_then ?_
          refine cW_seq ?_
          refine cW_region ?_
          refine wS_pure 3 [(10, .int .i64 (wr (x3641 + 1))), (29, .int .i64 (wr (x3641 + 1))), (28, .int .i64 (x3641))] (by kernel_rfl) ?_
          refine wS_end (by rfl) ?_
          refine eX_then ?_
          obtain ⟨r3931, hr3932, hm⟩ := bindE hm
          have hm3933 := hm
          refine cW_cut (fun a' w' => ∃ x3917 : Int, ∃ x3918 : Int, (x3917, x3918) = r3931 ∧ Fr 100 [(0, .slice A0 (l0).length cap0), (4, .slice A2776 (l2775).length cap2777), (5, .int .i64 (x2781)), (6, .slice (some ⟨b9, 0, none⟩) (l2782).length (Int.toNat (((l0).length : Int)))), (7, .int .i64 (x3917)), (8, .int .i64 (x3918)), (24, .int .i64 (((l0).length : Int))), (25, .int .i64 (x3641))] a' ∧ Sl 2 encII w' fp0 A0 l0 ∧ Ow 1 encB 4 w' [b9] (some ⟨b9, 0, none⟩) (Int.toNat (((l0).length : Int))) l2782 ∧ OwR 1 encI 78 2 w' fp2778 fr2780 A2776 cap2777 l2775 ∧ Chg [] w0 w' ∧ w0.heap.size ≤ w'.heap.size) ?_ ?_
          · refine cW_block ?_
            refine cW_loop _ (fun (s3934 : Int × Int × Int) a' w' => ∃ x3924 : Int, ∃ x3925 : Int, ∃ x3926 : Int, (x3924, x3925, x3926) = s3934 ∧ Fr 100 [(0, .slice A0 (l0).length cap0), (4, .slice A2776 (l2775).length cap2777), (5, .int .i64 (x2781)), (6, .slice (some ⟨b9, 0, none⟩) (l2782).length (Int.toNat (((l0).length : Int)))), (7, .int .i64 (x3924)), (8, .int .i64 (x3925)), (9, .int .i64 (x3641)), (10, .int .i64 (x3926)), (24, .int .i64 (((l0).length : Int))), (25, .int .i64 (x3641))] a' ∧ Sl 2 encII w' fp0 A0 l0 ∧ Ow 1 encB 4 w' [b9] (some ⟨b9, 0, none⟩) (Int.toNat (((l0).length : Int))) l2782 ∧ OwR 1 encI 78 2 w' fp2778 fr2780 A2776 cap2777 l2775 ∧ Chg [] w0 w' ∧ w0.heap.size ≤ w'.heap.size) hr3932 (fun hst => ⟨x3639, x3640, wr (x3641 + 1), rfl, Fr.of hst (by kernel_rfl), F3643, F3644, F3645, hB, hZ⟩) ?_
            rintro _ c3935 a' w3923 ⟨x3924, x3925, x3926, rfl, hF3927, F3928, F3929, F3930, hB, hZ⟩ hx3936
            refine Fr.goOn hF3927 (by kernel_rfl) ?_
            have hm := hx3936
            unfold m_impl_spanning_s13 at hm
            refine cW_seq ?_
            refine cW_seq ?_
            refine cW_region ?_
            refine wS_pure 4 [(33, .bool (decide (x3926 < (((l0).length : Int))))), (32, .int .i64 (((l0).length : Int))), (31, .slice A0 (l0).length cap0), (30, .int .i64 (x3926))] (by kernel_rfl) ?_
            refine wS_end (by rfl) ?_
            refine eX_then ?_
            refine cW_cond (t := decide (x3926 < (((l0).length : Int)))) (by kernel_rfl) (fun hb3937 => ?_) (fun hb3937 => ?_)
            · have hm := condT hb3937 hm
              refine cW_skip ?_
              refine eX_then ?_
              refine cW_seq ?_
              refine cW_block ?_
              obtain ⟨s4003, hs4004, hm⟩ := bindE hm
              refine cW_cut (fun a' w' => ∃ x3997 : Int, ∃ x3998 : Int, (x3997, x3998) = s4003 ∧ Fr 100 [(0, .slice A0 (l0).length cap0), (4, .slice A2776 (l2775).length cap2777), (5, .int .i64 (x2781)), (6, .slice (some ⟨b9, 0, none⟩) (l2782).length (Int.toNat (((l0).length : Int)))), (7, .int .i64 (x3997)), (8, .int .i64 (x3998)), (9, .int .i64 (x3641)), (10, .int .i64 (x3926)), (24, .int .i64 (((l0).length : Int))), (25, .int .i64 (x3641))] a' ∧ Sl 2 encII w' fp0 A0 l0 ∧ Ow 1 encB 4 w' [b9] (some ⟨b9, 0, none⟩) (Int.toNat (((l0).length : Int))) l2782 ∧ OwR 1 encI 78 2 w' fp2778 fr2780 A2776 cap2777 l2775 ∧ Chg [] w0 w' ∧ w0.heap.size ≤ w'.heap.size) ?_ ?_
              · have hm := hs4004
                refine cW_seq ?_
                refine cW_drawnTail [] 30 (by kernel_rfl) (by kernel_rfl) (fun w4032 hc4033 => ?_)
                replace F3928 := F3928.chg hc4033 Dj.nil
                replace F3929 := F3929.chg hc4033 Dj.nil
                replace F3930 := F3930.chg hc4033 Dj.nil
                replace hB := hB.inS hc4033 inNil
                replace hZ := Nat.le_trans hZ hc4033.size
                have hS := Chg.refl [] w4032
                have Z4034 := F3928
                have Z4035 := F3929
                have Z4036 := F3930
                refine wH_take [0, 1] [1, 0] [(37, .int .i64 (x3641)), (36, .slice (some ⟨b9, 0, none⟩) (l2782).length (Int.toNat (((l0).length : Int))))] (by kernel_rfl) (qT (qT (qT (qB (qT (qL (qB (qT (qB (qT (qL (qB (qT (qT (qB (qL (qB (qT (qT qZ))))))))))))))))))) (by kernel_rfl) ?_
                obtain ⟨x4037, hx4038, hm⟩ := bindE hm
                refine wH_idx (i := 2) (d := 38) (T := 86) (A := (some ⟨b9, 0, none⟩)) (n := (l2782).length) (cap := (Int.toNat (((l0).length : Int)))) (kd := .i64) (m := x3641) (by kernel_rfl) (qT (qT (qT (qB (qT (qL (qB (qT (qB (qT (qL (qB (qT (qT (qB (qL (qB (qT (qT qZ))))))))))))))))))) (by kernel_rfl) (by kernel_rfl) sl86 ((F3929.sl encB_ok).is hx4038) ?_
                refine wH_load1 (i := 3) (d := 39) (T := 4) (ad := (elA (some ⟨b9, 0, none⟩) 1 (x3641) 0)) (v := .bool (x4037)) (by kernel_rfl) (qT (qT (qT (qB (qT (qL (qB (qT (qB (qT (qL (qB (qT (qT (qB (qL (qB (qT (qT qZ))))))))))))))))))) (by kernel_rfl) (by kernel_rfl) vt4 (fun W hW => Sl.cell ((Z4035.chg hW Dj.nil).sl encB_ok) hx4038 0 (by rfl)) ?_
                refine wH_take [4, 5] [5, 4, 3, 2, 1, 0] [(41, .int .i64 (x3926)), (40, .slice (some ⟨b9, 0, none⟩) (l2782).length (Int.toNat (((l0).length : Int))))] (by kernel_rfl) (qT (qT (qT (qB (qT (qL (qB (qT (qB (qT (qL (qB (qT (qT (qB (qL (qB (qT (qT qZ))))))))))))))))))) (by kernel_rfl) ?_
                obtain ⟨x4039, hx4040, hm⟩ := bindE hm
                refine wH_idx (i := 6) (d := 42) (T := 86) (A := (some ⟨b9, 0, none⟩)) (n := (l2782).length) (cap := (Int.toNat (((l0).length : Int)))) (kd := .i64) (m := x3926) (by kernel_rfl) (qT (qT (qT (qB (qT (qL (qB (qT (qB (qT (qL (qB (qT (qT (qB (qL (qB (qT (qT qZ))))))))))))))))))) (by kernel_rfl) (by kernel_rfl) sl86 ((F3929.sl encB_ok).is hx4040) ?_
                refine wH_load1 (i := 7) (d := 43) (T := 4) (ad := (elA (some ⟨b9, 0, none⟩) 1 (x3926) 0)) (v := .bool (x4039)) (by kernel_rfl) (qT (qT (qT (qB (qT (qL (qB (qT (qB (qT (qL (qB (qT (qT (qB (qL (qB (qT (qT qZ))))))))))))))))))) (by kernel_rfl) (by kernel_rfl) vt4 (fun W hW => Sl.cell ((Z4035.chg hW Dj.nil).sl encB_ok) hx4040 0 (by rfl)) ?_
                refine wH_take [8, 9] [9, 8, 7, 6, 5, 4, 3, 2, 1, 0] [(45, .bool (!(x4037 == x4039))), (44, .bool (!(x4037 == x4039)))] (by kernel_rfl) (qT (qT (qT (qB (qT (qL (qB (qT (qB (qT (qL (qB (qT (qT (qB (qL (qB (qT (qT qZ))))))))))))))))))) (by kernel_rfl) ?_
                refine wH_bool (!(x4037 == x4039)) (fun hb4041 => ?_) (fun hb4041 => ?_)
                · have hm := condT hb4041 hm
                  rewrite [hb4041]
                  refine wH_take [10, 11, 12] [12, 11, 10, 9, 8, 7, 6, 5, 4, 3, 2, 1, 0] [(48, .bool (decide (x3924 < 0))), (47, .bool (decide (x3924 < 0))), (46, .int .i64 (x3924))] (by kernel_rfl) (qT (qT (qT (qB (qT (qL (qB (qT (qB (qT (qL (qB (qT (qT (qB (qL (qB (qT (qT qZ))))))))))))))))))) (by kernel_rfl) ?_
                  refine wH_bool (decide (x3924 < 0)) (fun hb4042 => ?_) (fun hb4042 => ?_)
                  · have hm := condT hb4042 hm
                    rewrite [hb4042]
                    refine wH_take [13, 14, 15, 16, 17, 18, 19, 20, 21, 22, 23, 24, 25, 26, 27, 28, 29] [29, 28, 27, 26, 25, 24, 23, 22, 21, 20, 19, 18, 17, 16, 15, 14, 13, 12, 11, 10, 9, 8, 7, 6, 5, 4, 3, 2, 1, 0] [(65, undef), (64, undef), (63, undef), (62, undef), (61, undef), (60, undef), (59, undef), (58, undef), (57, undef), (56, undef), (55, undef), (54, undef), (53, undef), (52, undef), (51, undef), (50, undef), (49, undef)] (by kernel_rfl) (qT (qT (qT (qB (qT (qL (qB (qT (qB (qT (qL (qB (qT (qT (qB (qL (qB (qT (qT qZ))))))))))))))))))) (by kernel_rfl) ?_
                    refine wH_done (by kernel_rfl) ?_
                    refine eX_tail ?_
                    refine wS_pure 4 [(69, .bool (true)), (68, .bool (true)), (67, undef), (66, undef)] (by kernel_rfl) ?_
                    refine wS_end (by rfl) ?_
                    refine eX_then ?_
                    refine cW_prune [(0, .slice A0 (l0).length cap0), (4, .slice A2776 (l2775).length cap2777), (5, .int .i64 (x2781)), (6, .slice (some ⟨b9, 0, none⟩) (l2782).length (Int.toNat (((l0).length : Int)))), (7, .int .i64 (x3924)), (8, .int .i64 (x3925)), (9, .int .i64 (x3641)), (10, .int .i64 (x3926)), (24, .int .i64 (((l0).length : Int))), (25, .int .i64 (x3641)), (69, .bool (true))] (by kernel_rfl) (by kernel_rfl) (fun a4043 => ?_)
                    refine cW_cond_t (by kernel_rfl) ?_
                    refine cW_region ?_
                    refine wS_pure 4 [(8, .int .i64 (x3926)), (7, .int .i64 (x3641)), (71, .int .i64 (x3926)), (70, .int .i64 (x3641))] (by kernel_rfl) ?_
                    refine wS_end (by rfl) ?_
                    have hq : (some ((x3641, x3926)) : Option (Int × Int)) = some _ := hm
                    replace hq := someE hq
                    subst hq
                    exact eX_J (fun hst => ⟨x3641, x3926, rfl, Fr.of hst (by kernel_rfl), F3928, F3929, F3930, hB, hZ⟩)
                  · have hm := condF hb4042 hm
                    rewrite [hb4042]
                    refine wH_take [13, 14] [14, 13, 12, 11, 10, 9, 8, 7, 6, 5, 4, 3, 2, 1, 0] [(50, .int .i64 (x3641)), (49, .slice A0 (l0).length cap0)] (by kernel_rfl) (qT (qT (qT (qB (qT (qL (qB (qT (qB (qT (qL (qB (qT (qT (qB (qL (qB (qT (qT qZ))))))))))))))))))) (by kernel_rfl) ?_
                    obtain ⟨x4044, hx4045, hm⟩ := bindE hm
                    refine wH_idx (i := 15) (d := 51) (T := 25) (A := A0) (n := (l0).length) (cap := cap0) (kd := .i64) (m := x3641) (by kernel_rfl) (qT (qT (qT (qB (qT (qL (qB (qT (qB (qT (qL (qB (qT (qT (qB (qL (qB (qT (qT qZ))))))))))))))))))) (by kernel_rfl) (by kernel_rfl) sl25 (F3928.is hx4045) ?_
                    refine wH_loadA (i := 16) (d := 52) (T := 34) (ad := (elA A0 2 (x3641) 0)) (vs := [.int .i64 (x4044.1), .int .i64 (x4044.2)]) (by kernel_rfl) (qT (qT (qT (qB (qT (qL (qB (qT (qB (qT (qL (qB (qT (qT (qB (qL (qB (qT (qT qZ))))))))))))))))))) (by kernel_rfl) (by kernel_rfl) vt34 (fun W hW i u hu => Sl.cells_at (Z4034.chg hW Dj.nil) hx4045 0 hu (by rfl)) ?_
                    refine wH_take [17, 18] [18, 17, 16, 15, 14, 13, 12, 11, 10, 9, 8, 7, 6, 5, 4, 3, 2, 1, 0] [(54, .int .i64 (x3926)), (53, .slice A0 (l0).length cap0)] (by kernel_rfl) (qT (qT (qT (qB (qT (qL (qB (qT (qB (qT (qL (qB (qT (qT (qB (qL (qB (qT (qT qZ))))))))))))))))))) (by kernel_rfl) ?_
                    obtain ⟨x4046, hx4047, hm⟩ := bindE hm
                    refine wH_idx (i := 19) (d := 55) (T := 25) (A := A0) (n := (l0).length) (cap := cap0) (kd := .i64) (m := x3926) (by kernel_rfl) (qT (qT (qT (qB (qT (qL (qB (qT (qB (qT (qL (qB (qT (qT (qB (qL (qB (qT (qT qZ))))))))))))))))))) (by kernel_rfl) (by kernel_rfl) sl25 (F3928.is hx4047) ?_
                    refine wH_loadA (i := 20) (d := 56) (T := 34) (ad := (elA A0 2 (x3926) 0)) (vs := [.int .i64 (x4046.1), .int .i64 (x4046.2)]) (by kernel_rfl) (qT (qT (qT (qB (qT (qL (qB (qT (qB (qT (qL (qB (qT (qT (qB (qL (qB (qT (qT qZ))))))))))))))))))) (by kernel_rfl) (by kernel_rfl) vt34 (fun W hW i u hu => Sl.cells_at (Z4034.chg hW Dj.nil) hx4047 0 hu (by rfl)) ?_
                    refine wH_take [22, 23] [23, 22, 20, 19, 18, 17, 16, 15, 14, 13, 12, 11, 10, 9, 8, 7, 6, 5, 4, 3, 2, 1, 0] [(59, .int .i64 (x3924)), (58, .slice A0 (l0).length cap0)] (by kernel_rfl) (qT (qT (qT (qB (qT (qL (qB (qT (qB (qT (qL (qB (qT (qT (qB (qL (qB (qT (qT qZ))))))))))))))))))) (by kernel_rfl) ?_
                    obtain ⟨x4048, hx4049, hm⟩ := bindE hm
                    refine wH_idx (i := 24) (d := 60) (T := 25) (A := A0) (n := (l0).length) (cap := cap0) (kd := .i64) (m := x3924) (by kernel_rfl) (qT (qT (qT (qB (qT (qL (qB (qT (qB (qT (qL (qB (qT (qT (qB (qL (qB (qT (qT qZ))))))))))))))))))) (by kernel_rfl) (by kernel_rfl) sl25 (F3928.is hx4049) ?_
                    refine wH_loadA (i := 25) (d := 61) (T := 34) (ad := (elA A0 2 (x3924) 0)) (vs := [.int .i64 (x4048.1), .int .i64 (x4048.2)]) (by kernel_rfl) (qT (qT (qT (qB (qT (qL (qB (qT (qB (qT (qL (qB (qT (qT (qB (qL (qB (qT (qT qZ))))))))))))))))))) (by kernel_rfl) (by kernel_rfl) vt34 (fun W hW i u hu => Sl.cells_at (Z4034.chg hW Dj.nil) hx4049 0 hu (by rfl)) ?_
                    refine wH_take [26, 27] [27, 26, 25, 24, 23, 22, 20, 19, 18, 17, 16, 15, 14, 13, 12, 11, 10, 9, 8, 7, 6, 5, 4, 3, 2, 1, 0] [(63, .int .i64 (x3925)), (62, .slice A0 (l0).length cap0)] (by kernel_rfl) (qT (qT (qT (qB (qT (qL (qB (qT (qB (qT (qL (qB (qT (qT (qB (qL (qB (qT (qT qZ))))))))))))))))))) (by kernel_rfl) ?_
                    obtain ⟨x4050, hx4051, hm⟩ := bindE hm
                    refine wH_idx (i := 28) (d := 64) (T := 25) (A := A0) (n := (l0).length) (cap := cap0) (kd := .i64) (m := x3925) (by kernel_rfl) (qT (qT (qT (qB (qT (qL (qB (qT (qB (qT (qL (qB (qT (qT (qB (qL (qB (qT (qT qZ))))))))))))))))))) (by kernel_rfl) (by kernel_rfl) sl25 (F3928.is hx4051) ?_
                    refine wH_loadA (i := 29) (d := 65) (T := 34) (ad := (elA A0 2 (x3925) 0)) (vs := [.int .i64 (x4050.1), .int .i64 (x4050.2)]) (by kernel_rfl) (qT (qT (qT (qB (qT (qL (qB (qT (qB (qT (qL (qB (qT (qT (qB (qL (qB (qT (qT qZ))))))))))))))))))) (by kernel_rfl) (by kernel_rfl) vt34 (fun W hW i u hu => Sl.cells_at (Z4034.chg hW Dj.nil) hx4051 0 hu (by rfl)) ?_
                    refine wH_all [21] (by rfl) (by kernel_rfl) (by simp) ⟨⟨by kernel_rfl, ?_⟩, trivial⟩
                    obtain ⟨y4052, hy4053, hm⟩ := bindE hm
                    refine wS_calls (d := 57) (f := 73) (vs := [.agg #[.int .i64 (x4044.1), .int .i64 (x4044.2)], .agg #[.int .i64 (x4046.1), .int .i64 (x4046.2)]]) (by kernel_rfl) ent73 (c_impl_far hy4053) ?_
                    rintro _ w4054 ⟨rfl, hc4055⟩
                    replace F3928 := F3928.chg hc4055 Dj.nil
                    replace F3929 := F3929.chg hc4055 Dj.nil
                    replace F3930 := F3930.chg hc4055 Dj.nil
                    replace hB := hB.inS hc4055 inNil
                    have hSz := hS
                    replace hS := hS.inS hc4055 inNil
                    replace hZ := Nat.le_trans hZ hc4055.size
                    refine ⟨.int .i64 (y4052), rfl, ?_⟩
                    refine wS_end (by kernel_rfl) ?_
                    refine eX_KH hS ?_
                    refine wH_done (by kernel_rfl) ?_
                    refine eX_tail ?_
                    obtain ⟨y4056, hy4057, hm⟩ := bindE hm
                    refine wS_calls (d := 66) (f := 73) (vs := [.agg #[.int .i64 (x4048.1), .int .i64 (x4048.2)], .agg #[.int .i64 (x4050.1), .int .i64 (x4050.2)]]) (by kernel_rfl) ent73 (c_impl_far hy4057) ?_
                    rintro _ w4058 ⟨rfl, hc4059⟩
                    replace F3928 := F3928.chg hc4059 Dj.nil
                    replace F3929 := F3929.chg hc4059 Dj.nil
                    replace F3930 := F3930.chg hc4059 Dj.nil
                    replace hB := hB.inS hc4059 inNil
                    replace hZ := Nat.le_trans hZ hc4059.size
                    refine ⟨.int .i64 (y4056), rfl, ?_⟩
                    refine wS_pure 3 [(69, .bool (decide (y4052 < y4056))), (68, .bool (decide (y4052 < y4056))), (67, .bool (decide (y4052 < y4056)))] (by kernel_rfl) ?_
                    refine wS_end (by rfl) ?_
                    refine eX_then ?_
                    refine cW_prune [(0, .slice A0 (l0).length cap0), (4, .slice A2776 (l2775).length cap2777), (5, .int .i64 (x2781)), (6, .slice (some ⟨b9, 0, none⟩) (l2782).length (Int.toNat (((l0).length : Int)))), (7, .int .i64 (x3924)), (8, .int .i64 (x3925)), (9, .int .i64 (x3641)), (10, .int .i64 (x3926)), (24, .int .i64 (((l0).length : Int))), (25, .int .i64 (x3641)), (69, .bool (decide (y4052 < y4056)))] (by kernel_rfl) (by kernel_rfl) (fun a4060 => ?_)
                    refine cW_cond (t := decide (y4052 < y4056)) (by kernel_rfl) (fun hb4061 => ?_) (fun hb4061 => ?_)
                    · have hm := condT hb4061 hm
                      refine cW_region ?_
                      refine wS_pure 4 [(8, .int .i64 (x3926)), (7, .int .i64 (x3641)), (71, .int .i64 (x3926)), (70, .int .i64 (x3641))] (by kernel_rfl) ?_
                      refine wS_end (by rfl) ?_
                      have hq : (some ((x3641, x3926)) : Option (Int × Int)) = some _ := hm
                      replace hq := someE hq
                      subst hq
                      exact eX_J (fun hst => ⟨x3641, x3926, rfl, Fr.of hst (by kernel_rfl), F3928, F3929, F3930, hB, hZ⟩)
                    · have hm := condF hb4061 hm
                      refine cW_skip ?_
                      have hq : (some ((x3924, x3925)) : Option (Int × Int)) = some _ := hm
                      replace hq := someE hq
                      subst hq
                      exact eX_J (fun hst => ⟨x3924, x3925, rfl, Fr.of hst (by kernel_rfl), F3928, F3929, F3930, hB, hZ⟩)
                · have hm := condF hb4041 hm
                  rewrite [hb4041]
                  refine wH_take [10, 11, 12, 13, 14, 15, 16, 17, 18, 19, 20, 21, 22, 23, 24, 25, 26, 27, 28, 29] [29, 28, 27, 26, 25, 24, 23, 22, 21, 20, 19, 18, 17, 16, 15, 14, 13, 12, 11, 10, 9, 8, 7, 6, 5, 4, 3, 2, 1, 0] [(65, undef), (64, undef), (63, undef), (62, undef), (61, undef), (60, undef), (59, undef), (58, undef), (57, undef), (56, undef), (55, undef), (54, undef), (53, undef), (52, undef), (51, undef), (50, undef), (49, undef), (48, undef), (47, undef), (46, undef)] (by kernel_rfl) (qT (qT (qT (qB (qT (qL (qB (qT (qB (qT (qL (qB (qT (qT (qB (qL (qB (qT (qT qZ))))))))))))))))))) (by kernel_rfl) ?_
                  refine wH_done (by kernel_rfl) ?_
                  refine eX_tail ?_
                  refine wS_pure 4 [(69, .bool (false)), (68, undef), (67, undef), (66, undef)] (by kernel_rfl) ?_
                  refine wS_end (by rfl) ?_
                  refine eX_then ?_
                  refine cW_prune [(0, .slice A0 (l0).length cap0), (4, .slice A2776 (l2775).length cap2777), (5, .int .i64 (x2781)), (6, .slice (some ⟨b9, 0, none⟩) (l2782).length (Int.toNat (((l0).length : Int)))), (7, .int .i64 (x3924)), (8, .int .i64 (x3925)), (9, .int .i64 (x3641)), (10, .int .i64 (x3926)), (24, .int .i64 (((l0).length : Int))), (25, .int .i64 (x3641)), (69, .bool (false))] (by kernel_rfl) (by kernel_rfl) (fun a4062 => ?_)
                  refine cW_cond_f (by kernel_rfl) ?_
                  refine cW_skip ?_
                  have hq : (some ((x3924, x3925)) : Option (Int × Int)) = some _ := hm
                  replace hq := someE hq
                  subst hq
                  exact eX_J (fun hst => ⟨x3924, x3925, rfl, Fr.of hst (by kernel_rfl), F3928, F3929, F3930, hB, hZ⟩)
              · rintro a' w3996 ⟨x3997, x3998, hJ, hF3999, F4000, F4001, F4002, hB, hZ⟩
                subst hJ
                refine Fr.goX hF3999 (by kernel_rfl) ?_
                refine eX_block ?_
                refine eX_then ?_
                refine cW_region ?_
                refine wS_pure 3 [(10, .int .i64 (wr (x3926 + 1))), (35, .int .i64 (wr (x3926 + 1))), (34, .int .i64 (x3926))] (by kernel_rfl) ?_
                refine wS_end (by rfl) ?_
                have hq : (some (Ctl.next ((x3997, x3998, wr (x3926 + 1)))) : Option (Ctl (Int × Int × Int) (Int × Int))) = some _ := hm
                replace hq := someE hq
                subst hq
                exact eX_next hx3936 (fun hst => ⟨x3997, x3998, wr (x3926 + 1), rfl, Fr.of hst (by kernel_rfl), F4000, F4001, F4002, hB, hZ⟩)
            · have hm := condF hb3937 hm
              refine cW_exit ?_
              refine eX_then_exit ?_
              have hq : (some (Ctl.out ((x3924, x3925))) : Option (Ctl (Int × Int × Int) (Int × Int))) = some _ := hm
              replace hq := someE hq
              subst hq
              refine eX_outX hx3936 (fun hr4063 => ?_)
              replace hr4063 := hr4063.symm
              subst hr4063
              refine eX_block_hit ?_
              exact eX_J (fun hst => ⟨x3924, x3925, rfl, Fr.of hst (by kernel_rfl), F3928, F3929, F3930, hB, hZ⟩)
          · rintro a' w3916 ⟨x3917, x3918, hJ, hF3919, F3920, F3921, F3922, hB, hZ⟩
            subst hJ
            refine Fr.goX hF3919 (by kernel_rfl) ?_
            refine eX_block ?_
            refine eX_then ?_
            refine cW_region ?_
            refine wS_pure 2 [(25, .int .i64 (wr (x3641 + 1))), (72, .int .i64 (wr (x3641 + 1)))] (by kernel_rfl) ?_
            refine wS_end (by rfl) ?_
            have hq : (some (Ctl.next ((x3917, x3918, wr (x3641 + 1)))) : Option (Ctl (Int × Int × Int) (Int × Int))) = some _ := hm
            replace hq := someE hq
            subst hq
            exact eX_next hx3651 (fun hst => ⟨x3917, x3918, wr (x3641 + 1), rfl, Fr.of hst (by kernel_rfl), F3920, F3921, F3922, hB, hZ⟩)
        · have hm := condF hb3652 hm
          refine cW_exit ?_
          refine eX_then_exit ?_
          have hq : (some (Ctl.out ((x3639, x3640))) : Option (Ctl (Int × Int × Int) (Int × Int))) = some _ := hm
          replace hq := someE hq
          subst hq
          refine eX_outX hx3651 (fun hr4064 => ?_)
          replace hr4064 := hr4064.symm
          subst hr4064
          refine eX_block_hit ?_
          exact eX_J (fun hst => ⟨x3639, x3640, rfl, Fr.of hst (by kernel_rfl), F3643, F3644, F3645, hB, hZ⟩)
      · rintro a' w3631 ⟨x3632, x3633, hJ, hF3634, F3635, F3636, F3637, hB, hZ⟩
        subst hJ
        refine Fr.goX hF3634 (by kernel_rfl) ?_
        refine eX_then ?_
        refine cW_seq ?_
        refine cW_region ?_
        refine wS_pure 4 [(76, .int .i64 (x3633)), (75, .slice (some ⟨b9, 0, none⟩) (l2782).length (Int.toNat (((l0).length : Int)))), (74, .int .i64 (x3632)), (73, .slice (some ⟨b9, 0, none⟩) (l2782).length (Int.toNat (((l0).length : Int))))] (by kernel_rfl) ?_
        obtain ⟨x4065, hx4066, hm⟩ := bindE hm
        refine wS_idx (d := 77) (T := 86) (A := (some ⟨b9, 0, none⟩)) (n := (l2782).length) (cap := (Int.toNat (((l0).length : Int)))) (kd := .i64) (m := x3632) (by kernel_rfl) sl86 ((F3636.sl encB_ok).is hx4066) ?_
        refine wS_storeEl (x := x4065) true (T := 4) (U := 4) (cap := (Int.toNat (((l0).length : Int)))) (j := 0) (A := (some ⟨b9, 0, none⟩)) (v := .bool (true)) (vs := [.bool (true)]) (m := x3632) (by kernel_rfl) (by rfl) sz4 (by rfl) encB_ok F3636 hx4066 (by simp only [List.length_cons, List.length_nil]; omega) (by rfl) ?_
        intro w4067 F4068 hc4069
        replace F3635 := F3635.chg hc4069 (Dj.of L0 G11)
        replace F3637 := F3637.chg hc4069 (D2788).symm
        replace hB := hB.inS hc4069 (inLow G11)
        replace hZ := Nat.le_trans hZ hc4069.size
        clear F3636
        rewrite [show (l2782).length = (l2782.set (Int.toNat x3632) true).length from (List.length_set ..).symm]
        obtain ⟨x4070, hx4071, hm⟩ := bindE hm
        refine wS_idx (d := 78) (T := 86) (A := (some ⟨b9, 0, none⟩)) (n := (l2782.set (Int.toNat x3632) true).length) (cap := (Int.toNat (((l0).length : Int)))) (kd := .i64) (m := x3633) (by kernel_rfl) sl86 ((F4068.sl encB_ok).is hx4071) ?_
        refine wS_storeEl (x := x4070) true (T := 4) (U := 4) (cap := (Int.toNat (((l0).length : Int)))) (j := 0) (A := (some ⟨b9, 0, none⟩)) (v := .bool (true)) (vs := [.bool (true)]) (m := x3633) (by kernel_rfl) (by rfl) sz4 (by rfl) encB_ok F4068 hx4071 (by simp only [List.length_cons, List.length_nil]; omega) (by rfl) ?_
        intro w4072 F4073 hc4074
        replace F3635 := F3635.chg hc4074 (Dj.of L0 G11)
        replace F3637 := F3637.chg hc4074 (D2788).symm
        replace hB := hB.inS hc4074 (inLow G11)
        replace hZ := Nat.le_trans hZ hc4074.size
        clear F4068
        rewrite [show (l2782.set (Int.toNat x3632) true).length = ((l2782.set (Int.toNat x3632) true).set (Int.toNat x3633) true).length from (List.length_set ..).symm]
        refine wS_end (by rfl) ?_
        refine eX_then ?_
        refine cW_drawnTail (fp2778 ++ fr2780) 18 (by kernel_rfl) (by kernel_rfl) (fun w4116 hc4117 => ?_)
        replace F3635 := F3635.chg hc4117 Dj.nil
        replace F4073 := F4073.chg hc4117 Dj.nil
        replace F3637 := F3637.chg hc4117 Dj.nil
        replace hB := hB.inS hc4117 inNil
        replace hZ := Nat.le_trans hZ hc4117.size
        have hS := Chg.refl (fp2778 ++ fr2780) w4116
        have Z4118 := F3635
        have Z4119 := F4073
        have Z4120 := F3637
        refine wH_take [0, 1, 2, 6, 7, 8] [8, 7, 6, 2, 1, 0] [(87, .int .i64 (x3632)), (86, .slice A0 (l0).length cap0), (85, .int .i64 (x2781)), (81, .int .i64 (x3633)), (80, .int .i64 (x3632)), (79, .slice A2776 (l2775).length cap2777)] (by kernel_rfl) (qT (qB (qL (qB (qT (qT qZ)))))) (by kernel_rfl) ?_
        obtain ⟨x4121, hx4122, hm⟩ := bindE hm
        refine wH_idx (i := 9) (d := 88) (T := 25) (A := A0) (n := (l0).length) (cap := cap0) (kd := .i64) (m := x3632) (by kernel_rfl) (qT (qB (qL (qB (qT (qT qZ)))))) (by kernel_rfl) (by kernel_rfl) sl25 (F3635.is hx4122) ?_
        refine wH_loadA (i := 10) (d := 89) (T := 34) (ad := (elA A0 2 (x3632) 0)) (vs := [.int .i64 (x4121.1), .int .i64 (x4121.2)]) (by kernel_rfl) (qT (qB (qL (qB (qT (qT qZ)))))) (by kernel_rfl) (by kernel_rfl) vt34 (fun W hW i u hu => Sl.cells_at (Z4118.chg hW (Dj.of L0 G2787)) hx4122 0 hu (by rfl)) ?_
        refine wH_take [11, 12] [12, 11, 10, 9, 8, 7, 6, 2, 1, 0] [(91, .int .i64 (x3633)), (90, .slice A0 (l0).length cap0)] (by kernel_rfl) (qT (qB (qL (qB (qT (qT qZ)))))) (by kernel_rfl) ?_
        obtain ⟨x4123, hx4124, hm⟩ := bindE hm
        refine wH_idx (i := 13) (d := 92) (T := 25) (A := A0) (n := (l0).length) (cap := cap0) (kd := .i64) (m := x3633) (by kernel_rfl) (qT (qB (qL (qB (qT (qT qZ)))))) (by kernel_rfl) (by kernel_rfl) sl25 (F3635.is hx4124) ?_
        refine wH_loadA (i := 14) (d := 93) (T := 34) (ad := (elA A0 2 (x3633) 0)) (vs := [.int .i64 (x4123.1), .int .i64 (x4123.2)]) (by kernel_rfl) (qT (qB (qL (qB (qT (qT qZ)))))) (by kernel_rfl) (by kernel_rfl) vt34 (fun W hW i u hu => Sl.cells_at (Z4118.chg hW (Dj.of L0 G2787)) hx4124 0 hu (by rfl)) ?_
        refine wH_all [3] (by rfl) (by kernel_rfl) (by simp) ⟨⟨by kernel_rfl, ?_⟩, trivial⟩
        refine wS_bs (enc := encI) ([x3632, x3633] : List (Int)) [.int .i64 (x3632), .int .i64 (x3633)] (d := 82) (t := 78) (T := 2) (n := 2) (ps := [(0, .int .i64 (x3632)), (1, .int .i64 (x3633))]) (by kernel_rfl) el78 encI_ok (by rfl) (by omega) (by omega) (by kernel_rfl) (by rfl) ?_
        intro b4125 w4126 G4127 F4128 hc4129
        have D4131 : Dj [b9] [b4125] := Dj.of F4073.low (low1 G4127)
        have D4132 : Dj (fp2778 ++ fr2780) [b4125] := Dj.of F3637.low (low1 G4127)
        replace F3635 := F3635.chg hc4129 Dj.nil
        replace F4073 := F4073.chg hc4129 Dj.nil
        replace F3637 := F3637.chg hc4129 Dj.nil
        replace hB := hB.inS hc4129 inNil
        have hSz := hS
        replace hS := hS.inS hc4129 inNil
        have Gz4133 := low1 (Nat.le_trans hSz.size G4127)
        replace G4127 := Nat.le_trans hZ G4127
        replace G4127 := low1 G4127
        replace hZ := Nat.le_trans hZ hc4129.size
        refine wS_end (by kernel_rfl) ?_
        refine eX_KH hS ?_
        refine wH_all [4] (by rfl) (by kernel_rfl) (by simp) ⟨⟨by kernel_rfl, ?_⟩, trivial⟩
        refine wS_row1 (k := 1) (enc := encI) (l := ([x3632, x3633] : List (Int))) (d := 83) (t := 47) (T := 78) (B := (some ⟨b4125, 0, none⟩)) (c := 2) (by kernel_rfl) el47 F4128 ?_
        intro b4134 w4135 G4136 F4137 hc4138
        have D4140 : Dj [b9] ([b4134] ++ [b4125]) := Dj.app (Dj.of F4073.low (low1 G4136)) D4131
        have D4141 : Dj (fp2778 ++ fr2780) ([b4134] ++ [b4125]) := Dj.app (Dj.of F3637.low (low1 G4136)) D4132
        replace F3635 := F3635.chg hc4138 Dj.nil
        replace F4073 := F4073.chg hc4138 Dj.nil
        replace F3637 := F3637.chg hc4138 Dj.nil
        replace F4128 := F4128.chg hc4138 Dj.nil
        replace hB := hB.inS hc4138 inNil
        have hSz := hS
        replace hS := hS.inS hc4138 inNil
        replace G4136 := Nat.le_trans hZ G4136
        replace G4136 := lowApp (low1 G4136) G4127
        replace hZ := Nat.le_trans hZ hc4138.size
        replace F4128 := (F4128.sl encI_ok)
        refine wS_end (by kernel_rfl) ?_
        refine eX_KH hS ?_
        refine wH_all [5] (by rfl) (by kernel_rfl) (by simp) ⟨⟨by kernel_rfl, ?_⟩, trivial⟩
        obtain ⟨_, hk4142, hm⟩ := bindE hm
        replace hk4142 := apE hk4142
        refine wS_appendR (k := 1) (enc := encI) (ll := (l2775 : List (List (Int)))) (ll2 := (([([x3632, x3633] : List (Int))] : List (List (Int))) : List (List (Int)))) (d := 84) (t := 47) (T := 78) (A := A2776) (A2 := (some ⟨b4134, 0, none⟩)) (cap := cap2777) (cap2 := 1) (by kernel_rfl) el47 F3637 F4137 (by rfl) D4141 hk4142 ?_
        intro w4143 fp4144 A4145 cap4146 F4147 hc4148 hp4149
        have G4151 := lowApp (low_ap (low_inl G2787) hZ hp4149) (lowApp (low_inr G2787) (low_inr G4136))
        have D4152 : Dj [b9] (fp4144 ++ (fr2780 ++ [b4125])) := Dj.app (Dj.ap (Dj.inl D2788) F4073.low hp4149) (Dj.app (Dj.inr D2788) (Dj.inr D4140))
        replace F3635 := F3635.chg hc4148 (Dj.inl (Dj.of L0 G2787))
        replace F4073 := F4073.chg hc4148 (Dj.inl D2788)
        replace hB := hB.inS hc4148 (memS_inl (inLow G2787))
        have hSz := hS
        replace hS := hS.trans (hc4148.more (fun x hx => List.mem_append_left _ hx))
        replace hZ := Nat.le_trans hZ hc4148.size
        refine wS_end (by kernel_rfl) ?_
        refine eX_KH hS ?_
        refine wH_all [15] (by rfl) (by kernel_rfl) (by simp) ⟨⟨by kernel_rfl, ?_⟩, trivial⟩
        obtain ⟨y4153, hy4154, hm⟩ := bindE hm
        refine wS_calls (d := 94) (f := 73) (vs := [.agg #[.int .i64 (x4121.1), .int .i64 (x4121.2)], .agg #[.int .i64 (x4123.1), .int .i64 (x4123.2)]]) (by kernel_rfl) ent73 (c_impl_far hy4154) ?_
        rintro _ w4155 ⟨rfl, hc4156⟩
        replace F3635 := F3635.chg hc4156 Dj.nil
        replace F4073 := F4073.chg hc4156 Dj.nil
        replace F4147 := F4147.chg hc4156 Dj.nil
        replace hB := hB.inS hc4156 inNil
        have hSz := hS
        replace hS := hS.inS hc4156 inNil
        replace hZ := Nat.le_trans hZ hc4156.size
        refine ⟨.int .i64 (y4153), rfl, ?_⟩
        refine wS_end (by kernel_rfl) ?_
        refine eX_KH hS ?_
        refine wH_take [16, 17] [17, 16, 15, 5, 4, 3, 14, 13, 12, 11, 10, 9, 8, 7, 6, 2, 1, 0] [(4, .slice A4145 (l2775 ++ (([([x3632, x3633] : List (Int))] : List (List (Int))))).length cap4146), (95, .int .i64 (wr (x2781 + y4153)))] (by kernel_rfl) (qT (qB (qL (qB (qT (qT qZ)))))) (by kernel_rfl) ?_
        refine wH_done (by kernel_rfl) ?_
        refine eX_tail ?_
        refine wS_pure 1 [(5, .int .i64 (wr (x2781 + y4153)))] (by kernel_rfl) ?_
        refine wS_end (by rfl) ?_
        refine eX_block ?_
        have hq : (some (Ctl.next ((l2775 ++ (([([x3632, x3633] : List (Int))] : List (List (Int)))), wr (x2781 + y4153), (l2782.set (Int.toNat x3632) true).set (Int.toNat x3633) true))) : Option (Ctl ((List (List (Int))) × Int × (List (Bool))) ((List (List (Int))) × Int))) = some _ := hm
        replace hq := someE hq
        subst hq
        exact eX_next hx2794 (fun hst => ⟨l2775 ++ (([([x3632, x3633] : List (Int))] : List (List (Int)))), A4145, cap4146, fp4144, (fr2780 ++ [b4125]), wr (x2781 + y4153), (l2782.set (Int.toNat x3632) true).set (Int.toNat x3633) true, rfl, Fr.of hst (by kernel_rfl), F3635, F4073, F4147, G4151, D4152, hB, hZ⟩)
    · have hm := condF hb2795 hm
      refine cW_exit ?_
      refine eX_then_exit ?_
      have hq : (some (Ctl.out ((l2775, x2781))) : Option (Ctl ((List (List (Int))) × Int × (List (Bool))) ((List (List (Int))) × Int))) = some _ := hm
      replace hq := someE hq
      subst hq
      refine eX_outX hx2794 (fun hr4157 => ?_)
      replace hr4157 := hr4157.symm
      subst hr4157
      refine eX_block_hit ?_
      exact eX_J (fun hst => ⟨l2775, A2776, cap2777, fp2778, fr2780, x2781, rfl, Fr.of hst (by kernel_rfl), F2786, G2787, hB, hZ⟩)
  · rintro a' w2763 ⟨l2764, A2765, cap2766, fp2767, fr2769, x2770, hJ, hF2771, F2772, G2773, hB, hZ⟩
    subst hJ
    refine Fr.goX hF2771 (by kernel_rfl) ?_
    refine eX_then ?_
    refine cW_seq ?_
    refine cW_region ?_
    refine wS_pure 1 [(96, .slice A2765 (l2764).length cap2766)] (by kernel_rfl) ?_
    obtain ⟨y4158, hy4159, hm⟩ := bindE hm
    refine wS_calls (d := 97) (f := 138) (vs := [.slice A2765 (l2764).length cap2766, .func (.func 139) #[] #[]]) (by kernel_rfl) ent138 (c_slices_SortFunc_int64_int64_slices_Compare_int64_int64 hy4159 F2772) ?_
    rintro _ w4160 ⟨rfl, F4162, hl4163, hc4161⟩
    replace hB := hB.inS hc4161 (inApp (inLow G2773) inNil)
    replace hZ := Nat.le_trans hZ hc4161.size
    clear F2772
    refine ⟨.tuple #[], rfl, ?_⟩
    rewrite [(show (l2764).length = (y4158).length from hl4163.symm)]
    refine wS_end (by rfl) ?_
    refine eX_then ?_
    refine cW_seq ?_
    refine cW_region ?_
    refine wS_pure 4 [(3, .int .i64 (x2770)), (2, .slice A2765 (y4158).length cap2766), (99, .int .i64 (x2770)), (98, .slice A2765 (y4158).length cap2766)] (by kernel_rfl) ?_
    refine wS_end (by rfl) ?_
    refine eX_then ?_
    refine cW_ret ?_
    have hq : (some ((y4158, x2770)) : Option ((List (List (Int))) × (Int))) = some _ := hm
    replace hq := someE hq
    subst hq
    refine eX_ret (vs := [.slice A2765 (y4158).length cap2766, .int .i64 (x2770)]) [.tmp 2, .tmp 3] (by rfl) ⟨by (show lkE _ _ _ = _); kernel_rfl, ⟨by (show lkE _ _ _ = _); kernel_rfl, trivial⟩⟩ ?_
    exact ⟨A2765, cap2766, fp2767, fr2769, rfl, F4162, G2773, hB⟩

set_option maxRecDepth 100000 in
/-- impl.Point] -/
theorem c_slices_Index_impl_Point_impl_Point {w0 : World} {l0 : List (Int × Int)} {A0 : Option Addr} {cap0 : Nat} {fp0 : List Nat} {p1_0 : Int} {p1_1 : Int} {r : (Int)} (hm : m_slices_Index_impl_Point_impl_Point l0 p1_0 p1_1 = some r) (F0 : Sl 2 encII w0 fp0 A0 l0) :
    Calls Try.prog 135 #[.slice A0 (l0).length cap0, .agg #[.int .i64 (p1_0), .int .i64 (p1_1)]] w0 fun e w' => e = .returned (.int .i64 (r)) ∧ Chg [] w0 w' := by
  have L0 := F0.low
  have hB : Chg [] w0 w0 := Chg.refl _ _
  have hZ := Nat.le_refl w0.heap.size
  unfold m_slices_Index_impl_Point_impl_Point at hm
  refine enterE (N := 19) Try.func135 (by rfl) Try.ntmps135 (by simp) [(0, .slice A0 (l0).length cap0), (1, .agg #[.int .i64 (p1_0), .int .i64 (p1_1)])] (by rfl) (by kernel_rfl) (fun a => ?_)
  refine cW_seq ?_
  refine cW_region ?_
  refine wS_box (d := 3) (T := 34) (x := .agg #[.int .i64 (p1_0), .int .i64 (p1_1)]) (by kernel_rfl) ?_
  intro b2 w3 G4 F5 hc6
  replace F5 : Cl w3 b2 34 [.int .i64 (p1_0), .int .i64 (p1_1)] := F5
  replace F0 := F0.chg hc6 Dj.nil
  replace hB := hB.inS hc6 inNil
  replace G4 := Nat.le_trans hZ G4
  replace hZ := Nat.le_trans hZ hc6.size
  refine wS_pure 1 [(4, .int .i64 (0))] (by kernel_rfl) ?_
  refine wS_end (by rfl) ?_
  refine eX_then ?_
  refine cW_seq ?_
  refine cW_seq ?_
  refine cW_region ?_
  refine wS_pure 3 [(8, .int .i64 (0)), (7, .int .i64 (((l0).length : Int))), (6, .slice A0 (l0).length cap0)] (by kernel_rfl) ?_
  refine wS_end (by rfl) ?_
  refine eX_then ?_
  obtain ⟨r50, hr51, hm⟩ := bindE hm
  have hm52 := hm
  refine cW_cut (fun a' w' => Sum.inl (()) = r50 ∧ Fr 19 [] a' ∧ Chg [] w0 w' ∧ w0.heap.size ≤ w'.heap.size) ?_ ?_
  · refine cW_block ?_
    refine cW_loop _ (fun (s53 : Int) a' w' => ∃ x46 : Int, x46 = s53 ∧ Fr 19 [(0, .slice A0 (l0).length cap0), (3, .pointer (some ⟨b2, 0, none⟩)), (7, .int .i64 (((l0).length : Int))), (8, .int .i64 (x46))] a' ∧ Sl 2 encII w' fp0 A0 l0 ∧ Cl w' b2 34 [.int .i64 (p1_0), .int .i64 (p1_1)] ∧ Chg [] w0 w' ∧ w0.heap.size ≤ w'.heap.size) hr51 (fun hst => ⟨0, rfl, Fr.of hst (by kernel_rfl), F0, F5, hB, hZ⟩) ?_
    rintro _ c54 a' w45 ⟨x46, rfl, hF47, F48, F49, hB, hZ⟩ hx55
    refine Fr.goOn hF47 (by kernel_rfl) ?_
    have hm := hx55
    unfold m_slices_Index_impl_Point_impl_Point_s1 at hm
    refine cW_seq ?_
    refine cW_region ?_
    refine wS_pure 1 [(9, .bool (decide (x46 < (((l0).length : Int)))))] (by kernel_rfl) ?_
    refine wS_end (by rfl) ?_
    refine eX_then ?_
    refine cW_seq ?_
    refine cW_cond (t := decide (x46 < (((l0).length : Int)))) (by kernel_rfl) (fun hb56 => ?_) (fun hb56 => ?_)
    · have hm := condT hb56 hm
      refine cW_skip ?_
      refine eX_then ?_
      refine cW_seq ?_
      refine cW_block ?_
      refine cW_seq ?_
      refine cW_region ?_
      refine wS_pure 2 [(5, .int .i64 (x46)), (10, .int .i64 (x46))] (by kernel_rfl) ?_
      refine wS_end (by rfl) ?_
      refine eX_then ?_
      refine cW_seq ?_
      refine cW_drawnTail [] 5 (by kernel_rfl) (by kernel_rfl) (fun w63 hc64 => ?_)
      replace F48 := F48.chg hc64 Dj.nil
      replace F49 := F49.chg hc64 notNil
      replace hB := hB.inS hc64 inNil
      replace hZ := Nat.le_trans hZ hc64.size
      have hS := Chg.refl [] w63
      have Z65 := F48
      have Z66 := F49
      refine wH_loadA (i := 0) (d := 11) (T := 34) (ad := ⟨b2, 0, none⟩) (vs := [.int .i64 (p1_0), .int .i64 (p1_1)]) (by kernel_rfl) (qT (qT (qB (qT (qL (qB (qT (qT qZ)))))))) (by kernel_rfl) (by kernel_rfl) vt34 (fun W hW i u hu => box_cells (Z66.chg hW notNil) 0 hu (by rfl)) ?_
      refine wH_take [1, 2] [2, 1, 0] [(13, .int .i64 (x46)), (12, .slice A0 (l0).length cap0)] (by kernel_rfl) (qT (qT (qB (qT (qL (qB (qT (qT qZ)))))))) (by kernel_rfl) ?_
      obtain ⟨x67, hx68, hm⟩ := bindE hm
      refine wH_idx (i := 3) (d := 14) (T := 25) (A := A0) (n := (l0).length) (cap := cap0) (kd := .i64) (m := x46) (by kernel_rfl) (qT (qT (qB (qT (qL (qB (qT (qT qZ)))))))) (by kernel_rfl) (by kernel_rfl) sl25 (F48.is hx68) ?_
      refine wH_loadA (i := 4) (d := 15) (T := 34) (ad := (elA A0 2 (x46) 0)) (vs := [.int .i64 (x67.1), .int .i64 (x67.2)]) (by kernel_rfl) (qT (qT (qB (qT (qL (qB (qT (qT qZ)))))))) (by kernel_rfl) (by kernel_rfl) vt34 (fun W hW i u hu => Sl.cells_at (Z65.chg hW Dj.nil) hx68 0 hu (by rfl)) ?_
      refine wH_done (by kernel_rfl) ?_
      refine eX_tail ?_
      refine wS_eqS (d := 16) (T := 34) (x := p1_0) (y := p1_1) (x' := x67.1) (y' := x67.2) (by kernel_rfl) eq34 ?_
      refine wS_end (by rfl) ?_
      refine eX_then ?_
      refine cW_cond (t := p1_0 == x67.1 && p1_1 == x67.2) (by kernel_rfl) (fun hb69 => ?_) (fun hb69 => ?_)
      · have hm := condT hb69 hm
        refine cW_seq ?_
        refine cW_region ?_
        refine wS_pure 2 [(4, .int .i64 (x46)), (17, .int .i64 (x46))] (by kernel_rfl) ?_
        refine wS_end (by rfl) ?_
        refine eX_then ?_
        refine cW_ret ?_
        refine eX_block_ret ?_
        refine eX_then_ret ?_
        have hq : (some (Ctl.out (Sum.inr x46)) : Option (Ctl (Int) (Sum (Unit) ((Int))))) = some _ := hm
        replace hq := someE hq
        subst hq
        refine eX_outR hx55 (fun hr => ?_)
        subst hr
        refine eX_block_ret ?_
        refine eX_then_ret ?_
        refine eX_then_ret ?_
        have hq : (some x46 : Option ((Int))) = some _ := hm52
        replace hq := someE hq
        subst hq
        refine eX_ret (vs := [.int .i64 (x46)]) [.tmp 4] (by rfl) ⟨by (show lkE _ _ _ = _); kernel_rfl, trivial⟩ ?_
        exact ⟨rfl, hB⟩
      · have hm := condF hb69 hm
        refine cW_skip ?_
        refine eX_block ?_
        refine eX_then ?_
        refine cW_region ?_
        refine wS_pure 2 [(8, .int .i64 (wr (x46 + 1))), (18, .int .i64 (wr (x46 + 1)))] (by kernel_rfl) ?_
        refine wS_end (by rfl) ?_
        have hq : (some (Ctl.next (wr (x46 + 1))) : Option (Ctl (Int) (Sum (Unit) ((Int))))) = some _ := hm
        replace hq := someE hq
        subst hq
        exact eX_next hx55 (fun hst => ⟨wr (x46 + 1), rfl, Fr.of hst (by kernel_rfl), F48, F49, hB, hZ⟩)
    · have hm := condF hb56 hm
      refine cW_exit ?_
      refine eX_then_exit ?_
      have hq : (some (Ctl.out (Sum.inl (()))) : Option (Ctl (Int) (Sum (Unit) ((Int))))) = some _ := hm
      replace hq := someE hq
      subst hq
      refine eX_outX hx55 (fun hr70 => ?_)
      replace hr70 := hr70.symm
      subst hr70
      refine eX_block_hit ?_
      exact eX_J (fun hst => ⟨rfl, Fr.of hst (by kernel_rfl), hB, hZ⟩)
  · rintro a' w43 ⟨hJ, hF44, hB, hZ⟩
    subst hJ
    refine Fr.goX hF44 (by kernel_rfl) ?_
    refine eX_then ?_
    refine cW_seq ?_
    refine cW_region ?_
    refine wS_pure 1 [(4, .int .i64 ((-1)))] (by kernel_rfl) ?_
    refine wS_end (by rfl) ?_
    refine eX_then ?_
    refine cW_ret ?_
    have hq : (some ((-1)) : Option ((Int))) = some _ := hm
    replace hq := someE hq
    subst hq
    refine eX_ret (vs := [.int .i64 ((-1))]) [.tmp 4] (by rfl) ⟨by (show lkE _ _ _ = _); kernel_rfl, trivial⟩ ?_
    exact ⟨rfl, hB⟩

set_option maxRecDepth 100000 in
/-- impl.Point] -/
theorem c_slices_Contains_impl_Point_impl_Point {w0 : World} {l0 : List (Int × Int)} {A0 : Option Addr} {cap0 : Nat} {fp0 : List Nat} {p1_0 : Int} {p1_1 : Int} {r : (Bool)} (hm : m_slices_Contains_impl_Point_impl_Point l0 p1_0 p1_1 = some r) (F0 : Sl 2 encII w0 fp0 A0 l0) :
    Calls Try.prog 131 #[.slice A0 (l0).length cap0, .agg #[.int .i64 (p1_0), .int .i64 (p1_1)]] w0 fun e w' => e = .returned (.bool (r)) ∧ Chg [] w0 w' := by
  have L0 := F0.low
  have hB : Chg [] w0 w0 := Chg.refl _ _
  have hZ := Nat.le_refl w0.heap.size
  unfold m_slices_Contains_impl_Point_impl_Point at hm
  refine enterE (N := 9) Try.func131 (by rfl) Try.ntmps131 (by simp) [(0, .slice A0 (l0).length cap0), (1, .agg #[.int .i64 (p1_0), .int .i64 (p1_1)])] (by rfl) (by kernel_rfl) (fun a => ?_)
  refine cW_seq ?_
  refine cW_region ?_
  refine wS_box (d := 3) (T := 34) (x := .agg #[.int .i64 (p1_0), .int .i64 (p1_1)]) (by kernel_rfl) ?_
  intro b2 w3 G4 F5 hc6
  replace F5 : Cl w3 b2 34 [.int .i64 (p1_0), .int .i64 (p1_1)] := F5
  replace F0 := F0.chg hc6 Dj.nil
  replace hB := hB.inS hc6 inNil
  replace G4 := Nat.le_trans hZ G4
  replace hZ := Nat.le_trans hZ hc6.size
  refine wS_pure 1 [(4, .bool (false))] (by kernel_rfl) ?_
  refine wS_end (by rfl) ?_
  refine eX_then ?_
  refine cW_seq ?_
  refine cW_region ?_
  refine wS_pure 1 [(5, .slice A0 (l0).length cap0)] (by kernel_rfl) ?_
  refine wS_loadA (d := 6) (T := 34) (ad := ⟨b2, 0, none⟩) (vs := [.int .i64 (p1_0), .int .i64 (p1_1)]) (by kernel_rfl) vt34 (fun i u hu => box_cells F5 0 hu (by rfl)) ?_
  obtain ⟨y8, hy9, hm⟩ := bindE hm
  refine wS_calls (d := 7) (f := 135) (vs := [.slice A0 (l0).length cap0, .agg #[.int .i64 (p1_0), .int .i64 (p1_1)]]) (by kernel_rfl) ent135 (c_slices_Index_impl_Point_impl_Point hy9 F0) ?_
  rintro _ w10 ⟨rfl, hc11⟩
  replace F0 := F0.chg hc11 Dj.nil
  replace F5 := F5.chg hc11 notNil
  replace hB := hB.inS hc11 inNil
  replace hZ := Nat.le_trans hZ hc11.size
  refine ⟨.int .i64 (y8), rfl, ?_⟩
  refine wS_pure 2 [(4, .bool (decide (y8 ≥ 0))), (8, .bool (decide (y8 ≥ 0)))] (by kernel_rfl) ?_
  refine wS_end (by rfl) ?_
  refine eX_then ?_
  refine cW_ret ?_
  have hq : (some (decide (y8 ≥ 0)) : Option ((Bool))) = some _ := hm
  replace hq := someE hq
  subst hq
  refine eX_ret (vs := [.bool (decide (y8 ≥ 0))]) [.tmp 4] (by rfl) ⟨by (show lkE _ _ _ = _); kernel_rfl, trivial⟩ ?_
  exact ⟨rfl, hB⟩

set_option maxRecDepth 100000 in
/-- impl.gain -/
theorem c_impl_gain {w0 : World} {l0 : List (Int × Int)} {A0 : Option Addr} {cap0 : Nat} {fp0 : List Nat} {p1_0 : Int} {p1_1 : Int} {r : (Int)} (hm : m_impl_gain l0 p1_0 p1_1 = some r) (F0 : Sl 2 encII w0 fp0 A0 l0) (K0 : (l0).length ≤ cap0) :
    Calls Try.prog 100 #[.slice A0 (l0).length cap0, .agg #[.int .i64 (p1_0), .int .i64 (p1_1)]] w0 fun e w' => e = .returned (.int .i64 (r)) ∧ Chg [] w0 w' := by
  have L0 := F0.low
  have hB : Chg [] w0 w0 := Chg.refl _ _
  have hZ := Nat.le_refl w0.heap.size
  unfold m_impl_gain at hm
  refine enterE (N := 29) Try.func100 (by rfl) Try.ntmps100 (by simp) [(0, .slice A0 (l0).length cap0), (1, .agg #[.int .i64 (p1_0), .int .i64 (p1_1)])] (by rfl) (by kernel_rfl) (fun a => ?_)
  refine cW_seq ?_
  refine cW_region ?_
  refine wS_box (d := 3) (T := 34) (x := .agg #[.int .i64 (p1_0), .int .i64 (p1_1)]) (by kernel_rfl) ?_
  intro b2 w3 G4 F5 hc6
  replace F5 : Cl w3 b2 34 [.int .i64 (p1_0), .int .i64 (p1_1)] := F5
  replace F0 := F0.chg hc6 Dj.nil
  replace hB := hB.inS hc6 inNil
  replace G4 := Nat.le_trans hZ G4
  replace hZ := Nat.le_trans hZ hc6.size
  refine wS_pure 1 [(4, .int .i64 (0))] (by kernel_rfl) ?_
  refine wS_end (by rfl) ?_
  refine eX_then ?_
  refine cW_seq ?_
  refine cW_seq ?_
  refine cW_region ?_
  refine wS_pure 1 [(9, .slice A0 (l0).length cap0)] (by kernel_rfl) ?_
  refine wS_loadA (d := 10) (T := 34) (ad := ⟨b2, 0, none⟩) (vs := [.int .i64 (p1_0), .int .i64 (p1_1)]) (by kernel_rfl) vt34 (fun i u hu => box_cells F5 0 hu (by rfl)) ?_
  obtain ⟨y8, hy9, hm⟩ := bindE hm
  refine wS_calls (d := 11) (f := 131) (vs := [.slice A0 (l0).length cap0, .agg #[.int .i64 (p1_0), .int .i64 (p1_1)]]) (by kernel_rfl) ent131 (c_slices_Contains_impl_Point_impl_Point hy9 F0) ?_
  rintro _ w10 ⟨rfl, hc11⟩
  replace F0 := F0.chg hc11 Dj.nil
  replace F5 := F5.chg hc11 notNil
  replace hB := hB.inS hc11 inNil
  replace hZ := Nat.le_trans hZ hc11.size
  refine ⟨.bool (y8), rfl, ?_⟩
  refine wS_end (by rfl) ?_
  refine eX_then ?_
  refine cW_cond (t := y8) (by kernel_rfl) (fun hb12 => ?_) (fun hb12 => ?_)
  · have hm := condT hb12 hm
    refine cW_seq ?_
    refine cW_region ?_
    refine wS_pure 1 [(4, .int .i64 (0))] (by kernel_rfl) ?_
    refine wS_end (by rfl) ?_
    refine eX_then ?_
    refine cW_ret ?_
    refine eX_then_ret ?_
    have hq : (some 0 : Option ((Int))) = some _ := hm
    replace hq := someE hq
    subst hq
    refine eX_ret (vs := [.int .i64 (0)]) [.tmp 4] (by rfl) ⟨by (show lkE _ _ _ = _); kernel_rfl, trivial⟩ ?_
    exact ⟨rfl, hB⟩
  · have hm := condF hb12 hm
    refine cW_skip ?_
    refine eX_then ?_
    refine cW_seq ?_
    refine cW_region ?_
    refine wS_pure 1 [(13, .slice A0 (l0).length cap0)] (by kernel_rfl) ?_
    obtain ⟨y13, hy14, hm⟩ := bindE hm
    refine wS_calls (d := 14) (f := 106) (vs := [.slice A0 (l0).length cap0]) (by kernel_rfl) ent106 (c_impl_spanning hy14 F0) ?_
    rintro _ w15 ⟨A17, cap18, fp19, fr22, rfl, F20, G21, hc16⟩
    have D24 : Dj [b2] (fp19 ++ fr22) := Dj.of (lt1 F5.lt) G21
    replace F0 := F0.chg hc16 Dj.nil
    replace F5 := F5.chg hc16 notNil
    replace hB := hB.inS hc16 inNil
    replace G21 := low_le hZ G21
    replace hZ := Nat.le_trans hZ hc16.size
    refine ⟨.tuple #[.slice A17 (y13.1).length cap18, .int .i64 (y13.2)], rfl, ?_⟩
    refine wS_pure 5 [(6, .int .i64 (y13.2)), (5, .slice A17 (y13.1).length cap18), (16, .int .i64 (y13.2)), (15, .slice A17 (y13.1).length cap18), (12, .tuple #[.slice A17 (y13.1).length cap18, .int .i64 (y13.2)])] (by kernel_rfl) ?_
    refine wS_end (by rfl) ?_
    refine eX_then ?_
    refine cW_seq ?_
    obtain ⟨s198, hs199, hm⟩ := bindE hm
    refine cW_cut (fun a' w' => ∃ x196 : Int, x196 = s198 ∧ Fr 29 [(6, .int .i64 (y13.2)), (8, .int .i64 (x196))] a' ∧ Chg [] w0 w' ∧ w0.heap.size ≤ w'.heap.size) ?_ ?_
    · have hm := hs199
      refine cW_drawnTail [] 10 (by kernel_rfl) (by kernel_rfl) (fun w200 hc201 => ?_)
      replace F0 := F0.chg hc201 Dj.nil
      replace F5 := F5.chg hc201 notNil
      replace F20 := F20.chg hc201 Dj.nil
      replace hB := hB.inS hc201 inNil
      replace hZ := Nat.le_trans hZ hc201.size
      have hS := Chg.refl [] w200
      have Z202 := F0
      have Z203 := F5
      have Z204 := F20
      refine wH_take [0] [0] [(18, .slice A0 (l0).length cap0)] (by kernel_rfl) (qT (qT (qT qZ))) (by kernel_rfl) ?_
      refine wH_loadA (i := 2) (d := 20) (T := 34) (ad := ⟨b2, 0, none⟩) (vs := [.int .i64 (p1_0), .int .i64 (p1_1)]) (by kernel_rfl) (qT (qT (qT qZ))) (by kernel_rfl) (by kernel_rfl) vt34 (fun W hW i u hu => box_cells (Z203.chg hW notNil) 0 hu (by rfl)) ?_
      refine wH_all [1, 3] (by rfl) (by kernel_rfl) (by simp) ⟨⟨by kernel_rfl, ?_⟩, ⟨by kernel_rfl, ?_⟩, trivial⟩
      · skip
        refine wS_calls (d := 19) (f := 132) (vs := [.slice A0 (l0).length cap0]) (by kernel_rfl) ent132 (c_slices_Clip_impl_Point_impl_Point (w0 := w200) (A0 := A0) K0) ?_
        rintro _ w205 ⟨rfl, hc206⟩
        replace F0 := F0.chg hc206 Dj.nil
        replace F5 := F5.chg hc206 notNil
        replace F20 := F20.chg hc206 Dj.nil
        replace hB := hB.inS hc206 inNil
        have hSz := hS
        replace hS := hS.inS hc206 inNil
        replace hZ := Nat.le_trans hZ hc206.size
        have F207 := F0
        refine ⟨.slice A0 (l0).length (l0).length, rfl, ?_⟩
        refine wS_end (by kernel_rfl) ?_
        refine eX_KH hS ?_
        refine wH_all [3] (by rfl) (by kernel_rfl) (by simp) ⟨⟨by kernel_rfl, ?_⟩, trivial⟩
        refine wS_bs (enc := encII) ([(p1_0, p1_1)] : List (Int × Int)) [.int .i64 (p1_0), .int .i64 (p1_1)] (d := 21) (t := 25) (T := 34) (n := 1) (ps := [(0, .agg #[.int .i64 (p1_0), .int .i64 (p1_1)])]) (by kernel_rfl) el25 encII_ok (by rfl) (by omega) (by omega) (by kernel_rfl) (by rfl) ?_
        intro b209 w210 G211 F212 hc213
        have D215 : Dj [b2] [b209] := Dj.of (lt1 F5.lt) (low1 G211)
        have D216 : Dj (fp19 ++ fr22) [b209] := Dj.of F20.low (low1 G211)
        replace F0 := F0.chg hc213 Dj.nil
        replace F5 := F5.chg hc213 notNil
        replace F20 := F20.chg hc213 Dj.nil
        replace F207 := F207.chg hc213 Dj.nil
        replace hB := hB.inS hc213 inNil
        have hSz := hS
        replace hS := hS.inS hc213 inNil
        have Gz217 := low1 (Nat.le_trans hSz.size G211)
        replace G211 := Nat.le_trans hZ G211
        replace G211 := low1 G211
        replace hZ := Nat.le_trans hZ hc213.size
        refine wS_end (by kernel_rfl) ?_
        refine eX_KH hS ?_
        refine wH_all [4] (by rfl) (by kernel_rfl) (by simp) ⟨⟨by kernel_rfl, ?_⟩, trivial⟩
        obtain ⟨_, hk218, hm⟩ := bindE hm
        replace hk218 := apE hk218
        refine wS_appendFull (enc := encII) (l := (l0 : List (Int × Int))) (l2 := (([(p1_0, p1_1)] : List (Int × Int)) : List (Int × Int))) (d := 22) (t := 25) (T := 34) (A := A0) (A2 := (some ⟨b209, 0, none⟩)) (cap := (l0).length) (cap2 := 1) (by kernel_rfl) el25 encII_ok F207 rfl (F212.sl encII_ok) (by simp) hk218 ?_
        intro w219 fp220 A221 cap222 F223 hc224 G225
        have D227 : Dj [b2] fp220 := Dj.of (lt1 F5.lt) G225
        have D228 : Dj (fp19 ++ fr22) fp220 := Dj.of F20.low G225
        have D229 : Dj [b209] fp220 := Dj.of F212.low G225
        replace F0 := F0.chg hc224 Dj.nil
        replace F5 := F5.chg hc224 notNil
        replace F20 := F20.chg hc224 Dj.nil
        replace F207 := F207.chg hc224 Dj.nil
        replace F212 := F212.chg hc224 Dj.nil
        replace hB := hB.inS hc224 inNil
        have hSz := hS
        replace hS := hS.inS hc224 inNil
        replace G225 := low_le hZ G225
        replace hZ := Nat.le_trans hZ hc224.size
        refine wS_end (by kernel_rfl) ?_
        refine eX_KH hS ?_
        refine wH_all [5] (by rfl) (by kernel_rfl) (by simp) ⟨⟨by kernel_rfl, ?_⟩, trivial⟩
        obtain ⟨y230, hy231, hm⟩ := bindE hm
        refine wS_calls (d := 23) (f := 106) (vs := [.slice A221 (l0 ++ (([(p1_0, p1_1)] : List (Int × Int)))).length cap222]) (by kernel_rfl) ent106 (c_impl_spanning hy231 (F223.sl encII_ok)) ?_
        rintro _ w232 ⟨A234, cap235, fp236, fr239, rfl, F237, G238, hc233⟩
        have D241 : Dj [b2] (fp236 ++ fr239) := Dj.of (lt1 F5.lt) G238
        have D242 : Dj (fp19 ++ fr22) (fp236 ++ fr239) := Dj.of F20.low G238
        have D243 : Dj [b209] (fp236 ++ fr239) := Dj.of F212.low G238
        have D244 : Dj fp220 (fp236 ++ fr239) := Dj.of F223.low G238
        replace F0 := F0.chg hc233 Dj.nil
        replace F5 := F5.chg hc233 notNil
        replace F20 := F20.chg hc233 Dj.nil
        replace F207 := F207.chg hc233 Dj.nil
        replace F212 := F212.chg hc233 Dj.nil
        replace F223 := F223.chg hc233 Dj.nil
        replace hB := hB.inS hc233 inNil
        have hSz := hS
        replace hS := hS.inS hc233 inNil
        replace G238 := low_le hZ G238
        replace hZ := Nat.le_trans hZ hc233.size
        refine ⟨.tuple #[.slice A234 (y230.1).length cap235, .int .i64 (y230.2)], rfl, ?_⟩
        refine wS_end (by kernel_rfl) ?_
        refine eX_KH hS ?_
        refine wH_take [6, 7, 8, 9] [9, 8, 7, 6, 5, 4, 3, 1, 2, 0] [(7, .slice A234 (y230.1).length cap235), (25, .int .i64 (y230.2)), (24, .slice A234 (y230.1).length cap235), (17, .tuple #[.slice A234 (y230.1).length cap235, .int .i64 (y230.2)])] (by kernel_rfl) (qT (qT (qT qZ))) (by kernel_rfl) ?_
        refine wH_done (by kernel_rfl) ?_
        refine eX_tail ?_
        refine wS_pure 1 [(8, .int .i64 (y230.2))] (by kernel_rfl) ?_
        refine wS_end (by rfl) ?_
        have hq : (some y230.2 : Option (Int)) = some _ := hm
        replace hq := someE hq
        subst hq
        exact eX_J (fun hst => ⟨y230.2, rfl, Fr.of hst (by kernel_rfl), hB, hZ⟩)
      · skip
        refine wS_bs (enc := encII) ([(p1_0, p1_1)] : List (Int × Int)) [.int .i64 (p1_0), .int .i64 (p1_1)] (d := 21) (t := 25) (T := 34) (n := 1) (ps := [(0, .agg #[.int .i64 (p1_0), .int .i64 (p1_1)])]) (by kernel_rfl) el25 encII_ok (by rfl) (by omega) (by omega) (by kernel_rfl) (by rfl) ?_
        intro b245 w246 G247 F248 hc249
        have D251 : Dj [b2] [b245] := Dj.of (lt1 F5.lt) (low1 G247)
        have D252 : Dj (fp19 ++ fr22) [b245] := Dj.of F20.low (low1 G247)
        replace F0 := F0.chg hc249 Dj.nil
        replace F5 := F5.chg hc249 notNil
        replace F20 := F20.chg hc249 Dj.nil
        replace hB := hB.inS hc249 inNil
        have hSz := hS
        replace hS := hS.inS hc249 inNil
        have Gz253 := low1 (Nat.le_trans hSz.size G247)
        replace G247 := Nat.le_trans hZ G247
        replace G247 := low1 G247
        replace hZ := Nat.le_trans hZ hc249.size
        refine wS_end (by kernel_rfl) ?_
        refine eX_KH hS ?_
        refine wH_all [1] (by rfl) (by kernel_rfl) (by simp) ⟨⟨by kernel_rfl, ?_⟩, trivial⟩
        refine wS_calls (d := 19) (f := 132) (vs := [.slice A0 (l0).length cap0]) (by kernel_rfl) ent132 (c_slices_Clip_impl_Point_impl_Point (w0 := w246) (A0 := A0) K0) ?_
        rintro _ w254 ⟨rfl, hc255⟩
        replace F0 := F0.chg hc255 Dj.nil
        replace F5 := F5.chg hc255 notNil
        replace F20 := F20.chg hc255 Dj.nil
        replace F248 := F248.chg hc255 Dj.nil
        replace hB := hB.inS hc255 inNil
        have hSz := hS
        replace hS := hS.inS hc255 inNil
        replace hZ := Nat.le_trans hZ hc255.size
        have F256 := F0
        refine ⟨.slice A0 (l0).length (l0).length, rfl, ?_⟩
        refine wS_end (by kernel_rfl) ?_
        refine eX_KH hS ?_
        refine wH_all [4] (by rfl) (by kernel_rfl) (by simp) ⟨⟨by kernel_rfl, ?_⟩, trivial⟩
        obtain ⟨_, hk258, hm⟩ := bindE hm
        replace hk258 := apE hk258
        refine wS_appendFull (enc := encII) (l := (l0 : List (Int × Int))) (l2 := (([(p1_0, p1_1)] : List (Int × Int)) : List (Int × Int))) (d := 22) (t := 25) (T := 34) (A := A0) (A2 := (some ⟨b245, 0, none⟩)) (cap := (l0).length) (cap2 := 1) (by kernel_rfl) el25 encII_ok F256 rfl (F248.sl encII_ok) (by simp) hk258 ?_
        intro w259 fp260 A261 cap262 F263 hc264 G265
        have D267 : Dj [b2] fp260 := Dj.of (lt1 F5.lt) G265
        have D268 : Dj (fp19 ++ fr22) fp260 := Dj.of F20.low G265
        have D269 : Dj [b245] fp260 := Dj.of F248.low G265
        replace F0 := F0.chg hc264 Dj.nil
        replace F5 := F5.chg hc264 notNil
        replace F20 := F20.chg hc264 Dj.nil
        replace F248 := F248.chg hc264 Dj.nil
        replace F256 := F256.chg hc264 Dj.nil
        replace hB := hB.inS hc264 inNil
        have hSz := hS
        replace hS := hS.inS hc264 inNil
        replace G265 := low_le hZ G265
        replace hZ := Nat.le_trans hZ hc264.size
        refine wS_end (by kernel_rfl) ?_
        refine eX_KH hS ?_
        refine wH_all [5] (by rfl) (by kernel_rfl) (by simp) ⟨⟨by kernel_rfl, ?_⟩, trivial⟩
        obtain ⟨y270, hy271, hm⟩ := bindE hm
        refine wS_calls (d := 23) (f := 106) (vs := [.slice A261 (l0 ++ (([(p1_0, p1_1)] : List (Int × Int)))).length cap262]) (by kernel_rfl) ent106 (c_impl_spanning hy271 (F263.sl encII_ok)) ?_
        rintro _ w272 ⟨A274, cap275, fp276, fr279, rfl, F277, G278, hc273⟩
        have D281 : Dj [b2] (fp276 ++ fr279) := Dj.of (lt1 F5.lt) G278
        have D282 : Dj (fp19 ++ fr22) (fp276 ++ fr279) := Dj.of F20.low G278
        have D283 : Dj [b245] (fp276 ++ fr279) := Dj.of F248.low G278
        have D284 : Dj fp260 (fp276 ++ fr279) := Dj.of F263.low G278
        replace F0 := F0.chg hc273 Dj.nil
        replace F5 := F5.chg hc273 notNil
        replace F20 := F20.chg hc273 Dj.nil
        replace F248 := F248.chg hc273 Dj.nil
        replace F256 := F256.chg hc273 Dj.nil
        replace F263 := F263.chg hc273 Dj.nil
        replace hB := hB.inS hc273 inNil
        have hSz := hS
        replace hS := hS.inS hc273 inNil
        replace G278 := low_le hZ G278
        replace hZ := Nat.le_trans hZ hc273.size
        refine ⟨.tuple #[.slice A274 (y270.1).length cap275, .int .i64 (y270.2)], rfl, ?_⟩
        refine wS_end (by kernel_rfl) ?_
        refine eX_KH hS ?_
        refine wH_take [6, 7, 8, 9] [9, 8, 7, 6, 5, 4, 1, 3, 2, 0] [(7, .slice A274 (y270.1).length cap275), (25, .int .i64 (y270.2)), (24, .slice A274 (y270.1).length cap275), (17, .tuple #[.slice A274 (y270.1).length cap275, .int .i64 (y270.2)])] (by kernel_rfl) (qT (qT (qT qZ))) (by kernel_rfl) ?_
        refine wH_done (by kernel_rfl) ?_
        refine eX_tail ?_
        refine wS_pure 1 [(8, .int .i64 (y270.2))] (by kernel_rfl) ?_
        refine wS_end (by rfl) ?_
        have hq : (some y270.2 : Option (Int)) = some _ := hm
        replace hq := someE hq
        subst hq
        exact eX_J (fun hst => ⟨y270.2, rfl, Fr.of hst (by kernel_rfl), hB, hZ⟩)
    · rintro a' w195 ⟨x196, hJ, hF197, hB, hZ⟩
      subst hJ
      refine Fr.goX hF197 (by kernel_rfl) ?_
      refine eX_then ?_
      refine cW_seq ?_
      refine cW_region ?_
      refine wS_pure 4 [(4, .int .i64 (wr (y13.2 - x196))), (28, .int .i64 (wr (y13.2 - x196))), (27, .int .i64 (x196)), (26, .int .i64 (y13.2))] (by kernel_rfl) ?_
      refine wS_end (by rfl) ?_
      refine eX_then ?_
      refine cW_ret ?_
      have hq : (some (wr (y13.2 - x196)) : Option ((Int))) = some _ := hm
      replace hq := someE hq
      subst hq
      refine eX_ret (vs := [.int .i64 (wr (y13.2 - x196))]) [.tmp 4] (by rfl) ⟨by (show lkE _ _ _ = _); kernel_rfl, trivial⟩ ?_
      exact ⟨rfl, hB⟩

set_option maxRecDepth 100000 in
/-- impl.GainOf -/
theorem c_impl_GainOf {w0 : World} {l0 : List (Int × Int)} {A0 : Option Addr} {cap0 : Nat} {fp0 : List Nat} {p1_0 : Int} {p1_1 : Int} {r : (Int) × (Bool)} (hm : m_impl_GainOf l0 p1_0 p1_1 = some r) (F0 : Sl 2 encII w0 fp0 A0 l0) (K0 : (l0).length ≤ cap0) :
    Calls Try.prog 49 #[.slice A0 (l0).length cap0, .agg #[.int .i64 (p1_0), .int .i64 (p1_1)]] w0 fun e w' => e = .returned (.tuple #[.int .i64 (r.1), .bool (r.2)]) ∧ Chg [] w0 w' := by
  have L0 := F0.low
  have hB : Chg [] w0 w0 := Chg.refl _ _
  have hZ := Nat.le_refl w0.heap.size
  unfold m_impl_GainOf at hm
  refine enterE (N := 17) Try.func49 (by rfl) Try.ntmps49 (by simp) [(0, .slice A0 (l0).length cap0), (1, .agg #[.int .i64 (p1_0), .int .i64 (p1_1)])] (by rfl) (by kernel_rfl) (fun a => ?_)
  refine cW_seq ?_
  refine cW_region ?_
  refine wS_box (d := 3) (T := 34) (x := .agg #[.int .i64 (p1_0), .int .i64 (p1_1)]) (by kernel_rfl) ?_
  intro b2 w3 G4 F5 hc6
  replace F5 : Cl w3 b2 34 [.int .i64 (p1_0), .int .i64 (p1_1)] := F5
  replace F0 := F0.chg hc6 Dj.nil
  replace hB := hB.inS hc6 inNil
  replace G4 := Nat.le_trans hZ G4
  replace hZ := Nat.le_trans hZ hc6.size
  refine wS_pure 2 [(5, .bool (false)), (4, .int .i64 (0))] (by kernel_rfl) ?_
  refine wS_end (by rfl) ?_
  refine eX_then ?_
  refine cW_seq ?_
  refine cW_seq ?_
  refine cW_region ?_
  refine wS_pure 1 [(6, .slice A0 (l0).length cap0)] (by kernel_rfl) ?_
  obtain ⟨y8, hy9, hm⟩ := bindE hm
  refine wS_calls (d := 7) (f := 88) (vs := [.slice A0 (l0).length cap0, .int .i64 (19)]) (by kernel_rfl) ent88 (c_impl_pinsOk hy9 F0) ?_
  rintro _ w10 ⟨rfl, hc11⟩
  replace F0 := F0.chg hc11 Dj.nil
  replace F5 := F5.chg hc11 notNil
  replace hB := hB.inS hc11 inNil
  replace hZ := Nat.le_trans hZ hc11.size
  refine ⟨.bool (y8), rfl, ?_⟩
  refine wS_pure 2 [(9, .bool (!y8)), (8, .bool (!y8))] (by kernel_rfl) ?_
  refine wS_bool (!y8) (fun hb12 => ?_) (fun hb12 => ?_)
  · have hm := condT hb12 hm
    rewrite [hb12]
    refine wS_pure 4 [(13, .bool (true)), (12, undef), (11, undef), (10, undef)] (by kernel_rfl) ?_
    refine wS_end (by rfl) ?_
    refine eX_then ?_
    refine cW_cond_t (by kernel_rfl) ?_
    refine cW_seq ?_
    refine cW_region ?_
    refine wS_pure 2 [(5, .bool (false)), (4, .int .i64 (0))] (by kernel_rfl) ?_
    refine wS_end (by rfl) ?_
    refine eX_then ?_
    refine cW_ret ?_
    refine eX_then_ret ?_
    have hq : (some ((0, false)) : Option ((Int) × (Bool))) = some _ := hm
    replace hq := someE hq
    subst hq
    refine eX_ret (vs := [.int .i64 (0), .bool (false)]) [.tmp 4, .tmp 5] (by rfl) ⟨by (show lkE _ _ _ = _); kernel_rfl, ⟨by (show lkE _ _ _ = _); kernel_rfl, trivial⟩⟩ ?_
    exact ⟨rfl, hB⟩
  · have hm := condF hb12 hm
    rewrite [hb12]
    refine wS_loadA (d := 10) (T := 34) (ad := ⟨b2, 0, none⟩) (vs := [.int .i64 (p1_0), .int .i64 (p1_1)]) (by kernel_rfl) vt34 (fun i u hu => box_cells F5 0 hu (by rfl)) ?_
    obtain ⟨y13, hy14, hm⟩ := bindE hm
    refine wS_calls (d := 11) (f := 79) (vs := [.agg #[.int .i64 (p1_0), .int .i64 (p1_1)]]) (by kernel_rfl) ent79 (c_impl_IsPoint hy14) ?_
    rintro _ w15 ⟨rfl, hc16⟩
    replace F0 := F0.chg hc16 Dj.nil
    replace F5 := F5.chg hc16 notNil
    replace hB := hB.inS hc16 inNil
    replace hZ := Nat.le_trans hZ hc16.size
    refine ⟨.bool (y13), rfl, ?_⟩
    refine wS_pure 2 [(13, .bool (!y13)), (12, .bool (!y13))] (by kernel_rfl) ?_
    refine wS_end (by rfl) ?_
    refine eX_then ?_
    refine cW_cond (t := !y13) (by kernel_rfl) (fun hb17 => ?_) (fun hb17 => ?_)
    · have hm := condT hb17 hm
      refine cW_seq ?_
      refine cW_region ?_
      refine wS_pure 2 [(5, .bool (false)), (4, .int .i64 (0))] (by kernel_rfl) ?_
      refine wS_end (by rfl) ?_
      refine eX_then ?_
      refine cW_ret ?_
      refine eX_then_ret ?_
      have hq : (some ((0, false)) : Option ((Int) × (Bool))) = some _ := hm
      replace hq := someE hq
      subst hq
      refine eX_ret (vs := [.int .i64 (0), .bool (false)]) [.tmp 4, .tmp 5] (by rfl) ⟨by (show lkE _ _ _ = _); kernel_rfl, ⟨by (show lkE _ _ _ = _); kernel_rfl, trivial⟩⟩ ?_
      exact ⟨rfl, hB⟩
    · have hm := condF hb17 hm
      refine cW_skip ?_
      refine eX_then ?_
      refine cW_seq ?_
      refine cW_region ?_
      refine wS_pure 1 [(14, .slice A0 (l0).length cap0)] (by kernel_rfl) ?_
      refine wS_loadA (d := 15) (T := 34) (ad := ⟨b2, 0, none⟩) (vs := [.int .i64 (p1_0), .int .i64 (p1_1)]) (by kernel_rfl) vt34 (fun i u hu => box_cells F5 0 hu (by rfl)) ?_
      obtain ⟨y18, hy19, hm⟩ := bindE hm
      refine wS_calls (d := 16) (f := 100) (vs := [.slice A0 (l0).length cap0, .agg #[.int .i64 (p1_0), .int .i64 (p1_1)]]) (by kernel_rfl) ent100 (c_impl_gain hy19 F0 K0) ?_
      rintro _ w20 ⟨rfl, hc21⟩
      replace F0 := F0.chg hc21 Dj.nil
      replace F5 := F5.chg hc21 notNil
      replace hB := hB.inS hc21 inNil
      replace hZ := Nat.le_trans hZ hc21.size
      refine ⟨.int .i64 (y18), rfl, ?_⟩
      refine wS_pure 2 [(5, .bool (true)), (4, .int .i64 (y18))] (by kernel_rfl) ?_
      refine wS_end (by rfl) ?_
      refine eX_then ?_
      refine cW_ret ?_
      have hq : (some ((y18, true)) : Option ((Int) × (Bool))) = some _ := hm
      replace hq := someE hq
      subst hq
      refine eX_ret (vs := [.int .i64 (y18), .bool (true)]) [.tmp 4, .tmp 5] (by rfl) ⟨by (show lkE _ _ _ = _); kernel_rfl, ⟨by (show lkE _ _ _ = _); kernel_rfl, trivial⟩⟩ ?_
      exact ⟨rfl, hB⟩

set_option maxRecDepth 100000 in
/-- laws.FnExactGainOf -/
theorem c_laws_FnExactGainOf {w0 : World} {l0 : List (Int × Int)} {A0 : Option Addr} {cap0 : Nat} {fp0 : List Nat} {p1_0 : Int} {p1_1 : Int} {r : (Bool)} (hm : m_laws_FnExactGainOf l0 p1_0 p1_1 = some r) (F0 : Sl 2 encII w0 fp0 A0 l0) :
    Calls Try.prog 12 #[.slice A0 (l0).length cap0, .agg #[.int .i64 (p1_0), .int .i64 (p1_1)]] w0 fun e w' => e = .returned (.bool (r)) ∧ Chg [] w0 w' := by
  have L0 := F0.low
  have hB : Chg [] w0 w0 := Chg.refl _ _
  have hZ := Nat.le_refl w0.heap.size
  unfold m_laws_FnExactGainOf at hm
  refine enterE (N := 46) Try.func12 (by rfl) Try.ntmps12 (by simp) [(0, .slice A0 (l0).length cap0), (1, .agg #[.int .i64 (p1_0), .int .i64 (p1_1)])] (by rfl) (by kernel_rfl) (fun a => ?_)
  refine cW_seq ?_
  refine cW_region ?_
  refine wS_box (d := 3) (T := 32) (x := .agg #[.int .i64 (p1_0), .int .i64 (p1_1)]) (by kernel_rfl) ?_
  intro b2 w3 G4 F5 hc6
  replace F5 : Cl w3 b2 32 [.int .i64 (p1_0), .int .i64 (p1_1)] := F5
  replace F0 := F0.chg hc6 Dj.nil
  replace hB := hB.inS hc6 inNil
  replace G4 := Nat.le_trans hZ G4
  replace hZ := Nat.le_trans hZ hc6.size
  refine wS_pure 1 [(4, .bool (false))] (by kernel_rfl) ?_
  refine wS_end (by rfl) ?_
  refine eX_then ?_
  refine cW_seq ?_
  refine cW_region ?_
  refine wS_pure 1 [(5, .int .i64 (1048576))] (by kernel_rfl) ?_
  refine wS_end (by rfl) ?_
  refine eX_then ?_
  refine cW_seq ?_
  refine cW_region ?_
  refine wS_pure 2 [(12, .int .i64 (1048576)), (11, .slice A0 (l0).length cap0)] (by kernel_rfl) ?_
  obtain ⟨y8, hy9, hm⟩ := bindE hm
  refine wS_calls (d := 13) (f := 20) (vs := [.slice A0 (l0).length cap0, .int .i64 (1048576)]) (by kernel_rfl) ent20 (c_laws_szPointS hy9 F0) ?_
  rintro _ w10 ⟨rfl, hc11⟩
  replace F0 := F0.chg hc11 Dj.nil
  replace F5 := F5.chg hc11 notNil
  replace hB := hB.inS hc11 inNil
  replace hZ := Nat.le_trans hZ hc11.size
  refine ⟨.int .i64 (y8), rfl, ?_⟩
  refine wS_pure 1 [(5, .int .i64 (y8))] (by kernel_rfl) ?_
  refine wS_end (by rfl) ?_
  refine eX_then ?_
  refine cW_seq ?_
  refine cW_seq ?_
  refine cW_region ?_
  refine wS_pure 2 [(15, .bool (decide (y8 < 0))), (14, .int .i64 (y8))] (by kernel_rfl) ?_
  refine wS_end (by rfl) ?_
  refine eX_then ?_
  refine cW_cond (t := decide (y8 < 0)) (by kernel_rfl) (fun hb12 => ?_) (fun hb12 => ?_)
  · have hm := condT hb12 hm
    refine cW_seq ?_
    refine cW_region ?_
    refine wS_pure 1 [(4, .bool (true))] (by kernel_rfl) ?_
    refine wS_end (by rfl) ?_
    refine eX_then ?_
    refine cW_ret ?_
    refine eX_then_ret ?_
    have hq : (some true : Option ((Bool))) = some _ := hm
    replace hq := someE hq
    subst hq
    refine eX_ret (vs := [.bool (true)]) [.tmp 4] (by rfl) ⟨by (show lkE _ _ _ = _); kernel_rfl, trivial⟩ ?_
    exact ⟨rfl, hB⟩
  · have hm := condF hb12 hm
    refine cW_skip ?_
    refine eX_then ?_
    refine cW_seq ?_
    refine cW_drawnTail [] 9 (by kernel_rfl) (by kernel_rfl) (fun w37 hc38 => ?_)
    replace F0 := F0.chg hc38 Dj.nil
    replace F5 := F5.chg hc38 notNil
    replace hB := hB.inS hc38 inNil
    replace hZ := Nat.le_trans hZ hc38.size
    have hS := Chg.refl [] w37
    have Z39 := F0
    have Z40 := F5
    refine wH_take [0] [0] [(17, .slice A0 (l0).length cap0)] (by kernel_rfl) (qT (qT qZ)) (by kernel_rfl) ?_
    refine wH_loadA (i := 2) (d := 19) (T := 32) (ad := ⟨b2, 0, none⟩) (vs := [.int .i64 (p1_0), .int .i64 (p1_1)]) (by kernel_rfl) (qT (qT qZ)) (by kernel_rfl) (by kernel_rfl) vt32 (fun W hW i u hu => box_cells (Z40.chg hW notNil) 0 hu (by rfl)) ?_
    refine wH_all [1] (by rfl) (by kernel_rfl) (by simp) ⟨⟨by kernel_rfl, ?_⟩, trivial⟩
    obtain ⟨y41, hy42, hm⟩ := bindE hm
    refine wS_calls (d := 18) (f := 22) (vs := [.slice A0 (l0).length cap0]) (by kernel_rfl) ent22 (c_laws_toPointS hy42 F0) ?_
    rintro _ w43 ⟨A45, cap46, fp47, rfl, F48, G49, hc44⟩
    have D52 : Dj [b2] fp47 := Dj.of (lt1 F5.lt) G49
    replace F0 := F0.chg hc44 Dj.nil
    replace F5 := F5.chg hc44 notNil
    replace hB := hB.inS hc44 inNil
    have hSz := hS
    replace hS := hS.inS hc44 inNil
    replace G49 := low_le hZ G49
    replace hZ := Nat.le_trans hZ hc44.size
    refine ⟨.slice A45 (y41).length cap46, rfl, ?_⟩
    refine wS_end (by kernel_rfl) ?_
    refine eX_KH hS ?_
    refine wH_all [3] (by rfl) (by kernel_rfl) (by simp) ⟨⟨by kernel_rfl, ?_⟩, trivial⟩
    obtain ⟨y53, hy54, hm⟩ := bindE hm
    refine wS_calls (d := 20) (f := 28) (vs := [.agg #[.int .i64 (p1_0), .int .i64 (p1_1)]]) (by kernel_rfl) ent28 (c_laws_toPoint hy54) ?_
    rintro _ w55 ⟨rfl, hc56⟩
    replace F0 := F0.chg hc56 Dj.nil
    replace F5 := F5.chg hc56 notNil
    replace F48 := F48.chg hc56 Dj.nil
    replace hB := hB.inS hc56 inNil
    have hSz := hS
    replace hS := hS.inS hc56 inNil
    replace hZ := Nat.le_trans hZ hc56.size
    refine ⟨.agg #[.int .i64 (y53.1), .int .i64 (y53.2)], rfl, ?_⟩
    refine wS_end (by kernel_rfl) ?_
    refine eX_KH hS ?_
    refine wH_all [4] (by rfl) (by kernel_rfl) (by simp) ⟨⟨by kernel_rfl, ?_⟩, trivial⟩
    obtain ⟨y57, hy58, hm⟩ := bindE hm
    refine wS_calls (d := 21) (f := 48) (vs := [.slice A45 (y41).length cap46, .agg #[.int .i64 (y53.1), .int .i64 (y53.2)]]) (by kernel_rfl) ent48 (c_spec_GainOf hy58 (F48.sl encII_ok) F48.cap_le) ?_
    rintro _ w59 ⟨rfl, hc60⟩
    replace F0 := F0.chg hc60 Dj.nil
    replace F5 := F5.chg hc60 notNil
    replace F48 := F48.chg hc60 Dj.nil
    replace hB := hB.inS hc60 inNil
    have hSz := hS
    replace hS := hS.inS hc60 inNil
    replace hZ := Nat.le_trans hZ hc60.size
    refine ⟨.tuple #[.int .i64 (y57.1), .bool (y57.2)], rfl, ?_⟩
    refine wS_end (by kernel_rfl) ?_
    refine eX_KH hS ?_
    refine wH_take [5, 6, 7, 8] [8, 7, 6, 5, 4, 3, 1, 2, 0] [(6, .int .i64 (y57.1)), (23, .bool (y57.2)), (22, .int .i64 (y57.1)), (16, .tuple #[.int .i64 (y57.1), .bool (y57.2)])] (by kernel_rfl) (qT (qT qZ)) (by kernel_rfl) ?_
    refine wH_done (by kernel_rfl) ?_
    refine eX_tail ?_
    refine wS_pure 1 [(7, .bool (y57.2))] (by kernel_rfl) ?_
    refine wS_end (by rfl) ?_
    refine eX_then ?_
    refine cW_seq ?_
    refine cW_region ?_
    refine wS_pure 1 [(24, .slice A0 (l0).length cap0)] (by kernel_rfl) ?_
    obtain ⟨y61, hy62, hm⟩ := bindE hm
    refine wS_calls (d := 25) (f := 22) (vs := [.slice A0 (l0).length cap0]) (by kernel_rfl) ent22 (c_laws_toPointS hy62 F0) ?_
    rintro _ w63 ⟨A65, cap66, fp67, rfl, F68, G69, hc64⟩
    have D72 : Dj [b2] fp67 := Dj.of (lt1 F5.lt) G69
    have D73 : Dj fp47 fp67 := Dj.of F48.low G69
    replace F0 := F0.chg hc64 Dj.nil
    replace F5 := F5.chg hc64 notNil
    replace F48 := F48.chg hc64 Dj.nil
    replace hB := hB.inS hc64 inNil
    replace G69 := low_le hZ G69
    replace hZ := Nat.le_trans hZ hc64.size
    refine ⟨.slice A65 (y61).length cap66, rfl, ?_⟩
    refine wS_pure 1 [(8, .slice A65 (y61).length cap66)] (by kernel_rfl) ?_
    refine wS_end (by rfl) ?_
    refine eX_then ?_
    refine cW_seq ?_
    refine cW_region ?_
    refine wS_pure 1 [(27, .slice A65 (y61).length cap66)] (by kernel_rfl) ?_
    refine wS_loadA (d := 28) (T := 32) (ad := ⟨b2, 0, none⟩) (vs := [.int .i64 (p1_0), .int .i64 (p1_1)]) (by kernel_rfl) vt32 (fun i u hu => box_cells F5 0 hu (by rfl)) ?_
    obtain ⟨y74, hy75, hm⟩ := bindE hm
    refine wS_calls (d := 29) (f := 28) (vs := [.agg #[.int .i64 (p1_0), .int .i64 (p1_1)]]) (by kernel_rfl) ent28 (c_laws_toPoint hy75) ?_
    rintro _ w76 ⟨rfl, hc77⟩
    replace F0 := F0.chg hc77 Dj.nil
    replace F5 := F5.chg hc77 notNil
    replace F48 := F48.chg hc77 Dj.nil
    replace F68 := F68.chg hc77 Dj.nil
    replace hB := hB.inS hc77 inNil
    replace hZ := Nat.le_trans hZ hc77.size
    refine ⟨.agg #[.int .i64 (y74.1), .int .i64 (y74.2)], rfl, ?_⟩
    obtain ⟨y78, hy79, hm⟩ := bindE hm
    refine wS_calls (d := 30) (f := 49) (vs := [.slice A65 (y61).length cap66, .agg #[.int .i64 (y74.1), .int .i64 (y74.2)]]) (by kernel_rfl) ent49 (c_impl_GainOf hy79 (F68.sl encII_ok) F68.cap_le) ?_
    rintro _ w80 ⟨rfl, hc81⟩
    replace F0 := F0.chg hc81 Dj.nil
    replace F5 := F5.chg hc81 notNil
    replace F48 := F48.chg hc81 Dj.nil
    replace F68 := F68.chg hc81 Dj.nil
    replace hB := hB.inS hc81 inNil
    replace hZ := Nat.le_trans hZ hc81.size
    refine ⟨.tuple #[.int .i64 (y78.1), .bool (y78.2)], rfl, ?_⟩
    refine wS_pure 5 [(10, .bool (y78.2)), (9, .int .i64 (y78.1)), (32, .bool (y78.2)), (31, .int .i64 (y78.1)), (26, .tuple #[.int .i64 (y78.1), .bool (y78.2)])] (by kernel_rfl) ?_
    refine wS_end (by rfl) ?_
    refine eX_then ?_
    refine cW_prune [(0, .slice A0 (l0).length cap0), (6, .int .i64 (y57.1)), (7, .bool (y57.2)), (8, .slice A65 (y61).length cap66), (9, .int .i64 (y78.1)), (10, .bool (y78.2))] (by kernel_rfl) (by kernel_rfl) (fun a82 => ?_)
    refine cW_seq ?_
    refine cW_seq ?_
    refine cW_region ?_
    refine wS_pure 4 [(36, .bool (y78.1 != y57.1)), (35, .bool (y78.1 != y57.1)), (34, .int .i64 (y57.1)), (33, .int .i64 (y78.1))] (by kernel_rfl) ?_
    refine wS_bool (y78.1 != y57.1) (fun hb83 => ?_) (fun hb83 => ?_)
    · have hm := condT hb83 hm
      rewrite [hb83]
      refine wS_pure 4 [(40, .bool (true)), (39, undef), (38, undef), (37, undef)] (by kernel_rfl) ?_
      refine wS_end (by rfl) ?_
      refine eX_then ?_
      refine cW_cond_t (by kernel_rfl) ?_
      refine cW_seq ?_
      refine cW_region ?_
      refine wS_pure 1 [(4, .bool (false))] (by kernel_rfl) ?_
      refine wS_end (by rfl) ?_
      refine eX_then ?_
      refine cW_ret ?_
      refine eX_then_ret ?_
      have hq : (some false : Option ((Bool))) = some _ := hm
      replace hq := someE hq
      subst hq
      refine eX_ret (vs := [.bool (false)]) [.tmp 4] (by rfl) ⟨by (show lkE _ _ _ = _); kernel_rfl, trivial⟩ ?_
      exact ⟨rfl, hB⟩
    · have hm := condF hb83 hm
      rewrite [hb83]
      refine wS_pure 4 [(40, .bool (!(y78.2 == y57.2))), (39, .bool (!(y78.2 == y57.2))), (38, .bool (y57.2)), (37, .bool (y78.2))] (by kernel_rfl) ?_
      refine wS_end (by rfl) ?_
      refine eX_then ?_
      refine cW_cond (t := !(y78.2 == y57.2)) (by kernel_rfl) (fun hb84 => ?_) (fun hb84 => ?_)
      · have hm := condT hb84 hm
        refine cW_seq ?_
        refine cW_region ?_
        refine wS_pure 1 [(4, .bool (false))] (by kernel_rfl) ?_
        refine wS_end (by rfl) ?_
        refine eX_then ?_
        refine cW_ret ?_
        refine eX_then_ret ?_
        have hq : (some false : Option ((Bool))) = some _ := hm
        replace hq := someE hq
        subst hq
        refine eX_ret (vs := [.bool (false)]) [.tmp 4] (by rfl) ⟨by (show lkE _ _ _ = _); kernel_rfl, trivial⟩ ?_
        exact ⟨rfl, hB⟩
      · have hm := condF hb84 hm
        refine cW_skip ?_
        refine eX_then ?_
        refine cW_seq ?_
        refine cW_seq ?_
        refine cW_region ?_
        refine wS_pure 2 [(42, .slice A0 (l0).length cap0), (41, .slice A65 (y61).length cap66)] (by kernel_rfl) ?_
        obtain ⟨y85, hy86, hm⟩ := bindE hm
        refine wS_calls (d := 43) (f := 22) (vs := [.slice A0 (l0).length cap0]) (by kernel_rfl) ent22 (c_laws_toPointS hy86 F0) ?_
        rintro _ w87 ⟨A89, cap90, fp91, rfl, F92, G93, hc88⟩
        have D96 : Dj [b2] fp91 := Dj.of (lt1 F5.lt) G93
        have D97 : Dj fp47 fp91 := Dj.of F48.low G93
        have D98 : Dj fp67 fp91 := Dj.of F68.low G93
        replace F0 := F0.chg hc88 Dj.nil
        replace F5 := F5.chg hc88 notNil
        replace F48 := F48.chg hc88 Dj.nil
        replace F68 := F68.chg hc88 Dj.nil
        replace hB := hB.inS hc88 inNil
        replace G93 := low_le hZ G93
        replace hZ := Nat.le_trans hZ hc88.size
        refine ⟨.slice A89 (y85).length cap90, rfl, ?_⟩
        obtain ⟨y99, hy100, hm⟩ := bindE hm
        refine wS_calls (d := 44) (f := 24) (vs := [.slice A65 (y61).length cap66, .slice A89 (y85).length cap90]) (by kernel_rfl) ent24 (c_laws_eqPointS hy100 (F68.sl encII_ok) (F92.sl encII_ok)) ?_
        rintro _ w101 ⟨rfl, hc102⟩
        replace F0 := F0.chg hc102 Dj.nil
        replace F5 := F5.chg hc102 notNil
        replace F48 := F48.chg hc102 Dj.nil
        replace F68 := F68.chg hc102 Dj.nil
        replace F92 := F92.chg hc102 Dj.nil
        replace hB := hB.inS hc102 inNil
        replace hZ := Nat.le_trans hZ hc102.size
        refine ⟨.bool (y99), rfl, ?_⟩
        refine wS_pure 1 [(45, .bool (!y99))] (by kernel_rfl) ?_
        refine wS_end (by rfl) ?_
        refine eX_then ?_
        refine cW_cond (t := !y99) (by kernel_rfl) (fun hb103 => ?_) (fun hb103 => ?_)
        · have hm := condT hb103 hm
          refine cW_seq ?_
          refine cW_region ?_
          refine wS_pure 1 [(4, .bool (false))] (by kernel_rfl) ?_
          refine wS_end (by rfl) ?_
          refine eX_then ?_
          refine cW_ret ?_
          refine eX_then_ret ?_
          have hq : (some false : Option ((Bool))) = some _ := hm
          replace hq := someE hq
          subst hq
          refine eX_ret (vs := [.bool (false)]) [.tmp 4] (by rfl) ⟨by (show lkE _ _ _ = _); kernel_rfl, trivial⟩ ?_
          exact ⟨rfl, hB⟩
        · have hm := condF hb103 hm
          refine cW_skip ?_
          refine eX_then ?_
          refine cW_seq ?_
          refine cW_region ?_
          refine wS_pure 1 [(4, .bool (true))] (by kernel_rfl) ?_
          refine wS_end (by rfl) ?_
          refine eX_then ?_
          refine cW_ret ?_
          have hq : (some true : Option ((Bool))) = some _ := hm
          replace hq := someE hq
          subst hq
          refine eX_ret (vs := [.bool (true)]) [.tmp 4] (by rfl) ⟨by (show lkE _ _ _ = _); kernel_rfl, trivial⟩ ?_
          exact ⟨rfl, hB⟩

set_option maxRecDepth 100000 in
/-- spec.OneByOne -/
theorem c_spec_OneByOne {w0 : World} {l0 : List (Int × Int)} {A0 : Option Addr} {cap0 : Nat} {fp0 : List Nat} {r : (List (Int × Int)) × (Int) × (Bool)} (hm : m_spec_OneByOne l0 = some r) (F0 : Sl 2 encII w0 fp0 A0 l0) (K0 : (l0).length ≤ cap0) :
    Calls Try.prog 66 #[.slice A0 (l0).length cap0] w0 fun e w' => ∃ A100 cap100 fp100, e = .returned (.tuple #[.slice A100 (r.1).length cap100, .int .i64 (r.2.1), .bool (r.2.2)]) ∧ Ow 2 encII 34 w' fp100 A100 cap100 r.1 ∧ (∀ x ∈ fp100, w0.heap.size ≤ x) ∧ Chg [] w0 w' := by
  have L0 := F0.low
  have hB : Chg [] w0 w0 := Chg.refl _ _
  have hZ := Nat.le_refl w0.heap.size
  unfold m_spec_OneByOne at hm
  refine enterE (N := 69) Try.func66 (by rfl) Try.ntmps66 (by simp) [(0, .slice A0 (l0).length cap0)] (by rfl) (by kernel_rfl) (fun a => ?_)
  refine cW_seq ?_
  refine cW_region ?_
  refine wS_pure 3 [(4, .bool (false)), (3, .int .i64 (0)), (2, .slice none 0 0)] (by kernel_rfl) ?_
  refine wS_end (by rfl) ?_
  refine eX_then ?_
  refine cW_seq ?_
  refine cW_seq ?_
  refine cW_region ?_
  refine wS_pure 1 [(13, .slice A0 (l0).length cap0)] (by kernel_rfl) ?_
  obtain ⟨y2, hy3, hm⟩ := bindE hm
  refine wS_calls (d := 14) (f := 86) (vs := [.slice A0 (l0).length cap0]) (by kernel_rfl) ent86 (c_spec_l05Few hy3 F0 K0) ?_
  rintro _ w4 ⟨rfl, hc5⟩
  replace F0 := F0.chg hc5 Dj.nil
  replace hB := hB.inS hc5 inNil
  replace hZ := Nat.le_trans hZ hc5.size
  refine ⟨.bool (y2), rfl, ?_⟩
  refine wS_pure 1 [(15, .bool (!y2))] (by kernel_rfl) ?_
  refine wS_end (by rfl) ?_
  refine eX_then ?_
  refine cW_cond (t := !y2) (by kernel_rfl) (fun hb6 => ?_) (fun hb6 => ?_)
  · have hm := condT hb6 hm
    refine cW_seq ?_
    refine cW_region ?_
    refine wS_pure 3 [(4, .bool (false)), (3, .int .i64 (0)), (2, .slice none 0 0)] (by kernel_rfl) ?_
    refine wS_end (by rfl) ?_
    refine eX_then ?_
    refine cW_ret ?_
    refine eX_then_ret ?_
    have hq : (some (([], 0, false)) : Option ((List (Int × Int)) × (Int) × (Bool))) = some _ := hm
    replace hq := someE hq
    subst hq
    refine eX_ret (vs := [.slice none 0 0, .int .i64 (0), .bool (false)]) [.tmp 2, .tmp 3, .tmp 4] (by rfl) ⟨by (show lkE _ _ _ = _); kernel_rfl, ⟨by (show lkE _ _ _ = _); kernel_rfl, ⟨by (show lkE _ _ _ = _); kernel_rfl, trivial⟩⟩⟩ ?_
    exact ⟨none, 0, [], rfl, Ow.nil _, lowNil, hB⟩
  · have hm := condF hb6 hm
    refine cW_skip ?_
    refine eX_then ?_
    refine cW_seq ?_
    refine cW_region ?_
    refine wS_pure 1 [(16, .slice A0 (l0).length cap0)] (by kernel_rfl) ?_
    obtain ⟨y7, hy8, hm⟩ := bindE hm
    refine wS_calls (d := 17) (f := 87) (vs := [.slice A0 (l0).length cap0]) (by kernel_rfl) ent87 (c_spec_l05Hanan hy8 F0) ?_
    rintro _ w9 ⟨A11, cap12, fp13, rfl, F14, G15, hc10⟩
    replace F0 := F0.chg hc10 Dj.nil
    replace hB := hB.inS hc10 inNil
    replace G15 := low_le hZ G15
    replace hZ := Nat.le_trans hZ hc10.size
    refine ⟨.slice A11 (y7).length cap12, rfl, ?_⟩
    refine wS_pure 1 [(5, .slice A11 (y7).length cap12)] (by kernel_rfl) ?_
    refine wS_end (by rfl) ?_
    refine eX_then ?_
    refine cW_seq ?_
    refine cW_region ?_
    refine wS_bs0 (α := Int × Int) (enc := encII) (d := 18) (t := 25) (T := 34) (by kernel_rfl) el25 ?_
    intro b18 w19 G20 F21 hc22
    have D24 : Dj fp13 [b18] := Dj.of F14.low (low1 G20)
    replace F0 := F0.chg hc22 Dj.nil
    replace F14 := F14.chg hc22 Dj.nil
    replace hB := hB.inS hc22 inNil
    replace G20 := Nat.le_trans hZ G20
    replace G20 := low1 G20
    replace hZ := Nat.le_trans hZ hc22.size
    refine wS_pure 1 [(19, .slice A0 (l0).length cap0)] (by kernel_rfl) ?_
    obtain ⟨_, hk25, hm⟩ := bindE hm
    replace hk25 := apE hk25
    refine wS_appendAny (enc := encII) (l := (([] : List (Int × Int)) : List (Int × Int))) (l2 := (l0 : List (Int × Int))) (d := 20) (t := 25) (T := 34) (A := (some ⟨b18, 0, none⟩)) (A2 := A0) (cap := 0) (cap2 := cap0) (by kernel_rfl) el25 encII_ok F21 F0 hk25 ?_
    intro w26 fp27 A28 cap29 F30 hc31 hp32
    have G34 := low_ap G20 hZ hp32
    have D35 : Dj fp13 fp27 := Dj.ap D24 F14.low hp32
    replace F0 := F0.chg hc31 (Dj.of L0 G20)
    replace F14 := F14.chg hc31 D24
    replace hB := hB.inS hc31 (inLow G20)
    replace hZ := Nat.le_trans hZ hc31.size
    refine wS_pure 1 [(6, .slice A28 ((([] : List (Int × Int))) ++ l0).length cap29)] (by kernel_rfl) ?_
    refine wS_end (by rfl) ?_
    refine eX_then ?_
    refine cW_seq ?_
    obtain ⟨r383, hr384, hm⟩ := bindE hm
    have hm385 := hm
    refine cW_cut (fun a' w' => ∃ l362 : List (Int × Int), ∃ A363 : Option Addr, ∃ cap364 : Nat, ∃ fp365 : List Nat, l362 = r383 ∧ Fr 69 [(0, .slice A0 (l0).length cap0), (6, .slice A363 (l362).length cap364)] a' ∧ Sl 2 encII w' fp0 A0 l0 ∧ Ow 2 encII 34 w' fp365 A363 cap364 l362 ∧ (∀ x ∈ fp365, w0.heap.size ≤ x) ∧ Chg [] w0 w' ∧ w0.heap.size ≤ w'.heap.size) ?_ ?_
    · refine cW_block ?_
      refine cW_loop _ (fun (s386 : (List (Int × Int))) a' w' => ∃ l372 : List (Int × Int), ∃ A373 : Option Addr, ∃ cap374 : Nat, ∃ fp375 : List Nat, l372 = s386 ∧ Fr 69 [(0, .slice A0 (l0).length cap0), (5, .slice A11 (y7).length cap12), (6, .slice A373 (l372).length cap374)] a' ∧ Sl 2 encII w' fp0 A0 l0 ∧ Ow 2 encII 34 w' fp13 A11 cap12 y7 ∧ Ow 2 encII 34 w' fp375 A373 cap374 l372 ∧ (∀ x ∈ fp375, w0.heap.size ≤ x) ∧ Dj fp13 fp375 ∧ Chg [] w0 w' ∧ w0.heap.size ≤ w'.heap.size) hr384 (fun hst => ⟨(([] : List (Int × Int))) ++ l0, A28, cap29, fp27, rfl, Fr.of hst (by kernel_rfl), F0, F14, F30, G34, D35, hB, hZ⟩) ?_
      rintro _ c387 a' w371 ⟨l372, A373, cap374, fp375, rfl, hF377, F378, F379, F380, G381, D382, hB, hZ⟩ hx388
      refine Fr.goOn hF377 (by kernel_rfl) ?_
      have hm := hx388
      unfold m_spec_OneByOne_s3 at hm
      refine cW_seq ?_
      refine cW_seq ?_
      refine cW_region ?_
      refine wS_pure 3 [(23, .bool (decide ((((l372).length : Int)) < 20))), (22, .int .i64 (((l372).length : Int))), (21, .slice A373 (l372).length cap374)] (by kernel_rfl) ?_
      refine wS_end (by rfl) ?_
      refine eX_then ?_
      refine cW_cond (t := decide ((((l372).length : Int)) < 20)) (by kernel_rfl) (fun hb389 => ?_) (fun hb389 => ?_)
      · have hm := condT hb389 hm
        refine cW_skip ?_
        refine eX_then ?_
        refine cW_block ?_
        refine cW_seq ?_
        refine cW_region ?_
        refine wS_pure 1 [(7, .int .i64 ((-1)))] (by kernel_rfl) ?_
        refine wS_end (by rfl) ?_
        refine eX_then ?_
        refine cW_seq ?_
        refine cW_region ?_
        refine wS_pure 1 [(8, .int .i64 (0))] (by kernel_rfl) ?_
        refine wS_end (by rfl) ?_
        refine eX_then ?_
        refine cW_seq ?_
        refine cW_seq ?_
        refine cW_region ?_
        refine wS_pure 1 [(9, .int .i64 (0))] (by kernel_rfl) ?_
        refine wS_end (by rfl) ?_
        refine eX_then ?_
        obtain ⟨r481, hr482, hm⟩ := bindE hm
        have hm483 := hm
        refine cW_cut (fun a' w' => ∃ x468 : Int, x468 = r481 ∧ Fr 69 [(0, .slice A0 (l0).length cap0), (5, .slice A11 (y7).length cap12), (6, .slice A373 (l372).length cap374), (7, .int .i64 (x468))] a' ∧ Sl 2 encII w' fp0 A0 l0 ∧ Ow 2 encII 34 w' fp13 A11 cap12 y7 ∧ Ow 2 encII 34 w' fp375 A373 cap374 l372 ∧ Chg [] w0 w' ∧ w0.heap.size ≤ w'.heap.size) ?_ ?_
        · refine cW_block ?_
          refine cW_loop _ (fun (s484 : Int × Int × Int) a' w' => ∃ x474 : Int, ∃ x475 : Int, ∃ x476 : Int, (x474, x475, x476) = s484 ∧ Fr 69 [(0, .slice A0 (l0).length cap0), (5, .slice A11 (y7).length cap12), (6, .slice A373 (l372).length cap374), (7, .int .i64 (x474)), (8, .int .i64 (x475)), (9, .int .i64 (x476))] a' ∧ Sl 2 encII w' fp0 A0 l0 ∧ Ow 2 encII 34 w' fp13 A11 cap12 y7 ∧ Ow 2 encII 34 w' fp375 A373 cap374 l372 ∧ Chg [] w0 w' ∧ w0.heap.size ≤ w'.heap.size) hr482 (fun hst => ⟨(-1), 0, 0, rfl, Fr.of hst (by kernel_rfl), F378, F379, F380, hB, hZ⟩) ?_
          rintro _ c485 a' w473 ⟨x474, x475, x476, rfl, hF477, F478, F479, F480, hB, hZ⟩ hx486
          refine Fr.goOn hF477 (by kernel_rfl) ?_
          have hm := hx486
          unfold m_spec_OneByOne_s4 at hm
          refine cW_seq ?_
          refine cW_seq ?_
          refine cW_region ?_
          refine wS_pure 4 [(27, .bool (decide (x476 < (((y7).length : Int))))), (26, .int .i64 (((y7).length : Int))), (25, .slice A11 (y7).length cap12), (24, .int .i64 (x476))] (by kernel_rfl) ?_
          refine wS_end (by rfl) ?_
          refine eX_then ?_
          refine cW_cond (t := decide (x476 < (((y7).length : Int)))) (by kernel_rfl) (fun hb487 => ?_) (fun hb487 => ?_)
          · have hm := condT hb487 hm
            refine cW_skip ?_
            refine eX_then ?_
            refine cW_seq ?_
            refine cW_block ?_
            refine cW_seq ?_
            refine cW_seq ?_
            refine cW_region ?_
            refine wS_pure 3 [(32, .int .i64 (x476)), (31, .slice A11 (y7).length cap12), (30, .slice A373 (l372).length cap374)] (by kernel_rfl) ?_
            obtain ⟨x488, hx489, hm⟩ := bindE hm
            refine wS_idx (d := 33) (T := 25) (A := A11) (n := (y7).length) (cap := cap12) (kd := .i64) (m := x476) (by kernel_rfl) sl25 ((F479.sl encII_ok).is hx489) ?_
            refine wS_loadA (d := 34) (T := 34) (ad := (elA A11 2 (x476) 0)) (vs := [.int .i64 (x488.1), .int .i64 (x488.2)]) (by kernel_rfl) vt34 (fun i u hu => Sl.cells_at (F479.sl encII_ok) hx489 0 hu (by rfl)) ?_
            obtain ⟨y490, hy491, hm⟩ := bindE hm
            refine wS_calls (d := 35) (f := 95) (vs := [.slice A373 (l372).length cap374, .agg #[.int .i64 (x488.1), .int .i64 (x488.2)]]) (by kernel_rfl) ent95 (c_spec_l01Index hy491 (F480.sl encII_ok)) ?_
            rintro _ w492 ⟨rfl, hc493⟩
            replace F478 := F478.chg hc493 Dj.nil
            replace F479 := F479.chg hc493 Dj.nil
            replace F480 := F480.chg hc493 Dj.nil
            replace hB := hB.inS hc493 inNil
            replace hZ := Nat.le_trans hZ hc493.size
            refine ⟨.int .i64 (y490), rfl, ?_⟩
            refine wS_pure 1 [(36, .bool (decide (y490 ≥ 0)))] (by kernel_rfl) ?_
            refine wS_end (by rfl) ?_
            refine eX_then ?_
            refine cW_cond (t := decide (y490 ≥ 0)) (by kernel_rfl) (fun hb494 => ?_) (fun hb494 => ?_)
            · have hm := condT hb494 hm
              refine cW_exit ?_
              refine eX_then_exit ?_
              refine eX_block_hit ?_
              refine eX_then ?_
              refine cW_region ?_
              refine wS_pure 3 [(9, .int .i64 (wr (x476 + 1))), (29, .int .i64 (wr (x476 + 1))), (28, .int .i64 (x476))] (by kernel_rfl) ?_
              refine wS_end (by rfl) ?_
              have hq : (some (Ctl.next ((x474, x475, wr (x476 + 1)))) : Option (Ctl (Int × Int × Int) (Int))) = some _ := hm
              replace hq := someE hq
              subst hq
              exact eX_next hx486 (fun hst => ⟨x474, x475, wr (x476 + 1), rfl, Fr.of hst (by kernel_rfl), F478, F479, F480, hB, hZ⟩)
            · have hm := condF hb494 hm
              refine cW_skip ?_
              refine eX_then ?_
              obtain ⟨s510, hs511, hm⟩ := bindE hm
              refine cW_cut (fun a' w' => ∃ x504 : Int, ∃ x505 : Int, (x504, x505) = s510 ∧ Fr 69 [(0, .slice A0 (l0).length cap0), (5, .slice A11 (y7).length cap12), (6, .slice A373 (l372).length cap374), (7, .int .i64 (x504)), (8, .int .i64 (x505)), (9, .int .i64 (x476))] a' ∧ Sl 2 encII w' fp0 A0 l0 ∧ Ow 2 encII 34 w' fp13 A11 cap12 y7 ∧ Ow 2 encII 34 w' fp375 A373 cap374 l372 ∧ Chg [] w0 w' ∧ w0.heap.size ≤ w'.heap.size) ?_ ?_
              · have hm := hs511
                refine cW_seq ?_
                refine cW_region ?_
                refine wS_pure 3 [(39, .int .i64 (x476)), (38, .slice A11 (y7).length cap12), (37, .slice A373 (l372).length cap374)] (by kernel_rfl) ?_
                obtain ⟨x512, hx513, hm⟩ := bindE hm
                refine wS_idx (d := 40) (T := 25) (A := A11) (n := (y7).length) (cap := cap12) (kd := .i64) (m := x476) (by kernel_rfl) sl25 ((F479.sl encII_ok).is hx513) ?_
                refine wS_loadA (d := 41) (T := 34) (ad := (elA A11 2 (x476) 0)) (vs := [.int .i64 (x512.1), .int .i64 (x512.2)]) (by kernel_rfl) vt34 (fun i u hu => Sl.cells_at (F479.sl encII_ok) hx513 0 hu (by rfl)) ?_
                obtain ⟨y514, hy515, hm⟩ := bindE hm
                refine wS_calls (d := 42) (f := 99) (vs := [.slice A373 (l372).length cap374, .agg #[.int .i64 (x512.1), .int .i64 (x512.2)]]) (by kernel_rfl) ent99 (c_spec_l05Gain hy515 (F480.sl encII_ok)) ?_
                rintro _ w516 ⟨rfl, hc517⟩
                replace F478 := F478.chg hc517 Dj.nil
                replace F479 := F479.chg hc517 Dj.nil
                replace F480 := F480.chg hc517 Dj.nil
                replace hB := hB.inS hc517 inNil
                replace hZ := Nat.le_trans hZ hc517.size
                refine ⟨.int .i64 (y514), rfl, ?_⟩
                refine wS_pure 1 [(10, .int .i64 (y514))] (by kernel_rfl) ?_
                refine wS_end (by rfl) ?_
                refine eX_then ?_
                refine cW_prune [(0, .slice A0 (l0).length cap0), (5, .slice A11 (y7).length cap12), (6, .slice A373 (l372).length cap374), (7, .int .i64 (x474)), (8, .int .i64 (x475)), (9, .int .i64 (x476)), (10, .int .i64 (y514))] (by kernel_rfl) (by kernel_rfl) (fun a518 => ?_)
                refine cW_seq ?_
                refine cW_region ?_
                refine wS_pure 3 [(45, .bool (decide (y514 > x475))), (44, .int .i64 (x475)), (43, .int .i64 (y514))] (by kernel_rfl) ?_
                refine wS_end (by rfl) ?_
                refine eX_then ?_
                refine cW_cond (t := decide (y514 > x475)) (by kernel_rfl) (fun hb519 => ?_) (fun hb519 => ?_)
                · have hm := condT hb519 hm
                  refine cW_seq ?_
                  refine cW_region ?_
                  refine wS_pure 2 [(7, .int .i64 (x476)), (46, .int .i64 (x476))] (by kernel_rfl) ?_
                  refine wS_end (by rfl) ?_
                  refine eX_then ?_
                  refine cW_region ?_
                  refine wS_pure 2 [(8, .int .i64 (y514)), (47, .int .i64 (y514))] (by kernel_rfl) ?_
                  refine wS_end (by rfl) ?_
                  have hq : (some ((x476, y514)) : Option (Int × Int)) = some _ := hm
                  replace hq := someE hq
                  subst hq
                  exact eX_J (fun hst => ⟨x476, y514, rfl, Fr.of hst (by kernel_rfl), F478, F479, F480, hB, hZ⟩)
                · have hm := condF hb519 hm
                  refine cW_skip ?_
                  have hq : (some ((x474, x475)) : Option (Int × Int)) = some _ := hm
                  replace hq := someE hq
                  subst hq
                  exact eX_J (fun hst => ⟨x474, x475, rfl, Fr.of hst (by kernel_rfl), F478, F479, F480, hB, hZ⟩)
              · rintro a' w503 ⟨x504, x505, hJ, hF506, F507, F508, F509, hB, hZ⟩
                subst hJ
                refine Fr.goX hF506 (by kernel_rfl) ?_
                refine eX_block ?_
                refine eX_then ?_
                refine cW_region ?_
                refine wS_pure 3 [(9, .int .i64 (wr (x476 + 1))), (29, .int .i64 (wr (x476 + 1))), (28, .int .i64 (x476))] (by kernel_rfl) ?_
                refine wS_end (by rfl) ?_
                have hq : (some (Ctl.next ((x504, x505, wr (x476 + 1)))) : Option (Ctl (Int × Int × Int) (Int))) = some _ := hm
                replace hq := someE hq
                subst hq
                exact eX_next hx486 (fun hst => ⟨x504, x505, wr (x476 + 1), rfl, Fr.of hst (by kernel_rfl), F507, F508, F509, hB, hZ⟩)
          · have hm := condF hb487 hm
            refine cW_exit ?_
            refine eX_then_exit ?_
            have hq : (some (Ctl.out x474) : Option (Ctl (Int × Int × Int) (Int))) = some _ := hm
            replace hq := someE hq
            subst hq
            refine eX_outX hx486 (fun hr520 => ?_)
            replace hr520 := hr520.symm
            subst hr520
            refine eX_block_hit ?_
            exact eX_J (fun hst => ⟨x474, rfl, Fr.of hst (by kernel_rfl), F478, F479, F480, hB, hZ⟩)
        · rintro a' w467 ⟨x468, hJ, hF469, F470, F471, F472, hB, hZ⟩
          subst hJ
          refine Fr.goX hF469 (by kernel_rfl) ?_
          refine eX_then ?_
          refine cW_seq ?_
          refine cW_seq ?_
          refine cW_region ?_
          refine wS_pure 2 [(49, .bool (decide (x468 < 0))), (48, .int .i64 (x468))] (by kernel_rfl) ?_
          refine wS_end (by rfl) ?_
          refine eX_then ?_
          refine cW_cond (t := decide (x468 < 0)) (by kernel_rfl) (fun hb521 => ?_) (fun hb521 => ?_)
          · have hm := condT hb521 hm
            refine cW_exit ?_
            refine eX_then_exit ?_
            refine eX_block_miss (by rfl) ?_
            have hq : (some (Ctl.out l372) : Option (Ctl ((List (Int × Int))) ((List (Int × Int))))) = some _ := hm
            replace hq := someE hq
            subst hq
            refine eX_outX hx388 (fun hr522 => ?_)
            replace hr522 := hr522.symm
            subst hr522
            refine eX_block_hit ?_
            exact eX_J (fun hst => ⟨l372, A373, cap374, fp375, rfl, Fr.of hst (by kernel_rfl), F470, F472, G381, hB, hZ⟩)
          · have hm := condF hb521 hm
            refine cW_skip ?_
            refine eX_then ?_
            refine cW_region ?_
            refine wS_pure 3 [(52, .int .i64 (x468)), (51, .slice A11 (y7).length cap12), (50, .slice A373 (l372).length cap374)] (by kernel_rfl) ?_
            obtain ⟨x523, hx524, hm⟩ := bindE hm
            refine wS_idx (d := 53) (T := 25) (A := A11) (n := (y7).length) (cap := cap12) (kd := .i64) (m := x468) (by kernel_rfl) sl25 ((F471.sl encII_ok).is hx524) ?_
            refine wS_loadA (d := 54) (T := 34) (ad := (elA A11 2 (x468) 0)) (vs := [.int .i64 (x523.1), .int .i64 (x523.2)]) (by kernel_rfl) vt34 (fun i u hu => Sl.cells_at (F471.sl encII_ok) hx524 0 hu (by rfl)) ?_
            refine wS_bs (enc := encII) ([(x523.1, x523.2)] : List (Int × Int)) [.int .i64 (x523.1), .int .i64 (x523.2)] (d := 55) (t := 25) (T := 34) (n := 1) (ps := [(0, .agg #[.int .i64 (x523.1), .int .i64 (x523.2)])]) (by kernel_rfl) el25 encII_ok (by rfl) (by omega) (by omega) (by kernel_rfl) (by rfl) ?_
            intro b525 w526 G527 F528 hc529
            have D531 : Dj fp13 [b525] := Dj.of F471.low (low1 G527)
            have D532 : Dj fp375 [b525] := Dj.of F472.low (low1 G527)
            replace F470 := F470.chg hc529 Dj.nil
            replace F471 := F471.chg hc529 Dj.nil
            replace F472 := F472.chg hc529 Dj.nil
            replace hB := hB.inS hc529 inNil
            replace G527 := Nat.le_trans hZ G527
            replace G527 := low1 G527
            replace hZ := Nat.le_trans hZ hc529.size
            obtain ⟨_, hk533, hm⟩ := bindE hm
            replace hk533 := apE hk533
            refine wS_append (enc := encII) (l := (l372 : List (Int × Int))) (l2 := (([(x523.1, x523.2)] : List (Int × Int)) : List (Int × Int))) (d := 56) (t := 25) (T := 34) (A := A373) (A2 := (some ⟨b525, 0, none⟩)) (cap := cap374) (cap2 := 1) (by kernel_rfl) el25 encII_ok F472 (F528.sl encII_ok) (by rfl) hk533 ?_
            intro w534 fp535 A536 cap537 F538 hc539 hp540
            have G542 := low_ap G381 hZ hp540
            have D543 : Dj fp13 fp535 := Dj.ap D382 F471.low hp540
            have D544 : Dj [b525] fp535 := Dj.ap (D532).symm F528.low hp540
            replace F470 := F470.chg hc539 (Dj.of L0 G381)
            replace F471 := F471.chg hc539 D382
            replace F528 := F528.chg hc539 (D532).symm
            replace hB := hB.inS hc539 (inLow G381)
            replace hZ := Nat.le_trans hZ hc539.size
            refine wS_pure 1 [(6, .slice A536 (l372 ++ (([(x523.1, x523.2)] : List (Int × Int)))).length cap537)] (by kernel_rfl) ?_
            refine wS_end (by rfl) ?_
            refine eX_block ?_
            have hq : (some (Ctl.next (l372 ++ (([(x523.1, x523.2)] : List (Int × Int))))) : Option (Ctl ((List (Int × Int))) ((List (Int × Int))))) = some _ := hm
            replace hq := someE hq
            subst hq
            exact eX_next hx388 (fun hst => ⟨l372 ++ (([(x523.1, x523.2)] : List (Int × Int))), A536, cap537, fp535, rfl, Fr.of hst (by kernel_rfl), F470, F471, F538, G542, D543, hB, hZ⟩)
      · have hm := condF hb389 hm
        refine cW_exit ?_
        refine eX_then_exit ?_
        have hq : (some (Ctl.out l372) : Option (Ctl ((List (Int × Int))) ((List (Int × Int))))) = some _ := hm
        replace hq := someE hq
        subst hq
        refine eX_outX hx388 (fun hr545 => ?_)
        replace hr545 := hr545.symm
        subst hr545
        refine eX_block_hit ?_
        exact eX_J (fun hst => ⟨l372, A373, cap374, fp375, rfl, Fr.of hst (by kernel_rfl), F378, F380, G381, hB, hZ⟩)
    · rintro a' w361 ⟨l362, A363, cap364, fp365, hJ, hF367, F368, F369, G370, hB, hZ⟩
      subst hJ
      refine Fr.goX hF367 (by kernel_rfl) ?_
      refine eX_then ?_
      refine cW_seq ?_
      refine cW_region ?_
      refine wS_pure 1 [(58, .slice A363 (l362).length cap364)] (by kernel_rfl) ?_
      obtain ⟨y546, hy547, hm⟩ := bindE hm
      refine wS_calls (d := 59) (f := 104) (vs := [.slice A363 (l362).length cap364]) (by kernel_rfl) ent104 (c_spec_l05Tree hy547 (F369.sl encII_ok)) ?_
      rintro _ w548 ⟨A550, cap551, fp552, fr555, rfl, F553, G554, hc549⟩
      have D557 : Dj fp365 (fp552 ++ fr555) := Dj.of F369.low G554
      replace F368 := F368.chg hc549 Dj.nil
      replace F369 := F369.chg hc549 Dj.nil
      replace hB := hB.inS hc549 inNil
      replace G554 := low_le hZ G554
      replace hZ := Nat.le_trans hZ hc549.size
      refine ⟨.tuple #[.slice A550 (y546.1).length cap551, .int .i64 (y546.2)], rfl, ?_⟩
      refine wS_pure 5 [(12, .int .i64 (y546.2)), (11, .slice A550 (y546.1).length cap551), (61, .int .i64 (y546.2)), (60, .slice A550 (y546.1).length cap551), (57, .tuple #[.slice A550 (y546.1).length cap551, .int .i64 (y546.2)])] (by kernel_rfl) ?_
      refine wS_end (by rfl) ?_
      refine eX_then ?_
      refine cW_seq ?_
      refine cW_region ?_
      refine wS_bs0 (α := Int × Int) (enc := encII) (d := 62) (t := 25) (T := 34) (by kernel_rfl) el25 ?_
      intro b558 w559 G560 F561 hc562
      have D564 : Dj fp365 [b558] := Dj.of F369.low (low1 G560)
      have D565 : Dj (fp552 ++ fr555) [b558] := Dj.of F553.low (low1 G560)
      replace F368 := F368.chg hc562 Dj.nil
      replace F369 := F369.chg hc562 Dj.nil
      replace F553 := F553.chg hc562 Dj.nil
      replace hB := hB.inS hc562 inNil
      replace G560 := Nat.le_trans hZ G560
      replace G560 := low1 G560
      replace hZ := Nat.le_trans hZ hc562.size
      refine wS_pure 3 [(65, .int .i64 (((l0).length : Int))), (64, .slice A0 (l0).length cap0), (63, .slice A363 (l362).length cap364)] (by kernel_rfl) ?_
      obtain ⟨y566, hy567, hm⟩ := bindE hm
      refine wS_cutA (enc := encII) (l := l362) (d := 66) (T := 25) (A := A363) (cap := cap364) (vlo := some (.int .i64 (((l0).length : Int)))) (vhi := none) (lo := ((l0).length : Int)) (hi := ((l362).length : Int)) (n := 0) (by kernel_rfl) sl25 (Or.inl rfl) (Or.inr ⟨rfl, rfl⟩) (F369.sl encII_ok) F369.cap_le hy567 ?_
      intro A568 cap569 hA572 F570 hcap571
      obtain rfl := slci_slc hy567
      have hlv574 := Eq.refl (l362).length
      have hcz575 := F369.cap_le
      obtain ⟨_, hk576, hm⟩ := bindE hm
      replace hk576 := apE hk576
      refine wS_appendAny (enc := encII) (l := (([] : List (Int × Int)) : List (Int × Int))) (l2 := (slc l362 (((l0).length : Int)) (((l362).length : Int)) : List (Int × Int))) (d := 67) (t := 25) (T := 34) (A := (some ⟨b558, 0, none⟩)) (A2 := A568) (cap := 0) (cap2 := cap569) (by kernel_rfl) el25 encII_ok F561 F570 hk576 ?_
      intro w577 fp578 A579 cap580 F581 hc582 hp583
      have G585 := low_ap G560 hZ hp583
      have D586 : Dj fp365 fp578 := Dj.ap D564 F369.low hp583
      have D587 : Dj (fp552 ++ fr555) fp578 := Dj.ap D565 F553.low hp583
      have D588 : Dj fp365 fp578 := Dj.ap D564 F570.low hp583
      replace F368 := F368.chg hc582 (Dj.of L0 G560)
      replace F369 := F369.chg hc582 D564
      replace F553 := F553.chg hc582 D565
      replace F570 := F570.chg hc582 D564
      replace hB := hB.inS hc582 (inLow G560)
      replace hZ := Nat.le_trans hZ hc582.size
      refine wS_pure 4 [(4, .bool (true)), (3, .int .i64 (y546.2)), (2, .slice A579 ((([] : List (Int × Int))) ++ (slc l362 (((l0).length : Int)) (((l362).length : Int)))).length cap580), (68, .int .i64 (y546.2))] (by kernel_rfl) ?_
      refine wS_end (by rfl) ?_
      refine eX_then ?_
      refine cW_ret ?_
      have hq : (some (((([] : List (Int × Int))) ++ (slc l362 (((l0).length : Int)) (((l362).length : Int))), y546.2, true)) : Option ((List (Int × Int)) × (Int) × (Bool))) = some _ := hm
      replace hq := someE hq
      subst hq
      refine eX_ret (vs := [.slice A579 ((([] : List (Int × Int))) ++ (slc l362 (((l0).length : Int)) (((l362).length : Int)))).length cap580, .int .i64 (y546.2), .bool (true)]) [.tmp 2, .tmp 3, .tmp 4] (by rfl) ⟨by (show lkE _ _ _ = _); kernel_rfl, ⟨by (show lkE _ _ _ = _); kernel_rfl, ⟨by (show lkE _ _ _ = _); kernel_rfl, trivial⟩⟩⟩ ?_
      exact ⟨A579, cap580, fp578, rfl, F581, G585, hB⟩

set_option maxRecDepth 100000 in
/-- impl.oneByOne -/
theorem c_impl_oneByOne {w0 : World} {l0 : List (Int × Int)} {A0 : Option Addr} {cap0 : Nat} {fp0 : List Nat} {r : (List (Int × Int))} (hm : m_impl_oneByOne l0 = some r) (F0 : Sl 2 encII w0 fp0 A0 l0) :
    Calls Try.prog 114 #[.slice A0 (l0).length cap0] w0 fun e w' => ∃ A100 cap100 fp100, e = .returned (.slice A100 (r).length cap100) ∧ Ow 2 encII 34 w' fp100 A100 cap100 r ∧ (∀ x ∈ fp100, w0.heap.size ≤ x) ∧ Chg [] w0 w' := by
  have L0 := F0.low
  have hB : Chg [] w0 w0 := Chg.refl _ _
  have hZ := Nat.le_refl w0.heap.size
  unfold m_impl_oneByOne at hm
  refine enterE (N := 38) Try.func114 (by rfl) Try.ntmps114 (by simp) [(0, .slice A0 (l0).length cap0)] (by rfl) (by kernel_rfl) (fun a => ?_)
  refine cW_seq ?_
  refine cW_region ?_
  refine wS_pure 1 [(2, .slice none 0 0)] (by kernel_rfl) ?_
  refine wS_end (by rfl) ?_
  refine eX_then ?_
  refine cW_seq ?_
  refine cW_region ?_
  refine wS_pure 1 [(9, .slice A0 (l0).length cap0)] (by kernel_rfl) ?_
  obtain ⟨y2, hy3, hm⟩ := bindE hm
  refine wS_calls (d := 10) (f := 97) (vs := [.slice A0 (l0).length cap0]) (by kernel_rfl) ent97 (c_slices_Clone_impl_Point_impl_Point hy3 F0) ?_
  rintro _ w4 ⟨A6, cap7, fp8, rfl, F9, G10, hc5⟩
  replace F0 := F0.chg hc5 Dj.nil
  replace hB := hB.inS hc5 inNil
  replace G10 := low_le hZ G10
  replace hZ := Nat.le_trans hZ hc5.size
  refine ⟨.slice A6 (y2).length cap7, rfl, ?_⟩
  refine wS_pure 1 [(3, .slice A6 (y2).length cap7)] (by kernel_rfl) ?_
  refine wS_end (by rfl) ?_
  refine eX_then ?_
  refine cW_seq ?_
  obtain ⟨r752, hr753, hm⟩ := bindE hm
  have hm754 := hm
  refine cW_cut (fun a' w' => ∃ l734 : List (Int × Int), ∃ A735 : Option Addr, ∃ cap736 : Nat, ∃ fp737 : List Nat, l734 = r752 ∧ Fr 38 [(3, .slice A735 (l734).length cap736)] a' ∧ Ow 2 encII 34 w' fp737 A735 cap736 l734 ∧ (∀ x ∈ fp737, w0.heap.size ≤ x) ∧ Chg [] w0 w' ∧ w0.heap.size ≤ w'.heap.size) ?_ ?_
  · refine cW_block ?_
    refine cW_loop _ (fun (s755 : (List (Int × Int))) a' w' => ∃ l743 : List (Int × Int), ∃ A744 : Option Addr, ∃ cap745 : Nat, ∃ fp746 : List Nat, l743 = s755 ∧ Fr 38 [(0, .slice A0 (l0).length cap0), (3, .slice A744 (l743).length cap745)] a' ∧ Sl 2 encII w' fp0 A0 l0 ∧ Ow 2 encII 34 w' fp746 A744 cap745 l743 ∧ (∀ x ∈ fp746, w0.heap.size ≤ x) ∧ Chg [] w0 w' ∧ w0.heap.size ≤ w'.heap.size) hr753 (fun hst => ⟨y2, A6, cap7, fp8, rfl, Fr.of hst (by kernel_rfl), F0, F9, G10, hB, hZ⟩) ?_
    rintro _ c756 a' w742 ⟨l743, A744, cap745, fp746, rfl, hF748, F749, F750, G751, hB, hZ⟩ hx757
    refine Fr.goOn hF748 (by kernel_rfl) ?_
    have hm := hx757
    unfold m_impl_oneByOne_s3 at hm
    refine cW_seq ?_
    refine cW_seq ?_
    refine cW_region ?_
    refine wS_pure 3 [(13, .bool (decide ((((l743).length : Int)) < 20))), (12, .int .i64 (((l743).length : Int))), (11, .slice A744 (l743).length cap745)] (by kernel_rfl) ?_
    refine wS_end (by rfl) ?_
    refine eX_then ?_
    refine cW_cond (t := decide ((((l743).length : Int)) < 20)) (by kernel_rfl) (fun hb758 => ?_) (fun hb758 => ?_)
    · have hm := condT hb758 hm
      refine cW_skip ?_
      refine eX_then ?_
      refine cW_block ?_
      refine cW_seq ?_
      refine cW_region ?_
      refine wS_pure 1 [(14, .agg #[.int .i64 (0), .int .i64 (0)])] (by kernel_rfl) ?_
      refine wS_alloc (d := 5) (T := 34) (z := .agg #[.int .i64 (0), .int .i64 (0)]) (by kernel_rfl) (by kernel_rfl) ?_
      intro b759 w760 G761 F762 hc763
      replace F762 : Cl w760 b759 34 [.int .i64 (0), .int .i64 (0)] := F762
      have D765 : Dj fp746 [b759] := Dj.of F750.low (low1 G761)
      replace F749 := F749.chg hc763 Dj.nil
      replace F750 := F750.chg hc763 Dj.nil
      replace hB := hB.inS hc763 inNil
      replace G761 := Nat.le_trans hZ G761
      replace hZ := Nat.le_trans hZ hc763.size
      refine wS_pure 1 [(4, .int .i64 (0))] (by kernel_rfl) ?_
      refine wS_store (T := 34) (g := b759) (o := 0) (ad := ⟨b759, 0, none⟩) (v := .agg #[.int .i64 (0), .int .i64 (0)]) (vs := [.int .i64 (0), .int .i64 (0)]) (by kernel_rfl) (by rfl) sz34 (by rfl) (by rfl) F762 (by simp only [List.length_cons, List.length_nil]; omega) ?_
      intro w766 F767 hc768
      replace F749 := F749.chg hc768 (Dj.of L0 (low1 G761))
      replace F750 := F750.chg hc768 D765
      replace hB := hB.inS hc768 (inLow (low1 G761))
      replace hZ := Nat.le_trans hZ hc768.size
      replace F767 : Cl w766 b759 34 [.int .i64 (0), .int .i64 (0)] := F767
      clear F762
      refine wS_end (by rfl) ?_
      refine eX_then ?_
      refine cW_seq ?_
      refine cW_seq ?_
      refine cW_region ?_
      refine wS_pure 1 [(15, .slice A0 (l0).length cap0)] (by kernel_rfl) ?_
      obtain ⟨y769, hy770, hm⟩ := bindE hm
      refine wS_calls (d := 16) (f := 89) (vs := [.slice A0 (l0).length cap0]) (by kernel_rfl) ent89 (c_impl_hanan hy770 F749) ?_
      rintro _ w771 ⟨A773, cap774, fp775, rfl, F776, G777, hc772⟩
      have D780 : Dj fp746 fp775 := Dj.of F750.low G777
      have D781 : Dj [b759] fp775 := Dj.of (lt1 F767.lt) G777
      replace F749 := F749.chg hc772 Dj.nil
      replace F750 := F750.chg hc772 Dj.nil
      replace F767 := F767.chg hc772 notNil
      replace hB := hB.inS hc772 inNil
      replace G777 := low_le hZ G777
      replace hZ := Nat.le_trans hZ hc772.size
      refine ⟨.slice A773 (y769).length cap774, rfl, ?_⟩
      refine wS_pure 2 [(18, .int .i64 (0)), (17, .int .i64 (((y769).length : Int)))] (by kernel_rfl) ?_
      refine wS_end (by rfl) ?_
      refine eX_then ?_
      obtain ⟨r994, hr995, hm⟩ := bindE hm
      have hm996 := hm
      refine cW_cut (fun a' w' => ∃ x977 : Int, ∃ x978 : Int, ∃ x979 : Int, (x977, x978, x979) = r994 ∧ Fr 38 [(0, .slice A0 (l0).length cap0), (3, .slice A744 (l743).length cap745), (4, .int .i64 (x977)), (5, .pointer (some ⟨b759, 0, none⟩))] a' ∧ Sl 2 encII w' fp0 A0 l0 ∧ Ow 2 encII 34 w' fp746 A744 cap745 l743 ∧ Cl w' b759 34 [.int .i64 (x978), .int .i64 (x979)] ∧ Chg [] w0 w' ∧ w0.heap.size ≤ w'.heap.size) ?_ ?_
      · refine cW_block ?_
        refine cW_loop _ (fun (s997 : Int × Int × Int × Int) a' w' => ∃ x985 : Int, ∃ x986 : Int, ∃ x987 : Int, ∃ x988 : Int, (x985, x986, x987, x988) = s997 ∧ Fr 38 [(0, .slice A0 (l0).length cap0), (3, .slice A744 (l743).length cap745), (4, .int .i64 (x985)), (5, .pointer (some ⟨b759, 0, none⟩)), (16, .slice A773 (y769).length cap774), (17, .int .i64 (((y769).length : Int))), (18, .int .i64 (x986))] a' ∧ Sl 2 encII w' fp0 A0 l0 ∧ Ow 2 encII 34 w' fp746 A744 cap745 l743 ∧ Cl w' b759 34 [.int .i64 (x987), .int .i64 (x988)] ∧ Ow 2 encII 34 w' fp775 A773 cap774 y769 ∧ Chg [] w0 w' ∧ w0.heap.size ≤ w'.heap.size) hr995 (fun hst => ⟨0, 0, 0, 0, rfl, Fr.of hst (by kernel_rfl), F749, F750, F767, F776, hB, hZ⟩) ?_
        rintro _ c998 a' w984 ⟨x985, x986, x987, x988, rfl, hF989, F990, F991, F992, F993, hB, hZ⟩ hx999
        refine Fr.goOn hF989 (by kernel_rfl) ?_
        have hm := hx999
        unfold m_impl_oneByOne_s4 at hm
        refine cW_seq ?_
        refine cW_region ?_
        refine wS_pure 1 [(19, .bool (decide (x986 < (((y769).length : Int)))))] (by kernel_rfl) ?_
        refine wS_end (by rfl) ?_
        refine eX_then ?_
        refine cW_seq ?_
        refine cW_cond (t := decide (x986 < (((y769).length : Int)))) (by kernel_rfl) (fun hb1000 => ?_) (fun hb1000 => ?_)
        · have hm := condT hb1000 hm
          refine cW_skip ?_
          refine eX_then ?_
          refine cW_seq ?_
          refine cW_block ?_
          obtain ⟨s1049, hs1050, hm⟩ := bindE hm
          refine cW_cut (fun a' w' => ∃ x1041 : Int, ∃ x1042 : Int, ∃ x1043 : Int, (x1041, x1042, x1043) = s1049 ∧ Fr 38 [(0, .slice A0 (l0).length cap0), (3, .slice A744 (l743).length cap745), (4, .int .i64 (x1041)), (5, .pointer (some ⟨b759, 0, none⟩)), (16, .slice A773 (y769).length cap774), (17, .int .i64 (((y769).length : Int))), (18, .int .i64 (x986))] a' ∧ Sl 2 encII w' fp0 A0 l0 ∧ Ow 2 encII 34 w' fp746 A744 cap745 l743 ∧ Cl w' b759 34 [.int .i64 (x1042), .int .i64 (x1043)] ∧ Ow 2 encII 34 w' fp775 A773 cap774 y769 ∧ Chg [] w0 w' ∧ w0.heap.size ≤ w'.heap.size) ?_ ?_
          · have hm := hs1050
            refine cW_seq ?_
            refine cW_region ?_
            obtain ⟨x1051, hx1052, hm⟩ := bindE hm
            refine wS_idx (d := 20) (T := 25) (A := A773) (n := (y769).length) (cap := cap774) (kd := .i64) (m := x986) (by kernel_rfl) sl25 ((F993.sl encII_ok).is hx1052) ?_
            refine wS_loadA (d := 21) (T := 34) (ad := (elA A773 2 (x986) 0)) (vs := [.int .i64 (x1051.1), .int .i64 (x1051.2)]) (by kernel_rfl) vt34 (fun i u hu => Sl.cells_at (F993.sl encII_ok) hx1052 0 hu (by rfl)) ?_
            refine wS_alloc (d := 7) (T := 34) (z := .agg #[.int .i64 (0), .int .i64 (0)]) (by kernel_rfl) (by kernel_rfl) ?_
            intro b1053 w1054 G1055 F1056 hc1057
            replace F1056 : Cl w1054 b1053 34 [.int .i64 (0), .int .i64 (0)] := F1056
            have D1059 : Dj fp746 [b1053] := Dj.of F991.low (low1 G1055)
            have D1060 : Dj [b759] [b1053] := Dj.of (lt1 F992.lt) (low1 G1055)
            have D1061 : Dj fp775 [b1053] := Dj.of F993.low (low1 G1055)
            replace F990 := F990.chg hc1057 Dj.nil
            replace F991 := F991.chg hc1057 Dj.nil
            replace F992 := F992.chg hc1057 notNil
            replace F993 := F993.chg hc1057 Dj.nil
            replace hB := hB.inS hc1057 inNil
            replace G1055 := Nat.le_trans hZ G1055
            replace hZ := Nat.le_trans hZ hc1057.size
            refine wS_store (T := 34) (g := b1053) (o := 0) (ad := ⟨b1053, 0, none⟩) (v := .agg #[.int .i64 (x1051.1), .int .i64 (x1051.2)]) (vs := [.int .i64 (x1051.1), .int .i64 (x1051.2)]) (by kernel_rfl) (by rfl) sz34 (by rfl) (by rfl) F1056 (by simp only [List.length_cons, List.length_nil]; omega) ?_
            intro w1062 F1063 hc1064
            replace F990 := F990.chg hc1064 (Dj.of L0 (low1 G1055))
            replace F991 := F991.chg hc1064 D1059
            replace F992 := F992.chg hc1064 (dj1 D1060)
            replace F993 := F993.chg hc1064 D1061
            replace hB := hB.inS hc1064 (inLow (low1 G1055))
            replace hZ := Nat.le_trans hZ hc1064.size
            replace F1063 : Cl w1062 b1053 34 [.int .i64 (x1051.1), .int .i64 (x1051.2)] := F1063
            clear F1056
            refine wS_end (by rfl) ?_
            refine eX_then ?_
            refine cW_seq ?_
            refine cW_region ?_
            refine wS_pure 1 [(22, .slice A744 (l743).length cap745)] (by kernel_rfl) ?_
            refine wS_loadA (d := 23) (T := 34) (ad := ⟨b1053, 0, none⟩) (vs := [.int .i64 (x1051.1), .int .i64 (x1051.2)]) (by kernel_rfl) vt34 (fun i u hu => box_cells F1063 0 hu (by rfl)) ?_
            obtain ⟨y1065, hy1066, hm⟩ := bindE hm
            refine wS_calls (d := 24) (f := 100) (vs := [.slice A744 (l743).length cap745, .agg #[.int .i64 (x1051.1), .int .i64 (x1051.2)]]) (by kernel_rfl) ent100 (c_impl_gain hy1066 (F991.sl encII_ok) F991.cap_le) ?_
            rintro _ w1067 ⟨rfl, hc1068⟩
            replace F990 := F990.chg hc1068 Dj.nil
            replace F991 := F991.chg hc1068 Dj.nil
            replace F992 := F992.chg hc1068 notNil
            replace F993 := F993.chg hc1068 Dj.nil
            replace F1063 := F1063.chg hc1068 notNil
            replace hB := hB.inS hc1068 inNil
            replace hZ := Nat.le_trans hZ hc1068.size
            refine ⟨.int .i64 (y1065), rfl, ?_⟩
            refine wS_pure 1 [(8, .int .i64 (y1065))] (by kernel_rfl) ?_
            refine wS_end (by rfl) ?_
            refine eX_then ?_
            refine cW_seq ?_
            refine cW_region ?_
            refine wS_pure 3 [(27, .bool (decide (y1065 > x985))), (26, .int .i64 (x985)), (25, .int .i64 (y1065))] (by kernel_rfl) ?_
            refine wS_end (by rfl) ?_
            refine eX_then ?_
            refine cW_cond (t := decide (y1065 > x985)) (by kernel_rfl) (fun hb1069 => ?_) (fun hb1069 => ?_)
            · have hm := condT hb1069 hm
              refine cW_drawnTail [] 3 (by kernel_rfl) (by kernel_rfl) (fun w1080 hc1081 => ?_)
              replace F990 := F990.chg hc1081 Dj.nil
              replace F991 := F991.chg hc1081 Dj.nil
              replace F992 := F992.chg hc1081 notNil
              replace F993 := F993.chg hc1081 Dj.nil
              replace F1063 := F1063.chg hc1081 notNil
              replace hB := hB.inS hc1081 inNil
              replace hZ := Nat.le_trans hZ hc1081.size
              have hS := Chg.refl [] w1080
              have Z1082 := F990
              have Z1083 := F991
              have Z1084 := F992
              have Z1085 := F993
              have Z1086 := F1063
              refine wH_take [0] [0] [(28, .int .i64 (y1065))] (by kernel_rfl) (qT (qT (qB (qT (qL (qB (qT (qT (qB (qL (qB (qT (qT qZ))))))))))))) (by kernel_rfl) ?_
              refine wH_loadA (i := 1) (d := 29) (T := 34) (ad := ⟨b1053, 0, none⟩) (vs := [.int .i64 (x1051.1), .int .i64 (x1051.2)]) (by kernel_rfl) (qT (qT (qB (qT (qL (qB (qT (qT (qB (qL (qB (qT (qT qZ))))))))))))) (by kernel_rfl) (by kernel_rfl) vt34 (fun W hW i u hu => box_cells (Z1086.chg hW notNil) 0 hu (by rfl)) ?_
              refine wH_take [2] [2, 1, 0] [(4, .int .i64 (y1065))] (by kernel_rfl) (qT (qT (qB (qT (qL (qB (qT (qT (qB (qL (qB (qT (qT qZ))))))))))))) (by kernel_rfl) ?_
              refine wH_done (by kernel_rfl) ?_
              refine eX_tail ?_
              refine wS_store (T := 34) (g := b759) (o := 0) (ad := ⟨b759, 0, none⟩) (v := .agg #[.int .i64 (x1051.1), .int .i64 (x1051.2)]) (vs := [.int .i64 (x1051.1), .int .i64 (x1051.2)]) (by kernel_rfl) (by rfl) sz34 (by rfl) (by rfl) F992 (by simp only [List.length_cons, List.length_nil]; omega) ?_
              intro w1087 F1088 hc1089
              replace F990 := F990.chg hc1089 (Dj.of L0 (low1 G761))
              replace F991 := F991.chg hc1089 D765
              replace F993 := F993.chg hc1089 (D781).symm
              replace F1063 := F1063.chg hc1089 (dj1 (D1060).symm)
              replace hB := hB.inS hc1089 (inLow (low1 G761))
              replace hZ := Nat.le_trans hZ hc1089.size
              replace F1088 : Cl w1087 b759 34 [.int .i64 (x1051.1), .int .i64 (x1051.2)] := F1088
              clear F992
              refine wS_end (by rfl) ?_
              have hq : (some ((y1065, x1051.1, x1051.2)) : Option (Int × Int × Int)) = some _ := hm
              replace hq := someE hq
              subst hq
              exact eX_J (fun hst => ⟨y1065, x1051.1, x1051.2, rfl, Fr.of hst (by kernel_rfl), F990, F991, F1088, F993, hB, hZ⟩)
            · have hm := condF hb1069 hm
              refine cW_skip ?_
              have hq : (some ((x985, x987, x988)) : Option (Int × Int × Int)) = some _ := hm
              replace hq := someE hq
              subst hq
              exact eX_J (fun hst => ⟨x985, x987, x988, rfl, Fr.of hst (by kernel_rfl), F990, F991, F992, F993, hB, hZ⟩)
          · rintro a' w1040 ⟨x1041, x1042, x1043, hJ, hF1044, F1045, F1046, F1047, F1048, hB, hZ⟩
            subst hJ
            refine Fr.goX hF1044 (by kernel_rfl) ?_
            refine eX_block ?_
            refine eX_then ?_
            refine cW_region ?_
            refine wS_pure 2 [(18, .int .i64 (wr (x986 + 1))), (30, .int .i64 (wr (x986 + 1)))] (by kernel_rfl) ?_
            refine wS_end (by rfl) ?_
            have hq : (some (Ctl.next ((x1041, wr (x986 + 1), x1042, x1043))) : Option (Ctl (Int × Int × Int × Int) (Int × Int × Int))) = some _ := hm
            replace hq := someE hq
            subst hq
            exact eX_next hx999 (fun hst => ⟨x1041, wr (x986 + 1), x1042, x1043, rfl, Fr.of hst (by kernel_rfl), F1045, F1046, F1047, F1048, hB, hZ⟩)
        · have hm := condF hb1000 hm
          refine cW_exit ?_
          refine eX_then_exit ?_
          have hq : (some (Ctl.out ((x985, x987, x988))) : Option (Ctl (Int × Int × Int × Int) (Int × Int × Int))) = some _ := hm
          replace hq := someE hq
          subst hq
          refine eX_outX hx999 (fun hr1090 => ?_)
          replace hr1090 := hr1090.symm
          subst hr1090
          refine eX_block_hit ?_
          exact eX_J (fun hst => ⟨x985, x987, x988, rfl, Fr.of hst (by kernel_rfl), F990, F991, F992, hB, hZ⟩)
      · rintro a' w976 ⟨x977, x978, x979, hJ, hF980, F981, F982, F983, hB, hZ⟩
        subst hJ
        refine Fr.goX hF980 (by kernel_rfl) ?_
        refine eX_then ?_
        refine cW_seq ?_
        refine cW_seq ?_
        refine cW_region ?_
        refine wS_pure 2 [(32, .bool (x977 == 0)), (31, .int .i64 (x977))] (by kernel_rfl) ?_
        refine wS_end (by rfl) ?_
        refine eX_then ?_
        refine cW_cond (t := x977 == 0) (by kernel_rfl) (fun hb1091 => ?_) (fun hb1091 => ?_)
        · have hm := condT hb1091 hm
          refine cW_exit ?_
          refine eX_then_exit ?_
          refine eX_block_miss (by rfl) ?_
          have hq : (some (Ctl.out l743) : Option (Ctl ((List (Int × Int))) ((List (Int × Int))))) = some _ := hm
          replace hq := someE hq
          subst hq
          refine eX_outX hx757 (fun hr1092 => ?_)
          replace hr1092 := hr1092.symm
          subst hr1092
          refine eX_block_hit ?_
          exact eX_J (fun hst => ⟨l743, A744, cap745, fp746, rfl, Fr.of hst (by kernel_rfl), F982, G751, hB, hZ⟩)
        · have hm := condF hb1091 hm
          refine cW_skip ?_
          refine eX_then ?_
          refine cW_region ?_
          refine wS_pure 1 [(33, .slice A744 (l743).length cap745)] (by kernel_rfl) ?_
          refine wS_loadA (d := 34) (T := 34) (ad := ⟨b759, 0, none⟩) (vs := [.int .i64 (x978), .int .i64 (x979)]) (by kernel_rfl) vt34 (fun i u hu => box_cells F983 0 hu (by rfl)) ?_
          refine wS_bs (enc := encII) ([(x978, x979)] : List (Int × Int)) [.int .i64 (x978), .int .i64 (x979)] (d := 35) (t := 25) (T := 34) (n := 1) (ps := [(0, .agg #[.int .i64 (x978), .int .i64 (x979)])]) (by kernel_rfl) el25 encII_ok (by rfl) (by omega) (by omega) (by kernel_rfl) (by rfl) ?_
          intro b1093 w1094 G1095 F1096 hc1097
          have D1099 : Dj fp746 [b1093] := Dj.of F982.low (low1 G1095)
          have D1100 : Dj [b759] [b1093] := Dj.of (lt1 F983.lt) (low1 G1095)
          replace F981 := F981.chg hc1097 Dj.nil
          replace F982 := F982.chg hc1097 Dj.nil
          replace F983 := F983.chg hc1097 notNil
          replace hB := hB.inS hc1097 inNil
          replace G1095 := Nat.le_trans hZ G1095
          replace G1095 := low1 G1095
          replace hZ := Nat.le_trans hZ hc1097.size
          obtain ⟨_, hk1101, hm⟩ := bindE hm
          replace hk1101 := apE hk1101
          refine wS_append (enc := encII) (l := (l743 : List (Int × Int))) (l2 := (([(x978, x979)] : List (Int × Int)) : List (Int × Int))) (d := 36) (t := 25) (T := 34) (A := A744) (A2 := (some ⟨b1093, 0, none⟩)) (cap := cap745) (cap2 := 1) (by kernel_rfl) el25 encII_ok F982 (F1096.sl encII_ok) (by rfl) hk1101 ?_
          intro w1102 fp1103 A1104 cap1105 F1106 hc1107 hp1108
          have G1110 := low_ap G751 hZ hp1108
          have D1111 : Dj [b759] fp1103 := Dj.ap (D765).symm (lt1 F983.lt) hp1108
          have D1112 : Dj [b1093] fp1103 := Dj.ap (D1099).symm F1096.low hp1108
          replace F981 := F981.chg hc1107 (Dj.of L0 G751)
          replace F983 := F983.chg hc1107 (dj1 (D765).symm)
          replace F1096 := F1096.chg hc1107 (D1099).symm
          replace hB := hB.inS hc1107 (inLow G751)
          replace hZ := Nat.le_trans hZ hc1107.size
          refine wS_pure 1 [(3, .slice A1104 (l743 ++ (([(x978, x979)] : List (Int × Int)))).length cap1105)] (by kernel_rfl) ?_
          refine wS_end (by rfl) ?_
          refine eX_block ?_
          have hq : (some (Ctl.next (l743 ++ (([(x978, x979)] : List (Int × Int))))) : Option (Ctl ((List (Int × Int))) ((List (Int × Int))))) = some _ := hm
          replace hq := someE hq
          subst hq
          exact eX_next hx757 (fun hst => ⟨l743 ++ (([(x978, x979)] : List (Int × Int))), A1104, cap1105, fp1103, rfl, Fr.of hst (by kernel_rfl), F981, F1106, G1110, hB, hZ⟩)
    · have hm := condF hb758 hm
      refine cW_exit ?_
      refine eX_then_exit ?_
      have hq : (some (Ctl.out l743) : Option (Ctl ((List (Int × Int))) ((List (Int × Int))))) = some _ := hm
      replace hq := someE hq
      subst hq
      refine eX_outX hx757 (fun hr1113 => ?_)
      replace hr1113 := hr1113.symm
      subst hr1113
      refine eX_block_hit ?_
      exact eX_J (fun hst => ⟨l743, A744, cap745, fp746, rfl, Fr.of hst (by kernel_rfl), F750, G751, hB, hZ⟩)
  · rintro a' w733 ⟨l734, A735, cap736, fp737, hJ, hF739, F740, G741, hB, hZ⟩
    subst hJ
    refine Fr.goX hF739 (by kernel_rfl) ?_
    refine eX_then ?_
    refine cW_seq ?_
    refine cW_region ?_
    refine wS_pure 2 [(2, .slice A735 (l734).length cap736), (37, .slice A735 (l734).length cap736)] (by kernel_rfl) ?_
    refine wS_end (by rfl) ?_
    refine eX_then ?_
    refine cW_ret ?_
    have hq : (some l734 : Option ((List (Int × Int)))) = some _ := hm
    replace hq := someE hq
    subst hq
    refine eX_ret (vs := [.slice A735 (l734).length cap736]) [.tmp 2] (by rfl) ⟨by (show lkE _ _ _ = _); kernel_rfl, trivial⟩ ?_
    exact ⟨A735, cap736, fp737, rfl, F740, G741, hB⟩

set_option maxRecDepth 100000 in
/-- impl.OneByOne -/
theorem c_impl_OneByOne {w0 : World} {l0 : List (Int × Int)} {A0 : Option Addr} {cap0 : Nat} {fp0 : List Nat} {r : (List (Int × Int)) × (Int) × (Bool)} (hm : m_impl_OneByOne l0 = some r) (F0 : Sl 2 encII w0 fp0 A0 l0) :
    Calls Try.prog 67 #[.slice A0 (l0).length cap0] w0 fun e w' => ∃ A100 cap100 fp100, e = .returned (.tuple #[.slice A100 (r.1).length cap100, .int .i64 (r.2.1), .bool (r.2.2)]) ∧ Ow 2 encII 34 w' fp100 A100 cap100 r.1 ∧ (∀ x ∈ fp100, w0.heap.size ≤ x) ∧ Chg [] w0 w' := by
  have L0 := F0.low
  have hB : Chg [] w0 w0 := Chg.refl _ _
  have hZ := Nat.le_refl w0.heap.size
  unfold m_impl_OneByOne at hm
  refine enterE (N := 24) Try.func67 (by rfl) Try.ntmps67 (by simp) [(0, .slice A0 (l0).length cap0)] (by rfl) (by kernel_rfl) (fun a => ?_)
  refine cW_seq ?_
  refine cW_region ?_
  refine wS_pure 3 [(4, .bool (false)), (3, .int .i64 (0)), (2, .slice none 0 0)] (by kernel_rfl) ?_
  refine wS_end (by rfl) ?_
  refine eX_then ?_
  refine cW_seq ?_
  refine cW_seq ?_
  refine cW_region ?_
  refine wS_pure 1 [(8, .slice A0 (l0).length cap0)] (by kernel_rfl) ?_
  obtain ⟨y2, hy3, hm⟩ := bindE hm
  refine wS_calls (d := 9) (f := 88) (vs := [.slice A0 (l0).length cap0, .int .i64 (7)]) (by kernel_rfl) ent88 (c_impl_pinsOk hy3 F0) ?_
  rintro _ w4 ⟨rfl, hc5⟩
  replace F0 := F0.chg hc5 Dj.nil
  replace hB := hB.inS hc5 inNil
  replace hZ := Nat.le_trans hZ hc5.size
  refine ⟨.bool (y2), rfl, ?_⟩
  refine wS_pure 1 [(10, .bool (!y2))] (by kernel_rfl) ?_
  refine wS_end (by rfl) ?_
  refine eX_then ?_
  refine cW_cond (t := !y2) (by kernel_rfl) (fun hb6 => ?_) (fun hb6 => ?_)
  · have hm := condT hb6 hm
    refine cW_seq ?_
    refine cW_region ?_
    refine wS_pure 3 [(4, .bool (false)), (3, .int .i64 (0)), (2, .slice none 0 0)] (by kernel_rfl) ?_
    refine wS_end (by rfl) ?_
    refine eX_then ?_
    refine cW_ret ?_
    refine eX_then_ret ?_
    have hq : (some (([], 0, false)) : Option ((List (Int × Int)) × (Int) × (Bool))) = some _ := hm
    replace hq := someE hq
    subst hq
    refine eX_ret (vs := [.slice none 0 0, .int .i64 (0), .bool (false)]) [.tmp 2, .tmp 3, .tmp 4] (by rfl) ⟨by (show lkE _ _ _ = _); kernel_rfl, ⟨by (show lkE _ _ _ = _); kernel_rfl, ⟨by (show lkE _ _ _ = _); kernel_rfl, trivial⟩⟩⟩ ?_
    exact ⟨none, 0, [], rfl, Ow.nil _, lowNil, hB⟩
  · have hm := condF hb6 hm
    refine cW_skip ?_
    refine eX_then ?_
    refine cW_seq ?_
    refine cW_region ?_
    refine wS_pure 1 [(11, .slice A0 (l0).length cap0)] (by kernel_rfl) ?_
    obtain ⟨y7, hy8, hm⟩ := bindE hm
    refine wS_calls (d := 12) (f := 114) (vs := [.slice A0 (l0).length cap0]) (by kernel_rfl) ent114 (c_impl_oneByOne hy8 F0) ?_
    rintro _ w9 ⟨A11, cap12, fp13, rfl, F14, G15, hc10⟩
    replace F0 := F0.chg hc10 Dj.nil
    replace hB := hB.inS hc10 inNil
    replace G15 := low_le hZ G15
    replace hZ := Nat.le_trans hZ hc10.size
    refine ⟨.slice A11 (y7).length cap12, rfl, ?_⟩
    refine wS_pure 1 [(5, .slice A11 (y7).length cap12)] (by kernel_rfl) ?_
    refine wS_end (by rfl) ?_
    refine eX_then ?_
    refine cW_seq ?_
    refine cW_region ?_
    refine wS_pure 1 [(14, .slice A11 (y7).length cap12)] (by kernel_rfl) ?_
    obtain ⟨y18, hy19, hm⟩ := bindE hm
    refine wS_calls (d := 15) (f := 106) (vs := [.slice A11 (y7).length cap12]) (by kernel_rfl) ent106 (c_impl_spanning hy19 (F14.sl encII_ok)) ?_
    rintro _ w20 ⟨A22, cap23, fp24, fr27, rfl, F25, G26, hc21⟩
    have D29 : Dj fp13 (fp24 ++ fr27) := Dj.of F14.low G26
    replace F0 := F0.chg hc21 Dj.nil
    replace F14 := F14.chg hc21 Dj.nil
    replace hB := hB.inS hc21 inNil
    replace G26 := low_le hZ G26
    replace hZ := Nat.le_trans hZ hc21.size
    refine ⟨.tuple #[.slice A22 (y18.1).length cap23, .int .i64 (y18.2)], rfl, ?_⟩
    refine wS_pure 5 [(7, .int .i64 (y18.2)), (6, .slice A22 (y18.1).length cap23), (17, .int .i64 (y18.2)), (16, .slice A22 (y18.1).length cap23), (13, .tuple #[.slice A22 (y18.1).length cap23, .int .i64 (y18.2)])] (by kernel_rfl) ?_
    refine wS_end (by rfl) ?_
    refine eX_then ?_
    refine cW_seq ?_
    refine cW_region ?_
    refine wS_pure 3 [(20, .int .i64 (((l0).length : Int))), (19, .slice A0 (l0).length cap0), (18, .slice A11 (y7).length cap12)] (by kernel_rfl) ?_
    obtain ⟨y30, hy31, hm⟩ := bindE hm
    refine wS_cutA (enc := encII) (l := y7) (d := 21) (T := 25) (A := A11) (cap := cap12) (vlo := some (.int .i64 (((l0).length : Int)))) (vhi := none) (lo := ((l0).length : Int)) (hi := ((y7).length : Int)) (n := 0) (by kernel_rfl) sl25 (Or.inl rfl) (Or.inr ⟨rfl, rfl⟩) (F14.sl encII_ok) F14.cap_le hy31 ?_
    intro A32 cap33 hA36 F34 hcap35
    obtain rfl := slci_slc hy31
    have hlv38 := Eq.refl (y7).length
    have hcz39 := F14.cap_le
    obtain ⟨y40, hy41, hm⟩ := bindE hm
    refine wS_calls (d := 22) (f := 97) (vs := [.slice A32 (slc y7 (((l0).length : Int)) (((y7).length : Int))).length cap33]) (by kernel_rfl) ent97 (c_slices_Clone_impl_Point_impl_Point hy41 F34) ?_
    rintro _ w42 ⟨A44, cap45, fp46, rfl, F47, G48, hc43⟩
    have D51 : Dj fp13 fp46 := Dj.of F14.low G48
    have D52 : Dj (fp24 ++ fr27) fp46 := Dj.of F25.low G48
    have D53 : Dj fp13 fp46 := Dj.of F34.low G48
    replace F0 := F0.chg hc43 Dj.nil
    replace F14 := F14.chg hc43 Dj.nil
    replace F25 := F25.chg hc43 Dj.nil
    replace F34 := F34.chg hc43 Dj.nil
    replace hB := hB.inS hc43 inNil
    replace G48 := low_le hZ G48
    replace hZ := Nat.le_trans hZ hc43.size
    refine ⟨.slice A44 (y40).length cap45, rfl, ?_⟩
    refine wS_pure 4 [(4, .bool (true)), (3, .int .i64 (y18.2)), (2, .slice A44 (y40).length cap45), (23, .int .i64 (y18.2))] (by kernel_rfl) ?_
    refine wS_end (by rfl) ?_
    refine eX_then ?_
    refine cW_ret ?_
    have hq : (some ((y40, y18.2, true)) : Option ((List (Int × Int)) × (Int) × (Bool))) = some _ := hm
    replace hq := someE hq
    subst hq
    refine eX_ret (vs := [.slice A44 (y40).length cap45, .int .i64 (y18.2), .bool (true)]) [.tmp 2, .tmp 3, .tmp 4] (by rfl) ⟨by (show lkE _ _ _ = _); kernel_rfl, ⟨by (show lkE _ _ _ = _); kernel_rfl, ⟨by (show lkE _ _ _ = _); kernel_rfl, trivial⟩⟩⟩ ?_
    exact ⟨A44, cap45, fp46, rfl, F47, G48, hB⟩

set_option maxRecDepth 100000 in
/-- laws.FnExactOneByOne -/
theorem c_laws_FnExactOneByOne {w0 : World} {l0 : List (Int × Int)} {A0 : Option Addr} {cap0 : Nat} {fp0 : List Nat} {r : (Bool)} (hm : m_laws_FnExactOneByOne l0 = some r) (F0 : Sl 2 encII w0 fp0 A0 l0) :
    Calls Try.prog 18 #[.slice A0 (l0).length cap0] w0 fun e w' => e = .returned (.bool (r)) ∧ Chg [] w0 w' := by
  have L0 := F0.low
  have hB : Chg [] w0 w0 := Chg.refl _ _
  have hZ := Nat.le_refl w0.heap.size
  unfold m_laws_FnExactOneByOne at hm
  refine enterE (N := 117) Try.func18 (by rfl) Try.ntmps18 (by simp) [(0, .slice A0 (l0).length cap0)] (by rfl) (by kernel_rfl) (fun a => ?_)
  refine cW_seq ?_
  refine cW_region ?_
  refine wS_pure 1 [(2, .bool (false))] (by kernel_rfl) ?_
  refine wS_end (by rfl) ?_
  refine eX_then ?_
  refine cW_seq ?_
  refine cW_region ?_
  refine wS_pure 1 [(3, .int .i64 (1048576))] (by kernel_rfl) ?_
  refine wS_end (by rfl) ?_
  refine eX_then ?_
  refine cW_seq ?_
  refine cW_region ?_
  refine wS_pure 2 [(18, .int .i64 (1048576)), (17, .slice A0 (l0).length cap0)] (by kernel_rfl) ?_
  obtain ⟨y2, hy3, hm⟩ := bindE hm
  refine wS_calls (d := 19) (f := 20) (vs := [.slice A0 (l0).length cap0, .int .i64 (1048576)]) (by kernel_rfl) ent20 (c_laws_szPointS hy3 F0) ?_
  rintro _ w4 ⟨rfl, hc5⟩
  replace F0 := F0.chg hc5 Dj.nil
  replace hB := hB.inS hc5 inNil
  replace hZ := Nat.le_trans hZ hc5.size
  refine ⟨.int .i64 (y2), rfl, ?_⟩
  refine wS_pure 1 [(3, .int .i64 (y2))] (by kernel_rfl) ?_
  refine wS_end (by rfl) ?_
  refine eX_then ?_
  refine cW_seq ?_
  refine cW_seq ?_
  refine cW_region ?_
  refine wS_pure 2 [(21, .bool (decide (y2 < 0))), (20, .int .i64 (y2))] (by kernel_rfl) ?_
  refine wS_end (by rfl) ?_
  refine eX_then ?_
  refine cW_cond (t := decide (y2 < 0)) (by kernel_rfl) (fun hb6 => ?_) (fun hb6 => ?_)
  · have hm := condT hb6 hm
    refine cW_seq ?_
    refine cW_region ?_
    refine wS_pure 1 [(2, .bool (true))] (by kernel_rfl) ?_
    refine wS_end (by rfl) ?_
    refine eX_then ?_
    refine cW_ret ?_
    refine eX_then_ret ?_
    have hq : (some true : Option ((Bool))) = some _ := hm
    replace hq := someE hq
    subst hq
    refine eX_ret (vs := [.bool (true)]) [.tmp 2] (by rfl) ⟨by (show lkE _ _ _ = _); kernel_rfl, trivial⟩ ?_
    exact ⟨rfl, hB⟩
  · have hm := condF hb6 hm
    refine cW_skip ?_
    refine eX_then ?_
    refine cW_seq ?_
    refine cW_region ?_
    refine wS_pure 1 [(23, .slice A0 (l0).length cap0)] (by kernel_rfl) ?_
    obtain ⟨y7, hy8, hm⟩ := bindE hm
    refine wS_calls (d := 24) (f := 22) (vs := [.slice A0 (l0).length cap0]) (by kernel_rfl) ent22 (c_laws_toPointS hy8 F0) ?_
    rintro _ w9 ⟨A11, cap12, fp13, rfl, F14, G15, hc10⟩
    replace F0 := F0.chg hc10 Dj.nil
    replace hB := hB.inS hc10 inNil
    replace G15 := low_le hZ G15
    replace hZ := Nat.le_trans hZ hc10.size
    refine ⟨.slice A11 (y7).length cap12, rfl, ?_⟩
    obtain ⟨y18, hy19, hm⟩ := bindE hm
    refine wS_calls (d := 25) (f := 66) (vs := [.slice A11 (y7).length cap12]) (by kernel_rfl) ent66 (c_spec_OneByOne hy19 (F14.sl encII_ok) F14.cap_le) ?_
    rintro _ w20 ⟨A22, cap23, fp24, rfl, F25, G26, hc21⟩
    have D29 : Dj fp13 fp24 := Dj.of F14.low G26
    replace F0 := F0.chg hc21 Dj.nil
    replace F14 := F14.chg hc21 Dj.nil
    replace hB := hB.inS hc21 inNil
    replace G26 := low_le hZ G26
    replace hZ := Nat.le_trans hZ hc21.size
    refine ⟨.tuple #[.slice A22 (y18.1).length cap23, .int .i64 (y18.2.1), .bool (y18.2.2)], rfl, ?_⟩
    refine wS_pure 7 [(6, .bool (y18.2.2)), (5, .int .i64 (y18.2.1)), (4, .slice A22 (y18.1).length cap23), (28, .bool (y18.2.2)), (27, .int .i64 (y18.2.1)), (26, .slice A22 (y18.1).length cap23), (22, .tuple #[.slice A22 (y18.1).length cap23, .int .i64 (y18.2.1), .bool (y18.2.2)])] (by kernel_rfl) ?_
    refine wS_end (by rfl) ?_
    refine eX_then ?_
    refine cW_seq ?_
    refine cW_region ?_
    refine wS_pure 1 [(29, .slice A0 (l0).length cap0)] (by kernel_rfl) ?_
    obtain ⟨y30, hy31, hm⟩ := bindE hm
    refine wS_calls (d := 30) (f := 22) (vs := [.slice A0 (l0).length cap0]) (by kernel_rfl) ent22 (c_laws_toPointS hy31 F0) ?_
    rintro _ w32 ⟨A34, cap35, fp36, rfl, F37, G38, hc33⟩
    have D41 : Dj fp13 fp36 := Dj.of F14.low G38
    have D42 : Dj fp24 fp36 := Dj.of F25.low G38
    replace F0 := F0.chg hc33 Dj.nil
    replace F14 := F14.chg hc33 Dj.nil
    replace F25 := F25.chg hc33 Dj.nil
    replace hB := hB.inS hc33 inNil
    replace G38 := low_le hZ G38
    replace hZ := Nat.le_trans hZ hc33.size
    refine ⟨.slice A34 (y30).length cap35, rfl, ?_⟩
    refine wS_pure 1 [(7, .slice A34 (y30).length cap35)] (by kernel_rfl) ?_
    refine wS_end (by rfl) ?_
    refine eX_then ?_
    refine cW_seq ?_
    refine cW_region ?_
    refine wS_pure 1 [(32, .slice A34 (y30).length cap35)] (by kernel_rfl) ?_
    obtain ⟨y43, hy44, hm⟩ := bindE hm
    refine wS_calls (d := 33) (f := 67) (vs := [.slice A34 (y30).length cap35]) (by kernel_rfl) ent67 (c_impl_OneByOne hy44 (F37.sl encII_ok)) ?_
    rintro _ w45 ⟨A47, cap48, fp49, rfl, F50, G51, hc46⟩
    have D54 : Dj fp13 fp49 := Dj.of F14.low G51
    have D55 : Dj fp24 fp49 := Dj.of F25.low G51
    have D56 : Dj fp36 fp49 := Dj.of F37.low G51
    replace F0 := F0.chg hc46 Dj.nil
    replace F14 := F14.chg hc46 Dj.nil
    replace F25 := F25.chg hc46 Dj.nil
    replace F37 := F37.chg hc46 Dj.nil
    replace hB := hB.inS hc46 inNil
    replace G51 := low_le hZ G51
    replace hZ := Nat.le_trans hZ hc46.size
    refine ⟨.tuple #[.slice A47 (y43.1).length cap48, .int .i64 (y43.2.1), .bool (y43.2.2)], rfl, ?_⟩
    refine wS_pure 7 [(10, .bool (y43.2.2)), (9, .int .i64 (y43.2.1)), (8, .slice A47 (y43.1).length cap48), (36, .bool (y43.2.2)), (35, .int .i64 (y43.2.1)), (34, .slice A47 (y43.1).length cap48), (31, .tuple #[.slice A47 (y43.1).length cap48, .int .i64 (y43.2.1), .bool (y43.2.2)])] (by kernel_rfl) ?_
    refine wS_end (by rfl) ?_
    refine eX_then ?_
    refine cW_prune [(0, .slice A0 (l0).length cap0), (4, .slice A22 (y18.1).length cap23), (5, .int .i64 (y18.2.1)), (6, .bool (y18.2.2)), (7, .slice A34 (y30).length cap35), (8, .slice A47 (y43.1).length cap48), (9, .int .i64 (y43.2.1)), (10, .bool (y43.2.2))] (by kernel_rfl) (by kernel_rfl) (fun a57 => ?_)
    refine cW_seq ?_
    refine cW_seq ?_
    refine cW_region ?_
    refine wS_pure 2 [(38, .slice A22 (y18.1).length cap23), (37, .slice A47 (y43.1).length cap48)] (by kernel_rfl) ?_
    obtain ⟨y58, hy59, hm⟩ := bindE hm
    refine wS_calls (d := 39) (f := 24) (vs := [.slice A47 (y43.1).length cap48, .slice A22 (y18.1).length cap23]) (by kernel_rfl) ent24 (c_laws_eqPointS hy59 (F50.sl encII_ok) (F25.sl encII_ok)) ?_
    rintro _ w60 ⟨rfl, hc61⟩
    replace F0 := F0.chg hc61 Dj.nil
    replace F14 := F14.chg hc61 Dj.nil
    replace F25 := F25.chg hc61 Dj.nil
    replace F37 := F37.chg hc61 Dj.nil
    replace F50 := F50.chg hc61 Dj.nil
    replace hB := hB.inS hc61 inNil
    replace hZ := Nat.le_trans hZ hc61.size
    refine ⟨.bool (y58), rfl, ?_⟩
    refine wS_pure 2 [(41, .bool (!y58)), (40, .bool (!y58))] (by kernel_rfl) ?_
    refine wS_bool (!y58) (fun hb62 => ?_) (fun hb62 => ?_)
    · have hm := condT hb62 hm
      rewrite [hb62]
      refine wS_pure 9 [(50, .bool (true)), (49, undef), (48, undef), (47, undef), (46, .bool (true)), (45, .bool (true)), (44, undef), (43, undef), (42, undef)] (by kernel_rfl) ?_
      refine wS_end (by rfl) ?_
      refine eX_then ?_
      refine cW_cond_t (by kernel_rfl) ?_
      refine cW_seq ?_
      refine cW_region ?_
      refine wS_pure 1 [(2, .bool (false))] (by kernel_rfl) ?_
      refine wS_end (by rfl) ?_
      refine eX_then ?_
      refine cW_ret ?_
      refine eX_then_ret ?_
      have hq : (some false : Option ((Bool))) = some _ := hm
      replace hq := someE hq
      subst hq
      refine eX_ret (vs := [.bool (false)]) [.tmp 2] (by rfl) ⟨by (show lkE _ _ _ = _); kernel_rfl, trivial⟩ ?_
      exact ⟨rfl, hB⟩
    · have hm := condF hb62 hm
      rewrite [hb62]
      refine wS_pure 5 [(46, .bool (y43.2.1 != y18.2.1)), (45, .bool (y43.2.1 != y18.2.1)), (44, .bool (y43.2.1 != y18.2.1)), (43, .int .i64 (y18.2.1)), (42, .int .i64 (y43.2.1))] (by kernel_rfl) ?_
      refine wS_bool (y43.2.1 != y18.2.1) (fun hb63 => ?_) (fun hb63 => ?_)
      · have hm := condT hb63 hm
        rewrite [hb63]
        refine wS_pure 4 [(50, .bool (true)), (49, undef), (48, undef), (47, undef)] (by kernel_rfl) ?_
        refine wS_end (by rfl) ?_
        refine eX_then ?_
        refine cW_cond_t (by kernel_rfl) ?_
        refine cW_seq ?_
        refine cW_region ?_
        refine wS_pure 1 [(2, .bool (false))] (by kernel_rfl) ?_
        refine wS_end (by rfl) ?_
        refine eX_then ?_
        refine cW_ret ?_
        refine eX_then_ret ?_
        have hq : (some false : Option ((Bool))) = some _ := hm
        replace hq := someE hq
        subst hq
        refine eX_ret (vs := [.bool (false)]) [.tmp 2] (by rfl) ⟨by (show lkE _ _ _ = _); kernel_rfl, trivial⟩ ?_
        exact ⟨rfl, hB⟩
      · have hm := condF hb63 hm
        rewrite [hb63]
        refine wS_pure 4 [(50, .bool (!(y43.2.2 == y18.2.2))), (49, .bool (!(y43.2.2 == y18.2.2))), (48, .bool (y18.2.2)), (47, .bool (y43.2.2))] (by kernel_rfl) ?_
        refine wS_end (by rfl) ?_
        refine eX_then ?_
        refine cW_cond (t := !(y43.2.2 == y18.2.2)) (by kernel_rfl) (fun hb64 => ?_) (fun hb64 => ?_)
        · have hm := condT hb64 hm
          refine cW_seq ?_
          refine cW_region ?_
          refine wS_pure 1 [(2, .bool (false))] (by kernel_rfl) ?_
          refine wS_end (by rfl) ?_
          refine eX_then ?_
          refine cW_ret ?_
          refine eX_then_ret ?_
          have hq : (some false : Option ((Bool))) = some _ := hm
          replace hq := someE hq
          subst hq
          refine eX_ret (vs := [.bool (false)]) [.tmp 2] (by rfl) ⟨by (show lkE _ _ _ = _); kernel_rfl, trivial⟩ ?_
          exact ⟨rfl, hB⟩
        · have hm := condF hb64 hm
          refine cW_skip ?_
          refine eX_then ?_
          refine cW_seq ?_
          refine cW_seq ?_
          refine cW_region ?_
          refine wS_pure 2 [(52, .slice A0 (l0).length cap0), (51, .slice A34 (y30).length cap35)] (by kernel_rfl) ?_
          obtain ⟨y65, hy66, hm⟩ := bindE hm
          refine wS_calls (d := 53) (f := 22) (vs := [.slice A0 (l0).length cap0]) (by kernel_rfl) ent22 (c_laws_toPointS hy66 F0) ?_
          rintro _ w67 ⟨A69, cap70, fp71, rfl, F72, G73, hc68⟩
          have D76 : Dj fp13 fp71 := Dj.of F14.low G73
          have D77 : Dj fp24 fp71 := Dj.of F25.low G73
          have D78 : Dj fp36 fp71 := Dj.of F37.low G73
          have D79 : Dj fp49 fp71 := Dj.of F50.low G73
          replace F0 := F0.chg hc68 Dj.nil
          replace F14 := F14.chg hc68 Dj.nil
          replace F25 := F25.chg hc68 Dj.nil
          replace F37 := F37.chg hc68 Dj.nil
          replace F50 := F50.chg hc68 Dj.nil
          replace hB := hB.inS hc68 inNil
          replace G73 := low_le hZ G73
          replace hZ := Nat.le_trans hZ hc68.size
          refine ⟨.slice A69 (y65).length cap70, rfl, ?_⟩
          obtain ⟨y80, hy81, hm⟩ := bindE hm
          refine wS_calls (d := 54) (f := 24) (vs := [.slice A34 (y30).length cap35, .slice A69 (y65).length cap70]) (by kernel_rfl) ent24 (c_laws_eqPointS hy81 (F37.sl encII_ok) (F72.sl encII_ok)) ?_
          rintro _ w82 ⟨rfl, hc83⟩
          replace F0 := F0.chg hc83 Dj.nil
          replace F14 := F14.chg hc83 Dj.nil
          replace F25 := F25.chg hc83 Dj.nil
          replace F37 := F37.chg hc83 Dj.nil
          replace F50 := F50.chg hc83 Dj.nil
          replace F72 := F72.chg hc83 Dj.nil
          replace hB := hB.inS hc83 inNil
          replace hZ := Nat.le_trans hZ hc83.size
          refine ⟨.bool (y80), rfl, ?_⟩
          refine wS_pure 1 [(55, .bool (!y80))] (by kernel_rfl) ?_
          refine wS_end (by rfl) ?_
          refine eX_then ?_
          refine cW_prune [(0, .slice A0 (l0).length cap0), (4, .slice A22 (y18.1).length cap23), (5, .int .i64 (y18.2.1)), (6, .bool (y18.2.2)), (7, .slice A34 (y30).length cap35), (8, .slice A47 (y43.1).length cap48), (9, .int .i64 (y43.2.1)), (10, .bool (y43.2.2)), (55, .bool (!y80))] (by kernel_rfl) (by kernel_rfl) (fun a84 => ?_)
          refine cW_cond (t := !y80) (by kernel_rfl) (fun hb85 => ?_) (fun hb85 => ?_)
          · have hm := condT hb85 hm
            refine cW_seq ?_
            refine cW_region ?_
            refine wS_pure 1 [(2, .bool (false))] (by kernel_rfl) ?_
            refine wS_end (by rfl) ?_
            refine eX_then ?_
            refine cW_ret ?_
            refine eX_then_ret ?_
            have hq : (some false : Option ((Bool))) = some _ := hm
            replace hq := someE hq
            subst hq
            refine eX_ret (vs := [.bool (false)]) [.tmp 2] (by rfl) ⟨by (show lkE _ _ _ = _); kernel_rfl, trivial⟩ ?_
            exact ⟨rfl, hB⟩
          · have hm := condF hb85 hm
            refine cW_skip ?_
            refine eX_then ?_
            refine cW_seq ?_
            refine cW_region ?_
            refine wS_pure 1 [(11, .int .i64 (1))] (by kernel_rfl) ?_
            refine wS_end (by rfl) ?_
            refine eX_then ?_
            refine cW_seq ?_
            refine cW_region ?_
            refine wS_pure 2 [(57, .int .i64 (1)), (56, .slice A34 (y30).length cap35)] (by kernel_rfl) ?_
            obtain ⟨y86, hy87, hm⟩ := bindE hm
            refine wS_calls (d := 58) (f := 36) (vs := [.slice A34 (y30).length cap35, .int .i64 (1)]) (by kernel_rfl) ent36 (c_laws_markPointS hy87 F37) ?_
            rintro _ w88 ⟨rfl, F90, hl91, hc89⟩
            replace F0 := F0.chg hc89 (Dj.app (Dj.of L0 G38) Dj.nil)
            replace F14 := F14.chg hc89 (Dj.app D41 Dj.nil)
            replace F25 := F25.chg hc89 (Dj.app D42 Dj.nil)
            replace F50 := F50.chg hc89 (Dj.app (D56).symm Dj.nil)
            replace F72 := F72.chg hc89 (Dj.app (D78).symm Dj.nil)
            replace hB := hB.inS hc89 (inApp (inLow G38) inNil)
            replace hZ := Nat.le_trans hZ hc89.size
            clear F37
            refine ⟨.int .i64 (y86.1), rfl, ?_⟩
            rewrite [(show (y30).length = (y86.2).length from hl91.symm)]
            refine wS_pure 1 [(11, .int .i64 (y86.1))] (by kernel_rfl) ?_
            refine wS_end (by rfl) ?_
            refine eX_then ?_
            refine cW_seq ?_
            refine cW_seq ?_
            refine cW_region ?_
            refine wS_pure 3 [(61, .bool (decide (y86.1 < 0))), (60, .bool (decide (y86.1 < 0))), (59, .int .i64 (y86.1))] (by kernel_rfl) ?_
            refine wS_bool (decide (y86.1 < 0)) (fun hb92 => ?_) (fun hb92 => ?_)
            · have hm := condT hb92 hm
              rewrite [hb92]
              refine wS_pure 15 [(76, .bool (true)), (75, undef), (74, undef), (73, undef), (72, .bool (true)), (71, .bool (true)), (70, undef), (69, undef), (68, undef), (67, .bool (true)), (66, .bool (true)), (65, undef), (64, undef), (63, undef), (62, undef)] (by kernel_rfl) ?_
              refine wS_end (by rfl) ?_
              refine eX_then ?_
              refine cW_prune [(0, .slice A0 (l0).length cap0), (4, .slice A22 (y18.1).length cap23), (5, .int .i64 (y18.2.1)), (6, .bool (y18.2.2)), (8, .slice A47 (y43.1).length cap48), (76, .bool (true))] (by kernel_rfl) (by kernel_rfl) (fun a93 => ?_)
              refine cW_cond_t (by kernel_rfl) ?_
              refine cW_seq ?_
              refine cW_region ?_
              refine wS_pure 1 [(2, .bool (false))] (by kernel_rfl) ?_
              refine wS_end (by rfl) ?_
              refine eX_then ?_
              refine cW_ret ?_
              refine eX_then_ret ?_
              have hq : (some false : Option ((Bool))) = some _ := hm
              replace hq := someE hq
              subst hq
              refine eX_ret (vs := [.bool (false)]) [.tmp 2] (by rfl) ⟨by (show lkE _ _ _ = _); kernel_rfl, trivial⟩ ?_
              exact ⟨rfl, hB⟩
            · have hm := condF hb92 hm
              rewrite [hb92]
              refine wS_pure 2 [(63, .slice A22 (y18.1).length cap23), (62, .slice A47 (y43.1).length cap48)] (by kernel_rfl) ?_
              obtain ⟨y94, hy95, hm⟩ := bindE hm
              refine wS_calls (d := 64) (f := 24) (vs := [.slice A47 (y43.1).length cap48, .slice A22 (y18.1).length cap23]) (by kernel_rfl) ent24 (c_laws_eqPointS hy95 (F50.sl encII_ok) (F25.sl encII_ok)) ?_
              rintro _ w96 ⟨rfl, hc97⟩
              replace F0 := F0.chg hc97 Dj.nil
              replace F14 := F14.chg hc97 Dj.nil
              replace F25 := F25.chg hc97 Dj.nil
              replace F90 := F90.chg hc97 Dj.nil
              replace F50 := F50.chg hc97 Dj.nil
              replace F72 := F72.chg hc97 Dj.nil
              replace hB := hB.inS hc97 inNil
              replace hZ := Nat.le_trans hZ hc97.size
              refine ⟨.bool (y94), rfl, ?_⟩
              refine wS_pure 3 [(67, .bool (!y94)), (66, .bool (!y94)), (65, .bool (!y94))] (by kernel_rfl) ?_
              refine wS_bool (!y94) (fun hb98 => ?_) (fun hb98 => ?_)
              · have hm := condT hb98 hm
                rewrite [hb98]
                refine wS_pure 9 [(76, .bool (true)), (75, undef), (74, undef), (73, undef), (72, .bool (true)), (71, .bool (true)), (70, undef), (69, undef), (68, undef)] (by kernel_rfl) ?_
                refine wS_end (by rfl) ?_
                refine eX_then ?_
                refine cW_prune [(0, .slice A0 (l0).length cap0), (4, .slice A22 (y18.1).length cap23), (5, .int .i64 (y18.2.1)), (6, .bool (y18.2.2)), (8, .slice A47 (y43.1).length cap48), (76, .bool (true))] (by kernel_rfl) (by kernel_rfl) (fun a99 => ?_)
                refine cW_cond_t (by kernel_rfl) ?_
                refine cW_seq ?_
                refine cW_region ?_
                refine wS_pure 1 [(2, .bool (false))] (by kernel_rfl) ?_
                refine wS_end (by rfl) ?_
                refine eX_then ?_
                refine cW_ret ?_
                refine eX_then_ret ?_
                have hq : (some false : Option ((Bool))) = some _ := hm
                replace hq := someE hq
                subst hq
                refine eX_ret (vs := [.bool (false)]) [.tmp 2] (by rfl) ⟨by (show lkE _ _ _ = _); kernel_rfl, trivial⟩ ?_
                exact ⟨rfl, hB⟩
              · have hm := condF hb98 hm
                rewrite [hb98]
                refine wS_pure 5 [(72, .bool (y43.2.1 != y18.2.1)), (71, .bool (y43.2.1 != y18.2.1)), (70, .bool (y43.2.1 != y18.2.1)), (69, .int .i64 (y18.2.1)), (68, .int .i64 (y43.2.1))] (by kernel_rfl) ?_
                refine wS_bool (y43.2.1 != y18.2.1) (fun hb100 => ?_) (fun hb100 => ?_)
                · have hm := condT hb100 hm
                  rewrite [hb100]
                  refine wS_pure 4 [(76, .bool (true)), (75, undef), (74, undef), (73, undef)] (by kernel_rfl) ?_
                  refine wS_end (by rfl) ?_
                  refine eX_then ?_
                  refine cW_prune [(0, .slice A0 (l0).length cap0), (4, .slice A22 (y18.1).length cap23), (5, .int .i64 (y18.2.1)), (6, .bool (y18.2.2)), (8, .slice A47 (y43.1).length cap48), (76, .bool (true))] (by kernel_rfl) (by kernel_rfl) (fun a101 => ?_)
                  refine cW_cond_t (by kernel_rfl) ?_
                  refine cW_seq ?_
                  refine cW_region ?_
                  refine wS_pure 1 [(2, .bool (false))] (by kernel_rfl) ?_
                  refine wS_end (by rfl) ?_
                  refine eX_then ?_
                  refine cW_ret ?_
                  refine eX_then_ret ?_
                  have hq : (some false : Option ((Bool))) = some _ := hm
                  replace hq := someE hq
                  subst hq
                  refine eX_ret (vs := [.bool (false)]) [.tmp 2] (by rfl) ⟨by (show lkE _ _ _ = _); kernel_rfl, trivial⟩ ?_
                  exact ⟨rfl, hB⟩
                · have hm := condF hb100 hm
                  rewrite [hb100]
                  refine wS_pure 4 [(76, .bool (!(y43.2.2 == y18.2.2))), (75, .bool (!(y43.2.2 == y18.2.2))), (74, .bool (y18.2.2)), (73, .bool (y43.2.2))] (by kernel_rfl) ?_
                  refine wS_end (by rfl) ?_
                  refine eX_then ?_
                  refine cW_prune [(0, .slice A0 (l0).length cap0), (4, .slice A22 (y18.1).length cap23), (5, .int .i64 (y18.2.1)), (6, .bool (y18.2.2)), (8, .slice A47 (y43.1).length cap48), (76, .bool (!(y43.2.2 == y18.2.2)))] (by kernel_rfl) (by kernel_rfl) (fun a102 => ?_)
                  refine cW_cond (t := !(y43.2.2 == y18.2.2)) (by kernel_rfl) (fun hb103 => ?_) (fun hb103 => ?_)
                  · have hm := condT hb103 hm
                    refine cW_seq ?_
                    refine cW_region ?_
                    refine wS_pure 1 [(2, .bool (false))] (by kernel_rfl) ?_
                    refine wS_end (by rfl) ?_
                    refine eX_then ?_
                    refine cW_ret ?_
                    refine eX_then_ret ?_
                    have hq : (some false : Option ((Bool))) = some _ := hm
                    replace hq := someE hq
                    subst hq
                    refine eX_ret (vs := [.bool (false)]) [.tmp 2] (by rfl) ⟨by (show lkE _ _ _ = _); kernel_rfl, trivial⟩ ?_
                    exact ⟨rfl, hB⟩
                  · have hm := condF hb103 hm
                    refine cW_skip ?_
                    refine eX_then ?_
                    refine cW_seq ?_
                    refine cW_region ?_
                    refine wS_pure 1 [(12, .int .i64 (1))] (by kernel_rfl) ?_
                    refine wS_end (by rfl) ?_
                    refine eX_then ?_
                    refine cW_seq ?_
                    refine cW_region ?_
                    refine wS_pure 2 [(78, .int .i64 (1)), (77, .slice A47 (y43.1).length cap48)] (by kernel_rfl) ?_
                    obtain ⟨y104, hy105, hm⟩ := bindE hm
                    refine wS_calls (d := 79) (f := 36) (vs := [.slice A47 (y43.1).length cap48, .int .i64 (1)]) (by kernel_rfl) ent36 (c_laws_markPointS hy105 F50) ?_
                    rintro _ w106 ⟨rfl, F108, hl109, hc107⟩
                    replace F0 := F0.chg hc107 (Dj.app (Dj.of L0 G51) Dj.nil)
                    replace F14 := F14.chg hc107 (Dj.app D54 Dj.nil)
                    replace F25 := F25.chg hc107 (Dj.app D55 Dj.nil)
                    replace F90 := F90.chg hc107 (Dj.app D56 Dj.nil)
                    replace F72 := F72.chg hc107 (Dj.app (D79).symm Dj.nil)
                    replace hB := hB.inS hc107 (inApp (inLow G51) inNil)
                    replace hZ := Nat.le_trans hZ hc107.size
                    clear F50
                    refine ⟨.int .i64 (y104.1), rfl, ?_⟩
                    rewrite [(show (y43.1).length = (y104.2).length from hl109.symm)]
                    refine wS_pure 1 [(12, .int .i64 (y104.1))] (by kernel_rfl) ?_
                    refine wS_end (by rfl) ?_
                    refine eX_then ?_
                    refine cW_seq ?_
                    refine cW_region ?_
                    refine wS_pure 1 [(13, .int .i64 (1))] (by kernel_rfl) ?_
                    refine wS_end (by rfl) ?_
                    refine eX_then ?_
                    refine cW_seq ?_
                    refine cW_region ?_
                    refine wS_pure 2 [(81, .int .i64 (1)), (80, .slice A47 (y104.2).length cap48)] (by kernel_rfl) ?_
                    obtain ⟨y110, hy111, hm⟩ := bindE hm
                    refine wS_calls (d := 82) (f := 37) (vs := [.slice A47 (y104.2).length cap48, .int .i64 (1)]) (by kernel_rfl) ent37 (c_laws_heldPointS hy111 (F108.sl encII_ok)) ?_
                    rintro _ w112 ⟨rfl, hc113⟩
                    replace F0 := F0.chg hc113 Dj.nil
                    replace F14 := F14.chg hc113 Dj.nil
                    replace F25 := F25.chg hc113 Dj.nil
                    replace F90 := F90.chg hc113 Dj.nil
                    replace F108 := F108.chg hc113 Dj.nil
                    replace F72 := F72.chg hc113 Dj.nil
                    replace hB := hB.inS hc113 inNil
                    replace hZ := Nat.le_trans hZ hc113.size
                    refine ⟨.int .i64 (y110), rfl, ?_⟩
                    refine wS_pure 1 [(13, .int .i64 (y110))] (by kernel_rfl) ?_
                    refine wS_end (by rfl) ?_
                    refine eX_then ?_
                    refine cW_seq ?_
                    refine cW_seq ?_
                    refine cW_region ?_
                    refine wS_pure 2 [(84, .bool (decide (y110 < 0))), (83, .int .i64 (y110))] (by kernel_rfl) ?_
                    refine wS_end (by rfl) ?_
                    refine eX_then ?_
                    refine cW_cond (t := decide (y110 < 0)) (by kernel_rfl) (fun hb114 => ?_) (fun hb114 => ?_)
                    · have hm := condT hb114 hm
                      refine cW_seq ?_
                      refine cW_region ?_
                      refine wS_pure 1 [(2, .bool (false))] (by kernel_rfl) ?_
                      refine wS_end (by rfl) ?_
                      refine eX_then ?_
                      refine cW_ret ?_
                      refine eX_then_ret ?_
                      have hq : (some false : Option ((Bool))) = some _ := hm
                      replace hq := someE hq
                      subst hq
                      refine eX_ret (vs := [.bool (false)]) [.tmp 2] (by rfl) ⟨by (show lkE _ _ _ = _); kernel_rfl, trivial⟩ ?_
                      exact ⟨rfl, hB⟩
                    · have hm := condF hb114 hm
                      refine cW_skip ?_
                      refine eX_then ?_
                      refine cW_seq ?_
                      refine cW_seq ?_
                      refine cW_region ?_
                      refine wS_pure 3 [(87, .bool (y110 != y104.1)), (86, .int .i64 (y104.1)), (85, .int .i64 (y110))] (by kernel_rfl) ?_
                      refine wS_end (by rfl) ?_
                      refine eX_then ?_
                      refine cW_cond (t := y110 != y104.1) (by kernel_rfl) (fun hb115 => ?_) (fun hb115 => ?_)
                      · have hm := condT hb115 hm
                        refine cW_seq ?_
                        refine cW_region ?_
                        refine wS_pure 1 [(2, .bool (false))] (by kernel_rfl) ?_
                        refine wS_end (by rfl) ?_
                        refine eX_then ?_
                        refine cW_ret ?_
                        refine eX_then_ret ?_
                        have hq : (some false : Option ((Bool))) = some _ := hm
                        replace hq := someE hq
                        subst hq
                        refine eX_ret (vs := [.bool (false)]) [.tmp 2] (by rfl) ⟨by (show lkE _ _ _ = _); kernel_rfl, trivial⟩ ?_
                        exact ⟨rfl, hB⟩
                      · have hm := condF hb115 hm
                        refine cW_skip ?_
                        refine eX_then ?_
                        refine cW_seq ?_
                        refine cW_region ?_
                        refine wS_pure 1 [(89, .slice A0 (l0).length cap0)] (by kernel_rfl) ?_
                        obtain ⟨y116, hy117, hm⟩ := bindE hm
                        refine wS_calls (d := 90) (f := 22) (vs := [.slice A0 (l0).length cap0]) (by kernel_rfl) ent22 (c_laws_toPointS hy117 F0) ?_
                        rintro _ w118 ⟨A120, cap121, fp122, rfl, F123, G124, hc119⟩
                        have D127 : Dj fp13 fp122 := Dj.of F14.low G124
                        have D128 : Dj fp24 fp122 := Dj.of F25.low G124
                        have D129 : Dj fp36 fp122 := Dj.of F90.low G124
                        have D130 : Dj fp49 fp122 := Dj.of F108.low G124
                        have D131 : Dj fp71 fp122 := Dj.of F72.low G124
                        replace F0 := F0.chg hc119 Dj.nil
                        replace F14 := F14.chg hc119 Dj.nil
                        replace F25 := F25.chg hc119 Dj.nil
                        replace F90 := F90.chg hc119 Dj.nil
                        replace F108 := F108.chg hc119 Dj.nil
                        replace F72 := F72.chg hc119 Dj.nil
                        replace hB := hB.inS hc119 inNil
                        replace G124 := low_le hZ G124
                        replace hZ := Nat.le_trans hZ hc119.size
                        refine ⟨.slice A120 (y116).length cap121, rfl, ?_⟩
                        obtain ⟨y132, hy133, hm⟩ := bindE hm
                        refine wS_calls (d := 91) (f := 67) (vs := [.slice A120 (y116).length cap121]) (by kernel_rfl) ent67 (c_impl_OneByOne hy133 (F123.sl encII_ok)) ?_
                        rintro _ w134 ⟨A136, cap137, fp138, rfl, F139, G140, hc135⟩
                        have D143 : Dj fp13 fp138 := Dj.of F14.low G140
                        have D144 : Dj fp24 fp138 := Dj.of F25.low G140
                        have D145 : Dj fp36 fp138 := Dj.of F90.low G140
                        have D146 : Dj fp49 fp138 := Dj.of F108.low G140
                        have D147 : Dj fp71 fp138 := Dj.of F72.low G140
                        have D148 : Dj fp122 fp138 := Dj.of F123.low G140
                        replace F0 := F0.chg hc135 Dj.nil
                        replace F14 := F14.chg hc135 Dj.nil
                        replace F25 := F25.chg hc135 Dj.nil
                        replace F90 := F90.chg hc135 Dj.nil
                        replace F108 := F108.chg hc135 Dj.nil
                        replace F72 := F72.chg hc135 Dj.nil
                        replace F123 := F123.chg hc135 Dj.nil
                        replace hB := hB.inS hc135 inNil
                        replace G140 := low_le hZ G140
                        replace hZ := Nat.le_trans hZ hc135.size
                        refine ⟨.tuple #[.slice A136 (y132.1).length cap137, .int .i64 (y132.2.1), .bool (y132.2.2)], rfl, ?_⟩
                        refine wS_pure 7 [(16, .bool (y132.2.2)), (15, .int .i64 (y132.2.1)), (14, .slice A136 (y132.1).length cap137), (94, .bool (y132.2.2)), (93, .int .i64 (y132.2.1)), (92, .slice A136 (y132.1).length cap137), (88, .tuple #[.slice A136 (y132.1).length cap137, .int .i64 (y132.2.1), .bool (y132.2.2)])] (by kernel_rfl) ?_
                        refine wS_end (by rfl) ?_
                        refine eX_then ?_
                        refine cW_prune [(4, .slice A22 (y18.1).length cap23), (5, .int .i64 (y18.2.1)), (6, .bool (y18.2.2)), (8, .slice A47 (y104.2).length cap48), (12, .int .i64 (y104.1)), (14, .slice A136 (y132.1).length cap137), (15, .int .i64 (y132.2.1)), (16, .bool (y132.2.2))] (by kernel_rfl) (by kernel_rfl) (fun a149 => ?_)
                        refine cW_seq ?_
                        refine cW_seq ?_
                        refine cW_region ?_
                        refine wS_pure 2 [(96, .slice A22 (y18.1).length cap23), (95, .slice A136 (y132.1).length cap137)] (by kernel_rfl) ?_
                        obtain ⟨y150, hy151, hm⟩ := bindE hm
                        refine wS_calls (d := 97) (f := 24) (vs := [.slice A136 (y132.1).length cap137, .slice A22 (y18.1).length cap23]) (by kernel_rfl) ent24 (c_laws_eqPointS hy151 (F139.sl encII_ok) (F25.sl encII_ok)) ?_
                        rintro _ w152 ⟨rfl, hc153⟩
                        replace F0 := F0.chg hc153 Dj.nil
                        replace F14 := F14.chg hc153 Dj.nil
                        replace F25 := F25.chg hc153 Dj.nil
                        replace F90 := F90.chg hc153 Dj.nil
                        replace F108 := F108.chg hc153 Dj.nil
                        replace F72 := F72.chg hc153 Dj.nil
                        replace F123 := F123.chg hc153 Dj.nil
                        replace F139 := F139.chg hc153 Dj.nil
                        replace hB := hB.inS hc153 inNil
                        replace hZ := Nat.le_trans hZ hc153.size
                        refine ⟨.bool (y150), rfl, ?_⟩
                        refine wS_pure 2 [(99, .bool (!y150)), (98, .bool (!y150))] (by kernel_rfl) ?_
                        refine wS_bool (!y150) (fun hb154 => ?_) (fun hb154 => ?_)
                        · have hm := condT hb154 hm
                          rewrite [hb154]
                          refine wS_pure 9 [(108, .bool (true)), (107, undef), (106, undef), (105, undef), (104, .bool (true)), (103, .bool (true)), (102, undef), (101, undef), (100, undef)] (by kernel_rfl) ?_
                          refine wS_end (by rfl) ?_
                          refine eX_then ?_
                          refine cW_cond_t (by kernel_rfl) ?_
                          refine cW_seq ?_
                          refine cW_region ?_
                          refine wS_pure 1 [(2, .bool (false))] (by kernel_rfl) ?_
                          refine wS_end (by rfl) ?_
                          refine eX_then ?_
                          refine cW_ret ?_
                          refine eX_then_ret ?_
                          have hq : (some false : Option ((Bool))) = some _ := hm
                          replace hq := someE hq
                          subst hq
                          refine eX_ret (vs := [.bool (false)]) [.tmp 2] (by rfl) ⟨by (show lkE _ _ _ = _); kernel_rfl, trivial⟩ ?_
                          exact ⟨rfl, hB⟩
                        · have hm := condF hb154 hm
                          rewrite [hb154]
                          refine wS_pure 5 [(104, .bool (y132.2.1 != y18.2.1)), (103, .bool (y132.2.1 != y18.2.1)), (102, .bool (y132.2.1 != y18.2.1)), (101, .int .i64 (y18.2.1)), (100, .int .i64 (y132.2.1))] (by kernel_rfl) ?_
                          refine wS_bool (y132.2.1 != y18.2.1) (fun hb155 => ?_) (fun hb155 => ?_)
                          · have hm := condT hb155 hm
                            rewrite [hb155]
                            refine wS_pure 4 [(108, .bool (true)), (107, undef), (106, undef), (105, undef)] (by kernel_rfl) ?_
                            refine wS_end (by rfl) ?_
                            refine eX_then ?_
                            refine cW_cond_t (by kernel_rfl) ?_
                            refine cW_seq ?_
                            refine cW_region ?_
                            refine wS_pure 1 [(2, .bool (false))] (by kernel_rfl) ?_
                            refine wS_end (by rfl) ?_
                            refine eX_then ?_
                            refine cW_ret ?_
                            refine eX_then_ret ?_
                            have hq : (some false : Option ((Bool))) = some _ := hm
                            replace hq := someE hq
                            subst hq
                            refine eX_ret (vs := [.bool (false)]) [.tmp 2] (by rfl) ⟨by (show lkE _ _ _ = _); kernel_rfl, trivial⟩ ?_
                            exact ⟨rfl, hB⟩
                          · have hm := condF hb155 hm
                            rewrite [hb155]
                            refine wS_pure 4 [(108, .bool (!(y132.2.2 == y18.2.2))), (107, .bool (!(y132.2.2 == y18.2.2))), (106, .bool (y18.2.2)), (105, .bool (y132.2.2))] (by kernel_rfl) ?_
                            refine wS_end (by rfl) ?_
                            refine eX_then ?_
                            refine cW_cond (t := !(y132.2.2 == y18.2.2)) (by kernel_rfl) (fun hb156 => ?_) (fun hb156 => ?_)
                            · have hm := condT hb156 hm
                              refine cW_seq ?_
                              refine cW_region ?_
                              refine wS_pure 1 [(2, .bool (false))] (by kernel_rfl) ?_
                              refine wS_end (by rfl) ?_
                              refine eX_then ?_
                              refine cW_ret ?_
                              refine eX_then_ret ?_
                              have hq : (some false : Option ((Bool))) = some _ := hm
                              replace hq := someE hq
                              subst hq
                              refine eX_ret (vs := [.bool (false)]) [.tmp 2] (by rfl) ⟨by (show lkE _ _ _ = _); kernel_rfl, trivial⟩ ?_
                              exact ⟨rfl, hB⟩
                            · have hm := condF hb156 hm
                              refine cW_skip ?_
                              refine eX_then ?_
                              refine cW_seq ?_
                              refine cW_region ?_
                              refine wS_pure 1 [(13, .int .i64 (1))] (by kernel_rfl) ?_
                              refine wS_end (by rfl) ?_
                              refine eX_then ?_
                              refine cW_seq ?_
                              refine cW_region ?_
                              refine wS_pure 2 [(110, .int .i64 (1)), (109, .slice A47 (y104.2).length cap48)] (by kernel_rfl) ?_
                              obtain ⟨y157, hy158, hm⟩ := bindE hm
                              refine wS_calls (d := 111) (f := 37) (vs := [.slice A47 (y104.2).length cap48, .int .i64 (1)]) (by kernel_rfl) ent37 (c_laws_heldPointS hy158 (F108.sl encII_ok)) ?_
                              rintro _ w159 ⟨rfl, hc160⟩
                              replace F0 := F0.chg hc160 Dj.nil
                              replace F14 := F14.chg hc160 Dj.nil
                              replace F25 := F25.chg hc160 Dj.nil
                              replace F90 := F90.chg hc160 Dj.nil
                              replace F108 := F108.chg hc160 Dj.nil
                              replace F72 := F72.chg hc160 Dj.nil
                              replace F123 := F123.chg hc160 Dj.nil
                              replace F139 := F139.chg hc160 Dj.nil
                              replace hB := hB.inS hc160 inNil
                              replace hZ := Nat.le_trans hZ hc160.size
                              refine ⟨.int .i64 (y157), rfl, ?_⟩
                              refine wS_pure 1 [(13, .int .i64 (y157))] (by kernel_rfl) ?_
                              refine wS_end (by rfl) ?_
                              refine eX_then ?_
                              refine cW_prune [(12, .int .i64 (y104.1)), (13, .int .i64 (y157))] (by kernel_rfl) (by kernel_rfl) (fun a161 => ?_)
                              refine cW_seq ?_
                              refine cW_seq ?_
                              refine cW_region ?_
                              refine wS_pure 2 [(113, .bool (decide (y157 < 0))), (112, .int .i64 (y157))] (by kernel_rfl) ?_
                              refine wS_end (by rfl) ?_
                              refine eX_then ?_
                              refine cW_cond (t := decide (y157 < 0)) (by kernel_rfl) (fun hb162 => ?_) (fun hb162 => ?_)
                              · have hm := condT hb162 hm
                                refine cW_seq ?_
                                refine cW_region ?_
                                refine wS_pure 1 [(2, .bool (false))] (by kernel_rfl) ?_
                                refine wS_end (by rfl) ?_
                                refine eX_then ?_
                                refine cW_ret ?_
                                refine eX_then_ret ?_
                                have hq : (some false : Option ((Bool))) = some _ := hm
                                replace hq := someE hq
                                subst hq
                                refine eX_ret (vs := [.bool (false)]) [.tmp 2] (by rfl) ⟨by (show lkE _ _ _ = _); kernel_rfl, trivial⟩ ?_
                                exact ⟨rfl, hB⟩
                              · have hm := condF hb162 hm
                                refine cW_skip ?_
                                refine eX_then ?_
                                refine cW_seq ?_
                                refine cW_seq ?_
                                refine cW_region ?_
                                refine wS_pure 3 [(116, .bool (y157 != y104.1)), (115, .int .i64 (y104.1)), (114, .int .i64 (y157))] (by kernel_rfl) ?_
                                refine wS_end (by rfl) ?_
                                refine eX_then ?_
                                refine cW_cond (t := y157 != y104.1) (by kernel_rfl) (fun hb163 => ?_) (fun hb163 => ?_)
                                · have hm := condT hb163 hm
                                  refine cW_seq ?_
                                  refine cW_region ?_
                                  refine wS_pure 1 [(2, .bool (false))] (by kernel_rfl) ?_
                                  refine wS_end (by rfl) ?_
                                  refine eX_then ?_
                                  refine cW_ret ?_
                                  refine eX_then_ret ?_
                                  have hq : (some false : Option ((Bool))) = some _ := hm
                                  replace hq := someE hq
                                  subst hq
                                  refine eX_ret (vs := [.bool (false)]) [.tmp 2] (by rfl) ⟨by (show lkE _ _ _ = _); kernel_rfl, trivial⟩ ?_
                                  exact ⟨rfl, hB⟩
                                · have hm := condF hb163 hm
                                  refine cW_skip ?_
                                  refine eX_then ?_
                                  refine cW_seq ?_
                                  refine cW_region ?_
                                  refine wS_pure 1 [(2, .bool (true))] (by kernel_rfl) ?_
                                  refine wS_end (by rfl) ?_
                                  refine eX_then ?_
                                  refine cW_ret ?_
                                  have hq : (some true : Option ((Bool))) = some _ := hm
                                  replace hq := someE hq
                                  subst hq
                                  refine eX_ret (vs := [.bool (true)]) [.tmp 2] (by rfl) ⟨by (show lkE _ _ _ = _); kernel_rfl, trivial⟩ ?_
                                  exact ⟨rfl, hB⟩

end Go.Proofs.Ytdkpfkmmblmlhaa
