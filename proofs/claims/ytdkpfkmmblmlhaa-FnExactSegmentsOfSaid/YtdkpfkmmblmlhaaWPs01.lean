/- Printed walks: spec.l01Corners, laws.eqInt64S, laws.eqInt64SS, laws.markInt64S, laws.markInt64SS, laws.heldInt64S, laws.heldInt64SS, laws.szPointSS, laws.toPointSS, laws.eqPointSS, spec.l07Paths, spec.l07Segments, spec.SegmentsOf, impl.pathsOk$1, slices.IndexFunc[[][]impl.Point,[]impl.Point], slices.ContainsFunc[[][]impl.Point,[]impl.Point], impl.pathsOk, impl.segments, impl.SegmentsOf, laws.markPointSS, laws.FnExactSegmentsOf. -/
import Derived.Test.YtdkpfkmmblmlhaaProg
import Derived.Test.YtdkpfkmmblmlhaaWPa01
set_option linter.unusedSimpArgs false
set_option linter.unusedVariables false
namespace Go.Proofs.Ytdkpfkmmblmlhaa
open Go.RowKit
attribute [local irreducible] wS cW eX wH

theorem ent36 : Ent Try.prog 36 := fun _ => by kernel_rfl
theorem ent55 : Ent Try.prog 55 := fun _ => by kernel_rfl
theorem ent56 : Ent Try.prog 56 := fun _ => by kernel_rfl
theorem ent57 : Ent Try.prog 57 := fun _ => by kernel_rfl
theorem ent58 : Ent Try.prog 58 := fun _ => by kernel_rfl
theorem ent60 : Ent Try.prog 60 := fun _ => by kernel_rfl
theorem ent62 : Ent Try.prog 62 := fun _ => by kernel_rfl
theorem ent63 : Ent Try.prog 63 := fun _ => by kernel_rfl
theorem ent64 : Ent Try.prog 64 := fun _ => by kernel_rfl
theorem ent65 : Ent Try.prog 65 := fun _ => by kernel_rfl
theorem ent90 : Ent Try.prog 90 := fun _ => by kernel_rfl
theorem ent107 : Ent Try.prog 107 := fun _ => by kernel_rfl
theorem ent108 : Ent Try.prog 108 := fun _ => by kernel_rfl
theorem ent109 : Ent Try.prog 109 := fun _ => by kernel_rfl
theorem ent110 : Ent Try.prog 110 := fun _ => by kernel_rfl
theorem ent111 : Ent Try.prog 111 := fun _ => by kernel_rfl
theorem ent112 : Ent Try.prog 112 := fun _ => by kernel_rfl
theorem ent113 : Ent Try.prog 113 := fun _ => by kernel_rfl
theorem ent140 : Ent Try.prog 140 := fun _ => by kernel_rfl
theorem ent141 : Ent Try.prog 141 := fun _ => by kernel_rfl
theorem ent151 : Ent Try.prog 151 := fun _ => by kernel_rfl
theorem vt22 : VarTy Try.prog 22 1 false := ⟨by kernel_rfl, by kernel_rfl⟩
theorem vt25 : VarTy Try.prog 25 1 false := ⟨by kernel_rfl, by kernel_rfl⟩
theorem vt78 : VarTy Try.prog 78 1 false := ⟨by kernel_rfl, by kernel_rfl⟩
theorem sl47 : SlTy Try.prog 47 78 1 := ⟨Try.underlying47, by kernel_rfl⟩
theorem sl52 : SlTy Try.prog 52 22 1 := ⟨Try.underlying52, by kernel_rfl⟩
theorem sl55 : SlTy Try.prog 55 25 1 := ⟨Try.underlying55, by kernel_rfl⟩
theorem sl78 : SlTy Try.prog 78 2 1 := ⟨Try.underlying78, by kernel_rfl⟩
theorem el47 : ElTy Try.prog 47 78 1 (.slice none 0 0) := ElTy.mk' Try.underlying47 (by kernel_rfl) (by rfl)
theorem el55 : ElTy Try.prog 55 25 1 (.slice none 0 0) := ElTy.mk' Try.underlying55 (by kernel_rfl) (by rfl)
theorem el78 : ElTy Try.prog 78 2 1 (.int .i64 (0)) := ElTy.mk' Try.underlying78 (by kernel_rfl) (by rfl)
theorem sz25 : pureRun Try.prog (sizeOf 25) = some 1 := by kernel_rfl

set_option maxRecDepth 100000 in
/-- spec.l01Corners -/
theorem c_spec_l01Corners {w0 : World} {l0 : List (Int × Int)} {A0 : Option Addr} {cap0 : Nat} {fp0 : List Nat} {r : (List (Int × Int))} (hm : m_spec_l01Corners l0 = some r) (F0 : Sl 2 encII w0 fp0 A0 l0) :
    Calls Try.prog 90 #[.slice A0 (l0).length cap0] w0 fun e w' => ∃ A100 cap100 fp100, e = .returned (.slice A100 (r).length cap100) ∧ Ow 2 encII 34 w' fp100 A100 cap100 r ∧ (∀ x ∈ fp100, w0.heap.size ≤ x) ∧ Chg [] w0 w' := by
  have L0 := F0.low
  have hB : Chg [] w0 w0 := Chg.refl _ _
  have hZ := Nat.le_refl w0.heap.size
  unfold m_spec_l01Corners at hm
  refine enterE (N := 34) Try.func90 (by rfl) Try.ntmps90 (by simp) [(0, .slice A0 (l0).length cap0)] (by rfl) (by kernel_rfl) (fun a => ?_)
  refine cW_seq ?_
  refine cW_region ?_
  refine wS_pure 1 [(2, .slice none 0 0)] (by kernel_rfl) ?_
  refine wS_end (by rfl) ?_
  refine eX_then ?_
  refine cW_seq ?_
  refine cW_region ?_
  refine wS_bs0 (α := Int × Int) (enc := encII) (d := 5) (t := 25) (T := 34) (by kernel_rfl) el25 ?_
  intro b2 w3 G4 F5 hc6
  replace F0 := F0.chg hc6 Dj.nil
  replace hB := hB.inS hc6 inNil
  replace G4 := Nat.le_trans hZ G4
  replace G4 := low1 G4
  replace hZ := Nat.le_trans hZ hc6.size
  refine wS_pure 1 [(3, .slice (some ⟨b2, 0, none⟩) (([] : List (Int × Int))).length 0)] (by kernel_rfl) ?_
  refine wS_end (by rfl) ?_
  refine eX_then ?_
  refine cW_seq ?_
  refine cW_seq ?_
  refine cW_region ?_
  refine wS_pure 1 [(4, .int .i64 (0))] (by kernel_rfl) ?_
  refine wS_end (by rfl) ?_
  refine eX_then ?_
  obtain ⟨r335, hr336, hm⟩ := bindE hm
  have hm337 := hm
  refine cW_cut (fun a' w' => ∃ l316 : List (Int × Int), ∃ A317 : Option Addr, ∃ cap318 : Nat, ∃ fp319 : List Nat, l316 = r335 ∧ Fr 34 [(3, .slice A317 (l316).length cap318)] a' ∧ Ow 2 encII 34 w' fp319 A317 cap318 l316 ∧ (∀ x ∈ fp319, w0.heap.size ≤ x) ∧ Chg [] w0 w' ∧ w0.heap.size ≤ w'.heap.size) ?_ ?_
  · refine cW_block ?_
    refine cW_loop _ (fun (s338 : (List (Int × Int)) × Int) a' w' => ∃ l325 : List (Int × Int), ∃ A326 : Option Addr, ∃ cap327 : Nat, ∃ fp328 : List Nat, ∃ x330 : Int, (l325, x330) = s338 ∧ Fr 34 [(0, .slice A0 (l0).length cap0), (3, .slice A326 (l325).length cap327), (4, .int .i64 (x330))] a' ∧ Sl 2 encII w' fp0 A0 l0 ∧ Ow 2 encII 34 w' fp328 A326 cap327 l325 ∧ (∀ x ∈ fp328, w0.heap.size ≤ x) ∧ Chg [] w0 w' ∧ w0.heap.size ≤ w'.heap.size) hr336 (fun hst => ⟨([] : List (Int × Int)), (some ⟨b2, 0, none⟩), 0, [b2], 0, rfl, Fr.of hst (by kernel_rfl), F0, F5, G4, hB, hZ⟩) ?_
    rintro _ c339 a' w324 ⟨l325, A326, cap327, fp328, x330, rfl, hF331, F332, F333, G334, hB, hZ⟩ hx340
    refine Fr.goOn hF331 (by kernel_rfl) ?_
    have hm := hx340
    unfold m_spec_l01Corners_s1 at hm
    refine cW_seq ?_
    refine cW_seq ?_
    refine cW_region ?_
    refine wS_pure 4 [(9, .bool (decide (x330 < (((l0).length : Int))))), (8, .int .i64 (((l0).length : Int))), (7, .slice A0 (l0).length cap0), (6, .int .i64 (x330))] (by kernel_rfl) ?_
    refine wS_end (by rfl) ?_
    refine eX_then ?_
    refine cW_cond (t := decide (x330 < (((l0).length : Int)))) (by kernel_rfl) (fun hb341 => ?_) (fun hb341 => ?_)
    · have hm := condT hb341 hm
      refine cW_skip ?_
      refine eX_then ?_
      refine cW_seq ?_
      refine cW_block ?_
      obtain ⟨s419, hs420, hm⟩ := bindE hm
      refine cW_cut (fun a' w' => ∃ l410 : List (Int × Int), ∃ A411 : Option Addr, ∃ cap412 : Nat, ∃ fp413 : List Nat, l410 = s419 ∧ Fr 34 [(0, .slice A0 (l0).length cap0), (3, .slice A411 (l410).length cap412), (4, .int .i64 (x330))] a' ∧ Sl 2 encII w' fp0 A0 l0 ∧ Ow 2 encII 34 w' fp413 A411 cap412 l410 ∧ (∀ x ∈ fp413, w0.heap.size ≤ x) ∧ Chg [] w0 w' ∧ w0.heap.size ≤ w'.heap.size) ?_ ?_
      · have hm := hs420
        refine cW_seq ?_
        refine cW_region ?_
        refine wS_pure 3 [(14, .bool (x330 == 0)), (13, .bool (x330 == 0)), (12, .int .i64 (x330))] (by kernel_rfl) ?_
        refine wS_bool (x330 == 0) (fun hb421 => ?_) (fun hb421 => ?_)
        · have hm := condT hb421 hm
          rewrite [hb421]
          refine wS_pure 11 [(25, .bool (true)), (24, undef), (23, undef), (22, undef), (21, .bool (true)), (20, .bool (true)), (19, undef), (18, undef), (17, undef), (16, undef), (15, undef)] (by kernel_rfl) ?_
          refine wS_end (by rfl) ?_
          refine eX_then ?_
          refine cW_cond_t (by kernel_rfl) ?_
          refine cW_region ?_
          refine wS_pure 3 [(28, .int .i64 (x330)), (27, .slice A0 (l0).length cap0), (26, .slice A326 (l325).length cap327)] (by kernel_rfl) ?_
          obtain ⟨x422, hx423, hm⟩ := bindE hm
          refine wS_idx (d := 29) (T := 25) (A := A0) (n := (l0).length) (cap := cap0) (kd := .i64) (m := x330) (by kernel_rfl) sl25 (F332.is hx423) ?_
          refine wS_loadA (d := 30) (T := 34) (ad := (elA A0 2 (x330) 0)) (vs := [.int .i64 (x422.1), .int .i64 (x422.2)]) (by kernel_rfl) vt34 (fun i u hu => Sl.cells_at F332 hx423 0 hu (by rfl)) ?_
          refine wS_bs (enc := encII) ([(x422.1, x422.2)] : List (Int × Int)) [.int .i64 (x422.1), .int .i64 (x422.2)] (d := 31) (t := 25) (T := 34) (n := 1) (ps := [(0, .agg #[.int .i64 (x422.1), .int .i64 (x422.2)])]) (by kernel_rfl) el25 encII_ok (by rfl) (by omega) (by omega) (by kernel_rfl) (by rfl) ?_
          intro b424 w425 G426 F427 hc428
          have D430 : Dj fp328 [b424] := Dj.of F333.low (low1 G426)
          replace F332 := F332.chg hc428 Dj.nil
          replace F333 := F333.chg hc428 Dj.nil
          replace hB := hB.inS hc428 inNil
          replace G426 := Nat.le_trans hZ G426
          replace G426 := low1 G426
          replace hZ := Nat.le_trans hZ hc428.size
          obtain ⟨_, hk431, hm⟩ := bindE hm
          replace hk431 := apE hk431
          refine wS_append (enc := encII) (l := (l325 : List (Int × Int))) (l2 := (([(x422.1, x422.2)] : List (Int × Int)) : List (Int × Int))) (d := 32) (t := 25) (T := 34) (A := A326) (A2 := (some ⟨b424, 0, none⟩)) (cap := cap327) (cap2 := 1) (by kernel_rfl) el25 encII_ok F333 (F427.sl encII_ok) (by rfl) hk431 ?_
          intro w432 fp433 A434 cap435 F436 hc437 hp438
          have G440 := low_ap G334 hZ hp438
          have D441 : Dj [b424] fp433 := Dj.ap (D430).symm F427.low hp438
          replace F332 := F332.chg hc437 (Dj.of L0 G334)
          replace F427 := F427.chg hc437 (D430).symm
          replace hB := hB.inS hc437 (inLow G334)
          replace hZ := Nat.le_trans hZ hc437.size
          refine wS_pure 1 [(3, .slice A434 (l325 ++ (([(x422.1, x422.2)] : List (Int × Int)))).length cap435)] (by kernel_rfl) ?_
          refine wS_end (by rfl) ?_
          have hq : (some (l325 ++ (([(x422.1, x422.2)] : List (Int × Int)))) : Option ((List (Int × Int)))) = some _ := hm
          replace hq := someE hq
          subst hq
          exact eX_J (fun hst => ⟨l325 ++ (([(x422.1, x422.2)] : List (Int × Int))), A434, cap435, fp433, rfl, Fr.of hst (by kernel_rfl), F332, F436, G440, hB, hZ⟩)
        · have hm := condF hb421 hm
          rewrite [hb421]
          refine wS_pure 7 [(21, .bool (x330 == (wr ((((l0).length : Int)) - 1)))), (20, .bool (x330 == (wr ((((l0).length : Int)) - 1)))), (19, .bool (x330 == (wr ((((l0).length : Int)) - 1)))), (18, .int .i64 (wr ((((l0).length : Int)) - 1))), (17, .int .i64 (((l0).length : Int))), (16, .slice A0 (l0).length cap0), (15, .int .i64 (x330))] (by kernel_rfl) ?_
          refine wS_bool (x330 == (wr ((((l0).length : Int)) - 1))) (fun hb442 => ?_) (fun hb442 => ?_)
          · have hm := condT hb442 hm
            rewrite [hb442]
            refine wS_pure 4 [(25, .bool (true)), (24, undef), (23, undef), (22, undef)] (by kernel_rfl) ?_
            refine wS_end (by rfl) ?_
            refine eX_then ?_
            refine cW_cond_t (by kernel_rfl) ?_
            refine cW_region ?_
            refine wS_pure 3 [(28, .int .i64 (x330)), (27, .slice A0 (l0).length cap0), (26, .slice A326 (l325).length cap327)] (by kernel_rfl) ?_
            obtain ⟨x443, hx444, hm⟩ := bindE hm
            refine wS_idx (d := 29) (T := 25) (A := A0) (n := (l0).length) (cap := cap0) (kd := .i64) (m := x330) (by kernel_rfl) sl25 (F332.is hx444) ?_
            refine wS_loadA (d := 30) (T := 34) (ad := (elA A0 2 (x330) 0)) (vs := [.int .i64 (x443.1), .int .i64 (x443.2)]) (by kernel_rfl) vt34 (fun i u hu => Sl.cells_at F332 hx444 0 hu (by rfl)) ?_
            refine wS_bs (enc := encII) ([(x443.1, x443.2)] : List (Int × Int)) [.int .i64 (x443.1), .int .i64 (x443.2)] (d := 31) (t := 25) (T := 34) (n := 1) (ps := [(0, .agg #[.int .i64 (x443.1), .int .i64 (x443.2)])]) (by kernel_rfl) el25 encII_ok (by rfl) (by omega) (by omega) (by kernel_rfl) (by rfl) ?_
            intro b445 w446 G447 F448 hc449
            have D451 : Dj fp328 [b445] := Dj.of F333.low (low1 G447)
            replace F332 := F332.chg hc449 Dj.nil
            replace F333 := F333.chg hc449 Dj.nil
            replace hB := hB.inS hc449 inNil
            replace G447 := Nat.le_trans hZ G447
            replace G447 := low1 G447
            replace hZ := Nat.le_trans hZ hc449.size
            obtain ⟨_, hk452, hm⟩ := bindE hm
            replace hk452 := apE hk452
            refine wS_append (enc := encII) (l := (l325 : List (Int × Int))) (l2 := (([(x443.1, x443.2)] : List (Int × Int)) : List (Int × Int))) (d := 32) (t := 25) (T := 34) (A := A326) (A2 := (some ⟨b445, 0, none⟩)) (cap := cap327) (cap2 := 1) (by kernel_rfl) el25 encII_ok F333 (F448.sl encII_ok) (by rfl) hk452 ?_
            intro w453 fp454 A455 cap456 F457 hc458 hp459
            have G461 := low_ap G334 hZ hp459
            have D462 : Dj [b445] fp454 := Dj.ap (D451).symm F448.low hp459
            replace F332 := F332.chg hc458 (Dj.of L0 G334)
            replace F448 := F448.chg hc458 (D451).symm
            replace hB := hB.inS hc458 (inLow G334)
            replace hZ := Nat.le_trans hZ hc458.size
            refine wS_pure 1 [(3, .slice A455 (l325 ++ (([(x443.1, x443.2)] : List (Int × Int)))).length cap456)] (by kernel_rfl) ?_
            refine wS_end (by rfl) ?_
            have hq : (some (l325 ++ (([(x443.1, x443.2)] : List (Int × Int)))) : Option ((List (Int × Int)))) = some _ := hm
            replace hq := someE hq
            subst hq
            exact eX_J (fun hst => ⟨l325 ++ (([(x443.1, x443.2)] : List (Int × Int))), A455, cap456, fp454, rfl, Fr.of hst (by kernel_rfl), F332, F457, G461, hB, hZ⟩)
          · have hm := condF hb442 hm
            rewrite [hb442]
            refine wS_pure 2 [(23, .int .i64 (x330)), (22, .slice A0 (l0).length cap0)] (by kernel_rfl) ?_
            obtain ⟨y463, hy464, hm⟩ := bindE hm
            refine wS_calls (d := 24) (f := 81) (vs := [.slice A0 (l0).length cap0, .int .i64 (x330)]) (by kernel_rfl) ent81 (c_spec_l01Bend hy464 F332) ?_
            rintro _ w465 ⟨rfl, hc466⟩
            replace F332 := F332.chg hc466 Dj.nil
            replace F333 := F333.chg hc466 Dj.nil
            replace hB := hB.inS hc466 inNil
            replace hZ := Nat.le_trans hZ hc466.size
            refine ⟨.bool (y463), rfl, ?_⟩
            refine wS_pure 1 [(25, .bool (y463))] (by kernel_rfl) ?_
            refine wS_end (by rfl) ?_
            refine eX_then ?_
            refine cW_cond (t := y463) (by kernel_rfl) (fun hb467 => ?_) (fun hb467 => ?_)
            · have hm := condT hb467 hm
              refine cW_region ?_
              refine wS_pure 3 [(28, .int .i64 (x330)), (27, .slice A0 (l0).length cap0), (26, .slice A326 (l325).length cap327)] (by kernel_rfl) ?_
              obtain ⟨x468, hx469, hm⟩ := bindE hm
              refine wS_idx (d := 29) (T := 25) (A := A0) (n := (l0).length) (cap := cap0) (kd := .i64) (m := x330) (by kernel_rfl) sl25 (F332.is hx469) ?_
              refine wS_loadA (d := 30) (T := 34) (ad := (elA A0 2 (x330) 0)) (vs := [.int .i64 (x468.1), .int .i64 (x468.2)]) (by kernel_rfl) vt34 (fun i u hu => Sl.cells_at F332 hx469 0 hu (by rfl)) ?_
              refine wS_bs (enc := encII) ([(x468.1, x468.2)] : List (Int × Int)) [.int .i64 (x468.1), .int .i64 (x468.2)] (d := 31) (t := 25) (T := 34) (n := 1) (ps := [(0, .agg #[.int .i64 (x468.1), .int .i64 (x468.2)])]) (by kernel_rfl) el25 encII_ok (by rfl) (by omega) (by omega) (by kernel_rfl) (by rfl) ?_
              intro b470 w471 G472 F473 hc474
              have D476 : Dj fp328 [b470] := Dj.of F333.low (low1 G472)
              replace F332 := F332.chg hc474 Dj.nil
              replace F333 := F333.chg hc474 Dj.nil
              replace hB := hB.inS hc474 inNil
              replace G472 := Nat.le_trans hZ G472
              replace G472 := low1 G472
              replace hZ := Nat.le_trans hZ hc474.size
              obtain ⟨_, hk477, hm⟩ := bindE hm
              replace hk477 := apE hk477
              refine wS_append (enc := encII) (l := (l325 : List (Int × Int))) (l2 := (([(x468.1, x468.2)] : List (Int × Int)) : List (Int × Int))) (d := 32) (t := 25) (T := 34) (A := A326) (A2 := (some ⟨b470, 0, none⟩)) (cap := cap327) (cap2 := 1) (by kernel_rfl) el25 encII_ok F333 (F473.sl encII_ok) (by rfl) hk477 ?_
              intro w478 fp479 A480 cap481 F482 hc483 hp484
              have G486 := low_ap G334 hZ hp484
              have D487 : Dj [b470] fp479 := Dj.ap (D476).symm F473.low hp484
              replace F332 := F332.chg hc483 (Dj.of L0 G334)
              replace F473 := F473.chg hc483 (D476).symm
              replace hB := hB.inS hc483 (inLow G334)
              replace hZ := Nat.le_trans hZ hc483.size
              refine wS_pure 1 [(3, .slice A480 (l325 ++ (([(x468.1, x468.2)] : List (Int × Int)))).length cap481)] (by kernel_rfl) ?_
              refine wS_end (by rfl) ?_
              have hq : (some (l325 ++ (([(x468.1, x468.2)] : List (Int × Int)))) : Option ((List (Int × Int)))) = some _ := hm
              replace hq := someE hq
              subst hq
              exact eX_J (fun hst => ⟨l325 ++ (([(x468.1, x468.2)] : List (Int × Int))), A480, cap481, fp479, rfl, Fr.of hst (by kernel_rfl), F332, F482, G486, hB, hZ⟩)
            · have hm := condF hb467 hm
              refine cW_skip ?_
              have hq : (some l325 : Option ((List (Int × Int)))) = some _ := hm
              replace hq := someE hq
              subst hq
              exact eX_J (fun hst => ⟨l325, A326, cap327, fp328, rfl, Fr.of hst (by kernel_rfl), F332, F333, G334, hB, hZ⟩)
      · rintro a' w409 ⟨l410, A411, cap412, fp413, hJ, hF415, F416, F417, G418, hB, hZ⟩
        subst hJ
        refine Fr.goX hF415 (by kernel_rfl) ?_
        refine eX_block ?_
        refine eX_then ?_
        refine cW_region ?_
        refine wS_pure 3 [(4, .int .i64 (wr (x330 + 1))), (11, .int .i64 (wr (x330 + 1))), (10, .int .i64 (x330))] (by kernel_rfl) ?_
        refine wS_end (by rfl) ?_
        have hq : (some (Ctl.next ((l410, wr (x330 + 1)))) : Option (Ctl ((List (Int × Int)) × Int) ((List (Int × Int))))) = some _ := hm
        replace hq := someE hq
        subst hq
        exact eX_next hx340 (fun hst => ⟨l410, A411, cap412, fp413, wr (x330 + 1), rfl, Fr.of hst (by kernel_rfl), F416, F417, G418, hB, hZ⟩)
    · have hm := condF hb341 hm
      refine cW_exit ?_
      refine eX_then_exit ?_
      have hq : (some (Ctl.out l325) : Option (Ctl ((List (Int × Int)) × Int) ((List (Int × Int))))) = some _ := hm
      replace hq := someE hq
      subst hq
      refine eX_outX hx340 (fun hr488 => ?_)
      replace hr488 := hr488.symm
      subst hr488
      refine eX_block_hit ?_
      exact eX_J (fun hst => ⟨l325, A326, cap327, fp328, rfl, Fr.of hst (by kernel_rfl), F333, G334, hB, hZ⟩)
  · rintro a' w315 ⟨l316, A317, cap318, fp319, hJ, hF321, F322, G323, hB, hZ⟩
    subst hJ
    refine Fr.goX hF321 (by kernel_rfl) ?_
    refine eX_then ?_
    refine cW_seq ?_
    refine cW_region ?_
    refine wS_pure 2 [(2, .slice A317 (l316).length cap318), (33, .slice A317 (l316).length cap318)] (by kernel_rfl) ?_
    refine wS_end (by rfl) ?_
    refine eX_then ?_
    refine cW_ret ?_
    have hq : (some l316 : Option ((List (Int × Int)))) = some _ := hm
    replace hq := someE hq
    subst hq
    refine eX_ret (vs := [.slice A317 (l316).length cap318]) [.tmp 2] (by rfl) ⟨by (show lkE _ _ _ = _); kernel_rfl, trivial⟩ ?_
    exact ⟨A317, cap318, fp319, rfl, F322, G323, hB⟩

set_option maxRecDepth 100000 in
/-- laws.eqInt64S -/
theorem c_laws_eqInt64S {w0 : World} {l0 : List (Int)} {A0 : Option Addr} {cap0 : Nat} {fp0 : List Nat} {l1 : List (Int)} {A1 : Option Addr} {cap1 : Nat} {fp1 : List Nat} {r : (Bool)} (hm : m_laws_eqInt64S l0 l1 = some r) (F0 : Sl 1 encI w0 fp0 A0 l0) (F1 : Sl 1 encI w0 fp1 A1 l1) :
    Calls Try.prog 107 #[.slice A0 (l0).length cap0, .slice A1 (l1).length cap1] w0 fun e w' => e = .returned (.bool (r)) ∧ Chg [] w0 w' := by
  have L0 := F0.low
  have L1 := F1.low
  have hB : Chg [] w0 w0 := Chg.refl _ _
  have hZ := Nat.le_refl w0.heap.size
  unfold m_laws_eqInt64S at hm
  refine enterE (N := 26) Try.func107 (by rfl) Try.ntmps107 (by simp) [(0, .slice A0 (l0).length cap0), (1, .slice A1 (l1).length cap1)] (by rfl) (by kernel_rfl) (fun a => ?_)
  refine cW_seq ?_
  refine cW_region ?_
  refine wS_pure 1 [(4, .bool (false))] (by kernel_rfl) ?_
  refine wS_end (by rfl) ?_
  refine eX_then ?_
  refine cW_seq ?_
  refine cW_seq ?_
  refine cW_region ?_
  refine wS_pure 5 [(10, .bool ((((l0).length : Int)) != (((l1).length : Int)))), (9, .int .i64 (((l1).length : Int))), (8, .slice A1 (l1).length cap1), (7, .int .i64 (((l0).length : Int))), (6, .slice A0 (l0).length cap0)] (by kernel_rfl) ?_
  refine wS_end (by rfl) ?_
  refine eX_then ?_
  refine cW_cond (t := (((l0).length : Int)) != (((l1).length : Int))) (by kernel_rfl) (fun hb3 => ?_) (fun hb3 => ?_)
  · have hm := condT hb3 hm
    refine cW_seq ?_
    refine cW_region ?_
    refine wS_pure 1 [(4, .bool (false))] (by kernel_rfl) ?_
    refine wS_end (by rfl) ?_
    refine eX_then ?_
    refine cW_ret ?_
    refine eX_then_ret ?_
    have hq : (some false : Option ((Bool))) = some _ := hm
    replace hq := someE hq
    subst hq
    refine eX_ret (vs := [.bool (false)]) [.tmp 4] (by rfl) ⟨by (show lkE _ _ _ = _); kernel_rfl, trivial⟩ ?_
    exact ⟨rfl, hB⟩
  · have hm := condF hb3 hm
    refine cW_skip ?_
    refine eX_then ?_
    refine cW_seq ?_
    refine cW_seq ?_
    refine cW_region ?_
    refine wS_pure 1 [(5, .int .i64 (0))] (by kernel_rfl) ?_
    refine wS_end (by rfl) ?_
    refine eX_then ?_
    obtain ⟨r54, hr55, hm⟩ := bindE hm
    have hm56 := hm
    refine cW_cut (fun a' w' => Sum.inl (()) = r54 ∧ Fr 26 [] a' ∧ Chg [] w0 w' ∧ w0.heap.size ≤ w'.heap.size) ?_ ?_
    · refine cW_block ?_
      refine cW_loop _ (fun (s57 : Int) a' w' => ∃ x50 : Int, x50 = s57 ∧ Fr 26 [(0, .slice A0 (l0).length cap0), (1, .slice A1 (l1).length cap1), (5, .int .i64 (x50))] a' ∧ Sl 1 encI w' fp0 A0 l0 ∧ Sl 1 encI w' fp1 A1 l1 ∧ Chg [] w0 w' ∧ w0.heap.size ≤ w'.heap.size) hr55 (fun hst => ⟨0, rfl, Fr.of hst (by kernel_rfl), F0, F1, hB, hZ⟩) ?_
      rintro _ c58 a' w49 ⟨x50, rfl, hF51, F52, F53, hB, hZ⟩ hx59
      refine Fr.goOn hF51 (by kernel_rfl) ?_
      have hm := hx59
      unfold m_laws_eqInt64S_s1 at hm
      refine cW_seq ?_
      refine cW_seq ?_
      refine cW_region ?_
      refine wS_pure 4 [(14, .bool (decide (x50 < (((l0).length : Int))))), (13, .int .i64 (((l0).length : Int))), (12, .slice A0 (l0).length cap0), (11, .int .i64 (x50))] (by kernel_rfl) ?_
      refine wS_end (by rfl) ?_
      refine eX_then ?_
      refine cW_cond (t := decide (x50 < (((l0).length : Int)))) (by kernel_rfl) (fun hb60 => ?_) (fun hb60 => ?_)
      · have hm := condT hb60 hm
        refine cW_skip ?_
        refine eX_then ?_
        refine cW_seq ?_
        refine cW_block ?_
        refine cW_seq ?_
        refine cW_drawnTail [] 8 (by kernel_rfl) (by kernel_rfl) (fun w69 hc70 => ?_)
        replace F52 := F52.chg hc70 Dj.nil
        replace F53 := F53.chg hc70 Dj.nil
        replace hB := hB.inS hc70 inNil
        replace hZ := Nat.le_trans hZ hc70.size
        have hS := Chg.refl [] w69
        have Z71 := F52
        have Z72 := F53
        refine wH_take [0, 1] [1, 0] [(18, .int .i64 (x50)), (17, .slice A0 (l0).length cap0)] (by kernel_rfl) (qT (qT (qB (qT (qL (qB (qT (qT qZ)))))))) (by kernel_rfl) ?_
        obtain ⟨x73, hx74, hm⟩ := bindE hm
        refine wH_idx (i := 2) (d := 19) (T := 78) (A := A0) (n := (l0).length) (cap := cap0) (kd := .i64) (m := x50) (by kernel_rfl) (qT (qT (qB (qT (qL (qB (qT (qT qZ)))))))) (by kernel_rfl) (by kernel_rfl) sl78 (F52.is hx74) ?_
        refine wH_load1 (i := 3) (d := 20) (T := 2) (ad := (elA A0 1 (x50) 0)) (v := .int .i64 (x73)) (by kernel_rfl) (qT (qT (qB (qT (qL (qB (qT (qT qZ)))))))) (by kernel_rfl) (by kernel_rfl) vt2 (fun W hW => Sl.cell (Z71.chg hW Dj.nil) hx74 0 (by rfl)) ?_
        refine wH_take [4, 5] [5, 4, 3, 2, 1, 0] [(22, .int .i64 (x50)), (21, .slice A1 (l1).length cap1)] (by kernel_rfl) (qT (qT (qB (qT (qL (qB (qT (qT qZ)))))))) (by kernel_rfl) ?_
        obtain ⟨x75, hx76, hm⟩ := bindE hm
        refine wH_idx (i := 6) (d := 23) (T := 78) (A := A1) (n := (l1).length) (cap := cap1) (kd := .i64) (m := x50) (by kernel_rfl) (qT (qT (qB (qT (qL (qB (qT (qT qZ)))))))) (by kernel_rfl) (by kernel_rfl) sl78 (F53.is hx76) ?_
        refine wH_load1 (i := 7) (d := 24) (T := 2) (ad := (elA A1 1 (x50) 0)) (v := .int .i64 (x75)) (by kernel_rfl) (qT (qT (qB (qT (qL (qB (qT (qT qZ)))))))) (by kernel_rfl) (by kernel_rfl) vt2 (fun W hW => Sl.cell (Z72.chg hW Dj.nil) hx76 0 (by rfl)) ?_
        refine wH_done (by kernel_rfl) ?_
        refine eX_tail ?_
        refine wS_pure 1 [(25, .bool (x73 != x75))] (by kernel_rfl) ?_
        refine wS_end (by rfl) ?_
        refine eX_then ?_
        refine cW_cond (t := x73 != x75) (by kernel_rfl) (fun hb77 => ?_) (fun hb77 => ?_)
        · have hm := condT hb77 hm
          refine cW_seq ?_
          refine cW_region ?_
          refine wS_pure 1 [(4, .bool (false))] (by kernel_rfl) ?_
          refine wS_end (by rfl) ?_
          refine eX_then ?_
          refine cW_ret ?_
          refine eX_block_ret ?_
          refine eX_then_ret ?_
          have hq : (some (Ctl.out (Sum.inr false)) : Option (Ctl (Int) (Sum (Unit) ((Bool))))) = some _ := hm
          replace hq := someE hq
          subst hq
          refine eX_outR hx59 (fun hr => ?_)
          subst hr
          refine eX_block_ret ?_
          refine eX_then_ret ?_
          refine eX_then_ret ?_
          have hq : (some false : Option ((Bool))) = some _ := hm56
          replace hq := someE hq
          subst hq
          refine eX_ret (vs := [.bool (false)]) [.tmp 4] (by rfl) ⟨by (show lkE _ _ _ = _); kernel_rfl, trivial⟩ ?_
          exact ⟨rfl, hB⟩
        · have hm := condF hb77 hm
          refine cW_skip ?_
          refine eX_block ?_
          refine eX_then ?_
          refine cW_region ?_
          refine wS_pure 3 [(5, .int .i64 (wr (x50 + 1))), (16, .int .i64 (wr (x50 + 1))), (15, .int .i64 (x50))] (by kernel_rfl) ?_
          refine wS_end (by rfl) ?_
          have hq : (some (Ctl.next (wr (x50 + 1))) : Option (Ctl (Int) (Sum (Unit) ((Bool))))) = some _ := hm
          replace hq := someE hq
          subst hq
          exact eX_next hx59 (fun hst => ⟨wr (x50 + 1), rfl, Fr.of hst (by kernel_rfl), F52, F53, hB, hZ⟩)
      · have hm := condF hb60 hm
        refine cW_exit ?_
        refine eX_then_exit ?_
        have hq : (some (Ctl.out (Sum.inl (()))) : Option (Ctl (Int) (Sum (Unit) ((Bool))))) = some _ := hm
        replace hq := someE hq
        subst hq
        refine eX_outX hx59 (fun hr78 => ?_)
        replace hr78 := hr78.symm
        subst hr78
        refine eX_block_hit ?_
        exact eX_J (fun hst => ⟨rfl, Fr.of hst (by kernel_rfl), hB, hZ⟩)
    · rintro a' w47 ⟨hJ, hF48, hB, hZ⟩
      subst hJ
      refine Fr.goX hF48 (by kernel_rfl) ?_
      refine eX_then ?_
      refine cW_seq ?_
      refine cW_region ?_
      refine wS_pure 1 [(4, .bool (true))] (by kernel_rfl) ?_
      refine wS_end (by rfl) ?_
      refine eX_then ?_
      refine cW_ret ?_
      have hq : (some true : Option ((Bool))) = some _ := hm
      replace hq := someE hq
      subst hq
      refine eX_ret (vs := [.bool (true)]) [.tmp 4] (by rfl) ⟨by (show lkE _ _ _ = _); kernel_rfl, trivial⟩ ?_
      exact ⟨rfl, hB⟩

set_option maxRecDepth 100000 in
/-- laws.eqInt64SS -/
theorem c_laws_eqInt64SS {w0 : World} {l0 : List (List (Int))} {A0 : Option Addr} {cap0 : Nat} {fp0 : List Nat} {l1 : List (List (Int))} {A1 : Option Addr} {cap1 : Nat} {fp1 : List Nat} {r : (Bool)} (hm : m_laws_eqInt64SS l0 l1 = some r) (F0 : SlR 1 encI w0 fp0 A0 l0) (F1 : SlR 1 encI w0 fp1 A1 l1) :
    Calls Try.prog 55 #[.slice A0 (l0).length cap0, .slice A1 (l1).length cap1] w0 fun e w' => e = .returned (.bool (r)) ∧ Chg [] w0 w' := by
  have L0 := F0.low
  have L1 := F1.low
  have hB : Chg [] w0 w0 := Chg.refl _ _
  have hZ := Nat.le_refl w0.heap.size
  unfold m_laws_eqInt64SS at hm
  refine enterE (N := 27) Try.func55 (by rfl) Try.ntmps55 (by simp) [(0, .slice A0 (l0).length cap0), (1, .slice A1 (l1).length cap1)] (by rfl) (by kernel_rfl) (fun a => ?_)
  refine cW_seq ?_
  refine cW_region ?_
  refine wS_pure 1 [(4, .bool (false))] (by kernel_rfl) ?_
  refine wS_end (by rfl) ?_
  refine eX_then ?_
  refine cW_seq ?_
  refine cW_seq ?_
  refine cW_region ?_
  refine wS_pure 5 [(10, .bool ((((l0).length : Int)) != (((l1).length : Int)))), (9, .int .i64 (((l1).length : Int))), (8, .slice A1 (l1).length cap1), (7, .int .i64 (((l0).length : Int))), (6, .slice A0 (l0).length cap0)] (by kernel_rfl) ?_
  refine wS_end (by rfl) ?_
  refine eX_then ?_
  refine cW_cond (t := (((l0).length : Int)) != (((l1).length : Int))) (by kernel_rfl) (fun hb3 => ?_) (fun hb3 => ?_)
  · have hm := condT hb3 hm
    refine cW_seq ?_
    refine cW_region ?_
    refine wS_pure 1 [(4, .bool (false))] (by kernel_rfl) ?_
    refine wS_end (by rfl) ?_
    refine eX_then ?_
    refine cW_ret ?_
    refine eX_then_ret ?_
    have hq : (some false : Option ((Bool))) = some _ := hm
    replace hq := someE hq
    subst hq
    refine eX_ret (vs := [.bool (false)]) [.tmp 4] (by rfl) ⟨by (show lkE _ _ _ = _); kernel_rfl, trivial⟩ ?_
    exact ⟨rfl, hB⟩
  · have hm := condF hb3 hm
    refine cW_skip ?_
    refine eX_then ?_
    refine cW_seq ?_
    refine cW_seq ?_
    refine cW_region ?_
    refine wS_pure 1 [(5, .int .i64 (0))] (by kernel_rfl) ?_
    refine wS_end (by rfl) ?_
    refine eX_then ?_
    obtain ⟨r118, hr119, hm⟩ := bindE hm
    have hm120 := hm
    refine cW_cut (fun a' w' => Sum.inl (()) = r118 ∧ Fr 27 [] a' ∧ Chg [] w0 w' ∧ w0.heap.size ≤ w'.heap.size) ?_ ?_
    · refine cW_block ?_
      refine cW_loop _ (fun (s121 : Int) a' w' => ∃ x114 : Int, x114 = s121 ∧ Fr 27 [(0, .slice A0 (l0).length cap0), (1, .slice A1 (l1).length cap1), (5, .int .i64 (x114))] a' ∧ SlR 1 encI w' fp0 A0 l0 ∧ SlR 1 encI w' fp1 A1 l1 ∧ Chg [] w0 w' ∧ w0.heap.size ≤ w'.heap.size) hr119 (fun hst => ⟨0, rfl, Fr.of hst (by kernel_rfl), F0, F1, hB, hZ⟩) ?_
      rintro _ c122 a' w113 ⟨x114, rfl, hF115, F116, F117, hB, hZ⟩ hx123
      refine Fr.goOn hF115 (by kernel_rfl) ?_
      have hm := hx123
      unfold m_laws_eqInt64SS_s1 at hm
      refine cW_seq ?_
      refine cW_seq ?_
      refine cW_region ?_
      refine wS_pure 4 [(14, .bool (decide (x114 < (((l0).length : Int))))), (13, .int .i64 (((l0).length : Int))), (12, .slice A0 (l0).length cap0), (11, .int .i64 (x114))] (by kernel_rfl) ?_
      refine wS_end (by rfl) ?_
      refine eX_then ?_
      refine cW_cond (t := decide (x114 < (((l0).length : Int)))) (by kernel_rfl) (fun hb124 => ?_) (fun hb124 => ?_)
      · have hm := condT hb124 hm
        refine cW_skip ?_
        refine eX_then ?_
        refine cW_seq ?_
        refine cW_block ?_
        refine cW_seq ?_
        refine cW_drawnTail [] 8 (by kernel_rfl) (by kernel_rfl) (fun w149 hc150 => ?_)
        replace F116 := F116.chg hc150 Dj.nil
        replace F117 := F117.chg hc150 Dj.nil
        replace hB := hB.inS hc150 inNil
        replace hZ := Nat.le_trans hZ hc150.size
        have hS := Chg.refl [] w149
        have Z151 := F116
        have Z152 := F117
        refine wH_take [0, 1] [1, 0] [(18, .int .i64 (x114)), (17, .slice A0 (l0).length cap0)] (by kernel_rfl) (qT (qT (qB (qT (qL (qB (qT (qT qZ)))))))) (by kernel_rfl) ?_
        obtain ⟨x153, hx154, hm⟩ := bindE hm
        refine wH_idx (i := 2) (d := 19) (T := 47) (A := A0) (n := (l0).length) (cap := cap0) (kd := .i64) (m := x114) (by kernel_rfl) (qT (qT (qB (qT (qL (qB (qT (qT qZ)))))))) (by kernel_rfl) (by kernel_rfl) sl47 (F116.is hx154) ?_
        obtain ⟨A155, cap156, hc158, F157, K159⟩ := SlR.row Z151 hx154
        refine wH_load1 (i := 3) (d := 20) (T := 78) (ad := (elA A0 1 (x114) 0)) (v := .slice A155 (x153).length cap156) (by kernel_rfl) (qT (qT (qB (qT (qL (qB (qT (qT qZ)))))))) (by kernel_rfl) (by kernel_rfl) vt78 (fun W hW => hW.keep hc158) ?_
        refine wH_take [4, 5] [5, 4, 3, 2, 1, 0] [(22, .int .i64 (x114)), (21, .slice A1 (l1).length cap1)] (by kernel_rfl) (qT (qT (qB (qT (qL (qB (qT (qT qZ)))))))) (by kernel_rfl) ?_
        obtain ⟨x161, hx162, hm⟩ := bindE hm
        refine wH_idx (i := 6) (d := 23) (T := 47) (A := A1) (n := (l1).length) (cap := cap1) (kd := .i64) (m := x114) (by kernel_rfl) (qT (qT (qB (qT (qL (qB (qT (qT qZ)))))))) (by kernel_rfl) (by kernel_rfl) sl47 (F117.is hx162) ?_
        obtain ⟨A163, cap164, hc166, F165, K167⟩ := SlR.row Z152 hx162
        refine wH_load1 (i := 7) (d := 24) (T := 78) (ad := (elA A1 1 (x114) 0)) (v := .slice A163 (x161).length cap164) (by kernel_rfl) (qT (qT (qB (qT (qL (qB (qT (qT qZ)))))))) (by kernel_rfl) (by kernel_rfl) vt78 (fun W hW => hW.keep hc166) ?_
        refine wH_done (by kernel_rfl) ?_
        refine eX_tail ?_
        obtain ⟨y169, hy170, hm⟩ := bindE hm
        refine wS_calls (d := 25) (f := 107) (vs := [.slice A155 (x153).length cap156, .slice A163 (x161).length cap164]) (by kernel_rfl) ent107 (c_laws_eqInt64S hy170 F157 F165) ?_
        rintro _ w171 ⟨rfl, hc172⟩
        replace F116 := F116.chg hc172 Dj.nil
        replace F117 := F117.chg hc172 Dj.nil
        replace F157 := F157.chg hc172 Dj.nil
        replace F165 := F165.chg hc172 Dj.nil
        replace hB := hB.inS hc172 inNil
        replace hZ := Nat.le_trans hZ hc172.size
        refine ⟨.bool (y169), rfl, ?_⟩
        refine wS_pure 1 [(26, .bool (!y169))] (by kernel_rfl) ?_
        refine wS_end (by rfl) ?_
        refine eX_then ?_
        refine cW_cond (t := !y169) (by kernel_rfl) (fun hb173 => ?_) (fun hb173 => ?_)
        · have hm := condT hb173 hm
          refine cW_seq ?_
          refine cW_region ?_
          refine wS_pure 1 [(4, .bool (false))] (by kernel_rfl) ?_
          refine wS_end (by rfl) ?_
          refine eX_then ?_
          refine cW_ret ?_
          refine eX_block_ret ?_
          refine eX_then_ret ?_
          have hq : (some (Ctl.out (Sum.inr false)) : Option (Ctl (Int) (Sum (Unit) ((Bool))))) = some _ := hm
          replace hq := someE hq
          subst hq
          refine eX_outR hx123 (fun hr => ?_)
          subst hr
          refine eX_block_ret ?_
          refine eX_then_ret ?_
          refine eX_then_ret ?_
          have hq : (some false : Option ((Bool))) = some _ := hm120
          replace hq := someE hq
          subst hq
          refine eX_ret (vs := [.bool (false)]) [.tmp 4] (by rfl) ⟨by (show lkE _ _ _ = _); kernel_rfl, trivial⟩ ?_
          exact ⟨rfl, hB⟩
        · have hm := condF hb173 hm
          refine cW_skip ?_
          refine eX_block ?_
          refine eX_then ?_
          refine cW_region ?_
          refine wS_pure 3 [(5, .int .i64 (wr (x114 + 1))), (16, .int .i64 (wr (x114 + 1))), (15, .int .i64 (x114))] (by kernel_rfl) ?_
          refine wS_end (by rfl) ?_
          have hq : (some (Ctl.next (wr (x114 + 1))) : Option (Ctl (Int) (Sum (Unit) ((Bool))))) = some _ := hm
          replace hq := someE hq
          subst hq
          exact eX_next hx123 (fun hst => ⟨wr (x114 + 1), rfl, Fr.of hst (by kernel_rfl), F116, F117, hB, hZ⟩)
      · have hm := condF hb124 hm
        refine cW_exit ?_
        refine eX_then_exit ?_
        have hq : (some (Ctl.out (Sum.inl (()))) : Option (Ctl (Int) (Sum (Unit) ((Bool))))) = some _ := hm
        replace hq := someE hq
        subst hq
        refine eX_outX hx123 (fun hr174 => ?_)
        replace hr174 := hr174.symm
        subst hr174
        refine eX_block_hit ?_
        exact eX_J (fun hst => ⟨rfl, Fr.of hst (by kernel_rfl), hB, hZ⟩)
    · rintro a' w111 ⟨hJ, hF112, hB, hZ⟩
      subst hJ
      refine Fr.goX hF112 (by kernel_rfl) ?_
      refine eX_then ?_
      refine cW_seq ?_
      refine cW_region ?_
      refine wS_pure 1 [(4, .bool (true))] (by kernel_rfl) ?_
      refine wS_end (by rfl) ?_
      refine eX_then ?_
      refine cW_ret ?_
      have hq : (some true : Option ((Bool))) = some _ := hm
      replace hq := someE hq
      subst hq
      refine eX_ret (vs := [.bool (true)]) [.tmp 4] (by rfl) ⟨by (show lkE _ _ _ = _); kernel_rfl, trivial⟩ ?_
      exact ⟨rfl, hB⟩

set_option maxRecDepth 100000 in
/-- laws.markInt64S -/
theorem c_laws_markInt64S {w0 : World} {l0 : List (Int)} {A0 : Option Addr} {cap0 : Nat} {fp0 : List Nat} {p1 : Int} {r : (Int) × (List (Int))} (hm : m_laws_markInt64S l0 p1 = some r) (F0 : Ow 1 encI 2 w0 fp0 A0 cap0 l0) :
    Calls Try.prog 108 #[.slice A0 (l0).length cap0, .int .i64 (p1)] w0 fun e w' => e = .returned (.int .i64 (r.1)) ∧ Ow 1 encI 2 w' fp0 A0 cap0 r.2 ∧ (r.2).length = (l0).length ∧ Chg (fp0 ++ []) w0 w' := by
  have L0 := F0.low
  have hB : Chg (fp0 ++ []) w0 w0 := Chg.refl _ _
  have hZ := Nat.le_refl w0.heap.size
  unfold m_laws_markInt64S at hm
  refine enterE (N := 19) Try.func108 (by rfl) Try.ntmps108 (by simp) [(0, .slice A0 (l0).length cap0), (1, .int .i64 (p1))] (by rfl) (by kernel_rfl) (fun a => ?_)
  refine cW_seq ?_
  refine cW_region ?_
  refine wS_pure 1 [(4, .int .i64 (0))] (by kernel_rfl) ?_
  refine wS_end (by rfl) ?_
  refine eX_then ?_
  refine cW_seq ?_
  refine cW_seq ?_
  refine cW_region ?_
  refine wS_pure 1 [(5, .int .i64 (0))] (by kernel_rfl) ?_
  refine wS_end (by rfl) ?_
  refine eX_then ?_
  obtain ⟨r37, hr38, hm⟩ := bindE hm
  have hm39 := hm
  refine cW_cut (fun a' w' => ∃ x25 : Int, ∃ l26 : List (Int), (x25, l26) = r37 ∧ Fr 19 [(1, .int .i64 (x25))] a' ∧ Ow 1 encI 2 w' fp0 A0 cap0 l26 ∧ (l26).length = (l0).length ∧ Chg (fp0 ++ []) w0 w' ∧ w0.heap.size ≤ w'.heap.size) ?_ ?_
  · refine cW_block ?_
    refine cW_loop _ (fun (s40 : Int × Int × (List (Int))) a' w' => ∃ x31 : Int, ∃ x32 : Int, ∃ l33 : List (Int), (x31, x32, l33) = s40 ∧ Fr 19 [(0, .slice A0 (l33).length cap0), (1, .int .i64 (x31)), (5, .int .i64 (x32))] a' ∧ Ow 1 encI 2 w' fp0 A0 cap0 l33 ∧ (l33).length = (l0).length ∧ Chg (fp0 ++ []) w0 w' ∧ w0.heap.size ≤ w'.heap.size) hr38 (fun hst => ⟨p1, 0, l0, rfl, Fr.of hst (by kernel_rfl), F0, (Eq.refl (l0).length), hB, hZ⟩) ?_
    rintro _ c41 a' w30 ⟨x31, x32, l33, rfl, hF34, F35, hl36, hB, hZ⟩ hx42
    refine Fr.goOn hF34 (by kernel_rfl) ?_
    have hm := hx42
    unfold m_laws_markInt64S_s1 at hm
    refine cW_seq ?_
    refine cW_seq ?_
    refine cW_region ?_
    refine wS_pure 4 [(9, .bool (decide (x32 < (((l33).length : Int))))), (8, .int .i64 (((l33).length : Int))), (7, .slice A0 (l33).length cap0), (6, .int .i64 (x32))] (by kernel_rfl) ?_
    refine wS_end (by rfl) ?_
    refine eX_then ?_
    refine cW_cond (t := decide (x32 < (((l33).length : Int)))) (by kernel_rfl) (fun hb43 => ?_) (fun hb43 => ?_)
    · have hm := condT hb43 hm
      refine cW_skip ?_
      refine eX_then ?_
      refine cW_seq ?_
      refine cW_block ?_
      refine cW_seq ?_
      refine cW_region ?_
      refine wS_pure 3 [(14, .int .i64 (x31)), (13, .int .i64 (x32)), (12, .slice A0 (l33).length cap0)] (by kernel_rfl) ?_
      obtain ⟨x44, hx45, hm⟩ := bindE hm
      refine wS_idx (d := 15) (T := 78) (A := A0) (n := (l33).length) (cap := cap0) (kd := .i64) (m := x32) (by kernel_rfl) sl78 ((F35.sl encI_ok).is hx45) ?_
      refine wS_storeEl (x := x44) x31 (T := 2) (U := 2) (cap := cap0) (j := 0) (A := A0) (v := .int .i64 (x31)) (vs := [.int .i64 (x31)]) (m := x32) (by kernel_rfl) (by rfl) sz2 (by rfl) encI_ok F35 hx45 (by simp only [List.length_cons, List.length_nil]; omega) (by rfl) ?_
      intro w46 F47 hc48
      replace hB := hB.inS hc48 (inMem (fun x hx => (List.mem_append_left _ hx)))
      replace hZ := Nat.le_trans hZ hc48.size
      clear F35
      have hl49 := (show (l33.set (Int.toNat x32) x31).length = (l33).length from List.length_set ..).trans hl36
      rewrite [show (l33).length = (l33.set (Int.toNat x32) x31).length from (List.length_set ..).symm]
      refine wS_end (by rfl) ?_
      refine eX_then ?_
      refine cW_region ?_
      refine wS_pure 3 [(1, .int .i64 (wr (x31 + 1))), (17, .int .i64 (wr (x31 + 1))), (16, .int .i64 (x31))] (by kernel_rfl) ?_
      refine wS_end (by rfl) ?_
      refine eX_block ?_
      refine eX_then ?_
      refine cW_region ?_
      refine wS_pure 3 [(5, .int .i64 (wr (x32 + 1))), (11, .int .i64 (wr (x32 + 1))), (10, .int .i64 (x32))] (by kernel_rfl) ?_
      refine wS_end (by rfl) ?_
      have hq : (some (Ctl.next ((wr (x31 + 1), wr (x32 + 1), l33.set (Int.toNat x32) x31))) : Option (Ctl (Int × Int × (List (Int))) (Int × (List (Int))))) = some _ := hm
      replace hq := someE hq
      subst hq
      exact eX_next hx42 (fun hst => ⟨wr (x31 + 1), wr (x32 + 1), l33.set (Int.toNat x32) x31, rfl, Fr.of hst (by kernel_rfl), F47, hl49, hB, hZ⟩)
    · have hm := condF hb43 hm
      refine cW_exit ?_
      refine eX_then_exit ?_
      have hq : (some (Ctl.out ((x31, l33))) : Option (Ctl (Int × Int × (List (Int))) (Int × (List (Int))))) = some _ := hm
      replace hq := someE hq
      subst hq
      refine eX_outX hx42 (fun hr50 => ?_)
      replace hr50 := hr50.symm
      subst hr50
      refine eX_block_hit ?_
      exact eX_J (fun hst => ⟨x31, l33, rfl, Fr.of hst (by kernel_rfl), F35, hl36, hB, hZ⟩)
  · rintro a' w24 ⟨x25, l26, hJ, hF27, F28, hl29, hB, hZ⟩
    subst hJ
    refine Fr.goX hF27 (by kernel_rfl) ?_
    refine eX_then ?_
    refine cW_seq ?_
    refine cW_region ?_
    refine wS_pure 2 [(4, .int .i64 (x25)), (18, .int .i64 (x25))] (by kernel_rfl) ?_
    refine wS_end (by rfl) ?_
    refine eX_then ?_
    refine cW_ret ?_
    have hq : (some ((x25, l26)) : Option ((Int) × (List (Int)))) = some _ := hm
    replace hq := someE hq
    subst hq
    refine eX_ret (vs := [.int .i64 (x25)]) [.tmp 4] (by rfl) ⟨by (show lkE _ _ _ = _); kernel_rfl, trivial⟩ ?_
    exact ⟨rfl, F28, hl29, hB⟩

set_option maxRecDepth 100000 in
/-- laws.markInt64SS -/
theorem c_laws_markInt64SS {w0 : World} {l0 : List (List (Int))} {A0 : Option Addr} {cap0 : Nat} {fp0 fr0 : List Nat} {p1 : Int} {r : (Int) × (List (List (Int)))} (hm : m_laws_markInt64SS l0 p1 = some r) (F0 : OwR 1 encI 78 2 w0 fp0 fr0 A0 cap0 l0) :
    Calls Try.prog 56 #[.slice A0 (l0).length cap0, .int .i64 (p1)] w0 fun e w' => e = .returned (.int .i64 (r.1)) ∧ OwR 1 encI 78 2 w' fp0 fr0 A0 cap0 r.2 ∧ (r.2).length = (l0).length ∧ Chg ((fp0 ++ fr0) ++ []) w0 w' := by
  have L0 := F0.low
  have hB : Chg ((fp0 ++ fr0) ++ []) w0 w0 := Chg.refl _ _
  have hZ := Nat.le_refl w0.heap.size
  unfold m_laws_markInt64SS at hm
  refine enterE (N := 19) Try.func56 (by rfl) Try.ntmps56 (by simp) [(0, .slice A0 (l0).length cap0), (1, .int .i64 (p1))] (by rfl) (by kernel_rfl) (fun a => ?_)
  refine cW_seq ?_
  refine cW_region ?_
  refine wS_pure 1 [(4, .int .i64 (0))] (by kernel_rfl) ?_
  refine wS_end (by rfl) ?_
  refine eX_then ?_
  refine cW_seq ?_
  refine cW_seq ?_
  refine cW_region ?_
  refine wS_pure 1 [(5, .int .i64 (0))] (by kernel_rfl) ?_
  refine wS_end (by rfl) ?_
  refine eX_then ?_
  obtain ⟨r67, hr68, hm⟩ := bindE hm
  have hm69 := hm
  refine cW_cut (fun a' w' => ∃ x55 : Int, ∃ l56 : List (List (Int)), (x55, l56) = r67 ∧ Fr 19 [(1, .int .i64 (x55))] a' ∧ OwR 1 encI 78 2 w' fp0 fr0 A0 cap0 l56 ∧ (l56).length = (l0).length ∧ Chg ((fp0 ++ fr0) ++ []) w0 w' ∧ w0.heap.size ≤ w'.heap.size) ?_ ?_
  · refine cW_block ?_
    refine cW_loop _ (fun (s70 : Int × Int × (List (List (Int)))) a' w' => ∃ x61 : Int, ∃ x62 : Int, ∃ l63 : List (List (Int)), (x61, x62, l63) = s70 ∧ Fr 19 [(0, .slice A0 (l63).length cap0), (1, .int .i64 (x61)), (5, .int .i64 (x62))] a' ∧ OwR 1 encI 78 2 w' fp0 fr0 A0 cap0 l63 ∧ (l63).length = (l0).length ∧ Chg ((fp0 ++ fr0) ++ []) w0 w' ∧ w0.heap.size ≤ w'.heap.size) hr68 (fun hst => ⟨p1, 0, l0, rfl, Fr.of hst (by kernel_rfl), F0, (Eq.refl (l0).length), hB, hZ⟩) ?_
    rintro _ c71 a' w60 ⟨x61, x62, l63, rfl, hF64, F65, hl66, hB, hZ⟩ hx72
    refine Fr.goOn hF64 (by kernel_rfl) ?_
    have hm := hx72
    unfold m_laws_markInt64SS_s1 at hm
    refine cW_seq ?_
    refine cW_seq ?_
    refine cW_region ?_
    refine wS_pure 4 [(9, .bool (decide (x62 < (((l63).length : Int))))), (8, .int .i64 (((l63).length : Int))), (7, .slice A0 (l63).length cap0), (6, .int .i64 (x62))] (by kernel_rfl) ?_
    refine wS_end (by rfl) ?_
    refine eX_then ?_
    refine cW_cond (t := decide (x62 < (((l63).length : Int)))) (by kernel_rfl) (fun hb73 => ?_) (fun hb73 => ?_)
    · have hm := condT hb73 hm
      refine cW_skip ?_
      refine eX_then ?_
      refine cW_seq ?_
      refine cW_block ?_
      refine cW_region ?_
      refine wS_pure 2 [(13, .int .i64 (x62)), (12, .slice A0 (l63).length cap0)] (by kernel_rfl) ?_
      obtain ⟨x74, hx75, hm⟩ := bindE hm
      refine wS_idx (d := 14) (T := 47) (A := A0) (n := (l63).length) (cap := cap0) (kd := .i64) (m := x62) (by kernel_rfl) sl47 ((F65.slr encI_ok).is hx75) ?_
      obtain ⟨A76, cap77, fp81, hc79, hsub82, F78, hcl83⟩ := OwR.lend F65 hx75
      have Dm85 := (F65.dj).symm
      refine wS_load1 (d := 15) (T := 78) (ad := (elA A0 1 (x62) 0)) (v := .slice A76 (x74).length cap77) (by kernel_rfl) vt78 hc79 ?_
      refine wS_pure 1 [(16, .int .i64 (x61))] (by kernel_rfl) ?_
      obtain ⟨y86, hy87, hm⟩ := bindE hm
      refine wS_calls (d := 17) (f := 108) (vs := [.slice A76 (x74).length cap77, .int .i64 (x61)]) (by kernel_rfl) ent108 (c_laws_markInt64S hy87 F78) ?_
      rintro _ w88 ⟨rfl, F90, hl91, hc89⟩
      have F92 := hcl83 _ _ (hc89.more (fun x hx => by simpa using hx)) F90 hl91
      have hc93 := hc89.more (S' := (fp0 ++ fr0) ++ []) (fun x hx => List.mem_append_left _ (hsub82 x (by simpa using hx)))
      have hl94 := (show (l63.set (Int.toNat x62) y86.2).length = (l63).length from List.length_set ..).trans hl66
      clear F65
      replace hB := hB.inS hc93 (inApp (inMem (fun x hx => (List.mem_append_left _ hx))) inNil)
      replace hZ := Nat.le_trans hZ hc93.size
      refine ⟨.int .i64 (y86.1), rfl, ?_⟩
      rewrite [(show (l63).length = (l63.set (Int.toNat x62) y86.2).length from (List.length_set ..).symm)]
      refine wS_pure 1 [(1, .int .i64 (y86.1))] (by kernel_rfl) ?_
      refine wS_end (by rfl) ?_
      refine eX_block ?_
      refine eX_then ?_
      refine cW_region ?_
      refine wS_pure 3 [(5, .int .i64 (wr (x62 + 1))), (11, .int .i64 (wr (x62 + 1))), (10, .int .i64 (x62))] (by kernel_rfl) ?_
      refine wS_end (by rfl) ?_
      have hq : (some (Ctl.next ((y86.1, wr (x62 + 1), l63.set (Int.toNat x62) y86.2))) : Option (Ctl (Int × Int × (List (List (Int)))) (Int × (List (List (Int)))))) = some _ := hm
      replace hq := someE hq
      subst hq
      exact eX_next hx72 (fun hst => ⟨y86.1, wr (x62 + 1), l63.set (Int.toNat x62) y86.2, rfl, Fr.of hst (by kernel_rfl), F92, hl94, hB, hZ⟩)
    · have hm := condF hb73 hm
      refine cW_exit ?_
      refine eX_then_exit ?_
      have hq : (some (Ctl.out ((x61, l63))) : Option (Ctl (Int × Int × (List (List (Int)))) (Int × (List (List (Int)))))) = some _ := hm
      replace hq := someE hq
      subst hq
      refine eX_outX hx72 (fun hr95 => ?_)
      replace hr95 := hr95.symm
      subst hr95
      refine eX_block_hit ?_
      exact eX_J (fun hst => ⟨x61, l63, rfl, Fr.of hst (by kernel_rfl), F65, hl66, hB, hZ⟩)
  · rintro a' w54 ⟨x55, l56, hJ, hF57, F58, hl59, hB, hZ⟩
    subst hJ
    refine Fr.goX hF57 (by kernel_rfl) ?_
    refine eX_then ?_
    refine cW_seq ?_
    refine cW_region ?_
    refine wS_pure 2 [(4, .int .i64 (x55)), (18, .int .i64 (x55))] (by kernel_rfl) ?_
    refine wS_end (by rfl) ?_
    refine eX_then ?_
    refine cW_ret ?_
    have hq : (some ((x55, l56)) : Option ((Int) × (List (List (Int))))) = some _ := hm
    replace hq := someE hq
    subst hq
    refine eX_ret (vs := [.int .i64 (x55)]) [.tmp 4] (by rfl) ⟨by (show lkE _ _ _ = _); kernel_rfl, trivial⟩ ?_
    exact ⟨rfl, F58, hl59, hB⟩

set_option maxRecDepth 100000 in
/-- laws.heldInt64S -/
theorem c_laws_heldInt64S {w0 : World} {l0 : List (Int)} {A0 : Option Addr} {cap0 : Nat} {fp0 : List Nat} {p1 : Int} {r : (Int)} (hm : m_laws_heldInt64S l0 p1 = some r) (F0 : Sl 1 encI w0 fp0 A0 l0) :
    Calls Try.prog 109 #[.slice A0 (l0).length cap0, .int .i64 (p1)] w0 fun e w' => e = .returned (.int .i64 (r)) ∧ Chg [] w0 w' := by
  have L0 := F0.low
  have hB : Chg [] w0 w0 := Chg.refl _ _
  have hZ := Nat.le_refl w0.heap.size
  unfold m_laws_heldInt64S at hm
  refine enterE (N := 21) Try.func109 (by rfl) Try.ntmps109 (by simp) [(0, .slice A0 (l0).length cap0), (1, .int .i64 (p1))] (by rfl) (by kernel_rfl) (fun a => ?_)
  refine cW_seq ?_
  refine cW_region ?_
  refine wS_pure 1 [(4, .int .i64 (0))] (by kernel_rfl) ?_
  refine wS_end (by rfl) ?_
  refine eX_then ?_
  refine cW_seq ?_
  refine cW_seq ?_
  refine cW_region ?_
  refine wS_pure 1 [(5, .int .i64 (0))] (by kernel_rfl) ?_
  refine wS_end (by rfl) ?_
  refine eX_then ?_
  obtain ⟨r24, hr25, hm⟩ := bindE hm
  have hm26 := hm
  refine cW_cut (fun a' w' => ∃ x17 : Int, Sum.inl x17 = r24 ∧ Fr 21 [(1, .int .i64 (x17))] a' ∧ Chg [] w0 w' ∧ w0.heap.size ≤ w'.heap.size) ?_ ?_
  · refine cW_block ?_
    refine cW_loop _ (fun (s27 : Int × Int) a' w' => ∃ x20 : Int, ∃ x21 : Int, (x20, x21) = s27 ∧ Fr 21 [(0, .slice A0 (l0).length cap0), (1, .int .i64 (x20)), (5, .int .i64 (x21))] a' ∧ Sl 1 encI w' fp0 A0 l0 ∧ Chg [] w0 w' ∧ w0.heap.size ≤ w'.heap.size) hr25 (fun hst => ⟨p1, 0, rfl, Fr.of hst (by kernel_rfl), F0, hB, hZ⟩) ?_
    rintro _ c28 a' w19 ⟨x20, x21, rfl, hF22, F23, hB, hZ⟩ hx29
    refine Fr.goOn hF22 (by kernel_rfl) ?_
    have hm := hx29
    unfold m_laws_heldInt64S_s1 at hm
    refine cW_seq ?_
    refine cW_seq ?_
    refine cW_region ?_
    refine wS_pure 4 [(9, .bool (decide (x21 < (((l0).length : Int))))), (8, .int .i64 (((l0).length : Int))), (7, .slice A0 (l0).length cap0), (6, .int .i64 (x21))] (by kernel_rfl) ?_
    refine wS_end (by rfl) ?_
    refine eX_then ?_
    refine cW_cond (t := decide (x21 < (((l0).length : Int)))) (by kernel_rfl) (fun hb30 => ?_) (fun hb30 => ?_)
    · have hm := condT hb30 hm
      refine cW_skip ?_
      refine eX_then ?_
      refine cW_seq ?_
      refine cW_block ?_
      refine cW_seq ?_
      refine cW_seq ?_
      refine cW_region ?_
      refine wS_pure 2 [(13, .int .i64 (x21)), (12, .slice A0 (l0).length cap0)] (by kernel_rfl) ?_
      obtain ⟨x31, hx32, hm⟩ := bindE hm
      refine wS_idx (d := 14) (T := 78) (A := A0) (n := (l0).length) (cap := cap0) (kd := .i64) (m := x21) (by kernel_rfl) sl78 (F23.is hx32) ?_
      refine wS_load1 (d := 15) (T := 2) (ad := (elA A0 1 (x21) 0)) (v := .int .i64 (x31)) (by kernel_rfl) vt2 (Sl.cell F23 hx32 0 (by rfl)) ?_
      refine wS_pure 2 [(17, .bool (x31 != x20)), (16, .int .i64 (x20))] (by kernel_rfl) ?_
      refine wS_end (by rfl) ?_
      refine eX_then ?_
      refine cW_cond (t := x31 != x20) (by kernel_rfl) (fun hb33 => ?_) (fun hb33 => ?_)
      · have hm := condT hb33 hm
        refine cW_seq ?_
        refine cW_region ?_
        refine wS_pure 1 [(4, .int .i64 ((-1)))] (by kernel_rfl) ?_
        refine wS_end (by rfl) ?_
        refine eX_then ?_
        refine cW_ret ?_
        refine eX_then_ret ?_
        refine eX_block_ret ?_
        refine eX_then_ret ?_
        have hq : (some (Ctl.out (Sum.inr ((-1)))) : Option (Ctl (Int × Int) (Sum (Int) ((Int))))) = some _ := hm
        replace hq := someE hq
        subst hq
        refine eX_outR hx29 (fun hr => ?_)
        subst hr
        refine eX_block_ret ?_
        refine eX_then_ret ?_
        refine eX_then_ret ?_
        have hq : (some ((-1)) : Option ((Int))) = some _ := hm26
        replace hq := someE hq
        subst hq
        refine eX_ret (vs := [.int .i64 ((-1))]) [.tmp 4] (by rfl) ⟨by (show lkE _ _ _ = _); kernel_rfl, trivial⟩ ?_
        exact ⟨rfl, hB⟩
      · have hm := condF hb33 hm
        refine cW_skip ?_
        refine eX_then ?_
        refine cW_region ?_
        refine wS_pure 3 [(1, .int .i64 (wr (x20 + 1))), (19, .int .i64 (wr (x20 + 1))), (18, .int .i64 (x20))] (by kernel_rfl) ?_
        refine wS_end (by rfl) ?_
        refine eX_block ?_
        refine eX_then ?_
        refine cW_region ?_
        refine wS_pure 3 [(5, .int .i64 (wr (x21 + 1))), (11, .int .i64 (wr (x21 + 1))), (10, .int .i64 (x21))] (by kernel_rfl) ?_
        refine wS_end (by rfl) ?_
        have hq : (some (Ctl.next ((wr (x20 + 1), wr (x21 + 1)))) : Option (Ctl (Int × Int) (Sum (Int) ((Int))))) = some _ := hm
        replace hq := someE hq
        subst hq
        exact eX_next hx29 (fun hst => ⟨wr (x20 + 1), wr (x21 + 1), rfl, Fr.of hst (by kernel_rfl), F23, hB, hZ⟩)
    · have hm := condF hb30 hm
      refine cW_exit ?_
      refine eX_then_exit ?_
      have hq : (some (Ctl.out (Sum.inl x20)) : Option (Ctl (Int × Int) (Sum (Int) ((Int))))) = some _ := hm
      replace hq := someE hq
      subst hq
      refine eX_outX hx29 (fun hr34 => ?_)
      replace hr34 := hr34.symm
      subst hr34
      refine eX_block_hit ?_
      exact eX_J (fun hst => ⟨x20, rfl, Fr.of hst (by kernel_rfl), hB, hZ⟩)
  · rintro a' w16 ⟨x17, hJ, hF18, hB, hZ⟩
    subst hJ
    refine Fr.goX hF18 (by kernel_rfl) ?_
    refine eX_then ?_
    refine cW_seq ?_
    refine cW_region ?_
    refine wS_pure 2 [(4, .int .i64 (x17)), (20, .int .i64 (x17))] (by kernel_rfl) ?_
    refine wS_end (by rfl) ?_
    refine eX_then ?_
    refine cW_ret ?_
    have hq : (some x17 : Option ((Int))) = some _ := hm
    replace hq := someE hq
    subst hq
    refine eX_ret (vs := [.int .i64 (x17)]) [.tmp 4] (by rfl) ⟨by (show lkE _ _ _ = _); kernel_rfl, trivial⟩ ?_
    exact ⟨rfl, hB⟩

set_option maxRecDepth 100000 in
/-- laws.heldInt64SS -/
theorem c_laws_heldInt64SS {w0 : World} {l0 : List (List (Int))} {A0 : Option Addr} {cap0 : Nat} {fp0 : List Nat} {p1 : Int} {r : (Int)} (hm : m_laws_heldInt64SS l0 p1 = some r) (F0 : SlR 1 encI w0 fp0 A0 l0) :
    Calls Try.prog 57 #[.slice A0 (l0).length cap0, .int .i64 (p1)] w0 fun e w' => e = .returned (.int .i64 (r)) ∧ Chg [] w0 w' := by
  have L0 := F0.low
  have hB : Chg [] w0 w0 := Chg.refl _ _
  have hZ := Nat.le_refl w0.heap.size
  unfold m_laws_heldInt64SS at hm
  refine enterE (N := 21) Try.func57 (by rfl) Try.ntmps57 (by simp) [(0, .slice A0 (l0).length cap0), (1, .int .i64 (p1))] (by rfl) (by kernel_rfl) (fun a => ?_)
  refine cW_seq ?_
  refine cW_region ?_
  refine wS_pure 1 [(4, .int .i64 (0))] (by kernel_rfl) ?_
  refine wS_end (by rfl) ?_
  refine eX_then ?_
  refine cW_seq ?_
  refine cW_seq ?_
  refine cW_region ?_
  refine wS_pure 1 [(5, .int .i64 (0))] (by kernel_rfl) ?_
  refine wS_end (by rfl) ?_
  refine eX_then ?_
  obtain ⟨r44, hr45, hm⟩ := bindE hm
  have hm46 := hm
  refine cW_cut (fun a' w' => ∃ x37 : Int, Sum.inl x37 = r44 ∧ Fr 21 [(1, .int .i64 (x37))] a' ∧ Chg [] w0 w' ∧ w0.heap.size ≤ w'.heap.size) ?_ ?_
  · refine cW_block ?_
    refine cW_loop _ (fun (s47 : Int × Int) a' w' => ∃ x40 : Int, ∃ x41 : Int, (x40, x41) = s47 ∧ Fr 21 [(0, .slice A0 (l0).length cap0), (1, .int .i64 (x40)), (5, .int .i64 (x41))] a' ∧ SlR 1 encI w' fp0 A0 l0 ∧ Chg [] w0 w' ∧ w0.heap.size ≤ w'.heap.size) hr45 (fun hst => ⟨p1, 0, rfl, Fr.of hst (by kernel_rfl), F0, hB, hZ⟩) ?_
    rintro _ c48 a' w39 ⟨x40, x41, rfl, hF42, F43, hB, hZ⟩ hx49
    refine Fr.goOn hF42 (by kernel_rfl) ?_
    have hm := hx49
    unfold m_laws_heldInt64SS_s1 at hm
    refine cW_seq ?_
    refine cW_seq ?_
    refine cW_region ?_
    refine wS_pure 4 [(9, .bool (decide (x41 < (((l0).length : Int))))), (8, .int .i64 (((l0).length : Int))), (7, .slice A0 (l0).length cap0), (6, .int .i64 (x41))] (by kernel_rfl) ?_
    refine wS_end (by rfl) ?_
    refine eX_then ?_
    refine cW_cond (t := decide (x41 < (((l0).length : Int)))) (by kernel_rfl) (fun hb50 => ?_) (fun hb50 => ?_)
    · have hm := condT hb50 hm
      refine cW_skip ?_
      refine eX_then ?_
      refine cW_seq ?_
      refine cW_block ?_
      refine cW_seq ?_
      refine cW_region ?_
      refine wS_pure 2 [(13, .int .i64 (x41)), (12, .slice A0 (l0).length cap0)] (by kernel_rfl) ?_
      obtain ⟨x51, hx52, hm⟩ := bindE hm
      refine wS_idx (d := 14) (T := 47) (A := A0) (n := (l0).length) (cap := cap0) (kd := .i64) (m := x41) (by kernel_rfl) sl47 (F43.is hx52) ?_
      obtain ⟨A53, cap54, hc56, F55, K57⟩ := SlR.row F43 hx52
      refine wS_load1 (d := 15) (T := 78) (ad := (elA A0 1 (x41) 0)) (v := .slice A53 (x51).length cap54) (by kernel_rfl) vt78 hc56 ?_
      refine wS_pure 1 [(16, .int .i64 (x40))] (by kernel_rfl) ?_
      obtain ⟨y59, hy60, hm⟩ := bindE hm
      refine wS_calls (d := 17) (f := 109) (vs := [.slice A53 (x51).length cap54, .int .i64 (x40)]) (by kernel_rfl) ent109 (c_laws_heldInt64S hy60 F55) ?_
      rintro _ w61 ⟨rfl, hc62⟩
      replace F43 := F43.chg hc62 Dj.nil
      replace F55 := F55.chg hc62 Dj.nil
      replace hB := hB.inS hc62 inNil
      replace hZ := Nat.le_trans hZ hc62.size
      refine ⟨.int .i64 (y59), rfl, ?_⟩
      refine wS_pure 1 [(1, .int .i64 (y59))] (by kernel_rfl) ?_
      refine wS_end (by rfl) ?_
      refine eX_then ?_
      refine cW_seq ?_
      refine cW_region ?_
      refine wS_pure 2 [(19, .bool (decide (y59 < 0))), (18, .int .i64 (y59))] (by kernel_rfl) ?_
      refine wS_end (by rfl) ?_
      refine eX_then ?_
      refine cW_cond (t := decide (y59 < 0)) (by kernel_rfl) (fun hb63 => ?_) (fun hb63 => ?_)
      · have hm := condT hb63 hm
        refine cW_seq ?_
        refine cW_region ?_
        refine wS_pure 1 [(4, .int .i64 ((-1)))] (by kernel_rfl) ?_
        refine wS_end (by rfl) ?_
        refine eX_then ?_
        refine cW_ret ?_
        refine eX_block_ret ?_
        refine eX_then_ret ?_
        have hq : (some (Ctl.out (Sum.inr ((-1)))) : Option (Ctl (Int × Int) (Sum (Int) ((Int))))) = some _ := hm
        replace hq := someE hq
        subst hq
        refine eX_outR hx49 (fun hr => ?_)
        subst hr
        refine eX_block_ret ?_
        refine eX_then_ret ?_
        refine eX_then_ret ?_
        have hq : (some ((-1)) : Option ((Int))) = some _ := hm46
        replace hq := someE hq
        subst hq
        refine eX_ret (vs := [.int .i64 ((-1))]) [.tmp 4] (by rfl) ⟨by (show lkE _ _ _ = _); kernel_rfl, trivial⟩ ?_
        exact ⟨rfl, hB⟩
      · have hm := condF hb63 hm
        refine cW_skip ?_
        refine eX_block ?_
        refine eX_then ?_
        refine cW_region ?_
        refine wS_pure 3 [(5, .int .i64 (wr (x41 + 1))), (11, .int .i64 (wr (x41 + 1))), (10, .int .i64 (x41))] (by kernel_rfl) ?_
        refine wS_end (by rfl) ?_
        have hq : (some (Ctl.next ((y59, wr (x41 + 1)))) : Option (Ctl (Int × Int) (Sum (Int) ((Int))))) = some _ := hm
        replace hq := someE hq
        subst hq
        exact eX_next hx49 (fun hst => ⟨y59, wr (x41 + 1), rfl, Fr.of hst (by kernel_rfl), F43, hB, hZ⟩)
    · have hm := condF hb50 hm
      refine cW_exit ?_
      refine eX_then_exit ?_
      have hq : (some (Ctl.out (Sum.inl x40)) : Option (Ctl (Int × Int) (Sum (Int) ((Int))))) = some _ := hm
      replace hq := someE hq
      subst hq
      refine eX_outX hx49 (fun hr64 => ?_)
      replace hr64 := hr64.symm
      subst hr64
      refine eX_block_hit ?_
      exact eX_J (fun hst => ⟨x40, rfl, Fr.of hst (by kernel_rfl), hB, hZ⟩)
  · rintro a' w36 ⟨x37, hJ, hF38, hB, hZ⟩
    subst hJ
    refine Fr.goX hF38 (by kernel_rfl) ?_
    refine eX_then ?_
    refine cW_seq ?_
    refine cW_region ?_
    refine wS_pure 2 [(4, .int .i64 (x37)), (20, .int .i64 (x37))] (by kernel_rfl) ?_
    refine wS_end (by rfl) ?_
    refine eX_then ?_
    refine cW_ret ?_
    have hq : (some x37 : Option ((Int))) = some _ := hm
    replace hq := someE hq
    subst hq
    refine eX_ret (vs := [.int .i64 (x37)]) [.tmp 4] (by rfl) ⟨by (show lkE _ _ _ = _); kernel_rfl, trivial⟩ ?_
    exact ⟨rfl, hB⟩

set_option maxRecDepth 100000 in
/-- laws.szPointSS -/
theorem c_laws_szPointSS {w0 : World} {l0 : List (List (Int × Int))} {A0 : Option Addr} {cap0 : Nat} {fp0 : List Nat} {p1 : Int} {r : (Int)} (hm : m_laws_szPointSS l0 p1 = some r) (F0 : SlR 2 encII w0 fp0 A0 l0) :
    Calls Try.prog 58 #[.slice A0 (l0).length cap0, .int .i64 (p1)] w0 fun e w' => e = .returned (.int .i64 (r)) ∧ Chg [] w0 w' := by
  have L0 := F0.low
  have hB : Chg [] w0 w0 := Chg.refl _ _
  have hZ := Nat.le_refl w0.heap.size
  unfold m_laws_szPointSS at hm
  refine enterE (N := 27) Try.func58 (by rfl) Try.ntmps58 (by simp) [(0, .slice A0 (l0).length cap0), (1, .int .i64 (p1))] (by rfl) (by kernel_rfl) (fun a => ?_)
  refine cW_seq ?_
  refine cW_region ?_
  refine wS_pure 1 [(4, .int .i64 (0))] (by kernel_rfl) ?_
  refine wS_end (by rfl) ?_
  refine eX_then ?_
  refine cW_seq ?_
  refine cW_region ?_
  refine wS_pure 5 [(1, .int .i64 (wr (p1 - (((l0).length : Int))))), (9, .int .i64 (wr (p1 - (((l0).length : Int))))), (8, .int .i64 (((l0).length : Int))), (7, .slice A0 (l0).length cap0), (6, .int .i64 (p1))] (by kernel_rfl) ?_
  refine wS_end (by rfl) ?_
  refine eX_then ?_
  refine cW_seq ?_
  refine cW_seq ?_
  refine cW_region ?_
  refine wS_pure 2 [(11, .bool (decide ((wr (p1 - (((l0).length : Int)))) < 0))), (10, .int .i64 (wr (p1 - (((l0).length : Int)))))] (by kernel_rfl) ?_
  refine wS_end (by rfl) ?_
  refine eX_then ?_
  refine cW_cond (t := decide ((wr (p1 - (((l0).length : Int)))) < 0)) (by kernel_rfl) (fun hb2 => ?_) (fun hb2 => ?_)
  · have hm := condT hb2 hm
    refine cW_seq ?_
    refine cW_region ?_
    refine wS_pure 1 [(4, .int .i64 ((-1)))] (by kernel_rfl) ?_
    refine wS_end (by rfl) ?_
    refine eX_then ?_
    refine cW_ret ?_
    refine eX_then_ret ?_
    have hq : (some ((-1)) : Option ((Int))) = some _ := hm
    replace hq := someE hq
    subst hq
    refine eX_ret (vs := [.int .i64 ((-1))]) [.tmp 4] (by rfl) ⟨by (show lkE _ _ _ = _); kernel_rfl, trivial⟩ ?_
    exact ⟨rfl, hB⟩
  · have hm := condF hb2 hm
    refine cW_skip ?_
    refine eX_then ?_
    refine cW_seq ?_
    refine cW_seq ?_
    refine cW_region ?_
    refine wS_pure 1 [(5, .int .i64 (0))] (by kernel_rfl) ?_
    refine wS_end (by rfl) ?_
    refine eX_then ?_
    obtain ⟨r45, hr46, hm⟩ := bindE hm
    have hm47 := hm
    refine cW_cut (fun a' w' => ∃ x38 : Int, Sum.inl x38 = r45 ∧ Fr 27 [(1, .int .i64 (x38))] a' ∧ Chg [] w0 w' ∧ w0.heap.size ≤ w'.heap.size) ?_ ?_
    · refine cW_block ?_
      refine cW_loop _ (fun (s48 : Int × Int) a' w' => ∃ x41 : Int, ∃ x42 : Int, (x41, x42) = s48 ∧ Fr 27 [(0, .slice A0 (l0).length cap0), (1, .int .i64 (x41)), (5, .int .i64 (x42))] a' ∧ SlR 2 encII w' fp0 A0 l0 ∧ Chg [] w0 w' ∧ w0.heap.size ≤ w'.heap.size) hr46 (fun hst => ⟨wr (p1 - (((l0).length : Int))), 0, rfl, Fr.of hst (by kernel_rfl), F0, hB, hZ⟩) ?_
      rintro _ c49 a' w40 ⟨x41, x42, rfl, hF43, F44, hB, hZ⟩ hx50
      refine Fr.goOn hF43 (by kernel_rfl) ?_
      have hm := hx50
      unfold m_laws_szPointSS_s1 at hm
      refine cW_seq ?_
      refine cW_seq ?_
      refine cW_region ?_
      refine wS_pure 4 [(15, .bool (decide (x42 < (((l0).length : Int))))), (14, .int .i64 (((l0).length : Int))), (13, .slice A0 (l0).length cap0), (12, .int .i64 (x42))] (by kernel_rfl) ?_
      refine wS_end (by rfl) ?_
      refine eX_then ?_
      refine cW_cond (t := decide (x42 < (((l0).length : Int)))) (by kernel_rfl) (fun hb51 => ?_) (fun hb51 => ?_)
      · have hm := condT hb51 hm
        refine cW_skip ?_
        refine eX_then ?_
        refine cW_seq ?_
        refine cW_block ?_
        refine cW_seq ?_
        refine cW_region ?_
        refine wS_pure 2 [(19, .int .i64 (x42)), (18, .slice A0 (l0).length cap0)] (by kernel_rfl) ?_
        obtain ⟨x52, hx53, hm⟩ := bindE hm
        refine wS_idx (d := 20) (T := 52) (A := A0) (n := (l0).length) (cap := cap0) (kd := .i64) (m := x42) (by kernel_rfl) sl52 (F44.is hx53) ?_
        obtain ⟨A54, cap55, hc57, F56, K58⟩ := SlR.row F44 hx53
        refine wS_load1 (d := 21) (T := 22) (ad := (elA A0 1 (x42) 0)) (v := .slice A54 (x52).length cap55) (by kernel_rfl) vt22 hc57 ?_
        refine wS_pure 1 [(22, .int .i64 (x41))] (by kernel_rfl) ?_
        obtain ⟨y60, hy61, hm⟩ := bindE hm
        refine wS_calls (d := 23) (f := 20) (vs := [.slice A54 (x52).length cap55, .int .i64 (x41)]) (by kernel_rfl) ent20 (c_laws_szPointS hy61 F56) ?_
        rintro _ w62 ⟨rfl, hc63⟩
        replace F44 := F44.chg hc63 Dj.nil
        replace F56 := F56.chg hc63 Dj.nil
        replace hB := hB.inS hc63 inNil
        replace hZ := Nat.le_trans hZ hc63.size
        refine ⟨.int .i64 (y60), rfl, ?_⟩
        refine wS_pure 1 [(1, .int .i64 (y60))] (by kernel_rfl) ?_
        refine wS_end (by rfl) ?_
        refine eX_then ?_
        refine cW_seq ?_
        refine cW_region ?_
        refine wS_pure 2 [(25, .bool (decide (y60 < 0))), (24, .int .i64 (y60))] (by kernel_rfl) ?_
        refine wS_end (by rfl) ?_
        refine eX_then ?_
        refine cW_cond (t := decide (y60 < 0)) (by kernel_rfl) (fun hb64 => ?_) (fun hb64 => ?_)
        · have hm := condT hb64 hm
          refine cW_seq ?_
          refine cW_region ?_
          refine wS_pure 1 [(4, .int .i64 ((-1)))] (by kernel_rfl) ?_
          refine wS_end (by rfl) ?_
          refine eX_then ?_
          refine cW_ret ?_
          refine eX_block_ret ?_
          refine eX_then_ret ?_
          have hq : (some (Ctl.out (Sum.inr ((-1)))) : Option (Ctl (Int × Int) (Sum (Int) ((Int))))) = some _ := hm
          replace hq := someE hq
          subst hq
          refine eX_outR hx50 (fun hr => ?_)
          subst hr
          refine eX_block_ret ?_
          refine eX_then_ret ?_
          refine eX_then_ret ?_
          have hq : (some ((-1)) : Option ((Int))) = some _ := hm47
          replace hq := someE hq
          subst hq
          refine eX_ret (vs := [.int .i64 ((-1))]) [.tmp 4] (by rfl) ⟨by (show lkE _ _ _ = _); kernel_rfl, trivial⟩ ?_
          exact ⟨rfl, hB⟩
        · have hm := condF hb64 hm
          refine cW_skip ?_
          refine eX_block ?_
          refine eX_then ?_
          refine cW_region ?_
          refine wS_pure 3 [(5, .int .i64 (wr (x42 + 1))), (17, .int .i64 (wr (x42 + 1))), (16, .int .i64 (x42))] (by kernel_rfl) ?_
          refine wS_end (by rfl) ?_
          have hq : (some (Ctl.next ((y60, wr (x42 + 1)))) : Option (Ctl (Int × Int) (Sum (Int) ((Int))))) = some _ := hm
          replace hq := someE hq
          subst hq
          exact eX_next hx50 (fun hst => ⟨y60, wr (x42 + 1), rfl, Fr.of hst (by kernel_rfl), F44, hB, hZ⟩)
      · have hm := condF hb51 hm
        refine cW_exit ?_
        refine eX_then_exit ?_
        have hq : (some (Ctl.out (Sum.inl x41)) : Option (Ctl (Int × Int) (Sum (Int) ((Int))))) = some _ := hm
        replace hq := someE hq
        subst hq
        refine eX_outX hx50 (fun hr65 => ?_)
        replace hr65 := hr65.symm
        subst hr65
        refine eX_block_hit ?_
        exact eX_J (fun hst => ⟨x41, rfl, Fr.of hst (by kernel_rfl), hB, hZ⟩)
    · rintro a' w37 ⟨x38, hJ, hF39, hB, hZ⟩
      subst hJ
      refine Fr.goX hF39 (by kernel_rfl) ?_
      refine eX_then ?_
      refine cW_seq ?_
      refine cW_region ?_
      refine wS_pure 2 [(4, .int .i64 (x38)), (26, .int .i64 (x38))] (by kernel_rfl) ?_
      refine wS_end (by rfl) ?_
      refine eX_then ?_
      refine cW_ret ?_
      have hq : (some x38 : Option ((Int))) = some _ := hm
      replace hq := someE hq
      subst hq
      refine eX_ret (vs := [.int .i64 (x38)]) [.tmp 4] (by rfl) ⟨by (show lkE _ _ _ = _); kernel_rfl, trivial⟩ ?_
      exact ⟨rfl, hB⟩

set_option maxRecDepth 100000 in
/-- laws.toPointSS -/
theorem c_laws_toPointSS {w0 : World} {l0 : List (List (Int × Int))} {A0 : Option Addr} {cap0 : Nat} {fp0 : List Nat} {r : (List (List (Int × Int)))} (hm : m_laws_toPointSS l0 = some r) (F0 : SlR 2 encII w0 fp0 A0 l0) :
    Calls Try.prog 60 #[.slice A0 (l0).length cap0] w0 fun e w' => ∃ A100 cap100 fp100 fr100, e = .returned (.slice A100 (r).length cap100) ∧ OwR 2 encII 25 34 w' fp100 fr100 A100 cap100 r ∧ (∀ x ∈ fp100 ++ fr100, w0.heap.size ≤ x) ∧ Chg [] w0 w' := by
  have L0 := F0.low
  have hB : Chg [] w0 w0 := Chg.refl _ _
  have hZ := Nat.le_refl w0.heap.size
  unfold m_laws_toPointSS at hm
  refine enterE (N := 23) Try.func60 (by rfl) Try.ntmps60 (by simp) [(0, .slice A0 (l0).length cap0)] (by rfl) (by kernel_rfl) (fun a => ?_)
  refine cW_seq ?_
  refine cW_region ?_
  refine wS_pure 1 [(2, .slice none 0 0)] (by kernel_rfl) ?_
  refine wS_end (by rfl) ?_
  refine eX_then ?_
  refine cW_seq ?_
  refine cW_region ?_
  refine wS_pure 2 [(6, .int .i64 (((l0).length : Int))), (5, .slice A0 (l0).length cap0)] (by kernel_rfl) ?_
  obtain ⟨_, hk2, hm⟩ := bindE hm
  replace hk2 := mkE hk2
  refine wS_makeR (T2 := 34) (k := 2) (enc := encII) (d := 7) (t := 55) (T := 25) (k1 := .i64) (k2 := .i64) (m := ((l0).length : Int)) (by kernel_rfl) el55 hk2.1 hk2.2 ?_
  intro b3 w4 G5 F6 hc7
  replace F0 := F0.chg hc7 Dj.nil
  replace hB := hB.inS hc7 inNil
  replace G5 := Nat.le_trans hZ G5
  replace G5 := low1 G5
  replace hZ := Nat.le_trans hZ hc7.size
  replace G5 := lowApp G5 lowNil
  refine wS_pure 1 [(3, .slice (some ⟨b3, 0, none⟩) (List.replicate (Int.toNat (((l0).length : Int))) ([] : List (Int × Int))).length (Int.toNat (((l0).length : Int))))] (by kernel_rfl) ?_
  refine wS_end (by rfl) ?_
  refine eX_then ?_
  refine cW_seq ?_
  refine cW_seq ?_
  refine cW_region ?_
  refine wS_pure 1 [(4, .int .i64 (0))] (by kernel_rfl) ?_
  refine wS_end (by rfl) ?_
  refine eX_then ?_
  obtain ⟨r109, hr110, hm⟩ := bindE hm
  have hm111 := hm
  refine cW_cut (fun a' w' => ∃ l88 : List (List (Int × Int)), ∃ A89 : Option Addr, ∃ cap90 : Nat, ∃ fp91 : List Nat, ∃ fr93 : List Nat, l88 = r109 ∧ Fr 23 [(3, .slice A89 (l88).length cap90)] a' ∧ OwR 2 encII 25 34 w' fp91 fr93 A89 cap90 l88 ∧ (∀ x ∈ (fp91 ++ fr93), w0.heap.size ≤ x) ∧ Chg [] w0 w' ∧ w0.heap.size ≤ w'.heap.size) ?_ ?_
  · refine cW_block ?_
    refine cW_loop _ (fun (s112 : (List (List (Int × Int))) × Int) a' w' => ∃ l98 : List (List (Int × Int)), ∃ A99 : Option Addr, ∃ cap100 : Nat, ∃ fp101 : List Nat, ∃ fr103 : List Nat, ∃ x104 : Int, (l98, x104) = s112 ∧ Fr 23 [(0, .slice A0 (l0).length cap0), (3, .slice A99 (l98).length cap100), (4, .int .i64 (x104))] a' ∧ SlR 2 encII w' fp0 A0 l0 ∧ OwR 2 encII 25 34 w' fp101 fr103 A99 cap100 l98 ∧ (∀ x ∈ (fp101 ++ fr103), w0.heap.size ≤ x) ∧ Chg [] w0 w' ∧ w0.heap.size ≤ w'.heap.size) hr110 (fun hst => ⟨List.replicate (Int.toNat (((l0).length : Int))) ([] : List (Int × Int)), (some ⟨b3, 0, none⟩), (Int.toNat (((l0).length : Int))), [b3], [], 0, rfl, Fr.of hst (by kernel_rfl), F0, F6, G5, hB, hZ⟩) ?_
    rintro _ c113 a' w97 ⟨l98, A99, cap100, fp101, fr103, x104, rfl, hF105, F106, F107, G108, hB, hZ⟩ hx114
    refine Fr.goOn hF105 (by kernel_rfl) ?_
    have hm := hx114
    unfold m_laws_toPointSS_s1 at hm
    refine cW_seq ?_
    refine cW_seq ?_
    refine cW_region ?_
    refine wS_pure 4 [(11, .bool (decide (x104 < (((l0).length : Int))))), (10, .int .i64 (((l0).length : Int))), (9, .slice A0 (l0).length cap0), (8, .int .i64 (x104))] (by kernel_rfl) ?_
    refine wS_end (by rfl) ?_
    refine eX_then ?_
    refine cW_cond (t := decide (x104 < (((l0).length : Int)))) (by kernel_rfl) (fun hb115 => ?_) (fun hb115 => ?_)
    · have hm := condT hb115 hm
      refine cW_skip ?_
      refine eX_then ?_
      refine cW_seq ?_
      refine cW_block ?_
      refine cW_region ?_
      refine wS_pure 4 [(17, .int .i64 (x104)), (16, .slice A0 (l0).length cap0), (15, .int .i64 (x104)), (14, .slice A99 (l98).length cap100)] (by kernel_rfl) ?_
      obtain ⟨x116, hx117, hm⟩ := bindE hm
      refine wS_idx (d := 18) (T := 52) (A := A0) (n := (l0).length) (cap := cap0) (kd := .i64) (m := x104) (by kernel_rfl) sl52 (F106.is hx117) ?_
      obtain ⟨A118, cap119, hc121, F120, K122⟩ := SlR.row F106 hx117
      refine wS_load1 (d := 19) (T := 22) (ad := (elA A0 1 (x104) 0)) (v := .slice A118 (x116).length cap119) (by kernel_rfl) vt22 hc121 ?_
      obtain ⟨y124, hy125, hm⟩ := bindE hm
      refine wS_calls (d := 20) (f := 22) (vs := [.slice A118 (x116).length cap119]) (by kernel_rfl) ent22 (c_laws_toPointS hy125 F120) ?_
      rintro _ w126 ⟨A128, cap129, fp130, rfl, F131, G132, hc127⟩
      have D135 : Dj (fp101 ++ fr103) fp130 := Dj.of F107.low G132
      replace F106 := F106.chg hc127 Dj.nil
      replace F107 := F107.chg hc127 Dj.nil
      replace F120 := F120.chg hc127 Dj.nil
      replace hB := hB.inS hc127 inNil
      replace G132 := low_le hZ G132
      replace hZ := Nat.le_trans hZ hc127.size
      refine ⟨.slice A128 (y124).length cap129, rfl, ?_⟩
      obtain ⟨x136, hx137, hm⟩ := bindE hm
      refine wS_idx (d := 21) (T := 55) (A := A99) (n := (l98).length) (cap := cap100) (kd := .i64) (m := x104) (by kernel_rfl) sl55 ((F107.slr encII_ok).is hx137) ?_
      refine wS_storeRow (k := 2) (enc := encII) (x := x136) (l := y124) (T := 25) (U := 25) (cap := cap100) (c := cap129) (A := A99) (B := A128) (m := x104) (by kernel_rfl) sz25 F107 F131 D135 hx137 ?_
      intro w141 F142 hc143
      have G145 := lowApp (low_inl G108) (lowApp (low_inr G108) G132)
      have Dm146 := Dj.inl D135.symm
      replace F106 := F106.chg hc143 (Dj.inl (Dj.of L0 G108))
      replace F120 := F120.chg hc143 (Dj.inl (Dj.of L0 G108))
      replace F131 := F131.chg hc143 (Dj.inl (D135).symm)
      replace hB := hB.inS hc143 (memS_inl (inLow G108))
      replace hZ := Nat.le_trans hZ hc143.size
      replace F131 := (F131.sl encII_ok)
      rewrite [show (l98).length = (l98.set (Int.toNat x104) y124).length from (List.length_set ..).symm]
      refine wS_end (by rfl) ?_
      refine eX_block ?_
      refine eX_then ?_
      refine cW_region ?_
      refine wS_pure 3 [(4, .int .i64 (wr (x104 + 1))), (13, .int .i64 (wr (x104 + 1))), (12, .int .i64 (x104))] (by kernel_rfl) ?_
      refine wS_end (by rfl) ?_
      have hq : (some (Ctl.next ((l98.set (Int.toNat x104) y124, wr (x104 + 1)))) : Option (Ctl ((List (List (Int × Int))) × Int) ((List (List (Int × Int)))))) = some _ := hm
      replace hq := someE hq
      subst hq
      exact eX_next hx114 (fun hst => ⟨l98.set (Int.toNat x104) y124, A99, cap100, fp101, (fr103 ++ fp130), wr (x104 + 1), rfl, Fr.of hst (by kernel_rfl), F106, F142, G145, hB, hZ⟩)
    · have hm := condF hb115 hm
      refine cW_exit ?_
      refine eX_then_exit ?_
      have hq : (some (Ctl.out l98) : Option (Ctl ((List (List (Int × Int))) × Int) ((List (List (Int × Int)))))) = some _ := hm
      replace hq := someE hq
      subst hq
      refine eX_outX hx114 (fun hr147 => ?_)
      replace hr147 := hr147.symm
      subst hr147
      refine eX_block_hit ?_
      exact eX_J (fun hst => ⟨l98, A99, cap100, fp101, fr103, rfl, Fr.of hst (by kernel_rfl), F107, G108, hB, hZ⟩)
  · rintro a' w87 ⟨l88, A89, cap90, fp91, fr93, hJ, hF94, F95, G96, hB, hZ⟩
    subst hJ
    refine Fr.goX hF94 (by kernel_rfl) ?_
    refine eX_then ?_
    refine cW_seq ?_
    refine cW_region ?_
    refine wS_pure 2 [(2, .slice A89 (l88).length cap90), (22, .slice A89 (l88).length cap90)] (by kernel_rfl) ?_
    refine wS_end (by rfl) ?_
    refine eX_then ?_
    refine cW_ret ?_
    have hq : (some l88 : Option ((List (List (Int × Int))))) = some _ := hm
    replace hq := someE hq
    subst hq
    refine eX_ret (vs := [.slice A89 (l88).length cap90]) [.tmp 2] (by rfl) ⟨by (show lkE _ _ _ = _); kernel_rfl, trivial⟩ ?_
    exact ⟨A89, cap90, fp91, fr93, rfl, F95, G96, hB⟩

set_option maxRecDepth 100000 in
/-- laws.eqPointSS -/
theorem c_laws_eqPointSS {w0 : World} {l0 : List (List (Int × Int))} {A0 : Option Addr} {cap0 : Nat} {fp0 : List Nat} {l1 : List (List (Int × Int))} {A1 : Option Addr} {cap1 : Nat} {fp1 : List Nat} {r : (Bool)} (hm : m_laws_eqPointSS l0 l1 = some r) (F0 : SlR 2 encII w0 fp0 A0 l0) (F1 : SlR 2 encII w0 fp1 A1 l1) :
    Calls Try.prog 62 #[.slice A0 (l0).length cap0, .slice A1 (l1).length cap1] w0 fun e w' => e = .returned (.bool (r)) ∧ Chg [] w0 w' := by
  have L0 := F0.low
  have L1 := F1.low
  have hB : Chg [] w0 w0 := Chg.refl _ _
  have hZ := Nat.le_refl w0.heap.size
  unfold m_laws_eqPointSS at hm
  refine enterE (N := 27) Try.func62 (by rfl) Try.ntmps62 (by simp) [(0, .slice A0 (l0).length cap0), (1, .slice A1 (l1).length cap1)] (by rfl) (by kernel_rfl) (fun a => ?_)
  refine cW_seq ?_
  refine cW_region ?_
  refine wS_pure 1 [(4, .bool (false))] (by kernel_rfl) ?_
  refine wS_end (by rfl) ?_
  refine eX_then ?_
  refine cW_seq ?_
  refine cW_seq ?_
  refine cW_region ?_
  refine wS_pure 5 [(10, .bool ((((l0).length : Int)) != (((l1).length : Int)))), (9, .int .i64 (((l1).length : Int))), (8, .slice A1 (l1).length cap1), (7, .int .i64 (((l0).length : Int))), (6, .slice A0 (l0).length cap0)] (by kernel_rfl) ?_
  refine wS_end (by rfl) ?_
  refine eX_then ?_
  refine cW_cond (t := (((l0).length : Int)) != (((l1).length : Int))) (by kernel_rfl) (fun hb3 => ?_) (fun hb3 => ?_)
  · have hm := condT hb3 hm
    refine cW_seq ?_
    refine cW_region ?_
    refine wS_pure 1 [(4, .bool (false))] (by kernel_rfl) ?_
    refine wS_end (by rfl) ?_
    refine eX_then ?_
    refine cW_ret ?_
    refine eX_then_ret ?_
    have hq : (some false : Option ((Bool))) = some _ := hm
    replace hq := someE hq
    subst hq
    refine eX_ret (vs := [.bool (false)]) [.tmp 4] (by rfl) ⟨by (show lkE _ _ _ = _); kernel_rfl, trivial⟩ ?_
    exact ⟨rfl, hB⟩
  · have hm := condF hb3 hm
    refine cW_skip ?_
    refine eX_then ?_
    refine cW_seq ?_
    refine cW_seq ?_
    refine cW_region ?_
    refine wS_pure 1 [(5, .int .i64 (0))] (by kernel_rfl) ?_
    refine wS_end (by rfl) ?_
    refine eX_then ?_
    obtain ⟨r118, hr119, hm⟩ := bindE hm
    have hm120 := hm
    refine cW_cut (fun a' w' => Sum.inl (()) = r118 ∧ Fr 27 [] a' ∧ Chg [] w0 w' ∧ w0.heap.size ≤ w'.heap.size) ?_ ?_
    · refine cW_block ?_
      refine cW_loop _ (fun (s121 : Int) a' w' => ∃ x114 : Int, x114 = s121 ∧ Fr 27 [(0, .slice A0 (l0).length cap0), (1, .slice A1 (l1).length cap1), (5, .int .i64 (x114))] a' ∧ SlR 2 encII w' fp0 A0 l0 ∧ SlR 2 encII w' fp1 A1 l1 ∧ Chg [] w0 w' ∧ w0.heap.size ≤ w'.heap.size) hr119 (fun hst => ⟨0, rfl, Fr.of hst (by kernel_rfl), F0, F1, hB, hZ⟩) ?_
      rintro _ c122 a' w113 ⟨x114, rfl, hF115, F116, F117, hB, hZ⟩ hx123
      refine Fr.goOn hF115 (by kernel_rfl) ?_
      have hm := hx123
      unfold m_laws_eqPointSS_s1 at hm
      refine cW_seq ?_
      refine cW_seq ?_
      refine cW_region ?_
      refine wS_pure 4 [(14, .bool (decide (x114 < (((l0).length : Int))))), (13, .int .i64 (((l0).length : Int))), (12, .slice A0 (l0).length cap0), (11, .int .i64 (x114))] (by kernel_rfl) ?_
      refine wS_end (by rfl) ?_
      refine eX_then ?_
      refine cW_cond (t := decide (x114 < (((l0).length : Int)))) (by kernel_rfl) (fun hb124 => ?_) (fun hb124 => ?_)
      · have hm := condT hb124 hm
        refine cW_skip ?_
        refine eX_then ?_
        refine cW_seq ?_
        refine cW_block ?_
        refine cW_seq ?_
        refine cW_drawnTail [] 8 (by kernel_rfl) (by kernel_rfl) (fun w149 hc150 => ?_)
        replace F116 := F116.chg hc150 Dj.nil
        replace F117 := F117.chg hc150 Dj.nil
        replace hB := hB.inS hc150 inNil
        replace hZ := Nat.le_trans hZ hc150.size
        have hS := Chg.refl [] w149
        have Z151 := F116
        have Z152 := F117
        refine wH_take [0, 1] [1, 0] [(18, .int .i64 (x114)), (17, .slice A0 (l0).length cap0)] (by kernel_rfl) (qT (qT (qB (qT (qL (qB (qT (qT qZ)))))))) (by kernel_rfl) ?_
        obtain ⟨x153, hx154, hm⟩ := bindE hm
        refine wH_idx (i := 2) (d := 19) (T := 55) (A := A0) (n := (l0).length) (cap := cap0) (kd := .i64) (m := x114) (by kernel_rfl) (qT (qT (qB (qT (qL (qB (qT (qT qZ)))))))) (by kernel_rfl) (by kernel_rfl) sl55 (F116.is hx154) ?_
        obtain ⟨A155, cap156, hc158, F157, K159⟩ := SlR.row Z151 hx154
        refine wH_load1 (i := 3) (d := 20) (T := 25) (ad := (elA A0 1 (x114) 0)) (v := .slice A155 (x153).length cap156) (by kernel_rfl) (qT (qT (qB (qT (qL (qB (qT (qT qZ)))))))) (by kernel_rfl) (by kernel_rfl) vt25 (fun W hW => hW.keep hc158) ?_
        refine wH_take [4, 5] [5, 4, 3, 2, 1, 0] [(22, .int .i64 (x114)), (21, .slice A1 (l1).length cap1)] (by kernel_rfl) (qT (qT (qB (qT (qL (qB (qT (qT qZ)))))))) (by kernel_rfl) ?_
        obtain ⟨x161, hx162, hm⟩ := bindE hm
        refine wH_idx (i := 6) (d := 23) (T := 55) (A := A1) (n := (l1).length) (cap := cap1) (kd := .i64) (m := x114) (by kernel_rfl) (qT (qT (qB (qT (qL (qB (qT (qT qZ)))))))) (by kernel_rfl) (by kernel_rfl) sl55 (F117.is hx162) ?_
        obtain ⟨A163, cap164, hc166, F165, K167⟩ := SlR.row Z152 hx162
        refine wH_load1 (i := 7) (d := 24) (T := 25) (ad := (elA A1 1 (x114) 0)) (v := .slice A163 (x161).length cap164) (by kernel_rfl) (qT (qT (qB (qT (qL (qB (qT (qT qZ)))))))) (by kernel_rfl) (by kernel_rfl) vt25 (fun W hW => hW.keep hc166) ?_
        refine wH_done (by kernel_rfl) ?_
        refine eX_tail ?_
        obtain ⟨y169, hy170, hm⟩ := bindE hm
        refine wS_calls (d := 25) (f := 24) (vs := [.slice A155 (x153).length cap156, .slice A163 (x161).length cap164]) (by kernel_rfl) ent24 (c_laws_eqPointS hy170 F157 F165) ?_
        rintro _ w171 ⟨rfl, hc172⟩
        replace F116 := F116.chg hc172 Dj.nil
        replace F117 := F117.chg hc172 Dj.nil
        replace F157 := F157.chg hc172 Dj.nil
        replace F165 := F165.chg hc172 Dj.nil
        replace hB := hB.inS hc172 inNil
        replace hZ := Nat.le_trans hZ hc172.size
        refine ⟨.bool (y169), rfl, ?_⟩
        refine wS_pure 1 [(26, .bool (!y169))] (by kernel_rfl) ?_
        refine wS_end (by rfl) ?_
        refine eX_then ?_
        refine cW_cond (t := !y169) (by kernel_rfl) (fun hb173 => ?_) (fun hb173 => ?_)
        · have hm := condT hb173 hm
          refine cW_seq ?_
          refine cW_region ?_
          refine wS_pure 1 [(4, .bool (false))] (by kernel_rfl) ?_
          refine wS_end (by rfl) ?_
          refine eX_then ?_
          refine cW_ret ?_
          refine eX_block_ret ?_
          refine eX_then_ret ?_
          have hq : (some (Ctl.out (Sum.inr false)) : Option (Ctl (Int) (Sum (Unit) ((Bool))))) = some _ := hm
          replace hq := someE hq
          subst hq
          refine eX_outR hx123 (fun hr => ?_)
          subst hr
          refine eX_block_ret ?_
          refine eX_then_ret ?_
          refine eX_then_ret ?_
          have hq : (some false : Option ((Bool))) = some _ := hm120
          replace hq := someE hq
          subst hq
          refine eX_ret (vs := [.bool (false)]) [.tmp 4] (by rfl) ⟨by (show lkE _ _ _ = _); kernel_rfl, trivial⟩ ?_
          exact ⟨rfl, hB⟩
        · have hm := condF hb173 hm
          refine cW_skip ?_
          refine eX_block ?_
          refine eX_then ?_
          refine cW_region ?_
          refine wS_pure 3 [(5, .int .i64 (wr (x114 + 1))), (16, .int .i64 (wr (x114 + 1))), (15, .int .i64 (x114))] (by kernel_rfl) ?_
          refine wS_end (by rfl) ?_
          have hq : (some (Ctl.next (wr (x114 + 1))) : Option (Ctl (Int) (Sum (Unit) ((Bool))))) = some _ := hm
          replace hq := someE hq
          subst hq
          exact eX_next hx123 (fun hst => ⟨wr (x114 + 1), rfl, Fr.of hst (by kernel_rfl), F116, F117, hB, hZ⟩)
      · have hm := condF hb124 hm
        refine cW_exit ?_
        refine eX_then_exit ?_
        have hq : (some (Ctl.out (Sum.inl (()))) : Option (Ctl (Int) (Sum (Unit) ((Bool))))) = some _ := hm
        replace hq := someE hq
        subst hq
        refine eX_outX hx123 (fun hr174 => ?_)
        replace hr174 := hr174.symm
        subst hr174
        refine eX_block_hit ?_
        exact eX_J (fun hst => ⟨rfl, Fr.of hst (by kernel_rfl), hB, hZ⟩)
    · rintro a' w111 ⟨hJ, hF112, hB, hZ⟩
      subst hJ
      refine Fr.goX hF112 (by kernel_rfl) ?_
      refine eX_then ?_
      refine cW_seq ?_
      refine cW_region ?_
      refine wS_pure 1 [(4, .bool (true))] (by kernel_rfl) ?_
      refine wS_end (by rfl) ?_
      refine eX_then ?_
      refine cW_ret ?_
      have hq : (some true : Option ((Bool))) = some _ := hm
      replace hq := someE hq
      subst hq
      refine eX_ret (vs := [.bool (true)]) [.tmp 4] (by rfl) ⟨by (show lkE _ _ _ = _); kernel_rfl, trivial⟩ ?_
      exact ⟨rfl, hB⟩

set_option maxRecDepth 100000 in
/-- spec.l07Paths -/
theorem c_spec_l07Paths {w0 : World} {l0 : List (List (Int × Int))} {A0 : Option Addr} {cap0 : Nat} {fp0 : List Nat} {r : (Bool)} (hm : m_spec_l07Paths l0 = some r) (F0 : SlR 2 encII w0 fp0 A0 l0) :
    Calls Try.prog 110 #[.slice A0 (l0).length cap0] w0 fun e w' => e = .returned (.bool (r)) ∧ Chg [] w0 w' := by
  have L0 := F0.low
  have hB : Chg [] w0 w0 := Chg.refl _ _
  have hZ := Nat.le_refl w0.heap.size
  unfold m_spec_l07Paths at hm
  refine enterE (N := 27) Try.func110 (by rfl) Try.ntmps110 (by simp) [(0, .slice A0 (l0).length cap0)] (by rfl) (by kernel_rfl) (fun a => ?_)
  refine cW_seq ?_
  refine cW_region ?_
  refine wS_pure 1 [(2, .bool (false))] (by kernel_rfl) ?_
  refine wS_end (by rfl) ?_
  refine eX_then ?_
  refine cW_seq ?_
  refine cW_seq ?_
  refine cW_region ?_
  refine wS_pure 1 [(3, .int .i64 (0))] (by kernel_rfl) ?_
  refine wS_end (by rfl) ?_
  refine eX_then ?_
  obtain ⟨r60, hr61, hm⟩ := bindE hm
  have hm62 := hm
  refine cW_cut (fun a' w' => Sum.inl (()) = r60 ∧ Fr 27 [(0, .slice A0 (l0).length cap0)] a' ∧ SlR 2 encII w' fp0 A0 l0 ∧ Chg [] w0 w' ∧ w0.heap.size ≤ w'.heap.size) ?_ ?_
  · refine cW_block ?_
    refine cW_loop _ (fun (s63 : Int) a' w' => ∃ x57 : Int, x57 = s63 ∧ Fr 27 [(0, .slice A0 (l0).length cap0), (3, .int .i64 (x57))] a' ∧ SlR 2 encII w' fp0 A0 l0 ∧ Chg [] w0 w' ∧ w0.heap.size ≤ w'.heap.size) hr61 (fun hst => ⟨0, rfl, Fr.of hst (by kernel_rfl), F0, hB, hZ⟩) ?_
    rintro _ c64 a' w56 ⟨x57, rfl, hF58, F59, hB, hZ⟩ hx65
    refine Fr.goOn hF58 (by kernel_rfl) ?_
    have hm := hx65
    unfold m_spec_l07Paths_s1 at hm
    refine cW_seq ?_
    refine cW_seq ?_
    refine cW_region ?_
    refine wS_pure 4 [(7, .bool (decide (x57 < (((l0).length : Int))))), (6, .int .i64 (((l0).length : Int))), (5, .slice A0 (l0).length cap0), (4, .int .i64 (x57))] (by kernel_rfl) ?_
    refine wS_end (by rfl) ?_
    refine eX_then ?_
    refine cW_cond (t := decide (x57 < (((l0).length : Int)))) (by kernel_rfl) (fun hb66 => ?_) (fun hb66 => ?_)
    · have hm := condT hb66 hm
      refine cW_skip ?_
      refine eX_then ?_
      refine cW_seq ?_
      refine cW_block ?_
      refine cW_seq ?_
      refine cW_region ?_
      refine wS_pure 2 [(11, .int .i64 (x57)), (10, .slice A0 (l0).length cap0)] (by kernel_rfl) ?_
      obtain ⟨x67, hx68, hm⟩ := bindE hm
      refine wS_idx (d := 12) (T := 55) (A := A0) (n := (l0).length) (cap := cap0) (kd := .i64) (m := x57) (by kernel_rfl) sl55 (F59.is hx68) ?_
      obtain ⟨A69, cap70, hc72, F71, K73⟩ := SlR.row F59 hx68
      refine wS_load1 (d := 13) (T := 25) (ad := (elA A0 1 (x57) 0)) (v := .slice A69 (x67).length cap70) (by kernel_rfl) vt25 hc72 ?_
      refine wS_pure 3 [(16, .bool (decide ((((x67).length : Int)) < 2))), (15, .bool (decide ((((x67).length : Int)) < 2))), (14, .int .i64 (((x67).length : Int)))] (by kernel_rfl) ?_
      refine wS_bool (decide ((((x67).length : Int)) < 2)) (fun hb75 => ?_) (fun hb75 => ?_)
      · have hm := condT hb75 hm
        rewrite [hb75]
        refine wS_pure 7 [(23, .bool (true)), (22, undef), (21, undef), (20, undef), (19, undef), (18, undef), (17, undef)] (by kernel_rfl) ?_
        refine wS_end (by rfl) ?_
        refine eX_then ?_
        refine cW_cond_t (by kernel_rfl) ?_
        refine cW_seq ?_
        refine cW_region ?_
        refine wS_pure 1 [(2, .bool (false))] (by kernel_rfl) ?_
        refine wS_end (by rfl) ?_
        refine eX_then ?_
        refine cW_ret ?_
        refine eX_block_ret ?_
        refine eX_then_ret ?_
        have hq : (some (Ctl.out (Sum.inr false)) : Option (Ctl (Int) (Sum (Unit) ((Bool))))) = some _ := hm
        replace hq := someE hq
        subst hq
        refine eX_outR hx65 (fun hr => ?_)
        subst hr
        refine eX_block_ret ?_
        refine eX_then_ret ?_
        refine eX_then_ret ?_
        have hq : (some false : Option ((Bool))) = some _ := hm62
        replace hq := someE hq
        subst hq
        refine eX_ret (vs := [.bool (false)]) [.tmp 2] (by rfl) ⟨by (show lkE _ _ _ = _); kernel_rfl, trivial⟩ ?_
        exact ⟨rfl, hB⟩
      · have hm := condF hb75 hm
        rewrite [hb75]
        refine wS_pure 2 [(18, .int .i64 (x57)), (17, .slice A0 (l0).length cap0)] (by kernel_rfl) ?_
        obtain ⟨x76, hx77, hm⟩ := bindE hm
        refine wS_idx (d := 19) (T := 55) (A := A0) (n := (l0).length) (cap := cap0) (kd := .i64) (m := x57) (by kernel_rfl) sl55 (F59.is hx77) ?_
        obtain ⟨A78, cap79, hc81, F80, K82⟩ := SlR.row F59 hx77
        refine wS_load1 (d := 20) (T := 25) (ad := (elA A0 1 (x57) 0)) (v := .slice A78 (x76).length cap79) (by kernel_rfl) vt25 hc81 ?_
        obtain ⟨y84, hy85, hm⟩ := bindE hm
        refine wS_calls (d := 21) (f := 70) (vs := [.slice A78 (x76).length cap79]) (by kernel_rfl) ent70 (c_spec_l01Path hy85 F80 K82) ?_
        rintro _ w86 ⟨rfl, hc87⟩
        replace F59 := F59.chg hc87 Dj.nil
        replace F71 := F71.chg hc87 Dj.nil
        replace F80 := F80.chg hc87 Dj.nil
        replace hB := hB.inS hc87 inNil
        replace hZ := Nat.le_trans hZ hc87.size
        refine ⟨.bool (y84), rfl, ?_⟩
        refine wS_pure 2 [(23, .bool (!y84)), (22, .bool (!y84))] (by kernel_rfl) ?_
        refine wS_end (by rfl) ?_
        refine eX_then ?_
        refine cW_cond (t := !y84) (by kernel_rfl) (fun hb88 => ?_) (fun hb88 => ?_)
        · have hm := condT hb88 hm
          refine cW_seq ?_
          refine cW_region ?_
          refine wS_pure 1 [(2, .bool (false))] (by kernel_rfl) ?_
          refine wS_end (by rfl) ?_
          refine eX_then ?_
          refine cW_ret ?_
          refine eX_block_ret ?_
          refine eX_then_ret ?_
          have hq : (some (Ctl.out (Sum.inr false)) : Option (Ctl (Int) (Sum (Unit) ((Bool))))) = some _ := hm
          replace hq := someE hq
          subst hq
          refine eX_outR hx65 (fun hr => ?_)
          subst hr
          refine eX_block_ret ?_
          refine eX_then_ret ?_
          refine eX_then_ret ?_
          have hq : (some false : Option ((Bool))) = some _ := hm62
          replace hq := someE hq
          subst hq
          refine eX_ret (vs := [.bool (false)]) [.tmp 2] (by rfl) ⟨by (show lkE _ _ _ = _); kernel_rfl, trivial⟩ ?_
          exact ⟨rfl, hB⟩
        · have hm := condF hb88 hm
          refine cW_skip ?_
          refine eX_block ?_
          refine eX_then ?_
          refine cW_region ?_
          refine wS_pure 3 [(3, .int .i64 (wr (x57 + 1))), (9, .int .i64 (wr (x57 + 1))), (8, .int .i64 (x57))] (by kernel_rfl) ?_
          refine wS_end (by rfl) ?_
          have hq : (some (Ctl.next (wr (x57 + 1))) : Option (Ctl (Int) (Sum (Unit) ((Bool))))) = some _ := hm
          replace hq := someE hq
          subst hq
          exact eX_next hx65 (fun hst => ⟨wr (x57 + 1), rfl, Fr.of hst (by kernel_rfl), F59, hB, hZ⟩)
    · have hm := condF hb66 hm
      refine cW_exit ?_
      refine eX_then_exit ?_
      have hq : (some (Ctl.out (Sum.inl (()))) : Option (Ctl (Int) (Sum (Unit) ((Bool))))) = some _ := hm
      replace hq := someE hq
      subst hq
      refine eX_outX hx65 (fun hr89 => ?_)
      replace hr89 := hr89.symm
      subst hr89
      refine eX_block_hit ?_
      exact eX_J (fun hst => ⟨rfl, Fr.of hst (by kernel_rfl), F59, hB, hZ⟩)
  · rintro a' w53 ⟨hJ, hF54, F55, hB, hZ⟩
    subst hJ
    refine Fr.goX hF54 (by kernel_rfl) ?_
    refine eX_then ?_
    refine cW_seq ?_
    refine cW_region ?_
    refine wS_pure 4 [(2, .bool (decide ((((l0).length : Int)) ≤ 6))), (26, .bool (decide ((((l0).length : Int)) ≤ 6))), (25, .int .i64 (((l0).length : Int))), (24, .slice A0 (l0).length cap0)] (by kernel_rfl) ?_
    refine wS_end (by rfl) ?_
    refine eX_then ?_
    refine cW_ret ?_
    have hq : (some (decide ((((l0).length : Int)) ≤ 6)) : Option ((Bool))) = some _ := hm
    replace hq := someE hq
    subst hq
    refine eX_ret (vs := [.bool (decide ((((l0).length : Int)) ≤ 6))]) [.tmp 2] (by rfl) ⟨by (show lkE _ _ _ = _); kernel_rfl, trivial⟩ ?_
    exact ⟨rfl, hB⟩

set_option maxRecDepth 100000 in
/-- spec.l07Segments -/
theorem c_spec_l07Segments {w0 : World} {l0 : List (List (Int × Int))} {A0 : Option Addr} {cap0 : Nat} {fp0 : List Nat} {r : (List (List (Int)))} (hm : m_spec_l07Segments l0 = some r) (F0 : SlR 2 encII w0 fp0 A0 l0) :
    Calls Try.prog 111 #[.slice A0 (l0).length cap0] w0 fun e w' => ∃ A100 cap100 fp100 fr100, e = .returned (.slice A100 (r).length cap100) ∧ OwR 1 encI 78 2 w' fp100 fr100 A100 cap100 r ∧ (∀ x ∈ fp100 ++ fr100, w0.heap.size ≤ x) ∧ Chg [] w0 w' := by
  have L0 := F0.low
  have hB : Chg [] w0 w0 := Chg.refl _ _
  have hZ := Nat.le_refl w0.heap.size
  unfold m_spec_l07Segments at hm
  refine enterE (N := 34) Try.func111 (by rfl) Try.ntmps111 (by simp) [(0, .slice A0 (l0).length cap0)] (by rfl) (by kernel_rfl) (fun a => ?_)
  refine cW_seq ?_
  refine cW_region ?_
  refine wS_pure 1 [(2, .slice none 0 0)] (by kernel_rfl) ?_
  refine wS_end (by rfl) ?_
  refine eX_then ?_
  refine cW_seq ?_
  refine cW_region ?_
  refine wS_rows0 (k := 1) (enc := encI) (d := 7) (t := 47) (T := 78) (T2 := 2) (by kernel_rfl) el47 ?_
  intro b2 w3 G4 F5 hc6
  replace F0 := F0.chg hc6 Dj.nil
  replace hB := hB.inS hc6 inNil
  replace G4 := Nat.le_trans hZ G4
  replace G4 := low1 G4
  replace hZ := Nat.le_trans hZ hc6.size
  replace G4 := lowApp G4 lowNil
  refine wS_pure 1 [(3, .slice (some ⟨b2, 0, none⟩) (([] : List (List (Int)))).length 0)] (by kernel_rfl) ?_
  refine wS_end (by rfl) ?_
  refine eX_then ?_
  refine cW_seq ?_
  refine cW_seq ?_
  refine cW_region ?_
  refine wS_pure 1 [(4, .int .i64 (0))] (by kernel_rfl) ?_
  refine wS_end (by rfl) ?_
  refine eX_then ?_
  obtain ⟨r324, hr325, hm⟩ := bindE hm
  have hm326 := hm
  refine cW_cut (fun a' w' => ∃ l303 : List (List (Int)), ∃ A304 : Option Addr, ∃ cap305 : Nat, ∃ fp306 : List Nat, ∃ fr308 : List Nat, l303 = r324 ∧ Fr 34 [(3, .slice A304 (l303).length cap305)] a' ∧ OwR 1 encI 78 2 w' fp306 fr308 A304 cap305 l303 ∧ (∀ x ∈ (fp306 ++ fr308), w0.heap.size ≤ x) ∧ Chg [] w0 w' ∧ w0.heap.size ≤ w'.heap.size) ?_ ?_
  · refine cW_block ?_
    refine cW_loop _ (fun (s327 : (List (List (Int))) × Int) a' w' => ∃ l313 : List (List (Int)), ∃ A314 : Option Addr, ∃ cap315 : Nat, ∃ fp316 : List Nat, ∃ fr318 : List Nat, ∃ x319 : Int, (l313, x319) = s327 ∧ Fr 34 [(0, .slice A0 (l0).length cap0), (3, .slice A314 (l313).length cap315), (4, .int .i64 (x319))] a' ∧ SlR 2 encII w' fp0 A0 l0 ∧ OwR 1 encI 78 2 w' fp316 fr318 A314 cap315 l313 ∧ (∀ x ∈ (fp316 ++ fr318), w0.heap.size ≤ x) ∧ Chg [] w0 w' ∧ w0.heap.size ≤ w'.heap.size) hr325 (fun hst => ⟨([] : List (List (Int))), (some ⟨b2, 0, none⟩), 0, [b2], [], 0, rfl, Fr.of hst (by kernel_rfl), F0, F5, G4, hB, hZ⟩) ?_
    rintro _ c328 a' w312 ⟨l313, A314, cap315, fp316, fr318, x319, rfl, hF320, F321, F322, G323, hB, hZ⟩ hx329
    refine Fr.goOn hF320 (by kernel_rfl) ?_
    have hm := hx329
    unfold m_spec_l07Segments_s3 at hm
    refine cW_seq ?_
    refine cW_seq ?_
    refine cW_region ?_
    refine wS_pure 4 [(11, .bool (decide (x319 < (((l0).length : Int))))), (10, .int .i64 (((l0).length : Int))), (9, .slice A0 (l0).length cap0), (8, .int .i64 (x319))] (by kernel_rfl) ?_
    refine wS_end (by rfl) ?_
    refine eX_then ?_
    refine cW_cond (t := decide (x319 < (((l0).length : Int)))) (by kernel_rfl) (fun hb330 => ?_) (fun hb330 => ?_)
    · have hm := condT hb330 hm
      refine cW_skip ?_
      refine eX_then ?_
      refine cW_seq ?_
      refine cW_block ?_
      refine cW_seq ?_
      refine cW_region ?_
      refine wS_pure 2 [(15, .int .i64 (x319)), (14, .slice A0 (l0).length cap0)] (by kernel_rfl) ?_
      obtain ⟨x331, hx332, hm⟩ := bindE hm
      refine wS_idx (d := 16) (T := 55) (A := A0) (n := (l0).length) (cap := cap0) (kd := .i64) (m := x319) (by kernel_rfl) sl55 (F321.is hx332) ?_
      obtain ⟨A333, cap334, hc336, F335, K337⟩ := SlR.row F321 hx332
      refine wS_load1 (d := 17) (T := 25) (ad := (elA A0 1 (x319) 0)) (v := .slice A333 (x331).length cap334) (by kernel_rfl) vt25 hc336 ?_
      obtain ⟨y339, hy340, hm⟩ := bindE hm
      refine wS_calls (d := 18) (f := 90) (vs := [.slice A333 (x331).length cap334]) (by kernel_rfl) ent90 (c_spec_l01Corners hy340 F335) ?_
      rintro _ w341 ⟨A343, cap344, fp345, rfl, F346, G347, hc342⟩
      have D350 : Dj (fp316 ++ fr318) fp345 := Dj.of F322.low G347
      replace F321 := F321.chg hc342 Dj.nil
      replace F322 := F322.chg hc342 Dj.nil
      replace F335 := F335.chg hc342 Dj.nil
      replace hB := hB.inS hc342 inNil
      replace G347 := low_le hZ G347
      replace hZ := Nat.le_trans hZ hc342.size
      refine ⟨.slice A343 (y339).length cap344, rfl, ?_⟩
      refine wS_pure 2 [(5, .int .i64 (((y339).length : Int))), (19, .int .i64 (((y339).length : Int)))] (by kernel_rfl) ?_
      refine wS_end (by rfl) ?_
      refine eX_then ?_
      refine cW_seq ?_
      refine cW_region ?_
      refine wS_pure 1 [(6, .int .i64 (1))] (by kernel_rfl) ?_
      refine wS_end (by rfl) ?_
      refine eX_then ?_
      obtain ⟨r438, hr439, hm⟩ := bindE hm
      have hm440 := hm
      refine cW_cut (fun a' w' => ∃ l416 : List (List (Int)), ∃ A417 : Option Addr, ∃ cap418 : Nat, ∃ fp419 : List Nat, ∃ fr421 : List Nat, l416 = r438 ∧ Fr 34 [(0, .slice A0 (l0).length cap0), (3, .slice A417 (l416).length cap418), (4, .int .i64 (x319))] a' ∧ SlR 2 encII w' fp0 A0 l0 ∧ OwR 1 encI 78 2 w' fp419 fr421 A417 cap418 l416 ∧ (∀ x ∈ (fp419 ++ fr421), w0.heap.size ≤ x) ∧ Chg [] w0 w' ∧ w0.heap.size ≤ w'.heap.size) ?_ ?_
      · refine cW_block ?_
        refine cW_loop _ (fun (s441 : (List (List (Int))) × Int) a' w' => ∃ l427 : List (List (Int)), ∃ A428 : Option Addr, ∃ cap429 : Nat, ∃ fp430 : List Nat, ∃ fr432 : List Nat, ∃ x433 : Int, (l427, x433) = s441 ∧ Fr 34 [(0, .slice A0 (l0).length cap0), (3, .slice A428 (l427).length cap429), (4, .int .i64 (x319)), (5, .int .i64 (((y339).length : Int))), (6, .int .i64 (x433))] a' ∧ SlR 2 encII w' fp0 A0 l0 ∧ OwR 1 encI 78 2 w' fp430 fr432 A428 cap429 l427 ∧ (∀ x ∈ (fp430 ++ fr432), w0.heap.size ≤ x) ∧ Chg [] w0 w' ∧ w0.heap.size ≤ w'.heap.size) hr439 (fun hst => ⟨l313, A314, cap315, fp316, fr318, 1, rfl, Fr.of hst (by kernel_rfl), F321, F322, G323, hB, hZ⟩) ?_
        rintro _ c442 a' w426 ⟨l427, A428, cap429, fp430, fr432, x433, rfl, hF434, F435, F436, G437, hB, hZ⟩ hx443
        refine Fr.goOn hF434 (by kernel_rfl) ?_
        have hm := hx443
        unfold m_spec_l07Segments_s4 at hm
        refine cW_seq ?_
        refine cW_seq ?_
        refine cW_region ?_
        refine wS_pure 3 [(22, .bool (decide (x433 < (((y339).length : Int))))), (21, .int .i64 (((y339).length : Int))), (20, .int .i64 (x433))] (by kernel_rfl) ?_
        refine wS_end (by rfl) ?_
        refine eX_then ?_
        refine cW_cond (t := decide (x433 < (((y339).length : Int)))) (by kernel_rfl) (fun hb444 => ?_) (fun hb444 => ?_)
        · have hm := condT hb444 hm
          refine cW_skip ?_
          refine eX_then ?_
          refine cW_seq ?_
          refine cW_block ?_
          refine cW_region ?_
          refine wS_pure 5 [(29, .int .i64 (x433)), (28, .int .i64 (wr (x433 - 1))), (27, .int .i64 (x433)), (26, .int .i64 (x319)), (25, .slice A428 (l427).length cap429)] (by kernel_rfl) ?_
          refine wS_bs (enc := encI) ([x319, wr (x433 - 1), x433] : List (Int)) [.int .i64 (x319), .int .i64 (wr (x433 - 1)), .int .i64 (x433)] (d := 30) (t := 78) (T := 2) (n := 3) (ps := [(0, .int .i64 (x319)), (1, .int .i64 (wr (x433 - 1))), (2, .int .i64 (x433))]) (by kernel_rfl) el78 encI_ok (by rfl) (by omega) (by omega) (by kernel_rfl) (by rfl) ?_
          intro b445 w446 G447 F448 hc449
          have D451 : Dj (fp430 ++ fr432) [b445] := Dj.of F436.low (low1 G447)
          replace F435 := F435.chg hc449 Dj.nil
          replace F436 := F436.chg hc449 Dj.nil
          replace hB := hB.inS hc449 inNil
          replace G447 := Nat.le_trans hZ G447
          replace G447 := low1 G447
          replace hZ := Nat.le_trans hZ hc449.size
          refine wS_row1 (k := 1) (enc := encI) (l := ([x319, wr (x433 - 1), x433] : List (Int))) (d := 31) (t := 47) (T := 78) (B := (some ⟨b445, 0, none⟩)) (c := 3) (by kernel_rfl) el47 F448 ?_
          intro b452 w453 G454 F455 hc456
          have D458 : Dj (fp430 ++ fr432) ([b452] ++ [b445]) := Dj.app (Dj.of F436.low (low1 G454)) D451
          replace F435 := F435.chg hc456 Dj.nil
          replace F436 := F436.chg hc456 Dj.nil
          replace F448 := F448.chg hc456 Dj.nil
          replace hB := hB.inS hc456 inNil
          replace G454 := Nat.le_trans hZ G454
          replace G454 := lowApp (low1 G454) G447
          replace hZ := Nat.le_trans hZ hc456.size
          replace F448 := (F448.sl encI_ok)
          obtain ⟨_, hk459, hm⟩ := bindE hm
          replace hk459 := apE hk459
          refine wS_appendR (k := 1) (enc := encI) (ll := (l427 : List (List (Int)))) (ll2 := (([([x319, wr (x433 - 1), x433] : List (Int))] : List (List (Int))) : List (List (Int)))) (d := 32) (t := 47) (T := 78) (A := A428) (A2 := (some ⟨b452, 0, none⟩)) (cap := cap429) (cap2 := 1) (by kernel_rfl) el47 F436 F455 (by rfl) D458 hk459 ?_
          intro w460 fp461 A462 cap463 F464 hc465 hp466
          have G468 := lowApp (low_ap (low_inl G437) hZ hp466) (lowApp (low_inr G437) (low_inr G454))
          replace F435 := F435.chg hc465 (Dj.inl (Dj.of L0 G437))
          replace hB := hB.inS hc465 (memS_inl (inLow G437))
          replace hZ := Nat.le_trans hZ hc465.size
          refine wS_pure 1 [(3, .slice A462 (l427 ++ (([([x319, wr (x433 - 1), x433] : List (Int))] : List (List (Int))))).length cap463)] (by kernel_rfl) ?_
          refine wS_end (by rfl) ?_
          refine eX_block ?_
          refine eX_then ?_
          refine cW_region ?_
          refine wS_pure 3 [(6, .int .i64 (wr (x433 + 1))), (24, .int .i64 (wr (x433 + 1))), (23, .int .i64 (x433))] (by kernel_rfl) ?_
          refine wS_end (by rfl) ?_
          have hq : (some (Ctl.next ((l427 ++ (([([x319, wr (x433 - 1), x433] : List (Int))] : List (List (Int)))), wr (x433 + 1)))) : Option (Ctl ((List (List (Int))) × Int) ((List (List (Int)))))) = some _ := hm
          replace hq := someE hq
          subst hq
          exact eX_next hx443 (fun hst => ⟨l427 ++ (([([x319, wr (x433 - 1), x433] : List (Int))] : List (List (Int)))), A462, cap463, fp461, (fr432 ++ [b445]), wr (x433 + 1), rfl, Fr.of hst (by kernel_rfl), F435, F464, G468, hB, hZ⟩)
        · have hm := condF hb444 hm
          refine cW_exit ?_
          refine eX_then_exit ?_
          have hq : (some (Ctl.out l427) : Option (Ctl ((List (List (Int))) × Int) ((List (List (Int)))))) = some _ := hm
          replace hq := someE hq
          subst hq
          refine eX_outX hx443 (fun hr469 => ?_)
          replace hr469 := hr469.symm
          subst hr469
          refine eX_block_hit ?_
          exact eX_J (fun hst => ⟨l427, A428, cap429, fp430, fr432, rfl, Fr.of hst (by kernel_rfl), F435, F436, G437, hB, hZ⟩)
      · rintro a' w415 ⟨l416, A417, cap418, fp419, fr421, hJ, hF422, F423, F424, G425, hB, hZ⟩
        subst hJ
        refine Fr.goX hF422 (by kernel_rfl) ?_
        refine eX_block ?_
        refine eX_then ?_
        refine cW_region ?_
        refine wS_pure 3 [(4, .int .i64 (wr (x319 + 1))), (13, .int .i64 (wr (x319 + 1))), (12, .int .i64 (x319))] (by kernel_rfl) ?_
        refine wS_end (by rfl) ?_
        have hq : (some (Ctl.next ((l416, wr (x319 + 1)))) : Option (Ctl ((List (List (Int))) × Int) ((List (List (Int)))))) = some _ := hm
        replace hq := someE hq
        subst hq
        exact eX_next hx329 (fun hst => ⟨l416, A417, cap418, fp419, fr421, wr (x319 + 1), rfl, Fr.of hst (by kernel_rfl), F423, F424, G425, hB, hZ⟩)
    · have hm := condF hb330 hm
      refine cW_exit ?_
      refine eX_then_exit ?_
      have hq : (some (Ctl.out l313) : Option (Ctl ((List (List (Int))) × Int) ((List (List (Int)))))) = some _ := hm
      replace hq := someE hq
      subst hq
      refine eX_outX hx329 (fun hr470 => ?_)
      replace hr470 := hr470.symm
      subst hr470
      refine eX_block_hit ?_
      exact eX_J (fun hst => ⟨l313, A314, cap315, fp316, fr318, rfl, Fr.of hst (by kernel_rfl), F322, G323, hB, hZ⟩)
  · rintro a' w302 ⟨l303, A304, cap305, fp306, fr308, hJ, hF309, F310, G311, hB, hZ⟩
    subst hJ
    refine Fr.goX hF309 (by kernel_rfl) ?_
    refine eX_then ?_
    refine cW_seq ?_
    refine cW_region ?_
    refine wS_pure 2 [(2, .slice A304 (l303).length cap305), (33, .slice A304 (l303).length cap305)] (by kernel_rfl) ?_
    refine wS_end (by rfl) ?_
    refine eX_then ?_
    refine cW_ret ?_
    have hq : (some l303 : Option ((List (List (Int))))) = some _ := hm
    replace hq := someE hq
    subst hq
    refine eX_ret (vs := [.slice A304 (l303).length cap305]) [.tmp 2] (by rfl) ⟨by (show lkE _ _ _ = _); kernel_rfl, trivial⟩ ?_
    exact ⟨A304, cap305, fp306, fr308, rfl, F310, G311, hB⟩

set_option maxRecDepth 100000 in
/-- spec.SegmentsOf -/
theorem c_spec_SegmentsOf {w0 : World} {l0 : List (List (Int × Int))} {A0 : Option Addr} {cap0 : Nat} {fp0 : List Nat} {r : (List (List (Int))) × (Bool)} (hm : m_spec_SegmentsOf l0 = some r) (F0 : SlR 2 encII w0 fp0 A0 l0) :
    Calls Try.prog 63 #[.slice A0 (l0).length cap0] w0 fun e w' => ∃ A100 cap100 fp100 fr100, e = .returned (.tuple #[.slice A100 (r.1).length cap100, .bool (r.2)]) ∧ OwR 1 encI 78 2 w' fp100 fr100 A100 cap100 r.1 ∧ (∀ x ∈ fp100 ++ fr100, w0.heap.size ≤ x) ∧ Chg [] w0 w' := by
  have L0 := F0.low
  have hB : Chg [] w0 w0 := Chg.refl _ _
  have hZ := Nat.le_refl w0.heap.size
  unfold m_spec_SegmentsOf at hm
  refine enterE (N := 9) Try.func63 (by rfl) Try.ntmps63 (by simp) [(0, .slice A0 (l0).length cap0)] (by rfl) (by kernel_rfl) (fun a => ?_)
  refine cW_seq ?_
  refine cW_region ?_
  refine wS_pure 2 [(3, .bool (false)), (2, .slice none 0 0)] (by kernel_rfl) ?_
  refine wS_end (by rfl) ?_
  refine eX_then ?_
  refine cW_seq ?_
  refine cW_seq ?_
  refine cW_region ?_
  refine wS_pure 1 [(4, .slice A0 (l0).length cap0)] (by kernel_rfl) ?_
  obtain ⟨y2, hy3, hm⟩ := bindE hm
  refine wS_calls (d := 5) (f := 110) (vs := [.slice A0 (l0).length cap0]) (by kernel_rfl) ent110 (c_spec_l07Paths hy3 F0) ?_
  rintro _ w4 ⟨rfl, hc5⟩
  replace F0 := F0.chg hc5 Dj.nil
  replace hB := hB.inS hc5 inNil
  replace hZ := Nat.le_trans hZ hc5.size
  refine ⟨.bool (y2), rfl, ?_⟩
  refine wS_pure 1 [(6, .bool (!y2))] (by kernel_rfl) ?_
  refine wS_end (by rfl) ?_
  refine eX_then ?_
  refine cW_cond (t := !y2) (by kernel_rfl) (fun hb6 => ?_) (fun hb6 => ?_)
  · have hm := condT hb6 hm
    refine cW_seq ?_
    refine cW_region ?_
    refine wS_pure 2 [(3, .bool (false)), (2, .slice none 0 0)] (by kernel_rfl) ?_
    refine wS_end (by rfl) ?_
    refine eX_then ?_
    refine cW_ret ?_
    refine eX_then_ret ?_
    have hq : (some (([], false)) : Option ((List (List (Int))) × (Bool))) = some _ := hm
    replace hq := someE hq
    subst hq
    refine eX_ret (vs := [.slice none 0 0, .bool (false)]) [.tmp 2, .tmp 3] (by rfl) ⟨by (show lkE _ _ _ = _); kernel_rfl, ⟨by (show lkE _ _ _ = _); kernel_rfl, trivial⟩⟩ ?_
    exact ⟨none, 0, [], [], rfl, OwR.nil _, (lowApp lowNil lowNil), hB⟩
  · have hm := condF hb6 hm
    refine cW_skip ?_
    refine eX_then ?_
    refine cW_seq ?_
    refine cW_region ?_
    refine wS_pure 1 [(7, .slice A0 (l0).length cap0)] (by kernel_rfl) ?_
    obtain ⟨y7, hy8, hm⟩ := bindE hm
    refine wS_calls (d := 8) (f := 111) (vs := [.slice A0 (l0).length cap0]) (by kernel_rfl) ent111 (c_spec_l07Segments hy8 F0) ?_
    rintro _ w9 ⟨A11, cap12, fp13, fr16, rfl, F14, G15, hc10⟩
    replace F0 := F0.chg hc10 Dj.nil
    replace hB := hB.inS hc10 inNil
    replace G15 := low_le hZ G15
    replace hZ := Nat.le_trans hZ hc10.size
    refine ⟨.slice A11 (y7).length cap12, rfl, ?_⟩
    refine wS_pure 2 [(3, .bool (true)), (2, .slice A11 (y7).length cap12)] (by kernel_rfl) ?_
    refine wS_end (by rfl) ?_
    refine eX_then ?_
    refine cW_ret ?_
    have hq : (some ((y7, true)) : Option ((List (List (Int))) × (Bool))) = some _ := hm
    replace hq := someE hq
    subst hq
    refine eX_ret (vs := [.slice A11 (y7).length cap12, .bool (true)]) [.tmp 2, .tmp 3] (by rfl) ⟨by (show lkE _ _ _ = _); kernel_rfl, ⟨by (show lkE _ _ _ = _); kernel_rfl, trivial⟩⟩ ?_
    exact ⟨A11, cap12, fp13, fr16, rfl, F14, G15, hB⟩

set_option maxRecDepth 100000 in
/-- impl.pathsOk$1 -/
theorem c_impl_pathsOk_1 {w0 : World} {l0 : List (Int × Int)} {A0 : Option Addr} {cap0 : Nat} {fp0 : List Nat} {r : (Bool)} (hm : m_impl_pathsOk_1 l0 = some r) (F0 : Sl 2 encII w0 fp0 A0 l0) :
    Calls Try.prog 141 #[.slice A0 (l0).length cap0] w0 fun e w' => e = .returned (.bool (r)) ∧ Chg [] w0 w' := by
  have L0 := F0.low
  have hB : Chg [] w0 w0 := Chg.refl _ _
  have hZ := Nat.le_refl w0.heap.size
  unfold m_impl_pathsOk_1 at hm
  refine enterE (N := 11) Try.func141 (by rfl) Try.ntmps141 (by simp) [(0, .slice A0 (l0).length cap0)] (by rfl) (by kernel_rfl) (fun a => ?_)
  refine cW_seq ?_
  refine cW_region ?_
  refine wS_pure 1 [(2, .bool (false))] (by kernel_rfl) ?_
  refine wS_end (by rfl) ?_
  refine eX_then ?_
  refine cW_seq ?_
  refine cW_region ?_
  refine wS_pure 4 [(6, .bool (decide ((((l0).length : Int)) < 2))), (5, .bool (decide ((((l0).length : Int)) < 2))), (4, .int .i64 (((l0).length : Int))), (3, .slice A0 (l0).length cap0)] (by kernel_rfl) ?_
  refine wS_bool (decide ((((l0).length : Int)) < 2)) (fun hb2 => ?_) (fun hb2 => ?_)
  · have hm := condT hb2 hm
    rewrite [hb2]
    refine wS_pure 5 [(2, .bool (true)), (10, .bool (true)), (9, undef), (8, undef), (7, undef)] (by kernel_rfl) ?_
    refine wS_end (by rfl) ?_
    refine eX_then ?_
    refine cW_ret ?_
    have hq : (some true : Option ((Bool))) = some _ := hm
    replace hq := someE hq
    subst hq
    refine eX_ret (vs := [.bool (true)]) [.tmp 2] (by rfl) ⟨by (show lkE _ _ _ = _); kernel_rfl, trivial⟩ ?_
    exact ⟨rfl, hB⟩
  · have hm := condF hb2 hm
    rewrite [hb2]
    refine wS_pure 1 [(7, .slice A0 (l0).length cap0)] (by kernel_rfl) ?_
    obtain ⟨y3, hy4, hm⟩ := bindE hm
    refine wS_calls (d := 8) (f := 23) (vs := [.slice A0 (l0).length cap0]) (by kernel_rfl) ent23 (c_impl_IsPath hy4 F0) ?_
    rintro _ w5 ⟨rfl, hc6⟩
    replace F0 := F0.chg hc6 Dj.nil
    replace hB := hB.inS hc6 inNil
    replace hZ := Nat.le_trans hZ hc6.size
    refine ⟨.bool (y3), rfl, ?_⟩
    refine wS_pure 3 [(2, .bool (!y3)), (10, .bool (!y3)), (9, .bool (!y3))] (by kernel_rfl) ?_
    refine wS_end (by rfl) ?_
    refine eX_then ?_
    refine cW_ret ?_
    have hq : (some (!y3) : Option ((Bool))) = some _ := hm
    replace hq := someE hq
    subst hq
    refine eX_ret (vs := [.bool (!y3)]) [.tmp 2] (by rfl) ⟨by (show lkE _ _ _ = _); kernel_rfl, trivial⟩ ?_
    exact ⟨rfl, hB⟩

set_option maxRecDepth 100000 in
/-- impl.Point] -/
theorem c_slices_IndexFunc_impl_Point_impl_Point_impl_pathsOk_1 {w0 : World} {l0 : List (List (Int × Int))} {A0 : Option Addr} {cap0 : Nat} {fp0 : List Nat} {r : (Int)} (hm : m_slices_IndexFunc_impl_Point_impl_Point_impl_pathsOk_1 l0 = some r) (F0 : SlR 2 encII w0 fp0 A0 l0) :
    Calls Try.prog 151 #[.slice A0 (l0).length cap0, .func (.func 141) #[] #[]] w0 fun e w' => e = .returned (.int .i64 (r)) ∧ Chg [] w0 w' := by
  have L0 := F0.low
  have hB : Chg [] w0 w0 := Chg.refl _ _
  have hZ := Nat.le_refl w0.heap.size
  unfold m_slices_IndexFunc_impl_Point_impl_Point_impl_pathsOk_1 at hm
  refine enterE (N := 19) Try.func151 (by rfl) Try.ntmps151 (by simp) [(0, .slice A0 (l0).length cap0), (1, .func (.func 141) #[] #[])] (by rfl) (by kernel_rfl) (fun a => ?_)
  refine cW_seq ?_
  refine cW_region ?_
  refine wS_pure 1 [(4, .int .i64 (0))] (by kernel_rfl) ?_
  refine wS_end (by rfl) ?_
  refine eX_then ?_
  refine cW_seq ?_
  refine cW_seq ?_
  refine cW_region ?_
  refine wS_pure 3 [(8, .int .i64 (0)), (7, .int .i64 (((l0).length : Int))), (6, .slice A0 (l0).length cap0)] (by kernel_rfl) ?_
  refine wS_end (by rfl) ?_
  refine eX_then ?_
  obtain ⟨r41, hr42, hm⟩ := bindE hm
  have hm43 := hm
  refine cW_cut (fun a' w' => Sum.inl (()) = r41 ∧ Fr 19 [] a' ∧ Chg [] w0 w' ∧ w0.heap.size ≤ w'.heap.size) ?_ ?_
  · refine cW_block ?_
    refine cW_loop _ (fun (s44 : Int) a' w' => ∃ x38 : Int, x38 = s44 ∧ Fr 19 [(0, .slice A0 (l0).length cap0), (1, .func (.func 141) #[] #[]), (7, .int .i64 (((l0).length : Int))), (8, .int .i64 (x38))] a' ∧ SlR 2 encII w' fp0 A0 l0 ∧ Chg [] w0 w' ∧ w0.heap.size ≤ w'.heap.size) hr42 (fun hst => ⟨0, rfl, Fr.of hst (by kernel_rfl), F0, hB, hZ⟩) ?_
    rintro _ c45 a' w37 ⟨x38, rfl, hF39, F40, hB, hZ⟩ hx46
    refine Fr.goOn hF39 (by kernel_rfl) ?_
    have hm := hx46
    unfold m_slices_IndexFunc_impl_Point_impl_Point_impl_pathsOk_1_s1 at hm
    refine cW_seq ?_
    refine cW_region ?_
    refine wS_pure 1 [(9, .bool (decide (x38 < (((l0).length : Int)))))] (by kernel_rfl) ?_
    refine wS_end (by rfl) ?_
    refine eX_then ?_
    refine cW_seq ?_
    refine cW_cond (t := decide (x38 < (((l0).length : Int)))) (by kernel_rfl) (fun hb47 => ?_) (fun hb47 => ?_)
    · have hm := condT hb47 hm
      refine cW_skip ?_
      refine eX_then ?_
      refine cW_seq ?_
      refine cW_block ?_
      refine cW_seq ?_
      refine cW_region ?_
      refine wS_pure 2 [(5, .int .i64 (x38)), (10, .int .i64 (x38))] (by kernel_rfl) ?_
      refine wS_end (by rfl) ?_
      refine eX_then ?_
      refine cW_seq ?_
      refine cW_region ?_
      refine wS_pure 3 [(13, .int .i64 (x38)), (12, .slice A0 (l0).length cap0), (11, .func (.func 141) #[] #[])] (by kernel_rfl) ?_
      obtain ⟨x48, hx49, hm⟩ := bindE hm
      refine wS_idx (d := 14) (T := 55) (A := A0) (n := (l0).length) (cap := cap0) (kd := .i64) (m := x38) (by kernel_rfl) sl55 (F40.is hx49) ?_
      obtain ⟨A50, cap51, hc53, F52, K54⟩ := SlR.row F40 hx49
      refine wS_load1 (d := 15) (T := 25) (ad := (elA A0 1 (x38) 0)) (v := .slice A50 (x48).length cap51) (by kernel_rfl) vt25 hc53 ?_
      obtain ⟨y56, hy57, hm⟩ := bindE hm
      refine wS_calls (d := 16) (f := 141) (vs := [.slice A50 (x48).length cap51]) (by kernel_rfl) ent141 (c_impl_pathsOk_1 hy57 F52) ?_
      rintro _ w58 ⟨rfl, hc59⟩
      replace F40 := F40.chg hc59 Dj.nil
      replace F52 := F52.chg hc59 Dj.nil
      replace hB := hB.inS hc59 inNil
      replace hZ := Nat.le_trans hZ hc59.size
      refine ⟨.bool (y56), rfl, ?_⟩
      refine wS_end (by rfl) ?_
      refine eX_then ?_
      refine cW_cond (t := y56) (by kernel_rfl) (fun hb60 => ?_) (fun hb60 => ?_)
      · have hm := condT hb60 hm
        refine cW_seq ?_
        refine cW_region ?_
        refine wS_pure 2 [(4, .int .i64 (x38)), (17, .int .i64 (x38))] (by kernel_rfl) ?_
        refine wS_end (by rfl) ?_
        refine eX_then ?_
        refine cW_ret ?_
        refine eX_block_ret ?_
        refine eX_then_ret ?_
        have hq : (some (Ctl.out (Sum.inr x38)) : Option (Ctl (Int) (Sum (Unit) ((Int))))) = some _ := hm
        replace hq := someE hq
        subst hq
        refine eX_outR hx46 (fun hr => ?_)
        subst hr
        refine eX_block_ret ?_
        refine eX_then_ret ?_
        refine eX_then_ret ?_
        have hq : (some x38 : Option ((Int))) = some _ := hm43
        replace hq := someE hq
        subst hq
        refine eX_ret (vs := [.int .i64 (x38)]) [.tmp 4] (by rfl) ⟨by (show lkE _ _ _ = _); kernel_rfl, trivial⟩ ?_
        exact ⟨rfl, hB⟩
      · have hm := condF hb60 hm
        refine cW_skip ?_
        refine eX_block ?_
        refine eX_then ?_
        refine cW_region ?_
        refine wS_pure 2 [(8, .int .i64 (wr (x38 + 1))), (18, .int .i64 (wr (x38 + 1)))] (by kernel_rfl) ?_
        refine wS_end (by rfl) ?_
        have hq : (some (Ctl.next (wr (x38 + 1))) : Option (Ctl (Int) (Sum (Unit) ((Int))))) = some _ := hm
        replace hq := someE hq
        subst hq
        exact eX_next hx46 (fun hst => ⟨wr (x38 + 1), rfl, Fr.of hst (by kernel_rfl), F40, hB, hZ⟩)
    · have hm := condF hb47 hm
      refine cW_exit ?_
      refine eX_then_exit ?_
      have hq : (some (Ctl.out (Sum.inl (()))) : Option (Ctl (Int) (Sum (Unit) ((Int))))) = some _ := hm
      replace hq := someE hq
      subst hq
      refine eX_outX hx46 (fun hr61 => ?_)
      replace hr61 := hr61.symm
      subst hr61
      refine eX_block_hit ?_
      exact eX_J (fun hst => ⟨rfl, Fr.of hst (by kernel_rfl), hB, hZ⟩)
  · rintro a' w35 ⟨hJ, hF36, hB, hZ⟩
    subst hJ
    refine Fr.goX hF36 (by kernel_rfl) ?_
    refine eX_then ?_
    refine cW_seq ?_
    refine cW_region ?_
    refine wS_pure 1 [(4, .int .i64 ((-1)))] (by kernel_rfl) ?_
    refine wS_end (by rfl) ?_
    refine eX_then ?_
    refine cW_ret ?_
    have hq : (some ((-1)) : Option ((Int))) = some _ := hm
    replace hq := someE hq
    subst hq
    refine eX_ret (vs := [.int .i64 ((-1))]) [.tmp 4] (by rfl) ⟨by (show lkE _ _ _ = _); kernel_rfl, trivial⟩ ?_
    exact ⟨rfl, hB⟩

set_option maxRecDepth 100000 in
/-- impl.Point] -/
theorem c_slices_ContainsFunc_impl_Point_impl_Point_impl_pathsOk_1 {w0 : World} {l0 : List (List (Int × Int))} {A0 : Option Addr} {cap0 : Nat} {fp0 : List Nat} {r : (Bool)} (hm : m_slices_ContainsFunc_impl_Point_impl_Point_impl_pathsOk_1 l0 = some r) (F0 : SlR 2 encII w0 fp0 A0 l0) :
    Calls Try.prog 140 #[.slice A0 (l0).length cap0, .func (.func 141) #[] #[]] w0 fun e w' => e = .returned (.bool (r)) ∧ Chg [] w0 w' := by
  have L0 := F0.low
  have hB : Chg [] w0 w0 := Chg.refl _ _
  have hZ := Nat.le_refl w0.heap.size
  unfold m_slices_ContainsFunc_impl_Point_impl_Point_impl_pathsOk_1 at hm
  refine enterE (N := 9) Try.func140 (by rfl) Try.ntmps140 (by simp) [(0, .slice A0 (l0).length cap0), (1, .func (.func 141) #[] #[])] (by rfl) (by kernel_rfl) (fun a => ?_)
  refine cW_seq ?_
  refine cW_region ?_
  refine wS_pure 1 [(4, .bool (false))] (by kernel_rfl) ?_
  refine wS_end (by rfl) ?_
  refine eX_then ?_
  refine cW_seq ?_
  refine cW_region ?_
  refine wS_pure 2 [(6, .func (.func 141) #[] #[]), (5, .slice A0 (l0).length cap0)] (by kernel_rfl) ?_
  obtain ⟨y2, hy3, hm⟩ := bindE hm
  refine wS_calls (d := 7) (f := 151) (vs := [.slice A0 (l0).length cap0, .func (.func 141) #[] #[]]) (by kernel_rfl) ent151 (c_slices_IndexFunc_impl_Point_impl_Point_impl_pathsOk_1 hy3 F0) ?_
  rintro _ w4 ⟨rfl, hc5⟩
  replace F0 := F0.chg hc5 Dj.nil
  replace hB := hB.inS hc5 inNil
  replace hZ := Nat.le_trans hZ hc5.size
  refine ⟨.int .i64 (y2), rfl, ?_⟩
  refine wS_pure 2 [(4, .bool (decide (y2 ≥ 0))), (8, .bool (decide (y2 ≥ 0)))] (by kernel_rfl) ?_
  refine wS_end (by rfl) ?_
  refine eX_then ?_
  refine cW_ret ?_
  have hq : (some (decide (y2 ≥ 0)) : Option ((Bool))) = some _ := hm
  replace hq := someE hq
  subst hq
  refine eX_ret (vs := [.bool (decide (y2 ≥ 0))]) [.tmp 4] (by rfl) ⟨by (show lkE _ _ _ = _); kernel_rfl, trivial⟩ ?_
  exact ⟨rfl, hB⟩

set_option maxRecDepth 100000 in
/-- impl.pathsOk -/
theorem c_impl_pathsOk {w0 : World} {l0 : List (List (Int × Int))} {A0 : Option Addr} {cap0 : Nat} {fp0 : List Nat} {r : (Bool)} (hm : m_impl_pathsOk l0 = some r) (F0 : SlR 2 encII w0 fp0 A0 l0) :
    Calls Try.prog 112 #[.slice A0 (l0).length cap0] w0 fun e w' => e = .returned (.bool (r)) ∧ Chg [] w0 w' := by
  have L0 := F0.low
  have hB : Chg [] w0 w0 := Chg.refl _ _
  have hZ := Nat.le_refl w0.heap.size
  unfold m_impl_pathsOk at hm
  refine enterE (N := 11) Try.func112 (by rfl) Try.ntmps112 (by simp) [(0, .slice A0 (l0).length cap0)] (by rfl) (by kernel_rfl) (fun a => ?_)
  refine cW_seq ?_
  refine cW_region ?_
  refine wS_pure 1 [(2, .bool (false))] (by kernel_rfl) ?_
  refine wS_end (by rfl) ?_
  refine eX_then ?_
  refine cW_seq ?_
  refine cW_region ?_
  refine wS_pure 4 [(6, .bool (decide ((((l0).length : Int)) ≤ 6))), (5, .bool (decide ((((l0).length : Int)) ≤ 6))), (4, .int .i64 (((l0).length : Int))), (3, .slice A0 (l0).length cap0)] (by kernel_rfl) ?_
  refine wS_bool (decide ((((l0).length : Int)) ≤ 6)) (fun hb2 => ?_) (fun hb2 => ?_)
  · have hm := condT hb2 hm
    rewrite [hb2]
    refine wS_pure 1 [(7, .slice A0 (l0).length cap0)] (by kernel_rfl) ?_
    obtain ⟨y3, hy4, hm⟩ := bindE hm
    refine wS_calls (d := 8) (f := 140) (vs := [.slice A0 (l0).length cap0, .func (.func 141) #[] #[]]) (by kernel_rfl) ent140 (c_slices_ContainsFunc_impl_Point_impl_Point_impl_pathsOk_1 hy4 F0) ?_
    rintro _ w5 ⟨rfl, hc6⟩
    replace F0 := F0.chg hc6 Dj.nil
    replace hB := hB.inS hc6 inNil
    replace hZ := Nat.le_trans hZ hc6.size
    refine ⟨.bool (y3), rfl, ?_⟩
    refine wS_pure 3 [(2, .bool (!y3)), (10, .bool (!y3)), (9, .bool (!y3))] (by kernel_rfl) ?_
    refine wS_end (by rfl) ?_
    refine eX_then ?_
    refine cW_ret ?_
    have hq : (some (!y3) : Option ((Bool))) = some _ := hm
    replace hq := someE hq
    subst hq
    refine eX_ret (vs := [.bool (!y3)]) [.tmp 2] (by rfl) ⟨by (show lkE _ _ _ = _); kernel_rfl, trivial⟩ ?_
    exact ⟨rfl, hB⟩
  · have hm := condF hb2 hm
    rewrite [hb2]
    refine wS_pure 5 [(2, .bool (false)), (10, .bool (false)), (9, undef), (8, undef), (7, undef)] (by kernel_rfl) ?_
    refine wS_end (by rfl) ?_
    refine eX_then ?_
    refine cW_ret ?_
    have hq : (some false : Option ((Bool))) = some _ := hm
    replace hq := someE hq
    subst hq
    refine eX_ret (vs := [.bool (false)]) [.tmp 2] (by rfl) ⟨by (show lkE _ _ _ = _); kernel_rfl, trivial⟩ ?_
    exact ⟨rfl, hB⟩

set_option maxRecDepth 100000 in
/-- impl.segments -/
theorem c_impl_segments {w0 : World} {l0 : List (List (Int × Int))} {A0 : Option Addr} {cap0 : Nat} {fp0 : List Nat} {r : (List (List (Int)))} (hm : m_impl_segments l0 = some r) (F0 : SlR 2 encII w0 fp0 A0 l0) :
    Calls Try.prog 113 #[.slice A0 (l0).length cap0] w0 fun e w' => ∃ A100 cap100 fp100 fr100, e = .returned (.slice A100 (r).length cap100) ∧ OwR 1 encI 78 2 w' fp100 fr100 A100 cap100 r ∧ (∀ x ∈ fp100 ++ fr100, w0.heap.size ≤ x) ∧ Chg [] w0 w' := by
  have L0 := F0.low
  have hB : Chg [] w0 w0 := Chg.refl _ _
  have hZ := Nat.le_refl w0.heap.size
  unfold m_impl_segments at hm
  refine enterE (N := 32) Try.func113 (by rfl) Try.ntmps113 (by simp) [(0, .slice A0 (l0).length cap0)] (by rfl) (by kernel_rfl) (fun a => ?_)
  refine cW_seq ?_
  refine cW_region ?_
  refine wS_pure 1 [(2, .slice none 0 0)] (by kernel_rfl) ?_
  refine wS_end (by rfl) ?_
  refine eX_then ?_
  refine cW_seq ?_
  refine cW_region ?_
  refine wS_rows0 (k := 1) (enc := encI) (d := 7) (t := 47) (T := 78) (T2 := 2) (by kernel_rfl) el47 ?_
  intro b2 w3 G4 F5 hc6
  replace F0 := F0.chg hc6 Dj.nil
  replace hB := hB.inS hc6 inNil
  replace G4 := Nat.le_trans hZ G4
  replace G4 := low1 G4
  replace hZ := Nat.le_trans hZ hc6.size
  replace G4 := lowApp G4 lowNil
  refine wS_pure 1 [(3, .slice (some ⟨b2, 0, none⟩) (([] : List (List (Int)))).length 0)] (by kernel_rfl) ?_
  refine wS_end (by rfl) ?_
  refine eX_then ?_
  refine cW_seq ?_
  refine cW_seq ?_
  refine cW_region ?_
  refine wS_pure 3 [(10, .int .i64 (0)), (9, .int .i64 (((l0).length : Int))), (8, .slice A0 (l0).length cap0)] (by kernel_rfl) ?_
  refine wS_end (by rfl) ?_
  refine eX_then ?_
  obtain ⟨r396, hr397, hm⟩ := bindE hm
  have hm398 := hm
  refine cW_cut (fun a' w' => ∃ l375 : List (List (Int)), ∃ A376 : Option Addr, ∃ cap377 : Nat, ∃ fp378 : List Nat, ∃ fr380 : List Nat, l375 = r396 ∧ Fr 32 [(3, .slice A376 (l375).length cap377)] a' ∧ OwR 1 encI 78 2 w' fp378 fr380 A376 cap377 l375 ∧ (∀ x ∈ (fp378 ++ fr380), w0.heap.size ≤ x) ∧ Chg [] w0 w' ∧ w0.heap.size ≤ w'.heap.size) ?_ ?_
  · refine cW_block ?_
    refine cW_loop _ (fun (s399 : (List (List (Int))) × Int) a' w' => ∃ l385 : List (List (Int)), ∃ A386 : Option Addr, ∃ cap387 : Nat, ∃ fp388 : List Nat, ∃ fr390 : List Nat, ∃ x391 : Int, (l385, x391) = s399 ∧ Fr 32 [(3, .slice A386 (l385).length cap387), (8, .slice A0 (l0).length cap0), (9, .int .i64 (((l0).length : Int))), (10, .int .i64 (x391))] a' ∧ SlR 2 encII w' fp0 A0 l0 ∧ OwR 1 encI 78 2 w' fp388 fr390 A386 cap387 l385 ∧ (∀ x ∈ (fp388 ++ fr390), w0.heap.size ≤ x) ∧ Chg [] w0 w' ∧ w0.heap.size ≤ w'.heap.size) hr397 (fun hst => ⟨([] : List (List (Int))), (some ⟨b2, 0, none⟩), 0, [b2], [], 0, rfl, Fr.of hst (by kernel_rfl), F0, F5, G4, hB, hZ⟩) ?_
    rintro _ c400 a' w384 ⟨l385, A386, cap387, fp388, fr390, x391, rfl, hF392, F393, F394, G395, hB, hZ⟩ hx401
    refine Fr.goOn hF392 (by kernel_rfl) ?_
    have hm := hx401
    unfold m_impl_segments_s3 at hm
    refine cW_seq ?_
    refine cW_region ?_
    refine wS_pure 1 [(11, .bool (decide (x391 < (((l0).length : Int)))))] (by kernel_rfl) ?_
    refine wS_end (by rfl) ?_
    refine eX_then ?_
    refine cW_seq ?_
    refine cW_cond (t := decide (x391 < (((l0).length : Int)))) (by kernel_rfl) (fun hb402 => ?_) (fun hb402 => ?_)
    · have hm := condT hb402 hm
      refine cW_skip ?_
      refine eX_then ?_
      refine cW_seq ?_
      refine cW_block ?_
      refine cW_seq ?_
      refine cW_region ?_
      refine wS_pure 1 [(12, .int .i64 (x391))] (by kernel_rfl) ?_
      obtain ⟨x403, hx404, hm⟩ := bindE hm
      refine wS_idx (d := 13) (T := 55) (A := A0) (n := (l0).length) (cap := cap0) (kd := .i64) (m := x391) (by kernel_rfl) sl55 (F393.is hx404) ?_
      obtain ⟨A405, cap406, hc408, F407, K409⟩ := SlR.row F393 hx404
      refine wS_load1 (d := 14) (T := 25) (ad := (elA A0 1 (x391) 0)) (v := .slice A405 (x403).length cap406) (by kernel_rfl) vt25 hc408 ?_
      refine wS_pure 2 [(5, .slice A405 (x403).length cap406), (4, .int .i64 (x391))] (by kernel_rfl) ?_
      refine wS_end (by rfl) ?_
      refine eX_then ?_
      refine cW_seq ?_
      refine cW_region ?_
      refine wS_pure 1 [(6, .int .i64 (1))] (by kernel_rfl) ?_
      refine wS_end (by rfl) ?_
      refine eX_then ?_
      obtain ⟨r531, hr532, hm⟩ := bindE hm
      have hm533 := hm
      refine cW_cut (fun a' w' => ∃ l508 : List (List (Int)), ∃ A509 : Option Addr, ∃ cap510 : Nat, ∃ fp511 : List Nat, ∃ fr513 : List Nat, l508 = r531 ∧ Fr 32 [(3, .slice A509 (l508).length cap510), (8, .slice A0 (l0).length cap0), (9, .int .i64 (((l0).length : Int))), (10, .int .i64 (x391))] a' ∧ SlR 2 encII w' fp0 A0 l0 ∧ OwR 1 encI 78 2 w' fp511 fr513 A509 cap510 l508 ∧ (∀ x ∈ (fp511 ++ fr513), w0.heap.size ≤ x) ∧ Chg [] w0 w' ∧ w0.heap.size ≤ w'.heap.size) ?_ ?_
      · refine cW_block ?_
        refine cW_loop _ (fun (s534 : (List (List (Int))) × Int) a' w' => ∃ l519 : List (List (Int)), ∃ A520 : Option Addr, ∃ cap521 : Nat, ∃ fp522 : List Nat, ∃ fr524 : List Nat, ∃ x525 : Int, (l519, x525) = s534 ∧ Fr 32 [(3, .slice A520 (l519).length cap521), (4, .int .i64 (x391)), (5, .slice A405 (x403).length cap406), (6, .int .i64 (x525)), (8, .slice A0 (l0).length cap0), (9, .int .i64 (((l0).length : Int))), (10, .int .i64 (x391))] a' ∧ SlR 2 encII w' fp0 A0 l0 ∧ Sl 2 encII w' fp0 A405 x403 ∧ OwR 1 encI 78 2 w' fp522 fr524 A520 cap521 l519 ∧ (∀ x ∈ (fp522 ++ fr524), w0.heap.size ≤ x) ∧ Chg [] w0 w' ∧ w0.heap.size ≤ w'.heap.size) hr532 (fun hst => ⟨l385, A386, cap387, fp388, fr390, 1, rfl, Fr.of hst (by kernel_rfl), F393, F407, F394, G395, hB, hZ⟩) ?_
        rintro _ c535 a' w518 ⟨l519, A520, cap521, fp522, fr524, x525, rfl, hF526, F527, F528, F529, G530, hB, hZ⟩ hx536
        refine Fr.goOn hF526 (by kernel_rfl) ?_
        have hm := hx536
        unfold m_impl_segments_s4 at hm
        refine cW_seq ?_
        refine cW_seq ?_
        refine cW_region ?_
        refine wS_pure 2 [(16, .slice A405 (x403).length cap406), (15, .int .i64 (x525))] (by kernel_rfl) ?_
        obtain ⟨y537, hy538, hm⟩ := bindE hm
        refine wS_calls (d := 17) (f := 82) (vs := [.slice A405 (x403).length cap406]) (by kernel_rfl) ent82 (c_impl_corners hy538 F528) ?_
        rintro _ w539 ⟨A541, cap542, fp543, rfl, F544, G545, hc540⟩
        have D548 : Dj (fp522 ++ fr524) fp543 := Dj.of F529.low G545
        replace F527 := F527.chg hc540 Dj.nil
        replace F528 := F528.chg hc540 Dj.nil
        replace F529 := F529.chg hc540 Dj.nil
        replace hB := hB.inS hc540 inNil
        replace G545 := low_le hZ G545
        replace hZ := Nat.le_trans hZ hc540.size
        refine ⟨.slice A541 (y537).length cap542, rfl, ?_⟩
        refine wS_pure 2 [(19, .bool (decide (x525 < (((y537).length : Int))))), (18, .int .i64 (((y537).length : Int)))] (by kernel_rfl) ?_
        refine wS_end (by rfl) ?_
        refine eX_then ?_
        refine cW_cond (t := decide (x525 < (((y537).length : Int)))) (by kernel_rfl) (fun hb549 => ?_) (fun hb549 => ?_)
        · have hm := condT hb549 hm
          refine cW_skip ?_
          refine eX_then ?_
          refine cW_seq ?_
          refine cW_block ?_
          refine cW_region ?_
          refine wS_pure 5 [(26, .int .i64 (x525)), (25, .int .i64 (wr (x525 - 1))), (24, .int .i64 (x525)), (23, .int .i64 (x391)), (22, .slice A520 (l519).length cap521)] (by kernel_rfl) ?_
          refine wS_bs (enc := encI) ([x391, wr (x525 - 1), x525] : List (Int)) [.int .i64 (x391), .int .i64 (wr (x525 - 1)), .int .i64 (x525)] (d := 27) (t := 78) (T := 2) (n := 3) (ps := [(0, .int .i64 (x391)), (1, .int .i64 (wr (x525 - 1))), (2, .int .i64 (x525))]) (by kernel_rfl) el78 encI_ok (by rfl) (by omega) (by omega) (by kernel_rfl) (by rfl) ?_
          intro b550 w551 G552 F553 hc554
          have D556 : Dj (fp522 ++ fr524) [b550] := Dj.of F529.low (low1 G552)
          have D557 : Dj fp543 [b550] := Dj.of F544.low (low1 G552)
          replace F527 := F527.chg hc554 Dj.nil
          replace F528 := F528.chg hc554 Dj.nil
          replace F529 := F529.chg hc554 Dj.nil
          replace F544 := F544.chg hc554 Dj.nil
          replace hB := hB.inS hc554 inNil
          replace G552 := Nat.le_trans hZ G552
          replace G552 := low1 G552
          replace hZ := Nat.le_trans hZ hc554.size
          refine wS_row1 (k := 1) (enc := encI) (l := ([x391, wr (x525 - 1), x525] : List (Int))) (d := 28) (t := 47) (T := 78) (B := (some ⟨b550, 0, none⟩)) (c := 3) (by kernel_rfl) el47 F553 ?_
          intro b558 w559 G560 F561 hc562
          have D564 : Dj (fp522 ++ fr524) ([b558] ++ [b550]) := Dj.app (Dj.of F529.low (low1 G560)) D556
          have D565 : Dj fp543 ([b558] ++ [b550]) := Dj.app (Dj.of F544.low (low1 G560)) D557
          replace F527 := F527.chg hc562 Dj.nil
          replace F528 := F528.chg hc562 Dj.nil
          replace F529 := F529.chg hc562 Dj.nil
          replace F544 := F544.chg hc562 Dj.nil
          replace F553 := F553.chg hc562 Dj.nil
          replace hB := hB.inS hc562 inNil
          replace G560 := Nat.le_trans hZ G560
          replace G560 := lowApp (low1 G560) G552
          replace hZ := Nat.le_trans hZ hc562.size
          replace F553 := (F553.sl encI_ok)
          obtain ⟨_, hk566, hm⟩ := bindE hm
          replace hk566 := apE hk566
          refine wS_appendR (k := 1) (enc := encI) (ll := (l519 : List (List (Int)))) (ll2 := (([([x391, wr (x525 - 1), x525] : List (Int))] : List (List (Int))) : List (List (Int)))) (d := 29) (t := 47) (T := 78) (A := A520) (A2 := (some ⟨b558, 0, none⟩)) (cap := cap521) (cap2 := 1) (by kernel_rfl) el47 F529 F561 (by rfl) D564 hk566 ?_
          intro w567 fp568 A569 cap570 F571 hc572 hp573
          have G575 := lowApp (low_ap (low_inl G530) hZ hp573) (lowApp (low_inr G530) (low_inr G560))
          have D576 : Dj fp543 (fp568 ++ (fr524 ++ [b550])) := Dj.app (Dj.ap (Dj.inl (D548).symm) F544.low hp573) (Dj.app (Dj.inr (D548).symm) (Dj.inr D565))
          replace F527 := F527.chg hc572 (Dj.inl (Dj.of L0 G530))
          replace F528 := F528.chg hc572 (Dj.inl (Dj.of L0 G530))
          replace F544 := F544.chg hc572 (Dj.inl (D548).symm)
          replace hB := hB.inS hc572 (memS_inl (inLow G530))
          replace hZ := Nat.le_trans hZ hc572.size
          refine wS_pure 1 [(3, .slice A569 (l519 ++ (([([x391, wr (x525 - 1), x525] : List (Int))] : List (List (Int))))).length cap570)] (by kernel_rfl) ?_
          refine wS_end (by rfl) ?_
          refine eX_block ?_
          refine eX_then ?_
          refine cW_region ?_
          refine wS_pure 3 [(6, .int .i64 (wr (x525 + 1))), (21, .int .i64 (wr (x525 + 1))), (20, .int .i64 (x525))] (by kernel_rfl) ?_
          refine wS_end (by rfl) ?_
          have hq : (some (Ctl.next ((l519 ++ (([([x391, wr (x525 - 1), x525] : List (Int))] : List (List (Int)))), wr (x525 + 1)))) : Option (Ctl ((List (List (Int))) × Int) ((List (List (Int)))))) = some _ := hm
          replace hq := someE hq
          subst hq
          exact eX_next hx536 (fun hst => ⟨l519 ++ (([([x391, wr (x525 - 1), x525] : List (Int))] : List (List (Int)))), A569, cap570, fp568, (fr524 ++ [b550]), wr (x525 + 1), rfl, Fr.of hst (by kernel_rfl), F527, F528, F571, G575, hB, hZ⟩)
        · have hm := condF hb549 hm
          refine cW_exit ?_
          refine eX_then_exit ?_
          have hq : (some (Ctl.out l519) : Option (Ctl ((List (List (Int))) × Int) ((List (List (Int)))))) = some _ := hm
          replace hq := someE hq
          subst hq
          refine eX_outX hx536 (fun hr577 => ?_)
          replace hr577 := hr577.symm
          subst hr577
          refine eX_block_hit ?_
          exact eX_J (fun hst => ⟨l519, A520, cap521, fp522, fr524, rfl, Fr.of hst (by kernel_rfl), F527, F529, G530, hB, hZ⟩)
      · rintro a' w507 ⟨l508, A509, cap510, fp511, fr513, hJ, hF514, F515, F516, G517, hB, hZ⟩
        subst hJ
        refine Fr.goX hF514 (by kernel_rfl) ?_
        refine eX_block ?_
        refine eX_then ?_
        refine cW_region ?_
        refine wS_pure 2 [(10, .int .i64 (wr (x391 + 1))), (30, .int .i64 (wr (x391 + 1)))] (by kernel_rfl) ?_
        refine wS_end (by rfl) ?_
        have hq : (some (Ctl.next ((l508, wr (x391 + 1)))) : Option (Ctl ((List (List (Int))) × Int) ((List (List (Int)))))) = some _ := hm
        replace hq := someE hq
        subst hq
        exact eX_next hx401 (fun hst => ⟨l508, A509, cap510, fp511, fr513, wr (x391 + 1), rfl, Fr.of hst (by kernel_rfl), F515, F516, G517, hB, hZ⟩)
    · have hm := condF hb402 hm
      refine cW_exit ?_
      refine eX_then_exit ?_
      have hq : (some (Ctl.out l385) : Option (Ctl ((List (List (Int))) × Int) ((List (List (Int)))))) = some _ := hm
      replace hq := someE hq
      subst hq
      refine eX_outX hx401 (fun hr578 => ?_)
      replace hr578 := hr578.symm
      subst hr578
      refine eX_block_hit ?_
      exact eX_J (fun hst => ⟨l385, A386, cap387, fp388, fr390, rfl, Fr.of hst (by kernel_rfl), F394, G395, hB, hZ⟩)
  · rintro a' w374 ⟨l375, A376, cap377, fp378, fr380, hJ, hF381, F382, G383, hB, hZ⟩
    subst hJ
    refine Fr.goX hF381 (by kernel_rfl) ?_
    refine eX_then ?_
    refine cW_seq ?_
    refine cW_region ?_
    refine wS_pure 2 [(2, .slice A376 (l375).length cap377), (31, .slice A376 (l375).length cap377)] (by kernel_rfl) ?_
    refine wS_end (by rfl) ?_
    refine eX_then ?_
    refine cW_ret ?_
    have hq : (some l375 : Option ((List (List (Int))))) = some _ := hm
    replace hq := someE hq
    subst hq
    refine eX_ret (vs := [.slice A376 (l375).length cap377]) [.tmp 2] (by rfl) ⟨by (show lkE _ _ _ = _); kernel_rfl, trivial⟩ ?_
    exact ⟨A376, cap377, fp378, fr380, rfl, F382, G383, hB⟩

set_option maxRecDepth 100000 in
/-- impl.SegmentsOf -/
theorem c_impl_SegmentsOf {w0 : World} {l0 : List (List (Int × Int))} {A0 : Option Addr} {cap0 : Nat} {fp0 : List Nat} {r : (List (List (Int))) × (Bool)} (hm : m_impl_SegmentsOf l0 = some r) (F0 : SlR 2 encII w0 fp0 A0 l0) :
    Calls Try.prog 64 #[.slice A0 (l0).length cap0] w0 fun e w' => ∃ A100 cap100 fp100 fr100, e = .returned (.tuple #[.slice A100 (r.1).length cap100, .bool (r.2)]) ∧ OwR 1 encI 78 2 w' fp100 fr100 A100 cap100 r.1 ∧ (∀ x ∈ fp100 ++ fr100, w0.heap.size ≤ x) ∧ Chg [] w0 w' := by
  have L0 := F0.low
  have hB : Chg [] w0 w0 := Chg.refl _ _
  have hZ := Nat.le_refl w0.heap.size
  unfold m_impl_SegmentsOf at hm
  refine enterE (N := 9) Try.func64 (by rfl) Try.ntmps64 (by simp) [(0, .slice A0 (l0).length cap0)] (by rfl) (by kernel_rfl) (fun a => ?_)
  refine cW_seq ?_
  refine cW_region ?_
  refine wS_pure 2 [(3, .bool (false)), (2, .slice none 0 0)] (by kernel_rfl) ?_
  refine wS_end (by rfl) ?_
  refine eX_then ?_
  refine cW_seq ?_
  refine cW_seq ?_
  refine cW_region ?_
  refine wS_pure 1 [(4, .slice A0 (l0).length cap0)] (by kernel_rfl) ?_
  obtain ⟨y2, hy3, hm⟩ := bindE hm
  refine wS_calls (d := 5) (f := 112) (vs := [.slice A0 (l0).length cap0]) (by kernel_rfl) ent112 (c_impl_pathsOk hy3 F0) ?_
  rintro _ w4 ⟨rfl, hc5⟩
  replace F0 := F0.chg hc5 Dj.nil
  replace hB := hB.inS hc5 inNil
  replace hZ := Nat.le_trans hZ hc5.size
  refine ⟨.bool (y2), rfl, ?_⟩
  refine wS_pure 1 [(6, .bool (!y2))] (by kernel_rfl) ?_
  refine wS_end (by rfl) ?_
  refine eX_then ?_
  refine cW_cond (t := !y2) (by kernel_rfl) (fun hb6 => ?_) (fun hb6 => ?_)
  · have hm := condT hb6 hm
    refine cW_seq ?_
    refine cW_region ?_
    refine wS_pure 2 [(3, .bool (false)), (2, .slice none 0 0)] (by kernel_rfl) ?_
    refine wS_end (by rfl) ?_
    refine eX_then ?_
    refine cW_ret ?_
    refine eX_then_ret ?_
    have hq : (some (([], false)) : Option ((List (List (Int))) × (Bool))) = some _ := hm
    replace hq := someE hq
    subst hq
    refine eX_ret (vs := [.slice none 0 0, .bool (false)]) [.tmp 2, .tmp 3] (by rfl) ⟨by (show lkE _ _ _ = _); kernel_rfl, ⟨by (show lkE _ _ _ = _); kernel_rfl, trivial⟩⟩ ?_
    exact ⟨none, 0, [], [], rfl, OwR.nil _, (lowApp lowNil lowNil), hB⟩
  · have hm := condF hb6 hm
    refine cW_skip ?_
    refine eX_then ?_
    refine cW_seq ?_
    refine cW_region ?_
    refine wS_pure 1 [(7, .slice A0 (l0).length cap0)] (by kernel_rfl) ?_
    obtain ⟨y7, hy8, hm⟩ := bindE hm
    refine wS_calls (d := 8) (f := 113) (vs := [.slice A0 (l0).length cap0]) (by kernel_rfl) ent113 (c_impl_segments hy8 F0) ?_
    rintro _ w9 ⟨A11, cap12, fp13, fr16, rfl, F14, G15, hc10⟩
    replace F0 := F0.chg hc10 Dj.nil
    replace hB := hB.inS hc10 inNil
    replace G15 := low_le hZ G15
    replace hZ := Nat.le_trans hZ hc10.size
    refine ⟨.slice A11 (y7).length cap12, rfl, ?_⟩
    refine wS_pure 2 [(3, .bool (true)), (2, .slice A11 (y7).length cap12)] (by kernel_rfl) ?_
    refine wS_end (by rfl) ?_
    refine eX_then ?_
    refine cW_ret ?_
    have hq : (some ((y7, true)) : Option ((List (List (Int))) × (Bool))) = some _ := hm
    replace hq := someE hq
    subst hq
    refine eX_ret (vs := [.slice A11 (y7).length cap12, .bool (true)]) [.tmp 2, .tmp 3] (by rfl) ⟨by (show lkE _ _ _ = _); kernel_rfl, ⟨by (show lkE _ _ _ = _); kernel_rfl, trivial⟩⟩ ?_
    exact ⟨A11, cap12, fp13, fr16, rfl, F14, G15, hB⟩

set_option maxRecDepth 100000 in
/-- laws.markPointSS -/
theorem c_laws_markPointSS {w0 : World} {l0 : List (List (Int × Int))} {A0 : Option Addr} {cap0 : Nat} {fp0 fr0 : List Nat} {p1 : Int} {r : (Int) × (List (List (Int × Int)))} (hm : m_laws_markPointSS l0 p1 = some r) (F0 : OwR 2 encII 25 34 w0 fp0 fr0 A0 cap0 l0) :
    Calls Try.prog 65 #[.slice A0 (l0).length cap0, .int .i64 (p1)] w0 fun e w' => e = .returned (.int .i64 (r.1)) ∧ OwR 2 encII 25 34 w' fp0 fr0 A0 cap0 r.2 ∧ (r.2).length = (l0).length ∧ Chg ((fp0 ++ fr0) ++ []) w0 w' := by
  have L0 := F0.low
  have hB : Chg ((fp0 ++ fr0) ++ []) w0 w0 := Chg.refl _ _
  have hZ := Nat.le_refl w0.heap.size
  unfold m_laws_markPointSS at hm
  refine enterE (N := 19) Try.func65 (by rfl) Try.ntmps65 (by simp) [(0, .slice A0 (l0).length cap0), (1, .int .i64 (p1))] (by rfl) (by kernel_rfl) (fun a => ?_)
  refine cW_seq ?_
  refine cW_region ?_
  refine wS_pure 1 [(4, .int .i64 (0))] (by kernel_rfl) ?_
  refine wS_end (by rfl) ?_
  refine eX_then ?_
  refine cW_seq ?_
  refine cW_seq ?_
  refine cW_region ?_
  refine wS_pure 1 [(5, .int .i64 (0))] (by kernel_rfl) ?_
  refine wS_end (by rfl) ?_
  refine eX_then ?_
  obtain ⟨r67, hr68, hm⟩ := bindE hm
  have hm69 := hm
  refine cW_cut (fun a' w' => ∃ x55 : Int, ∃ l56 : List (List (Int × Int)), (x55, l56) = r67 ∧ Fr 19 [(1, .int .i64 (x55))] a' ∧ OwR 2 encII 25 34 w' fp0 fr0 A0 cap0 l56 ∧ (l56).length = (l0).length ∧ Chg ((fp0 ++ fr0) ++ []) w0 w' ∧ w0.heap.size ≤ w'.heap.size) ?_ ?_
  · refine cW_block ?_
    refine cW_loop _ (fun (s70 : Int × Int × (List (List (Int × Int)))) a' w' => ∃ x61 : Int, ∃ x62 : Int, ∃ l63 : List (List (Int × Int)), (x61, x62, l63) = s70 ∧ Fr 19 [(0, .slice A0 (l63).length cap0), (1, .int .i64 (x61)), (5, .int .i64 (x62))] a' ∧ OwR 2 encII 25 34 w' fp0 fr0 A0 cap0 l63 ∧ (l63).length = (l0).length ∧ Chg ((fp0 ++ fr0) ++ []) w0 w' ∧ w0.heap.size ≤ w'.heap.size) hr68 (fun hst => ⟨p1, 0, l0, rfl, Fr.of hst (by kernel_rfl), F0, (Eq.refl (l0).length), hB, hZ⟩) ?_
    rintro _ c71 a' w60 ⟨x61, x62, l63, rfl, hF64, F65, hl66, hB, hZ⟩ hx72
    refine Fr.goOn hF64 (by kernel_rfl) ?_
    have hm := hx72
    unfold m_laws_markPointSS_s1 at hm
    refine cW_seq ?_
    refine cW_seq ?_
    refine cW_region ?_
    refine wS_pure 4 [(9, .bool (decide (x62 < (((l63).length : Int))))), (8, .int .i64 (((l63).length : Int))), (7, .slice A0 (l63).length cap0), (6, .int .i64 (x62))] (by kernel_rfl) ?_
    refine wS_end (by rfl) ?_
    refine eX_then ?_
    refine cW_cond (t := decide (x62 < (((l63).length : Int)))) (by kernel_rfl) (fun hb73 => ?_) (fun hb73 => ?_)
    · have hm := condT hb73 hm
      refine cW_skip ?_
      refine eX_then ?_
      refine cW_seq ?_
      refine cW_block ?_
      refine cW_region ?_
      refine wS_pure 2 [(13, .int .i64 (x62)), (12, .slice A0 (l63).length cap0)] (by kernel_rfl) ?_
      obtain ⟨x74, hx75, hm⟩ := bindE hm
      refine wS_idx (d := 14) (T := 55) (A := A0) (n := (l63).length) (cap := cap0) (kd := .i64) (m := x62) (by kernel_rfl) sl55 ((F65.slr encII_ok).is hx75) ?_
      obtain ⟨A76, cap77, fp81, hc79, hsub82, F78, hcl83⟩ := OwR.lend F65 hx75
      have Dm85 := (F65.dj).symm
      refine wS_load1 (d := 15) (T := 25) (ad := (elA A0 1 (x62) 0)) (v := .slice A76 (x74).length cap77) (by kernel_rfl) vt25 hc79 ?_
      refine wS_pure 1 [(16, .int .i64 (x61))] (by kernel_rfl) ?_
      obtain ⟨y86, hy87, hm⟩ := bindE hm
      refine wS_calls (d := 17) (f := 36) (vs := [.slice A76 (x74).length cap77, .int .i64 (x61)]) (by kernel_rfl) ent36 (c_laws_markPointS hy87 F78) ?_
      rintro _ w88 ⟨rfl, F90, hl91, hc89⟩
      have F92 := hcl83 _ _ (hc89.more (fun x hx => by simpa using hx)) F90 hl91
      have hc93 := hc89.more (S' := (fp0 ++ fr0) ++ []) (fun x hx => List.mem_append_left _ (hsub82 x (by simpa using hx)))
      have hl94 := (show (l63.set (Int.toNat x62) y86.2).length = (l63).length from List.length_set ..).trans hl66
      clear F65
      replace hB := hB.inS hc93 (inApp (inMem (fun x hx => (List.mem_append_left _ hx))) inNil)
      replace hZ := Nat.le_trans hZ hc93.size
      refine ⟨.int .i64 (y86.1), rfl, ?_⟩
      rewrite [(show (l63).length = (l63.set (Int.toNat x62) y86.2).length from (List.length_set ..).symm)]
      refine wS_pure 1 [(1, .int .i64 (y86.1))] (by kernel_rfl) ?_
      refine wS_end (by rfl) ?_
      refine eX_block ?_
      refine eX_then ?_
      refine cW_region ?_
      refine wS_pure 3 [(5, .int .i64 (wr (x62 + 1))), (11, .int .i64 (wr (x62 + 1))), (10, .int .i64 (x62))] (by kernel_rfl) ?_
      refine wS_end (by rfl) ?_
      have hq : (some (Ctl.next ((y86.1, wr (x62 + 1), l63.set (Int.toNat x62) y86.2))) : Option (Ctl (Int × Int × (List (List (Int × Int)))) (Int × (List (List (Int × Int)))))) = some _ := hm
      replace hq := someE hq
      subst hq
      exact eX_next hx72 (fun hst => ⟨y86.1, wr (x62 + 1), l63.set (Int.toNat x62) y86.2, rfl, Fr.of hst (by kernel_rfl), F92, hl94, hB, hZ⟩)
    · have hm := condF hb73 hm
      refine cW_exit ?_
      refine eX_then_exit ?_
      have hq : (some (Ctl.out ((x61, l63))) : Option (Ctl (Int × Int × (List (List (Int × Int)))) (Int × (List (List (Int × Int)))))) = some _ := hm
      replace hq := someE hq
      subst hq
      refine eX_outX hx72 (fun hr95 => ?_)
      replace hr95 := hr95.symm
      subst hr95
      refine eX_block_hit ?_
      exact eX_J (fun hst => ⟨x61, l63, rfl, Fr.of hst (by kernel_rfl), F65, hl66, hB, hZ⟩)
  · rintro a' w54 ⟨x55, l56, hJ, hF57, F58, hl59, hB, hZ⟩
    subst hJ
    refine Fr.goX hF57 (by kernel_rfl) ?_
    refine eX_then ?_
    refine cW_seq ?_
    refine cW_region ?_
    refine wS_pure 2 [(4, .int .i64 (x55)), (18, .int .i64 (x55))] (by kernel_rfl) ?_
    refine wS_end (by rfl) ?_
    refine eX_then ?_
    refine cW_ret ?_
    have hq : (some ((x55, l56)) : Option ((Int) × (List (List (Int × Int))))) = some _ := hm
    replace hq := someE hq
    subst hq
    refine eX_ret (vs := [.int .i64 (x55)]) [.tmp 4] (by rfl) ⟨by (show lkE _ _ _ = _); kernel_rfl, trivial⟩ ?_
    exact ⟨rfl, F58, hl59, hB⟩

set_option maxRecDepth 100000 in
/-- laws.FnExactSegmentsOf -/
theorem c_laws_FnExactSegmentsOf {w0 : World} {l0 : List (List (Int × Int))} {A0 : Option Addr} {cap0 : Nat} {fp0 : List Nat} {r : (Bool)} (hm : m_laws_FnExactSegmentsOf l0 = some r) (F0 : SlR 2 encII w0 fp0 A0 l0) :
    Calls Try.prog 17 #[.slice A0 (l0).length cap0] w0 fun e w' => e = .returned (.bool (r)) ∧ Chg [] w0 w' := by
  have L0 := F0.low
  have hB : Chg [] w0 w0 := Chg.refl _ _
  have hZ := Nat.le_refl w0.heap.size
  unfold m_laws_FnExactSegmentsOf at hm
  refine enterE (N := 96) Try.func17 (by rfl) Try.ntmps17 (by simp) [(0, .slice A0 (l0).length cap0)] (by rfl) (by kernel_rfl) (fun a => ?_)
  refine cW_seq ?_
  refine cW_region ?_
  refine wS_pure 1 [(2, .bool (false))] (by kernel_rfl) ?_
  refine wS_end (by rfl) ?_
  refine eX_then ?_
  refine cW_seq ?_
  refine cW_region ?_
  refine wS_pure 1 [(3, .int .i64 (1048576))] (by kernel_rfl) ?_
  refine wS_end (by rfl) ?_
  refine eX_then ?_
  refine cW_seq ?_
  refine cW_region ?_
  refine wS_pure 2 [(15, .int .i64 (1048576)), (14, .slice A0 (l0).length cap0)] (by kernel_rfl) ?_
  obtain ⟨y2, hy3, hm⟩ := bindE hm
  refine wS_calls (d := 16) (f := 58) (vs := [.slice A0 (l0).length cap0, .int .i64 (1048576)]) (by kernel_rfl) ent58 (c_laws_szPointSS hy3 F0) ?_
  rintro _ w4 ⟨rfl, hc5⟩
  replace F0 := F0.chg hc5 Dj.nil
  replace hB := hB.inS hc5 inNil
  replace hZ := Nat.le_trans hZ hc5.size
  refine ⟨.int .i64 (y2), rfl, ?_⟩
  refine wS_pure 1 [(3, .int .i64 (y2))] (by kernel_rfl) ?_
  refine wS_end (by rfl) ?_
  refine eX_then ?_
  refine cW_seq ?_
  refine cW_seq ?_
  refine cW_region ?_
  refine wS_pure 2 [(18, .bool (decide (y2 < 0))), (17, .int .i64 (y2))] (by kernel_rfl) ?_
  refine wS_end (by rfl) ?_
  refine eX_then ?_
  refine cW_cond (t := decide (y2 < 0)) (by kernel_rfl) (fun hb6 => ?_) (fun hb6 => ?_)
  · have hm := condT hb6 hm
    refine cW_seq ?_
    refine cW_region ?_
    refine wS_pure 1 [(2, .bool (true))] (by kernel_rfl) ?_
    refine wS_end (by rfl) ?_
    refine eX_then ?_
    refine cW_ret ?_
    refine eX_then_ret ?_
    have hq : (some true : Option ((Bool))) = some _ := hm
    replace hq := someE hq
    subst hq
    refine eX_ret (vs := [.bool (true)]) [.tmp 2] (by rfl) ⟨by (show lkE _ _ _ = _); kernel_rfl, trivial⟩ ?_
    exact ⟨rfl, hB⟩
  · have hm := condF hb6 hm
    refine cW_skip ?_
    refine eX_then ?_
    refine cW_seq ?_
    refine cW_region ?_
    refine wS_pure 1 [(20, .slice A0 (l0).length cap0)] (by kernel_rfl) ?_
    obtain ⟨y7, hy8, hm⟩ := bindE hm
    refine wS_calls (d := 21) (f := 60) (vs := [.slice A0 (l0).length cap0]) (by kernel_rfl) ent60 (c_laws_toPointSS hy8 F0) ?_
    rintro _ w9 ⟨A11, cap12, fp13, fr16, rfl, F14, G15, hc10⟩
    replace F0 := F0.chg hc10 Dj.nil
    replace hB := hB.inS hc10 inNil
    replace G15 := low_le hZ G15
    replace hZ := Nat.le_trans hZ hc10.size
    refine ⟨.slice A11 (y7).length cap12, rfl, ?_⟩
    obtain ⟨y18, hy19, hm⟩ := bindE hm
    refine wS_calls (d := 22) (f := 63) (vs := [.slice A11 (y7).length cap12]) (by kernel_rfl) ent63 (c_spec_SegmentsOf hy19 (F14.slr encII_ok)) ?_
    rintro _ w20 ⟨A22, cap23, fp24, fr27, rfl, F25, G26, hc21⟩
    have D29 : Dj (fp13 ++ fr16) (fp24 ++ fr27) := Dj.of F14.low G26
    replace F0 := F0.chg hc21 Dj.nil
    replace F14 := F14.chg hc21 Dj.nil
    replace hB := hB.inS hc21 inNil
    replace G26 := low_le hZ G26
    replace hZ := Nat.le_trans hZ hc21.size
    refine ⟨.tuple #[.slice A22 (y18.1).length cap23, .bool (y18.2)], rfl, ?_⟩
    refine wS_pure 5 [(5, .bool (y18.2)), (4, .slice A22 (y18.1).length cap23), (24, .bool (y18.2)), (23, .slice A22 (y18.1).length cap23), (19, .tuple #[.slice A22 (y18.1).length cap23, .bool (y18.2)])] (by kernel_rfl) ?_
    refine wS_end (by rfl) ?_
    refine eX_then ?_
    refine cW_seq ?_
    refine cW_region ?_
    refine wS_pure 1 [(25, .slice A0 (l0).length cap0)] (by kernel_rfl) ?_
    obtain ⟨y30, hy31, hm⟩ := bindE hm
    refine wS_calls (d := 26) (f := 60) (vs := [.slice A0 (l0).length cap0]) (by kernel_rfl) ent60 (c_laws_toPointSS hy31 F0) ?_
    rintro _ w32 ⟨A34, cap35, fp36, fr39, rfl, F37, G38, hc33⟩
    have D41 : Dj (fp13 ++ fr16) (fp36 ++ fr39) := Dj.of F14.low G38
    have D42 : Dj (fp24 ++ fr27) (fp36 ++ fr39) := Dj.of F25.low G38
    replace F0 := F0.chg hc33 Dj.nil
    replace F14 := F14.chg hc33 Dj.nil
    replace F25 := F25.chg hc33 Dj.nil
    replace hB := hB.inS hc33 inNil
    replace G38 := low_le hZ G38
    replace hZ := Nat.le_trans hZ hc33.size
    refine ⟨.slice A34 (y30).length cap35, rfl, ?_⟩
    refine wS_pure 1 [(6, .slice A34 (y30).length cap35)] (by kernel_rfl) ?_
    refine wS_end (by rfl) ?_
    refine eX_then ?_
    refine cW_seq ?_
    refine cW_region ?_
    refine wS_pure 1 [(28, .slice A34 (y30).length cap35)] (by kernel_rfl) ?_
    obtain ⟨y43, hy44, hm⟩ := bindE hm
    refine wS_calls (d := 29) (f := 64) (vs := [.slice A34 (y30).length cap35]) (by kernel_rfl) ent64 (c_impl_SegmentsOf hy44 (F37.slr encII_ok)) ?_
    rintro _ w45 ⟨A47, cap48, fp49, fr52, rfl, F50, G51, hc46⟩
    have D54 : Dj (fp13 ++ fr16) (fp49 ++ fr52) := Dj.of F14.low G51
    have D55 : Dj (fp24 ++ fr27) (fp49 ++ fr52) := Dj.of F25.low G51
    have D56 : Dj (fp36 ++ fr39) (fp49 ++ fr52) := Dj.of F37.low G51
    replace F0 := F0.chg hc46 Dj.nil
    replace F14 := F14.chg hc46 Dj.nil
    replace F25 := F25.chg hc46 Dj.nil
    replace F37 := F37.chg hc46 Dj.nil
    replace hB := hB.inS hc46 inNil
    replace G51 := low_le hZ G51
    replace hZ := Nat.le_trans hZ hc46.size
    refine ⟨.tuple #[.slice A47 (y43.1).length cap48, .bool (y43.2)], rfl, ?_⟩
    refine wS_pure 5 [(8, .bool (y43.2)), (7, .slice A47 (y43.1).length cap48), (31, .bool (y43.2)), (30, .slice A47 (y43.1).length cap48), (27, .tuple #[.slice A47 (y43.1).length cap48, .bool (y43.2)])] (by kernel_rfl) ?_
    refine wS_end (by rfl) ?_
    refine eX_then ?_
    refine cW_prune [(0, .slice A0 (l0).length cap0), (4, .slice A22 (y18.1).length cap23), (5, .bool (y18.2)), (6, .slice A34 (y30).length cap35), (7, .slice A47 (y43.1).length cap48), (8, .bool (y43.2))] (by kernel_rfl) (by kernel_rfl) (fun a57 => ?_)
    refine cW_seq ?_
    refine cW_seq ?_
    refine cW_region ?_
    refine wS_pure 2 [(33, .slice A22 (y18.1).length cap23), (32, .slice A47 (y43.1).length cap48)] (by kernel_rfl) ?_
    obtain ⟨y58, hy59, hm⟩ := bindE hm
    refine wS_calls (d := 34) (f := 55) (vs := [.slice A47 (y43.1).length cap48, .slice A22 (y18.1).length cap23]) (by kernel_rfl) ent55 (c_laws_eqInt64SS hy59 (F50.slr encI_ok) (F25.slr encI_ok)) ?_
    rintro _ w60 ⟨rfl, hc61⟩
    replace F0 := F0.chg hc61 Dj.nil
    replace F14 := F14.chg hc61 Dj.nil
    replace F25 := F25.chg hc61 Dj.nil
    replace F37 := F37.chg hc61 Dj.nil
    replace F50 := F50.chg hc61 Dj.nil
    replace hB := hB.inS hc61 inNil
    replace hZ := Nat.le_trans hZ hc61.size
    refine ⟨.bool (y58), rfl, ?_⟩
    refine wS_pure 2 [(36, .bool (!y58)), (35, .bool (!y58))] (by kernel_rfl) ?_
    refine wS_bool (!y58) (fun hb62 => ?_) (fun hb62 => ?_)
    · have hm := condT hb62 hm
      rewrite [hb62]
      refine wS_pure 4 [(40, .bool (true)), (39, undef), (38, undef), (37, undef)] (by kernel_rfl) ?_
      refine wS_end (by rfl) ?_
      refine eX_then ?_
      refine cW_cond_t (by kernel_rfl) ?_
      refine cW_seq ?_
      refine cW_region ?_
      refine wS_pure 1 [(2, .bool (false))] (by kernel_rfl) ?_
      refine wS_end (by rfl) ?_
      refine eX_then ?_
      refine cW_ret ?_
      refine eX_then_ret ?_
      have hq : (some false : Option ((Bool))) = some _ := hm
      replace hq := someE hq
      subst hq
      refine eX_ret (vs := [.bool (false)]) [.tmp 2] (by rfl) ⟨by (show lkE _ _ _ = _); kernel_rfl, trivial⟩ ?_
      exact ⟨rfl, hB⟩
    · have hm := condF hb62 hm
      rewrite [hb62]
      refine wS_pure 4 [(40, .bool (!(y43.2 == y18.2))), (39, .bool (!(y43.2 == y18.2))), (38, .bool (y18.2)), (37, .bool (y43.2))] (by kernel_rfl) ?_
      refine wS_end (by rfl) ?_
      refine eX_then ?_
      refine cW_cond (t := !(y43.2 == y18.2)) (by kernel_rfl) (fun hb63 => ?_) (fun hb63 => ?_)
      · have hm := condT hb63 hm
        refine cW_seq ?_
        refine cW_region ?_
        refine wS_pure 1 [(2, .bool (false))] (by kernel_rfl) ?_
        refine wS_end (by rfl) ?_
        refine eX_then ?_
        refine cW_ret ?_
        refine eX_then_ret ?_
        have hq : (some false : Option ((Bool))) = some _ := hm
        replace hq := someE hq
        subst hq
        refine eX_ret (vs := [.bool (false)]) [.tmp 2] (by rfl) ⟨by (show lkE _ _ _ = _); kernel_rfl, trivial⟩ ?_
        exact ⟨rfl, hB⟩
      · have hm := condF hb63 hm
        refine cW_skip ?_
        refine eX_then ?_
        refine cW_seq ?_
        refine cW_seq ?_
        refine cW_region ?_
        refine wS_pure 2 [(42, .slice A0 (l0).length cap0), (41, .slice A34 (y30).length cap35)] (by kernel_rfl) ?_
        obtain ⟨y64, hy65, hm⟩ := bindE hm
        refine wS_calls (d := 43) (f := 60) (vs := [.slice A0 (l0).length cap0]) (by kernel_rfl) ent60 (c_laws_toPointSS hy65 F0) ?_
        rintro _ w66 ⟨A68, cap69, fp70, fr73, rfl, F71, G72, hc67⟩
        have D75 : Dj (fp13 ++ fr16) (fp70 ++ fr73) := Dj.of F14.low G72
        have D76 : Dj (fp24 ++ fr27) (fp70 ++ fr73) := Dj.of F25.low G72
        have D77 : Dj (fp36 ++ fr39) (fp70 ++ fr73) := Dj.of F37.low G72
        have D78 : Dj (fp49 ++ fr52) (fp70 ++ fr73) := Dj.of F50.low G72
        replace F0 := F0.chg hc67 Dj.nil
        replace F14 := F14.chg hc67 Dj.nil
        replace F25 := F25.chg hc67 Dj.nil
        replace F37 := F37.chg hc67 Dj.nil
        replace F50 := F50.chg hc67 Dj.nil
        replace hB := hB.inS hc67 inNil
        replace G72 := low_le hZ G72
        replace hZ := Nat.le_trans hZ hc67.size
        refine ⟨.slice A68 (y64).length cap69, rfl, ?_⟩
        obtain ⟨y79, hy80, hm⟩ := bindE hm
        refine wS_calls (d := 44) (f := 62) (vs := [.slice A34 (y30).length cap35, .slice A68 (y64).length cap69]) (by kernel_rfl) ent62 (c_laws_eqPointSS hy80 (F37.slr encII_ok) (F71.slr encII_ok)) ?_
        rintro _ w81 ⟨rfl, hc82⟩
        replace F0 := F0.chg hc82 Dj.nil
        replace F14 := F14.chg hc82 Dj.nil
        replace F25 := F25.chg hc82 Dj.nil
        replace F37 := F37.chg hc82 Dj.nil
        replace F50 := F50.chg hc82 Dj.nil
        replace F71 := F71.chg hc82 Dj.nil
        replace hB := hB.inS hc82 inNil
        replace hZ := Nat.le_trans hZ hc82.size
        refine ⟨.bool (y79), rfl, ?_⟩
        refine wS_pure 1 [(45, .bool (!y79))] (by kernel_rfl) ?_
        refine wS_end (by rfl) ?_
        refine eX_then ?_
        refine cW_cond (t := !y79) (by kernel_rfl) (fun hb83 => ?_) (fun hb83 => ?_)
        · have hm := condT hb83 hm
          refine cW_seq ?_
          refine cW_region ?_
          refine wS_pure 1 [(2, .bool (false))] (by kernel_rfl) ?_
          refine wS_end (by rfl) ?_
          refine eX_then ?_
          refine cW_ret ?_
          refine eX_then_ret ?_
          have hq : (some false : Option ((Bool))) = some _ := hm
          replace hq := someE hq
          subst hq
          refine eX_ret (vs := [.bool (false)]) [.tmp 2] (by rfl) ⟨by (show lkE _ _ _ = _); kernel_rfl, trivial⟩ ?_
          exact ⟨rfl, hB⟩
        · have hm := condF hb83 hm
          refine cW_skip ?_
          refine eX_then ?_
          refine cW_seq ?_
          refine cW_region ?_
          refine wS_pure 1 [(9, .int .i64 (1))] (by kernel_rfl) ?_
          refine wS_end (by rfl) ?_
          refine eX_then ?_
          refine cW_seq ?_
          refine cW_region ?_
          refine wS_pure 2 [(47, .int .i64 (1)), (46, .slice A34 (y30).length cap35)] (by kernel_rfl) ?_
          obtain ⟨y84, hy85, hm⟩ := bindE hm
          refine wS_calls (d := 48) (f := 65) (vs := [.slice A34 (y30).length cap35, .int .i64 (1)]) (by kernel_rfl) ent65 (c_laws_markPointSS hy85 F37) ?_
          rintro _ w86 ⟨rfl, F88, hl89, hc87⟩
          replace F0 := F0.chg hc87 (Dj.app (Dj.of L0 G38) Dj.nil)
          replace F14 := F14.chg hc87 (Dj.app D41 Dj.nil)
          replace F25 := F25.chg hc87 (Dj.app D42 Dj.nil)
          replace F50 := F50.chg hc87 (Dj.app (D56).symm Dj.nil)
          replace F71 := F71.chg hc87 (Dj.app (D77).symm Dj.nil)
          replace hB := hB.inS hc87 (inApp (inLow G38) inNil)
          replace hZ := Nat.le_trans hZ hc87.size
          clear F37
          refine ⟨.int .i64 (y84.1), rfl, ?_⟩
          rewrite [(show (y30).length = (y84.2).length from hl89.symm)]
          refine wS_pure 1 [(9, .int .i64 (y84.1))] (by kernel_rfl) ?_
          refine wS_end (by rfl) ?_
          refine eX_then ?_
          refine cW_prune [(0, .slice A0 (l0).length cap0), (4, .slice A22 (y18.1).length cap23), (5, .bool (y18.2)), (7, .slice A47 (y43.1).length cap48), (8, .bool (y43.2)), (9, .int .i64 (y84.1))] (by kernel_rfl) (by kernel_rfl) (fun a90 => ?_)
          refine cW_seq ?_
          refine cW_seq ?_
          refine cW_region ?_
          refine wS_pure 3 [(51, .bool (decide (y84.1 < 0))), (50, .bool (decide (y84.1 < 0))), (49, .int .i64 (y84.1))] (by kernel_rfl) ?_
          refine wS_bool (decide (y84.1 < 0)) (fun hb91 => ?_) (fun hb91 => ?_)
          · have hm := condT hb91 hm
            rewrite [hb91]
            refine wS_pure 10 [(61, .bool (true)), (60, undef), (59, undef), (58, undef), (57, .bool (true)), (56, .bool (true)), (55, undef), (54, undef), (53, undef), (52, undef)] (by kernel_rfl) ?_
            refine wS_end (by rfl) ?_
            refine eX_then ?_
            refine cW_cond_t (by kernel_rfl) ?_
            refine cW_seq ?_
            refine cW_region ?_
            refine wS_pure 1 [(2, .bool (false))] (by kernel_rfl) ?_
            refine wS_end (by rfl) ?_
            refine eX_then ?_
            refine cW_ret ?_
            refine eX_then_ret ?_
            have hq : (some false : Option ((Bool))) = some _ := hm
            replace hq := someE hq
            subst hq
            refine eX_ret (vs := [.bool (false)]) [.tmp 2] (by rfl) ⟨by (show lkE _ _ _ = _); kernel_rfl, trivial⟩ ?_
            exact ⟨rfl, hB⟩
          · have hm := condF hb91 hm
            rewrite [hb91]
            refine wS_pure 2 [(53, .slice A22 (y18.1).length cap23), (52, .slice A47 (y43.1).length cap48)] (by kernel_rfl) ?_
            obtain ⟨y92, hy93, hm⟩ := bindE hm
            refine wS_calls (d := 54) (f := 55) (vs := [.slice A47 (y43.1).length cap48, .slice A22 (y18.1).length cap23]) (by kernel_rfl) ent55 (c_laws_eqInt64SS hy93 (F50.slr encI_ok) (F25.slr encI_ok)) ?_
            rintro _ w94 ⟨rfl, hc95⟩
            replace F0 := F0.chg hc95 Dj.nil
            replace F14 := F14.chg hc95 Dj.nil
            replace F25 := F25.chg hc95 Dj.nil
            replace F88 := F88.chg hc95 Dj.nil
            replace F50 := F50.chg hc95 Dj.nil
            replace F71 := F71.chg hc95 Dj.nil
            replace hB := hB.inS hc95 inNil
            replace hZ := Nat.le_trans hZ hc95.size
            refine ⟨.bool (y92), rfl, ?_⟩
            refine wS_pure 3 [(57, .bool (!y92)), (56, .bool (!y92)), (55, .bool (!y92))] (by kernel_rfl) ?_
            refine wS_bool (!y92) (fun hb96 => ?_) (fun hb96 => ?_)
            · have hm := condT hb96 hm
              rewrite [hb96]
              refine wS_pure 4 [(61, .bool (true)), (60, undef), (59, undef), (58, undef)] (by kernel_rfl) ?_
              refine wS_end (by rfl) ?_
              refine eX_then ?_
              refine cW_cond_t (by kernel_rfl) ?_
              refine cW_seq ?_
              refine cW_region ?_
              refine wS_pure 1 [(2, .bool (false))] (by kernel_rfl) ?_
              refine wS_end (by rfl) ?_
              refine eX_then ?_
              refine cW_ret ?_
              refine eX_then_ret ?_
              have hq : (some false : Option ((Bool))) = some _ := hm
              replace hq := someE hq
              subst hq
              refine eX_ret (vs := [.bool (false)]) [.tmp 2] (by rfl) ⟨by (show lkE _ _ _ = _); kernel_rfl, trivial⟩ ?_
              exact ⟨rfl, hB⟩
            · have hm := condF hb96 hm
              rewrite [hb96]
              refine wS_pure 4 [(61, .bool (!(y43.2 == y18.2))), (60, .bool (!(y43.2 == y18.2))), (59, .bool (y18.2)), (58, .bool (y43.2))] (by kernel_rfl) ?_
              refine wS_end (by rfl) ?_
              refine eX_then ?_
              refine cW_cond (t := !(y43.2 == y18.2)) (by kernel_rfl) (fun hb97 => ?_) (fun hb97 => ?_)
              · have hm := condT hb97 hm
                refine cW_seq ?_
                refine cW_region ?_
                refine wS_pure 1 [(2, .bool (false))] (by kernel_rfl) ?_
                refine wS_end (by rfl) ?_
                refine eX_then ?_
                refine cW_ret ?_
                refine eX_then_ret ?_
                have hq : (some false : Option ((Bool))) = some _ := hm
                replace hq := someE hq
                subst hq
                refine eX_ret (vs := [.bool (false)]) [.tmp 2] (by rfl) ⟨by (show lkE _ _ _ = _); kernel_rfl, trivial⟩ ?_
                exact ⟨rfl, hB⟩
              · have hm := condF hb97 hm
                refine cW_skip ?_
                refine eX_then ?_
                refine cW_seq ?_
                refine cW_region ?_
                refine wS_pure 1 [(10, .int .i64 (1))] (by kernel_rfl) ?_
                refine wS_end (by rfl) ?_
                refine eX_then ?_
                refine cW_seq ?_
                refine cW_region ?_
                refine wS_pure 2 [(63, .int .i64 (1)), (62, .slice A47 (y43.1).length cap48)] (by kernel_rfl) ?_
                obtain ⟨y98, hy99, hm⟩ := bindE hm
                refine wS_calls (d := 64) (f := 56) (vs := [.slice A47 (y43.1).length cap48, .int .i64 (1)]) (by kernel_rfl) ent56 (c_laws_markInt64SS hy99 F50) ?_
                rintro _ w100 ⟨rfl, F102, hl103, hc101⟩
                replace F0 := F0.chg hc101 (Dj.app (Dj.of L0 G51) Dj.nil)
                replace F14 := F14.chg hc101 (Dj.app D54 Dj.nil)
                replace F25 := F25.chg hc101 (Dj.app D55 Dj.nil)
                replace F88 := F88.chg hc101 (Dj.app D56 Dj.nil)
                replace F71 := F71.chg hc101 (Dj.app (D78).symm Dj.nil)
                replace hB := hB.inS hc101 (inApp (inLow G51) inNil)
                replace hZ := Nat.le_trans hZ hc101.size
                clear F50
                refine ⟨.int .i64 (y98.1), rfl, ?_⟩
                rewrite [(show (y43.1).length = (y98.2).length from hl103.symm)]
                refine wS_pure 1 [(10, .int .i64 (y98.1))] (by kernel_rfl) ?_
                refine wS_end (by rfl) ?_
                refine eX_then ?_
                refine cW_seq ?_
                refine cW_region ?_
                refine wS_pure 1 [(11, .int .i64 (1))] (by kernel_rfl) ?_
                refine wS_end (by rfl) ?_
                refine eX_then ?_
                refine cW_prune [(0, .slice A0 (l0).length cap0), (4, .slice A22 (y18.1).length cap23), (5, .bool (y18.2)), (7, .slice A47 (y98.2).length cap48), (10, .int .i64 (y98.1)), (11, .int .i64 (1))] (by kernel_rfl) (by kernel_rfl) (fun a104 => ?_)
                refine cW_seq ?_
                refine cW_region ?_
                refine wS_pure 2 [(66, .int .i64 (1)), (65, .slice A47 (y98.2).length cap48)] (by kernel_rfl) ?_
                obtain ⟨y105, hy106, hm⟩ := bindE hm
                refine wS_calls (d := 67) (f := 57) (vs := [.slice A47 (y98.2).length cap48, .int .i64 (1)]) (by kernel_rfl) ent57 (c_laws_heldInt64SS hy106 (F102.slr encI_ok)) ?_
                rintro _ w107 ⟨rfl, hc108⟩
                replace F0 := F0.chg hc108 Dj.nil
                replace F14 := F14.chg hc108 Dj.nil
                replace F25 := F25.chg hc108 Dj.nil
                replace F88 := F88.chg hc108 Dj.nil
                replace F102 := F102.chg hc108 Dj.nil
                replace F71 := F71.chg hc108 Dj.nil
                replace hB := hB.inS hc108 inNil
                replace hZ := Nat.le_trans hZ hc108.size
                refine ⟨.int .i64 (y105), rfl, ?_⟩
                refine wS_pure 1 [(11, .int .i64 (y105))] (by kernel_rfl) ?_
                refine wS_end (by rfl) ?_
                refine eX_then ?_
                refine cW_seq ?_
                refine cW_seq ?_
                refine cW_region ?_
                refine wS_pure 2 [(69, .bool (decide (y105 < 0))), (68, .int .i64 (y105))] (by kernel_rfl) ?_
                refine wS_end (by rfl) ?_
                refine eX_then ?_
                refine cW_cond (t := decide (y105 < 0)) (by kernel_rfl) (fun hb109 => ?_) (fun hb109 => ?_)
                · have hm := condT hb109 hm
                  refine cW_seq ?_
                  refine cW_region ?_
                  refine wS_pure 1 [(2, .bool (false))] (by kernel_rfl) ?_
                  refine wS_end (by rfl) ?_
                  refine eX_then ?_
                  refine cW_ret ?_
                  refine eX_then_ret ?_
                  have hq : (some false : Option ((Bool))) = some _ := hm
                  replace hq := someE hq
                  subst hq
                  refine eX_ret (vs := [.bool (false)]) [.tmp 2] (by rfl) ⟨by (show lkE _ _ _ = _); kernel_rfl, trivial⟩ ?_
                  exact ⟨rfl, hB⟩
                · have hm := condF hb109 hm
                  refine cW_skip ?_
                  refine eX_then ?_
                  refine cW_seq ?_
                  refine cW_seq ?_
                  refine cW_region ?_
                  refine wS_pure 3 [(72, .bool (y105 != y98.1)), (71, .int .i64 (y98.1)), (70, .int .i64 (y105))] (by kernel_rfl) ?_
                  refine wS_end (by rfl) ?_
                  refine eX_then ?_
                  refine cW_cond (t := y105 != y98.1) (by kernel_rfl) (fun hb110 => ?_) (fun hb110 => ?_)
                  · have hm := condT hb110 hm
                    refine cW_seq ?_
                    refine cW_region ?_
                    refine wS_pure 1 [(2, .bool (false))] (by kernel_rfl) ?_
                    refine wS_end (by rfl) ?_
                    refine eX_then ?_
                    refine cW_ret ?_
                    refine eX_then_ret ?_
                    have hq : (some false : Option ((Bool))) = some _ := hm
                    replace hq := someE hq
                    subst hq
                    refine eX_ret (vs := [.bool (false)]) [.tmp 2] (by rfl) ⟨by (show lkE _ _ _ = _); kernel_rfl, trivial⟩ ?_
                    exact ⟨rfl, hB⟩
                  · have hm := condF hb110 hm
                    refine cW_skip ?_
                    refine eX_then ?_
                    refine cW_seq ?_
                    refine cW_region ?_
                    refine wS_pure 1 [(74, .slice A0 (l0).length cap0)] (by kernel_rfl) ?_
                    obtain ⟨y111, hy112, hm⟩ := bindE hm
                    refine wS_calls (d := 75) (f := 60) (vs := [.slice A0 (l0).length cap0]) (by kernel_rfl) ent60 (c_laws_toPointSS hy112 F0) ?_
                    rintro _ w113 ⟨A115, cap116, fp117, fr120, rfl, F118, G119, hc114⟩
                    have D122 : Dj (fp13 ++ fr16) (fp117 ++ fr120) := Dj.of F14.low G119
                    have D123 : Dj (fp24 ++ fr27) (fp117 ++ fr120) := Dj.of F25.low G119
                    have D124 : Dj (fp36 ++ fr39) (fp117 ++ fr120) := Dj.of F88.low G119
                    have D125 : Dj (fp49 ++ fr52) (fp117 ++ fr120) := Dj.of F102.low G119
                    have D126 : Dj (fp70 ++ fr73) (fp117 ++ fr120) := Dj.of F71.low G119
                    replace F0 := F0.chg hc114 Dj.nil
                    replace F14 := F14.chg hc114 Dj.nil
                    replace F25 := F25.chg hc114 Dj.nil
                    replace F88 := F88.chg hc114 Dj.nil
                    replace F102 := F102.chg hc114 Dj.nil
                    replace F71 := F71.chg hc114 Dj.nil
                    replace hB := hB.inS hc114 inNil
                    replace G119 := low_le hZ G119
                    replace hZ := Nat.le_trans hZ hc114.size
                    refine ⟨.slice A115 (y111).length cap116, rfl, ?_⟩
                    obtain ⟨y127, hy128, hm⟩ := bindE hm
                    refine wS_calls (d := 76) (f := 64) (vs := [.slice A115 (y111).length cap116]) (by kernel_rfl) ent64 (c_impl_SegmentsOf hy128 (F118.slr encII_ok)) ?_
                    rintro _ w129 ⟨A131, cap132, fp133, fr136, rfl, F134, G135, hc130⟩
                    have D138 : Dj (fp13 ++ fr16) (fp133 ++ fr136) := Dj.of F14.low G135
                    have D139 : Dj (fp24 ++ fr27) (fp133 ++ fr136) := Dj.of F25.low G135
                    have D140 : Dj (fp36 ++ fr39) (fp133 ++ fr136) := Dj.of F88.low G135
                    have D141 : Dj (fp49 ++ fr52) (fp133 ++ fr136) := Dj.of F102.low G135
                    have D142 : Dj (fp70 ++ fr73) (fp133 ++ fr136) := Dj.of F71.low G135
                    have D143 : Dj (fp117 ++ fr120) (fp133 ++ fr136) := Dj.of F118.low G135
                    replace F0 := F0.chg hc130 Dj.nil
                    replace F14 := F14.chg hc130 Dj.nil
                    replace F25 := F25.chg hc130 Dj.nil
                    replace F88 := F88.chg hc130 Dj.nil
                    replace F102 := F102.chg hc130 Dj.nil
                    replace F71 := F71.chg hc130 Dj.nil
                    replace F118 := F118.chg hc130 Dj.nil
                    replace hB := hB.inS hc130 inNil
                    replace G135 := low_le hZ G135
                    replace hZ := Nat.le_trans hZ hc130.size
                    refine ⟨.tuple #[.slice A131 (y127.1).length cap132, .bool (y127.2)], rfl, ?_⟩
                    refine wS_pure 5 [(13, .bool (y127.2)), (12, .slice A131 (y127.1).length cap132), (78, .bool (y127.2)), (77, .slice A131 (y127.1).length cap132), (73, .tuple #[.slice A131 (y127.1).length cap132, .bool (y127.2)])] (by kernel_rfl) ?_
                    refine wS_end (by rfl) ?_
                    refine eX_then ?_
                    refine cW_seq ?_
                    refine cW_seq ?_
                    refine cW_region ?_
                    refine wS_pure 2 [(80, .slice A22 (y18.1).length cap23), (79, .slice A131 (y127.1).length cap132)] (by kernel_rfl) ?_
                    obtain ⟨y144, hy145, hm⟩ := bindE hm
                    refine wS_calls (d := 81) (f := 55) (vs := [.slice A131 (y127.1).length cap132, .slice A22 (y18.1).length cap23]) (by kernel_rfl) ent55 (c_laws_eqInt64SS hy145 (F134.slr encI_ok) (F25.slr encI_ok)) ?_
                    rintro _ w146 ⟨rfl, hc147⟩
                    replace F0 := F0.chg hc147 Dj.nil
                    replace F14 := F14.chg hc147 Dj.nil
                    replace F25 := F25.chg hc147 Dj.nil
                    replace F88 := F88.chg hc147 Dj.nil
                    replace F102 := F102.chg hc147 Dj.nil
                    replace F71 := F71.chg hc147 Dj.nil
                    replace F118 := F118.chg hc147 Dj.nil
                    replace F134 := F134.chg hc147 Dj.nil
                    replace hB := hB.inS hc147 inNil
                    replace hZ := Nat.le_trans hZ hc147.size
                    refine ⟨.bool (y144), rfl, ?_⟩
                    refine wS_pure 2 [(83, .bool (!y144)), (82, .bool (!y144))] (by kernel_rfl) ?_
                    refine wS_bool (!y144) (fun hb148 => ?_) (fun hb148 => ?_)
                    · have hm := condT hb148 hm
                      rewrite [hb148]
                      refine wS_pure 4 [(87, .bool (true)), (86, undef), (85, undef), (84, undef)] (by kernel_rfl) ?_
                      refine wS_end (by rfl) ?_
                      refine eX_then ?_
                      refine cW_prune [(7, .slice A47 (y98.2).length cap48), (10, .int .i64 (y98.1)), (87, .bool (true))] (by kernel_rfl) (by kernel_rfl) (fun a149 => ?_)
                      refine cW_cond_t (by kernel_rfl) ?_
                      refine cW_seq ?_
                      refine cW_region ?_
                      refine wS_pure 1 [(2, .bool (false))] (by kernel_rfl) ?_
                      refine wS_end (by rfl) ?_
                      refine eX_then ?_
                      refine cW_ret ?_
                      refine eX_then_ret ?_
                      have hq : (some false : Option ((Bool))) = some _ := hm
                      replace hq := someE hq
                      subst hq
                      refine eX_ret (vs := [.bool (false)]) [.tmp 2] (by rfl) ⟨by (show lkE _ _ _ = _); kernel_rfl, trivial⟩ ?_
                      exact ⟨rfl, hB⟩
                    · have hm := condF hb148 hm
                      rewrite [hb148]
                      refine wS_pure 4 [(87, .bool (!(y127.2 == y18.2))), (86, .bool (!(y127.2 == y18.2))), (85, .bool (y18.2)), (84, .bool (y127.2))] (by kernel_rfl) ?_
                      refine wS_end (by rfl) ?_
                      refine eX_then ?_
                      refine cW_prune [(7, .slice A47 (y98.2).length cap48), (10, .int .i64 (y98.1)), (87, .bool (!(y127.2 == y18.2)))] (by kernel_rfl) (by kernel_rfl) (fun a150 => ?_)
                      refine cW_cond (t := !(y127.2 == y18.2)) (by kernel_rfl) (fun hb151 => ?_) (fun hb151 => ?_)
                      · have hm := condT hb151 hm
                        refine cW_seq ?_
                        refine cW_region ?_
                        refine wS_pure 1 [(2, .bool (false))] (by kernel_rfl) ?_
                        refine wS_end (by rfl) ?_
                        refine eX_then ?_
                        refine cW_ret ?_
                        refine eX_then_ret ?_
                        have hq : (some false : Option ((Bool))) = some _ := hm
                        replace hq := someE hq
                        subst hq
                        refine eX_ret (vs := [.bool (false)]) [.tmp 2] (by rfl) ⟨by (show lkE _ _ _ = _); kernel_rfl, trivial⟩ ?_
                        exact ⟨rfl, hB⟩
                      · have hm := condF hb151 hm
                        refine cW_skip ?_
                        refine eX_then ?_
                        refine cW_seq ?_
                        refine cW_region ?_
                        refine wS_pure 1 [(11, .int .i64 (1))] (by kernel_rfl) ?_
                        refine wS_end (by rfl) ?_
                        refine eX_then ?_
                        refine cW_seq ?_
                        refine cW_region ?_
                        refine wS_pure 2 [(89, .int .i64 (1)), (88, .slice A47 (y98.2).length cap48)] (by kernel_rfl) ?_
                        obtain ⟨y152, hy153, hm⟩ := bindE hm
                        refine wS_calls (d := 90) (f := 57) (vs := [.slice A47 (y98.2).length cap48, .int .i64 (1)]) (by kernel_rfl) ent57 (c_laws_heldInt64SS hy153 (F102.slr encI_ok)) ?_
                        rintro _ w154 ⟨rfl, hc155⟩
                        replace F0 := F0.chg hc155 Dj.nil
                        replace F14 := F14.chg hc155 Dj.nil
                        replace F25 := F25.chg hc155 Dj.nil
                        replace F88 := F88.chg hc155 Dj.nil
                        replace F102 := F102.chg hc155 Dj.nil
                        replace F71 := F71.chg hc155 Dj.nil
                        replace F118 := F118.chg hc155 Dj.nil
                        replace F134 := F134.chg hc155 Dj.nil
                        replace hB := hB.inS hc155 inNil
                        replace hZ := Nat.le_trans hZ hc155.size
                        refine ⟨.int .i64 (y152), rfl, ?_⟩
                        refine wS_pure 1 [(11, .int .i64 (y152))] (by kernel_rfl) ?_
                        refine wS_end (by rfl) ?_
                        refine eX_then ?_
                        refine cW_seq ?_
                        refine cW_seq ?_
                        refine cW_region ?_
                        refine wS_pure 2 [(92, .bool (decide (y152 < 0))), (91, .int .i64 (y152))] (by kernel_rfl) ?_
                        refine wS_end (by rfl) ?_
                        refine eX_then ?_
                        refine cW_cond (t := decide (y152 < 0)) (by kernel_rfl) (fun hb156 => ?_) (fun hb156 => ?_)
                        · have hm := condT hb156 hm
                          refine cW_seq ?_
                          refine cW_region ?_
                          refine wS_pure 1 [(2, .bool (false))] (by kernel_rfl) ?_
                          refine wS_end (by rfl) ?_
                          refine eX_then ?_
                          refine cW_ret ?_
                          refine eX_then_ret ?_
                          have hq : (some false : Option ((Bool))) = some _ := hm
                          replace hq := someE hq
                          subst hq
                          refine eX_ret (vs := [.bool (false)]) [.tmp 2] (by rfl) ⟨by (show lkE _ _ _ = _); kernel_rfl, trivial⟩ ?_
                          exact ⟨rfl, hB⟩
                        · have hm := condF hb156 hm
                          refine cW_skip ?_
                          refine eX_then ?_
                          refine cW_seq ?_
                          refine cW_seq ?_
                          refine cW_region ?_
                          refine wS_pure 3 [(95, .bool (y152 != y98.1)), (94, .int .i64 (y98.1)), (93, .int .i64 (y152))] (by kernel_rfl) ?_
                          refine wS_end (by rfl) ?_
                          refine eX_then ?_
                          refine cW_cond (t := y152 != y98.1) (by kernel_rfl) (fun hb157 => ?_) (fun hb157 => ?_)
                          · have hm := condT hb157 hm
                            refine cW_seq ?_
                            refine cW_region ?_
                            refine wS_pure 1 [(2, .bool (false))] (by kernel_rfl) ?_
                            refine wS_end (by rfl) ?_
                            refine eX_then ?_
                            refine cW_ret ?_
                            refine eX_then_ret ?_
                            have hq : (some false : Option ((Bool))) = some _ := hm
                            replace hq := someE hq
                            subst hq
                            refine eX_ret (vs := [.bool (false)]) [.tmp 2] (by rfl) ⟨by (show lkE _ _ _ = _); kernel_rfl, trivial⟩ ?_
                            exact ⟨rfl, hB⟩
                          · have hm := condF hb157 hm
                            refine cW_skip ?_
                            refine eX_then ?_
                            refine cW_seq ?_
                            refine cW_region ?_
                            refine wS_pure 1 [(2, .bool (true))] (by kernel_rfl) ?_
                            refine wS_end (by rfl) ?_
                            refine eX_then ?_
                            refine cW_ret ?_
                            have hq : (some true : Option ((Bool))) = some _ := hm
                            replace hq := someE hq
                            subst hq
                            refine eX_ret (vs := [.bool (true)]) [.tmp 2] (by rfl) ⟨by (show lkE _ _ _ = _); kernel_rfl, trivial⟩ ?_
                            exact ⟨rfl, hB⟩

end Go.Proofs.Ytdkpfkmmblmlhaa
