/- Printed walks: spec.l01Corners, spec.CornersOf, impl.CornersOf, laws.FnExactCornersOf. -/
import Derived.Test.YtdkpfkmmblmlhaaProg
import Derived.Test.YtdkpfkmmblmlhaaWPa01
set_option linter.unusedSimpArgs false
set_option linter.unusedVariables false
namespace Go.Proofs.Ytdkpfkmmblmlhaa
open Go.RowKit
attribute [local irreducible] wS cW eX wH

theorem ent36 : Ent Try.prog 36 := fun _ => by kernel_rfl
theorem ent37 : Ent Try.prog 37 := fun _ => by kernel_rfl
theorem ent38 : Ent Try.prog 38 := fun _ => by kernel_rfl
theorem ent39 : Ent Try.prog 39 := fun _ => by kernel_rfl
theorem ent90 : Ent Try.prog 90 := fun _ => by kernel_rfl

set_option maxRecDepth 100000 in
/-- spec.l01Corners -/
theorem c_spec_l01Corners {w0 : World} {l0 : List (Int × Int)} {A0 : Option Addr} {cap0 : Nat} {fp0 : List Nat} {r : (List (Int × Int))} (hm : m_spec_l01Corners l0 = some r) (F0 : Sl 2 encII w0 fp0 A0 l0) :
    Calls Try.prog 90 #[.slice A0 (l0).length cap0] w0 fun e w' => ∃ A100 cap100 fp100, e = .returned (.slice A100 (r).length cap100) ∧ Ow 2 encII 34 w' fp100 A100 cap100 r ∧ (∀ x ∈ fp100, w0.heap.size ≤ x) ∧ Chg [] w0 w' := by
  have L0 := F0.low
  have hB : Chg [] w0 w0 := Chg.refl _ _
  have hZ := Nat.le_refl w0.heap.size
  unfold m_spec_l01Corners at hm
  refine enterE (N := 34) Try.func90 (by rfl) Try.ntmps90 (by simp) [(0, .slice A0 (l0).length cap0)] (by rfl) (by kernel_rfl) (fun a => ?_)
  refine cW_seq ?_
  refine cW_region ?_
  refine wS_pure 1 [(2, .slice none 0 0)] (by kernel_rfl) ?_
  refine wS_end (by rfl) ?_
  refine eX_then ?_
  refine cW_seq ?_
  refine cW_region ?_
  refine wS_bs0 (α := Int × Int) (enc := encII) (d := 5) (t := 25) (T := 34) (by kernel_rfl) el25 ?_
  intro b2 w3 G4 F5 hc6
  replace F0 := F0.chg hc6 Dj.nil
  replace hB := hB.inS hc6 inNil
  replace G4 := Nat.le_trans hZ G4
  replace G4 := low1 G4
  replace hZ := Nat.le_trans hZ hc6.size
  refine wS_pure 1 [(3, .slice (some ⟨b2, 0, none⟩) (([] : List (Int × Int))).length 0)] (by kernel_rfl) ?_
  refine wS_end (by rfl) ?_
  refine eX_then ?_
  refine cW_seq ?_
  refine cW_seq ?_
  refine cW_region ?_
  refine wS_pure 1 [(4, .int .i64 (0))] (by kernel_rfl) ?_
  refine wS_end (by rfl) ?_
  refine eX_then ?_
  obtain ⟨r335, hr336, hm⟩ := bindE hm
  have hm337 := hm
  refine cW_cut (fun a' w' => ∃ l316 : List (Int × Int), ∃ A317 : Option Addr, ∃ cap318 : Nat, ∃ fp319 : List Nat, l316 = r335 ∧ Fr 34 [(3, .slice A317 (l316).length cap318)] a' ∧ Ow 2 encII 34 w' fp319 A317 cap318 l316 ∧ (∀ x ∈ fp319, w0.heap.size ≤ x) ∧ Chg [] w0 w' ∧ w0.heap.size ≤ w'.heap.size) ?_ ?_
  · refine cW_block ?_
    refine cW_loop _ (fun (s338 : (List (Int × Int)) × Int) a' w' => ∃ l325 : List (Int × Int), ∃ A326 : Option Addr, ∃ cap327 : Nat, ∃ fp328 : List Nat, ∃ x330 : Int, (l325, x330) = s338 ∧ Fr 34 [(0, .slice A0 (l0).length cap0), (3, .slice A326 (l325).length cap327), (4, .int .i64 (x330))] a' ∧ Sl 2 encII w' fp0 A0 l0 ∧ Ow 2 encII 34 w' fp328 A326 cap327 l325 ∧ (∀ x ∈ fp328, w0.heap.size ≤ x) ∧ Chg [] w0 w' ∧ w0.heap.size ≤ w'.heap.size) hr336 (fun hst => ⟨([] : List (Int × Int)), (some ⟨b2, 0, none⟩), 0, [b2], 0, rfl, Fr.of hst (by kernel_rfl), F0, F5, G4, hB, hZ⟩) ?_
    rintro _ c339 a' w324 ⟨l325, A326, cap327, fp328, x330, rfl, hF331, F332, F333, G334, hB, hZ⟩ hx340
    refine Fr.goOn hF331 (by kernel_rfl) ?_
    have hm := hx340
    unfold m_spec_l01Corners_s1 at hm
    refine cW_seq ?_
    refine cW_seq ?_
    refine cW_region ?_
    refine wS_pure 4 [(9, .bool (decide (x330 < (((l0).length : Int))))), (8, .int .i64 (((l0).length : Int))), (7, .slice A0 (l0).length cap0), (6, .int .i64 (x330))] (by kernel_rfl) ?_
    refine wS_end (by rfl) ?_
    refine eX_then ?_
    refine cW_cond (t := decide (x330 < (((l0).length : Int)))) (by kernel_rfl) (fun hb341 => ?_) (fun hb341 => ?_)
    · have hm := condT hb341 hm
      refine cW_skip ?_
      refine eX_then ?_
      refine cW_seq ?_
      refine cW_block ?_
      obtain ⟨s419, hs420, hm⟩ := bindE hm
      refine cW_cut (fun a' w' => ∃ l410 : List (Int × Int), ∃ A411 : Option Addr, ∃ cap412 : Nat, ∃ fp413 : List Nat, l410 = s419 ∧ Fr 34 [(0, .slice A0 (l0).length cap0), (3, .slice A411 (l410).length cap412), (4, .int .i64 (x330))] a' ∧ Sl 2 encII w' fp0 A0 l0 ∧ Ow 2 encII 34 w' fp413 A411 cap412 l410 ∧ (∀ x ∈ fp413, w0.heap.size ≤ x) ∧ Chg [] w0 w' ∧ w0.heap.size ≤ w'.heap.size) ?_ ?_
      · have hm := hs420
        refine cW_seq ?_
        refine cW_region ?_
        refine wS_pure 3 [(14, .bool (x330 == 0)), (13, .bool (x330 == 0)), (12, .int .i64 (x330))] (by kernel_rfl) ?_
        refine wS_bool (x330 == 0) (fun hb421 => ?_) (fun hb421 => ?_)
        · have hm := condT hb421 hm
          rewrite [hb421]
          refine wS_pure 11 [(25, .bool (true)), (24, undef), (23, undef), (22, undef), (21, .bool (true)), (20, .bool (true)), (19, undef), (18, undef), (17, undef), (16, undef), (15, undef)] (by kernel_rfl) ?_
          refine wS_end (by rfl) ?_
          refine eX_then ?_
          refine cW_cond_t (by kernel_rfl) ?_
          refine cW_region ?_
          refine wS_pure 3 [(28, .int .i64 (x330)), (27, .slice A0 (l0).length cap0), (26, .slice A326 (l325).length cap327)] (by kernel_rfl) ?_
          obtain ⟨x422, hx423, hm⟩ := bindE hm
          refine wS_idx (d := 29) (T := 25) (A := A0) (n := (l0).length) (cap := cap0) (kd := .i64) (m := x330) (by kernel_rfl) sl25 (F332.is hx423) ?_
          refine wS_loadA (d := 30) (T := 34) (ad := (elA A0 2 (x330) 0)) (vs := [.int .i64 (x422.1), .int .i64 (x422.2)]) (by kernel_rfl) vt34 (fun i u hu => Sl.cells_at F332 hx423 0 hu (by rfl)) ?_
          refine wS_bs (enc := encII) ([(x422.1, x422.2)] : List (Int × Int)) [.int .i64 (x422.1), .int .i64 (x422.2)] (d := 31) (t := 25) (T := 34) (n := 1) (ps := [(0, .agg #[.int .i64 (x422.1), .int .i64 (x422.2)])]) (by kernel_rfl) el25 encII_ok (by rfl) (by omega) (by omega) (by kernel_rfl) (by rfl) ?_
          intro b424 w425 G426 F427 hc428
          have D430 : Dj fp328 [b424] := Dj.of F333.low (low1 G426)
          replace F332 := F332.chg hc428 Dj.nil
          replace F333 := F333.chg hc428 Dj.nil
          replace hB := hB.inS hc428 inNil
          replace G426 := Nat.le_trans hZ G426
          replace G426 := low1 G426
          replace hZ := Nat.le_trans hZ hc428.size
          obtain ⟨_, hk431, hm⟩ := bindE hm
          replace hk431 := apE hk431
          refine wS_append (enc := encII) (l := (l325 : List (Int × Int))) (l2 := (([(x422.1, x422.2)] : List (Int × Int)) : List (Int × Int))) (d := 32) (t := 25) (T := 34) (A := A326) (A2 := (some ⟨b424, 0, none⟩)) (cap := cap327) (cap2 := 1) (by kernel_rfl) el25 encII_ok F333 (F427.sl encII_ok) (by rfl) hk431 ?_
          intro w432 fp433 A434 cap435 F436 hc437 hp438
          have G440 := low_ap G334 hZ hp438
          have D441 : Dj [b424] fp433 := Dj.ap (D430).symm F427.low hp438
          replace F332 := F332.chg hc437 (Dj.of L0 G334)
          replace F427 := F427.chg hc437 (D430).symm
          replace hB := hB.inS hc437 (inLow G334)
          replace hZ := Nat.le_trans hZ hc437.size
          refine wS_pure 1 [(3, .slice A434 (l325 ++ (([(x422.1, x422.2)] : List (Int × Int)))).length cap435)] (by kernel_rfl) ?_
          refine wS_end (by rfl) ?_
          have hq : (some (l325 ++ (([(x422.1, x422.2)] : List (Int × Int)))) : Option ((List (Int × Int)))) = some _ := hm
          replace hq := someE hq
          subst hq
          exact eX_J (fun hst => ⟨l325 ++ (([(x422.1, x422.2)] : List (Int × Int))), A434, cap435, fp433, rfl, Fr.of hst (by kernel_rfl), F332, F436, G440, hB, hZ⟩)
        · have hm := condF hb421 hm
          rewrite [hb421]
          refine wS_pure 7 [(21, .bool (x330 == (wr ((((l0).length : Int)) - 1)))), (20, .bool (x330 == (wr ((((l0).length : Int)) - 1)))), (19, .bool (x330 == (wr ((((l0).length : Int)) - 1)))), (18, .int .i64 (wr ((((l0).length : Int)) - 1))), (17, .int .i64 (((l0).length : Int))), (16, .slice A0 (l0).length cap0), (15, .int .i64 (x330))] (by kernel_rfl) ?_
          refine wS_bool (x330 == (wr ((((l0).length : Int)) - 1))) (fun hb442 => ?_) (fun hb442 => ?_)
          · have hm := condT hb442 hm
            rewrite [hb442]
            refine wS_pure 4 [(25, .bool (true)), (24, undef), (23, undef), (22, undef)] (by kernel_rfl) ?_
            refine wS_end (by rfl) ?_
            refine eX_then ?_
            refine cW_cond_t (by kernel_rfl) ?_
            refine cW_region ?_
            refine wS_pure 3 [(28, .int .i64 (x330)), (27, .slice A0 (l0).length cap0), (26, .slice A326 (l325).length cap327)] (by kernel_rfl) ?_
            obtain ⟨x443, hx444, hm⟩ := bindE hm
            refine wS_idx (d := 29) (T := 25) (A := A0) (n := (l0).length) (cap := cap0) (kd := .i64) (m := x330) (by kernel_rfl) sl25 (F332.is hx444) ?_
            refine wS_loadA (d := 30) (T := 34) (ad := (elA A0 2 (x330) 0)) (vs := [.int .i64 (x443.1), .int .i64 (x443.2)]) (by kernel_rfl) vt34 (fun i u hu => Sl.cells_at F332 hx444 0 hu (by rfl)) ?_
            refine wS_bs (enc := encII) ([(x443.1, x443.2)] : List (Int × Int)) [.int .i64 (x443.1), .int .i64 (x443.2)] (d := 31) (t := 25) (T := 34) (n := 1) (ps := [(0, .agg #[.int .i64 (x443.1), .int .i64 (x443.2)])]) (by kernel_rfl) el25 encII_ok (by rfl) (by omega) (by omega) (by kernel_rfl) (by rfl) ?_
            intro b445 w446 G447 F448 hc449
            have D451 : Dj fp328 [b445] := Dj.of F333.low (low1 G447)
            replace F332 := F332.chg hc449 Dj.nil
            replace F333 := F333.chg hc449 Dj.nil
            replace hB := hB.inS hc449 inNil
            replace G447 := Nat.le_trans hZ G447
            replace G447 := low1 G447
            replace hZ := Nat.le_trans hZ hc449.size
            obtain ⟨_, hk452, hm⟩ := bindE hm
            replace hk452 := apE hk452
            refine wS_append (enc := encII) (l := (l325 : List (Int × Int))) (l2 := (([(x443.1, x443.2)] : List (Int × Int)) : List (Int × Int))) (d := 32) (t := 25) (T := 34) (A := A326) (A2 := (some ⟨b445, 0, none⟩)) (cap := cap327) (cap2 := 1) (by kernel_rfl) el25 encII_ok F333 (F448.sl encII_ok) (by rfl) hk452 ?_
            intro w453 fp454 A455 cap456 F457 hc458 hp459
            have G461 := low_ap G334 hZ hp459
            have D462 : Dj [b445] fp454 := Dj.ap (D451).symm F448.low hp459
            replace F332 := F332.chg hc458 (Dj.of L0 G334)
            replace F448 := F448.chg hc458 (D451).symm
            replace hB := hB.inS hc458 (inLow G334)
            replace hZ := Nat.le_trans hZ hc458.size
            refine wS_pure 1 [(3, .slice A455 (l325 ++ (([(x443.1, x443.2)] : List (Int × Int)))).length cap456)] (by kernel_rfl) ?_
            refine wS_end (by rfl) ?_
            have hq : (some (l325 ++ (([(x443.1, x443.2)] : List (Int × Int)))) : Option ((List (Int × Int)))) = some _ := hm
            replace hq := someE hq
            subst hq
            exact eX_J (fun hst => ⟨l325 ++ (([(x443.1, x443.2)] : List (Int × Int))), A455, cap456, fp454, rfl, Fr.of hst (by kernel_rfl), F332, F457, G461, hB, hZ⟩)
          · have hm := condF hb442 hm
            rewrite [hb442]
            refine wS_pure 2 [(23, .int .i64 (x330)), (22, .slice A0 (l0).length cap0)] (by kernel_rfl) ?_
            obtain ⟨y463, hy464, hm⟩ := bindE hm
            refine wS_calls (d := 24) (f := 81) (vs := [.slice A0 (l0).length cap0, .int .i64 (x330)]) (by kernel_rfl) ent81 (c_spec_l01Bend hy464 F332) ?_
            rintro _ w465 ⟨rfl, hc466⟩
            replace F332 := F332.chg hc466 Dj.nil
            replace F333 := F333.chg hc466 Dj.nil
            replace hB := hB.inS hc466 inNil
            replace hZ := Nat.le_trans hZ hc466.size
            refine ⟨.bool (y463), rfl, ?_⟩
            refine wS_pure 1 [(25, .bool (y463))] (by kernel_rfl) ?_
            refine wS_end (by rfl) ?_
            refine eX_then ?_
            refine cW_cond (t := y463) (by kernel_rfl) (fun hb467 => ?_) (fun hb467 => ?_)
            · have hm := condT hb467 hm
              refine cW_region ?_
              refine wS_pure 3 [(28, .int .i64 (x330)), (27, .slice A0 (l0).length cap0), (26, .slice A326 (l325).length cap327)] (by kernel_rfl) ?_
              obtain ⟨x468, hx469, hm⟩ := bindE hm
              refine wS_idx (d := 29) (T := 25) (A := A0) (n := (l0).length) (cap := cap0) (kd := .i64) (m := x330) (by kernel_rfl) sl25 (F332.is hx469) ?_
              refine wS_loadA (d := 30) (T := 34) (ad := (elA A0 2 (x330) 0)) (vs := [.int .i64 (x468.1), .int .i64 (x468.2)]) (by kernel_rfl) vt34 (fun i u hu => Sl.cells_at F332 hx469 0 hu (by rfl)) ?_
              refine wS_bs (enc := encII) ([(x468.1, x468.2)] : List (Int × Int)) [.int .i64 (x468.1), .int .i64 (x468.2)] (d := 31) (t := 25) (T := 34) (n := 1) (ps := [(0, .agg #[.int .i64 (x468.1), .int .i64 (x468.2)])]) (by kernel_rfl) el25 encII_ok (by rfl) (by omega) (by omega) (by kernel_rfl) (by rfl) ?_
              intro b470 w471 G472 F473 hc474
              have D476 : Dj fp328 [b470] := Dj.of F333.low (low1 G472)
              replace F332 := F332.chg hc474 Dj.nil
              replace F333 := F333.chg hc474 Dj.nil
              replace hB := hB.inS hc474 inNil
              replace G472 := Nat.le_trans hZ G472
              replace G472 := low1 G472
              replace hZ := Nat.le_trans hZ hc474.size
              obtain ⟨_, hk477, hm⟩ := bindE hm
              replace hk477 := apE hk477
              refine wS_append (enc := encII) (l := (l325 : List (Int × Int))) (l2 := (([(x468.1, x468.2)] : List (Int × Int)) : List (Int × Int))) (d := 32) (t := 25) (T := 34) (A := A326) (A2 := (some ⟨b470, 0, none⟩)) (cap := cap327) (cap2 := 1) (by kernel_rfl) el25 encII_ok F333 (F473.sl encII_ok) (by rfl) hk477 ?_
              intro w478 fp479 A480 cap481 F482 hc483 hp484
              have G486 := low_ap G334 hZ hp484
              have D487 : Dj [b470] fp479 := Dj.ap (D476).symm F473.low hp484
              replace F332 := F332.chg hc483 (Dj.of L0 G334)
              replace F473 := F473.chg hc483 (D476).symm
              replace hB := hB.inS hc483 (inLow G334)
              replace hZ := Nat.le_trans hZ hc483.size
              refine wS_pure 1 [(3, .slice A480 (l325 ++ (([(x468.1, x468.2)] : List (Int × Int)))).length cap481)] (by kernel_rfl) ?_
              refine wS_end (by rfl) ?_
              have hq : (some (l325 ++ (([(x468.1, x468.2)] : List (Int × Int)))) : Option ((List (Int × Int)))) = some _ := hm
              replace hq := someE hq
              subst hq
              exact eX_J (fun hst => ⟨l325 ++ (([(x468.1, x468.2)] : List (Int × Int))), A480, cap481, fp479, rfl, Fr.of hst (by kernel_rfl), F332, F482, G486, hB, hZ⟩)
            · have hm := condF hb467 hm
              refine cW_skip ?_
              have hq : (some l325 : Option ((List (Int × Int)))) = some _ := hm
              replace hq := someE hq
              subst hq
              exact eX_J (fun hst => ⟨l325, A326, cap327, fp328, rfl, Fr.of hst (by kernel_rfl), F332, F333, G334, hB, hZ⟩)
      · rintro a' w409 ⟨l410, A411, cap412, fp413, hJ, hF415, F416, F417, G418, hB, hZ⟩
        subst hJ
        refine Fr.goX hF415 (by kernel_rfl) ?_
        refine eX_block ?_
        refine eX_then ?_
        refine cW_region ?_
        refine wS_pure 3 [(4, .int .i64 (wr (x330 + 1))), (11, .int .i64 (wr (x330 + 1))), (10, .int .i64 (x330))] (by kernel_rfl) ?_
        refine wS_end (by rfl) ?_
        have hq : (some (Ctl.next ((l410, wr (x330 + 1)))) : Option (Ctl ((List (Int × Int)) × Int) ((List (Int × Int))))) = some _ := hm
        replace hq := someE hq
        subst hq
        exact eX_next hx340 (fun hst => ⟨l410, A411, cap412, fp413, wr (x330 + 1), rfl, Fr.of hst (by kernel_rfl), F416, F417, G418, hB, hZ⟩)
    · have hm := condF hb341 hm
      refine cW_exit ?_
      refine eX_then_exit ?_
      have hq : (some (Ctl.out l325) : Option (Ctl ((List (Int × Int)) × Int) ((List (Int × Int))))) = some _ := hm
      replace hq := someE hq
      subst hq
      refine eX_outX hx340 (fun hr488 => ?_)
      replace hr488 := hr488.symm
      subst hr488
      refine eX_block_hit ?_
      exact eX_J (fun hst => ⟨l325, A326, cap327, fp328, rfl, Fr.of hst (by kernel_rfl), F333, G334, hB, hZ⟩)
  · rintro a' w315 ⟨l316, A317, cap318, fp319, hJ, hF321, F322, G323, hB, hZ⟩
    subst hJ
    refine Fr.goX hF321 (by kernel_rfl) ?_
    refine eX_then ?_
    refine cW_seq ?_
    refine cW_region ?_
    refine wS_pure 2 [(2, .slice A317 (l316).length cap318), (33, .slice A317 (l316).length cap318)] (by kernel_rfl) ?_
    refine wS_end (by rfl) ?_
    refine eX_then ?_
    refine cW_ret ?_
    have hq : (some l316 : Option ((List (Int × Int)))) = some _ := hm
    replace hq := someE hq
    subst hq
    refine eX_ret (vs := [.slice A317 (l316).length cap318]) [.tmp 2] (by rfl) ⟨by (show lkE _ _ _ = _); kernel_rfl, trivial⟩ ?_
    exact ⟨A317, cap318, fp319, rfl, F322, G323, hB⟩

set_option maxRecDepth 100000 in
/-- spec.CornersOf -/
theorem c_spec_CornersOf {w0 : World} {l0 : List (Int × Int)} {A0 : Option Addr} {cap0 : Nat} {fp0 : List Nat} {r : (List (Int × Int)) × (Bool)} (hm : m_spec_CornersOf l0 = some r) (F0 : Sl 2 encII w0 fp0 A0 l0) (K0 : (l0).length ≤ cap0) :
    Calls Try.prog 38 #[.slice A0 (l0).length cap0] w0 fun e w' => ∃ A100 cap100 fp100, e = .returned (.tuple #[.slice A100 (r.1).length cap100, .bool (r.2)]) ∧ Ow 2 encII 34 w' fp100 A100 cap100 r.1 ∧ (∀ x ∈ fp100, w0.heap.size ≤ x) ∧ Chg [] w0 w' := by
  have L0 := F0.low
  have hB : Chg [] w0 w0 := Chg.refl _ _
  have hZ := Nat.le_refl w0.heap.size
  unfold m_spec_CornersOf at hm
  refine enterE (N := 9) Try.func38 (by rfl) Try.ntmps38 (by simp) [(0, .slice A0 (l0).length cap0)] (by rfl) (by kernel_rfl) (fun a => ?_)
  refine cW_seq ?_
  refine cW_region ?_
  refine wS_pure 2 [(3, .bool (false)), (2, .slice none 0 0)] (by kernel_rfl) ?_
  refine wS_end (by rfl) ?_
  refine eX_then ?_
  refine cW_seq ?_
  refine cW_seq ?_
  refine cW_region ?_
  refine wS_pure 1 [(4, .slice A0 (l0).length cap0)] (by kernel_rfl) ?_
  obtain ⟨y2, hy3, hm⟩ := bindE hm
  refine wS_calls (d := 5) (f := 70) (vs := [.slice A0 (l0).length cap0]) (by kernel_rfl) ent70 (c_spec_l01Path hy3 F0 K0) ?_
  rintro _ w4 ⟨rfl, hc5⟩
  replace F0 := F0.chg hc5 Dj.nil
  replace hB := hB.inS hc5 inNil
  replace hZ := Nat.le_trans hZ hc5.size
  refine ⟨.bool (y2), rfl, ?_⟩
  refine wS_pure 1 [(6, .bool (!y2))] (by kernel_rfl) ?_
  refine wS_end (by rfl) ?_
  refine eX_then ?_
  refine cW_cond (t := !y2) (by kernel_rfl) (fun hb6 => ?_) (fun hb6 => ?_)
  · have hm := condT hb6 hm
    refine cW_seq ?_
    refine cW_region ?_
    refine wS_pure 2 [(3, .bool (false)), (2, .slice none 0 0)] (by kernel_rfl) ?_
    refine wS_end (by rfl) ?_
    refine eX_then ?_
    refine cW_ret ?_
    refine eX_then_ret ?_
    have hq : (some (([], false)) : Option ((List (Int × Int)) × (Bool))) = some _ := hm
    replace hq := someE hq
    subst hq
    refine eX_ret (vs := [.slice none 0 0, .bool (false)]) [.tmp 2, .tmp 3] (by rfl) ⟨by (show lkE _ _ _ = _); kernel_rfl, ⟨by (show lkE _ _ _ = _); kernel_rfl, trivial⟩⟩ ?_
    exact ⟨none, 0, [], rfl, Ow.nil _, lowNil, hB⟩
  · have hm := condF hb6 hm
    refine cW_skip ?_
    refine eX_then ?_
    refine cW_seq ?_
    refine cW_region ?_
    refine wS_pure 1 [(7, .slice A0 (l0).length cap0)] (by kernel_rfl) ?_
    obtain ⟨y7, hy8, hm⟩ := bindE hm
    refine wS_calls (d := 8) (f := 90) (vs := [.slice A0 (l0).length cap0]) (by kernel_rfl) ent90 (c_spec_l01Corners hy8 F0) ?_
    rintro _ w9 ⟨A11, cap12, fp13, rfl, F14, G15, hc10⟩
    replace F0 := F0.chg hc10 Dj.nil
    replace hB := hB.inS hc10 inNil
    replace G15 := low_le hZ G15
    replace hZ := Nat.le_trans hZ hc10.size
    refine ⟨.slice A11 (y7).length cap12, rfl, ?_⟩
    refine wS_pure 2 [(3, .bool (true)), (2, .slice A11 (y7).length cap12)] (by kernel_rfl) ?_
    refine wS_end (by rfl) ?_
    refine eX_then ?_
    refine cW_ret ?_
    have hq : (some ((y7, true)) : Option ((List (Int × Int)) × (Bool))) = some _ := hm
    replace hq := someE hq
    subst hq
    refine eX_ret (vs := [.slice A11 (y7).length cap12, .bool (true)]) [.tmp 2, .tmp 3] (by rfl) ⟨by (show lkE _ _ _ = _); kernel_rfl, ⟨by (show lkE _ _ _ = _); kernel_rfl, trivial⟩⟩ ?_
    exact ⟨A11, cap12, fp13, rfl, F14, G15, hB⟩

set_option maxRecDepth 100000 in
/-- impl.CornersOf -/
theorem c_impl_CornersOf {w0 : World} {l0 : List (Int × Int)} {A0 : Option Addr} {cap0 : Nat} {fp0 : List Nat} {r : (List (Int × Int)) × (Bool)} (hm : m_impl_CornersOf l0 = some r) (F0 : Sl 2 encII w0 fp0 A0 l0) :
    Calls Try.prog 39 #[.slice A0 (l0).length cap0] w0 fun e w' => ∃ A100 cap100 fp100, e = .returned (.tuple #[.slice A100 (r.1).length cap100, .bool (r.2)]) ∧ Ow 2 encII 34 w' fp100 A100 cap100 r.1 ∧ (∀ x ∈ fp100, w0.heap.size ≤ x) ∧ Chg [] w0 w' := by
  have L0 := F0.low
  have hB : Chg [] w0 w0 := Chg.refl _ _
  have hZ := Nat.le_refl w0.heap.size
  unfold m_impl_CornersOf at hm
  refine enterE (N := 9) Try.func39 (by rfl) Try.ntmps39 (by simp) [(0, .slice A0 (l0).length cap0)] (by rfl) (by kernel_rfl) (fun a => ?_)
  refine cW_seq ?_
  refine cW_region ?_
  refine wS_pure 2 [(3, .bool (false)), (2, .slice none 0 0)] (by kernel_rfl) ?_
  refine wS_end (by rfl) ?_
  refine eX_then ?_
  refine cW_seq ?_
  refine cW_seq ?_
  refine cW_region ?_
  refine wS_pure 1 [(4, .slice A0 (l0).length cap0)] (by kernel_rfl) ?_
  obtain ⟨y2, hy3, hm⟩ := bindE hm
  refine wS_calls (d := 5) (f := 23) (vs := [.slice A0 (l0).length cap0]) (by kernel_rfl) ent23 (c_impl_IsPath hy3 F0) ?_
  rintro _ w4 ⟨rfl, hc5⟩
  replace F0 := F0.chg hc5 Dj.nil
  replace hB := hB.inS hc5 inNil
  replace hZ := Nat.le_trans hZ hc5.size
  refine ⟨.bool (y2), rfl, ?_⟩
  refine wS_pure 1 [(6, .bool (!y2))] (by kernel_rfl) ?_
  refine wS_end (by rfl) ?_
  refine eX_then ?_
  refine cW_cond (t := !y2) (by kernel_rfl) (fun hb6 => ?_) (fun hb6 => ?_)
  · have hm := condT hb6 hm
    refine cW_seq ?_
    refine cW_region ?_
    refine wS_pure 2 [(3, .bool (false)), (2, .slice none 0 0)] (by kernel_rfl) ?_
    refine wS_end (by rfl) ?_
    refine eX_then ?_
    refine cW_ret ?_
    refine eX_then_ret ?_
    have hq : (some (([], false)) : Option ((List (Int × Int)) × (Bool))) = some _ := hm
    replace hq := someE hq
    subst hq
    refine eX_ret (vs := [.slice none 0 0, .bool (false)]) [.tmp 2, .tmp 3] (by rfl) ⟨by (show lkE _ _ _ = _); kernel_rfl, ⟨by (show lkE _ _ _ = _); kernel_rfl, trivial⟩⟩ ?_
    exact ⟨none, 0, [], rfl, Ow.nil _, lowNil, hB⟩
  · have hm := condF hb6 hm
    refine cW_skip ?_
    refine eX_then ?_
    refine cW_seq ?_
    refine cW_region ?_
    refine wS_pure 1 [(7, .slice A0 (l0).length cap0)] (by kernel_rfl) ?_
    obtain ⟨y7, hy8, hm⟩ := bindE hm
    refine wS_calls (d := 8) (f := 82) (vs := [.slice A0 (l0).length cap0]) (by kernel_rfl) ent82 (c_impl_corners hy8 F0) ?_
    rintro _ w9 ⟨A11, cap12, fp13, rfl, F14, G15, hc10⟩
    replace F0 := F0.chg hc10 Dj.nil
    replace hB := hB.inS hc10 inNil
    replace G15 := low_le hZ G15
    replace hZ := Nat.le_trans hZ hc10.size
    refine ⟨.slice A11 (y7).length cap12, rfl, ?_⟩
    refine wS_pure 2 [(3, .bool (true)), (2, .slice A11 (y7).length cap12)] (by kernel_rfl) ?_
    refine wS_end (by rfl) ?_
    refine eX_then ?_
    refine cW_ret ?_
    have hq : (some ((y7, true)) : Option ((List (Int × Int)) × (Bool))) = some _ := hm
    replace hq := someE hq
    subst hq
    refine eX_ret (vs := [.slice A11 (y7).length cap12, .bool (true)]) [.tmp 2, .tmp 3] (by rfl) ⟨by (show lkE _ _ _ = _); kernel_rfl, ⟨by (show lkE _ _ _ = _); kernel_rfl, trivial⟩⟩ ?_
    exact ⟨A11, cap12, fp13, rfl, F14, G15, hB⟩

set_option maxRecDepth 100000 in
/-- laws.FnExactCornersOf -/
theorem c_laws_FnExactCornersOf {w0 : World} {l0 : List (Int × Int)} {A0 : Option Addr} {cap0 : Nat} {fp0 : List Nat} {r : (Bool)} (hm : m_laws_FnExactCornersOf l0 = some r) (F0 : Sl 2 encII w0 fp0 A0 l0) :
    Calls Try.prog 9 #[.slice A0 (l0).length cap0] w0 fun e w' => e = .returned (.bool (r)) ∧ Chg [] w0 w' := by
  have L0 := F0.low
  have hB : Chg [] w0 w0 := Chg.refl _ _
  have hZ := Nat.le_refl w0.heap.size
  unfold m_laws_FnExactCornersOf at hm
  refine enterE (N := 96) Try.func9 (by rfl) Try.ntmps9 (by simp) [(0, .slice A0 (l0).length cap0)] (by rfl) (by kernel_rfl) (fun a => ?_)
  refine cW_seq ?_
  refine cW_region ?_
  refine wS_pure 1 [(2, .bool (false))] (by kernel_rfl) ?_
  refine wS_end (by rfl) ?_
  refine eX_then ?_
  refine cW_seq ?_
  refine cW_region ?_
  refine wS_pure 1 [(3, .int .i64 (1048576))] (by kernel_rfl) ?_
  refine wS_end (by rfl) ?_
  refine eX_then ?_
  refine cW_seq ?_
  refine cW_region ?_
  refine wS_pure 2 [(15, .int .i64 (1048576)), (14, .slice A0 (l0).length cap0)] (by kernel_rfl) ?_
  obtain ⟨y2, hy3, hm⟩ := bindE hm
  refine wS_calls (d := 16) (f := 20) (vs := [.slice A0 (l0).length cap0, .int .i64 (1048576)]) (by kernel_rfl) ent20 (c_laws_szPointS hy3 F0) ?_
  rintro _ w4 ⟨rfl, hc5⟩
  replace F0 := F0.chg hc5 Dj.nil
  replace hB := hB.inS hc5 inNil
  replace hZ := Nat.le_trans hZ hc5.size
  refine ⟨.int .i64 (y2), rfl, ?_⟩
  refine wS_pure 1 [(3, .int .i64 (y2))] (by kernel_rfl) ?_
  refine wS_end (by rfl) ?_
  refine eX_then ?_
  refine cW_seq ?_
  refine cW_seq ?_
  refine cW_region ?_
  refine wS_pure 2 [(18, .bool (decide (y2 < 0))), (17, .int .i64 (y2))] (by kernel_rfl) ?_
  refine wS_end (by rfl) ?_
  refine eX_then ?_
  refine cW_cond (t := decide (y2 < 0)) (by kernel_rfl) (fun hb6 => ?_) (fun hb6 => ?_)
  · have hm := condT hb6 hm
    refine cW_seq ?_
    refine cW_region ?_
    refine wS_pure 1 [(2, .bool (true))] (by kernel_rfl) ?_
    refine wS_end (by rfl) ?_
    refine eX_then ?_
    refine cW_ret ?_
    refine eX_then_ret ?_
    have hq : (some true : Option ((Bool))) = some _ := hm
    replace hq := someE hq
    subst hq
    refine eX_ret (vs := [.bool (true)]) [.tmp 2] (by rfl) ⟨by (show lkE _ _ _ = _); kernel_rfl, trivial⟩ ?_
    exact ⟨rfl, hB⟩
  · have hm := condF hb6 hm
    refine cW_skip ?_
    refine eX_then ?_
    refine cW_seq ?_
    refine cW_region ?_
    refine wS_pure 1 [(20, .slice A0 (l0).length cap0)] (by kernel_rfl) ?_
    obtain ⟨y7, hy8, hm⟩ := bindE hm
    refine wS_calls (d := 21) (f := 22) (vs := [.slice A0 (l0).length cap0]) (by kernel_rfl) ent22 (c_laws_toPointS hy8 F0) ?_
    rintro _ w9 ⟨A11, cap12, fp13, rfl, F14, G15, hc10⟩
    replace F0 := F0.chg hc10 Dj.nil
    replace hB := hB.inS hc10 inNil
    replace G15 := low_le hZ G15
    replace hZ := Nat.le_trans hZ hc10.size
    refine ⟨.slice A11 (y7).length cap12, rfl, ?_⟩
    obtain ⟨y18, hy19, hm⟩ := bindE hm
    refine wS_calls (d := 22) (f := 38) (vs := [.slice A11 (y7).length cap12]) (by kernel_rfl) ent38 (c_spec_CornersOf hy19 (F14.sl encII_ok) F14.cap_le) ?_
    rintro _ w20 ⟨A22, cap23, fp24, rfl, F25, G26, hc21⟩
    have D29 : Dj fp13 fp24 := Dj.of F14.low G26
    replace F0 := F0.chg hc21 Dj.nil
    replace F14 := F14.chg hc21 Dj.nil
    replace hB := hB.inS hc21 inNil
    replace G26 := low_le hZ G26
    replace hZ := Nat.le_trans hZ hc21.size
    refine ⟨.tuple #[.slice A22 (y18.1).length cap23, .bool (y18.2)], rfl, ?_⟩
    refine wS_pure 5 [(5, .bool (y18.2)), (4, .slice A22 (y18.1).length cap23), (24, .bool (y18.2)), (23, .slice A22 (y18.1).length cap23), (19, .tuple #[.slice A22 (y18.1).length cap23, .bool (y18.2)])] (by kernel_rfl) ?_
    refine wS_end (by rfl) ?_
    refine eX_then ?_
    refine cW_seq ?_
    refine cW_region ?_
    refine wS_pure 1 [(25, .slice A0 (l0).length cap0)] (by kernel_rfl) ?_
    obtain ⟨y30, hy31, hm⟩ := bindE hm
    refine wS_calls (d := 26) (f := 22) (vs := [.slice A0 (l0).length cap0]) (by kernel_rfl) ent22 (c_laws_toPointS hy31 F0) ?_
    rintro _ w32 ⟨A34, cap35, fp36, rfl, F37, G38, hc33⟩
    have D41 : Dj fp13 fp36 := Dj.of F14.low G38
    have D42 : Dj fp24 fp36 := Dj.of F25.low G38
    replace F0 := F0.chg hc33 Dj.nil
    replace F14 := F14.chg hc33 Dj.nil
    replace F25 := F25.chg hc33 Dj.nil
    replace hB := hB.inS hc33 inNil
    replace G38 := low_le hZ G38
    replace hZ := Nat.le_trans hZ hc33.size
    refine ⟨.slice A34 (y30).length cap35, rfl, ?_⟩
    refine wS_pure 1 [(6, .slice A34 (y30).length cap35)] (by kernel_rfl) ?_
    refine wS_end (by rfl) ?_
    refine eX_then ?_
    refine cW_seq ?_
    refine cW_region ?_
    refine wS_pure 1 [(28, .slice A34 (y30).length cap35)] (by kernel_rfl) ?_
    obtain ⟨y43, hy44, hm⟩ := bindE hm
    refine wS_calls (d := 29) (f := 39) (vs := [.slice A34 (y30).length cap35]) (by kernel_rfl) ent39 (c_impl_CornersOf hy44 (F37.sl encII_ok)) ?_
    rintro _ w45 ⟨A47, cap48, fp49, rfl, F50, G51, hc46⟩
    have D54 : Dj fp13 fp49 := Dj.of F14.low G51
    have D55 : Dj fp24 fp49 := Dj.of F25.low G51
    have D56 : Dj fp36 fp49 := Dj.of F37.low G51
    replace F0 := F0.chg hc46 Dj.nil
    replace F14 := F14.chg hc46 Dj.nil
    replace F25 := F25.chg hc46 Dj.nil
    replace F37 := F37.chg hc46 Dj.nil
    replace hB := hB.inS hc46 inNil
    replace G51 := low_le hZ G51
    replace hZ := Nat.le_trans hZ hc46.size
    refine ⟨.tuple #[.slice A47 (y43.1).length cap48, .bool (y43.2)], rfl, ?_⟩
    refine wS_pure 5 [(8, .bool (y43.2)), (7, .slice A47 (y43.1).length cap48), (31, .bool (y43.2)), (30, .slice A47 (y43.1).length cap48), (27, .tuple #[.slice A47 (y43.1).length cap48, .bool (y43.2)])] (by kernel_rfl) ?_
    refine wS_end (by rfl) ?_
    refine eX_then ?_
    refine cW_prune [(0, .slice A0 (l0).length cap0), (4, .slice A22 (y18.1).length cap23), (5, .bool (y18.2)), (6, .slice A34 (y30).length cap35), (7, .slice A47 (y43.1).length cap48), (8, .bool (y43.2))] (by kernel_rfl) (by kernel_rfl) (fun a57 => ?_)
    refine cW_seq ?_
    refine cW_seq ?_
    refine cW_region ?_
    refine wS_pure 2 [(33, .slice A22 (y18.1).length cap23), (32, .slice A47 (y43.1).length cap48)] (by kernel_rfl) ?_
    obtain ⟨y58, hy59, hm⟩ := bindE hm
    refine wS_calls (d := 34) (f := 24) (vs := [.slice A47 (y43.1).length cap48, .slice A22 (y18.1).length cap23]) (by kernel_rfl) ent24 (c_laws_eqPointS hy59 (F50.sl encII_ok) (F25.sl encII_ok)) ?_
    rintro _ w60 ⟨rfl, hc61⟩
    replace F0 := F0.chg hc61 Dj.nil
    replace F14 := F14.chg hc61 Dj.nil
    replace F25 := F25.chg hc61 Dj.nil
    replace F37 := F37.chg hc61 Dj.nil
    replace F50 := F50.chg hc61 Dj.nil
    replace hB := hB.inS hc61 inNil
    replace hZ := Nat.le_trans hZ hc61.size
    refine ⟨.bool (y58), rfl, ?_⟩
    refine wS_pure 2 [(36, .bool (!y58)), (35, .bool (!y58))] (by kernel_rfl) ?_
    refine wS_bool (!y58) (fun hb62 => ?_) (fun hb62 => ?_)
    · have hm := condT hb62 hm
      rewrite [hb62]
      refine wS_pure 4 [(40, .bool (true)), (39, undef), (38, undef), (37, undef)] (by kernel_rfl) ?_
      refine wS_end (by rfl) ?_
      refine eX_then ?_
      refine cW_cond_t (by kernel_rfl) ?_
      refine cW_seq ?_
      refine cW_region ?_
      refine wS_pure 1 [(2, .bool (false))] (by kernel_rfl) ?_
      refine wS_end (by rfl) ?_
      refine eX_then ?_
      refine cW_ret ?_
      refine eX_then_ret ?_
      have hq : (some false : Option ((Bool))) = some _ := hm
      replace hq := someE hq
      subst hq
      refine eX_ret (vs := [.bool (false)]) [.tmp 2] (by rfl) ⟨by (show lkE _ _ _ = _); kernel_rfl, trivial⟩ ?_
      exact ⟨rfl, hB⟩
    · have hm := condF hb62 hm
      rewrite [hb62]
      refine wS_pure 4 [(40, .bool (!(y43.2 == y18.2))), (39, .bool (!(y43.2 == y18.2))), (38, .bool (y18.2)), (37, .bool (y43.2))] (by kernel_rfl) ?_
      refine wS_end (by rfl) ?_
      refine eX_then ?_
      refine cW_cond (t := !(y43.2 == y18.2)) (by kernel_rfl) (fun hb63 => ?_) (fun hb63 => ?_)
      · have hm := condT hb63 hm
        refine cW_seq ?_
        refine cW_region ?_
        refine wS_pure 1 [(2, .bool (false))] (by kernel_rfl) ?_
        refine wS_end (by rfl) ?_
        refine eX_then ?_
        refine cW_ret ?_
        refine eX_then_ret ?_
        have hq : (some false : Option ((Bool))) = some _ := hm
        replace hq := someE hq
        subst hq
        refine eX_ret (vs := [.bool (false)]) [.tmp 2] (by rfl) ⟨by (show lkE _ _ _ = _); kernel_rfl, trivial⟩ ?_
        exact ⟨rfl, hB⟩
      · have hm := condF hb63 hm
        refine cW_skip ?_
        refine eX_then ?_
        refine cW_seq ?_
        refine cW_seq ?_
        refine cW_region ?_
        refine wS_pure 2 [(42, .slice A0 (l0).length cap0), (41, .slice A34 (y30).length cap35)] (by kernel_rfl) ?_
        obtain ⟨y64, hy65, hm⟩ := bindE hm
        refine wS_calls (d := 43) (f := 22) (vs := [.slice A0 (l0).length cap0]) (by kernel_rfl) ent22 (c_laws_toPointS hy65 F0) ?_
        rintro _ w66 ⟨A68, cap69, fp70, rfl, F71, G72, hc67⟩
        have D75 : Dj fp13 fp70 := Dj.of F14.low G72
        have D76 : Dj fp24 fp70 := Dj.of F25.low G72
        have D77 : Dj fp36 fp70 := Dj.of F37.low G72
        have D78 : Dj fp49 fp70 := Dj.of F50.low G72
        replace F0 := F0.chg hc67 Dj.nil
        replace F14 := F14.chg hc67 Dj.nil
        replace F25 := F25.chg hc67 Dj.nil
        replace F37 := F37.chg hc67 Dj.nil
        replace F50 := F50.chg hc67 Dj.nil
        replace hB := hB.inS hc67 inNil
        replace G72 := low_le hZ G72
        replace hZ := Nat.le_trans hZ hc67.size
        refine ⟨.slice A68 (y64).length cap69, rfl, ?_⟩
        obtain ⟨y79, hy80, hm⟩ := bindE hm
        refine wS_calls (d := 44) (f := 24) (vs := [.slice A34 (y30).length cap35, .slice A68 (y64).length cap69]) (by kernel_rfl) ent24 (c_laws_eqPointS hy80 (F37.sl encII_ok) (F71.sl encII_ok)) ?_
        rintro _ w81 ⟨rfl, hc82⟩
        replace F0 := F0.chg hc82 Dj.nil
        replace F14 := F14.chg hc82 Dj.nil
        replace F25 := F25.chg hc82 Dj.nil
        replace F37 := F37.chg hc82 Dj.nil
        replace F50 := F50.chg hc82 Dj.nil
        replace F71 := F71.chg hc82 Dj.nil
        replace hB := hB.inS hc82 inNil
        replace hZ := Nat.le_trans hZ hc82.size
        refine ⟨.bool (y79), rfl, ?_⟩
        refine wS_pure 1 [(45, .bool (!y79))] (by kernel_rfl) ?_
        refine wS_end (by rfl) ?_
        refine eX_then ?_
        refine cW_cond (t := !y79) (by kernel_rfl) (fun hb83 => ?_) (fun hb83 => ?_)
        · have hm := condT hb83 hm
          refine cW_seq ?_
          refine cW_region ?_
          refine wS_pure 1 [(2, .bool (false))] (by kernel_rfl) ?_
          refine wS_end (by rfl) ?_
          refine eX_then ?_
          refine cW_ret ?_
          refine eX_then_ret ?_
          have hq : (some false : Option ((Bool))) = some _ := hm
          replace hq := someE hq
          subst hq
          refine eX_ret (vs := [.bool (false)]) [.tmp 2] (by rfl) ⟨by (show lkE _ _ _ = _); kernel_rfl, trivial⟩ ?_
          exact ⟨rfl, hB⟩
        · have hm := condF hb83 hm
          refine cW_skip ?_
          refine eX_then ?_
          refine cW_seq ?_
          refine cW_region ?_
          refine wS_pure 1 [(9, .int .i64 (1))] (by kernel_rfl) ?_
          refine wS_end (by rfl) ?_
          refine eX_then ?_
          refine cW_seq ?_
          refine cW_region ?_
          refine wS_pure 2 [(47, .int .i64 (1)), (46, .slice A34 (y30).length cap35)] (by kernel_rfl) ?_
          obtain ⟨y84, hy85, hm⟩ := bindE hm
          refine wS_calls (d := 48) (f := 36) (vs := [.slice A34 (y30).length cap35, .int .i64 (1)]) (by kernel_rfl) ent36 (c_laws_markPointS hy85 F37) ?_
          rintro _ w86 ⟨rfl, F88, hl89, hc87⟩
          replace F0 := F0.chg hc87 (Dj.app (Dj.of L0 G38) Dj.nil)
          replace F14 := F14.chg hc87 (Dj.app D41 Dj.nil)
          replace F25 := F25.chg hc87 (Dj.app D42 Dj.nil)
          replace F50 := F50.chg hc87 (Dj.app (D56).symm Dj.nil)
          replace F71 := F71.chg hc87 (Dj.app (D77).symm Dj.nil)
          replace hB := hB.inS hc87 (inApp (inLow G38) inNil)
          replace hZ := Nat.le_trans hZ hc87.size
          clear F37
          refine ⟨.int .i64 (y84.1), rfl, ?_⟩
          rewrite [(show (y30).length = (y84.2).length from hl89.symm)]
          refine wS_pure 1 [(9, .int .i64 (y84.1))] (by kernel_rfl) ?_
          refine wS_end (by rfl) ?_
          refine eX_then ?_
          refine cW_prune [(0, .slice A0 (l0).length cap0), (4, .slice A22 (y18.1).length cap23), (5, .bool (y18.2)), (7, .slice A47 (y43.1).length cap48), (8, .bool (y43.2)), (9, .int .i64 (y84.1))] (by kernel_rfl) (by kernel_rfl) (fun a90 => ?_)
          refine cW_seq ?_
          refine cW_seq ?_
          refine cW_region ?_
          refine wS_pure 3 [(51, .bool (decide (y84.1 < 0))), (50, .bool (decide (y84.1 < 0))), (49, .int .i64 (y84.1))] (by kernel_rfl) ?_
          refine wS_bool (decide (y84.1 < 0)) (fun hb91 => ?_) (fun hb91 => ?_)
          · have hm := condT hb91 hm
            rewrite [hb91]
            refine wS_pure 10 [(61, .bool (true)), (60, undef), (59, undef), (58, undef), (57, .bool (true)), (56, .bool (true)), (55, undef), (54, undef), (53, undef), (52, undef)] (by kernel_rfl) ?_
            refine wS_end (by rfl) ?_
            refine eX_then ?_
            refine cW_cond_t (by kernel_rfl) ?_
            refine cW_seq ?_
            refine cW_region ?_
            refine wS_pure 1 [(2, .bool (false))] (by kernel_rfl) ?_
            refine wS_end (by rfl) ?_
            refine eX_then ?_
            refine cW_ret ?_
            refine eX_then_ret ?_
            have hq : (some false : Option ((Bool))) = some _ := hm
            replace hq := someE hq
            subst hq
            refine eX_ret (vs := [.bool (false)]) [.tmp 2] (by rfl) ⟨by (show lkE _ _ _ = _); kernel_rfl, trivial⟩ ?_
            exact ⟨rfl, hB⟩
          · have hm := condF hb91 hm
            rewrite [hb91]
            refine wS_pure 2 [(53, .slice A22 (y18.1).length cap23), (52, .slice A47 (y43.1).length cap48)] (by kernel_rfl) ?_
            obtain ⟨y92, hy93, hm⟩ := bindE hm
            refine wS_calls (d := 54) (f := 24) (vs := [.slice A47 (y43.1).length cap48, .slice A22 (y18.1).length cap23]) (by kernel_rfl) ent24 (c_laws_eqPointS hy93 (F50.sl encII_ok) (F25.sl encII_ok)) ?_
            rintro _ w94 ⟨rfl, hc95⟩
            replace F0 := F0.chg hc95 Dj.nil
            replace F14 := F14.chg hc95 Dj.nil
            replace F25 := F25.chg hc95 Dj.nil
            replace F88 := F88.chg hc95 Dj.nil
            replace F50 := F50.chg hc95 Dj.nil
            replace F71 := F71.chg hc95 Dj.nil
            replace hB := hB.inS hc95 inNil
            replace hZ := Nat.le_trans hZ hc95.size
            refine ⟨.bool (y92), rfl, ?_⟩
            refine wS_pure 3 [(57, .bool (!y92)), (56, .bool (!y92)), (55, .bool (!y92))] (by kernel_rfl) ?_
            refine wS_bool (!y92) (fun hb96 => ?_) (fun hb96 => ?_)
            · have hm := condT hb96 hm
              rewrite [hb96]
              refine wS_pure 4 [(61, .bool (true)), (60, undef), (59, undef), (58, undef)] (by kernel_rfl) ?_
              refine wS_end (by rfl) ?_
              refine eX_then ?_
              refine cW_cond_t (by kernel_rfl) ?_
              refine cW_seq ?_
              refine cW_region ?_
              refine wS_pure 1 [(2, .bool (false))] (by kernel_rfl) ?_
              refine wS_end (by rfl) ?_
              refine eX_then ?_
              refine cW_ret ?_
              refine eX_then_ret ?_
              have hq : (some false : Option ((Bool))) = some _ := hm
              replace hq := someE hq
              subst hq
              refine eX_ret (vs := [.bool (false)]) [.tmp 2] (by rfl) ⟨by (show lkE _ _ _ = _); kernel_rfl, trivial⟩ ?_
              exact ⟨rfl, hB⟩
            · have hm := condF hb96 hm
              rewrite [hb96]
              refine wS_pure 4 [(61, .bool (!(y43.2 == y18.2))), (60, .bool (!(y43.2 == y18.2))), (59, .bool (y18.2)), (58, .bool (y43.2))] (by kernel_rfl) ?_
              refine wS_end (by rfl) ?_
              refine eX_then ?_
              refine cW_cond (t := !(y43.2 == y18.2)) (by kernel_rfl) (fun hb97 => ?_) (fun hb97 => ?_)
              · have hm := condT hb97 hm
                refine cW_seq ?_
                refine cW_region ?_
                refine wS_pure 1 [(2, .bool (false))] (by kernel_rfl) ?_
                refine wS_end (by rfl) ?_
                refine eX_then ?_
                refine cW_ret ?_
                refine eX_then_ret ?_
                have hq : (some false : Option ((Bool))) = some _ := hm
                replace hq := someE hq
                subst hq
                refine eX_ret (vs := [.bool (false)]) [.tmp 2] (by rfl) ⟨by (show lkE _ _ _ = _); kernel_rfl, trivial⟩ ?_
                exact ⟨rfl, hB⟩
              · have hm := condF hb97 hm
                refine cW_skip ?_
                refine eX_then ?_
                refine cW_seq ?_
                refine cW_region ?_
                refine wS_pure 1 [(10, .int .i64 (1))] (by kernel_rfl) ?_
                refine wS_end (by rfl) ?_
                refine eX_then ?_
                refine cW_seq ?_
                refine cW_region ?_
                refine wS_pure 2 [(63, .int .i64 (1)), (62, .slice A47 (y43.1).length cap48)] (by kernel_rfl) ?_
                obtain ⟨y98, hy99, hm⟩ := bindE hm
                refine wS_calls (d := 64) (f := 36) (vs := [.slice A47 (y43.1).length cap48, .int .i64 (1)]) (by kernel_rfl) ent36 (c_laws_markPointS hy99 F50) ?_
                rintro _ w100 ⟨rfl, F102, hl103, hc101⟩
                replace F0 := F0.chg hc101 (Dj.app (Dj.of L0 G51) Dj.nil)
                replace F14 := F14.chg hc101 (Dj.app D54 Dj.nil)
                replace F25 := F25.chg hc101 (Dj.app D55 Dj.nil)
                replace F88 := F88.chg hc101 (Dj.app D56 Dj.nil)
                replace F71 := F71.chg hc101 (Dj.app (D78).symm Dj.nil)
                replace hB := hB.inS hc101 (inApp (inLow G51) inNil)
                replace hZ := Nat.le_trans hZ hc101.size
                clear F50
                refine ⟨.int .i64 (y98.1), rfl, ?_⟩
                rewrite [(show (y43.1).length = (y98.2).length from hl103.symm)]
                refine wS_pure 1 [(10, .int .i64 (y98.1))] (by kernel_rfl) ?_
                refine wS_end (by rfl) ?_
                refine eX_then ?_
                refine cW_seq ?_
                refine cW_region ?_
                refine wS_pure 1 [(11, .int .i64 (1))] (by kernel_rfl) ?_
                refine wS_end (by rfl) ?_
                refine eX_then ?_
                refine cW_prune [(0, .slice A0 (l0).length cap0), (4, .slice A22 (y18.1).length cap23), (5, .bool (y18.2)), (7, .slice A47 (y98.2).length cap48), (10, .int .i64 (y98.1)), (11, .int .i64 (1))] (by kernel_rfl) (by kernel_rfl) (fun a104 => ?_)
                refine cW_seq ?_
                refine cW_region ?_
                refine wS_pure 2 [(66, .int .i64 (1)), (65, .slice A47 (y98.2).length cap48)] (by kernel_rfl) ?_
                obtain ⟨y105, hy106, hm⟩ := bindE hm
                refine wS_calls (d := 67) (f := 37) (vs := [.slice A47 (y98.2).length cap48, .int .i64 (1)]) (by kernel_rfl) ent37 (c_laws_heldPointS hy106 (F102.sl encII_ok)) ?_
                rintro _ w107 ⟨rfl, hc108⟩
                replace F0 := F0.chg hc108 Dj.nil
                replace F14 := F14.chg hc108 Dj.nil
                replace F25 := F25.chg hc108 Dj.nil
                replace F88 := F88.chg hc108 Dj.nil
                replace F102 := F102.chg hc108 Dj.nil
                replace F71 := F71.chg hc108 Dj.nil
                replace hB := hB.inS hc108 inNil
                replace hZ := Nat.le_trans hZ hc108.size
                refine ⟨.int .i64 (y105), rfl, ?_⟩
                refine wS_pure 1 [(11, .int .i64 (y105))] (by kernel_rfl) ?_
                refine wS_end (by rfl) ?_
                refine eX_then ?_
                refine cW_seq ?_
                refine cW_seq ?_
                refine cW_region ?_
                refine wS_pure 2 [(69, .bool (decide (y105 < 0))), (68, .int .i64 (y105))] (by kernel_rfl) ?_
                refine wS_end (by rfl) ?_
                refine eX_then ?_
                refine cW_cond (t := decide (y105 < 0)) (by kernel_rfl) (fun hb109 => ?_) (fun hb109 => ?_)
                · have hm := condT hb109 hm
                  refine cW_seq ?_
                  refine cW_region ?_
                  refine wS_pure 1 [(2, .bool (false))] (by kernel_rfl) ?_
                  refine wS_end (by rfl) ?_
                  refine eX_then ?_
                  refine cW_ret ?_
                  refine eX_then_ret ?_
                  have hq : (some false : Option ((Bool))) = some _ := hm
                  replace hq := someE hq
                  subst hq
                  refine eX_ret (vs := [.bool (false)]) [.tmp 2] (by rfl) ⟨by (show lkE _ _ _ = _); kernel_rfl, trivial⟩ ?_
                  exact ⟨rfl, hB⟩
                · have hm := condF hb109 hm
                  refine cW_skip ?_
                  refine eX_then ?_
                  refine cW_seq ?_
                  refine cW_seq ?_
                  refine cW_region ?_
                  refine wS_pure 3 [(72, .bool (y105 != y98.1)), (71, .int .i64 (y98.1)), (70, .int .i64 (y105))] (by kernel_rfl) ?_
                  refine wS_end (by rfl) ?_
                  refine eX_then ?_
                  refine cW_cond (t := y105 != y98.1) (by kernel_rfl) (fun hb110 => ?_) (fun hb110 => ?_)
                  · have hm := condT hb110 hm
                    refine cW_seq ?_
                    refine cW_region ?_
                    refine wS_pure 1 [(2, .bool (false))] (by kernel_rfl) ?_
                    refine wS_end (by rfl) ?_
                    refine eX_then ?_
                    refine cW_ret ?_
                    refine eX_then_ret ?_
                    have hq : (some false : Option ((Bool))) = some _ := hm
                    replace hq := someE hq
                    subst hq
                    refine eX_ret (vs := [.bool (false)]) [.tmp 2] (by rfl) ⟨by (show lkE _ _ _ = _); kernel_rfl, trivial⟩ ?_
                    exact ⟨rfl, hB⟩
                  · have hm := condF hb110 hm
                    refine cW_skip ?_
                    refine eX_then ?_
                    refine cW_seq ?_
                    refine cW_region ?_
                    refine wS_pure 1 [(74, .slice A0 (l0).length cap0)] (by kernel_rfl) ?_
                    obtain ⟨y111, hy112, hm⟩ := bindE hm
                    refine wS_calls (d := 75) (f := 22) (vs := [.slice A0 (l0).length cap0]) (by kernel_rfl) ent22 (c_laws_toPointS hy112 F0) ?_
                    rintro _ w113 ⟨A115, cap116, fp117, rfl, F118, G119, hc114⟩
                    have D122 : Dj fp13 fp117 := Dj.of F14.low G119
                    have D123 : Dj fp24 fp117 := Dj.of F25.low G119
                    have D124 : Dj fp36 fp117 := Dj.of F88.low G119
                    have D125 : Dj fp49 fp117 := Dj.of F102.low G119
                    have D126 : Dj fp70 fp117 := Dj.of F71.low G119
                    replace F0 := F0.chg hc114 Dj.nil
                    replace F14 := F14.chg hc114 Dj.nil
                    replace F25 := F25.chg hc114 Dj.nil
                    replace F88 := F88.chg hc114 Dj.nil
                    replace F102 := F102.chg hc114 Dj.nil
                    replace F71 := F71.chg hc114 Dj.nil
                    replace hB := hB.inS hc114 inNil
                    replace G119 := low_le hZ G119
                    replace hZ := Nat.le_trans hZ hc114.size
                    refine ⟨.slice A115 (y111).length cap116, rfl, ?_⟩
                    obtain ⟨y127, hy128, hm⟩ := bindE hm
                    refine wS_calls (d := 76) (f := 39) (vs := [.slice A115 (y111).length cap116]) (by kernel_rfl) ent39 (c_impl_CornersOf hy128 (F118.sl encII_ok)) ?_
                    rintro _ w129 ⟨A131, cap132, fp133, rfl, F134, G135, hc130⟩
                    have D138 : Dj fp13 fp133 := Dj.of F14.low G135
                    have D139 : Dj fp24 fp133 := Dj.of F25.low G135
                    have D140 : Dj fp36 fp133 := Dj.of F88.low G135
                    have D141 : Dj fp49 fp133 := Dj.of F102.low G135
                    have D142 : Dj fp70 fp133 := Dj.of F71.low G135
                    have D143 : Dj fp117 fp133 := Dj.of F118.low G135
                    replace F0 := F0.chg hc130 Dj.nil
                    replace F14 := F14.chg hc130 Dj.nil
                    replace F25 := F25.chg hc130 Dj.nil
                    replace F88 := F88.chg hc130 Dj.nil
                    replace F102 := F102.chg hc130 Dj.nil
                    replace F71 := F71.chg hc130 Dj.nil
                    replace F118 := F118.chg hc130 Dj.nil
                    replace hB := hB.inS hc130 inNil
                    replace G135 := low_le hZ G135
                    replace hZ := Nat.le_trans hZ hc130.size
                    refine ⟨.tuple #[.slice A131 (y127.1).length cap132, .bool (y127.2)], rfl, ?_⟩
                    refine wS_pure 5 [(13, .bool (y127.2)), (12, .slice A131 (y127.1).length cap132), (78, .bool (y127.2)), (77, .slice A131 (y127.1).length cap132), (73, .tuple #[.slice A131 (y127.1).length cap132, .bool (y127.2)])] (by kernel_rfl) ?_
                    refine wS_end (by rfl) ?_
                    refine eX_then ?_
                    refine cW_seq ?_
                    refine cW_seq ?_
                    refine cW_region ?_
                    refine wS_pure 2 [(80, .slice A22 (y18.1).length cap23), (79, .slice A131 (y127.1).length cap132)] (by kernel_rfl) ?_
                    obtain ⟨y144, hy145, hm⟩ := bindE hm
                    refine wS_calls (d := 81) (f := 24) (vs := [.slice A131 (y127.1).length cap132, .slice A22 (y18.1).length cap23]) (by kernel_rfl) ent24 (c_laws_eqPointS hy145 (F134.sl encII_ok) (F25.sl encII_ok)) ?_
                    rintro _ w146 ⟨rfl, hc147⟩
                    replace F0 := F0.chg hc147 Dj.nil
                    replace F14 := F14.chg hc147 Dj.nil
                    replace F25 := F25.chg hc147 Dj.nil
                    replace F88 := F88.chg hc147 Dj.nil
                    replace F102 := F102.chg hc147 Dj.nil
                    replace F71 := F71.chg hc147 Dj.nil
                    replace F118 := F118.chg hc147 Dj.nil
                    replace F134 := F134.chg hc147 Dj.nil
                    replace hB := hB.inS hc147 inNil
                    replace hZ := Nat.le_trans hZ hc147.size
                    refine ⟨.bool (y144), rfl, ?_⟩
                    refine wS_pure 2 [(83, .bool (!y144)), (82, .bool (!y144))] (by kernel_rfl) ?_
                    refine wS_bool (!y144) (fun hb148 => ?_) (fun hb148 => ?_)
                    · have hm := condT hb148 hm
                      rewrite [hb148]
                      refine wS_pure 4 [(87, .bool (true)), (86, undef), (85, undef), (84, undef)] (by kernel_rfl) ?_
                      refine wS_end (by rfl) ?_
                      refine eX_then ?_
                      refine cW_prune [(7, .slice A47 (y98.2).length cap48), (10, .int .i64 (y98.1)), (87, .bool (true))] (by kernel_rfl) (by kernel_rfl) (fun a149 => ?_)
                      refine cW_cond_t (by kernel_rfl) ?_
                      refine cW_seq ?_
                      refine cW_region ?_
                      refine wS_pure 1 [(2, .bool (false))] (by kernel_rfl) ?_
                      refine wS_end (by rfl) ?_
                      refine eX_then ?_
                      refine cW_ret ?_
                      refine eX_then_ret ?_
                      have hq : (some false : Option ((Bool))) = some _ := hm
                      replace hq := someE hq
                      subst hq
                      refine eX_ret (vs := [.bool (false)]) [.tmp 2] (by rfl) ⟨by (show lkE _ _ _ = _); kernel_rfl, trivial⟩ ?_
                      exact ⟨rfl, hB⟩
                    · have hm := condF hb148 hm
                      rewrite [hb148]
                      refine wS_pure 4 [(87, .bool (!(y127.2 == y18.2))), (86, .bool (!(y127.2 == y18.2))), (85, .bool (y18.2)), (84, .bool (y127.2))] (by kernel_rfl) ?_
                      refine wS_end (by rfl) ?_
                      refine eX_then ?_
                      refine cW_prune [(7, .slice A47 (y98.2).length cap48), (10, .int .i64 (y98.1)), (87, .bool (!(y127.2 == y18.2)))] (by kernel_rfl) (by kernel_rfl) (fun a150 => ?_)
                      refine cW_cond (t := !(y127.2 == y18.2)) (by kernel_rfl) (fun hb151 => ?_) (fun hb151 => ?_)
                      · have hm := condT hb151 hm
                        refine cW_seq ?_
                        refine cW_region ?_
                        refine wS_pure 1 [(2, .bool (false))] (by kernel_rfl) ?_
                        refine wS_end (by rfl) ?_
                        refine eX_then ?_
                        refine cW_ret ?_
                        refine eX_then_ret ?_
                        have hq : (some false : Option ((Bool))) = some _ := hm
                        replace hq := someE hq
                        subst hq
                        refine eX_ret (vs := [.bool (false)]) [.tmp 2] (by rfl) ⟨by (show lkE _ _ _ = _); kernel_rfl, trivial⟩ ?_
                        exact ⟨rfl, hB⟩
                      · have hm := condF hb151 hm
                        refine cW_skip ?_
                        refine eX_then ?_
                        refine cW_seq ?_
                        refine cW_region ?_
                        refine wS_pure 1 [(11, .int .i64 (1))] (by kernel_rfl) ?_
                        refine wS_end (by rfl) ?_
                        refine eX_then ?_
                        refine cW_seq ?_
                        refine cW_region ?_
                        refine wS_pure 2 [(89, .int .i64 (1)), (88, .slice A47 (y98.2).length cap48)] (by kernel_rfl) ?_
                        obtain ⟨y152, hy153, hm⟩ := bindE hm
                        refine wS_calls (d := 90) (f := 37) (vs := [.slice A47 (y98.2).length cap48, .int .i64 (1)]) (by kernel_rfl) ent37 (c_laws_heldPointS hy153 (F102.sl encII_ok)) ?_
                        rintro _ w154 ⟨rfl, hc155⟩
                        replace F0 := F0.chg hc155 Dj.nil
                        replace F14 := F14.chg hc155 Dj.nil
                        replace F25 := F25.chg hc155 Dj.nil
                        replace F88 := F88.chg hc155 Dj.nil
                        replace F102 := F102.chg hc155 Dj.nil
                        replace F71 := F71.chg hc155 Dj.nil
                        replace F118 := F118.chg hc155 Dj.nil
                        replace F134 := F134.chg hc155 Dj.nil
                        replace hB := hB.inS hc155 inNil
                        replace hZ := Nat.le_trans hZ hc155.size
                        refine ⟨.int .i64 (y152), rfl, ?_⟩
                        refine wS_pure 1 [(11, .int .i64 (y152))] (by kernel_rfl) ?_
                        refine wS_end (by rfl) ?_
                        refine eX_then ?_
                        refine cW_seq ?_
                        refine cW_seq ?_
                        refine cW_region ?_
                        refine wS_pure 2 [(92, .bool (decide (y152 < 0))), (91, .int .i64 (y152))] (by kernel_rfl) ?_
                        refine wS_end (by rfl) ?_
                        refine eX_then ?_
                        refine cW_cond (t := decide (y152 < 0)) (by kernel_rfl) (fun hb156 => ?_) (fun hb156 => ?_)
                        · have hm := condT hb156 hm
                          refine cW_seq ?_
                          refine cW_region ?_
                          refine wS_pure 1 [(2, .bool (false))] (by kernel_rfl) ?_
                          refine wS_end (by rfl) ?_
                          refine eX_then ?_
                          refine cW_ret ?_
                          refine eX_then_ret ?_
                          have hq : (some false : Option ((Bool))) = some _ := hm
                          replace hq := someE hq
                          subst hq
                          refine eX_ret (vs := [.bool (false)]) [.tmp 2] (by rfl) ⟨by (show lkE _ _ _ = _); kernel_rfl, trivial⟩ ?_
                          exact ⟨rfl, hB⟩
                        · have hm := condF hb156 hm
                          refine cW_skip ?_
                          refine eX_then ?_
                          refine cW_seq ?_
                          refine cW_seq ?_
                          refine cW_region ?_
                          refine wS_pure 3 [(95, .bool (y152 != y98.1)), (94, .int .i64 (y98.1)), (93, .int .i64 (y152))] (by kernel_rfl) ?_
                          refine wS_end (by rfl) ?_
                          refine eX_then ?_
                          refine cW_cond (t := y152 != y98.1) (by kernel_rfl) (fun hb157 => ?_) (fun hb157 => ?_)
                          · have hm := condT hb157 hm
                            refine cW_seq ?_
                            refine cW_region ?_
                            refine wS_pure 1 [(2, .bool (false))] (by kernel_rfl) ?_
                            refine wS_end (by rfl) ?_
                            refine eX_then ?_
                            refine cW_ret ?_
                            refine eX_then_ret ?_
                            have hq : (some false : Option ((Bool))) = some _ := hm
                            replace hq := someE hq
                            subst hq
                            refine eX_ret (vs := [.bool (false)]) [.tmp 2] (by rfl) ⟨by (show lkE _ _ _ = _); kernel_rfl, trivial⟩ ?_
                            exact ⟨rfl, hB⟩
                          · have hm := condF hb157 hm
                            refine cW_skip ?_
                            refine eX_then ?_
                            refine cW_seq ?_
                            refine cW_region ?_
                            refine wS_pure 1 [(2, .bool (true))] (by kernel_rfl) ?_
                            refine wS_end (by rfl) ?_
                            refine eX_then ?_
                            refine cW_ret ?_
                            have hq : (some true : Option ((Bool))) = some _ := hm
                            replace hq := someE hq
                            subst hq
                            refine eX_ret (vs := [.bool (true)]) [.tmp 2] (by rfl) ⟨by (show lkE _ _ _ = _); kernel_rfl, trivial⟩ ?_
                            exact ⟨rfl, hB⟩

end Go.Proofs.Ytdkpfkmmblmlhaa
