/- Printed walks: impl.in, impl.corners, impl.IsPoint, impl.noPoint, impl.size, impl.far, slices.IndexFunc[[]impl.Point,impl.Point], slices.ContainsFunc[[]impl.Point,impl.Point], impl.IsPath, spec.l00In, laws.szPointS, spec.l01Index, spec.l01Point, spec.l00Max, spec.l01Abs, spec.l01Far, spec.l03Less, laws.toPoint, laws.toPointS, laws.eqPoint, laws.eqPointS, laws.eqInt64S, laws.eqInt64SS, impl.box, spec.l00Min, laws.markInt64S, laws.markInt64SS, laws.markPointS, laws.szPointSS. -/
import Derived.Test.YtgaecldkiijmpaaProg
import Derived.Test.YtgaecldkiijmpaaMod
import Derived.Test.YtgaecldkiijmpaaEqs
import Derived.Test.YtgaecldkiijmpaaSrtC
import Derived.Test.YtgaecldkiijmpaaSrtR
import Derived.Test.YtgaecldkiijmpaaWSo01
set_option linter.unusedSimpArgs false
set_option linter.unusedVariables false
namespace Go.Proofs.Ytgaecldkiijmpaa
open Go.RowKit
attribute [local irreducible] wS cW eX wH

theorem ent29 : Ent Try.prog 29 := fun _ => by kernel_rfl
theorem ent37 : Ent Try.prog 37 := fun _ => by kernel_rfl
theorem ent71 : Ent Try.prog 71 := fun _ => by kernel_rfl
theorem ent79 : Ent Try.prog 79 := fun _ => by kernel_rfl
theorem ent84 : Ent Try.prog 84 := fun _ => by kernel_rfl
theorem ent85 : Ent Try.prog 85 := fun _ => by kernel_rfl
theorem ent98 : Ent Try.prog 98 := fun _ => by kernel_rfl
theorem ent128 : Ent Try.prog 128 := fun _ => by kernel_rfl
theorem ent129 : Ent Try.prog 129 := fun _ => by kernel_rfl
theorem ent136 : Ent Try.prog 136 := fun _ => by kernel_rfl
theorem ent137 : Ent Try.prog 137 := fun _ => by kernel_rfl
theorem ent143 : Ent Try.prog 143 := fun _ => by kernel_rfl
theorem ent147 : Ent Try.prog 147 := fun _ => by kernel_rfl
theorem ent175 : Ent Try.prog 175 := fun _ => by kernel_rfl
theorem ent184 : Ent Try.prog 184 := fun _ => by kernel_rfl
theorem ent192 : Ent Try.prog 192 := fun _ => by kernel_rfl
theorem vt25 : VarTy Try.prog 25 1 false := ⟨by kernel_rfl, by kernel_rfl⟩
theorem vt51 : VarTy Try.prog 51 1 false := ⟨by kernel_rfl, by kernel_rfl⟩
theorem vt58 : VarTy Try.prog 58 2 true := ⟨by kernel_rfl, by kernel_rfl⟩
theorem sl40 : SlTy Try.prog 40 25 1 := ⟨Try.underlying40, by kernel_rfl⟩
theorem sl51 : SlTy Try.prog 51 58 2 := ⟨Try.underlying51, by kernel_rfl⟩
theorem sl80 : SlTy Try.prog 80 51 1 := ⟨Try.underlying80, by kernel_rfl⟩
theorem sz2 : pureRun Try.prog (sizeOf 2) = some 1 := by kernel_rfl

set_option maxRecDepth 100000 in
/-- impl.in -/
theorem c_impl_in {w0 : World} {p0 : Int} {p1 : Int} {p2 : Int} {r : (Bool)} (hm : m_impl_in p0 p1 p2 = some r)  :
    Calls Try.prog 71 #[.int .i64 (p0), .int .i64 (p1), .int .i64 (p2)] w0 fun e w' => e = .returned (.bool (r)) ∧ Chg [] w0 w' := by
  have hB : Chg [] w0 w0 := Chg.refl _ _
  have hZ := Nat.le_refl w0.heap.size
  unfold m_impl_in at hm
  refine enterE (N := 15) Try.func71 (by rfl) Try.ntmps71 (by simp) [(0, .int .i64 (p0)), (1, .int .i64 (p1)), (2, .int .i64 (p2))] (by rfl) (by kernel_rfl) (fun a => ?_)
  refine cW_seq ?_
  refine cW_region ?_
  refine wS_pure 1 [(6, .bool (false))] (by kernel_rfl) ?_
  refine wS_end (by rfl) ?_
  refine eX_then ?_
  refine cW_seq ?_
  refine cW_region ?_
  refine wS_pure 4 [(10, .bool (decide (p0 ≥ p1))), (9, .bool (decide (p0 ≥ p1))), (8, .int .i64 (p1)), (7, .int .i64 (p0))] (by kernel_rfl) ?_
  refine wS_bool (decide (p0 ≥ p1)) (fun hb1 => ?_) (fun hb1 => ?_)
  · have hm := condT hb1 hm
    rewrite [hb1]
    refine wS_pure 5 [(6, .bool (decide (p0 ≤ p2))), (14, .bool (decide (p0 ≤ p2))), (13, .bool (decide (p0 ≤ p2))), (12, .int .i64 (p2)), (11, .int .i64 (p0))] (by kernel_rfl) ?_
    refine wS_end (by rfl) ?_
    refine eX_then ?_
    refine cW_ret ?_
    have hq : (some (decide (p0 ≤ p2)) : Option ((Bool))) = some _ := hm
    replace hq := someE hq
    subst hq
    refine eX_ret (vs := [.bool (decide (p0 ≤ p2))]) [.tmp 6] (by rfl) ⟨by (show lkE _ _ _ = _); kernel_rfl, trivial⟩ ?_
    exact ⟨rfl, hB⟩
  · have hm := condF hb1 hm
    rewrite [hb1]
    refine wS_pure 5 [(6, .bool (false)), (14, .bool (false)), (13, undef), (12, undef), (11, undef)] (by kernel_rfl) ?_
    refine wS_end (by rfl) ?_
    refine eX_then ?_
    refine cW_ret ?_
    have hq : (some false : Option ((Bool))) = some _ := hm
    replace hq := someE hq
    subst hq
    refine eX_ret (vs := [.bool (false)]) [.tmp 6] (by rfl) ⟨by (show lkE _ _ _ = _); kernel_rfl, trivial⟩ ?_
    exact ⟨rfl, hB⟩

set_option maxRecDepth 100000 in
/-- impl.corners -/
theorem c_impl_corners {w0 : World} {l0 : List (Int × Int)} {A0 : Option Addr} {cap0 : Nat} {fp0 : List Nat} {r : (List (Int × Int))} (hm : m_impl_corners l0 = some r) (F0 : Sl 2 encII w0 fp0 A0 l0) :
    Calls Try.prog 72 #[.slice A0 (l0).length cap0] w0 fun e w' => ∃ A100 cap100 fp100, e = .returned (.slice A100 (r).length cap100) ∧ Ow 2 encII 37 w' fp100 A100 cap100 r ∧ (∀ x ∈ fp100, w0.heap.size ≤ x) ∧ Chg [] w0 w' := by
  have L0 := F0.low
  have hB : Chg [] w0 w0 := Chg.refl _ _
  have hZ := Nat.le_refl w0.heap.size
  unfold m_impl_corners at hm
  refine enterE (N := 59) Try.func72 (by rfl) Try.ntmps72 (by simp) [(0, .slice A0 (l0).length cap0)] (by rfl) (by kernel_rfl) (fun a => ?_)
  refine cW_seq ?_
  refine cW_region ?_
  refine wS_pure 1 [(2, .slice none 0 0)] (by kernel_rfl) ?_
  refine wS_end (by rfl) ?_
  refine eX_then ?_
  refine cW_seq ?_
  refine cW_region ?_
  refine wS_bs0 (α := Int × Int) (enc := encII) (d := 6) (t := 32) (T := 37) (by kernel_rfl) el32 ?_
  intro b2 w3 G4 F5 hc6
  replace F0 := F0.chg hc6 Dj.nil
  replace hB := hB.inS hc6 inNil
  replace G4 := Nat.le_trans hZ G4
  replace G4 := low1 G4
  replace hZ := Nat.le_trans hZ hc6.size
  refine wS_pure 1 [(3, .slice (some ⟨b2, 0, none⟩) (([] : List (Int × Int))).length 0)] (by kernel_rfl) ?_
  refine wS_end (by rfl) ?_
  refine eX_then ?_
  refine cW_seq ?_
  refine cW_seq ?_
  refine cW_region ?_
  refine wS_pure 3 [(9, .int .i64 (0)), (8, .int .i64 (((l0).length : Int))), (7, .slice A0 (l0).length cap0)] (by kernel_rfl) ?_
  refine wS_end (by rfl) ?_
  refine eX_then ?_
  obtain ⟨r503, hr504, hm⟩ := bindE hm
  have hm505 := hm
  refine cW_cut (fun a' w' => ∃ l484 : List (Int × Int), ∃ A485 : Option Addr, ∃ cap486 : Nat, ∃ fp487 : List Nat, l484 = r503 ∧ Fr 59 [(3, .slice A485 (l484).length cap486)] a' ∧ Ow 2 encII 37 w' fp487 A485 cap486 l484 ∧ (∀ x ∈ fp487, w0.heap.size ≤ x) ∧ Chg [] w0 w' ∧ w0.heap.size ≤ w'.heap.size) ?_ ?_
  · refine cW_block ?_
    refine cW_loop _ (fun (s506 : (List (Int × Int)) × Int) a' w' => ∃ l493 : List (Int × Int), ∃ A494 : Option Addr, ∃ cap495 : Nat, ∃ fp496 : List Nat, ∃ x498 : Int, (l493, x498) = s506 ∧ Fr 59 [(0, .slice A0 (l0).length cap0), (3, .slice A494 (l493).length cap495), (7, .slice A0 (l0).length cap0), (8, .int .i64 (((l0).length : Int))), (9, .int .i64 (x498))] a' ∧ Sl 2 encII w' fp0 A0 l0 ∧ Ow 2 encII 37 w' fp496 A494 cap495 l493 ∧ (∀ x ∈ fp496, w0.heap.size ≤ x) ∧ Chg [] w0 w' ∧ w0.heap.size ≤ w'.heap.size) hr504 (fun hst => ⟨([] : List (Int × Int)), (some ⟨b2, 0, none⟩), 0, [b2], 0, rfl, Fr.of hst (by kernel_rfl), F0, F5, G4, hB, hZ⟩) ?_
    rintro _ c507 a' w492 ⟨l493, A494, cap495, fp496, x498, rfl, hF499, F500, F501, G502, hB, hZ⟩ hx508
    refine Fr.goOn hF499 (by kernel_rfl) ?_
    have hm := hx508
    unfold m_impl_corners_s1 at hm
    refine cW_seq ?_
    refine cW_region ?_
    refine wS_pure 1 [(10, .bool (decide (x498 < (((l0).length : Int)))))] (by kernel_rfl) ?_
    refine wS_end (by rfl) ?_
    refine eX_then ?_
    refine cW_seq ?_
    refine cW_cond (t := decide (x498 < (((l0).length : Int)))) (by kernel_rfl) (fun hb509 => ?_) (fun hb509 => ?_)
    · have hm := condT hb509 hm
      refine cW_skip ?_
      refine eX_then ?_
      refine cW_seq ?_
      refine cW_block ?_
      obtain ⟨s629, hs630, hm⟩ := bindE hm
      refine cW_cut (fun a' w' => ∃ l620 : List (Int × Int), ∃ A621 : Option Addr, ∃ cap622 : Nat, ∃ fp623 : List Nat, l620 = s629 ∧ Fr 59 [(0, .slice A0 (l0).length cap0), (3, .slice A621 (l620).length cap622), (7, .slice A0 (l0).length cap0), (8, .int .i64 (((l0).length : Int))), (9, .int .i64 (x498))] a' ∧ Sl 2 encII w' fp0 A0 l0 ∧ Ow 2 encII 37 w' fp623 A621 cap622 l620 ∧ (∀ x ∈ fp623, w0.heap.size ≤ x) ∧ Chg [] w0 w' ∧ w0.heap.size ≤ w'.heap.size) ?_ ?_
      · have hm := hs630
        refine cW_seq ?_
        refine cW_region ?_
        refine wS_pure 1 [(11, .int .i64 (x498))] (by kernel_rfl) ?_
        obtain ⟨x631, hx632, hm⟩ := bindE hm
        refine wS_idx (d := 12) (T := 32) (A := A0) (n := (l0).length) (cap := cap0) (kd := .i64) (m := x498) (by kernel_rfl) sl32 (F500.is hx632) ?_
        refine wS_loadA (d := 13) (T := 37) (ad := (elA A0 2 (x498) 0)) (vs := [.int .i64 (x631.1), .int .i64 (x631.2)]) (by kernel_rfl) vt37 (fun i u hu => Sl.cells_at F500 hx632 0 hu (by rfl)) ?_
        refine wS_alloc (d := 5) (T := 37) (z := .agg #[.int .i64 (0), .int .i64 (0)]) (by kernel_rfl) (by kernel_rfl) ?_
        intro b633 w634 G635 F636 hc637
        replace F636 : Cl w634 b633 37 [.int .i64 (0), .int .i64 (0)] := F636
        have D639 : Dj fp496 [b633] := Dj.of F501.low (low1 G635)
        replace F500 := F500.chg hc637 Dj.nil
        replace F501 := F501.chg hc637 Dj.nil
        replace hB := hB.inS hc637 inNil
        replace G635 := Nat.le_trans hZ G635
        replace hZ := Nat.le_trans hZ hc637.size
        refine wS_pure 1 [(4, .int .i64 (x498))] (by kernel_rfl) ?_
        refine wS_store (T := 37) (g := b633) (o := 0) (ad := ⟨b633, 0, none⟩) (v := .agg #[.int .i64 (x631.1), .int .i64 (x631.2)]) (vs := [.int .i64 (x631.1), .int .i64 (x631.2)]) (by kernel_rfl) (by rfl) sz37 (by rfl) (by rfl) F636 (by simp only [List.length_cons, List.length_nil]; omega) ?_
        intro w640 F641 hc642
        replace F500 := F500.chg hc642 (Dj.of L0 (low1 G635))
        replace F501 := F501.chg hc642 D639
        replace hB := hB.inS hc642 (inLow (low1 G635))
        replace hZ := Nat.le_trans hZ hc642.size
        replace F641 : Cl w640 b633 37 [.int .i64 (x631.1), .int .i64 (x631.2)] := F641
        clear F636
        refine wS_end (by rfl) ?_
        refine eX_then ?_
        refine cW_seq ?_
        refine cW_drawnTail [] 36 (by kernel_rfl) (by kernel_rfl) (fun w659 hc660 => ?_)
        replace F500 := F500.chg hc660 Dj.nil
        replace F501 := F501.chg hc660 Dj.nil
        replace F641 := F641.chg hc660 notNil
        replace hB := hB.inS hc660 inNil
        replace hZ := Nat.le_trans hZ hc660.size
        have hS := Chg.refl [] w659
        have Z661 := F500
        have Z662 := F501
        have Z663 := F641
        refine wH_take [0, 1, 2] [2, 1, 0] [(16, .bool (x498 == 0)), (15, .bool (x498 == 0)), (14, .int .i64 (x498))] (by kernel_rfl) (qT (qT (qT (qB (qT (qL (qB (qT (qT qZ))))))))) (by kernel_rfl) ?_
        refine wH_bool (x498 == 0) (fun hb664 => ?_) (fun hb664 => ?_)
        · have hm := condT hb664 hm
          rewrite [hb664]
          refine wH_take [3, 4, 5, 6, 7, 8, 9, 10, 11, 12, 13, 14, 15, 16, 17, 18, 19, 20, 21, 22, 23, 24, 25, 26, 27, 28, 29, 30, 31, 32, 33, 34, 35] [35, 34, 33, 32, 31, 30, 29, 28, 27, 26, 25, 24, 23, 22, 21, 20, 19, 18, 17, 16, 15, 14, 13, 12, 11, 10, 9, 8, 7, 6, 5, 4, 3, 2, 1, 0] [(49, undef), (48, undef), (47, undef), (46, undef), (45, undef), (44, undef), (43, undef), (42, undef), (41, undef), (40, undef), (39, undef), (38, undef), (37, undef), (36, undef), (35, undef), (34, undef), (33, undef), (32, undef), (31, undef), (30, undef), (29, undef), (28, undef), (27, undef), (26, undef), (25, undef), (24, undef), (23, .bool (true)), (22, .bool (true)), (21, undef), (20, undef), (19, undef), (18, undef), (17, undef)] (by kernel_rfl) (qT (qT (qT (qB (qT (qL (qB (qT (qT qZ))))))))) (by kernel_rfl) ?_
          refine wH_done (by kernel_rfl) ?_
          refine eX_tail ?_
          refine wS_pure 3 [(52, .bool (true)), (51, undef), (50, undef)] (by kernel_rfl) ?_
          refine wS_end (by rfl) ?_
          refine eX_then ?_
          refine cW_prune [(0, .slice A0 (l0).length cap0), (3, .slice A494 (l493).length cap495), (5, .pointer (some ⟨b633, 0, none⟩)), (7, .slice A0 (l0).length cap0), (8, .int .i64 (((l0).length : Int))), (9, .int .i64 (x498)), (52, .bool (true))] (by kernel_rfl) (by kernel_rfl) (fun a665 => ?_)
          refine cW_cond_t (by kernel_rfl) ?_
          refine cW_region ?_
          refine wS_pure 1 [(53, .slice A494 (l493).length cap495)] (by kernel_rfl) ?_
          refine wS_loadA (d := 54) (T := 37) (ad := ⟨b633, 0, none⟩) (vs := [.int .i64 (x631.1), .int .i64 (x631.2)]) (by kernel_rfl) vt37 (fun i u hu => box_cells F641 0 hu (by rfl)) ?_
          refine wS_bs (enc := encII) ([(x631.1, x631.2)] : List (Int × Int)) [.int .i64 (x631.1), .int .i64 (x631.2)] (d := 55) (t := 32) (T := 37) (n := 1) (ps := [(0, .agg #[.int .i64 (x631.1), .int .i64 (x631.2)])]) (by kernel_rfl) el32 encII_ok (by rfl) (by omega) (by omega) (by kernel_rfl) (by rfl) ?_
          intro b666 w667 G668 F669 hc670
          have D672 : Dj fp496 [b666] := Dj.of F501.low (low1 G668)
          have D673 : Dj [b633] [b666] := Dj.of (lt1 F641.lt) (low1 G668)
          replace F500 := F500.chg hc670 Dj.nil
          replace F501 := F501.chg hc670 Dj.nil
          replace F641 := F641.chg hc670 notNil
          replace hB := hB.inS hc670 inNil
          replace G668 := Nat.le_trans hZ G668
          replace G668 := low1 G668
          replace hZ := Nat.le_trans hZ hc670.size
          obtain ⟨_, hk674, hm⟩ := bindE hm
          replace hk674 := apE hk674
          refine wS_append (enc := encII) (l := (l493 : List (Int × Int))) (l2 := (([(x631.1, x631.2)] : List (Int × Int)) : List (Int × Int))) (d := 56) (t := 32) (T := 37) (A := A494) (A2 := (some ⟨b666, 0, none⟩)) (cap := cap495) (cap2 := 1) (by kernel_rfl) el32 encII_ok F501 (F669.sl encII_ok) (by rfl) hk674 ?_
          intro w675 fp676 A677 cap678 F679 hc680 hp681
          have G683 := low_ap G502 hZ hp681
          have D684 : Dj [b633] fp676 := Dj.ap (D639).symm (lt1 F641.lt) hp681
          have D685 : Dj [b666] fp676 := Dj.ap (D672).symm F669.low hp681
          replace F500 := F500.chg hc680 (Dj.of L0 G502)
          replace F641 := F641.chg hc680 (dj1 (D639).symm)
          replace F669 := F669.chg hc680 (D672).symm
          replace hB := hB.inS hc680 (inLow G502)
          replace hZ := Nat.le_trans hZ hc680.size
          refine wS_pure 1 [(3, .slice A677 (l493 ++ (([(x631.1, x631.2)] : List (Int × Int)))).length cap678)] (by kernel_rfl) ?_
          refine wS_end (by rfl) ?_
          have hq : (some (l493 ++ (([(x631.1, x631.2)] : List (Int × Int)))) : Option ((List (Int × Int)))) = some _ := hm
          replace hq := someE hq
          subst hq
          exact eX_J (fun hst => ⟨l493 ++ (([(x631.1, x631.2)] : List (Int × Int))), A677, cap678, fp676, rfl, Fr.of hst (by kernel_rfl), F500, F679, G683, hB, hZ⟩)
        · have hm := condF hb664 hm
          rewrite [hb664]
          refine wH_take [3, 4, 5, 6, 7, 8, 9] [9, 8, 7, 6, 5, 4, 3, 2, 1, 0] [(23, .bool (x498 == (wr ((((l0).length : Int)) - 1)))), (22, .bool (x498 == (wr ((((l0).length : Int)) - 1)))), (21, .bool (x498 == (wr ((((l0).length : Int)) - 1)))), (20, .int .i64 (wr ((((l0).length : Int)) - 1))), (19, .int .i64 (((l0).length : Int))), (18, .slice A0 (l0).length cap0), (17, .int .i64 (x498))] (by kernel_rfl) (qT (qT (qT (qB (qT (qL (qB (qT (qT qZ))))))))) (by kernel_rfl) ?_
          refine wH_bool (x498 == (wr ((((l0).length : Int)) - 1))) (fun hb686 => ?_) (fun hb686 => ?_)
          · have hm := condT hb686 hm
            rewrite [hb686]
            refine wH_take [10, 11, 12, 13, 14, 15, 16, 17, 18, 19, 20, 21, 22, 23, 24, 25, 26, 27, 28, 29, 30, 31, 32, 33, 34, 35] [35, 34, 33, 32, 31, 30, 29, 28, 27, 26, 25, 24, 23, 22, 21, 20, 19, 18, 17, 16, 15, 14, 13, 12, 11, 10, 9, 8, 7, 6, 5, 4, 3, 2, 1, 0] [(49, undef), (48, undef), (47, undef), (46, undef), (45, undef), (44, undef), (43, undef), (42, undef), (41, undef), (40, undef), (39, undef), (38, undef), (37, undef), (36, undef), (35, undef), (34, undef), (33, undef), (32, undef), (31, undef), (30, undef), (29, undef), (28, undef), (27, undef), (26, undef), (25, undef), (24, undef)] (by kernel_rfl) (qT (qT (qT (qB (qT (qL (qB (qT (qT qZ))))))))) (by kernel_rfl) ?_
            refine wH_done (by kernel_rfl) ?_
            refine eX_tail ?_
            refine wS_pure 3 [(52, .bool (true)), (51, undef), (50, undef)] (by kernel_rfl) ?_
            refine wS_end (by rfl) ?_
            refine eX_then ?_
            refine cW_prune [(0, .slice A0 (l0).length cap0), (3, .slice A494 (l493).length cap495), (5, .pointer (some ⟨b633, 0, none⟩)), (7, .slice A0 (l0).length cap0), (8, .int .i64 (((l0).length : Int))), (9, .int .i64 (x498)), (52, .bool (true))] (by kernel_rfl) (by kernel_rfl) (fun a687 => ?_)
            refine cW_cond_t (by kernel_rfl) ?_
            refine cW_region ?_
            refine wS_pure 1 [(53, .slice A494 (l493).length cap495)] (by kernel_rfl) ?_
            refine wS_loadA (d := 54) (T := 37) (ad := ⟨b633, 0, none⟩) (vs := [.int .i64 (x631.1), .int .i64 (x631.2)]) (by kernel_rfl) vt37 (fun i u hu => box_cells F641 0 hu (by rfl)) ?_
            refine wS_bs (enc := encII) ([(x631.1, x631.2)] : List (Int × Int)) [.int .i64 (x631.1), .int .i64 (x631.2)] (d := 55) (t := 32) (T := 37) (n := 1) (ps := [(0, .agg #[.int .i64 (x631.1), .int .i64 (x631.2)])]) (by kernel_rfl) el32 encII_ok (by rfl) (by omega) (by omega) (by kernel_rfl) (by rfl) ?_
            intro b688 w689 G690 F691 hc692
            have D694 : Dj fp496 [b688] := Dj.of F501.low (low1 G690)
            have D695 : Dj [b633] [b688] := Dj.of (lt1 F641.lt) (low1 G690)
            replace F500 := F500.chg hc692 Dj.nil
            replace F501 := F501.chg hc692 Dj.nil
            replace F641 := F641.chg hc692 notNil
            replace hB := hB.inS hc692 inNil
            replace G690 := Nat.le_trans hZ G690
            replace G690 := low1 G690
            replace hZ := Nat.le_trans hZ hc692.size
            obtain ⟨_, hk696, hm⟩ := bindE hm
            replace hk696 := apE hk696
            refine wS_append (enc := encII) (l := (l493 : List (Int × Int))) (l2 := (([(x631.1, x631.2)] : List (Int × Int)) : List (Int × Int))) (d := 56) (t := 32) (T := 37) (A := A494) (A2 := (some ⟨b688, 0, none⟩)) (cap := cap495) (cap2 := 1) (by kernel_rfl) el32 encII_ok F501 (F691.sl encII_ok) (by rfl) hk696 ?_
            intro w697 fp698 A699 cap700 F701 hc702 hp703
            have G705 := low_ap G502 hZ hp703
            have D706 : Dj [b633] fp698 := Dj.ap (D639).symm (lt1 F641.lt) hp703
            have D707 : Dj [b688] fp698 := Dj.ap (D694).symm F691.low hp703
            replace F500 := F500.chg hc702 (Dj.of L0 G502)
            replace F641 := F641.chg hc702 (dj1 (D639).symm)
            replace F691 := F691.chg hc702 (D694).symm
            replace hB := hB.inS hc702 (inLow G502)
            replace hZ := Nat.le_trans hZ hc702.size
            refine wS_pure 1 [(3, .slice A699 (l493 ++ (([(x631.1, x631.2)] : List (Int × Int)))).length cap700)] (by kernel_rfl) ?_
            refine wS_end (by rfl) ?_
            have hq : (some (l493 ++ (([(x631.1, x631.2)] : List (Int × Int)))) : Option ((List (Int × Int)))) = some _ := hm
            replace hq := someE hq
            subst hq
            exact eX_J (fun hst => ⟨l493 ++ (([(x631.1, x631.2)] : List (Int × Int))), A699, cap700, fp698, rfl, Fr.of hst (by kernel_rfl), F500, F701, G705, hB, hZ⟩)
          · have hm := condF hb686 hm
            rewrite [hb686]
            refine wH_take [10, 11, 12] [12, 11, 10, 9, 8, 7, 6, 5, 4, 3, 2, 1, 0] [(26, .int .i64 (wr (x498 - 1))), (25, .int .i64 (x498)), (24, .slice A0 (l0).length cap0)] (by kernel_rfl) (qT (qT (qT (qB (qT (qL (qB (qT (qT qZ))))))))) (by kernel_rfl) ?_
            obtain ⟨x708, hx709, hm⟩ := bindE hm
            refine wH_idx (i := 13) (d := 27) (T := 32) (A := A0) (n := (l0).length) (cap := cap0) (kd := .i64) (m := wr (x498 - 1)) (by kernel_rfl) (qT (qT (qT (qB (qT (qL (qB (qT (qT qZ))))))))) (by kernel_rfl) (by kernel_rfl) sl32 (F500.is hx709) ?_
            refine wH_take [14] [14, 13, 12, 11, 10, 9, 8, 7, 6, 5, 4, 3, 2, 1, 0] [(28, .pointer (some (elA A0 2 (wr (x498 - 1)) 0)))] (by kernel_rfl) (qT (qT (qT (qB (qT (qL (qB (qT (qT qZ))))))))) (by kernel_rfl) ?_
            refine wH_load1 (i := 15) (d := 29) (T := 2) (ad := (elA A0 2 (wr (x498 - 1)) 0)) (v := .int .i64 (x708.1)) (by kernel_rfl) (qT (qT (qT (qB (qT (qL (qB (qT (qT qZ))))))))) (by kernel_rfl) (by kernel_rfl) vt2 (fun W hW => Sl.cell (Z661.chg hW Dj.nil) hx709 0 (by rfl)) ?_
            refine wH_take [16, 17, 18] [18, 17, 16, 15, 14, 13, 12, 11, 10, 9, 8, 7, 6, 5, 4, 3, 2, 1, 0] [(32, .int .i64 (wr (x498 + 1))), (31, .int .i64 (x498)), (30, .slice A0 (l0).length cap0)] (by kernel_rfl) (qT (qT (qT (qB (qT (qL (qB (qT (qT qZ))))))))) (by kernel_rfl) ?_
            obtain ⟨x710, hx711, hm⟩ := bindE hm
            refine wH_idx (i := 19) (d := 33) (T := 32) (A := A0) (n := (l0).length) (cap := cap0) (kd := .i64) (m := wr (x498 + 1)) (by kernel_rfl) (qT (qT (qT (qB (qT (qL (qB (qT (qT qZ))))))))) (by kernel_rfl) (by kernel_rfl) sl32 (F500.is hx711) ?_
            refine wH_take [20] [20, 19, 18, 17, 16, 15, 14, 13, 12, 11, 10, 9, 8, 7, 6, 5, 4, 3, 2, 1, 0] [(34, .pointer (some (elA A0 2 (wr (x498 + 1)) 0)))] (by kernel_rfl) (qT (qT (qT (qB (qT (qL (qB (qT (qT qZ))))))))) (by kernel_rfl) ?_
            refine wH_load1 (i := 21) (d := 35) (T := 2) (ad := (elA A0 2 (wr (x498 + 1)) 0)) (v := .int .i64 (x710.1)) (by kernel_rfl) (qT (qT (qT (qB (qT (qL (qB (qT (qT qZ))))))))) (by kernel_rfl) (by kernel_rfl) vt2 (fun W hW => Sl.cell (Z661.chg hW Dj.nil) hx711 0 (by rfl)) ?_
            refine wH_take [22, 23] [23, 22, 21, 20, 19, 18, 17, 16, 15, 14, 13, 12, 11, 10, 9, 8, 7, 6, 5, 4, 3, 2, 1, 0] [(37, .bool (x708.1 != x710.1)), (36, .bool (x708.1 != x710.1))] (by kernel_rfl) (qT (qT (qT (qB (qT (qL (qB (qT (qT qZ))))))))) (by kernel_rfl) ?_
            refine wH_bool (x708.1 != x710.1) (fun hb712 => ?_) (fun hb712 => ?_)
            · have hm := condT hb712 hm
              rewrite [hb712]
              refine wH_take [24, 25, 26] [26, 25, 24, 23, 22, 21, 20, 19, 18, 17, 16, 15, 14, 13, 12, 11, 10, 9, 8, 7, 6, 5, 4, 3, 2, 1, 0] [(40, .int .i64 (wr (x498 - 1))), (39, .int .i64 (x498)), (38, .slice A0 (l0).length cap0)] (by kernel_rfl) (qT (qT (qT (qB (qT (qL (qB (qT (qT qZ))))))))) (by kernel_rfl) ?_
              obtain ⟨x713, hx714, hm⟩ := bindE hm
              refine wH_idx (i := 27) (d := 41) (T := 32) (A := A0) (n := (l0).length) (cap := cap0) (kd := .i64) (m := wr (x498 - 1)) (by kernel_rfl) (qT (qT (qT (qB (qT (qL (qB (qT (qT qZ))))))))) (by kernel_rfl) (by kernel_rfl) sl32 (F500.is hx714) ?_
              refine wH_take [28] [28, 27, 26, 25, 24, 23, 22, 21, 20, 19, 18, 17, 16, 15, 14, 13, 12, 11, 10, 9, 8, 7, 6, 5, 4, 3, 2, 1, 0] [(42, .pointer (some (elA A0 2 (wr (x498 - 1)) 1)))] (by kernel_rfl) (qT (qT (qT (qB (qT (qL (qB (qT (qT qZ))))))))) (by kernel_rfl) ?_
              refine wH_load1 (i := 29) (d := 43) (T := 2) (ad := (elA A0 2 (wr (x498 - 1)) 1)) (v := .int .i64 (x713.2)) (by kernel_rfl) (qT (qT (qT (qB (qT (qL (qB (qT (qT qZ))))))))) (by kernel_rfl) (by kernel_rfl) vt2 (fun W hW => Sl.cell (Z661.chg hW Dj.nil) hx714 1 (by rfl)) ?_
              refine wH_take [30, 31, 32] [32, 31, 30, 29, 28, 27, 26, 25, 24, 23, 22, 21, 20, 19, 18, 17, 16, 15, 14, 13, 12, 11, 10, 9, 8, 7, 6, 5, 4, 3, 2, 1, 0] [(46, .int .i64 (wr (x498 + 1))), (45, .int .i64 (x498)), (44, .slice A0 (l0).length cap0)] (by kernel_rfl) (qT (qT (qT (qB (qT (qL (qB (qT (qT qZ))))))))) (by kernel_rfl) ?_
              obtain ⟨x715, hx716, hm⟩ := bindE hm
              refine wH_idx (i := 33) (d := 47) (T := 32) (A := A0) (n := (l0).length) (cap := cap0) (kd := .i64) (m := wr (x498 + 1)) (by kernel_rfl) (qT (qT (qT (qB (qT (qL (qB (qT (qT qZ))))))))) (by kernel_rfl) (by kernel_rfl) sl32 (F500.is hx716) ?_
              refine wH_take [34] [34, 33, 32, 31, 30, 29, 28, 27, 26, 25, 24, 23, 22, 21, 20, 19, 18, 17, 16, 15, 14, 13, 12, 11, 10, 9, 8, 7, 6, 5, 4, 3, 2, 1, 0] [(48, .pointer (some (elA A0 2 (wr (x498 + 1)) 1)))] (by kernel_rfl) (qT (qT (qT (qB (qT (qL (qB (qT (qT qZ))))))))) (by kernel_rfl) ?_
              refine wH_load1 (i := 35) (d := 49) (T := 2) (ad := (elA A0 2 (wr (x498 + 1)) 1)) (v := .int .i64 (x715.2)) (by kernel_rfl) (qT (qT (qT (qB (qT (qL (qB (qT (qT qZ))))))))) (by kernel_rfl) (by kernel_rfl) vt2 (fun W hW => Sl.cell (Z661.chg hW Dj.nil) hx716 1 (by rfl)) ?_
              refine wH_done (by kernel_rfl) ?_
              refine eX_tail ?_
              refine wS_pure 3 [(52, .bool (x713.2 != x715.2)), (51, .bool (x713.2 != x715.2)), (50, .bool (x713.2 != x715.2))] (by kernel_rfl) ?_
              refine wS_end (by rfl) ?_
              refine eX_then ?_
              refine cW_prune [(0, .slice A0 (l0).length cap0), (3, .slice A494 (l493).length cap495), (5, .pointer (some ⟨b633, 0, none⟩)), (7, .slice A0 (l0).length cap0), (8, .int .i64 (((l0).length : Int))), (9, .int .i64 (x498)), (52, .bool (x713.2 != x715.2))] (by kernel_rfl) (by kernel_rfl) (fun a717 => ?_)
              refine cW_cond (t := x713.2 != x715.2) (by kernel_rfl) (fun hb718 => ?_) (fun hb718 => ?_)
              · have hm := condT hb718 hm
                refine cW_region ?_
                refine wS_pure 1 [(53, .slice A494 (l493).length cap495)] (by kernel_rfl) ?_
                refine wS_loadA (d := 54) (T := 37) (ad := ⟨b633, 0, none⟩) (vs := [.int .i64 (x631.1), .int .i64 (x631.2)]) (by kernel_rfl) vt37 (fun i u hu => box_cells F641 0 hu (by rfl)) ?_
                refine wS_bs (enc := encII) ([(x631.1, x631.2)] : List (Int × Int)) [.int .i64 (x631.1), .int .i64 (x631.2)] (d := 55) (t := 32) (T := 37) (n := 1) (ps := [(0, .agg #[.int .i64 (x631.1), .int .i64 (x631.2)])]) (by kernel_rfl) el32 encII_ok (by rfl) (by omega) (by omega) (by kernel_rfl) (by rfl) ?_
                intro b719 w720 G721 F722 hc723
                have D725 : Dj fp496 [b719] := Dj.of F501.low (low1 G721)
                have D726 : Dj [b633] [b719] := Dj.of (lt1 F641.lt) (low1 G721)
                replace F500 := F500.chg hc723 Dj.nil
                replace F501 := F501.chg hc723 Dj.nil
                replace F641 := F641.chg hc723 notNil
                replace hB := hB.inS hc723 inNil
                replace G721 := Nat.le_trans hZ G721
                replace G721 := low1 G721
                replace hZ := Nat.le_trans hZ hc723.size
                obtain ⟨_, hk727, hm⟩ := bindE hm
                replace hk727 := apE hk727
                refine wS_append (enc := encII) (l := (l493 : List (Int × Int))) (l2 := (([(x631.1, x631.2)] : List (Int × Int)) : List (Int × Int))) (d := 56) (t := 32) (T := 37) (A := A494) (A2 := (some ⟨b719, 0, none⟩)) (cap := cap495) (cap2 := 1) (by kernel_rfl) el32 encII_ok F501 (F722.sl encII_ok) (by rfl) hk727 ?_
                intro w728 fp729 A730 cap731 F732 hc733 hp734
                have G736 := low_ap G502 hZ hp734
                have D737 : Dj [b633] fp729 := Dj.ap (D639).symm (lt1 F641.lt) hp734
                have D738 : Dj [b719] fp729 := Dj.ap (D725).symm F722.low hp734
                replace F500 := F500.chg hc733 (Dj.of L0 G502)
                replace F641 := F641.chg hc733 (dj1 (D639).symm)
                replace F722 := F722.chg hc733 (D725).symm
                replace hB := hB.inS hc733 (inLow G502)
                replace hZ := Nat.le_trans hZ hc733.size
                refine wS_pure 1 [(3, .slice A730 (l493 ++ (([(x631.1, x631.2)] : List (Int × Int)))).length cap731)] (by kernel_rfl) ?_
                refine wS_end (by rfl) ?_
                have hq : (some (l493 ++ (([(x631.1, x631.2)] : List (Int × Int)))) : Option ((List (Int × Int)))) = some _ := hm
                replace hq := someE hq
                subst hq
                exact eX_J (fun hst => ⟨l493 ++ (([(x631.1, x631.2)] : List (Int × Int))), A730, cap731, fp729, rfl, Fr.of hst (by kernel_rfl), F500, F732, G736, hB, hZ⟩)
              · have hm := condF hb718 hm
                refine cW_skip ?_
                have hq : (some l493 : Option ((List (Int × Int)))) = some _ := hm
                replace hq := someE hq
                subst hq
                exact eX_J (fun hst => ⟨l493, A494, cap495, fp496, rfl, Fr.of hst (by kernel_rfl), F500, F501, G502, hB, hZ⟩)
            · have hm := condF hb712 hm
              rewrite [hb712]
              refine wH_take [24, 25, 26, 27, 28, 29, 30, 31, 32, 33, 34, 35] [35, 34, 33, 32, 31, 30, 29, 28, 27, 26, 25, 24, 23, 22, 21, 20, 19, 18, 17, 16, 15, 14, 13, 12, 11, 10, 9, 8, 7, 6, 5, 4, 3, 2, 1, 0] [(49, undef), (48, undef), (47, undef), (46, undef), (45, undef), (44, undef), (43, undef), (42, undef), (41, undef), (40, undef), (39, undef), (38, undef)] (by kernel_rfl) (qT (qT (qT (qB (qT (qL (qB (qT (qT qZ))))))))) (by kernel_rfl) ?_
              refine wH_done (by kernel_rfl) ?_
              refine eX_tail ?_
              refine wS_pure 3 [(52, .bool (false)), (51, .bool (false)), (50, undef)] (by kernel_rfl) ?_
              refine wS_end (by rfl) ?_
              refine eX_then ?_
              refine cW_prune [(0, .slice A0 (l0).length cap0), (3, .slice A494 (l493).length cap495), (5, .pointer (some ⟨b633, 0, none⟩)), (7, .slice A0 (l0).length cap0), (8, .int .i64 (((l0).length : Int))), (9, .int .i64 (x498)), (52, .bool (false))] (by kernel_rfl) (by kernel_rfl) (fun a739 => ?_)
              refine cW_cond_f (by kernel_rfl) ?_
              refine cW_skip ?_
              have hq : (some l493 : Option ((List (Int × Int)))) = some _ := hm
              replace hq := someE hq
              subst hq
              exact eX_J (fun hst => ⟨l493, A494, cap495, fp496, rfl, Fr.of hst (by kernel_rfl), F500, F501, G502, hB, hZ⟩)
      · rintro a' w619 ⟨l620, A621, cap622, fp623, hJ, hF625, F626, F627, G628, hB, hZ⟩
        subst hJ
        refine Fr.goX hF625 (by kernel_rfl) ?_
        refine eX_block ?_
        refine eX_then ?_
        refine cW_region ?_
        refine wS_pure 2 [(9, .int .i64 (wr (x498 + 1))), (57, .int .i64 (wr (x498 + 1)))] (by kernel_rfl) ?_
        refine wS_end (by rfl) ?_
        have hq : (some (Ctl.next ((l620, wr (x498 + 1)))) : Option (Ctl ((List (Int × Int)) × Int) ((List (Int × Int))))) = some _ := hm
        replace hq := someE hq
        subst hq
        exact eX_next hx508 (fun hst => ⟨l620, A621, cap622, fp623, wr (x498 + 1), rfl, Fr.of hst (by kernel_rfl), F626, F627, G628, hB, hZ⟩)
    · have hm := condF hb509 hm
      refine cW_exit ?_
      refine eX_then_exit ?_
      have hq : (some (Ctl.out l493) : Option (Ctl ((List (Int × Int)) × Int) ((List (Int × Int))))) = some _ := hm
      replace hq := someE hq
      subst hq
      refine eX_outX hx508 (fun hr740 => ?_)
      replace hr740 := hr740.symm
      subst hr740
      refine eX_block_hit ?_
      exact eX_J (fun hst => ⟨l493, A494, cap495, fp496, rfl, Fr.of hst (by kernel_rfl), F501, G502, hB, hZ⟩)
  · rintro a' w483 ⟨l484, A485, cap486, fp487, hJ, hF489, F490, G491, hB, hZ⟩
    subst hJ
    refine Fr.goX hF489 (by kernel_rfl) ?_
    refine eX_then ?_
    refine cW_seq ?_
    refine cW_region ?_
    refine wS_pure 2 [(2, .slice A485 (l484).length cap486), (58, .slice A485 (l484).length cap486)] (by kernel_rfl) ?_
    refine wS_end (by rfl) ?_
    refine eX_then ?_
    refine cW_ret ?_
    have hq : (some l484 : Option ((List (Int × Int)))) = some _ := hm
    replace hq := someE hq
    subst hq
    refine eX_ret (vs := [.slice A485 (l484).length cap486]) [.tmp 2] (by rfl) ⟨by (show lkE _ _ _ = _); kernel_rfl, trivial⟩ ?_
    exact ⟨A485, cap486, fp487, rfl, F490, G491, hB⟩

set_option maxRecDepth 100000 in
/-- impl.IsPoint -/
theorem c_impl_IsPoint {w0 : World} {p0_0 : Int} {p0_1 : Int} {r : (Bool)} (hm : m_impl_IsPoint p0_0 p0_1 = some r)  :
    Calls Try.prog 84 #[.agg #[.int .i64 (p0_0), .int .i64 (p0_1)]] w0 fun e w' => e = .returned (.bool (r)) ∧ Chg [] w0 w' := by
  have hB : Chg [] w0 w0 := Chg.refl _ _
  have hZ := Nat.le_refl w0.heap.size
  unfold m_impl_IsPoint at hm
  refine enterE (N := 11) Try.func84 (by rfl) Try.ntmps84 (by simp) [(0, .agg #[.int .i64 (p0_0), .int .i64 (p0_1)])] (by rfl) (by kernel_rfl) (fun a => ?_)
  refine cW_seq ?_
  refine cW_region ?_
  refine wS_box (d := 1) (T := 37) (x := .agg #[.int .i64 (p0_0), .int .i64 (p0_1)]) (by kernel_rfl) ?_
  intro b1 w2 G3 F4 hc5
  replace F4 : Cl w2 b1 37 [.int .i64 (p0_0), .int .i64 (p0_1)] := F4
  replace hB := hB.inS hc5 inNil
  replace G3 := Nat.le_trans hZ G3
  replace hZ := Nat.le_trans hZ hc5.size
  refine wS_pure 1 [(2, .bool (false))] (by kernel_rfl) ?_
  refine wS_end (by rfl) ?_
  refine eX_then ?_
  refine cW_seq ?_
  refine cW_region ?_
  refine wS_pure 1 [(3, .pointer (some ⟨b1, 0, none⟩))] (by kernel_rfl) ?_
  refine wS_load1 (d := 4) (T := 2) (ad := ⟨b1, 0, none⟩) (v := .int .i64 (p0_0)) (by kernel_rfl) vt2 ((F4).cell 0) ?_
  obtain ⟨y7, hy8, hm⟩ := bindE hm
  refine wS_calls (d := 5) (f := 71) (vs := [.int .i64 (p0_0), .int .i64 (0), .int .i64 (99)]) (by kernel_rfl) ent71 (c_impl_in hy8) ?_
  rintro _ w9 ⟨rfl, hc10⟩
  replace F4 := F4.chg hc10 notNil
  replace hB := hB.inS hc10 inNil
  replace hZ := Nat.le_trans hZ hc10.size
  refine ⟨.bool (y7), rfl, ?_⟩
  refine wS_pure 1 [(6, .bool (y7))] (by kernel_rfl) ?_
  refine wS_bool y7 (fun hb11 => ?_) (fun hb11 => ?_)
  · have hm := condT hb11 hm
    rewrite [hb11]
    refine wS_pure 1 [(7, .pointer (some ⟨b1, 1, none⟩))] (by kernel_rfl) ?_
    refine wS_load1 (d := 8) (T := 2) (ad := ⟨b1, 1, none⟩) (v := .int .i64 (p0_1)) (by kernel_rfl) vt2 ((F4).cell 1) ?_
    obtain ⟨y12, hy13, hm⟩ := bindE hm
    refine wS_calls (d := 9) (f := 71) (vs := [.int .i64 (p0_1), .int .i64 (0), .int .i64 (99)]) (by kernel_rfl) ent71 (c_impl_in hy13) ?_
    rintro _ w14 ⟨rfl, hc15⟩
    replace F4 := F4.chg hc15 notNil
    replace hB := hB.inS hc15 inNil
    replace hZ := Nat.le_trans hZ hc15.size
    refine ⟨.bool (y12), rfl, ?_⟩
    refine wS_pure 2 [(2, .bool (y12)), (10, .bool (y12))] (by kernel_rfl) ?_
    refine wS_end (by rfl) ?_
    refine eX_then ?_
    refine cW_ret ?_
    have hq : (some y12 : Option ((Bool))) = some _ := hm
    replace hq := someE hq
    subst hq
    refine eX_ret (vs := [.bool (y12)]) [.tmp 2] (by rfl) ⟨by (show lkE _ _ _ = _); kernel_rfl, trivial⟩ ?_
    exact ⟨rfl, hB⟩
  · have hm := condF hb11 hm
    rewrite [hb11]
    refine wS_pure 5 [(2, .bool (false)), (10, .bool (false)), (9, undef), (8, undef), (7, undef)] (by kernel_rfl) ?_
    refine wS_end (by rfl) ?_
    refine eX_then ?_
    refine cW_ret ?_
    have hq : (some false : Option ((Bool))) = some _ := hm
    replace hq := someE hq
    subst hq
    refine eX_ret (vs := [.bool (false)]) [.tmp 2] (by rfl) ⟨by (show lkE _ _ _ = _); kernel_rfl, trivial⟩ ?_
    exact ⟨rfl, hB⟩

set_option maxRecDepth 100000 in
/-- impl.noPoint -/
theorem c_impl_noPoint {w0 : World} {p0_0 : Int} {p0_1 : Int} {r : (Bool)} (hm : m_impl_noPoint p0_0 p0_1 = some r)  :
    Calls Try.prog 137 #[.agg #[.int .i64 (p0_0), .int .i64 (p0_1)]] w0 fun e w' => e = .returned (.bool (r)) ∧ Chg [] w0 w' := by
  have hB : Chg [] w0 w0 := Chg.refl _ _
  have hZ := Nat.le_refl w0.heap.size
  unfold m_impl_noPoint at hm
  refine enterE (N := 6) Try.func137 (by rfl) Try.ntmps137 (by simp) [(0, .agg #[.int .i64 (p0_0), .int .i64 (p0_1)])] (by rfl) (by kernel_rfl) (fun a => ?_)
  refine cW_seq ?_
  refine cW_region ?_
  refine wS_box (d := 1) (T := 37) (x := .agg #[.int .i64 (p0_0), .int .i64 (p0_1)]) (by kernel_rfl) ?_
  intro b1 w2 G3 F4 hc5
  replace F4 : Cl w2 b1 37 [.int .i64 (p0_0), .int .i64 (p0_1)] := F4
  replace hB := hB.inS hc5 inNil
  replace G3 := Nat.le_trans hZ G3
  replace hZ := Nat.le_trans hZ hc5.size
  refine wS_pure 1 [(2, .bool (false))] (by kernel_rfl) ?_
  refine wS_end (by rfl) ?_
  refine eX_then ?_
  refine cW_seq ?_
  refine cW_region ?_
  refine wS_loadA (d := 3) (T := 37) (ad := ⟨b1, 0, none⟩) (vs := [.int .i64 (p0_0), .int .i64 (p0_1)]) (by kernel_rfl) vt37 (fun i u hu => box_cells F4 0 hu (by rfl)) ?_
  obtain ⟨y7, hy8, hm⟩ := bindE hm
  refine wS_calls (d := 4) (f := 84) (vs := [.agg #[.int .i64 (p0_0), .int .i64 (p0_1)]]) (by kernel_rfl) ent84 (c_impl_IsPoint hy8) ?_
  rintro _ w9 ⟨rfl, hc10⟩
  replace F4 := F4.chg hc10 notNil
  replace hB := hB.inS hc10 inNil
  replace hZ := Nat.le_trans hZ hc10.size
  refine ⟨.bool (y7), rfl, ?_⟩
  refine wS_pure 2 [(2, .bool (!y7)), (5, .bool (!y7))] (by kernel_rfl) ?_
  refine wS_end (by rfl) ?_
  refine eX_then ?_
  refine cW_ret ?_
  have hq : (some (!y7) : Option ((Bool))) = some _ := hm
  replace hq := someE hq
  subst hq
  refine eX_ret (vs := [.bool (!y7)]) [.tmp 2] (by rfl) ⟨by (show lkE _ _ _ = _); kernel_rfl, trivial⟩ ?_
  exact ⟨rfl, hB⟩

set_option maxRecDepth 100000 in
/-- impl.size -/
theorem c_impl_size {w0 : World} {p0 : Int} {r : (Int)} (hm : m_impl_size p0 = some r)  :
    Calls Try.prog 147 #[.int .i64 (p0)] w0 fun e w' => e = .returned (.int .i64 (r)) ∧ Chg [] w0 w' := by
  have hB : Chg [] w0 w0 := Chg.refl _ _
  have hZ := Nat.le_refl w0.heap.size
  unfold m_impl_size at hm
  refine enterE (N := 7) Try.func147 (by rfl) Try.ntmps147 (by simp) [(0, .int .i64 (p0))] (by rfl) (by kernel_rfl) (fun a => ?_)
  refine cW_seq ?_
  refine cW_region ?_
  refine wS_pure 1 [(2, .int .i64 (0))] (by kernel_rfl) ?_
  refine wS_end (by rfl) ?_
  refine eX_then ?_
  refine cW_seq ?_
  refine cW_region ?_
  refine wS_pure 5 [(2, .int .i64 (if (wr (0 - p0)) > p0 then (wr (0 - p0)) else p0)), (6, .int .i64 (if (wr (0 - p0)) > p0 then (wr (0 - p0)) else p0)), (5, .int .i64 (wr (0 - p0))), (4, .int .i64 (p0)), (3, .int .i64 (p0))] (by kernel_rfl) ?_
  refine wS_end (by rfl) ?_
  refine eX_then ?_
  refine cW_ret ?_
  have hq : (some (if (wr (0 - p0)) > p0 then (wr (0 - p0)) else p0) : Option ((Int))) = some _ := hm
  replace hq := someE hq
  subst hq
  refine eX_ret (vs := [.int .i64 (if (wr (0 - p0)) > p0 then (wr (0 - p0)) else p0)]) [.tmp 2] (by rfl) ⟨by (show lkE _ _ _ = _); kernel_rfl, trivial⟩ ?_
  exact ⟨rfl, hB⟩

set_option maxRecDepth 100000 in
/-- impl.far -/
theorem c_impl_far {w0 : World} {p0_0 : Int} {p0_1 : Int} {p1_0 : Int} {p1_1 : Int} {r : (Int)} (hm : m_impl_far p0_0 p0_1 p1_0 p1_1 = some r)  :
    Calls Try.prog 85 #[.agg #[.int .i64 (p0_0), .int .i64 (p0_1)], .agg #[.int .i64 (p1_0), .int .i64 (p1_1)]] w0 fun e w' => e = .returned (.int .i64 (r)) ∧ Chg [] w0 w' := by
  have hB : Chg [] w0 w0 := Chg.refl _ _
  have hZ := Nat.le_refl w0.heap.size
  unfold m_impl_far at hm
  refine enterE (N := 18) Try.func85 (by rfl) Try.ntmps85 (by simp) [(0, .agg #[.int .i64 (p0_0), .int .i64 (p0_1)]), (1, .agg #[.int .i64 (p1_0), .int .i64 (p1_1)])] (by rfl) (by kernel_rfl) (fun a => ?_)
  refine cW_seq ?_
  refine cW_region ?_
  refine wS_box (d := 2) (T := 37) (x := .agg #[.int .i64 (p0_0), .int .i64 (p0_1)]) (by kernel_rfl) ?_
  intro b1 w2 G3 F4 hc5
  replace F4 : Cl w2 b1 37 [.int .i64 (p0_0), .int .i64 (p0_1)] := F4
  replace hB := hB.inS hc5 inNil
  replace G3 := Nat.le_trans hZ G3
  replace hZ := Nat.le_trans hZ hc5.size
  refine wS_box (d := 3) (T := 37) (x := .agg #[.int .i64 (p1_0), .int .i64 (p1_1)]) (by kernel_rfl) ?_
  intro b7 w8 G9 F10 hc11
  replace F10 : Cl w8 b7 37 [.int .i64 (p1_0), .int .i64 (p1_1)] := F10
  have D13 : Dj [b1] [b7] := Dj.of (lt1 F4.lt) (low1 G9)
  replace F4 := F4.chg hc11 notNil
  replace hB := hB.inS hc11 inNil
  replace G9 := Nat.le_trans hZ G9
  replace hZ := Nat.le_trans hZ hc11.size
  refine wS_pure 1 [(4, .int .i64 (0))] (by kernel_rfl) ?_
  refine wS_end (by rfl) ?_
  refine eX_then ?_
  refine cW_seq ?_
  refine cW_drawnTail [] 11 (by kernel_rfl) (by kernel_rfl) (fun w26 hc27 => ?_)
  replace F4 := F4.chg hc27 notNil
  replace F10 := F10.chg hc27 notNil
  replace hB := hB.inS hc27 inNil
  replace hZ := Nat.le_trans hZ hc27.size
  have hS := Chg.refl [] w26
  have Z28 := F4
  have Z29 := F10
  refine wH_take [0] [0] [(5, .pointer (some ⟨b1, 0, none⟩))] (by kernel_rfl) (qT (qT qZ)) (by kernel_rfl) ?_
  refine wH_load1 (i := 1) (d := 6) (T := 2) (ad := ⟨b1, 0, none⟩) (v := .int .i64 (p0_0)) (by kernel_rfl) (qT (qT qZ)) (by kernel_rfl) (by kernel_rfl) vt2 (fun W hW => (Z28.chg hW notNil).cell 0) ?_
  refine wH_take [2] [2, 1, 0] [(7, .pointer (some ⟨b7, 0, none⟩))] (by kernel_rfl) (qT (qT qZ)) (by kernel_rfl) ?_
  refine wH_load1 (i := 3) (d := 8) (T := 2) (ad := ⟨b7, 0, none⟩) (v := .int .i64 (p1_0)) (by kernel_rfl) (qT (qT qZ)) (by kernel_rfl) (by kernel_rfl) vt2 (fun W hW => (Z29.chg hW notNil).cell 0) ?_
  refine wH_take [4, 6] [6, 4, 3, 2, 1, 0] [(11, .pointer (some ⟨b1, 1, none⟩)), (9, .int .i64 (wr (p0_0 - p1_0)))] (by kernel_rfl) (qT (qT qZ)) (by kernel_rfl) ?_
  refine wH_load1 (i := 7) (d := 12) (T := 2) (ad := ⟨b1, 1, none⟩) (v := .int .i64 (p0_1)) (by kernel_rfl) (qT (qT qZ)) (by kernel_rfl) (by kernel_rfl) vt2 (fun W hW => (Z28.chg hW notNil).cell 1) ?_
  refine wH_take [8] [8, 7, 6, 4, 3, 2, 1, 0] [(13, .pointer (some ⟨b7, 1, none⟩))] (by kernel_rfl) (qT (qT qZ)) (by kernel_rfl) ?_
  refine wH_load1 (i := 9) (d := 14) (T := 2) (ad := ⟨b7, 1, none⟩) (v := .int .i64 (p1_1)) (by kernel_rfl) (qT (qT qZ)) (by kernel_rfl) (by kernel_rfl) vt2 (fun W hW => (Z29.chg hW notNil).cell 1) ?_
  refine wH_take [10] [10, 9, 8, 7, 6, 4, 3, 2, 1, 0] [(15, .int .i64 (wr (p0_1 - p1_1)))] (by kernel_rfl) (qT (qT qZ)) (by kernel_rfl) ?_
  refine wH_all [5] (by rfl) (by kernel_rfl) (by simp) ⟨⟨by kernel_rfl, ?_⟩, trivial⟩
  obtain ⟨y30, hy31, hm⟩ := bindE hm
  refine wS_calls (d := 10) (f := 147) (vs := [.int .i64 (wr (p0_0 - p1_0))]) (by kernel_rfl) ent147 (c_impl_size hy31) ?_
  rintro _ w32 ⟨rfl, hc33⟩
  replace F4 := F4.chg hc33 notNil
  replace F10 := F10.chg hc33 notNil
  replace hB := hB.inS hc33 inNil
  have hSz := hS
  replace hS := hS.inS hc33 inNil
  replace hZ := Nat.le_trans hZ hc33.size
  refine ⟨.int .i64 (y30), rfl, ?_⟩
  refine wS_end (by kernel_rfl) ?_
  refine eX_KH hS ?_
  refine wH_done (by kernel_rfl) ?_
  refine eX_tail ?_
  obtain ⟨y34, hy35, hm⟩ := bindE hm
  refine wS_calls (d := 16) (f := 147) (vs := [.int .i64 (wr (p0_1 - p1_1))]) (by kernel_rfl) ent147 (c_impl_size hy35) ?_
  rintro _ w36 ⟨rfl, hc37⟩
  replace F4 := F4.chg hc37 notNil
  replace F10 := F10.chg hc37 notNil
  replace hB := hB.inS hc37 inNil
  replace hZ := Nat.le_trans hZ hc37.size
  refine ⟨.int .i64 (y34), rfl, ?_⟩
  refine wS_pure 2 [(4, .int .i64 (wr (y30 + y34))), (17, .int .i64 (wr (y30 + y34)))] (by kernel_rfl) ?_
  refine wS_end (by rfl) ?_
  refine eX_then ?_
  refine cW_ret ?_
  have hq : (some (wr (y30 + y34)) : Option ((Int))) = some _ := hm
  replace hq := someE hq
  subst hq
  refine eX_ret (vs := [.int .i64 (wr (y30 + y34))]) [.tmp 4] (by rfl) ⟨by (show lkE _ _ _ = _); kernel_rfl, trivial⟩ ?_
  exact ⟨rfl, hB⟩

set_option maxRecDepth 100000 in
/-- impl.Point] -/
theorem c_slices_IndexFunc_impl_Point_impl_Point_impl_noPoint {w0 : World} {l0 : List (Int × Int)} {A0 : Option Addr} {cap0 : Nat} {fp0 : List Nat} {r : (Int)} (hm : m_slices_IndexFunc_impl_Point_impl_Point_impl_noPoint l0 = some r) (F0 : Sl 2 encII w0 fp0 A0 l0) :
    Calls Try.prog 184 #[.slice A0 (l0).length cap0, .func (.func 137) #[] #[]] w0 fun e w' => e = .returned (.int .i64 (r)) ∧ Chg [] w0 w' := by
  have L0 := F0.low
  have hB : Chg [] w0 w0 := Chg.refl _ _
  have hZ := Nat.le_refl w0.heap.size
  unfold m_slices_IndexFunc_impl_Point_impl_Point_impl_noPoint at hm
  refine enterE (N := 19) Try.func184 (by rfl) Try.ntmps184 (by simp) [(0, .slice A0 (l0).length cap0), (1, .func (.func 137) #[] #[])] (by rfl) (by kernel_rfl) (fun a => ?_)
  refine cW_seq ?_
  refine cW_region ?_
  refine wS_pure 1 [(4, .int .i64 (0))] (by kernel_rfl) ?_
  refine wS_end (by rfl) ?_
  refine eX_then ?_
  refine cW_seq ?_
  refine cW_seq ?_
  refine cW_region ?_
  refine wS_pure 3 [(8, .int .i64 (0)), (7, .int .i64 (((l0).length : Int))), (6, .slice A0 (l0).length cap0)] (by kernel_rfl) ?_
  refine wS_end (by rfl) ?_
  refine eX_then ?_
  obtain ⟨r29, hr30, hm⟩ := bindE hm
  have hm31 := hm
  refine cW_cut (fun a' w' => Sum.inl (()) = r29 ∧ Fr 19 [] a' ∧ Chg [] w0 w' ∧ w0.heap.size ≤ w'.heap.size) ?_ ?_
  · refine cW_block ?_
    refine cW_loop _ (fun (s32 : Int) a' w' => ∃ x26 : Int, x26 = s32 ∧ Fr 19 [(0, .slice A0 (l0).length cap0), (1, .func (.func 137) #[] #[]), (7, .int .i64 (((l0).length : Int))), (8, .int .i64 (x26))] a' ∧ Sl 2 encII w' fp0 A0 l0 ∧ Chg [] w0 w' ∧ w0.heap.size ≤ w'.heap.size) hr30 (fun hst => ⟨0, rfl, Fr.of hst (by kernel_rfl), F0, hB, hZ⟩) ?_
    rintro _ c33 a' w25 ⟨x26, rfl, hF27, F28, hB, hZ⟩ hx34
    refine Fr.goOn hF27 (by kernel_rfl) ?_
    have hm := hx34
    unfold m_slices_IndexFunc_impl_Point_impl_Point_impl_noPoint_s1 at hm
    refine cW_seq ?_
    refine cW_region ?_
    refine wS_pure 1 [(9, .bool (decide (x26 < (((l0).length : Int)))))] (by kernel_rfl) ?_
    refine wS_end (by rfl) ?_
    refine eX_then ?_
    refine cW_seq ?_
    refine cW_cond (t := decide (x26 < (((l0).length : Int)))) (by kernel_rfl) (fun hb35 => ?_) (fun hb35 => ?_)
    · have hm := condT hb35 hm
      refine cW_skip ?_
      refine eX_then ?_
      refine cW_seq ?_
      refine cW_block ?_
      refine cW_seq ?_
      refine cW_region ?_
      refine wS_pure 2 [(5, .int .i64 (x26)), (10, .int .i64 (x26))] (by kernel_rfl) ?_
      refine wS_end (by rfl) ?_
      refine eX_then ?_
      refine cW_seq ?_
      refine cW_region ?_
      refine wS_pure 3 [(13, .int .i64 (x26)), (12, .slice A0 (l0).length cap0), (11, .func (.func 137) #[] #[])] (by kernel_rfl) ?_
      obtain ⟨x36, hx37, hm⟩ := bindE hm
      refine wS_idx (d := 14) (T := 32) (A := A0) (n := (l0).length) (cap := cap0) (kd := .i64) (m := x26) (by kernel_rfl) sl32 (F28.is hx37) ?_
      refine wS_loadA (d := 15) (T := 37) (ad := (elA A0 2 (x26) 0)) (vs := [.int .i64 (x36.1), .int .i64 (x36.2)]) (by kernel_rfl) vt37 (fun i u hu => Sl.cells_at F28 hx37 0 hu (by rfl)) ?_
      obtain ⟨y38, hy39, hm⟩ := bindE hm
      refine wS_calls (d := 16) (f := 137) (vs := [.agg #[.int .i64 (x36.1), .int .i64 (x36.2)]]) (by kernel_rfl) ent137 (c_impl_noPoint hy39) ?_
      rintro _ w40 ⟨rfl, hc41⟩
      replace F28 := F28.chg hc41 Dj.nil
      replace hB := hB.inS hc41 inNil
      replace hZ := Nat.le_trans hZ hc41.size
      refine ⟨.bool (y38), rfl, ?_⟩
      refine wS_end (by rfl) ?_
      refine eX_then ?_
      refine cW_cond (t := y38) (by kernel_rfl) (fun hb42 => ?_) (fun hb42 => ?_)
      · have hm := condT hb42 hm
        refine cW_seq ?_
        refine cW_region ?_
        refine wS_pure 2 [(4, .int .i64 (x26)), (17, .int .i64 (x26))] (by kernel_rfl) ?_
        refine wS_end (by rfl) ?_
        refine eX_then ?_
        refine cW_ret ?_
        refine eX_block_ret ?_
        refine eX_then_ret ?_
        have hq : (some (Ctl.out (Sum.inr x26)) : Option (Ctl (Int) (Sum (Unit) ((Int))))) = some _ := hm
        replace hq := someE hq
        subst hq
        refine eX_outR hx34 (fun hr => ?_)
        subst hr
        refine eX_block_ret ?_
        refine eX_then_ret ?_
        refine eX_then_ret ?_
        have hq : (some x26 : Option ((Int))) = some _ := hm31
        replace hq := someE hq
        subst hq
        refine eX_ret (vs := [.int .i64 (x26)]) [.tmp 4] (by rfl) ⟨by (show lkE _ _ _ = _); kernel_rfl, trivial⟩ ?_
        exact ⟨rfl, hB⟩
      · have hm := condF hb42 hm
        refine cW_skip ?_
        refine eX_block ?_
        refine eX_then ?_
        refine cW_region ?_
        refine wS_pure 2 [(8, .int .i64 (wr (x26 + 1))), (18, .int .i64 (wr (x26 + 1)))] (by kernel_rfl) ?_
        refine wS_end (by rfl) ?_
        have hq : (some (Ctl.next (wr (x26 + 1))) : Option (Ctl (Int) (Sum (Unit) ((Int))))) = some _ := hm
        replace hq := someE hq
        subst hq
        exact eX_next hx34 (fun hst => ⟨wr (x26 + 1), rfl, Fr.of hst (by kernel_rfl), F28, hB, hZ⟩)
    · have hm := condF hb35 hm
      refine cW_exit ?_
      refine eX_then_exit ?_
      have hq : (some (Ctl.out (Sum.inl (()))) : Option (Ctl (Int) (Sum (Unit) ((Int))))) = some _ := hm
      replace hq := someE hq
      subst hq
      refine eX_outX hx34 (fun hr43 => ?_)
      replace hr43 := hr43.symm
      subst hr43
      refine eX_block_hit ?_
      exact eX_J (fun hst => ⟨rfl, Fr.of hst (by kernel_rfl), hB, hZ⟩)
  · rintro a' w23 ⟨hJ, hF24, hB, hZ⟩
    subst hJ
    refine Fr.goX hF24 (by kernel_rfl) ?_
    refine eX_then ?_
    refine cW_seq ?_
    refine cW_region ?_
    refine wS_pure 1 [(4, .int .i64 ((-1)))] (by kernel_rfl) ?_
    refine wS_end (by rfl) ?_
    refine eX_then ?_
    refine cW_ret ?_
    have hq : (some ((-1)) : Option ((Int))) = some _ := hm
    replace hq := someE hq
    subst hq
    refine eX_ret (vs := [.int .i64 ((-1))]) [.tmp 4] (by rfl) ⟨by (show lkE _ _ _ = _); kernel_rfl, trivial⟩ ?_
    exact ⟨rfl, hB⟩

set_option maxRecDepth 100000 in
/-- impl.Point] -/
theorem c_slices_ContainsFunc_impl_Point_impl_Point_impl_noPoint {w0 : World} {l0 : List (Int × Int)} {A0 : Option Addr} {cap0 : Nat} {fp0 : List Nat} {r : (Bool)} (hm : m_slices_ContainsFunc_impl_Point_impl_Point_impl_noPoint l0 = some r) (F0 : Sl 2 encII w0 fp0 A0 l0) :
    Calls Try.prog 136 #[.slice A0 (l0).length cap0, .func (.func 137) #[] #[]] w0 fun e w' => e = .returned (.bool (r)) ∧ Chg [] w0 w' := by
  have L0 := F0.low
  have hB : Chg [] w0 w0 := Chg.refl _ _
  have hZ := Nat.le_refl w0.heap.size
  unfold m_slices_ContainsFunc_impl_Point_impl_Point_impl_noPoint at hm
  refine enterE (N := 9) Try.func136 (by rfl) Try.ntmps136 (by simp) [(0, .slice A0 (l0).length cap0), (1, .func (.func 137) #[] #[])] (by rfl) (by kernel_rfl) (fun a => ?_)
  refine cW_seq ?_
  refine cW_region ?_
  refine wS_pure 1 [(4, .bool (false))] (by kernel_rfl) ?_
  refine wS_end (by rfl) ?_
  refine eX_then ?_
  refine cW_seq ?_
  refine cW_region ?_
  refine wS_pure 2 [(6, .func (.func 137) #[] #[]), (5, .slice A0 (l0).length cap0)] (by kernel_rfl) ?_
  obtain ⟨y2, hy3, hm⟩ := bindE hm
  refine wS_calls (d := 7) (f := 184) (vs := [.slice A0 (l0).length cap0, .func (.func 137) #[] #[]]) (by kernel_rfl) ent184 (c_slices_IndexFunc_impl_Point_impl_Point_impl_noPoint hy3 F0) ?_
  rintro _ w4 ⟨rfl, hc5⟩
  replace F0 := F0.chg hc5 Dj.nil
  replace hB := hB.inS hc5 inNil
  replace hZ := Nat.le_trans hZ hc5.size
  refine ⟨.int .i64 (y2), rfl, ?_⟩
  refine wS_pure 2 [(4, .bool (decide (y2 ≥ 0))), (8, .bool (decide (y2 ≥ 0)))] (by kernel_rfl) ?_
  refine wS_end (by rfl) ?_
  refine eX_then ?_
  refine cW_ret ?_
  have hq : (some (decide (y2 ≥ 0)) : Option ((Bool))) = some _ := hm
  replace hq := someE hq
  subst hq
  refine eX_ret (vs := [.bool (decide (y2 ≥ 0))]) [.tmp 4] (by rfl) ⟨by (show lkE _ _ _ = _); kernel_rfl, trivial⟩ ?_
  exact ⟨rfl, hB⟩

set_option maxRecDepth 100000 in
/-- impl.IsPath -/
theorem c_impl_IsPath {w0 : World} {l0 : List (Int × Int)} {A0 : Option Addr} {cap0 : Nat} {fp0 : List Nat} {r : (Bool)} (hm : m_impl_IsPath l0 = some r) (F0 : Sl 2 encII w0 fp0 A0 l0) :
    Calls Try.prog 138 #[.slice A0 (l0).length cap0] w0 fun e w' => e = .returned (.bool (r)) ∧ Chg [] w0 w' := by
  have L0 := F0.low
  have hB : Chg [] w0 w0 := Chg.refl _ _
  have hZ := Nat.le_refl w0.heap.size
  unfold m_impl_IsPath at hm
  refine enterE (N := 39) Try.func138 (by rfl) Try.ntmps138 (by simp) [(0, .slice A0 (l0).length cap0)] (by rfl) (by kernel_rfl) (fun a => ?_)
  refine cW_seq ?_
  refine cW_region ?_
  refine wS_pure 1 [(2, .bool (false))] (by kernel_rfl) ?_
  refine wS_end (by rfl) ?_
  refine eX_then ?_
  refine cW_seq ?_
  refine cW_seq ?_
  refine cW_region ?_
  refine wS_pure 4 [(7, .bool (decide ((((l0).length : Int)) < 1))), (6, .bool (decide ((((l0).length : Int)) < 1))), (5, .int .i64 (((l0).length : Int))), (4, .slice A0 (l0).length cap0)] (by kernel_rfl) ?_
  refine wS_bool (decide ((((l0).length : Int)) < 1)) (fun hb2 => ?_) (fun hb2 => ?_)
  · have hm := condT hb2 hm
    rewrite [hb2]
    refine wS_pure 8 [(15, .bool (true)), (14, undef), (13, undef), (12, .bool (true)), (11, .bool (true)), (10, undef), (9, undef), (8, undef)] (by kernel_rfl) ?_
    refine wS_end (by rfl) ?_
    refine eX_then ?_
    refine cW_cond_t (by kernel_rfl) ?_
    refine cW_seq ?_
    refine cW_region ?_
    refine wS_pure 1 [(2, .bool (false))] (by kernel_rfl) ?_
    refine wS_end (by rfl) ?_
    refine eX_then ?_
    refine cW_ret ?_
    refine eX_then_ret ?_
    have hq : (some false : Option ((Bool))) = some _ := hm
    replace hq := someE hq
    subst hq
    refine eX_ret (vs := [.bool (false)]) [.tmp 2] (by rfl) ⟨by (show lkE _ _ _ = _); kernel_rfl, trivial⟩ ?_
    exact ⟨rfl, hB⟩
  · have hm := condF hb2 hm
    rewrite [hb2]
    refine wS_pure 5 [(12, .bool (decide ((((l0).length : Int)) > 576))), (11, .bool (decide ((((l0).length : Int)) > 576))), (10, .bool (decide ((((l0).length : Int)) > 576))), (9, .int .i64 (((l0).length : Int))), (8, .slice A0 (l0).length cap0)] (by kernel_rfl) ?_
    refine wS_bool (decide ((((l0).length : Int)) > 576)) (fun hb3 => ?_) (fun hb3 => ?_)
    · have hm := condT hb3 hm
      rewrite [hb3]
      refine wS_pure 3 [(15, .bool (true)), (14, undef), (13, undef)] (by kernel_rfl) ?_
      refine wS_end (by rfl) ?_
      refine eX_then ?_
      refine cW_cond_t (by kernel_rfl) ?_
      refine cW_seq ?_
      refine cW_region ?_
      refine wS_pure 1 [(2, .bool (false))] (by kernel_rfl) ?_
      refine wS_end (by rfl) ?_
      refine eX_then ?_
      refine cW_ret ?_
      refine eX_then_ret ?_
      have hq : (some false : Option ((Bool))) = some _ := hm
      replace hq := someE hq
      subst hq
      refine eX_ret (vs := [.bool (false)]) [.tmp 2] (by rfl) ⟨by (show lkE _ _ _ = _); kernel_rfl, trivial⟩ ?_
      exact ⟨rfl, hB⟩
    · have hm := condF hb3 hm
      rewrite [hb3]
      refine wS_pure 1 [(13, .slice A0 (l0).length cap0)] (by kernel_rfl) ?_
      obtain ⟨y4, hy5, hm⟩ := bindE hm
      refine wS_calls (d := 14) (f := 136) (vs := [.slice A0 (l0).length cap0, .func (.func 137) #[] #[]]) (by kernel_rfl) ent136 (c_slices_ContainsFunc_impl_Point_impl_Point_impl_noPoint hy5 F0) ?_
      rintro _ w6 ⟨rfl, hc7⟩
      replace F0 := F0.chg hc7 Dj.nil
      replace hB := hB.inS hc7 inNil
      replace hZ := Nat.le_trans hZ hc7.size
      refine ⟨.bool (y4), rfl, ?_⟩
      refine wS_pure 1 [(15, .bool (y4))] (by kernel_rfl) ?_
      refine wS_end (by rfl) ?_
      refine eX_then ?_
      refine cW_cond (t := y4) (by kernel_rfl) (fun hb8 => ?_) (fun hb8 => ?_)
      · have hm := condT hb8 hm
        refine cW_seq ?_
        refine cW_region ?_
        refine wS_pure 1 [(2, .bool (false))] (by kernel_rfl) ?_
        refine wS_end (by rfl) ?_
        refine eX_then ?_
        refine cW_ret ?_
        refine eX_then_ret ?_
        have hq : (some false : Option ((Bool))) = some _ := hm
        replace hq := someE hq
        subst hq
        refine eX_ret (vs := [.bool (false)]) [.tmp 2] (by rfl) ⟨by (show lkE _ _ _ = _); kernel_rfl, trivial⟩ ?_
        exact ⟨rfl, hB⟩
      · have hm := condF hb8 hm
        refine cW_skip ?_
        refine eX_then ?_
        refine cW_seq ?_
        refine cW_seq ?_
        refine cW_region ?_
        refine wS_pure 1 [(3, .int .i64 (1))] (by kernel_rfl) ?_
        refine wS_end (by rfl) ?_
        refine eX_then ?_
        obtain ⟨r69, hr70, hm⟩ := bindE hm
        have hm71 := hm
        refine cW_cut (fun a' w' => Sum.inl (()) = r69 ∧ Fr 39 [(0, .slice A0 (l0).length cap0)] a' ∧ Sl 2 encII w' fp0 A0 l0 ∧ Chg [] w0 w' ∧ w0.heap.size ≤ w'.heap.size) ?_ ?_
        · refine cW_block ?_
          refine cW_loop _ (fun (s72 : Int) a' w' => ∃ x66 : Int, x66 = s72 ∧ Fr 39 [(0, .slice A0 (l0).length cap0), (3, .int .i64 (x66))] a' ∧ Sl 2 encII w' fp0 A0 l0 ∧ Chg [] w0 w' ∧ w0.heap.size ≤ w'.heap.size) hr70 (fun hst => ⟨1, rfl, Fr.of hst (by kernel_rfl), F0, hB, hZ⟩) ?_
          rintro _ c73 a' w65 ⟨x66, rfl, hF67, F68, hB, hZ⟩ hx74
          refine Fr.goOn hF67 (by kernel_rfl) ?_
          have hm := hx74
          unfold m_impl_IsPath_s1 at hm
          refine cW_seq ?_
          refine cW_seq ?_
          refine cW_region ?_
          refine wS_pure 4 [(19, .bool (decide (x66 < (((l0).length : Int))))), (18, .int .i64 (((l0).length : Int))), (17, .slice A0 (l0).length cap0), (16, .int .i64 (x66))] (by kernel_rfl) ?_
          refine wS_end (by rfl) ?_
          refine eX_then ?_
          refine cW_cond (t := decide (x66 < (((l0).length : Int)))) (by kernel_rfl) (fun hb75 => ?_) (fun hb75 => ?_)
          · have hm := condT hb75 hm
            refine cW_skip ?_
            refine eX_then ?_
            refine cW_seq ?_
            refine cW_block ?_
            refine cW_seq ?_
            refine cW_drawnTail [] 9 (by kernel_rfl) (by kernel_rfl) (fun w87 hc88 => ?_)
            replace F68 := F68.chg hc88 Dj.nil
            replace hB := hB.inS hc88 inNil
            replace hZ := Nat.le_trans hZ hc88.size
            have hS := Chg.refl [] w87
            have Z89 := F68
            refine wH_take [0, 1, 2] [2, 1, 0] [(24, .int .i64 (wr (x66 - 1))), (23, .int .i64 (x66)), (22, .slice A0 (l0).length cap0)] (by kernel_rfl) (qT (qT (qB (qT (qL (qB (qT (qT qZ)))))))) (by kernel_rfl) ?_
            obtain ⟨x90, hx91, hm⟩ := bindE hm
            refine wH_idx (i := 3) (d := 25) (T := 32) (A := A0) (n := (l0).length) (cap := cap0) (kd := .i64) (m := wr (x66 - 1)) (by kernel_rfl) (qT (qT (qB (qT (qL (qB (qT (qT qZ)))))))) (by kernel_rfl) (by kernel_rfl) sl32 (F68.is hx91) ?_
            refine wH_loadA (i := 4) (d := 26) (T := 37) (ad := (elA A0 2 (wr (x66 - 1)) 0)) (vs := [.int .i64 (x90.1), .int .i64 (x90.2)]) (by kernel_rfl) (qT (qT (qB (qT (qL (qB (qT (qT qZ)))))))) (by kernel_rfl) (by kernel_rfl) vt37 (fun W hW i u hu => Sl.cells_at (Z89.chg hW Dj.nil) hx91 0 hu (by rfl)) ?_
            refine wH_take [5, 6] [6, 5, 4, 3, 2, 1, 0] [(28, .int .i64 (x66)), (27, .slice A0 (l0).length cap0)] (by kernel_rfl) (qT (qT (qB (qT (qL (qB (qT (qT qZ)))))))) (by kernel_rfl) ?_
            obtain ⟨x92, hx93, hm⟩ := bindE hm
            refine wH_idx (i := 7) (d := 29) (T := 32) (A := A0) (n := (l0).length) (cap := cap0) (kd := .i64) (m := x66) (by kernel_rfl) (qT (qT (qB (qT (qL (qB (qT (qT qZ)))))))) (by kernel_rfl) (by kernel_rfl) sl32 (F68.is hx93) ?_
            refine wH_loadA (i := 8) (d := 30) (T := 37) (ad := (elA A0 2 (x66) 0)) (vs := [.int .i64 (x92.1), .int .i64 (x92.2)]) (by kernel_rfl) (qT (qT (qB (qT (qL (qB (qT (qT qZ)))))))) (by kernel_rfl) (by kernel_rfl) vt37 (fun W hW i u hu => Sl.cells_at (Z89.chg hW Dj.nil) hx93 0 hu (by rfl)) ?_
            refine wH_done (by kernel_rfl) ?_
            refine eX_tail ?_
            obtain ⟨y94, hy95, hm⟩ := bindE hm
            refine wS_calls (d := 31) (f := 85) (vs := [.agg #[.int .i64 (x90.1), .int .i64 (x90.2)], .agg #[.int .i64 (x92.1), .int .i64 (x92.2)]]) (by kernel_rfl) ent85 (c_impl_far hy95) ?_
            rintro _ w96 ⟨rfl, hc97⟩
            replace F68 := F68.chg hc97 Dj.nil
            replace hB := hB.inS hc97 inNil
            replace hZ := Nat.le_trans hZ hc97.size
            refine ⟨.int .i64 (y94), rfl, ?_⟩
            refine wS_pure 1 [(32, .bool (y94 != 1))] (by kernel_rfl) ?_
            refine wS_end (by rfl) ?_
            refine eX_then ?_
            refine cW_cond (t := y94 != 1) (by kernel_rfl) (fun hb98 => ?_) (fun hb98 => ?_)
            · have hm := condT hb98 hm
              refine cW_seq ?_
              refine cW_region ?_
              refine wS_pure 1 [(2, .bool (false))] (by kernel_rfl) ?_
              refine wS_end (by rfl) ?_
              refine eX_then ?_
              refine cW_ret ?_
              refine eX_block_ret ?_
              refine eX_then_ret ?_
              have hq : (some (Ctl.out (Sum.inr false)) : Option (Ctl (Int) (Sum (Unit) ((Bool))))) = some _ := hm
              replace hq := someE hq
              subst hq
              refine eX_outR hx74 (fun hr => ?_)
              subst hr
              refine eX_block_ret ?_
              refine eX_then_ret ?_
              refine eX_then_ret ?_
              have hq : (some false : Option ((Bool))) = some _ := hm71
              replace hq := someE hq
              subst hq
              refine eX_ret (vs := [.bool (false)]) [.tmp 2] (by rfl) ⟨by (show lkE _ _ _ = _); kernel_rfl, trivial⟩ ?_
              exact ⟨rfl, hB⟩
            · have hm := condF hb98 hm
              refine cW_skip ?_
              refine eX_block ?_
              refine eX_then ?_
              refine cW_region ?_
              refine wS_pure 3 [(3, .int .i64 (wr (x66 + 1))), (21, .int .i64 (wr (x66 + 1))), (20, .int .i64 (x66))] (by kernel_rfl) ?_
              refine wS_end (by rfl) ?_
              have hq : (some (Ctl.next (wr (x66 + 1))) : Option (Ctl (Int) (Sum (Unit) ((Bool))))) = some _ := hm
              replace hq := someE hq
              subst hq
              exact eX_next hx74 (fun hst => ⟨wr (x66 + 1), rfl, Fr.of hst (by kernel_rfl), F68, hB, hZ⟩)
          · have hm := condF hb75 hm
            refine cW_exit ?_
            refine eX_then_exit ?_
            have hq : (some (Ctl.out (Sum.inl (()))) : Option (Ctl (Int) (Sum (Unit) ((Bool))))) = some _ := hm
            replace hq := someE hq
            subst hq
            refine eX_outX hx74 (fun hr99 => ?_)
            replace hr99 := hr99.symm
            subst hr99
            refine eX_block_hit ?_
            exact eX_J (fun hst => ⟨rfl, Fr.of hst (by kernel_rfl), F68, hB, hZ⟩)
        · rintro a' w62 ⟨hJ, hF63, F64, hB, hZ⟩
          subst hJ
          refine Fr.goX hF63 (by kernel_rfl) ?_
          refine eX_then ?_
          refine cW_seq ?_
          refine cW_region ?_
          refine wS_pure 1 [(33, .slice A0 (l0).length cap0)] (by kernel_rfl) ?_
          obtain ⟨y100, hy101, hm⟩ := bindE hm
          refine wS_calls (d := 34) (f := 79) (vs := [.slice A0 (l0).length cap0]) (by kernel_rfl) ent79 (c_impl_sorted hy101 F64) ?_
          rintro _ w102 ⟨A104, cap105, fp106, rfl, F107, G108, hc103⟩
          replace F64 := F64.chg hc103 Dj.nil
          replace hB := hB.inS hc103 inNil
          replace G108 := low_le hZ G108
          replace hZ := Nat.le_trans hZ hc103.size
          refine ⟨.slice A104 (y100).length cap105, rfl, ?_⟩
          refine wS_pure 5 [(2, .bool ((((y100).length : Int)) == (((l0).length : Int)))), (38, .bool ((((y100).length : Int)) == (((l0).length : Int)))), (37, .int .i64 (((l0).length : Int))), (36, .slice A0 (l0).length cap0), (35, .int .i64 (((y100).length : Int)))] (by kernel_rfl) ?_
          refine wS_end (by rfl) ?_
          refine eX_then ?_
          refine cW_ret ?_
          have hq : (some ((((y100).length : Int)) == (((l0).length : Int))) : Option ((Bool))) = some _ := hm
          replace hq := someE hq
          subst hq
          refine eX_ret (vs := [.bool ((((y100).length : Int)) == (((l0).length : Int)))]) [.tmp 2] (by rfl) ⟨by (show lkE _ _ _ = _); kernel_rfl, trivial⟩ ?_
          exact ⟨rfl, hB⟩

set_option maxRecDepth 100000 in
/-- spec.l00In -/
theorem c_spec_l00In {w0 : World} {p0 : Int} {p1 : Int} {p2 : Int} {r : (Bool)} (hm : m_spec_l00In p0 p1 p2 = some r)  :
    Calls Try.prog 143 #[.int .i64 (p0), .int .i64 (p1), .int .i64 (p2)] w0 fun e w' => e = .returned (.bool (r)) ∧ Chg [] w0 w' := by
  have hB : Chg [] w0 w0 := Chg.refl _ _
  have hZ := Nat.le_refl w0.heap.size
  unfold m_spec_l00In at hm
  refine enterE (N := 15) Try.func143 (by rfl) Try.ntmps143 (by simp) [(0, .int .i64 (p0)), (1, .int .i64 (p1)), (2, .int .i64 (p2))] (by rfl) (by kernel_rfl) (fun a => ?_)
  refine cW_seq ?_
  refine cW_region ?_
  refine wS_pure 1 [(6, .bool (false))] (by kernel_rfl) ?_
  refine wS_end (by rfl) ?_
  refine eX_then ?_
  refine cW_seq ?_
  refine cW_region ?_
  refine wS_pure 4 [(10, .bool (decide (p0 ≥ p1))), (9, .bool (decide (p0 ≥ p1))), (8, .int .i64 (p1)), (7, .int .i64 (p0))] (by kernel_rfl) ?_
  refine wS_bool (decide (p0 ≥ p1)) (fun hb1 => ?_) (fun hb1 => ?_)
  · have hm := condT hb1 hm
    rewrite [hb1]
    refine wS_pure 5 [(6, .bool (decide (p0 ≤ p2))), (14, .bool (decide (p0 ≤ p2))), (13, .bool (decide (p0 ≤ p2))), (12, .int .i64 (p2)), (11, .int .i64 (p0))] (by kernel_rfl) ?_
    refine wS_end (by rfl) ?_
    refine eX_then ?_
    refine cW_ret ?_
    have hq : (some (decide (p0 ≤ p2)) : Option ((Bool))) = some _ := hm
    replace hq := someE hq
    subst hq
    refine eX_ret (vs := [.bool (decide (p0 ≤ p2))]) [.tmp 6] (by rfl) ⟨by (show lkE _ _ _ = _); kernel_rfl, trivial⟩ ?_
    exact ⟨rfl, hB⟩
  · have hm := condF hb1 hm
    rewrite [hb1]
    refine wS_pure 5 [(6, .bool (false)), (14, .bool (false)), (13, undef), (12, undef), (11, undef)] (by kernel_rfl) ?_
    refine wS_end (by rfl) ?_
    refine eX_then ?_
    refine cW_ret ?_
    have hq : (some false : Option ((Bool))) = some _ := hm
    replace hq := someE hq
    subst hq
    refine eX_ret (vs := [.bool (false)]) [.tmp 6] (by rfl) ⟨by (show lkE _ _ _ = _); kernel_rfl, trivial⟩ ?_
    exact ⟨rfl, hB⟩

set_option maxRecDepth 100000 in
/-- laws.szPointS -/
theorem c_laws_szPointS {w0 : World} {l0 : List (Int × Int)} {A0 : Option Addr} {cap0 : Nat} {fp0 : List Nat} {p1 : Int} {r : (Int)} (hm : m_laws_szPointS l0 p1 = some r) (F0 : Sl 2 encII w0 fp0 A0 l0) :
    Calls Try.prog 29 #[.slice A0 (l0).length cap0, .int .i64 (p1)] w0 fun e w' => e = .returned (.int .i64 (r)) ∧ Chg [] w0 w' := by
  have L0 := F0.low
  have hB : Chg [] w0 w0 := Chg.refl _ _
  have hZ := Nat.le_refl w0.heap.size
  unfold m_laws_szPointS at hm
  refine enterE (N := 12) Try.func29 (by rfl) Try.ntmps29 (by simp) [(0, .slice A0 (l0).length cap0), (1, .int .i64 (p1))] (by rfl) (by kernel_rfl) (fun a => ?_)
  refine cW_seq ?_
  refine cW_region ?_
  refine wS_pure 1 [(4, .int .i64 (0))] (by kernel_rfl) ?_
  refine wS_end (by rfl) ?_
  refine eX_then ?_
  refine cW_seq ?_
  refine cW_region ?_
  refine wS_pure 5 [(1, .int .i64 (wr (p1 - (((l0).length : Int))))), (8, .int .i64 (wr (p1 - (((l0).length : Int))))), (7, .int .i64 (((l0).length : Int))), (6, .slice A0 (l0).length cap0), (5, .int .i64 (p1))] (by kernel_rfl) ?_
  refine wS_end (by rfl) ?_
  refine eX_then ?_
  refine cW_seq ?_
  refine cW_seq ?_
  refine cW_region ?_
  refine wS_pure 2 [(10, .bool (decide ((wr (p1 - (((l0).length : Int)))) < 0))), (9, .int .i64 (wr (p1 - (((l0).length : Int)))))] (by kernel_rfl) ?_
  refine wS_end (by rfl) ?_
  refine eX_then ?_
  refine cW_cond (t := decide ((wr (p1 - (((l0).length : Int)))) < 0)) (by kernel_rfl) (fun hb2 => ?_) (fun hb2 => ?_)
  · have hm := condT hb2 hm
    refine cW_seq ?_
    refine cW_region ?_
    refine wS_pure 1 [(4, .int .i64 ((-1)))] (by kernel_rfl) ?_
    refine wS_end (by rfl) ?_
    refine eX_then ?_
    refine cW_ret ?_
    refine eX_then_ret ?_
    have hq : (some ((-1)) : Option ((Int))) = some _ := hm
    replace hq := someE hq
    subst hq
    refine eX_ret (vs := [.int .i64 ((-1))]) [.tmp 4] (by rfl) ⟨by (show lkE _ _ _ = _); kernel_rfl, trivial⟩ ?_
    exact ⟨rfl, hB⟩
  · have hm := condF hb2 hm
    refine cW_skip ?_
    refine eX_then ?_
    refine cW_seq ?_
    refine cW_region ?_
    refine wS_pure 2 [(4, .int .i64 (wr (p1 - (((l0).length : Int))))), (11, .int .i64 (wr (p1 - (((l0).length : Int)))))] (by kernel_rfl) ?_
    refine wS_end (by rfl) ?_
    refine eX_then ?_
    refine cW_ret ?_
    have hq : (some (wr (p1 - (((l0).length : Int)))) : Option ((Int))) = some _ := hm
    replace hq := someE hq
    subst hq
    refine eX_ret (vs := [.int .i64 (wr (p1 - (((l0).length : Int))))]) [.tmp 4] (by rfl) ⟨by (show lkE _ _ _ = _); kernel_rfl, trivial⟩ ?_
    exact ⟨rfl, hB⟩

set_option maxRecDepth 100000 in
/-- spec.l01Index -/
theorem c_spec_l01Index {w0 : World} {l0 : List (Int × Int)} {A0 : Option Addr} {cap0 : Nat} {fp0 : List Nat} {p1_0 : Int} {p1_1 : Int} {r : (Int)} (hm : m_spec_l01Index l0 p1_0 p1_1 = some r) (F0 : Sl 2 encII w0 fp0 A0 l0) :
    Calls Try.prog 165 #[.slice A0 (l0).length cap0, .agg #[.int .i64 (p1_0), .int .i64 (p1_1)]] w0 fun e w' => e = .returned (.int .i64 (r)) ∧ Chg [] w0 w' := by
  have L0 := F0.low
  have hB : Chg [] w0 w0 := Chg.refl _ _
  have hZ := Nat.le_refl w0.heap.size
  unfold m_spec_l01Index at hm
  refine enterE (N := 19) Try.func165 (by rfl) Try.ntmps165 (by simp) [(0, .slice A0 (l0).length cap0), (1, .agg #[.int .i64 (p1_0), .int .i64 (p1_1)])] (by rfl) (by kernel_rfl) (fun a => ?_)
  refine cW_seq ?_
  refine cW_region ?_
  refine wS_box (d := 3) (T := 37) (x := .agg #[.int .i64 (p1_0), .int .i64 (p1_1)]) (by kernel_rfl) ?_
  intro b2 w3 G4 F5 hc6
  replace F5 : Cl w3 b2 37 [.int .i64 (p1_0), .int .i64 (p1_1)] := F5
  replace F0 := F0.chg hc6 Dj.nil
  replace hB := hB.inS hc6 inNil
  replace G4 := Nat.le_trans hZ G4
  replace hZ := Nat.le_trans hZ hc6.size
  refine wS_pure 1 [(4, .int .i64 (0))] (by kernel_rfl) ?_
  refine wS_end (by rfl) ?_
  refine eX_then ?_
  refine cW_seq ?_
  refine cW_seq ?_
  refine cW_region ?_
  refine wS_pure 1 [(5, .int .i64 (0))] (by kernel_rfl) ?_
  refine wS_end (by rfl) ?_
  refine eX_then ?_
  obtain ⟨r50, hr51, hm⟩ := bindE hm
  have hm52 := hm
  refine cW_cut (fun a' w' => Sum.inl (()) = r50 ∧ Fr 19 [] a' ∧ Chg [] w0 w' ∧ w0.heap.size ≤ w'.heap.size) ?_ ?_
  · refine cW_block ?_
    refine cW_loop _ (fun (s53 : Int) a' w' => ∃ x46 : Int, x46 = s53 ∧ Fr 19 [(0, .slice A0 (l0).length cap0), (3, .pointer (some ⟨b2, 0, none⟩)), (5, .int .i64 (x46))] a' ∧ Sl 2 encII w' fp0 A0 l0 ∧ Cl w' b2 37 [.int .i64 (p1_0), .int .i64 (p1_1)] ∧ Chg [] w0 w' ∧ w0.heap.size ≤ w'.heap.size) hr51 (fun hst => ⟨0, rfl, Fr.of hst (by kernel_rfl), F0, F5, hB, hZ⟩) ?_
    rintro _ c54 a' w45 ⟨x46, rfl, hF47, F48, F49, hB, hZ⟩ hx55
    refine Fr.goOn hF47 (by kernel_rfl) ?_
    have hm := hx55
    unfold m_spec_l01Index_s1 at hm
    refine cW_seq ?_
    refine cW_seq ?_
    refine cW_region ?_
    refine wS_pure 4 [(9, .bool (decide (x46 < (((l0).length : Int))))), (8, .int .i64 (((l0).length : Int))), (7, .slice A0 (l0).length cap0), (6, .int .i64 (x46))] (by kernel_rfl) ?_
    refine wS_end (by rfl) ?_
    refine eX_then ?_
    refine cW_cond (t := decide (x46 < (((l0).length : Int)))) (by kernel_rfl) (fun hb56 => ?_) (fun hb56 => ?_)
    · have hm := condT hb56 hm
      refine cW_skip ?_
      refine eX_then ?_
      refine cW_seq ?_
      refine cW_block ?_
      refine cW_seq ?_
      refine cW_drawnTail [] 5 (by kernel_rfl) (by kernel_rfl) (fun w63 hc64 => ?_)
      replace F48 := F48.chg hc64 Dj.nil
      replace F49 := F49.chg hc64 notNil
      replace hB := hB.inS hc64 inNil
      replace hZ := Nat.le_trans hZ hc64.size
      have hS := Chg.refl [] w63
      have Z65 := F48
      have Z66 := F49
      refine wH_take [0, 1] [1, 0] [(13, .int .i64 (x46)), (12, .slice A0 (l0).length cap0)] (by kernel_rfl) (qT (qT (qB (qT (qL (qB (qT (qT qZ)))))))) (by kernel_rfl) ?_
      obtain ⟨x67, hx68, hm⟩ := bindE hm
      refine wH_idx (i := 2) (d := 14) (T := 32) (A := A0) (n := (l0).length) (cap := cap0) (kd := .i64) (m := x46) (by kernel_rfl) (qT (qT (qB (qT (qL (qB (qT (qT qZ)))))))) (by kernel_rfl) (by kernel_rfl) sl32 (F48.is hx68) ?_
      refine wH_loadA (i := 3) (d := 15) (T := 37) (ad := (elA A0 2 (x46) 0)) (vs := [.int .i64 (x67.1), .int .i64 (x67.2)]) (by kernel_rfl) (qT (qT (qB (qT (qL (qB (qT (qT qZ)))))))) (by kernel_rfl) (by kernel_rfl) vt37 (fun W hW i u hu => Sl.cells_at (Z65.chg hW Dj.nil) hx68 0 hu (by rfl)) ?_
      refine wH_loadA (i := 4) (d := 16) (T := 37) (ad := ⟨b2, 0, none⟩) (vs := [.int .i64 (p1_0), .int .i64 (p1_1)]) (by kernel_rfl) (qT (qT (qB (qT (qL (qB (qT (qT qZ)))))))) (by kernel_rfl) (by kernel_rfl) vt37 (fun W hW i u hu => box_cells (Z66.chg hW notNil) 0 hu (by rfl)) ?_
      refine wH_done (by kernel_rfl) ?_
      refine eX_tail ?_
      refine wS_eqS (d := 17) (T := 37) (x := x67.1) (y := x67.2) (x' := p1_0) (y' := p1_1) (by kernel_rfl) eq37 ?_
      refine wS_end (by rfl) ?_
      refine eX_then ?_
      refine cW_cond (t := x67.1 == p1_0 && x67.2 == p1_1) (by kernel_rfl) (fun hb69 => ?_) (fun hb69 => ?_)
      · have hm := condT hb69 hm
        refine cW_seq ?_
        refine cW_region ?_
        refine wS_pure 2 [(4, .int .i64 (x46)), (18, .int .i64 (x46))] (by kernel_rfl) ?_
        refine wS_end (by rfl) ?_
        refine eX_then ?_
        refine cW_ret ?_
        refine eX_block_ret ?_
        refine eX_then_ret ?_
        have hq : (some (Ctl.out (Sum.inr x46)) : Option (Ctl (Int) (Sum (Unit) ((Int))))) = some _ := hm
        replace hq := someE hq
        subst hq
        refine eX_outR hx55 (fun hr => ?_)
        subst hr
        refine eX_block_ret ?_
        refine eX_then_ret ?_
        refine eX_then_ret ?_
        have hq : (some x46 : Option ((Int))) = some _ := hm52
        replace hq := someE hq
        subst hq
        refine eX_ret (vs := [.int .i64 (x46)]) [.tmp 4] (by rfl) ⟨by (show lkE _ _ _ = _); kernel_rfl, trivial⟩ ?_
        exact ⟨rfl, hB⟩
      · have hm := condF hb69 hm
        refine cW_skip ?_
        refine eX_block ?_
        refine eX_then ?_
        refine cW_region ?_
        refine wS_pure 3 [(5, .int .i64 (wr (x46 + 1))), (11, .int .i64 (wr (x46 + 1))), (10, .int .i64 (x46))] (by kernel_rfl) ?_
        refine wS_end (by rfl) ?_
        have hq : (some (Ctl.next (wr (x46 + 1))) : Option (Ctl (Int) (Sum (Unit) ((Int))))) = some _ := hm
        replace hq := someE hq
        subst hq
        exact eX_next hx55 (fun hst => ⟨wr (x46 + 1), rfl, Fr.of hst (by kernel_rfl), F48, F49, hB, hZ⟩)
    · have hm := condF hb56 hm
      refine cW_exit ?_
      refine eX_then_exit ?_
      have hq : (some (Ctl.out (Sum.inl (()))) : Option (Ctl (Int) (Sum (Unit) ((Int))))) = some _ := hm
      replace hq := someE hq
      subst hq
      refine eX_outX hx55 (fun hr70 => ?_)
      replace hr70 := hr70.symm
      subst hr70
      refine eX_block_hit ?_
      exact eX_J (fun hst => ⟨rfl, Fr.of hst (by kernel_rfl), hB, hZ⟩)
  · rintro a' w43 ⟨hJ, hF44, hB, hZ⟩
    subst hJ
    refine Fr.goX hF44 (by kernel_rfl) ?_
    refine eX_then ?_
    refine cW_seq ?_
    refine cW_region ?_
    refine wS_pure 1 [(4, .int .i64 ((-1)))] (by kernel_rfl) ?_
    refine wS_end (by rfl) ?_
    refine eX_then ?_
    refine cW_ret ?_
    have hq : (some ((-1)) : Option ((Int))) = some _ := hm
    replace hq := someE hq
    subst hq
    refine eX_ret (vs := [.int .i64 ((-1))]) [.tmp 4] (by rfl) ⟨by (show lkE _ _ _ = _); kernel_rfl, trivial⟩ ?_
    exact ⟨rfl, hB⟩

set_option maxRecDepth 100000 in
/-- spec.l01Point -/
theorem c_spec_l01Point {w0 : World} {p0_0 : Int} {p0_1 : Int} {r : (Bool)} (hm : m_spec_l01Point p0_0 p0_1 = some r)  :
    Calls Try.prog 167 #[.agg #[.int .i64 (p0_0), .int .i64 (p0_1)]] w0 fun e w' => e = .returned (.bool (r)) ∧ Chg [] w0 w' := by
  have hB : Chg [] w0 w0 := Chg.refl _ _
  have hZ := Nat.le_refl w0.heap.size
  unfold m_spec_l01Point at hm
  refine enterE (N := 11) Try.func167 (by rfl) Try.ntmps167 (by simp) [(0, .agg #[.int .i64 (p0_0), .int .i64 (p0_1)])] (by rfl) (by kernel_rfl) (fun a => ?_)
  refine cW_seq ?_
  refine cW_region ?_
  refine wS_box (d := 1) (T := 37) (x := .agg #[.int .i64 (p0_0), .int .i64 (p0_1)]) (by kernel_rfl) ?_
  intro b1 w2 G3 F4 hc5
  replace F4 : Cl w2 b1 37 [.int .i64 (p0_0), .int .i64 (p0_1)] := F4
  replace hB := hB.inS hc5 inNil
  replace G3 := Nat.le_trans hZ G3
  replace hZ := Nat.le_trans hZ hc5.size
  refine wS_pure 1 [(2, .bool (false))] (by kernel_rfl) ?_
  refine wS_end (by rfl) ?_
  refine eX_then ?_
  refine cW_seq ?_
  refine cW_region ?_
  refine wS_pure 1 [(3, .pointer (some ⟨b1, 0, none⟩))] (by kernel_rfl) ?_
  refine wS_load1 (d := 4) (T := 2) (ad := ⟨b1, 0, none⟩) (v := .int .i64 (p0_0)) (by kernel_rfl) vt2 ((F4).cell 0) ?_
  obtain ⟨y7, hy8, hm⟩ := bindE hm
  refine wS_calls (d := 5) (f := 143) (vs := [.int .i64 (p0_0), .int .i64 (0), .int .i64 (99)]) (by kernel_rfl) ent143 (c_spec_l00In hy8) ?_
  rintro _ w9 ⟨rfl, hc10⟩
  replace F4 := F4.chg hc10 notNil
  replace hB := hB.inS hc10 inNil
  replace hZ := Nat.le_trans hZ hc10.size
  refine ⟨.bool (y7), rfl, ?_⟩
  refine wS_pure 1 [(6, .bool (y7))] (by kernel_rfl) ?_
  refine wS_bool y7 (fun hb11 => ?_) (fun hb11 => ?_)
  · have hm := condT hb11 hm
    rewrite [hb11]
    refine wS_pure 1 [(7, .pointer (some ⟨b1, 1, none⟩))] (by kernel_rfl) ?_
    refine wS_load1 (d := 8) (T := 2) (ad := ⟨b1, 1, none⟩) (v := .int .i64 (p0_1)) (by kernel_rfl) vt2 ((F4).cell 1) ?_
    obtain ⟨y12, hy13, hm⟩ := bindE hm
    refine wS_calls (d := 9) (f := 143) (vs := [.int .i64 (p0_1), .int .i64 (0), .int .i64 (99)]) (by kernel_rfl) ent143 (c_spec_l00In hy13) ?_
    rintro _ w14 ⟨rfl, hc15⟩
    replace F4 := F4.chg hc15 notNil
    replace hB := hB.inS hc15 inNil
    replace hZ := Nat.le_trans hZ hc15.size
    refine ⟨.bool (y12), rfl, ?_⟩
    refine wS_pure 2 [(2, .bool (y12)), (10, .bool (y12))] (by kernel_rfl) ?_
    refine wS_end (by rfl) ?_
    refine eX_then ?_
    refine cW_ret ?_
    have hq : (some y12 : Option ((Bool))) = some _ := hm
    replace hq := someE hq
    subst hq
    refine eX_ret (vs := [.bool (y12)]) [.tmp 2] (by rfl) ⟨by (show lkE _ _ _ = _); kernel_rfl, trivial⟩ ?_
    exact ⟨rfl, hB⟩
  · have hm := condF hb11 hm
    rewrite [hb11]
    refine wS_pure 5 [(2, .bool (false)), (10, .bool (false)), (9, undef), (8, undef), (7, undef)] (by kernel_rfl) ?_
    refine wS_end (by rfl) ?_
    refine eX_then ?_
    refine cW_ret ?_
    have hq : (some false : Option ((Bool))) = some _ := hm
    replace hq := someE hq
    subst hq
    refine eX_ret (vs := [.bool (false)]) [.tmp 2] (by rfl) ⟨by (show lkE _ _ _ = _); kernel_rfl, trivial⟩ ?_
    exact ⟨rfl, hB⟩

set_option maxRecDepth 100000 in
/-- spec.l00Max -/
theorem c_spec_l00Max {w0 : World} {p0 : Int} {p1 : Int} {r : (Int)} (hm : m_spec_l00Max p0 p1 = some r)  :
    Calls Try.prog 175 #[.int .i64 (p0), .int .i64 (p1)] w0 fun e w' => e = .returned (.int .i64 (r)) ∧ Chg [] w0 w' := by
  have hB : Chg [] w0 w0 := Chg.refl _ _
  have hZ := Nat.le_refl w0.heap.size
  unfold m_spec_l00Max at hm
  refine enterE (N := 10) Try.func175 (by rfl) Try.ntmps175 (by simp) [(0, .int .i64 (p0)), (1, .int .i64 (p1))] (by rfl) (by kernel_rfl) (fun a => ?_)
  refine cW_seq ?_
  refine cW_region ?_
  refine wS_pure 1 [(4, .int .i64 (0))] (by kernel_rfl) ?_
  refine wS_end (by rfl) ?_
  refine eX_then ?_
  refine cW_seq ?_
  refine cW_seq ?_
  refine cW_region ?_
  refine wS_pure 3 [(7, .bool (decide (p0 > p1))), (6, .int .i64 (p1)), (5, .int .i64 (p0))] (by kernel_rfl) ?_
  refine wS_end (by rfl) ?_
  refine eX_then ?_
  refine cW_cond (t := decide (p0 > p1)) (by kernel_rfl) (fun hb1 => ?_) (fun hb1 => ?_)
  · have hm := condT hb1 hm
    refine cW_seq ?_
    refine cW_region ?_
    refine wS_pure 2 [(4, .int .i64 (p0)), (8, .int .i64 (p0))] (by kernel_rfl) ?_
    refine wS_end (by rfl) ?_
    refine eX_then ?_
    refine cW_ret ?_
    refine eX_then_ret ?_
    have hq : (some p0 : Option ((Int))) = some _ := hm
    replace hq := someE hq
    subst hq
    refine eX_ret (vs := [.int .i64 (p0)]) [.tmp 4] (by rfl) ⟨by (show lkE _ _ _ = _); kernel_rfl, trivial⟩ ?_
    exact ⟨rfl, hB⟩
  · have hm := condF hb1 hm
    refine cW_skip ?_
    refine eX_then ?_
    refine cW_seq ?_
    refine cW_region ?_
    refine wS_pure 2 [(4, .int .i64 (p1)), (9, .int .i64 (p1))] (by kernel_rfl) ?_
    refine wS_end (by rfl) ?_
    refine eX_then ?_
    refine cW_ret ?_
    have hq : (some p1 : Option ((Int))) = some _ := hm
    replace hq := someE hq
    subst hq
    refine eX_ret (vs := [.int .i64 (p1)]) [.tmp 4] (by rfl) ⟨by (show lkE _ _ _ = _); kernel_rfl, trivial⟩ ?_
    exact ⟨rfl, hB⟩

set_option maxRecDepth 100000 in
/-- spec.l01Abs -/
theorem c_spec_l01Abs {w0 : World} {p0 : Int} {r : (Int)} (hm : m_spec_l01Abs p0 = some r)  :
    Calls Try.prog 192 #[.int .i64 (p0)] w0 fun e w' => e = .returned (.int .i64 (r)) ∧ Chg [] w0 w' := by
  have hB : Chg [] w0 w0 := Chg.refl _ _
  have hZ := Nat.le_refl w0.heap.size
  unfold m_spec_l01Abs at hm
  refine enterE (N := 7) Try.func192 (by rfl) Try.ntmps192 (by simp) [(0, .int .i64 (p0))] (by rfl) (by kernel_rfl) (fun a => ?_)
  refine cW_seq ?_
  refine cW_region ?_
  refine wS_pure 1 [(2, .int .i64 (0))] (by kernel_rfl) ?_
  refine wS_end (by rfl) ?_
  refine eX_then ?_
  refine cW_seq ?_
  refine cW_region ?_
  refine wS_pure 3 [(5, .int .i64 (wr (0 - p0))), (4, .int .i64 (p0)), (3, .int .i64 (p0))] (by kernel_rfl) ?_
  obtain ⟨y1, hy2, hm⟩ := bindE hm
  refine wS_calls (d := 6) (f := 175) (vs := [.int .i64 (p0), .int .i64 (wr (0 - p0))]) (by kernel_rfl) ent175 (c_spec_l00Max hy2) ?_
  rintro _ w3 ⟨rfl, hc4⟩
  replace hB := hB.inS hc4 inNil
  replace hZ := Nat.le_trans hZ hc4.size
  refine ⟨.int .i64 (y1), rfl, ?_⟩
  refine wS_pure 1 [(2, .int .i64 (y1))] (by kernel_rfl) ?_
  refine wS_end (by rfl) ?_
  refine eX_then ?_
  refine cW_ret ?_
  have hq : (some y1 : Option ((Int))) = some _ := hm
  replace hq := someE hq
  subst hq
  refine eX_ret (vs := [.int .i64 (y1)]) [.tmp 2] (by rfl) ⟨by (show lkE _ _ _ = _); kernel_rfl, trivial⟩ ?_
  exact ⟨rfl, hB⟩

set_option maxRecDepth 100000 in
/-- spec.l01Far -/
theorem c_spec_l01Far {w0 : World} {p0_0 : Int} {p0_1 : Int} {p1_0 : Int} {p1_1 : Int} {r : (Int)} (hm : m_spec_l01Far p0_0 p0_1 p1_0 p1_1 = some r)  :
    Calls Try.prog 153 #[.agg #[.int .i64 (p0_0), .int .i64 (p0_1)], .agg #[.int .i64 (p1_0), .int .i64 (p1_1)]] w0 fun e w' => e = .returned (.int .i64 (r)) ∧ Chg [] w0 w' := by
  have hB : Chg [] w0 w0 := Chg.refl _ _
  have hZ := Nat.le_refl w0.heap.size
  unfold m_spec_l01Far at hm
  refine enterE (N := 18) Try.func153 (by rfl) Try.ntmps153 (by simp) [(0, .agg #[.int .i64 (p0_0), .int .i64 (p0_1)]), (1, .agg #[.int .i64 (p1_0), .int .i64 (p1_1)])] (by rfl) (by kernel_rfl) (fun a => ?_)
  refine cW_seq ?_
  refine cW_region ?_
  refine wS_box (d := 2) (T := 37) (x := .agg #[.int .i64 (p0_0), .int .i64 (p0_1)]) (by kernel_rfl) ?_
  intro b1 w2 G3 F4 hc5
  replace F4 : Cl w2 b1 37 [.int .i64 (p0_0), .int .i64 (p0_1)] := F4
  replace hB := hB.inS hc5 inNil
  replace G3 := Nat.le_trans hZ G3
  replace hZ := Nat.le_trans hZ hc5.size
  refine wS_box (d := 3) (T := 37) (x := .agg #[.int .i64 (p1_0), .int .i64 (p1_1)]) (by kernel_rfl) ?_
  intro b7 w8 G9 F10 hc11
  replace F10 : Cl w8 b7 37 [.int .i64 (p1_0), .int .i64 (p1_1)] := F10
  have D13 : Dj [b1] [b7] := Dj.of (lt1 F4.lt) (low1 G9)
  replace F4 := F4.chg hc11 notNil
  replace hB := hB.inS hc11 inNil
  replace G9 := Nat.le_trans hZ G9
  replace hZ := Nat.le_trans hZ hc11.size
  refine wS_pure 1 [(4, .int .i64 (0))] (by kernel_rfl) ?_
  refine wS_end (by rfl) ?_
  refine eX_then ?_
  refine cW_seq ?_
  refine cW_drawnTail [] 11 (by kernel_rfl) (by kernel_rfl) (fun w26 hc27 => ?_)
  replace F4 := F4.chg hc27 notNil
  replace F10 := F10.chg hc27 notNil
  replace hB := hB.inS hc27 inNil
  replace hZ := Nat.le_trans hZ hc27.size
  have hS := Chg.refl [] w26
  have Z28 := F4
  have Z29 := F10
  refine wH_take [0] [0] [(5, .pointer (some ⟨b1, 0, none⟩))] (by kernel_rfl) (qT (qT qZ)) (by kernel_rfl) ?_
  refine wH_load1 (i := 1) (d := 6) (T := 2) (ad := ⟨b1, 0, none⟩) (v := .int .i64 (p0_0)) (by kernel_rfl) (qT (qT qZ)) (by kernel_rfl) (by kernel_rfl) vt2 (fun W hW => (Z28.chg hW notNil).cell 0) ?_
  refine wH_take [2] [2, 1, 0] [(7, .pointer (some ⟨b7, 0, none⟩))] (by kernel_rfl) (qT (qT qZ)) (by kernel_rfl) ?_
  refine wH_load1 (i := 3) (d := 8) (T := 2) (ad := ⟨b7, 0, none⟩) (v := .int .i64 (p1_0)) (by kernel_rfl) (qT (qT qZ)) (by kernel_rfl) (by kernel_rfl) vt2 (fun W hW => (Z29.chg hW notNil).cell 0) ?_
  refine wH_take [4, 6] [6, 4, 3, 2, 1, 0] [(11, .pointer (some ⟨b1, 1, none⟩)), (9, .int .i64 (wr (p0_0 - p1_0)))] (by kernel_rfl) (qT (qT qZ)) (by kernel_rfl) ?_
  refine wH_load1 (i := 7) (d := 12) (T := 2) (ad := ⟨b1, 1, none⟩) (v := .int .i64 (p0_1)) (by kernel_rfl) (qT (qT qZ)) (by kernel_rfl) (by kernel_rfl) vt2 (fun W hW => (Z28.chg hW notNil).cell 1) ?_
  refine wH_take [8] [8, 7, 6, 4, 3, 2, 1, 0] [(13, .pointer (some ⟨b7, 1, none⟩))] (by kernel_rfl) (qT (qT qZ)) (by kernel_rfl) ?_
  refine wH_load1 (i := 9) (d := 14) (T := 2) (ad := ⟨b7, 1, none⟩) (v := .int .i64 (p1_1)) (by kernel_rfl) (qT (qT qZ)) (by kernel_rfl) (by kernel_rfl) vt2 (fun W hW => (Z29.chg hW notNil).cell 1) ?_
  refine wH_take [10] [10, 9, 8, 7, 6, 4, 3, 2, 1, 0] [(15, .int .i64 (wr (p0_1 - p1_1)))] (by kernel_rfl) (qT (qT qZ)) (by kernel_rfl) ?_
  refine wH_all [5] (by rfl) (by kernel_rfl) (by simp) ⟨⟨by kernel_rfl, ?_⟩, trivial⟩
  obtain ⟨y30, hy31, hm⟩ := bindE hm
  refine wS_calls (d := 10) (f := 192) (vs := [.int .i64 (wr (p0_0 - p1_0))]) (by kernel_rfl) ent192 (c_spec_l01Abs hy31) ?_
  rintro _ w32 ⟨rfl, hc33⟩
  replace F4 := F4.chg hc33 notNil
  replace F10 := F10.chg hc33 notNil
  replace hB := hB.inS hc33 inNil
  have hSz := hS
  replace hS := hS.inS hc33 inNil
  replace hZ := Nat.le_trans hZ hc33.size
  refine ⟨.int .i64 (y30), rfl, ?_⟩
  refine wS_end (by kernel_rfl) ?_
  refine eX_KH hS ?_
  refine wH_done (by kernel_rfl) ?_
  refine eX_tail ?_
  obtain ⟨y34, hy35, hm⟩ := bindE hm
  refine wS_calls (d := 16) (f := 192) (vs := [.int .i64 (wr (p0_1 - p1_1))]) (by kernel_rfl) ent192 (c_spec_l01Abs hy35) ?_
  rintro _ w36 ⟨rfl, hc37⟩
  replace F4 := F4.chg hc37 notNil
  replace F10 := F10.chg hc37 notNil
  replace hB := hB.inS hc37 inNil
  replace hZ := Nat.le_trans hZ hc37.size
  refine ⟨.int .i64 (y34), rfl, ?_⟩
  refine wS_pure 2 [(4, .int .i64 (wr (y30 + y34))), (17, .int .i64 (wr (y30 + y34)))] (by kernel_rfl) ?_
  refine wS_end (by rfl) ?_
  refine eX_then ?_
  refine cW_ret ?_
  have hq : (some (wr (y30 + y34)) : Option ((Int))) = some _ := hm
  replace hq := someE hq
  subst hq
  refine eX_ret (vs := [.int .i64 (wr (y30 + y34))]) [.tmp 4] (by rfl) ⟨by (show lkE _ _ _ = _); kernel_rfl, trivial⟩ ?_
  exact ⟨rfl, hB⟩

set_option maxRecDepth 100000 in
/-- spec.l03Less -/
theorem c_spec_l03Less {w0 : World} {l0 : List (Int)} {A0 : Option Addr} {cap0 : Nat} {fp0 : List Nat} {l1 : List (Int)} {A1 : Option Addr} {cap1 : Nat} {fp1 : List Nat} {r : (Bool)} (hm : m_spec_l03Less l0 l1 = some r) (F0 : Sl 1 encI w0 fp0 A0 l0) (F1 : Sl 1 encI w0 fp1 A1 l1) :
    Calls Try.prog 154 #[.slice A0 (l0).length cap0, .slice A1 (l1).length cap1] w0 fun e w' => e = .returned (.bool (r)) ∧ Chg [] w0 w' := by
  have L0 := F0.low
  have L1 := F1.low
  have hB : Chg [] w0 w0 := Chg.refl _ _
  have hZ := Nat.le_refl w0.heap.size
  unfold m_spec_l03Less at hm
  refine enterE (N := 41) Try.func154 (by rfl) Try.ntmps154 (by simp) [(0, .slice A0 (l0).length cap0), (1, .slice A1 (l1).length cap1)] (by rfl) (by kernel_rfl) (fun a => ?_)
  refine cW_seq ?_
  refine cW_region ?_
  refine wS_pure 1 [(4, .bool (false))] (by kernel_rfl) ?_
  refine wS_end (by rfl) ?_
  refine eX_then ?_
  refine cW_seq ?_
  refine cW_seq ?_
  refine cW_region ?_
  refine wS_pure 1 [(5, .int .i64 (0))] (by kernel_rfl) ?_
  refine wS_end (by rfl) ?_
  refine eX_then ?_
  obtain ⟨r91, hr92, hm⟩ := bindE hm
  have hm93 := hm
  refine cW_cut (fun a' w' => Sum.inl (()) = r91 ∧ Fr 41 [(0, .slice A0 (l0).length cap0), (1, .slice A1 (l1).length cap1)] a' ∧ Sl 1 encI w' fp0 A0 l0 ∧ Sl 1 encI w' fp1 A1 l1 ∧ Chg [] w0 w' ∧ w0.heap.size ≤ w'.heap.size) ?_ ?_
  · refine cW_block ?_
    refine cW_loop _ (fun (s94 : Int) a' w' => ∃ x87 : Int, x87 = s94 ∧ Fr 41 [(0, .slice A0 (l0).length cap0), (1, .slice A1 (l1).length cap1), (5, .int .i64 (x87))] a' ∧ Sl 1 encI w' fp0 A0 l0 ∧ Sl 1 encI w' fp1 A1 l1 ∧ Chg [] w0 w' ∧ w0.heap.size ≤ w'.heap.size) hr92 (fun hst => ⟨0, rfl, Fr.of hst (by kernel_rfl), F0, F1, hB, hZ⟩) ?_
    rintro _ c95 a' w86 ⟨x87, rfl, hF88, F89, F90, hB, hZ⟩ hx96
    refine Fr.goOn hF88 (by kernel_rfl) ?_
    have hm := hx96
    unfold m_spec_l03Less_s1 at hm
    refine cW_seq ?_
    refine cW_seq ?_
    refine cW_region ?_
    refine wS_pure 5 [(10, .bool (decide (x87 < (((l0).length : Int))))), (9, .bool (decide (x87 < (((l0).length : Int))))), (8, .int .i64 (((l0).length : Int))), (7, .slice A0 (l0).length cap0), (6, .int .i64 (x87))] (by kernel_rfl) ?_
    refine wS_bool (decide (x87 < (((l0).length : Int)))) (fun hb97 => ?_) (fun hb97 => ?_)
    · have hm := condT hb97 hm
      rewrite [hb97]
      refine wS_pure 5 [(15, .bool (decide (x87 < (((l1).length : Int))))), (14, .bool (decide (x87 < (((l1).length : Int))))), (13, .int .i64 (((l1).length : Int))), (12, .slice A1 (l1).length cap1), (11, .int .i64 (x87))] (by kernel_rfl) ?_
      refine wS_end (by rfl) ?_
      refine eX_then ?_
      refine cW_cond (t := decide (x87 < (((l1).length : Int)))) (by kernel_rfl) (fun hb98 => ?_) (fun hb98 => ?_)
      · have hm := condT hb98 hm
        refine cW_skip ?_
        refine eX_then ?_
        refine cW_seq ?_
        refine cW_block ?_
        refine cW_seq ?_
        refine cW_drawnTail [] 8 (by kernel_rfl) (by kernel_rfl) (fun w107 hc108 => ?_)
        replace F89 := F89.chg hc108 Dj.nil
        replace F90 := F90.chg hc108 Dj.nil
        replace hB := hB.inS hc108 inNil
        replace hZ := Nat.le_trans hZ hc108.size
        have hS := Chg.refl [] w107
        have Z109 := F89
        have Z110 := F90
        refine wH_take [0, 1] [1, 0] [(19, .int .i64 (x87)), (18, .slice A0 (l0).length cap0)] (by kernel_rfl) (qT (qT (qB (qT (qL (qB (qT (qT qZ)))))))) (by kernel_rfl) ?_
        obtain ⟨x111, hx112, hm⟩ := bindE hm
        refine wH_idx (i := 2) (d := 20) (T := 25) (A := A0) (n := (l0).length) (cap := cap0) (kd := .i64) (m := x87) (by kernel_rfl) (qT (qT (qB (qT (qL (qB (qT (qT qZ)))))))) (by kernel_rfl) (by kernel_rfl) sl25 (F89.is hx112) ?_
        refine wH_load1 (i := 3) (d := 21) (T := 2) (ad := (elA A0 1 (x87) 0)) (v := .int .i64 (x111)) (by kernel_rfl) (qT (qT (qB (qT (qL (qB (qT (qT qZ)))))))) (by kernel_rfl) (by kernel_rfl) vt2 (fun W hW => Sl.cell (Z109.chg hW Dj.nil) hx112 0 (by rfl)) ?_
        refine wH_take [4, 5] [5, 4, 3, 2, 1, 0] [(23, .int .i64 (x87)), (22, .slice A1 (l1).length cap1)] (by kernel_rfl) (qT (qT (qB (qT (qL (qB (qT (qT qZ)))))))) (by kernel_rfl) ?_
        obtain ⟨x113, hx114, hm⟩ := bindE hm
        refine wH_idx (i := 6) (d := 24) (T := 25) (A := A1) (n := (l1).length) (cap := cap1) (kd := .i64) (m := x87) (by kernel_rfl) (qT (qT (qB (qT (qL (qB (qT (qT qZ)))))))) (by kernel_rfl) (by kernel_rfl) sl25 (F90.is hx114) ?_
        refine wH_load1 (i := 7) (d := 25) (T := 2) (ad := (elA A1 1 (x87) 0)) (v := .int .i64 (x113)) (by kernel_rfl) (qT (qT (qB (qT (qL (qB (qT (qT qZ)))))))) (by kernel_rfl) (by kernel_rfl) vt2 (fun W hW => Sl.cell (Z110.chg hW Dj.nil) hx114 0 (by rfl)) ?_
        refine wH_done (by kernel_rfl) ?_
        refine eX_tail ?_
        refine wS_pure 1 [(26, .bool (x111 != x113))] (by kernel_rfl) ?_
        refine wS_end (by rfl) ?_
        refine eX_then ?_
        refine cW_cond (t := x111 != x113) (by kernel_rfl) (fun hb115 => ?_) (fun hb115 => ?_)
        · have hm := condT hb115 hm
          refine cW_seq ?_
          refine cW_drawnTail [] 8 (by kernel_rfl) (by kernel_rfl) (fun w124 hc125 => ?_)
          replace F89 := F89.chg hc125 Dj.nil
          replace F90 := F90.chg hc125 Dj.nil
          replace hB := hB.inS hc125 inNil
          replace hZ := Nat.le_trans hZ hc125.size
          have hS := Chg.refl [] w124
          have Z126 := F89
          have Z127 := F90
          refine wH_take [0, 1] [1, 0] [(28, .int .i64 (x87)), (27, .slice A0 (l0).length cap0)] (by kernel_rfl) (qT (qT (qB (qT (qL (qB (qT (qT qZ)))))))) (by kernel_rfl) ?_
          obtain ⟨x128, hx129, hm⟩ := bindE hm
          refine wH_idx (i := 2) (d := 29) (T := 25) (A := A0) (n := (l0).length) (cap := cap0) (kd := .i64) (m := x87) (by kernel_rfl) (qT (qT (qB (qT (qL (qB (qT (qT qZ)))))))) (by kernel_rfl) (by kernel_rfl) sl25 (F89.is hx129) ?_
          refine wH_load1 (i := 3) (d := 30) (T := 2) (ad := (elA A0 1 (x87) 0)) (v := .int .i64 (x128)) (by kernel_rfl) (qT (qT (qB (qT (qL (qB (qT (qT qZ)))))))) (by kernel_rfl) (by kernel_rfl) vt2 (fun W hW => Sl.cell (Z126.chg hW Dj.nil) hx129 0 (by rfl)) ?_
          refine wH_take [4, 5] [5, 4, 3, 2, 1, 0] [(32, .int .i64 (x87)), (31, .slice A1 (l1).length cap1)] (by kernel_rfl) (qT (qT (qB (qT (qL (qB (qT (qT qZ)))))))) (by kernel_rfl) ?_
          obtain ⟨x130, hx131, hm⟩ := bindE hm
          refine wH_idx (i := 6) (d := 33) (T := 25) (A := A1) (n := (l1).length) (cap := cap1) (kd := .i64) (m := x87) (by kernel_rfl) (qT (qT (qB (qT (qL (qB (qT (qT qZ)))))))) (by kernel_rfl) (by kernel_rfl) sl25 (F90.is hx131) ?_
          refine wH_load1 (i := 7) (d := 34) (T := 2) (ad := (elA A1 1 (x87) 0)) (v := .int .i64 (x130)) (by kernel_rfl) (qT (qT (qB (qT (qL (qB (qT (qT qZ)))))))) (by kernel_rfl) (by kernel_rfl) vt2 (fun W hW => Sl.cell (Z127.chg hW Dj.nil) hx131 0 (by rfl)) ?_
          refine wH_done (by kernel_rfl) ?_
          refine eX_tail ?_
          refine wS_pure 2 [(4, .bool (decide (x128 < x130))), (35, .bool (decide (x128 < x130)))] (by kernel_rfl) ?_
          refine wS_end (by rfl) ?_
          refine eX_then ?_
          refine cW_prune [(4, .bool (decide (x128 < x130)))] (by kernel_rfl) (by kernel_rfl) (fun a132 => ?_)
          refine cW_ret ?_
          refine eX_block_ret ?_
          refine eX_then_ret ?_
          have hq : (some (Ctl.out (Sum.inr (decide (x128 < x130)))) : Option (Ctl (Int) (Sum (Unit) ((Bool))))) = some _ := hm
          replace hq := someE hq
          subst hq
          refine eX_outR hx96 (fun hr => ?_)
          subst hr
          refine eX_block_ret ?_
          refine eX_then_ret ?_
          refine eX_then_ret ?_
          have hq : (some (decide (x128 < x130)) : Option ((Bool))) = some _ := hm93
          replace hq := someE hq
          subst hq
          refine eX_ret (vs := [.bool (decide (x128 < x130))]) [.tmp 4] (by rfl) ⟨by (show lkE _ _ _ = _); kernel_rfl, trivial⟩ ?_
          exact ⟨rfl, hB⟩
        · have hm := condF hb115 hm
          refine cW_skip ?_
          refine eX_block ?_
          refine eX_then ?_
          refine cW_region ?_
          refine wS_pure 3 [(5, .int .i64 (wr (x87 + 1))), (17, .int .i64 (wr (x87 + 1))), (16, .int .i64 (x87))] (by kernel_rfl) ?_
          refine wS_end (by rfl) ?_
          have hq : (some (Ctl.next (wr (x87 + 1))) : Option (Ctl (Int) (Sum (Unit) ((Bool))))) = some _ := hm
          replace hq := someE hq
          subst hq
          exact eX_next hx96 (fun hst => ⟨wr (x87 + 1), rfl, Fr.of hst (by kernel_rfl), F89, F90, hB, hZ⟩)
      · have hm := condF hb98 hm
        refine cW_exit ?_
        refine eX_then_exit ?_
        have hq : (some (Ctl.out (Sum.inl (()))) : Option (Ctl (Int) (Sum (Unit) ((Bool))))) = some _ := hm
        replace hq := someE hq
        subst hq
        refine eX_outX hx96 (fun hr133 => ?_)
        replace hr133 := hr133.symm
        subst hr133
        refine eX_block_hit ?_
        exact eX_J (fun hst => ⟨rfl, Fr.of hst (by kernel_rfl), F89, F90, hB, hZ⟩)
    · have hm := condF hb97 hm
      rewrite [hb97]
      refine wS_pure 5 [(15, .bool (false)), (14, undef), (13, undef), (12, undef), (11, undef)] (by kernel_rfl) ?_
      refine wS_end (by rfl) ?_
      refine eX_then ?_
      refine cW_cond_f (by kernel_rfl) ?_
      refine cW_exit ?_
      refine eX_then_exit ?_
      have hq : (some (Ctl.out (Sum.inl (()))) : Option (Ctl (Int) (Sum (Unit) ((Bool))))) = some _ := hm
      replace hq := someE hq
      subst hq
      refine eX_outX hx96 (fun hr134 => ?_)
      replace hr134 := hr134.symm
      subst hr134
      refine eX_block_hit ?_
      exact eX_J (fun hst => ⟨rfl, Fr.of hst (by kernel_rfl), F89, F90, hB, hZ⟩)
  · rintro a' w82 ⟨hJ, hF83, F84, F85, hB, hZ⟩
    subst hJ
    refine Fr.goX hF83 (by kernel_rfl) ?_
    refine eX_then ?_
    refine cW_seq ?_
    refine cW_region ?_
    refine wS_pure 6 [(4, .bool (decide ((((l0).length : Int)) < (((l1).length : Int))))), (40, .bool (decide ((((l0).length : Int)) < (((l1).length : Int))))), (39, .int .i64 (((l1).length : Int))), (38, .slice A1 (l1).length cap1), (37, .int .i64 (((l0).length : Int))), (36, .slice A0 (l0).length cap0)] (by kernel_rfl) ?_
    refine wS_end (by rfl) ?_
    refine eX_then ?_
    refine cW_ret ?_
    have hq : (some (decide ((((l0).length : Int)) < (((l1).length : Int)))) : Option ((Bool))) = some _ := hm
    replace hq := someE hq
    subst hq
    refine eX_ret (vs := [.bool (decide ((((l0).length : Int)) < (((l1).length : Int))))]) [.tmp 4] (by rfl) ⟨by (show lkE _ _ _ = _); kernel_rfl, trivial⟩ ?_
    exact ⟨rfl, hB⟩

set_option maxRecDepth 100000 in
/-- laws.toPoint -/
theorem c_laws_toPoint {w0 : World} {p0_0 : Int} {p0_1 : Int} {r : (Int × Int)} (hm : m_laws_toPoint p0_0 p0_1 = some r)  :
    Calls Try.prog 37 #[.agg #[.int .i64 (p0_0), .int .i64 (p0_1)]] w0 fun e w' => e = .returned (.agg #[.int .i64 (r.1), .int .i64 (r.2)]) ∧ Chg [] w0 w' := by
  have hB : Chg [] w0 w0 := Chg.refl _ _
  have hZ := Nat.le_refl w0.heap.size
  unfold m_laws_toPoint at hm
  refine enterE (N := 11) Try.func37 (by rfl) Try.ntmps37 (by simp) [(0, .agg #[.int .i64 (p0_0), .int .i64 (p0_1)])] (by rfl) (by kernel_rfl) (fun a => ?_)
  refine cW_seq ?_
  refine cW_region ?_
  refine wS_box (d := 1) (T := 58) (x := .agg #[.int .i64 (p0_0), .int .i64 (p0_1)]) (by kernel_rfl) ?_
  intro b1 w2 G3 F4 hc5
  replace F4 : Cl w2 b1 58 [.int .i64 (p0_0), .int .i64 (p0_1)] := F4
  replace hB := hB.inS hc5 inNil
  replace G3 := Nat.le_trans hZ G3
  replace hZ := Nat.le_trans hZ hc5.size
  refine wS_alloc (d := 2) (T := 37) (z := .agg #[.int .i64 (0), .int .i64 (0)]) (by kernel_rfl) (by kernel_rfl) ?_
  intro b7 w8 G9 F10 hc11
  replace F10 : Cl w8 b7 37 [.int .i64 (0), .int .i64 (0)] := F10
  have D13 : Dj [b1] [b7] := Dj.of (lt1 F4.lt) (low1 G9)
  replace F4 := F4.chg hc11 notNil
  replace hB := hB.inS hc11 inNil
  replace G9 := Nat.le_trans hZ G9
  replace hZ := Nat.le_trans hZ hc11.size
  refine wS_end (by rfl) ?_
  refine eX_then ?_
  refine cW_seq ?_
  refine cW_region ?_
  refine wS_alloc (d := 3) (T := 37) (z := .agg #[.int .i64 (0), .int .i64 (0)]) (by kernel_rfl) (by kernel_rfl) ?_
  intro b14 w15 G16 F17 hc18
  replace F17 : Cl w15 b14 37 [.int .i64 (0), .int .i64 (0)] := F17
  have D20 : Dj [b1] [b14] := Dj.of (lt1 F4.lt) (low1 G16)
  have D21 : Dj [b7] [b14] := Dj.of (lt1 F10.lt) (low1 G16)
  replace F4 := F4.chg hc18 notNil
  replace F10 := F10.chg hc18 notNil
  replace hB := hB.inS hc18 inNil
  replace G16 := Nat.le_trans hZ G16
  replace hZ := Nat.le_trans hZ hc18.size
  refine wS_end (by rfl) ?_
  refine eX_then ?_
  refine cW_seq ?_
  refine cW_region ?_
  refine wS_pure 1 [(4, .pointer (some ⟨b1, 0, none⟩))] (by kernel_rfl) ?_
  refine wS_load1 (d := 5) (T := 2) (ad := ⟨b1, 0, none⟩) (v := .int .i64 (p0_0)) (by kernel_rfl) vt2 ((F4).cell 0) ?_
  refine wS_pure 1 [(6, .pointer (some ⟨b14, 0, none⟩))] (by kernel_rfl) ?_
  refine wS_store (T := 2) (g := b14) (o := 0) (ad := ⟨b14, 0, none⟩) (v := .int .i64 (p0_0)) (vs := [.int .i64 (p0_0)]) (by kernel_rfl) (by rfl) sz2 (by rfl) (by rfl) F17 (by simp only [List.length_cons, List.length_nil]; omega) ?_
  intro w22 F23 hc24
  replace F4 := F4.chg hc24 (dj1 D20)
  replace F10 := F10.chg hc24 (dj1 D21)
  replace hB := hB.inS hc24 (inLow (low1 G16))
  replace hZ := Nat.le_trans hZ hc24.size
  replace F23 : Cl w22 b14 37 [.int .i64 (p0_0), .int .i64 (0)] := F23
  clear F17
  refine wS_end (by rfl) ?_
  refine eX_then ?_
  refine cW_seq ?_
  refine cW_region ?_
  refine wS_pure 1 [(7, .pointer (some ⟨b1, 1, none⟩))] (by kernel_rfl) ?_
  refine wS_load1 (d := 8) (T := 2) (ad := ⟨b1, 1, none⟩) (v := .int .i64 (p0_1)) (by kernel_rfl) vt2 ((F4).cell 1) ?_
  refine wS_pure 1 [(9, .pointer (some ⟨b14, 1, none⟩))] (by kernel_rfl) ?_
  refine wS_store (T := 2) (g := b14) (o := 1) (ad := ⟨b14, 1, none⟩) (v := .int .i64 (p0_1)) (vs := [.int .i64 (p0_1)]) (by kernel_rfl) (by rfl) sz2 (by rfl) (by rfl) F23 (by simp only [List.length_cons, List.length_nil]; omega) ?_
  intro w25 F26 hc27
  replace F4 := F4.chg hc27 (dj1 D20)
  replace F10 := F10.chg hc27 (dj1 D21)
  replace hB := hB.inS hc27 (inLow (low1 G16))
  replace hZ := Nat.le_trans hZ hc27.size
  replace F26 : Cl w25 b14 37 [.int .i64 (p0_0), .int .i64 (p0_1)] := F26
  clear F23
  refine wS_end (by rfl) ?_
  refine eX_then ?_
  refine cW_seq ?_
  refine cW_region ?_
  refine wS_loadA (d := 10) (T := 37) (ad := ⟨b14, 0, none⟩) (vs := [.int .i64 (p0_0), .int .i64 (p0_1)]) (by kernel_rfl) vt37 (fun i u hu => box_cells F26 0 hu (by rfl)) ?_
  refine wS_store (T := 37) (g := b7) (o := 0) (ad := ⟨b7, 0, none⟩) (v := .agg #[.int .i64 (p0_0), .int .i64 (p0_1)]) (vs := [.int .i64 (p0_0), .int .i64 (p0_1)]) (by kernel_rfl) (by rfl) sz37 (by rfl) (by rfl) F10 (by simp only [List.length_cons, List.length_nil]; omega) ?_
  intro w28 F29 hc30
  replace F4 := F4.chg hc30 (dj1 D13)
  replace F26 := F26.chg hc30 (dj1 (D21).symm)
  replace hB := hB.inS hc30 (inLow (low1 G9))
  replace hZ := Nat.le_trans hZ hc30.size
  replace F29 : Cl w28 b7 37 [.int .i64 (p0_0), .int .i64 (p0_1)] := F29
  clear F10
  refine wS_end (by rfl) ?_
  refine eX_then ?_
  refine cW_ret ?_
  have hq : (some ((p0_0, p0_1)) : Option ((Int × Int))) = some _ := hm
  replace hq := someE hq
  subst hq
  refine eX_ret (vs := [.agg #[.int .i64 (p0_0), .int .i64 (p0_1)]]) [.cell 2 37] (by rfl) ⟨⟨⟨b7, 0, none⟩, by kernel_rfl, run_loadVarA (vs := [.int .i64 (p0_0), .int .i64 (p0_1)]) vt37 (fun i u hu => by exact box_cells F29 0 hu (by rfl))⟩, trivial⟩ ?_
  exact ⟨rfl, hB⟩

set_option maxRecDepth 100000 in
/-- laws.toPointS -/
theorem c_laws_toPointS {w0 : World} {l0 : List (Int × Int)} {A0 : Option Addr} {cap0 : Nat} {fp0 : List Nat} {r : (List (Int × Int))} (hm : m_laws_toPointS l0 = some r) (F0 : Sl 2 encII w0 fp0 A0 l0) :
    Calls Try.prog 31 #[.slice A0 (l0).length cap0] w0 fun e w' => ∃ A100 cap100 fp100, e = .returned (.slice A100 (r).length cap100) ∧ Ow 2 encII 37 w' fp100 A100 cap100 r ∧ (∀ x ∈ fp100, w0.heap.size ≤ x) ∧ Chg [] w0 w' := by
  have L0 := F0.low
  have hB : Chg [] w0 w0 := Chg.refl _ _
  have hZ := Nat.le_refl w0.heap.size
  unfold m_laws_toPointS at hm
  refine enterE (N := 23) Try.func31 (by rfl) Try.ntmps31 (by simp) [(0, .slice A0 (l0).length cap0)] (by rfl) (by kernel_rfl) (fun a => ?_)
  refine cW_seq ?_
  refine cW_region ?_
  refine wS_pure 1 [(2, .slice none 0 0)] (by kernel_rfl) ?_
  refine wS_end (by rfl) ?_
  refine eX_then ?_
  refine cW_seq ?_
  refine cW_region ?_
  refine wS_pure 2 [(6, .int .i64 (((l0).length : Int))), (5, .slice A0 (l0).length cap0)] (by kernel_rfl) ?_
  obtain ⟨_, hk2, hm⟩ := bindE hm
  replace hk2 := mkE hk2
  refine wS_make (enc := encII) (x0 := ((0, 0) : Int × Int)) (d := 7) (t := 32) (T := 37) (k1 := .i64) (k2 := .i64) (m := ((l0).length : Int)) (by kernel_rfl) el32 encII_ok (by rfl) hk2.1 hk2.2 ?_
  intro b3 w4 G5 F6 hc7
  replace F0 := F0.chg hc7 Dj.nil
  replace hB := hB.inS hc7 inNil
  replace G5 := Nat.le_trans hZ G5
  replace G5 := low1 G5
  replace hZ := Nat.le_trans hZ hc7.size
  refine wS_pure 1 [(3, .slice (some ⟨b3, 0, none⟩) (List.replicate (Int.toNat (((l0).length : Int))) (((0, 0) : Int × Int))).length (Int.toNat (((l0).length : Int))))] (by kernel_rfl) ?_
  refine wS_end (by rfl) ?_
  refine eX_then ?_
  refine cW_seq ?_
  refine cW_seq ?_
  refine cW_region ?_
  refine wS_pure 1 [(4, .int .i64 (0))] (by kernel_rfl) ?_
  refine wS_end (by rfl) ?_
  refine eX_then ?_
  obtain ⟨r51, hr52, hm⟩ := bindE hm
  have hm53 := hm
  refine cW_cut (fun a' w' => ∃ l42 : List (Int × Int), l42 = r51 ∧ Fr 23 [(3, .slice (some ⟨b3, 0, none⟩) (l42).length (Int.toNat (((l0).length : Int))))] a' ∧ Ow 2 encII 37 w' [b3] (some ⟨b3, 0, none⟩) (Int.toNat (((l0).length : Int))) l42 ∧ Chg [] w0 w' ∧ w0.heap.size ≤ w'.heap.size) ?_ ?_
  · refine cW_block ?_
    refine cW_loop _ (fun (s54 : Int × (List (Int × Int))) a' w' => ∃ x46 : Int, ∃ l47 : List (Int × Int), (x46, l47) = s54 ∧ Fr 23 [(0, .slice A0 (l0).length cap0), (3, .slice (some ⟨b3, 0, none⟩) (l47).length (Int.toNat (((l0).length : Int)))), (4, .int .i64 (x46))] a' ∧ Sl 2 encII w' fp0 A0 l0 ∧ Ow 2 encII 37 w' [b3] (some ⟨b3, 0, none⟩) (Int.toNat (((l0).length : Int))) l47 ∧ Chg [] w0 w' ∧ w0.heap.size ≤ w'.heap.size) hr52 (fun hst => ⟨0, List.replicate (Int.toNat (((l0).length : Int))) (((0, 0) : Int × Int)), rfl, Fr.of hst (by kernel_rfl), F0, F6, hB, hZ⟩) ?_
    rintro _ c55 a' w45 ⟨x46, l47, rfl, hF48, F49, F50, hB, hZ⟩ hx56
    refine Fr.goOn hF48 (by kernel_rfl) ?_
    have hm := hx56
    unfold m_laws_toPointS_s1 at hm
    refine cW_seq ?_
    refine cW_seq ?_
    refine cW_region ?_
    refine wS_pure 4 [(11, .bool (decide (x46 < (((l0).length : Int))))), (10, .int .i64 (((l0).length : Int))), (9, .slice A0 (l0).length cap0), (8, .int .i64 (x46))] (by kernel_rfl) ?_
    refine wS_end (by rfl) ?_
    refine eX_then ?_
    refine cW_cond (t := decide (x46 < (((l0).length : Int)))) (by kernel_rfl) (fun hb57 => ?_) (fun hb57 => ?_)
    · have hm := condT hb57 hm
      refine cW_skip ?_
      refine eX_then ?_
      refine cW_seq ?_
      refine cW_block ?_
      refine cW_region ?_
      refine wS_pure 4 [(17, .int .i64 (x46)), (16, .slice A0 (l0).length cap0), (15, .int .i64 (x46)), (14, .slice (some ⟨b3, 0, none⟩) (l47).length (Int.toNat (((l0).length : Int))))] (by kernel_rfl) ?_
      obtain ⟨x58, hx59, hm⟩ := bindE hm
      refine wS_idx (d := 18) (T := 51) (A := A0) (n := (l0).length) (cap := cap0) (kd := .i64) (m := x46) (by kernel_rfl) sl51 (F49.is hx59) ?_
      refine wS_loadA (d := 19) (T := 58) (ad := (elA A0 2 (x46) 0)) (vs := [.int .i64 (x58.1), .int .i64 (x58.2)]) (by kernel_rfl) vt58 (fun i u hu => Sl.cells_at F49 hx59 0 hu (by rfl)) ?_
      obtain ⟨y60, hy61, hm⟩ := bindE hm
      refine wS_calls (d := 20) (f := 37) (vs := [.agg #[.int .i64 (x58.1), .int .i64 (x58.2)]]) (by kernel_rfl) ent37 (c_laws_toPoint hy61) ?_
      rintro _ w62 ⟨rfl, hc63⟩
      replace F49 := F49.chg hc63 Dj.nil
      replace F50 := F50.chg hc63 Dj.nil
      replace hB := hB.inS hc63 inNil
      replace hZ := Nat.le_trans hZ hc63.size
      refine ⟨.agg #[.int .i64 (y60.1), .int .i64 (y60.2)], rfl, ?_⟩
      obtain ⟨x64, hx65, hm⟩ := bindE hm
      refine wS_idx (d := 21) (T := 32) (A := (some ⟨b3, 0, none⟩)) (n := (l47).length) (cap := (Int.toNat (((l0).length : Int)))) (kd := .i64) (m := x46) (by kernel_rfl) sl32 ((F50.sl encII_ok).is hx65) ?_
      refine wS_storeEl (x := x64) ((y60.1, y60.2)) (T := 37) (U := 37) (cap := (Int.toNat (((l0).length : Int)))) (j := 0) (A := (some ⟨b3, 0, none⟩)) (v := .agg #[.int .i64 (y60.1), .int .i64 (y60.2)]) (vs := [.int .i64 (y60.1), .int .i64 (y60.2)]) (m := x46) (by kernel_rfl) (by rfl) sz37 (by rfl) encII_ok F50 hx65 (by simp only [List.length_cons, List.length_nil]; omega) (by rfl) ?_
      intro w66 F67 hc68
      replace F49 := F49.chg hc68 (Dj.of L0 G5)
      replace hB := hB.inS hc68 (inLow G5)
      replace hZ := Nat.le_trans hZ hc68.size
      clear F50
      rewrite [show (l47).length = (l47.set (Int.toNat x46) ((y60.1, y60.2))).length from (List.length_set ..).symm]
      refine wS_end (by rfl) ?_
      refine eX_block ?_
      refine eX_then ?_
      refine cW_region ?_
      refine wS_pure 3 [(4, .int .i64 (wr (x46 + 1))), (13, .int .i64 (wr (x46 + 1))), (12, .int .i64 (x46))] (by kernel_rfl) ?_
      refine wS_end (by rfl) ?_
      have hq : (some (Ctl.next ((wr (x46 + 1), l47.set (Int.toNat x46) ((y60.1, y60.2))))) : Option (Ctl (Int × (List (Int × Int))) ((List (Int × Int))))) = some _ := hm
      replace hq := someE hq
      subst hq
      exact eX_next hx56 (fun hst => ⟨wr (x46 + 1), l47.set (Int.toNat x46) ((y60.1, y60.2)), rfl, Fr.of hst (by kernel_rfl), F49, F67, hB, hZ⟩)
    · have hm := condF hb57 hm
      refine cW_exit ?_
      refine eX_then_exit ?_
      have hq : (some (Ctl.out l47) : Option (Ctl (Int × (List (Int × Int))) ((List (Int × Int))))) = some _ := hm
      replace hq := someE hq
      subst hq
      refine eX_outX hx56 (fun hr69 => ?_)
      replace hr69 := hr69.symm
      subst hr69
      refine eX_block_hit ?_
      exact eX_J (fun hst => ⟨l47, rfl, Fr.of hst (by kernel_rfl), F50, hB, hZ⟩)
  · rintro a' w41 ⟨l42, hJ, hF43, F44, hB, hZ⟩
    subst hJ
    refine Fr.goX hF43 (by kernel_rfl) ?_
    refine eX_then ?_
    refine cW_seq ?_
    refine cW_region ?_
    refine wS_pure 2 [(2, .slice (some ⟨b3, 0, none⟩) (l42).length (Int.toNat (((l0).length : Int)))), (22, .slice (some ⟨b3, 0, none⟩) (l42).length (Int.toNat (((l0).length : Int))))] (by kernel_rfl) ?_
    refine wS_end (by rfl) ?_
    refine eX_then ?_
    refine cW_ret ?_
    have hq : (some l42 : Option ((List (Int × Int)))) = some _ := hm
    replace hq := someE hq
    subst hq
    refine eX_ret (vs := [.slice (some ⟨b3, 0, none⟩) (l42).length (Int.toNat (((l0).length : Int)))]) [.tmp 2] (by rfl) ⟨by (show lkE _ _ _ = _); kernel_rfl, trivial⟩ ?_
    exact ⟨(some ⟨b3, 0, none⟩), (Int.toNat (((l0).length : Int))), [b3], rfl, F44, G5, hB⟩

set_option maxRecDepth 100000 in
/-- laws.eqPoint -/
theorem c_laws_eqPoint {w0 : World} {p0_0 : Int} {p0_1 : Int} {p1_0 : Int} {p1_1 : Int} {r : (Bool)} (hm : m_laws_eqPoint p0_0 p0_1 p1_0 p1_1 = some r)  :
    Calls Try.prog 98 #[.agg #[.int .i64 (p0_0), .int .i64 (p0_1)], .agg #[.int .i64 (p1_0), .int .i64 (p1_1)]] w0 fun e w' => e = .returned (.bool (r)) ∧ Chg [] w0 w' := by
  have hB : Chg [] w0 w0 := Chg.refl _ _
  have hZ := Nat.le_refl w0.heap.size
  unfold m_laws_eqPoint at hm
  refine enterE (N := 15) Try.func98 (by rfl) Try.ntmps98 (by simp) [(0, .agg #[.int .i64 (p0_0), .int .i64 (p0_1)]), (1, .agg #[.int .i64 (p1_0), .int .i64 (p1_1)])] (by rfl) (by kernel_rfl) (fun a => ?_)
  refine cW_seq ?_
  refine cW_region ?_
  refine wS_box (d := 2) (T := 37) (x := .agg #[.int .i64 (p0_0), .int .i64 (p0_1)]) (by kernel_rfl) ?_
  intro b1 w2 G3 F4 hc5
  replace F4 : Cl w2 b1 37 [.int .i64 (p0_0), .int .i64 (p0_1)] := F4
  replace hB := hB.inS hc5 inNil
  replace G3 := Nat.le_trans hZ G3
  replace hZ := Nat.le_trans hZ hc5.size
  refine wS_box (d := 3) (T := 37) (x := .agg #[.int .i64 (p1_0), .int .i64 (p1_1)]) (by kernel_rfl) ?_
  intro b7 w8 G9 F10 hc11
  replace F10 : Cl w8 b7 37 [.int .i64 (p1_0), .int .i64 (p1_1)] := F10
  have D13 : Dj [b1] [b7] := Dj.of (lt1 F4.lt) (low1 G9)
  replace F4 := F4.chg hc11 notNil
  replace hB := hB.inS hc11 inNil
  replace G9 := Nat.le_trans hZ G9
  replace hZ := Nat.le_trans hZ hc11.size
  refine wS_pure 1 [(4, .bool (false))] (by kernel_rfl) ?_
  refine wS_end (by rfl) ?_
  refine eX_then ?_
  refine cW_seq ?_
  refine cW_seq ?_
  refine cW_region ?_
  refine wS_pure 1 [(5, .pointer (some ⟨b1, 0, none⟩))] (by kernel_rfl) ?_
  refine wS_load1 (d := 6) (T := 2) (ad := ⟨b1, 0, none⟩) (v := .int .i64 (p0_0)) (by kernel_rfl) vt2 ((F4).cell 0) ?_
  refine wS_pure 1 [(7, .pointer (some ⟨b7, 0, none⟩))] (by kernel_rfl) ?_
  refine wS_load1 (d := 8) (T := 2) (ad := ⟨b7, 0, none⟩) (v := .int .i64 (p1_0)) (by kernel_rfl) vt2 ((F10).cell 0) ?_
  refine wS_pure 1 [(9, .bool (p0_0 != p1_0))] (by kernel_rfl) ?_
  refine wS_end (by rfl) ?_
  refine eX_then ?_
  refine cW_cond (t := p0_0 != p1_0) (by kernel_rfl) (fun hb14 => ?_) (fun hb14 => ?_)
  · have hm := condT hb14 hm
    refine cW_seq ?_
    refine cW_region ?_
    refine wS_pure 1 [(4, .bool (false))] (by kernel_rfl) ?_
    refine wS_end (by rfl) ?_
    refine eX_then ?_
    refine cW_ret ?_
    refine eX_then_ret ?_
    have hq : (some false : Option ((Bool))) = some _ := hm
    replace hq := someE hq
    subst hq
    refine eX_ret (vs := [.bool (false)]) [.tmp 4] (by rfl) ⟨by (show lkE _ _ _ = _); kernel_rfl, trivial⟩ ?_
    exact ⟨rfl, hB⟩
  · have hm := condF hb14 hm
    refine cW_skip ?_
    refine eX_then ?_
    refine cW_seq ?_
    refine cW_seq ?_
    refine cW_region ?_
    refine wS_pure 1 [(10, .pointer (some ⟨b1, 1, none⟩))] (by kernel_rfl) ?_
    refine wS_load1 (d := 11) (T := 2) (ad := ⟨b1, 1, none⟩) (v := .int .i64 (p0_1)) (by kernel_rfl) vt2 ((F4).cell 1) ?_
    refine wS_pure 1 [(12, .pointer (some ⟨b7, 1, none⟩))] (by kernel_rfl) ?_
    refine wS_load1 (d := 13) (T := 2) (ad := ⟨b7, 1, none⟩) (v := .int .i64 (p1_1)) (by kernel_rfl) vt2 ((F10).cell 1) ?_
    refine wS_pure 1 [(14, .bool (p0_1 != p1_1))] (by kernel_rfl) ?_
    refine wS_end (by rfl) ?_
    refine eX_then ?_
    refine cW_cond (t := p0_1 != p1_1) (by kernel_rfl) (fun hb15 => ?_) (fun hb15 => ?_)
    · have hm := condT hb15 hm
      refine cW_seq ?_
      refine cW_region ?_
      refine wS_pure 1 [(4, .bool (false))] (by kernel_rfl) ?_
      refine wS_end (by rfl) ?_
      refine eX_then ?_
      refine cW_ret ?_
      refine eX_then_ret ?_
      have hq : (some false : Option ((Bool))) = some _ := hm
      replace hq := someE hq
      subst hq
      refine eX_ret (vs := [.bool (false)]) [.tmp 4] (by rfl) ⟨by (show lkE _ _ _ = _); kernel_rfl, trivial⟩ ?_
      exact ⟨rfl, hB⟩
    · have hm := condF hb15 hm
      refine cW_skip ?_
      refine eX_then ?_
      refine cW_seq ?_
      refine cW_region ?_
      refine wS_pure 1 [(4, .bool (true))] (by kernel_rfl) ?_
      refine wS_end (by rfl) ?_
      refine eX_then ?_
      refine cW_ret ?_
      have hq : (some true : Option ((Bool))) = some _ := hm
      replace hq := someE hq
      subst hq
      refine eX_ret (vs := [.bool (true)]) [.tmp 4] (by rfl) ⟨by (show lkE _ _ _ = _); kernel_rfl, trivial⟩ ?_
      exact ⟨rfl, hB⟩

set_option maxRecDepth 100000 in
/-- laws.eqPointS -/
theorem c_laws_eqPointS {w0 : World} {l0 : List (Int × Int)} {A0 : Option Addr} {cap0 : Nat} {fp0 : List Nat} {l1 : List (Int × Int)} {A1 : Option Addr} {cap1 : Nat} {fp1 : List Nat} {r : (Bool)} (hm : m_laws_eqPointS l0 l1 = some r) (F0 : Sl 2 encII w0 fp0 A0 l0) (F1 : Sl 2 encII w0 fp1 A1 l1) :
    Calls Try.prog 33 #[.slice A0 (l0).length cap0, .slice A1 (l1).length cap1] w0 fun e w' => e = .returned (.bool (r)) ∧ Chg [] w0 w' := by
  have L0 := F0.low
  have L1 := F1.low
  have hB : Chg [] w0 w0 := Chg.refl _ _
  have hZ := Nat.le_refl w0.heap.size
  unfold m_laws_eqPointS at hm
  refine enterE (N := 27) Try.func33 (by rfl) Try.ntmps33 (by simp) [(0, .slice A0 (l0).length cap0), (1, .slice A1 (l1).length cap1)] (by rfl) (by kernel_rfl) (fun a => ?_)
  refine cW_seq ?_
  refine cW_region ?_
  refine wS_pure 1 [(4, .bool (false))] (by kernel_rfl) ?_
  refine wS_end (by rfl) ?_
  refine eX_then ?_
  refine cW_seq ?_
  refine cW_seq ?_
  refine cW_region ?_
  refine wS_pure 5 [(10, .bool ((((l0).length : Int)) != (((l1).length : Int)))), (9, .int .i64 (((l1).length : Int))), (8, .slice A1 (l1).length cap1), (7, .int .i64 (((l0).length : Int))), (6, .slice A0 (l0).length cap0)] (by kernel_rfl) ?_
  refine wS_end (by rfl) ?_
  refine eX_then ?_
  refine cW_cond (t := (((l0).length : Int)) != (((l1).length : Int))) (by kernel_rfl) (fun hb3 => ?_) (fun hb3 => ?_)
  · have hm := condT hb3 hm
    refine cW_seq ?_
    refine cW_region ?_
    refine wS_pure 1 [(4, .bool (false))] (by kernel_rfl) ?_
    refine wS_end (by rfl) ?_
    refine eX_then ?_
    refine cW_ret ?_
    refine eX_then_ret ?_
    have hq : (some false : Option ((Bool))) = some _ := hm
    replace hq := someE hq
    subst hq
    refine eX_ret (vs := [.bool (false)]) [.tmp 4] (by rfl) ⟨by (show lkE _ _ _ = _); kernel_rfl, trivial⟩ ?_
    exact ⟨rfl, hB⟩
  · have hm := condF hb3 hm
    refine cW_skip ?_
    refine eX_then ?_
    refine cW_seq ?_
    refine cW_seq ?_
    refine cW_region ?_
    refine wS_pure 1 [(5, .int .i64 (0))] (by kernel_rfl) ?_
    refine wS_end (by rfl) ?_
    refine eX_then ?_
    obtain ⟨r70, hr71, hm⟩ := bindE hm
    have hm72 := hm
    refine cW_cut (fun a' w' => Sum.inl (()) = r70 ∧ Fr 27 [] a' ∧ Chg [] w0 w' ∧ w0.heap.size ≤ w'.heap.size) ?_ ?_
    · refine cW_block ?_
      refine cW_loop _ (fun (s73 : Int) a' w' => ∃ x66 : Int, x66 = s73 ∧ Fr 27 [(0, .slice A0 (l0).length cap0), (1, .slice A1 (l1).length cap1), (5, .int .i64 (x66))] a' ∧ Sl 2 encII w' fp0 A0 l0 ∧ Sl 2 encII w' fp1 A1 l1 ∧ Chg [] w0 w' ∧ w0.heap.size ≤ w'.heap.size) hr71 (fun hst => ⟨0, rfl, Fr.of hst (by kernel_rfl), F0, F1, hB, hZ⟩) ?_
      rintro _ c74 a' w65 ⟨x66, rfl, hF67, F68, F69, hB, hZ⟩ hx75
      refine Fr.goOn hF67 (by kernel_rfl) ?_
      have hm := hx75
      unfold m_laws_eqPointS_s1 at hm
      refine cW_seq ?_
      refine cW_seq ?_
      refine cW_region ?_
      refine wS_pure 4 [(14, .bool (decide (x66 < (((l0).length : Int))))), (13, .int .i64 (((l0).length : Int))), (12, .slice A0 (l0).length cap0), (11, .int .i64 (x66))] (by kernel_rfl) ?_
      refine wS_end (by rfl) ?_
      refine eX_then ?_
      refine cW_cond (t := decide (x66 < (((l0).length : Int)))) (by kernel_rfl) (fun hb76 => ?_) (fun hb76 => ?_)
      · have hm := condT hb76 hm
        refine cW_skip ?_
        refine eX_then ?_
        refine cW_seq ?_
        refine cW_block ?_
        refine cW_seq ?_
        refine cW_drawnTail [] 8 (by kernel_rfl) (by kernel_rfl) (fun w89 hc90 => ?_)
        replace F68 := F68.chg hc90 Dj.nil
        replace F69 := F69.chg hc90 Dj.nil
        replace hB := hB.inS hc90 inNil
        replace hZ := Nat.le_trans hZ hc90.size
        have hS := Chg.refl [] w89
        have Z91 := F68
        have Z92 := F69
        refine wH_take [0, 1] [1, 0] [(18, .int .i64 (x66)), (17, .slice A0 (l0).length cap0)] (by kernel_rfl) (qT (qT (qB (qT (qL (qB (qT (qT qZ)))))))) (by kernel_rfl) ?_
        obtain ⟨x93, hx94, hm⟩ := bindE hm
        refine wH_idx (i := 2) (d := 19) (T := 32) (A := A0) (n := (l0).length) (cap := cap0) (kd := .i64) (m := x66) (by kernel_rfl) (qT (qT (qB (qT (qL (qB (qT (qT qZ)))))))) (by kernel_rfl) (by kernel_rfl) sl32 (F68.is hx94) ?_
        refine wH_loadA (i := 3) (d := 20) (T := 37) (ad := (elA A0 2 (x66) 0)) (vs := [.int .i64 (x93.1), .int .i64 (x93.2)]) (by kernel_rfl) (qT (qT (qB (qT (qL (qB (qT (qT qZ)))))))) (by kernel_rfl) (by kernel_rfl) vt37 (fun W hW i u hu => Sl.cells_at (Z91.chg hW Dj.nil) hx94 0 hu (by rfl)) ?_
        refine wH_take [4, 5] [5, 4, 3, 2, 1, 0] [(22, .int .i64 (x66)), (21, .slice A1 (l1).length cap1)] (by kernel_rfl) (qT (qT (qB (qT (qL (qB (qT (qT qZ)))))))) (by kernel_rfl) ?_
        obtain ⟨x95, hx96, hm⟩ := bindE hm
        refine wH_idx (i := 6) (d := 23) (T := 32) (A := A1) (n := (l1).length) (cap := cap1) (kd := .i64) (m := x66) (by kernel_rfl) (qT (qT (qB (qT (qL (qB (qT (qT qZ)))))))) (by kernel_rfl) (by kernel_rfl) sl32 (F69.is hx96) ?_
        refine wH_loadA (i := 7) (d := 24) (T := 37) (ad := (elA A1 2 (x66) 0)) (vs := [.int .i64 (x95.1), .int .i64 (x95.2)]) (by kernel_rfl) (qT (qT (qB (qT (qL (qB (qT (qT qZ)))))))) (by kernel_rfl) (by kernel_rfl) vt37 (fun W hW i u hu => Sl.cells_at (Z92.chg hW Dj.nil) hx96 0 hu (by rfl)) ?_
        refine wH_done (by kernel_rfl) ?_
        refine eX_tail ?_
        obtain ⟨y97, hy98, hm⟩ := bindE hm
        refine wS_calls (d := 25) (f := 98) (vs := [.agg #[.int .i64 (x93.1), .int .i64 (x93.2)], .agg #[.int .i64 (x95.1), .int .i64 (x95.2)]]) (by kernel_rfl) ent98 (c_laws_eqPoint hy98) ?_
        rintro _ w99 ⟨rfl, hc100⟩
        replace F68 := F68.chg hc100 Dj.nil
        replace F69 := F69.chg hc100 Dj.nil
        replace hB := hB.inS hc100 inNil
        replace hZ := Nat.le_trans hZ hc100.size
        refine ⟨.bool (y97), rfl, ?_⟩
        refine wS_pure 1 [(26, .bool (!y97))] (by kernel_rfl) ?_
        refine wS_end (by rfl) ?_
        refine eX_then ?_
        refine cW_cond (t := !y97) (by kernel_rfl) (fun hb101 => ?_) (fun hb101 => ?_)
        · have hm := condT hb101 hm
          refine cW_seq ?_
          refine cW_region ?_
          refine wS_pure 1 [(4, .bool (false))] (by kernel_rfl) ?_
          refine wS_end (by rfl) ?_
          refine eX_then ?_
          refine cW_ret ?_
          refine eX_block_ret ?_
          refine eX_then_ret ?_
          have hq : (some (Ctl.out (Sum.inr false)) : Option (Ctl (Int) (Sum (Unit) ((Bool))))) = some _ := hm
          replace hq := someE hq
          subst hq
          refine eX_outR hx75 (fun hr => ?_)
          subst hr
          refine eX_block_ret ?_
          refine eX_then_ret ?_
          refine eX_then_ret ?_
          have hq : (some false : Option ((Bool))) = some _ := hm72
          replace hq := someE hq
          subst hq
          refine eX_ret (vs := [.bool (false)]) [.tmp 4] (by rfl) ⟨by (show lkE _ _ _ = _); kernel_rfl, trivial⟩ ?_
          exact ⟨rfl, hB⟩
        · have hm := condF hb101 hm
          refine cW_skip ?_
          refine eX_block ?_
          refine eX_then ?_
          refine cW_region ?_
          refine wS_pure 3 [(5, .int .i64 (wr (x66 + 1))), (16, .int .i64 (wr (x66 + 1))), (15, .int .i64 (x66))] (by kernel_rfl) ?_
          refine wS_end (by rfl) ?_
          have hq : (some (Ctl.next (wr (x66 + 1))) : Option (Ctl (Int) (Sum (Unit) ((Bool))))) = some _ := hm
          replace hq := someE hq
          subst hq
          exact eX_next hx75 (fun hst => ⟨wr (x66 + 1), rfl, Fr.of hst (by kernel_rfl), F68, F69, hB, hZ⟩)
      · have hm := condF hb76 hm
        refine cW_exit ?_
        refine eX_then_exit ?_
        have hq : (some (Ctl.out (Sum.inl (()))) : Option (Ctl (Int) (Sum (Unit) ((Bool))))) = some _ := hm
        replace hq := someE hq
        subst hq
        refine eX_outX hx75 (fun hr102 => ?_)
        replace hr102 := hr102.symm
        subst hr102
        refine eX_block_hit ?_
        exact eX_J (fun hst => ⟨rfl, Fr.of hst (by kernel_rfl), hB, hZ⟩)
    · rintro a' w63 ⟨hJ, hF64, hB, hZ⟩
      subst hJ
      refine Fr.goX hF64 (by kernel_rfl) ?_
      refine eX_then ?_
      refine cW_seq ?_
      refine cW_region ?_
      refine wS_pure 1 [(4, .bool (true))] (by kernel_rfl) ?_
      refine wS_end (by rfl) ?_
      refine eX_then ?_
      refine cW_ret ?_
      have hq : (some true : Option ((Bool))) = some _ := hm
      replace hq := someE hq
      subst hq
      refine eX_ret (vs := [.bool (true)]) [.tmp 4] (by rfl) ⟨by (show lkE _ _ _ = _); kernel_rfl, trivial⟩ ?_
      exact ⟨rfl, hB⟩

set_option maxRecDepth 100000 in
/-- laws.eqInt64S -/
theorem c_laws_eqInt64S {w0 : World} {l0 : List (Int)} {A0 : Option Addr} {cap0 : Nat} {fp0 : List Nat} {l1 : List (Int)} {A1 : Option Addr} {cap1 : Nat} {fp1 : List Nat} {r : (Bool)} (hm : m_laws_eqInt64S l0 l1 = some r) (F0 : Sl 1 encI w0 fp0 A0 l0) (F1 : Sl 1 encI w0 fp1 A1 l1) :
    Calls Try.prog 128 #[.slice A0 (l0).length cap0, .slice A1 (l1).length cap1] w0 fun e w' => e = .returned (.bool (r)) ∧ Chg [] w0 w' := by
  have L0 := F0.low
  have L1 := F1.low
  have hB : Chg [] w0 w0 := Chg.refl _ _
  have hZ := Nat.le_refl w0.heap.size
  unfold m_laws_eqInt64S at hm
  refine enterE (N := 26) Try.func128 (by rfl) Try.ntmps128 (by simp) [(0, .slice A0 (l0).length cap0), (1, .slice A1 (l1).length cap1)] (by rfl) (by kernel_rfl) (fun a => ?_)
  refine cW_seq ?_
  refine cW_region ?_
  refine wS_pure 1 [(4, .bool (false))] (by kernel_rfl) ?_
  refine wS_end (by rfl) ?_
  refine eX_then ?_
  refine cW_seq ?_
  refine cW_seq ?_
  refine cW_region ?_
  refine wS_pure 5 [(10, .bool ((((l0).length : Int)) != (((l1).length : Int)))), (9, .int .i64 (((l1).length : Int))), (8, .slice A1 (l1).length cap1), (7, .int .i64 (((l0).length : Int))), (6, .slice A0 (l0).length cap0)] (by kernel_rfl) ?_
  refine wS_end (by rfl) ?_
  refine eX_then ?_
  refine cW_cond (t := (((l0).length : Int)) != (((l1).length : Int))) (by kernel_rfl) (fun hb3 => ?_) (fun hb3 => ?_)
  · have hm := condT hb3 hm
    refine cW_seq ?_
    refine cW_region ?_
    refine wS_pure 1 [(4, .bool (false))] (by kernel_rfl) ?_
    refine wS_end (by rfl) ?_
    refine eX_then ?_
    refine cW_ret ?_
    refine eX_then_ret ?_
    have hq : (some false : Option ((Bool))) = some _ := hm
    replace hq := someE hq
    subst hq
    refine eX_ret (vs := [.bool (false)]) [.tmp 4] (by rfl) ⟨by (show lkE _ _ _ = _); kernel_rfl, trivial⟩ ?_
    exact ⟨rfl, hB⟩
  · have hm := condF hb3 hm
    refine cW_skip ?_
    refine eX_then ?_
    refine cW_seq ?_
    refine cW_seq ?_
    refine cW_region ?_
    refine wS_pure 1 [(5, .int .i64 (0))] (by kernel_rfl) ?_
    refine wS_end (by rfl) ?_
    refine eX_then ?_
    obtain ⟨r54, hr55, hm⟩ := bindE hm
    have hm56 := hm
    refine cW_cut (fun a' w' => Sum.inl (()) = r54 ∧ Fr 26 [] a' ∧ Chg [] w0 w' ∧ w0.heap.size ≤ w'.heap.size) ?_ ?_
    · refine cW_block ?_
      refine cW_loop _ (fun (s57 : Int) a' w' => ∃ x50 : Int, x50 = s57 ∧ Fr 26 [(0, .slice A0 (l0).length cap0), (1, .slice A1 (l1).length cap1), (5, .int .i64 (x50))] a' ∧ Sl 1 encI w' fp0 A0 l0 ∧ Sl 1 encI w' fp1 A1 l1 ∧ Chg [] w0 w' ∧ w0.heap.size ≤ w'.heap.size) hr55 (fun hst => ⟨0, rfl, Fr.of hst (by kernel_rfl), F0, F1, hB, hZ⟩) ?_
      rintro _ c58 a' w49 ⟨x50, rfl, hF51, F52, F53, hB, hZ⟩ hx59
      refine Fr.goOn hF51 (by kernel_rfl) ?_
      have hm := hx59
      unfold m_laws_eqInt64S_s1 at hm
      refine cW_seq ?_
      refine cW_seq ?_
      refine cW_region ?_
      refine wS_pure 4 [(14, .bool (decide (x50 < (((l0).length : Int))))), (13, .int .i64 (((l0).length : Int))), (12, .slice A0 (l0).length cap0), (11, .int .i64 (x50))] (by kernel_rfl) ?_
      refine wS_end (by rfl) ?_
      refine eX_then ?_
      refine cW_cond (t := decide (x50 < (((l0).length : Int)))) (by kernel_rfl) (fun hb60 => ?_) (fun hb60 => ?_)
      · have hm := condT hb60 hm
        refine cW_skip ?_
        refine eX_then ?_
        refine cW_seq ?_
        refine cW_block ?_
        refine cW_seq ?_
        refine cW_drawnTail [] 8 (by kernel_rfl) (by kernel_rfl) (fun w69 hc70 => ?_)
        replace F52 := F52.chg hc70 Dj.nil
        replace F53 := F53.chg hc70 Dj.nil
        replace hB := hB.inS hc70 inNil
        replace hZ := Nat.le_trans hZ hc70.size
        have hS := Chg.refl [] w69
        have Z71 := F52
        have Z72 := F53
        refine wH_take [0, 1] [1, 0] [(18, .int .i64 (x50)), (17, .slice A0 (l0).length cap0)] (by kernel_rfl) (qT (qT (qB (qT (qL (qB (qT (qT qZ)))))))) (by kernel_rfl) ?_
        obtain ⟨x73, hx74, hm⟩ := bindE hm
        refine wH_idx (i := 2) (d := 19) (T := 25) (A := A0) (n := (l0).length) (cap := cap0) (kd := .i64) (m := x50) (by kernel_rfl) (qT (qT (qB (qT (qL (qB (qT (qT qZ)))))))) (by kernel_rfl) (by kernel_rfl) sl25 (F52.is hx74) ?_
        refine wH_load1 (i := 3) (d := 20) (T := 2) (ad := (elA A0 1 (x50) 0)) (v := .int .i64 (x73)) (by kernel_rfl) (qT (qT (qB (qT (qL (qB (qT (qT qZ)))))))) (by kernel_rfl) (by kernel_rfl) vt2 (fun W hW => Sl.cell (Z71.chg hW Dj.nil) hx74 0 (by rfl)) ?_
        refine wH_take [4, 5] [5, 4, 3, 2, 1, 0] [(22, .int .i64 (x50)), (21, .slice A1 (l1).length cap1)] (by kernel_rfl) (qT (qT (qB (qT (qL (qB (qT (qT qZ)))))))) (by kernel_rfl) ?_
        obtain ⟨x75, hx76, hm⟩ := bindE hm
        refine wH_idx (i := 6) (d := 23) (T := 25) (A := A1) (n := (l1).length) (cap := cap1) (kd := .i64) (m := x50) (by kernel_rfl) (qT (qT (qB (qT (qL (qB (qT (qT qZ)))))))) (by kernel_rfl) (by kernel_rfl) sl25 (F53.is hx76) ?_
        refine wH_load1 (i := 7) (d := 24) (T := 2) (ad := (elA A1 1 (x50) 0)) (v := .int .i64 (x75)) (by kernel_rfl) (qT (qT (qB (qT (qL (qB (qT (qT qZ)))))))) (by kernel_rfl) (by kernel_rfl) vt2 (fun W hW => Sl.cell (Z72.chg hW Dj.nil) hx76 0 (by rfl)) ?_
        refine wH_done (by kernel_rfl) ?_
        refine eX_tail ?_
        refine wS_pure 1 [(25, .bool (x73 != x75))] (by kernel_rfl) ?_
        refine wS_end (by rfl) ?_
        refine eX_then ?_
        refine cW_cond (t := x73 != x75) (by kernel_rfl) (fun hb77 => ?_) (fun hb77 => ?_)
        · have hm := condT hb77 hm
          refine cW_seq ?_
          refine cW_region ?_
          refine wS_pure 1 [(4, .bool (false))] (by kernel_rfl) ?_
          refine wS_end (by rfl) ?_
          refine eX_then ?_
          refine cW_ret ?_
          refine eX_block_ret ?_
          refine eX_then_ret ?_
          have hq : (some (Ctl.out (Sum.inr false)) : Option (Ctl (Int) (Sum (Unit) ((Bool))))) = some _ := hm
          replace hq := someE hq
          subst hq
          refine eX_outR hx59 (fun hr => ?_)
          subst hr
          refine eX_block_ret ?_
          refine eX_then_ret ?_
          refine eX_then_ret ?_
          have hq : (some false : Option ((Bool))) = some _ := hm56
          replace hq := someE hq
          subst hq
          refine eX_ret (vs := [.bool (false)]) [.tmp 4] (by rfl) ⟨by (show lkE _ _ _ = _); kernel_rfl, trivial⟩ ?_
          exact ⟨rfl, hB⟩
        · have hm := condF hb77 hm
          refine cW_skip ?_
          refine eX_block ?_
          refine eX_then ?_
          refine cW_region ?_
          refine wS_pure 3 [(5, .int .i64 (wr (x50 + 1))), (16, .int .i64 (wr (x50 + 1))), (15, .int .i64 (x50))] (by kernel_rfl) ?_
          refine wS_end (by rfl) ?_
          have hq : (some (Ctl.next (wr (x50 + 1))) : Option (Ctl (Int) (Sum (Unit) ((Bool))))) = some _ := hm
          replace hq := someE hq
          subst hq
          exact eX_next hx59 (fun hst => ⟨wr (x50 + 1), rfl, Fr.of hst (by kernel_rfl), F52, F53, hB, hZ⟩)
      · have hm := condF hb60 hm
        refine cW_exit ?_
        refine eX_then_exit ?_
        have hq : (some (Ctl.out (Sum.inl (()))) : Option (Ctl (Int) (Sum (Unit) ((Bool))))) = some _ := hm
        replace hq := someE hq
        subst hq
        refine eX_outX hx59 (fun hr78 => ?_)
        replace hr78 := hr78.symm
        subst hr78
        refine eX_block_hit ?_
        exact eX_J (fun hst => ⟨rfl, Fr.of hst (by kernel_rfl), hB, hZ⟩)
    · rintro a' w47 ⟨hJ, hF48, hB, hZ⟩
      subst hJ
      refine Fr.goX hF48 (by kernel_rfl) ?_
      refine eX_then ?_
      refine cW_seq ?_
      refine cW_region ?_
      refine wS_pure 1 [(4, .bool (true))] (by kernel_rfl) ?_
      refine wS_end (by rfl) ?_
      refine eX_then ?_
      refine cW_ret ?_
      have hq : (some true : Option ((Bool))) = some _ := hm
      replace hq := someE hq
      subst hq
      refine eX_ret (vs := [.bool (true)]) [.tmp 4] (by rfl) ⟨by (show lkE _ _ _ = _); kernel_rfl, trivial⟩ ?_
      exact ⟨rfl, hB⟩

set_option maxRecDepth 100000 in
/-- laws.eqInt64SS -/
theorem c_laws_eqInt64SS {w0 : World} {l0 : List (List (Int))} {A0 : Option Addr} {cap0 : Nat} {fp0 : List Nat} {l1 : List (List (Int))} {A1 : Option Addr} {cap1 : Nat} {fp1 : List Nat} {r : (Bool)} (hm : m_laws_eqInt64SS l0 l1 = some r) (F0 : SlR 1 encI w0 fp0 A0 l0) (F1 : SlR 1 encI w0 fp1 A1 l1) :
    Calls Try.prog 103 #[.slice A0 (l0).length cap0, .slice A1 (l1).length cap1] w0 fun e w' => e = .returned (.bool (r)) ∧ Chg [] w0 w' := by
  have L0 := F0.low
  have L1 := F1.low
  have hB : Chg [] w0 w0 := Chg.refl _ _
  have hZ := Nat.le_refl w0.heap.size
  unfold m_laws_eqInt64SS at hm
  refine enterE (N := 27) Try.func103 (by rfl) Try.ntmps103 (by simp) [(0, .slice A0 (l0).length cap0), (1, .slice A1 (l1).length cap1)] (by rfl) (by kernel_rfl) (fun a => ?_)
  refine cW_seq ?_
  refine cW_region ?_
  refine wS_pure 1 [(4, .bool (false))] (by kernel_rfl) ?_
  refine wS_end (by rfl) ?_
  refine eX_then ?_
  refine cW_seq ?_
  refine cW_seq ?_
  refine cW_region ?_
  refine wS_pure 5 [(10, .bool ((((l0).length : Int)) != (((l1).length : Int)))), (9, .int .i64 (((l1).length : Int))), (8, .slice A1 (l1).length cap1), (7, .int .i64 (((l0).length : Int))), (6, .slice A0 (l0).length cap0)] (by kernel_rfl) ?_
  refine wS_end (by rfl) ?_
  refine eX_then ?_
  refine cW_cond (t := (((l0).length : Int)) != (((l1).length : Int))) (by kernel_rfl) (fun hb3 => ?_) (fun hb3 => ?_)
  · have hm := condT hb3 hm
    refine cW_seq ?_
    refine cW_region ?_
    refine wS_pure 1 [(4, .bool (false))] (by kernel_rfl) ?_
    refine wS_end (by rfl) ?_
    refine eX_then ?_
    refine cW_ret ?_
    refine eX_then_ret ?_
    have hq : (some false : Option ((Bool))) = some _ := hm
    replace hq := someE hq
    subst hq
    refine eX_ret (vs := [.bool (false)]) [.tmp 4] (by rfl) ⟨by (show lkE _ _ _ = _); kernel_rfl, trivial⟩ ?_
    exact ⟨rfl, hB⟩
  · have hm := condF hb3 hm
    refine cW_skip ?_
    refine eX_then ?_
    refine cW_seq ?_
    refine cW_seq ?_
    refine cW_region ?_
    refine wS_pure 1 [(5, .int .i64 (0))] (by kernel_rfl) ?_
    refine wS_end (by rfl) ?_
    refine eX_then ?_
    obtain ⟨r118, hr119, hm⟩ := bindE hm
    have hm120 := hm
    refine cW_cut (fun a' w' => Sum.inl (()) = r118 ∧ Fr 27 [] a' ∧ Chg [] w0 w' ∧ w0.heap.size ≤ w'.heap.size) ?_ ?_
    · refine cW_block ?_
      refine cW_loop _ (fun (s121 : Int) a' w' => ∃ x114 : Int, x114 = s121 ∧ Fr 27 [(0, .slice A0 (l0).length cap0), (1, .slice A1 (l1).length cap1), (5, .int .i64 (x114))] a' ∧ SlR 1 encI w' fp0 A0 l0 ∧ SlR 1 encI w' fp1 A1 l1 ∧ Chg [] w0 w' ∧ w0.heap.size ≤ w'.heap.size) hr119 (fun hst => ⟨0, rfl, Fr.of hst (by kernel_rfl), F0, F1, hB, hZ⟩) ?_
      rintro _ c122 a' w113 ⟨x114, rfl, hF115, F116, F117, hB, hZ⟩ hx123
      refine Fr.goOn hF115 (by kernel_rfl) ?_
      have hm := hx123
      unfold m_laws_eqInt64SS_s1 at hm
      refine cW_seq ?_
      refine cW_seq ?_
      refine cW_region ?_
      refine wS_pure 4 [(14, .bool (decide (x114 < (((l0).length : Int))))), (13, .int .i64 (((l0).length : Int))), (12, .slice A0 (l0).length cap0), (11, .int .i64 (x114))] (by kernel_rfl) ?_
      refine wS_end (by rfl) ?_
      refine eX_then ?_
      refine cW_cond (t := decide (x114 < (((l0).length : Int)))) (by kernel_rfl) (fun hb124 => ?_) (fun hb124 => ?_)
      · have hm := condT hb124 hm
        refine cW_skip ?_
        refine eX_then ?_
        refine cW_seq ?_
        refine cW_block ?_
        refine cW_seq ?_
        refine cW_drawnTail [] 8 (by kernel_rfl) (by kernel_rfl) (fun w149 hc150 => ?_)
        replace F116 := F116.chg hc150 Dj.nil
        replace F117 := F117.chg hc150 Dj.nil
        replace hB := hB.inS hc150 inNil
        replace hZ := Nat.le_trans hZ hc150.size
        have hS := Chg.refl [] w149
        have Z151 := F116
        have Z152 := F117
        refine wH_take [0, 1] [1, 0] [(18, .int .i64 (x114)), (17, .slice A0 (l0).length cap0)] (by kernel_rfl) (qT (qT (qB (qT (qL (qB (qT (qT qZ)))))))) (by kernel_rfl) ?_
        obtain ⟨x153, hx154, hm⟩ := bindE hm
        refine wH_idx (i := 2) (d := 19) (T := 40) (A := A0) (n := (l0).length) (cap := cap0) (kd := .i64) (m := x114) (by kernel_rfl) (qT (qT (qB (qT (qL (qB (qT (qT qZ)))))))) (by kernel_rfl) (by kernel_rfl) sl40 (F116.is hx154) ?_
        obtain ⟨A155, cap156, hc158, F157, K159⟩ := SlR.row Z151 hx154
        refine wH_load1 (i := 3) (d := 20) (T := 25) (ad := (elA A0 1 (x114) 0)) (v := .slice A155 (x153).length cap156) (by kernel_rfl) (qT (qT (qB (qT (qL (qB (qT (qT qZ)))))))) (by kernel_rfl) (by kernel_rfl) vt25 (fun W hW => hW.keep hc158) ?_
        refine wH_take [4, 5] [5, 4, 3, 2, 1, 0] [(22, .int .i64 (x114)), (21, .slice A1 (l1).length cap1)] (by kernel_rfl) (qT (qT (qB (qT (qL (qB (qT (qT qZ)))))))) (by kernel_rfl) ?_
        obtain ⟨x161, hx162, hm⟩ := bindE hm
        refine wH_idx (i := 6) (d := 23) (T := 40) (A := A1) (n := (l1).length) (cap := cap1) (kd := .i64) (m := x114) (by kernel_rfl) (qT (qT (qB (qT (qL (qB (qT (qT qZ)))))))) (by kernel_rfl) (by kernel_rfl) sl40 (F117.is hx162) ?_
        obtain ⟨A163, cap164, hc166, F165, K167⟩ := SlR.row Z152 hx162
        refine wH_load1 (i := 7) (d := 24) (T := 25) (ad := (elA A1 1 (x114) 0)) (v := .slice A163 (x161).length cap164) (by kernel_rfl) (qT (qT (qB (qT (qL (qB (qT (qT qZ)))))))) (by kernel_rfl) (by kernel_rfl) vt25 (fun W hW => hW.keep hc166) ?_
        refine wH_done (by kernel_rfl) ?_
        refine eX_tail ?_
        obtain ⟨y169, hy170, hm⟩ := bindE hm
        refine wS_calls (d := 25) (f := 128) (vs := [.slice A155 (x153).length cap156, .slice A163 (x161).length cap164]) (by kernel_rfl) ent128 (c_laws_eqInt64S hy170 F157 F165) ?_
        rintro _ w171 ⟨rfl, hc172⟩
        replace F116 := F116.chg hc172 Dj.nil
        replace F117 := F117.chg hc172 Dj.nil
        replace F157 := F157.chg hc172 Dj.nil
        replace F165 := F165.chg hc172 Dj.nil
        replace hB := hB.inS hc172 inNil
        replace hZ := Nat.le_trans hZ hc172.size
        refine ⟨.bool (y169), rfl, ?_⟩
        refine wS_pure 1 [(26, .bool (!y169))] (by kernel_rfl) ?_
        refine wS_end (by rfl) ?_
        refine eX_then ?_
        refine cW_cond (t := !y169) (by kernel_rfl) (fun hb173 => ?_) (fun hb173 => ?_)
        · have hm := condT hb173 hm
          refine cW_seq ?_
          refine cW_region ?_
          refine wS_pure 1 [(4, .bool (false))] (by kernel_rfl) ?_
          refine wS_end (by rfl) ?_
          refine eX_then ?_
          refine cW_ret ?_
          refine eX_block_ret ?_
          refine eX_then_ret ?_
          have hq : (some (Ctl.out (Sum.inr false)) : Option (Ctl (Int) (Sum (Unit) ((Bool))))) = some _ := hm
          replace hq := someE hq
          subst hq
          refine eX_outR hx123 (fun hr => ?_)
          subst hr
          refine eX_block_ret ?_
          refine eX_then_ret ?_
          refine eX_then_ret ?_
          have hq : (some false : Option ((Bool))) = some _ := hm120
          replace hq := someE hq
          subst hq
          refine eX_ret (vs := [.bool (false)]) [.tmp 4] (by rfl) ⟨by (show lkE _ _ _ = _); kernel_rfl, trivial⟩ ?_
          exact ⟨rfl, hB⟩
        · have hm := condF hb173 hm
          refine cW_skip ?_
          refine eX_block ?_
          refine eX_then ?_
          refine cW_region ?_
          refine wS_pure 3 [(5, .int .i64 (wr (x114 + 1))), (16, .int .i64 (wr (x114 + 1))), (15, .int .i64 (x114))] (by kernel_rfl) ?_
          refine wS_end (by rfl) ?_
          have hq : (some (Ctl.next (wr (x114 + 1))) : Option (Ctl (Int) (Sum (Unit) ((Bool))))) = some _ := hm
          replace hq := someE hq
          subst hq
          exact eX_next hx123 (fun hst => ⟨wr (x114 + 1), rfl, Fr.of hst (by kernel_rfl), F116, F117, hB, hZ⟩)
      · have hm := condF hb124 hm
        refine cW_exit ?_
        refine eX_then_exit ?_
        have hq : (some (Ctl.out (Sum.inl (()))) : Option (Ctl (Int) (Sum (Unit) ((Bool))))) = some _ := hm
        replace hq := someE hq
        subst hq
        refine eX_outX hx123 (fun hr174 => ?_)
        replace hr174 := hr174.symm
        subst hr174
        refine eX_block_hit ?_
        exact eX_J (fun hst => ⟨rfl, Fr.of hst (by kernel_rfl), hB, hZ⟩)
    · rintro a' w111 ⟨hJ, hF112, hB, hZ⟩
      subst hJ
      refine Fr.goX hF112 (by kernel_rfl) ?_
      refine eX_then ?_
      refine cW_seq ?_
      refine cW_region ?_
      refine wS_pure 1 [(4, .bool (true))] (by kernel_rfl) ?_
      refine wS_end (by rfl) ?_
      refine eX_then ?_
      refine cW_ret ?_
      have hq : (some true : Option ((Bool))) = some _ := hm
      replace hq := someE hq
      subst hq
      refine eX_ret (vs := [.bool (true)]) [.tmp 4] (by rfl) ⟨by (show lkE _ _ _ = _); kernel_rfl, trivial⟩ ?_
      exact ⟨rfl, hB⟩

set_option maxRecDepth 100000 in
/-- impl.box -/
theorem c_impl_box {w0 : World} {l0 : List (Int × Int)} {A0 : Option Addr} {cap0 : Nat} {fp0 : List Nat} {r : (Int × Int) × (Int × Int)} (hm : m_impl_box l0 = some r) (F0 : Sl 2 encII w0 fp0 A0 l0) :
    Calls Try.prog 112 #[.slice A0 (l0).length cap0] w0 fun e w' => e = .returned (.tuple #[.agg #[.int .i64 (r.1.1), .int .i64 (r.1.2)], .agg #[.int .i64 (r.2.1), .int .i64 (r.2.2)]]) ∧ Chg [] w0 w' := by
  have L0 := F0.low
  have hB : Chg [] w0 w0 := Chg.refl _ _
  have hZ := Nat.le_refl w0.heap.size
  unfold m_impl_box at hm
  refine enterE (N := 45) Try.func112 (by rfl) Try.ntmps112 (by simp) [(0, .slice A0 (l0).length cap0)] (by rfl) (by kernel_rfl) (fun a => ?_)
  refine cW_seq ?_
  refine cW_region ?_
  refine wS_alloc (d := 2) (T := 37) (z := .agg #[.int .i64 (0), .int .i64 (0)]) (by kernel_rfl) (by kernel_rfl) ?_
  intro b2 w3 G4 F5 hc6
  replace F5 : Cl w3 b2 37 [.int .i64 (0), .int .i64 (0)] := F5
  replace F0 := F0.chg hc6 Dj.nil
  replace hB := hB.inS hc6 inNil
  replace G4 := Nat.le_trans hZ G4
  replace hZ := Nat.le_trans hZ hc6.size
  refine wS_alloc (d := 3) (T := 37) (z := .agg #[.int .i64 (0), .int .i64 (0)]) (by kernel_rfl) (by kernel_rfl) ?_
  intro b8 w9 G10 F11 hc12
  replace F11 : Cl w9 b8 37 [.int .i64 (0), .int .i64 (0)] := F11
  have D14 : Dj [b2] [b8] := Dj.of (lt1 F5.lt) (low1 G10)
  replace F0 := F0.chg hc12 Dj.nil
  replace F5 := F5.chg hc12 notNil
  replace hB := hB.inS hc12 inNil
  replace G10 := Nat.le_trans hZ G10
  replace hZ := Nat.le_trans hZ hc12.size
  refine wS_end (by rfl) ?_
  refine eX_then ?_
  refine cW_seq ?_
  obtain ⟨s155, hs156, hm⟩ := bindE hm
  refine cW_cut (fun a' w' => ∃ b134 : Nat, ∃ x135 : Int, ∃ x136 : Int, ∃ b138 : Nat, ∃ x139 : Int, ∃ x140 : Int, (x135, x136, x139, x140) = s155 ∧ Fr 45 [(0, .slice A0 (l0).length cap0), (2, .pointer (some ⟨b2, 0, none⟩)), (3, .pointer (some ⟨b8, 0, none⟩)), (4, .pointer (some ⟨b134, 0, none⟩)), (5, .pointer (some ⟨b138, 0, none⟩))] a' ∧ Sl 2 encII w' fp0 A0 l0 ∧ Cl w' b2 37 [.int .i64 (0), .int .i64 (0)] ∧ Cl w' b8 37 [.int .i64 (0), .int .i64 (0)] ∧ Cl w' b134 37 [.int .i64 (x135), .int .i64 (x136)] ∧ Cl w' b138 37 [.int .i64 (x139), .int .i64 (x140)] ∧ w0.heap.size ≤ b134 ∧ w0.heap.size ≤ b138 ∧ Dj [b2] [b134] ∧ Dj [b8] [b134] ∧ Dj [b138] [b134] ∧ Dj [b2] [b138] ∧ Dj [b8] [b138] ∧ Chg [] w0 w' ∧ w0.heap.size ≤ w'.heap.size) ?_ ?_
  · have hm := hs156
    refine cW_drawnTail [] 9 (by kernel_rfl) (by kernel_rfl) (fun w157 hc158 => ?_)
    replace F0 := F0.chg hc158 Dj.nil
    replace F5 := F5.chg hc158 notNil
    replace F11 := F11.chg hc158 notNil
    replace hB := hB.inS hc158 inNil
    replace hZ := Nat.le_trans hZ hc158.size
    have hS := Chg.refl [] w157
    have Z159 := F0
    have Z160 := F5
    have Z161 := F11
    refine wH_take [0] [0] [(8, .slice A0 (l0).length cap0)] (by kernel_rfl) (qT (qT (qT qZ))) (by kernel_rfl) ?_
    obtain ⟨x162, hx163, hm⟩ := bindE hm
    refine wH_idx (i := 1) (d := 9) (T := 32) (A := A0) (n := (l0).length) (cap := cap0) (kd := .i64) (m := 0) (by kernel_rfl) (qT (qT (qT qZ))) (by kernel_rfl) (by kernel_rfl) sl32 (F0.is hx163) ?_
    refine wH_loadA (i := 2) (d := 10) (T := 37) (ad := (elA A0 2 (0) 0)) (vs := [.int .i64 (x162.1), .int .i64 (x162.2)]) (by kernel_rfl) (qT (qT (qT qZ))) (by kernel_rfl) (by kernel_rfl) vt37 (fun W hW i u hu => Sl.cells_at (Z159.chg hW Dj.nil) hx163 0 hu (by rfl)) ?_
    refine wH_take [3] [3, 2, 1, 0] [(11, .slice A0 (l0).length cap0)] (by kernel_rfl) (qT (qT (qT qZ))) (by kernel_rfl) ?_
    obtain ⟨x164, hx165, hm⟩ := bindE hm
    refine wH_idx (i := 4) (d := 12) (T := 32) (A := A0) (n := (l0).length) (cap := cap0) (kd := .i64) (m := 0) (by kernel_rfl) (qT (qT (qT qZ))) (by kernel_rfl) (by kernel_rfl) sl32 (F0.is hx165) ?_
    refine wH_loadA (i := 5) (d := 13) (T := 37) (ad := (elA A0 2 (0) 0)) (vs := [.int .i64 (x164.1), .int .i64 (x164.2)]) (by kernel_rfl) (qT (qT (qT qZ))) (by kernel_rfl) (by kernel_rfl) vt37 (fun W hW i u hu => Sl.cells_at (Z159.chg hW Dj.nil) hx165 0 hu (by rfl)) ?_
    refine wH_all [6, 7] (by rfl) (by kernel_rfl) (by simp) ⟨⟨by kernel_rfl, ?_⟩, ⟨by kernel_rfl, ?_⟩, trivial⟩
    · skip
      refine wS_alloc (d := 4) (T := 37) (z := .agg #[.int .i64 (0), .int .i64 (0)]) (by kernel_rfl) (by kernel_rfl) ?_
      intro b166 w167 G168 F169 hc170
      replace F169 : Cl w167 b166 37 [.int .i64 (0), .int .i64 (0)] := F169
      have D172 : Dj [b2] [b166] := Dj.of (lt1 F5.lt) (low1 G168)
      have D173 : Dj [b8] [b166] := Dj.of (lt1 F11.lt) (low1 G168)
      replace F0 := F0.chg hc170 Dj.nil
      replace F5 := F5.chg hc170 notNil
      replace F11 := F11.chg hc170 notNil
      replace hB := hB.inS hc170 inNil
      have hSz := hS
      replace hS := hS.inS hc170 inNil
      have Gz174 := low1 (Nat.le_trans hSz.size G168)
      replace G168 := Nat.le_trans hZ G168
      replace hZ := Nat.le_trans hZ hc170.size
      refine wS_end (by kernel_rfl) ?_
      refine eX_KH hS ?_
      refine wH_all [7] (by rfl) (by kernel_rfl) (by simp) ⟨⟨by kernel_rfl, ?_⟩, trivial⟩
      refine wS_alloc (d := 5) (T := 37) (z := .agg #[.int .i64 (0), .int .i64 (0)]) (by kernel_rfl) (by kernel_rfl) ?_
      intro b175 w176 G177 F178 hc179
      replace F178 : Cl w176 b175 37 [.int .i64 (0), .int .i64 (0)] := F178
      have D181 : Dj [b2] [b175] := Dj.of (lt1 F5.lt) (low1 G177)
      have D182 : Dj [b8] [b175] := Dj.of (lt1 F11.lt) (low1 G177)
      have D183 : Dj [b166] [b175] := Dj.of (lt1 F169.lt) (low1 G177)
      replace F0 := F0.chg hc179 Dj.nil
      replace F5 := F5.chg hc179 notNil
      replace F11 := F11.chg hc179 notNil
      replace F169 := F169.chg hc179 notNil
      replace hB := hB.inS hc179 inNil
      have hSz := hS
      replace hS := hS.inS hc179 inNil
      have Gz184 := low1 (Nat.le_trans hSz.size G177)
      replace G177 := Nat.le_trans hZ G177
      replace hZ := Nat.le_trans hZ hc179.size
      refine wS_end (by kernel_rfl) ?_
      refine eX_KH hS ?_
      refine wH_all [8] (by rfl) (by kernel_rfl) (by simp) ⟨⟨by kernel_rfl, ?_⟩, trivial⟩
      refine wS_store (T := 37) (g := b166) (o := 0) (ad := ⟨b166, 0, none⟩) (v := .agg #[.int .i64 (x162.1), .int .i64 (x162.2)]) (vs := [.int .i64 (x162.1), .int .i64 (x162.2)]) (by kernel_rfl) (by rfl) sz37 (by rfl) (by rfl) F169 (by simp only [List.length_cons, List.length_nil]; omega) ?_
      intro w185 F186 hc187
      replace F0 := F0.chg hc187 (Dj.of L0 (low1 G168))
      replace F5 := F5.chg hc187 (dj1 D172)
      replace F11 := F11.chg hc187 (dj1 D173)
      replace F178 := F178.chg hc187 (dj1 (D183).symm)
      replace hB := hB.inS hc187 (inLow (low1 G168))
      have hSz := hS
      replace hS := hS.inS hc187 (inLow Gz174)
      replace hZ := Nat.le_trans hZ hc187.size
      replace F186 : Cl w185 b166 37 [.int .i64 (x162.1), .int .i64 (x162.2)] := F186
      clear F169
      refine wS_end (by kernel_rfl) ?_
      refine eX_KH hS ?_
      refine wH_done (by kernel_rfl) ?_
      refine eX_tail ?_
      refine wS_store (T := 37) (g := b175) (o := 0) (ad := ⟨b175, 0, none⟩) (v := .agg #[.int .i64 (x164.1), .int .i64 (x164.2)]) (vs := [.int .i64 (x164.1), .int .i64 (x164.2)]) (by kernel_rfl) (by rfl) sz37 (by rfl) (by rfl) F178 (by simp only [List.length_cons, List.length_nil]; omega) ?_
      intro w188 F189 hc190
      replace F0 := F0.chg hc190 (Dj.of L0 (low1 G177))
      replace F5 := F5.chg hc190 (dj1 D181)
      replace F11 := F11.chg hc190 (dj1 D182)
      replace F186 := F186.chg hc190 (dj1 D183)
      replace hB := hB.inS hc190 (inLow (low1 G177))
      replace hZ := Nat.le_trans hZ hc190.size
      replace F189 : Cl w188 b175 37 [.int .i64 (x164.1), .int .i64 (x164.2)] := F189
      clear F178
      refine wS_end (by rfl) ?_
      have hq : (some ((x162.1, x162.2, x164.1, x164.2)) : Option (Int × Int × Int × Int)) = some _ := hm
      replace hq := someE hq
      subst hq
      exact eX_J (fun hst => ⟨b166, x162.1, x162.2, b175, x164.1, x164.2, rfl, Fr.of hst (by kernel_rfl), F0, F5, F11, F186, F189, G168, G177, D172, D173, (D183).symm, D181, D182, hB, hZ⟩)
    · skip
      refine wS_alloc (d := 5) (T := 37) (z := .agg #[.int .i64 (0), .int .i64 (0)]) (by kernel_rfl) (by kernel_rfl) ?_
      intro b191 w192 G193 F194 hc195
      replace F194 : Cl w192 b191 37 [.int .i64 (0), .int .i64 (0)] := F194
      have D197 : Dj [b2] [b191] := Dj.of (lt1 F5.lt) (low1 G193)
      have D198 : Dj [b8] [b191] := Dj.of (lt1 F11.lt) (low1 G193)
      replace F0 := F0.chg hc195 Dj.nil
      replace F5 := F5.chg hc195 notNil
      replace F11 := F11.chg hc195 notNil
      replace hB := hB.inS hc195 inNil
      have hSz := hS
      replace hS := hS.inS hc195 inNil
      have Gz199 := low1 (Nat.le_trans hSz.size G193)
      replace G193 := Nat.le_trans hZ G193
      replace hZ := Nat.le_trans hZ hc195.size
      refine wS_end (by kernel_rfl) ?_
      refine eX_KH hS ?_
      refine wH_all [6] (by rfl) (by kernel_rfl) (by simp) ⟨⟨by kernel_rfl, ?_⟩, trivial⟩
      refine wS_alloc (d := 4) (T := 37) (z := .agg #[.int .i64 (0), .int .i64 (0)]) (by kernel_rfl) (by kernel_rfl) ?_
      intro b200 w201 G202 F203 hc204
      replace F203 : Cl w201 b200 37 [.int .i64 (0), .int .i64 (0)] := F203
      have D206 : Dj [b2] [b200] := Dj.of (lt1 F5.lt) (low1 G202)
      have D207 : Dj [b8] [b200] := Dj.of (lt1 F11.lt) (low1 G202)
      have D208 : Dj [b191] [b200] := Dj.of (lt1 F194.lt) (low1 G202)
      replace F0 := F0.chg hc204 Dj.nil
      replace F5 := F5.chg hc204 notNil
      replace F11 := F11.chg hc204 notNil
      replace F194 := F194.chg hc204 notNil
      replace hB := hB.inS hc204 inNil
      have hSz := hS
      replace hS := hS.inS hc204 inNil
      have Gz209 := low1 (Nat.le_trans hSz.size G202)
      replace G202 := Nat.le_trans hZ G202
      replace hZ := Nat.le_trans hZ hc204.size
      refine wS_end (by kernel_rfl) ?_
      refine eX_KH hS ?_
      refine wH_all [8] (by rfl) (by kernel_rfl) (by simp) ⟨⟨by kernel_rfl, ?_⟩, trivial⟩
      refine wS_store (T := 37) (g := b200) (o := 0) (ad := ⟨b200, 0, none⟩) (v := .agg #[.int .i64 (x162.1), .int .i64 (x162.2)]) (vs := [.int .i64 (x162.1), .int .i64 (x162.2)]) (by kernel_rfl) (by rfl) sz37 (by rfl) (by rfl) F203 (by simp only [List.length_cons, List.length_nil]; omega) ?_
      intro w210 F211 hc212
      replace F0 := F0.chg hc212 (Dj.of L0 (low1 G202))
      replace F5 := F5.chg hc212 (dj1 D206)
      replace F11 := F11.chg hc212 (dj1 D207)
      replace F194 := F194.chg hc212 (dj1 D208)
      replace hB := hB.inS hc212 (inLow (low1 G202))
      have hSz := hS
      replace hS := hS.inS hc212 (inLow Gz209)
      replace hZ := Nat.le_trans hZ hc212.size
      replace F211 : Cl w210 b200 37 [.int .i64 (x162.1), .int .i64 (x162.2)] := F211
      clear F203
      refine wS_end (by kernel_rfl) ?_
      refine eX_KH hS ?_
      refine wH_done (by kernel_rfl) ?_
      refine eX_tail ?_
      refine wS_store (T := 37) (g := b191) (o := 0) (ad := ⟨b191, 0, none⟩) (v := .agg #[.int .i64 (x164.1), .int .i64 (x164.2)]) (vs := [.int .i64 (x164.1), .int .i64 (x164.2)]) (by kernel_rfl) (by rfl) sz37 (by rfl) (by rfl) F194 (by simp only [List.length_cons, List.length_nil]; omega) ?_
      intro w213 F214 hc215
      replace F0 := F0.chg hc215 (Dj.of L0 (low1 G193))
      replace F5 := F5.chg hc215 (dj1 D197)
      replace F11 := F11.chg hc215 (dj1 D198)
      replace F211 := F211.chg hc215 (dj1 (D208).symm)
      replace hB := hB.inS hc215 (inLow (low1 G193))
      replace hZ := Nat.le_trans hZ hc215.size
      replace F214 : Cl w213 b191 37 [.int .i64 (x164.1), .int .i64 (x164.2)] := F214
      clear F194
      refine wS_end (by rfl) ?_
      have hq : (some ((x162.1, x162.2, x164.1, x164.2)) : Option (Int × Int × Int × Int)) = some _ := hm
      replace hq := someE hq
      subst hq
      exact eX_J (fun hst => ⟨b200, x162.1, x162.2, b191, x164.1, x164.2, rfl, Fr.of hst (by kernel_rfl), F0, F5, F11, F211, F214, G202, G193, D206, D207, D208, D197, D198, hB, hZ⟩)
  · rintro a' w133 ⟨b134, x135, x136, b138, x139, x140, hJ, hF142, F143, F144, F145, F146, F147, G148, G149, D150, D151, D152, D153, D154, hB, hZ⟩
    subst hJ
    refine Fr.goX hF142 (by kernel_rfl) ?_
    refine eX_then ?_
    refine cW_seq ?_
    refine cW_seq ?_
    refine cW_region ?_
    refine wS_pure 3 [(16, .int .i64 (0)), (15, .int .i64 (((l0).length : Int))), (14, .slice A0 (l0).length cap0)] (by kernel_rfl) ?_
    refine wS_end (by rfl) ?_
    refine eX_then ?_
    obtain ⟨r301, hr302, hm⟩ := bindE hm
    have hm303 := hm
    refine cW_cut (fun a' w' => ∃ x280 : Int, ∃ x281 : Int, ∃ x282 : Int, ∃ x283 : Int, (x280, x281, x282, x283) = r301 ∧ Fr 45 [(2, .pointer (some ⟨b2, 0, none⟩)), (3, .pointer (some ⟨b8, 0, none⟩)), (4, .pointer (some ⟨b134, 0, none⟩)), (5, .pointer (some ⟨b138, 0, none⟩))] a' ∧ Cl w' b2 37 [.int .i64 (0), .int .i64 (0)] ∧ Cl w' b8 37 [.int .i64 (0), .int .i64 (0)] ∧ Cl w' b134 37 [.int .i64 (x280), .int .i64 (x281)] ∧ Cl w' b138 37 [.int .i64 (x282), .int .i64 (x283)] ∧ Chg [] w0 w' ∧ w0.heap.size ≤ w'.heap.size) ?_ ?_
    · refine cW_block ?_
      refine cW_loop _ (fun (s304 : Int × Int × Int × Int × Int) a' w' => ∃ x290 : Int, ∃ x291 : Int, ∃ x292 : Int, ∃ x293 : Int, ∃ x294 : Int, (x290, x291, x292, x293, x294) = s304 ∧ Fr 45 [(2, .pointer (some ⟨b2, 0, none⟩)), (3, .pointer (some ⟨b8, 0, none⟩)), (4, .pointer (some ⟨b134, 0, none⟩)), (5, .pointer (some ⟨b138, 0, none⟩)), (14, .slice A0 (l0).length cap0), (15, .int .i64 (((l0).length : Int))), (16, .int .i64 (x290))] a' ∧ Sl 2 encII w' fp0 A0 l0 ∧ Cl w' b2 37 [.int .i64 (0), .int .i64 (0)] ∧ Cl w' b8 37 [.int .i64 (0), .int .i64 (0)] ∧ Cl w' b134 37 [.int .i64 (x291), .int .i64 (x292)] ∧ Cl w' b138 37 [.int .i64 (x293), .int .i64 (x294)] ∧ Chg [] w0 w' ∧ w0.heap.size ≤ w'.heap.size) hr302 (fun hst => ⟨0, x135, x136, x139, x140, rfl, Fr.of hst (by kernel_rfl), F143, F144, F145, F146, F147, hB, hZ⟩) ?_
      rintro _ c305 a' w289 ⟨x290, x291, x292, x293, x294, rfl, hF295, F296, F297, F298, F299, F300, hB, hZ⟩ hx306
      refine Fr.goOn hF295 (by kernel_rfl) ?_
      have hm := hx306
      unfold m_impl_box_s1 at hm
      refine cW_seq ?_
      refine cW_region ?_
      refine wS_pure 1 [(17, .bool (decide (x290 < (((l0).length : Int)))))] (by kernel_rfl) ?_
      refine wS_end (by rfl) ?_
      refine eX_then ?_
      refine cW_seq ?_
      refine cW_cond (t := decide (x290 < (((l0).length : Int)))) (by kernel_rfl) (fun hb307 => ?_) (fun hb307 => ?_)
      · have hm := condT hb307 hm
        refine cW_skip ?_
        refine eX_then ?_
        refine cW_seq ?_
        refine cW_block ?_
        refine cW_seq ?_
        refine cW_region ?_
        obtain ⟨x308, hx309, hm⟩ := bindE hm
        refine wS_idx (d := 18) (T := 32) (A := A0) (n := (l0).length) (cap := cap0) (kd := .i64) (m := x290) (by kernel_rfl) sl32 (F296.is hx309) ?_
        refine wS_loadA (d := 19) (T := 37) (ad := (elA A0 2 (x290) 0)) (vs := [.int .i64 (x308.1), .int .i64 (x308.2)]) (by kernel_rfl) vt37 (fun i u hu => Sl.cells_at F296 hx309 0 hu (by rfl)) ?_
        refine wS_alloc (d := 7) (T := 37) (z := .agg #[.int .i64 (0), .int .i64 (0)]) (by kernel_rfl) (by kernel_rfl) ?_
        intro b310 w311 G312 F313 hc314
        replace F313 : Cl w311 b310 37 [.int .i64 (0), .int .i64 (0)] := F313
        have D316 : Dj [b2] [b310] := Dj.of (lt1 F297.lt) (low1 G312)
        have D317 : Dj [b8] [b310] := Dj.of (lt1 F298.lt) (low1 G312)
        have D318 : Dj [b134] [b310] := Dj.of (lt1 F299.lt) (low1 G312)
        have D319 : Dj [b138] [b310] := Dj.of (lt1 F300.lt) (low1 G312)
        replace F296 := F296.chg hc314 Dj.nil
        replace F297 := F297.chg hc314 notNil
        replace F298 := F298.chg hc314 notNil
        replace F299 := F299.chg hc314 notNil
        replace F300 := F300.chg hc314 notNil
        replace hB := hB.inS hc314 inNil
        replace G312 := Nat.le_trans hZ G312
        replace hZ := Nat.le_trans hZ hc314.size
        refine wS_store (T := 37) (g := b310) (o := 0) (ad := ⟨b310, 0, none⟩) (v := .agg #[.int .i64 (x308.1), .int .i64 (x308.2)]) (vs := [.int .i64 (x308.1), .int .i64 (x308.2)]) (by kernel_rfl) (by rfl) sz37 (by rfl) (by rfl) F313 (by simp only [List.length_cons, List.length_nil]; omega) ?_
        intro w320 F321 hc322
        replace F296 := F296.chg hc322 (Dj.of L0 (low1 G312))
        replace F297 := F297.chg hc322 (dj1 D316)
        replace F298 := F298.chg hc322 (dj1 D317)
        replace F299 := F299.chg hc322 (dj1 D318)
        replace F300 := F300.chg hc322 (dj1 D319)
        replace hB := hB.inS hc322 (inLow (low1 G312))
        replace hZ := Nat.le_trans hZ hc322.size
        replace F321 : Cl w320 b310 37 [.int .i64 (x308.1), .int .i64 (x308.2)] := F321
        clear F313
        refine wS_end (by rfl) ?_
        refine eX_then ?_
        refine cW_seq ?_
        refine cW_region ?_
        refine wS_pure 1 [(20, .pointer (some ⟨b134, 0, none⟩))] (by kernel_rfl) ?_
        refine wS_load1 (d := 21) (T := 2) (ad := ⟨b134, 0, none⟩) (v := .int .i64 (x291)) (by kernel_rfl) vt2 ((F299).cell 0) ?_
        refine wS_pure 1 [(22, .pointer (some ⟨b310, 0, none⟩))] (by kernel_rfl) ?_
        refine wS_load1 (d := 23) (T := 2) (ad := ⟨b310, 0, none⟩) (v := .int .i64 (x308.1)) (by kernel_rfl) vt2 ((F321).cell 0) ?_
        refine wS_pure 2 [(25, .pointer (some ⟨b134, 1, none⟩)), (24, .int .i64 (if x308.1 < x291 then x308.1 else x291))] (by kernel_rfl) ?_
        refine wS_load1 (d := 26) (T := 2) (ad := ⟨b134, 1, none⟩) (v := .int .i64 (x292)) (by kernel_rfl) vt2 ((F299).cell 1) ?_
        refine wS_pure 1 [(27, .pointer (some ⟨b310, 1, none⟩))] (by kernel_rfl) ?_
        refine wS_load1 (d := 28) (T := 2) (ad := ⟨b310, 1, none⟩) (v := .int .i64 (x308.2)) (by kernel_rfl) vt2 ((F321).cell 1) ?_
        refine wS_pure 2 [(30, .agg #[.int .i64 (if x308.1 < x291 then x308.1 else x291), .int .i64 (if x308.2 < x292 then x308.2 else x292)]), (29, .int .i64 (if x308.2 < x292 then x308.2 else x292))] (by kernel_rfl) ?_
        refine wS_store (T := 37) (g := b134) (o := 0) (ad := ⟨b134, 0, none⟩) (v := .agg #[.int .i64 (if x308.1 < x291 then x308.1 else x291), .int .i64 (if x308.2 < x292 then x308.2 else x292)]) (vs := [.int .i64 (if x308.1 < x291 then x308.1 else x291), .int .i64 (if x308.2 < x292 then x308.2 else x292)]) (by kernel_rfl) (by rfl) sz37 (by rfl) (by rfl) F299 (by simp only [List.length_cons, List.length_nil]; omega) ?_
        intro w323 F324 hc325
        replace F296 := F296.chg hc325 (Dj.of L0 (low1 G148))
        replace F297 := F297.chg hc325 (dj1 D150)
        replace F298 := F298.chg hc325 (dj1 D151)
        replace F300 := F300.chg hc325 (dj1 D152)
        replace F321 := F321.chg hc325 (dj1 (D318).symm)
        replace hB := hB.inS hc325 (inLow (low1 G148))
        replace hZ := Nat.le_trans hZ hc325.size
        replace F324 : Cl w323 b134 37 [.int .i64 (if x308.1 < x291 then x308.1 else x291), .int .i64 (if x308.2 < x292 then x308.2 else x292)] := F324
        clear F299
        refine wS_end (by rfl) ?_
        refine eX_then ?_
        refine cW_region ?_
        refine wS_pure 1 [(31, .pointer (some ⟨b138, 0, none⟩))] (by kernel_rfl) ?_
        refine wS_load1 (d := 32) (T := 2) (ad := ⟨b138, 0, none⟩) (v := .int .i64 (x293)) (by kernel_rfl) vt2 ((F300).cell 0) ?_
        refine wS_pure 1 [(33, .pointer (some ⟨b310, 0, none⟩))] (by kernel_rfl) ?_
        refine wS_load1 (d := 34) (T := 2) (ad := ⟨b310, 0, none⟩) (v := .int .i64 (x308.1)) (by kernel_rfl) vt2 ((F321).cell 0) ?_
        refine wS_pure 2 [(36, .pointer (some ⟨b138, 1, none⟩)), (35, .int .i64 (if x308.1 > x293 then x308.1 else x293))] (by kernel_rfl) ?_
        refine wS_load1 (d := 37) (T := 2) (ad := ⟨b138, 1, none⟩) (v := .int .i64 (x294)) (by kernel_rfl) vt2 ((F300).cell 1) ?_
        refine wS_pure 1 [(38, .pointer (some ⟨b310, 1, none⟩))] (by kernel_rfl) ?_
        refine wS_load1 (d := 39) (T := 2) (ad := ⟨b310, 1, none⟩) (v := .int .i64 (x308.2)) (by kernel_rfl) vt2 ((F321).cell 1) ?_
        refine wS_pure 2 [(41, .agg #[.int .i64 (if x308.1 > x293 then x308.1 else x293), .int .i64 (if x308.2 > x294 then x308.2 else x294)]), (40, .int .i64 (if x308.2 > x294 then x308.2 else x294))] (by kernel_rfl) ?_
        refine wS_store (T := 37) (g := b138) (o := 0) (ad := ⟨b138, 0, none⟩) (v := .agg #[.int .i64 (if x308.1 > x293 then x308.1 else x293), .int .i64 (if x308.2 > x294 then x308.2 else x294)]) (vs := [.int .i64 (if x308.1 > x293 then x308.1 else x293), .int .i64 (if x308.2 > x294 then x308.2 else x294)]) (by kernel_rfl) (by rfl) sz37 (by rfl) (by rfl) F300 (by simp only [List.length_cons, List.length_nil]; omega) ?_
        intro w326 F327 hc328
        replace F296 := F296.chg hc328 (Dj.of L0 (low1 G149))
        replace F297 := F297.chg hc328 (dj1 D153)
        replace F298 := F298.chg hc328 (dj1 D154)
        replace F324 := F324.chg hc328 (dj1 (D152).symm)
        replace F321 := F321.chg hc328 (dj1 (D319).symm)
        replace hB := hB.inS hc328 (inLow (low1 G149))
        replace hZ := Nat.le_trans hZ hc328.size
        replace F327 : Cl w326 b138 37 [.int .i64 (if x308.1 > x293 then x308.1 else x293), .int .i64 (if x308.2 > x294 then x308.2 else x294)] := F327
        clear F300
        refine wS_end (by rfl) ?_
        refine eX_block ?_
        refine eX_then ?_
        refine cW_prune [(2, .pointer (some ⟨b2, 0, none⟩)), (3, .pointer (some ⟨b8, 0, none⟩)), (4, .pointer (some ⟨b134, 0, none⟩)), (5, .pointer (some ⟨b138, 0, none⟩)), (14, .slice A0 (l0).length cap0), (15, .int .i64 (((l0).length : Int))), (16, .int .i64 (x290))] (by kernel_rfl) (by kernel_rfl) (fun a329 => ?_)
        refine cW_region ?_
        refine wS_pure 2 [(16, .int .i64 (wr (x290 + 1))), (42, .int .i64 (wr (x290 + 1)))] (by kernel_rfl) ?_
        refine wS_end (by rfl) ?_
        have hq : (some (Ctl.next ((wr (x290 + 1), if x308.1 < x291 then x308.1 else x291, if x308.2 < x292 then x308.2 else x292, if x308.1 > x293 then x308.1 else x293, if x308.2 > x294 then x308.2 else x294))) : Option (Ctl (Int × Int × Int × Int × Int) (Int × Int × Int × Int))) = some _ := hm
        replace hq := someE hq
        subst hq
        exact eX_next hx306 (fun hst => ⟨wr (x290 + 1), if x308.1 < x291 then x308.1 else x291, if x308.2 < x292 then x308.2 else x292, if x308.1 > x293 then x308.1 else x293, if x308.2 > x294 then x308.2 else x294, rfl, Fr.of hst (by kernel_rfl), F296, F297, F298, F324, F327, hB, hZ⟩)
      · have hm := condF hb307 hm
        refine cW_exit ?_
        refine eX_then_exit ?_
        have hq : (some (Ctl.out ((x291, x292, x293, x294))) : Option (Ctl (Int × Int × Int × Int × Int) (Int × Int × Int × Int))) = some _ := hm
        replace hq := someE hq
        subst hq
        refine eX_outX hx306 (fun hr330 => ?_)
        replace hr330 := hr330.symm
        subst hr330
        refine eX_block_hit ?_
        exact eX_J (fun hst => ⟨x291, x292, x293, x294, rfl, Fr.of hst (by kernel_rfl), F297, F298, F299, F300, hB, hZ⟩)
    · rintro a' w279 ⟨x280, x281, x282, x283, hJ, hF284, F285, F286, F287, F288, hB, hZ⟩
      subst hJ
      refine Fr.goX hF284 (by kernel_rfl) ?_
      refine eX_then ?_
      refine cW_seq ?_
      refine cW_drawnTail [b2] 3 (by kernel_rfl) (by kernel_rfl) (fun w343 hc344 => ?_)
      replace F285 := F285.chg hc344 notNil
      replace F286 := F286.chg hc344 notNil
      replace F287 := F287.chg hc344 notNil
      replace F288 := F288.chg hc344 notNil
      replace hB := hB.inS hc344 inNil
      replace hZ := Nat.le_trans hZ hc344.size
      have hS := Chg.refl [b2] w343
      have Z345 := F285
      have Z346 := F286
      have Z347 := F287
      have Z348 := F288
      refine wH_loadA (i := 0) (d := 43) (T := 37) (ad := ⟨b134, 0, none⟩) (vs := [.int .i64 (x280), .int .i64 (x281)]) (by kernel_rfl) (qT (qT qZ)) (by kernel_rfl) (by kernel_rfl) vt37 (fun W hW i u hu => box_cells (Z347.chg hW (dj1 (D150).symm)) 0 hu (by rfl)) ?_
      refine wH_loadA (i := 1) (d := 44) (T := 37) (ad := ⟨b138, 0, none⟩) (vs := [.int .i64 (x282), .int .i64 (x283)]) (by kernel_rfl) (qT (qT qZ)) (by kernel_rfl) (by kernel_rfl) vt37 (fun W hW i u hu => box_cells (Z348.chg hW (dj1 (D153).symm)) 0 hu (by rfl)) ?_
      refine wH_all [2] (by rfl) (by kernel_rfl) (by simp) ⟨⟨by kernel_rfl, ?_⟩, trivial⟩
      refine wS_store (T := 37) (g := b2) (o := 0) (ad := ⟨b2, 0, none⟩) (v := .agg #[.int .i64 (x280), .int .i64 (x281)]) (vs := [.int .i64 (x280), .int .i64 (x281)]) (by kernel_rfl) (by rfl) sz37 (by rfl) (by rfl) F285 (by simp only [List.length_cons, List.length_nil]; omega) ?_
      intro w349 F350 hc351
      replace F286 := F286.chg hc351 (dj1 (D14).symm)
      replace F287 := F287.chg hc351 (dj1 (D150).symm)
      replace F288 := F288.chg hc351 (dj1 (D153).symm)
      replace hB := hB.inS hc351 (inLow (low1 G4))
      have hSz := hS
      replace hS := hS.trans hc351
      replace hZ := Nat.le_trans hZ hc351.size
      replace F350 : Cl w349 b2 37 [.int .i64 (x280), .int .i64 (x281)] := F350
      clear F285
      refine wS_end (by kernel_rfl) ?_
      refine eX_KH hS ?_
      refine wH_done (by kernel_rfl) ?_
      refine eX_tail ?_
      refine wS_store (T := 37) (g := b8) (o := 0) (ad := ⟨b8, 0, none⟩) (v := .agg #[.int .i64 (x282), .int .i64 (x283)]) (vs := [.int .i64 (x282), .int .i64 (x283)]) (by kernel_rfl) (by rfl) sz37 (by rfl) (by rfl) F286 (by simp only [List.length_cons, List.length_nil]; omega) ?_
      intro w352 F353 hc354
      replace F350 := F350.chg hc354 (dj1 D14)
      replace F287 := F287.chg hc354 (dj1 (D151).symm)
      replace F288 := F288.chg hc354 (dj1 (D154).symm)
      replace hB := hB.inS hc354 (inLow (low1 G10))
      replace hZ := Nat.le_trans hZ hc354.size
      replace F353 : Cl w352 b8 37 [.int .i64 (x282), .int .i64 (x283)] := F353
      clear F286
      refine wS_end (by rfl) ?_
      refine eX_then ?_
      refine cW_ret ?_
      have hq : (some (((x280, x281), (x282, x283))) : Option ((Int × Int) × (Int × Int))) = some _ := hm
      replace hq := someE hq
      subst hq
      refine eX_ret (vs := [.agg #[.int .i64 (x280), .int .i64 (x281)], .agg #[.int .i64 (x282), .int .i64 (x283)]]) [.cell 2 37, .cell 3 37] (by rfl) ⟨⟨⟨b2, 0, none⟩, by kernel_rfl, run_loadVarA (vs := [.int .i64 (x280), .int .i64 (x281)]) vt37 (fun i u hu => by exact box_cells F350 0 hu (by rfl))⟩, ⟨⟨⟨b8, 0, none⟩, by kernel_rfl, run_loadVarA (vs := [.int .i64 (x282), .int .i64 (x283)]) vt37 (fun i u hu => by exact box_cells F353 0 hu (by rfl))⟩, trivial⟩⟩ ?_
      exact ⟨rfl, hB⟩

set_option maxRecDepth 100000 in
/-- spec.l00Min -/
theorem c_spec_l00Min {w0 : World} {p0 : Int} {p1 : Int} {r : (Int)} (hm : m_spec_l00Min p0 p1 = some r)  :
    Calls Try.prog 172 #[.int .i64 (p0), .int .i64 (p1)] w0 fun e w' => e = .returned (.int .i64 (r)) ∧ Chg [] w0 w' := by
  have hB : Chg [] w0 w0 := Chg.refl _ _
  have hZ := Nat.le_refl w0.heap.size
  unfold m_spec_l00Min at hm
  refine enterE (N := 10) Try.func172 (by rfl) Try.ntmps172 (by simp) [(0, .int .i64 (p0)), (1, .int .i64 (p1))] (by rfl) (by kernel_rfl) (fun a => ?_)
  refine cW_seq ?_
  refine cW_region ?_
  refine wS_pure 1 [(4, .int .i64 (0))] (by kernel_rfl) ?_
  refine wS_end (by rfl) ?_
  refine eX_then ?_
  refine cW_seq ?_
  refine cW_seq ?_
  refine cW_region ?_
  refine wS_pure 3 [(7, .bool (decide (p0 < p1))), (6, .int .i64 (p1)), (5, .int .i64 (p0))] (by kernel_rfl) ?_
  refine wS_end (by rfl) ?_
  refine eX_then ?_
  refine cW_cond (t := decide (p0 < p1)) (by kernel_rfl) (fun hb1 => ?_) (fun hb1 => ?_)
  · have hm := condT hb1 hm
    refine cW_seq ?_
    refine cW_region ?_
    refine wS_pure 2 [(4, .int .i64 (p0)), (8, .int .i64 (p0))] (by kernel_rfl) ?_
    refine wS_end (by rfl) ?_
    refine eX_then ?_
    refine cW_ret ?_
    refine eX_then_ret ?_
    have hq : (some p0 : Option ((Int))) = some _ := hm
    replace hq := someE hq
    subst hq
    refine eX_ret (vs := [.int .i64 (p0)]) [.tmp 4] (by rfl) ⟨by (show lkE _ _ _ = _); kernel_rfl, trivial⟩ ?_
    exact ⟨rfl, hB⟩
  · have hm := condF hb1 hm
    refine cW_skip ?_
    refine eX_then ?_
    refine cW_seq ?_
    refine cW_region ?_
    refine wS_pure 2 [(4, .int .i64 (p1)), (9, .int .i64 (p1))] (by kernel_rfl) ?_
    refine wS_end (by rfl) ?_
    refine eX_then ?_
    refine cW_ret ?_
    have hq : (some p1 : Option ((Int))) = some _ := hm
    replace hq := someE hq
    subst hq
    refine eX_ret (vs := [.int .i64 (p1)]) [.tmp 4] (by rfl) ⟨by (show lkE _ _ _ = _); kernel_rfl, trivial⟩ ?_
    exact ⟨rfl, hB⟩

set_option maxRecDepth 100000 in
/-- laws.markInt64S -/
theorem c_laws_markInt64S {w0 : World} {l0 : List (Int)} {A0 : Option Addr} {cap0 : Nat} {fp0 : List Nat} {p1 : Int} {r : (Int) × (List (Int))} (hm : m_laws_markInt64S l0 p1 = some r) (F0 : Ow 1 encI 2 w0 fp0 A0 cap0 l0) :
    Calls Try.prog 129 #[.slice A0 (l0).length cap0, .int .i64 (p1)] w0 fun e w' => e = .returned (.int .i64 (r.1)) ∧ Ow 1 encI 2 w' fp0 A0 cap0 r.2 ∧ (r.2).length = (l0).length ∧ Chg (fp0 ++ []) w0 w' := by
  have L0 := F0.low
  have hB : Chg (fp0 ++ []) w0 w0 := Chg.refl _ _
  have hZ := Nat.le_refl w0.heap.size
  unfold m_laws_markInt64S at hm
  refine enterE (N := 19) Try.func129 (by rfl) Try.ntmps129 (by simp) [(0, .slice A0 (l0).length cap0), (1, .int .i64 (p1))] (by rfl) (by kernel_rfl) (fun a => ?_)
  refine cW_seq ?_
  refine cW_region ?_
  refine wS_pure 1 [(4, .int .i64 (0))] (by kernel_rfl) ?_
  refine wS_end (by rfl) ?_
  refine eX_then ?_
  refine cW_seq ?_
  refine cW_seq ?_
  refine cW_region ?_
  refine wS_pure 1 [(5, .int .i64 (0))] (by kernel_rfl) ?_
  refine wS_end (by rfl) ?_
  refine eX_then ?_
  obtain ⟨r37, hr38, hm⟩ := bindE hm
  have hm39 := hm
  refine cW_cut (fun a' w' => ∃ x25 : Int, ∃ l26 : List (Int), (x25, l26) = r37 ∧ Fr 19 [(1, .int .i64 (x25))] a' ∧ Ow 1 encI 2 w' fp0 A0 cap0 l26 ∧ (l26).length = (l0).length ∧ Chg (fp0 ++ []) w0 w' ∧ w0.heap.size ≤ w'.heap.size) ?_ ?_
  · refine cW_block ?_
    refine cW_loop _ (fun (s40 : Int × Int × (List (Int))) a' w' => ∃ x31 : Int, ∃ x32 : Int, ∃ l33 : List (Int), (x31, x32, l33) = s40 ∧ Fr 19 [(0, .slice A0 (l33).length cap0), (1, .int .i64 (x31)), (5, .int .i64 (x32))] a' ∧ Ow 1 encI 2 w' fp0 A0 cap0 l33 ∧ (l33).length = (l0).length ∧ Chg (fp0 ++ []) w0 w' ∧ w0.heap.size ≤ w'.heap.size) hr38 (fun hst => ⟨p1, 0, l0, rfl, Fr.of hst (by kernel_rfl), F0, (Eq.refl (l0).length), hB, hZ⟩) ?_
    rintro _ c41 a' w30 ⟨x31, x32, l33, rfl, hF34, F35, hl36, hB, hZ⟩ hx42
    refine Fr.goOn hF34 (by kernel_rfl) ?_
    have hm := hx42
    unfold m_laws_markInt64S_s1 at hm
    refine cW_seq ?_
    refine cW_seq ?_
    refine cW_region ?_
    refine wS_pure 4 [(9, .bool (decide (x32 < (((l33).length : Int))))), (8, .int .i64 (((l33).length : Int))), (7, .slice A0 (l33).length cap0), (6, .int .i64 (x32))] (by kernel_rfl) ?_
    refine wS_end (by rfl) ?_
    refine eX_then ?_
    refine cW_cond (t := decide (x32 < (((l33).length : Int)))) (by kernel_rfl) (fun hb43 => ?_) (fun hb43 => ?_)
    · have hm := condT hb43 hm
      refine cW_skip ?_
      refine eX_then ?_
      refine cW_seq ?_
      refine cW_block ?_
      refine cW_seq ?_
      refine cW_region ?_
      refine wS_pure 3 [(14, .int .i64 (x31)), (13, .int .i64 (x32)), (12, .slice A0 (l33).length cap0)] (by kernel_rfl) ?_
      obtain ⟨x44, hx45, hm⟩ := bindE hm
      refine wS_idx (d := 15) (T := 25) (A := A0) (n := (l33).length) (cap := cap0) (kd := .i64) (m := x32) (by kernel_rfl) sl25 ((F35.sl encI_ok).is hx45) ?_
      refine wS_storeEl (x := x44) x31 (T := 2) (U := 2) (cap := cap0) (j := 0) (A := A0) (v := .int .i64 (x31)) (vs := [.int .i64 (x31)]) (m := x32) (by kernel_rfl) (by rfl) sz2 (by rfl) encI_ok F35 hx45 (by simp only [List.length_cons, List.length_nil]; omega) (by rfl) ?_
      intro w46 F47 hc48
      replace hB := hB.inS hc48 (inMem (fun x hx => (List.mem_append_left _ hx)))
      replace hZ := Nat.le_trans hZ hc48.size
      clear F35
      have hl49 := (show (l33.set (Int.toNat x32) x31).length = (l33).length from List.length_set ..).trans hl36
      rewrite [show (l33).length = (l33.set (Int.toNat x32) x31).length from (List.length_set ..).symm]
      refine wS_end (by rfl) ?_
      refine eX_then ?_
      refine cW_region ?_
      refine wS_pure 3 [(1, .int .i64 (wr (x31 + 1))), (17, .int .i64 (wr (x31 + 1))), (16, .int .i64 (x31))] (by kernel_rfl) ?_
      refine wS_end (by rfl) ?_
      refine eX_block ?_
      refine eX_then ?_
      refine cW_region ?_
      refine wS_pure 3 [(5, .int .i64 (wr (x32 + 1))), (11, .int .i64 (wr (x32 + 1))), (10, .int .i64 (x32))] (by kernel_rfl) ?_
      refine wS_end (by rfl) ?_
      have hq : (some (Ctl.next ((wr (x31 + 1), wr (x32 + 1), l33.set (Int.toNat x32) x31))) : Option (Ctl (Int × Int × (List (Int))) (Int × (List (Int))))) = some _ := hm
      replace hq := someE hq
      subst hq
      exact eX_next hx42 (fun hst => ⟨wr (x31 + 1), wr (x32 + 1), l33.set (Int.toNat x32) x31, rfl, Fr.of hst (by kernel_rfl), F47, hl49, hB, hZ⟩)
    · have hm := condF hb43 hm
      refine cW_exit ?_
      refine eX_then_exit ?_
      have hq : (some (Ctl.out ((x31, l33))) : Option (Ctl (Int × Int × (List (Int))) (Int × (List (Int))))) = some _ := hm
      replace hq := someE hq
      subst hq
      refine eX_outX hx42 (fun hr50 => ?_)
      replace hr50 := hr50.symm
      subst hr50
      refine eX_block_hit ?_
      exact eX_J (fun hst => ⟨x31, l33, rfl, Fr.of hst (by kernel_rfl), F35, hl36, hB, hZ⟩)
  · rintro a' w24 ⟨x25, l26, hJ, hF27, F28, hl29, hB, hZ⟩
    subst hJ
    refine Fr.goX hF27 (by kernel_rfl) ?_
    refine eX_then ?_
    refine cW_seq ?_
    refine cW_region ?_
    refine wS_pure 2 [(4, .int .i64 (x25)), (18, .int .i64 (x25))] (by kernel_rfl) ?_
    refine wS_end (by rfl) ?_
    refine eX_then ?_
    refine cW_ret ?_
    have hq : (some ((x25, l26)) : Option ((Int) × (List (Int)))) = some _ := hm
    replace hq := someE hq
    subst hq
    refine eX_ret (vs := [.int .i64 (x25)]) [.tmp 4] (by rfl) ⟨by (show lkE _ _ _ = _); kernel_rfl, trivial⟩ ?_
    exact ⟨rfl, F28, (by first | exact hl29 | rfl), hB⟩

set_option maxRecDepth 100000 in
/-- laws.markInt64SS -/
theorem c_laws_markInt64SS {w0 : World} {l0 : List (List (Int))} {A0 : Option Addr} {cap0 : Nat} {fp0 fr0 : List Nat} {p1 : Int} {r : (Int) × (List (List (Int)))} (hm : m_laws_markInt64SS l0 p1 = some r) (F0 : OwR 1 encI 25 2 w0 fp0 fr0 A0 cap0 l0) :
    Calls Try.prog 117 #[.slice A0 (l0).length cap0, .int .i64 (p1)] w0 fun e w' => e = .returned (.int .i64 (r.1)) ∧ OwR 1 encI 25 2 w' fp0 fr0 A0 cap0 r.2 ∧ (r.2).length = (l0).length ∧ Chg ((fp0 ++ fr0) ++ []) w0 w' := by
  have L0 := F0.low
  have hB : Chg ((fp0 ++ fr0) ++ []) w0 w0 := Chg.refl _ _
  have hZ := Nat.le_refl w0.heap.size
  unfold m_laws_markInt64SS at hm
  refine enterE (N := 19) Try.func117 (by rfl) Try.ntmps117 (by simp) [(0, .slice A0 (l0).length cap0), (1, .int .i64 (p1))] (by rfl) (by kernel_rfl) (fun a => ?_)
  refine cW_seq ?_
  refine cW_region ?_
  refine wS_pure 1 [(4, .int .i64 (0))] (by kernel_rfl) ?_
  refine wS_end (by rfl) ?_
  refine eX_then ?_
  refine cW_seq ?_
  refine cW_seq ?_
  refine cW_region ?_
  refine wS_pure 1 [(5, .int .i64 (0))] (by kernel_rfl) ?_
  refine wS_end (by rfl) ?_
  refine eX_then ?_
  obtain ⟨r67, hr68, hm⟩ := bindE hm
  have hm69 := hm
  refine cW_cut (fun a' w' => ∃ x55 : Int, ∃ l56 : List (List (Int)), (x55, l56) = r67 ∧ Fr 19 [(1, .int .i64 (x55))] a' ∧ OwR 1 encI 25 2 w' fp0 fr0 A0 cap0 l56 ∧ (l56).length = (l0).length ∧ Chg ((fp0 ++ fr0) ++ []) w0 w' ∧ w0.heap.size ≤ w'.heap.size) ?_ ?_
  · refine cW_block ?_
    refine cW_loop _ (fun (s70 : Int × Int × (List (List (Int)))) a' w' => ∃ x61 : Int, ∃ x62 : Int, ∃ l63 : List (List (Int)), (x61, x62, l63) = s70 ∧ Fr 19 [(0, .slice A0 (l63).length cap0), (1, .int .i64 (x61)), (5, .int .i64 (x62))] a' ∧ OwR 1 encI 25 2 w' fp0 fr0 A0 cap0 l63 ∧ (l63).length = (l0).length ∧ Chg ((fp0 ++ fr0) ++ []) w0 w' ∧ w0.heap.size ≤ w'.heap.size) hr68 (fun hst => ⟨p1, 0, l0, rfl, Fr.of hst (by kernel_rfl), F0, (Eq.refl (l0).length), hB, hZ⟩) ?_
    rintro _ c71 a' w60 ⟨x61, x62, l63, rfl, hF64, F65, hl66, hB, hZ⟩ hx72
    refine Fr.goOn hF64 (by kernel_rfl) ?_
    have hm := hx72
    unfold m_laws_markInt64SS_s1 at hm
    refine cW_seq ?_
    refine cW_seq ?_
    refine cW_region ?_
    refine wS_pure 4 [(9, .bool (decide (x62 < (((l63).length : Int))))), (8, .int .i64 (((l63).length : Int))), (7, .slice A0 (l63).length cap0), (6, .int .i64 (x62))] (by kernel_rfl) ?_
    refine wS_end (by rfl) ?_
    refine eX_then ?_
    refine cW_cond (t := decide (x62 < (((l63).length : Int)))) (by kernel_rfl) (fun hb73 => ?_) (fun hb73 => ?_)
    · have hm := condT hb73 hm
      refine cW_skip ?_
      refine eX_then ?_
      refine cW_seq ?_
      refine cW_block ?_
      refine cW_region ?_
      refine wS_pure 2 [(13, .int .i64 (x62)), (12, .slice A0 (l63).length cap0)] (by kernel_rfl) ?_
      obtain ⟨x74, hx75, hm⟩ := bindE hm
      refine wS_idx (d := 14) (T := 40) (A := A0) (n := (l63).length) (cap := cap0) (kd := .i64) (m := x62) (by kernel_rfl) sl40 ((F65.slr encI_ok).is hx75) ?_
      obtain ⟨A76, cap77, fp81, hc79, hsub82, F78, hcl83⟩ := OwR.lend F65 hx75
      have Dm85 := (F65.dj).symm
      refine wS_load1 (d := 15) (T := 25) (ad := (elA A0 1 (x62) 0)) (v := .slice A76 (x74).length cap77) (by kernel_rfl) vt25 hc79 ?_
      refine wS_pure 1 [(16, .int .i64 (x61))] (by kernel_rfl) ?_
      obtain ⟨y86, hy87, hm⟩ := bindE hm
      refine wS_calls (d := 17) (f := 129) (vs := [.slice A76 (x74).length cap77, .int .i64 (x61)]) (by kernel_rfl) ent129 (c_laws_markInt64S hy87 F78) ?_
      rintro _ w88 ⟨rfl, F90, hl91, hc89⟩
      have F92 := hcl83 _ _ (hc89.more (fun x hx => by simpa using hx)) F90 hl91
      have hc93 := hc89.more (S' := (fp0 ++ fr0) ++ []) (fun x hx => List.mem_append_left _ (hsub82 x (by simpa using hx)))
      have hl94 := (show (l63.set (Int.toNat x62) y86.2).length = (l63).length from List.length_set ..).trans hl66
      clear F65
      replace hB := hB.inS hc93 (inApp (inMem (fun x hx => (List.mem_append_left _ hx))) inNil)
      replace hZ := Nat.le_trans hZ hc93.size
      refine ⟨.int .i64 (y86.1), rfl, ?_⟩
      rewrite [(show (l63).length = (l63.set (Int.toNat x62) y86.2).length from (List.length_set ..).symm)]
      refine wS_pure 1 [(1, .int .i64 (y86.1))] (by kernel_rfl) ?_
      refine wS_end (by rfl) ?_
      refine eX_block ?_
      refine eX_then ?_
      refine cW_region ?_
      refine wS_pure 3 [(5, .int .i64 (wr (x62 + 1))), (11, .int .i64 (wr (x62 + 1))), (10, .int .i64 (x62))] (by kernel_rfl) ?_
      refine wS_end (by rfl) ?_
      have hq : (some (Ctl.next ((y86.1, wr (x62 + 1), l63.set (Int.toNat x62) y86.2))) : Option (Ctl (Int × Int × (List (List (Int)))) (Int × (List (List (Int)))))) = some _ := hm
      replace hq := someE hq
      subst hq
      exact eX_next hx72 (fun hst => ⟨y86.1, wr (x62 + 1), l63.set (Int.toNat x62) y86.2, rfl, Fr.of hst (by kernel_rfl), F92, hl94, hB, hZ⟩)
    · have hm := condF hb73 hm
      refine cW_exit ?_
      refine eX_then_exit ?_
      have hq : (some (Ctl.out ((x61, l63))) : Option (Ctl (Int × Int × (List (List (Int)))) (Int × (List (List (Int)))))) = some _ := hm
      replace hq := someE hq
      subst hq
      refine eX_outX hx72 (fun hr95 => ?_)
      replace hr95 := hr95.symm
      subst hr95
      refine eX_block_hit ?_
      exact eX_J (fun hst => ⟨x61, l63, rfl, Fr.of hst (by kernel_rfl), F65, hl66, hB, hZ⟩)
  · rintro a' w54 ⟨x55, l56, hJ, hF57, F58, hl59, hB, hZ⟩
    subst hJ
    refine Fr.goX hF57 (by kernel_rfl) ?_
    refine eX_then ?_
    refine cW_seq ?_
    refine cW_region ?_
    refine wS_pure 2 [(4, .int .i64 (x55)), (18, .int .i64 (x55))] (by kernel_rfl) ?_
    refine wS_end (by rfl) ?_
    refine eX_then ?_
    refine cW_ret ?_
    have hq : (some ((x55, l56)) : Option ((Int) × (List (List (Int))))) = some _ := hm
    replace hq := someE hq
    subst hq
    refine eX_ret (vs := [.int .i64 (x55)]) [.tmp 4] (by rfl) ⟨by (show lkE _ _ _ = _); kernel_rfl, trivial⟩ ?_
    exact ⟨rfl, F58, (by first | exact hl59 | rfl), hB⟩

set_option maxRecDepth 100000 in
/-- laws.markPointS -/
theorem c_laws_markPointS {w0 : World} {l0 : List (Int × Int)} {A0 : Option Addr} {cap0 : Nat} {fp0 : List Nat} {p1 : Int} {r : (Int) × (List (Int × Int))} (hm : m_laws_markPointS l0 p1 = some r) (F0 : Ow 2 encII 37 w0 fp0 A0 cap0 l0) :
    Calls Try.prog 55 #[.slice A0 (l0).length cap0, .int .i64 (p1)] w0 fun e w' => e = .returned (.int .i64 (r.1)) ∧ Ow 2 encII 37 w' fp0 A0 cap0 r.2 ∧ (r.2).length = (l0).length ∧ Chg (fp0 ++ []) w0 w' := by
  have L0 := F0.low
  have hB : Chg (fp0 ++ []) w0 w0 := Chg.refl _ _
  have hZ := Nat.le_refl w0.heap.size
  unfold m_laws_markPointS at hm
  refine enterE (N := 27) Try.func55 (by rfl) Try.ntmps55 (by simp) [(0, .slice A0 (l0).length cap0), (1, .int .i64 (p1))] (by rfl) (by kernel_rfl) (fun a => ?_)
  refine cW_seq ?_
  refine cW_region ?_
  refine wS_pure 1 [(4, .int .i64 (0))] (by kernel_rfl) ?_
  refine wS_end (by rfl) ?_
  refine eX_then ?_
  refine cW_seq ?_
  refine cW_seq ?_
  refine cW_region ?_
  refine wS_pure 1 [(5, .int .i64 (0))] (by kernel_rfl) ?_
  refine wS_end (by rfl) ?_
  refine eX_then ?_
  obtain ⟨r49, hr50, hm⟩ := bindE hm
  have hm51 := hm
  refine cW_cut (fun a' w' => ∃ x37 : Int, ∃ l38 : List (Int × Int), (x37, l38) = r49 ∧ Fr 27 [(1, .int .i64 (x37))] a' ∧ Ow 2 encII 37 w' fp0 A0 cap0 l38 ∧ (l38).length = (l0).length ∧ Chg (fp0 ++ []) w0 w' ∧ w0.heap.size ≤ w'.heap.size) ?_ ?_
  · refine cW_block ?_
    refine cW_loop _ (fun (s52 : Int × Int × (List (Int × Int))) a' w' => ∃ x43 : Int, ∃ x44 : Int, ∃ l45 : List (Int × Int), (x43, x44, l45) = s52 ∧ Fr 27 [(0, .slice A0 (l45).length cap0), (1, .int .i64 (x43)), (5, .int .i64 (x44))] a' ∧ Ow 2 encII 37 w' fp0 A0 cap0 l45 ∧ (l45).length = (l0).length ∧ Chg (fp0 ++ []) w0 w' ∧ w0.heap.size ≤ w'.heap.size) hr50 (fun hst => ⟨p1, 0, l0, rfl, Fr.of hst (by kernel_rfl), F0, (Eq.refl (l0).length), hB, hZ⟩) ?_
    rintro _ c53 a' w42 ⟨x43, x44, l45, rfl, hF46, F47, hl48, hB, hZ⟩ hx54
    refine Fr.goOn hF46 (by kernel_rfl) ?_
    have hm := hx54
    unfold m_laws_markPointS_s1 at hm
    refine cW_seq ?_
    refine cW_seq ?_
    refine cW_region ?_
    refine wS_pure 4 [(9, .bool (decide (x44 < (((l45).length : Int))))), (8, .int .i64 (((l45).length : Int))), (7, .slice A0 (l45).length cap0), (6, .int .i64 (x44))] (by kernel_rfl) ?_
    refine wS_end (by rfl) ?_
    refine eX_then ?_
    refine cW_cond (t := decide (x44 < (((l45).length : Int)))) (by kernel_rfl) (fun hb55 => ?_) (fun hb55 => ?_)
    · have hm := condT hb55 hm
      refine cW_skip ?_
      refine eX_then ?_
      refine cW_seq ?_
      refine cW_block ?_
      refine cW_seq ?_
      refine cW_region ?_
      refine wS_pure 3 [(14, .int .i64 (x43)), (13, .int .i64 (x44)), (12, .slice A0 (l45).length cap0)] (by kernel_rfl) ?_
      obtain ⟨x56, hx57, hm⟩ := bindE hm
      refine wS_idx (d := 15) (T := 32) (A := A0) (n := (l45).length) (cap := cap0) (kd := .i64) (m := x44) (by kernel_rfl) sl32 ((F47.sl encII_ok).is hx57) ?_
      refine wS_pure 1 [(16, .pointer (some (elA A0 2 (x44) 0)))] (by kernel_rfl) ?_
      refine wS_storeEl (x := x56) ((x43, x56.2)) (T := 2) (U := 37) (cap := cap0) (j := 0) (A := A0) (v := .int .i64 (x43)) (vs := [.int .i64 (x43)]) (m := x44) (by kernel_rfl) (by rfl) sz2 (by rfl) encII_ok F47 hx57 (by simp only [List.length_cons, List.length_nil]; omega) (by rfl) ?_
      intro w58 F59 hc60
      replace hB := hB.inS hc60 (inMem (fun x hx => (List.mem_append_left _ hx)))
      replace hZ := Nat.le_trans hZ hc60.size
      clear F47
      have hl61 := (show (l45.set (Int.toNat x44) ((x43, x56.2))).length = (l45).length from List.length_set ..).trans hl48
      rewrite [show (l45).length = (l45.set (Int.toNat x44) ((x43, x56.2))).length from (List.length_set ..).symm]
      refine wS_end (by rfl) ?_
      refine eX_then ?_
      refine cW_seq ?_
      refine cW_region ?_
      refine wS_pure 3 [(1, .int .i64 (wr (x43 + 1))), (18, .int .i64 (wr (x43 + 1))), (17, .int .i64 (x43))] (by kernel_rfl) ?_
      refine wS_end (by rfl) ?_
      refine eX_then ?_
      refine cW_seq ?_
      refine cW_region ?_
      refine wS_pure 3 [(21, .int .i64 (wr (x43 + 1))), (20, .int .i64 (x44)), (19, .slice A0 (l45.set (Int.toNat x44) ((x43, x56.2))).length cap0)] (by kernel_rfl) ?_
      obtain ⟨x62, hx63, hm⟩ := bindE hm
      refine wS_idx (d := 22) (T := 32) (A := A0) (n := (l45.set (Int.toNat x44) ((x43, x56.2))).length) (cap := cap0) (kd := .i64) (m := x44) (by kernel_rfl) sl32 ((F59.sl encII_ok).is hx63) ?_
      refine wS_pure 1 [(23, .pointer (some (elA A0 2 (x44) 1)))] (by kernel_rfl) ?_
      refine wS_storeEl (x := x62) ((x62.1, wr (x43 + 1))) (T := 2) (U := 37) (cap := cap0) (j := 1) (A := A0) (v := .int .i64 (wr (x43 + 1))) (vs := [.int .i64 (wr (x43 + 1))]) (m := x44) (by kernel_rfl) (by rfl) sz2 (by rfl) encII_ok F59 hx63 (by simp only [List.length_cons, List.length_nil]; omega) (by rfl) ?_
      intro w64 F65 hc66
      replace hB := hB.inS hc66 (inMem (fun x hx => (List.mem_append_left _ hx)))
      replace hZ := Nat.le_trans hZ hc66.size
      clear F59
      have hl67 := (show ((l45.set (Int.toNat x44) ((x43, x56.2))).set (Int.toNat x44) ((x62.1, wr (x43 + 1)))).length = (l45.set (Int.toNat x44) ((x43, x56.2))).length from List.length_set ..).trans hl61
      rewrite [show (l45.set (Int.toNat x44) ((x43, x56.2))).length = ((l45.set (Int.toNat x44) ((x43, x56.2))).set (Int.toNat x44) ((x62.1, wr (x43 + 1)))).length from (List.length_set ..).symm]
      refine wS_end (by rfl) ?_
      refine eX_then ?_
      refine cW_region ?_
      refine wS_pure 3 [(1, .int .i64 (wr ((wr (x43 + 1)) + 1))), (25, .int .i64 (wr ((wr (x43 + 1)) + 1))), (24, .int .i64 (wr (x43 + 1)))] (by kernel_rfl) ?_
      refine wS_end (by rfl) ?_
      refine eX_block ?_
      refine eX_then ?_
      refine cW_region ?_
      refine wS_pure 3 [(5, .int .i64 (wr (x44 + 1))), (11, .int .i64 (wr (x44 + 1))), (10, .int .i64 (x44))] (by kernel_rfl) ?_
      refine wS_end (by rfl) ?_
      have hq : (some (Ctl.next ((wr ((wr (x43 + 1)) + 1), wr (x44 + 1), (l45.set (Int.toNat x44) ((x43, x56.2))).set (Int.toNat x44) ((x62.1, wr (x43 + 1)))))) : Option (Ctl (Int × Int × (List (Int × Int))) (Int × (List (Int × Int))))) = some _ := hm
      replace hq := someE hq
      subst hq
      exact eX_next hx54 (fun hst => ⟨wr ((wr (x43 + 1)) + 1), wr (x44 + 1), (l45.set (Int.toNat x44) ((x43, x56.2))).set (Int.toNat x44) ((x62.1, wr (x43 + 1))), rfl, Fr.of hst (by kernel_rfl), F65, hl67, hB, hZ⟩)
    · have hm := condF hb55 hm
      refine cW_exit ?_
      refine eX_then_exit ?_
      have hq : (some (Ctl.out ((x43, l45))) : Option (Ctl (Int × Int × (List (Int × Int))) (Int × (List (Int × Int))))) = some _ := hm
      replace hq := someE hq
      subst hq
      refine eX_outX hx54 (fun hr68 => ?_)
      replace hr68 := hr68.symm
      subst hr68
      refine eX_block_hit ?_
      exact eX_J (fun hst => ⟨x43, l45, rfl, Fr.of hst (by kernel_rfl), F47, hl48, hB, hZ⟩)
  · rintro a' w36 ⟨x37, l38, hJ, hF39, F40, hl41, hB, hZ⟩
    subst hJ
    refine Fr.goX hF39 (by kernel_rfl) ?_
    refine eX_then ?_
    refine cW_seq ?_
    refine cW_region ?_
    refine wS_pure 2 [(4, .int .i64 (x37)), (26, .int .i64 (x37))] (by kernel_rfl) ?_
    refine wS_end (by rfl) ?_
    refine eX_then ?_
    refine cW_ret ?_
    have hq : (some ((x37, l38)) : Option ((Int) × (List (Int × Int)))) = some _ := hm
    replace hq := someE hq
    subst hq
    refine eX_ret (vs := [.int .i64 (x37)]) [.tmp 4] (by rfl) ⟨by (show lkE _ _ _ = _); kernel_rfl, trivial⟩ ?_
    exact ⟨rfl, F40, (by first | exact hl41 | rfl), hB⟩

set_option maxRecDepth 100000 in
/-- laws.szPointSS -/
theorem c_laws_szPointSS {w0 : World} {l0 : List (List (Int × Int))} {A0 : Option Addr} {cap0 : Nat} {fp0 : List Nat} {p1 : Int} {r : (Int)} (hm : m_laws_szPointSS l0 p1 = some r) (F0 : SlR 2 encII w0 fp0 A0 l0) :
    Calls Try.prog 57 #[.slice A0 (l0).length cap0, .int .i64 (p1)] w0 fun e w' => e = .returned (.int .i64 (r)) ∧ Chg [] w0 w' := by
  have L0 := F0.low
  have hB : Chg [] w0 w0 := Chg.refl _ _
  have hZ := Nat.le_refl w0.heap.size
  unfold m_laws_szPointSS at hm
  refine enterE (N := 27) Try.func57 (by rfl) Try.ntmps57 (by simp) [(0, .slice A0 (l0).length cap0), (1, .int .i64 (p1))] (by rfl) (by kernel_rfl) (fun a => ?_)
  refine cW_seq ?_
  refine cW_region ?_
  refine wS_pure 1 [(4, .int .i64 (0))] (by kernel_rfl) ?_
  refine wS_end (by rfl) ?_
  refine eX_then ?_
  refine cW_seq ?_
  refine cW_region ?_
  refine wS_pure 5 [(1, .int .i64 (wr (p1 - (((l0).length : Int))))), (9, .int .i64 (wr (p1 - (((l0).length : Int))))), (8, .int .i64 (((l0).length : Int))), (7, .slice A0 (l0).length cap0), (6, .int .i64 (p1))] (by kernel_rfl) ?_
  refine wS_end (by rfl) ?_
  refine eX_then ?_
  refine cW_seq ?_
  refine cW_seq ?_
  refine cW_region ?_
  refine wS_pure 2 [(11, .bool (decide ((wr (p1 - (((l0).length : Int)))) < 0))), (10, .int .i64 (wr (p1 - (((l0).length : Int)))))] (by kernel_rfl) ?_
  refine wS_end (by rfl) ?_
  refine eX_then ?_
  refine cW_cond (t := decide ((wr (p1 - (((l0).length : Int)))) < 0)) (by kernel_rfl) (fun hb2 => ?_) (fun hb2 => ?_)
  · have hm := condT hb2 hm
    refine cW_seq ?_
    refine cW_region ?_
    refine wS_pure 1 [(4, .int .i64 ((-1)))] (by kernel_rfl) ?_
    refine wS_end (by rfl) ?_
    refine eX_then ?_
    refine cW_ret ?_
    refine eX_then_ret ?_
    have hq : (some ((-1)) : Option ((Int))) = some _ := hm
    replace hq := someE hq
    subst hq
    refine eX_ret (vs := [.int .i64 ((-1))]) [.tmp 4] (by rfl) ⟨by (show lkE _ _ _ = _); kernel_rfl, trivial⟩ ?_
    exact ⟨rfl, hB⟩
  · have hm := condF hb2 hm
    refine cW_skip ?_
    refine eX_then ?_
    refine cW_seq ?_
    refine cW_seq ?_
    refine cW_region ?_
    refine wS_pure 1 [(5, .int .i64 (0))] (by kernel_rfl) ?_
    refine wS_end (by rfl) ?_
    refine eX_then ?_
    obtain ⟨r45, hr46, hm⟩ := bindE hm
    have hm47 := hm
    refine cW_cut (fun a' w' => ∃ x38 : Int, Sum.inl x38 = r45 ∧ Fr 27 [(1, .int .i64 (x38))] a' ∧ Chg [] w0 w' ∧ w0.heap.size ≤ w'.heap.size) ?_ ?_
    · refine cW_block ?_
      refine cW_loop _ (fun (s48 : Int × Int) a' w' => ∃ x41 : Int, ∃ x42 : Int, (x41, x42) = s48 ∧ Fr 27 [(0, .slice A0 (l0).length cap0), (1, .int .i64 (x41)), (5, .int .i64 (x42))] a' ∧ SlR 2 encII w' fp0 A0 l0 ∧ Chg [] w0 w' ∧ w0.heap.size ≤ w'.heap.size) hr46 (fun hst => ⟨wr (p1 - (((l0).length : Int))), 0, rfl, Fr.of hst (by kernel_rfl), F0, hB, hZ⟩) ?_
      rintro _ c49 a' w40 ⟨x41, x42, rfl, hF43, F44, hB, hZ⟩ hx50
      refine Fr.goOn hF43 (by kernel_rfl) ?_
      have hm := hx50
      unfold m_laws_szPointSS_s1 at hm
      refine cW_seq ?_
      refine cW_seq ?_
      refine cW_region ?_
      refine wS_pure 4 [(15, .bool (decide (x42 < (((l0).length : Int))))), (14, .int .i64 (((l0).length : Int))), (13, .slice A0 (l0).length cap0), (12, .int .i64 (x42))] (by kernel_rfl) ?_
      refine wS_end (by rfl) ?_
      refine eX_then ?_
      refine cW_cond (t := decide (x42 < (((l0).length : Int)))) (by kernel_rfl) (fun hb51 => ?_) (fun hb51 => ?_)
      · have hm := condT hb51 hm
        refine cW_skip ?_
        refine eX_then ?_
        refine cW_seq ?_
        refine cW_block ?_
        refine cW_seq ?_
        refine cW_region ?_
        refine wS_pure 2 [(19, .int .i64 (x42)), (18, .slice A0 (l0).length cap0)] (by kernel_rfl) ?_
        obtain ⟨x52, hx53, hm⟩ := bindE hm
        refine wS_idx (d := 20) (T := 80) (A := A0) (n := (l0).length) (cap := cap0) (kd := .i64) (m := x42) (by kernel_rfl) sl80 (F44.is hx53) ?_
        obtain ⟨A54, cap55, hc57, F56, K58⟩ := SlR.row F44 hx53
        refine wS_load1 (d := 21) (T := 51) (ad := (elA A0 1 (x42) 0)) (v := .slice A54 (x52).length cap55) (by kernel_rfl) vt51 hc57 ?_
        refine wS_pure 1 [(22, .int .i64 (x41))] (by kernel_rfl) ?_
        obtain ⟨y60, hy61, hm⟩ := bindE hm
        refine wS_calls (d := 23) (f := 29) (vs := [.slice A54 (x52).length cap55, .int .i64 (x41)]) (by kernel_rfl) ent29 (c_laws_szPointS hy61 F56) ?_
        rintro _ w62 ⟨rfl, hc63⟩
        replace F44 := F44.chg hc63 Dj.nil
        replace F56 := F56.chg hc63 Dj.nil
        replace hB := hB.inS hc63 inNil
        replace hZ := Nat.le_trans hZ hc63.size
        refine ⟨.int .i64 (y60), rfl, ?_⟩
        refine wS_pure 1 [(1, .int .i64 (y60))] (by kernel_rfl) ?_
        refine wS_end (by rfl) ?_
        refine eX_then ?_
        refine cW_seq ?_
        refine cW_region ?_
        refine wS_pure 2 [(25, .bool (decide (y60 < 0))), (24, .int .i64 (y60))] (by kernel_rfl) ?_
        refine wS_end (by rfl) ?_
        refine eX_then ?_
        refine cW_cond (t := decide (y60 < 0)) (by kernel_rfl) (fun hb64 => ?_) (fun hb64 => ?_)
        · have hm := condT hb64 hm
          refine cW_seq ?_
          refine cW_region ?_
          refine wS_pure 1 [(4, .int .i64 ((-1)))] (by kernel_rfl) ?_
          refine wS_end (by rfl) ?_
          refine eX_then ?_
          refine cW_ret ?_
          refine eX_block_ret ?_
          refine eX_then_ret ?_
          have hq : (some (Ctl.out (Sum.inr ((-1)))) : Option (Ctl (Int × Int) (Sum (Int) ((Int))))) = some _ := hm
          replace hq := someE hq
          subst hq
          refine eX_outR hx50 (fun hr => ?_)
          subst hr
          refine eX_block_ret ?_
          refine eX_then_ret ?_
          refine eX_then_ret ?_
          have hq : (some ((-1)) : Option ((Int))) = some _ := hm47
          replace hq := someE hq
          subst hq
          refine eX_ret (vs := [.int .i64 ((-1))]) [.tmp 4] (by rfl) ⟨by (show lkE _ _ _ = _); kernel_rfl, trivial⟩ ?_
          exact ⟨rfl, hB⟩
        · have hm := condF hb64 hm
          refine cW_skip ?_
          refine eX_block ?_
          refine eX_then ?_
          refine cW_region ?_
          refine wS_pure 3 [(5, .int .i64 (wr (x42 + 1))), (17, .int .i64 (wr (x42 + 1))), (16, .int .i64 (x42))] (by kernel_rfl) ?_
          refine wS_end (by rfl) ?_
          have hq : (some (Ctl.next ((y60, wr (x42 + 1)))) : Option (Ctl (Int × Int) (Sum (Int) ((Int))))) = some _ := hm
          replace hq := someE hq
          subst hq
          exact eX_next hx50 (fun hst => ⟨y60, wr (x42 + 1), rfl, Fr.of hst (by kernel_rfl), F44, hB, hZ⟩)
      · have hm := condF hb51 hm
        refine cW_exit ?_
        refine eX_then_exit ?_
        have hq : (some (Ctl.out (Sum.inl x41)) : Option (Ctl (Int × Int) (Sum (Int) ((Int))))) = some _ := hm
        replace hq := someE hq
        subst hq
        refine eX_outX hx50 (fun hr65 => ?_)
        replace hr65 := hr65.symm
        subst hr65
        refine eX_block_hit ?_
        exact eX_J (fun hst => ⟨x41, rfl, Fr.of hst (by kernel_rfl), hB, hZ⟩)
    · rintro a' w37 ⟨x38, hJ, hF39, hB, hZ⟩
      subst hJ
      refine Fr.goX hF39 (by kernel_rfl) ?_
      refine eX_then ?_
      refine cW_seq ?_
      refine cW_region ?_
      refine wS_pure 2 [(4, .int .i64 (x38)), (26, .int .i64 (x38))] (by kernel_rfl) ?_
      refine wS_end (by rfl) ?_
      refine eX_then ?_
      refine cW_ret ?_
      have hq : (some x38 : Option ((Int))) = some _ := hm
      replace hq := someE hq
      subst hq
      refine eX_ret (vs := [.int .i64 (x38)]) [.tmp 4] (by rfl) ⟨by (show lkE _ _ _ = _); kernel_rfl, trivial⟩ ?_
      exact ⟨rfl, hB⟩

end Go.Proofs.Ytgaecldkiijmpaa
