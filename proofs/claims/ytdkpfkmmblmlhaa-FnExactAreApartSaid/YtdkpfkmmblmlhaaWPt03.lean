/- Printed walks: spec.l01Through, spec.PathThrough, laws.FnExactPathThrough, laws.szPointSS, spec.AreApart, laws.toPointSS, impl.AreApart, laws.eqPointSS, laws.FnExactAreApart. -/
import Derived.Test.YtdkpfkmmblmlhaaProg
import Derived.Test.YtdkpfkmmblmlhaaWPt02
set_option linter.unusedSimpArgs false
set_option linter.unusedVariables false
namespace Go.Proofs.Ytdkpfkmmblmlhaa
open Go.RowKit
attribute [local irreducible] wS cW eX wH

theorem ent20 : Ent Try.prog 20 := fun _ => by kernel_rfl
theorem ent22 : Ent Try.prog 22 := fun _ => by kernel_rfl
theorem ent24 : Ent Try.prog 24 := fun _ => by kernel_rfl
theorem ent36 : Ent Try.prog 36 := fun _ => by kernel_rfl
theorem ent37 : Ent Try.prog 37 := fun _ => by kernel_rfl
theorem ent52 : Ent Try.prog 52 := fun _ => by kernel_rfl
theorem ent58 : Ent Try.prog 58 := fun _ => by kernel_rfl
theorem ent59 : Ent Try.prog 59 := fun _ => by kernel_rfl
theorem ent60 : Ent Try.prog 60 := fun _ => by kernel_rfl
theorem ent61 : Ent Try.prog 61 := fun _ => by kernel_rfl
theorem ent62 : Ent Try.prog 62 := fun _ => by kernel_rfl
theorem ent70 : Ent Try.prog 70 := fun _ => by kernel_rfl
theorem ent90 : Ent Try.prog 90 := fun _ => by kernel_rfl
theorem ent103 : Ent Try.prog 103 := fun _ => by kernel_rfl
theorem ent136 : Ent Try.prog 136 := fun _ => by kernel_rfl
theorem vt4 : VarTy Try.prog 4 1 false := ⟨by kernel_rfl, by kernel_rfl⟩
theorem vt22 : VarTy Try.prog 22 1 false := ⟨by kernel_rfl, by kernel_rfl⟩
theorem vt25 : VarTy Try.prog 25 1 false := ⟨by kernel_rfl, by kernel_rfl⟩
theorem sl52 : SlTy Try.prog 52 22 1 := ⟨Try.underlying52, by kernel_rfl⟩
theorem sl55 : SlTy Try.prog 55 25 1 := ⟨Try.underlying55, by kernel_rfl⟩
theorem sl86 : SlTy Try.prog 86 4 1 := ⟨Try.underlying86, by kernel_rfl⟩
theorem el55 : ElTy Try.prog 55 25 1 (.slice none 0 0) := ElTy.mk' Try.underlying55 (by kernel_rfl) (by rfl)
theorem el86 : ElTy Try.prog 86 4 1 (.bool (false)) := ElTy.mk' Try.underlying86 (by kernel_rfl) (by rfl)
theorem sz4 : pureRun Try.prog (sizeOf 4) = some 1 := by kernel_rfl
theorem sz25 : pureRun Try.prog (sizeOf 25) = some 1 := by kernel_rfl

set_option maxRecDepth 100000 in
/-- spec.l01Through -/
theorem c_spec_l01Through {w0 : World} {l0 : List (Int × Int)} {A0 : Option Addr} {cap0 : Nat} {fp0 : List Nat} {r : (List (Int × Int)) × (Bool)} (hm : m_spec_l01Through l0 = some r) (F0 : Sl 2 encII w0 fp0 A0 l0) :
    Calls Try.prog 103 #[.slice A0 (l0).length cap0] w0 fun e w' => ∃ A100 cap100 fp100, e = .returned (.tuple #[.slice A100 (r.1).length cap100, .bool (r.2)]) ∧ Ow 2 encII 34 w' fp100 A100 cap100 r.1 ∧ (∀ x ∈ fp100, w0.heap.size ≤ x) ∧ Chg [] w0 w' := by
  have L0 := F0.low
  have hB : Chg [] w0 w0 := Chg.refl _ _
  have hZ := Nat.le_refl w0.heap.size
  unfold m_spec_l01Through at hm
  refine enterE (N := 128) Try.func103 (by rfl) Try.ntmps103 (by simp) [(0, .slice A0 (l0).length cap0)] (by rfl) (by kernel_rfl) (fun a => ?_)
  refine cW_seq ?_
  refine cW_region ?_
  refine wS_pure 2 [(3, .bool (false)), (2, .slice none 0 0)] (by kernel_rfl) ?_
  refine wS_end (by rfl) ?_
  refine eX_then ?_
  refine cW_seq ?_
  refine cW_seq ?_
  refine cW_region ?_
  refine wS_pure 4 [(13, .bool ((((l0).length : Int)) == 0)), (12, .bool ((((l0).length : Int)) == 0)), (11, .int .i64 (((l0).length : Int))), (10, .slice A0 (l0).length cap0)] (by kernel_rfl) ?_
  refine wS_bool ((((l0).length : Int)) == 0) (fun hb2 => ?_) (fun hb2 => ?_)
  · have hm := condT hb2 hm
    rewrite [hb2]
    refine wS_pure 11 [(24, .bool (true)), (23, undef), (22, undef), (21, undef), (20, undef), (19, undef), (18, .bool (true)), (17, .bool (true)), (16, undef), (15, undef), (14, undef)] (by kernel_rfl) ?_
    refine wS_end (by rfl) ?_
    refine eX_then ?_
    refine cW_cond_t (by kernel_rfl) ?_
    refine cW_seq ?_
    refine cW_region ?_
    refine wS_pure 2 [(3, .bool (false)), (2, .slice none 0 0)] (by kernel_rfl) ?_
    refine wS_end (by rfl) ?_
    refine eX_then ?_
    refine cW_ret ?_
    refine eX_then_ret ?_
    have hq : (some (([], false)) : Option ((List (Int × Int)) × (Bool))) = some _ := hm
    replace hq := someE hq
    subst hq
    refine eX_ret (vs := [.slice none 0 0, .bool (false)]) [.tmp 2, .tmp 3] (by rfl) ⟨by (show lkE _ _ _ = _); kernel_rfl, ⟨by (show lkE _ _ _ = _); kernel_rfl, trivial⟩⟩ ?_
    exact ⟨none, 0, [], rfl, Ow.nil _, lowNil, hB⟩
  · have hm := condF hb2 hm
    rewrite [hb2]
    refine wS_pure 5 [(18, .bool (decide ((((l0).length : Int)) > 576))), (17, .bool (decide ((((l0).length : Int)) > 576))), (16, .bool (decide ((((l0).length : Int)) > 576))), (15, .int .i64 (((l0).length : Int))), (14, .slice A0 (l0).length cap0)] (by kernel_rfl) ?_
    refine wS_bool (decide ((((l0).length : Int)) > 576)) (fun hb3 => ?_) (fun hb3 => ?_)
    · have hm := condT hb3 hm
      rewrite [hb3]
      refine wS_pure 6 [(24, .bool (true)), (23, undef), (22, undef), (21, undef), (20, undef), (19, undef)] (by kernel_rfl) ?_
      refine wS_end (by rfl) ?_
      refine eX_then ?_
      refine cW_cond_t (by kernel_rfl) ?_
      refine cW_seq ?_
      refine cW_region ?_
      refine wS_pure 2 [(3, .bool (false)), (2, .slice none 0 0)] (by kernel_rfl) ?_
      refine wS_end (by rfl) ?_
      refine eX_then ?_
      refine cW_ret ?_
      refine eX_then_ret ?_
      have hq : (some (([], false)) : Option ((List (Int × Int)) × (Bool))) = some _ := hm
      replace hq := someE hq
      subst hq
      refine eX_ret (vs := [.slice none 0 0, .bool (false)]) [.tmp 2, .tmp 3] (by rfl) ⟨by (show lkE _ _ _ = _); kernel_rfl, ⟨by (show lkE _ _ _ = _); kernel_rfl, trivial⟩⟩ ?_
      exact ⟨none, 0, [], rfl, Ow.nil _, lowNil, hB⟩
    · have hm := condF hb3 hm
      rewrite [hb3]
      refine wS_pure 1 [(19, .slice A0 (l0).length cap0)] (by kernel_rfl) ?_
      obtain ⟨x4, hx5, hm⟩ := bindE hm
      refine wS_idx (d := 20) (T := 25) (A := A0) (n := (l0).length) (cap := cap0) (kd := .i64) (m := 0) (by kernel_rfl) sl25 (F0.is hx5) ?_
      refine wS_loadA (d := 21) (T := 34) (ad := (elA A0 2 (0) 0)) (vs := [.int .i64 (x4.1), .int .i64 (x4.2)]) (by kernel_rfl) vt34 (fun i u hu => Sl.cells_at F0 hx5 0 hu (by rfl)) ?_
      obtain ⟨y6, hy7, hm⟩ := bindE hm
      refine wS_calls (d := 22) (f := 76) (vs := [.agg #[.int .i64 (x4.1), .int .i64 (x4.2)]]) (by kernel_rfl) ent76 (c_spec_l01Point hy7) ?_
      rintro _ w8 ⟨rfl, hc9⟩
      replace F0 := F0.chg hc9 Dj.nil
      replace hB := hB.inS hc9 inNil
      replace hZ := Nat.le_trans hZ hc9.size
      refine ⟨.bool (y6), rfl, ?_⟩
      refine wS_pure 2 [(24, .bool (!y6)), (23, .bool (!y6))] (by kernel_rfl) ?_
      refine wS_end (by rfl) ?_
      refine eX_then ?_
      refine cW_cond (t := !y6) (by kernel_rfl) (fun hb10 => ?_) (fun hb10 => ?_)
      · have hm := condT hb10 hm
        refine cW_seq ?_
        refine cW_region ?_
        refine wS_pure 2 [(3, .bool (false)), (2, .slice none 0 0)] (by kernel_rfl) ?_
        refine wS_end (by rfl) ?_
        refine eX_then ?_
        refine cW_ret ?_
        refine eX_then_ret ?_
        have hq : (some (([], false)) : Option ((List (Int × Int)) × (Bool))) = some _ := hm
        replace hq := someE hq
        subst hq
        refine eX_ret (vs := [.slice none 0 0, .bool (false)]) [.tmp 2, .tmp 3] (by rfl) ⟨by (show lkE _ _ _ = _); kernel_rfl, ⟨by (show lkE _ _ _ = _); kernel_rfl, trivial⟩⟩ ?_
        exact ⟨none, 0, [], rfl, Ow.nil _, lowNil, hB⟩
      · have hm := condF hb10 hm
        refine cW_skip ?_
        refine eX_then ?_
        refine cW_seq ?_
        refine cW_region ?_
        refine wS_pure 1 [(25, .slice A0 (l0).length cap0)] (by kernel_rfl) ?_
        obtain ⟨x11, hx12, hm⟩ := bindE hm
        refine wS_idx (d := 26) (T := 25) (A := A0) (n := (l0).length) (cap := cap0) (kd := .i64) (m := 0) (by kernel_rfl) sl25 (F0.is hx12) ?_
        refine wS_loadA (d := 27) (T := 34) (ad := (elA A0 2 (0) 0)) (vs := [.int .i64 (x11.1), .int .i64 (x11.2)]) (by kernel_rfl) vt34 (fun i u hu => Sl.cells_at F0 hx12 0 hu (by rfl)) ?_
        refine wS_bs (enc := encII) ([(x11.1, x11.2)] : List (Int × Int)) [.int .i64 (x11.1), .int .i64 (x11.2)] (d := 28) (t := 25) (T := 34) (n := 1) (ps := [(0, .agg #[.int .i64 (x11.1), .int .i64 (x11.2)])]) (by kernel_rfl) el25 encII_ok (by rfl) (by omega) (by omega) (by kernel_rfl) (by rfl) ?_
        intro b13 w14 G15 F16 hc17
        replace F0 := F0.chg hc17 Dj.nil
        replace hB := hB.inS hc17 inNil
        replace G15 := Nat.le_trans hZ G15
        replace G15 := low1 G15
        replace hZ := Nat.le_trans hZ hc17.size
        refine wS_pure 1 [(4, .slice (some ⟨b13, 0, none⟩) (([(x11.1, x11.2)] : List (Int × Int))).length 1)] (by kernel_rfl) ?_
        refine wS_end (by rfl) ?_
        refine eX_then ?_
        refine cW_seq ?_
        refine cW_seq ?_
        refine cW_region ?_
        refine wS_pure 1 [(5, .int .i64 (1))] (by kernel_rfl) ?_
        refine wS_end (by rfl) ?_
        refine eX_then ?_
        refine cW_prune [(0, .slice A0 (l0).length cap0), (4, .slice (some ⟨b13, 0, none⟩) (([(x11.1, x11.2)] : List (Int × Int))).length 1), (5, .int .i64 (1))] (by kernel_rfl) (by kernel_rfl) (fun a19 => ?_)
        obtain ⟨r1528, hr1529, hm⟩ := bindE hm
        have hm1530 := hm
        refine cW_cut (fun a' w' => ∃ l1508 : List (Int × Int), ∃ A1509 : Option Addr, ∃ cap1510 : Nat, ∃ fp1511 : List Nat, Sum.inl l1508 = r1528 ∧ Fr 128 [(0, .slice A0 (l0).length cap0), (4, .slice A1509 (l1508).length cap1510)] a' ∧ Sl 2 encII w' fp0 A0 l0 ∧ Ow 2 encII 34 w' fp1511 A1509 cap1510 l1508 ∧ (∀ x ∈ fp1511, w0.heap.size ≤ x) ∧ Chg [] w0 w' ∧ w0.heap.size ≤ w'.heap.size) ?_ ?_
        · refine cW_block ?_
          refine cW_loop _ (fun (s1531 : (List (Int × Int)) × Int) a' w' => ∃ l1518 : List (Int × Int), ∃ A1519 : Option Addr, ∃ cap1520 : Nat, ∃ fp1521 : List Nat, ∃ x1523 : Int, (l1518, x1523) = s1531 ∧ Fr 128 [(0, .slice A0 (l0).length cap0), (4, .slice A1519 (l1518).length cap1520), (5, .int .i64 (x1523))] a' ∧ Sl 2 encII w' fp0 A0 l0 ∧ Ow 2 encII 34 w' fp1521 A1519 cap1520 l1518 ∧ (∀ x ∈ fp1521, w0.heap.size ≤ x) ∧ Chg [] w0 w' ∧ w0.heap.size ≤ w'.heap.size) hr1529 (fun hst => ⟨([(x11.1, x11.2)] : List (Int × Int)), (some ⟨b13, 0, none⟩), 1, [b13], 1, rfl, Fr.of hst (by kernel_rfl), F0, F16, G15, hB, hZ⟩) ?_
          rintro _ c1532 a' w1517 ⟨l1518, A1519, cap1520, fp1521, x1523, rfl, hF1524, F1525, F1526, G1527, hB, hZ⟩ hx1533
          refine Fr.goOn hF1524 (by kernel_rfl) ?_
          have hm := hx1533
          unfold m_spec_l01Through_s5 at hm
          refine cW_seq ?_
          refine cW_seq ?_
          refine cW_region ?_
          refine wS_pure 4 [(32, .bool (decide (x1523 < (((l0).length : Int))))), (31, .int .i64 (((l0).length : Int))), (30, .slice A0 (l0).length cap0), (29, .int .i64 (x1523))] (by kernel_rfl) ?_
          refine wS_end (by rfl) ?_
          refine eX_then ?_
          refine cW_cond (t := decide (x1523 < (((l0).length : Int)))) (by kernel_rfl) (fun hb1534 => ?_) (fun hb1534 => ?_)
          · have hm := condT hb1534 hm
            refine cW_skip ?_
            refine eX_then ?_
            refine cW_seq ?_
            refine cW_block ?_
            refine cW_seq ?_
            refine cW_region ?_
            refine wS_pure 2 [(36, .int .i64 (x1523)), (35, .slice A0 (l0).length cap0)] (by kernel_rfl) ?_
            obtain ⟨x1535, hx1536, hm⟩ := bindE hm
            refine wS_idx (d := 37) (T := 25) (A := A0) (n := (l0).length) (cap := cap0) (kd := .i64) (m := x1523) (by kernel_rfl) sl25 (F1525.is hx1536) ?_
            refine wS_loadA (d := 38) (T := 34) (ad := (elA A0 2 (x1523) 0)) (vs := [.int .i64 (x1535.1), .int .i64 (x1535.2)]) (by kernel_rfl) vt34 (fun i u hu => Sl.cells_at F1525 hx1536 0 hu (by rfl)) ?_
            refine wS_alloc (d := 6) (T := 34) (z := .agg #[.int .i64 (0), .int .i64 (0)]) (by kernel_rfl) (by kernel_rfl) ?_
            intro b1537 w1538 G1539 F1540 hc1541
            replace F1540 : Cl w1538 b1537 34 [.int .i64 (0), .int .i64 (0)] := F1540
            have D1543 : Dj fp1521 [b1537] := Dj.of F1526.low (low1 G1539)
            replace F1525 := F1525.chg hc1541 Dj.nil
            replace F1526 := F1526.chg hc1541 Dj.nil
            replace hB := hB.inS hc1541 inNil
            replace G1539 := Nat.le_trans hZ G1539
            replace hZ := Nat.le_trans hZ hc1541.size
            refine wS_store (T := 34) (g := b1537) (o := 0) (ad := ⟨b1537, 0, none⟩) (v := .agg #[.int .i64 (x1535.1), .int .i64 (x1535.2)]) (vs := [.int .i64 (x1535.1), .int .i64 (x1535.2)]) (by kernel_rfl) (by rfl) sz34 (by rfl) (by rfl) F1540 (by simp only [List.length_cons, List.length_nil]; omega) ?_
            intro w1544 F1545 hc1546
            replace F1525 := F1525.chg hc1546 (Dj.of L0 (low1 G1539))
            replace F1526 := F1526.chg hc1546 D1543
            replace hB := hB.inS hc1546 (inLow (low1 G1539))
            replace hZ := Nat.le_trans hZ hc1546.size
            replace F1545 : Cl w1544 b1537 34 [.int .i64 (x1535.1), .int .i64 (x1535.2)] := F1545
            clear F1540
            refine wS_end (by rfl) ?_
            refine eX_then ?_
            refine cW_seq ?_
            refine cW_seq ?_
            refine cW_drawnTail [] 22 (by kernel_rfl) (by kernel_rfl) (fun w1562 hc1563 => ?_)
            replace F1525 := F1525.chg hc1563 Dj.nil
            replace F1526 := F1526.chg hc1563 Dj.nil
            replace F1545 := F1545.chg hc1563 notNil
            replace hB := hB.inS hc1563 inNil
            replace hZ := Nat.le_trans hZ hc1563.size
            have hS := Chg.refl [] w1562
            have Z1564 := F1525
            have Z1565 := F1526
            have Z1566 := F1545
            refine wH_loadA (i := 0) (d := 39) (T := 34) (ad := ⟨b1537, 0, none⟩) (vs := [.int .i64 (x1535.1), .int .i64 (x1535.2)]) (by kernel_rfl) (qT (qT (qT (qB (qT (qL (qB (qT (qT qZ))))))))) (by kernel_rfl) (by kernel_rfl) vt34 (fun W hW i u hu => box_cells (Z1566.chg hW notNil) 0 hu (by rfl)) ?_
            refine wH_all [1] (by rfl) (by kernel_rfl) (by simp) ⟨⟨by kernel_rfl, ?_⟩, trivial⟩
            obtain ⟨y1567, hy1568, hm⟩ := bindE hm
            refine wS_calls (d := 40) (f := 76) (vs := [.agg #[.int .i64 (x1535.1), .int .i64 (x1535.2)]]) (by kernel_rfl) ent76 (c_spec_l01Point hy1568) ?_
            rintro _ w1569 ⟨rfl, hc1570⟩
            replace F1525 := F1525.chg hc1570 Dj.nil
            replace F1526 := F1526.chg hc1570 Dj.nil
            replace F1545 := F1545.chg hc1570 notNil
            replace hB := hB.inS hc1570 inNil
            have hSz := hS
            replace hS := hS.inS hc1570 inNil
            replace hZ := Nat.le_trans hZ hc1570.size
            refine ⟨.bool (y1567), rfl, ?_⟩
            refine wS_end (by kernel_rfl) ?_
            refine eX_KH hS ?_
            refine wH_take [2, 3] [3, 2, 1, 0] [(42, .bool (!y1567)), (41, .bool (!y1567))] (by kernel_rfl) (qT (qT (qT (qB (qT (qL (qB (qT (qT qZ))))))))) (by kernel_rfl) ?_
            refine wH_bool (!y1567) (fun hb1571 => ?_) (fun hb1571 => ?_)
            · have hm := condT hb1571 hm
              rewrite [hb1571]
              refine wH_take [4, 5, 6, 7, 8, 9, 10, 11, 12, 13, 14, 15, 16, 17, 18, 19, 20, 21] [21, 20, 19, 18, 17, 16, 15, 14, 13, 12, 11, 10, 9, 8, 7, 6, 5, 4, 3, 2, 1, 0] [(60, undef), (59, undef), (58, undef), (57, undef), (56, undef), (55, undef), (54, undef), (53, undef), (52, undef), (51, undef), (50, undef), (49, undef), (48, undef), (47, undef), (46, undef), (45, undef), (44, undef), (43, undef)] (by kernel_rfl) (qT (qT (qT (qB (qT (qL (qB (qT (qT qZ))))))))) (by kernel_rfl) ?_
              refine wH_done (by kernel_rfl) ?_
              refine eX_tail ?_
              refine wS_pure 3 [(63, .bool (true)), (62, undef), (61, undef)] (by kernel_rfl) ?_
              refine wS_end (by rfl) ?_
              refine eX_then ?_
              refine cW_prune [(0, .slice A0 (l0).length cap0), (4, .slice A1519 (l1518).length cap1520), (5, .int .i64 (x1523)), (6, .pointer (some ⟨b1537, 0, none⟩)), (63, .bool (true))] (by kernel_rfl) (by kernel_rfl) (fun a1572 => ?_)
              refine cW_cond_t (by kernel_rfl) ?_
              refine cW_seq ?_
              refine cW_region ?_
              refine wS_pure 2 [(3, .bool (false)), (2, .slice none 0 0)] (by kernel_rfl) ?_
              refine wS_end (by rfl) ?_
              refine eX_then ?_
              refine cW_ret ?_
              refine eX_then_ret ?_
              refine eX_block_ret ?_
              refine eX_then_ret ?_
              have hq : (some (Ctl.out (Sum.inr (([], false)))) : Option (Ctl ((List (Int × Int)) × Int) (Sum ((List (Int × Int))) ((List (Int × Int)) × (Bool))))) = some _ := hm
              replace hq := someE hq
              subst hq
              refine eX_outR hx1533 (fun hr => ?_)
              subst hr
              refine eX_block_ret ?_
              refine eX_then_ret ?_
              refine eX_then_ret ?_
              have hq : (some (([], false)) : Option ((List (Int × Int)) × (Bool))) = some _ := hm1530
              replace hq := someE hq
              subst hq
              refine eX_ret (vs := [.slice none 0 0, .bool (false)]) [.tmp 2, .tmp 3] (by rfl) ⟨by (show lkE _ _ _ = _); kernel_rfl, ⟨by (show lkE _ _ _ = _); kernel_rfl, trivial⟩⟩ ?_
              exact ⟨none, 0, [], rfl, Ow.nil _, lowNil, hB⟩
            · have hm := condF hb1571 hm
              rewrite [hb1571]
              refine wH_take [4] [4, 3, 2, 1, 0] [(43, .pointer (some ⟨b1537, 0, none⟩))] (by kernel_rfl) (qT (qT (qT (qB (qT (qL (qB (qT (qT qZ))))))))) (by kernel_rfl) ?_
              refine wH_load1 (i := 5) (d := 44) (T := 2) (ad := ⟨b1537, 0, none⟩) (v := .int .i64 (x1535.1)) (by kernel_rfl) (qT (qT (qT (qB (qT (qL (qB (qT (qT qZ))))))))) (by kernel_rfl) (by kernel_rfl) vt2 (fun W hW => (Z1566.chg hW notNil).cell 0) ?_
              refine wH_take [6, 7, 8] [8, 7, 6, 5, 4, 3, 2, 1, 0] [(47, .int .i64 (wr (x1523 - 1))), (46, .int .i64 (x1523)), (45, .slice A0 (l0).length cap0)] (by kernel_rfl) (qT (qT (qT (qB (qT (qL (qB (qT (qT qZ))))))))) (by kernel_rfl) ?_
              obtain ⟨x1573, hx1574, hm⟩ := bindE hm
              refine wH_idx (i := 9) (d := 48) (T := 25) (A := A0) (n := (l0).length) (cap := cap0) (kd := .i64) (m := wr (x1523 - 1)) (by kernel_rfl) (qT (qT (qT (qB (qT (qL (qB (qT (qT qZ))))))))) (by kernel_rfl) (by kernel_rfl) sl25 (F1525.is hx1574) ?_
              refine wH_take [10] [10, 9, 8, 7, 6, 5, 4, 3, 2, 1, 0] [(49, .pointer (some (elA A0 2 (wr (x1523 - 1)) 0)))] (by kernel_rfl) (qT (qT (qT (qB (qT (qL (qB (qT (qT qZ))))))))) (by kernel_rfl) ?_
              refine wH_load1 (i := 11) (d := 50) (T := 2) (ad := (elA A0 2 (wr (x1523 - 1)) 0)) (v := .int .i64 (x1573.1)) (by kernel_rfl) (qT (qT (qT (qB (qT (qL (qB (qT (qT qZ))))))))) (by kernel_rfl) (by kernel_rfl) vt2 (fun W hW => Sl.cell (Z1564.chg hW Dj.nil) hx1574 0 (by rfl)) ?_
              refine wH_take [12, 13] [13, 12, 11, 10, 9, 8, 7, 6, 5, 4, 3, 2, 1, 0] [(52, .bool (x1535.1 != x1573.1)), (51, .bool (x1535.1 != x1573.1))] (by kernel_rfl) (qT (qT (qT (qB (qT (qL (qB (qT (qT qZ))))))))) (by kernel_rfl) ?_
              refine wH_bool (x1535.1 != x1573.1) (fun hb1575 => ?_) (fun hb1575 => ?_)
              · have hm := condT hb1575 hm
                rewrite [hb1575]
                refine wH_take [14] [14, 13, 12, 11, 10, 9, 8, 7, 6, 5, 4, 3, 2, 1, 0] [(53, .pointer (some ⟨b1537, 1, none⟩))] (by kernel_rfl) (qT (qT (qT (qB (qT (qL (qB (qT (qT qZ))))))))) (by kernel_rfl) ?_
                refine wH_load1 (i := 15) (d := 54) (T := 2) (ad := ⟨b1537, 1, none⟩) (v := .int .i64 (x1535.2)) (by kernel_rfl) (qT (qT (qT (qB (qT (qL (qB (qT (qT qZ))))))))) (by kernel_rfl) (by kernel_rfl) vt2 (fun W hW => (Z1566.chg hW notNil).cell 1) ?_
                refine wH_take [16, 17, 18] [18, 17, 16, 15, 14, 13, 12, 11, 10, 9, 8, 7, 6, 5, 4, 3, 2, 1, 0] [(57, .int .i64 (wr (x1523 - 1))), (56, .int .i64 (x1523)), (55, .slice A0 (l0).length cap0)] (by kernel_rfl) (qT (qT (qT (qB (qT (qL (qB (qT (qT qZ))))))))) (by kernel_rfl) ?_
                obtain ⟨x1576, hx1577, hm⟩ := bindE hm
                refine wH_idx (i := 19) (d := 58) (T := 25) (A := A0) (n := (l0).length) (cap := cap0) (kd := .i64) (m := wr (x1523 - 1)) (by kernel_rfl) (qT (qT (qT (qB (qT (qL (qB (qT (qT qZ))))))))) (by kernel_rfl) (by kernel_rfl) sl25 (F1525.is hx1577) ?_
                refine wH_take [20] [20, 19, 18, 17, 16, 15, 14, 13, 12, 11, 10, 9, 8, 7, 6, 5, 4, 3, 2, 1, 0] [(59, .pointer (some (elA A0 2 (wr (x1523 - 1)) 1)))] (by kernel_rfl) (qT (qT (qT (qB (qT (qL (qB (qT (qT qZ))))))))) (by kernel_rfl) ?_
                refine wH_load1 (i := 21) (d := 60) (T := 2) (ad := (elA A0 2 (wr (x1523 - 1)) 1)) (v := .int .i64 (x1576.2)) (by kernel_rfl) (qT (qT (qT (qB (qT (qL (qB (qT (qT qZ))))))))) (by kernel_rfl) (by kernel_rfl) vt2 (fun W hW => Sl.cell (Z1564.chg hW Dj.nil) hx1577 1 (by rfl)) ?_
                refine wH_done (by kernel_rfl) ?_
                refine eX_tail ?_
                refine wS_pure 3 [(63, .bool (x1535.2 != x1576.2)), (62, .bool (x1535.2 != x1576.2)), (61, .bool (x1535.2 != x1576.2))] (by kernel_rfl) ?_
                refine wS_end (by rfl) ?_
                refine eX_then ?_
                refine cW_prune [(0, .slice A0 (l0).length cap0), (4, .slice A1519 (l1518).length cap1520), (5, .int .i64 (x1523)), (6, .pointer (some ⟨b1537, 0, none⟩)), (63, .bool (x1535.2 != x1576.2))] (by kernel_rfl) (by kernel_rfl) (fun a1578 => ?_)
                refine cW_cond (t := x1535.2 != x1576.2) (by kernel_rfl) (fun hb1579 => ?_) (fun hb1579 => ?_)
                · have hm := condT hb1579 hm
                  refine cW_seq ?_
                  refine cW_region ?_
                  refine wS_pure 2 [(3, .bool (false)), (2, .slice none 0 0)] (by kernel_rfl) ?_
                  refine wS_end (by rfl) ?_
                  refine eX_then ?_
                  refine cW_ret ?_
                  refine eX_then_ret ?_
                  refine eX_block_ret ?_
                  refine eX_then_ret ?_
                  have hq : (some (Ctl.out (Sum.inr (([], false)))) : Option (Ctl ((List (Int × Int)) × Int) (Sum ((List (Int × Int))) ((List (Int × Int)) × (Bool))))) = some _ := hm
                  replace hq := someE hq
                  subst hq
                  refine eX_outR hx1533 (fun hr => ?_)
                  subst hr
                  refine eX_block_ret ?_
                  refine eX_then_ret ?_
                  refine eX_then_ret ?_
                  have hq : (some (([], false)) : Option ((List (Int × Int)) × (Bool))) = some _ := hm1530
                  replace hq := someE hq
                  subst hq
                  refine eX_ret (vs := [.slice none 0 0, .bool (false)]) [.tmp 2, .tmp 3] (by rfl) ⟨by (show lkE _ _ _ = _); kernel_rfl, ⟨by (show lkE _ _ _ = _); kernel_rfl, trivial⟩⟩ ?_
                  exact ⟨none, 0, [], rfl, Ow.nil _, lowNil, hB⟩
                · have hm := condF hb1579 hm
                  refine cW_skip ?_
                  refine eX_then ?_
                  refine cW_seq ?_
                  refine cW_region ?_
                  refine wS_pure 3 [(66, .int .i64 (wr (x1523 - 1))), (65, .int .i64 (x1523)), (64, .slice A0 (l0).length cap0)] (by kernel_rfl) ?_
                  obtain ⟨x1580, hx1581, hm⟩ := bindE hm
                  refine wS_idx (d := 67) (T := 25) (A := A0) (n := (l0).length) (cap := cap0) (kd := .i64) (m := wr (x1523 - 1)) (by kernel_rfl) sl25 (F1525.is hx1581) ?_
                  refine wS_loadA (d := 68) (T := 34) (ad := (elA A0 2 (wr (x1523 - 1)) 0)) (vs := [.int .i64 (x1580.1), .int .i64 (x1580.2)]) (by kernel_rfl) vt34 (fun i u hu => Sl.cells_at F1525 hx1581 0 hu (by rfl)) ?_
                  refine wS_alloc (d := 7) (T := 34) (z := .agg #[.int .i64 (0), .int .i64 (0)]) (by kernel_rfl) (by kernel_rfl) ?_
                  intro b1582 w1583 G1584 F1585 hc1586
                  replace F1585 : Cl w1583 b1582 34 [.int .i64 (0), .int .i64 (0)] := F1585
                  have D1588 : Dj fp1521 [b1582] := Dj.of F1526.low (low1 G1584)
                  have D1589 : Dj [b1537] [b1582] := Dj.of (lt1 F1545.lt) (low1 G1584)
                  replace F1525 := F1525.chg hc1586 Dj.nil
                  replace F1526 := F1526.chg hc1586 Dj.nil
                  replace F1545 := F1545.chg hc1586 notNil
                  replace hB := hB.inS hc1586 inNil
                  replace G1584 := Nat.le_trans hZ G1584
                  replace hZ := Nat.le_trans hZ hc1586.size
                  refine wS_store (T := 34) (g := b1582) (o := 0) (ad := ⟨b1582, 0, none⟩) (v := .agg #[.int .i64 (x1580.1), .int .i64 (x1580.2)]) (vs := [.int .i64 (x1580.1), .int .i64 (x1580.2)]) (by kernel_rfl) (by rfl) sz34 (by rfl) (by rfl) F1585 (by simp only [List.length_cons, List.length_nil]; omega) ?_
                  intro w1590 F1591 hc1592
                  replace F1525 := F1525.chg hc1592 (Dj.of L0 (low1 G1584))
                  replace F1526 := F1526.chg hc1592 D1588
                  replace F1545 := F1545.chg hc1592 (dj1 D1589)
                  replace hB := hB.inS hc1592 (inLow (low1 G1584))
                  replace hZ := Nat.le_trans hZ hc1592.size
                  replace F1591 : Cl w1590 b1582 34 [.int .i64 (x1580.1), .int .i64 (x1580.2)] := F1591
                  clear F1585
                  refine wS_end (by rfl) ?_
                  refine eX_then ?_
                  obtain ⟨r1827, hr1828, hm⟩ := bindE hm
                  have hm1829 := hm
                  refine cW_cut (fun a' w' => ∃ l1798 : List (Int × Int), ∃ A1799 : Option Addr, ∃ cap1800 : Nat, ∃ fp1801 : List Nat, l1798 = r1827 ∧ Fr 128 [(0, .slice A0 (l0).length cap0), (4, .slice A1799 (l1798).length cap1800), (5, .int .i64 (x1523))] a' ∧ Sl 2 encII w' fp0 A0 l0 ∧ Ow 2 encII 34 w' fp1801 A1799 cap1800 l1798 ∧ (∀ x ∈ fp1801, w0.heap.size ≤ x) ∧ Chg [] w0 w' ∧ w0.heap.size ≤ w'.heap.size) ?_ ?_
                  · refine cW_block ?_
                    refine cW_loop _ (fun (s1830 : (List (Int × Int)) × Int × Int) a' w' => ∃ l1808 : List (Int × Int), ∃ A1809 : Option Addr, ∃ cap1810 : Nat, ∃ fp1811 : List Nat, ∃ b1813 : Nat, ∃ x1814 : Int, ∃ x1815 : Int, (l1808, x1814, x1815) = s1830 ∧ Fr 128 [(0, .slice A0 (l0).length cap0), (4, .slice A1809 (l1808).length cap1810), (5, .int .i64 (x1523)), (6, .pointer (some ⟨b1537, 0, none⟩)), (7, .pointer (some ⟨b1813, 0, none⟩))] a' ∧ Sl 2 encII w' fp0 A0 l0 ∧ Cl w' b1537 34 [.int .i64 (x1535.1), .int .i64 (x1535.2)] ∧ Ow 2 encII 34 w' fp1811 A1809 cap1810 l1808 ∧ Cl w' b1813 34 [.int .i64 (x1814), .int .i64 (x1815)] ∧ (∀ x ∈ fp1811, w0.heap.size ≤ x) ∧ w0.heap.size ≤ b1813 ∧ Dj [b1537] fp1811 ∧ Dj [b1813] fp1811 ∧ Dj [b1537] [b1813] ∧ Chg [] w0 w' ∧ w0.heap.size ≤ w'.heap.size) hr1828 (fun hst => ⟨l1518, A1519, cap1520, fp1521, b1582, x1580.1, x1580.2, rfl, Fr.of hst (by kernel_rfl), F1525, F1545, F1526, F1591, G1527, G1584, (D1543).symm, (D1588).symm, D1589, hB, hZ⟩) ?_
                    rintro _ c1831 a' w1807 ⟨l1808, A1809, cap1810, fp1811, b1813, x1814, x1815, rfl, hF1817, F1818, F1819, F1820, F1821, G1822, G1823, D1824, D1825, D1826, hB, hZ⟩ hx1832
                    refine Fr.goOn hF1817 (by kernel_rfl) ?_
                    have hm := hx1832
                    unfold m_spec_l01Through_s6 at hm
                    refine cW_seq ?_
                    refine cW_seq ?_
                    refine cW_region ?_
                    refine wS_loadA (d := 69) (T := 34) (ad := ⟨b1813, 0, none⟩) (vs := [.int .i64 (x1814), .int .i64 (x1815)]) (by kernel_rfl) vt34 (fun i u hu => box_cells F1821 0 hu (by rfl)) ?_
                    refine wS_loadA (d := 70) (T := 34) (ad := ⟨b1537, 0, none⟩) (vs := [.int .i64 (x1535.1), .int .i64 (x1535.2)]) (by kernel_rfl) vt34 (fun i u hu => box_cells F1819 0 hu (by rfl)) ?_
                    refine wS_neS (d := 71) (T := 34) (x := x1814) (y := x1815) (x' := x1535.1) (y' := x1535.2) (by kernel_rfl) eq34 ?_
                    refine wS_pure 1 [(72, .bool (!(x1814 == x1535.1 && x1815 == x1535.2)))] (by kernel_rfl) ?_
                    refine wS_bool (!(x1814 == x1535.1 && x1815 == x1535.2)) (fun hb1833 => ?_) (fun hb1833 => ?_)
                    · have hm := condT hb1833 hm
                      rewrite [hb1833]
                      refine wS_pure 4 [(76, .bool (decide ((((l1808).length : Int)) ≤ 576))), (75, .bool (decide ((((l1808).length : Int)) ≤ 576))), (74, .int .i64 (((l1808).length : Int))), (73, .slice A1809 (l1808).length cap1810)] (by kernel_rfl) ?_
                      refine wS_end (by rfl) ?_
                      refine eX_then ?_
                      refine cW_cond (t := decide ((((l1808).length : Int)) ≤ 576)) (by kernel_rfl) (fun hb1834 => ?_) (fun hb1834 => ?_)
                      · have hm := condT hb1834 hm
                        refine cW_skip ?_
                        refine eX_then ?_
                        refine cW_seq ?_
                        refine cW_block ?_
                        refine cW_seq ?_
                        refine cW_drawnTail [] 8 (by kernel_rfl) (by kernel_rfl) (fun w1848 hc1849 => ?_)
                        replace F1818 := F1818.chg hc1849 Dj.nil
                        replace F1819 := F1819.chg hc1849 notNil
                        replace F1820 := F1820.chg hc1849 Dj.nil
                        replace F1821 := F1821.chg hc1849 notNil
                        replace hB := hB.inS hc1849 inNil
                        replace hZ := Nat.le_trans hZ hc1849.size
                        have hS := Chg.refl [] w1848
                        have Z1850 := F1818
                        have Z1851 := F1819
                        have Z1852 := F1820
                        have Z1853 := F1821
                        refine wH_take [0] [0] [(77, .pointer (some ⟨b1813, 0, none⟩))] (by kernel_rfl) (qT (qT (qB (qT (qL (qB (qT (qB (qT (qL (qB (qT (qT qZ))))))))))))) (by kernel_rfl) ?_
                        refine wH_load1 (i := 1) (d := 78) (T := 2) (ad := ⟨b1813, 0, none⟩) (v := .int .i64 (x1814)) (by kernel_rfl) (qT (qT (qB (qT (qL (qB (qT (qB (qT (qL (qB (qT (qT qZ))))))))))))) (by kernel_rfl) (by kernel_rfl) vt2 (fun W hW => (Z1853.chg hW notNil).cell 0) ?_
                        refine wH_take [2] [2, 1, 0] [(79, .pointer (some ⟨b1537, 0, none⟩))] (by kernel_rfl) (qT (qT (qB (qT (qL (qB (qT (qB (qT (qL (qB (qT (qT qZ))))))))))))) (by kernel_rfl) ?_
                        refine wH_load1 (i := 3) (d := 80) (T := 2) (ad := ⟨b1537, 0, none⟩) (v := .int .i64 (x1535.1)) (by kernel_rfl) (qT (qT (qB (qT (qL (qB (qT (qB (qT (qL (qB (qT (qT qZ))))))))))))) (by kernel_rfl) (by kernel_rfl) vt2 (fun W hW => (Z1851.chg hW notNil).cell 0) ?_
                        refine wH_take [4] [4, 3, 2, 1, 0] [(81, .pointer (some ⟨b1813, 0, none⟩))] (by kernel_rfl) (qT (qT (qB (qT (qL (qB (qT (qB (qT (qL (qB (qT (qT qZ))))))))))))) (by kernel_rfl) ?_
                        refine wH_load1 (i := 5) (d := 82) (T := 2) (ad := ⟨b1813, 0, none⟩) (v := .int .i64 (x1814)) (by kernel_rfl) (qT (qT (qB (qT (qL (qB (qT (qB (qT (qL (qB (qT (qT qZ))))))))))))) (by kernel_rfl) (by kernel_rfl) vt2 (fun W hW => (Z1853.chg hW notNil).cell 0) ?_
                        refine wH_take [6] [6, 5, 4, 3, 2, 1, 0] [(83, .int .i64 (wr (x1535.1 - x1814)))] (by kernel_rfl) (qT (qT (qB (qT (qL (qB (qT (qB (qT (qL (qB (qT (qT qZ))))))))))))) (by kernel_rfl) ?_
                        refine wH_all [7] (by rfl) (by kernel_rfl) (by simp) ⟨⟨by kernel_rfl, ?_⟩, trivial⟩
                        obtain ⟨y1854, hy1855, hm⟩ := bindE hm
                        refine wS_calls (d := 84) (f := 136) (vs := [.int .i64 (wr (x1535.1 - x1814))]) (by kernel_rfl) ent136 (c_spec_l01Sign hy1855) ?_
                        rintro _ w1856 ⟨rfl, hc1857⟩
                        replace F1818 := F1818.chg hc1857 Dj.nil
                        replace F1819 := F1819.chg hc1857 notNil
                        replace F1820 := F1820.chg hc1857 Dj.nil
                        replace F1821 := F1821.chg hc1857 notNil
                        replace hB := hB.inS hc1857 inNil
                        have hSz := hS
                        replace hS := hS.inS hc1857 inNil
                        replace hZ := Nat.le_trans hZ hc1857.size
                        refine ⟨.int .i64 (y1854), rfl, ?_⟩
                        refine wS_end (by kernel_rfl) ?_
                        refine eX_KH hS ?_
                        refine wH_done (by kernel_rfl) ?_
                        refine eX_tail ?_
                        refine wS_pure 2 [(86, .pointer (some ⟨b1813, 0, none⟩)), (85, .int .i64 (wr (x1814 + y1854)))] (by kernel_rfl) ?_
                        refine wS_store (T := 2) (g := b1813) (o := 0) (ad := ⟨b1813, 0, none⟩) (v := .int .i64 (wr (x1814 + y1854))) (vs := [.int .i64 (wr (x1814 + y1854))]) (by kernel_rfl) (by rfl) sz2 (by rfl) (by rfl) F1821 (by simp only [List.length_cons, List.length_nil]; omega) ?_
                        intro w1858 F1859 hc1860
                        replace F1818 := F1818.chg hc1860 (Dj.of L0 (low1 G1823))
                        replace F1819 := F1819.chg hc1860 (dj1 D1826)
                        replace F1820 := F1820.chg hc1860 (D1825).symm
                        replace hB := hB.inS hc1860 (inLow (low1 G1823))
                        replace hZ := Nat.le_trans hZ hc1860.size
                        replace F1859 : Cl w1858 b1813 34 [.int .i64 (wr (x1814 + y1854)), .int .i64 (x1815)] := F1859
                        clear F1821
                        refine wS_end (by rfl) ?_
                        refine eX_then ?_
                        refine cW_seq ?_
                        refine cW_drawnTail [] 8 (by kernel_rfl) (by kernel_rfl) (fun w1874 hc1875 => ?_)
                        replace F1818 := F1818.chg hc1875 Dj.nil
                        replace F1819 := F1819.chg hc1875 notNil
                        replace F1820 := F1820.chg hc1875 Dj.nil
                        replace F1859 := F1859.chg hc1875 notNil
                        replace hB := hB.inS hc1875 inNil
                        replace hZ := Nat.le_trans hZ hc1875.size
                        have hS := Chg.refl [] w1874
                        have Z1876 := F1818
                        have Z1877 := F1819
                        have Z1878 := F1820
                        have Z1879 := F1859
                        refine wH_take [0] [0] [(87, .pointer (some ⟨b1813, 1, none⟩))] (by kernel_rfl) (qT (qT (qB (qT (qL (qB (qT (qB (qT (qL (qB (qT (qT qZ))))))))))))) (by kernel_rfl) ?_
                        refine wH_load1 (i := 1) (d := 88) (T := 2) (ad := ⟨b1813, 1, none⟩) (v := .int .i64 (x1815)) (by kernel_rfl) (qT (qT (qB (qT (qL (qB (qT (qB (qT (qL (qB (qT (qT qZ))))))))))))) (by kernel_rfl) (by kernel_rfl) vt2 (fun W hW => (Z1879.chg hW notNil).cell 1) ?_
                        refine wH_take [2] [2, 1, 0] [(89, .pointer (some ⟨b1537, 1, none⟩))] (by kernel_rfl) (qT (qT (qB (qT (qL (qB (qT (qB (qT (qL (qB (qT (qT qZ))))))))))))) (by kernel_rfl) ?_
                        refine wH_load1 (i := 3) (d := 90) (T := 2) (ad := ⟨b1537, 1, none⟩) (v := .int .i64 (x1535.2)) (by kernel_rfl) (qT (qT (qB (qT (qL (qB (qT (qB (qT (qL (qB (qT (qT qZ))))))))))))) (by kernel_rfl) (by kernel_rfl) vt2 (fun W hW => (Z1877.chg hW notNil).cell 1) ?_
                        refine wH_take [4] [4, 3, 2, 1, 0] [(91, .pointer (some ⟨b1813, 1, none⟩))] (by kernel_rfl) (qT (qT (qB (qT (qL (qB (qT (qB (qT (qL (qB (qT (qT qZ))))))))))))) (by kernel_rfl) ?_
                        refine wH_load1 (i := 5) (d := 92) (T := 2) (ad := ⟨b1813, 1, none⟩) (v := .int .i64 (x1815)) (by kernel_rfl) (qT (qT (qB (qT (qL (qB (qT (qB (qT (qL (qB (qT (qT qZ))))))))))))) (by kernel_rfl) (by kernel_rfl) vt2 (fun W hW => (Z1879.chg hW notNil).cell 1) ?_
                        refine wH_take [6] [6, 5, 4, 3, 2, 1, 0] [(93, .int .i64 (wr (x1535.2 - x1815)))] (by kernel_rfl) (qT (qT (qB (qT (qL (qB (qT (qB (qT (qL (qB (qT (qT qZ))))))))))))) (by kernel_rfl) ?_
                        refine wH_all [7] (by rfl) (by kernel_rfl) (by simp) ⟨⟨by kernel_rfl, ?_⟩, trivial⟩
                        obtain ⟨y1880, hy1881, hm⟩ := bindE hm
                        refine wS_calls (d := 94) (f := 136) (vs := [.int .i64 (wr (x1535.2 - x1815))]) (by kernel_rfl) ent136 (c_spec_l01Sign hy1881) ?_
                        rintro _ w1882 ⟨rfl, hc1883⟩
                        replace F1818 := F1818.chg hc1883 Dj.nil
                        replace F1819 := F1819.chg hc1883 notNil
                        replace F1820 := F1820.chg hc1883 Dj.nil
                        replace F1859 := F1859.chg hc1883 notNil
                        replace hB := hB.inS hc1883 inNil
                        have hSz := hS
                        replace hS := hS.inS hc1883 inNil
                        replace hZ := Nat.le_trans hZ hc1883.size
                        refine ⟨.int .i64 (y1880), rfl, ?_⟩
                        refine wS_end (by kernel_rfl) ?_
                        refine eX_KH hS ?_
                        refine wH_done (by kernel_rfl) ?_
                        refine eX_tail ?_
                        refine wS_pure 2 [(96, .pointer (some ⟨b1813, 1, none⟩)), (95, .int .i64 (wr (x1815 + y1880)))] (by kernel_rfl) ?_
                        refine wS_store (T := 2) (g := b1813) (o := 1) (ad := ⟨b1813, 1, none⟩) (v := .int .i64 (wr (x1815 + y1880))) (vs := [.int .i64 (wr (x1815 + y1880))]) (by kernel_rfl) (by rfl) sz2 (by rfl) (by rfl) F1859 (by simp only [List.length_cons, List.length_nil]; omega) ?_
                        intro w1884 F1885 hc1886
                        replace F1818 := F1818.chg hc1886 (Dj.of L0 (low1 G1823))
                        replace F1819 := F1819.chg hc1886 (dj1 D1826)
                        replace F1820 := F1820.chg hc1886 (D1825).symm
                        replace hB := hB.inS hc1886 (inLow (low1 G1823))
                        replace hZ := Nat.le_trans hZ hc1886.size
                        replace F1885 : Cl w1884 b1813 34 [.int .i64 (wr (x1814 + y1854)), .int .i64 (wr (x1815 + y1880))] := F1885
                        clear F1859
                        refine wS_end (by rfl) ?_
                        refine eX_then ?_
                        refine cW_prune [(0, .slice A0 (l0).length cap0), (4, .slice A1809 (l1808).length cap1810), (5, .int .i64 (x1523)), (6, .pointer (some ⟨b1537, 0, none⟩)), (7, .pointer (some ⟨b1813, 0, none⟩))] (by kernel_rfl) (by kernel_rfl) (fun a1887 => ?_)
                        refine cW_region ?_
                        refine wS_pure 1 [(97, .slice A1809 (l1808).length cap1810)] (by kernel_rfl) ?_
                        refine wS_loadA (d := 98) (T := 34) (ad := ⟨b1813, 0, none⟩) (vs := [.int .i64 (wr (x1814 + y1854)), .int .i64 (wr (x1815 + y1880))]) (by kernel_rfl) vt34 (fun i u hu => box_cells F1885 0 hu (by rfl)) ?_
                        refine wS_bs (enc := encII) ([(wr (x1814 + y1854), wr (x1815 + y1880))] : List (Int × Int)) [.int .i64 (wr (x1814 + y1854)), .int .i64 (wr (x1815 + y1880))] (d := 99) (t := 25) (T := 34) (n := 1) (ps := [(0, .agg #[.int .i64 (wr (x1814 + y1854)), .int .i64 (wr (x1815 + y1880))])]) (by kernel_rfl) el25 encII_ok (by rfl) (by omega) (by omega) (by kernel_rfl) (by rfl) ?_
                        intro b1888 w1889 G1890 F1891 hc1892
                        have D1894 : Dj [b1537] [b1888] := Dj.of (lt1 F1819.lt) (low1 G1890)
                        have D1895 : Dj fp1811 [b1888] := Dj.of F1820.low (low1 G1890)
                        have D1896 : Dj [b1813] [b1888] := Dj.of (lt1 F1885.lt) (low1 G1890)
                        replace F1818 := F1818.chg hc1892 Dj.nil
                        replace F1819 := F1819.chg hc1892 notNil
                        replace F1820 := F1820.chg hc1892 Dj.nil
                        replace F1885 := F1885.chg hc1892 notNil
                        replace hB := hB.inS hc1892 inNil
                        replace G1890 := Nat.le_trans hZ G1890
                        replace G1890 := low1 G1890
                        replace hZ := Nat.le_trans hZ hc1892.size
                        obtain ⟨_, hk1897, hm⟩ := bindE hm
                        replace hk1897 := apE hk1897
                        refine wS_append (enc := encII) (l := (l1808 : List (Int × Int))) (l2 := (([(wr (x1814 + y1854), wr (x1815 + y1880))] : List (Int × Int)) : List (Int × Int))) (d := 100) (t := 25) (T := 34) (A := A1809) (A2 := (some ⟨b1888, 0, none⟩)) (cap := cap1810) (cap2 := 1) (by kernel_rfl) el25 encII_ok F1820 (F1891.sl encII_ok) (by rfl) hk1897 ?_
                        intro w1898 fp1899 A1900 cap1901 F1902 hc1903 hp1904
                        have G1906 := low_ap G1822 hZ hp1904
                        have D1907 : Dj [b1537] fp1899 := Dj.ap D1824 (lt1 F1819.lt) hp1904
                        have D1908 : Dj [b1813] fp1899 := Dj.ap D1825 (lt1 F1885.lt) hp1904
                        have D1909 : Dj [b1888] fp1899 := Dj.ap (D1895).symm F1891.low hp1904
                        replace F1818 := F1818.chg hc1903 (Dj.of L0 G1822)
                        replace F1819 := F1819.chg hc1903 (dj1 D1824)
                        replace F1885 := F1885.chg hc1903 (dj1 D1825)
                        replace F1891 := F1891.chg hc1903 (D1895).symm
                        replace hB := hB.inS hc1903 (inLow G1822)
                        replace hZ := Nat.le_trans hZ hc1903.size
                        refine wS_pure 1 [(4, .slice A1900 (l1808 ++ (([(wr (x1814 + y1854), wr (x1815 + y1880))] : List (Int × Int)))).length cap1901)] (by kernel_rfl) ?_
                        refine wS_end (by rfl) ?_
                        refine eX_block ?_
                        refine eX_then ?_
                        refine cW_seq ?_
                        refine cW_region ?_
                        refine wS_loadA (d := 101) (T := 34) (ad := ⟨b1813, 0, none⟩) (vs := [.int .i64 (wr (x1814 + y1854)), .int .i64 (wr (x1815 + y1880))]) (by kernel_rfl) vt34 (fun i u hu => box_cells F1885 0 hu (by rfl)) ?_
                        refine wS_end (by rfl) ?_
                        refine eX_then ?_
                        refine cW_region ?_
                        refine wS_alloc (d := 7) (T := 34) (z := .agg #[.int .i64 (0), .int .i64 (0)]) (by kernel_rfl) (by kernel_rfl) ?_
                        intro b1910 w1911 G1912 F1913 hc1914
                        replace F1913 : Cl w1911 b1910 34 [.int .i64 (0), .int .i64 (0)] := F1913
                        have D1916 : Dj [b1537] [b1910] := Dj.of (lt1 F1819.lt) (low1 G1912)
                        have D1917 : Dj [b1813] [b1910] := Dj.of (lt1 F1885.lt) (low1 G1912)
                        have D1918 : Dj [b1888] [b1910] := Dj.of F1891.low (low1 G1912)
                        have D1919 : Dj fp1899 [b1910] := Dj.of F1902.low (low1 G1912)
                        replace F1818 := F1818.chg hc1914 Dj.nil
                        replace F1819 := F1819.chg hc1914 notNil
                        replace F1885 := F1885.chg hc1914 notNil
                        replace F1891 := F1891.chg hc1914 Dj.nil
                        replace F1902 := F1902.chg hc1914 Dj.nil
                        replace hB := hB.inS hc1914 inNil
                        replace G1912 := Nat.le_trans hZ G1912
                        replace hZ := Nat.le_trans hZ hc1914.size
                        refine wS_store (T := 34) (g := b1910) (o := 0) (ad := ⟨b1910, 0, none⟩) (v := .agg #[.int .i64 (wr (x1814 + y1854)), .int .i64 (wr (x1815 + y1880))]) (vs := [.int .i64 (wr (x1814 + y1854)), .int .i64 (wr (x1815 + y1880))]) (by kernel_rfl) (by rfl) sz34 (by rfl) (by rfl) F1913 (by simp only [List.length_cons, List.length_nil]; omega) ?_
                        intro w1920 F1921 hc1922
                        replace F1818 := F1818.chg hc1922 (Dj.of L0 (low1 G1912))
                        replace F1819 := F1819.chg hc1922 (dj1 D1916)
                        replace F1885 := F1885.chg hc1922 (dj1 D1917)
                        replace F1891 := F1891.chg hc1922 D1918
                        replace F1902 := F1902.chg hc1922 D1919
                        replace hB := hB.inS hc1922 (inLow (low1 G1912))
                        replace hZ := Nat.le_trans hZ hc1922.size
                        replace F1921 : Cl w1920 b1910 34 [.int .i64 (wr (x1814 + y1854)), .int .i64 (wr (x1815 + y1880))] := F1921
                        clear F1913
                        refine wS_end (by rfl) ?_
                        have hq : (some (Ctl.next ((l1808 ++ (([(wr (x1814 + y1854), wr (x1815 + y1880))] : List (Int × Int))), wr (x1814 + y1854), wr (x1815 + y1880)))) : Option (Ctl ((List (Int × Int)) × Int × Int) ((List (Int × Int))))) = some _ := hm
                        replace hq := someE hq
                        subst hq
                        exact eX_next hx1832 (fun hst => ⟨l1808 ++ (([(wr (x1814 + y1854), wr (x1815 + y1880))] : List (Int × Int))), A1900, cap1901, fp1899, b1910, wr (x1814 + y1854), wr (x1815 + y1880), rfl, Fr.of hst (by kernel_rfl), F1818, F1819, F1902, F1921, G1906, G1912, D1907, (D1919).symm, D1916, hB, hZ⟩)
                      · have hm := condF hb1834 hm
                        refine cW_exit ?_
                        refine eX_then_exit ?_
                        have hq : (some (Ctl.out l1808) : Option (Ctl ((List (Int × Int)) × Int × Int) ((List (Int × Int))))) = some _ := hm
                        replace hq := someE hq
                        subst hq
                        refine eX_outX hx1832 (fun hr1923 => ?_)
                        replace hr1923 := hr1923.symm
                        subst hr1923
                        refine eX_block_hit ?_
                        exact eX_J (fun hst => ⟨l1808, A1809, cap1810, fp1811, rfl, Fr.of hst (by kernel_rfl), F1818, F1820, G1822, hB, hZ⟩)
                    · have hm := condF hb1833 hm
                      rewrite [hb1833]
                      refine wS_pure 4 [(76, .bool (false)), (75, undef), (74, undef), (73, undef)] (by kernel_rfl) ?_
                      refine wS_end (by rfl) ?_
                      refine eX_then ?_
                      refine cW_cond_f (by kernel_rfl) ?_
                      refine cW_exit ?_
                      refine eX_then_exit ?_
                      have hq : (some (Ctl.out l1808) : Option (Ctl ((List (Int × Int)) × Int × Int) ((List (Int × Int))))) = some _ := hm
                      replace hq := someE hq
                      subst hq
                      refine eX_outX hx1832 (fun hr1924 => ?_)
                      replace hr1924 := hr1924.symm
                      subst hr1924
                      refine eX_block_hit ?_
                      exact eX_J (fun hst => ⟨l1808, A1809, cap1810, fp1811, rfl, Fr.of hst (by kernel_rfl), F1818, F1820, G1822, hB, hZ⟩)
                  · rintro a' w1797 ⟨l1798, A1799, cap1800, fp1801, hJ, hF1803, F1804, F1805, G1806, hB, hZ⟩
                    subst hJ
                    refine Fr.goX hF1803 (by kernel_rfl) ?_
                    refine eX_block ?_
                    refine eX_then ?_
                    refine cW_region ?_
                    refine wS_pure 3 [(5, .int .i64 (wr (x1523 + 1))), (34, .int .i64 (wr (x1523 + 1))), (33, .int .i64 (x1523))] (by kernel_rfl) ?_
                    refine wS_end (by rfl) ?_
                    have hq : (some (Ctl.next ((l1798, wr (x1523 + 1)))) : Option (Ctl ((List (Int × Int)) × Int) (Sum ((List (Int × Int))) ((List (Int × Int)) × (Bool))))) = some _ := hm
                    replace hq := someE hq
                    subst hq
                    exact eX_next hx1533 (fun hst => ⟨l1798, A1799, cap1800, fp1801, wr (x1523 + 1), rfl, Fr.of hst (by kernel_rfl), F1804, F1805, G1806, hB, hZ⟩)
              · have hm := condF hb1575 hm
                rewrite [hb1575]
                refine wH_take [14, 15, 16, 17, 18, 19, 20, 21] [21, 20, 19, 18, 17, 16, 15, 14, 13, 12, 11, 10, 9, 8, 7, 6, 5, 4, 3, 2, 1, 0] [(60, undef), (59, undef), (58, undef), (57, undef), (56, undef), (55, undef), (54, undef), (53, undef)] (by kernel_rfl) (qT (qT (qT (qB (qT (qL (qB (qT (qT qZ))))))))) (by kernel_rfl) ?_
                refine wH_done (by kernel_rfl) ?_
                refine eX_tail ?_
                refine wS_pure 3 [(63, .bool (false)), (62, .bool (false)), (61, undef)] (by kernel_rfl) ?_
                refine wS_end (by rfl) ?_
                refine eX_then ?_
                refine cW_prune [(0, .slice A0 (l0).length cap0), (4, .slice A1519 (l1518).length cap1520), (5, .int .i64 (x1523)), (6, .pointer (some ⟨b1537, 0, none⟩)), (63, .bool (false))] (by kernel_rfl) (by kernel_rfl) (fun a1925 => ?_)
                refine cW_cond_f (by kernel_rfl) ?_
                refine cW_skip ?_
                refine eX_then ?_
                refine cW_seq ?_
                refine cW_region ?_
                refine wS_pure 3 [(66, .int .i64 (wr (x1523 - 1))), (65, .int .i64 (x1523)), (64, .slice A0 (l0).length cap0)] (by kernel_rfl) ?_
                obtain ⟨x1926, hx1927, hm⟩ := bindE hm
                refine wS_idx (d := 67) (T := 25) (A := A0) (n := (l0).length) (cap := cap0) (kd := .i64) (m := wr (x1523 - 1)) (by kernel_rfl) sl25 (F1525.is hx1927) ?_
                refine wS_loadA (d := 68) (T := 34) (ad := (elA A0 2 (wr (x1523 - 1)) 0)) (vs := [.int .i64 (x1926.1), .int .i64 (x1926.2)]) (by kernel_rfl) vt34 (fun i u hu => Sl.cells_at F1525 hx1927 0 hu (by rfl)) ?_
                refine wS_alloc (d := 7) (T := 34) (z := .agg #[.int .i64 (0), .int .i64 (0)]) (by kernel_rfl) (by kernel_rfl) ?_
                intro b1928 w1929 G1930 F1931 hc1932
                replace F1931 : Cl w1929 b1928 34 [.int .i64 (0), .int .i64 (0)] := F1931
                have D1934 : Dj fp1521 [b1928] := Dj.of F1526.low (low1 G1930)
                have D1935 : Dj [b1537] [b1928] := Dj.of (lt1 F1545.lt) (low1 G1930)
                replace F1525 := F1525.chg hc1932 Dj.nil
                replace F1526 := F1526.chg hc1932 Dj.nil
                replace F1545 := F1545.chg hc1932 notNil
                replace hB := hB.inS hc1932 inNil
                replace G1930 := Nat.le_trans hZ G1930
                replace hZ := Nat.le_trans hZ hc1932.size
                refine wS_store (T := 34) (g := b1928) (o := 0) (ad := ⟨b1928, 0, none⟩) (v := .agg #[.int .i64 (x1926.1), .int .i64 (x1926.2)]) (vs := [.int .i64 (x1926.1), .int .i64 (x1926.2)]) (by kernel_rfl) (by rfl) sz34 (by rfl) (by rfl) F1931 (by simp only [List.length_cons, List.length_nil]; omega) ?_
                intro w1936 F1937 hc1938
                replace F1525 := F1525.chg hc1938 (Dj.of L0 (low1 G1930))
                replace F1526 := F1526.chg hc1938 D1934
                replace F1545 := F1545.chg hc1938 (dj1 D1935)
                replace hB := hB.inS hc1938 (inLow (low1 G1930))
                replace hZ := Nat.le_trans hZ hc1938.size
                replace F1937 : Cl w1936 b1928 34 [.int .i64 (x1926.1), .int .i64 (x1926.2)] := F1937
                clear F1931
                refine wS_end (by rfl) ?_
                refine eX_then ?_
                obtain ⟨r2173, hr2174, hm⟩ := bindE hm
                have hm2175 := hm
                refine cW_cut (fun a' w' => ∃ l2144 : List (Int × Int), ∃ A2145 : Option Addr, ∃ cap2146 : Nat, ∃ fp2147 : List Nat, l2144 = r2173 ∧ Fr 128 [(0, .slice A0 (l0).length cap0), (4, .slice A2145 (l2144).length cap2146), (5, .int .i64 (x1523))] a' ∧ Sl 2 encII w' fp0 A0 l0 ∧ Ow 2 encII 34 w' fp2147 A2145 cap2146 l2144 ∧ (∀ x ∈ fp2147, w0.heap.size ≤ x) ∧ Chg [] w0 w' ∧ w0.heap.size ≤ w'.heap.size) ?_ ?_
                · refine cW_block ?_
                  refine cW_loop _ (fun (s2176 : (List (Int × Int)) × Int × Int) a' w' => ∃ l2154 : List (Int × Int), ∃ A2155 : Option Addr, ∃ cap2156 : Nat, ∃ fp2157 : List Nat, ∃ b2159 : Nat, ∃ x2160 : Int, ∃ x2161 : Int, (l2154, x2160, x2161) = s2176 ∧ Fr 128 [(0, .slice A0 (l0).length cap0), (4, .slice A2155 (l2154).length cap2156), (5, .int .i64 (x1523)), (6, .pointer (some ⟨b1537, 0, none⟩)), (7, .pointer (some ⟨b2159, 0, none⟩))] a' ∧ Sl 2 encII w' fp0 A0 l0 ∧ Cl w' b1537 34 [.int .i64 (x1535.1), .int .i64 (x1535.2)] ∧ Ow 2 encII 34 w' fp2157 A2155 cap2156 l2154 ∧ Cl w' b2159 34 [.int .i64 (x2160), .int .i64 (x2161)] ∧ (∀ x ∈ fp2157, w0.heap.size ≤ x) ∧ w0.heap.size ≤ b2159 ∧ Dj [b1537] fp2157 ∧ Dj [b2159] fp2157 ∧ Dj [b1537] [b2159] ∧ Chg [] w0 w' ∧ w0.heap.size ≤ w'.heap.size) hr2174 (fun hst => ⟨l1518, A1519, cap1520, fp1521, b1928, x1926.1, x1926.2, rfl, Fr.of hst (by kernel_rfl), F1525, F1545, F1526, F1937, G1527, G1930, (D1543).symm, (D1934).symm, D1935, hB, hZ⟩) ?_
                  rintro _ c2177 a' w2153 ⟨l2154, A2155, cap2156, fp2157, b2159, x2160, x2161, rfl, hF2163, F2164, F2165, F2166, F2167, G2168, G2169, D2170, D2171, D2172, hB, hZ⟩ hx2178
                  refine Fr.goOn hF2163 (by kernel_rfl) ?_
                  have hm := hx2178
                  unfold m_spec_l01Through_s7 at hm
                  refine cW_seq ?_
                  refine cW_seq ?_
                  refine cW_region ?_
                  refine wS_loadA (d := 69) (T := 34) (ad := ⟨b2159, 0, none⟩) (vs := [.int .i64 (x2160), .int .i64 (x2161)]) (by kernel_rfl) vt34 (fun i u hu => box_cells F2167 0 hu (by rfl)) ?_
                  refine wS_loadA (d := 70) (T := 34) (ad := ⟨b1537, 0, none⟩) (vs := [.int .i64 (x1535.1), .int .i64 (x1535.2)]) (by kernel_rfl) vt34 (fun i u hu => box_cells F2165 0 hu (by rfl)) ?_
                  refine wS_neS (d := 71) (T := 34) (x := x2160) (y := x2161) (x' := x1535.1) (y' := x1535.2) (by kernel_rfl) eq34 ?_
                  refine wS_pure 1 [(72, .bool (!(x2160 == x1535.1 && x2161 == x1535.2)))] (by kernel_rfl) ?_
                  refine wS_bool (!(x2160 == x1535.1 && x2161 == x1535.2)) (fun hb2179 => ?_) (fun hb2179 => ?_)
                  · have hm := condT hb2179 hm
                    rewrite [hb2179]
                    refine wS_pure 4 [(76, .bool (decide ((((l2154).length : Int)) ≤ 576))), (75, .bool (decide ((((l2154).length : Int)) ≤ 576))), (74, .int .i64 (((l2154).length : Int))), (73, .slice A2155 (l2154).length cap2156)] (by kernel_rfl) ?_
                    refine wS_end (by rfl) ?_
                    refine eX_then ?_
                    refine cW_cond (t := decide ((((l2154).length : Int)) ≤ 576)) (by kernel_rfl) (fun hb2180 => ?_) (fun hb2180 => ?_)
                    · have hm := condT hb2180 hm
                      refine cW_skip ?_
                      refine eX_then ?_
                      refine cW_seq ?_
                      refine cW_block ?_
                      refine cW_seq ?_
                      refine cW_drawnTail [] 8 (by kernel_rfl) (by kernel_rfl) (fun w2194 hc2195 => ?_)
                      replace F2164 := F2164.chg hc2195 Dj.nil
                      replace F2165 := F2165.chg hc2195 notNil
                      replace F2166 := F2166.chg hc2195 Dj.nil
                      replace F2167 := F2167.chg hc2195 notNil
                      replace hB := hB.inS hc2195 inNil
                      replace hZ := Nat.le_trans hZ hc2195.size
                      have hS := Chg.refl [] w2194
                      have Z2196 := F2164
                      have Z2197 := F2165
                      have Z2198 := F2166
                      have Z2199 := F2167
                      refine wH_take [0] [0] [(77, .pointer (some ⟨b2159, 0, none⟩))] (by kernel_rfl) (qT (qT (qB (qT (qL (qB (qT (qB (qT (qL (qB (qT (qT qZ))))))))))))) (by kernel_rfl) ?_
                      refine wH_load1 (i := 1) (d := 78) (T := 2) (ad := ⟨b2159, 0, none⟩) (v := .int .i64 (x2160)) (by kernel_rfl) (qT (qT (qB (qT (qL (qB (qT (qB (qT (qL (qB (qT (qT qZ))))))))))))) (by kernel_rfl) (by kernel_rfl) vt2 (fun W hW => (Z2199.chg hW notNil).cell 0) ?_
                      refine wH_take [2] [2, 1, 0] [(79, .pointer (some ⟨b1537, 0, none⟩))] (by kernel_rfl) (qT (qT (qB (qT (qL (qB (qT (qB (qT (qL (qB (qT (qT qZ))))))))))))) (by kernel_rfl) ?_
                      refine wH_load1 (i := 3) (d := 80) (T := 2) (ad := ⟨b1537, 0, none⟩) (v := .int .i64 (x1535.1)) (by kernel_rfl) (qT (qT (qB (qT (qL (qB (qT (qB (qT (qL (qB (qT (qT qZ))))))))))))) (by kernel_rfl) (by kernel_rfl) vt2 (fun W hW => (Z2197.chg hW notNil).cell 0) ?_
                      refine wH_take [4] [4, 3, 2, 1, 0] [(81, .pointer (some ⟨b2159, 0, none⟩))] (by kernel_rfl) (qT (qT (qB (qT (qL (qB (qT (qB (qT (qL (qB (qT (qT qZ))))))))))))) (by kernel_rfl) ?_
                      refine wH_load1 (i := 5) (d := 82) (T := 2) (ad := ⟨b2159, 0, none⟩) (v := .int .i64 (x2160)) (by kernel_rfl) (qT (qT (qB (qT (qL (qB (qT (qB (qT (qL (qB (qT (qT qZ))))))))))))) (by kernel_rfl) (by kernel_rfl) vt2 (fun W hW => (Z2199.chg hW notNil).cell 0) ?_
                      refine wH_take [6] [6, 5, 4, 3, 2, 1, 0] [(83, .int .i64 (wr (x1535.1 - x2160)))] (by kernel_rfl) (qT (qT (qB (qT (qL (qB (qT (qB (qT (qL (qB (qT (qT qZ))))))))))))) (by kernel_rfl) ?_
                      refine wH_all [7] (by rfl) (by kernel_rfl) (by simp) ⟨⟨by kernel_rfl, ?_⟩, trivial⟩
                      obtain ⟨y2200, hy2201, hm⟩ := bindE hm
                      refine wS_calls (d := 84) (f := 136) (vs := [.int .i64 (wr (x1535.1 - x2160))]) (by kernel_rfl) ent136 (c_spec_l01Sign hy2201) ?_
                      rintro _ w2202 ⟨rfl, hc2203⟩
                      replace F2164 := F2164.chg hc2203 Dj.nil
                      replace F2165 := F2165.chg hc2203 notNil
                      replace F2166 := F2166.chg hc2203 Dj.nil
                      replace F2167 := F2167.chg hc2203 notNil
                      replace hB := hB.inS hc2203 inNil
                      have hSz := hS
                      replace hS := hS.inS hc2203 inNil
                      replace hZ := Nat.le_trans hZ hc2203.size
                      refine ⟨.int .i64 (y2200), rfl, ?_⟩
                      refine wS_end (by kernel_rfl) ?_
                      refine eX_KH hS ?_
                      refine wH_done (by kernel_rfl) ?_
                      refine eX_tail ?_
                      refine wS_pure 2 [(86, .pointer (some ⟨b2159, 0, none⟩)), (85, .int .i64 (wr (x2160 + y2200)))] (by kernel_rfl) ?_
                      refine wS_store (T := 2) (g := b2159) (o := 0) (ad := ⟨b2159, 0, none⟩) (v := .int .i64 (wr (x2160 + y2200))) (vs := [.int .i64 (wr (x2160 + y2200))]) (by kernel_rfl) (by rfl) sz2 (by rfl) (by rfl) F2167 (by simp only [List.length_cons, List.length_nil]; omega) ?_
                      intro w2204 F2205 hc2206
                      replace F2164 := F2164.chg hc2206 (Dj.of L0 (low1 G2169))
                      replace F2165 := F2165.chg hc2206 (dj1 D2172)
                      replace F2166 := F2166.chg hc2206 (D2171).symm
                      replace hB := hB.inS hc2206 (inLow (low1 G2169))
                      replace hZ := Nat.le_trans hZ hc2206.size
                      replace F2205 : Cl w2204 b2159 34 [.int .i64 (wr (x2160 + y2200)), .int .i64 (x2161)] := F2205
                      clear F2167
                      refine wS_end (by rfl) ?_
                      refine eX_then ?_
                      refine cW_seq ?_
                      refine cW_drawnTail [] 8 (by kernel_rfl) (by kernel_rfl) (fun w2220 hc2221 => ?_)
                      replace F2164 := F2164.chg hc2221 Dj.nil
                      replace F2165 := F2165.chg hc2221 notNil
                      replace F2166 := F2166.chg hc2221 Dj.nil
                      replace F2205 := F2205.chg hc2221 notNil
                      replace hB := hB.inS hc2221 inNil
                      replace hZ := Nat.le_trans hZ hc2221.size
                      have hS := Chg.refl [] w2220
                      have Z2222 := F2164
                      have Z2223 := F2165
                      have Z2224 := F2166
                      have Z2225 := F2205
                      refine wH_take [0] [0] [(87, .pointer (some ⟨b2159, 1, none⟩))] (by kernel_rfl) (qT (qT (qB (qT (qL (qB (qT (qB (qT (qL (qB (qT (qT qZ))))))))))))) (by kernel_rfl) ?_
                      refine wH_load1 (i := 1) (d := 88) (T := 2) (ad := ⟨b2159, 1, none⟩) (v := .int .i64 (x2161)) (by kernel_rfl) (qT (qT (qB (qT (qL (qB (qT (qB (qT (qL (qB (qT (qT qZ))))))))))))) (by kernel_rfl) (by kernel_rfl) vt2 (fun W hW => (Z2225.chg hW notNil).cell 1) ?_
                      refine wH_take [2] [2, 1, 0] [(89, .pointer (some ⟨b1537, 1, none⟩))] (by kernel_rfl) (qT (qT (qB (qT (qL (qB (qT (qB (qT (qL (qB (qT (qT qZ))))))))))))) (by kernel_rfl) ?_
                      refine wH_load1 (i := 3) (d := 90) (T := 2) (ad := ⟨b1537, 1, none⟩) (v := .int .i64 (x1535.2)) (by kernel_rfl) (qT (qT (qB (qT (qL (qB (qT (qB (qT (qL (qB (qT (qT qZ))))))))))))) (by kernel_rfl) (by kernel_rfl) vt2 (fun W hW => (Z2223.chg hW notNil).cell 1) ?_
                      refine wH_take [4] [4, 3, 2, 1, 0] [(91, .pointer (some ⟨b2159, 1, none⟩))] (by kernel_rfl) (qT (qT (qB (qT (qL (qB (qT (qB (qT (qL (qB (qT (qT qZ))))))))))))) (by kernel_rfl) ?_
                      refine wH_load1 (i := 5) (d := 92) (T := 2) (ad := ⟨b2159, 1, none⟩) (v := .int .i64 (x2161)) (by kernel_rfl) (qT (qT (qB (qT (qL (qB (qT (qB (qT (qL (qB (qT (qT qZ))))))))))))) (by kernel_rfl) (by kernel_rfl) vt2 (fun W hW => (Z2225.chg hW notNil).cell 1) ?_
                      refine wH_take [6] [6, 5, 4, 3, 2, 1, 0] [(93, .int .i64 (wr (x1535.2 - x2161)))] (by kernel_rfl) (qT (qT (qB (qT (qL (qB (qT (qB (qT (qL (qB (qT (qT qZ))))))))))))) (by kernel_rfl) ?_
                      refine wH_all [7] (by rfl) (by kernel_rfl) (by simp) ⟨⟨by kernel_rfl, ?_⟩, trivial⟩
                      obtain ⟨y2226, hy2227, hm⟩ := bindE hm
                      refine wS_calls (d := 94) (f := 136) (vs := [.int .i64 (wr (x1535.2 - x2161))]) (by kernel_rfl) ent136 (c_spec_l01Sign hy2227) ?_
                      rintro _ w2228 ⟨rfl, hc2229⟩
                      replace F2164 := F2164.chg hc2229 Dj.nil
                      replace F2165 := F2165.chg hc2229 notNil
                      replace F2166 := F2166.chg hc2229 Dj.nil
                      replace F2205 := F2205.chg hc2229 notNil
                      replace hB := hB.inS hc2229 inNil
                      have hSz := hS
                      replace hS := hS.inS hc2229 inNil
                      replace hZ := Nat.le_trans hZ hc2229.size
                      refine ⟨.int .i64 (y2226), rfl, ?_⟩
                      refine wS_end (by kernel_rfl) ?_
                      refine eX_KH hS ?_
                      refine wH_done (by kernel_rfl) ?_
                      refine eX_tail ?_
                      refine wS_pure 2 [(96, .pointer (some ⟨b2159, 1, none⟩)), (95, .int .i64 (wr (x2161 + y2226)))] (by kernel_rfl) ?_
                      refine wS_store (T := 2) (g := b2159) (o := 1) (ad := ⟨b2159, 1, none⟩) (v := .int .i64 (wr (x2161 + y2226))) (vs := [.int .i64 (wr (x2161 + y2226))]) (by kernel_rfl) (by rfl) sz2 (by rfl) (by rfl) F2205 (by simp only [List.length_cons, List.length_nil]; omega) ?_
                      intro w2230 F2231 hc2232
                      replace F2164 := F2164.chg hc2232 (Dj.of L0 (low1 G2169))
                      replace F2165 := F2165.chg hc2232 (dj1 D2172)
                      replace F2166 := F2166.chg hc2232 (D2171).symm
                      replace hB := hB.inS hc2232 (inLow (low1 G2169))
                      replace hZ := Nat.le_trans hZ hc2232.size
                      replace F2231 : Cl w2230 b2159 34 [.int .i64 (wr (x2160 + y2200)), .int .i64 (wr (x2161 + y2226))] := F2231
                      clear F2205
                      refine wS_end (by rfl) ?_
                      refine eX_then ?_
                      refine cW_prune [(0, .slice A0 (l0).length cap0), (4, .slice A2155 (l2154).length cap2156), (5, .int .i64 (x1523)), (6, .pointer (some ⟨b1537, 0, none⟩)), (7, .pointer (some ⟨b2159, 0, none⟩))] (by kernel_rfl) (by kernel_rfl) (fun a2233 => ?_)
                      refine cW_region ?_
                      refine wS_pure 1 [(97, .slice A2155 (l2154).length cap2156)] (by kernel_rfl) ?_
                      refine wS_loadA (d := 98) (T := 34) (ad := ⟨b2159, 0, none⟩) (vs := [.int .i64 (wr (x2160 + y2200)), .int .i64 (wr (x2161 + y2226))]) (by kernel_rfl) vt34 (fun i u hu => box_cells F2231 0 hu (by rfl)) ?_
                      refine wS_bs (enc := encII) ([(wr (x2160 + y2200), wr (x2161 + y2226))] : List (Int × Int)) [.int .i64 (wr (x2160 + y2200)), .int .i64 (wr (x2161 + y2226))] (d := 99) (t := 25) (T := 34) (n := 1) (ps := [(0, .agg #[.int .i64 (wr (x2160 + y2200)), .int .i64 (wr (x2161 + y2226))])]) (by kernel_rfl) el25 encII_ok (by rfl) (by omega) (by omega) (by kernel_rfl) (by rfl) ?_
                      intro b2234 w2235 G2236 F2237 hc2238
                      have D2240 : Dj [b1537] [b2234] := Dj.of (lt1 F2165.lt) (low1 G2236)
                      have D2241 : Dj fp2157 [b2234] := Dj.of F2166.low (low1 G2236)
                      have D2242 : Dj [b2159] [b2234] := Dj.of (lt1 F2231.lt) (low1 G2236)
                      replace F2164 := F2164.chg hc2238 Dj.nil
                      replace F2165 := F2165.chg hc2238 notNil
                      replace F2166 := F2166.chg hc2238 Dj.nil
                      replace F2231 := F2231.chg hc2238 notNil
                      replace hB := hB.inS hc2238 inNil
                      replace G2236 := Nat.le_trans hZ G2236
                      replace G2236 := low1 G2236
                      replace hZ := Nat.le_trans hZ hc2238.size
                      obtain ⟨_, hk2243, hm⟩ := bindE hm
                      replace hk2243 := apE hk2243
                      refine wS_append (enc := encII) (l := (l2154 : List (Int × Int))) (l2 := (([(wr (x2160 + y2200), wr (x2161 + y2226))] : List (Int × Int)) : List (Int × Int))) (d := 100) (t := 25) (T := 34) (A := A2155) (A2 := (some ⟨b2234, 0, none⟩)) (cap := cap2156) (cap2 := 1) (by kernel_rfl) el25 encII_ok F2166 (F2237.sl encII_ok) (by rfl) hk2243 ?_
                      intro w2244 fp2245 A2246 cap2247 F2248 hc2249 hp2250
                      have G2252 := low_ap G2168 hZ hp2250
                      have D2253 : Dj [b1537] fp2245 := Dj.ap D2170 (lt1 F2165.lt) hp2250
                      have D2254 : Dj [b2159] fp2245 := Dj.ap D2171 (lt1 F2231.lt) hp2250
                      have D2255 : Dj [b2234] fp2245 := Dj.ap (D2241).symm F2237.low hp2250
                      replace F2164 := F2164.chg hc2249 (Dj.of L0 G2168)
                      replace F2165 := F2165.chg hc2249 (dj1 D2170)
                      replace F2231 := F2231.chg hc2249 (dj1 D2171)
                      replace F2237 := F2237.chg hc2249 (D2241).symm
                      replace hB := hB.inS hc2249 (inLow G2168)
                      replace hZ := Nat.le_trans hZ hc2249.size
                      refine wS_pure 1 [(4, .slice A2246 (l2154 ++ (([(wr (x2160 + y2200), wr (x2161 + y2226))] : List (Int × Int)))).length cap2247)] (by kernel_rfl) ?_
                      refine wS_end (by rfl) ?_
                      refine eX_block ?_
                      refine eX_then ?_
                      refine cW_seq ?_
                      refine cW_region ?_
                      refine wS_loadA (d := 101) (T := 34) (ad := ⟨b2159, 0, none⟩) (vs := [.int .i64 (wr (x2160 + y2200)), .int .i64 (wr (x2161 + y2226))]) (by kernel_rfl) vt34 (fun i u hu => box_cells F2231 0 hu (by rfl)) ?_
                      refine wS_end (by rfl) ?_
                      refine eX_then ?_
                      refine cW_region ?_
                      refine wS_alloc (d := 7) (T := 34) (z := .agg #[.int .i64 (0), .int .i64 (0)]) (by kernel_rfl) (by kernel_rfl) ?_
                      intro b2256 w2257 G2258 F2259 hc2260
                      replace F2259 : Cl w2257 b2256 34 [.int .i64 (0), .int .i64 (0)] := F2259
                      have D2262 : Dj [b1537] [b2256] := Dj.of (lt1 F2165.lt) (low1 G2258)
                      have D2263 : Dj [b2159] [b2256] := Dj.of (lt1 F2231.lt) (low1 G2258)
                      have D2264 : Dj [b2234] [b2256] := Dj.of F2237.low (low1 G2258)
                      have D2265 : Dj fp2245 [b2256] := Dj.of F2248.low (low1 G2258)
                      replace F2164 := F2164.chg hc2260 Dj.nil
                      replace F2165 := F2165.chg hc2260 notNil
                      replace F2231 := F2231.chg hc2260 notNil
                      replace F2237 := F2237.chg hc2260 Dj.nil
                      replace F2248 := F2248.chg hc2260 Dj.nil
                      replace hB := hB.inS hc2260 inNil
                      replace G2258 := Nat.le_trans hZ G2258
                      replace hZ := Nat.le_trans hZ hc2260.size
                      refine wS_store (T := 34) (g := b2256) (o := 0) (ad := ⟨b2256, 0, none⟩) (v := .agg #[.int .i64 (wr (x2160 + y2200)), .int .i64 (wr (x2161 + y2226))]) (vs := [.int .i64 (wr (x2160 + y2200)), .int .i64 (wr (x2161 + y2226))]) (by kernel_rfl) (by rfl) sz34 (by rfl) (by rfl) F2259 (by simp only [List.length_cons, List.length_nil]; omega) ?_
                      intro w2266 F2267 hc2268
                      replace F2164 := F2164.chg hc2268 (Dj.of L0 (low1 G2258))
                      replace F2165 := F2165.chg hc2268 (dj1 D2262)
                      replace F2231 := F2231.chg hc2268 (dj1 D2263)
                      replace F2237 := F2237.chg hc2268 D2264
                      replace F2248 := F2248.chg hc2268 D2265
                      replace hB := hB.inS hc2268 (inLow (low1 G2258))
                      replace hZ := Nat.le_trans hZ hc2268.size
                      replace F2267 : Cl w2266 b2256 34 [.int .i64 (wr (x2160 + y2200)), .int .i64 (wr (x2161 + y2226))] := F2267
                      clear F2259
                      refine wS_end (by rfl) ?_
                      have hq : (some (Ctl.next ((l2154 ++ (([(wr (x2160 + y2200), wr (x2161 + y2226))] : List (Int × Int))), wr (x2160 + y2200), wr (x2161 + y2226)))) : Option (Ctl ((List (Int × Int)) × Int × Int) ((List (Int × Int))))) = some _ := hm
                      replace hq := someE hq
                      subst hq
                      exact eX_next hx2178 (fun hst => ⟨l2154 ++ (([(wr (x2160 + y2200), wr (x2161 + y2226))] : List (Int × Int))), A2246, cap2247, fp2245, b2256, wr (x2160 + y2200), wr (x2161 + y2226), rfl, Fr.of hst (by kernel_rfl), F2164, F2165, F2248, F2267, G2252, G2258, D2253, (D2265).symm, D2262, hB, hZ⟩)
                    · have hm := condF hb2180 hm
                      refine cW_exit ?_
                      refine eX_then_exit ?_
                      have hq : (some (Ctl.out l2154) : Option (Ctl ((List (Int × Int)) × Int × Int) ((List (Int × Int))))) = some _ := hm
                      replace hq := someE hq
                      subst hq
                      refine eX_outX hx2178 (fun hr2269 => ?_)
                      replace hr2269 := hr2269.symm
                      subst hr2269
                      refine eX_block_hit ?_
                      exact eX_J (fun hst => ⟨l2154, A2155, cap2156, fp2157, rfl, Fr.of hst (by kernel_rfl), F2164, F2166, G2168, hB, hZ⟩)
                  · have hm := condF hb2179 hm
                    rewrite [hb2179]
                    refine wS_pure 4 [(76, .bool (false)), (75, undef), (74, undef), (73, undef)] (by kernel_rfl) ?_
                    refine wS_end (by rfl) ?_
                    refine eX_then ?_
                    refine cW_cond_f (by kernel_rfl) ?_
                    refine cW_exit ?_
                    refine eX_then_exit ?_
                    have hq : (some (Ctl.out l2154) : Option (Ctl ((List (Int × Int)) × Int × Int) ((List (Int × Int))))) = some _ := hm
                    replace hq := someE hq
                    subst hq
                    refine eX_outX hx2178 (fun hr2270 => ?_)
                    replace hr2270 := hr2270.symm
                    subst hr2270
                    refine eX_block_hit ?_
                    exact eX_J (fun hst => ⟨l2154, A2155, cap2156, fp2157, rfl, Fr.of hst (by kernel_rfl), F2164, F2166, G2168, hB, hZ⟩)
                · rintro a' w2143 ⟨l2144, A2145, cap2146, fp2147, hJ, hF2149, F2150, F2151, G2152, hB, hZ⟩
                  subst hJ
                  refine Fr.goX hF2149 (by kernel_rfl) ?_
                  refine eX_block ?_
                  refine eX_then ?_
                  refine cW_region ?_
                  refine wS_pure 3 [(5, .int .i64 (wr (x1523 + 1))), (34, .int .i64 (wr (x1523 + 1))), (33, .int .i64 (x1523))] (by kernel_rfl) ?_
                  refine wS_end (by rfl) ?_
                  have hq : (some (Ctl.next ((l2144, wr (x1523 + 1)))) : Option (Ctl ((List (Int × Int)) × Int) (Sum ((List (Int × Int))) ((List (Int × Int)) × (Bool))))) = some _ := hm
                  replace hq := someE hq
                  subst hq
                  exact eX_next hx1533 (fun hst => ⟨l2144, A2145, cap2146, fp2147, wr (x1523 + 1), rfl, Fr.of hst (by kernel_rfl), F2150, F2151, G2152, hB, hZ⟩)
          · have hm := condF hb1534 hm
            refine cW_exit ?_
            refine eX_then_exit ?_
            have hq : (some (Ctl.out (Sum.inl l1518)) : Option (Ctl ((List (Int × Int)) × Int) (Sum ((List (Int × Int))) ((List (Int × Int)) × (Bool))))) = some _ := hm
            replace hq := someE hq
            subst hq
            refine eX_outX hx1533 (fun hr2271 => ?_)
            replace hr2271 := hr2271.symm
            subst hr2271
            refine eX_block_hit ?_
            exact eX_J (fun hst => ⟨l1518, A1519, cap1520, fp1521, rfl, Fr.of hst (by kernel_rfl), F1525, F1526, G1527, hB, hZ⟩)
        · rintro a' w1507 ⟨l1508, A1509, cap1510, fp1511, hJ, hF1513, F1514, F1515, G1516, hB, hZ⟩
          subst hJ
          refine Fr.goX hF1513 (by kernel_rfl) ?_
          refine eX_then ?_
          refine cW_seq ?_
          refine cW_seq ?_
          refine cW_region ?_
          refine wS_pure 1 [(102, .slice A1509 (l1508).length cap1510)] (by kernel_rfl) ?_
          obtain ⟨y2272, hy2273, hm⟩ := bindE hm
          refine wS_calls (d := 103) (f := 70) (vs := [.slice A1509 (l1508).length cap1510]) (by kernel_rfl) ent70 (c_spec_l01Path hy2273 (F1515.sl encII_ok) F1515.cap_le) ?_
          rintro _ w2274 ⟨rfl, hc2275⟩
          replace F1514 := F1514.chg hc2275 Dj.nil
          replace F1515 := F1515.chg hc2275 Dj.nil
          replace hB := hB.inS hc2275 inNil
          replace hZ := Nat.le_trans hZ hc2275.size
          refine ⟨.bool (y2272), rfl, ?_⟩
          refine wS_pure 1 [(104, .bool (!y2272))] (by kernel_rfl) ?_
          refine wS_end (by rfl) ?_
          refine eX_then ?_
          refine cW_cond (t := !y2272) (by kernel_rfl) (fun hb2276 => ?_) (fun hb2276 => ?_)
          · have hm := condT hb2276 hm
            refine cW_seq ?_
            refine cW_region ?_
            refine wS_pure 2 [(3, .bool (false)), (2, .slice none 0 0)] (by kernel_rfl) ?_
            refine wS_end (by rfl) ?_
            refine eX_then ?_
            refine cW_ret ?_
            refine eX_then_ret ?_
            have hq : (some (([], false)) : Option ((List (Int × Int)) × (Bool))) = some _ := hm
            replace hq := someE hq
            subst hq
            refine eX_ret (vs := [.slice none 0 0, .bool (false)]) [.tmp 2, .tmp 3] (by rfl) ⟨by (show lkE _ _ _ = _); kernel_rfl, ⟨by (show lkE _ _ _ = _); kernel_rfl, trivial⟩⟩ ?_
            exact ⟨none, 0, [], rfl, Ow.nil _, lowNil, hB⟩
          · have hm := condF hb2276 hm
            refine cW_skip ?_
            refine eX_then ?_
            refine cW_seq ?_
            refine cW_region ?_
            refine wS_pure 1 [(105, .slice A1509 (l1508).length cap1510)] (by kernel_rfl) ?_
            obtain ⟨y2277, hy2278, hm⟩ := bindE hm
            refine wS_calls (d := 106) (f := 90) (vs := [.slice A1509 (l1508).length cap1510]) (by kernel_rfl) ent90 (c_spec_l01Corners hy2278 (F1515.sl encII_ok)) ?_
            rintro _ w2279 ⟨A2281, cap2282, fp2283, rfl, F2284, G2285, hc2280⟩
            have D2288 : Dj fp1511 fp2283 := Dj.of F1515.low G2285
            replace F1514 := F1514.chg hc2280 Dj.nil
            replace F1515 := F1515.chg hc2280 Dj.nil
            replace hB := hB.inS hc2280 inNil
            replace G2285 := low_le hZ G2285
            replace hZ := Nat.le_trans hZ hc2280.size
            refine ⟨.slice A2281 (y2277).length cap2282, rfl, ?_⟩
            refine wS_pure 1 [(8, .slice A2281 (y2277).length cap2282)] (by kernel_rfl) ?_
            refine wS_end (by rfl) ?_
            refine eX_then ?_
            refine cW_seq ?_
            refine cW_seq ?_
            refine cW_region ?_
            refine wS_pure 5 [(111, .bool ((((y2277).length : Int)) != (((l0).length : Int)))), (110, .int .i64 (((l0).length : Int))), (109, .slice A0 (l0).length cap0), (108, .int .i64 (((y2277).length : Int))), (107, .slice A2281 (y2277).length cap2282)] (by kernel_rfl) ?_
            refine wS_end (by rfl) ?_
            refine eX_then ?_
            refine cW_cond (t := (((y2277).length : Int)) != (((l0).length : Int))) (by kernel_rfl) (fun hb2289 => ?_) (fun hb2289 => ?_)
            · have hm := condT hb2289 hm
              refine cW_seq ?_
              refine cW_region ?_
              refine wS_pure 2 [(3, .bool (false)), (2, .slice none 0 0)] (by kernel_rfl) ?_
              refine wS_end (by rfl) ?_
              refine eX_then ?_
              refine cW_ret ?_
              refine eX_then_ret ?_
              have hq : (some (([], false)) : Option ((List (Int × Int)) × (Bool))) = some _ := hm
              replace hq := someE hq
              subst hq
              refine eX_ret (vs := [.slice none 0 0, .bool (false)]) [.tmp 2, .tmp 3] (by rfl) ⟨by (show lkE _ _ _ = _); kernel_rfl, ⟨by (show lkE _ _ _ = _); kernel_rfl, trivial⟩⟩ ?_
              exact ⟨none, 0, [], rfl, Ow.nil _, lowNil, hB⟩
            · have hm := condF hb2289 hm
              refine cW_skip ?_
              refine eX_then ?_
              refine cW_seq ?_
              refine cW_seq ?_
              refine cW_region ?_
              refine wS_pure 1 [(9, .int .i64 (0))] (by kernel_rfl) ?_
              refine wS_end (by rfl) ?_
              refine eX_then ?_
              obtain ⟨r2348, hr2349, hm⟩ := bindE hm
              have hm2350 := hm
              refine cW_cut (fun a' w' => Sum.inl (()) = r2348 ∧ Fr 128 [(4, .slice A1509 (l1508).length cap1510)] a' ∧ Ow 2 encII 34 w' fp1511 A1509 cap1510 l1508 ∧ Chg [] w0 w' ∧ w0.heap.size ≤ w'.heap.size) ?_ ?_
              · refine cW_block ?_
                refine cW_loop _ (fun (s2351 : Int) a' w' => ∃ x2343 : Int, x2343 = s2351 ∧ Fr 128 [(0, .slice A0 (l0).length cap0), (4, .slice A1509 (l1508).length cap1510), (8, .slice A2281 (y2277).length cap2282), (9, .int .i64 (x2343))] a' ∧ Sl 2 encII w' fp0 A0 l0 ∧ Ow 2 encII 34 w' fp1511 A1509 cap1510 l1508 ∧ Ow 2 encII 34 w' fp2283 A2281 cap2282 y2277 ∧ Chg [] w0 w' ∧ w0.heap.size ≤ w'.heap.size) hr2349 (fun hst => ⟨0, rfl, Fr.of hst (by kernel_rfl), F1514, F1515, F2284, hB, hZ⟩) ?_
                rintro _ c2352 a' w2342 ⟨x2343, rfl, hF2344, F2345, F2346, F2347, hB, hZ⟩ hx2353
                refine Fr.goOn hF2344 (by kernel_rfl) ?_
                have hm := hx2353
                unfold m_spec_l01Through_s8 at hm
                refine cW_seq ?_
                refine cW_seq ?_
                refine cW_region ?_
                refine wS_pure 4 [(115, .bool (decide (x2343 < (((y2277).length : Int))))), (114, .int .i64 (((y2277).length : Int))), (113, .slice A2281 (y2277).length cap2282), (112, .int .i64 (x2343))] (by kernel_rfl) ?_
                refine wS_end (by rfl) ?_
                refine eX_then ?_
                refine cW_cond (t := decide (x2343 < (((y2277).length : Int)))) (by kernel_rfl) (fun hb2354 => ?_) (fun hb2354 => ?_)
                · have hm := condT hb2354 hm
                  refine cW_skip ?_
                  refine eX_then ?_
                  refine cW_seq ?_
                  refine cW_block ?_
                  refine cW_seq ?_
                  refine cW_drawnTail [] 8 (by kernel_rfl) (by kernel_rfl) (fun w2364 hc2365 => ?_)
                  replace F2345 := F2345.chg hc2365 Dj.nil
                  replace F2346 := F2346.chg hc2365 Dj.nil
                  replace F2347 := F2347.chg hc2365 Dj.nil
                  replace hB := hB.inS hc2365 inNil
                  replace hZ := Nat.le_trans hZ hc2365.size
                  have hS := Chg.refl [] w2364
                  have Z2366 := F2345
                  have Z2367 := F2346
                  have Z2368 := F2347
                  refine wH_take [0, 1] [1, 0] [(119, .int .i64 (x2343)), (118, .slice A2281 (y2277).length cap2282)] (by kernel_rfl) (qT (qT (qB (qT (qL (qB (qT (qT qZ)))))))) (by kernel_rfl) ?_
                  obtain ⟨x2369, hx2370, hm⟩ := bindE hm
                  refine wH_idx (i := 2) (d := 120) (T := 25) (A := A2281) (n := (y2277).length) (cap := cap2282) (kd := .i64) (m := x2343) (by kernel_rfl) (qT (qT (qB (qT (qL (qB (qT (qT qZ)))))))) (by kernel_rfl) (by kernel_rfl) sl25 ((F2347.sl encII_ok).is hx2370) ?_
                  refine wH_loadA (i := 3) (d := 121) (T := 34) (ad := (elA A2281 2 (x2343) 0)) (vs := [.int .i64 (x2369.1), .int .i64 (x2369.2)]) (by kernel_rfl) (qT (qT (qB (qT (qL (qB (qT (qT qZ)))))))) (by kernel_rfl) (by kernel_rfl) vt34 (fun W hW i u hu => Sl.cells_at ((Z2368.chg hW Dj.nil).sl encII_ok) hx2370 0 hu (by rfl)) ?_
                  refine wH_take [4, 5] [5, 4, 3, 2, 1, 0] [(123, .int .i64 (x2343)), (122, .slice A0 (l0).length cap0)] (by kernel_rfl) (qT (qT (qB (qT (qL (qB (qT (qT qZ)))))))) (by kernel_rfl) ?_
                  obtain ⟨x2371, hx2372, hm⟩ := bindE hm
                  refine wH_idx (i := 6) (d := 124) (T := 25) (A := A0) (n := (l0).length) (cap := cap0) (kd := .i64) (m := x2343) (by kernel_rfl) (qT (qT (qB (qT (qL (qB (qT (qT qZ)))))))) (by kernel_rfl) (by kernel_rfl) sl25 (F2345.is hx2372) ?_
                  refine wH_loadA (i := 7) (d := 125) (T := 34) (ad := (elA A0 2 (x2343) 0)) (vs := [.int .i64 (x2371.1), .int .i64 (x2371.2)]) (by kernel_rfl) (qT (qT (qB (qT (qL (qB (qT (qT qZ)))))))) (by kernel_rfl) (by kernel_rfl) vt34 (fun W hW i u hu => Sl.cells_at (Z2366.chg hW Dj.nil) hx2372 0 hu (by rfl)) ?_
                  refine wH_done (by kernel_rfl) ?_
                  refine eX_tail ?_
                  refine wS_neS (d := 126) (T := 34) (x := x2369.1) (y := x2369.2) (x' := x2371.1) (y' := x2371.2) (by kernel_rfl) eq34 ?_
                  refine wS_end (by rfl) ?_
                  refine eX_then ?_
                  refine cW_cond (t := !(x2369.1 == x2371.1 && x2369.2 == x2371.2)) (by kernel_rfl) (fun hb2373 => ?_) (fun hb2373 => ?_)
                  · have hm := condT hb2373 hm
                    refine cW_seq ?_
                    refine cW_region ?_
                    refine wS_pure 2 [(3, .bool (false)), (2, .slice none 0 0)] (by kernel_rfl) ?_
                    refine wS_end (by rfl) ?_
                    refine eX_then ?_
                    refine cW_ret ?_
                    refine eX_block_ret ?_
                    refine eX_then_ret ?_
                    have hq : (some (Ctl.out (Sum.inr (([], false)))) : Option (Ctl (Int) (Sum (Unit) ((List (Int × Int)) × (Bool))))) = some _ := hm
                    replace hq := someE hq
                    subst hq
                    refine eX_outR hx2353 (fun hr => ?_)
                    subst hr
                    refine eX_block_ret ?_
                    refine eX_then_ret ?_
                    refine eX_then_ret ?_
                    have hq : (some (([], false)) : Option ((List (Int × Int)) × (Bool))) = some _ := hm2350
                    replace hq := someE hq
                    subst hq
                    refine eX_ret (vs := [.slice none 0 0, .bool (false)]) [.tmp 2, .tmp 3] (by rfl) ⟨by (show lkE _ _ _ = _); kernel_rfl, ⟨by (show lkE _ _ _ = _); kernel_rfl, trivial⟩⟩ ?_
                    exact ⟨none, 0, [], rfl, Ow.nil _, lowNil, hB⟩
                  · have hm := condF hb2373 hm
                    refine cW_skip ?_
                    refine eX_block ?_
                    refine eX_then ?_
                    refine cW_region ?_
                    refine wS_pure 3 [(9, .int .i64 (wr (x2343 + 1))), (117, .int .i64 (wr (x2343 + 1))), (116, .int .i64 (x2343))] (by kernel_rfl) ?_
                    refine wS_end (by rfl) ?_
                    have hq : (some (Ctl.next (wr (x2343 + 1))) : Option (Ctl (Int) (Sum (Unit) ((List (Int × Int)) × (Bool))))) = some _ := hm
                    replace hq := someE hq
                    subst hq
                    exact eX_next hx2353 (fun hst => ⟨wr (x2343 + 1), rfl, Fr.of hst (by kernel_rfl), F2345, F2346, F2347, hB, hZ⟩)
                · have hm := condF hb2354 hm
                  refine cW_exit ?_
                  refine eX_then_exit ?_
                  have hq : (some (Ctl.out (Sum.inl (()))) : Option (Ctl (Int) (Sum (Unit) ((List (Int × Int)) × (Bool))))) = some _ := hm
                  replace hq := someE hq
                  subst hq
                  refine eX_outX hx2353 (fun hr2374 => ?_)
                  replace hr2374 := hr2374.symm
                  subst hr2374
                  refine eX_block_hit ?_
                  exact eX_J (fun hst => ⟨rfl, Fr.of hst (by kernel_rfl), F2346, hB, hZ⟩)
              · rintro a' w2339 ⟨hJ, hF2340, F2341, hB, hZ⟩
                subst hJ
                refine Fr.goX hF2340 (by kernel_rfl) ?_
                refine eX_then ?_
                refine cW_seq ?_
                refine cW_region ?_
                refine wS_pure 3 [(3, .bool (true)), (2, .slice A1509 (l1508).length cap1510), (127, .slice A1509 (l1508).length cap1510)] (by kernel_rfl) ?_
                refine wS_end (by rfl) ?_
                refine eX_then ?_
                refine cW_ret ?_
                have hq : (some ((l1508, true)) : Option ((List (Int × Int)) × (Bool))) = some _ := hm
                replace hq := someE hq
                subst hq
                refine eX_ret (vs := [.slice A1509 (l1508).length cap1510, .bool (true)]) [.tmp 2, .tmp 3] (by rfl) ⟨by (show lkE _ _ _ = _); kernel_rfl, ⟨by (show lkE _ _ _ = _); kernel_rfl, trivial⟩⟩ ?_
                exact ⟨A1509, cap1510, fp1511, rfl, F2341, G1516, hB⟩

set_option maxRecDepth 100000 in
/-- spec.PathThrough -/
theorem c_spec_PathThrough {w0 : World} {l0 : List (Int × Int)} {A0 : Option Addr} {cap0 : Nat} {fp0 : List Nat} {r : (List (Int × Int)) × (Bool)} (hm : m_spec_PathThrough l0 = some r) (F0 : Sl 2 encII w0 fp0 A0 l0) :
    Calls Try.prog 52 #[.slice A0 (l0).length cap0] w0 fun e w' => ∃ A100 cap100 fp100, e = .returned (.tuple #[.slice A100 (r.1).length cap100, .bool (r.2)]) ∧ Ow 2 encII 34 w' fp100 A100 cap100 r.1 ∧ (∀ x ∈ fp100, w0.heap.size ≤ x) ∧ Chg [] w0 w' := by
  have L0 := F0.low
  have hB : Chg [] w0 w0 := Chg.refl _ _
  have hZ := Nat.le_refl w0.heap.size
  unfold m_spec_PathThrough at hm
  refine enterE (N := 8) Try.func52 (by rfl) Try.ntmps52 (by simp) [(0, .slice A0 (l0).length cap0)] (by rfl) (by kernel_rfl) (fun a => ?_)
  refine cW_seq ?_
  refine cW_region ?_
  refine wS_pure 2 [(3, .bool (false)), (2, .slice none 0 0)] (by kernel_rfl) ?_
  refine wS_end (by rfl) ?_
  refine eX_then ?_
  refine cW_seq ?_
  refine cW_region ?_
  refine wS_pure 1 [(4, .slice A0 (l0).length cap0)] (by kernel_rfl) ?_
  obtain ⟨y2, hy3, hm⟩ := bindE hm
  refine wS_calls (d := 5) (f := 103) (vs := [.slice A0 (l0).length cap0]) (by kernel_rfl) ent103 (c_spec_l01Through hy3 F0) ?_
  rintro _ w4 ⟨A6, cap7, fp8, rfl, F9, G10, hc5⟩
  replace F0 := F0.chg hc5 Dj.nil
  replace hB := hB.inS hc5 inNil
  replace G10 := low_le hZ G10
  replace hZ := Nat.le_trans hZ hc5.size
  refine ⟨.tuple #[.slice A6 (y2.1).length cap7, .bool (y2.2)], rfl, ?_⟩
  refine wS_pure 4 [(3, .bool (y2.2)), (2, .slice A6 (y2.1).length cap7), (7, .bool (y2.2)), (6, .slice A6 (y2.1).length cap7)] (by kernel_rfl) ?_
  refine wS_end (by rfl) ?_
  refine eX_then ?_
  refine cW_ret ?_
  have hq : (some ((y2.1, y2.2)) : Option ((List (Int × Int)) × (Bool))) = some _ := hm
  replace hq := someE hq
  subst hq
  refine eX_ret (vs := [.slice A6 (y2.1).length cap7, .bool (y2.2)]) [.tmp 2, .tmp 3] (by rfl) ⟨by (show lkE _ _ _ = _); kernel_rfl, ⟨by (show lkE _ _ _ = _); kernel_rfl, trivial⟩⟩ ?_
  exact ⟨A6, cap7, fp8, rfl, F9, G10, hB⟩

set_option maxRecDepth 100000 in
/-- laws.FnExactPathThrough -/
theorem c_laws_FnExactPathThrough {w0 : World} {l0 : List (Int × Int)} {A0 : Option Addr} {cap0 : Nat} {fp0 : List Nat} {r : (Bool)} (hm : m_laws_FnExactPathThrough l0 = some r) (F0 : Sl 2 encII w0 fp0 A0 l0) :
    Calls Try.prog 14 #[.slice A0 (l0).length cap0] w0 fun e w' => e = .returned (.bool (r)) ∧ Chg [] w0 w' := by
  have L0 := F0.low
  have hB : Chg [] w0 w0 := Chg.refl _ _
  have hZ := Nat.le_refl w0.heap.size
  unfold m_laws_FnExactPathThrough at hm
  refine enterE (N := 96) Try.func14 (by rfl) Try.ntmps14 (by simp) [(0, .slice A0 (l0).length cap0)] (by rfl) (by kernel_rfl) (fun a => ?_)
  refine cW_seq ?_
  refine cW_region ?_
  refine wS_pure 1 [(2, .bool (false))] (by kernel_rfl) ?_
  refine wS_end (by rfl) ?_
  refine eX_then ?_
  refine cW_seq ?_
  refine cW_region ?_
  refine wS_pure 1 [(3, .int .i64 (1048576))] (by kernel_rfl) ?_
  refine wS_end (by rfl) ?_
  refine eX_then ?_
  refine cW_seq ?_
  refine cW_region ?_
  refine wS_pure 2 [(15, .int .i64 (1048576)), (14, .slice A0 (l0).length cap0)] (by kernel_rfl) ?_
  obtain ⟨y2, hy3, hm⟩ := bindE hm
  refine wS_calls (d := 16) (f := 20) (vs := [.slice A0 (l0).length cap0, .int .i64 (1048576)]) (by kernel_rfl) ent20 (c_laws_szPointS hy3 F0) ?_
  rintro _ w4 ⟨rfl, hc5⟩
  replace F0 := F0.chg hc5 Dj.nil
  replace hB := hB.inS hc5 inNil
  replace hZ := Nat.le_trans hZ hc5.size
  refine ⟨.int .i64 (y2), rfl, ?_⟩
  refine wS_pure 1 [(3, .int .i64 (y2))] (by kernel_rfl) ?_
  refine wS_end (by rfl) ?_
  refine eX_then ?_
  refine cW_seq ?_
  refine cW_seq ?_
  refine cW_region ?_
  refine wS_pure 2 [(18, .bool (decide (y2 < 0))), (17, .int .i64 (y2))] (by kernel_rfl) ?_
  refine wS_end (by rfl) ?_
  refine eX_then ?_
  refine cW_cond (t := decide (y2 < 0)) (by kernel_rfl) (fun hb6 => ?_) (fun hb6 => ?_)
  · have hm := condT hb6 hm
    refine cW_seq ?_
    refine cW_region ?_
    refine wS_pure 1 [(2, .bool (true))] (by kernel_rfl) ?_
    refine wS_end (by rfl) ?_
    refine eX_then ?_
    refine cW_ret ?_
    refine eX_then_ret ?_
    have hq : (some true : Option ((Bool))) = some _ := hm
    replace hq := someE hq
    subst hq
    refine eX_ret (vs := [.bool (true)]) [.tmp 2] (by rfl) ⟨by (show lkE _ _ _ = _); kernel_rfl, trivial⟩ ?_
    exact ⟨rfl, hB⟩
  · have hm := condF hb6 hm
    refine cW_skip ?_
    refine eX_then ?_
    refine cW_seq ?_
    refine cW_region ?_
    refine wS_pure 1 [(20, .slice A0 (l0).length cap0)] (by kernel_rfl) ?_
    obtain ⟨y7, hy8, hm⟩ := bindE hm
    refine wS_calls (d := 21) (f := 22) (vs := [.slice A0 (l0).length cap0]) (by kernel_rfl) ent22 (c_laws_toPointS hy8 F0) ?_
    rintro _ w9 ⟨A11, cap12, fp13, rfl, F14, G15, hc10⟩
    replace F0 := F0.chg hc10 Dj.nil
    replace hB := hB.inS hc10 inNil
    replace G15 := low_le hZ G15
    replace hZ := Nat.le_trans hZ hc10.size
    refine ⟨.slice A11 (y7).length cap12, rfl, ?_⟩
    obtain ⟨y18, hy19, hm⟩ := bindE hm
    refine wS_calls (d := 22) (f := 52) (vs := [.slice A11 (y7).length cap12]) (by kernel_rfl) ent52 (c_spec_PathThrough hy19 (F14.sl encII_ok)) ?_
    rintro _ w20 ⟨A22, cap23, fp24, rfl, F25, G26, hc21⟩
    have D29 : Dj fp13 fp24 := Dj.of F14.low G26
    replace F0 := F0.chg hc21 Dj.nil
    replace F14 := F14.chg hc21 Dj.nil
    replace hB := hB.inS hc21 inNil
    replace G26 := low_le hZ G26
    replace hZ := Nat.le_trans hZ hc21.size
    refine ⟨.tuple #[.slice A22 (y18.1).length cap23, .bool (y18.2)], rfl, ?_⟩
    refine wS_pure 5 [(5, .bool (y18.2)), (4, .slice A22 (y18.1).length cap23), (24, .bool (y18.2)), (23, .slice A22 (y18.1).length cap23), (19, .tuple #[.slice A22 (y18.1).length cap23, .bool (y18.2)])] (by kernel_rfl) ?_
    refine wS_end (by rfl) ?_
    refine eX_then ?_
    refine cW_seq ?_
    refine cW_region ?_
    refine wS_pure 1 [(25, .slice A0 (l0).length cap0)] (by kernel_rfl) ?_
    obtain ⟨y30, hy31, hm⟩ := bindE hm
    refine wS_calls (d := 26) (f := 22) (vs := [.slice A0 (l0).length cap0]) (by kernel_rfl) ent22 (c_laws_toPointS hy31 F0) ?_
    rintro _ w32 ⟨A34, cap35, fp36, rfl, F37, G38, hc33⟩
    have D41 : Dj fp13 fp36 := Dj.of F14.low G38
    have D42 : Dj fp24 fp36 := Dj.of F25.low G38
    replace F0 := F0.chg hc33 Dj.nil
    replace F14 := F14.chg hc33 Dj.nil
    replace F25 := F25.chg hc33 Dj.nil
    replace hB := hB.inS hc33 inNil
    replace G38 := low_le hZ G38
    replace hZ := Nat.le_trans hZ hc33.size
    refine ⟨.slice A34 (y30).length cap35, rfl, ?_⟩
    refine wS_pure 1 [(6, .slice A34 (y30).length cap35)] (by kernel_rfl) ?_
    refine wS_end (by rfl) ?_
    refine eX_then ?_
    refine cW_seq ?_
    refine cW_region ?_
    refine wS_pure 1 [(28, .slice A34 (y30).length cap35)] (by kernel_rfl) ?_
    obtain ⟨y43, hy44, hm⟩ := bindE hm
    refine wS_calls (d := 29) (f := 45) (vs := [.slice A34 (y30).length cap35]) (by kernel_rfl) ent45 (c_impl_PathThrough hy44 (F37.sl encII_ok) F37.cap_le) ?_
    rintro _ w45 ⟨A47, cap48, fp49, rfl, F50, G51, hc46⟩
    have D54 : Dj fp13 fp49 := Dj.of F14.low G51
    have D55 : Dj fp24 fp49 := Dj.of F25.low G51
    have D56 : Dj fp36 fp49 := Dj.of F37.low G51
    replace F0 := F0.chg hc46 Dj.nil
    replace F14 := F14.chg hc46 Dj.nil
    replace F25 := F25.chg hc46 Dj.nil
    replace F37 := F37.chg hc46 Dj.nil
    replace hB := hB.inS hc46 inNil
    replace G51 := low_le hZ G51
    replace hZ := Nat.le_trans hZ hc46.size
    refine ⟨.tuple #[.slice A47 (y43.1).length cap48, .bool (y43.2)], rfl, ?_⟩
    refine wS_pure 5 [(8, .bool (y43.2)), (7, .slice A47 (y43.1).length cap48), (31, .bool (y43.2)), (30, .slice A47 (y43.1).length cap48), (27, .tuple #[.slice A47 (y43.1).length cap48, .bool (y43.2)])] (by kernel_rfl) ?_
    refine wS_end (by rfl) ?_
    refine eX_then ?_
    refine cW_prune [(0, .slice A0 (l0).length cap0), (4, .slice A22 (y18.1).length cap23), (5, .bool (y18.2)), (6, .slice A34 (y30).length cap35), (7, .slice A47 (y43.1).length cap48), (8, .bool (y43.2))] (by kernel_rfl) (by kernel_rfl) (fun a57 => ?_)
    refine cW_seq ?_
    refine cW_seq ?_
    refine cW_region ?_
    refine wS_pure 2 [(33, .slice A22 (y18.1).length cap23), (32, .slice A47 (y43.1).length cap48)] (by kernel_rfl) ?_
    obtain ⟨y58, hy59, hm⟩ := bindE hm
    refine wS_calls (d := 34) (f := 24) (vs := [.slice A47 (y43.1).length cap48, .slice A22 (y18.1).length cap23]) (by kernel_rfl) ent24 (c_laws_eqPointS hy59 (F50.sl encII_ok) (F25.sl encII_ok)) ?_
    rintro _ w60 ⟨rfl, hc61⟩
    replace F0 := F0.chg hc61 Dj.nil
    replace F14 := F14.chg hc61 Dj.nil
    replace F25 := F25.chg hc61 Dj.nil
    replace F37 := F37.chg hc61 Dj.nil
    replace F50 := F50.chg hc61 Dj.nil
    replace hB := hB.inS hc61 inNil
    replace hZ := Nat.le_trans hZ hc61.size
    refine ⟨.bool (y58), rfl, ?_⟩
    refine wS_pure 2 [(36, .bool (!y58)), (35, .bool (!y58))] (by kernel_rfl) ?_
    refine wS_bool (!y58) (fun hb62 => ?_) (fun hb62 => ?_)
    · have hm := condT hb62 hm
      rewrite [hb62]
      refine wS_pure 4 [(40, .bool (true)), (39, undef), (38, undef), (37, undef)] (by kernel_rfl) ?_
      refine wS_end (by rfl) ?_
      refine eX_then ?_
      refine cW_cond_t (by kernel_rfl) ?_
      refine cW_seq ?_
      refine cW_region ?_
      refine wS_pure 1 [(2, .bool (false))] (by kernel_rfl) ?_
      refine wS_end (by rfl) ?_
      refine eX_then ?_
      refine cW_ret ?_
      refine eX_then_ret ?_
      have hq : (some false : Option ((Bool))) = some _ := hm
      replace hq := someE hq
      subst hq
      refine eX_ret (vs := [.bool (false)]) [.tmp 2] (by rfl) ⟨by (show lkE _ _ _ = _); kernel_rfl, trivial⟩ ?_
      exact ⟨rfl, hB⟩
    · have hm := condF hb62 hm
      rewrite [hb62]
      refine wS_pure 4 [(40, .bool (!(y43.2 == y18.2))), (39, .bool (!(y43.2 == y18.2))), (38, .bool (y18.2)), (37, .bool (y43.2))] (by kernel_rfl) ?_
      refine wS_end (by rfl) ?_
      refine eX_then ?_
      refine cW_cond (t := !(y43.2 == y18.2)) (by kernel_rfl) (fun hb63 => ?_) (fun hb63 => ?_)
      · have hm := condT hb63 hm
        refine cW_seq ?_
        refine cW_region ?_
        refine wS_pure 1 [(2, .bool (false))] (by kernel_rfl) ?_
        refine wS_end (by rfl) ?_
        refine eX_then ?_
        refine cW_ret ?_
        refine eX_then_ret ?_
        have hq : (some false : Option ((Bool))) = some _ := hm
        replace hq := someE hq
        subst hq
        refine eX_ret (vs := [.bool (false)]) [.tmp 2] (by rfl) ⟨by (show lkE _ _ _ = _); kernel_rfl, trivial⟩ ?_
        exact ⟨rfl, hB⟩
      · have hm := condF hb63 hm
        refine cW_skip ?_
        refine eX_then ?_
        refine cW_seq ?_
        refine cW_seq ?_
        refine cW_region ?_
        refine wS_pure 2 [(42, .slice A0 (l0).length cap0), (41, .slice A34 (y30).length cap35)] (by kernel_rfl) ?_
        obtain ⟨y64, hy65, hm⟩ := bindE hm
        refine wS_calls (d := 43) (f := 22) (vs := [.slice A0 (l0).length cap0]) (by kernel_rfl) ent22 (c_laws_toPointS hy65 F0) ?_
        rintro _ w66 ⟨A68, cap69, fp70, rfl, F71, G72, hc67⟩
        have D75 : Dj fp13 fp70 := Dj.of F14.low G72
        have D76 : Dj fp24 fp70 := Dj.of F25.low G72
        have D77 : Dj fp36 fp70 := Dj.of F37.low G72
        have D78 : Dj fp49 fp70 := Dj.of F50.low G72
        replace F0 := F0.chg hc67 Dj.nil
        replace F14 := F14.chg hc67 Dj.nil
        replace F25 := F25.chg hc67 Dj.nil
        replace F37 := F37.chg hc67 Dj.nil
        replace F50 := F50.chg hc67 Dj.nil
        replace hB := hB.inS hc67 inNil
        replace G72 := low_le hZ G72
        replace hZ := Nat.le_trans hZ hc67.size
        refine ⟨.slice A68 (y64).length cap69, rfl, ?_⟩
        obtain ⟨y79, hy80, hm⟩ := bindE hm
        refine wS_calls (d := 44) (f := 24) (vs := [.slice A34 (y30).length cap35, .slice A68 (y64).length cap69]) (by kernel_rfl) ent24 (c_laws_eqPointS hy80 (F37.sl encII_ok) (F71.sl encII_ok)) ?_
        rintro _ w81 ⟨rfl, hc82⟩
        replace F0 := F0.chg hc82 Dj.nil
        replace F14 := F14.chg hc82 Dj.nil
        replace F25 := F25.chg hc82 Dj.nil
        replace F37 := F37.chg hc82 Dj.nil
        replace F50 := F50.chg hc82 Dj.nil
        replace F71 := F71.chg hc82 Dj.nil
        replace hB := hB.inS hc82 inNil
        replace hZ := Nat.le_trans hZ hc82.size
        refine ⟨.bool (y79), rfl, ?_⟩
        refine wS_pure 1 [(45, .bool (!y79))] (by kernel_rfl) ?_
        refine wS_end (by rfl) ?_
        refine eX_then ?_
        refine cW_cond (t := !y79) (by kernel_rfl) (fun hb83 => ?_) (fun hb83 => ?_)
        · have hm := condT hb83 hm
          refine cW_seq ?_
          refine cW_region ?_
          refine wS_pure 1 [(2, .bool (false))] (by kernel_rfl) ?_
          refine wS_end (by rfl) ?_
          refine eX_then ?_
          refine cW_ret ?_
          refine eX_then_ret ?_
          have hq : (some false : Option ((Bool))) = some _ := hm
          replace hq := someE hq
          subst hq
          refine eX_ret (vs := [.bool (false)]) [.tmp 2] (by rfl) ⟨by (show lkE _ _ _ = _); kernel_rfl, trivial⟩ ?_
          exact ⟨rfl, hB⟩
        · have hm := condF hb83 hm
          refine cW_skip ?_
          refine eX_then ?_
          refine cW_seq ?_
          refine cW_region ?_
          refine wS_pure 1 [(9, .int .i64 (1))] (by kernel_rfl) ?_
          refine wS_end (by rfl) ?_
          refine eX_then ?_
          refine cW_seq ?_
          refine cW_region ?_
          refine wS_pure 2 [(47, .int .i64 (1)), (46, .slice A34 (y30).length cap35)] (by kernel_rfl) ?_
          obtain ⟨y84, hy85, hm⟩ := bindE hm
          refine wS_calls (d := 48) (f := 36) (vs := [.slice A34 (y30).length cap35, .int .i64 (1)]) (by kernel_rfl) ent36 (c_laws_markPointS hy85 F37) ?_
          rintro _ w86 ⟨rfl, F88, hl89, hc87⟩
          replace F0 := F0.chg hc87 (Dj.app (Dj.of L0 G38) Dj.nil)
          replace F14 := F14.chg hc87 (Dj.app D41 Dj.nil)
          replace F25 := F25.chg hc87 (Dj.app D42 Dj.nil)
          replace F50 := F50.chg hc87 (Dj.app (D56).symm Dj.nil)
          replace F71 := F71.chg hc87 (Dj.app (D77).symm Dj.nil)
          replace hB := hB.inS hc87 (inApp (inLow G38) inNil)
          replace hZ := Nat.le_trans hZ hc87.size
          clear F37
          refine ⟨.int .i64 (y84.1), rfl, ?_⟩
          rewrite [(show (y30).length = (y84.2).length from hl89.symm)]
          refine wS_pure 1 [(9, .int .i64 (y84.1))] (by kernel_rfl) ?_
          refine wS_end (by rfl) ?_
          refine eX_then ?_
          refine cW_prune [(0, .slice A0 (l0).length cap0), (4, .slice A22 (y18.1).length cap23), (5, .bool (y18.2)), (7, .slice A47 (y43.1).length cap48), (8, .bool (y43.2)), (9, .int .i64 (y84.1))] (by kernel_rfl) (by kernel_rfl) (fun a90 => ?_)
          refine cW_seq ?_
          refine cW_seq ?_
          refine cW_region ?_
          refine wS_pure 3 [(51, .bool (decide (y84.1 < 0))), (50, .bool (decide (y84.1 < 0))), (49, .int .i64 (y84.1))] (by kernel_rfl) ?_
          refine wS_bool (decide (y84.1 < 0)) (fun hb91 => ?_) (fun hb91 => ?_)
          · have hm := condT hb91 hm
            rewrite [hb91]
            refine wS_pure 10 [(61, .bool (true)), (60, undef), (59, undef), (58, undef), (57, .bool (true)), (56, .bool (true)), (55, undef), (54, undef), (53, undef), (52, undef)] (by kernel_rfl) ?_
            refine wS_end (by rfl) ?_
            refine eX_then ?_
            refine cW_cond_t (by kernel_rfl) ?_
            refine cW_seq ?_
            refine cW_region ?_
            refine wS_pure 1 [(2, .bool (false))] (by kernel_rfl) ?_
            refine wS_end (by rfl) ?_
            refine eX_then ?_
            refine cW_ret ?_
            refine eX_then_ret ?_
            have hq : (some false : Option ((Bool))) = some _ := hm
            replace hq := someE hq
            subst hq
            refine eX_ret (vs := [.bool (false)]) [.tmp 2] (by rfl) ⟨by (show lkE _ _ _ = _); kernel_rfl, trivial⟩ ?_
            exact ⟨rfl, hB⟩
          · have hm := condF hb91 hm
            rewrite [hb91]
            refine wS_pure 2 [(53, .slice A22 (y18.1).length cap23), (52, .slice A47 (y43.1).length cap48)] (by kernel_rfl) ?_
            obtain ⟨y92, hy93, hm⟩ := bindE hm
            refine wS_calls (d := 54) (f := 24) (vs := [.slice A47 (y43.1).length cap48, .slice A22 (y18.1).length cap23]) (by kernel_rfl) ent24 (c_laws_eqPointS hy93 (F50.sl encII_ok) (F25.sl encII_ok)) ?_
            rintro _ w94 ⟨rfl, hc95⟩
            replace F0 := F0.chg hc95 Dj.nil
            replace F14 := F14.chg hc95 Dj.nil
            replace F25 := F25.chg hc95 Dj.nil
            replace F88 := F88.chg hc95 Dj.nil
            replace F50 := F50.chg hc95 Dj.nil
            replace F71 := F71.chg hc95 Dj.nil
            replace hB := hB.inS hc95 inNil
            replace hZ := Nat.le_trans hZ hc95.size
            refine ⟨.bool (y92), rfl, ?_⟩
            refine wS_pure 3 [(57, .bool (!y92)), (56, .bool (!y92)), (55, .bool (!y92))] (by kernel_rfl) ?_
            refine wS_bool (!y92) (fun hb96 => ?_) (fun hb96 => ?_)
            · have hm := condT hb96 hm
              rewrite [hb96]
              refine wS_pure 4 [(61, .bool (true)), (60, undef), (59, undef), (58, undef)] (by kernel_rfl) ?_
              refine wS_end (by rfl) ?_
              refine eX_then ?_
              refine cW_cond_t (by kernel_rfl) ?_
              refine cW_seq ?_
              refine cW_region ?_
              refine wS_pure 1 [(2, .bool (false))] (by kernel_rfl) ?_
              refine wS_end (by rfl) ?_
              refine eX_then ?_
              refine cW_ret ?_
              refine eX_then_ret ?_
              have hq : (some false : Option ((Bool))) = some _ := hm
              replace hq := someE hq
              subst hq
              refine eX_ret (vs := [.bool (false)]) [.tmp 2] (by rfl) ⟨by (show lkE _ _ _ = _); kernel_rfl, trivial⟩ ?_
              exact ⟨rfl, hB⟩
            · have hm := condF hb96 hm
              rewrite [hb96]
              refine wS_pure 4 [(61, .bool (!(y43.2 == y18.2))), (60, .bool (!(y43.2 == y18.2))), (59, .bool (y18.2)), (58, .bool (y43.2))] (by kernel_rfl) ?_
              refine wS_end (by rfl) ?_
              refine eX_then ?_
              refine cW_cond (t := !(y43.2 == y18.2)) (by kernel_rfl) (fun hb97 => ?_) (fun hb97 => ?_)
              · have hm := condT hb97 hm
                refine cW_seq ?_
                refine cW_region ?_
                refine wS_pure 1 [(2, .bool (false))] (by kernel_rfl) ?_
                refine wS_end (by rfl) ?_
                refine eX_then ?_
                refine cW_ret ?_
                refine eX_then_ret ?_
                have hq : (some false : Option ((Bool))) = some _ := hm
                replace hq := someE hq
                subst hq
                refine eX_ret (vs := [.bool (false)]) [.tmp 2] (by rfl) ⟨by (show lkE _ _ _ = _); kernel_rfl, trivial⟩ ?_
                exact ⟨rfl, hB⟩
              · have hm := condF hb97 hm
                refine cW_skip ?_
                refine eX_then ?_
                refine cW_seq ?_
                refine cW_region ?_
                refine wS_pure 1 [(10, .int .i64 (1))] (by kernel_rfl) ?_
                refine wS_end (by rfl) ?_
                refine eX_then ?_
                refine cW_seq ?_
                refine cW_region ?_
                refine wS_pure 2 [(63, .int .i64 (1)), (62, .slice A47 (y43.1).length cap48)] (by kernel_rfl) ?_
                obtain ⟨y98, hy99, hm⟩ := bindE hm
                refine wS_calls (d := 64) (f := 36) (vs := [.slice A47 (y43.1).length cap48, .int .i64 (1)]) (by kernel_rfl) ent36 (c_laws_markPointS hy99 F50) ?_
                rintro _ w100 ⟨rfl, F102, hl103, hc101⟩
                replace F0 := F0.chg hc101 (Dj.app (Dj.of L0 G51) Dj.nil)
                replace F14 := F14.chg hc101 (Dj.app D54 Dj.nil)
                replace F25 := F25.chg hc101 (Dj.app D55 Dj.nil)
                replace F88 := F88.chg hc101 (Dj.app D56 Dj.nil)
                replace F71 := F71.chg hc101 (Dj.app (D78).symm Dj.nil)
                replace hB := hB.inS hc101 (inApp (inLow G51) inNil)
                replace hZ := Nat.le_trans hZ hc101.size
                clear F50
                refine ⟨.int .i64 (y98.1), rfl, ?_⟩
                rewrite [(show (y43.1).length = (y98.2).length from hl103.symm)]
                refine wS_pure 1 [(10, .int .i64 (y98.1))] (by kernel_rfl) ?_
                refine wS_end (by rfl) ?_
                refine eX_then ?_
                refine cW_seq ?_
                refine cW_region ?_
                refine wS_pure 1 [(11, .int .i64 (1))] (by kernel_rfl) ?_
                refine wS_end (by rfl) ?_
                refine eX_then ?_
                refine cW_prune [(0, .slice A0 (l0).length cap0), (4, .slice A22 (y18.1).length cap23), (5, .bool (y18.2)), (7, .slice A47 (y98.2).length cap48), (10, .int .i64 (y98.1)), (11, .int .i64 (1))] (by kernel_rfl) (by kernel_rfl) (fun a104 => ?_)
                refine cW_seq ?_
                refine cW_region ?_
                refine wS_pure 2 [(66, .int .i64 (1)), (65, .slice A47 (y98.2).length cap48)] (by kernel_rfl) ?_
                obtain ⟨y105, hy106, hm⟩ := bindE hm
                refine wS_calls (d := 67) (f := 37) (vs := [.slice A47 (y98.2).length cap48, .int .i64 (1)]) (by kernel_rfl) ent37 (c_laws_heldPointS hy106 (F102.sl encII_ok)) ?_
                rintro _ w107 ⟨rfl, hc108⟩
                replace F0 := F0.chg hc108 Dj.nil
                replace F14 := F14.chg hc108 Dj.nil
                replace F25 := F25.chg hc108 Dj.nil
                replace F88 := F88.chg hc108 Dj.nil
                replace F102 := F102.chg hc108 Dj.nil
                replace F71 := F71.chg hc108 Dj.nil
                replace hB := hB.inS hc108 inNil
                replace hZ := Nat.le_trans hZ hc108.size
                refine ⟨.int .i64 (y105), rfl, ?_⟩
                refine wS_pure 1 [(11, .int .i64 (y105))] (by kernel_rfl) ?_
                refine wS_end (by rfl) ?_
                refine eX_then ?_
                refine cW_seq ?_
                refine cW_seq ?_
                refine cW_region ?_
                refine wS_pure 2 [(69, .bool (decide (y105 < 0))), (68, .int .i64 (y105))] (by kernel_rfl) ?_
                refine wS_end (by rfl) ?_
                refine eX_then ?_
                refine cW_cond (t := decide (y105 < 0)) (by kernel_rfl) (fun hb109 => ?_) (fun hb109 => ?_)
                · have hm := condT hb109 hm
                  refine cW_seq ?_
                  refine cW_region ?_
                  refine wS_pure 1 [(2, .bool (false))] (by kernel_rfl) ?_
                  refine wS_end (by rfl) ?_
                  refine eX_then ?_
                  refine cW_ret ?_
                  refine eX_then_ret ?_
                  have hq : (some false : Option ((Bool))) = some _ := hm
                  replace hq := someE hq
                  subst hq
                  refine eX_ret (vs := [.bool (false)]) [.tmp 2] (by rfl) ⟨by (show lkE _ _ _ = _); kernel_rfl, trivial⟩ ?_
                  exact ⟨rfl, hB⟩
                · have hm := condF hb109 hm
                  refine cW_skip ?_
                  refine eX_then ?_
                  refine cW_seq ?_
                  refine cW_seq ?_
                  refine cW_region ?_
                  refine wS_pure 3 [(72, .bool (y105 != y98.1)), (71, .int .i64 (y98.1)), (70, .int .i64 (y105))] (by kernel_rfl) ?_
                  refine wS_end (by rfl) ?_
                  refine eX_then ?_
                  refine cW_cond (t := y105 != y98.1) (by kernel_rfl) (fun hb110 => ?_) (fun hb110 => ?_)
                  · have hm := condT hb110 hm
                    refine cW_seq ?_
                    refine cW_region ?_
                    refine wS_pure 1 [(2, .bool (false))] (by kernel_rfl) ?_
                    refine wS_end (by rfl) ?_
                    refine eX_then ?_
                    refine cW_ret ?_
                    refine eX_then_ret ?_
                    have hq : (some false : Option ((Bool))) = some _ := hm
                    replace hq := someE hq
                    subst hq
                    refine eX_ret (vs := [.bool (false)]) [.tmp 2] (by rfl) ⟨by (show lkE _ _ _ = _); kernel_rfl, trivial⟩ ?_
                    exact ⟨rfl, hB⟩
                  · have hm := condF hb110 hm
                    refine cW_skip ?_
                    refine eX_then ?_
                    refine cW_seq ?_
                    refine cW_region ?_
                    refine wS_pure 1 [(74, .slice A0 (l0).length cap0)] (by kernel_rfl) ?_
                    obtain ⟨y111, hy112, hm⟩ := bindE hm
                    refine wS_calls (d := 75) (f := 22) (vs := [.slice A0 (l0).length cap0]) (by kernel_rfl) ent22 (c_laws_toPointS hy112 F0) ?_
                    rintro _ w113 ⟨A115, cap116, fp117, rfl, F118, G119, hc114⟩
                    have D122 : Dj fp13 fp117 := Dj.of F14.low G119
                    have D123 : Dj fp24 fp117 := Dj.of F25.low G119
                    have D124 : Dj fp36 fp117 := Dj.of F88.low G119
                    have D125 : Dj fp49 fp117 := Dj.of F102.low G119
                    have D126 : Dj fp70 fp117 := Dj.of F71.low G119
                    replace F0 := F0.chg hc114 Dj.nil
                    replace F14 := F14.chg hc114 Dj.nil
                    replace F25 := F25.chg hc114 Dj.nil
                    replace F88 := F88.chg hc114 Dj.nil
                    replace F102 := F102.chg hc114 Dj.nil
                    replace F71 := F71.chg hc114 Dj.nil
                    replace hB := hB.inS hc114 inNil
                    replace G119 := low_le hZ G119
                    replace hZ := Nat.le_trans hZ hc114.size
                    refine ⟨.slice A115 (y111).length cap116, rfl, ?_⟩
                    obtain ⟨y127, hy128, hm⟩ := bindE hm
                    refine wS_calls (d := 76) (f := 45) (vs := [.slice A115 (y111).length cap116]) (by kernel_rfl) ent45 (c_impl_PathThrough hy128 (F118.sl encII_ok) F118.cap_le) ?_
                    rintro _ w129 ⟨A131, cap132, fp133, rfl, F134, G135, hc130⟩
                    have D138 : Dj fp13 fp133 := Dj.of F14.low G135
                    have D139 : Dj fp24 fp133 := Dj.of F25.low G135
                    have D140 : Dj fp36 fp133 := Dj.of F88.low G135
                    have D141 : Dj fp49 fp133 := Dj.of F102.low G135
                    have D142 : Dj fp70 fp133 := Dj.of F71.low G135
                    have D143 : Dj fp117 fp133 := Dj.of F118.low G135
                    replace F0 := F0.chg hc130 Dj.nil
                    replace F14 := F14.chg hc130 Dj.nil
                    replace F25 := F25.chg hc130 Dj.nil
                    replace F88 := F88.chg hc130 Dj.nil
                    replace F102 := F102.chg hc130 Dj.nil
                    replace F71 := F71.chg hc130 Dj.nil
                    replace F118 := F118.chg hc130 Dj.nil
                    replace hB := hB.inS hc130 inNil
                    replace G135 := low_le hZ G135
                    replace hZ := Nat.le_trans hZ hc130.size
                    refine ⟨.tuple #[.slice A131 (y127.1).length cap132, .bool (y127.2)], rfl, ?_⟩
                    refine wS_pure 5 [(13, .bool (y127.2)), (12, .slice A131 (y127.1).length cap132), (78, .bool (y127.2)), (77, .slice A131 (y127.1).length cap132), (73, .tuple #[.slice A131 (y127.1).length cap132, .bool (y127.2)])] (by kernel_rfl) ?_
                    refine wS_end (by rfl) ?_
                    refine eX_then ?_
                    refine cW_seq ?_
                    refine cW_seq ?_
                    refine cW_region ?_
                    refine wS_pure 2 [(80, .slice A22 (y18.1).length cap23), (79, .slice A131 (y127.1).length cap132)] (by kernel_rfl) ?_
                    obtain ⟨y144, hy145, hm⟩ := bindE hm
                    refine wS_calls (d := 81) (f := 24) (vs := [.slice A131 (y127.1).length cap132, .slice A22 (y18.1).length cap23]) (by kernel_rfl) ent24 (c_laws_eqPointS hy145 (F134.sl encII_ok) (F25.sl encII_ok)) ?_
                    rintro _ w146 ⟨rfl, hc147⟩
                    replace F0 := F0.chg hc147 Dj.nil
                    replace F14 := F14.chg hc147 Dj.nil
                    replace F25 := F25.chg hc147 Dj.nil
                    replace F88 := F88.chg hc147 Dj.nil
                    replace F102 := F102.chg hc147 Dj.nil
                    replace F71 := F71.chg hc147 Dj.nil
                    replace F118 := F118.chg hc147 Dj.nil
                    replace F134 := F134.chg hc147 Dj.nil
                    replace hB := hB.inS hc147 inNil
                    replace hZ := Nat.le_trans hZ hc147.size
                    refine ⟨.bool (y144), rfl, ?_⟩
                    refine wS_pure 2 [(83, .bool (!y144)), (82, .bool (!y144))] (by kernel_rfl) ?_
                    refine wS_bool (!y144) (fun hb148 => ?_) (fun hb148 => ?_)
                    · have hm := condT hb148 hm
                      rewrite [hb148]
                      refine wS_pure 4 [(87, .bool (true)), (86, undef), (85, undef), (84, undef)] (by kernel_rfl) ?_
                      refine wS_end (by rfl) ?_
                      refine eX_then ?_
                      refine cW_prune [(7, .slice A47 (y98.2).length cap48), (10, .int .i64 (y98.1)), (87, .bool (true))] (by kernel_rfl) (by kernel_rfl) (fun a149 => ?_)
                      refine cW_cond_t (by kernel_rfl) ?_
                      refine cW_seq ?_
                      refine cW_region ?_
                      refine wS_pure 1 [(2, .bool (false))] (by kernel_rfl) ?_
                      refine wS_end (by rfl) ?_
                      refine eX_then ?_
                      refine cW_ret ?_
                      refine eX_then_ret ?_
                      have hq : (some false : Option ((Bool))) = some _ := hm
                      replace hq := someE hq
                      subst hq
                      refine eX_ret (vs := [.bool (false)]) [.tmp 2] (by rfl) ⟨by (show lkE _ _ _ = _); kernel_rfl, trivial⟩ ?_
                      exact ⟨rfl, hB⟩
                    · have hm := condF hb148 hm
                      rewrite [hb148]
                      refine wS_pure 4 [(87, .bool (!(y127.2 == y18.2))), (86, .bool (!(y127.2 == y18.2))), (85, .bool (y18.2)), (84, .bool (y127.2))] (by kernel_rfl) ?_
                      refine wS_end (by rfl) ?_
                      refine eX_then ?_
                      refine cW_prune [(7, .slice A47 (y98.2).length cap48), (10, .int .i64 (y98.1)), (87, .bool (!(y127.2 == y18.2)))] (by kernel_rfl) (by kernel_rfl) (fun a150 => ?_)
                      refine cW_cond (t := !(y127.2 == y18.2)) (by kernel_rfl) (fun hb151 => ?_) (fun hb151 => ?_)
                      · have hm := condT hb151 hm
                        refine cW_seq ?_
                        refine cW_region ?_
                        refine wS_pure 1 [(2, .bool (false))] (by kernel_rfl) ?_
                        refine wS_end (by rfl) ?_
                        refine eX_then ?_
                        refine cW_ret ?_
                        refine eX_then_ret ?_
                        have hq : (some false : Option ((Bool))) = some _ := hm
                        replace hq := someE hq
                        subst hq
                        refine eX_ret (vs := [.bool (false)]) [.tmp 2] (by rfl) ⟨by (show lkE _ _ _ = _); kernel_rfl, trivial⟩ ?_
                        exact ⟨rfl, hB⟩
                      · have hm := condF hb151 hm
                        refine cW_skip ?_
                        refine eX_then ?_
                        refine cW_seq ?_
                        refine cW_region ?_
                        refine wS_pure 1 [(11, .int .i64 (1))] (by kernel_rfl) ?_
                        refine wS_end (by rfl) ?_
                        refine eX_then ?_
                        refine cW_seq ?_
                        refine cW_region ?_
                        refine wS_pure 2 [(89, .int .i64 (1)), (88, .slice A47 (y98.2).length cap48)] (by kernel_rfl) ?_
                        obtain ⟨y152, hy153, hm⟩ := bindE hm
                        refine wS_calls (d := 90) (f := 37) (vs := [.slice A47 (y98.2).length cap48, .int .i64 (1)]) (by kernel_rfl) ent37 (c_laws_heldPointS hy153 (F102.sl encII_ok)) ?_
                        rintro _ w154 ⟨rfl, hc155⟩
                        replace F0 := F0.chg hc155 Dj.nil
                        replace F14 := F14.chg hc155 Dj.nil
                        replace F25 := F25.chg hc155 Dj.nil
                        replace F88 := F88.chg hc155 Dj.nil
                        replace F102 := F102.chg hc155 Dj.nil
                        replace F71 := F71.chg hc155 Dj.nil
                        replace F118 := F118.chg hc155 Dj.nil
                        replace F134 := F134.chg hc155 Dj.nil
                        replace hB := hB.inS hc155 inNil
                        replace hZ := Nat.le_trans hZ hc155.size
                        refine ⟨.int .i64 (y152), rfl, ?_⟩
                        refine wS_pure 1 [(11, .int .i64 (y152))] (by kernel_rfl) ?_
                        refine wS_end (by rfl) ?_
                        refine eX_then ?_
                        refine cW_seq ?_
                        refine cW_seq ?_
                        refine cW_region ?_
                        refine wS_pure 2 [(92, .bool (decide (y152 < 0))), (91, .int .i64 (y152))] (by kernel_rfl) ?_
                        refine wS_end (by rfl) ?_
                        refine eX_then ?_
                        refine cW_cond (t := decide (y152 < 0)) (by kernel_rfl) (fun hb156 => ?_) (fun hb156 => ?_)
                        · have hm := condT hb156 hm
                          refine cW_seq ?_
                          refine cW_region ?_
                          refine wS_pure 1 [(2, .bool (false))] (by kernel_rfl) ?_
                          refine wS_end (by rfl) ?_
                          refine eX_then ?_
                          refine cW_ret ?_
                          refine eX_then_ret ?_
                          have hq : (some false : Option ((Bool))) = some _ := hm
                          replace hq := someE hq
                          subst hq
                          refine eX_ret (vs := [.bool (false)]) [.tmp 2] (by rfl) ⟨by (show lkE _ _ _ = _); kernel_rfl, trivial⟩ ?_
                          exact ⟨rfl, hB⟩
                        · have hm := condF hb156 hm
                          refine cW_skip ?_
                          refine eX_then ?_
                          refine cW_seq ?_
                          refine cW_seq ?_
                          refine cW_region ?_
                          refine wS_pure 3 [(95, .bool (y152 != y98.1)), (94, .int .i64 (y98.1)), (93, .int .i64 (y152))] (by kernel_rfl) ?_
                          refine wS_end (by rfl) ?_
                          refine eX_then ?_
                          refine cW_cond (t := y152 != y98.1) (by kernel_rfl) (fun hb157 => ?_) (fun hb157 => ?_)
                          · have hm := condT hb157 hm
                            refine cW_seq ?_
                            refine cW_region ?_
                            refine wS_pure 1 [(2, .bool (false))] (by kernel_rfl) ?_
                            refine wS_end (by rfl) ?_
                            refine eX_then ?_
                            refine cW_ret ?_
                            refine eX_then_ret ?_
                            have hq : (some false : Option ((Bool))) = some _ := hm
                            replace hq := someE hq
                            subst hq
                            refine eX_ret (vs := [.bool (false)]) [.tmp 2] (by rfl) ⟨by (show lkE _ _ _ = _); kernel_rfl, trivial⟩ ?_
                            exact ⟨rfl, hB⟩
                          · have hm := condF hb157 hm
                            refine cW_skip ?_
                            refine eX_then ?_
                            refine cW_seq ?_
                            refine cW_region ?_
                            refine wS_pure 1 [(2, .bool (true))] (by kernel_rfl) ?_
                            refine wS_end (by rfl) ?_
                            refine eX_then ?_
                            refine cW_ret ?_
                            have hq : (some true : Option ((Bool))) = some _ := hm
                            replace hq := someE hq
                            subst hq
                            refine eX_ret (vs := [.bool (true)]) [.tmp 2] (by rfl) ⟨by (show lkE _ _ _ = _); kernel_rfl, trivial⟩ ?_
                            exact ⟨rfl, hB⟩

set_option maxRecDepth 100000 in
/-- laws.szPointSS -/
theorem c_laws_szPointSS {w0 : World} {l0 : List (List (Int × Int))} {A0 : Option Addr} {cap0 : Nat} {fp0 : List Nat} {p1 : Int} {r : (Int)} (hm : m_laws_szPointSS l0 p1 = some r) (F0 : SlR 2 encII w0 fp0 A0 l0) :
    Calls Try.prog 58 #[.slice A0 (l0).length cap0, .int .i64 (p1)] w0 fun e w' => e = .returned (.int .i64 (r)) ∧ Chg [] w0 w' := by
  have L0 := F0.low
  have hB : Chg [] w0 w0 := Chg.refl _ _
  have hZ := Nat.le_refl w0.heap.size
  unfold m_laws_szPointSS at hm
  refine enterE (N := 27) Try.func58 (by rfl) Try.ntmps58 (by simp) [(0, .slice A0 (l0).length cap0), (1, .int .i64 (p1))] (by rfl) (by kernel_rfl) (fun a => ?_)
  refine cW_seq ?_
  refine cW_region ?_
  refine wS_pure 1 [(4, .int .i64 (0))] (by kernel_rfl) ?_
  refine wS_end (by rfl) ?_
  refine eX_then ?_
  refine cW_seq ?_
  refine cW_region ?_
  refine wS_pure 5 [(1, .int .i64 (wr (p1 - (((l0).length : Int))))), (9, .int .i64 (wr (p1 - (((l0).length : Int))))), (8, .int .i64 (((l0).length : Int))), (7, .slice A0 (l0).length cap0), (6, .int .i64 (p1))] (by kernel_rfl) ?_
  refine wS_end (by rfl) ?_
  refine eX_then ?_
  refine cW_seq ?_
  refine cW_seq ?_
  refine cW_region ?_
  refine wS_pure 2 [(11, .bool (decide ((wr (p1 - (((l0).length : Int)))) < 0))), (10, .int .i64 (wr (p1 - (((l0).length : Int)))))] (by kernel_rfl) ?_
  refine wS_end (by rfl) ?_
  refine eX_then ?_
  refine cW_cond (t := decide ((wr (p1 - (((l0).length : Int)))) < 0)) (by kernel_rfl) (fun hb2 => ?_) (fun hb2 => ?_)
  · have hm := condT hb2 hm
    refine cW_seq ?_
    refine cW_region ?_
    refine wS_pure 1 [(4, .int .i64 ((-1)))] (by kernel_rfl) ?_
    refine wS_end (by rfl) ?_
    refine eX_then ?_
    refine cW_ret ?_
    refine eX_then_ret ?_
    have hq : (some ((-1)) : Option ((Int))) = some _ := hm
    replace hq := someE hq
    subst hq
    refine eX_ret (vs := [.int .i64 ((-1))]) [.tmp 4] (by rfl) ⟨by (show lkE _ _ _ = _); kernel_rfl, trivial⟩ ?_
    exact ⟨rfl, hB⟩
  · have hm := condF hb2 hm
    refine cW_skip ?_
    refine eX_then ?_
    refine cW_seq ?_
    refine cW_seq ?_
    refine cW_region ?_
    refine wS_pure 1 [(5, .int .i64 (0))] (by kernel_rfl) ?_
    refine wS_end (by rfl) ?_
    refine eX_then ?_
    obtain ⟨r45, hr46, hm⟩ := bindE hm
    have hm47 := hm
    refine cW_cut (fun a' w' => ∃ x38 : Int, Sum.inl x38 = r45 ∧ Fr 27 [(1, .int .i64 (x38))] a' ∧ Chg [] w0 w' ∧ w0.heap.size ≤ w'.heap.size) ?_ ?_
    · refine cW_block ?_
      refine cW_loop _ (fun (s48 : Int × Int) a' w' => ∃ x41 : Int, ∃ x42 : Int, (x41, x42) = s48 ∧ Fr 27 [(0, .slice A0 (l0).length cap0), (1, .int .i64 (x41)), (5, .int .i64 (x42))] a' ∧ SlR 2 encII w' fp0 A0 l0 ∧ Chg [] w0 w' ∧ w0.heap.size ≤ w'.heap.size) hr46 (fun hst => ⟨wr (p1 - (((l0).length : Int))), 0, rfl, Fr.of hst (by kernel_rfl), F0, hB, hZ⟩) ?_
      rintro _ c49 a' w40 ⟨x41, x42, rfl, hF43, F44, hB, hZ⟩ hx50
      refine Fr.goOn hF43 (by kernel_rfl) ?_
      have hm := hx50
      unfold m_laws_szPointSS_s1 at hm
      refine cW_seq ?_
      refine cW_seq ?_
      refine cW_region ?_
      refine wS_pure 4 [(15, .bool (decide (x42 < (((l0).length : Int))))), (14, .int .i64 (((l0).length : Int))), (13, .slice A0 (l0).length cap0), (12, .int .i64 (x42))] (by kernel_rfl) ?_
      refine wS_end (by rfl) ?_
      refine eX_then ?_
      refine cW_cond (t := decide (x42 < (((l0).length : Int)))) (by kernel_rfl) (fun hb51 => ?_) (fun hb51 => ?_)
      · have hm := condT hb51 hm
        refine cW_skip ?_
        refine eX_then ?_
        refine cW_seq ?_
        refine cW_block ?_
        refine cW_seq ?_
        refine cW_region ?_
        refine wS_pure 2 [(19, .int .i64 (x42)), (18, .slice A0 (l0).length cap0)] (by kernel_rfl) ?_
        obtain ⟨x52, hx53, hm⟩ := bindE hm
        refine wS_idx (d := 20) (T := 52) (A := A0) (n := (l0).length) (cap := cap0) (kd := .i64) (m := x42) (by kernel_rfl) sl52 (F44.is hx53) ?_
        obtain ⟨A54, cap55, hc57, F56, K58⟩ := SlR.row F44 hx53
        refine wS_load1 (d := 21) (T := 22) (ad := (elA A0 1 (x42) 0)) (v := .slice A54 (x52).length cap55) (by kernel_rfl) vt22 hc57 ?_
        refine wS_pure 1 [(22, .int .i64 (x41))] (by kernel_rfl) ?_
        obtain ⟨y60, hy61, hm⟩ := bindE hm
        refine wS_calls (d := 23) (f := 20) (vs := [.slice A54 (x52).length cap55, .int .i64 (x41)]) (by kernel_rfl) ent20 (c_laws_szPointS hy61 F56) ?_
        rintro _ w62 ⟨rfl, hc63⟩
        replace F44 := F44.chg hc63 Dj.nil
        replace F56 := F56.chg hc63 Dj.nil
        replace hB := hB.inS hc63 inNil
        replace hZ := Nat.le_trans hZ hc63.size
        refine ⟨.int .i64 (y60), rfl, ?_⟩
        refine wS_pure 1 [(1, .int .i64 (y60))] (by kernel_rfl) ?_
        refine wS_end (by rfl) ?_
        refine eX_then ?_
        refine cW_seq ?_
        refine cW_region ?_
        refine wS_pure 2 [(25, .bool (decide (y60 < 0))), (24, .int .i64 (y60))] (by kernel_rfl) ?_
        refine wS_end (by rfl) ?_
        refine eX_then ?_
        refine cW_cond (t := decide (y60 < 0)) (by kernel_rfl) (fun hb64 => ?_) (fun hb64 => ?_)
        · have hm := condT hb64 hm
          refine cW_seq ?_
          refine cW_region ?_
          refine wS_pure 1 [(4, .int .i64 ((-1)))] (by kernel_rfl) ?_
          refine wS_end (by rfl) ?_
          refine eX_then ?_
          refine cW_ret ?_
          refine eX_block_ret ?_
          refine eX_then_ret ?_
          have hq : (some (Ctl.out (Sum.inr ((-1)))) : Option (Ctl (Int × Int) (Sum (Int) ((Int))))) = some _ := hm
          replace hq := someE hq
          subst hq
          refine eX_outR hx50 (fun hr => ?_)
          subst hr
          refine eX_block_ret ?_
          refine eX_then_ret ?_
          refine eX_then_ret ?_
          have hq : (some ((-1)) : Option ((Int))) = some _ := hm47
          replace hq := someE hq
          subst hq
          refine eX_ret (vs := [.int .i64 ((-1))]) [.tmp 4] (by rfl) ⟨by (show lkE _ _ _ = _); kernel_rfl, trivial⟩ ?_
          exact ⟨rfl, hB⟩
        · have hm := condF hb64 hm
          refine cW_skip ?_
          refine eX_block ?_
          refine eX_then ?_
          refine cW_region ?_
          refine wS_pure 3 [(5, .int .i64 (wr (x42 + 1))), (17, .int .i64 (wr (x42 + 1))), (16, .int .i64 (x42))] (by kernel_rfl) ?_
          refine wS_end (by rfl) ?_
          have hq : (some (Ctl.next ((y60, wr (x42 + 1)))) : Option (Ctl (Int × Int) (Sum (Int) ((Int))))) = some _ := hm
          replace hq := someE hq
          subst hq
          exact eX_next hx50 (fun hst => ⟨y60, wr (x42 + 1), rfl, Fr.of hst (by kernel_rfl), F44, hB, hZ⟩)
      · have hm := condF hb51 hm
        refine cW_exit ?_
        refine eX_then_exit ?_
        have hq : (some (Ctl.out (Sum.inl x41)) : Option (Ctl (Int × Int) (Sum (Int) ((Int))))) = some _ := hm
        replace hq := someE hq
        subst hq
        refine eX_outX hx50 (fun hr65 => ?_)
        replace hr65 := hr65.symm
        subst hr65
        refine eX_block_hit ?_
        exact eX_J (fun hst => ⟨x41, rfl, Fr.of hst (by kernel_rfl), hB, hZ⟩)
    · rintro a' w37 ⟨x38, hJ, hF39, hB, hZ⟩
      subst hJ
      refine Fr.goX hF39 (by kernel_rfl) ?_
      refine eX_then ?_
      refine cW_seq ?_
      refine cW_region ?_
      refine wS_pure 2 [(4, .int .i64 (x38)), (26, .int .i64 (x38))] (by kernel_rfl) ?_
      refine wS_end (by rfl) ?_
      refine eX_then ?_
      refine cW_ret ?_
      have hq : (some x38 : Option ((Int))) = some _ := hm
      replace hq := someE hq
      subst hq
      refine eX_ret (vs := [.int .i64 (x38)]) [.tmp 4] (by rfl) ⟨by (show lkE _ _ _ = _); kernel_rfl, trivial⟩ ?_
      exact ⟨rfl, hB⟩

set_option maxRecDepth 100000 in
/-- spec.AreApart -/
theorem c_spec_AreApart {w0 : World} {l0 : List (List (Int × Int))} {A0 : Option Addr} {cap0 : Nat} {fp0 : List Nat} {r : (Bool)} (hm : m_spec_AreApart l0 = some r) (F0 : SlR 2 encII w0 fp0 A0 l0) :
    Calls Try.prog 59 #[.slice A0 (l0).length cap0] w0 fun e w' => e = .returned (.bool (r)) ∧ Chg [] w0 w' := by
  have L0 := F0.low
  have hB : Chg [] w0 w0 := Chg.refl _ _
  have hZ := Nat.le_refl w0.heap.size
  unfold m_spec_AreApart at hm
  refine enterE (N := 54) Try.func59 (by rfl) Try.ntmps59 (by simp) [(0, .slice A0 (l0).length cap0)] (by rfl) (by kernel_rfl) (fun a => ?_)
  refine cW_seq ?_
  refine cW_region ?_
  refine wS_pure 1 [(2, .bool (false))] (by kernel_rfl) ?_
  refine wS_end (by rfl) ?_
  refine eX_then ?_
  refine cW_seq ?_
  refine cW_seq ?_
  refine cW_region ?_
  refine wS_pure 3 [(11, .bool (decide ((((l0).length : Int)) > 20))), (10, .int .i64 (((l0).length : Int))), (9, .slice A0 (l0).length cap0)] (by kernel_rfl) ?_
  refine wS_end (by rfl) ?_
  refine eX_then ?_
  refine cW_cond (t := decide ((((l0).length : Int)) > 20)) (by kernel_rfl) (fun hb2 => ?_) (fun hb2 => ?_)
  · have hm := condT hb2 hm
    refine cW_seq ?_
    refine cW_region ?_
    refine wS_pure 1 [(2, .bool (false))] (by kernel_rfl) ?_
    refine wS_end (by rfl) ?_
    refine eX_then ?_
    refine cW_ret ?_
    refine eX_then_ret ?_
    have hq : (some false : Option ((Bool))) = some _ := hm
    replace hq := someE hq
    subst hq
    refine eX_ret (vs := [.bool (false)]) [.tmp 2] (by rfl) ⟨by (show lkE _ _ _ = _); kernel_rfl, trivial⟩ ?_
    exact ⟨rfl, hB⟩
  · have hm := condF hb2 hm
    refine cW_skip ?_
    refine eX_then ?_
    refine cW_seq ?_
    refine cW_region ?_
    obtain ⟨_, hk3, hm⟩ := bindE hm
    replace hk3 := mkE hk3
    refine wS_make (enc := encB) (x0 := (false : Bool)) (d := 12) (t := 86) (T := 4) (k1 := .i64) (k2 := .i64) (m := 10000) (by kernel_rfl) el86 encB_ok (by rfl) hk3.1 hk3.2 ?_
    intro b4 w5 G6 F7 hc8
    replace F0 := F0.chg hc8 Dj.nil
    replace hB := hB.inS hc8 inNil
    replace G6 := Nat.le_trans hZ G6
    replace G6 := low1 G6
    replace hZ := Nat.le_trans hZ hc8.size
    refine wS_pure 1 [(3, .slice (some ⟨b4, 0, none⟩) (List.replicate (Int.toNat 10000) ((false : Bool))).length (Int.toNat 10000))] (by kernel_rfl) ?_
    refine wS_end (by rfl) ?_
    refine eX_then ?_
    refine cW_seq ?_
    refine cW_seq ?_
    refine cW_region ?_
    refine wS_pure 1 [(4, .int .i64 (0))] (by kernel_rfl) ?_
    refine wS_end (by rfl) ?_
    refine eX_then ?_
    obtain ⟨r300, hr301, hm⟩ := bindE hm
    have hm302 := hm
    refine cW_cut (fun a' w' => Sum.inl (()) = r300 ∧ Fr 54 [] a' ∧ Chg [] w0 w' ∧ w0.heap.size ≤ w'.heap.size) ?_ ?_
    · refine cW_block ?_
      refine cW_loop _ (fun (s303 : Int × (List (Bool))) a' w' => ∃ x295 : Int, ∃ l296 : List (Bool), (x295, l296) = s303 ∧ Fr 54 [(0, .slice A0 (l0).length cap0), (3, .slice (some ⟨b4, 0, none⟩) (l296).length (Int.toNat 10000)), (4, .int .i64 (x295))] a' ∧ SlR 2 encII w' fp0 A0 l0 ∧ Ow 1 encB 4 w' [b4] (some ⟨b4, 0, none⟩) (Int.toNat 10000) l296 ∧ Chg [] w0 w' ∧ w0.heap.size ≤ w'.heap.size) hr301 (fun hst => ⟨0, List.replicate (Int.toNat 10000) ((false : Bool)), rfl, Fr.of hst (by kernel_rfl), F0, F7, hB, hZ⟩) ?_
      rintro _ c304 a' w294 ⟨x295, l296, rfl, hF297, F298, F299, hB, hZ⟩ hx305
      refine Fr.goOn hF297 (by kernel_rfl) ?_
      have hm := hx305
      unfold m_spec_AreApart_s3 at hm
      refine cW_seq ?_
      refine cW_seq ?_
      refine cW_region ?_
      refine wS_pure 4 [(16, .bool (decide (x295 < (((l0).length : Int))))), (15, .int .i64 (((l0).length : Int))), (14, .slice A0 (l0).length cap0), (13, .int .i64 (x295))] (by kernel_rfl) ?_
      refine wS_end (by rfl) ?_
      refine eX_then ?_
      refine cW_cond (t := decide (x295 < (((l0).length : Int)))) (by kernel_rfl) (fun hb306 => ?_) (fun hb306 => ?_)
      · have hm := condT hb306 hm
        refine cW_skip ?_
        refine eX_then ?_
        refine cW_seq ?_
        refine cW_block ?_
        refine cW_seq ?_
        refine cW_region ?_
        refine wS_pure 2 [(21, .int .i64 (x295)), (20, .slice A0 (l0).length cap0)] (by kernel_rfl) ?_
        obtain ⟨x307, hx308, hm⟩ := bindE hm
        refine wS_idx (d := 22) (T := 55) (A := A0) (n := (l0).length) (cap := cap0) (kd := .i64) (m := x295) (by kernel_rfl) sl55 (F298.is hx308) ?_
        obtain ⟨A309, cap310, hc312, F311, K313⟩ := SlR.row F298 hx308
        refine wS_load1 (d := 23) (T := 25) (ad := (elA A0 1 (x295) 0)) (v := .slice A309 (x307).length cap310) (by kernel_rfl) vt25 hc312 ?_
        obtain ⟨y315, hy316, hm⟩ := bindE hm
        refine wS_calls (d := 24) (f := 103) (vs := [.slice A309 (x307).length cap310]) (by kernel_rfl) ent103 (c_spec_l01Through hy316 F311) ?_
        rintro _ w317 ⟨A319, cap320, fp321, rfl, F322, G323, hc318⟩
        have D326 : Dj [b4] fp321 := Dj.of F299.low G323
        replace F298 := F298.chg hc318 Dj.nil
        replace F299 := F299.chg hc318 Dj.nil
        replace F311 := F311.chg hc318 Dj.nil
        replace hB := hB.inS hc318 inNil
        replace G323 := low_le hZ G323
        replace hZ := Nat.le_trans hZ hc318.size
        refine ⟨.tuple #[.slice A319 (y315.1).length cap320, .bool (y315.2)], rfl, ?_⟩
        refine wS_pure 5 [(6, .bool (y315.2)), (5, .slice A319 (y315.1).length cap320), (26, .bool (y315.2)), (25, .slice A319 (y315.1).length cap320), (19, .tuple #[.slice A319 (y315.1).length cap320, .bool (y315.2)])] (by kernel_rfl) ?_
        refine wS_end (by rfl) ?_
        refine eX_then ?_
        refine cW_seq ?_
        refine cW_seq ?_
        refine cW_region ?_
        refine wS_pure 2 [(28, .bool (!y315.2)), (27, .bool (y315.2))] (by kernel_rfl) ?_
        refine wS_end (by rfl) ?_
        refine eX_then ?_
        refine cW_cond (t := !y315.2) (by kernel_rfl) (fun hb327 => ?_) (fun hb327 => ?_)
        · have hm := condT hb327 hm
          refine cW_seq ?_
          refine cW_region ?_
          refine wS_pure 1 [(2, .bool (false))] (by kernel_rfl) ?_
          refine wS_end (by rfl) ?_
          refine eX_then ?_
          refine cW_ret ?_
          refine eX_then_ret ?_
          refine eX_block_ret ?_
          refine eX_then_ret ?_
          have hq : (some (Ctl.out (Sum.inr false)) : Option (Ctl (Int × (List (Bool))) (Sum (Unit) ((Bool))))) = some _ := hm
          replace hq := someE hq
          subst hq
          refine eX_outR hx305 (fun hr => ?_)
          subst hr
          refine eX_block_ret ?_
          refine eX_then_ret ?_
          refine eX_then_ret ?_
          have hq : (some false : Option ((Bool))) = some _ := hm302
          replace hq := someE hq
          subst hq
          refine eX_ret (vs := [.bool (false)]) [.tmp 2] (by rfl) ⟨by (show lkE _ _ _ = _); kernel_rfl, trivial⟩ ?_
          exact ⟨rfl, hB⟩
        · have hm := condF hb327 hm
          refine cW_skip ?_
          refine eX_then ?_
          refine cW_seq ?_
          refine cW_region ?_
          refine wS_pure 1 [(7, .int .i64 (0))] (by kernel_rfl) ?_
          refine wS_end (by rfl) ?_
          refine eX_then ?_
          obtain ⟨r406, hr407, hm⟩ := bindE hm
          have hm408 := hm
          refine cW_cut (fun a' w' => ∃ l395 : List (Bool), Sum.inl l395 = r406 ∧ Fr 54 [(0, .slice A0 (l0).length cap0), (3, .slice (some ⟨b4, 0, none⟩) (l395).length (Int.toNat 10000)), (4, .int .i64 (x295))] a' ∧ SlR 2 encII w' fp0 A0 l0 ∧ Ow 1 encB 4 w' [b4] (some ⟨b4, 0, none⟩) (Int.toNat 10000) l395 ∧ Chg [] w0 w' ∧ w0.heap.size ≤ w'.heap.size) ?_ ?_
          · refine cW_block ?_
            refine cW_loop _ (fun (s409 : Int × (List (Bool))) a' w' => ∃ x400 : Int, ∃ l401 : List (Bool), (x400, l401) = s409 ∧ Fr 54 [(0, .slice A0 (l0).length cap0), (3, .slice (some ⟨b4, 0, none⟩) (l401).length (Int.toNat 10000)), (4, .int .i64 (x295)), (5, .slice A319 (y315.1).length cap320), (7, .int .i64 (x400))] a' ∧ SlR 2 encII w' fp0 A0 l0 ∧ Ow 1 encB 4 w' [b4] (some ⟨b4, 0, none⟩) (Int.toNat 10000) l401 ∧ Ow 2 encII 34 w' fp321 A319 cap320 y315.1 ∧ Chg [] w0 w' ∧ w0.heap.size ≤ w'.heap.size) hr407 (fun hst => ⟨0, l296, rfl, Fr.of hst (by kernel_rfl), F298, F299, F322, hB, hZ⟩) ?_
            rintro _ c410 a' w399 ⟨x400, l401, rfl, hF402, F403, F404, F405, hB, hZ⟩ hx411
            refine Fr.goOn hF402 (by kernel_rfl) ?_
            have hm := hx411
            unfold m_spec_AreApart_s4 at hm
            refine cW_seq ?_
            refine cW_seq ?_
            refine cW_region ?_
            refine wS_pure 4 [(32, .bool (decide (x400 < (((y315.1).length : Int))))), (31, .int .i64 (((y315.1).length : Int))), (30, .slice A319 (y315.1).length cap320), (29, .int .i64 (x400))] (by kernel_rfl) ?_
            refine wS_end (by rfl) ?_
            refine eX_then ?_
            refine cW_cond (t := decide (x400 < (((y315.1).length : Int)))) (by kernel_rfl) (fun hb412 => ?_) (fun hb412 => ?_)
            · have hm := condT hb412 hm
              refine cW_skip ?_
              refine eX_then ?_
              refine cW_seq ?_
              refine cW_block ?_
              refine cW_seq ?_
              refine cW_drawnTail [] 11 (by kernel_rfl) (by kernel_rfl) (fun w422 hc423 => ?_)
              replace F403 := F403.chg hc423 Dj.nil
              replace F404 := F404.chg hc423 Dj.nil
              replace F405 := F405.chg hc423 Dj.nil
              replace hB := hB.inS hc423 inNil
              replace hZ := Nat.le_trans hZ hc423.size
              have hS := Chg.refl [] w422
              have Z424 := F403
              have Z425 := F404
              have Z426 := F405
              refine wH_take [0, 1] [1, 0] [(36, .int .i64 (x400)), (35, .slice A319 (y315.1).length cap320)] (by kernel_rfl) (qT (qT (qB (qT (qL (qB (qT (qB (qT (qL (qB (qT (qT qZ))))))))))))) (by kernel_rfl) ?_
              obtain ⟨x427, hx428, hm⟩ := bindE hm
              refine wH_idx (i := 2) (d := 37) (T := 25) (A := A319) (n := (y315.1).length) (cap := cap320) (kd := .i64) (m := x400) (by kernel_rfl) (qT (qT (qB (qT (qL (qB (qT (qB (qT (qL (qB (qT (qT qZ))))))))))))) (by kernel_rfl) (by kernel_rfl) sl25 ((F405.sl encII_ok).is hx428) ?_
              refine wH_take [3] [3, 2, 1, 0] [(38, .pointer (some (elA A319 2 (x400) 0)))] (by kernel_rfl) (qT (qT (qB (qT (qL (qB (qT (qB (qT (qL (qB (qT (qT qZ))))))))))))) (by kernel_rfl) ?_
              refine wH_load1 (i := 4) (d := 39) (T := 2) (ad := (elA A319 2 (x400) 0)) (v := .int .i64 (x427.1)) (by kernel_rfl) (qT (qT (qB (qT (qL (qB (qT (qB (qT (qL (qB (qT (qT qZ))))))))))))) (by kernel_rfl) (by kernel_rfl) vt2 (fun W hW => Sl.cell ((Z426.chg hW Dj.nil).sl encII_ok) hx428 0 (by rfl)) ?_
              refine wH_take [5, 6, 7] [7, 6, 5, 4, 3, 2, 1, 0] [(42, .int .i64 (x400)), (41, .slice A319 (y315.1).length cap320), (40, .int .i64 (wr (x427.1 * 100)))] (by kernel_rfl) (qT (qT (qB (qT (qL (qB (qT (qB (qT (qL (qB (qT (qT qZ))))))))))))) (by kernel_rfl) ?_
              obtain ⟨x429, hx430, hm⟩ := bindE hm
              refine wH_idx (i := 8) (d := 43) (T := 25) (A := A319) (n := (y315.1).length) (cap := cap320) (kd := .i64) (m := x400) (by kernel_rfl) (qT (qT (qB (qT (qL (qB (qT (qB (qT (qL (qB (qT (qT qZ))))))))))))) (by kernel_rfl) (by kernel_rfl) sl25 ((F405.sl encII_ok).is hx430) ?_
              refine wH_take [9] [9, 8, 7, 6, 5, 4, 3, 2, 1, 0] [(44, .pointer (some (elA A319 2 (x400) 1)))] (by kernel_rfl) (qT (qT (qB (qT (qL (qB (qT (qB (qT (qL (qB (qT (qT qZ))))))))))))) (by kernel_rfl) ?_
              refine wH_load1 (i := 10) (d := 45) (T := 2) (ad := (elA A319 2 (x400) 1)) (v := .int .i64 (x429.2)) (by kernel_rfl) (qT (qT (qB (qT (qL (qB (qT (qB (qT (qL (qB (qT (qT qZ))))))))))))) (by kernel_rfl) (by kernel_rfl) vt2 (fun W hW => Sl.cell ((Z426.chg hW Dj.nil).sl encII_ok) hx430 1 (by rfl)) ?_
              refine wH_done (by kernel_rfl) ?_
              refine eX_tail ?_
              refine wS_pure 2 [(8, .int .i64 (wr ((wr (x427.1 * 100)) + x429.2))), (46, .int .i64 (wr ((wr (x427.1 * 100)) + x429.2)))] (by kernel_rfl) ?_
              refine wS_end (by rfl) ?_
              refine eX_then ?_
              refine cW_seq ?_
              refine cW_seq ?_
              refine cW_region ?_
              refine wS_pure 2 [(48, .int .i64 (wr ((wr (x427.1 * 100)) + x429.2))), (47, .slice (some ⟨b4, 0, none⟩) (l401).length (Int.toNat 10000))] (by kernel_rfl) ?_
              obtain ⟨x431, hx432, hm⟩ := bindE hm
              refine wS_idx (d := 49) (T := 86) (A := (some ⟨b4, 0, none⟩)) (n := (l401).length) (cap := (Int.toNat 10000)) (kd := .i64) (m := wr ((wr (x427.1 * 100)) + x429.2)) (by kernel_rfl) sl86 ((F404.sl encB_ok).is hx432) ?_
              refine wS_load1 (d := 50) (T := 4) (ad := (elA (some ⟨b4, 0, none⟩) 1 (wr ((wr (x427.1 * 100)) + x429.2)) 0)) (v := .bool (x431)) (by kernel_rfl) vt4 (Sl.cell (F404.sl encB_ok) hx432 0 (by rfl)) ?_
              refine wS_end (by rfl) ?_
              refine eX_then ?_
              refine cW_prune [(0, .slice A0 (l0).length cap0), (3, .slice (some ⟨b4, 0, none⟩) (l401).length (Int.toNat 10000)), (4, .int .i64 (x295)), (5, .slice A319 (y315.1).length cap320), (7, .int .i64 (x400)), (8, .int .i64 (wr ((wr (x427.1 * 100)) + x429.2))), (50, .bool (x431))] (by kernel_rfl) (by kernel_rfl) (fun a433 => ?_)
              refine cW_cond (t := x431) (by kernel_rfl) (fun hb434 => ?_) (fun hb434 => ?_)
              · have hm := condT hb434 hm
                refine cW_seq ?_
                refine cW_region ?_
                refine wS_pure 1 [(2, .bool (false))] (by kernel_rfl) ?_
                refine wS_end (by rfl) ?_
                refine eX_then ?_
                refine cW_ret ?_
                refine eX_then_ret ?_
                refine eX_block_ret ?_
                refine eX_then_ret ?_
                have hq : (some (Ctl.out (Sum.inr false)) : Option (Ctl (Int × (List (Bool))) (Sum ((List (Bool))) ((Bool))))) = some _ := hm
                replace hq := someE hq
                subst hq
                refine eX_outR hx411 (fun hr => ?_)
                subst hr
                refine eX_block_ret ?_
                refine eX_then_ret ?_
                refine eX_block_ret ?_
                refine eX_then_ret ?_
                have hq : (some (Ctl.out (Sum.inr false)) : Option (Ctl (Int × (List (Bool))) (Sum (Unit) ((Bool))))) = some _ := hm408
                replace hq := someE hq
                subst hq
                refine eX_outR hx305 (fun hr => ?_)
                subst hr
                refine eX_block_ret ?_
                refine eX_then_ret ?_
                refine eX_then_ret ?_
                have hq : (some false : Option ((Bool))) = some _ := hm302
                replace hq := someE hq
                subst hq
                refine eX_ret (vs := [.bool (false)]) [.tmp 2] (by rfl) ⟨by (show lkE _ _ _ = _); kernel_rfl, trivial⟩ ?_
                exact ⟨rfl, hB⟩
              · have hm := condF hb434 hm
                refine cW_skip ?_
                refine eX_then ?_
                refine cW_region ?_
                refine wS_pure 2 [(52, .int .i64 (wr ((wr (x427.1 * 100)) + x429.2))), (51, .slice (some ⟨b4, 0, none⟩) (l401).length (Int.toNat 10000))] (by kernel_rfl) ?_
                obtain ⟨x435, hx436, hm⟩ := bindE hm
                refine wS_idx (d := 53) (T := 86) (A := (some ⟨b4, 0, none⟩)) (n := (l401).length) (cap := (Int.toNat 10000)) (kd := .i64) (m := wr ((wr (x427.1 * 100)) + x429.2)) (by kernel_rfl) sl86 ((F404.sl encB_ok).is hx436) ?_
                refine wS_storeEl (x := x435) true (T := 4) (U := 4) (cap := (Int.toNat 10000)) (j := 0) (A := (some ⟨b4, 0, none⟩)) (v := .bool (true)) (vs := [.bool (true)]) (m := wr ((wr (x427.1 * 100)) + x429.2)) (by kernel_rfl) (by rfl) sz4 (by rfl) encB_ok F404 hx436 (by simp only [List.length_cons, List.length_nil]; omega) (by rfl) ?_
                intro w437 F438 hc439
                replace F403 := F403.chg hc439 (Dj.of L0 G6)
                replace F405 := F405.chg hc439 (D326).symm
                replace hB := hB.inS hc439 (inLow G6)
                replace hZ := Nat.le_trans hZ hc439.size
                clear F404
                rewrite [show (l401).length = (l401.set (Int.toNat (wr ((wr (x427.1 * 100)) + x429.2))) true).length from (List.length_set ..).symm]
                refine wS_end (by rfl) ?_
                refine eX_block ?_
                refine eX_then ?_
                refine cW_region ?_
                refine wS_pure 3 [(7, .int .i64 (wr (x400 + 1))), (34, .int .i64 (wr (x400 + 1))), (33, .int .i64 (x400))] (by kernel_rfl) ?_
                refine wS_end (by rfl) ?_
                have hq : (some (Ctl.next ((wr (x400 + 1), l401.set (Int.toNat (wr ((wr (x427.1 * 100)) + x429.2))) true))) : Option (Ctl (Int × (List (Bool))) (Sum ((List (Bool))) ((Bool))))) = some _ := hm
                replace hq := someE hq
                subst hq
                exact eX_next hx411 (fun hst => ⟨wr (x400 + 1), l401.set (Int.toNat (wr ((wr (x427.1 * 100)) + x429.2))) true, rfl, Fr.of hst (by kernel_rfl), F403, F438, F405, hB, hZ⟩)
            · have hm := condF hb412 hm
              refine cW_exit ?_
              refine eX_then_exit ?_
              have hq : (some (Ctl.out (Sum.inl l401)) : Option (Ctl (Int × (List (Bool))) (Sum ((List (Bool))) ((Bool))))) = some _ := hm
              replace hq := someE hq
              subst hq
              refine eX_outX hx411 (fun hr440 => ?_)
              replace hr440 := hr440.symm
              subst hr440
              refine eX_block_hit ?_
              exact eX_J (fun hst => ⟨l401, rfl, Fr.of hst (by kernel_rfl), F403, F404, hB, hZ⟩)
          · rintro a' w394 ⟨l395, hJ, hF396, F397, F398, hB, hZ⟩
            subst hJ
            refine Fr.goX hF396 (by kernel_rfl) ?_
            refine eX_block ?_
            refine eX_then ?_
            refine cW_region ?_
            refine wS_pure 3 [(4, .int .i64 (wr (x295 + 1))), (18, .int .i64 (wr (x295 + 1))), (17, .int .i64 (x295))] (by kernel_rfl) ?_
            refine wS_end (by rfl) ?_
            have hq : (some (Ctl.next ((wr (x295 + 1), l395))) : Option (Ctl (Int × (List (Bool))) (Sum (Unit) ((Bool))))) = some _ := hm
            replace hq := someE hq
            subst hq
            exact eX_next hx305 (fun hst => ⟨wr (x295 + 1), l395, rfl, Fr.of hst (by kernel_rfl), F397, F398, hB, hZ⟩)
      · have hm := condF hb306 hm
        refine cW_exit ?_
        refine eX_then_exit ?_
        have hq : (some (Ctl.out (Sum.inl (()))) : Option (Ctl (Int × (List (Bool))) (Sum (Unit) ((Bool))))) = some _ := hm
        replace hq := someE hq
        subst hq
        refine eX_outX hx305 (fun hr443 => ?_)
        replace hr443 := hr443.symm
        subst hr443
        refine eX_block_hit ?_
        exact eX_J (fun hst => ⟨rfl, Fr.of hst (by kernel_rfl), hB, hZ⟩)
    · rintro a' w292 ⟨hJ, hF293, hB, hZ⟩
      subst hJ
      refine Fr.goX hF293 (by kernel_rfl) ?_
      refine eX_then ?_
      refine cW_seq ?_
      refine cW_region ?_
      refine wS_pure 1 [(2, .bool (true))] (by kernel_rfl) ?_
      refine wS_end (by rfl) ?_
      refine eX_then ?_
      refine cW_ret ?_
      have hq : (some true : Option ((Bool))) = some _ := hm
      replace hq := someE hq
      subst hq
      refine eX_ret (vs := [.bool (true)]) [.tmp 2] (by rfl) ⟨by (show lkE _ _ _ = _); kernel_rfl, trivial⟩ ?_
      exact ⟨rfl, hB⟩

set_option maxRecDepth 100000 in
/-- laws.toPointSS -/
theorem c_laws_toPointSS {w0 : World} {l0 : List (List (Int × Int))} {A0 : Option Addr} {cap0 : Nat} {fp0 : List Nat} {r : (List (List (Int × Int)))} (hm : m_laws_toPointSS l0 = some r) (F0 : SlR 2 encII w0 fp0 A0 l0) :
    Calls Try.prog 60 #[.slice A0 (l0).length cap0] w0 fun e w' => ∃ A100 cap100 fp100 fr100, e = .returned (.slice A100 (r).length cap100) ∧ OwR 2 encII 25 34 w' fp100 fr100 A100 cap100 r ∧ (∀ x ∈ fp100 ++ fr100, w0.heap.size ≤ x) ∧ Chg [] w0 w' := by
  have L0 := F0.low
  have hB : Chg [] w0 w0 := Chg.refl _ _
  have hZ := Nat.le_refl w0.heap.size
  unfold m_laws_toPointSS at hm
  refine enterE (N := 23) Try.func60 (by rfl) Try.ntmps60 (by simp) [(0, .slice A0 (l0).length cap0)] (by rfl) (by kernel_rfl) (fun a => ?_)
  refine cW_seq ?_
  refine cW_region ?_
  refine wS_pure 1 [(2, .slice none 0 0)] (by kernel_rfl) ?_
  refine wS_end (by rfl) ?_
  refine eX_then ?_
  refine cW_seq ?_
  refine cW_region ?_
  refine wS_pure 2 [(6, .int .i64 (((l0).length : Int))), (5, .slice A0 (l0).length cap0)] (by kernel_rfl) ?_
  obtain ⟨_, hk2, hm⟩ := bindE hm
  replace hk2 := mkE hk2
  refine wS_makeR (T2 := 34) (k := 2) (enc := encII) (d := 7) (t := 55) (T := 25) (k1 := .i64) (k2 := .i64) (m := ((l0).length : Int)) (by kernel_rfl) el55 hk2.1 hk2.2 ?_
  intro b3 w4 G5 F6 hc7
  replace F0 := F0.chg hc7 Dj.nil
  replace hB := hB.inS hc7 inNil
  replace G5 := Nat.le_trans hZ G5
  replace G5 := low1 G5
  replace hZ := Nat.le_trans hZ hc7.size
  replace G5 := lowApp G5 lowNil
  refine wS_pure 1 [(3, .slice (some ⟨b3, 0, none⟩) (List.replicate (Int.toNat (((l0).length : Int))) ([] : List (Int × Int))).length (Int.toNat (((l0).length : Int))))] (by kernel_rfl) ?_
  refine wS_end (by rfl) ?_
  refine eX_then ?_
  refine cW_seq ?_
  refine cW_seq ?_
  refine cW_region ?_
  refine wS_pure 1 [(4, .int .i64 (0))] (by kernel_rfl) ?_
  refine wS_end (by rfl) ?_
  refine eX_then ?_
  obtain ⟨r109, hr110, hm⟩ := bindE hm
  have hm111 := hm
  refine cW_cut (fun a' w' => ∃ l88 : List (List (Int × Int)), ∃ A89 : Option Addr, ∃ cap90 : Nat, ∃ fp91 : List Nat, ∃ fr93 : List Nat, l88 = r109 ∧ Fr 23 [(3, .slice A89 (l88).length cap90)] a' ∧ OwR 2 encII 25 34 w' fp91 fr93 A89 cap90 l88 ∧ (∀ x ∈ (fp91 ++ fr93), w0.heap.size ≤ x) ∧ Chg [] w0 w' ∧ w0.heap.size ≤ w'.heap.size) ?_ ?_
  · refine cW_block ?_
    refine cW_loop _ (fun (s112 : (List (List (Int × Int))) × Int) a' w' => ∃ l98 : List (List (Int × Int)), ∃ A99 : Option Addr, ∃ cap100 : Nat, ∃ fp101 : List Nat, ∃ fr103 : List Nat, ∃ x104 : Int, (l98, x104) = s112 ∧ Fr 23 [(0, .slice A0 (l0).length cap0), (3, .slice A99 (l98).length cap100), (4, .int .i64 (x104))] a' ∧ SlR 2 encII w' fp0 A0 l0 ∧ OwR 2 encII 25 34 w' fp101 fr103 A99 cap100 l98 ∧ (∀ x ∈ (fp101 ++ fr103), w0.heap.size ≤ x) ∧ Chg [] w0 w' ∧ w0.heap.size ≤ w'.heap.size) hr110 (fun hst => ⟨List.replicate (Int.toNat (((l0).length : Int))) ([] : List (Int × Int)), (some ⟨b3, 0, none⟩), (Int.toNat (((l0).length : Int))), [b3], [], 0, rfl, Fr.of hst (by kernel_rfl), F0, F6, G5, hB, hZ⟩) ?_
    rintro _ c113 a' w97 ⟨l98, A99, cap100, fp101, fr103, x104, rfl, hF105, F106, F107, G108, hB, hZ⟩ hx114
    refine Fr.goOn hF105 (by kernel_rfl) ?_
    have hm := hx114
    unfold m_laws_toPointSS_s1 at hm
    refine cW_seq ?_
    refine cW_seq ?_
    refine cW_region ?_
    refine wS_pure 4 [(11, .bool (decide (x104 < (((l0).length : Int))))), (10, .int .i64 (((l0).length : Int))), (9, .slice A0 (l0).length cap0), (8, .int .i64 (x104))] (by kernel_rfl) ?_
    refine wS_end (by rfl) ?_
    refine eX_then ?_
    refine cW_cond (t := decide (x104 < (((l0).length : Int)))) (by kernel_rfl) (fun hb115 => ?_) (fun hb115 => ?_)
    · have hm := condT hb115 hm
      refine cW_skip ?_
      refine eX_then ?_
      refine cW_seq ?_
      refine cW_block ?_
      refine cW_region ?_
      refine wS_pure 4 [(17, .int .i64 (x104)), (16, .slice A0 (l0).length cap0), (15, .int .i64 (x104)), (14, .slice A99 (l98).length cap100)] (by kernel_rfl) ?_
      obtain ⟨x116, hx117, hm⟩ := bindE hm
      refine wS_idx (d := 18) (T := 52) (A := A0) (n := (l0).length) (cap := cap0) (kd := .i64) (m := x104) (by kernel_rfl) sl52 (F106.is hx117) ?_
      obtain ⟨A118, cap119, hc121, F120, K122⟩ := SlR.row F106 hx117
      refine wS_load1 (d := 19) (T := 22) (ad := (elA A0 1 (x104) 0)) (v := .slice A118 (x116).length cap119) (by kernel_rfl) vt22 hc121 ?_
      obtain ⟨y124, hy125, hm⟩ := bindE hm
      refine wS_calls (d := 20) (f := 22) (vs := [.slice A118 (x116).length cap119]) (by kernel_rfl) ent22 (c_laws_toPointS hy125 F120) ?_
      rintro _ w126 ⟨A128, cap129, fp130, rfl, F131, G132, hc127⟩
      have D135 : Dj (fp101 ++ fr103) fp130 := Dj.of F107.low G132
      replace F106 := F106.chg hc127 Dj.nil
      replace F107 := F107.chg hc127 Dj.nil
      replace F120 := F120.chg hc127 Dj.nil
      replace hB := hB.inS hc127 inNil
      replace G132 := low_le hZ G132
      replace hZ := Nat.le_trans hZ hc127.size
      refine ⟨.slice A128 (y124).length cap129, rfl, ?_⟩
      obtain ⟨x136, hx137, hm⟩ := bindE hm
      refine wS_idx (d := 21) (T := 55) (A := A99) (n := (l98).length) (cap := cap100) (kd := .i64) (m := x104) (by kernel_rfl) sl55 ((F107.slr encII_ok).is hx137) ?_
      refine wS_storeRow (k := 2) (enc := encII) (x := x136) (l := y124) (T := 25) (U := 25) (cap := cap100) (c := cap129) (A := A99) (B := A128) (m := x104) (by kernel_rfl) sz25 F107 F131 D135 hx137 ?_
      intro w141 F142 hc143
      have G145 := lowApp (low_inl G108) (lowApp (low_inr G108) G132)
      have Dm146 := Dj.inl D135.symm
      replace F106 := F106.chg hc143 (Dj.inl (Dj.of L0 G108))
      replace F120 := F120.chg hc143 (Dj.inl (Dj.of L0 G108))
      replace F131 := F131.chg hc143 (Dj.inl (D135).symm)
      replace hB := hB.inS hc143 (memS_inl (inLow G108))
      replace hZ := Nat.le_trans hZ hc143.size
      replace F131 := (F131.sl encII_ok)
      rewrite [show (l98).length = (l98.set (Int.toNat x104) y124).length from (List.length_set ..).symm]
      refine wS_end (by rfl) ?_
      refine eX_block ?_
      refine eX_then ?_
      refine cW_region ?_
      refine wS_pure 3 [(4, .int .i64 (wr (x104 + 1))), (13, .int .i64 (wr (x104 + 1))), (12, .int .i64 (x104))] (by kernel_rfl) ?_
      refine wS_end (by rfl) ?_
      have hq : (some (Ctl.next ((l98.set (Int.toNat x104) y124, wr (x104 + 1)))) : Option (Ctl ((List (List (Int × Int))) × Int) ((List (List (Int × Int)))))) = some _ := hm
      replace hq := someE hq
      subst hq
      exact eX_next hx114 (fun hst => ⟨l98.set (Int.toNat x104) y124, A99, cap100, fp101, (fr103 ++ fp130), wr (x104 + 1), rfl, Fr.of hst (by kernel_rfl), F106, F142, G145, hB, hZ⟩)
    · have hm := condF hb115 hm
      refine cW_exit ?_
      refine eX_then_exit ?_
      have hq : (some (Ctl.out l98) : Option (Ctl ((List (List (Int × Int))) × Int) ((List (List (Int × Int)))))) = some _ := hm
      replace hq := someE hq
      subst hq
      refine eX_outX hx114 (fun hr147 => ?_)
      replace hr147 := hr147.symm
      subst hr147
      refine eX_block_hit ?_
      exact eX_J (fun hst => ⟨l98, A99, cap100, fp101, fr103, rfl, Fr.of hst (by kernel_rfl), F107, G108, hB, hZ⟩)
  · rintro a' w87 ⟨l88, A89, cap90, fp91, fr93, hJ, hF94, F95, G96, hB, hZ⟩
    subst hJ
    refine Fr.goX hF94 (by kernel_rfl) ?_
    refine eX_then ?_
    refine cW_seq ?_
    refine cW_region ?_
    refine wS_pure 2 [(2, .slice A89 (l88).length cap90), (22, .slice A89 (l88).length cap90)] (by kernel_rfl) ?_
    refine wS_end (by rfl) ?_
    refine eX_then ?_
    refine cW_ret ?_
    have hq : (some l88 : Option ((List (List (Int × Int))))) = some _ := hm
    replace hq := someE hq
    subst hq
    refine eX_ret (vs := [.slice A89 (l88).length cap90]) [.tmp 2] (by rfl) ⟨by (show lkE _ _ _ = _); kernel_rfl, trivial⟩ ?_
    exact ⟨A89, cap90, fp91, fr93, rfl, F95, G96, hB⟩

set_option maxRecDepth 100000 in
/-- impl.AreApart -/
theorem c_impl_AreApart {w0 : World} {l0 : List (List (Int × Int))} {A0 : Option Addr} {cap0 : Nat} {fp0 : List Nat} {r : (Bool)} (hm : m_impl_AreApart l0 = some r) (F0 : SlR 2 encII w0 fp0 A0 l0) :
    Calls Try.prog 61 #[.slice A0 (l0).length cap0] w0 fun e w' => e = .returned (.bool (r)) ∧ Chg [] w0 w' := by
  have L0 := F0.low
  have hB : Chg [] w0 w0 := Chg.refl _ _
  have hZ := Nat.le_refl w0.heap.size
  unfold m_impl_AreApart at hm
  refine enterE (N := 36) Try.func61 (by rfl) Try.ntmps61 (by simp) [(0, .slice A0 (l0).length cap0)] (by rfl) (by kernel_rfl) (fun a => ?_)
  refine cW_seq ?_
  refine cW_region ?_
  refine wS_pure 1 [(2, .bool (false))] (by kernel_rfl) ?_
  refine wS_end (by rfl) ?_
  refine eX_then ?_
  refine cW_seq ?_
  refine cW_region ?_
  refine wS_bs0 (α := Int × Int) (enc := encII) (d := 8) (t := 25) (T := 34) (by kernel_rfl) el25 ?_
  intro b2 w3 G4 F5 hc6
  replace F0 := F0.chg hc6 Dj.nil
  replace hB := hB.inS hc6 inNil
  replace G4 := Nat.le_trans hZ G4
  replace G4 := low1 G4
  replace hZ := Nat.le_trans hZ hc6.size
  refine wS_pure 1 [(3, .slice (some ⟨b2, 0, none⟩) (([] : List (Int × Int))).length 0)] (by kernel_rfl) ?_
  refine wS_end (by rfl) ?_
  refine eX_then ?_
  refine cW_seq ?_
  refine cW_seq ?_
  refine cW_region ?_
  refine wS_pure 3 [(11, .bool (decide ((((l0).length : Int)) > 20))), (10, .int .i64 (((l0).length : Int))), (9, .slice A0 (l0).length cap0)] (by kernel_rfl) ?_
  refine wS_end (by rfl) ?_
  refine eX_then ?_
  refine cW_cond (t := decide ((((l0).length : Int)) > 20)) (by kernel_rfl) (fun hb8 => ?_) (fun hb8 => ?_)
  · have hm := condT hb8 hm
    refine cW_seq ?_
    refine cW_region ?_
    refine wS_pure 1 [(2, .bool (false))] (by kernel_rfl) ?_
    refine wS_end (by rfl) ?_
    refine eX_then ?_
    refine cW_ret ?_
    refine eX_then_ret ?_
    have hq : (some false : Option ((Bool))) = some _ := hm
    replace hq := someE hq
    subst hq
    refine eX_ret (vs := [.bool (false)]) [.tmp 2] (by rfl) ⟨by (show lkE _ _ _ = _); kernel_rfl, trivial⟩ ?_
    exact ⟨rfl, hB⟩
  · have hm := condF hb8 hm
    refine cW_skip ?_
    refine eX_then ?_
    refine cW_seq ?_
    refine cW_seq ?_
    refine cW_region ?_
    refine wS_pure 3 [(14, .int .i64 (0)), (13, .int .i64 (((l0).length : Int))), (12, .slice A0 (l0).length cap0)] (by kernel_rfl) ?_
    refine wS_end (by rfl) ?_
    refine eX_then ?_
    obtain ⟨r108, hr109, hm⟩ := bindE hm
    have hm110 := hm
    refine cW_cut (fun a' w' => ∃ l89 : List (Int × Int), ∃ A90 : Option Addr, ∃ cap91 : Nat, ∃ fp92 : List Nat, Sum.inl l89 = r108 ∧ Fr 36 [(3, .slice A90 (l89).length cap91)] a' ∧ Ow 2 encII 34 w' fp92 A90 cap91 l89 ∧ (∀ x ∈ fp92, w0.heap.size ≤ x) ∧ Chg [] w0 w' ∧ w0.heap.size ≤ w'.heap.size) ?_ ?_
    · refine cW_block ?_
      refine cW_loop _ (fun (s111 : (List (Int × Int)) × Int) a' w' => ∃ l98 : List (Int × Int), ∃ A99 : Option Addr, ∃ cap100 : Nat, ∃ fp101 : List Nat, ∃ x103 : Int, (l98, x103) = s111 ∧ Fr 36 [(3, .slice A99 (l98).length cap100), (12, .slice A0 (l0).length cap0), (13, .int .i64 (((l0).length : Int))), (14, .int .i64 (x103))] a' ∧ SlR 2 encII w' fp0 A0 l0 ∧ Ow 2 encII 34 w' fp101 A99 cap100 l98 ∧ (∀ x ∈ fp101, w0.heap.size ≤ x) ∧ Chg [] w0 w' ∧ w0.heap.size ≤ w'.heap.size) hr109 (fun hst => ⟨([] : List (Int × Int)), (some ⟨b2, 0, none⟩), 0, [b2], 0, rfl, Fr.of hst (by kernel_rfl), F0, F5, G4, hB, hZ⟩) ?_
      rintro _ c112 a' w97 ⟨l98, A99, cap100, fp101, x103, rfl, hF104, F105, F106, G107, hB, hZ⟩ hx113
      refine Fr.goOn hF104 (by kernel_rfl) ?_
      have hm := hx113
      unfold m_impl_AreApart_s1 at hm
      refine cW_seq ?_
      refine cW_region ?_
      refine wS_pure 1 [(15, .bool (decide (x103 < (((l0).length : Int)))))] (by kernel_rfl) ?_
      refine wS_end (by rfl) ?_
      refine eX_then ?_
      refine cW_seq ?_
      refine cW_cond (t := decide (x103 < (((l0).length : Int)))) (by kernel_rfl) (fun hb114 => ?_) (fun hb114 => ?_)
      · have hm := condT hb114 hm
        refine cW_skip ?_
        refine eX_then ?_
        refine cW_seq ?_
        refine cW_block ?_
        refine cW_seq ?_
        refine cW_region ?_
        obtain ⟨x115, hx116, hm⟩ := bindE hm
        refine wS_idx (d := 16) (T := 55) (A := A0) (n := (l0).length) (cap := cap0) (kd := .i64) (m := x103) (by kernel_rfl) sl55 (F105.is hx116) ?_
        obtain ⟨A117, cap118, hc120, F119, K121⟩ := SlR.row F105 hx116
        refine wS_load1 (d := 17) (T := 25) (ad := (elA A0 1 (x103) 0)) (v := .slice A117 (x115).length cap118) (by kernel_rfl) vt25 hc120 ?_
        refine wS_pure 1 [(5, .slice A117 (x115).length cap118)] (by kernel_rfl) ?_
        refine wS_end (by rfl) ?_
        refine eX_then ?_
        refine cW_seq ?_
        refine cW_region ?_
        refine wS_pure 1 [(19, .slice A117 (x115).length cap118)] (by kernel_rfl) ?_
        obtain ⟨y123, hy124, hm⟩ := bindE hm
        refine wS_calls (d := 20) (f := 96) (vs := [.slice A117 (x115).length cap118]) (by kernel_rfl) ent96 (c_impl_through hy124 F119 K121) ?_
        rintro _ w125 ⟨A127, cap128, fp129, rfl, F130, G131, hc126⟩
        have D134 : Dj fp101 fp129 := Dj.of F106.low G131
        replace F105 := F105.chg hc126 Dj.nil
        replace F106 := F106.chg hc126 Dj.nil
        replace F119 := F119.chg hc126 Dj.nil
        replace hB := hB.inS hc126 inNil
        replace G131 := low_le hZ G131
        replace hZ := Nat.le_trans hZ hc126.size
        refine ⟨.tuple #[.slice A127 (y123.1).length cap128, .bool (y123.2)], rfl, ?_⟩
        refine wS_pure 5 [(7, .bool (y123.2)), (6, .slice A127 (y123.1).length cap128), (22, .bool (y123.2)), (21, .slice A127 (y123.1).length cap128), (18, .tuple #[.slice A127 (y123.1).length cap128, .bool (y123.2)])] (by kernel_rfl) ?_
        refine wS_end (by rfl) ?_
        refine eX_then ?_
        refine cW_seq ?_
        refine cW_seq ?_
        refine cW_region ?_
        refine wS_pure 2 [(24, .bool (!y123.2)), (23, .bool (y123.2))] (by kernel_rfl) ?_
        refine wS_end (by rfl) ?_
        refine eX_then ?_
        refine cW_cond (t := !y123.2) (by kernel_rfl) (fun hb135 => ?_) (fun hb135 => ?_)
        · have hm := condT hb135 hm
          refine cW_seq ?_
          refine cW_region ?_
          refine wS_pure 1 [(2, .bool (false))] (by kernel_rfl) ?_
          refine wS_end (by rfl) ?_
          refine eX_then ?_
          refine cW_ret ?_
          refine eX_then_ret ?_
          refine eX_block_ret ?_
          refine eX_then_ret ?_
          have hq : (some (Ctl.out (Sum.inr false)) : Option (Ctl ((List (Int × Int)) × Int) (Sum ((List (Int × Int))) ((Bool))))) = some _ := hm
          replace hq := someE hq
          subst hq
          refine eX_outR hx113 (fun hr => ?_)
          subst hr
          refine eX_block_ret ?_
          refine eX_then_ret ?_
          refine eX_then_ret ?_
          have hq : (some false : Option ((Bool))) = some _ := hm110
          replace hq := someE hq
          subst hq
          refine eX_ret (vs := [.bool (false)]) [.tmp 2] (by rfl) ⟨by (show lkE _ _ _ = _); kernel_rfl, trivial⟩ ?_
          exact ⟨rfl, hB⟩
        · have hm := condF hb135 hm
          refine cW_skip ?_
          refine eX_then ?_
          refine cW_region ?_
          refine wS_pure 2 [(26, .slice A127 (y123.1).length cap128), (25, .slice A99 (l98).length cap100)] (by kernel_rfl) ?_
          obtain ⟨_, hk136, hm⟩ := bindE hm
          replace hk136 := apE hk136
          refine wS_appendAny (enc := encII) (l := (l98 : List (Int × Int))) (l2 := (y123.1 : List (Int × Int))) (d := 27) (t := 25) (T := 34) (A := A99) (A2 := A127) (cap := cap100) (cap2 := cap128) (by kernel_rfl) el25 encII_ok F106 (F130.sl encII_ok) hk136 ?_
          intro w137 fp138 A139 cap140 F141 hc142 hp143
          have G145 := low_ap G107 hZ hp143
          have D146 : Dj fp129 fp138 := Dj.ap (D134).symm F130.low hp143
          replace F105 := F105.chg hc142 (Dj.of L0 G107)
          replace F119 := F119.chg hc142 (Dj.of L0 G107)
          replace F130 := F130.chg hc142 (Dj.of L0 G107) (D134).symm
          replace hB := hB.inS hc142 (inLow G107)
          replace hZ := Nat.le_trans hZ hc142.size
          refine wS_pure 1 [(3, .slice A139 (l98 ++ y123.1).length cap140)] (by kernel_rfl) ?_
          refine wS_end (by rfl) ?_
          refine eX_block ?_
          refine eX_then ?_
          refine cW_region ?_
          refine wS_pure 2 [(14, .int .i64 (wr (x103 + 1))), (28, .int .i64 (wr (x103 + 1)))] (by kernel_rfl) ?_
          refine wS_end (by rfl) ?_
          have hq : (some (Ctl.next ((l98 ++ y123.1, wr (x103 + 1)))) : Option (Ctl ((List (Int × Int)) × Int) (Sum ((List (Int × Int))) ((Bool))))) = some _ := hm
          replace hq := someE hq
          subst hq
          exact eX_next hx113 (fun hst => ⟨l98 ++ y123.1, A139, cap140, fp138, wr (x103 + 1), rfl, Fr.of hst (by kernel_rfl), F105, F141, G145, hB, hZ⟩)
      · have hm := condF hb114 hm
        refine cW_exit ?_
        refine eX_then_exit ?_
        have hq : (some (Ctl.out (Sum.inl l98)) : Option (Ctl ((List (Int × Int)) × Int) (Sum ((List (Int × Int))) ((Bool))))) = some _ := hm
        replace hq := someE hq
        subst hq
        refine eX_outX hx113 (fun hr147 => ?_)
        replace hr147 := hr147.symm
        subst hr147
        refine eX_block_hit ?_
        exact eX_J (fun hst => ⟨l98, A99, cap100, fp101, rfl, Fr.of hst (by kernel_rfl), F106, G107, hB, hZ⟩)
    · rintro a' w88 ⟨l89, A90, cap91, fp92, hJ, hF94, F95, G96, hB, hZ⟩
      subst hJ
      refine Fr.goX hF94 (by kernel_rfl) ?_
      refine eX_then ?_
      refine cW_seq ?_
      refine cW_region ?_
      refine wS_pure 1 [(29, .slice A90 (l89).length cap91)] (by kernel_rfl) ?_
      obtain ⟨y148, hy149, hm⟩ := bindE hm
      refine wS_calls (d := 30) (f := 97) (vs := [.slice A90 (l89).length cap91]) (by kernel_rfl) ent97 (c_slices_Clone_impl_Point_impl_Point hy149 (F95.sl encII_ok)) ?_
      rintro _ w150 ⟨A152, cap153, fp154, rfl, F155, G156, hc151⟩
      have D159 : Dj fp92 fp154 := Dj.of F95.low G156
      replace F95 := F95.chg hc151 Dj.nil
      replace hB := hB.inS hc151 inNil
      replace G156 := low_le hZ G156
      replace hZ := Nat.le_trans hZ hc151.size
      refine ⟨.slice A152 (y148).length cap153, rfl, ?_⟩
      obtain ⟨y160, hy161, hm⟩ := bindE hm
      refine wS_calls (d := 31) (f := 74) (vs := [.slice A152 (y148).length cap153]) (by kernel_rfl) ent74 (c_impl_sorted hy161 (F155.sl encII_ok)) ?_
      rintro _ w162 ⟨A164, cap165, fp166, rfl, F167, G168, hc163⟩
      have D171 : Dj fp92 fp166 := Dj.of F95.low G168
      have D172 : Dj fp154 fp166 := Dj.of F155.low G168
      replace F95 := F95.chg hc163 Dj.nil
      replace F155 := F155.chg hc163 Dj.nil
      replace hB := hB.inS hc163 inNil
      replace G168 := low_le hZ G168
      replace hZ := Nat.le_trans hZ hc163.size
      refine ⟨.slice A164 (y160).length cap165, rfl, ?_⟩
      refine wS_pure 5 [(2, .bool ((((y160).length : Int)) == (((l89).length : Int)))), (35, .bool ((((y160).length : Int)) == (((l89).length : Int)))), (34, .int .i64 (((l89).length : Int))), (33, .slice A90 (l89).length cap91), (32, .int .i64 (((y160).length : Int)))] (by kernel_rfl) ?_
      refine wS_end (by rfl) ?_
      refine eX_then ?_
      refine cW_ret ?_
      have hq : (some ((((y160).length : Int)) == (((l89).length : Int))) : Option ((Bool))) = some _ := hm
      replace hq := someE hq
      subst hq
      refine eX_ret (vs := [.bool ((((y160).length : Int)) == (((l89).length : Int)))]) [.tmp 2] (by rfl) ⟨by (show lkE _ _ _ = _); kernel_rfl, trivial⟩ ?_
      exact ⟨rfl, hB⟩

set_option maxRecDepth 100000 in
/-- laws.eqPointSS -/
theorem c_laws_eqPointSS {w0 : World} {l0 : List (List (Int × Int))} {A0 : Option Addr} {cap0 : Nat} {fp0 : List Nat} {l1 : List (List (Int × Int))} {A1 : Option Addr} {cap1 : Nat} {fp1 : List Nat} {r : (Bool)} (hm : m_laws_eqPointSS l0 l1 = some r) (F0 : SlR 2 encII w0 fp0 A0 l0) (F1 : SlR 2 encII w0 fp1 A1 l1) :
    Calls Try.prog 62 #[.slice A0 (l0).length cap0, .slice A1 (l1).length cap1] w0 fun e w' => e = .returned (.bool (r)) ∧ Chg [] w0 w' := by
  have L0 := F0.low
  have L1 := F1.low
  have hB : Chg [] w0 w0 := Chg.refl _ _
  have hZ := Nat.le_refl w0.heap.size
  unfold m_laws_eqPointSS at hm
  refine enterE (N := 27) Try.func62 (by rfl) Try.ntmps62 (by simp) [(0, .slice A0 (l0).length cap0), (1, .slice A1 (l1).length cap1)] (by rfl) (by kernel_rfl) (fun a => ?_)
  refine cW_seq ?_
  refine cW_region ?_
  refine wS_pure 1 [(4, .bool (false))] (by kernel_rfl) ?_
  refine wS_end (by rfl) ?_
  refine eX_then ?_
  refine cW_seq ?_
  refine cW_seq ?_
  refine cW_region ?_
  refine wS_pure 5 [(10, .bool ((((l0).length : Int)) != (((l1).length : Int)))), (9, .int .i64 (((l1).length : Int))), (8, .slice A1 (l1).length cap1), (7, .int .i64 (((l0).length : Int))), (6, .slice A0 (l0).length cap0)] (by kernel_rfl) ?_
  refine wS_end (by rfl) ?_
  refine eX_then ?_
  refine cW_cond (t := (((l0).length : Int)) != (((l1).length : Int))) (by kernel_rfl) (fun hb3 => ?_) (fun hb3 => ?_)
  · have hm := condT hb3 hm
    refine cW_seq ?_
    refine cW_region ?_
    refine wS_pure 1 [(4, .bool (false))] (by kernel_rfl) ?_
    refine wS_end (by rfl) ?_
    refine eX_then ?_
    refine cW_ret ?_
    refine eX_then_ret ?_
    have hq : (some false : Option ((Bool))) = some _ := hm
    replace hq := someE hq
    subst hq
    refine eX_ret (vs := [.bool (false)]) [.tmp 4] (by rfl) ⟨by (show lkE _ _ _ = _); kernel_rfl, trivial⟩ ?_
    exact ⟨rfl, hB⟩
  · have hm := condF hb3 hm
    refine cW_skip ?_
    refine eX_then ?_
    refine cW_seq ?_
    refine cW_seq ?_
    refine cW_region ?_
    refine wS_pure 1 [(5, .int .i64 (0))] (by kernel_rfl) ?_
    refine wS_end (by rfl) ?_
    refine eX_then ?_
    obtain ⟨r118, hr119, hm⟩ := bindE hm
    have hm120 := hm
    refine cW_cut (fun a' w' => Sum.inl (()) = r118 ∧ Fr 27 [] a' ∧ Chg [] w0 w' ∧ w0.heap.size ≤ w'.heap.size) ?_ ?_
    · refine cW_block ?_
      refine cW_loop _ (fun (s121 : Int) a' w' => ∃ x114 : Int, x114 = s121 ∧ Fr 27 [(0, .slice A0 (l0).length cap0), (1, .slice A1 (l1).length cap1), (5, .int .i64 (x114))] a' ∧ SlR 2 encII w' fp0 A0 l0 ∧ SlR 2 encII w' fp1 A1 l1 ∧ Chg [] w0 w' ∧ w0.heap.size ≤ w'.heap.size) hr119 (fun hst => ⟨0, rfl, Fr.of hst (by kernel_rfl), F0, F1, hB, hZ⟩) ?_
      rintro _ c122 a' w113 ⟨x114, rfl, hF115, F116, F117, hB, hZ⟩ hx123
      refine Fr.goOn hF115 (by kernel_rfl) ?_
      have hm := hx123
      unfold m_laws_eqPointSS_s1 at hm
      refine cW_seq ?_
      refine cW_seq ?_
      refine cW_region ?_
      refine wS_pure 4 [(14, .bool (decide (x114 < (((l0).length : Int))))), (13, .int .i64 (((l0).length : Int))), (12, .slice A0 (l0).length cap0), (11, .int .i64 (x114))] (by kernel_rfl) ?_
      refine wS_end (by rfl) ?_
      refine eX_then ?_
      refine cW_cond (t := decide (x114 < (((l0).length : Int)))) (by kernel_rfl) (fun hb124 => ?_) (fun hb124 => ?_)
      · have hm := condT hb124 hm
        refine cW_skip ?_
        refine eX_then ?_
        refine cW_seq ?_
        refine cW_block ?_
        refine cW_seq ?_
        refine cW_drawnTail [] 8 (by kernel_rfl) (by kernel_rfl) (fun w149 hc150 => ?_)
        replace F116 := F116.chg hc150 Dj.nil
        replace F117 := F117.chg hc150 Dj.nil
        replace hB := hB.inS hc150 inNil
        replace hZ := Nat.le_trans hZ hc150.size
        have hS := Chg.refl [] w149
        have Z151 := F116
        have Z152 := F117
        refine wH_take [0, 1] [1, 0] [(18, .int .i64 (x114)), (17, .slice A0 (l0).length cap0)] (by kernel_rfl) (qT (qT (qB (qT (qL (qB (qT (qT qZ)))))))) (by kernel_rfl) ?_
        obtain ⟨x153, hx154, hm⟩ := bindE hm
        refine wH_idx (i := 2) (d := 19) (T := 55) (A := A0) (n := (l0).length) (cap := cap0) (kd := .i64) (m := x114) (by kernel_rfl) (qT (qT (qB (qT (qL (qB (qT (qT qZ)))))))) (by kernel_rfl) (by kernel_rfl) sl55 (F116.is hx154) ?_
        obtain ⟨A155, cap156, hc158, F157, K159⟩ := SlR.row Z151 hx154
        refine wH_load1 (i := 3) (d := 20) (T := 25) (ad := (elA A0 1 (x114) 0)) (v := .slice A155 (x153).length cap156) (by kernel_rfl) (qT (qT (qB (qT (qL (qB (qT (qT qZ)))))))) (by kernel_rfl) (by kernel_rfl) vt25 (fun W hW => hW.keep hc158) ?_
        refine wH_take [4, 5] [5, 4, 3, 2, 1, 0] [(22, .int .i64 (x114)), (21, .slice A1 (l1).length cap1)] (by kernel_rfl) (qT (qT (qB (qT (qL (qB (qT (qT qZ)))))))) (by kernel_rfl) ?_
        obtain ⟨x161, hx162, hm⟩ := bindE hm
        refine wH_idx (i := 6) (d := 23) (T := 55) (A := A1) (n := (l1).length) (cap := cap1) (kd := .i64) (m := x114) (by kernel_rfl) (qT (qT (qB (qT (qL (qB (qT (qT qZ)))))))) (by kernel_rfl) (by kernel_rfl) sl55 (F117.is hx162) ?_
        obtain ⟨A163, cap164, hc166, F165, K167⟩ := SlR.row Z152 hx162
        refine wH_load1 (i := 7) (d := 24) (T := 25) (ad := (elA A1 1 (x114) 0)) (v := .slice A163 (x161).length cap164) (by kernel_rfl) (qT (qT (qB (qT (qL (qB (qT (qT qZ)))))))) (by kernel_rfl) (by kernel_rfl) vt25 (fun W hW => hW.keep hc166) ?_
        refine wH_done (by kernel_rfl) ?_
        refine eX_tail ?_
        obtain ⟨y169, hy170, hm⟩ := bindE hm
        refine wS_calls (d := 25) (f := 24) (vs := [.slice A155 (x153).length cap156, .slice A163 (x161).length cap164]) (by kernel_rfl) ent24 (c_laws_eqPointS hy170 F157 F165) ?_
        rintro _ w171 ⟨rfl, hc172⟩
        replace F116 := F116.chg hc172 Dj.nil
        replace F117 := F117.chg hc172 Dj.nil
        replace F157 := F157.chg hc172 Dj.nil
        replace F165 := F165.chg hc172 Dj.nil
        replace hB := hB.inS hc172 inNil
        replace hZ := Nat.le_trans hZ hc172.size
        refine ⟨.bool (y169), rfl, ?_⟩
        refine wS_pure 1 [(26, .bool (!y169))] (by kernel_rfl) ?_
        refine wS_end (by rfl) ?_
        refine eX_then ?_
        refine cW_cond (t := !y169) (by kernel_rfl) (fun hb173 => ?_) (fun hb173 => ?_)
        · have hm := condT hb173 hm
          refine cW_seq ?_
          refine cW_region ?_
          refine wS_pure 1 [(4, .bool (false))] (by kernel_rfl) ?_
          refine wS_end (by rfl) ?_
          refine eX_then ?_
          refine cW_ret ?_
          refine eX_block_ret ?_
          refine eX_then_ret ?_
          have hq : (some (Ctl.out (Sum.inr false)) : Option (Ctl (Int) (Sum (Unit) ((Bool))))) = some _ := hm
          replace hq := someE hq
          subst hq
          refine eX_outR hx123 (fun hr => ?_)
          subst hr
          refine eX_block_ret ?_
          refine eX_then_ret ?_
          refine eX_then_ret ?_
          have hq : (some false : Option ((Bool))) = some _ := hm120
          replace hq := someE hq
          subst hq
          refine eX_ret (vs := [.bool (false)]) [.tmp 4] (by rfl) ⟨by (show lkE _ _ _ = _); kernel_rfl, trivial⟩ ?_
          exact ⟨rfl, hB⟩
        · have hm := condF hb173 hm
          refine cW_skip ?_
          refine eX_block ?_
          refine eX_then ?_
          refine cW_region ?_
          refine wS_pure 3 [(5, .int .i64 (wr (x114 + 1))), (16, .int .i64 (wr (x114 + 1))), (15, .int .i64 (x114))] (by kernel_rfl) ?_
          refine wS_end (by rfl) ?_
          have hq : (some (Ctl.next (wr (x114 + 1))) : Option (Ctl (Int) (Sum (Unit) ((Bool))))) = some _ := hm
          replace hq := someE hq
          subst hq
          exact eX_next hx123 (fun hst => ⟨wr (x114 + 1), rfl, Fr.of hst (by kernel_rfl), F116, F117, hB, hZ⟩)
      · have hm := condF hb124 hm
        refine cW_exit ?_
        refine eX_then_exit ?_
        have hq : (some (Ctl.out (Sum.inl (()))) : Option (Ctl (Int) (Sum (Unit) ((Bool))))) = some _ := hm
        replace hq := someE hq
        subst hq
        refine eX_outX hx123 (fun hr174 => ?_)
        replace hr174 := hr174.symm
        subst hr174
        refine eX_block_hit ?_
        exact eX_J (fun hst => ⟨rfl, Fr.of hst (by kernel_rfl), hB, hZ⟩)
    · rintro a' w111 ⟨hJ, hF112, hB, hZ⟩
      subst hJ
      refine Fr.goX hF112 (by kernel_rfl) ?_
      refine eX_then ?_
      refine cW_seq ?_
      refine cW_region ?_
      refine wS_pure 1 [(4, .bool (true))] (by kernel_rfl) ?_
      refine wS_end (by rfl) ?_
      refine eX_then ?_
      refine cW_ret ?_
      have hq : (some true : Option ((Bool))) = some _ := hm
      replace hq := someE hq
      subst hq
      refine eX_ret (vs := [.bool (true)]) [.tmp 4] (by rfl) ⟨by (show lkE _ _ _ = _); kernel_rfl, trivial⟩ ?_
      exact ⟨rfl, hB⟩

set_option maxRecDepth 100000 in
/-- laws.FnExactAreApart -/
theorem c_laws_FnExactAreApart {w0 : World} {l0 : List (List (Int × Int))} {A0 : Option Addr} {cap0 : Nat} {fp0 : List Nat} {r : (Bool)} (hm : m_laws_FnExactAreApart l0 = some r) (F0 : SlR 2 encII w0 fp0 A0 l0) :
    Calls Try.prog 16 #[.slice A0 (l0).length cap0] w0 fun e w' => e = .returned (.bool (r)) ∧ Chg [] w0 w' := by
  have L0 := F0.low
  have hB : Chg [] w0 w0 := Chg.refl _ _
  have hZ := Nat.le_refl w0.heap.size
  unfold m_laws_FnExactAreApart at hm
  refine enterE (N := 27) Try.func16 (by rfl) Try.ntmps16 (by simp) [(0, .slice A0 (l0).length cap0)] (by rfl) (by kernel_rfl) (fun a => ?_)
  refine cW_seq ?_
  refine cW_region ?_
  refine wS_pure 1 [(2, .bool (false))] (by kernel_rfl) ?_
  refine wS_end (by rfl) ?_
  refine eX_then ?_
  refine cW_seq ?_
  refine cW_region ?_
  refine wS_pure 1 [(3, .int .i64 (1048576))] (by kernel_rfl) ?_
  refine wS_end (by rfl) ?_
  refine eX_then ?_
  refine cW_seq ?_
  refine cW_region ?_
  refine wS_pure 2 [(8, .int .i64 (1048576)), (7, .slice A0 (l0).length cap0)] (by kernel_rfl) ?_
  obtain ⟨y2, hy3, hm⟩ := bindE hm
  refine wS_calls (d := 9) (f := 58) (vs := [.slice A0 (l0).length cap0, .int .i64 (1048576)]) (by kernel_rfl) ent58 (c_laws_szPointSS hy3 F0) ?_
  rintro _ w4 ⟨rfl, hc5⟩
  replace F0 := F0.chg hc5 Dj.nil
  replace hB := hB.inS hc5 inNil
  replace hZ := Nat.le_trans hZ hc5.size
  refine ⟨.int .i64 (y2), rfl, ?_⟩
  refine wS_pure 1 [(3, .int .i64 (y2))] (by kernel_rfl) ?_
  refine wS_end (by rfl) ?_
  refine eX_then ?_
  refine cW_seq ?_
  refine cW_seq ?_
  refine cW_region ?_
  refine wS_pure 2 [(11, .bool (decide (y2 < 0))), (10, .int .i64 (y2))] (by kernel_rfl) ?_
  refine wS_end (by rfl) ?_
  refine eX_then ?_
  refine cW_cond (t := decide (y2 < 0)) (by kernel_rfl) (fun hb6 => ?_) (fun hb6 => ?_)
  · have hm := condT hb6 hm
    refine cW_seq ?_
    refine cW_region ?_
    refine wS_pure 1 [(2, .bool (true))] (by kernel_rfl) ?_
    refine wS_end (by rfl) ?_
    refine eX_then ?_
    refine cW_ret ?_
    refine eX_then_ret ?_
    have hq : (some true : Option ((Bool))) = some _ := hm
    replace hq := someE hq
    subst hq
    refine eX_ret (vs := [.bool (true)]) [.tmp 2] (by rfl) ⟨by (show lkE _ _ _ = _); kernel_rfl, trivial⟩ ?_
    exact ⟨rfl, hB⟩
  · have hm := condF hb6 hm
    refine cW_skip ?_
    refine eX_then ?_
    refine cW_seq ?_
    refine cW_region ?_
    refine wS_pure 1 [(12, .slice A0 (l0).length cap0)] (by kernel_rfl) ?_
    obtain ⟨y7, hy8, hm⟩ := bindE hm
    refine wS_calls (d := 13) (f := 60) (vs := [.slice A0 (l0).length cap0]) (by kernel_rfl) ent60 (c_laws_toPointSS hy8 F0) ?_
    rintro _ w9 ⟨A11, cap12, fp13, fr16, rfl, F14, G15, hc10⟩
    replace F0 := F0.chg hc10 Dj.nil
    replace hB := hB.inS hc10 inNil
    replace G15 := low_le hZ G15
    replace hZ := Nat.le_trans hZ hc10.size
    refine ⟨.slice A11 (y7).length cap12, rfl, ?_⟩
    obtain ⟨y18, hy19, hm⟩ := bindE hm
    refine wS_calls (d := 14) (f := 59) (vs := [.slice A11 (y7).length cap12]) (by kernel_rfl) ent59 (c_spec_AreApart hy19 (F14.slr encII_ok)) ?_
    rintro _ w20 ⟨rfl, hc21⟩
    replace F0 := F0.chg hc21 Dj.nil
    replace F14 := F14.chg hc21 Dj.nil
    replace hB := hB.inS hc21 inNil
    replace hZ := Nat.le_trans hZ hc21.size
    refine ⟨.bool (y18), rfl, ?_⟩
    refine wS_pure 1 [(4, .bool (y18))] (by kernel_rfl) ?_
    refine wS_end (by rfl) ?_
    refine eX_then ?_
    refine cW_seq ?_
    refine cW_region ?_
    refine wS_pure 1 [(15, .slice A0 (l0).length cap0)] (by kernel_rfl) ?_
    obtain ⟨y22, hy23, hm⟩ := bindE hm
    refine wS_calls (d := 16) (f := 60) (vs := [.slice A0 (l0).length cap0]) (by kernel_rfl) ent60 (c_laws_toPointSS hy23 F0) ?_
    rintro _ w24 ⟨A26, cap27, fp28, fr31, rfl, F29, G30, hc25⟩
    have D33 : Dj (fp13 ++ fr16) (fp28 ++ fr31) := Dj.of F14.low G30
    replace F0 := F0.chg hc25 Dj.nil
    replace F14 := F14.chg hc25 Dj.nil
    replace hB := hB.inS hc25 inNil
    replace G30 := low_le hZ G30
    replace hZ := Nat.le_trans hZ hc25.size
    refine ⟨.slice A26 (y22).length cap27, rfl, ?_⟩
    refine wS_pure 1 [(5, .slice A26 (y22).length cap27)] (by kernel_rfl) ?_
    refine wS_end (by rfl) ?_
    refine eX_then ?_
    refine cW_seq ?_
    refine cW_region ?_
    refine wS_pure 1 [(17, .slice A26 (y22).length cap27)] (by kernel_rfl) ?_
    obtain ⟨y34, hy35, hm⟩ := bindE hm
    refine wS_calls (d := 18) (f := 61) (vs := [.slice A26 (y22).length cap27]) (by kernel_rfl) ent61 (c_impl_AreApart hy35 (F29.slr encII_ok)) ?_
    rintro _ w36 ⟨rfl, hc37⟩
    replace F0 := F0.chg hc37 Dj.nil
    replace F14 := F14.chg hc37 Dj.nil
    replace F29 := F29.chg hc37 Dj.nil
    replace hB := hB.inS hc37 inNil
    replace hZ := Nat.le_trans hZ hc37.size
    refine ⟨.bool (y34), rfl, ?_⟩
    refine wS_pure 1 [(6, .bool (y34))] (by kernel_rfl) ?_
    refine wS_end (by rfl) ?_
    refine eX_then ?_
    refine cW_seq ?_
    refine cW_seq ?_
    refine cW_region ?_
    refine wS_pure 3 [(21, .bool (!(y34 == y18))), (20, .bool (y18)), (19, .bool (y34))] (by kernel_rfl) ?_
    refine wS_end (by rfl) ?_
    refine eX_then ?_
    refine cW_cond (t := !(y34 == y18)) (by kernel_rfl) (fun hb38 => ?_) (fun hb38 => ?_)
    · have hm := condT hb38 hm
      refine cW_seq ?_
      refine cW_region ?_
      refine wS_pure 1 [(2, .bool (false))] (by kernel_rfl) ?_
      refine wS_end (by rfl) ?_
      refine eX_then ?_
      refine cW_ret ?_
      refine eX_then_ret ?_
      have hq : (some false : Option ((Bool))) = some _ := hm
      replace hq := someE hq
      subst hq
      refine eX_ret (vs := [.bool (false)]) [.tmp 2] (by rfl) ⟨by (show lkE _ _ _ = _); kernel_rfl, trivial⟩ ?_
      exact ⟨rfl, hB⟩
    · have hm := condF hb38 hm
      refine cW_skip ?_
      refine eX_then ?_
      refine cW_seq ?_
      refine cW_seq ?_
      refine cW_region ?_
      refine wS_pure 2 [(23, .slice A0 (l0).length cap0), (22, .slice A26 (y22).length cap27)] (by kernel_rfl) ?_
      obtain ⟨y39, hy40, hm⟩ := bindE hm
      refine wS_calls (d := 24) (f := 60) (vs := [.slice A0 (l0).length cap0]) (by kernel_rfl) ent60 (c_laws_toPointSS hy40 F0) ?_
      rintro _ w41 ⟨A43, cap44, fp45, fr48, rfl, F46, G47, hc42⟩
      have D50 : Dj (fp13 ++ fr16) (fp45 ++ fr48) := Dj.of F14.low G47
      have D51 : Dj (fp28 ++ fr31) (fp45 ++ fr48) := Dj.of F29.low G47
      replace F0 := F0.chg hc42 Dj.nil
      replace F14 := F14.chg hc42 Dj.nil
      replace F29 := F29.chg hc42 Dj.nil
      replace hB := hB.inS hc42 inNil
      replace G47 := low_le hZ G47
      replace hZ := Nat.le_trans hZ hc42.size
      refine ⟨.slice A43 (y39).length cap44, rfl, ?_⟩
      obtain ⟨y52, hy53, hm⟩ := bindE hm
      refine wS_calls (d := 25) (f := 62) (vs := [.slice A26 (y22).length cap27, .slice A43 (y39).length cap44]) (by kernel_rfl) ent62 (c_laws_eqPointSS hy53 (F29.slr encII_ok) (F46.slr encII_ok)) ?_
      rintro _ w54 ⟨rfl, hc55⟩
      replace F0 := F0.chg hc55 Dj.nil
      replace F14 := F14.chg hc55 Dj.nil
      replace F29 := F29.chg hc55 Dj.nil
      replace F46 := F46.chg hc55 Dj.nil
      replace hB := hB.inS hc55 inNil
      replace hZ := Nat.le_trans hZ hc55.size
      refine ⟨.bool (y52), rfl, ?_⟩
      refine wS_pure 1 [(26, .bool (!y52))] (by kernel_rfl) ?_
      refine wS_end (by rfl) ?_
      refine eX_then ?_
      refine cW_prune [(26, .bool (!y52))] (by kernel_rfl) (by kernel_rfl) (fun a56 => ?_)
      refine cW_cond (t := !y52) (by kernel_rfl) (fun hb57 => ?_) (fun hb57 => ?_)
      · have hm := condT hb57 hm
        refine cW_seq ?_
        refine cW_region ?_
        refine wS_pure 1 [(2, .bool (false))] (by kernel_rfl) ?_
        refine wS_end (by rfl) ?_
        refine eX_then ?_
        refine cW_ret ?_
        refine eX_then_ret ?_
        have hq : (some false : Option ((Bool))) = some _ := hm
        replace hq := someE hq
        subst hq
        refine eX_ret (vs := [.bool (false)]) [.tmp 2] (by rfl) ⟨by (show lkE _ _ _ = _); kernel_rfl, trivial⟩ ?_
        exact ⟨rfl, hB⟩
      · have hm := condF hb57 hm
        refine cW_skip ?_
        refine eX_then ?_
        refine cW_seq ?_
        refine cW_region ?_
        refine wS_pure 1 [(2, .bool (true))] (by kernel_rfl) ?_
        refine wS_end (by rfl) ?_
        refine eX_then ?_
        refine cW_ret ?_
        have hq : (some true : Option ((Bool))) = some _ := hm
        replace hq := someE hq
        subst hq
        refine eX_ret (vs := [.bool (true)]) [.tmp 2] (by rfl) ⟨by (show lkE _ _ _ = _); kernel_rfl, trivial⟩ ?_
        exact ⟨rfl, hB⟩

end Go.Proofs.Ytdkpfkmmblmlhaa
