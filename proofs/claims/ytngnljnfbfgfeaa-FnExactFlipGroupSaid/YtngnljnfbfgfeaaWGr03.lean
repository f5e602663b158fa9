/- Printed walks: spec.l00Put, spec.l07Groups, spec.GroupsOf, (*impl.Wiring).groups, impl.GroupsOf, laws.FnExactGroupsOf, spec.FlipGroup, impl.FlipGroup. -/
import Derived.Test.YtngnljnfbfgfeaaProg
import Derived.Test.YtngnljnfbfgfeaaWGr02
set_option linter.unusedSimpArgs false
set_option linter.unusedVariables false
namespace Go.Proofs.Ytngnljnfbfgfeaa
open Go.RowKit
attribute [local irreducible] wS cW eX wH

theorem ent18 : Ent Try.prog 18 := fun _ => by kernel_rfl
theorem ent36 : Ent Try.prog 36 := fun _ => by kernel_rfl
theorem ent37 : Ent Try.prog 37 := fun _ => by kernel_rfl
theorem ent39 : Ent Try.prog 39 := fun _ => by kernel_rfl
theorem ent40 : Ent Try.prog 40 := fun _ => by kernel_rfl
theorem ent43 : Ent Try.prog 43 := fun _ => by kernel_rfl
theorem ent46 : Ent Try.prog 46 := fun _ => by kernel_rfl
theorem ent47 : Ent Try.prog 47 := fun _ => by kernel_rfl
theorem ent55 : Ent Try.prog 55 := fun _ => by kernel_rfl
theorem ent63 : Ent Try.prog 63 := fun _ => by kernel_rfl
theorem ent64 : Ent Try.prog 64 := fun _ => by kernel_rfl
theorem ent84 : Ent Try.prog 84 := fun _ => by kernel_rfl
theorem ent85 : Ent Try.prog 85 := fun _ => by kernel_rfl
theorem ent88 : Ent Try.prog 88 := fun _ => by kernel_rfl
theorem ent89 : Ent Try.prog 89 := fun _ => by kernel_rfl
theorem ent97 : Ent Try.prog 97 := fun _ => by kernel_rfl
theorem ent119 : Ent Try.prog 119 := fun _ => by kernel_rfl
theorem ent120 : Ent Try.prog 120 := fun _ => by kernel_rfl
theorem ent121 : Ent Try.prog 121 := fun _ => by kernel_rfl
theorem vt4 : VarTy Try.prog 4 1 false := ⟨by kernel_rfl, by kernel_rfl⟩
theorem vt59 : VarTy Try.prog 59 4 true := ⟨by kernel_rfl, by kernel_rfl⟩
theorem sl147 : SlTy Try.prog 147 4 1 := ⟨Try.underlying147, by kernel_rfl⟩
theorem el147 : ElTy Try.prog 147 4 1 (.bool (false)) := ElTy.mk' Try.underlying147 (by kernel_rfl) (by rfl)
theorem sz4 : pureRun Try.prog (sizeOf 4) = some 1 := by kernel_rfl

set_option maxRecDepth 100000 in
/-- spec.l00Put -/
theorem c_spec_l00Put {w0 : World} {l0 : List (Int)} {A0 : Option Addr} {cap0 : Nat} {fp0 : List Nat} {p1 : Int} {r : (List (Int))} (hm : m_spec_l00Put l0 p1 = some r) (F0 : Sl 1 encI w0 fp0 A0 l0) :
    Calls Try.prog 121 #[.slice A0 (l0).length cap0, .int .i64 (p1)] w0 fun e w' => ∃ A100 cap100 fp100, e = .returned (.slice A100 (r).length cap100) ∧ Ow 1 encI 2 w' fp100 A100 cap100 r ∧ (∀ x ∈ fp100, w0.heap.size ≤ x) ∧ Chg [] w0 w' := by
  have L0 := F0.low
  have hB : Chg [] w0 w0 := Chg.refl _ _
  have hZ := Nat.le_refl w0.heap.size
  unfold m_spec_l00Put at hm
  refine enterE (N := 49) Try.func121 (by rfl) Try.ntmps121 (by simp) [(0, .slice A0 (l0).length cap0), (1, .int .i64 (p1))] (by rfl) (by kernel_rfl) (fun a => ?_)
  refine cW_seq ?_
  refine cW_region ?_
  refine wS_pure 1 [(4, .slice none 0 0)] (by kernel_rfl) ?_
  refine wS_end (by rfl) ?_
  refine eX_then ?_
  refine cW_seq ?_
  refine cW_region ?_
  refine wS_bs0 (α := Int) (enc := encI) (d := 8) (t := 25) (T := 2) (by kernel_rfl) el25 ?_
  intro b2 w3 G4 F5 hc6
  replace F0 := F0.chg hc6 Dj.nil
  replace hB := hB.inS hc6 inNil
  replace G4 := Nat.le_trans hZ G4
  replace G4 := low1 G4
  replace hZ := Nat.le_trans hZ hc6.size
  refine wS_pure 1 [(5, .slice (some ⟨b2, 0, none⟩) (([] : List (Int))).length 0)] (by kernel_rfl) ?_
  refine wS_end (by rfl) ?_
  refine eX_then ?_
  refine cW_seq ?_
  refine cW_region ?_
  refine wS_pure 1 [(6, .bool (false))] (by kernel_rfl) ?_
  refine wS_end (by rfl) ?_
  refine eX_then ?_
  refine cW_seq ?_
  refine cW_seq ?_
  refine cW_region ?_
  refine wS_pure 1 [(7, .int .i64 (0))] (by kernel_rfl) ?_
  refine wS_end (by rfl) ?_
  refine eX_then ?_
  obtain ⟨r408, hr409, hm⟩ := bindE hm
  have hm410 := hm
  refine cW_cut (fun a' w' => ∃ l387 : List (Int), ∃ A388 : Option Addr, ∃ cap389 : Nat, ∃ fp390 : List Nat, ∃ x392 : Bool, (l387, x392) = r408 ∧ Fr 49 [(1, .int .i64 (p1)), (5, .slice A388 (l387).length cap389), (6, .bool (x392))] a' ∧ Ow 1 encI 2 w' fp390 A388 cap389 l387 ∧ (∀ x ∈ fp390, w0.heap.size ≤ x) ∧ Chg [] w0 w' ∧ w0.heap.size ≤ w'.heap.size) ?_ ?_
  · refine cW_block ?_
    refine cW_loop _ (fun (s411 : (List (Int)) × Bool × Int) a' w' => ∃ l397 : List (Int), ∃ A398 : Option Addr, ∃ cap399 : Nat, ∃ fp400 : List Nat, ∃ x402 : Bool, ∃ x403 : Int, (l397, x402, x403) = s411 ∧ Fr 49 [(0, .slice A0 (l0).length cap0), (1, .int .i64 (p1)), (5, .slice A398 (l397).length cap399), (6, .bool (x402)), (7, .int .i64 (x403))] a' ∧ Sl 1 encI w' fp0 A0 l0 ∧ Ow 1 encI 2 w' fp400 A398 cap399 l397 ∧ (∀ x ∈ fp400, w0.heap.size ≤ x) ∧ Chg [] w0 w' ∧ w0.heap.size ≤ w'.heap.size) hr409 (fun hst => ⟨([] : List (Int)), (some ⟨b2, 0, none⟩), 0, [b2], false, 0, rfl, Fr.of hst (by kernel_rfl), F0, F5, G4, hB, hZ⟩) ?_
    rintro _ c412 a' w396 ⟨l397, A398, cap399, fp400, x402, x403, rfl, hF404, F405, F406, G407, hB, hZ⟩ hx413
    refine Fr.goOn hF404 (by kernel_rfl) ?_
    have hm := hx413
    unfold m_spec_l00Put_s1 at hm
    refine cW_seq ?_
    refine cW_seq ?_
    refine cW_region ?_
    refine wS_pure 4 [(12, .bool (decide (x403 < (((l0).length : Int))))), (11, .int .i64 (((l0).length : Int))), (10, .slice A0 (l0).length cap0), (9, .int .i64 (x403))] (by kernel_rfl) ?_
    refine wS_end (by rfl) ?_
    refine eX_then ?_
    refine cW_cond (t := decide (x403 < (((l0).length : Int)))) (by kernel_rfl) (fun hb414 => ?_) (fun hb414 => ?_)
    · have hm := condT hb414 hm
      refine cW_skip ?_
      refine eX_then ?_
      refine cW_seq ?_
      refine cW_block ?_
      obtain ⟨s511, hs512, hm⟩ := bindE hm
      refine cW_cut (fun a' w' => ∃ l501 : List (Int), ∃ A502 : Option Addr, ∃ cap503 : Nat, ∃ fp504 : List Nat, ∃ x506 : Bool, (l501, x506) = s511 ∧ Fr 49 [(0, .slice A0 (l0).length cap0), (1, .int .i64 (p1)), (5, .slice A502 (l501).length cap503), (6, .bool (x506)), (7, .int .i64 (x403))] a' ∧ Sl 1 encI w' fp0 A0 l0 ∧ Ow 1 encI 2 w' fp504 A502 cap503 l501 ∧ (∀ x ∈ fp504, w0.heap.size ≤ x) ∧ Chg [] w0 w' ∧ w0.heap.size ≤ w'.heap.size) ?_ ?_
      · have hm := hs512
        refine cW_seq ?_
        obtain ⟨s550, hs551, hm⟩ := bindE hm
        refine cW_cut (fun a' w' => ∃ l540 : List (Int), ∃ A541 : Option Addr, ∃ cap542 : Nat, ∃ fp543 : List Nat, ∃ x545 : Bool, (l540, x545) = s550 ∧ Fr 49 [(0, .slice A0 (l0).length cap0), (1, .int .i64 (p1)), (5, .slice A541 (l540).length cap542), (6, .bool (x545)), (7, .int .i64 (x403))] a' ∧ Sl 1 encI w' fp0 A0 l0 ∧ Ow 1 encI 2 w' fp543 A541 cap542 l540 ∧ (∀ x ∈ fp543, w0.heap.size ≤ x) ∧ Chg [] w0 w' ∧ w0.heap.size ≤ w'.heap.size) ?_ ?_
        · have hm := hs551
          refine cW_seq ?_
          refine cW_region ?_
          refine wS_pure 3 [(17, .bool (!x402)), (16, .bool (!x402)), (15, .bool (x402))] (by kernel_rfl) ?_
          refine wS_bool (!x402) (fun hb552 => ?_) (fun hb552 => ?_)
          · have hm := condT hb552 hm
            rewrite [hb552]
            refine wS_pure 2 [(19, .int .i64 (x403)), (18, .slice A0 (l0).length cap0)] (by kernel_rfl) ?_
            obtain ⟨x553, hx554, hm⟩ := bindE hm
            refine wS_idx (d := 20) (T := 25) (A := A0) (n := (l0).length) (cap := cap0) (kd := .i64) (m := x403) (by kernel_rfl) sl25 (F405.is hx554) ?_
            refine wS_load1 (d := 21) (T := 2) (ad := (elA A0 1 (x403) 0)) (v := .int .i64 (x553)) (by kernel_rfl) vt2 (Sl.cell F405 hx554 0 (by rfl)) ?_
            refine wS_pure 3 [(24, .bool (decide (x553 ≥ p1))), (23, .bool (decide (x553 ≥ p1))), (22, .int .i64 (p1))] (by kernel_rfl) ?_
            refine wS_end (by rfl) ?_
            refine eX_then ?_
            refine cW_cond (t := decide (x553 ≥ p1)) (by kernel_rfl) (fun hb555 => ?_) (fun hb555 => ?_)
            · have hm := condT hb555 hm
              refine cW_seq ?_
              refine cW_region ?_
              refine wS_pure 1 [(6, .bool (true))] (by kernel_rfl) ?_
              refine wS_end (by rfl) ?_
              refine eX_then ?_
              refine cW_seq ?_
              refine cW_region ?_
              refine wS_pure 2 [(26, .int .i64 (x403)), (25, .slice A0 (l0).length cap0)] (by kernel_rfl) ?_
              obtain ⟨x556, hx557, hm⟩ := bindE hm
              refine wS_idx (d := 27) (T := 25) (A := A0) (n := (l0).length) (cap := cap0) (kd := .i64) (m := x403) (by kernel_rfl) sl25 (F405.is hx557) ?_
              refine wS_load1 (d := 28) (T := 2) (ad := (elA A0 1 (x403) 0)) (v := .int .i64 (x556)) (by kernel_rfl) vt2 (Sl.cell F405 hx557 0 (by rfl)) ?_
              refine wS_pure 2 [(30, .bool (decide (x556 > p1))), (29, .int .i64 (p1))] (by kernel_rfl) ?_
              refine wS_end (by rfl) ?_
              refine eX_then ?_
              refine cW_prune [(0, .slice A0 (l0).length cap0), (1, .int .i64 (p1)), (5, .slice A398 (l397).length cap399), (6, .bool (true)), (7, .int .i64 (x403)), (30, .bool (decide (x556 > p1)))] (by kernel_rfl) (by kernel_rfl) (fun a558 => ?_)
              refine cW_cond (t := decide (x556 > p1)) (by kernel_rfl) (fun hb559 => ?_) (fun hb559 => ?_)
              · have hm := condT hb559 hm
                refine cW_region ?_
                refine wS_pure 2 [(32, .int .i64 (p1)), (31, .slice A398 (l397).length cap399)] (by kernel_rfl) ?_
                refine wS_bs (enc := encI) ([p1] : List (Int)) [.int .i64 (p1)] (d := 33) (t := 25) (T := 2) (n := 1) (ps := [(0, .int .i64 (p1))]) (by kernel_rfl) el25 encI_ok (by rfl) (by omega) (by omega) (by kernel_rfl) (by rfl) ?_
                intro b560 w561 G562 F563 hc564
                have D566 : Dj fp400 [b560] := Dj.of F406.low (low1 G562)
                replace F405 := F405.chg hc564 Dj.nil
                replace F406 := F406.chg hc564 Dj.nil
                replace hB := hB.inS hc564 inNil
                replace G562 := Nat.le_trans hZ G562
                replace G562 := low1 G562
                replace hZ := Nat.le_trans hZ hc564.size
                obtain ⟨_, hk567, hm⟩ := bindE hm
                replace hk567 := apE hk567
                refine wS_append (enc := encI) (l := (l397 : List (Int))) (l2 := (([p1] : List (Int)) : List (Int))) (d := 34) (t := 25) (T := 2) (A := A398) (A2 := (some ⟨b560, 0, none⟩)) (cap := cap399) (cap2 := 1) (by kernel_rfl) el25 encI_ok F406 (F563.sl encI_ok) (by rfl) hk567 ?_
                intro w568 fp569 A570 cap571 F572 hc573 hp574
                have G576 := low_ap G407 hZ hp574
                have D577 : Dj [b560] fp569 := Dj.ap (D566).symm F563.low hp574
                replace F405 := F405.chg hc573 (Dj.of L0 G407)
                replace F563 := F563.chg hc573 (D566).symm
                replace hB := hB.inS hc573 (inLow G407)
                replace hZ := Nat.le_trans hZ hc573.size
                refine wS_pure 1 [(5, .slice A570 (l397 ++ (([p1] : List (Int)))).length cap571)] (by kernel_rfl) ?_
                refine wS_end (by rfl) ?_
                have hq : (some ((l397 ++ (([p1] : List (Int))), true)) : Option ((List (Int)) × Bool)) = some _ := hm
                replace hq := someE hq
                subst hq
                exact eX_J (fun hst => ⟨l397 ++ (([p1] : List (Int))), A570, cap571, fp569, true, rfl, Fr.of hst (by kernel_rfl), F405, F572, G576, hB, hZ⟩)
              · have hm := condF hb559 hm
                refine cW_skip ?_
                have hq : (some ((l397, true)) : Option ((List (Int)) × Bool)) = some _ := hm
                replace hq := someE hq
                subst hq
                exact eX_J (fun hst => ⟨l397, A398, cap399, fp400, true, rfl, Fr.of hst (by kernel_rfl), F405, F406, G407, hB, hZ⟩)
            · have hm := condF hb555 hm
              refine cW_skip ?_
              have hq : (some ((l397, x402)) : Option ((List (Int)) × Bool)) = some _ := hm
              replace hq := someE hq
              subst hq
              exact eX_J (fun hst => ⟨l397, A398, cap399, fp400, x402, rfl, Fr.of hst (by kernel_rfl), F405, F406, G407, hB, hZ⟩)
          · have hm := condF hb552 hm
            rewrite [hb552]
            refine wS_pure 7 [(24, .bool (false)), (23, undef), (22, undef), (21, undef), (20, undef), (19, undef), (18, undef)] (by kernel_rfl) ?_
            refine wS_end (by rfl) ?_
            refine eX_then ?_
            refine cW_cond_f (by kernel_rfl) ?_
            refine cW_skip ?_
            have hq : (some ((l397, x402)) : Option ((List (Int)) × Bool)) = some _ := hm
            replace hq := someE hq
            subst hq
            exact eX_J (fun hst => ⟨l397, A398, cap399, fp400, x402, rfl, Fr.of hst (by kernel_rfl), F405, F406, G407, hB, hZ⟩)
        · rintro a' w539 ⟨l540, A541, cap542, fp543, x545, hJ, hF546, F547, F548, G549, hB, hZ⟩
          subst hJ
          refine Fr.goX hF546 (by kernel_rfl) ?_
          refine eX_then ?_
          refine cW_region ?_
          refine wS_pure 3 [(37, .int .i64 (x403)), (36, .slice A0 (l0).length cap0), (35, .slice A541 (l540).length cap542)] (by kernel_rfl) ?_
          obtain ⟨x578, hx579, hm⟩ := bindE hm
          refine wS_idx (d := 38) (T := 25) (A := A0) (n := (l0).length) (cap := cap0) (kd := .i64) (m := x403) (by kernel_rfl) sl25 (F547.is hx579) ?_
          refine wS_load1 (d := 39) (T := 2) (ad := (elA A0 1 (x403) 0)) (v := .int .i64 (x578)) (by kernel_rfl) vt2 (Sl.cell F547 hx579 0 (by rfl)) ?_
          refine wS_bs (enc := encI) ([x578] : List (Int)) [.int .i64 (x578)] (d := 40) (t := 25) (T := 2) (n := 1) (ps := [(0, .int .i64 (x578))]) (by kernel_rfl) el25 encI_ok (by rfl) (by omega) (by omega) (by kernel_rfl) (by rfl) ?_
          intro b580 w581 G582 F583 hc584
          have D586 : Dj fp543 [b580] := Dj.of F548.low (low1 G582)
          replace F547 := F547.chg hc584 Dj.nil
          replace F548 := F548.chg hc584 Dj.nil
          replace hB := hB.inS hc584 inNil
          replace G582 := Nat.le_trans hZ G582
          replace G582 := low1 G582
          replace hZ := Nat.le_trans hZ hc584.size
          obtain ⟨_, hk587, hm⟩ := bindE hm
          replace hk587 := apE hk587
          refine wS_append (enc := encI) (l := (l540 : List (Int))) (l2 := (([x578] : List (Int)) : List (Int))) (d := 41) (t := 25) (T := 2) (A := A541) (A2 := (some ⟨b580, 0, none⟩)) (cap := cap542) (cap2 := 1) (by kernel_rfl) el25 encI_ok F548 (F583.sl encI_ok) (by rfl) hk587 ?_
          intro w588 fp589 A590 cap591 F592 hc593 hp594
          have G596 := low_ap G549 hZ hp594
          have D597 : Dj [b580] fp589 := Dj.ap (D586).symm F583.low hp594
          replace F547 := F547.chg hc593 (Dj.of L0 G549)
          replace F583 := F583.chg hc593 (D586).symm
          replace hB := hB.inS hc593 (inLow G549)
          replace hZ := Nat.le_trans hZ hc593.size
          refine wS_pure 1 [(5, .slice A590 (l540 ++ (([x578] : List (Int)))).length cap591)] (by kernel_rfl) ?_
          refine wS_end (by rfl) ?_
          have hq : (some ((l540 ++ (([x578] : List (Int))), x545)) : Option ((List (Int)) × Bool)) = some _ := hm
          replace hq := someE hq
          subst hq
          exact eX_J (fun hst => ⟨l540 ++ (([x578] : List (Int))), A590, cap591, fp589, x545, rfl, Fr.of hst (by kernel_rfl), F547, F592, G596, hB, hZ⟩)
      · rintro a' w500 ⟨l501, A502, cap503, fp504, x506, hJ, hF507, F508, F509, G510, hB, hZ⟩
        subst hJ
        refine Fr.goX hF507 (by kernel_rfl) ?_
        refine eX_block ?_
        refine eX_then ?_
        refine cW_region ?_
        refine wS_pure 3 [(7, .int .i64 (wr (x403 + 1))), (14, .int .i64 (wr (x403 + 1))), (13, .int .i64 (x403))] (by kernel_rfl) ?_
        refine wS_end (by rfl) ?_
        have hq : (some (Ctl.next ((l501, x506, wr (x403 + 1)))) : Option (Ctl ((List (Int)) × Bool × Int) ((List (Int)) × Bool))) = some _ := hm
        replace hq := someE hq
        subst hq
        exact eX_next hx413 (fun hst => ⟨l501, A502, cap503, fp504, x506, wr (x403 + 1), rfl, Fr.of hst (by kernel_rfl), F508, F509, G510, hB, hZ⟩)
    · have hm := condF hb414 hm
      refine cW_exit ?_
      refine eX_then_exit ?_
      have hq : (some (Ctl.out ((l397, x402))) : Option (Ctl ((List (Int)) × Bool × Int) ((List (Int)) × Bool))) = some _ := hm
      replace hq := someE hq
      subst hq
      refine eX_outX hx413 (fun hr598 => ?_)
      replace hr598 := hr598.symm
      subst hr598
      refine eX_block_hit ?_
      exact eX_J (fun hst => ⟨l397, A398, cap399, fp400, x402, rfl, Fr.of hst (by kernel_rfl), F406, G407, hB, hZ⟩)
  · rintro a' w386 ⟨l387, A388, cap389, fp390, x392, hJ, hF393, F394, G395, hB, hZ⟩
    subst hJ
    refine Fr.goX hF393 (by kernel_rfl) ?_
    refine eX_then ?_
    refine cW_seq ?_
    obtain ⟨s627, hs628, hm⟩ := bindE hm
    refine cW_cut (fun a' w' => ∃ l619 : List (Int), ∃ A620 : Option Addr, ∃ cap621 : Nat, ∃ fp622 : List Nat, l619 = s627 ∧ Fr 49 [(5, .slice A620 (l619).length cap621)] a' ∧ Ow 1 encI 2 w' fp622 A620 cap621 l619 ∧ (∀ x ∈ fp622, w0.heap.size ≤ x) ∧ Chg [] w0 w' ∧ w0.heap.size ≤ w'.heap.size) ?_ ?_
    · have hm := hs628
      refine cW_seq ?_
      refine cW_region ?_
      refine wS_pure 2 [(43, .bool (!x392)), (42, .bool (x392))] (by kernel_rfl) ?_
      refine wS_end (by rfl) ?_
      refine eX_then ?_
      refine cW_cond (t := !x392) (by kernel_rfl) (fun hb629 => ?_) (fun hb629 => ?_)
      · have hm := condT hb629 hm
        refine cW_region ?_
        refine wS_pure 2 [(45, .int .i64 (p1)), (44, .slice A388 (l387).length cap389)] (by kernel_rfl) ?_
        refine wS_bs (enc := encI) ([p1] : List (Int)) [.int .i64 (p1)] (d := 46) (t := 25) (T := 2) (n := 1) (ps := [(0, .int .i64 (p1))]) (by kernel_rfl) el25 encI_ok (by rfl) (by omega) (by omega) (by kernel_rfl) (by rfl) ?_
        intro b630 w631 G632 F633 hc634
        have D636 : Dj fp390 [b630] := Dj.of F394.low (low1 G632)
        replace F394 := F394.chg hc634 Dj.nil
        replace hB := hB.inS hc634 inNil
        replace G632 := Nat.le_trans hZ G632
        replace G632 := low1 G632
        replace hZ := Nat.le_trans hZ hc634.size
        obtain ⟨_, hk637, hm⟩ := bindE hm
        replace hk637 := apE hk637
        refine wS_append (enc := encI) (l := (l387 : List (Int))) (l2 := (([p1] : List (Int)) : List (Int))) (d := 47) (t := 25) (T := 2) (A := A388) (A2 := (some ⟨b630, 0, none⟩)) (cap := cap389) (cap2 := 1) (by kernel_rfl) el25 encI_ok F394 (F633.sl encI_ok) (by rfl) hk637 ?_
        intro w638 fp639 A640 cap641 F642 hc643 hp644
        have G646 := low_ap G395 hZ hp644
        have D647 : Dj [b630] fp639 := Dj.ap (D636).symm F633.low hp644
        replace F633 := F633.chg hc643 (D636).symm
        replace hB := hB.inS hc643 (inLow G395)
        replace hZ := Nat.le_trans hZ hc643.size
        refine wS_pure 1 [(5, .slice A640 (l387 ++ (([p1] : List (Int)))).length cap641)] (by kernel_rfl) ?_
        refine wS_end (by rfl) ?_
        have hq : (some (l387 ++ (([p1] : List (Int)))) : Option ((List (Int)))) = some _ := hm
        replace hq := someE hq
        subst hq
        exact eX_J (fun hst => ⟨l387 ++ (([p1] : List (Int))), A640, cap641, fp639, rfl, Fr.of hst (by kernel_rfl), F642, G646, hB, hZ⟩)
      · have hm := condF hb629 hm
        refine cW_skip ?_
        have hq : (some l387 : Option ((List (Int)))) = some _ := hm
        replace hq := someE hq
        subst hq
        exact eX_J (fun hst => ⟨l387, A388, cap389, fp390, rfl, Fr.of hst (by kernel_rfl), F394, G395, hB, hZ⟩)
    · rintro a' w618 ⟨l619, A620, cap621, fp622, hJ, hF624, F625, G626, hB, hZ⟩
      subst hJ
      refine Fr.goX hF624 (by kernel_rfl) ?_
      refine eX_then ?_
      refine cW_seq ?_
      refine cW_region ?_
      refine wS_pure 2 [(4, .slice A620 (l619).length cap621), (48, .slice A620 (l619).length cap621)] (by kernel_rfl) ?_
      refine wS_end (by rfl) ?_
      refine eX_then ?_
      refine cW_ret ?_
      have hq : (some l619 : Option ((List (Int)))) = some _ := hm
      replace hq := someE hq
      subst hq
      refine eX_ret (vs := [.slice A620 (l619).length cap621]) [.tmp 4] (by rfl) ⟨by (show lkE _ _ _ = _); kernel_rfl, trivial⟩ ?_
      exact ⟨A620, cap621, fp622, rfl, F625, G626, hB⟩

set_option maxRecDepth 100000 in
/-- spec.l07Groups -/
theorem c_spec_l07Groups_bimplWiring {w0 : World} {q0_0 : Int} {l0_1 : List (List (Int))} {A0_1 : Option Addr} {cap0_1 : Nat} {fp0_1 : List Nat} {l0_2 : List (List (Int))} {A0_2 : Option Addr} {cap0_2 : Nat} {fp0_2 : List Nat} {l0_3 : List (Int)} {A0_3 : Option Addr} {cap0_3 : Nat} {fp0_3 : List Nat} {b0 : Nat} {r : (List (List (Int)))} (hm : m_spec_l07Groups_bimplWiring q0_0 l0_1 l0_2 l0_3 = some r) (F0_1 : SlR 1 encI w0 fp0_1 A0_1 l0_1) (F0_2 : SlR 1 encI w0 fp0_2 A0_2 l0_2) (F0_3 : Sl 1 encI w0 fp0_3 A0_3 l0_3) (F0 : Cl w0 b0 27 [.int .i64 (q0_0), .slice A0_1 (l0_1).length cap0_1, .slice A0_2 (l0_2).length cap0_2, .slice A0_3 (l0_3).length cap0_3]) :
    Calls Try.prog 84 #[.pointer (some ⟨b0, 0, none⟩)] w0 fun e w' => ∃ A100 cap100 fp100 fr100, e = .returned (.slice A100 (r).length cap100) ∧ OwR 1 encI 25 2 w' fp100 fr100 A100 cap100 r ∧ (∀ x ∈ fp100 ++ fr100, w0.heap.size ≤ x) ∧ Chg [] w0 w' := by
  have L0_1 := F0_1.low
  have L0_2 := F0_2.low
  have L0_3 := F0_3.low
  have L0 := lt1 F0.lt
  have hB : Chg [] w0 w0 := Chg.refl _ _
  have hZ := Nat.le_refl w0.heap.size
  unfold m_spec_l07Groups_bimplWiring at hm
  refine enterE (N := 78) Try.func84 (by rfl) Try.ntmps84 (by simp) [(0, .pointer (some ⟨b0, 0, none⟩))] (by rfl) (by kernel_rfl) (fun a => ?_)
  refine cW_seq ?_
  refine cW_region ?_
  refine wS_pure 1 [(2, .slice none 0 0)] (by kernel_rfl) ?_
  refine wS_end (by rfl) ?_
  refine eX_then ?_
  refine cW_seq ?_
  refine cW_region ?_
  refine wS_rows0 (k := 1) (enc := encI) (d := 11) (t := 24) (T := 25) (T2 := 2) (by kernel_rfl) el24 ?_
  intro b5 w6 G7 F8 hc9
  replace F0_1 := F0_1.chg hc9 Dj.nil
  replace F0_2 := F0_2.chg hc9 Dj.nil
  replace F0_3 := F0_3.chg hc9 Dj.nil
  replace F0 := F0.chg hc9 notNil
  replace hB := hB.inS hc9 inNil
  replace G7 := Nat.le_trans hZ G7
  replace G7 := low1 G7
  replace hZ := Nat.le_trans hZ hc9.size
  replace G7 := lowApp G7 lowNil
  refine wS_pure 1 [(3, .slice (some ⟨b5, 0, none⟩) (([] : List (List (Int)))).length 0)] (by kernel_rfl) ?_
  refine wS_end (by rfl) ?_
  refine eX_then ?_
  refine cW_seq ?_
  refine cW_region ?_
  refine wS_bs0 (α := Int) (enc := encI) (d := 12) (t := 25) (T := 2) (by kernel_rfl) el25 ?_
  intro b11 w12 G13 F14 hc15
  have D17 : Dj ([b5] ++ []) [b11] := Dj.of F8.low (low1 G13)
  replace F0_1 := F0_1.chg hc15 Dj.nil
  replace F0_2 := F0_2.chg hc15 Dj.nil
  replace F0_3 := F0_3.chg hc15 Dj.nil
  replace F0 := F0.chg hc15 notNil
  replace F8 := F8.chg hc15 Dj.nil
  replace hB := hB.inS hc15 inNil
  replace G13 := Nat.le_trans hZ G13
  replace G13 := low1 G13
  replace hZ := Nat.le_trans hZ hc15.size
  refine wS_pure 1 [(4, .slice (some ⟨b11, 0, none⟩) (([] : List (Int))).length 0)] (by kernel_rfl) ?_
  refine wS_end (by rfl) ?_
  refine eX_then ?_
  refine cW_seq ?_
  refine cW_seq ?_
  refine cW_region ?_
  refine wS_pure 1 [(5, .int .i64 (0))] (by kernel_rfl) ?_
  refine wS_end (by rfl) ?_
  refine eX_then ?_
  obtain ⟨r2648, hr2649, hm⟩ := bindE hm
  have hm2650 := hm
  refine cW_cut (fun a' w' => ∃ l2616 : List (List (Int)), ∃ A2617 : Option Addr, ∃ cap2618 : Nat, ∃ fp2619 : List Nat, ∃ fr2621 : List Nat, l2616 = r2648 ∧ Fr 78 [(3, .slice A2617 (l2616).length cap2618)] a' ∧ OwR 1 encI 25 2 w' fp2619 fr2621 A2617 cap2618 l2616 ∧ (∀ x ∈ (fp2619 ++ fr2621), w0.heap.size ≤ x) ∧ Chg [] w0 w' ∧ w0.heap.size ≤ w'.heap.size) ?_ ?_
  · refine cW_block ?_
    refine cW_loop _ (fun (s2651 : (List (List (Int))) × (List (Int)) × Int) a' w' => ∃ l2626 : List (List (Int)), ∃ A2627 : Option Addr, ∃ cap2628 : Nat, ∃ fp2629 : List Nat, ∃ fr2631 : List Nat, ∃ l2632 : List (Int), ∃ A2633 : Option Addr, ∃ cap2634 : Nat, ∃ fp2635 : List Nat, ∃ x2637 : Int, (l2626, l2632, x2637) = s2651 ∧ Fr 78 [(0, .pointer (some ⟨b0, 0, none⟩)), (3, .slice A2627 (l2626).length cap2628), (4, .slice A2633 (l2632).length cap2634), (5, .int .i64 (x2637))] a' ∧ SlR 1 encI w' fp0_1 A0_1 l0_1 ∧ SlR 1 encI w' fp0_2 A0_2 l0_2 ∧ Sl 1 encI w' fp0_3 A0_3 l0_3 ∧ Cl w' b0 27 [.int .i64 (q0_0), .slice A0_1 (l0_1).length cap0_1, .slice A0_2 (l0_2).length cap0_2, .slice A0_3 (l0_3).length cap0_3] ∧ OwR 1 encI 25 2 w' fp2629 fr2631 A2627 cap2628 l2626 ∧ Ow 1 encI 2 w' fp2635 A2633 cap2634 l2632 ∧ (∀ x ∈ (fp2629 ++ fr2631), w0.heap.size ≤ x) ∧ (∀ x ∈ fp2635, w0.heap.size ≤ x) ∧ Dj fp2635 (fp2629 ++ fr2631) ∧ Chg [] w0 w' ∧ w0.heap.size ≤ w'.heap.size) hr2649 (fun hst => ⟨([] : List (List (Int))), (some ⟨b5, 0, none⟩), 0, [b5], [], ([] : List (Int)), (some ⟨b11, 0, none⟩), 0, [b11], 0, rfl, Fr.of hst (by kernel_rfl), F0_1, F0_2, F0_3, F0, F8, F14, G7, G13, (D17).symm, hB, hZ⟩) ?_
    rintro _ c2652 a' w2625 ⟨l2626, A2627, cap2628, fp2629, fr2631, l2632, A2633, cap2634, fp2635, x2637, rfl, hF2638, F2639, F2640, F2641, F2642, F2643, F2644, G2645, G2646, D2647, hB, hZ⟩ hx2653
    refine Fr.goOn hF2638 (by kernel_rfl) ?_
    have hm := hx2653
    unfold m_spec_l07Groups_bimplWiring_s11 at hm
    refine cW_seq ?_
    refine cW_seq ?_
    refine cW_region ?_
    refine wS_pure 4 [(16, .pointer (some ⟨b0, 0, none⟩)), (15, .pointer (some ⟨b0, 0, none⟩)), (14, .pointer (some ⟨b0, 0, none⟩)), (13, .int .i64 (x2637))] (by kernel_rfl) ?_
    refine wS_load1 (d := 17) (T := 2) (ad := ⟨b0, 0, none⟩) (v := .int .i64 (q0_0)) (by kernel_rfl) vt2 ((F2642).cell 0) ?_
    refine wS_pure 1 [(18, .bool (decide (x2637 < q0_0)))] (by kernel_rfl) ?_
    refine wS_end (by rfl) ?_
    refine eX_then ?_
    refine cW_cond (t := decide (x2637 < q0_0)) (by kernel_rfl) (fun hb2654 => ?_) (fun hb2654 => ?_)
    · have hm := condT hb2654 hm
      refine cW_skip ?_
      refine eX_then ?_
      refine cW_seq ?_
      refine cW_block ?_
      refine cW_seq ?_
      refine cW_seq ?_
      refine cW_region ?_
      refine wS_pure 2 [(22, .int .i64 (x2637)), (21, .slice A2633 (l2632).length cap2634)] (by kernel_rfl) ?_
      obtain ⟨y2655, hy2656, hm⟩ := bindE hm
      refine wS_calls (d := 23) (f := 119) (vs := [.slice A2633 (l2632).length cap2634, .int .i64 (x2637)]) (by kernel_rfl) ent119 (c_spec_l00Has hy2656 (F2644.sl encI_ok)) ?_
      rintro _ w2657 ⟨rfl, hc2658⟩
      replace F2639 := F2639.chg hc2658 Dj.nil
      replace F2640 := F2640.chg hc2658 Dj.nil
      replace F2641 := F2641.chg hc2658 Dj.nil
      replace F2642 := F2642.chg hc2658 notNil
      replace F2643 := F2643.chg hc2658 Dj.nil
      replace F2644 := F2644.chg hc2658 Dj.nil
      replace hB := hB.inS hc2658 inNil
      replace hZ := Nat.le_trans hZ hc2658.size
      refine ⟨.bool (y2655), rfl, ?_⟩
      refine wS_end (by rfl) ?_
      refine eX_then ?_
      refine cW_cond (t := y2655) (by kernel_rfl) (fun hb2659 => ?_) (fun hb2659 => ?_)
      · have hm := condT hb2659 hm
        refine cW_exit ?_
        refine eX_then_exit ?_
        refine eX_block_hit ?_
        refine eX_then ?_
        refine cW_region ?_
        refine wS_pure 3 [(5, .int .i64 (wr (x2637 + 1))), (20, .int .i64 (wr (x2637 + 1))), (19, .int .i64 (x2637))] (by kernel_rfl) ?_
        refine wS_end (by rfl) ?_
        have hq : (some (Ctl.next ((l2626, l2632, wr (x2637 + 1)))) : Option (Ctl ((List (List (Int))) × (List (Int)) × Int) ((List (List (Int)))))) = some _ := hm
        replace hq := someE hq
        subst hq
        exact eX_next hx2653 (fun hst => ⟨l2626, A2627, cap2628, fp2629, fr2631, l2632, A2633, cap2634, fp2635, wr (x2637 + 1), rfl, Fr.of hst (by kernel_rfl), F2639, F2640, F2641, F2642, F2643, F2644, G2645, G2646, D2647, hB, hZ⟩)
      · have hm := condF hb2659 hm
        refine cW_skip ?_
        refine eX_then ?_
        refine cW_seq ?_
        refine cW_region ?_
        refine wS_pure 1 [(24, .int .i64 (x2637))] (by kernel_rfl) ?_
        refine wS_bs (enc := encI) ([x2637] : List (Int)) [.int .i64 (x2637)] (d := 25) (t := 25) (T := 2) (n := 1) (ps := [(0, .int .i64 (x2637))]) (by kernel_rfl) el25 encI_ok (by rfl) (by omega) (by omega) (by kernel_rfl) (by rfl) ?_
        intro b2660 w2661 G2662 F2663 hc2664
        have D2666 : Dj (fp2629 ++ fr2631) [b2660] := Dj.of F2643.low (low1 G2662)
        have D2667 : Dj fp2635 [b2660] := Dj.of F2644.low (low1 G2662)
        replace F2639 := F2639.chg hc2664 Dj.nil
        replace F2640 := F2640.chg hc2664 Dj.nil
        replace F2641 := F2641.chg hc2664 Dj.nil
        replace F2642 := F2642.chg hc2664 notNil
        replace F2643 := F2643.chg hc2664 Dj.nil
        replace F2644 := F2644.chg hc2664 Dj.nil
        replace hB := hB.inS hc2664 inNil
        replace G2662 := Nat.le_trans hZ G2662
        replace G2662 := low1 G2662
        replace hZ := Nat.le_trans hZ hc2664.size
        refine wS_pure 1 [(6, .slice (some ⟨b2660, 0, none⟩) (([x2637] : List (Int))).length 1)] (by kernel_rfl) ?_
        refine wS_end (by rfl) ?_
        refine eX_then ?_
        refine cW_seq ?_
        refine cW_seq ?_
        refine cW_region ?_
        refine wS_pure 1 [(7, .int .i64 (0))] (by kernel_rfl) ?_
        refine wS_end (by rfl) ?_
        refine eX_then ?_
        obtain ⟨r3416, hr3417, hm⟩ := bindE hm
        have hm3418 := hm
        refine cW_cut (fun a' w' => ∃ l3382 : List (Int), ∃ A3383 : Option Addr, ∃ cap3384 : Nat, ∃ fp3385 : List Nat, l3382 = r3416 ∧ Fr 78 [(0, .pointer (some ⟨b0, 0, none⟩)), (3, .slice A2627 (l2626).length cap2628), (4, .slice A2633 (l2632).length cap2634), (5, .int .i64 (x2637)), (6, .slice A3383 (l3382).length cap3384)] a' ∧ SlR 1 encI w' fp0_1 A0_1 l0_1 ∧ SlR 1 encI w' fp0_2 A0_2 l0_2 ∧ Sl 1 encI w' fp0_3 A0_3 l0_3 ∧ Cl w' b0 27 [.int .i64 (q0_0), .slice A0_1 (l0_1).length cap0_1, .slice A0_2 (l0_2).length cap0_2, .slice A0_3 (l0_3).length cap0_3] ∧ OwR 1 encI 25 2 w' fp2629 fr2631 A2627 cap2628 l2626 ∧ Ow 1 encI 2 w' fp2635 A2633 cap2634 l2632 ∧ Ow 1 encI 2 w' fp3385 A3383 cap3384 l3382 ∧ (∀ x ∈ fp3385, w0.heap.size ≤ x) ∧ Dj (fp2629 ++ fr2631) fp3385 ∧ Dj fp2635 fp3385 ∧ Chg [] w0 w' ∧ w0.heap.size ≤ w'.heap.size) ?_ ?_
        · refine cW_block ?_
          refine cW_loop _ (fun (s3419 : (List (Int)) × Int) a' w' => ∃ l3399 : List (Int), ∃ A3400 : Option Addr, ∃ cap3401 : Nat, ∃ fp3402 : List Nat, ∃ x3404 : Int, (l3399, x3404) = s3419 ∧ Fr 78 [(0, .pointer (some ⟨b0, 0, none⟩)), (3, .slice A2627 (l2626).length cap2628), (4, .slice A2633 (l2632).length cap2634), (5, .int .i64 (x2637)), (6, .slice A3400 (l3399).length cap3401), (7, .int .i64 (x3404))] a' ∧ SlR 1 encI w' fp0_1 A0_1 l0_1 ∧ SlR 1 encI w' fp0_2 A0_2 l0_2 ∧ Sl 1 encI w' fp0_3 A0_3 l0_3 ∧ Cl w' b0 27 [.int .i64 (q0_0), .slice A0_1 (l0_1).length cap0_1, .slice A0_2 (l0_2).length cap0_2, .slice A0_3 (l0_3).length cap0_3] ∧ OwR 1 encI 25 2 w' fp2629 fr2631 A2627 cap2628 l2626 ∧ Ow 1 encI 2 w' fp2635 A2633 cap2634 l2632 ∧ Ow 1 encI 2 w' fp3402 A3400 cap3401 l3399 ∧ (∀ x ∈ fp3402, w0.heap.size ≤ x) ∧ Dj (fp2629 ++ fr2631) fp3402 ∧ Dj fp2635 fp3402 ∧ Chg [] w0 w' ∧ w0.heap.size ≤ w'.heap.size) hr3417 (fun hst => ⟨([x2637] : List (Int)), (some ⟨b2660, 0, none⟩), 1, [b2660], 0, rfl, Fr.of hst (by kernel_rfl), F2639, F2640, F2641, F2642, F2643, F2644, F2663, G2662, D2666, D2667, hB, hZ⟩) ?_
          rintro _ c3420 a' w3398 ⟨l3399, A3400, cap3401, fp3402, x3404, rfl, hF3405, F3406, F3407, F3408, F3409, F3410, F3411, F3412, G3413, D3414, D3415, hB, hZ⟩ hx3421
          refine Fr.goOn hF3405 (by kernel_rfl) ?_
          have hm := hx3421
          unfold m_spec_l07Groups_bimplWiring_s14 at hm
          refine cW_seq ?_
          refine cW_seq ?_
          refine cW_region ?_
          refine wS_pure 4 [(29, .bool (decide (x3404 < (((l3399).length : Int))))), (28, .int .i64 (((l3399).length : Int))), (27, .slice A3400 (l3399).length cap3401), (26, .int .i64 (x3404))] (by kernel_rfl) ?_
          refine wS_end (by rfl) ?_
          refine eX_then ?_
          refine cW_cond (t := decide (x3404 < (((l3399).length : Int)))) (by kernel_rfl) (fun hb3422 => ?_) (fun hb3422 => ?_)
          · have hm := condT hb3422 hm
            refine cW_skip ?_
            refine eX_then ?_
            refine cW_seq ?_
            refine cW_block ?_
            refine cW_seq ?_
            refine cW_region ?_
            refine wS_pure 1 [(8, .int .i64 (0))] (by kernel_rfl) ?_
            refine wS_end (by rfl) ?_
            refine eX_then ?_
            obtain ⟨r3667, hr3668, hm⟩ := bindE hm
            have hm3669 := hm
            refine cW_cut (fun a' w' => ∃ l3633 : List (Int), ∃ A3634 : Option Addr, ∃ cap3635 : Nat, ∃ fp3636 : List Nat, l3633 = r3667 ∧ Fr 78 [(0, .pointer (some ⟨b0, 0, none⟩)), (3, .slice A2627 (l2626).length cap2628), (4, .slice A2633 (l2632).length cap2634), (5, .int .i64 (x2637)), (6, .slice A3634 (l3633).length cap3635), (7, .int .i64 (x3404))] a' ∧ SlR 1 encI w' fp0_1 A0_1 l0_1 ∧ SlR 1 encI w' fp0_2 A0_2 l0_2 ∧ Sl 1 encI w' fp0_3 A0_3 l0_3 ∧ Cl w' b0 27 [.int .i64 (q0_0), .slice A0_1 (l0_1).length cap0_1, .slice A0_2 (l0_2).length cap0_2, .slice A0_3 (l0_3).length cap0_3] ∧ OwR 1 encI 25 2 w' fp2629 fr2631 A2627 cap2628 l2626 ∧ Ow 1 encI 2 w' fp2635 A2633 cap2634 l2632 ∧ Ow 1 encI 2 w' fp3636 A3634 cap3635 l3633 ∧ (∀ x ∈ fp3636, w0.heap.size ≤ x) ∧ Dj (fp2629 ++ fr2631) fp3636 ∧ Dj fp2635 fp3636 ∧ Chg [] w0 w' ∧ w0.heap.size ≤ w'.heap.size) ?_ ?_
            · refine cW_block ?_
              refine cW_loop _ (fun (s3670 : (List (Int)) × Int) a' w' => ∃ l3650 : List (Int), ∃ A3651 : Option Addr, ∃ cap3652 : Nat, ∃ fp3653 : List Nat, ∃ x3655 : Int, (l3650, x3655) = s3670 ∧ Fr 78 [(0, .pointer (some ⟨b0, 0, none⟩)), (3, .slice A2627 (l2626).length cap2628), (4, .slice A2633 (l2632).length cap2634), (5, .int .i64 (x2637)), (6, .slice A3651 (l3650).length cap3652), (7, .int .i64 (x3404)), (8, .int .i64 (x3655))] a' ∧ SlR 1 encI w' fp0_1 A0_1 l0_1 ∧ SlR 1 encI w' fp0_2 A0_2 l0_2 ∧ Sl 1 encI w' fp0_3 A0_3 l0_3 ∧ Cl w' b0 27 [.int .i64 (q0_0), .slice A0_1 (l0_1).length cap0_1, .slice A0_2 (l0_2).length cap0_2, .slice A0_3 (l0_3).length cap0_3] ∧ OwR 1 encI 25 2 w' fp2629 fr2631 A2627 cap2628 l2626 ∧ Ow 1 encI 2 w' fp2635 A2633 cap2634 l2632 ∧ Ow 1 encI 2 w' fp3653 A3651 cap3652 l3650 ∧ (∀ x ∈ fp3653, w0.heap.size ≤ x) ∧ Dj (fp2629 ++ fr2631) fp3653 ∧ Dj fp2635 fp3653 ∧ Chg [] w0 w' ∧ w0.heap.size ≤ w'.heap.size) hr3668 (fun hst => ⟨l3399, A3400, cap3401, fp3402, 0, rfl, Fr.of hst (by kernel_rfl), F3406, F3407, F3408, F3409, F3410, F3411, F3412, G3413, D3414, D3415, hB, hZ⟩) ?_
              rintro _ c3671 a' w3649 ⟨l3650, A3651, cap3652, fp3653, x3655, rfl, hF3656, F3657, F3658, F3659, F3660, F3661, F3662, F3663, G3664, D3665, D3666, hB, hZ⟩ hx3672
              refine Fr.goOn hF3656 (by kernel_rfl) ?_
              have hm := hx3672
              unfold m_spec_l07Groups_bimplWiring_s15 at hm
              refine cW_seq ?_
              refine cW_seq ?_
              refine cW_region ?_
              refine wS_pure 4 [(35, .pointer (some ⟨b0, 0, none⟩)), (34, .pointer (some ⟨b0, 0, none⟩)), (33, .pointer (some ⟨b0, 0, none⟩)), (32, .int .i64 (x3655))] (by kernel_rfl) ?_
              refine wS_load1 (d := 36) (T := 2) (ad := ⟨b0, 0, none⟩) (v := .int .i64 (q0_0)) (by kernel_rfl) vt2 ((F3660).cell 0) ?_
              refine wS_pure 1 [(37, .bool (decide (x3655 < q0_0)))] (by kernel_rfl) ?_
              refine wS_end (by rfl) ?_
              refine eX_then ?_
              refine cW_cond (t := decide (x3655 < q0_0)) (by kernel_rfl) (fun hb3673 => ?_) (fun hb3673 => ?_)
              · have hm := condT hb3673 hm
                refine cW_skip ?_
                refine eX_then ?_
                refine cW_seq ?_
                refine cW_block ?_
                obtain ⟨s3727, hs3728, hm⟩ := bindE hm
                refine cW_cut (fun a' w' => ∃ l3711 : List (Int), ∃ A3712 : Option Addr, ∃ cap3713 : Nat, ∃ fp3714 : List Nat, l3711 = s3727 ∧ Fr 78 [(0, .pointer (some ⟨b0, 0, none⟩)), (3, .slice A2627 (l2626).length cap2628), (4, .slice A2633 (l2632).length cap2634), (5, .int .i64 (x2637)), (6, .slice A3712 (l3711).length cap3713), (7, .int .i64 (x3404)), (8, .int .i64 (x3655))] a' ∧ SlR 1 encI w' fp0_1 A0_1 l0_1 ∧ SlR 1 encI w' fp0_2 A0_2 l0_2 ∧ Sl 1 encI w' fp0_3 A0_3 l0_3 ∧ Cl w' b0 27 [.int .i64 (q0_0), .slice A0_1 (l0_1).length cap0_1, .slice A0_2 (l0_2).length cap0_2, .slice A0_3 (l0_3).length cap0_3] ∧ OwR 1 encI 25 2 w' fp2629 fr2631 A2627 cap2628 l2626 ∧ Ow 1 encI 2 w' fp2635 A2633 cap2634 l2632 ∧ Ow 1 encI 2 w' fp3714 A3712 cap3713 l3711 ∧ (∀ x ∈ fp3714, w0.heap.size ≤ x) ∧ Dj (fp2629 ++ fr2631) fp3714 ∧ Dj fp2635 fp3714 ∧ Chg [] w0 w' ∧ w0.heap.size ≤ w'.heap.size) ?_ ?_
                · have hm := hs3728
                  refine cW_seq ?_
                  refine cW_region ?_
                  refine wS_pure 3 [(42, .int .i64 (x3404)), (41, .slice A3651 (l3650).length cap3652), (40, .pointer (some ⟨b0, 0, none⟩))] (by kernel_rfl) ?_
                  obtain ⟨x3729, hx3730, hm⟩ := bindE hm
                  refine wS_idx (d := 43) (T := 25) (A := A3651) (n := (l3650).length) (cap := cap3652) (kd := .i64) (m := x3404) (by kernel_rfl) sl25 ((F3663.sl encI_ok).is hx3730) ?_
                  refine wS_load1 (d := 44) (T := 2) (ad := (elA A3651 1 (x3404) 0)) (v := .int .i64 (x3729)) (by kernel_rfl) vt2 (Sl.cell (F3663.sl encI_ok) hx3730 0 (by rfl)) ?_
                  refine wS_pure 1 [(45, .int .i64 (x3655))] (by kernel_rfl) ?_
                  obtain ⟨y3731, hy3732, hm⟩ := bindE hm
                  refine wS_calls (d := 46) (f := 120) (vs := [.pointer (some ⟨b0, 0, none⟩), .int .i64 (x3729), .int .i64 (x3655)]) (by kernel_rfl) ent120 (c_spec_l07Cross_bimplWiring hy3732 F3657 F3658 F3659 F3660) ?_
                  rintro _ w3733 ⟨rfl, hc3734⟩
                  replace F3657 := F3657.chg hc3734 Dj.nil
                  replace F3658 := F3658.chg hc3734 Dj.nil
                  replace F3659 := F3659.chg hc3734 Dj.nil
                  replace F3660 := F3660.chg hc3734 notNil
                  replace F3661 := F3661.chg hc3734 Dj.nil
                  replace F3662 := F3662.chg hc3734 Dj.nil
                  replace F3663 := F3663.chg hc3734 Dj.nil
                  replace hB := hB.inS hc3734 inNil
                  replace hZ := Nat.le_trans hZ hc3734.size
                  refine ⟨.bool (y3731), rfl, ?_⟩
                  refine wS_pure 1 [(47, .bool (y3731))] (by kernel_rfl) ?_
                  refine wS_bool y3731 (fun hb3735 => ?_) (fun hb3735 => ?_)
                  · have hm := condT hb3735 hm
                    rewrite [hb3735]
                    refine wS_pure 2 [(49, .int .i64 (x3655)), (48, .slice A3651 (l3650).length cap3652)] (by kernel_rfl) ?_
                    obtain ⟨y3736, hy3737, hm⟩ := bindE hm
                    refine wS_calls (d := 50) (f := 119) (vs := [.slice A3651 (l3650).length cap3652, .int .i64 (x3655)]) (by kernel_rfl) ent119 (c_spec_l00Has hy3737 (F3663.sl encI_ok)) ?_
                    rintro _ w3738 ⟨rfl, hc3739⟩
                    replace F3657 := F3657.chg hc3739 Dj.nil
                    replace F3658 := F3658.chg hc3739 Dj.nil
                    replace F3659 := F3659.chg hc3739 Dj.nil
                    replace F3660 := F3660.chg hc3739 notNil
                    replace F3661 := F3661.chg hc3739 Dj.nil
                    replace F3662 := F3662.chg hc3739 Dj.nil
                    replace F3663 := F3663.chg hc3739 Dj.nil
                    replace hB := hB.inS hc3739 inNil
                    replace hZ := Nat.le_trans hZ hc3739.size
                    refine ⟨.bool (y3736), rfl, ?_⟩
                    refine wS_pure 2 [(52, .bool (!y3736)), (51, .bool (!y3736))] (by kernel_rfl) ?_
                    refine wS_end (by rfl) ?_
                    refine eX_then ?_
                    refine cW_prune [(0, .pointer (some ⟨b0, 0, none⟩)), (3, .slice A2627 (l2626).length cap2628), (4, .slice A2633 (l2632).length cap2634), (5, .int .i64 (x2637)), (6, .slice A3651 (l3650).length cap3652), (7, .int .i64 (x3404)), (8, .int .i64 (x3655)), (52, .bool (!y3736))] (by kernel_rfl) (by kernel_rfl) (fun a3740 => ?_)
                    refine cW_cond (t := !y3736) (by kernel_rfl) (fun hb3741 => ?_) (fun hb3741 => ?_)
                    · have hm := condT hb3741 hm
                      refine cW_region ?_
                      refine wS_pure 2 [(54, .int .i64 (x3655)), (53, .slice A3651 (l3650).length cap3652)] (by kernel_rfl) ?_
                      refine wS_bs (enc := encI) ([x3655] : List (Int)) [.int .i64 (x3655)] (d := 55) (t := 25) (T := 2) (n := 1) (ps := [(0, .int .i64 (x3655))]) (by kernel_rfl) el25 encI_ok (by rfl) (by omega) (by omega) (by kernel_rfl) (by rfl) ?_
                      intro b3742 w3743 G3744 F3745 hc3746
                      have D3748 : Dj (fp2629 ++ fr2631) [b3742] := Dj.of F3661.low (low1 G3744)
                      have D3749 : Dj fp2635 [b3742] := Dj.of F3662.low (low1 G3744)
                      have D3750 : Dj fp3653 [b3742] := Dj.of F3663.low (low1 G3744)
                      replace F3657 := F3657.chg hc3746 Dj.nil
                      replace F3658 := F3658.chg hc3746 Dj.nil
                      replace F3659 := F3659.chg hc3746 Dj.nil
                      replace F3660 := F3660.chg hc3746 notNil
                      replace F3661 := F3661.chg hc3746 Dj.nil
                      replace F3662 := F3662.chg hc3746 Dj.nil
                      replace F3663 := F3663.chg hc3746 Dj.nil
                      replace hB := hB.inS hc3746 inNil
                      replace G3744 := Nat.le_trans hZ G3744
                      replace G3744 := low1 G3744
                      replace hZ := Nat.le_trans hZ hc3746.size
                      obtain ⟨_, hk3751, hm⟩ := bindE hm
                      replace hk3751 := apE hk3751
                      refine wS_append (enc := encI) (l := (l3650 : List (Int))) (l2 := (([x3655] : List (Int)) : List (Int))) (d := 56) (t := 25) (T := 2) (A := A3651) (A2 := (some ⟨b3742, 0, none⟩)) (cap := cap3652) (cap2 := 1) (by kernel_rfl) el25 encI_ok F3663 (F3745.sl encI_ok) (by rfl) hk3751 ?_
                      intro w3752 fp3753 A3754 cap3755 F3756 hc3757 hp3758
                      have G3760 := low_ap G3664 hZ hp3758
                      have D3761 : Dj (fp2629 ++ fr2631) fp3753 := Dj.ap D3665 F3661.low hp3758
                      have D3762 : Dj fp2635 fp3753 := Dj.ap D3666 F3662.low hp3758
                      have D3763 : Dj [b3742] fp3753 := Dj.ap (D3750).symm F3745.low hp3758
                      replace F3657 := F3657.chg hc3757 (Dj.of L0_1 G3664)
                      replace F3658 := F3658.chg hc3757 (Dj.of L0_2 G3664)
                      replace F3659 := F3659.chg hc3757 (Dj.of L0_3 G3664)
                      replace F3660 := F3660.chg hc3757 (dj1 (Dj.of L0 G3664))
                      replace F3661 := F3661.chg hc3757 D3665
                      replace F3662 := F3662.chg hc3757 D3666
                      replace F3745 := F3745.chg hc3757 (D3750).symm
                      replace hB := hB.inS hc3757 (inLow G3664)
                      replace hZ := Nat.le_trans hZ hc3757.size
                      refine wS_pure 1 [(6, .slice A3754 (l3650 ++ (([x3655] : List (Int)))).length cap3755)] (by kernel_rfl) ?_
                      refine wS_end (by rfl) ?_
                      have hq : (some (l3650 ++ (([x3655] : List (Int)))) : Option ((List (Int)))) = some _ := hm
                      replace hq := someE hq
                      subst hq
                      exact eX_J (fun hst => ⟨l3650 ++ (([x3655] : List (Int))), A3754, cap3755, fp3753, rfl, Fr.of hst (by kernel_rfl), F3657, F3658, F3659, F3660, F3661, F3662, F3756, G3760, D3761, D3762, hB, hZ⟩)
                    · have hm := condF hb3741 hm
                      refine cW_skip ?_
                      have hq : (some l3650 : Option ((List (Int)))) = some _ := hm
                      replace hq := someE hq
                      subst hq
                      exact eX_J (fun hst => ⟨l3650, A3651, cap3652, fp3653, rfl, Fr.of hst (by kernel_rfl), F3657, F3658, F3659, F3660, F3661, F3662, F3663, G3664, D3665, D3666, hB, hZ⟩)
                  · have hm := condF hb3735 hm
                    rewrite [hb3735]
                    refine wS_pure 5 [(52, .bool (false)), (51, undef), (50, undef), (49, undef), (48, undef)] (by kernel_rfl) ?_
                    refine wS_end (by rfl) ?_
                    refine eX_then ?_
                    refine cW_prune [(0, .pointer (some ⟨b0, 0, none⟩)), (3, .slice A2627 (l2626).length cap2628), (4, .slice A2633 (l2632).length cap2634), (5, .int .i64 (x2637)), (6, .slice A3651 (l3650).length cap3652), (7, .int .i64 (x3404)), (8, .int .i64 (x3655)), (52, .bool (false))] (by kernel_rfl) (by kernel_rfl) (fun a3764 => ?_)
                    refine cW_cond_f (by kernel_rfl) ?_
                    refine cW_skip ?_
                    have hq : (some l3650 : Option ((List (Int)))) = some _ := hm
                    replace hq := someE hq
                    subst hq
                    exact eX_J (fun hst => ⟨l3650, A3651, cap3652, fp3653, rfl, Fr.of hst (by kernel_rfl), F3657, F3658, F3659, F3660, F3661, F3662, F3663, G3664, D3665, D3666, hB, hZ⟩)
                · rintro a' w3710 ⟨l3711, A3712, cap3713, fp3714, hJ, hF3716, F3717, F3718, F3719, F3720, F3721, F3722, F3723, G3724, D3725, D3726, hB, hZ⟩
                  subst hJ
                  refine Fr.goX hF3716 (by kernel_rfl) ?_
                  refine eX_block ?_
                  refine eX_then ?_
                  refine cW_region ?_
                  refine wS_pure 3 [(8, .int .i64 (wr (x3655 + 1))), (39, .int .i64 (wr (x3655 + 1))), (38, .int .i64 (x3655))] (by kernel_rfl) ?_
                  refine wS_end (by rfl) ?_
                  have hq : (some (Ctl.next ((l3711, wr (x3655 + 1)))) : Option (Ctl ((List (Int)) × Int) ((List (Int))))) = some _ := hm
                  replace hq := someE hq
                  subst hq
                  exact eX_next hx3672 (fun hst => ⟨l3711, A3712, cap3713, fp3714, wr (x3655 + 1), rfl, Fr.of hst (by kernel_rfl), F3717, F3718, F3719, F3720, F3721, F3722, F3723, G3724, D3725, D3726, hB, hZ⟩)
              · have hm := condF hb3673 hm
                refine cW_exit ?_
                refine eX_then_exit ?_
                have hq : (some (Ctl.out l3650) : Option (Ctl ((List (Int)) × Int) ((List (Int))))) = some _ := hm
                replace hq := someE hq
                subst hq
                refine eX_outX hx3672 (fun hr3765 => ?_)
                replace hr3765 := hr3765.symm
                subst hr3765
                refine eX_block_hit ?_
                exact eX_J (fun hst => ⟨l3650, A3651, cap3652, fp3653, rfl, Fr.of hst (by kernel_rfl), F3657, F3658, F3659, F3660, F3661, F3662, F3663, G3664, D3665, D3666, hB, hZ⟩)
            · rintro a' w3632 ⟨l3633, A3634, cap3635, fp3636, hJ, hF3638, F3639, F3640, F3641, F3642, F3643, F3644, F3645, G3646, D3647, D3648, hB, hZ⟩
              subst hJ
              refine Fr.goX hF3638 (by kernel_rfl) ?_
              refine eX_block ?_
              refine eX_then ?_
              refine cW_region ?_
              refine wS_pure 3 [(7, .int .i64 (wr (x3404 + 1))), (31, .int .i64 (wr (x3404 + 1))), (30, .int .i64 (x3404))] (by kernel_rfl) ?_
              refine wS_end (by rfl) ?_
              have hq : (some (Ctl.next ((l3633, wr (x3404 + 1)))) : Option (Ctl ((List (Int)) × Int) ((List (Int))))) = some _ := hm
              replace hq := someE hq
              subst hq
              exact eX_next hx3421 (fun hst => ⟨l3633, A3634, cap3635, fp3636, wr (x3404 + 1), rfl, Fr.of hst (by kernel_rfl), F3639, F3640, F3641, F3642, F3643, F3644, F3645, G3646, D3647, D3648, hB, hZ⟩)
          · have hm := condF hb3422 hm
            refine cW_exit ?_
            refine eX_then_exit ?_
            have hq : (some (Ctl.out l3399) : Option (Ctl ((List (Int)) × Int) ((List (Int))))) = some _ := hm
            replace hq := someE hq
            subst hq
            refine eX_outX hx3421 (fun hr3766 => ?_)
            replace hr3766 := hr3766.symm
            subst hr3766
            refine eX_block_hit ?_
            exact eX_J (fun hst => ⟨l3399, A3400, cap3401, fp3402, rfl, Fr.of hst (by kernel_rfl), F3406, F3407, F3408, F3409, F3410, F3411, F3412, G3413, D3414, D3415, hB, hZ⟩)
        · rintro a' w3381 ⟨l3382, A3383, cap3384, fp3385, hJ, hF3387, F3388, F3389, F3390, F3391, F3392, F3393, F3394, G3395, D3396, D3397, hB, hZ⟩
          subst hJ
          refine Fr.goX hF3387 (by kernel_rfl) ?_
          refine eX_then ?_
          refine cW_seq ?_
          refine cW_region ?_
          refine wS_bs0 (α := Int) (enc := encI) (d := 57) (t := 25) (T := 2) (by kernel_rfl) el25 ?_
          intro b3767 w3768 G3769 F3770 hc3771
          have D3773 : Dj (fp2629 ++ fr2631) [b3767] := Dj.of F3392.low (low1 G3769)
          have D3774 : Dj fp2635 [b3767] := Dj.of F3393.low (low1 G3769)
          have D3775 : Dj fp3385 [b3767] := Dj.of F3394.low (low1 G3769)
          replace F3388 := F3388.chg hc3771 Dj.nil
          replace F3389 := F3389.chg hc3771 Dj.nil
          replace F3390 := F3390.chg hc3771 Dj.nil
          replace F3391 := F3391.chg hc3771 notNil
          replace F3392 := F3392.chg hc3771 Dj.nil
          replace F3393 := F3393.chg hc3771 Dj.nil
          replace F3394 := F3394.chg hc3771 Dj.nil
          replace hB := hB.inS hc3771 inNil
          replace G3769 := Nat.le_trans hZ G3769
          replace G3769 := low1 G3769
          replace hZ := Nat.le_trans hZ hc3771.size
          refine wS_pure 1 [(9, .slice (some ⟨b3767, 0, none⟩) (([] : List (Int))).length 0)] (by kernel_rfl) ?_
          refine wS_end (by rfl) ?_
          refine eX_then ?_
          refine cW_seq ?_
          refine cW_seq ?_
          refine cW_region ?_
          refine wS_pure 1 [(10, .int .i64 (0))] (by kernel_rfl) ?_
          refine wS_end (by rfl) ?_
          refine eX_then ?_
          obtain ⟨r3879, hr3880, hm⟩ := bindE hm
          have hm3881 := hm
          refine cW_cut (fun a' w' => ∃ l3841 : List (Int), ∃ A3842 : Option Addr, ∃ cap3843 : Nat, ∃ fp3844 : List Nat, l3841 = r3879 ∧ Fr 78 [(0, .pointer (some ⟨b0, 0, none⟩)), (3, .slice A2627 (l2626).length cap2628), (4, .slice A2633 (l2632).length cap2634), (5, .int .i64 (x2637)), (6, .slice A3383 (l3382).length cap3384), (9, .slice A3842 (l3841).length cap3843)] a' ∧ SlR 1 encI w' fp0_1 A0_1 l0_1 ∧ SlR 1 encI w' fp0_2 A0_2 l0_2 ∧ Sl 1 encI w' fp0_3 A0_3 l0_3 ∧ Cl w' b0 27 [.int .i64 (q0_0), .slice A0_1 (l0_1).length cap0_1, .slice A0_2 (l0_2).length cap0_2, .slice A0_3 (l0_3).length cap0_3] ∧ OwR 1 encI 25 2 w' fp2629 fr2631 A2627 cap2628 l2626 ∧ Ow 1 encI 2 w' fp2635 A2633 cap2634 l2632 ∧ Ow 1 encI 2 w' fp3385 A3383 cap3384 l3382 ∧ Ow 1 encI 2 w' fp3844 A3842 cap3843 l3841 ∧ (∀ x ∈ fp3844, w0.heap.size ≤ x) ∧ Dj (fp2629 ++ fr2631) fp3844 ∧ Dj fp2635 fp3844 ∧ Dj fp3385 fp3844 ∧ Chg [] w0 w' ∧ w0.heap.size ≤ w'.heap.size) ?_ ?_
          · refine cW_block ?_
            refine cW_loop _ (fun (s3882 : (List (Int)) × Int) a' w' => ∃ l3860 : List (Int), ∃ A3861 : Option Addr, ∃ cap3862 : Nat, ∃ fp3863 : List Nat, ∃ x3865 : Int, (l3860, x3865) = s3882 ∧ Fr 78 [(0, .pointer (some ⟨b0, 0, none⟩)), (3, .slice A2627 (l2626).length cap2628), (4, .slice A2633 (l2632).length cap2634), (5, .int .i64 (x2637)), (6, .slice A3383 (l3382).length cap3384), (9, .slice A3861 (l3860).length cap3862), (10, .int .i64 (x3865))] a' ∧ SlR 1 encI w' fp0_1 A0_1 l0_1 ∧ SlR 1 encI w' fp0_2 A0_2 l0_2 ∧ Sl 1 encI w' fp0_3 A0_3 l0_3 ∧ Cl w' b0 27 [.int .i64 (q0_0), .slice A0_1 (l0_1).length cap0_1, .slice A0_2 (l0_2).length cap0_2, .slice A0_3 (l0_3).length cap0_3] ∧ OwR 1 encI 25 2 w' fp2629 fr2631 A2627 cap2628 l2626 ∧ Ow 1 encI 2 w' fp2635 A2633 cap2634 l2632 ∧ Ow 1 encI 2 w' fp3385 A3383 cap3384 l3382 ∧ Ow 1 encI 2 w' fp3863 A3861 cap3862 l3860 ∧ (∀ x ∈ fp3863, w0.heap.size ≤ x) ∧ Dj (fp2629 ++ fr2631) fp3863 ∧ Dj fp2635 fp3863 ∧ Dj fp3385 fp3863 ∧ Chg [] w0 w' ∧ w0.heap.size ≤ w'.heap.size) hr3880 (fun hst => ⟨([] : List (Int)), (some ⟨b3767, 0, none⟩), 0, [b3767], 0, rfl, Fr.of hst (by kernel_rfl), F3388, F3389, F3390, F3391, F3392, F3393, F3394, F3770, G3769, D3773, D3774, D3775, hB, hZ⟩) ?_
            rintro _ c3883 a' w3859 ⟨l3860, A3861, cap3862, fp3863, x3865, rfl, hF3866, F3867, F3868, F3869, F3870, F3871, F3872, F3873, F3874, G3875, D3876, D3877, D3878, hB, hZ⟩ hx3884
            refine Fr.goOn hF3866 (by kernel_rfl) ?_
            have hm := hx3884
            unfold m_spec_l07Groups_bimplWiring_s16 at hm
            refine cW_seq ?_
            refine cW_seq ?_
            refine cW_region ?_
            refine wS_pure 4 [(61, .bool (decide (x3865 < (((l3382).length : Int))))), (60, .int .i64 (((l3382).length : Int))), (59, .slice A3383 (l3382).length cap3384), (58, .int .i64 (x3865))] (by kernel_rfl) ?_
            refine wS_end (by rfl) ?_
            refine eX_then ?_
            refine cW_cond (t := decide (x3865 < (((l3382).length : Int)))) (by kernel_rfl) (fun hb3885 => ?_) (fun hb3885 => ?_)
            · have hm := condT hb3885 hm
              refine cW_skip ?_
              refine eX_then ?_
              refine cW_seq ?_
              refine cW_block ?_
              refine cW_region ?_
              refine wS_pure 3 [(66, .int .i64 (x3865)), (65, .slice A3383 (l3382).length cap3384), (64, .slice A3861 (l3860).length cap3862)] (by kernel_rfl) ?_
              obtain ⟨x3886, hx3887, hm⟩ := bindE hm
              refine wS_idx (d := 67) (T := 25) (A := A3383) (n := (l3382).length) (cap := cap3384) (kd := .i64) (m := x3865) (by kernel_rfl) sl25 ((F3873.sl encI_ok).is hx3887) ?_
              refine wS_load1 (d := 68) (T := 2) (ad := (elA A3383 1 (x3865) 0)) (v := .int .i64 (x3886)) (by kernel_rfl) vt2 (Sl.cell (F3873.sl encI_ok) hx3887 0 (by rfl)) ?_
              obtain ⟨y3888, hy3889, hm⟩ := bindE hm
              refine wS_calls (d := 69) (f := 121) (vs := [.slice A3861 (l3860).length cap3862, .int .i64 (x3886)]) (by kernel_rfl) ent121 (c_spec_l00Put hy3889 (F3874.sl encI_ok)) ?_
              rintro _ w3890 ⟨A3892, cap3893, fp3894, rfl, F3895, G3896, hc3891⟩
              have D3899 : Dj (fp2629 ++ fr2631) fp3894 := Dj.of F3871.low G3896
              have D3900 : Dj fp2635 fp3894 := Dj.of F3872.low G3896
              have D3901 : Dj fp3385 fp3894 := Dj.of F3873.low G3896
              have D3902 : Dj fp3863 fp3894 := Dj.of F3874.low G3896
              replace F3867 := F3867.chg hc3891 Dj.nil
              replace F3868 := F3868.chg hc3891 Dj.nil
              replace F3869 := F3869.chg hc3891 Dj.nil
              replace F3870 := F3870.chg hc3891 notNil
              replace F3871 := F3871.chg hc3891 Dj.nil
              replace F3872 := F3872.chg hc3891 Dj.nil
              replace F3873 := F3873.chg hc3891 Dj.nil
              replace F3874 := F3874.chg hc3891 Dj.nil
              replace hB := hB.inS hc3891 inNil
              replace G3896 := low_le hZ G3896
              replace hZ := Nat.le_trans hZ hc3891.size
              refine ⟨.slice A3892 (y3888).length cap3893, rfl, ?_⟩
              refine wS_pure 1 [(9, .slice A3892 (y3888).length cap3893)] (by kernel_rfl) ?_
              refine wS_end (by rfl) ?_
              refine eX_block ?_
              refine eX_then ?_
              refine cW_region ?_
              refine wS_pure 3 [(10, .int .i64 (wr (x3865 + 1))), (63, .int .i64 (wr (x3865 + 1))), (62, .int .i64 (x3865))] (by kernel_rfl) ?_
              refine wS_end (by rfl) ?_
              have hq : (some (Ctl.next ((y3888, wr (x3865 + 1)))) : Option (Ctl ((List (Int)) × Int) ((List (Int))))) = some _ := hm
              replace hq := someE hq
              subst hq
              exact eX_next hx3884 (fun hst => ⟨y3888, A3892, cap3893, fp3894, wr (x3865 + 1), rfl, Fr.of hst (by kernel_rfl), F3867, F3868, F3869, F3870, F3871, F3872, F3873, F3895, G3896, D3899, D3900, D3901, hB, hZ⟩)
            · have hm := condF hb3885 hm
              refine cW_exit ?_
              refine eX_then_exit ?_
              have hq : (some (Ctl.out l3860) : Option (Ctl ((List (Int)) × Int) ((List (Int))))) = some _ := hm
              replace hq := someE hq
              subst hq
              refine eX_outX hx3884 (fun hr3903 => ?_)
              replace hr3903 := hr3903.symm
              subst hr3903
              refine eX_block_hit ?_
              exact eX_J (fun hst => ⟨l3860, A3861, cap3862, fp3863, rfl, Fr.of hst (by kernel_rfl), F3867, F3868, F3869, F3870, F3871, F3872, F3873, F3874, G3875, D3876, D3877, D3878, hB, hZ⟩)
          · rintro a' w3840 ⟨l3841, A3842, cap3843, fp3844, hJ, hF3846, F3847, F3848, F3849, F3850, F3851, F3852, F3853, F3854, G3855, D3856, D3857, D3858, hB, hZ⟩
            subst hJ
            refine Fr.goX hF3846 (by kernel_rfl) ?_
            refine eX_then ?_
            refine cW_seq ?_
            refine cW_region ?_
            refine wS_pure 2 [(71, .slice A3383 (l3382).length cap3384), (70, .slice A2633 (l2632).length cap2634)] (by kernel_rfl) ?_
            obtain ⟨_, hk3904, hm⟩ := bindE hm
            replace hk3904 := apE hk3904
            refine wS_appendAny (enc := encI) (l := (l2632 : List (Int))) (l2 := (l3382 : List (Int))) (d := 72) (t := 25) (T := 2) (A := A2633) (A2 := A3383) (cap := cap2634) (cap2 := cap3384) (by kernel_rfl) el25 encI_ok F3852 (F3853.sl encI_ok) hk3904 ?_
            intro w3905 fp3906 A3907 cap3908 F3909 hc3910 hp3911
            have G3913 := low_ap G2646 hZ hp3911
            have D3914 : Dj (fp2629 ++ fr2631) fp3906 := Dj.ap (D2647).symm F3851.low hp3911
            have D3915 : Dj fp3385 fp3906 := Dj.ap (D3397).symm F3853.low hp3911
            have D3916 : Dj fp3844 fp3906 := Dj.ap (D3857).symm F3854.low hp3911
            replace F3847 := F3847.chg hc3910 (Dj.of L0_1 G2646)
            replace F3848 := F3848.chg hc3910 (Dj.of L0_2 G2646)
            replace F3849 := F3849.chg hc3910 (Dj.of L0_3 G2646)
            replace F3850 := F3850.chg hc3910 (dj1 (Dj.of L0 G2646))
            replace F3851 := F3851.chg hc3910 (D2647).symm
            replace F3853 := F3853.chg hc3910 (D3397).symm
            replace F3854 := F3854.chg hc3910 (D3857).symm
            replace hB := hB.inS hc3910 (inLow G2646)
            replace hZ := Nat.le_trans hZ hc3910.size
            refine wS_pure 1 [(4, .slice A3907 (l2632 ++ l3382).length cap3908)] (by kernel_rfl) ?_
            refine wS_end (by rfl) ?_
            refine eX_then ?_
            refine cW_region ?_
            refine wS_pure 2 [(74, .slice A3842 (l3841).length cap3843), (73, .slice A2627 (l2626).length cap2628)] (by kernel_rfl) ?_
            refine wS_row1 (k := 1) (enc := encI) (l := l3841) (d := 75) (t := 24) (T := 25) (B := A3842) (c := cap3843) (by kernel_rfl) el24 F3854 ?_
            intro b3917 w3918 G3919 F3920 hc3921
            have D3923 : Dj (fp2629 ++ fr2631) ([b3917] ++ fp3844) := Dj.app (Dj.of F3851.low (low1 G3919)) D3856
            have D3924 : Dj fp3385 ([b3917] ++ fp3844) := Dj.app (Dj.of F3853.low (low1 G3919)) D3858
            have D3925 : Dj fp3906 ([b3917] ++ fp3844) := Dj.app (Dj.of F3909.low (low1 G3919)) (D3916).symm
            replace F3847 := F3847.chg hc3921 Dj.nil
            replace F3848 := F3848.chg hc3921 Dj.nil
            replace F3849 := F3849.chg hc3921 Dj.nil
            replace F3850 := F3850.chg hc3921 notNil
            replace F3851 := F3851.chg hc3921 Dj.nil
            replace F3853 := F3853.chg hc3921 Dj.nil
            replace F3854 := F3854.chg hc3921 Dj.nil
            replace F3909 := F3909.chg hc3921 Dj.nil
            replace hB := hB.inS hc3921 inNil
            replace G3919 := Nat.le_trans hZ G3919
            replace G3919 := lowApp (low1 G3919) G3855
            replace hZ := Nat.le_trans hZ hc3921.size
            replace F3854 := (F3854.sl encI_ok)
            obtain ⟨_, hk3926, hm⟩ := bindE hm
            replace hk3926 := apE hk3926
            refine wS_appendR (k := 1) (enc := encI) (ll := (l2626 : List (List (Int)))) (ll2 := (([l3841] : List (List (Int))) : List (List (Int)))) (d := 76) (t := 24) (T := 25) (A := A2627) (A2 := (some ⟨b3917, 0, none⟩)) (cap := cap2628) (cap2 := 1) (by kernel_rfl) el24 F3851 F3920 (by rfl) D3923 hk3926 ?_
            intro w3927 fp3928 A3929 cap3930 F3931 hc3932 hp3933
            have G3935 := lowApp (low_ap (low_inl G2645) hZ hp3933) (lowApp (low_inr G2645) (low_inr G3919))
            have D3936 : Dj fp3385 (fp3928 ++ (fr2631 ++ fp3844)) := Dj.app (Dj.ap (Dj.inl (D3396).symm) F3853.low hp3933) (Dj.app (Dj.inr (D3396).symm) (Dj.inr D3924))
            have D3937 : Dj fp3906 (fp3928 ++ (fr2631 ++ fp3844)) := Dj.app (Dj.ap (Dj.inl (D3914).symm) F3909.low hp3933) (Dj.app (Dj.inr (D3914).symm) (Dj.inr D3925))
            replace F3847 := F3847.chg hc3932 (Dj.inl (Dj.of L0_1 G2645))
            replace F3848 := F3848.chg hc3932 (Dj.inl (Dj.of L0_2 G2645))
            replace F3849 := F3849.chg hc3932 (Dj.inl (Dj.of L0_3 G2645))
            replace F3850 := F3850.chg hc3932 (dj1 (Dj.inl (Dj.of L0 G2645)))
            replace F3853 := F3853.chg hc3932 (Dj.inl (D3396).symm)
            replace F3909 := F3909.chg hc3932 (Dj.inl (D3914).symm)
            replace hB := hB.inS hc3932 (memS_inl (inLow G2645))
            replace hZ := Nat.le_trans hZ hc3932.size
            refine wS_pure 1 [(3, .slice A3929 (l2626 ++ (([l3841] : List (List (Int))))).length cap3930)] (by kernel_rfl) ?_
            refine wS_end (by rfl) ?_
            refine eX_block ?_
            refine eX_then ?_
            refine cW_region ?_
            refine wS_pure 3 [(5, .int .i64 (wr (x2637 + 1))), (20, .int .i64 (wr (x2637 + 1))), (19, .int .i64 (x2637))] (by kernel_rfl) ?_
            refine wS_end (by rfl) ?_
            have hq : (some (Ctl.next ((l2626 ++ (([l3841] : List (List (Int)))), l2632 ++ l3382, wr (x2637 + 1)))) : Option (Ctl ((List (List (Int))) × (List (Int)) × Int) ((List (List (Int)))))) = some _ := hm
            replace hq := someE hq
            subst hq
            exact eX_next hx2653 (fun hst => ⟨l2626 ++ (([l3841] : List (List (Int)))), A3929, cap3930, fp3928, (fr2631 ++ fp3844), l2632 ++ l3382, A3907, cap3908, fp3906, wr (x2637 + 1), rfl, Fr.of hst (by kernel_rfl), F3847, F3848, F3849, F3850, F3931, F3909, G3935, G3913, D3937, hB, hZ⟩)
    · have hm := condF hb2654 hm
      refine cW_exit ?_
      refine eX_then_exit ?_
      have hq : (some (Ctl.out l2626) : Option (Ctl ((List (List (Int))) × (List (Int)) × Int) ((List (List (Int)))))) = some _ := hm
      replace hq := someE hq
      subst hq
      refine eX_outX hx2653 (fun hr3938 => ?_)
      replace hr3938 := hr3938.symm
      subst hr3938
      refine eX_block_hit ?_
      exact eX_J (fun hst => ⟨l2626, A2627, cap2628, fp2629, fr2631, rfl, Fr.of hst (by kernel_rfl), F2643, G2645, hB, hZ⟩)
  · rintro a' w2615 ⟨l2616, A2617, cap2618, fp2619, fr2621, hJ, hF2622, F2623, G2624, hB, hZ⟩
    subst hJ
    refine Fr.goX hF2622 (by kernel_rfl) ?_
    refine eX_then ?_
    refine cW_seq ?_
    refine cW_region ?_
    refine wS_pure 2 [(2, .slice A2617 (l2616).length cap2618), (77, .slice A2617 (l2616).length cap2618)] (by kernel_rfl) ?_
    refine wS_end (by rfl) ?_
    refine eX_then ?_
    refine cW_ret ?_
    have hq : (some l2616 : Option ((List (List (Int))))) = some _ := hm
    replace hq := someE hq
    subst hq
    refine eX_ret (vs := [.slice A2617 (l2616).length cap2618]) [.tmp 2] (by rfl) ⟨by (show lkE _ _ _ = _); kernel_rfl, trivial⟩ ?_
    exact ⟨A2617, cap2618, fp2619, fr2621, rfl, F2623, G2624, hB⟩

set_option maxRecDepth 100000 in
/-- spec.GroupsOf -/
theorem c_spec_GroupsOf {w0 : World} {p0_0 : Int} {l0_1 : List (List (Int))} {A0_1 : Option Addr} {cap0_1 : Nat} {fp0_1 : List Nat} {l0_2 : List (List (Int))} {A0_2 : Option Addr} {cap0_2 : Nat} {fp0_2 : List Nat} {l0_3 : List (Int)} {A0_3 : Option Addr} {cap0_3 : Nat} {fp0_3 : List Nat} {r : (List (List (Int))) × (Bool)} (hm : m_spec_GroupsOf p0_0 l0_1 l0_2 l0_3 = some r) (F0_1 : SlR 1 encI w0 fp0_1 A0_1 l0_1) (F0_2 : SlR 1 encI w0 fp0_2 A0_2 l0_2) (F0_3 : Sl 1 encI w0 fp0_3 A0_3 l0_3) :
    Calls Try.prog 46 #[.agg #[.int .i64 (p0_0), .slice A0_1 (l0_1).length cap0_1, .slice A0_2 (l0_2).length cap0_2, .slice A0_3 (l0_3).length cap0_3]] w0 fun e w' => ∃ A100 cap100 fp100 fr100, e = .returned (.tuple #[.slice A100 (r.1).length cap100, .bool (r.2)]) ∧ OwR 1 encI 25 2 w' fp100 fr100 A100 cap100 r.1 ∧ (∀ x ∈ fp100 ++ fr100, w0.heap.size ≤ x) ∧ Chg [] w0 w' := by
  have L0_1 := F0_1.low
  have L0_2 := F0_2.low
  have L0_3 := F0_3.low
  have hB : Chg [] w0 w0 := Chg.refl _ _
  have hZ := Nat.le_refl w0.heap.size
  unfold m_spec_GroupsOf at hm
  refine enterE (N := 7) Try.func46 (by rfl) Try.ntmps46 (by simp) [(0, .agg #[.int .i64 (p0_0), .slice A0_1 (l0_1).length cap0_1, .slice A0_2 (l0_2).length cap0_2, .slice A0_3 (l0_3).length cap0_3])] (by rfl) (by kernel_rfl) (fun a => ?_)
  refine cW_seq ?_
  refine cW_region ?_
  refine wS_box (d := 1) (T := 27) (x := .agg #[.int .i64 (p0_0), .slice A0_1 (l0_1).length cap0_1, .slice A0_2 (l0_2).length cap0_2, .slice A0_3 (l0_3).length cap0_3]) (by kernel_rfl) ?_
  intro b4 w5 G6 F7 hc8
  replace F7 : Cl w5 b4 27 [.int .i64 (p0_0), .slice A0_1 (l0_1).length cap0_1, .slice A0_2 (l0_2).length cap0_2, .slice A0_3 (l0_3).length cap0_3] := F7
  replace F0_1 := F0_1.chg hc8 Dj.nil
  replace F0_2 := F0_2.chg hc8 Dj.nil
  replace F0_3 := F0_3.chg hc8 Dj.nil
  replace hB := hB.inS hc8 inNil
  replace G6 := Nat.le_trans hZ G6
  replace hZ := Nat.le_trans hZ hc8.size
  refine wS_pure 2 [(3, .bool (false)), (2, .slice none 0 0)] (by kernel_rfl) ?_
  refine wS_end (by rfl) ?_
  refine eX_then ?_
  refine cW_seq ?_
  refine cW_seq ?_
  refine cW_region ?_
  obtain ⟨y10, hy11, hm⟩ := bindE hm
  refine wS_calls (d := 4) (f := 63) (vs := [.pointer (some ⟨b4, 0, none⟩)]) (by kernel_rfl) ent63 (c_spec_l07Is_bimplWiring hy11 F0_1 F0_2 F0_3 F7) ?_
  rintro _ w12 ⟨rfl, hc13⟩
  replace F0_1 := F0_1.chg hc13 Dj.nil
  replace F0_2 := F0_2.chg hc13 Dj.nil
  replace F0_3 := F0_3.chg hc13 Dj.nil
  replace F7 := F7.chg hc13 notNil
  replace hB := hB.inS hc13 inNil
  replace hZ := Nat.le_trans hZ hc13.size
  refine ⟨.bool (y10), rfl, ?_⟩
  refine wS_pure 1 [(5, .bool (!y10))] (by kernel_rfl) ?_
  refine wS_end (by rfl) ?_
  refine eX_then ?_
  refine cW_cond (t := !y10) (by kernel_rfl) (fun hb14 => ?_) (fun hb14 => ?_)
  · have hm := condT hb14 hm
    refine cW_seq ?_
    refine cW_region ?_
    refine wS_pure 2 [(3, .bool (false)), (2, .slice none 0 0)] (by kernel_rfl) ?_
    refine wS_end (by rfl) ?_
    refine eX_then ?_
    refine cW_ret ?_
    refine eX_then_ret ?_
    have hq : (some (([], false)) : Option ((List (List (Int))) × (Bool))) = some _ := hm
    replace hq := someE hq
    subst hq
    refine eX_ret (vs := [.slice none 0 0, .bool (false)]) [.tmp 2, .tmp 3] (by rfl) ⟨by (show lkE _ _ _ = _); kernel_rfl, ⟨by (show lkE _ _ _ = _); kernel_rfl, trivial⟩⟩ ?_
    exact ⟨none, 0, [], [], rfl, OwR.nil _, (lowApp lowNil lowNil), hB⟩
  · have hm := condF hb14 hm
    refine cW_skip ?_
    refine eX_then ?_
    refine cW_seq ?_
    refine cW_region ?_
    obtain ⟨y15, hy16, hm⟩ := bindE hm
    refine wS_calls (d := 6) (f := 84) (vs := [.pointer (some ⟨b4, 0, none⟩)]) (by kernel_rfl) ent84 (c_spec_l07Groups_bimplWiring hy16 F0_1 F0_2 F0_3 F7) ?_
    rintro _ w17 ⟨A19, cap20, fp21, fr24, rfl, F22, G23, hc18⟩
    have D26 : Dj [b4] (fp21 ++ fr24) := Dj.of (lt1 F7.lt) G23
    replace F0_1 := F0_1.chg hc18 Dj.nil
    replace F0_2 := F0_2.chg hc18 Dj.nil
    replace F0_3 := F0_3.chg hc18 Dj.nil
    replace F7 := F7.chg hc18 notNil
    replace hB := hB.inS hc18 inNil
    replace G23 := low_le hZ G23
    replace hZ := Nat.le_trans hZ hc18.size
    refine ⟨.slice A19 (y15).length cap20, rfl, ?_⟩
    refine wS_pure 2 [(3, .bool (true)), (2, .slice A19 (y15).length cap20)] (by kernel_rfl) ?_
    refine wS_end (by rfl) ?_
    refine eX_then ?_
    refine cW_ret ?_
    have hq : (some ((y15, true)) : Option ((List (List (Int))) × (Bool))) = some _ := hm
    replace hq := someE hq
    subst hq
    refine eX_ret (vs := [.slice A19 (y15).length cap20, .bool (true)]) [.tmp 2, .tmp 3] (by rfl) ⟨by (show lkE _ _ _ = _); kernel_rfl, ⟨by (show lkE _ _ _ = _); kernel_rfl, trivial⟩⟩ ?_
    exact ⟨A19, cap20, fp21, fr24, rfl, F22, G23, hB⟩

set_option maxRecDepth 100000 in
/-- impl.Wiring).groups -/
theorem c_impl_Wiring_groups_bimplWiring {w0 : World} {q0_0 : Int} {l0_1 : List (List (Int))} {A0_1 : Option Addr} {cap0_1 : Nat} {fp0_1 : List Nat} {l0_2 : List (List (Int))} {A0_2 : Option Addr} {cap0_2 : Nat} {fp0_2 : List Nat} {l0_3 : List (Int)} {A0_3 : Option Addr} {cap0_3 : Nat} {fp0_3 : List Nat} {b0 : Nat} {r : (List (List (Int)))} (hm : m_impl_Wiring_groups_bimplWiring q0_0 l0_1 l0_2 l0_3 = some r) (F0_1 : SlR 1 encI w0 fp0_1 A0_1 l0_1) (F0_2 : SlR 1 encI w0 fp0_2 A0_2 l0_2) (F0_3 : Sl 1 encI w0 fp0_3 A0_3 l0_3) (F0 : Cl w0 b0 27 [.int .i64 (q0_0), .slice A0_1 (l0_1).length cap0_1, .slice A0_2 (l0_2).length cap0_2, .slice A0_3 (l0_3).length cap0_3]) :
    Calls Try.prog 85 #[.pointer (some ⟨b0, 0, none⟩)] w0 fun e w' => ∃ A100 cap100 fp100 fr100, e = .returned (.slice A100 (r).length cap100) ∧ OwR 1 encI 25 2 w' fp100 fr100 A100 cap100 r ∧ (∀ x ∈ fp100 ++ fr100, w0.heap.size ≤ x) ∧ Chg [] w0 w' := by
  have L0_1 := F0_1.low
  have L0_2 := F0_2.low
  have L0_3 := F0_3.low
  have L0 := lt1 F0.lt
  have hB : Chg [] w0 w0 := Chg.refl _ _
  have hZ := Nat.le_refl w0.heap.size
  unfold m_impl_Wiring_groups_bimplWiring at hm
  refine enterE (N := 51) Try.func85 (by rfl) Try.ntmps85 (by simp) [(0, .pointer (some ⟨b0, 0, none⟩))] (by rfl) (by kernel_rfl) (fun a => ?_)
  refine cW_seq ?_
  refine cW_region ?_
  refine wS_pure 1 [(2, .slice none 0 0)] (by kernel_rfl) ?_
  refine wS_end (by rfl) ?_
  refine eX_then ?_
  refine cW_seq ?_
  refine cW_region ?_
  refine wS_pure 1 [(10, .pointer (some ⟨b0, 0, none⟩))] (by kernel_rfl) ?_
  obtain ⟨y5, hy6, hm⟩ := bindE hm
  refine wS_calls (d := 11) (f := 55) (vs := [.pointer (some ⟨b0, 0, none⟩)]) (by kernel_rfl) ent55 (c_impl_Wiring_crossed_bimplWiring hy6 F0_1 F0_2 F0_3 F0) ?_
  rintro _ w7 ⟨A9, cap10, fp11, fr14, rfl, F12, G13, hc8⟩
  replace F0_1 := F0_1.chg hc8 Dj.nil
  replace F0_2 := F0_2.chg hc8 Dj.nil
  replace F0_3 := F0_3.chg hc8 Dj.nil
  replace F0 := F0.chg hc8 notNil
  replace hB := hB.inS hc8 inNil
  replace G13 := low_le hZ G13
  replace hZ := Nat.le_trans hZ hc8.size
  refine ⟨.slice A9 (y5).length cap10, rfl, ?_⟩
  refine wS_rows0 (k := 1) (enc := encI) (d := 12) (t := 24) (T := 25) (T2 := 2) (by kernel_rfl) el24 ?_
  intro b16 w17 G18 F19 hc20
  have D22 : Dj (fp11 ++ fr14) ([b16] ++ []) := Dj.of F12.low (lowApp (low1 G18) lowNil)
  replace F0_1 := F0_1.chg hc20 Dj.nil
  replace F0_2 := F0_2.chg hc20 Dj.nil
  replace F0_3 := F0_3.chg hc20 Dj.nil
  replace F0 := F0.chg hc20 notNil
  replace F12 := F12.chg hc20 Dj.nil
  replace hB := hB.inS hc20 inNil
  replace G18 := Nat.le_trans hZ G18
  replace G18 := low1 G18
  replace hZ := Nat.le_trans hZ hc20.size
  replace G18 := lowApp G18 lowNil
  refine wS_pure 2 [(4, .slice (some ⟨b16, 0, none⟩) (([] : List (List (Int)))).length 0), (3, .slice A9 (y5).length cap10)] (by kernel_rfl) ?_
  refine wS_end (by rfl) ?_
  refine eX_then ?_
  refine cW_seq ?_
  refine cW_region ?_
  refine wS_pure 2 [(14, .int .i64 (((y5).length : Int))), (13, .slice A9 (y5).length cap10)] (by kernel_rfl) ?_
  obtain ⟨_, hk23, hm⟩ := bindE hm
  replace hk23 := mkE hk23
  refine wS_make (enc := encB) (x0 := (false : Bool)) (d := 15) (t := 147) (T := 4) (k1 := .i64) (k2 := .i64) (m := ((y5).length : Int)) (by kernel_rfl) el147 encB_ok (by rfl) hk23.1 hk23.2 ?_
  intro b24 w25 G26 F27 hc28
  have D30 : Dj (fp11 ++ fr14) [b24] := Dj.of F12.low (low1 G26)
  have D31 : Dj ([b16] ++ []) [b24] := Dj.of F19.low (low1 G26)
  replace F0_1 := F0_1.chg hc28 Dj.nil
  replace F0_2 := F0_2.chg hc28 Dj.nil
  replace F0_3 := F0_3.chg hc28 Dj.nil
  replace F0 := F0.chg hc28 notNil
  replace F12 := F12.chg hc28 Dj.nil
  replace F19 := F19.chg hc28 Dj.nil
  replace hB := hB.inS hc28 inNil
  replace G26 := Nat.le_trans hZ G26
  replace G26 := low1 G26
  replace hZ := Nat.le_trans hZ hc28.size
  refine wS_pure 1 [(5, .slice (some ⟨b24, 0, none⟩) (List.replicate (Int.toNat (((y5).length : Int))) ((false : Bool))).length (Int.toNat (((y5).length : Int))))] (by kernel_rfl) ?_
  refine wS_end (by rfl) ?_
  refine eX_then ?_
  refine cW_seq ?_
  refine cW_seq ?_
  refine cW_region ?_
  refine wS_pure 3 [(18, .int .i64 (0)), (17, .int .i64 (((y5).length : Int))), (16, .slice A9 (y5).length cap10)] (by kernel_rfl) ?_
  refine wS_end (by rfl) ?_
  refine eX_then ?_
  obtain ⟨r841, hr842, hm⟩ := bindE hm
  have hm843 := hm
  refine cW_cut (fun a' w' => ∃ l816 : List (List (Int)), ∃ A817 : Option Addr, ∃ cap818 : Nat, ∃ fp819 : List Nat, ∃ fr821 : List Nat, l816 = r841 ∧ Fr 51 [(4, .slice A817 (l816).length cap818)] a' ∧ OwR 1 encI 25 2 w' fp819 fr821 A817 cap818 l816 ∧ (∀ x ∈ (fp819 ++ fr821), w0.heap.size ≤ x) ∧ Chg [] w0 w' ∧ w0.heap.size ≤ w'.heap.size) ?_ ?_
  · refine cW_block ?_
    refine cW_loop _ (fun (s844 : (List (List (Int))) × Int × (List (Bool))) a' w' => ∃ l826 : List (List (Int)), ∃ A827 : Option Addr, ∃ cap828 : Nat, ∃ fp829 : List Nat, ∃ fr831 : List Nat, ∃ x832 : Int, ∃ l833 : List (Bool), (l826, x832, l833) = s844 ∧ Fr 51 [(3, .slice A9 (y5).length cap10), (4, .slice A827 (l826).length cap828), (5, .slice (some ⟨b24, 0, none⟩) (l833).length (Int.toNat (((y5).length : Int)))), (17, .int .i64 (((y5).length : Int))), (18, .int .i64 (x832))] a' ∧ OwR 1 encI 75 3 w' fp11 fr14 A9 cap10 y5 ∧ Ow 1 encB 4 w' [b24] (some ⟨b24, 0, none⟩) (Int.toNat (((y5).length : Int))) l833 ∧ OwR 1 encI 25 2 w' fp829 fr831 A827 cap828 l826 ∧ (∀ x ∈ (fp829 ++ fr831), w0.heap.size ≤ x) ∧ Dj (fp11 ++ fr14) (fp829 ++ fr831) ∧ Dj [b24] (fp829 ++ fr831) ∧ Chg [] w0 w' ∧ w0.heap.size ≤ w'.heap.size) hr842 (fun hst => ⟨([] : List (List (Int))), (some ⟨b16, 0, none⟩), 0, [b16], [], 0, List.replicate (Int.toNat (((y5).length : Int))) ((false : Bool)), rfl, Fr.of hst (by kernel_rfl), F12, F27, F19, G18, D22, (D31).symm, hB, hZ⟩) ?_
    rintro _ c845 a' w825 ⟨l826, A827, cap828, fp829, fr831, x832, l833, rfl, hF834, F835, F836, F837, G838, D839, D840, hB, hZ⟩ hx846
    refine Fr.goOn hF834 (by kernel_rfl) ?_
    have hm := hx846
    unfold m_impl_Wiring_groups_bimplWiring_s3 at hm
    refine cW_seq ?_
    refine cW_region ?_
    refine wS_pure 1 [(19, .bool (decide (x832 < (((y5).length : Int)))))] (by kernel_rfl) ?_
    refine wS_end (by rfl) ?_
    refine eX_then ?_
    refine cW_seq ?_
    refine cW_cond (t := decide (x832 < (((y5).length : Int)))) (by kernel_rfl) (fun hb847 => ?_) (fun hb847 => ?_)
    · have hm := condT hb847 hm
      refine cW_skip ?_
      refine eX_then ?_
      refine cW_seq ?_
      refine cW_block ?_
      refine cW_seq ?_
      refine cW_region ?_
      refine wS_pure 2 [(6, .int .i64 (x832)), (20, .int .i64 (x832))] (by kernel_rfl) ?_
      refine wS_end (by rfl) ?_
      refine eX_then ?_
      refine cW_seq ?_
      refine cW_seq ?_
      refine cW_region ?_
      refine wS_pure 2 [(22, .int .i64 (x832)), (21, .slice (some ⟨b24, 0, none⟩) (l833).length (Int.toNat (((y5).length : Int))))] (by kernel_rfl) ?_
      obtain ⟨x848, hx849, hm⟩ := bindE hm
      refine wS_idx (d := 23) (T := 147) (A := (some ⟨b24, 0, none⟩)) (n := (l833).length) (cap := (Int.toNat (((y5).length : Int)))) (kd := .i64) (m := x832) (by kernel_rfl) sl147 ((F836.sl encB_ok).is hx849) ?_
      refine wS_load1 (d := 24) (T := 4) (ad := (elA (some ⟨b24, 0, none⟩) 1 (x832) 0)) (v := .bool (x848)) (by kernel_rfl) vt4 (Sl.cell (F836.sl encB_ok) hx849 0 (by rfl)) ?_
      refine wS_end (by rfl) ?_
      refine eX_then ?_
      refine cW_cond (t := x848) (by kernel_rfl) (fun hb850 => ?_) (fun hb850 => ?_)
      · have hm := condT hb850 hm
        refine cW_exit ?_
        refine eX_then_exit ?_
        refine eX_block_hit ?_
        refine eX_then ?_
        refine cW_region ?_
        refine wS_pure 2 [(18, .int .i64 (wr (x832 + 1))), (49, .int .i64 (wr (x832 + 1)))] (by kernel_rfl) ?_
        refine wS_end (by rfl) ?_
        have hq : (some (Ctl.next ((l826, wr (x832 + 1), l833))) : Option (Ctl ((List (List (Int))) × Int × (List (Bool))) ((List (List (Int)))))) = some _ := hm
        replace hq := someE hq
        subst hq
        exact eX_next hx846 (fun hst => ⟨l826, A827, cap828, fp829, fr831, wr (x832 + 1), l833, rfl, Fr.of hst (by kernel_rfl), F835, F836, F837, G838, D839, D840, hB, hZ⟩)
      · have hm := condF hb850 hm
        refine cW_skip ?_
        refine eX_then ?_
        refine cW_seq ?_
        refine cW_region ?_
        refine wS_bs0 (α := Int) (enc := encI) (d := 25) (t := 25) (T := 2) (by kernel_rfl) el25 ?_
        intro b851 w852 G853 F854 hc855
        have D857 : Dj (fp11 ++ fr14) [b851] := Dj.of F835.low (low1 G853)
        have D858 : Dj [b24] [b851] := Dj.of F836.low (low1 G853)
        have D859 : Dj (fp829 ++ fr831) [b851] := Dj.of F837.low (low1 G853)
        replace F835 := F835.chg hc855 Dj.nil
        replace F836 := F836.chg hc855 Dj.nil
        replace F837 := F837.chg hc855 Dj.nil
        replace hB := hB.inS hc855 inNil
        replace G853 := Nat.le_trans hZ G853
        replace G853 := low1 G853
        replace hZ := Nat.le_trans hZ hc855.size
        refine wS_pure 1 [(7, .slice (some ⟨b851, 0, none⟩) (([] : List (Int))).length 0)] (by kernel_rfl) ?_
        refine wS_end (by rfl) ?_
        refine eX_then ?_
        refine cW_seq ?_
        refine cW_seq ?_
        refine cW_region ?_
        refine wS_pure 2 [(27, .int .i64 (x832)), (26, .slice A9 (y5).length cap10)] (by kernel_rfl) ?_
        obtain ⟨y860, hy861, hm⟩ := bindE hm
        refine wS_calls (d := 28) (f := 97) (vs := [.slice A9 (y5).length cap10, .int .i64 (x832)]) (by kernel_rfl) ent97 (c_impl_graph_back hy861 (F835.slr encI_ok)) ?_
        rintro _ w862 ⟨A864, cap865, fp866, rfl, F867, G868, hc863⟩
        have D871 : Dj (fp11 ++ fr14) fp866 := Dj.of F835.low G868
        have D872 : Dj [b24] fp866 := Dj.of F836.low G868
        have D873 : Dj (fp829 ++ fr831) fp866 := Dj.of F837.low G868
        have D874 : Dj [b851] fp866 := Dj.of F854.low G868
        replace F835 := F835.chg hc863 Dj.nil
        replace F836 := F836.chg hc863 Dj.nil
        replace F837 := F837.chg hc863 Dj.nil
        replace F854 := F854.chg hc863 Dj.nil
        replace hB := hB.inS hc863 inNil
        replace G868 := low_le hZ G868
        replace hZ := Nat.le_trans hZ hc863.size
        refine ⟨.slice A864 (y860).length cap865, rfl, ?_⟩
        refine wS_pure 2 [(30, .int .i64 (0)), (29, .int .i64 (((y860).length : Int)))] (by kernel_rfl) ?_
        refine wS_end (by rfl) ?_
        refine eX_then ?_
        obtain ⟨r1112, hr1113, hm⟩ := bindE hm
        have hm1114 := hm
        refine cW_cut (fun a' w' => ∃ l1078 : List (Int), ∃ A1079 : Option Addr, ∃ cap1080 : Nat, ∃ fp1081 : List Nat, ∃ l1083 : List (Bool), (l1078, l1083) = r1112 ∧ Fr 51 [(3, .slice A9 (y5).length cap10), (4, .slice A827 (l826).length cap828), (5, .slice (some ⟨b24, 0, none⟩) (l1083).length (Int.toNat (((y5).length : Int)))), (7, .slice A1079 (l1078).length cap1080), (17, .int .i64 (((y5).length : Int))), (18, .int .i64 (x832))] a' ∧ OwR 1 encI 75 3 w' fp11 fr14 A9 cap10 y5 ∧ Ow 1 encB 4 w' [b24] (some ⟨b24, 0, none⟩) (Int.toNat (((y5).length : Int))) l1083 ∧ OwR 1 encI 25 2 w' fp829 fr831 A827 cap828 l826 ∧ Ow 1 encI 2 w' fp1081 A1079 cap1080 l1078 ∧ (∀ x ∈ fp1081, w0.heap.size ≤ x) ∧ Dj (fp11 ++ fr14) fp1081 ∧ Dj [b24] fp1081 ∧ Dj (fp829 ++ fr831) fp1081 ∧ Chg [] w0 w' ∧ w0.heap.size ≤ w'.heap.size) ?_ ?_
        · refine cW_block ?_
          refine cW_loop _ (fun (s1115 : (List (Int)) × Int × (List (Bool))) a' w' => ∃ l1094 : List (Int), ∃ A1095 : Option Addr, ∃ cap1096 : Nat, ∃ fp1097 : List Nat, ∃ x1099 : Int, ∃ l1100 : List (Bool), (l1094, x1099, l1100) = s1115 ∧ Fr 51 [(3, .slice A9 (y5).length cap10), (4, .slice A827 (l826).length cap828), (5, .slice (some ⟨b24, 0, none⟩) (l1100).length (Int.toNat (((y5).length : Int)))), (7, .slice A1095 (l1094).length cap1096), (17, .int .i64 (((y5).length : Int))), (18, .int .i64 (x832)), (28, .slice A864 (y860).length cap865), (29, .int .i64 (((y860).length : Int))), (30, .int .i64 (x1099))] a' ∧ OwR 1 encI 75 3 w' fp11 fr14 A9 cap10 y5 ∧ Ow 1 encB 4 w' [b24] (some ⟨b24, 0, none⟩) (Int.toNat (((y5).length : Int))) l1100 ∧ OwR 1 encI 25 2 w' fp829 fr831 A827 cap828 l826 ∧ Ow 1 encI 3 w' fp866 A864 cap865 y860 ∧ Ow 1 encI 2 w' fp1097 A1095 cap1096 l1094 ∧ (∀ x ∈ fp1097, w0.heap.size ≤ x) ∧ Dj (fp11 ++ fr14) fp1097 ∧ Dj [b24] fp1097 ∧ Dj (fp829 ++ fr831) fp1097 ∧ Dj fp866 fp1097 ∧ Chg [] w0 w' ∧ w0.heap.size ≤ w'.heap.size) hr1113 (fun hst => ⟨([] : List (Int)), (some ⟨b851, 0, none⟩), 0, [b851], 0, l833, rfl, Fr.of hst (by kernel_rfl), F835, F836, F837, F867, F854, G853, D857, D858, D859, (D874).symm, hB, hZ⟩) ?_
          rintro _ c1116 a' w1093 ⟨l1094, A1095, cap1096, fp1097, x1099, l1100, rfl, hF1101, F1102, F1103, F1104, F1105, F1106, G1107, D1108, D1109, D1110, D1111, hB, hZ⟩ hx1117
          refine Fr.goOn hF1101 (by kernel_rfl) ?_
          have hm := hx1117
          unfold m_impl_Wiring_groups_bimplWiring_s4 at hm
          refine cW_seq ?_
          refine cW_region ?_
          refine wS_pure 1 [(31, .bool (decide (x1099 < (((y860).length : Int)))))] (by kernel_rfl) ?_
          refine wS_end (by rfl) ?_
          refine eX_then ?_
          refine cW_seq ?_
          refine cW_cond (t := decide (x1099 < (((y860).length : Int)))) (by kernel_rfl) (fun hb1118 => ?_) (fun hb1118 => ?_)
          · have hm := condT hb1118 hm
            refine cW_skip ?_
            refine eX_then ?_
            refine cW_seq ?_
            refine cW_block ?_
            obtain ⟨s1171, hs1172, hm⟩ := bindE hm
            refine cW_cut (fun a' w' => ∃ l1154 : List (Int), ∃ A1155 : Option Addr, ∃ cap1156 : Nat, ∃ fp1157 : List Nat, ∃ l1159 : List (Bool), (l1154, l1159) = s1171 ∧ Fr 51 [(3, .slice A9 (y5).length cap10), (4, .slice A827 (l826).length cap828), (5, .slice (some ⟨b24, 0, none⟩) (l1159).length (Int.toNat (((y5).length : Int)))), (7, .slice A1155 (l1154).length cap1156), (17, .int .i64 (((y5).length : Int))), (18, .int .i64 (x832)), (28, .slice A864 (y860).length cap865), (29, .int .i64 (((y860).length : Int))), (30, .int .i64 (x1099))] a' ∧ OwR 1 encI 75 3 w' fp11 fr14 A9 cap10 y5 ∧ Ow 1 encB 4 w' [b24] (some ⟨b24, 0, none⟩) (Int.toNat (((y5).length : Int))) l1159 ∧ OwR 1 encI 25 2 w' fp829 fr831 A827 cap828 l826 ∧ Ow 1 encI 3 w' fp866 A864 cap865 y860 ∧ Ow 1 encI 2 w' fp1157 A1155 cap1156 l1154 ∧ (∀ x ∈ fp1157, w0.heap.size ≤ x) ∧ Dj (fp11 ++ fr14) fp1157 ∧ Dj [b24] fp1157 ∧ Dj (fp829 ++ fr831) fp1157 ∧ Dj fp866 fp1157 ∧ Chg [] w0 w' ∧ w0.heap.size ≤ w'.heap.size) ?_ ?_
            · have hm := hs1172
              refine cW_seq ?_
              refine cW_region ?_
              refine wS_pure 1 [(32, .int .i64 (x1099))] (by kernel_rfl) ?_
              obtain ⟨x1173, hx1174, hm⟩ := bindE hm
              refine wS_idx (d := 33) (T := 75) (A := A864) (n := (y860).length) (cap := cap865) (kd := .i64) (m := x1099) (by kernel_rfl) sl75 ((F1105.sl encI_ok).is hx1174) ?_
              refine wS_load1 (d := 34) (T := 3) (ad := (elA A864 1 (x1099) 0)) (v := .int .i64 (x1173)) (by kernel_rfl) vt3 (Sl.cell (F1105.sl encI_ok) hx1174 0 (by rfl)) ?_
              refine wS_pure 2 [(9, .int .i64 (x1173)), (8, .int .i64 (x1099))] (by kernel_rfl) ?_
              refine wS_end (by rfl) ?_
              refine eX_then ?_
              refine cW_seq ?_
              refine cW_region ?_
              refine wS_pure 2 [(36, .bool (decide (x1173 ≥ 0))), (35, .int .i64 (x1173))] (by kernel_rfl) ?_
              refine wS_end (by rfl) ?_
              refine eX_then ?_
              refine cW_cond (t := decide (x1173 ≥ 0)) (by kernel_rfl) (fun hb1175 => ?_) (fun hb1175 => ?_)
              · have hm := condT hb1175 hm
                refine cW_seq ?_
                refine cW_region ?_
                refine wS_pure 2 [(38, .int .i64 (x1099)), (37, .slice (some ⟨b24, 0, none⟩) (l1100).length (Int.toNat (((y5).length : Int))))] (by kernel_rfl) ?_
                obtain ⟨x1176, hx1177, hm⟩ := bindE hm
                refine wS_idx (d := 39) (T := 147) (A := (some ⟨b24, 0, none⟩)) (n := (l1100).length) (cap := (Int.toNat (((y5).length : Int)))) (kd := .i64) (m := x1099) (by kernel_rfl) sl147 ((F1103.sl encB_ok).is hx1177) ?_
                refine wS_storeEl (x := x1176) true (T := 4) (U := 4) (cap := (Int.toNat (((y5).length : Int)))) (j := 0) (A := (some ⟨b24, 0, none⟩)) (v := .bool (true)) (vs := [.bool (true)]) (m := x1099) (by kernel_rfl) (by rfl) sz4 (by rfl) encB_ok F1103 hx1177 (by simp only [List.length_cons, List.length_nil]; omega) (by rfl) ?_
                intro w1178 F1179 hc1180
                replace F1102 := F1102.chg hc1180 D30
                replace F1104 := F1104.chg hc1180 (D840).symm
                replace F1105 := F1105.chg hc1180 (D872).symm
                replace F1106 := F1106.chg hc1180 (D1109).symm
                replace hB := hB.inS hc1180 (inLow G26)
                replace hZ := Nat.le_trans hZ hc1180.size
                clear F1103
                rewrite [show (l1100).length = (l1100.set (Int.toNat x1099) true).length from (List.length_set ..).symm]
                refine wS_end (by rfl) ?_
                refine eX_then ?_
                refine cW_region ?_
                refine wS_pure 2 [(41, .int .i64 (x1099)), (40, .slice A1095 (l1094).length cap1096)] (by kernel_rfl) ?_
                refine wS_bs (enc := encI) ([x1099] : List (Int)) [.int .i64 (x1099)] (d := 42) (t := 25) (T := 2) (n := 1) (ps := [(0, .int .i64 (x1099))]) (by kernel_rfl) el25 encI_ok (by rfl) (by omega) (by omega) (by kernel_rfl) (by rfl) ?_
                intro b1181 w1182 G1183 F1184 hc1185
                have D1187 : Dj (fp11 ++ fr14) [b1181] := Dj.of F1102.low (low1 G1183)
                have D1188 : Dj [b24] [b1181] := Dj.of F1179.low (low1 G1183)
                have D1189 : Dj (fp829 ++ fr831) [b1181] := Dj.of F1104.low (low1 G1183)
                have D1190 : Dj fp866 [b1181] := Dj.of F1105.low (low1 G1183)
                have D1191 : Dj fp1097 [b1181] := Dj.of F1106.low (low1 G1183)
                replace F1102 := F1102.chg hc1185 Dj.nil
                replace F1179 := F1179.chg hc1185 Dj.nil
                replace F1104 := F1104.chg hc1185 Dj.nil
                replace F1105 := F1105.chg hc1185 Dj.nil
                replace F1106 := F1106.chg hc1185 Dj.nil
                replace hB := hB.inS hc1185 inNil
                replace G1183 := Nat.le_trans hZ G1183
                replace G1183 := low1 G1183
                replace hZ := Nat.le_trans hZ hc1185.size
                obtain ⟨_, hk1192, hm⟩ := bindE hm
                replace hk1192 := apE hk1192
                refine wS_append (enc := encI) (l := (l1094 : List (Int))) (l2 := (([x1099] : List (Int)) : List (Int))) (d := 43) (t := 25) (T := 2) (A := A1095) (A2 := (some ⟨b1181, 0, none⟩)) (cap := cap1096) (cap2 := 1) (by kernel_rfl) el25 encI_ok F1106 (F1184.sl encI_ok) (by rfl) hk1192 ?_
                intro w1193 fp1194 A1195 cap1196 F1197 hc1198 hp1199
                have G1201 := low_ap G1107 hZ hp1199
                have D1202 : Dj (fp11 ++ fr14) fp1194 := Dj.ap D1108 F1102.low hp1199
                have D1203 : Dj [b24] fp1194 := Dj.ap D1109 F1179.low hp1199
                have D1204 : Dj (fp829 ++ fr831) fp1194 := Dj.ap D1110 F1104.low hp1199
                have D1205 : Dj fp866 fp1194 := Dj.ap D1111 F1105.low hp1199
                have D1206 : Dj [b1181] fp1194 := Dj.ap (D1191).symm F1184.low hp1199
                replace F1102 := F1102.chg hc1198 D1108
                replace F1179 := F1179.chg hc1198 D1109
                replace F1104 := F1104.chg hc1198 D1110
                replace F1105 := F1105.chg hc1198 D1111
                replace F1184 := F1184.chg hc1198 (D1191).symm
                replace hB := hB.inS hc1198 (inLow G1107)
                replace hZ := Nat.le_trans hZ hc1198.size
                refine wS_pure 1 [(7, .slice A1195 (l1094 ++ (([x1099] : List (Int)))).length cap1196)] (by kernel_rfl) ?_
                refine wS_end (by rfl) ?_
                have hq : (some ((l1094 ++ (([x1099] : List (Int))), l1100.set (Int.toNat x1099) true)) : Option ((List (Int)) × (List (Bool)))) = some _ := hm
                replace hq := someE hq
                subst hq
                exact eX_J (fun hst => ⟨l1094 ++ (([x1099] : List (Int))), A1195, cap1196, fp1194, l1100.set (Int.toNat x1099) true, rfl, Fr.of hst (by kernel_rfl), F1102, F1179, F1104, F1105, F1197, G1201, D1202, D1203, D1204, D1205, hB, hZ⟩)
              · have hm := condF hb1175 hm
                refine cW_skip ?_
                have hq : (some ((l1094, l1100)) : Option ((List (Int)) × (List (Bool)))) = some _ := hm
                replace hq := someE hq
                subst hq
                exact eX_J (fun hst => ⟨l1094, A1095, cap1096, fp1097, l1100, rfl, Fr.of hst (by kernel_rfl), F1102, F1103, F1104, F1105, F1106, G1107, D1108, D1109, D1110, D1111, hB, hZ⟩)
            · rintro a' w1153 ⟨l1154, A1155, cap1156, fp1157, l1159, hJ, hF1160, F1161, F1162, F1163, F1164, F1165, G1166, D1167, D1168, D1169, D1170, hB, hZ⟩
              subst hJ
              refine Fr.goX hF1160 (by kernel_rfl) ?_
              refine eX_block ?_
              refine eX_then ?_
              refine cW_region ?_
              refine wS_pure 2 [(30, .int .i64 (wr (x1099 + 1))), (44, .int .i64 (wr (x1099 + 1)))] (by kernel_rfl) ?_
              refine wS_end (by rfl) ?_
              have hq : (some (Ctl.next ((l1154, wr (x1099 + 1), l1159))) : Option (Ctl ((List (Int)) × Int × (List (Bool))) ((List (Int)) × (List (Bool))))) = some _ := hm
              replace hq := someE hq
              subst hq
              exact eX_next hx1117 (fun hst => ⟨l1154, A1155, cap1156, fp1157, wr (x1099 + 1), l1159, rfl, Fr.of hst (by kernel_rfl), F1161, F1162, F1163, F1164, F1165, G1166, D1167, D1168, D1169, D1170, hB, hZ⟩)
          · have hm := condF hb1118 hm
            refine cW_exit ?_
            refine eX_then_exit ?_
            have hq : (some (Ctl.out ((l1094, l1100))) : Option (Ctl ((List (Int)) × Int × (List (Bool))) ((List (Int)) × (List (Bool))))) = some _ := hm
            replace hq := someE hq
            subst hq
            refine eX_outX hx1117 (fun hr1207 => ?_)
            replace hr1207 := hr1207.symm
            subst hr1207
            refine eX_block_hit ?_
            exact eX_J (fun hst => ⟨l1094, A1095, cap1096, fp1097, l1100, rfl, Fr.of hst (by kernel_rfl), F1102, F1103, F1104, F1106, G1107, D1108, D1109, D1110, hB, hZ⟩)
        · rintro a' w1077 ⟨l1078, A1079, cap1080, fp1081, l1083, hJ, hF1084, F1085, F1086, F1087, F1088, G1089, D1090, D1091, D1092, hB, hZ⟩
          subst hJ
          refine Fr.goX hF1084 (by kernel_rfl) ?_
          refine eX_then ?_
          refine cW_region ?_
          refine wS_pure 2 [(46, .slice A1079 (l1078).length cap1080), (45, .slice A827 (l826).length cap828)] (by kernel_rfl) ?_
          refine wS_row1 (k := 1) (enc := encI) (l := l1078) (d := 47) (t := 24) (T := 25) (B := A1079) (c := cap1080) (by kernel_rfl) el24 F1088 ?_
          intro b1208 w1209 G1210 F1211 hc1212
          have D1214 : Dj (fp11 ++ fr14) ([b1208] ++ fp1081) := Dj.app (Dj.of F1085.low (low1 G1210)) D1090
          have D1215 : Dj [b24] ([b1208] ++ fp1081) := Dj.app (Dj.of F1086.low (low1 G1210)) D1091
          have D1216 : Dj (fp829 ++ fr831) ([b1208] ++ fp1081) := Dj.app (Dj.of F1087.low (low1 G1210)) D1092
          replace F1085 := F1085.chg hc1212 Dj.nil
          replace F1086 := F1086.chg hc1212 Dj.nil
          replace F1087 := F1087.chg hc1212 Dj.nil
          replace F1088 := F1088.chg hc1212 Dj.nil
          replace hB := hB.inS hc1212 inNil
          replace G1210 := Nat.le_trans hZ G1210
          replace G1210 := lowApp (low1 G1210) G1089
          replace hZ := Nat.le_trans hZ hc1212.size
          replace F1088 := (F1088.sl encI_ok)
          obtain ⟨_, hk1217, hm⟩ := bindE hm
          replace hk1217 := apE hk1217
          refine wS_appendR (k := 1) (enc := encI) (ll := (l826 : List (List (Int)))) (ll2 := (([l1078] : List (List (Int))) : List (List (Int)))) (d := 48) (t := 24) (T := 25) (A := A827) (A2 := (some ⟨b1208, 0, none⟩)) (cap := cap828) (cap2 := 1) (by kernel_rfl) el24 F1087 F1211 (by rfl) D1216 hk1217 ?_
          intro w1218 fp1219 A1220 cap1221 F1222 hc1223 hp1224
          have G1226 := lowApp (low_ap (low_inl G838) hZ hp1224) (lowApp (low_inr G838) (low_inr G1210))
          have D1227 : Dj (fp11 ++ fr14) (fp1219 ++ (fr831 ++ fp1081)) := Dj.app (Dj.ap (Dj.inl D839) F1085.low hp1224) (Dj.app (Dj.inr D839) (Dj.inr D1214))
          have D1228 : Dj [b24] (fp1219 ++ (fr831 ++ fp1081)) := Dj.app (Dj.ap (Dj.inl D840) F1086.low hp1224) (Dj.app (Dj.inr D840) (Dj.inr D1215))
          replace F1085 := F1085.chg hc1223 (Dj.inl D839)
          replace F1086 := F1086.chg hc1223 (Dj.inl D840)
          replace hB := hB.inS hc1223 (memS_inl (inLow G838))
          replace hZ := Nat.le_trans hZ hc1223.size
          refine wS_pure 1 [(4, .slice A1220 (l826 ++ (([l1078] : List (List (Int))))).length cap1221)] (by kernel_rfl) ?_
          refine wS_end (by rfl) ?_
          refine eX_block ?_
          refine eX_then ?_
          refine cW_region ?_
          refine wS_pure 2 [(18, .int .i64 (wr (x832 + 1))), (49, .int .i64 (wr (x832 + 1)))] (by kernel_rfl) ?_
          refine wS_end (by rfl) ?_
          have hq : (some (Ctl.next ((l826 ++ (([l1078] : List (List (Int)))), wr (x832 + 1), l1083))) : Option (Ctl ((List (List (Int))) × Int × (List (Bool))) ((List (List (Int)))))) = some _ := hm
          replace hq := someE hq
          subst hq
          exact eX_next hx846 (fun hst => ⟨l826 ++ (([l1078] : List (List (Int)))), A1220, cap1221, fp1219, (fr831 ++ fp1081), wr (x832 + 1), l1083, rfl, Fr.of hst (by kernel_rfl), F1085, F1086, F1222, G1226, D1227, D1228, hB, hZ⟩)
    · have hm := condF hb847 hm
      refine cW_exit ?_
      refine eX_then_exit ?_
      have hq : (some (Ctl.out l826) : Option (Ctl ((List (List (Int))) × Int × (List (Bool))) ((List (List (Int)))))) = some _ := hm
      replace hq := someE hq
      subst hq
      refine eX_outX hx846 (fun hr1229 => ?_)
      replace hr1229 := hr1229.symm
      subst hr1229
      refine eX_block_hit ?_
      exact eX_J (fun hst => ⟨l826, A827, cap828, fp829, fr831, rfl, Fr.of hst (by kernel_rfl), F837, G838, hB, hZ⟩)
  · rintro a' w815 ⟨l816, A817, cap818, fp819, fr821, hJ, hF822, F823, G824, hB, hZ⟩
    subst hJ
    refine Fr.goX hF822 (by kernel_rfl) ?_
    refine eX_then ?_
    refine cW_seq ?_
    refine cW_region ?_
    refine wS_pure 2 [(2, .slice A817 (l816).length cap818), (50, .slice A817 (l816).length cap818)] (by kernel_rfl) ?_
    refine wS_end (by rfl) ?_
    refine eX_then ?_
    refine cW_ret ?_
    have hq : (some l816 : Option ((List (List (Int))))) = some _ := hm
    replace hq := someE hq
    subst hq
    refine eX_ret (vs := [.slice A817 (l816).length cap818]) [.tmp 2] (by rfl) ⟨by (show lkE _ _ _ = _); kernel_rfl, trivial⟩ ?_
    exact ⟨A817, cap818, fp819, fr821, rfl, F823, G824, hB⟩

set_option maxRecDepth 100000 in
/-- impl.GroupsOf -/
theorem c_impl_GroupsOf {w0 : World} {p0_0 : Int} {l0_1 : List (List (Int))} {A0_1 : Option Addr} {cap0_1 : Nat} {fp0_1 : List Nat} {l0_2 : List (List (Int))} {A0_2 : Option Addr} {cap0_2 : Nat} {fp0_2 : List Nat} {l0_3 : List (Int)} {A0_3 : Option Addr} {cap0_3 : Nat} {fp0_3 : List Nat} {r : (List (List (Int))) × (Bool)} (hm : m_impl_GroupsOf p0_0 l0_1 l0_2 l0_3 = some r) (F0_1 : SlR 1 encI w0 fp0_1 A0_1 l0_1) (F0_2 : SlR 1 encI w0 fp0_2 A0_2 l0_2) (F0_3 : Sl 1 encI w0 fp0_3 A0_3 l0_3) :
    Calls Try.prog 47 #[.agg #[.int .i64 (p0_0), .slice A0_1 (l0_1).length cap0_1, .slice A0_2 (l0_2).length cap0_2, .slice A0_3 (l0_3).length cap0_3]] w0 fun e w' => ∃ A100 cap100 fp100 fr100, e = .returned (.tuple #[.slice A100 (r.1).length cap100, .bool (r.2)]) ∧ OwR 1 encI 25 2 w' fp100 fr100 A100 cap100 r.1 ∧ (∀ x ∈ fp100 ++ fr100, w0.heap.size ≤ x) ∧ Chg [] w0 w' := by
  have L0_1 := F0_1.low
  have L0_2 := F0_2.low
  have L0_3 := F0_3.low
  have hB : Chg [] w0 w0 := Chg.refl _ _
  have hZ := Nat.le_refl w0.heap.size
  unfold m_impl_GroupsOf at hm
  refine enterE (N := 8) Try.func47 (by rfl) Try.ntmps47 (by simp) [(0, .agg #[.int .i64 (p0_0), .slice A0_1 (l0_1).length cap0_1, .slice A0_2 (l0_2).length cap0_2, .slice A0_3 (l0_3).length cap0_3])] (by rfl) (by kernel_rfl) (fun a => ?_)
  refine cW_seq ?_
  refine cW_region ?_
  refine wS_box (d := 1) (T := 27) (x := .agg #[.int .i64 (p0_0), .slice A0_1 (l0_1).length cap0_1, .slice A0_2 (l0_2).length cap0_2, .slice A0_3 (l0_3).length cap0_3]) (by kernel_rfl) ?_
  intro b4 w5 G6 F7 hc8
  replace F7 : Cl w5 b4 27 [.int .i64 (p0_0), .slice A0_1 (l0_1).length cap0_1, .slice A0_2 (l0_2).length cap0_2, .slice A0_3 (l0_3).length cap0_3] := F7
  replace F0_1 := F0_1.chg hc8 Dj.nil
  replace F0_2 := F0_2.chg hc8 Dj.nil
  replace F0_3 := F0_3.chg hc8 Dj.nil
  replace hB := hB.inS hc8 inNil
  replace G6 := Nat.le_trans hZ G6
  replace hZ := Nat.le_trans hZ hc8.size
  refine wS_pure 2 [(3, .bool (false)), (2, .slice none 0 0)] (by kernel_rfl) ?_
  refine wS_end (by rfl) ?_
  refine eX_then ?_
  refine cW_seq ?_
  refine cW_seq ?_
  refine cW_region ?_
  refine wS_loadA (d := 4) (T := 27) (ad := ⟨b4, 0, none⟩) (vs := [.int .i64 (p0_0), .slice A0_1 (l0_1).length cap0_1, .slice A0_2 (l0_2).length cap0_2, .slice A0_3 (l0_3).length cap0_3]) (by kernel_rfl) vt27 (fun i u hu => box_cells F7 0 hu (by rfl)) ?_
  obtain ⟨y10, hy11, hm⟩ := bindE hm
  refine wS_calls (d := 5) (f := 16) (vs := [.agg #[.int .i64 (p0_0), .slice A0_1 (l0_1).length cap0_1, .slice A0_2 (l0_2).length cap0_2, .slice A0_3 (l0_3).length cap0_3]]) (by kernel_rfl) ent16 (c_impl_ValidWiring hy11 F0_1 F0_2 F0_3) ?_
  rintro _ w12 ⟨rfl, hc13⟩
  replace F0_1 := F0_1.chg hc13 Dj.nil
  replace F0_2 := F0_2.chg hc13 Dj.nil
  replace F0_3 := F0_3.chg hc13 Dj.nil
  replace F7 := F7.chg hc13 notNil
  replace hB := hB.inS hc13 inNil
  replace hZ := Nat.le_trans hZ hc13.size
  refine ⟨.bool (y10), rfl, ?_⟩
  refine wS_pure 1 [(6, .bool (!y10))] (by kernel_rfl) ?_
  refine wS_end (by rfl) ?_
  refine eX_then ?_
  refine cW_cond (t := !y10) (by kernel_rfl) (fun hb14 => ?_) (fun hb14 => ?_)
  · have hm := condT hb14 hm
    refine cW_seq ?_
    refine cW_region ?_
    refine wS_pure 2 [(3, .bool (false)), (2, .slice none 0 0)] (by kernel_rfl) ?_
    refine wS_end (by rfl) ?_
    refine eX_then ?_
    refine cW_ret ?_
    refine eX_then_ret ?_
    have hq : (some (([], false)) : Option ((List (List (Int))) × (Bool))) = some _ := hm
    replace hq := someE hq
    subst hq
    refine eX_ret (vs := [.slice none 0 0, .bool (false)]) [.tmp 2, .tmp 3] (by rfl) ⟨by (show lkE _ _ _ = _); kernel_rfl, ⟨by (show lkE _ _ _ = _); kernel_rfl, trivial⟩⟩ ?_
    exact ⟨none, 0, [], [], rfl, OwR.nil _, (lowApp lowNil lowNil), hB⟩
  · have hm := condF hb14 hm
    refine cW_skip ?_
    refine eX_then ?_
    refine cW_seq ?_
    refine cW_region ?_
    obtain ⟨y15, hy16, hm⟩ := bindE hm
    refine wS_calls (d := 7) (f := 85) (vs := [.pointer (some ⟨b4, 0, none⟩)]) (by kernel_rfl) ent85 (c_impl_Wiring_groups_bimplWiring hy16 F0_1 F0_2 F0_3 F7) ?_
    rintro _ w17 ⟨A19, cap20, fp21, fr24, rfl, F22, G23, hc18⟩
    have D26 : Dj [b4] (fp21 ++ fr24) := Dj.of (lt1 F7.lt) G23
    replace F0_1 := F0_1.chg hc18 Dj.nil
    replace F0_2 := F0_2.chg hc18 Dj.nil
    replace F0_3 := F0_3.chg hc18 Dj.nil
    replace F7 := F7.chg hc18 notNil
    replace hB := hB.inS hc18 inNil
    replace G23 := low_le hZ G23
    replace hZ := Nat.le_trans hZ hc18.size
    refine ⟨.slice A19 (y15).length cap20, rfl, ?_⟩
    refine wS_pure 2 [(3, .bool (true)), (2, .slice A19 (y15).length cap20)] (by kernel_rfl) ?_
    refine wS_end (by rfl) ?_
    refine eX_then ?_
    refine cW_ret ?_
    have hq : (some ((y15, true)) : Option ((List (List (Int))) × (Bool))) = some _ := hm
    replace hq := someE hq
    subst hq
    refine eX_ret (vs := [.slice A19 (y15).length cap20, .bool (true)]) [.tmp 2, .tmp 3] (by rfl) ⟨by (show lkE _ _ _ = _); kernel_rfl, ⟨by (show lkE _ _ _ = _); kernel_rfl, trivial⟩⟩ ?_
    exact ⟨A19, cap20, fp21, fr24, rfl, F22, G23, hB⟩

set_option maxRecDepth 100000 in
/-- laws.FnExactGroupsOf -/
theorem c_laws_FnExactGroupsOf {w0 : World} {p0_0 : Int} {l0_1 : List (List (Int))} {A0_1 : Option Addr} {cap0_1 : Nat} {fp0_1 : List Nat} {l0_2 : List (List (Int))} {A0_2 : Option Addr} {cap0_2 : Nat} {fp0_2 : List Nat} {l0_3 : List (Int)} {A0_3 : Option Addr} {cap0_3 : Nat} {fp0_3 : List Nat} {r : (Bool)} (hm : m_laws_FnExactGroupsOf p0_0 l0_1 l0_2 l0_3 = some r) (F0_1 : SlR 1 encI w0 fp0_1 A0_1 l0_1) (F0_2 : SlR 1 encI w0 fp0_2 A0_2 l0_2) (F0_3 : Sl 1 encI w0 fp0_3 A0_3 l0_3) :
    Calls Try.prog 8 #[.agg #[.int .i64 (p0_0), .slice A0_1 (l0_1).length cap0_1, .slice A0_2 (l0_2).length cap0_2, .slice A0_3 (l0_3).length cap0_3]] w0 fun e w' => e = .returned (.bool (r)) ∧ Chg [] w0 w' := by
  have L0_1 := F0_1.low
  have L0_2 := F0_2.low
  have L0_3 := F0_3.low
  have hB : Chg [] w0 w0 := Chg.refl _ _
  have hZ := Nat.le_refl w0.heap.size
  unfold m_laws_FnExactGroupsOf at hm
  refine enterE (N := 96) Try.func8 (by rfl) Try.ntmps8 (by simp) [(0, .agg #[.int .i64 (p0_0), .slice A0_1 (l0_1).length cap0_1, .slice A0_2 (l0_2).length cap0_2, .slice A0_3 (l0_3).length cap0_3])] (by rfl) (by kernel_rfl) (fun a => ?_)
  refine cW_seq ?_
  refine cW_region ?_
  refine wS_box (d := 1) (T := 59) (x := .agg #[.int .i64 (p0_0), .slice A0_1 (l0_1).length cap0_1, .slice A0_2 (l0_2).length cap0_2, .slice A0_3 (l0_3).length cap0_3]) (by kernel_rfl) ?_
  intro b4 w5 G6 F7 hc8
  replace F7 : Cl w5 b4 59 [.int .i64 (p0_0), .slice A0_1 (l0_1).length cap0_1, .slice A0_2 (l0_2).length cap0_2, .slice A0_3 (l0_3).length cap0_3] := F7
  replace F0_1 := F0_1.chg hc8 Dj.nil
  replace F0_2 := F0_2.chg hc8 Dj.nil
  replace F0_3 := F0_3.chg hc8 Dj.nil
  replace hB := hB.inS hc8 inNil
  replace G6 := Nat.le_trans hZ G6
  replace hZ := Nat.le_trans hZ hc8.size
  refine wS_pure 1 [(2, .bool (false))] (by kernel_rfl) ?_
  refine wS_end (by rfl) ?_
  refine eX_then ?_
  refine cW_seq ?_
  refine cW_region ?_
  refine wS_pure 1 [(3, .int .i64 (1048576))] (by kernel_rfl) ?_
  refine wS_end (by rfl) ?_
  refine eX_then ?_
  refine cW_seq ?_
  refine cW_region ?_
  refine wS_loadA (d := 14) (T := 59) (ad := ⟨b4, 0, none⟩) (vs := [.int .i64 (p0_0), .slice A0_1 (l0_1).length cap0_1, .slice A0_2 (l0_2).length cap0_2, .slice A0_3 (l0_3).length cap0_3]) (by kernel_rfl) vt59 (fun i u hu => box_cells F7 0 hu (by rfl)) ?_
  refine wS_pure 1 [(15, .int .i64 (1048576))] (by kernel_rfl) ?_
  obtain ⟨y10, hy11, hm⟩ := bindE hm
  refine wS_calls (d := 16) (f := 37) (vs := [.agg #[.int .i64 (p0_0), .slice A0_1 (l0_1).length cap0_1, .slice A0_2 (l0_2).length cap0_2, .slice A0_3 (l0_3).length cap0_3], .int .i64 (1048576)]) (by kernel_rfl) ent37 (c_laws_szWiring hy11 F0_1 F0_2 F0_3) ?_
  rintro _ w12 ⟨rfl, hc13⟩
  replace F0_1 := F0_1.chg hc13 Dj.nil
  replace F0_2 := F0_2.chg hc13 Dj.nil
  replace F0_3 := F0_3.chg hc13 Dj.nil
  replace F7 := F7.chg hc13 notNil
  replace hB := hB.inS hc13 inNil
  replace hZ := Nat.le_trans hZ hc13.size
  refine ⟨.int .i64 (y10), rfl, ?_⟩
  refine wS_pure 1 [(3, .int .i64 (y10))] (by kernel_rfl) ?_
  refine wS_end (by rfl) ?_
  refine eX_then ?_
  refine cW_seq ?_
  refine cW_seq ?_
  refine cW_region ?_
  refine wS_pure 2 [(18, .bool (decide (y10 < 0))), (17, .int .i64 (y10))] (by kernel_rfl) ?_
  refine wS_end (by rfl) ?_
  refine eX_then ?_
  refine cW_cond (t := decide (y10 < 0)) (by kernel_rfl) (fun hb14 => ?_) (fun hb14 => ?_)
  · have hm := condT hb14 hm
    refine cW_seq ?_
    refine cW_region ?_
    refine wS_pure 1 [(2, .bool (true))] (by kernel_rfl) ?_
    refine wS_end (by rfl) ?_
    refine eX_then ?_
    refine cW_ret ?_
    refine eX_then_ret ?_
    have hq : (some true : Option ((Bool))) = some _ := hm
    replace hq := someE hq
    subst hq
    refine eX_ret (vs := [.bool (true)]) [.tmp 2] (by rfl) ⟨by (show lkE _ _ _ = _); kernel_rfl, trivial⟩ ?_
    exact ⟨rfl, hB⟩
  · have hm := condF hb14 hm
    refine cW_skip ?_
    refine eX_then ?_
    refine cW_seq ?_
    refine cW_region ?_
    refine wS_loadA (d := 20) (T := 59) (ad := ⟨b4, 0, none⟩) (vs := [.int .i64 (p0_0), .slice A0_1 (l0_1).length cap0_1, .slice A0_2 (l0_2).length cap0_2, .slice A0_3 (l0_3).length cap0_3]) (by kernel_rfl) vt59 (fun i u hu => box_cells F7 0 hu (by rfl)) ?_
    obtain ⟨y15, hy16, hm⟩ := bindE hm
    refine wS_calls (d := 21) (f := 39) (vs := [.agg #[.int .i64 (p0_0), .slice A0_1 (l0_1).length cap0_1, .slice A0_2 (l0_2).length cap0_2, .slice A0_3 (l0_3).length cap0_3]]) (by kernel_rfl) ent39 (c_laws_toWiring hy16 F0_1 F0_2 F0_3) ?_
    rintro _ w17 ⟨A19, cap20, fp21, fr24, A25, cap26, fp27, fr30, A31, cap32, fp33, rfl, F22, G23, F28, G29, F34, G35, D37, D38, D39, hc18⟩
    have D41 : Dj [b4] (fp21 ++ fr24) := Dj.of (lt1 F7.lt) G23
    have D43 : Dj [b4] (fp27 ++ fr30) := Dj.of (lt1 F7.lt) G29
    have D45 : Dj [b4] fp33 := Dj.of (lt1 F7.lt) G35
    replace F0_1 := F0_1.chg hc18 Dj.nil
    replace F0_2 := F0_2.chg hc18 Dj.nil
    replace F0_3 := F0_3.chg hc18 Dj.nil
    replace F7 := F7.chg hc18 notNil
    replace hB := hB.inS hc18 inNil
    replace G23 := low_le hZ G23
    replace G29 := low_le hZ G29
    replace G35 := low_le hZ G35
    replace hZ := Nat.le_trans hZ hc18.size
    refine ⟨.agg #[.int .i64 (y15.1), .slice A19 (y15.2.1).length cap20, .slice A25 (y15.2.2.1).length cap26, .slice A31 (y15.2.2.2).length cap32], rfl, ?_⟩
    obtain ⟨y46, hy47, hm⟩ := bindE hm
    refine wS_calls (d := 22) (f := 46) (vs := [.agg #[.int .i64 (y15.1), .slice A19 (y15.2.1).length cap20, .slice A25 (y15.2.2.1).length cap26, .slice A31 (y15.2.2.2).length cap32]]) (by kernel_rfl) ent46 (c_spec_GroupsOf hy47 (F22.slr encI_ok) (F28.slr encI_ok) (F34.sl encI_ok)) ?_
    rintro _ w48 ⟨A50, cap51, fp52, fr55, rfl, F53, G54, hc49⟩
    have D57 : Dj [b4] (fp52 ++ fr55) := Dj.of (lt1 F7.lt) G54
    have D58 : Dj (fp21 ++ fr24) (fp52 ++ fr55) := Dj.of F22.low G54
    have D59 : Dj (fp27 ++ fr30) (fp52 ++ fr55) := Dj.of F28.low G54
    have D60 : Dj fp33 (fp52 ++ fr55) := Dj.of F34.low G54
    replace F0_1 := F0_1.chg hc49 Dj.nil
    replace F0_2 := F0_2.chg hc49 Dj.nil
    replace F0_3 := F0_3.chg hc49 Dj.nil
    replace F7 := F7.chg hc49 notNil
    replace F22 := F22.chg hc49 Dj.nil
    replace F28 := F28.chg hc49 Dj.nil
    replace F34 := F34.chg hc49 Dj.nil
    replace hB := hB.inS hc49 inNil
    replace G54 := low_le hZ G54
    replace hZ := Nat.le_trans hZ hc49.size
    refine ⟨.tuple #[.slice A50 (y46.1).length cap51, .bool (y46.2)], rfl, ?_⟩
    refine wS_pure 5 [(5, .bool (y46.2)), (4, .slice A50 (y46.1).length cap51), (24, .bool (y46.2)), (23, .slice A50 (y46.1).length cap51), (19, .tuple #[.slice A50 (y46.1).length cap51, .bool (y46.2)])] (by kernel_rfl) ?_
    refine wS_end (by rfl) ?_
    refine eX_then ?_
    refine cW_seq ?_
    refine cW_region ?_
    refine wS_loadA (d := 25) (T := 59) (ad := ⟨b4, 0, none⟩) (vs := [.int .i64 (p0_0), .slice A0_1 (l0_1).length cap0_1, .slice A0_2 (l0_2).length cap0_2, .slice A0_3 (l0_3).length cap0_3]) (by kernel_rfl) vt59 (fun i u hu => box_cells F7 0 hu (by rfl)) ?_
    obtain ⟨y61, hy62, hm⟩ := bindE hm
    refine wS_calls (d := 26) (f := 39) (vs := [.agg #[.int .i64 (p0_0), .slice A0_1 (l0_1).length cap0_1, .slice A0_2 (l0_2).length cap0_2, .slice A0_3 (l0_3).length cap0_3]]) (by kernel_rfl) ent39 (c_laws_toWiring hy62 F0_1 F0_2 F0_3) ?_
    rintro _ w63 ⟨A65, cap66, fp67, fr70, A71, cap72, fp73, fr76, A77, cap78, fp79, rfl, F68, G69, F74, G75, F80, G81, D83, D84, D85, hc64⟩
    have D87 : Dj [b4] (fp67 ++ fr70) := Dj.of (lt1 F7.lt) G69
    have D88 : Dj (fp21 ++ fr24) (fp67 ++ fr70) := Dj.of F22.low G69
    have D89 : Dj (fp27 ++ fr30) (fp67 ++ fr70) := Dj.of F28.low G69
    have D90 : Dj fp33 (fp67 ++ fr70) := Dj.of F34.low G69
    have D91 : Dj (fp52 ++ fr55) (fp67 ++ fr70) := Dj.of F53.low G69
    have D93 : Dj [b4] (fp73 ++ fr76) := Dj.of (lt1 F7.lt) G75
    have D94 : Dj (fp21 ++ fr24) (fp73 ++ fr76) := Dj.of F22.low G75
    have D95 : Dj (fp27 ++ fr30) (fp73 ++ fr76) := Dj.of F28.low G75
    have D96 : Dj fp33 (fp73 ++ fr76) := Dj.of F34.low G75
    have D97 : Dj (fp52 ++ fr55) (fp73 ++ fr76) := Dj.of F53.low G75
    have D99 : Dj [b4] fp79 := Dj.of (lt1 F7.lt) G81
    have D100 : Dj (fp21 ++ fr24) fp79 := Dj.of F22.low G81
    have D101 : Dj (fp27 ++ fr30) fp79 := Dj.of F28.low G81
    have D102 : Dj fp33 fp79 := Dj.of F34.low G81
    have D103 : Dj (fp52 ++ fr55) fp79 := Dj.of F53.low G81
    replace F0_1 := F0_1.chg hc64 Dj.nil
    replace F0_2 := F0_2.chg hc64 Dj.nil
    replace F0_3 := F0_3.chg hc64 Dj.nil
    replace F7 := F7.chg hc64 notNil
    replace F22 := F22.chg hc64 Dj.nil
    replace F28 := F28.chg hc64 Dj.nil
    replace F34 := F34.chg hc64 Dj.nil
    replace F53 := F53.chg hc64 Dj.nil
    replace hB := hB.inS hc64 inNil
    replace G69 := low_le hZ G69
    replace G75 := low_le hZ G75
    replace G81 := low_le hZ G81
    replace hZ := Nat.le_trans hZ hc64.size
    refine ⟨.agg #[.int .i64 (y61.1), .slice A65 (y61.2.1).length cap66, .slice A71 (y61.2.2.1).length cap72, .slice A77 (y61.2.2.2).length cap78], rfl, ?_⟩
    refine wS_alloc (d := 6) (T := 27) (z := .agg #[.int .i64 (0), .slice none 0 0, .slice none 0 0, .slice none 0 0]) (by kernel_rfl) (by kernel_rfl) ?_
    intro b104 w105 G106 F107 hc108
    replace F107 : Cl w105 b104 27 [.int .i64 (0), .slice none 0 0, .slice none 0 0, .slice none 0 0] := F107
    have D110 : Dj [b4] [b104] := Dj.of (lt1 F7.lt) (low1 G106)
    have D111 : Dj (fp21 ++ fr24) [b104] := Dj.of F22.low (low1 G106)
    have D112 : Dj (fp27 ++ fr30) [b104] := Dj.of F28.low (low1 G106)
    have D113 : Dj fp33 [b104] := Dj.of F34.low (low1 G106)
    have D114 : Dj (fp52 ++ fr55) [b104] := Dj.of F53.low (low1 G106)
    have D115 : Dj (fp67 ++ fr70) [b104] := Dj.of F68.low (low1 G106)
    have D116 : Dj (fp73 ++ fr76) [b104] := Dj.of F74.low (low1 G106)
    have D117 : Dj fp79 [b104] := Dj.of F80.low (low1 G106)
    replace F0_1 := F0_1.chg hc108 Dj.nil
    replace F0_2 := F0_2.chg hc108 Dj.nil
    replace F0_3 := F0_3.chg hc108 Dj.nil
    replace F7 := F7.chg hc108 notNil
    replace F22 := F22.chg hc108 Dj.nil
    replace F28 := F28.chg hc108 Dj.nil
    replace F34 := F34.chg hc108 Dj.nil
    replace F53 := F53.chg hc108 Dj.nil
    replace F68 := F68.chg hc108 Dj.nil
    replace F74 := F74.chg hc108 Dj.nil
    replace F80 := F80.chg hc108 Dj.nil
    replace hB := hB.inS hc108 inNil
    replace G106 := Nat.le_trans hZ G106
    replace hZ := Nat.le_trans hZ hc108.size
    refine wS_store (T := 27) (g := b104) (o := 0) (ad := ⟨b104, 0, none⟩) (v := .agg #[.int .i64 (y61.1), .slice A65 (y61.2.1).length cap66, .slice A71 (y61.2.2.1).length cap72, .slice A77 (y61.2.2.2).length cap78]) (vs := [.int .i64 (y61.1), .slice A65 (y61.2.1).length cap66, .slice A71 (y61.2.2.1).length cap72, .slice A77 (y61.2.2.2).length cap78]) (by kernel_rfl) (by rfl) sz27 (by rfl) (by rfl) F107 (by simp only [List.length_cons, List.length_nil]; omega) ?_
    intro w118 F119 hc120
    replace F0_1 := F0_1.chg hc120 (Dj.of L0_1 (low1 G106))
    replace F0_2 := F0_2.chg hc120 (Dj.of L0_2 (low1 G106))
    replace F0_3 := F0_3.chg hc120 (Dj.of L0_3 (low1 G106))
    replace F7 := F7.chg hc120 (dj1 D110)
    replace F22 := F22.chg hc120 D111
    replace F28 := F28.chg hc120 D112
    replace F34 := F34.chg hc120 D113
    replace F53 := F53.chg hc120 D114
    replace F68 := F68.chg hc120 D115
    replace F74 := F74.chg hc120 D116
    replace F80 := F80.chg hc120 D117
    replace hB := hB.inS hc120 (inLow (low1 G106))
    replace hZ := Nat.le_trans hZ hc120.size
    replace F119 : Cl w118 b104 27 [.int .i64 (y61.1), .slice A65 (y61.2.1).length cap66, .slice A71 (y61.2.2.1).length cap72, .slice A77 (y61.2.2.2).length cap78] := F119
    clear F107
    refine wS_end (by rfl) ?_
    refine eX_then ?_
    refine cW_seq ?_
    refine cW_region ?_
    refine wS_loadA (d := 28) (T := 27) (ad := ⟨b104, 0, none⟩) (vs := [.int .i64 (y61.1), .slice A65 (y61.2.1).length cap66, .slice A71 (y61.2.2.1).length cap72, .slice A77 (y61.2.2.2).length cap78]) (by kernel_rfl) vt27 (fun i u hu => box_cells F119 0 hu (by rfl)) ?_
    obtain ⟨y121, hy122, hm⟩ := bindE hm
    refine wS_calls (d := 29) (f := 47) (vs := [.agg #[.int .i64 (y61.1), .slice A65 (y61.2.1).length cap66, .slice A71 (y61.2.2.1).length cap72, .slice A77 (y61.2.2.2).length cap78]]) (by kernel_rfl) ent47 (c_impl_GroupsOf hy122 (F68.slr encI_ok) (F74.slr encI_ok) (F80.sl encI_ok)) ?_
    rintro _ w123 ⟨A125, cap126, fp127, fr130, rfl, F128, G129, hc124⟩
    have D132 : Dj [b4] (fp127 ++ fr130) := Dj.of (lt1 F7.lt) G129
    have D133 : Dj (fp21 ++ fr24) (fp127 ++ fr130) := Dj.of F22.low G129
    have D134 : Dj (fp27 ++ fr30) (fp127 ++ fr130) := Dj.of F28.low G129
    have D135 : Dj fp33 (fp127 ++ fr130) := Dj.of F34.low G129
    have D136 : Dj (fp52 ++ fr55) (fp127 ++ fr130) := Dj.of F53.low G129
    have D137 : Dj (fp67 ++ fr70) (fp127 ++ fr130) := Dj.of F68.low G129
    have D138 : Dj (fp73 ++ fr76) (fp127 ++ fr130) := Dj.of F74.low G129
    have D139 : Dj fp79 (fp127 ++ fr130) := Dj.of F80.low G129
    have D140 : Dj [b104] (fp127 ++ fr130) := Dj.of (lt1 F119.lt) G129
    replace F0_1 := F0_1.chg hc124 Dj.nil
    replace F0_2 := F0_2.chg hc124 Dj.nil
    replace F0_3 := F0_3.chg hc124 Dj.nil
    replace F7 := F7.chg hc124 notNil
    replace F22 := F22.chg hc124 Dj.nil
    replace F28 := F28.chg hc124 Dj.nil
    replace F34 := F34.chg hc124 Dj.nil
    replace F53 := F53.chg hc124 Dj.nil
    replace F68 := F68.chg hc124 Dj.nil
    replace F74 := F74.chg hc124 Dj.nil
    replace F80 := F80.chg hc124 Dj.nil
    replace F119 := F119.chg hc124 notNil
    replace hB := hB.inS hc124 inNil
    replace G129 := low_le hZ G129
    replace hZ := Nat.le_trans hZ hc124.size
    refine ⟨.tuple #[.slice A125 (y121.1).length cap126, .bool (y121.2)], rfl, ?_⟩
    refine wS_pure 5 [(8, .bool (y121.2)), (7, .slice A125 (y121.1).length cap126), (31, .bool (y121.2)), (30, .slice A125 (y121.1).length cap126), (27, .tuple #[.slice A125 (y121.1).length cap126, .bool (y121.2)])] (by kernel_rfl) ?_
    refine wS_end (by rfl) ?_
    refine eX_then ?_
    refine cW_prune [(1, .pointer (some ⟨b4, 0, none⟩)), (4, .slice A50 (y46.1).length cap51), (5, .bool (y46.2)), (6, .pointer (some ⟨b104, 0, none⟩)), (7, .slice A125 (y121.1).length cap126), (8, .bool (y121.2))] (by kernel_rfl) (by kernel_rfl) (fun a141 => ?_)
    refine cW_seq ?_
    refine cW_seq ?_
    refine cW_region ?_
    refine wS_pure 2 [(33, .slice A50 (y46.1).length cap51), (32, .slice A125 (y121.1).length cap126)] (by kernel_rfl) ?_
    obtain ⟨y142, hy143, hm⟩ := bindE hm
    refine wS_calls (d := 34) (f := 32) (vs := [.slice A125 (y121.1).length cap126, .slice A50 (y46.1).length cap51]) (by kernel_rfl) ent32 (c_laws_eqInt64SS hy143 (F128.slr encI_ok) (F53.slr encI_ok)) ?_
    rintro _ w144 ⟨rfl, hc145⟩
    replace F0_1 := F0_1.chg hc145 Dj.nil
    replace F0_2 := F0_2.chg hc145 Dj.nil
    replace F0_3 := F0_3.chg hc145 Dj.nil
    replace F7 := F7.chg hc145 notNil
    replace F22 := F22.chg hc145 Dj.nil
    replace F28 := F28.chg hc145 Dj.nil
    replace F34 := F34.chg hc145 Dj.nil
    replace F53 := F53.chg hc145 Dj.nil
    replace F68 := F68.chg hc145 Dj.nil
    replace F74 := F74.chg hc145 Dj.nil
    replace F80 := F80.chg hc145 Dj.nil
    replace F119 := F119.chg hc145 notNil
    replace F128 := F128.chg hc145 Dj.nil
    replace hB := hB.inS hc145 inNil
    replace hZ := Nat.le_trans hZ hc145.size
    refine ⟨.bool (y142), rfl, ?_⟩
    refine wS_pure 2 [(36, .bool (!y142)), (35, .bool (!y142))] (by kernel_rfl) ?_
    refine wS_bool (!y142) (fun hb146 => ?_) (fun hb146 => ?_)
    · have hm := condT hb146 hm
      rewrite [hb146]
      refine wS_pure 4 [(40, .bool (true)), (39, undef), (38, undef), (37, undef)] (by kernel_rfl) ?_
      refine wS_end (by rfl) ?_
      refine eX_then ?_
      refine cW_cond_t (by kernel_rfl) ?_
      refine cW_seq ?_
      refine cW_region ?_
      refine wS_pure 1 [(2, .bool (false))] (by kernel_rfl) ?_
      refine wS_end (by rfl) ?_
      refine eX_then ?_
      refine cW_ret ?_
      refine eX_then_ret ?_
      have hq : (some false : Option ((Bool))) = some _ := hm
      replace hq := someE hq
      subst hq
      refine eX_ret (vs := [.bool (false)]) [.tmp 2] (by rfl) ⟨by (show lkE _ _ _ = _); kernel_rfl, trivial⟩ ?_
      exact ⟨rfl, hB⟩
    · have hm := condF hb146 hm
      rewrite [hb146]
      refine wS_pure 4 [(40, .bool (!(y121.2 == y46.2))), (39, .bool (!(y121.2 == y46.2))), (38, .bool (y46.2)), (37, .bool (y121.2))] (by kernel_rfl) ?_
      refine wS_end (by rfl) ?_
      refine eX_then ?_
      refine cW_cond (t := !(y121.2 == y46.2)) (by kernel_rfl) (fun hb147 => ?_) (fun hb147 => ?_)
      · have hm := condT hb147 hm
        refine cW_seq ?_
        refine cW_region ?_
        refine wS_pure 1 [(2, .bool (false))] (by kernel_rfl) ?_
        refine wS_end (by rfl) ?_
        refine eX_then ?_
        refine cW_ret ?_
        refine eX_then_ret ?_
        have hq : (some false : Option ((Bool))) = some _ := hm
        replace hq := someE hq
        subst hq
        refine eX_ret (vs := [.bool (false)]) [.tmp 2] (by rfl) ⟨by (show lkE _ _ _ = _); kernel_rfl, trivial⟩ ?_
        exact ⟨rfl, hB⟩
      · have hm := condF hb147 hm
        refine cW_skip ?_
        refine eX_then ?_
        refine cW_seq ?_
        refine cW_seq ?_
        refine cW_drawnTail [] 3 (by kernel_rfl) (by kernel_rfl) (fun w225 hc226 => ?_)
        replace F0_1 := F0_1.chg hc226 Dj.nil
        replace F0_2 := F0_2.chg hc226 Dj.nil
        replace F0_3 := F0_3.chg hc226 Dj.nil
        replace F7 := F7.chg hc226 notNil
        replace F22 := F22.chg hc226 Dj.nil
        replace F28 := F28.chg hc226 Dj.nil
        replace F34 := F34.chg hc226 Dj.nil
        replace F53 := F53.chg hc226 Dj.nil
        replace F68 := F68.chg hc226 Dj.nil
        replace F74 := F74.chg hc226 Dj.nil
        replace F80 := F80.chg hc226 Dj.nil
        replace F119 := F119.chg hc226 notNil
        replace F128 := F128.chg hc226 Dj.nil
        replace hB := hB.inS hc226 inNil
        replace hZ := Nat.le_trans hZ hc226.size
        have hS := Chg.refl [] w225
        have Z227 := F0_1
        have Z228 := F0_2
        have Z229 := F0_3
        have Z230 := F7
        have Z231 := F22
        have Z232 := F28
        have Z233 := F34
        have Z234 := F53
        have Z235 := F68
        have Z236 := F74
        have Z237 := F80
        have Z238 := F119
        have Z239 := F128
        refine wH_loadA (i := 0) (d := 41) (T := 27) (ad := ⟨b104, 0, none⟩) (vs := [.int .i64 (y61.1), .slice A65 (y61.2.1).length cap66, .slice A71 (y61.2.2.1).length cap72, .slice A77 (y61.2.2.2).length cap78]) (by kernel_rfl) (qT (qT (qT qZ))) (by kernel_rfl) (by kernel_rfl) vt27 (fun W hW i u hu => box_cells (Z238.chg hW notNil) 0 hu (by rfl)) ?_
        refine wH_loadA (i := 1) (d := 42) (T := 59) (ad := ⟨b4, 0, none⟩) (vs := [.int .i64 (p0_0), .slice A0_1 (l0_1).length cap0_1, .slice A0_2 (l0_2).length cap0_2, .slice A0_3 (l0_3).length cap0_3]) (by kernel_rfl) (qT (qT (qT qZ))) (by kernel_rfl) (by kernel_rfl) vt59 (fun W hW i u hu => box_cells (Z230.chg hW notNil) 0 hu (by rfl)) ?_
        refine wH_all [2] (by rfl) (by kernel_rfl) (by simp) ⟨⟨by kernel_rfl, ?_⟩, trivial⟩
        obtain ⟨y240, hy241, hm⟩ := bindE hm
        refine wS_calls (d := 43) (f := 39) (vs := [.agg #[.int .i64 (p0_0), .slice A0_1 (l0_1).length cap0_1, .slice A0_2 (l0_2).length cap0_2, .slice A0_3 (l0_3).length cap0_3]]) (by kernel_rfl) ent39 (c_laws_toWiring hy241 F0_1 F0_2 F0_3) ?_
        rintro _ w242 ⟨A244, cap245, fp246, fr249, A250, cap251, fp252, fr255, A256, cap257, fp258, rfl, F247, G248, F253, G254, F259, G260, D262, D263, D264, hc243⟩
        have D266 : Dj [b4] (fp246 ++ fr249) := Dj.of (lt1 F7.lt) G248
        have D267 : Dj (fp21 ++ fr24) (fp246 ++ fr249) := Dj.of F22.low G248
        have D268 : Dj (fp27 ++ fr30) (fp246 ++ fr249) := Dj.of F28.low G248
        have D269 : Dj fp33 (fp246 ++ fr249) := Dj.of F34.low G248
        have D270 : Dj (fp52 ++ fr55) (fp246 ++ fr249) := Dj.of F53.low G248
        have D271 : Dj (fp67 ++ fr70) (fp246 ++ fr249) := Dj.of F68.low G248
        have D272 : Dj (fp73 ++ fr76) (fp246 ++ fr249) := Dj.of F74.low G248
        have D273 : Dj fp79 (fp246 ++ fr249) := Dj.of F80.low G248
        have D274 : Dj [b104] (fp246 ++ fr249) := Dj.of (lt1 F119.lt) G248
        have D275 : Dj (fp127 ++ fr130) (fp246 ++ fr249) := Dj.of F128.low G248
        have D277 : Dj [b4] (fp252 ++ fr255) := Dj.of (lt1 F7.lt) G254
        have D278 : Dj (fp21 ++ fr24) (fp252 ++ fr255) := Dj.of F22.low G254
        have D279 : Dj (fp27 ++ fr30) (fp252 ++ fr255) := Dj.of F28.low G254
        have D280 : Dj fp33 (fp252 ++ fr255) := Dj.of F34.low G254
        have D281 : Dj (fp52 ++ fr55) (fp252 ++ fr255) := Dj.of F53.low G254
        have D282 : Dj (fp67 ++ fr70) (fp252 ++ fr255) := Dj.of F68.low G254
        have D283 : Dj (fp73 ++ fr76) (fp252 ++ fr255) := Dj.of F74.low G254
        have D284 : Dj fp79 (fp252 ++ fr255) := Dj.of F80.low G254
        have D285 : Dj [b104] (fp252 ++ fr255) := Dj.of (lt1 F119.lt) G254
        have D286 : Dj (fp127 ++ fr130) (fp252 ++ fr255) := Dj.of F128.low G254
        have D288 : Dj [b4] fp258 := Dj.of (lt1 F7.lt) G260
        have D289 : Dj (fp21 ++ fr24) fp258 := Dj.of F22.low G260
        have D290 : Dj (fp27 ++ fr30) fp258 := Dj.of F28.low G260
        have D291 : Dj fp33 fp258 := Dj.of F34.low G260
        have D292 : Dj (fp52 ++ fr55) fp258 := Dj.of F53.low G260
        have D293 : Dj (fp67 ++ fr70) fp258 := Dj.of F68.low G260
        have D294 : Dj (fp73 ++ fr76) fp258 := Dj.of F74.low G260
        have D295 : Dj fp79 fp258 := Dj.of F80.low G260
        have D296 : Dj [b104] fp258 := Dj.of (lt1 F119.lt) G260
        have D297 : Dj (fp127 ++ fr130) fp258 := Dj.of F128.low G260
        replace F0_1 := F0_1.chg hc243 Dj.nil
        replace F0_2 := F0_2.chg hc243 Dj.nil
        replace F0_3 := F0_3.chg hc243 Dj.nil
        replace F7 := F7.chg hc243 notNil
        replace F22 := F22.chg hc243 Dj.nil
        replace F28 := F28.chg hc243 Dj.nil
        replace F34 := F34.chg hc243 Dj.nil
        replace F53 := F53.chg hc243 Dj.nil
        replace F68 := F68.chg hc243 Dj.nil
        replace F74 := F74.chg hc243 Dj.nil
        replace F80 := F80.chg hc243 Dj.nil
        replace F119 := F119.chg hc243 notNil
        replace F128 := F128.chg hc243 Dj.nil
        replace hB := hB.inS hc243 inNil
        have hSz := hS
        replace hS := hS.inS hc243 inNil
        replace G248 := low_le hZ G248
        replace G254 := low_le hZ G254
        replace G260 := low_le hZ G260
        replace hZ := Nat.le_trans hZ hc243.size
        refine ⟨.agg #[.int .i64 (y240.1), .slice A244 (y240.2.1).length cap245, .slice A250 (y240.2.2.1).length cap251, .slice A256 (y240.2.2.2).length cap257], rfl, ?_⟩
        refine wS_end (by kernel_rfl) ?_
        refine eX_KH hS ?_
        refine wH_done (by kernel_rfl) ?_
        refine eX_tail ?_
        obtain ⟨y298, hy299, hm⟩ := bindE hm
        refine wS_calls (d := 44) (f := 40) (vs := [.agg #[.int .i64 (y61.1), .slice A65 (y61.2.1).length cap66, .slice A71 (y61.2.2.1).length cap72, .slice A77 (y61.2.2.2).length cap78], .agg #[.int .i64 (y240.1), .slice A244 (y240.2.1).length cap245, .slice A250 (y240.2.2.1).length cap251, .slice A256 (y240.2.2.2).length cap257]]) (by kernel_rfl) ent40 (c_laws_eqWiring hy299 (F68.slr encI_ok) (F74.slr encI_ok) (F80.sl encI_ok) (F247.slr encI_ok) (F253.slr encI_ok) (F259.sl encI_ok)) ?_
        rintro _ w300 ⟨rfl, hc301⟩
        replace F0_1 := F0_1.chg hc301 Dj.nil
        replace F0_2 := F0_2.chg hc301 Dj.nil
        replace F0_3 := F0_3.chg hc301 Dj.nil
        replace F7 := F7.chg hc301 notNil
        replace F22 := F22.chg hc301 Dj.nil
        replace F28 := F28.chg hc301 Dj.nil
        replace F34 := F34.chg hc301 Dj.nil
        replace F53 := F53.chg hc301 Dj.nil
        replace F68 := F68.chg hc301 Dj.nil
        replace F74 := F74.chg hc301 Dj.nil
        replace F80 := F80.chg hc301 Dj.nil
        replace F119 := F119.chg hc301 notNil
        replace F128 := F128.chg hc301 Dj.nil
        replace F247 := F247.chg hc301 Dj.nil
        replace F253 := F253.chg hc301 Dj.nil
        replace F259 := F259.chg hc301 Dj.nil
        replace hB := hB.inS hc301 inNil
        replace hZ := Nat.le_trans hZ hc301.size
        refine ⟨.bool (y298), rfl, ?_⟩
        refine wS_pure 1 [(45, .bool (!y298))] (by kernel_rfl) ?_
        refine wS_end (by rfl) ?_
        refine eX_then ?_
        refine cW_cond (t := !y298) (by kernel_rfl) (fun hb302 => ?_) (fun hb302 => ?_)
        · have hm := condT hb302 hm
          refine cW_seq ?_
          refine cW_region ?_
          refine wS_pure 1 [(2, .bool (false))] (by kernel_rfl) ?_
          refine wS_end (by rfl) ?_
          refine eX_then ?_
          refine cW_ret ?_
          refine eX_then_ret ?_
          have hq : (some false : Option ((Bool))) = some _ := hm
          replace hq := someE hq
          subst hq
          refine eX_ret (vs := [.bool (false)]) [.tmp 2] (by rfl) ⟨by (show lkE _ _ _ = _); kernel_rfl, trivial⟩ ?_
          exact ⟨rfl, hB⟩
        · have hm := condF hb302 hm
          refine cW_skip ?_
          refine eX_then ?_
          refine cW_seq ?_
          refine cW_region ?_
          refine wS_pure 1 [(9, .int .i64 (1))] (by kernel_rfl) ?_
          refine wS_end (by rfl) ?_
          refine eX_then ?_
          refine cW_seq ?_
          refine cW_region ?_
          refine wS_loadA (d := 46) (T := 27) (ad := ⟨b104, 0, none⟩) (vs := [.int .i64 (y61.1), .slice A65 (y61.2.1).length cap66, .slice A71 (y61.2.2.1).length cap72, .slice A77 (y61.2.2.2).length cap78]) (by kernel_rfl) vt27 (fun i u hu => box_cells F119 0 hu (by rfl)) ?_
          refine wS_pure 1 [(47, .int .i64 (1))] (by kernel_rfl) ?_
          obtain ⟨y303, hy304, hm⟩ := bindE hm
          refine wS_calls (d := 48) (f := 43) (vs := [.agg #[.int .i64 (y61.1), .slice A65 (y61.2.1).length cap66, .slice A71 (y61.2.2.1).length cap72, .slice A77 (y61.2.2.2).length cap78], .int .i64 (1)]) (by kernel_rfl) ent43 (c_laws_markWiring hy304 F68 F74 F80 D83 D84 D85) ?_
          rintro _ w305 ⟨rfl, F307, hl308, F309, hl310, F311, hl312, hc306⟩
          replace F0_1 := F0_1.chg hc306 (Dj.app (Dj.of L0_1 G69) (Dj.app (Dj.of L0_1 G75) (Dj.app (Dj.of L0_1 G81) Dj.nil)))
          replace F0_2 := F0_2.chg hc306 (Dj.app (Dj.of L0_2 G69) (Dj.app (Dj.of L0_2 G75) (Dj.app (Dj.of L0_2 G81) Dj.nil)))
          replace F0_3 := F0_3.chg hc306 (Dj.app (Dj.of L0_3 G69) (Dj.app (Dj.of L0_3 G75) (Dj.app (Dj.of L0_3 G81) Dj.nil)))
          replace F7 := F7.chg hc306 (dj1 (Dj.app D87 (Dj.app D93 (Dj.app D99 Dj.nil))))
          replace F22 := F22.chg hc306 (Dj.app D88 (Dj.app D94 (Dj.app D100 Dj.nil)))
          replace F28 := F28.chg hc306 (Dj.app D89 (Dj.app D95 (Dj.app D101 Dj.nil)))
          replace F34 := F34.chg hc306 (Dj.app D90 (Dj.app D96 (Dj.app D102 Dj.nil)))
          replace F53 := F53.chg hc306 (Dj.app D91 (Dj.app D97 (Dj.app D103 Dj.nil)))
          replace F119 := F119.chg hc306 (dj1 (Dj.app (D115).symm (Dj.app (D116).symm (Dj.app (D117).symm Dj.nil))))
          replace F128 := F128.chg hc306 (Dj.app (D137).symm (Dj.app (D138).symm (Dj.app (D139).symm Dj.nil)))
          replace F247 := F247.chg hc306 (Dj.app (D271).symm (Dj.app (D272).symm (Dj.app (D273).symm Dj.nil)))
          replace F253 := F253.chg hc306 (Dj.app (D282).symm (Dj.app (D283).symm (Dj.app (D284).symm Dj.nil)))
          replace F259 := F259.chg hc306 (Dj.app (D293).symm (Dj.app (D294).symm (Dj.app (D295).symm Dj.nil)))
          replace hB := hB.inS hc306 (inApp (inLow G69) (inApp (inLow G75) (inApp (inLow G81) inNil)))
          replace hZ := Nat.le_trans hZ hc306.size
          clear F68
          clear F74
          clear F80
          refine ⟨.int .i64 (y303.1), rfl, ?_⟩
          rewrite [(show (y61.2.1).length = (y303.2.1).length from hl308.symm)]
          try rewrite [(show (y61.2.1).length = (y303.2.1).length from hl308.symm)] at F7
          try rewrite [(show (y61.2.1).length = (y303.2.1).length from hl308.symm)] at F119
          rewrite [(show (y61.2.2.1).length = (y303.2.2.1).length from hl310.symm)]
          try rewrite [(show (y61.2.2.1).length = (y303.2.2.1).length from hl310.symm)] at F7
          try rewrite [(show (y61.2.2.1).length = (y303.2.2.1).length from hl310.symm)] at F119
          rewrite [(show (y61.2.2.2).length = (y303.2.2.2).length from hl312.symm)]
          try rewrite [(show (y61.2.2.2).length = (y303.2.2.2).length from hl312.symm)] at F7
          try rewrite [(show (y61.2.2.2).length = (y303.2.2.2).length from hl312.symm)] at F119
          refine wS_pure 1 [(9, .int .i64 (y303.1))] (by kernel_rfl) ?_
          refine wS_end (by rfl) ?_
          refine eX_then ?_
          refine cW_prune [(1, .pointer (some ⟨b4, 0, none⟩)), (4, .slice A50 (y46.1).length cap51), (5, .bool (y46.2)), (7, .slice A125 (y121.1).length cap126), (8, .bool (y121.2)), (9, .int .i64 (y303.1))] (by kernel_rfl) (by kernel_rfl) (fun a313 => ?_)
          refine cW_seq ?_
          refine cW_seq ?_
          refine cW_region ?_
          refine wS_pure 3 [(51, .bool (decide (y303.1 < 0))), (50, .bool (decide (y303.1 < 0))), (49, .int .i64 (y303.1))] (by kernel_rfl) ?_
          refine wS_bool (decide (y303.1 < 0)) (fun hb314 => ?_) (fun hb314 => ?_)
          · have hm := condT hb314 hm
            rewrite [hb314]
            refine wS_pure 10 [(61, .bool (true)), (60, undef), (59, undef), (58, undef), (57, .bool (true)), (56, .bool (true)), (55, undef), (54, undef), (53, undef), (52, undef)] (by kernel_rfl) ?_
            refine wS_end (by rfl) ?_
            refine eX_then ?_
            refine cW_cond_t (by kernel_rfl) ?_
            refine cW_seq ?_
            refine cW_region ?_
            refine wS_pure 1 [(2, .bool (false))] (by kernel_rfl) ?_
            refine wS_end (by rfl) ?_
            refine eX_then ?_
            refine cW_ret ?_
            refine eX_then_ret ?_
            have hq : (some false : Option ((Bool))) = some _ := hm
            replace hq := someE hq
            subst hq
            refine eX_ret (vs := [.bool (false)]) [.tmp 2] (by rfl) ⟨by (show lkE _ _ _ = _); kernel_rfl, trivial⟩ ?_
            exact ⟨rfl, hB⟩
          · have hm := condF hb314 hm
            rewrite [hb314]
            refine wS_pure 2 [(53, .slice A50 (y46.1).length cap51), (52, .slice A125 (y121.1).length cap126)] (by kernel_rfl) ?_
            obtain ⟨y315, hy316, hm⟩ := bindE hm
            refine wS_calls (d := 54) (f := 32) (vs := [.slice A125 (y121.1).length cap126, .slice A50 (y46.1).length cap51]) (by kernel_rfl) ent32 (c_laws_eqInt64SS hy316 (F128.slr encI_ok) (F53.slr encI_ok)) ?_
            rintro _ w317 ⟨rfl, hc318⟩
            replace F0_1 := F0_1.chg hc318 Dj.nil
            replace F0_2 := F0_2.chg hc318 Dj.nil
            replace F0_3 := F0_3.chg hc318 Dj.nil
            replace F7 := F7.chg hc318 notNil
            replace F22 := F22.chg hc318 Dj.nil
            replace F28 := F28.chg hc318 Dj.nil
            replace F34 := F34.chg hc318 Dj.nil
            replace F53 := F53.chg hc318 Dj.nil
            replace F307 := F307.chg hc318 Dj.nil
            replace F309 := F309.chg hc318 Dj.nil
            replace F311 := F311.chg hc318 Dj.nil
            replace F119 := F119.chg hc318 notNil
            replace F128 := F128.chg hc318 Dj.nil
            replace F247 := F247.chg hc318 Dj.nil
            replace F253 := F253.chg hc318 Dj.nil
            replace F259 := F259.chg hc318 Dj.nil
            replace hB := hB.inS hc318 inNil
            replace hZ := Nat.le_trans hZ hc318.size
            refine ⟨.bool (y315), rfl, ?_⟩
            refine wS_pure 3 [(57, .bool (!y315)), (56, .bool (!y315)), (55, .bool (!y315))] (by kernel_rfl) ?_
            refine wS_bool (!y315) (fun hb319 => ?_) (fun hb319 => ?_)
            · have hm := condT hb319 hm
              rewrite [hb319]
              refine wS_pure 4 [(61, .bool (true)), (60, undef), (59, undef), (58, undef)] (by kernel_rfl) ?_
              refine wS_end (by rfl) ?_
              refine eX_then ?_
              refine cW_cond_t (by kernel_rfl) ?_
              refine cW_seq ?_
              refine cW_region ?_
              refine wS_pure 1 [(2, .bool (false))] (by kernel_rfl) ?_
              refine wS_end (by rfl) ?_
              refine eX_then ?_
              refine cW_ret ?_
              refine eX_then_ret ?_
              have hq : (some false : Option ((Bool))) = some _ := hm
              replace hq := someE hq
              subst hq
              refine eX_ret (vs := [.bool (false)]) [.tmp 2] (by rfl) ⟨by (show lkE _ _ _ = _); kernel_rfl, trivial⟩ ?_
              exact ⟨rfl, hB⟩
            · have hm := condF hb319 hm
              rewrite [hb319]
              refine wS_pure 4 [(61, .bool (!(y121.2 == y46.2))), (60, .bool (!(y121.2 == y46.2))), (59, .bool (y46.2)), (58, .bool (y121.2))] (by kernel_rfl) ?_
              refine wS_end (by rfl) ?_
              refine eX_then ?_
              refine cW_cond (t := !(y121.2 == y46.2)) (by kernel_rfl) (fun hb320 => ?_) (fun hb320 => ?_)
              · have hm := condT hb320 hm
                refine cW_seq ?_
                refine cW_region ?_
                refine wS_pure 1 [(2, .bool (false))] (by kernel_rfl) ?_
                refine wS_end (by rfl) ?_
                refine eX_then ?_
                refine cW_ret ?_
                refine eX_then_ret ?_
                have hq : (some false : Option ((Bool))) = some _ := hm
                replace hq := someE hq
                subst hq
                refine eX_ret (vs := [.bool (false)]) [.tmp 2] (by rfl) ⟨by (show lkE _ _ _ = _); kernel_rfl, trivial⟩ ?_
                exact ⟨rfl, hB⟩
              · have hm := condF hb320 hm
                refine cW_skip ?_
                refine eX_then ?_
                refine cW_seq ?_
                refine cW_region ?_
                refine wS_pure 1 [(10, .int .i64 (1))] (by kernel_rfl) ?_
                refine wS_end (by rfl) ?_
                refine eX_then ?_
                refine cW_seq ?_
                refine cW_region ?_
                refine wS_pure 2 [(63, .int .i64 (1)), (62, .slice A125 (y121.1).length cap126)] (by kernel_rfl) ?_
                obtain ⟨y321, hy322, hm⟩ := bindE hm
                refine wS_calls (d := 64) (f := 35) (vs := [.slice A125 (y121.1).length cap126, .int .i64 (1)]) (by kernel_rfl) ent35 (c_laws_markInt64SS hy322 F128) ?_
                rintro _ w323 ⟨rfl, F325, hl326, hc324⟩
                replace F0_1 := F0_1.chg hc324 (Dj.app (Dj.of L0_1 G129) Dj.nil)
                replace F0_2 := F0_2.chg hc324 (Dj.app (Dj.of L0_2 G129) Dj.nil)
                replace F0_3 := F0_3.chg hc324 (Dj.app (Dj.of L0_3 G129) Dj.nil)
                replace F7 := F7.chg hc324 (dj1 (Dj.app D132 Dj.nil))
                replace F22 := F22.chg hc324 (Dj.app D133 Dj.nil)
                replace F28 := F28.chg hc324 (Dj.app D134 Dj.nil)
                replace F34 := F34.chg hc324 (Dj.app D135 Dj.nil)
                replace F53 := F53.chg hc324 (Dj.app D136 Dj.nil)
                replace F307 := F307.chg hc324 (Dj.app D137 Dj.nil)
                replace F309 := F309.chg hc324 (Dj.app D138 Dj.nil)
                replace F311 := F311.chg hc324 (Dj.app D139 Dj.nil)
                replace F119 := F119.chg hc324 (dj1 (Dj.app D140 Dj.nil))
                replace F247 := F247.chg hc324 (Dj.app (D275).symm Dj.nil)
                replace F253 := F253.chg hc324 (Dj.app (D286).symm Dj.nil)
                replace F259 := F259.chg hc324 (Dj.app (D297).symm Dj.nil)
                replace hB := hB.inS hc324 (inApp (inLow G129) inNil)
                replace hZ := Nat.le_trans hZ hc324.size
                clear F128
                refine ⟨.int .i64 (y321.1), rfl, ?_⟩
                rewrite [(show (y121.1).length = (y321.2).length from hl326.symm)]
                try rewrite [(show (y121.1).length = (y321.2).length from hl326.symm)] at F7
                try rewrite [(show (y121.1).length = (y321.2).length from hl326.symm)] at F119
                refine wS_pure 1 [(10, .int .i64 (y321.1))] (by kernel_rfl) ?_
                refine wS_end (by rfl) ?_
                refine eX_then ?_
                refine cW_seq ?_
                refine cW_region ?_
                refine wS_pure 1 [(11, .int .i64 (1))] (by kernel_rfl) ?_
                refine wS_end (by rfl) ?_
                refine eX_then ?_
                refine cW_prune [(1, .pointer (some ⟨b4, 0, none⟩)), (4, .slice A50 (y46.1).length cap51), (5, .bool (y46.2)), (7, .slice A125 (y321.2).length cap126), (10, .int .i64 (y321.1)), (11, .int .i64 (1))] (by kernel_rfl) (by kernel_rfl) (fun a327 => ?_)
                refine cW_seq ?_
                refine cW_region ?_
                refine wS_pure 2 [(66, .int .i64 (1)), (65, .slice A125 (y321.2).length cap126)] (by kernel_rfl) ?_
                obtain ⟨y328, hy329, hm⟩ := bindE hm
                refine wS_calls (d := 67) (f := 36) (vs := [.slice A125 (y321.2).length cap126, .int .i64 (1)]) (by kernel_rfl) ent36 (c_laws_heldInt64SS hy329 (F325.slr encI_ok)) ?_
                rintro _ w330 ⟨rfl, hc331⟩
                replace F0_1 := F0_1.chg hc331 Dj.nil
                replace F0_2 := F0_2.chg hc331 Dj.nil
                replace F0_3 := F0_3.chg hc331 Dj.nil
                replace F7 := F7.chg hc331 notNil
                replace F22 := F22.chg hc331 Dj.nil
                replace F28 := F28.chg hc331 Dj.nil
                replace F34 := F34.chg hc331 Dj.nil
                replace F53 := F53.chg hc331 Dj.nil
                replace F307 := F307.chg hc331 Dj.nil
                replace F309 := F309.chg hc331 Dj.nil
                replace F311 := F311.chg hc331 Dj.nil
                replace F119 := F119.chg hc331 notNil
                replace F325 := F325.chg hc331 Dj.nil
                replace F247 := F247.chg hc331 Dj.nil
                replace F253 := F253.chg hc331 Dj.nil
                replace F259 := F259.chg hc331 Dj.nil
                replace hB := hB.inS hc331 inNil
                replace hZ := Nat.le_trans hZ hc331.size
                refine ⟨.int .i64 (y328), rfl, ?_⟩
                refine wS_pure 1 [(11, .int .i64 (y328))] (by kernel_rfl) ?_
                refine wS_end (by rfl) ?_
                refine eX_then ?_
                refine cW_seq ?_
                refine cW_seq ?_
                refine cW_region ?_
                refine wS_pure 2 [(69, .bool (decide (y328 < 0))), (68, .int .i64 (y328))] (by kernel_rfl) ?_
                refine wS_end (by rfl) ?_
                refine eX_then ?_
                refine cW_cond (t := decide (y328 < 0)) (by kernel_rfl) (fun hb332 => ?_) (fun hb332 => ?_)
                · have hm := condT hb332 hm
                  refine cW_seq ?_
                  refine cW_region ?_
                  refine wS_pure 1 [(2, .bool (false))] (by kernel_rfl) ?_
                  refine wS_end (by rfl) ?_
                  refine eX_then ?_
                  refine cW_ret ?_
                  refine eX_then_ret ?_
                  have hq : (some false : Option ((Bool))) = some _ := hm
                  replace hq := someE hq
                  subst hq
                  refine eX_ret (vs := [.bool (false)]) [.tmp 2] (by rfl) ⟨by (show lkE _ _ _ = _); kernel_rfl, trivial⟩ ?_
                  exact ⟨rfl, hB⟩
                · have hm := condF hb332 hm
                  refine cW_skip ?_
                  refine eX_then ?_
                  refine cW_seq ?_
                  refine cW_seq ?_
                  refine cW_region ?_
                  refine wS_pure 3 [(72, .bool (y328 != y321.1)), (71, .int .i64 (y321.1)), (70, .int .i64 (y328))] (by kernel_rfl) ?_
                  refine wS_end (by rfl) ?_
                  refine eX_then ?_
                  refine cW_cond (t := y328 != y321.1) (by kernel_rfl) (fun hb333 => ?_) (fun hb333 => ?_)
                  · have hm := condT hb333 hm
                    refine cW_seq ?_
                    refine cW_region ?_
                    refine wS_pure 1 [(2, .bool (false))] (by kernel_rfl) ?_
                    refine wS_end (by rfl) ?_
                    refine eX_then ?_
                    refine cW_ret ?_
                    refine eX_then_ret ?_
                    have hq : (some false : Option ((Bool))) = some _ := hm
                    replace hq := someE hq
                    subst hq
                    refine eX_ret (vs := [.bool (false)]) [.tmp 2] (by rfl) ⟨by (show lkE _ _ _ = _); kernel_rfl, trivial⟩ ?_
                    exact ⟨rfl, hB⟩
                  · have hm := condF hb333 hm
                    refine cW_skip ?_
                    refine eX_then ?_
                    refine cW_seq ?_
                    refine cW_region ?_
                    refine wS_loadA (d := 74) (T := 59) (ad := ⟨b4, 0, none⟩) (vs := [.int .i64 (p0_0), .slice A0_1 (l0_1).length cap0_1, .slice A0_2 (l0_2).length cap0_2, .slice A0_3 (l0_3).length cap0_3]) (by kernel_rfl) vt59 (fun i u hu => box_cells F7 0 hu (by rfl)) ?_
                    obtain ⟨y334, hy335, hm⟩ := bindE hm
                    refine wS_calls (d := 75) (f := 39) (vs := [.agg #[.int .i64 (p0_0), .slice A0_1 (l0_1).length cap0_1, .slice A0_2 (l0_2).length cap0_2, .slice A0_3 (l0_3).length cap0_3]]) (by kernel_rfl) ent39 (c_laws_toWiring hy335 F0_1 F0_2 F0_3) ?_
                    rintro _ w336 ⟨A338, cap339, fp340, fr343, A344, cap345, fp346, fr349, A350, cap351, fp352, rfl, F341, G342, F347, G348, F353, G354, D356, D357, D358, hc337⟩
                    have D360 : Dj [b4] (fp340 ++ fr343) := Dj.of (lt1 F7.lt) G342
                    have D361 : Dj (fp21 ++ fr24) (fp340 ++ fr343) := Dj.of F22.low G342
                    have D362 : Dj (fp27 ++ fr30) (fp340 ++ fr343) := Dj.of F28.low G342
                    have D363 : Dj fp33 (fp340 ++ fr343) := Dj.of F34.low G342
                    have D364 : Dj (fp52 ++ fr55) (fp340 ++ fr343) := Dj.of F53.low G342
                    have D365 : Dj (fp67 ++ fr70) (fp340 ++ fr343) := Dj.of F307.low G342
                    have D366 : Dj (fp73 ++ fr76) (fp340 ++ fr343) := Dj.of F309.low G342
                    have D367 : Dj fp79 (fp340 ++ fr343) := Dj.of F311.low G342
                    have D368 : Dj [b104] (fp340 ++ fr343) := Dj.of (lt1 F119.lt) G342
                    have D369 : Dj (fp127 ++ fr130) (fp340 ++ fr343) := Dj.of F325.low G342
                    have D370 : Dj (fp246 ++ fr249) (fp340 ++ fr343) := Dj.of F247.low G342
                    have D371 : Dj (fp252 ++ fr255) (fp340 ++ fr343) := Dj.of F253.low G342
                    have D372 : Dj fp258 (fp340 ++ fr343) := Dj.of F259.low G342
                    have D374 : Dj [b4] (fp346 ++ fr349) := Dj.of (lt1 F7.lt) G348
                    have D375 : Dj (fp21 ++ fr24) (fp346 ++ fr349) := Dj.of F22.low G348
                    have D376 : Dj (fp27 ++ fr30) (fp346 ++ fr349) := Dj.of F28.low G348
                    have D377 : Dj fp33 (fp346 ++ fr349) := Dj.of F34.low G348
                    have D378 : Dj (fp52 ++ fr55) (fp346 ++ fr349) := Dj.of F53.low G348
                    have D379 : Dj (fp67 ++ fr70) (fp346 ++ fr349) := Dj.of F307.low G348
                    have D380 : Dj (fp73 ++ fr76) (fp346 ++ fr349) := Dj.of F309.low G348
                    have D381 : Dj fp79 (fp346 ++ fr349) := Dj.of F311.low G348
                    have D382 : Dj [b104] (fp346 ++ fr349) := Dj.of (lt1 F119.lt) G348
                    have D383 : Dj (fp127 ++ fr130) (fp346 ++ fr349) := Dj.of F325.low G348
                    have D384 : Dj (fp246 ++ fr249) (fp346 ++ fr349) := Dj.of F247.low G348
                    have D385 : Dj (fp252 ++ fr255) (fp346 ++ fr349) := Dj.of F253.low G348
                    have D386 : Dj fp258 (fp346 ++ fr349) := Dj.of F259.low G348
                    have D388 : Dj [b4] fp352 := Dj.of (lt1 F7.lt) G354
                    have D389 : Dj (fp21 ++ fr24) fp352 := Dj.of F22.low G354
                    have D390 : Dj (fp27 ++ fr30) fp352 := Dj.of F28.low G354
                    have D391 : Dj fp33 fp352 := Dj.of F34.low G354
                    have D392 : Dj (fp52 ++ fr55) fp352 := Dj.of F53.low G354
                    have D393 : Dj (fp67 ++ fr70) fp352 := Dj.of F307.low G354
                    have D394 : Dj (fp73 ++ fr76) fp352 := Dj.of F309.low G354
                    have D395 : Dj fp79 fp352 := Dj.of F311.low G354
                    have D396 : Dj [b104] fp352 := Dj.of (lt1 F119.lt) G354
                    have D397 : Dj (fp127 ++ fr130) fp352 := Dj.of F325.low G354
                    have D398 : Dj (fp246 ++ fr249) fp352 := Dj.of F247.low G354
                    have D399 : Dj (fp252 ++ fr255) fp352 := Dj.of F253.low G354
                    have D400 : Dj fp258 fp352 := Dj.of F259.low G354
                    replace F0_1 := F0_1.chg hc337 Dj.nil
                    replace F0_2 := F0_2.chg hc337 Dj.nil
                    replace F0_3 := F0_3.chg hc337 Dj.nil
                    replace F7 := F7.chg hc337 notNil
                    replace F22 := F22.chg hc337 Dj.nil
                    replace F28 := F28.chg hc337 Dj.nil
                    replace F34 := F34.chg hc337 Dj.nil
                    replace F53 := F53.chg hc337 Dj.nil
                    replace F307 := F307.chg hc337 Dj.nil
                    replace F309 := F309.chg hc337 Dj.nil
                    replace F311 := F311.chg hc337 Dj.nil
                    replace F119 := F119.chg hc337 notNil
                    replace F325 := F325.chg hc337 Dj.nil
                    replace F247 := F247.chg hc337 Dj.nil
                    replace F253 := F253.chg hc337 Dj.nil
                    replace F259 := F259.chg hc337 Dj.nil
                    replace hB := hB.inS hc337 inNil
                    replace G342 := low_le hZ G342
                    replace G348 := low_le hZ G348
                    replace G354 := low_le hZ G354
                    replace hZ := Nat.le_trans hZ hc337.size
                    refine ⟨.agg #[.int .i64 (y334.1), .slice A338 (y334.2.1).length cap339, .slice A344 (y334.2.2.1).length cap345, .slice A350 (y334.2.2.2).length cap351], rfl, ?_⟩
                    obtain ⟨y401, hy402, hm⟩ := bindE hm
                    refine wS_calls (d := 76) (f := 47) (vs := [.agg #[.int .i64 (y334.1), .slice A338 (y334.2.1).length cap339, .slice A344 (y334.2.2.1).length cap345, .slice A350 (y334.2.2.2).length cap351]]) (by kernel_rfl) ent47 (c_impl_GroupsOf hy402 (F341.slr encI_ok) (F347.slr encI_ok) (F353.sl encI_ok)) ?_
                    rintro _ w403 ⟨A405, cap406, fp407, fr410, rfl, F408, G409, hc404⟩
                    have D412 : Dj [b4] (fp407 ++ fr410) := Dj.of (lt1 F7.lt) G409
                    have D413 : Dj (fp21 ++ fr24) (fp407 ++ fr410) := Dj.of F22.low G409
                    have D414 : Dj (fp27 ++ fr30) (fp407 ++ fr410) := Dj.of F28.low G409
                    have D415 : Dj fp33 (fp407 ++ fr410) := Dj.of F34.low G409
                    have D416 : Dj (fp52 ++ fr55) (fp407 ++ fr410) := Dj.of F53.low G409
                    have D417 : Dj (fp67 ++ fr70) (fp407 ++ fr410) := Dj.of F307.low G409
                    have D418 : Dj (fp73 ++ fr76) (fp407 ++ fr410) := Dj.of F309.low G409
                    have D419 : Dj fp79 (fp407 ++ fr410) := Dj.of F311.low G409
                    have D420 : Dj [b104] (fp407 ++ fr410) := Dj.of (lt1 F119.lt) G409
                    have D421 : Dj (fp127 ++ fr130) (fp407 ++ fr410) := Dj.of F325.low G409
                    have D422 : Dj (fp246 ++ fr249) (fp407 ++ fr410) := Dj.of F247.low G409
                    have D423 : Dj (fp252 ++ fr255) (fp407 ++ fr410) := Dj.of F253.low G409
                    have D424 : Dj fp258 (fp407 ++ fr410) := Dj.of F259.low G409
                    have D425 : Dj (fp340 ++ fr343) (fp407 ++ fr410) := Dj.of F341.low G409
                    have D426 : Dj (fp346 ++ fr349) (fp407 ++ fr410) := Dj.of F347.low G409
                    have D427 : Dj fp352 (fp407 ++ fr410) := Dj.of F353.low G409
                    replace F0_1 := F0_1.chg hc404 Dj.nil
                    replace F0_2 := F0_2.chg hc404 Dj.nil
                    replace F0_3 := F0_3.chg hc404 Dj.nil
                    replace F7 := F7.chg hc404 notNil
                    replace F22 := F22.chg hc404 Dj.nil
                    replace F28 := F28.chg hc404 Dj.nil
                    replace F34 := F34.chg hc404 Dj.nil
                    replace F53 := F53.chg hc404 Dj.nil
                    replace F307 := F307.chg hc404 Dj.nil
                    replace F309 := F309.chg hc404 Dj.nil
                    replace F311 := F311.chg hc404 Dj.nil
                    replace F119 := F119.chg hc404 notNil
                    replace F325 := F325.chg hc404 Dj.nil
                    replace F247 := F247.chg hc404 Dj.nil
                    replace F253 := F253.chg hc404 Dj.nil
                    replace F259 := F259.chg hc404 Dj.nil
                    replace F341 := F341.chg hc404 Dj.nil
                    replace F347 := F347.chg hc404 Dj.nil
                    replace F353 := F353.chg hc404 Dj.nil
                    replace hB := hB.inS hc404 inNil
                    replace G409 := low_le hZ G409
                    replace hZ := Nat.le_trans hZ hc404.size
                    refine ⟨.tuple #[.slice A405 (y401.1).length cap406, .bool (y401.2)], rfl, ?_⟩
                    refine wS_pure 5 [(13, .bool (y401.2)), (12, .slice A405 (y401.1).length cap406), (78, .bool (y401.2)), (77, .slice A405 (y401.1).length cap406), (73, .tuple #[.slice A405 (y401.1).length cap406, .bool (y401.2)])] (by kernel_rfl) ?_
                    refine wS_end (by rfl) ?_
                    refine eX_then ?_
                    refine cW_seq ?_
                    refine cW_seq ?_
                    refine cW_region ?_
                    refine wS_pure 2 [(80, .slice A50 (y46.1).length cap51), (79, .slice A405 (y401.1).length cap406)] (by kernel_rfl) ?_
                    obtain ⟨y428, hy429, hm⟩ := bindE hm
                    refine wS_calls (d := 81) (f := 32) (vs := [.slice A405 (y401.1).length cap406, .slice A50 (y46.1).length cap51]) (by kernel_rfl) ent32 (c_laws_eqInt64SS hy429 (F408.slr encI_ok) (F53.slr encI_ok)) ?_
                    rintro _ w430 ⟨rfl, hc431⟩
                    replace F0_1 := F0_1.chg hc431 Dj.nil
                    replace F0_2 := F0_2.chg hc431 Dj.nil
                    replace F0_3 := F0_3.chg hc431 Dj.nil
                    replace F7 := F7.chg hc431 notNil
                    replace F22 := F22.chg hc431 Dj.nil
                    replace F28 := F28.chg hc431 Dj.nil
                    replace F34 := F34.chg hc431 Dj.nil
                    replace F53 := F53.chg hc431 Dj.nil
                    replace F307 := F307.chg hc431 Dj.nil
                    replace F309 := F309.chg hc431 Dj.nil
                    replace F311 := F311.chg hc431 Dj.nil
                    replace F119 := F119.chg hc431 notNil
                    replace F325 := F325.chg hc431 Dj.nil
                    replace F247 := F247.chg hc431 Dj.nil
                    replace F253 := F253.chg hc431 Dj.nil
                    replace F259 := F259.chg hc431 Dj.nil
                    replace F341 := F341.chg hc431 Dj.nil
                    replace F347 := F347.chg hc431 Dj.nil
                    replace F353 := F353.chg hc431 Dj.nil
                    replace F408 := F408.chg hc431 Dj.nil
                    replace hB := hB.inS hc431 inNil
                    replace hZ := Nat.le_trans hZ hc431.size
                    refine ⟨.bool (y428), rfl, ?_⟩
                    refine wS_pure 2 [(83, .bool (!y428)), (82, .bool (!y428))] (by kernel_rfl) ?_
                    refine wS_bool (!y428) (fun hb432 => ?_) (fun hb432 => ?_)
                    · have hm := condT hb432 hm
                      rewrite [hb432]
                      refine wS_pure 4 [(87, .bool (true)), (86, undef), (85, undef), (84, undef)] (by kernel_rfl) ?_
                      refine wS_end (by rfl) ?_
                      refine eX_then ?_
                      refine cW_prune [(7, .slice A125 (y321.2).length cap126), (10, .int .i64 (y321.1)), (87, .bool (true))] (by kernel_rfl) (by kernel_rfl) (fun a433 => ?_)
                      refine cW_cond_t (by kernel_rfl) ?_
                      refine cW_seq ?_
                      refine cW_region ?_
                      refine wS_pure 1 [(2, .bool (false))] (by kernel_rfl) ?_
                      refine wS_end (by rfl) ?_
                      refine eX_then ?_
                      refine cW_ret ?_
                      refine eX_then_ret ?_
                      have hq : (some false : Option ((Bool))) = some _ := hm
                      replace hq := someE hq
                      subst hq
                      refine eX_ret (vs := [.bool (false)]) [.tmp 2] (by rfl) ⟨by (show lkE _ _ _ = _); kernel_rfl, trivial⟩ ?_
                      exact ⟨rfl, hB⟩
                    · have hm := condF hb432 hm
                      rewrite [hb432]
                      refine wS_pure 4 [(87, .bool (!(y401.2 == y46.2))), (86, .bool (!(y401.2 == y46.2))), (85, .bool (y46.2)), (84, .bool (y401.2))] (by kernel_rfl) ?_
                      refine wS_end (by rfl) ?_
                      refine eX_then ?_
                      refine cW_prune [(7, .slice A125 (y321.2).length cap126), (10, .int .i64 (y321.1)), (87, .bool (!(y401.2 == y46.2)))] (by kernel_rfl) (by kernel_rfl) (fun a434 => ?_)
                      refine cW_cond (t := !(y401.2 == y46.2)) (by kernel_rfl) (fun hb435 => ?_) (fun hb435 => ?_)
                      · have hm := condT hb435 hm
                        refine cW_seq ?_
                        refine cW_region ?_
                        refine wS_pure 1 [(2, .bool (false))] (by kernel_rfl) ?_
                        refine wS_end (by rfl) ?_
                        refine eX_then ?_
                        refine cW_ret ?_
                        refine eX_then_ret ?_
                        have hq : (some false : Option ((Bool))) = some _ := hm
                        replace hq := someE hq
                        subst hq
                        refine eX_ret (vs := [.bool (false)]) [.tmp 2] (by rfl) ⟨by (show lkE _ _ _ = _); kernel_rfl, trivial⟩ ?_
                        exact ⟨rfl, hB⟩
                      · have hm := condF hb435 hm
                        refine cW_skip ?_
                        refine eX_then ?_
                        refine cW_seq ?_
                        refine cW_region ?_
                        refine wS_pure 1 [(11, .int .i64 (1))] (by kernel_rfl) ?_
                        refine wS_end (by rfl) ?_
                        refine eX_then ?_
                        refine cW_seq ?_
                        refine cW_region ?_
                        refine wS_pure 2 [(89, .int .i64 (1)), (88, .slice A125 (y321.2).length cap126)] (by kernel_rfl) ?_
                        obtain ⟨y436, hy437, hm⟩ := bindE hm
                        refine wS_calls (d := 90) (f := 36) (vs := [.slice A125 (y321.2).length cap126, .int .i64 (1)]) (by kernel_rfl) ent36 (c_laws_heldInt64SS hy437 (F325.slr encI_ok)) ?_
                        rintro _ w438 ⟨rfl, hc439⟩
                        replace F0_1 := F0_1.chg hc439 Dj.nil
                        replace F0_2 := F0_2.chg hc439 Dj.nil
                        replace F0_3 := F0_3.chg hc439 Dj.nil
                        replace F7 := F7.chg hc439 notNil
                        replace F22 := F22.chg hc439 Dj.nil
                        replace F28 := F28.chg hc439 Dj.nil
                        replace F34 := F34.chg hc439 Dj.nil
                        replace F53 := F53.chg hc439 Dj.nil
                        replace F307 := F307.chg hc439 Dj.nil
                        replace F309 := F309.chg hc439 Dj.nil
                        replace F311 := F311.chg hc439 Dj.nil
                        replace F119 := F119.chg hc439 notNil
                        replace F325 := F325.chg hc439 Dj.nil
                        replace F247 := F247.chg hc439 Dj.nil
                        replace F253 := F253.chg hc439 Dj.nil
                        replace F259 := F259.chg hc439 Dj.nil
                        replace F341 := F341.chg hc439 Dj.nil
                        replace F347 := F347.chg hc439 Dj.nil
                        replace F353 := F353.chg hc439 Dj.nil
                        replace F408 := F408.chg hc439 Dj.nil
                        replace hB := hB.inS hc439 inNil
                        replace hZ := Nat.le_trans hZ hc439.size
                        refine ⟨.int .i64 (y436), rfl, ?_⟩
                        refine wS_pure 1 [(11, .int .i64 (y436))] (by kernel_rfl) ?_
                        refine wS_end (by rfl) ?_
                        refine eX_then ?_
                        refine cW_seq ?_
                        refine cW_seq ?_
                        refine cW_region ?_
                        refine wS_pure 2 [(92, .bool (decide (y436 < 0))), (91, .int .i64 (y436))] (by kernel_rfl) ?_
                        refine wS_end (by rfl) ?_
                        refine eX_then ?_
                        refine cW_cond (t := decide (y436 < 0)) (by kernel_rfl) (fun hb440 => ?_) (fun hb440 => ?_)
                        · have hm := condT hb440 hm
                          refine cW_seq ?_
                          refine cW_region ?_
                          refine wS_pure 1 [(2, .bool (false))] (by kernel_rfl) ?_
                          refine wS_end (by rfl) ?_
                          refine eX_then ?_
                          refine cW_ret ?_
                          refine eX_then_ret ?_
                          have hq : (some false : Option ((Bool))) = some _ := hm
                          replace hq := someE hq
                          subst hq
                          refine eX_ret (vs := [.bool (false)]) [.tmp 2] (by rfl) ⟨by (show lkE _ _ _ = _); kernel_rfl, trivial⟩ ?_
                          exact ⟨rfl, hB⟩
                        · have hm := condF hb440 hm
                          refine cW_skip ?_
                          refine eX_then ?_
                          refine cW_seq ?_
                          refine cW_seq ?_
                          refine cW_region ?_
                          refine wS_pure 3 [(95, .bool (y436 != y321.1)), (94, .int .i64 (y321.1)), (93, .int .i64 (y436))] (by kernel_rfl) ?_
                          refine wS_end (by rfl) ?_
                          refine eX_then ?_
                          refine cW_cond (t := y436 != y321.1) (by kernel_rfl) (fun hb441 => ?_) (fun hb441 => ?_)
                          · have hm := condT hb441 hm
                            refine cW_seq ?_
                            refine cW_region ?_
                            refine wS_pure 1 [(2, .bool (false))] (by kernel_rfl) ?_
                            refine wS_end (by rfl) ?_
                            refine eX_then ?_
                            refine cW_ret ?_
                            refine eX_then_ret ?_
                            have hq : (some false : Option ((Bool))) = some _ := hm
                            replace hq := someE hq
                            subst hq
                            refine eX_ret (vs := [.bool (false)]) [.tmp 2] (by rfl) ⟨by (show lkE _ _ _ = _); kernel_rfl, trivial⟩ ?_
                            exact ⟨rfl, hB⟩
                          · have hm := condF hb441 hm
                            refine cW_skip ?_
                            refine eX_then ?_
                            refine cW_seq ?_
                            refine cW_region ?_
                            refine wS_pure 1 [(2, .bool (true))] (by kernel_rfl) ?_
                            refine wS_end (by rfl) ?_
                            refine eX_then ?_
                            refine cW_ret ?_
                            have hq : (some true : Option ((Bool))) = some _ := hm
                            replace hq := someE hq
                            subst hq
                            refine eX_ret (vs := [.bool (true)]) [.tmp 2] (by rfl) ⟨by (show lkE _ _ _ = _); kernel_rfl, trivial⟩ ?_
                            exact ⟨rfl, hB⟩

set_option maxRecDepth 100000 in
/-- spec.FlipGroup -/
theorem c_spec_FlipGroup {w0 : World} {p0_0 : Int} {l0_1 : List (List (Int))} {A0_1 : Option Addr} {cap0_1 : Nat} {fp0_1 : List Nat} {l0_2 : List (List (Int))} {A0_2 : Option Addr} {cap0_2 : Nat} {fp0_2 : List Nat} {l0_3 : List (Int)} {A0_3 : Option Addr} {cap0_3 : Nat} {fp0_3 : List Nat} {l1 : List (Int)} {A1 : Option Addr} {cap1 : Nat} {fp1 : List Nat} {p2 : Int} {r : (List (Int)) × (Bool)} (hm : m_spec_FlipGroup p0_0 l0_1 l0_2 l0_3 l1 p2 = some r) (F0_1 : SlR 1 encI w0 fp0_1 A0_1 l0_1) (F0_2 : SlR 1 encI w0 fp0_2 A0_2 l0_2) (F0_3 : Sl 1 encI w0 fp0_3 A0_3 l0_3) (F1 : Sl 1 encI w0 fp1 A1 l1) :
    Calls Try.prog 49 #[.agg #[.int .i64 (p0_0), .slice A0_1 (l0_1).length cap0_1, .slice A0_2 (l0_2).length cap0_2, .slice A0_3 (l0_3).length cap0_3], .slice A1 (l1).length cap1, .int .i64 (p2)] w0 fun e w' => ∃ A100 cap100 fp100, e = .returned (.tuple #[.slice A100 (r.1).length cap100, .bool (r.2)]) ∧ Ow 1 encI 2 w' fp100 A100 cap100 r.1 ∧ (∀ x ∈ fp100, w0.heap.size ≤ x) ∧ Chg [] w0 w' := by
  have L0_1 := F0_1.low
  have L0_2 := F0_2.low
  have L0_3 := F0_3.low
  have L1 := F1.low
  have hB : Chg [] w0 w0 := Chg.refl _ _
  have hZ := Nat.le_refl w0.heap.size
  unfold m_spec_FlipGroup at hm
  refine enterE (N := 59) Try.func49 (by rfl) Try.ntmps49 (by simp) [(0, .agg #[.int .i64 (p0_0), .slice A0_1 (l0_1).length cap0_1, .slice A0_2 (l0_2).length cap0_2, .slice A0_3 (l0_3).length cap0_3]), (1, .slice A1 (l1).length cap1), (2, .int .i64 (p2))] (by rfl) (by kernel_rfl) (fun a => ?_)
  refine cW_seq ?_
  refine cW_region ?_
  refine wS_box (d := 3) (T := 27) (x := .agg #[.int .i64 (p0_0), .slice A0_1 (l0_1).length cap0_1, .slice A0_2 (l0_2).length cap0_2, .slice A0_3 (l0_3).length cap0_3]) (by kernel_rfl) ?_
  intro b5 w6 G7 F8 hc9
  replace F8 : Cl w6 b5 27 [.int .i64 (p0_0), .slice A0_1 (l0_1).length cap0_1, .slice A0_2 (l0_2).length cap0_2, .slice A0_3 (l0_3).length cap0_3] := F8
  replace F0_1 := F0_1.chg hc9 Dj.nil
  replace F0_2 := F0_2.chg hc9 Dj.nil
  replace F0_3 := F0_3.chg hc9 Dj.nil
  replace F1 := F1.chg hc9 Dj.nil
  replace hB := hB.inS hc9 inNil
  replace G7 := Nat.le_trans hZ G7
  replace hZ := Nat.le_trans hZ hc9.size
  refine wS_pure 2 [(7, .bool (false)), (6, .slice none 0 0)] (by kernel_rfl) ?_
  refine wS_end (by rfl) ?_
  refine eX_then ?_
  refine cW_seq ?_
  refine cW_seq ?_
  refine cW_region ?_
  obtain ⟨y11, hy12, hm⟩ := bindE hm
  refine wS_calls (d := 12) (f := 63) (vs := [.pointer (some ⟨b5, 0, none⟩)]) (by kernel_rfl) ent63 (c_spec_l07Is_bimplWiring hy12 F0_1 F0_2 F0_3 F8) ?_
  rintro _ w13 ⟨rfl, hc14⟩
  replace F0_1 := F0_1.chg hc14 Dj.nil
  replace F0_2 := F0_2.chg hc14 Dj.nil
  replace F0_3 := F0_3.chg hc14 Dj.nil
  replace F1 := F1.chg hc14 Dj.nil
  replace F8 := F8.chg hc14 notNil
  replace hB := hB.inS hc14 inNil
  replace hZ := Nat.le_trans hZ hc14.size
  refine ⟨.bool (y11), rfl, ?_⟩
  refine wS_pure 2 [(14, .bool (!y11)), (13, .bool (!y11))] (by kernel_rfl) ?_
  refine wS_bool (!y11) (fun hb15 => ?_) (fun hb15 => ?_)
  · have hm := condT hb15 hm
    rewrite [hb15]
    refine wS_pure 4 [(18, .bool (true)), (17, undef), (16, undef), (15, undef)] (by kernel_rfl) ?_
    refine wS_end (by rfl) ?_
    refine eX_then ?_
    refine cW_cond_t (by kernel_rfl) ?_
    refine cW_seq ?_
    refine cW_region ?_
    refine wS_pure 2 [(7, .bool (false)), (6, .slice none 0 0)] (by kernel_rfl) ?_
    refine wS_end (by rfl) ?_
    refine eX_then ?_
    refine cW_ret ?_
    refine eX_then_ret ?_
    have hq : (some (([], false)) : Option ((List (Int)) × (Bool))) = some _ := hm
    replace hq := someE hq
    subst hq
    refine eX_ret (vs := [.slice none 0 0, .bool (false)]) [.tmp 6, .tmp 7] (by rfl) ⟨by (show lkE _ _ _ = _); kernel_rfl, ⟨by (show lkE _ _ _ = _); kernel_rfl, trivial⟩⟩ ?_
    exact ⟨none, 0, [], rfl, Ow.nil _, lowNil, hB⟩
  · have hm := condF hb15 hm
    rewrite [hb15]
    refine wS_pure 1 [(15, .slice A1 (l1).length cap1)] (by kernel_rfl) ?_
    obtain ⟨y16, hy17, hm⟩ := bindE hm
    refine wS_calls (d := 16) (f := 64) (vs := [.pointer (some ⟨b5, 0, none⟩), .slice A1 (l1).length cap1]) (by kernel_rfl) ent64 (c_spec_l07Layering_bimplWiring hy17 F0_1 F0_2 F0_3 F8 F1) ?_
    rintro _ w18 ⟨rfl, hc19⟩
    replace F0_1 := F0_1.chg hc19 Dj.nil
    replace F0_2 := F0_2.chg hc19 Dj.nil
    replace F0_3 := F0_3.chg hc19 Dj.nil
    replace F1 := F1.chg hc19 Dj.nil
    replace F8 := F8.chg hc19 notNil
    replace hB := hB.inS hc19 inNil
    replace hZ := Nat.le_trans hZ hc19.size
    refine ⟨.bool (y16), rfl, ?_⟩
    refine wS_pure 2 [(18, .bool (!y16)), (17, .bool (!y16))] (by kernel_rfl) ?_
    refine wS_end (by rfl) ?_
    refine eX_then ?_
    refine cW_cond (t := !y16) (by kernel_rfl) (fun hb20 => ?_) (fun hb20 => ?_)
    · have hm := condT hb20 hm
      refine cW_seq ?_
      refine cW_region ?_
      refine wS_pure 2 [(7, .bool (false)), (6, .slice none 0 0)] (by kernel_rfl) ?_
      refine wS_end (by rfl) ?_
      refine eX_then ?_
      refine cW_ret ?_
      refine eX_then_ret ?_
      have hq : (some (([], false)) : Option ((List (Int)) × (Bool))) = some _ := hm
      replace hq := someE hq
      subst hq
      refine eX_ret (vs := [.slice none 0 0, .bool (false)]) [.tmp 6, .tmp 7] (by rfl) ⟨by (show lkE _ _ _ = _); kernel_rfl, ⟨by (show lkE _ _ _ = _); kernel_rfl, trivial⟩⟩ ?_
      exact ⟨none, 0, [], rfl, Ow.nil _, lowNil, hB⟩
    · have hm := condF hb20 hm
      refine cW_skip ?_
      refine eX_then ?_
      refine cW_seq ?_
      refine cW_region ?_
      obtain ⟨y21, hy22, hm⟩ := bindE hm
      refine wS_calls (d := 19) (f := 84) (vs := [.pointer (some ⟨b5, 0, none⟩)]) (by kernel_rfl) ent84 (c_spec_l07Groups_bimplWiring hy22 F0_1 F0_2 F0_3 F8) ?_
      rintro _ w23 ⟨A25, cap26, fp27, fr30, rfl, F28, G29, hc24⟩
      have D32 : Dj [b5] (fp27 ++ fr30) := Dj.of (lt1 F8.lt) G29
      replace F0_1 := F0_1.chg hc24 Dj.nil
      replace F0_2 := F0_2.chg hc24 Dj.nil
      replace F0_3 := F0_3.chg hc24 Dj.nil
      replace F1 := F1.chg hc24 Dj.nil
      replace F8 := F8.chg hc24 notNil
      replace hB := hB.inS hc24 inNil
      replace G29 := low_le hZ G29
      replace hZ := Nat.le_trans hZ hc24.size
      refine ⟨.slice A25 (y21).length cap26, rfl, ?_⟩
      refine wS_pure 1 [(8, .slice A25 (y21).length cap26)] (by kernel_rfl) ?_
      refine wS_end (by rfl) ?_
      refine eX_then ?_
      refine cW_seq ?_
      refine cW_seq ?_
      refine cW_region ?_
      refine wS_pure 4 [(23, .int .i64 (wr ((((y21).length : Int)) - 1))), (22, .int .i64 (((y21).length : Int))), (21, .slice A25 (y21).length cap26), (20, .int .i64 (p2))] (by kernel_rfl) ?_
      obtain ⟨y33, hy34, hm⟩ := bindE hm
      refine wS_calls (d := 24) (f := 87) (vs := [.int .i64 (p2), .int .i64 (0), .int .i64 (wr ((((y21).length : Int)) - 1))]) (by kernel_rfl) ent87 (c_spec_l00In hy34) ?_
      rintro _ w35 ⟨rfl, hc36⟩
      replace F0_1 := F0_1.chg hc36 Dj.nil
      replace F0_2 := F0_2.chg hc36 Dj.nil
      replace F0_3 := F0_3.chg hc36 Dj.nil
      replace F1 := F1.chg hc36 Dj.nil
      replace F8 := F8.chg hc36 notNil
      replace F28 := F28.chg hc36 Dj.nil
      replace hB := hB.inS hc36 inNil
      replace hZ := Nat.le_trans hZ hc36.size
      refine ⟨.bool (y33), rfl, ?_⟩
      refine wS_pure 1 [(25, .bool (!y33))] (by kernel_rfl) ?_
      refine wS_end (by rfl) ?_
      refine eX_then ?_
      refine cW_cond (t := !y33) (by kernel_rfl) (fun hb37 => ?_) (fun hb37 => ?_)
      · have hm := condT hb37 hm
        refine cW_seq ?_
        refine cW_region ?_
        refine wS_pure 2 [(7, .bool (false)), (6, .slice none 0 0)] (by kernel_rfl) ?_
        refine wS_end (by rfl) ?_
        refine eX_then ?_
        refine cW_ret ?_
        refine eX_then_ret ?_
        have hq : (some (([], false)) : Option ((List (Int)) × (Bool))) = some _ := hm
        replace hq := someE hq
        subst hq
        refine eX_ret (vs := [.slice none 0 0, .bool (false)]) [.tmp 6, .tmp 7] (by rfl) ⟨by (show lkE _ _ _ = _); kernel_rfl, ⟨by (show lkE _ _ _ = _); kernel_rfl, trivial⟩⟩ ?_
        exact ⟨none, 0, [], rfl, Ow.nil _, lowNil, hB⟩
      · have hm := condF hb37 hm
        refine cW_skip ?_
        refine eX_then ?_
        refine cW_seq ?_
        refine cW_region ?_
        refine wS_pure 1 [(26, .slice A1 (l1).length cap1)] (by kernel_rfl) ?_
        obtain ⟨y38, hy39, hm⟩ := bindE hm
        refine wS_calls (d := 27) (f := 88) (vs := [.slice A1 (l1).length cap1]) (by kernel_rfl) ent88 (c_spec_l00Own hy39 F1) ?_
        rintro _ w40 ⟨A42, cap43, fp44, rfl, F45, G46, hc41⟩
        have D49 : Dj [b5] fp44 := Dj.of (lt1 F8.lt) G46
        have D50 : Dj (fp27 ++ fr30) fp44 := Dj.of F28.low G46
        replace F0_1 := F0_1.chg hc41 Dj.nil
        replace F0_2 := F0_2.chg hc41 Dj.nil
        replace F0_3 := F0_3.chg hc41 Dj.nil
        replace F1 := F1.chg hc41 Dj.nil
        replace F8 := F8.chg hc41 notNil
        replace F28 := F28.chg hc41 Dj.nil
        replace hB := hB.inS hc41 inNil
        replace G46 := low_le hZ G46
        replace hZ := Nat.le_trans hZ hc41.size
        refine ⟨.slice A42 (y38).length cap43, rfl, ?_⟩
        refine wS_pure 1 [(9, .slice A42 (y38).length cap43)] (by kernel_rfl) ?_
        refine wS_end (by rfl) ?_
        refine eX_then ?_
        refine cW_prune [(2, .int .i64 (p2)), (3, .pointer (some ⟨b5, 0, none⟩)), (8, .slice A25 (y21).length cap26), (9, .slice A42 (y38).length cap43)] (by kernel_rfl) (by kernel_rfl) (fun a51 => ?_)
        refine cW_seq ?_
        refine cW_seq ?_
        refine cW_region ?_
        refine wS_pure 1 [(10, .int .i64 (0))] (by kernel_rfl) ?_
        refine wS_end (by rfl) ?_
        refine eX_then ?_
        obtain ⟨r150, hr151, hm⟩ := bindE hm
        have hm152 := hm
        refine cW_cut (fun a' w' => ∃ l137 : List (Int), Sum.inl l137 = r150 ∧ Fr 59 [(9, .slice A42 (l137).length cap43)] a' ∧ Ow 1 encI 2 w' fp44 A42 cap43 l137 ∧ Chg [] w0 w' ∧ w0.heap.size ≤ w'.heap.size) ?_ ?_
        · refine cW_block ?_
          refine cW_loop _ (fun (s153 : Int × (List (Int))) a' w' => ∃ x141 : Int, ∃ l142 : List (Int), (x141, l142) = s153 ∧ Fr 59 [(2, .int .i64 (p2)), (3, .pointer (some ⟨b5, 0, none⟩)), (8, .slice A25 (y21).length cap26), (9, .slice A42 (l142).length cap43), (10, .int .i64 (x141))] a' ∧ SlR 1 encI w' fp0_1 A0_1 l0_1 ∧ SlR 1 encI w' fp0_2 A0_2 l0_2 ∧ Sl 1 encI w' fp0_3 A0_3 l0_3 ∧ Cl w' b5 27 [.int .i64 (p0_0), .slice A0_1 (l0_1).length cap0_1, .slice A0_2 (l0_2).length cap0_2, .slice A0_3 (l0_3).length cap0_3] ∧ OwR 1 encI 25 2 w' fp27 fr30 A25 cap26 y21 ∧ Ow 1 encI 2 w' fp44 A42 cap43 l142 ∧ Chg [] w0 w' ∧ w0.heap.size ≤ w'.heap.size) hr151 (fun hst => ⟨0, y38, rfl, Fr.of hst (by kernel_rfl), F0_1, F0_2, F0_3, F8, F28, F45, hB, hZ⟩) ?_
          rintro _ c154 a' w140 ⟨x141, l142, rfl, hF143, F144, F145, F146, F147, F148, F149, hB, hZ⟩ hx155
          refine Fr.goOn hF143 (by kernel_rfl) ?_
          have hm := hx155
          unfold m_spec_FlipGroup_s1 at hm
          refine cW_seq ?_
          refine cW_seq ?_
          refine cW_region ?_
          refine wS_pure 3 [(30, .int .i64 (p2)), (29, .slice A25 (y21).length cap26), (28, .int .i64 (x141))] (by kernel_rfl) ?_
          obtain ⟨x156, hx157, hm⟩ := bindE hm
          refine wS_idx (d := 31) (T := 24) (A := A25) (n := (y21).length) (cap := cap26) (kd := .i64) (m := p2) (by kernel_rfl) sl24 ((F148.slr encI_ok).is hx157) ?_
          obtain ⟨A158, cap159, hc161, F160, K162⟩ := OwR.row F148 encI_ok hx157
          have G164 := low_inr G29
          have Dm165 := (F148.dj).symm
          refine wS_load1 (d := 32) (T := 25) (ad := (elA A25 1 (p2) 0)) (v := .slice A158 (x156).length cap159) (by kernel_rfl) vt25 hc161 ?_
          refine wS_pure 2 [(34, .bool (decide (x141 < (((x156).length : Int))))), (33, .int .i64 (((x156).length : Int)))] (by kernel_rfl) ?_
          refine wS_end (by rfl) ?_
          refine eX_then ?_
          refine cW_cond (t := decide (x141 < (((x156).length : Int)))) (by kernel_rfl) (fun hb166 => ?_) (fun hb166 => ?_)
          · have hm := condT hb166 hm
            refine cW_skip ?_
            refine eX_then ?_
            refine cW_seq ?_
            refine cW_block ?_
            refine cW_seq ?_
            refine cW_region ?_
            refine wS_pure 2 [(38, .int .i64 (p2)), (37, .slice A25 (y21).length cap26)] (by kernel_rfl) ?_
            obtain ⟨x167, hx168, hm⟩ := bindE hm
            refine wS_idx (d := 39) (T := 24) (A := A25) (n := (y21).length) (cap := cap26) (kd := .i64) (m := p2) (by kernel_rfl) sl24 ((F148.slr encI_ok).is hx168) ?_
            obtain ⟨A169, cap170, hc172, F171, K173⟩ := OwR.row F148 encI_ok hx168
            have G175 := low_inr G29
            have Dm176 := (F148.dj).symm
            refine wS_load1 (d := 40) (T := 25) (ad := (elA A25 1 (p2) 0)) (v := .slice A169 (x167).length cap170) (by kernel_rfl) vt25 hc172 ?_
            refine wS_pure 1 [(41, .int .i64 (x141))] (by kernel_rfl) ?_
            obtain ⟨x177, hx178, hm⟩ := bindE hm
            refine wS_idx (d := 42) (T := 25) (A := A169) (n := (x167).length) (cap := cap170) (kd := .i64) (m := x141) (by kernel_rfl) sl25 (F171.is hx178) ?_
            refine wS_load1 (d := 43) (T := 2) (ad := (elA A169 1 (x141) 0)) (v := .int .i64 (x177)) (by kernel_rfl) vt2 (Sl.cell F171 hx178 0 (by rfl)) ?_
            refine wS_pure 1 [(11, .int .i64 (x177))] (by kernel_rfl) ?_
            refine wS_end (by rfl) ?_
            refine eX_then ?_
            refine cW_seq ?_
            refine cW_seq ?_
            refine cW_region ?_
            refine wS_pure 1 [(44, .pointer (some ⟨b5, 3, none⟩))] (by kernel_rfl) ?_
            refine wS_load1 (d := 45) (T := 25) (ad := ⟨b5, 3, none⟩) (v := .slice A0_3 (l0_3).length cap0_3) (by kernel_rfl) vt25 ((F147).cell 3) ?_
            refine wS_pure 1 [(46, .int .i64 (x177))] (by kernel_rfl) ?_
            obtain ⟨x179, hx180, hm⟩ := bindE hm
            refine wS_idx (d := 47) (T := 25) (A := A0_3) (n := (l0_3).length) (cap := cap0_3) (kd := .i64) (m := x177) (by kernel_rfl) sl25 (F146.is hx180) ?_
            refine wS_load1 (d := 48) (T := 2) (ad := (elA A0_3 1 (x177) 0)) (v := .int .i64 (x179)) (by kernel_rfl) vt2 (Sl.cell F146 hx180 0 (by rfl)) ?_
            refine wS_pure 1 [(49, .bool (decide (x179 ≥ 0)))] (by kernel_rfl) ?_
            refine wS_end (by rfl) ?_
            refine eX_then ?_
            refine cW_prune [(2, .int .i64 (p2)), (3, .pointer (some ⟨b5, 0, none⟩)), (8, .slice A25 (y21).length cap26), (9, .slice A42 (l142).length cap43), (10, .int .i64 (x141)), (11, .int .i64 (x177)), (49, .bool (decide (x179 ≥ 0)))] (by kernel_rfl) (by kernel_rfl) (fun a181 => ?_)
            refine cW_cond (t := decide (x179 ≥ 0)) (by kernel_rfl) (fun hb182 => ?_) (fun hb182 => ?_)
            · have hm := condT hb182 hm
              refine cW_seq ?_
              refine cW_region ?_
              refine wS_pure 2 [(7, .bool (false)), (6, .slice none 0 0)] (by kernel_rfl) ?_
              refine wS_end (by rfl) ?_
              refine eX_then ?_
              refine cW_ret ?_
              refine eX_then_ret ?_
              refine eX_block_ret ?_
              refine eX_then_ret ?_
              have hq : (some (Ctl.out (Sum.inr (([], false)))) : Option (Ctl (Int × (List (Int))) (Sum ((List (Int))) ((List (Int)) × (Bool))))) = some _ := hm
              replace hq := someE hq
              subst hq
              refine eX_outR hx155 (fun hr => ?_)
              subst hr
              refine eX_block_ret ?_
              refine eX_then_ret ?_
              refine eX_then_ret ?_
              have hq : (some (([], false)) : Option ((List (Int)) × (Bool))) = some _ := hm152
              replace hq := someE hq
              subst hq
              refine eX_ret (vs := [.slice none 0 0, .bool (false)]) [.tmp 6, .tmp 7] (by rfl) ⟨by (show lkE _ _ _ = _); kernel_rfl, ⟨by (show lkE _ _ _ = _); kernel_rfl, trivial⟩⟩ ?_
              exact ⟨none, 0, [], rfl, Ow.nil _, lowNil, hB⟩
            · have hm := condF hb182 hm
              refine cW_skip ?_
              refine eX_then ?_
              refine cW_region ?_
              refine wS_pure 4 [(53, .int .i64 (x177)), (52, .slice A42 (l142).length cap43), (51, .int .i64 (x177)), (50, .slice A42 (l142).length cap43)] (by kernel_rfl) ?_
              obtain ⟨x183, hx184, hm⟩ := bindE hm
              refine wS_idx (d := 54) (T := 25) (A := A42) (n := (l142).length) (cap := cap43) (kd := .i64) (m := x177) (by kernel_rfl) sl25 ((F149.sl encI_ok).is hx184) ?_
              refine wS_load1 (d := 55) (T := 2) (ad := (elA A42 1 (x177) 0)) (v := .int .i64 (x183)) (by kernel_rfl) vt2 (Sl.cell (F149.sl encI_ok) hx184 0 (by rfl)) ?_
              refine wS_pure 1 [(56, .int .i64 (wr (1 - x183)))] (by kernel_rfl) ?_
              obtain ⟨x185, hx186, hm⟩ := bindE hm
              refine wS_idx (d := 57) (T := 25) (A := A42) (n := (l142).length) (cap := cap43) (kd := .i64) (m := x177) (by kernel_rfl) sl25 ((F149.sl encI_ok).is hx186) ?_
              refine wS_storeEl (x := x185) (wr (1 - x183)) (T := 2) (U := 2) (cap := cap43) (j := 0) (A := A42) (v := .int .i64 (wr (1 - x183))) (vs := [.int .i64 (wr (1 - x183))]) (m := x177) (by kernel_rfl) (by rfl) sz2 (by rfl) encI_ok F149 hx186 (by simp only [List.length_cons, List.length_nil]; omega) (by rfl) ?_
              intro w187 F188 hc189
              replace F144 := F144.chg hc189 (Dj.of L0_1 G46)
              replace F145 := F145.chg hc189 (Dj.of L0_2 G46)
              replace F146 := F146.chg hc189 (Dj.of L0_3 G46)
              replace F147 := F147.chg hc189 (dj1 D49)
              replace F148 := F148.chg hc189 D50
              replace F160 := F160.chg hc189 ((Dj.inr (D50).symm)).symm
              replace F171 := F171.chg hc189 ((Dj.inr (D50).symm)).symm
              replace hB := hB.inS hc189 (inLow G46)
              replace hZ := Nat.le_trans hZ hc189.size
              clear F149
              rewrite [show (l142).length = (l142.set (Int.toNat x177) (wr (1 - x183))).length from (List.length_set ..).symm]
              refine wS_end (by rfl) ?_
              refine eX_block ?_
              refine eX_then ?_
              refine cW_region ?_
              refine wS_pure 3 [(10, .int .i64 (wr (x141 + 1))), (36, .int .i64 (wr (x141 + 1))), (35, .int .i64 (x141))] (by kernel_rfl) ?_
              refine wS_end (by rfl) ?_
              have hq : (some (Ctl.next ((wr (x141 + 1), l142.set (Int.toNat x177) (wr (1 - x183))))) : Option (Ctl (Int × (List (Int))) (Sum ((List (Int))) ((List (Int)) × (Bool))))) = some _ := hm
              replace hq := someE hq
              subst hq
              exact eX_next hx155 (fun hst => ⟨wr (x141 + 1), l142.set (Int.toNat x177) (wr (1 - x183)), rfl, Fr.of hst (by kernel_rfl), F144, F145, F146, F147, F148, F188, hB, hZ⟩)
          · have hm := condF hb166 hm
            refine cW_exit ?_
            refine eX_then_exit ?_
            have hq : (some (Ctl.out (Sum.inl l142)) : Option (Ctl (Int × (List (Int))) (Sum ((List (Int))) ((List (Int)) × (Bool))))) = some _ := hm
            replace hq := someE hq
            subst hq
            refine eX_outX hx155 (fun hr190 => ?_)
            replace hr190 := hr190.symm
            subst hr190
            refine eX_block_hit ?_
            exact eX_J (fun hst => ⟨l142, rfl, Fr.of hst (by kernel_rfl), F149, hB, hZ⟩)
        · rintro a' w136 ⟨l137, hJ, hF138, F139, hB, hZ⟩
          subst hJ
          refine Fr.goX hF138 (by kernel_rfl) ?_
          refine eX_then ?_
          refine cW_seq ?_
          refine cW_region ?_
          refine wS_pure 3 [(7, .bool (true)), (6, .slice A42 (l137).length cap43), (58, .slice A42 (l137).length cap43)] (by kernel_rfl) ?_
          refine wS_end (by rfl) ?_
          refine eX_then ?_
          refine cW_ret ?_
          have hq : (some ((l137, true)) : Option ((List (Int)) × (Bool))) = some _ := hm
          replace hq := someE hq
          subst hq
          refine eX_ret (vs := [.slice A42 (l137).length cap43, .bool (true)]) [.tmp 6, .tmp 7] (by rfl) ⟨by (show lkE _ _ _ = _); kernel_rfl, ⟨by (show lkE _ _ _ = _); kernel_rfl, trivial⟩⟩ ?_
          exact ⟨A42, cap43, fp44, rfl, F139, G46, hB⟩

set_option maxRecDepth 100000 in
/-- impl.FlipGroup -/
theorem c_impl_FlipGroup {w0 : World} {p0_0 : Int} {l0_1 : List (List (Int))} {A0_1 : Option Addr} {cap0_1 : Nat} {fp0_1 : List Nat} {l0_2 : List (List (Int))} {A0_2 : Option Addr} {cap0_2 : Nat} {fp0_2 : List Nat} {l0_3 : List (Int)} {A0_3 : Option Addr} {cap0_3 : Nat} {fp0_3 : List Nat} {l1 : List (Int)} {A1 : Option Addr} {cap1 : Nat} {fp1 : List Nat} {p2 : Int} {r : (List (Int)) × (Bool)} (hm : m_impl_FlipGroup p0_0 l0_1 l0_2 l0_3 l1 p2 = some r) (F0_1 : SlR 1 encI w0 fp0_1 A0_1 l0_1) (F0_2 : SlR 1 encI w0 fp0_2 A0_2 l0_2) (F0_3 : Sl 1 encI w0 fp0_3 A0_3 l0_3) (F1 : Sl 1 encI w0 fp1 A1 l1) :
    Calls Try.prog 51 #[.agg #[.int .i64 (p0_0), .slice A0_1 (l0_1).length cap0_1, .slice A0_2 (l0_2).length cap0_2, .slice A0_3 (l0_3).length cap0_3], .slice A1 (l1).length cap1, .int .i64 (p2)] w0 fun e w' => ∃ A100 cap100 fp100, e = .returned (.tuple #[.slice A100 (r.1).length cap100, .bool (r.2)]) ∧ Ow 1 encI 2 w' fp100 A100 cap100 r.1 ∧ (∀ x ∈ fp100, w0.heap.size ≤ x) ∧ Chg [] w0 w' := by
  have L0_1 := F0_1.low
  have L0_2 := F0_2.low
  have L0_3 := F0_3.low
  have L1 := F1.low
  have hB : Chg [] w0 w0 := Chg.refl _ _
  have hZ := Nat.le_refl w0.heap.size
  unfold m_impl_FlipGroup at hm
  refine enterE (N := 50) Try.func51 (by rfl) Try.ntmps51 (by simp) [(0, .agg #[.int .i64 (p0_0), .slice A0_1 (l0_1).length cap0_1, .slice A0_2 (l0_2).length cap0_2, .slice A0_3 (l0_3).length cap0_3]), (1, .slice A1 (l1).length cap1), (2, .int .i64 (p2))] (by rfl) (by kernel_rfl) (fun a => ?_)
  refine cW_seq ?_
  refine cW_region ?_
  refine wS_box (d := 3) (T := 27) (x := .agg #[.int .i64 (p0_0), .slice A0_1 (l0_1).length cap0_1, .slice A0_2 (l0_2).length cap0_2, .slice A0_3 (l0_3).length cap0_3]) (by kernel_rfl) ?_
  intro b5 w6 G7 F8 hc9
  replace F8 : Cl w6 b5 27 [.int .i64 (p0_0), .slice A0_1 (l0_1).length cap0_1, .slice A0_2 (l0_2).length cap0_2, .slice A0_3 (l0_3).length cap0_3] := F8
  replace F0_1 := F0_1.chg hc9 Dj.nil
  replace F0_2 := F0_2.chg hc9 Dj.nil
  replace F0_3 := F0_3.chg hc9 Dj.nil
  replace F1 := F1.chg hc9 Dj.nil
  replace hB := hB.inS hc9 inNil
  replace G7 := Nat.le_trans hZ G7
  replace hZ := Nat.le_trans hZ hc9.size
  refine wS_pure 2 [(7, .bool (false)), (6, .slice none 0 0)] (by kernel_rfl) ?_
  refine wS_end (by rfl) ?_
  refine eX_then ?_
  refine cW_seq ?_
  refine cW_seq ?_
  refine cW_region ?_
  refine wS_loadA (d := 11) (T := 27) (ad := ⟨b5, 0, none⟩) (vs := [.int .i64 (p0_0), .slice A0_1 (l0_1).length cap0_1, .slice A0_2 (l0_2).length cap0_2, .slice A0_3 (l0_3).length cap0_3]) (by kernel_rfl) vt27 (fun i u hu => box_cells F8 0 hu (by rfl)) ?_
  refine wS_pure 1 [(12, .slice A1 (l1).length cap1)] (by kernel_rfl) ?_
  obtain ⟨y11, hy12, hm⟩ := bindE hm
  refine wS_calls (d := 13) (f := 18) (vs := [.agg #[.int .i64 (p0_0), .slice A0_1 (l0_1).length cap0_1, .slice A0_2 (l0_2).length cap0_2, .slice A0_3 (l0_3).length cap0_3], .slice A1 (l1).length cap1]) (by kernel_rfl) ent18 (c_impl_IsLayering hy12 F0_1 F0_2 F0_3 F1) ?_
  rintro _ w13 ⟨rfl, hc14⟩
  replace F0_1 := F0_1.chg hc14 Dj.nil
  replace F0_2 := F0_2.chg hc14 Dj.nil
  replace F0_3 := F0_3.chg hc14 Dj.nil
  replace F1 := F1.chg hc14 Dj.nil
  replace F8 := F8.chg hc14 notNil
  replace hB := hB.inS hc14 inNil
  replace hZ := Nat.le_trans hZ hc14.size
  refine ⟨.bool (y11), rfl, ?_⟩
  refine wS_pure 2 [(15, .bool (!y11)), (14, .bool (!y11))] (by kernel_rfl) ?_
  refine wS_bool (!y11) (fun hb15 => ?_) (fun hb15 => ?_)
  · have hm := condT hb15 hm
    rewrite [hb15]
    refine wS_pure 7 [(22, .bool (true)), (21, undef), (20, undef), (19, undef), (18, undef), (17, undef), (16, undef)] (by kernel_rfl) ?_
    refine wS_end (by rfl) ?_
    refine eX_then ?_
    refine cW_cond_t (by kernel_rfl) ?_
    refine cW_seq ?_
    refine cW_region ?_
    refine wS_pure 2 [(7, .bool (false)), (6, .slice none 0 0)] (by kernel_rfl) ?_
    refine wS_end (by rfl) ?_
    refine eX_then ?_
    refine cW_ret ?_
    refine eX_then_ret ?_
    have hq : (some (([], false)) : Option ((List (Int)) × (Bool))) = some _ := hm
    replace hq := someE hq
    subst hq
    refine eX_ret (vs := [.slice none 0 0, .bool (false)]) [.tmp 6, .tmp 7] (by rfl) ⟨by (show lkE _ _ _ = _); kernel_rfl, ⟨by (show lkE _ _ _ = _); kernel_rfl, trivial⟩⟩ ?_
    exact ⟨none, 0, [], rfl, Ow.nil _, lowNil, hB⟩
  · have hm := condF hb15 hm
    rewrite [hb15]
    refine wS_pure 1 [(16, .int .i64 (p2))] (by kernel_rfl) ?_
    obtain ⟨y16, hy17, hm⟩ := bindE hm
    refine wS_calls (d := 17) (f := 85) (vs := [.pointer (some ⟨b5, 0, none⟩)]) (by kernel_rfl) ent85 (c_impl_Wiring_groups_bimplWiring hy17 F0_1 F0_2 F0_3 F8) ?_
    rintro _ w18 ⟨A20, cap21, fp22, fr25, rfl, F23, G24, hc19⟩
    have D27 : Dj [b5] (fp22 ++ fr25) := Dj.of (lt1 F8.lt) G24
    replace F0_1 := F0_1.chg hc19 Dj.nil
    replace F0_2 := F0_2.chg hc19 Dj.nil
    replace F0_3 := F0_3.chg hc19 Dj.nil
    replace F1 := F1.chg hc19 Dj.nil
    replace F8 := F8.chg hc19 notNil
    replace hB := hB.inS hc19 inNil
    replace G24 := low_le hZ G24
    replace hZ := Nat.le_trans hZ hc19.size
    refine ⟨.slice A20 (y16).length cap21, rfl, ?_⟩
    refine wS_pure 2 [(19, .int .i64 (wr ((((y16).length : Int)) - 1))), (18, .int .i64 (((y16).length : Int)))] (by kernel_rfl) ?_
    obtain ⟨y28, hy29, hm⟩ := bindE hm
    refine wS_calls (d := 20) (f := 57) (vs := [.int .i64 (p2), .int .i64 (0), .int .i64 (wr ((((y16).length : Int)) - 1))]) (by kernel_rfl) ent57 (c_impl_in hy29) ?_
    rintro _ w30 ⟨rfl, hc31⟩
    replace F0_1 := F0_1.chg hc31 Dj.nil
    replace F0_2 := F0_2.chg hc31 Dj.nil
    replace F0_3 := F0_3.chg hc31 Dj.nil
    replace F1 := F1.chg hc31 Dj.nil
    replace F8 := F8.chg hc31 notNil
    replace F23 := F23.chg hc31 Dj.nil
    replace hB := hB.inS hc31 inNil
    replace hZ := Nat.le_trans hZ hc31.size
    refine ⟨.bool (y28), rfl, ?_⟩
    refine wS_pure 2 [(22, .bool (!y28)), (21, .bool (!y28))] (by kernel_rfl) ?_
    refine wS_end (by rfl) ?_
    refine eX_then ?_
    refine cW_cond (t := !y28) (by kernel_rfl) (fun hb32 => ?_) (fun hb32 => ?_)
    · have hm := condT hb32 hm
      refine cW_seq ?_
      refine cW_region ?_
      refine wS_pure 2 [(7, .bool (false)), (6, .slice none 0 0)] (by kernel_rfl) ?_
      refine wS_end (by rfl) ?_
      refine eX_then ?_
      refine cW_ret ?_
      refine eX_then_ret ?_
      have hq : (some (([], false)) : Option ((List (Int)) × (Bool))) = some _ := hm
      replace hq := someE hq
      subst hq
      refine eX_ret (vs := [.slice none 0 0, .bool (false)]) [.tmp 6, .tmp 7] (by rfl) ⟨by (show lkE _ _ _ = _); kernel_rfl, ⟨by (show lkE _ _ _ = _); kernel_rfl, trivial⟩⟩ ?_
      exact ⟨none, 0, [], rfl, Ow.nil _, lowNil, hB⟩
    · have hm := condF hb32 hm
      refine cW_skip ?_
      refine eX_then ?_
      refine cW_seq ?_
      refine cW_region ?_
      refine wS_pure 1 [(23, .slice A1 (l1).length cap1)] (by kernel_rfl) ?_
      obtain ⟨y33, hy34, hm⟩ := bindE hm
      refine wS_calls (d := 24) (f := 89) (vs := [.slice A1 (l1).length cap1]) (by kernel_rfl) ent89 (c_slices_Clone_int64_int64 hy34 F1) ?_
      rintro _ w35 ⟨A37, cap38, fp39, rfl, F40, G41, hc36⟩
      have D44 : Dj [b5] fp39 := Dj.of (lt1 F8.lt) G41
      have D45 : Dj (fp22 ++ fr25) fp39 := Dj.of F23.low G41
      replace F0_1 := F0_1.chg hc36 Dj.nil
      replace F0_2 := F0_2.chg hc36 Dj.nil
      replace F0_3 := F0_3.chg hc36 Dj.nil
      replace F1 := F1.chg hc36 Dj.nil
      replace F8 := F8.chg hc36 notNil
      replace F23 := F23.chg hc36 Dj.nil
      replace hB := hB.inS hc36 inNil
      replace G41 := low_le hZ G41
      replace hZ := Nat.le_trans hZ hc36.size
      refine ⟨.slice A37 (y33).length cap38, rfl, ?_⟩
      refine wS_pure 1 [(8, .slice A37 (y33).length cap38)] (by kernel_rfl) ?_
      refine wS_end (by rfl) ?_
      refine eX_then ?_
      refine cW_seq ?_
      refine cW_seq ?_
      refine cW_region ?_
      obtain ⟨y46, hy47, hm⟩ := bindE hm
      refine wS_calls (d := 25) (f := 85) (vs := [.pointer (some ⟨b5, 0, none⟩)]) (by kernel_rfl) ent85 (c_impl_Wiring_groups_bimplWiring hy47 F0_1 F0_2 F0_3 F8) ?_
      rintro _ w48 ⟨A50, cap51, fp52, fr55, rfl, F53, G54, hc49⟩
      have D57 : Dj [b5] (fp52 ++ fr55) := Dj.of (lt1 F8.lt) G54
      have D58 : Dj (fp22 ++ fr25) (fp52 ++ fr55) := Dj.of F23.low G54
      have D59 : Dj fp39 (fp52 ++ fr55) := Dj.of F40.low G54
      replace F0_1 := F0_1.chg hc49 Dj.nil
      replace F0_2 := F0_2.chg hc49 Dj.nil
      replace F0_3 := F0_3.chg hc49 Dj.nil
      replace F1 := F1.chg hc49 Dj.nil
      replace F8 := F8.chg hc49 notNil
      replace F23 := F23.chg hc49 Dj.nil
      replace F40 := F40.chg hc49 Dj.nil
      replace hB := hB.inS hc49 inNil
      replace G54 := low_le hZ G54
      replace hZ := Nat.le_trans hZ hc49.size
      refine ⟨.slice A50 (y46).length cap51, rfl, ?_⟩
      refine wS_pure 1 [(26, .int .i64 (p2))] (by kernel_rfl) ?_
      obtain ⟨x60, hx61, hm⟩ := bindE hm
      refine wS_idx (d := 27) (T := 24) (A := A50) (n := (y46).length) (cap := cap51) (kd := .i64) (m := p2) (by kernel_rfl) sl24 ((F53.slr encI_ok).is hx61) ?_
      obtain ⟨A62, cap63, hc65, F64, K66⟩ := OwR.row F53 encI_ok hx61
      have G68 := low_inr G54
      have Dm69 := (F53.dj).symm
      refine wS_load1 (d := 28) (T := 25) (ad := (elA A50 1 (p2) 0)) (v := .slice A62 (x60).length cap63) (by kernel_rfl) vt25 hc65 ?_
      refine wS_pure 2 [(30, .int .i64 (0)), (29, .int .i64 (((x60).length : Int)))] (by kernel_rfl) ?_
      refine wS_end (by rfl) ?_
      refine eX_then ?_
      refine cW_prune [(3, .pointer (some ⟨b5, 0, none⟩)), (8, .slice A37 (y33).length cap38), (28, .slice A62 (x60).length cap63), (29, .int .i64 (((x60).length : Int))), (30, .int .i64 (0))] (by kernel_rfl) (by kernel_rfl) (fun a70 => ?_)
      obtain ⟨r127, hr128, hm⟩ := bindE hm
      have hm129 := hm
      refine cW_cut (fun a' w' => ∃ l114 : List (Int), Sum.inl l114 = r127 ∧ Fr 50 [(8, .slice A37 (l114).length cap38)] a' ∧ Ow 1 encI 2 w' fp39 A37 cap38 l114 ∧ Chg [] w0 w' ∧ w0.heap.size ≤ w'.heap.size) ?_ ?_
      · refine cW_block ?_
        refine cW_loop _ (fun (s130 : Int × (List (Int))) a' w' => ∃ x118 : Int, ∃ l119 : List (Int), (x118, l119) = s130 ∧ Fr 50 [(3, .pointer (some ⟨b5, 0, none⟩)), (8, .slice A37 (l119).length cap38), (28, .slice A62 (x60).length cap63), (29, .int .i64 (((x60).length : Int))), (30, .int .i64 (x118))] a' ∧ SlR 1 encI w' fp0_1 A0_1 l0_1 ∧ SlR 1 encI w' fp0_2 A0_2 l0_2 ∧ Sl 1 encI w' fp0_3 A0_3 l0_3 ∧ Cl w' b5 27 [.int .i64 (p0_0), .slice A0_1 (l0_1).length cap0_1, .slice A0_2 (l0_2).length cap0_2, .slice A0_3 (l0_3).length cap0_3] ∧ Ow 1 encI 2 w' fp39 A37 cap38 l119 ∧ Sl 1 encI w' fr55 A62 x60 ∧ Chg [] w0 w' ∧ w0.heap.size ≤ w'.heap.size) hr128 (fun hst => ⟨0, y33, rfl, Fr.of hst (by kernel_rfl), F0_1, F0_2, F0_3, F8, F40, F64, hB, hZ⟩) ?_
        rintro _ c131 a' w117 ⟨x118, l119, rfl, hF120, F121, F122, F123, F124, F125, F126, hB, hZ⟩ hx132
        refine Fr.goOn hF120 (by kernel_rfl) ?_
        have hm := hx132
        unfold m_impl_FlipGroup_s1 at hm
        refine cW_seq ?_
        refine cW_region ?_
        refine wS_pure 1 [(31, .bool (decide (x118 < (((x60).length : Int)))))] (by kernel_rfl) ?_
        refine wS_end (by rfl) ?_
        refine eX_then ?_
        refine cW_seq ?_
        refine cW_cond (t := decide (x118 < (((x60).length : Int)))) (by kernel_rfl) (fun hb133 => ?_) (fun hb133 => ?_)
        · have hm := condT hb133 hm
          refine cW_skip ?_
          refine eX_then ?_
          refine cW_seq ?_
          refine cW_block ?_
          refine cW_seq ?_
          refine cW_region ?_
          obtain ⟨x134, hx135, hm⟩ := bindE hm
          refine wS_idx (d := 32) (T := 25) (A := A62) (n := (x60).length) (cap := cap63) (kd := .i64) (m := x118) (by kernel_rfl) sl25 (F126.is hx135) ?_
          refine wS_load1 (d := 33) (T := 2) (ad := (elA A62 1 (x118) 0)) (v := .int .i64 (x134)) (by kernel_rfl) vt2 (Sl.cell F126 hx135 0 (by rfl)) ?_
          refine wS_pure 1 [(10, .int .i64 (x134))] (by kernel_rfl) ?_
          refine wS_end (by rfl) ?_
          refine eX_then ?_
          refine cW_seq ?_
          refine cW_seq ?_
          refine cW_region ?_
          refine wS_pure 1 [(34, .pointer (some ⟨b5, 3, none⟩))] (by kernel_rfl) ?_
          refine wS_load1 (d := 35) (T := 25) (ad := ⟨b5, 3, none⟩) (v := .slice A0_3 (l0_3).length cap0_3) (by kernel_rfl) vt25 ((F124).cell 3) ?_
          refine wS_pure 1 [(36, .int .i64 (x134))] (by kernel_rfl) ?_
          obtain ⟨x136, hx137, hm⟩ := bindE hm
          refine wS_idx (d := 37) (T := 25) (A := A0_3) (n := (l0_3).length) (cap := cap0_3) (kd := .i64) (m := x134) (by kernel_rfl) sl25 (F123.is hx137) ?_
          refine wS_load1 (d := 38) (T := 2) (ad := (elA A0_3 1 (x134) 0)) (v := .int .i64 (x136)) (by kernel_rfl) vt2 (Sl.cell F123 hx137 0 (by rfl)) ?_
          refine wS_pure 1 [(39, .bool (decide (x136 ≥ 0)))] (by kernel_rfl) ?_
          refine wS_end (by rfl) ?_
          refine eX_then ?_
          refine cW_cond (t := decide (x136 ≥ 0)) (by kernel_rfl) (fun hb138 => ?_) (fun hb138 => ?_)
          · have hm := condT hb138 hm
            refine cW_seq ?_
            refine cW_region ?_
            refine wS_pure 2 [(7, .bool (false)), (6, .slice none 0 0)] (by kernel_rfl) ?_
            refine wS_end (by rfl) ?_
            refine eX_then ?_
            refine cW_ret ?_
            refine eX_then_ret ?_
            refine eX_block_ret ?_
            refine eX_then_ret ?_
            have hq : (some (Ctl.out (Sum.inr (([], false)))) : Option (Ctl (Int × (List (Int))) (Sum ((List (Int))) ((List (Int)) × (Bool))))) = some _ := hm
            replace hq := someE hq
            subst hq
            refine eX_outR hx132 (fun hr => ?_)
            subst hr
            refine eX_block_ret ?_
            refine eX_then_ret ?_
            refine eX_then_ret ?_
            have hq : (some (([], false)) : Option ((List (Int)) × (Bool))) = some _ := hm129
            replace hq := someE hq
            subst hq
            refine eX_ret (vs := [.slice none 0 0, .bool (false)]) [.tmp 6, .tmp 7] (by rfl) ⟨by (show lkE _ _ _ = _); kernel_rfl, ⟨by (show lkE _ _ _ = _); kernel_rfl, trivial⟩⟩ ?_
            exact ⟨none, 0, [], rfl, Ow.nil _, lowNil, hB⟩
          · have hm := condF hb138 hm
            refine cW_skip ?_
            refine eX_then ?_
            refine cW_region ?_
            refine wS_pure 4 [(43, .int .i64 (x134)), (42, .slice A37 (l119).length cap38), (41, .int .i64 (x134)), (40, .slice A37 (l119).length cap38)] (by kernel_rfl) ?_
            obtain ⟨x139, hx140, hm⟩ := bindE hm
            refine wS_idx (d := 44) (T := 25) (A := A37) (n := (l119).length) (cap := cap38) (kd := .i64) (m := x134) (by kernel_rfl) sl25 ((F125.sl encI_ok).is hx140) ?_
            refine wS_load1 (d := 45) (T := 2) (ad := (elA A37 1 (x134) 0)) (v := .int .i64 (x139)) (by kernel_rfl) vt2 (Sl.cell (F125.sl encI_ok) hx140 0 (by rfl)) ?_
            refine wS_pure 1 [(46, .int .i64 (wr (1 - x139)))] (by kernel_rfl) ?_
            obtain ⟨x141, hx142, hm⟩ := bindE hm
            refine wS_idx (d := 47) (T := 25) (A := A37) (n := (l119).length) (cap := cap38) (kd := .i64) (m := x134) (by kernel_rfl) sl25 ((F125.sl encI_ok).is hx142) ?_
            refine wS_storeEl (x := x141) (wr (1 - x139)) (T := 2) (U := 2) (cap := cap38) (j := 0) (A := A37) (v := .int .i64 (wr (1 - x139))) (vs := [.int .i64 (wr (1 - x139))]) (m := x134) (by kernel_rfl) (by rfl) sz2 (by rfl) encI_ok F125 hx142 (by simp only [List.length_cons, List.length_nil]; omega) (by rfl) ?_
            intro w143 F144 hc145
            replace F121 := F121.chg hc145 (Dj.of L0_1 G41)
            replace F122 := F122.chg hc145 (Dj.of L0_2 G41)
            replace F123 := F123.chg hc145 (Dj.of L0_3 G41)
            replace F124 := F124.chg hc145 (dj1 D44)
            replace F126 := F126.chg hc145 ((Dj.inr D59)).symm
            replace hB := hB.inS hc145 (inLow G41)
            replace hZ := Nat.le_trans hZ hc145.size
            clear F125
            rewrite [show (l119).length = (l119.set (Int.toNat x134) (wr (1 - x139))).length from (List.length_set ..).symm]
            refine wS_end (by rfl) ?_
            refine eX_block ?_
            refine eX_then ?_
            refine cW_region ?_
            refine wS_pure 2 [(30, .int .i64 (wr (x118 + 1))), (48, .int .i64 (wr (x118 + 1)))] (by kernel_rfl) ?_
            refine wS_end (by rfl) ?_
            have hq : (some (Ctl.next ((wr (x118 + 1), l119.set (Int.toNat x134) (wr (1 - x139))))) : Option (Ctl (Int × (List (Int))) (Sum ((List (Int))) ((List (Int)) × (Bool))))) = some _ := hm
            replace hq := someE hq
            subst hq
            exact eX_next hx132 (fun hst => ⟨wr (x118 + 1), l119.set (Int.toNat x134) (wr (1 - x139)), rfl, Fr.of hst (by kernel_rfl), F121, F122, F123, F124, F144, F126, hB, hZ⟩)
        · have hm := condF hb133 hm
          refine cW_exit ?_
          refine eX_then_exit ?_
          have hq : (some (Ctl.out (Sum.inl l119)) : Option (Ctl (Int × (List (Int))) (Sum ((List (Int))) ((List (Int)) × (Bool))))) = some _ := hm
          replace hq := someE hq
          subst hq
          refine eX_outX hx132 (fun hr146 => ?_)
          replace hr146 := hr146.symm
          subst hr146
          refine eX_block_hit ?_
          exact eX_J (fun hst => ⟨l119, rfl, Fr.of hst (by kernel_rfl), F125, hB, hZ⟩)
      · rintro a' w113 ⟨l114, hJ, hF115, F116, hB, hZ⟩
        subst hJ
        refine Fr.goX hF115 (by kernel_rfl) ?_
        refine eX_then ?_
        refine cW_seq ?_
        refine cW_region ?_
        refine wS_pure 3 [(7, .bool (true)), (6, .slice A37 (l114).length cap38), (49, .slice A37 (l114).length cap38)] (by kernel_rfl) ?_
        refine wS_end (by rfl) ?_
        refine eX_then ?_
        refine cW_ret ?_
        have hq : (some ((l114, true)) : Option ((List (Int)) × (Bool))) = some _ := hm
        replace hq := someE hq
        subst hq
        refine eX_ret (vs := [.slice A37 (l114).length cap38, .bool (true)]) [.tmp 6, .tmp 7] (by rfl) ⟨by (show lkE _ _ _ = _); kernel_rfl, ⟨by (show lkE _ _ _ = _); kernel_rfl, trivial⟩⟩ ?_
        exact ⟨A37, cap38, fp39, rfl, F116, G41, hB⟩

end Go.Proofs.Ytngnljnfbfgfeaa
