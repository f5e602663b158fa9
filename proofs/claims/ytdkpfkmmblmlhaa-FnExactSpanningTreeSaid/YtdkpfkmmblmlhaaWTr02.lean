/- Printed walks: spec.l05Pairs, spec.l05Pairs, spec.SpanningTree, impl.SpanningTree, laws.eqInt64S, laws.eqInt64SS, laws.markInt64S, laws.markInt64SS, laws.heldInt64S, laws.heldInt64SS, laws.FnExactSpanningTree. -/
import Derived.Test.YtdkpfkmmblmlhaaProg
import Derived.Test.YtdkpfkmmblmlhaaWTr01
set_option linter.unusedSimpArgs false
set_option linter.unusedVariables false
namespace Go.Proofs.Ytdkpfkmmblmlhaa
open Go.RowKit
attribute [local irreducible] wS cW eX wH

theorem ent20 : Ent Try.prog 20 := fun _ => by kernel_rfl
theorem ent22 : Ent Try.prog 22 := fun _ => by kernel_rfl
theorem ent24 : Ent Try.prog 24 := fun _ => by kernel_rfl
theorem ent36 : Ent Try.prog 36 := fun _ => by kernel_rfl
theorem ent53 : Ent Try.prog 53 := fun _ => by kernel_rfl
theorem ent54 : Ent Try.prog 54 := fun _ => by kernel_rfl
theorem ent55 : Ent Try.prog 55 := fun _ => by kernel_rfl
theorem ent56 : Ent Try.prog 56 := fun _ => by kernel_rfl
theorem ent57 : Ent Try.prog 57 := fun _ => by kernel_rfl
theorem ent75 : Ent Try.prog 75 := fun _ => by kernel_rfl
theorem ent78 : Ent Try.prog 78 := fun _ => by kernel_rfl
theorem ent104 : Ent Try.prog 104 := fun _ => by kernel_rfl
theorem ent105 : Ent Try.prog 105 := fun _ => by kernel_rfl
theorem ent106 : Ent Try.prog 106 := fun _ => by kernel_rfl
theorem ent107 : Ent Try.prog 107 := fun _ => by kernel_rfl
theorem ent108 : Ent Try.prog 108 := fun _ => by kernel_rfl
theorem ent109 : Ent Try.prog 109 := fun _ => by kernel_rfl
theorem ent137 : Ent Try.prog 137 := fun _ => by kernel_rfl
theorem vt78 : VarTy Try.prog 78 1 false := ⟨by kernel_rfl, by kernel_rfl⟩
theorem sl47 : SlTy Try.prog 47 78 1 := ⟨Try.underlying47, by kernel_rfl⟩

set_option maxRecDepth 100000 in
/-- spec.l05Pairs -/
theorem c_spec_l05Pairs_ids {w0 : World} {ra : Nat → Option Addr} {rw : Nat → List Int} {rc : Nat → Nat} {fph : List Nat} {l0 : List (Nat)} {A0 : Option Addr} {cap0 : Nat} {fp0 : List Nat} {r : (List (Nat))} (hm : m_spec_l05Pairs_ids rw l0 = some r) (FH : HRows w0 fph ra rw) (F0 : Sl 1 (encN ra rw rc) w0 fp0 A0 l0) :
    Calls Try.prog 105 #[.slice A0 (l0).length cap0] w0 fun e w' => ∃ A100 cap100 fp100, e = .returned (.slice A100 (r).length cap100) ∧ Ow 1 (encN ra rw rc) 78 w' fp100 A100 cap100 r ∧ (∀ x ∈ fp100, w0.heap.size ≤ x) ∧ Chg [] w0 w' := by
  have Lh := FH.low
  have L0 := F0.low
  have hB : Chg [] w0 w0 := Chg.refl _ _
  have hZ := Nat.le_refl w0.heap.size
  unfold m_spec_l05Pairs_ids at hm
  refine enterE (N := 48) Try.func105 (by rfl) Try.ntmps105 (by simp) [(0, .slice A0 (l0).length cap0)] (by rfl) (by kernel_rfl) (fun a => ?_)
  refine cW_seq ?_
  refine cW_region ?_
  refine wS_pure 1 [(2, .slice none 0 0)] (by kernel_rfl) ?_
  refine wS_end (by rfl) ?_
  refine eX_then ?_
  refine cW_seq ?_
  refine cW_region ?_
  refine wS_bs0 (α := Nat) (enc := (encN ra rw rc)) (d := 7) (t := 47) (T := 78) (by kernel_rfl) el47 ?_
  intro b3 w4 G5 F6 hc7
  replace FH := FH.chg hc7 Dj.nil
  replace F0 := F0.chg hc7 Dj.nil
  replace hB := hB.inS hc7 inNil
  replace G5 := Nat.le_trans hZ G5
  replace G5 := low1 G5
  replace hZ := Nat.le_trans hZ hc7.size
  refine wS_pure 1 [(3, .slice (some ⟨b3, 0, none⟩) (([] : List (Nat))).length 0)] (by kernel_rfl) ?_
  refine wS_end (by rfl) ?_
  refine eX_then ?_
  refine cW_seq ?_
  refine cW_seq ?_
  refine cW_region ?_
  refine wS_pure 1 [(4, .int .i64 (0))] (by kernel_rfl) ?_
  refine wS_end (by rfl) ?_
  refine eX_then ?_
  obtain ⟨r528, hr529, hm⟩ := bindE hm
  have hm530 := hm
  refine cW_cut (fun a' w' => ∃ l507 : List (Nat), ∃ A508 : Option Addr, ∃ cap509 : Nat, ∃ fp510 : List Nat, l507 = r528 ∧ Fr 48 [(3, .slice A508 (l507).length cap509)] a' ∧ HRows w' fph ra rw ∧ Ow 1 (encN ra rw rc) 78 w' fp510 A508 cap509 l507 ∧ (∀ x ∈ fp510, w0.heap.size ≤ x) ∧ Chg [] w0 w' ∧ w0.heap.size ≤ w'.heap.size) ?_ ?_
  · refine cW_block ?_
    refine cW_loop _ (fun (s531 : (List (Nat)) × Int) a' w' => ∃ l517 : List (Nat), ∃ A518 : Option Addr, ∃ cap519 : Nat, ∃ fp520 : List Nat, ∃ x522 : Int, (l517, x522) = s531 ∧ Fr 48 [(0, .slice A0 (l0).length cap0), (3, .slice A518 (l517).length cap519), (4, .int .i64 (x522))] a' ∧ HRows w' fph ra rw ∧ Sl 1 (encN ra rw rc) w' fp0 A0 l0 ∧ Ow 1 (encN ra rw rc) 78 w' fp520 A518 cap519 l517 ∧ (∀ x ∈ fp520, w0.heap.size ≤ x) ∧ Chg [] w0 w' ∧ w0.heap.size ≤ w'.heap.size) hr529 (fun hst => ⟨([] : List (Nat)), (some ⟨b3, 0, none⟩), 0, [b3], 0, rfl, Fr.of hst (by kernel_rfl), FH, F0, F6, G5, hB, hZ⟩) ?_
    rintro _ c532 a' w516 ⟨l517, A518, cap519, fp520, x522, rfl, hF523, F524, F525, F526, G527, hB, hZ⟩ hx533
    refine Fr.goOn hF523 (by kernel_rfl) ?_
    have hm := hx533
    unfold m_spec_l05Pairs_ids_s3 at hm
    refine cW_seq ?_
    refine cW_seq ?_
    refine cW_region ?_
    refine wS_pure 4 [(11, .bool (decide (x522 < (((l0).length : Int))))), (10, .int .i64 (((l0).length : Int))), (9, .slice A0 (l0).length cap0), (8, .int .i64 (x522))] (by kernel_rfl) ?_
    refine wS_end (by rfl) ?_
    refine eX_then ?_
    refine cW_cond (t := decide (x522 < (((l0).length : Int)))) (by kernel_rfl) (fun hb534 => ?_) (fun hb534 => ?_)
    · have hm := condT hb534 hm
      refine cW_skip ?_
      refine eX_then ?_
      refine cW_seq ?_
      refine cW_block ?_
      refine cW_seq ?_
      refine cW_region ?_
      refine wS_pure 1 [(5, .int .i64 (0))] (by kernel_rfl) ?_
      refine wS_end (by rfl) ?_
      refine eX_then ?_
      refine cW_seq ?_
      obtain ⟨r614, hr615, hm⟩ := bindE hm
      have hm616 := hm
      refine cW_cut (fun a' w' => ∃ x603 : Int, x603 = r614 ∧ Fr 48 [(0, .slice A0 (l0).length cap0), (3, .slice A518 (l517).length cap519), (4, .int .i64 (x522)), (5, .int .i64 (x603))] a' ∧ HRows w' fph ra rw ∧ Sl 1 (encN ra rw rc) w' fp0 A0 l0 ∧ Ow 1 (encN ra rw rc) 78 w' fp520 A518 cap519 l517 ∧ Chg [] w0 w' ∧ w0.heap.size ≤ w'.heap.size) ?_ ?_
      · refine cW_block ?_
        refine cW_loop _ (fun (s617 : Int) a' w' => ∃ x609 : Int, x609 = s617 ∧ Fr 48 [(0, .slice A0 (l0).length cap0), (3, .slice A518 (l517).length cap519), (4, .int .i64 (x522)), (5, .int .i64 (x609))] a' ∧ HRows w' fph ra rw ∧ Sl 1 (encN ra rw rc) w' fp0 A0 l0 ∧ Ow 1 (encN ra rw rc) 78 w' fp520 A518 cap519 l517 ∧ Chg [] w0 w' ∧ w0.heap.size ≤ w'.heap.size) hr615 (fun hst => ⟨0, rfl, Fr.of hst (by kernel_rfl), F524, F525, F526, hB, hZ⟩) ?_
        rintro _ c618 a' w608 ⟨x609, rfl, hF610, F611, F612, F613, hB, hZ⟩ hx619
        refine Fr.goOn hF610 (by kernel_rfl) ?_
        have hm := hx619
        unfold m_spec_l05Pairs_ids_s4 at hm
        refine cW_seq ?_
        refine cW_seq ?_
        refine cW_drawnTail [] 13 (by kernel_rfl) (by kernel_rfl) (fun w634 hc635 => ?_)
        replace F611 := F611.chg hc635 Dj.nil
        replace F612 := F612.chg hc635 Dj.nil
        replace F613 := F613.chg hc635 Dj.nil
        replace hB := hB.inS hc635 inNil
        replace hZ := Nat.le_trans hZ hc635.size
        have hS := Chg.refl [] w634
        have Z636 := F611
        have Z637 := F612
        have Z638 := F613
        refine wH_take [0, 1, 2, 3, 4] [4, 3, 2, 1, 0] [(18, .bool (decide (x609 < (((l517).length : Int))))), (17, .bool (decide (x609 < (((l517).length : Int))))), (16, .int .i64 (((l517).length : Int))), (15, .slice A518 (l517).length cap519), (14, .int .i64 (x609))] (by kernel_rfl) (qT (qT (qT (qL (qB (qT (qT (qB (qT (qL (qB (qT (qT qZ))))))))))))) (by kernel_rfl) ?_
        refine wH_bool (decide (x609 < (((l517).length : Int)))) (fun hb639 => ?_) (fun hb639 => ?_)
        · have hm := condT hb639 hm
          rewrite [hb639]
          refine wH_take [5, 6] [6, 5, 4, 3, 2, 1, 0] [(20, .int .i64 (x609)), (19, .slice A518 (l517).length cap519)] (by kernel_rfl) (qT (qT (qT (qL (qB (qT (qT (qB (qT (qL (qB (qT (qT qZ))))))))))))) (by kernel_rfl) ?_
          obtain ⟨x640, hx641, hm⟩ := bindE hm
          refine wH_idx (i := 7) (d := 21) (T := 47) (A := A518) (n := (l517).length) (cap := cap519) (kd := .i64) (m := x609) (by kernel_rfl) (qT (qT (qT (qL (qB (qT (qT (qB (qT (qL (qB (qT (qT qZ))))))))))))) (by kernel_rfl) (by kernel_rfl) sl47 ((F613.sl encN_ok).is hx641) ?_
          refine wH_load1 (i := 8) (d := 22) (T := 78) (ad := (elA A518 1 (x609) 0)) (v := .slice (ra x640) (rw x640).length (rc x640)) (by kernel_rfl) (qT (qT (qT (qL (qB (qT (qT (qB (qT (qL (qB (qT (qT qZ))))))))))))) (by kernel_rfl) (by kernel_rfl) vt78 (fun W hW => Sl.cell ((Z638.chg hW Dj.nil).sl encN_ok) hx641 0 (by rfl)) ?_
          refine wH_take [9, 10] [10, 9, 8, 7, 6, 5, 4, 3, 2, 1, 0] [(24, .int .i64 (x522)), (23, .slice A0 (l0).length cap0)] (by kernel_rfl) (qT (qT (qT (qL (qB (qT (qT (qB (qT (qL (qB (qT (qT qZ))))))))))))) (by kernel_rfl) ?_
          obtain ⟨x642, hx643, hm⟩ := bindE hm
          refine wH_idx (i := 11) (d := 25) (T := 47) (A := A0) (n := (l0).length) (cap := cap0) (kd := .i64) (m := x522) (by kernel_rfl) (qT (qT (qT (qL (qB (qT (qT (qB (qT (qL (qB (qT (qT qZ))))))))))))) (by kernel_rfl) (by kernel_rfl) sl47 (F612.is hx643) ?_
          refine wH_load1 (i := 12) (d := 26) (T := 78) (ad := (elA A0 1 (x522) 0)) (v := .slice (ra x642) (rw x642).length (rc x642)) (by kernel_rfl) (qT (qT (qT (qL (qB (qT (qT (qB (qT (qL (qB (qT (qT qZ))))))))))))) (by kernel_rfl) (by kernel_rfl) vt78 (fun W hW => Sl.cell (Z637.chg hW Dj.nil) hx643 0 (by rfl)) ?_
          refine wH_done (by kernel_rfl) ?_
          refine eX_tail ?_
          obtain ⟨y644, hy645, hm⟩ := bindE hm
          refine wS_calls (d := 27) (f := 137) (vs := [.slice (ra x640) (rw x640).length (rc x640), .slice (ra x642) (rw x642).length (rc x642)]) (by kernel_rfl) ent137 (c_spec_l03Less hy645 (F611.row x640) (F611.row x642)) ?_
          rintro _ w646 ⟨rfl, hc647⟩
          replace F611 := F611.chg hc647 Dj.nil
          replace F612 := F612.chg hc647 Dj.nil
          replace F613 := F613.chg hc647 Dj.nil
          replace hB := hB.inS hc647 inNil
          replace hZ := Nat.le_trans hZ hc647.size
          refine ⟨.bool (y644), rfl, ?_⟩
          refine wS_pure 1 [(28, .bool (y644))] (by kernel_rfl) ?_
          refine wS_end (by rfl) ?_
          refine eX_then ?_
          refine cW_cond (t := y644) (by kernel_rfl) (fun hb648 => ?_) (fun hb648 => ?_)
          · have hm := condT hb648 hm
            refine cW_skip ?_
            refine eX_then ?_
            refine cW_block ?_
            refine cW_region ?_
            refine wS_pure 3 [(5, .int .i64 (wr (x609 + 1))), (30, .int .i64 (wr (x609 + 1))), (29, .int .i64 (x609))] (by kernel_rfl) ?_
            refine wS_end (by rfl) ?_
            refine eX_block ?_
            have hq : (some (Ctl.next (wr (x609 + 1))) : Option (Ctl (Int) (Int))) = some _ := hm
            replace hq := someE hq
            subst hq
            exact eX_next hx619 (fun hst => ⟨wr (x609 + 1), rfl, Fr.of hst (by kernel_rfl), F611, F612, F613, hB, hZ⟩)
          · have hm := condF hb648 hm
            refine cW_exit ?_
            refine eX_then_exit ?_
            have hq : (some (Ctl.out x609) : Option (Ctl (Int) (Int))) = some _ := hm
            replace hq := someE hq
            subst hq
            refine eX_outX hx619 (fun hr649 => ?_)
            replace hr649 := hr649.symm
            subst hr649
            refine eX_block_hit ?_
            exact eX_J (fun hst => ⟨x609, rfl, Fr.of hst (by kernel_rfl), F611, F612, F613, hB, hZ⟩)
        · have hm := condF hb639 hm
          rewrite [hb639]
          refine wH_take [5, 6, 7, 8, 9, 10, 11, 12] [12, 11, 10, 9, 8, 7, 6, 5, 4, 3, 2, 1, 0] [(26, undef), (25, undef), (24, undef), (23, undef), (22, undef), (21, undef), (20, undef), (19, undef)] (by kernel_rfl) (qT (qT (qT (qL (qB (qT (qT (qB (qT (qL (qB (qT (qT qZ))))))))))))) (by kernel_rfl) ?_
          refine wH_done (by kernel_rfl) ?_
          refine eX_tail ?_
          refine wS_pure 2 [(28, .bool (false)), (27, undef)] (by kernel_rfl) ?_
          refine wS_end (by rfl) ?_
          refine eX_then ?_
          refine cW_cond_f (by kernel_rfl) ?_
          refine cW_exit ?_
          refine eX_then_exit ?_
          have hq : (some (Ctl.out x609) : Option (Ctl (Int) (Int))) = some _ := hm
          replace hq := someE hq
          subst hq
          refine eX_outX hx619 (fun hr650 => ?_)
          replace hr650 := hr650.symm
          subst hr650
          refine eX_block_hit ?_
          exact eX_J (fun hst => ⟨x609, rfl, Fr.of hst (by kernel_rfl), F611, F612, F613, hB, hZ⟩)
      · rintro a' w602 ⟨x603, hJ, hF604, F605, F606, F607, hB, hZ⟩
        subst hJ
        refine Fr.goX hF604 (by kernel_rfl) ?_
        refine eX_then ?_
        refine cW_seq ?_
        refine cW_region ?_
        refine wS_bs0 (α := Nat) (enc := (encN ra rw rc)) (d := 31) (t := 47) (T := 78) (by kernel_rfl) el47 ?_
        intro b651 w652 G653 F654 hc655
        have D657 : Dj fp520 [b651] := Dj.of F607.low (low1 G653)
        replace F605 := F605.chg hc655 Dj.nil
        replace F606 := F606.chg hc655 Dj.nil
        replace F607 := F607.chg hc655 Dj.nil
        replace hB := hB.inS hc655 inNil
        replace G653 := Nat.le_trans hZ G653
        replace G653 := low1 G653
        replace hZ := Nat.le_trans hZ hc655.size
        refine wS_pure 2 [(33, .int .i64 (x603)), (32, .slice A518 (l517).length cap519)] (by kernel_rfl) ?_
        obtain ⟨y658, hy659, hm⟩ := bindE hm
        refine wS_cutA (enc := (encN ra rw rc)) (l := l517) (d := 34) (T := 47) (A := A518) (cap := cap519) (vlo := some (.int .i64 (x603))) (vhi := none) (lo := x603) (hi := ((l517).length : Int)) (n := 0) (by kernel_rfl) sl47 (Or.inl rfl) (Or.inr ⟨rfl, rfl⟩) (F607.sl encN_ok) F607.cap_le hy659 ?_
        intro A660 cap661 hA664 F662 hcap663
        obtain rfl := slci_slc hy659
        have hlv666 := Eq.refl (l517).length
        have hcz667 := F607.cap_le
        obtain ⟨_, hk668, hm⟩ := bindE hm
        replace hk668 := apE hk668
        refine wS_appendAny (enc := (encN ra rw rc)) (l := (([] : List (Nat)) : List (Nat))) (l2 := (slc l517 x603 (((l517).length : Int)) : List (Nat))) (d := 35) (t := 47) (T := 78) (A := (some ⟨b651, 0, none⟩)) (A2 := A660) (cap := 0) (cap2 := cap661) (by kernel_rfl) el47 encN_ok F654 F662 hk668 ?_
        intro w669 fp670 A671 cap672 F673 hc674 hp675
        have G677 := low_ap G653 hZ hp675
        have D678 : Dj fp520 fp670 := Dj.ap D657 F607.low hp675
        have D679 : Dj fp520 fp670 := Dj.ap D657 F662.low hp675
        replace F605 := F605.chg hc674 (Dj.of Lh G653)
        replace F606 := F606.chg hc674 (Dj.of L0 G653)
        replace F607 := F607.chg hc674 D657
        replace F662 := F662.chg hc674 D657
        replace hB := hB.inS hc674 (inLow G653)
        replace hZ := Nat.le_trans hZ hc674.size
        refine wS_pure 1 [(6, .slice A671 ((([] : List (Nat))) ++ (slc l517 x603 (((l517).length : Int)))).length cap672)] (by kernel_rfl) ?_
        refine wS_end (by rfl) ?_
        refine eX_then ?_
        refine cW_drawnTail fp520 10 (by kernel_rfl) (by kernel_rfl) (fun w727 hc728 => ?_)
        replace F605 := F605.chg hc728 Dj.nil
        replace F606 := F606.chg hc728 Dj.nil
        replace F607 := F607.chg hc728 Dj.nil
        replace F662 := F662.chg hc728 Dj.nil
        replace F673 := F673.chg hc728 Dj.nil
        replace hB := hB.inS hc728 inNil
        replace hZ := Nat.le_trans hZ hc728.size
        have hS := Chg.refl fp520 w727
        have Z729 := F605
        have Z730 := F606
        have Z731 := F607
        have Z732 := F662
        have Z733 := F673
        refine wH_take [0, 1] [1, 0] [(37, .int .i64 (x603)), (36, .slice A518 (l517).length cap519)] (by kernel_rfl) (qT (qB (qT (qL (qB (qT (qT qZ))))))) (by kernel_rfl) ?_
        obtain ⟨y734, hy735, hm⟩ := bindE hm
        refine wH_prefix (k := 1) (enc := (encN ra rw rc)) (l := l517) (i := 2) (d := 38) (T := 47) (A := A518) (cap := cap519) (hi := x603) (by kernel_rfl) (qT (qB (qT (qL (qB (qT (qT qZ))))))) (by kernel_rfl) (by kernel_rfl) sl47 encN_ok F607.cap_le hy735 ?_
        intro hpe hpf738
        subst hpe
        have F736 := hpf738 _ _ _ F607
        have Fz737 := hpf738 _ _ _ Z731
        refine wH_take [3, 4] [4, 3, 2, 1, 0] [(40, .int .i64 (x522)), (39, .slice A0 (l0).length cap0)] (by kernel_rfl) (qT (qB (qT (qL (qB (qT (qT qZ))))))) (by kernel_rfl) ?_
        obtain ⟨x739, hx740, hm⟩ := bindE hm
        refine wH_idx (i := 5) (d := 41) (T := 47) (A := A0) (n := (l0).length) (cap := cap0) (kd := .i64) (m := x522) (by kernel_rfl) (qT (qB (qT (qL (qB (qT (qT qZ))))))) (by kernel_rfl) (by kernel_rfl) sl47 (F606.is hx740) ?_
        refine wH_load1 (i := 6) (d := 42) (T := 78) (ad := (elA A0 1 (x522) 0)) (v := .slice (ra x739) (rw x739).length (rc x739)) (by kernel_rfl) (qT (qB (qT (qL (qB (qT (qT qZ))))))) (by kernel_rfl) (by kernel_rfl) vt78 (fun W hW => Sl.cell (Z730.chg hW (Dj.of L0 G527)) hx740 0 (by rfl)) ?_
        refine wH_take [9] [9, 6, 5, 4, 3, 2, 1, 0] [(45, .slice A671 ((([] : List (Nat))) ++ (slc l517 x603 (((l517).length : Int)))).length cap672)] (by kernel_rfl) (qT (qB (qT (qL (qB (qT (qT qZ))))))) (by kernel_rfl) ?_
        refine wH_all [7] (by rfl) (by kernel_rfl) (by simp) ⟨⟨by kernel_rfl, ?_⟩, trivial⟩
        refine wS_bs (enc := (encN ra rw rc)) ([x739] : List (Nat)) [.slice (ra x739) (rw x739).length (rc x739)] (d := 43) (t := 47) (T := 78) (n := 1) (ps := [(0, .slice (ra x739) (rw x739).length (rc x739))]) (by kernel_rfl) el47 encN_ok (by rfl) (by omega) (by omega) (by kernel_rfl) (by rfl) ?_
        intro b741 w742 G743 F744 hc745
        have D747 : Dj fp520 [b741] := Dj.of F736.low (low1 G743)
        have D748 : Dj fp670 [b741] := Dj.of F673.low (low1 G743)
        replace F605 := F605.chg hc745 Dj.nil
        replace F606 := F606.chg hc745 Dj.nil
        replace F736 := F736.chg hc745 Dj.nil
        replace F673 := F673.chg hc745 Dj.nil
        replace hB := hB.inS hc745 inNil
        have hSz := hS
        replace hS := hS.inS hc745 inNil
        have Gz749 := low1 (Nat.le_trans hSz.size G743)
        replace G743 := Nat.le_trans hZ G743
        replace G743 := low1 G743
        replace hZ := Nat.le_trans hZ hc745.size
        refine wS_end (by kernel_rfl) ?_
        refine eX_KH hS ?_
        refine wH_all [8] (by rfl) (by kernel_rfl) (by simp) ⟨⟨by kernel_rfl, ?_⟩, trivial⟩
        obtain ⟨_, hk750, hm⟩ := bindE hm
        replace hk750 := apE hk750
        refine wS_append (enc := (encN ra rw rc)) (l := (l517.take (Int.toNat x603) : List (Nat))) (l2 := (([x739] : List (Nat)) : List (Nat))) (d := 44) (t := 47) (T := 78) (A := A518) (A2 := (some ⟨b741, 0, none⟩)) (cap := cap519) (cap2 := 1) (by kernel_rfl) el47 encN_ok F736 (F744.sl encN_ok) (by rfl) hk750 ?_
        intro w751 fp752 A753 cap754 F755 hc756 hp757
        have G759 := low_ap G527 hZ hp757
        have D760 : Dj fp670 fp752 := Dj.ap (D678).symm F673.low hp757
        have D761 : Dj [b741] fp752 := Dj.ap (D747).symm F744.low hp757
        replace F605 := F605.chg hc756 (Dj.of Lh G527)
        replace F606 := F606.chg hc756 (Dj.of L0 G527)
        replace F673 := F673.chg hc756 (D678).symm
        replace F744 := F744.chg hc756 (D747).symm
        replace hB := hB.inS hc756 (inLow G527)
        have hSz := hS
        replace hS := hS.trans hc756
        have Sn762 := sin_ap (Sg := fp520) (inMem (fun x hx => hx)) hSz.size hp757
        replace hZ := Nat.le_trans hZ hc756.size
        refine wS_end (by kernel_rfl) ?_
        refine eX_KH hS ?_
        refine wH_done (by kernel_rfl) ?_
        refine eX_tail ?_
        obtain ⟨_, hk763, hm⟩ := bindE hm
        replace hk763 := apE hk763
        refine wS_appendAny (enc := (encN ra rw rc)) (l := ((l517.take (Int.toNat x603)) ++ (([x739] : List (Nat))) : List (Nat))) (l2 := ((([] : List (Nat))) ++ (slc l517 x603 (((l517).length : Int))) : List (Nat))) (d := 46) (t := 47) (T := 78) (A := A753) (A2 := A671) (cap := cap754) (cap2 := cap672) (by kernel_rfl) el47 encN_ok F755 (F673.sl encN_ok) hk763 ?_
        intro w764 fp765 A766 cap767 F768 hc769 hp770
        have G772 := low_ap G759 hZ hp770
        have D773 : Dj fp670 fp765 := Dj.ap D760 F673.low hp770
        have D774 : Dj [b741] fp765 := Dj.ap D761 F744.low hp770
        replace F605 := F605.chg hc769 (Dj.of Lh G759)
        replace F606 := F606.chg hc769 (Dj.of L0 G759)
        replace F673 := F673.chg hc769 D760
        replace F744 := F744.chg hc769 D761
        replace hB := hB.inS hc769 (inLow G759)
        replace hZ := Nat.le_trans hZ hc769.size
        refine wS_pure 1 [(3, .slice A766 (((l517.take (Int.toNat x603)) ++ (([x739] : List (Nat)))) ++ ((([] : List (Nat))) ++ (slc l517 x603 (((l517).length : Int))))).length cap767)] (by kernel_rfl) ?_
        refine wS_end (by rfl) ?_
        refine eX_block ?_
        refine eX_then ?_
        refine cW_region ?_
        refine wS_pure 3 [(4, .int .i64 (wr (x522 + 1))), (13, .int .i64 (wr (x522 + 1))), (12, .int .i64 (x522))] (by kernel_rfl) ?_
        refine wS_end (by rfl) ?_
        have hq : (some (Ctl.next ((((l517.take (Int.toNat x603)) ++ (([x739] : List (Nat)))) ++ ((([] : List (Nat))) ++ (slc l517 x603 (((l517).length : Int)))), wr (x522 + 1)))) : Option (Ctl ((List (Nat)) × Int) ((List (Nat))))) = some _ := hm
        replace hq := someE hq
        subst hq
        exact eX_next hx533 (fun hst => ⟨((l517.take (Int.toNat x603)) ++ (([x739] : List (Nat)))) ++ ((([] : List (Nat))) ++ (slc l517 x603 (((l517).length : Int)))), A766, cap767, fp765, wr (x522 + 1), rfl, Fr.of hst (by kernel_rfl), F605, F606, F768, G772, hB, hZ⟩)
    · have hm := condF hb534 hm
      refine cW_exit ?_
      refine eX_then_exit ?_
      have hq : (some (Ctl.out l517) : Option (Ctl ((List (Nat)) × Int) ((List (Nat))))) = some _ := hm
      replace hq := someE hq
      subst hq
      refine eX_outX hx533 (fun hr775 => ?_)
      replace hr775 := hr775.symm
      subst hr775
      refine eX_block_hit ?_
      exact eX_J (fun hst => ⟨l517, A518, cap519, fp520, rfl, Fr.of hst (by kernel_rfl), F524, F526, G527, hB, hZ⟩)
  · rintro a' w506 ⟨l507, A508, cap509, fp510, hJ, hF512, F513, F514, G515, hB, hZ⟩
    subst hJ
    refine Fr.goX hF512 (by kernel_rfl) ?_
    refine eX_then ?_
    refine cW_seq ?_
    refine cW_region ?_
    refine wS_pure 2 [(2, .slice A508 (l507).length cap509), (47, .slice A508 (l507).length cap509)] (by kernel_rfl) ?_
    refine wS_end (by rfl) ?_
    refine eX_then ?_
    refine cW_ret ?_
    have hq : (some l507 : Option ((List (Nat)))) = some _ := hm
    replace hq := someE hq
    subst hq
    refine eX_ret (vs := [.slice A508 (l507).length cap509]) [.tmp 2] (by rfl) ⟨by (show lkE _ _ _ = _); kernel_rfl, trivial⟩ ?_
    exact ⟨A508, cap509, fp510, rfl, F514, G515, hB⟩

theorem c_spec_l05Pairs {w0 : World} {l0 : List (List (Int))} {A0 : Option Addr} {cap0 : Nat} {fp0 fr0 : List Nat} {r : List (List (Int))} (hm : m_spec_l05Pairs l0 = some r) (F0 : OwR 1 encI 78 2 w0 fp0 fr0 A0 cap0 l0) :
    Calls Try.prog 105 #[.slice A0 (l0).length cap0] w0 fun e w' => ∃ A100 cap100 fp100, e = .returned (.slice A100 (r).length cap100) ∧ OwR 1 encI 78 2 w' fp100 fr0 A100 cap100 r ∧ (∀ x ∈ fp100, w0.heap.size ≤ x) ∧ Chg [] w0 w' := by
  unfold m_spec_l05Pairs at hm
  obtain ⟨q, hq, hm⟩ := bindE hm
  obtain ⟨_, hc, hm⟩ := bindE hm
  replace hc := of_decide_eq_true (chkE hc)
  replace hm := someE hm
  subst hm
  obtain ⟨ra, rc, h1, h2, h3⟩ := OwR.ids F0
  have h := c_spec_l05Pairs_ids (cap0 := cap0) hq h2 h1
  rw [List.length_range] at h
  refine h.mono ?_
  rintro e w' ⟨A, cap, fp, rfl, g1, g2, g3⟩
  exact ⟨A, cap, fp, by rw [List.length_map], h3 _ _ _ _ _ g3 g2 g1 hc, g2, g3⟩

set_option maxRecDepth 100000 in
/-- spec.SpanningTree -/
theorem c_spec_SpanningTree {w0 : World} {l0 : List (Int × Int)} {A0 : Option Addr} {cap0 : Nat} {fp0 : List Nat} {r : (List (List (Int))) × (Int) × (Bool)} (hm : m_spec_SpanningTree l0 = some r) (F0 : Sl 2 encII w0 fp0 A0 l0) (K0 : (l0).length ≤ cap0) :
    Calls Try.prog 53 #[.slice A0 (l0).length cap0] w0 fun e w' => ∃ A100 cap100 fp100 fr100, e = .returned (.tuple #[.slice A100 (r.1).length cap100, .int .i64 (r.2.1), .bool (r.2.2)]) ∧ OwR 1 encI 78 2 w' fp100 fr100 A100 cap100 r.1 ∧ (∀ x ∈ fp100 ++ fr100, w0.heap.size ≤ x) ∧ Chg [] w0 w' := by
  have L0 := F0.low
  have hB : Chg [] w0 w0 := Chg.refl _ _
  have hZ := Nat.le_refl w0.heap.size
  unfold m_spec_SpanningTree at hm
  refine enterE (N := 18) Try.func53 (by rfl) Try.ntmps53 (by simp) [(0, .slice A0 (l0).length cap0)] (by rfl) (by kernel_rfl) (fun a => ?_)
  refine cW_seq ?_
  refine cW_region ?_
  refine wS_pure 3 [(4, .bool (false)), (3, .int .i64 (0)), (2, .slice none 0 0)] (by kernel_rfl) ?_
  refine wS_end (by rfl) ?_
  refine eX_then ?_
  refine cW_seq ?_
  refine cW_seq ?_
  refine cW_region ?_
  refine wS_pure 1 [(7, .slice A0 (l0).length cap0)] (by kernel_rfl) ?_
  obtain ⟨y2, hy3, hm⟩ := bindE hm
  refine wS_calls (d := 8) (f := 75) (vs := [.slice A0 (l0).length cap0]) (by kernel_rfl) ent75 (c_spec_l05Is hy3 F0 K0) ?_
  rintro _ w4 ⟨rfl, hc5⟩
  replace F0 := F0.chg hc5 Dj.nil
  replace hB := hB.inS hc5 inNil
  replace hZ := Nat.le_trans hZ hc5.size
  refine ⟨.bool (y2), rfl, ?_⟩
  refine wS_pure 1 [(9, .bool (!y2))] (by kernel_rfl) ?_
  refine wS_end (by rfl) ?_
  refine eX_then ?_
  refine cW_cond (t := !y2) (by kernel_rfl) (fun hb6 => ?_) (fun hb6 => ?_)
  · have hm := condT hb6 hm
    refine cW_seq ?_
    refine cW_region ?_
    refine wS_pure 3 [(4, .bool (false)), (3, .int .i64 (0)), (2, .slice none 0 0)] (by kernel_rfl) ?_
    refine wS_end (by rfl) ?_
    refine eX_then ?_
    refine cW_ret ?_
    refine eX_then_ret ?_
    have hq : (some (([], 0, false)) : Option ((List (List (Int))) × (Int) × (Bool))) = some _ := hm
    replace hq := someE hq
    subst hq
    refine eX_ret (vs := [.slice none 0 0, .int .i64 (0), .bool (false)]) [.tmp 2, .tmp 3, .tmp 4] (by rfl) ⟨by (show lkE _ _ _ = _); kernel_rfl, ⟨by (show lkE _ _ _ = _); kernel_rfl, ⟨by (show lkE _ _ _ = _); kernel_rfl, trivial⟩⟩⟩ ?_
    exact ⟨none, 0, [], [], rfl, OwR.nil _, (lowApp lowNil lowNil), hB⟩
  · have hm := condF hb6 hm
    refine cW_skip ?_
    refine eX_then ?_
    refine cW_seq ?_
    refine cW_region ?_
    refine wS_pure 1 [(11, .slice A0 (l0).length cap0)] (by kernel_rfl) ?_
    obtain ⟨y7, hy8, hm⟩ := bindE hm
    refine wS_calls (d := 12) (f := 104) (vs := [.slice A0 (l0).length cap0]) (by kernel_rfl) ent104 (c_spec_l05Tree hy8 F0) ?_
    rintro _ w9 ⟨A11, cap12, fp13, fr16, rfl, F14, G15, hc10⟩
    replace F0 := F0.chg hc10 Dj.nil
    replace hB := hB.inS hc10 inNil
    replace G15 := low_le hZ G15
    replace hZ := Nat.le_trans hZ hc10.size
    refine ⟨.tuple #[.slice A11 (y7.1).length cap12, .int .i64 (y7.2)], rfl, ?_⟩
    refine wS_pure 5 [(6, .int .i64 (y7.2)), (5, .slice A11 (y7.1).length cap12), (14, .int .i64 (y7.2)), (13, .slice A11 (y7.1).length cap12), (10, .tuple #[.slice A11 (y7.1).length cap12, .int .i64 (y7.2)])] (by kernel_rfl) ?_
    refine wS_end (by rfl) ?_
    refine eX_then ?_
    refine cW_seq ?_
    refine cW_region ?_
    refine wS_pure 1 [(15, .slice A11 (y7.1).length cap12)] (by kernel_rfl) ?_
    obtain ⟨y18, hy19, hm⟩ := bindE hm
    refine wS_calls (d := 16) (f := 105) (vs := [.slice A11 (y7.1).length cap12]) (by kernel_rfl) ent105 (c_spec_l05Pairs hy19 F14) ?_
    rintro _ w20 ⟨A22, cap23, fp24, rfl, F25, G26, hc21⟩
    have G27 := lowApp (low_le hZ G26) (low_inr G15)
    replace F0 := F0.chg hc21 Dj.nil
    replace F14 := F14.chg hc21 Dj.nil
    replace hB := hB.inS hc21 inNil
    replace hZ := Nat.le_trans hZ hc21.size
    refine ⟨.slice A22 (y18).length cap23, rfl, ?_⟩
    refine wS_pure 4 [(4, .bool (true)), (3, .int .i64 (y7.2)), (2, .slice A22 (y18).length cap23), (17, .int .i64 (y7.2))] (by kernel_rfl) ?_
    refine wS_end (by rfl) ?_
    refine eX_then ?_
    refine cW_ret ?_
    have hq : (some ((y18, y7.2, true)) : Option ((List (List (Int))) × (Int) × (Bool))) = some _ := hm
    replace hq := someE hq
    subst hq
    refine eX_ret (vs := [.slice A22 (y18).length cap23, .int .i64 (y7.2), .bool (true)]) [.tmp 2, .tmp 3, .tmp 4] (by rfl) ⟨by (show lkE _ _ _ = _); kernel_rfl, ⟨by (show lkE _ _ _ = _); kernel_rfl, ⟨by (show lkE _ _ _ = _); kernel_rfl, trivial⟩⟩⟩ ?_
    exact ⟨A22, cap23, fp24, fr16, rfl, F25, G27, hB⟩

set_option maxRecDepth 100000 in
/-- impl.SpanningTree -/
theorem c_impl_SpanningTree {w0 : World} {l0 : List (Int × Int)} {A0 : Option Addr} {cap0 : Nat} {fp0 : List Nat} {r : (List (List (Int))) × (Int) × (Bool)} (hm : m_impl_SpanningTree l0 = some r) (F0 : Sl 2 encII w0 fp0 A0 l0) :
    Calls Try.prog 54 #[.slice A0 (l0).length cap0] w0 fun e w' => ∃ A100 cap100 fp100 fr100, e = .returned (.tuple #[.slice A100 (r.1).length cap100, .int .i64 (r.2.1), .bool (r.2.2)]) ∧ OwR 1 encI 78 2 w' fp100 fr100 A100 cap100 r.1 ∧ (∀ x ∈ fp100 ++ fr100, w0.heap.size ≤ x) ∧ Chg [] w0 w' := by
  have L0 := F0.low
  have hB : Chg [] w0 w0 := Chg.refl _ _
  have hZ := Nat.le_refl w0.heap.size
  unfold m_impl_SpanningTree at hm
  refine enterE (N := 17) Try.func54 (by rfl) Try.ntmps54 (by simp) [(0, .slice A0 (l0).length cap0)] (by rfl) (by kernel_rfl) (fun a => ?_)
  refine cW_seq ?_
  refine cW_region ?_
  refine wS_pure 3 [(4, .bool (false)), (3, .int .i64 (0)), (2, .slice none 0 0)] (by kernel_rfl) ?_
  refine wS_end (by rfl) ?_
  refine eX_then ?_
  refine cW_seq ?_
  refine cW_seq ?_
  refine cW_region ?_
  refine wS_pure 1 [(7, .slice A0 (l0).length cap0)] (by kernel_rfl) ?_
  obtain ⟨y2, hy3, hm⟩ := bindE hm
  refine wS_calls (d := 8) (f := 78) (vs := [.slice A0 (l0).length cap0]) (by kernel_rfl) ent78 (c_impl_ArePins hy3 F0) ?_
  rintro _ w4 ⟨rfl, hc5⟩
  replace F0 := F0.chg hc5 Dj.nil
  replace hB := hB.inS hc5 inNil
  replace hZ := Nat.le_trans hZ hc5.size
  refine ⟨.bool (y2), rfl, ?_⟩
  refine wS_pure 1 [(9, .bool (!y2))] (by kernel_rfl) ?_
  refine wS_end (by rfl) ?_
  refine eX_then ?_
  refine cW_cond (t := !y2) (by kernel_rfl) (fun hb6 => ?_) (fun hb6 => ?_)
  · have hm := condT hb6 hm
    refine cW_seq ?_
    refine cW_region ?_
    refine wS_pure 3 [(4, .bool (false)), (3, .int .i64 (0)), (2, .slice none 0 0)] (by kernel_rfl) ?_
    refine wS_end (by rfl) ?_
    refine eX_then ?_
    refine cW_ret ?_
    refine eX_then_ret ?_
    have hq : (some (([], 0, false)) : Option ((List (List (Int))) × (Int) × (Bool))) = some _ := hm
    replace hq := someE hq
    subst hq
    refine eX_ret (vs := [.slice none 0 0, .int .i64 (0), .bool (false)]) [.tmp 2, .tmp 3, .tmp 4] (by rfl) ⟨by (show lkE _ _ _ = _); kernel_rfl, ⟨by (show lkE _ _ _ = _); kernel_rfl, ⟨by (show lkE _ _ _ = _); kernel_rfl, trivial⟩⟩⟩ ?_
    exact ⟨none, 0, [], [], rfl, OwR.nil _, (lowApp lowNil lowNil), hB⟩
  · have hm := condF hb6 hm
    refine cW_skip ?_
    refine eX_then ?_
    refine cW_seq ?_
    refine cW_region ?_
    refine wS_pure 1 [(11, .slice A0 (l0).length cap0)] (by kernel_rfl) ?_
    obtain ⟨y7, hy8, hm⟩ := bindE hm
    refine wS_calls (d := 12) (f := 106) (vs := [.slice A0 (l0).length cap0]) (by kernel_rfl) ent106 (c_impl_spanning hy8 F0) ?_
    rintro _ w9 ⟨A11, cap12, fp13, fr16, rfl, F14, G15, hc10⟩
    replace F0 := F0.chg hc10 Dj.nil
    replace hB := hB.inS hc10 inNil
    replace G15 := low_le hZ G15
    replace hZ := Nat.le_trans hZ hc10.size
    refine ⟨.tuple #[.slice A11 (y7.1).length cap12, .int .i64 (y7.2)], rfl, ?_⟩
    refine wS_pure 5 [(6, .int .i64 (y7.2)), (5, .slice A11 (y7.1).length cap12), (14, .int .i64 (y7.2)), (13, .slice A11 (y7.1).length cap12), (10, .tuple #[.slice A11 (y7.1).length cap12, .int .i64 (y7.2)])] (by kernel_rfl) ?_
    refine wS_end (by rfl) ?_
    refine eX_then ?_
    refine cW_seq ?_
    refine cW_region ?_
    refine wS_pure 5 [(4, .bool (true)), (3, .int .i64 (y7.2)), (2, .slice A11 (y7.1).length cap12), (16, .int .i64 (y7.2)), (15, .slice A11 (y7.1).length cap12)] (by kernel_rfl) ?_
    refine wS_end (by rfl) ?_
    refine eX_then ?_
    refine cW_ret ?_
    have hq : (some ((y7.1, y7.2, true)) : Option ((List (List (Int))) × (Int) × (Bool))) = some _ := hm
    replace hq := someE hq
    subst hq
    refine eX_ret (vs := [.slice A11 (y7.1).length cap12, .int .i64 (y7.2), .bool (true)]) [.tmp 2, .tmp 3, .tmp 4] (by rfl) ⟨by (show lkE _ _ _ = _); kernel_rfl, ⟨by (show lkE _ _ _ = _); kernel_rfl, ⟨by (show lkE _ _ _ = _); kernel_rfl, trivial⟩⟩⟩ ?_
    exact ⟨A11, cap12, fp13, fr16, rfl, F14, G15, hB⟩

set_option maxRecDepth 100000 in
/-- laws.eqInt64S -/
theorem c_laws_eqInt64S {w0 : World} {l0 : List (Int)} {A0 : Option Addr} {cap0 : Nat} {fp0 : List Nat} {l1 : List (Int)} {A1 : Option Addr} {cap1 : Nat} {fp1 : List Nat} {r : (Bool)} (hm : m_laws_eqInt64S l0 l1 = some r) (F0 : Sl 1 encI w0 fp0 A0 l0) (F1 : Sl 1 encI w0 fp1 A1 l1) :
    Calls Try.prog 107 #[.slice A0 (l0).length cap0, .slice A1 (l1).length cap1] w0 fun e w' => e = .returned (.bool (r)) ∧ Chg [] w0 w' := by
  have L0 := F0.low
  have L1 := F1.low
  have hB : Chg [] w0 w0 := Chg.refl _ _
  have hZ := Nat.le_refl w0.heap.size
  unfold m_laws_eqInt64S at hm
  refine enterE (N := 26) Try.func107 (by rfl) Try.ntmps107 (by simp) [(0, .slice A0 (l0).length cap0), (1, .slice A1 (l1).length cap1)] (by rfl) (by kernel_rfl) (fun a => ?_)
  refine cW_seq ?_
  refine cW_region ?_
  refine wS_pure 1 [(4, .bool (false))] (by kernel_rfl) ?_
  refine wS_end (by rfl) ?_
  refine eX_then ?_
  refine cW_seq ?_
  refine cW_seq ?_
  refine cW_region ?_
  refine wS_pure 5 [(10, .bool ((((l0).length : Int)) != (((l1).length : Int)))), (9, .int .i64 (((l1).length : Int))), (8, .slice A1 (l1).length cap1), (7, .int .i64 (((l0).length : Int))), (6, .slice A0 (l0).length cap0)] (by kernel_rfl) ?_
  refine wS_end (by rfl) ?_
  refine eX_then ?_
  refine cW_cond (t := (((l0).length : Int)) != (((l1).length : Int))) (by kernel_rfl) (fun hb3 => ?_) (fun hb3 => ?_)
  · have hm := condT hb3 hm
    refine cW_seq ?_
    refine cW_region ?_
    refine wS_pure 1 [(4, .bool (false))] (by kernel_rfl) ?_
    refine wS_end (by rfl) ?_
    refine eX_then ?_
    refine cW_ret ?_
    refine eX_then_ret ?_
    have hq : (some false : Option ((Bool))) = some _ := hm
    replace hq := someE hq
    subst hq
    refine eX_ret (vs := [.bool (false)]) [.tmp 4] (by rfl) ⟨by (show lkE _ _ _ = _); kernel_rfl, trivial⟩ ?_
    exact ⟨rfl, hB⟩
  · have hm := condF hb3 hm
    refine cW_skip ?_
    refine eX_then ?_
    refine cW_seq ?_
    refine cW_seq ?_
    refine cW_region ?_
    refine wS_pure 1 [(5, .int .i64 (0))] (by kernel_rfl) ?_
    refine wS_end (by rfl) ?_
    refine eX_then ?_
    obtain ⟨r54, hr55, hm⟩ := bindE hm
    have hm56 := hm
    refine cW_cut (fun a' w' => Sum.inl (()) = r54 ∧ Fr 26 [] a' ∧ Chg [] w0 w' ∧ w0.heap.size ≤ w'.heap.size) ?_ ?_
    · refine cW_block ?_
      refine cW_loop _ (fun (s57 : Int) a' w' => ∃ x50 : Int, x50 = s57 ∧ Fr 26 [(0, .slice A0 (l0).length cap0), (1, .slice A1 (l1).length cap1), (5, .int .i64 (x50))] a' ∧ Sl 1 encI w' fp0 A0 l0 ∧ Sl 1 encI w' fp1 A1 l1 ∧ Chg [] w0 w' ∧ w0.heap.size ≤ w'.heap.size) hr55 (fun hst => ⟨0, rfl, Fr.of hst (by kernel_rfl), F0, F1, hB, hZ⟩) ?_
      rintro _ c58 a' w49 ⟨x50, rfl, hF51, F52, F53, hB, hZ⟩ hx59
      refine Fr.goOn hF51 (by kernel_rfl) ?_
      have hm := hx59
      unfold m_laws_eqInt64S_s1 at hm
      refine cW_seq ?_
      refine cW_seq ?_
      refine cW_region ?_
      refine wS_pure 4 [(14, .bool (decide (x50 < (((l0).length : Int))))), (13, .int .i64 (((l0).length : Int))), (12, .slice A0 (l0).length cap0), (11, .int .i64 (x50))] (by kernel_rfl) ?_
      refine wS_end (by rfl) ?_
      refine eX_then ?_
      refine cW_cond (t := decide (x50 < (((l0).length : Int)))) (by kernel_rfl) (fun hb60 => ?_) (fun hb60 => ?_)
      · have hm := condT hb60 hm
        refine cW_skip ?_
        refine eX_then ?_
        refine cW_seq ?_
        refine cW_block ?_
        refine cW_seq ?_
        refine cW_drawnTail [] 8 (by kernel_rfl) (by kernel_rfl) (fun w69 hc70 => ?_)
        replace F52 := F52.chg hc70 Dj.nil
        replace F53 := F53.chg hc70 Dj.nil
        replace hB := hB.inS hc70 inNil
        replace hZ := Nat.le_trans hZ hc70.size
        have hS := Chg.refl [] w69
        have Z71 := F52
        have Z72 := F53
        refine wH_take [0, 1] [1, 0] [(18, .int .i64 (x50)), (17, .slice A0 (l0).length cap0)] (by kernel_rfl) (qT (qT (qB (qT (qL (qB (qT (qT qZ)))))))) (by kernel_rfl) ?_
        obtain ⟨x73, hx74, hm⟩ := bindE hm
        refine wH_idx (i := 2) (d := 19) (T := 78) (A := A0) (n := (l0).length) (cap := cap0) (kd := .i64) (m := x50) (by kernel_rfl) (qT (qT (qB (qT (qL (qB (qT (qT qZ)))))))) (by kernel_rfl) (by kernel_rfl) sl78 (F52.is hx74) ?_
        refine wH_load1 (i := 3) (d := 20) (T := 2) (ad := (elA A0 1 (x50) 0)) (v := .int .i64 (x73)) (by kernel_rfl) (qT (qT (qB (qT (qL (qB (qT (qT qZ)))))))) (by kernel_rfl) (by kernel_rfl) vt2 (fun W hW => Sl.cell (Z71.chg hW Dj.nil) hx74 0 (by rfl)) ?_
        refine wH_take [4, 5] [5, 4, 3, 2, 1, 0] [(22, .int .i64 (x50)), (21, .slice A1 (l1).length cap1)] (by kernel_rfl) (qT (qT (qB (qT (qL (qB (qT (qT qZ)))))))) (by kernel_rfl) ?_
        obtain ⟨x75, hx76, hm⟩ := bindE hm
        refine wH_idx (i := 6) (d := 23) (T := 78) (A := A1) (n := (l1).length) (cap := cap1) (kd := .i64) (m := x50) (by kernel_rfl) (qT (qT (qB (qT (qL (qB (qT (qT qZ)))))))) (by kernel_rfl) (by kernel_rfl) sl78 (F53.is hx76) ?_
        refine wH_load1 (i := 7) (d := 24) (T := 2) (ad := (elA A1 1 (x50) 0)) (v := .int .i64 (x75)) (by kernel_rfl) (qT (qT (qB (qT (qL (qB (qT (qT qZ)))))))) (by kernel_rfl) (by kernel_rfl) vt2 (fun W hW => Sl.cell (Z72.chg hW Dj.nil) hx76 0 (by rfl)) ?_
        refine wH_done (by kernel_rfl) ?_
        refine eX_tail ?_
        refine wS_pure 1 [(25, .bool (x73 != x75))] (by kernel_rfl) ?_
        refine wS_end (by rfl) ?_
        refine eX_then ?_
        refine cW_cond (t := x73 != x75) (by kernel_rfl) (fun hb77 => ?_) (fun hb77 => ?_)
        · have hm := condT hb77 hm
          refine cW_seq ?_
          refine cW_region ?_
          refine wS_pure 1 [(4, .bool (false))] (by kernel_rfl) ?_
          refine wS_end (by rfl) ?_
          refine eX_then ?_
          refine cW_ret ?_
          refine eX_block_ret ?_
          refine eX_then_ret ?_
          have hq : (some (Ctl.out (Sum.inr false)) : Option (Ctl (Int) (Sum (Unit) ((Bool))))) = some _ := hm
          replace hq := someE hq
          subst hq
          refine eX_outR hx59 (fun hr => ?_)
          subst hr
          refine eX_block_ret ?_
          refine eX_then_ret ?_
          refine eX_then_ret ?_
          have hq : (some false : Option ((Bool))) = some _ := hm56
          replace hq := someE hq
          subst hq
          refine eX_ret (vs := [.bool (false)]) [.tmp 4] (by rfl) ⟨by (show lkE _ _ _ = _); kernel_rfl, trivial⟩ ?_
          exact ⟨rfl, hB⟩
        · have hm := condF hb77 hm
          refine cW_skip ?_
          refine eX_block ?_
          refine eX_then ?_
          refine cW_region ?_
          refine wS_pure 3 [(5, .int .i64 (wr (x50 + 1))), (16, .int .i64 (wr (x50 + 1))), (15, .int .i64 (x50))] (by kernel_rfl) ?_
          refine wS_end (by rfl) ?_
          have hq : (some (Ctl.next (wr (x50 + 1))) : Option (Ctl (Int) (Sum (Unit) ((Bool))))) = some _ := hm
          replace hq := someE hq
          subst hq
          exact eX_next hx59 (fun hst => ⟨wr (x50 + 1), rfl, Fr.of hst (by kernel_rfl), F52, F53, hB, hZ⟩)
      · have hm := condF hb60 hm
        refine cW_exit ?_
        refine eX_then_exit ?_
        have hq : (some (Ctl.out (Sum.inl (()))) : Option (Ctl (Int) (Sum (Unit) ((Bool))))) = some _ := hm
        replace hq := someE hq
        subst hq
        refine eX_outX hx59 (fun hr78 => ?_)
        replace hr78 := hr78.symm
        subst hr78
        refine eX_block_hit ?_
        exact eX_J (fun hst => ⟨rfl, Fr.of hst (by kernel_rfl), hB, hZ⟩)
    · rintro a' w47 ⟨hJ, hF48, hB, hZ⟩
      subst hJ
      refine Fr.goX hF48 (by kernel_rfl) ?_
      refine eX_then ?_
      refine cW_seq ?_
      refine cW_region ?_
      refine wS_pure 1 [(4, .bool (true))] (by kernel_rfl) ?_
      refine wS_end (by rfl) ?_
      refine eX_then ?_
      refine cW_ret ?_
      have hq : (some true : Option ((Bool))) = some _ := hm
      replace hq := someE hq
      subst hq
      refine eX_ret (vs := [.bool (true)]) [.tmp 4] (by rfl) ⟨by (show lkE _ _ _ = _); kernel_rfl, trivial⟩ ?_
      exact ⟨rfl, hB⟩

set_option maxRecDepth 100000 in
/-- laws.eqInt64SS -/
theorem c_laws_eqInt64SS {w0 : World} {l0 : List (List (Int))} {A0 : Option Addr} {cap0 : Nat} {fp0 : List Nat} {l1 : List (List (Int))} {A1 : Option Addr} {cap1 : Nat} {fp1 : List Nat} {r : (Bool)} (hm : m_laws_eqInt64SS l0 l1 = some r) (F0 : SlR 1 encI w0 fp0 A0 l0) (F1 : SlR 1 encI w0 fp1 A1 l1) :
    Calls Try.prog 55 #[.slice A0 (l0).length cap0, .slice A1 (l1).length cap1] w0 fun e w' => e = .returned (.bool (r)) ∧ Chg [] w0 w' := by
  have L0 := F0.low
  have L1 := F1.low
  have hB : Chg [] w0 w0 := Chg.refl _ _
  have hZ := Nat.le_refl w0.heap.size
  unfold m_laws_eqInt64SS at hm
  refine enterE (N := 27) Try.func55 (by rfl) Try.ntmps55 (by simp) [(0, .slice A0 (l0).length cap0), (1, .slice A1 (l1).length cap1)] (by rfl) (by kernel_rfl) (fun a => ?_)
  refine cW_seq ?_
  refine cW_region ?_
  refine wS_pure 1 [(4, .bool (false))] (by kernel_rfl) ?_
  refine wS_end (by rfl) ?_
  refine eX_then ?_
  refine cW_seq ?_
  refine cW_seq ?_
  refine cW_region ?_
  refine wS_pure 5 [(10, .bool ((((l0).length : Int)) != (((l1).length : Int)))), (9, .int .i64 (((l1).length : Int))), (8, .slice A1 (l1).length cap1), (7, .int .i64 (((l0).length : Int))), (6, .slice A0 (l0).length cap0)] (by kernel_rfl) ?_
  refine wS_end (by rfl) ?_
  refine eX_then ?_
  refine cW_cond (t := (((l0).length : Int)) != (((l1).length : Int))) (by kernel_rfl) (fun hb3 => ?_) (fun hb3 => ?_)
  · have hm := condT hb3 hm
    refine cW_seq ?_
    refine cW_region ?_
    refine wS_pure 1 [(4, .bool (false))] (by kernel_rfl) ?_
    refine wS_end (by rfl) ?_
    refine eX_then ?_
    refine cW_ret ?_
    refine eX_then_ret ?_
    have hq : (some false : Option ((Bool))) = some _ := hm
    replace hq := someE hq
    subst hq
    refine eX_ret (vs := [.bool (false)]) [.tmp 4] (by rfl) ⟨by (show lkE _ _ _ = _); kernel_rfl, trivial⟩ ?_
    exact ⟨rfl, hB⟩
  · have hm := condF hb3 hm
    refine cW_skip ?_
    refine eX_then ?_
    refine cW_seq ?_
    refine cW_seq ?_
    refine cW_region ?_
    refine wS_pure 1 [(5, .int .i64 (0))] (by kernel_rfl) ?_
    refine wS_end (by rfl) ?_
    refine eX_then ?_
    obtain ⟨r118, hr119, hm⟩ := bindE hm
    have hm120 := hm
    refine cW_cut (fun a' w' => Sum.inl (()) = r118 ∧ Fr 27 [] a' ∧ Chg [] w0 w' ∧ w0.heap.size ≤ w'.heap.size) ?_ ?_
    · refine cW_block ?_
      refine cW_loop _ (fun (s121 : Int) a' w' => ∃ x114 : Int, x114 = s121 ∧ Fr 27 [(0, .slice A0 (l0).length cap0), (1, .slice A1 (l1).length cap1), (5, .int .i64 (x114))] a' ∧ SlR 1 encI w' fp0 A0 l0 ∧ SlR 1 encI w' fp1 A1 l1 ∧ Chg [] w0 w' ∧ w0.heap.size ≤ w'.heap.size) hr119 (fun hst => ⟨0, rfl, Fr.of hst (by kernel_rfl), F0, F1, hB, hZ⟩) ?_
      rintro _ c122 a' w113 ⟨x114, rfl, hF115, F116, F117, hB, hZ⟩ hx123
      refine Fr.goOn hF115 (by kernel_rfl) ?_
      have hm := hx123
      unfold m_laws_eqInt64SS_s1 at hm
      refine cW_seq ?_
      refine cW_seq ?_
      refine cW_region ?_
      refine wS_pure 4 [(14, .bool (decide (x114 < (((l0).length : Int))))), (13, .int .i64 (((l0).length : Int))), (12, .slice A0 (l0).length cap0), (11, .int .i64 (x114))] (by kernel_rfl) ?_
      refine wS_end (by rfl) ?_
      refine eX_then ?_
      refine cW_cond (t := decide (x114 < (((l0).length : Int)))) (by kernel_rfl) (fun hb124 => ?_) (fun hb124 => ?_)
      · have hm := condT hb124 hm
        refine cW_skip ?_
        refine eX_then ?_
        refine cW_seq ?_
        refine cW_block ?_
        refine cW_seq ?_
        refine cW_drawnTail [] 8 (by kernel_rfl) (by kernel_rfl) (fun w149 hc150 => ?_)
        replace F116 := F116.chg hc150 Dj.nil
        replace F117 := F117.chg hc150 Dj.nil
        replace hB := hB.inS hc150 inNil
        replace hZ := Nat.le_trans hZ hc150.size
        have hS := Chg.refl [] w149
        have Z151 := F116
        have Z152 := F117
        refine wH_take [0, 1] [1, 0] [(18, .int .i64 (x114)), (17, .slice A0 (l0).length cap0)] (by kernel_rfl) (qT (qT (qB (qT (qL (qB (qT (qT qZ)))))))) (by kernel_rfl) ?_
        obtain ⟨x153, hx154, hm⟩ := bindE hm
        refine wH_idx (i := 2) (d := 19) (T := 47) (A := A0) (n := (l0).length) (cap := cap0) (kd := .i64) (m := x114) (by kernel_rfl) (qT (qT (qB (qT (qL (qB (qT (qT qZ)))))))) (by kernel_rfl) (by kernel_rfl) sl47 (F116.is hx154) ?_
        obtain ⟨A155, cap156, hc158, F157, K159⟩ := SlR.row Z151 hx154
        refine wH_load1 (i := 3) (d := 20) (T := 78) (ad := (elA A0 1 (x114) 0)) (v := .slice A155 (x153).length cap156) (by kernel_rfl) (qT (qT (qB (qT (qL (qB (qT (qT qZ)))))))) (by kernel_rfl) (by kernel_rfl) vt78 (fun W hW => hW.keep hc158) ?_
        refine wH_take [4, 5] [5, 4, 3, 2, 1, 0] [(22, .int .i64 (x114)), (21, .slice A1 (l1).length cap1)] (by kernel_rfl) (qT (qT (qB (qT (qL (qB (qT (qT qZ)))))))) (by kernel_rfl) ?_
        obtain ⟨x161, hx162, hm⟩ := bindE hm
        refine wH_idx (i := 6) (d := 23) (T := 47) (A := A1) (n := (l1).length) (cap := cap1) (kd := .i64) (m := x114) (by kernel_rfl) (qT (qT (qB (qT (qL (qB (qT (qT qZ)))))))) (by kernel_rfl) (by kernel_rfl) sl47 (F117.is hx162) ?_
        obtain ⟨A163, cap164, hc166, F165, K167⟩ := SlR.row Z152 hx162
        refine wH_load1 (i := 7) (d := 24) (T := 78) (ad := (elA A1 1 (x114) 0)) (v := .slice A163 (x161).length cap164) (by kernel_rfl) (qT (qT (qB (qT (qL (qB (qT (qT qZ)))))))) (by kernel_rfl) (by kernel_rfl) vt78 (fun W hW => hW.keep hc166) ?_
        refine wH_done (by kernel_rfl) ?_
        refine eX_tail ?_
        obtain ⟨y169, hy170, hm⟩ := bindE hm
        refine wS_calls (d := 25) (f := 107) (vs := [.slice A155 (x153).length cap156, .slice A163 (x161).length cap164]) (by kernel_rfl) ent107 (c_laws_eqInt64S hy170 F157 F165) ?_
        rintro _ w171 ⟨rfl, hc172⟩
        replace F116 := F116.chg hc172 Dj.nil
        replace F117 := F117.chg hc172 Dj.nil
        replace F157 := F157.chg hc172 Dj.nil
        replace F165 := F165.chg hc172 Dj.nil
        replace hB := hB.inS hc172 inNil
        replace hZ := Nat.le_trans hZ hc172.size
        refine ⟨.bool (y169), rfl, ?_⟩
        refine wS_pure 1 [(26, .bool (!y169))] (by kernel_rfl) ?_
        refine wS_end (by rfl) ?_
        refine eX_then ?_
        refine cW_cond (t := !y169) (by kernel_rfl) (fun hb173 => ?_) (fun hb173 => ?_)
        · have hm := condT hb173 hm
          refine cW_seq ?_
          refine cW_region ?_
          refine wS_pure 1 [(4, .bool (false))] (by kernel_rfl) ?_
          refine wS_end (by rfl) ?_
          refine eX_then ?_
          refine cW_ret ?_
          refine eX_block_ret ?_
          refine eX_then_ret ?_
          have hq : (some (Ctl.out (Sum.inr false)) : Option (Ctl (Int) (Sum (Unit) ((Bool))))) = some _ := hm
          replace hq := someE hq
          subst hq
          refine eX_outR hx123 (fun hr => ?_)
          subst hr
          refine eX_block_ret ?_
          refine eX_then_ret ?_
          refine eX_then_ret ?_
          have hq : (some false : Option ((Bool))) = some _ := hm120
          replace hq := someE hq
          subst hq
          refine eX_ret (vs := [.bool (false)]) [.tmp 4] (by rfl) ⟨by (show lkE _ _ _ = _); kernel_rfl, trivial⟩ ?_
          exact ⟨rfl, hB⟩
        · have hm := condF hb173 hm
          refine cW_skip ?_
          refine eX_block ?_
          refine eX_then ?_
          refine cW_region ?_
          refine wS_pure 3 [(5, .int .i64 (wr (x114 + 1))), (16, .int .i64 (wr (x114 + 1))), (15, .int .i64 (x114))] (by kernel_rfl) ?_
          refine wS_end (by rfl) ?_
          have hq : (some (Ctl.next (wr (x114 + 1))) : Option (Ctl (Int) (Sum (Unit) ((Bool))))) = some _ := hm
          replace hq := someE hq
          subst hq
          exact eX_next hx123 (fun hst => ⟨wr (x114 + 1), rfl, Fr.of hst (by kernel_rfl), F116, F117, hB, hZ⟩)
      · have hm := condF hb124 hm
        refine cW_exit ?_
        refine eX_then_exit ?_
        have hq : (some (Ctl.out (Sum.inl (()))) : Option (Ctl (Int) (Sum (Unit) ((Bool))))) = some _ := hm
        replace hq := someE hq
        subst hq
        refine eX_outX hx123 (fun hr174 => ?_)
        replace hr174 := hr174.symm
        subst hr174
        refine eX_block_hit ?_
        exact eX_J (fun hst => ⟨rfl, Fr.of hst (by kernel_rfl), hB, hZ⟩)
    · rintro a' w111 ⟨hJ, hF112, hB, hZ⟩
      subst hJ
      refine Fr.goX hF112 (by kernel_rfl) ?_
      refine eX_then ?_
      refine cW_seq ?_
      refine cW_region ?_
      refine wS_pure 1 [(4, .bool (true))] (by kernel_rfl) ?_
      refine wS_end (by rfl) ?_
      refine eX_then ?_
      refine cW_ret ?_
      have hq : (some true : Option ((Bool))) = some _ := hm
      replace hq := someE hq
      subst hq
      refine eX_ret (vs := [.bool (true)]) [.tmp 4] (by rfl) ⟨by (show lkE _ _ _ = _); kernel_rfl, trivial⟩ ?_
      exact ⟨rfl, hB⟩

set_option maxRecDepth 100000 in
/-- laws.markInt64S -/
theorem c_laws_markInt64S {w0 : World} {l0 : List (Int)} {A0 : Option Addr} {cap0 : Nat} {fp0 : List Nat} {p1 : Int} {r : (Int) × (List (Int))} (hm : m_laws_markInt64S l0 p1 = some r) (F0 : Ow 1 encI 2 w0 fp0 A0 cap0 l0) :
    Calls Try.prog 108 #[.slice A0 (l0).length cap0, .int .i64 (p1)] w0 fun e w' => e = .returned (.int .i64 (r.1)) ∧ Ow 1 encI 2 w' fp0 A0 cap0 r.2 ∧ (r.2).length = (l0).length ∧ Chg (fp0 ++ []) w0 w' := by
  have L0 := F0.low
  have hB : Chg (fp0 ++ []) w0 w0 := Chg.refl _ _
  have hZ := Nat.le_refl w0.heap.size
  unfold m_laws_markInt64S at hm
  refine enterE (N := 19) Try.func108 (by rfl) Try.ntmps108 (by simp) [(0, .slice A0 (l0).length cap0), (1, .int .i64 (p1))] (by rfl) (by kernel_rfl) (fun a => ?_)
  refine cW_seq ?_
  refine cW_region ?_
  refine wS_pure 1 [(4, .int .i64 (0))] (by kernel_rfl) ?_
  refine wS_end (by rfl) ?_
  refine eX_then ?_
  refine cW_seq ?_
  refine cW_seq ?_
  refine cW_region ?_
  refine wS_pure 1 [(5, .int .i64 (0))] (by kernel_rfl) ?_
  refine wS_end (by rfl) ?_
  refine eX_then ?_
  obtain ⟨r37, hr38, hm⟩ := bindE hm
  have hm39 := hm
  refine cW_cut (fun a' w' => ∃ x25 : Int, ∃ l26 : List (Int), (x25, l26) = r37 ∧ Fr 19 [(1, .int .i64 (x25))] a' ∧ Ow 1 encI 2 w' fp0 A0 cap0 l26 ∧ (l26).length = (l0).length ∧ Chg (fp0 ++ []) w0 w' ∧ w0.heap.size ≤ w'.heap.size) ?_ ?_
  · refine cW_block ?_
    refine cW_loop _ (fun (s40 : Int × Int × (List (Int))) a' w' => ∃ x31 : Int, ∃ x32 : Int, ∃ l33 : List (Int), (x31, x32, l33) = s40 ∧ Fr 19 [(0, .slice A0 (l33).length cap0), (1, .int .i64 (x31)), (5, .int .i64 (x32))] a' ∧ Ow 1 encI 2 w' fp0 A0 cap0 l33 ∧ (l33).length = (l0).length ∧ Chg (fp0 ++ []) w0 w' ∧ w0.heap.size ≤ w'.heap.size) hr38 (fun hst => ⟨p1, 0, l0, rfl, Fr.of hst (by kernel_rfl), F0, (Eq.refl (l0).length), hB, hZ⟩) ?_
    rintro _ c41 a' w30 ⟨x31, x32, l33, rfl, hF34, F35, hl36, hB, hZ⟩ hx42
    refine Fr.goOn hF34 (by kernel_rfl) ?_
    have hm := hx42
    unfold m_laws_markInt64S_s1 at hm
    refine cW_seq ?_
    refine cW_seq ?_
    refine cW_region ?_
    refine wS_pure 4 [(9, .bool (decide (x32 < (((l33).length : Int))))), (8, .int .i64 (((l33).length : Int))), (7, .slice A0 (l33).length cap0), (6, .int .i64 (x32))] (by kernel_rfl) ?_
    refine wS_end (by rfl) ?_
    refine eX_then ?_
    refine cW_cond (t := decide (x32 < (((l33).length : Int)))) (by kernel_rfl) (fun hb43 => ?_) (fun hb43 => ?_)
    · have hm := condT hb43 hm
      refine cW_skip ?_
      refine eX_then ?_
      refine cW_seq ?_
      refine cW_block ?_
      refine cW_seq ?_
      refine cW_region ?_
      refine wS_pure 3 [(14, .int .i64 (x31)), (13, .int .i64 (x32)), (12, .slice A0 (l33).length cap0)] (by kernel_rfl) ?_
      obtain ⟨x44, hx45, hm⟩ := bindE hm
      refine wS_idx (d := 15) (T := 78) (A := A0) (n := (l33).length) (cap := cap0) (kd := .i64) (m := x32) (by kernel_rfl) sl78 ((F35.sl encI_ok).is hx45) ?_
      refine wS_storeEl (x := x44) x31 (T := 2) (U := 2) (cap := cap0) (j := 0) (A := A0) (v := .int .i64 (x31)) (vs := [.int .i64 (x31)]) (m := x32) (by kernel_rfl) (by rfl) sz2 (by rfl) encI_ok F35 hx45 (by simp only [List.length_cons, List.length_nil]; omega) (by rfl) ?_
      intro w46 F47 hc48
      replace hB := hB.inS hc48 (inMem (fun x hx => (List.mem_append_left _ hx)))
      replace hZ := Nat.le_trans hZ hc48.size
      clear F35
      have hl49 := (show (l33.set (Int.toNat x32) x31).length = (l33).length from List.length_set ..).trans hl36
      rewrite [show (l33).length = (l33.set (Int.toNat x32) x31).length from (List.length_set ..).symm]
      refine wS_end (by rfl) ?_
      refine eX_then ?_
      refine cW_region ?_
      refine wS_pure 3 [(1, .int .i64 (wr (x31 + 1))), (17, .int .i64 (wr (x31 + 1))), (16, .int .i64 (x31))] (by kernel_rfl) ?_
      refine wS_end (by rfl) ?_
      refine eX_block ?_
      refine eX_then ?_
      refine cW_region ?_
      refine wS_pure 3 [(5, .int .i64 (wr (x32 + 1))), (11, .int .i64 (wr (x32 + 1))), (10, .int .i64 (x32))] (by kernel_rfl) ?_
      refine wS_end (by rfl) ?_
      have hq : (some (Ctl.next ((wr (x31 + 1), wr (x32 + 1), l33.set (Int.toNat x32) x31))) : Option (Ctl (Int × Int × (List (Int))) (Int × (List (Int))))) = some _ := hm
      replace hq := someE hq
      subst hq
      exact eX_next hx42 (fun hst => ⟨wr (x31 + 1), wr (x32 + 1), l33.set (Int.toNat x32) x31, rfl, Fr.of hst (by kernel_rfl), F47, hl49, hB, hZ⟩)
    · have hm := condF hb43 hm
      refine cW_exit ?_
      refine eX_then_exit ?_
      have hq : (some (Ctl.out ((x31, l33))) : Option (Ctl (Int × Int × (List (Int))) (Int × (List (Int))))) = some _ := hm
      replace hq := someE hq
      subst hq
      refine eX_outX hx42 (fun hr50 => ?_)
      replace hr50 := hr50.symm
      subst hr50
      refine eX_block_hit ?_
      exact eX_J (fun hst => ⟨x31, l33, rfl, Fr.of hst (by kernel_rfl), F35, hl36, hB, hZ⟩)
  · rintro a' w24 ⟨x25, l26, hJ, hF27, F28, hl29, hB, hZ⟩
    subst hJ
    refine Fr.goX hF27 (by kernel_rfl) ?_
    refine eX_then ?_
    refine cW_seq ?_
    refine cW_region ?_
    refine wS_pure 2 [(4, .int .i64 (x25)), (18, .int .i64 (x25))] (by kernel_rfl) ?_
    refine wS_end (by rfl) ?_
    refine eX_then ?_
    refine cW_ret ?_
    have hq : (some ((x25, l26)) : Option ((Int) × (List (Int)))) = some _ := hm
    replace hq := someE hq
    subst hq
    refine eX_ret (vs := [.int .i64 (x25)]) [.tmp 4] (by rfl) ⟨by (show lkE _ _ _ = _); kernel_rfl, trivial⟩ ?_
    exact ⟨rfl, F28, hl29, hB⟩

set_option maxRecDepth 100000 in
/-- laws.markInt64SS -/
theorem c_laws_markInt64SS {w0 : World} {l0 : List (List (Int))} {A0 : Option Addr} {cap0 : Nat} {fp0 fr0 : List Nat} {p1 : Int} {r : (Int) × (List (List (Int)))} (hm : m_laws_markInt64SS l0 p1 = some r) (F0 : OwR 1 encI 78 2 w0 fp0 fr0 A0 cap0 l0) :
    Calls Try.prog 56 #[.slice A0 (l0).length cap0, .int .i64 (p1)] w0 fun e w' => e = .returned (.int .i64 (r.1)) ∧ OwR 1 encI 78 2 w' fp0 fr0 A0 cap0 r.2 ∧ (r.2).length = (l0).length ∧ Chg ((fp0 ++ fr0) ++ []) w0 w' := by
  have L0 := F0.low
  have hB : Chg ((fp0 ++ fr0) ++ []) w0 w0 := Chg.refl _ _
  have hZ := Nat.le_refl w0.heap.size
  unfold m_laws_markInt64SS at hm
  refine enterE (N := 19) Try.func56 (by rfl) Try.ntmps56 (by simp) [(0, .slice A0 (l0).length cap0), (1, .int .i64 (p1))] (by rfl) (by kernel_rfl) (fun a => ?_)
  refine cW_seq ?_
  refine cW_region ?_
  refine wS_pure 1 [(4, .int .i64 (0))] (by kernel_rfl) ?_
  refine wS_end (by rfl) ?_
  refine eX_then ?_
  refine cW_seq ?_
  refine cW_seq ?_
  refine cW_region ?_
  refine wS_pure 1 [(5, .int .i64 (0))] (by kernel_rfl) ?_
  refine wS_end (by rfl) ?_
  refine eX_then ?_
  obtain ⟨r67, hr68, hm⟩ := bindE hm
  have hm69 := hm
  refine cW_cut (fun a' w' => ∃ x55 : Int, ∃ l56 : List (List (Int)), (x55, l56) = r67 ∧ Fr 19 [(1, .int .i64 (x55))] a' ∧ OwR 1 encI 78 2 w' fp0 fr0 A0 cap0 l56 ∧ (l56).length = (l0).length ∧ Chg ((fp0 ++ fr0) ++ []) w0 w' ∧ w0.heap.size ≤ w'.heap.size) ?_ ?_
  · refine cW_block ?_
    refine cW_loop _ (fun (s70 : Int × Int × (List (List (Int)))) a' w' => ∃ x61 : Int, ∃ x62 : Int, ∃ l63 : List (List (Int)), (x61, x62, l63) = s70 ∧ Fr 19 [(0, .slice A0 (l63).length cap0), (1, .int .i64 (x61)), (5, .int .i64 (x62))] a' ∧ OwR 1 encI 78 2 w' fp0 fr0 A0 cap0 l63 ∧ (l63).length = (l0).length ∧ Chg ((fp0 ++ fr0) ++ []) w0 w' ∧ w0.heap.size ≤ w'.heap.size) hr68 (fun hst => ⟨p1, 0, l0, rfl, Fr.of hst (by kernel_rfl), F0, (Eq.refl (l0).length), hB, hZ⟩) ?_
    rintro _ c71 a' w60 ⟨x61, x62, l63, rfl, hF64, F65, hl66, hB, hZ⟩ hx72
    refine Fr.goOn hF64 (by kernel_rfl) ?_
    have hm := hx72
    unfold m_laws_markInt64SS_s1 at hm
    refine cW_seq ?_
    refine cW_seq ?_
    refine cW_region ?_
    refine wS_pure 4 [(9, .bool (decide (x62 < (((l63).length : Int))))), (8, .int .i64 (((l63).length : Int))), (7, .slice A0 (l63).length cap0), (6, .int .i64 (x62))] (by kernel_rfl) ?_
    refine wS_end (by rfl) ?_
    refine eX_then ?_
    refine cW_cond (t := decide (x62 < (((l63).length : Int)))) (by kernel_rfl) (fun hb73 => ?_) (fun hb73 => ?_)
    · have hm := condT hb73 hm
      refine cW_skip ?_
      refine eX_then ?_
      refine cW_seq ?_
      refine cW_block ?_
      refine cW_region ?_
      refine wS_pure 2 [(13, .int .i64 (x62)), (12, .slice A0 (l63).length cap0)] (by kernel_rfl) ?_
      obtain ⟨x74, hx75, hm⟩ := bindE hm
      refine wS_idx (d := 14) (T := 47) (A := A0) (n := (l63).length) (cap := cap0) (kd := .i64) (m := x62) (by kernel_rfl) sl47 ((F65.slr encI_ok).is hx75) ?_
      obtain ⟨A76, cap77, fp81, hc79, hsub82, F78, hcl83⟩ := OwR.lend F65 hx75
      have Dm85 := (F65.dj).symm
      refine wS_load1 (d := 15) (T := 78) (ad := (elA A0 1 (x62) 0)) (v := .slice A76 (x74).length cap77) (by kernel_rfl) vt78 hc79 ?_
      refine wS_pure 1 [(16, .int .i64 (x61))] (by kernel_rfl) ?_
      obtain ⟨y86, hy87, hm⟩ := bindE hm
      refine wS_calls (d := 17) (f := 108) (vs := [.slice A76 (x74).length cap77, .int .i64 (x61)]) (by kernel_rfl) ent108 (c_laws_markInt64S hy87 F78) ?_
      rintro _ w88 ⟨rfl, F90, hl91, hc89⟩
      have F92 := hcl83 _ _ (hc89.more (fun x hx => by simpa using hx)) F90 hl91
      have hc93 := hc89.more (S' := (fp0 ++ fr0) ++ []) (fun x hx => List.mem_append_left _ (hsub82 x (by simpa using hx)))
      have hl94 := (show (l63.set (Int.toNat x62) y86.2).length = (l63).length from List.length_set ..).trans hl66
      clear F65
      replace hB := hB.inS hc93 (inApp (inMem (fun x hx => (List.mem_append_left _ hx))) inNil)
      replace hZ := Nat.le_trans hZ hc93.size
      refine ⟨.int .i64 (y86.1), rfl, ?_⟩
      rewrite [(show (l63).length = (l63.set (Int.toNat x62) y86.2).length from (List.length_set ..).symm)]
      refine wS_pure 1 [(1, .int .i64 (y86.1))] (by kernel_rfl) ?_
      refine wS_end (by rfl) ?_
      refine eX_block ?_
      refine eX_then ?_
      refine cW_region ?_
      refine wS_pure 3 [(5, .int .i64 (wr (x62 + 1))), (11, .int .i64 (wr (x62 + 1))), (10, .int .i64 (x62))] (by kernel_rfl) ?_
      refine wS_end (by rfl) ?_
      have hq : (some (Ctl.next ((y86.1, wr (x62 + 1), l63.set (Int.toNat x62) y86.2))) : Option (Ctl (Int × Int × (List (List (Int)))) (Int × (List (List (Int)))))) = some _ := hm
      replace hq := someE hq
      subst hq
      exact eX_next hx72 (fun hst => ⟨y86.1, wr (x62 + 1), l63.set (Int.toNat x62) y86.2, rfl, Fr.of hst (by kernel_rfl), F92, hl94, hB, hZ⟩)
    · have hm := condF hb73 hm
      refine cW_exit ?_
      refine eX_then_exit ?_
      have hq : (some (Ctl.out ((x61, l63))) : Option (Ctl (Int × Int × (List (List (Int)))) (Int × (List (List (Int)))))) = some _ := hm
      replace hq := someE hq
      subst hq
      refine eX_outX hx72 (fun hr95 => ?_)
      replace hr95 := hr95.symm
      subst hr95
      refine eX_block_hit ?_
      exact eX_J (fun hst => ⟨x61, l63, rfl, Fr.of hst (by kernel_rfl), F65, hl66, hB, hZ⟩)
  · rintro a' w54 ⟨x55, l56, hJ, hF57, F58, hl59, hB, hZ⟩
    subst hJ
    refine Fr.goX hF57 (by kernel_rfl) ?_
    refine eX_then ?_
    refine cW_seq ?_
    refine cW_region ?_
    refine wS_pure 2 [(4, .int .i64 (x55)), (18, .int .i64 (x55))] (by kernel_rfl) ?_
    refine wS_end (by rfl) ?_
    refine eX_then ?_
    refine cW_ret ?_
    have hq : (some ((x55, l56)) : Option ((Int) × (List (List (Int))))) = some _ := hm
    replace hq := someE hq
    subst hq
    refine eX_ret (vs := [.int .i64 (x55)]) [.tmp 4] (by rfl) ⟨by (show lkE _ _ _ = _); kernel_rfl, trivial⟩ ?_
    exact ⟨rfl, F58, hl59, hB⟩

set_option maxRecDepth 100000 in
/-- laws.heldInt64S -/
theorem c_laws_heldInt64S {w0 : World} {l0 : List (Int)} {A0 : Option Addr} {cap0 : Nat} {fp0 : List Nat} {p1 : Int} {r : (Int)} (hm : m_laws_heldInt64S l0 p1 = some r) (F0 : Sl 1 encI w0 fp0 A0 l0) :
    Calls Try.prog 109 #[.slice A0 (l0).length cap0, .int .i64 (p1)] w0 fun e w' => e = .returned (.int .i64 (r)) ∧ Chg [] w0 w' := by
  have L0 := F0.low
  have hB : Chg [] w0 w0 := Chg.refl _ _
  have hZ := Nat.le_refl w0.heap.size
  unfold m_laws_heldInt64S at hm
  refine enterE (N := 21) Try.func109 (by rfl) Try.ntmps109 (by simp) [(0, .slice A0 (l0).length cap0), (1, .int .i64 (p1))] (by rfl) (by kernel_rfl) (fun a => ?_)
  refine cW_seq ?_
  refine cW_region ?_
  refine wS_pure 1 [(4, .int .i64 (0))] (by kernel_rfl) ?_
  refine wS_end (by rfl) ?_
  refine eX_then ?_
  refine cW_seq ?_
  refine cW_seq ?_
  refine cW_region ?_
  refine wS_pure 1 [(5, .int .i64 (0))] (by kernel_rfl) ?_
  refine wS_end (by rfl) ?_
  refine eX_then ?_
  obtain ⟨r24, hr25, hm⟩ := bindE hm
  have hm26 := hm
  refine cW_cut (fun a' w' => ∃ x17 : Int, Sum.inl x17 = r24 ∧ Fr 21 [(1, .int .i64 (x17))] a' ∧ Chg [] w0 w' ∧ w0.heap.size ≤ w'.heap.size) ?_ ?_
  · refine cW_block ?_
    refine cW_loop _ (fun (s27 : Int × Int) a' w' => ∃ x20 : Int, ∃ x21 : Int, (x20, x21) = s27 ∧ Fr 21 [(0, .slice A0 (l0).length cap0), (1, .int .i64 (x20)), (5, .int .i64 (x21))] a' ∧ Sl 1 encI w' fp0 A0 l0 ∧ Chg [] w0 w' ∧ w0.heap.size ≤ w'.heap.size) hr25 (fun hst => ⟨p1, 0, rfl, Fr.of hst (by kernel_rfl), F0, hB, hZ⟩) ?_
    rintro _ c28 a' w19 ⟨x20, x21, rfl, hF22, F23, hB, hZ⟩ hx29
    refine Fr.goOn hF22 (by kernel_rfl) ?_
    have hm := hx29
    unfold m_laws_heldInt64S_s1 at hm
    refine cW_seq ?_
    refine cW_seq ?_
    refine cW_region ?_
    refine wS_pure 4 [(9, .bool (decide (x21 < (((l0).length : Int))))), (8, .int .i64 (((l0).length : Int))), (7, .slice A0 (l0).length cap0), (6, .int .i64 (x21))] (by kernel_rfl) ?_
    refine wS_end (by rfl) ?_
    refine eX_then ?_
    refine cW_cond (t := decide (x21 < (((l0).length : Int)))) (by kernel_rfl) (fun hb30 => ?_) (fun hb30 => ?_)
    · have hm := condT hb30 hm
      refine cW_skip ?_
      refine eX_then ?_
      refine cW_seq ?_
      refine cW_block ?_
      refine cW_seq ?_
      refine cW_seq ?_
      refine cW_region ?_
      refine wS_pure 2 [(13, .int .i64 (x21)), (12, .slice A0 (l0).length cap0)] (by kernel_rfl) ?_
      obtain ⟨x31, hx32, hm⟩ := bindE hm
      refine wS_idx (d := 14) (T := 78) (A := A0) (n := (l0).length) (cap := cap0) (kd := .i64) (m := x21) (by kernel_rfl) sl78 (F23.is hx32) ?_
      refine wS_load1 (d := 15) (T := 2) (ad := (elA A0 1 (x21) 0)) (v := .int .i64 (x31)) (by kernel_rfl) vt2 (Sl.cell F23 hx32 0 (by rfl)) ?_
      refine wS_pure 2 [(17, .bool (x31 != x20)), (16, .int .i64 (x20))] (by kernel_rfl) ?_
      refine wS_end (by rfl) ?_
      refine eX_then ?_
      refine cW_cond (t := x31 != x20) (by kernel_rfl) (fun hb33 => ?_) (fun hb33 => ?_)
      · have hm := condT hb33 hm
        refine cW_seq ?_
        refine cW_region ?_
        refine wS_pure 1 [(4, .int .i64 ((-1)))] (by kernel_rfl) ?_
        refine wS_end (by rfl) ?_
        refine eX_then ?_
        refine cW_ret ?_
        refine eX_then_ret ?_
        refine eX_block_ret ?_
        refine eX_then_ret ?_
        have hq : (some (Ctl.out (Sum.inr ((-1)))) : Option (Ctl (Int × Int) (Sum (Int) ((Int))))) = some _ := hm
        replace hq := someE hq
        subst hq
        refine eX_outR hx29 (fun hr => ?_)
        subst hr
        refine eX_block_ret ?_
        refine eX_then_ret ?_
        refine eX_then_ret ?_
        have hq : (some ((-1)) : Option ((Int))) = some _ := hm26
        replace hq := someE hq
        subst hq
        refine eX_ret (vs := [.int .i64 ((-1))]) [.tmp 4] (by rfl) ⟨by (show lkE _ _ _ = _); kernel_rfl, trivial⟩ ?_
        exact ⟨rfl, hB⟩
      · have hm := condF hb33 hm
        refine cW_skip ?_
        refine eX_then ?_
        refine cW_region ?_
        refine wS_pure 3 [(1, .int .i64 (wr (x20 + 1))), (19, .int .i64 (wr (x20 + 1))), (18, .int .i64 (x20))] (by kernel_rfl) ?_
        refine wS_end (by rfl) ?_
        refine eX_block ?_
        refine eX_then ?_
        refine cW_region ?_
        refine wS_pure 3 [(5, .int .i64 (wr (x21 + 1))), (11, .int .i64 (wr (x21 + 1))), (10, .int .i64 (x21))] (by kernel_rfl) ?_
        refine wS_end (by rfl) ?_
        have hq : (some (Ctl.next ((wr (x20 + 1), wr (x21 + 1)))) : Option (Ctl (Int × Int) (Sum (Int) ((Int))))) = some _ := hm
        replace hq := someE hq
        subst hq
        exact eX_next hx29 (fun hst => ⟨wr (x20 + 1), wr (x21 + 1), rfl, Fr.of hst (by kernel_rfl), F23, hB, hZ⟩)
    · have hm := condF hb30 hm
      refine cW_exit ?_
      refine eX_then_exit ?_
      have hq : (some (Ctl.out (Sum.inl x20)) : Option (Ctl (Int × Int) (Sum (Int) ((Int))))) = some _ := hm
      replace hq := someE hq
      subst hq
      refine eX_outX hx29 (fun hr34 => ?_)
      replace hr34 := hr34.symm
      subst hr34
      refine eX_block_hit ?_
      exact eX_J (fun hst => ⟨x20, rfl, Fr.of hst (by kernel_rfl), hB, hZ⟩)
  · rintro a' w16 ⟨x17, hJ, hF18, hB, hZ⟩
    subst hJ
    refine Fr.goX hF18 (by kernel_rfl) ?_
    refine eX_then ?_
    refine cW_seq ?_
    refine cW_region ?_
    refine wS_pure 2 [(4, .int .i64 (x17)), (20, .int .i64 (x17))] (by kernel_rfl) ?_
    refine wS_end (by rfl) ?_
    refine eX_then ?_
    refine cW_ret ?_
    have hq : (some x17 : Option ((Int))) = some _ := hm
    replace hq := someE hq
    subst hq
    refine eX_ret (vs := [.int .i64 (x17)]) [.tmp 4] (by rfl) ⟨by (show lkE _ _ _ = _); kernel_rfl, trivial⟩ ?_
    exact ⟨rfl, hB⟩

set_option maxRecDepth 100000 in
/-- laws.heldInt64SS -/
theorem c_laws_heldInt64SS {w0 : World} {l0 : List (List (Int))} {A0 : Option Addr} {cap0 : Nat} {fp0 : List Nat} {p1 : Int} {r : (Int)} (hm : m_laws_heldInt64SS l0 p1 = some r) (F0 : SlR 1 encI w0 fp0 A0 l0) :
    Calls Try.prog 57 #[.slice A0 (l0).length cap0, .int .i64 (p1)] w0 fun e w' => e = .returned (.int .i64 (r)) ∧ Chg [] w0 w' := by
  have L0 := F0.low
  have hB : Chg [] w0 w0 := Chg.refl _ _
  have hZ := Nat.le_refl w0.heap.size
  unfold m_laws_heldInt64SS at hm
  refine enterE (N := 21) Try.func57 (by rfl) Try.ntmps57 (by simp) [(0, .slice A0 (l0).length cap0), (1, .int .i64 (p1))] (by rfl) (by kernel_rfl) (fun a => ?_)
  refine cW_seq ?_
  refine cW_region ?_
  refine wS_pure 1 [(4, .int .i64 (0))] (by kernel_rfl) ?_
  refine wS_end (by rfl) ?_
  refine eX_then ?_
  refine cW_seq ?_
  refine cW_seq ?_
  refine cW_region ?_
  refine wS_pure 1 [(5, .int .i64 (0))] (by kernel_rfl) ?_
  refine wS_end (by rfl) ?_
  refine eX_then ?_
  obtain ⟨r44, hr45, hm⟩ := bindE hm
  have hm46 := hm
  refine cW_cut (fun a' w' => ∃ x37 : Int, Sum.inl x37 = r44 ∧ Fr 21 [(1, .int .i64 (x37))] a' ∧ Chg [] w0 w' ∧ w0.heap.size ≤ w'.heap.size) ?_ ?_
  · refine cW_block ?_
    refine cW_loop _ (fun (s47 : Int × Int) a' w' => ∃ x40 : Int, ∃ x41 : Int, (x40, x41) = s47 ∧ Fr 21 [(0, .slice A0 (l0).length cap0), (1, .int .i64 (x40)), (5, .int .i64 (x41))] a' ∧ SlR 1 encI w' fp0 A0 l0 ∧ Chg [] w0 w' ∧ w0.heap.size ≤ w'.heap.size) hr45 (fun hst => ⟨p1, 0, rfl, Fr.of hst (by kernel_rfl), F0, hB, hZ⟩) ?_
    rintro _ c48 a' w39 ⟨x40, x41, rfl, hF42, F43, hB, hZ⟩ hx49
    refine Fr.goOn hF42 (by kernel_rfl) ?_
    have hm := hx49
    unfold m_laws_heldInt64SS_s1 at hm
    refine cW_seq ?_
    refine cW_seq ?_
    refine cW_region ?_
    refine wS_pure 4 [(9, .bool (decide (x41 < (((l0).length : Int))))), (8, .int .i64 (((l0).length : Int))), (7, .slice A0 (l0).length cap0), (6, .int .i64 (x41))] (by kernel_rfl) ?_
    refine wS_end (by rfl) ?_
    refine eX_then ?_
    refine cW_cond (t := decide (x41 < (((l0).length : Int)))) (by kernel_rfl) (fun hb50 => ?_) (fun hb50 => ?_)
    · have hm := condT hb50 hm
      refine cW_skip ?_
      refine eX_then ?_
      refine cW_seq ?_
      refine cW_block ?_
      refine cW_seq ?_
      refine cW_region ?_
      refine wS_pure 2 [(13, .int .i64 (x41)), (12, .slice A0 (l0).length cap0)] (by kernel_rfl) ?_
      obtain ⟨x51, hx52, hm⟩ := bindE hm
      refine wS_idx (d := 14) (T := 47) (A := A0) (n := (l0).length) (cap := cap0) (kd := .i64) (m := x41) (by kernel_rfl) sl47 (F43.is hx52) ?_
      obtain ⟨A53, cap54, hc56, F55, K57⟩ := SlR.row F43 hx52
      refine wS_load1 (d := 15) (T := 78) (ad := (elA A0 1 (x41) 0)) (v := .slice A53 (x51).length cap54) (by kernel_rfl) vt78 hc56 ?_
      refine wS_pure 1 [(16, .int .i64 (x40))] (by kernel_rfl) ?_
      obtain ⟨y59, hy60, hm⟩ := bindE hm
      refine wS_calls (d := 17) (f := 109) (vs := [.slice A53 (x51).length cap54, .int .i64 (x40)]) (by kernel_rfl) ent109 (c_laws_heldInt64S hy60 F55) ?_
      rintro _ w61 ⟨rfl, hc62⟩
      replace F43 := F43.chg hc62 Dj.nil
      replace F55 := F55.chg hc62 Dj.nil
      replace hB := hB.inS hc62 inNil
      replace hZ := Nat.le_trans hZ hc62.size
      refine ⟨.int .i64 (y59), rfl, ?_⟩
      refine wS_pure 1 [(1, .int .i64 (y59))] (by kernel_rfl) ?_
      refine wS_end (by rfl) ?_
      refine eX_then ?_
      refine cW_seq ?_
      refine cW_region ?_
      refine wS_pure 2 [(19, .bool (decide (y59 < 0))), (18, .int .i64 (y59))] (by kernel_rfl) ?_
      refine wS_end (by rfl) ?_
      refine eX_then ?_
      refine cW_cond (t := decide (y59 < 0)) (by kernel_rfl) (fun hb63 => ?_) (fun hb63 => ?_)
      · have hm := condT hb63 hm
        refine cW_seq ?_
        refine cW_region ?_
        refine wS_pure 1 [(4, .int .i64 ((-1)))] (by kernel_rfl) ?_
        refine wS_end (by rfl) ?_
        refine eX_then ?_
        refine cW_ret ?_
        refine eX_block_ret ?_
        refine eX_then_ret ?_
        have hq : (some (Ctl.out (Sum.inr ((-1)))) : Option (Ctl (Int × Int) (Sum (Int) ((Int))))) = some _ := hm
        replace hq := someE hq
        subst hq
        refine eX_outR hx49 (fun hr => ?_)
        subst hr
        refine eX_block_ret ?_
        refine eX_then_ret ?_
        refine eX_then_ret ?_
        have hq : (some ((-1)) : Option ((Int))) = some _ := hm46
        replace hq := someE hq
        subst hq
        refine eX_ret (vs := [.int .i64 ((-1))]) [.tmp 4] (by rfl) ⟨by (show lkE _ _ _ = _); kernel_rfl, trivial⟩ ?_
        exact ⟨rfl, hB⟩
      · have hm := condF hb63 hm
        refine cW_skip ?_
        refine eX_block ?_
        refine eX_then ?_
        refine cW_region ?_
        refine wS_pure 3 [(5, .int .i64 (wr (x41 + 1))), (11, .int .i64 (wr (x41 + 1))), (10, .int .i64 (x41))] (by kernel_rfl) ?_
        refine wS_end (by rfl) ?_
        have hq : (some (Ctl.next ((y59, wr (x41 + 1)))) : Option (Ctl (Int × Int) (Sum (Int) ((Int))))) = some _ := hm
        replace hq := someE hq
        subst hq
        exact eX_next hx49 (fun hst => ⟨y59, wr (x41 + 1), rfl, Fr.of hst (by kernel_rfl), F43, hB, hZ⟩)
    · have hm := condF hb50 hm
      refine cW_exit ?_
      refine eX_then_exit ?_
      have hq : (some (Ctl.out (Sum.inl x40)) : Option (Ctl (Int × Int) (Sum (Int) ((Int))))) = some _ := hm
      replace hq := someE hq
      subst hq
      refine eX_outX hx49 (fun hr64 => ?_)
      replace hr64 := hr64.symm
      subst hr64
      refine eX_block_hit ?_
      exact eX_J (fun hst => ⟨x40, rfl, Fr.of hst (by kernel_rfl), hB, hZ⟩)
  · rintro a' w36 ⟨x37, hJ, hF38, hB, hZ⟩
    subst hJ
    refine Fr.goX hF38 (by kernel_rfl) ?_
    refine eX_then ?_
    refine cW_seq ?_
    refine cW_region ?_
    refine wS_pure 2 [(4, .int .i64 (x37)), (20, .int .i64 (x37))] (by kernel_rfl) ?_
    refine wS_end (by rfl) ?_
    refine eX_then ?_
    refine cW_ret ?_
    have hq : (some x37 : Option ((Int))) = some _ := hm
    replace hq := someE hq
    subst hq
    refine eX_ret (vs := [.int .i64 (x37)]) [.tmp 4] (by rfl) ⟨by (show lkE _ _ _ = _); kernel_rfl, trivial⟩ ?_
    exact ⟨rfl, hB⟩

set_option maxRecDepth 100000 in
/-- laws.FnExactSpanningTree -/
theorem c_laws_FnExactSpanningTree {w0 : World} {l0 : List (Int × Int)} {A0 : Option Addr} {cap0 : Nat} {fp0 : List Nat} {r : (Bool)} (hm : m_laws_FnExactSpanningTree l0 = some r) (F0 : Sl 2 encII w0 fp0 A0 l0) :
    Calls Try.prog 15 #[.slice A0 (l0).length cap0] w0 fun e w' => e = .returned (.bool (r)) ∧ Chg [] w0 w' := by
  have L0 := F0.low
  have hB : Chg [] w0 w0 := Chg.refl _ _
  have hZ := Nat.le_refl w0.heap.size
  unfold m_laws_FnExactSpanningTree at hm
  refine enterE (N := 117) Try.func15 (by rfl) Try.ntmps15 (by simp) [(0, .slice A0 (l0).length cap0)] (by rfl) (by kernel_rfl) (fun a => ?_)
  refine cW_seq ?_
  refine cW_region ?_
  refine wS_pure 1 [(2, .bool (false))] (by kernel_rfl) ?_
  refine wS_end (by rfl) ?_
  refine eX_then ?_
  refine cW_seq ?_
  refine cW_region ?_
  refine wS_pure 1 [(3, .int .i64 (1048576))] (by kernel_rfl) ?_
  refine wS_end (by rfl) ?_
  refine eX_then ?_
  refine cW_seq ?_
  refine cW_region ?_
  refine wS_pure 2 [(18, .int .i64 (1048576)), (17, .slice A0 (l0).length cap0)] (by kernel_rfl) ?_
  obtain ⟨y2, hy3, hm⟩ := bindE hm
  refine wS_calls (d := 19) (f := 20) (vs := [.slice A0 (l0).length cap0, .int .i64 (1048576)]) (by kernel_rfl) ent20 (c_laws_szPointS hy3 F0) ?_
  rintro _ w4 ⟨rfl, hc5⟩
  replace F0 := F0.chg hc5 Dj.nil
  replace hB := hB.inS hc5 inNil
  replace hZ := Nat.le_trans hZ hc5.size
  refine ⟨.int .i64 (y2), rfl, ?_⟩
  refine wS_pure 1 [(3, .int .i64 (y2))] (by kernel_rfl) ?_
  refine wS_end (by rfl) ?_
  refine eX_then ?_
  refine cW_seq ?_
  refine cW_seq ?_
  refine cW_region ?_
  refine wS_pure 2 [(21, .bool (decide (y2 < 0))), (20, .int .i64 (y2))] (by kernel_rfl) ?_
  refine wS_end (by rfl) ?_
  refine eX_then ?_
  refine cW_cond (t := decide (y2 < 0)) (by kernel_rfl) (fun hb6 => ?_) (fun hb6 => ?_)
  · have hm := condT hb6 hm
    refine cW_seq ?_
    refine cW_region ?_
    refine wS_pure 1 [(2, .bool (true))] (by kernel_rfl) ?_
    refine wS_end (by rfl) ?_
    refine eX_then ?_
    refine cW_ret ?_
    refine eX_then_ret ?_
    have hq : (some true : Option ((Bool))) = some _ := hm
    replace hq := someE hq
    subst hq
    refine eX_ret (vs := [.bool (true)]) [.tmp 2] (by rfl) ⟨by (show lkE _ _ _ = _); kernel_rfl, trivial⟩ ?_
    exact ⟨rfl, hB⟩
  · have hm := condF hb6 hm
    refine cW_skip ?_
    refine eX_then ?_
    refine cW_seq ?_
    refine cW_region ?_
    refine wS_pure 1 [(23, .slice A0 (l0).length cap0)] (by kernel_rfl) ?_
    obtain ⟨y7, hy8, hm⟩ := bindE hm
    refine wS_calls (d := 24) (f := 22) (vs := [.slice A0 (l0).length cap0]) (by kernel_rfl) ent22 (c_laws_toPointS hy8 F0) ?_
    rintro _ w9 ⟨A11, cap12, fp13, rfl, F14, G15, hc10⟩
    replace F0 := F0.chg hc10 Dj.nil
    replace hB := hB.inS hc10 inNil
    replace G15 := low_le hZ G15
    replace hZ := Nat.le_trans hZ hc10.size
    refine ⟨.slice A11 (y7).length cap12, rfl, ?_⟩
    obtain ⟨y18, hy19, hm⟩ := bindE hm
    refine wS_calls (d := 25) (f := 53) (vs := [.slice A11 (y7).length cap12]) (by kernel_rfl) ent53 (c_spec_SpanningTree hy19 (F14.sl encII_ok) F14.cap_le) ?_
    rintro _ w20 ⟨A22, cap23, fp24, fr27, rfl, F25, G26, hc21⟩
    have D29 : Dj fp13 (fp24 ++ fr27) := Dj.of F14.low G26
    replace F0 := F0.chg hc21 Dj.nil
    replace F14 := F14.chg hc21 Dj.nil
    replace hB := hB.inS hc21 inNil
    replace G26 := low_le hZ G26
    replace hZ := Nat.le_trans hZ hc21.size
    refine ⟨.tuple #[.slice A22 (y18.1).length cap23, .int .i64 (y18.2.1), .bool (y18.2.2)], rfl, ?_⟩
    refine wS_pure 7 [(6, .bool (y18.2.2)), (5, .int .i64 (y18.2.1)), (4, .slice A22 (y18.1).length cap23), (28, .bool (y18.2.2)), (27, .int .i64 (y18.2.1)), (26, .slice A22 (y18.1).length cap23), (22, .tuple #[.slice A22 (y18.1).length cap23, .int .i64 (y18.2.1), .bool (y18.2.2)])] (by kernel_rfl) ?_
    refine wS_end (by rfl) ?_
    refine eX_then ?_
    refine cW_seq ?_
    refine cW_region ?_
    refine wS_pure 1 [(29, .slice A0 (l0).length cap0)] (by kernel_rfl) ?_
    obtain ⟨y30, hy31, hm⟩ := bindE hm
    refine wS_calls (d := 30) (f := 22) (vs := [.slice A0 (l0).length cap0]) (by kernel_rfl) ent22 (c_laws_toPointS hy31 F0) ?_
    rintro _ w32 ⟨A34, cap35, fp36, rfl, F37, G38, hc33⟩
    have D41 : Dj fp13 fp36 := Dj.of F14.low G38
    have D42 : Dj (fp24 ++ fr27) fp36 := Dj.of F25.low G38
    replace F0 := F0.chg hc33 Dj.nil
    replace F14 := F14.chg hc33 Dj.nil
    replace F25 := F25.chg hc33 Dj.nil
    replace hB := hB.inS hc33 inNil
    replace G38 := low_le hZ G38
    replace hZ := Nat.le_trans hZ hc33.size
    refine ⟨.slice A34 (y30).length cap35, rfl, ?_⟩
    refine wS_pure 1 [(7, .slice A34 (y30).length cap35)] (by kernel_rfl) ?_
    refine wS_end (by rfl) ?_
    refine eX_then ?_
    refine cW_seq ?_
    refine cW_region ?_
    refine wS_pure 1 [(32, .slice A34 (y30).length cap35)] (by kernel_rfl) ?_
    obtain ⟨y43, hy44, hm⟩ := bindE hm
    refine wS_calls (d := 33) (f := 54) (vs := [.slice A34 (y30).length cap35]) (by kernel_rfl) ent54 (c_impl_SpanningTree hy44 (F37.sl encII_ok)) ?_
    rintro _ w45 ⟨A47, cap48, fp49, fr52, rfl, F50, G51, hc46⟩
    have D54 : Dj fp13 (fp49 ++ fr52) := Dj.of F14.low G51
    have D55 : Dj (fp24 ++ fr27) (fp49 ++ fr52) := Dj.of F25.low G51
    have D56 : Dj fp36 (fp49 ++ fr52) := Dj.of F37.low G51
    replace F0 := F0.chg hc46 Dj.nil
    replace F14 := F14.chg hc46 Dj.nil
    replace F25 := F25.chg hc46 Dj.nil
    replace F37 := F37.chg hc46 Dj.nil
    replace hB := hB.inS hc46 inNil
    replace G51 := low_le hZ G51
    replace hZ := Nat.le_trans hZ hc46.size
    refine ⟨.tuple #[.slice A47 (y43.1).length cap48, .int .i64 (y43.2.1), .bool (y43.2.2)], rfl, ?_⟩
    refine wS_pure 7 [(10, .bool (y43.2.2)), (9, .int .i64 (y43.2.1)), (8, .slice A47 (y43.1).length cap48), (36, .bool (y43.2.2)), (35, .int .i64 (y43.2.1)), (34, .slice A47 (y43.1).length cap48), (31, .tuple #[.slice A47 (y43.1).length cap48, .int .i64 (y43.2.1), .bool (y43.2.2)])] (by kernel_rfl) ?_
    refine wS_end (by rfl) ?_
    refine eX_then ?_
    refine cW_prune [(0, .slice A0 (l0).length cap0), (4, .slice A22 (y18.1).length cap23), (5, .int .i64 (y18.2.1)), (6, .bool (y18.2.2)), (7, .slice A34 (y30).length cap35), (8, .slice A47 (y43.1).length cap48), (9, .int .i64 (y43.2.1)), (10, .bool (y43.2.2))] (by kernel_rfl) (by kernel_rfl) (fun a57 => ?_)
    refine cW_seq ?_
    refine cW_seq ?_
    refine cW_region ?_
    refine wS_pure 2 [(38, .slice A22 (y18.1).length cap23), (37, .slice A47 (y43.1).length cap48)] (by kernel_rfl) ?_
    obtain ⟨y58, hy59, hm⟩ := bindE hm
    refine wS_calls (d := 39) (f := 55) (vs := [.slice A47 (y43.1).length cap48, .slice A22 (y18.1).length cap23]) (by kernel_rfl) ent55 (c_laws_eqInt64SS hy59 (F50.slr encI_ok) (F25.slr encI_ok)) ?_
    rintro _ w60 ⟨rfl, hc61⟩
    replace F0 := F0.chg hc61 Dj.nil
    replace F14 := F14.chg hc61 Dj.nil
    replace F25 := F25.chg hc61 Dj.nil
    replace F37 := F37.chg hc61 Dj.nil
    replace F50 := F50.chg hc61 Dj.nil
    replace hB := hB.inS hc61 inNil
    replace hZ := Nat.le_trans hZ hc61.size
    refine ⟨.bool (y58), rfl, ?_⟩
    refine wS_pure 2 [(41, .bool (!y58)), (40, .bool (!y58))] (by kernel_rfl) ?_
    refine wS_bool (!y58) (fun hb62 => ?_) (fun hb62 => ?_)
    · have hm := condT hb62 hm
      rewrite [hb62]
      refine wS_pure 9 [(50, .bool (true)), (49, undef), (48, undef), (47, undef), (46, .bool (true)), (45, .bool (true)), (44, undef), (43, undef), (42, undef)] (by kernel_rfl) ?_
      refine wS_end (by rfl) ?_
      refine eX_then ?_
      refine cW_cond_t (by kernel_rfl) ?_
      refine cW_seq ?_
      refine cW_region ?_
      refine wS_pure 1 [(2, .bool (false))] (by kernel_rfl) ?_
      refine wS_end (by rfl) ?_
      refine eX_then ?_
      refine cW_ret ?_
      refine eX_then_ret ?_
      have hq : (some false : Option ((Bool))) = some _ := hm
      replace hq := someE hq
      subst hq
      refine eX_ret (vs := [.bool (false)]) [.tmp 2] (by rfl) ⟨by (show lkE _ _ _ = _); kernel_rfl, trivial⟩ ?_
      exact ⟨rfl, hB⟩
    · have hm := condF hb62 hm
      rewrite [hb62]
      refine wS_pure 5 [(46, .bool (y43.2.1 != y18.2.1)), (45, .bool (y43.2.1 != y18.2.1)), (44, .bool (y43.2.1 != y18.2.1)), (43, .int .i64 (y18.2.1)), (42, .int .i64 (y43.2.1))] (by kernel_rfl) ?_
      refine wS_bool (y43.2.1 != y18.2.1) (fun hb63 => ?_) (fun hb63 => ?_)
      · have hm := condT hb63 hm
        rewrite [hb63]
        refine wS_pure 4 [(50, .bool (true)), (49, undef), (48, undef), (47, undef)] (by kernel_rfl) ?_
        refine wS_end (by rfl) ?_
        refine eX_then ?_
        refine cW_cond_t (by kernel_rfl) ?_
        refine cW_seq ?_
        refine cW_region ?_
        refine wS_pure 1 [(2, .bool (false))] (by kernel_rfl) ?_
        refine wS_end (by rfl) ?_
        refine eX_then ?_
        refine cW_ret ?_
        refine eX_then_ret ?_
        have hq : (some false : Option ((Bool))) = some _ := hm
        replace hq := someE hq
        subst hq
        refine eX_ret (vs := [.bool (false)]) [.tmp 2] (by rfl) ⟨by (show lkE _ _ _ = _); kernel_rfl, trivial⟩ ?_
        exact ⟨rfl, hB⟩
      · have hm := condF hb63 hm
        rewrite [hb63]
        refine wS_pure 4 [(50, .bool (!(y43.2.2 == y18.2.2))), (49, .bool (!(y43.2.2 == y18.2.2))), (48, .bool (y18.2.2)), (47, .bool (y43.2.2))] (by kernel_rfl) ?_
        refine wS_end (by rfl) ?_
        refine eX_then ?_
        refine cW_cond (t := !(y43.2.2 == y18.2.2)) (by kernel_rfl) (fun hb64 => ?_) (fun hb64 => ?_)
        · have hm := condT hb64 hm
          refine cW_seq ?_
          refine cW_region ?_
          refine wS_pure 1 [(2, .bool (false))] (by kernel_rfl) ?_
          refine wS_end (by rfl) ?_
          refine eX_then ?_
          refine cW_ret ?_
          refine eX_then_ret ?_
          have hq : (some false : Option ((Bool))) = some _ := hm
          replace hq := someE hq
          subst hq
          refine eX_ret (vs := [.bool (false)]) [.tmp 2] (by rfl) ⟨by (show lkE _ _ _ = _); kernel_rfl, trivial⟩ ?_
          exact ⟨rfl, hB⟩
        · have hm := condF hb64 hm
          refine cW_skip ?_
          refine eX_then ?_
          refine cW_seq ?_
          refine cW_seq ?_
          refine cW_region ?_
          refine wS_pure 2 [(52, .slice A0 (l0).length cap0), (51, .slice A34 (y30).length cap35)] (by kernel_rfl) ?_
          obtain ⟨y65, hy66, hm⟩ := bindE hm
          refine wS_calls (d := 53) (f := 22) (vs := [.slice A0 (l0).length cap0]) (by kernel_rfl) ent22 (c_laws_toPointS hy66 F0) ?_
          rintro _ w67 ⟨A69, cap70, fp71, rfl, F72, G73, hc68⟩
          have D76 : Dj fp13 fp71 := Dj.of F14.low G73
          have D77 : Dj (fp24 ++ fr27) fp71 := Dj.of F25.low G73
          have D78 : Dj fp36 fp71 := Dj.of F37.low G73
          have D79 : Dj (fp49 ++ fr52) fp71 := Dj.of F50.low G73
          replace F0 := F0.chg hc68 Dj.nil
          replace F14 := F14.chg hc68 Dj.nil
          replace F25 := F25.chg hc68 Dj.nil
          replace F37 := F37.chg hc68 Dj.nil
          replace F50 := F50.chg hc68 Dj.nil
          replace hB := hB.inS hc68 inNil
          replace G73 := low_le hZ G73
          replace hZ := Nat.le_trans hZ hc68.size
          refine ⟨.slice A69 (y65).length cap70, rfl, ?_⟩
          obtain ⟨y80, hy81, hm⟩ := bindE hm
          refine wS_calls (d := 54) (f := 24) (vs := [.slice A34 (y30).length cap35, .slice A69 (y65).length cap70]) (by kernel_rfl) ent24 (c_laws_eqPointS hy81 (F37.sl encII_ok) (F72.sl encII_ok)) ?_
          rintro _ w82 ⟨rfl, hc83⟩
          replace F0 := F0.chg hc83 Dj.nil
          replace F14 := F14.chg hc83 Dj.nil
          replace F25 := F25.chg hc83 Dj.nil
          replace F37 := F37.chg hc83 Dj.nil
          replace F50 := F50.chg hc83 Dj.nil
          replace F72 := F72.chg hc83 Dj.nil
          replace hB := hB.inS hc83 inNil
          replace hZ := Nat.le_trans hZ hc83.size
          refine ⟨.bool (y80), rfl, ?_⟩
          refine wS_pure 1 [(55, .bool (!y80))] (by kernel_rfl) ?_
          refine wS_end (by rfl) ?_
          refine eX_then ?_
          refine cW_prune [(0, .slice A0 (l0).length cap0), (4, .slice A22 (y18.1).length cap23), (5, .int .i64 (y18.2.1)), (6, .bool (y18.2.2)), (7, .slice A34 (y30).length cap35), (8, .slice A47 (y43.1).length cap48), (9, .int .i64 (y43.2.1)), (10, .bool (y43.2.2)), (55, .bool (!y80))] (by kernel_rfl) (by kernel_rfl) (fun a84 => ?_)
          refine cW_cond (t := !y80) (by kernel_rfl) (fun hb85 => ?_) (fun hb85 => ?_)
          · have hm := condT hb85 hm
            refine cW_seq ?_
            refine cW_region ?_
            refine wS_pure 1 [(2, .bool (false))] (by kernel_rfl) ?_
            refine wS_end (by rfl) ?_
            refine eX_then ?_
            refine cW_ret ?_
            refine eX_then_ret ?_
            have hq : (some false : Option ((Bool))) = some _ := hm
            replace hq := someE hq
            subst hq
            refine eX_ret (vs := [.bool (false)]) [.tmp 2] (by rfl) ⟨by (show lkE _ _ _ = _); kernel_rfl, trivial⟩ ?_
            exact ⟨rfl, hB⟩
          · have hm := condF hb85 hm
            refine cW_skip ?_
            refine eX_then ?_
            refine cW_seq ?_
            refine cW_region ?_
            refine wS_pure 1 [(11, .int .i64 (1))] (by kernel_rfl) ?_
            refine wS_end (by rfl) ?_
            refine eX_then ?_
            refine cW_seq ?_
            refine cW_region ?_
            refine wS_pure 2 [(57, .int .i64 (1)), (56, .slice A34 (y30).length cap35)] (by kernel_rfl) ?_
            obtain ⟨y86, hy87, hm⟩ := bindE hm
            refine wS_calls (d := 58) (f := 36) (vs := [.slice A34 (y30).length cap35, .int .i64 (1)]) (by kernel_rfl) ent36 (c_laws_markPointS hy87 F37) ?_
            rintro _ w88 ⟨rfl, F90, hl91, hc89⟩
            replace F0 := F0.chg hc89 (Dj.app (Dj.of L0 G38) Dj.nil)
            replace F14 := F14.chg hc89 (Dj.app D41 Dj.nil)
            replace F25 := F25.chg hc89 (Dj.app D42 Dj.nil)
            replace F50 := F50.chg hc89 (Dj.app (D56).symm Dj.nil)
            replace F72 := F72.chg hc89 (Dj.app (D78).symm Dj.nil)
            replace hB := hB.inS hc89 (inApp (inLow G38) inNil)
            replace hZ := Nat.le_trans hZ hc89.size
            clear F37
            refine ⟨.int .i64 (y86.1), rfl, ?_⟩
            rewrite [(show (y30).length = (y86.2).length from hl91.symm)]
            refine wS_pure 1 [(11, .int .i64 (y86.1))] (by kernel_rfl) ?_
            refine wS_end (by rfl) ?_
            refine eX_then ?_
            refine cW_seq ?_
            refine cW_seq ?_
            refine cW_region ?_
            refine wS_pure 3 [(61, .bool (decide (y86.1 < 0))), (60, .bool (decide (y86.1 < 0))), (59, .int .i64 (y86.1))] (by kernel_rfl) ?_
            refine wS_bool (decide (y86.1 < 0)) (fun hb92 => ?_) (fun hb92 => ?_)
            · have hm := condT hb92 hm
              rewrite [hb92]
              refine wS_pure 15 [(76, .bool (true)), (75, undef), (74, undef), (73, undef), (72, .bool (true)), (71, .bool (true)), (70, undef), (69, undef), (68, undef), (67, .bool (true)), (66, .bool (true)), (65, undef), (64, undef), (63, undef), (62, undef)] (by kernel_rfl) ?_
              refine wS_end (by rfl) ?_
              refine eX_then ?_
              refine cW_prune [(0, .slice A0 (l0).length cap0), (4, .slice A22 (y18.1).length cap23), (5, .int .i64 (y18.2.1)), (6, .bool (y18.2.2)), (8, .slice A47 (y43.1).length cap48), (76, .bool (true))] (by kernel_rfl) (by kernel_rfl) (fun a93 => ?_)
              refine cW_cond_t (by kernel_rfl) ?_
              refine cW_seq ?_
              refine cW_region ?_
              refine wS_pure 1 [(2, .bool (false))] (by kernel_rfl) ?_
              refine wS_end (by rfl) ?_
              refine eX_then ?_
              refine cW_ret ?_
              refine eX_then_ret ?_
              have hq : (some false : Option ((Bool))) = some _ := hm
              replace hq := someE hq
              subst hq
              refine eX_ret (vs := [.bool (false)]) [.tmp 2] (by rfl) ⟨by (show lkE _ _ _ = _); kernel_rfl, trivial⟩ ?_
              exact ⟨rfl, hB⟩
            · have hm := condF hb92 hm
              rewrite [hb92]
              refine wS_pure 2 [(63, .slice A22 (y18.1).length cap23), (62, .slice A47 (y43.1).length cap48)] (by kernel_rfl) ?_
              obtain ⟨y94, hy95, hm⟩ := bindE hm
              refine wS_calls (d := 64) (f := 55) (vs := [.slice A47 (y43.1).length cap48, .slice A22 (y18.1).length cap23]) (by kernel_rfl) ent55 (c_laws_eqInt64SS hy95 (F50.slr encI_ok) (F25.slr encI_ok)) ?_
              rintro _ w96 ⟨rfl, hc97⟩
              replace F0 := F0.chg hc97 Dj.nil
              replace F14 := F14.chg hc97 Dj.nil
              replace F25 := F25.chg hc97 Dj.nil
              replace F90 := F90.chg hc97 Dj.nil
              replace F50 := F50.chg hc97 Dj.nil
              replace F72 := F72.chg hc97 Dj.nil
              replace hB := hB.inS hc97 inNil
              replace hZ := Nat.le_trans hZ hc97.size
              refine ⟨.bool (y94), rfl, ?_⟩
              refine wS_pure 3 [(67, .bool (!y94)), (66, .bool (!y94)), (65, .bool (!y94))] (by kernel_rfl) ?_
              refine wS_bool (!y94) (fun hb98 => ?_) (fun hb98 => ?_)
              · have hm := condT hb98 hm
                rewrite [hb98]
                refine wS_pure 9 [(76, .bool (true)), (75, undef), (74, undef), (73, undef), (72, .bool (true)), (71, .bool (true)), (70, undef), (69, undef), (68, undef)] (by kernel_rfl) ?_
                refine wS_end (by rfl) ?_
                refine eX_then ?_
                refine cW_prune [(0, .slice A0 (l0).length cap0), (4, .slice A22 (y18.1).length cap23), (5, .int .i64 (y18.2.1)), (6, .bool (y18.2.2)), (8, .slice A47 (y43.1).length cap48), (76, .bool (true))] (by kernel_rfl) (by kernel_rfl) (fun a99 => ?_)
                refine cW_cond_t (by kernel_rfl) ?_
                refine cW_seq ?_
                refine cW_region ?_
                refine wS_pure 1 [(2, .bool (false))] (by kernel_rfl) ?_
                refine wS_end (by rfl) ?_
                refine eX_then ?_
                refine cW_ret ?_
                refine eX_then_ret ?_
                have hq : (some false : Option ((Bool))) = some _ := hm
                replace hq := someE hq
                subst hq
                refine eX_ret (vs := [.bool (false)]) [.tmp 2] (by rfl) ⟨by (show lkE _ _ _ = _); kernel_rfl, trivial⟩ ?_
                exact ⟨rfl, hB⟩
              · have hm := condF hb98 hm
                rewrite [hb98]
                refine wS_pure 5 [(72, .bool (y43.2.1 != y18.2.1)), (71, .bool (y43.2.1 != y18.2.1)), (70, .bool (y43.2.1 != y18.2.1)), (69, .int .i64 (y18.2.1)), (68, .int .i64 (y43.2.1))] (by kernel_rfl) ?_
                refine wS_bool (y43.2.1 != y18.2.1) (fun hb100 => ?_) (fun hb100 => ?_)
                · have hm := condT hb100 hm
                  rewrite [hb100]
                  refine wS_pure 4 [(76, .bool (true)), (75, undef), (74, undef), (73, undef)] (by kernel_rfl) ?_
                  refine wS_end (by rfl) ?_
                  refine eX_then ?_
                  refine cW_prune [(0, .slice A0 (l0).length cap0), (4, .slice A22 (y18.1).length cap23), (5, .int .i64 (y18.2.1)), (6, .bool (y18.2.2)), (8, .slice A47 (y43.1).length cap48), (76, .bool (true))] (by kernel_rfl) (by kernel_rfl) (fun a101 => ?_)
                  refine cW_cond_t (by kernel_rfl) ?_
                  refine cW_seq ?_
                  refine cW_region ?_
                  refine wS_pure 1 [(2, .bool (false))] (by kernel_rfl) ?_
                  refine wS_end (by rfl) ?_
                  refine eX_then ?_
                  refine cW_ret ?_
                  refine eX_then_ret ?_
                  have hq : (some false : Option ((Bool))) = some _ := hm
                  replace hq := someE hq
                  subst hq
                  refine eX_ret (vs := [.bool (false)]) [.tmp 2] (by rfl) ⟨by (show lkE _ _ _ = _); kernel_rfl, trivial⟩ ?_
                  exact ⟨rfl, hB⟩
                · have hm := condF hb100 hm
                  rewrite [hb100]
                  refine wS_pure 4 [(76, .bool (!(y43.2.2 == y18.2.2))), (75, .bool (!(y43.2.2 == y18.2.2))), (74, .bool (y18.2.2)), (73, .bool (y43.2.2))] (by kernel_rfl) ?_
                  refine wS_end (by rfl) ?_
                  refine eX_then ?_
                  refine cW_prune [(0, .slice A0 (l0).length cap0), (4, .slice A22 (y18.1).length cap23), (5, .int .i64 (y18.2.1)), (6, .bool (y18.2.2)), (8, .slice A47 (y43.1).length cap48), (76, .bool (!(y43.2.2 == y18.2.2)))] (by kernel_rfl) (by kernel_rfl) (fun a102 => ?_)
                  refine cW_cond (t := !(y43.2.2 == y18.2.2)) (by kernel_rfl) (fun hb103 => ?_) (fun hb103 => ?_)
                  · have hm := condT hb103 hm
                    refine cW_seq ?_
                    refine cW_region ?_
                    refine wS_pure 1 [(2, .bool (false))] (by kernel_rfl) ?_
                    refine wS_end (by rfl) ?_
                    refine eX_then ?_
                    refine cW_ret ?_
                    refine eX_then_ret ?_
                    have hq : (some false : Option ((Bool))) = some _ := hm
                    replace hq := someE hq
                    subst hq
                    refine eX_ret (vs := [.bool (false)]) [.tmp 2] (by rfl) ⟨by (show lkE _ _ _ = _); kernel_rfl, trivial⟩ ?_
                    exact ⟨rfl, hB⟩
                  · have hm := condF hb103 hm
                    refine cW_skip ?_
                    refine eX_then ?_
                    refine cW_seq ?_
                    refine cW_region ?_
                    refine wS_pure 1 [(12, .int .i64 (1))] (by kernel_rfl) ?_
                    refine wS_end (by rfl) ?_
                    refine eX_then ?_
                    refine cW_seq ?_
                    refine cW_region ?_
                    refine wS_pure 2 [(78, .int .i64 (1)), (77, .slice A47 (y43.1).length cap48)] (by kernel_rfl) ?_
                    obtain ⟨y104, hy105, hm⟩ := bindE hm
                    refine wS_calls (d := 79) (f := 56) (vs := [.slice A47 (y43.1).length cap48, .int .i64 (1)]) (by kernel_rfl) ent56 (c_laws_markInt64SS hy105 F50) ?_
                    rintro _ w106 ⟨rfl, F108, hl109, hc107⟩
                    replace F0 := F0.chg hc107 (Dj.app (Dj.of L0 G51) Dj.nil)
                    replace F14 := F14.chg hc107 (Dj.app D54 Dj.nil)
                    replace F25 := F25.chg hc107 (Dj.app D55 Dj.nil)
                    replace F90 := F90.chg hc107 (Dj.app D56 Dj.nil)
                    replace F72 := F72.chg hc107 (Dj.app (D79).symm Dj.nil)
                    replace hB := hB.inS hc107 (inApp (inLow G51) inNil)
                    replace hZ := Nat.le_trans hZ hc107.size
                    clear F50
                    refine ⟨.int .i64 (y104.1), rfl, ?_⟩
                    rewrite [(show (y43.1).length = (y104.2).length from hl109.symm)]
                    refine wS_pure 1 [(12, .int .i64 (y104.1))] (by kernel_rfl) ?_
                    refine wS_end (by rfl) ?_
                    refine eX_then ?_
                    refine cW_seq ?_
                    refine cW_region ?_
                    refine wS_pure 1 [(13, .int .i64 (1))] (by kernel_rfl) ?_
                    refine wS_end (by rfl) ?_
                    refine eX_then ?_
                    refine cW_seq ?_
                    refine cW_region ?_
                    refine wS_pure 2 [(81, .int .i64 (1)), (80, .slice A47 (y104.2).length cap48)] (by kernel_rfl) ?_
                    obtain ⟨y110, hy111, hm⟩ := bindE hm
                    refine wS_calls (d := 82) (f := 57) (vs := [.slice A47 (y104.2).length cap48, .int .i64 (1)]) (by kernel_rfl) ent57 (c_laws_heldInt64SS hy111 (F108.slr encI_ok)) ?_
                    rintro _ w112 ⟨rfl, hc113⟩
                    replace F0 := F0.chg hc113 Dj.nil
                    replace F14 := F14.chg hc113 Dj.nil
                    replace F25 := F25.chg hc113 Dj.nil
                    replace F90 := F90.chg hc113 Dj.nil
                    replace F108 := F108.chg hc113 Dj.nil
                    replace F72 := F72.chg hc113 Dj.nil
                    replace hB := hB.inS hc113 inNil
                    replace hZ := Nat.le_trans hZ hc113.size
                    refine ⟨.int .i64 (y110), rfl, ?_⟩
                    refine wS_pure 1 [(13, .int .i64 (y110))] (by kernel_rfl) ?_
                    refine wS_end (by rfl) ?_
                    refine eX_then ?_
                    refine cW_seq ?_
                    refine cW_seq ?_
                    refine cW_region ?_
                    refine wS_pure 2 [(84, .bool (decide (y110 < 0))), (83, .int .i64 (y110))] (by kernel_rfl) ?_
                    refine wS_end (by rfl) ?_
                    refine eX_then ?_
                    refine cW_cond (t := decide (y110 < 0)) (by kernel_rfl) (fun hb114 => ?_) (fun hb114 => ?_)
                    · have hm := condT hb114 hm
                      refine cW_seq ?_
                      refine cW_region ?_
                      refine wS_pure 1 [(2, .bool (false))] (by kernel_rfl) ?_
                      refine wS_end (by rfl) ?_
                      refine eX_then ?_
                      refine cW_ret ?_
                      refine eX_then_ret ?_
                      have hq : (some false : Option ((Bool))) = some _ := hm
                      replace hq := someE hq
                      subst hq
                      refine eX_ret (vs := [.bool (false)]) [.tmp 2] (by rfl) ⟨by (show lkE _ _ _ = _); kernel_rfl, trivial⟩ ?_
                      exact ⟨rfl, hB⟩
                    · have hm := condF hb114 hm
                      refine cW_skip ?_
                      refine eX_then ?_
                      refine cW_seq ?_
                      refine cW_seq ?_
                      refine cW_region ?_
                      refine wS_pure 3 [(87, .bool (y110 != y104.1)), (86, .int .i64 (y104.1)), (85, .int .i64 (y110))] (by kernel_rfl) ?_
                      refine wS_end (by rfl) ?_
                      refine eX_then ?_
                      refine cW_cond (t := y110 != y104.1) (by kernel_rfl) (fun hb115 => ?_) (fun hb115 => ?_)
                      · have hm := condT hb115 hm
                        refine cW_seq ?_
                        refine cW_region ?_
                        refine wS_pure 1 [(2, .bool (false))] (by kernel_rfl) ?_
                        refine wS_end (by rfl) ?_
                        refine eX_then ?_
                        refine cW_ret ?_
                        refine eX_then_ret ?_
                        have hq : (some false : Option ((Bool))) = some _ := hm
                        replace hq := someE hq
                        subst hq
                        refine eX_ret (vs := [.bool (false)]) [.tmp 2] (by rfl) ⟨by (show lkE _ _ _ = _); kernel_rfl, trivial⟩ ?_
                        exact ⟨rfl, hB⟩
                      · have hm := condF hb115 hm
                        refine cW_skip ?_
                        refine eX_then ?_
                        refine cW_seq ?_
                        refine cW_region ?_
                        refine wS_pure 1 [(89, .slice A0 (l0).length cap0)] (by kernel_rfl) ?_
                        obtain ⟨y116, hy117, hm⟩ := bindE hm
                        refine wS_calls (d := 90) (f := 22) (vs := [.slice A0 (l0).length cap0]) (by kernel_rfl) ent22 (c_laws_toPointS hy117 F0) ?_
                        rintro _ w118 ⟨A120, cap121, fp122, rfl, F123, G124, hc119⟩
                        have D127 : Dj fp13 fp122 := Dj.of F14.low G124
                        have D128 : Dj (fp24 ++ fr27) fp122 := Dj.of F25.low G124
                        have D129 : Dj fp36 fp122 := Dj.of F90.low G124
                        have D130 : Dj (fp49 ++ fr52) fp122 := Dj.of F108.low G124
                        have D131 : Dj fp71 fp122 := Dj.of F72.low G124
                        replace F0 := F0.chg hc119 Dj.nil
                        replace F14 := F14.chg hc119 Dj.nil
                        replace F25 := F25.chg hc119 Dj.nil
                        replace F90 := F90.chg hc119 Dj.nil
                        replace F108 := F108.chg hc119 Dj.nil
                        replace F72 := F72.chg hc119 Dj.nil
                        replace hB := hB.inS hc119 inNil
                        replace G124 := low_le hZ G124
                        replace hZ := Nat.le_trans hZ hc119.size
                        refine ⟨.slice A120 (y116).length cap121, rfl, ?_⟩
                        obtain ⟨y132, hy133, hm⟩ := bindE hm
                        refine wS_calls (d := 91) (f := 54) (vs := [.slice A120 (y116).length cap121]) (by kernel_rfl) ent54 (c_impl_SpanningTree hy133 (F123.sl encII_ok)) ?_
                        rintro _ w134 ⟨A136, cap137, fp138, fr141, rfl, F139, G140, hc135⟩
                        have D143 : Dj fp13 (fp138 ++ fr141) := Dj.of F14.low G140
                        have D144 : Dj (fp24 ++ fr27) (fp138 ++ fr141) := Dj.of F25.low G140
                        have D145 : Dj fp36 (fp138 ++ fr141) := Dj.of F90.low G140
                        have D146 : Dj (fp49 ++ fr52) (fp138 ++ fr141) := Dj.of F108.low G140
                        have D147 : Dj fp71 (fp138 ++ fr141) := Dj.of F72.low G140
                        have D148 : Dj fp122 (fp138 ++ fr141) := Dj.of F123.low G140
                        replace F0 := F0.chg hc135 Dj.nil
                        replace F14 := F14.chg hc135 Dj.nil
                        replace F25 := F25.chg hc135 Dj.nil
                        replace F90 := F90.chg hc135 Dj.nil
                        replace F108 := F108.chg hc135 Dj.nil
                        replace F72 := F72.chg hc135 Dj.nil
                        replace F123 := F123.chg hc135 Dj.nil
                        replace hB := hB.inS hc135 inNil
                        replace G140 := low_le hZ G140
                        replace hZ := Nat.le_trans hZ hc135.size
                        refine ⟨.tuple #[.slice A136 (y132.1).length cap137, .int .i64 (y132.2.1), .bool (y132.2.2)], rfl, ?_⟩
                        refine wS_pure 7 [(16, .bool (y132.2.2)), (15, .int .i64 (y132.2.1)), (14, .slice A136 (y132.1).length cap137), (94, .bool (y132.2.2)), (93, .int .i64 (y132.2.1)), (92, .slice A136 (y132.1).length cap137), (88, .tuple #[.slice A136 (y132.1).length cap137, .int .i64 (y132.2.1), .bool (y132.2.2)])] (by kernel_rfl) ?_
                        refine wS_end (by rfl) ?_
                        refine eX_then ?_
                        refine cW_prune [(4, .slice A22 (y18.1).length cap23), (5, .int .i64 (y18.2.1)), (6, .bool (y18.2.2)), (8, .slice A47 (y104.2).length cap48), (12, .int .i64 (y104.1)), (14, .slice A136 (y132.1).length cap137), (15, .int .i64 (y132.2.1)), (16, .bool (y132.2.2))] (by kernel_rfl) (by kernel_rfl) (fun a149 => ?_)
                        refine cW_seq ?_
                        refine cW_seq ?_
                        refine cW_region ?_
                        refine wS_pure 2 [(96, .slice A22 (y18.1).length cap23), (95, .slice A136 (y132.1).length cap137)] (by kernel_rfl) ?_
                        obtain ⟨y150, hy151, hm⟩ := bindE hm
                        refine wS_calls (d := 97) (f := 55) (vs := [.slice A136 (y132.1).length cap137, .slice A22 (y18.1).length cap23]) (by kernel_rfl) ent55 (c_laws_eqInt64SS hy151 (F139.slr encI_ok) (F25.slr encI_ok)) ?_
                        rintro _ w152 ⟨rfl, hc153⟩
                        replace F0 := F0.chg hc153 Dj.nil
                        replace F14 := F14.chg hc153 Dj.nil
                        replace F25 := F25.chg hc153 Dj.nil
                        replace F90 := F90.chg hc153 Dj.nil
                        replace F108 := F108.chg hc153 Dj.nil
                        replace F72 := F72.chg hc153 Dj.nil
                        replace F123 := F123.chg hc153 Dj.nil
                        replace F139 := F139.chg hc153 Dj.nil
                        replace hB := hB.inS hc153 inNil
                        replace hZ := Nat.le_trans hZ hc153.size
                        refine ⟨.bool (y150), rfl, ?_⟩
                        refine wS_pure 2 [(99, .bool (!y150)), (98, .bool (!y150))] (by kernel_rfl) ?_
                        refine wS_bool (!y150) (fun hb154 => ?_) (fun hb154 => ?_)
                        · have hm := condT hb154 hm
                          rewrite [hb154]
                          refine wS_pure 9 [(108, .bool (true)), (107, undef), (106, undef), (105, undef), (104, .bool (true)), (103, .bool (true)), (102, undef), (101, undef), (100, undef)] (by kernel_rfl) ?_
                          refine wS_end (by rfl) ?_
                          refine eX_then ?_
                          refine cW_cond_t (by kernel_rfl) ?_
                          refine cW_seq ?_
                          refine cW_region ?_
                          refine wS_pure 1 [(2, .bool (false))] (by kernel_rfl) ?_
                          refine wS_end (by rfl) ?_
                          refine eX_then ?_
                          refine cW_ret ?_
                          refine eX_then_ret ?_
                          have hq : (some false : Option ((Bool))) = some _ := hm
                          replace hq := someE hq
                          subst hq
                          refine eX_ret (vs := [.bool (false)]) [.tmp 2] (by rfl) ⟨by (show lkE _ _ _ = _); kernel_rfl, trivial⟩ ?_
                          exact ⟨rfl, hB⟩
                        · have hm := condF hb154 hm
                          rewrite [hb154]
                          refine wS_pure 5 [(104, .bool (y132.2.1 != y18.2.1)), (103, .bool (y132.2.1 != y18.2.1)), (102, .bool (y132.2.1 != y18.2.1)), (101, .int .i64 (y18.2.1)), (100, .int .i64 (y132.2.1))] (by kernel_rfl) ?_
                          refine wS_bool (y132.2.1 != y18.2.1) (fun hb155 => ?_) (fun hb155 => ?_)
                          · have hm := condT hb155 hm
                            rewrite [hb155]
                            refine wS_pure 4 [(108, .bool (true)), (107, undef), (106, undef), (105, undef)] (by kernel_rfl) ?_
                            refine wS_end (by rfl) ?_
                            refine eX_then ?_
                            refine cW_cond_t (by kernel_rfl) ?_
                            refine cW_seq ?_
                            refine cW_region ?_
                            refine wS_pure 1 [(2, .bool (false))] (by kernel_rfl) ?_
                            refine wS_end (by rfl) ?_
                            refine eX_then ?_
                            refine cW_ret ?_
                            refine eX_then_ret ?_
                            have hq : (some false : Option ((Bool))) = some _ := hm
                            replace hq := someE hq
                            subst hq
                            refine eX_ret (vs := [.bool (false)]) [.tmp 2] (by rfl) ⟨by (show lkE _ _ _ = _); kernel_rfl, trivial⟩ ?_
                            exact ⟨rfl, hB⟩
                          · have hm := condF hb155 hm
                            rewrite [hb155]
                            refine wS_pure 4 [(108, .bool (!(y132.2.2 == y18.2.2))), (107, .bool (!(y132.2.2 == y18.2.2))), (106, .bool (y18.2.2)), (105, .bool (y132.2.2))] (by kernel_rfl) ?_
                            refine wS_end (by rfl) ?_
                            refine eX_then ?_
                            refine cW_cond (t := !(y132.2.2 == y18.2.2)) (by kernel_rfl) (fun hb156 => ?_) (fun hb156 => ?_)
                            · have hm := condT hb156 hm
                              refine cW_seq ?_
                              refine cW_region ?_
                              refine wS_pure 1 [(2, .bool (false))] (by kernel_rfl) ?_
                              refine wS_end (by rfl) ?_
                              refine eX_then ?_
                              refine cW_ret ?_
                              refine eX_then_ret ?_
                              have hq : (some false : Option ((Bool))) = some _ := hm
                              replace hq := someE hq
                              subst hq
                              refine eX_ret (vs := [.bool (false)]) [.tmp 2] (by rfl) ⟨by (show lkE _ _ _ = _); kernel_rfl, trivial⟩ ?_
                              exact ⟨rfl, hB⟩
                            · have hm := condF hb156 hm
                              refine cW_skip ?_
                              refine eX_then ?_
                              refine cW_seq ?_
                              refine cW_region ?_
                              refine wS_pure 1 [(13, .int .i64 (1))] (by kernel_rfl) ?_
                              refine wS_end (by rfl) ?_
                              refine eX_then ?_
                              refine cW_seq ?_
                              refine cW_region ?_
                              refine wS_pure 2 [(110, .int .i64 (1)), (109, .slice A47 (y104.2).length cap48)] (by kernel_rfl) ?_
                              obtain ⟨y157, hy158, hm⟩ := bindE hm
                              refine wS_calls (d := 111) (f := 57) (vs := [.slice A47 (y104.2).length cap48, .int .i64 (1)]) (by kernel_rfl) ent57 (c_laws_heldInt64SS hy158 (F108.slr encI_ok)) ?_
                              rintro _ w159 ⟨rfl, hc160⟩
                              replace F0 := F0.chg hc160 Dj.nil
                              replace F14 := F14.chg hc160 Dj.nil
                              replace F25 := F25.chg hc160 Dj.nil
                              replace F90 := F90.chg hc160 Dj.nil
                              replace F108 := F108.chg hc160 Dj.nil
                              replace F72 := F72.chg hc160 Dj.nil
                              replace F123 := F123.chg hc160 Dj.nil
                              replace F139 := F139.chg hc160 Dj.nil
                              replace hB := hB.inS hc160 inNil
                              replace hZ := Nat.le_trans hZ hc160.size
                              refine ⟨.int .i64 (y157), rfl, ?_⟩
                              refine wS_pure 1 [(13, .int .i64 (y157))] (by kernel_rfl) ?_
                              refine wS_end (by rfl) ?_
                              refine eX_then ?_
                              refine cW_prune [(12, .int .i64 (y104.1)), (13, .int .i64 (y157))] (by kernel_rfl) (by kernel_rfl) (fun a161 => ?_)
                              refine cW_seq ?_
                              refine cW_seq ?_
                              refine cW_region ?_
                              refine wS_pure 2 [(113, .bool (decide (y157 < 0))), (112, .int .i64 (y157))] (by kernel_rfl) ?_
                              refine wS_end (by rfl) ?_
                              refine eX_then ?_
                              refine cW_cond (t := decide (y157 < 0)) (by kernel_rfl) (fun hb162 => ?_) (fun hb162 => ?_)
                              · have hm := condT hb162 hm
                                refine cW_seq ?_
                                refine cW_region ?_
                                refine wS_pure 1 [(2, .bool (false))] (by kernel_rfl) ?_
                                refine wS_end (by rfl) ?_
                                refine eX_then ?_
                                refine cW_ret ?_
                                refine eX_then_ret ?_
                                have hq : (some false : Option ((Bool))) = some _ := hm
                                replace hq := someE hq
                                subst hq
                                refine eX_ret (vs := [.bool (false)]) [.tmp 2] (by rfl) ⟨by (show lkE _ _ _ = _); kernel_rfl, trivial⟩ ?_
                                exact ⟨rfl, hB⟩
                              · have hm := condF hb162 hm
                                refine cW_skip ?_
                                refine eX_then ?_
                                refine cW_seq ?_
                                refine cW_seq ?_
                                refine cW_region ?_
                                refine wS_pure 3 [(116, .bool (y157 != y104.1)), (115, .int .i64 (y104.1)), (114, .int .i64 (y157))] (by kernel_rfl) ?_
                                refine wS_end (by rfl) ?_
                                refine eX_then ?_
                                refine cW_cond (t := y157 != y104.1) (by kernel_rfl) (fun hb163 => ?_) (fun hb163 => ?_)
                                · have hm := condT hb163 hm
                                  refine cW_seq ?_
                                  refine cW_region ?_
                                  refine wS_pure 1 [(2, .bool (false))] (by kernel_rfl) ?_
                                  refine wS_end (by rfl) ?_
                                  refine eX_then ?_
                                  refine cW_ret ?_
                                  refine eX_then_ret ?_
                                  have hq : (some false : Option ((Bool))) = some _ := hm
                                  replace hq := someE hq
                                  subst hq
                                  refine eX_ret (vs := [.bool (false)]) [.tmp 2] (by rfl) ⟨by (show lkE _ _ _ = _); kernel_rfl, trivial⟩ ?_
                                  exact ⟨rfl, hB⟩
                                · have hm := condF hb163 hm
                                  refine cW_skip ?_
                                  refine eX_then ?_
                                  refine cW_seq ?_
                                  refine cW_region ?_
                                  refine wS_pure 1 [(2, .bool (true))] (by kernel_rfl) ?_
                                  refine wS_end (by rfl) ?_
                                  refine eX_then ?_
                                  refine cW_ret ?_
                                  have hq : (some true : Option ((Bool))) = some _ := hm
                                  replace hq := someE hq
                                  subst hq
                                  refine eX_ret (vs := [.bool (true)]) [.tmp 2] (by rfl) ⟨by (show lkE _ _ _ = _); kernel_rfl, trivial⟩ ?_
                                  exact ⟨rfl, hB⟩

end Go.Proofs.Ytdkpfkmmblmlhaa
