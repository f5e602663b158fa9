/- Printed walks: impl.through, impl.PathThrough, impl.RiverLength$1, impl.riverSum, impl.RiverLength, impl.RiverBends$1, impl.riverSum, impl.RiverBends, impl.AreApart, laws.FnRivers. -/
import Derived.Test.YtgaecldkiijmpaaProg
import Derived.Test.YtgaecldkiijmpaaWRv01
set_option linter.unusedSimpArgs false
set_option linter.unusedVariables false
namespace Go.Proofs.Ytgaecldkiijmpaa
open Go.RowKit
attribute [local irreducible] wS cW eX wH

theorem ent11 : Ent Try.prog 11 := fun _ => by kernel_rfl
theorem ent12 : Ent Try.prog 12 := fun _ => by kernel_rfl
theorem ent13 : Ent Try.prog 13 := fun _ => by kernel_rfl
theorem ent14 : Ent Try.prog 14 := fun _ => by kernel_rfl
theorem ent17 : Ent Try.prog 17 := fun _ => by kernel_rfl
theorem ent18 : Ent Try.prog 18 := fun _ => by kernel_rfl
theorem ent19 : Ent Try.prog 19 := fun _ => by kernel_rfl
theorem ent20 : Ent Try.prog 20 := fun _ => by kernel_rfl
theorem ent21 : Ent Try.prog 21 := fun _ => by kernel_rfl
theorem ent74 : Ent Try.prog 74 := fun _ => by kernel_rfl
theorem ent76 : Ent Try.prog 76 := fun _ => by kernel_rfl
theorem ent77 : Ent Try.prog 77 := fun _ => by kernel_rfl
theorem ent78 : Ent Try.prog 78 := fun _ => by kernel_rfl
theorem ent138 : Ent Try.prog 138 := fun _ => by kernel_rfl
theorem ent139 : Ent Try.prog 139 := fun _ => by kernel_rfl
theorem sl31 : SlTy Try.prog 31 32 1 := ⟨Try.underlying31, by kernel_rfl⟩
theorem el31 : ElTy Try.prog 31 32 1 (.slice none 0 0) := ElTy.mk' Try.underlying31 (by kernel_rfl) (by rfl)

set_option maxRecDepth 100000 in
/-- impl.through -/
theorem c_impl_through {w0 : World} {l0 : List (Int × Int)} {A0 : Option Addr} {cap0 : Nat} {fp0 : List Nat} {r : (List (Int × Int)) × (Bool)} (hm : m_impl_through l0 = some r) (F0 : Sl 2 encII w0 fp0 A0 l0) (K0 : (l0).length ≤ cap0) :
    Calls Try.prog 74 #[.slice A0 (l0).length cap0] w0 fun e w' => ∃ A100 cap100 fp100, e = .returned (.tuple #[.slice A100 (r.1).length cap100, .bool (r.2)]) ∧ Mx 2 encII 37 w' fp0 fp100 A100 cap100 r.1 ∧ (∀ x ∈ fp100, w0.heap.size ≤ x) ∧ Chg [] w0 w' := by
  have L0 := F0.low
  have hB : Chg [] w0 w0 := Chg.refl _ _
  have hZ := Nat.le_refl w0.heap.size
  unfold m_impl_through at hm
  refine enterE (N := 73) Try.func74 (by rfl) Try.ntmps74 (by simp) [(0, .slice A0 (l0).length cap0)] (by rfl) (by kernel_rfl) (fun a => ?_)
  refine cW_seq ?_
  refine cW_region ?_
  refine wS_pure 2 [(3, .bool (false)), (2, .slice none 0 0)] (by kernel_rfl) ?_
  refine wS_end (by rfl) ?_
  refine eX_then ?_
  refine cW_seq ?_
  refine cW_seq ?_
  refine cW_region ?_
  refine wS_pure 4 [(11, .bool ((((l0).length : Int)) == 0)), (10, .bool ((((l0).length : Int)) == 0)), (9, .int .i64 (((l0).length : Int))), (8, .slice A0 (l0).length cap0)] (by kernel_rfl) ?_
  refine wS_bool ((((l0).length : Int)) == 0) (fun hb2 => ?_) (fun hb2 => ?_)
  · have hm := condT hb2 hm
    rewrite [hb2]
    refine wS_pure 8 [(19, .bool (true)), (18, undef), (17, undef), (16, .bool (true)), (15, .bool (true)), (14, undef), (13, undef), (12, undef)] (by kernel_rfl) ?_
    refine wS_end (by rfl) ?_
    refine eX_then ?_
    refine cW_cond_t (by kernel_rfl) ?_
    refine cW_seq ?_
    refine cW_region ?_
    refine wS_pure 2 [(3, .bool (false)), (2, .slice none 0 0)] (by kernel_rfl) ?_
    refine wS_end (by rfl) ?_
    refine eX_then ?_
    refine cW_ret ?_
    refine eX_then_ret ?_
    have hq : (some (([], false)) : Option ((List (Int × Int)) × (Bool))) = some _ := hm
    replace hq := someE hq
    subst hq
    refine eX_ret (vs := [.slice none 0 0, .bool (false)]) [.tmp 2, .tmp 3] (by rfl) ⟨by (show lkE _ _ _ = _); kernel_rfl, ⟨by (show lkE _ _ _ = _); kernel_rfl, trivial⟩⟩ ?_
    exact ⟨none, 0, [], rfl, (Mx.nil F0.low), lowNil, hB⟩
  · have hm := condF hb2 hm
    rewrite [hb2]
    refine wS_pure 5 [(16, .bool (decide ((((l0).length : Int)) > 576))), (15, .bool (decide ((((l0).length : Int)) > 576))), (14, .bool (decide ((((l0).length : Int)) > 576))), (13, .int .i64 (((l0).length : Int))), (12, .slice A0 (l0).length cap0)] (by kernel_rfl) ?_
    refine wS_bool (decide ((((l0).length : Int)) > 576)) (fun hb3 => ?_) (fun hb3 => ?_)
    · have hm := condT hb3 hm
      rewrite [hb3]
      refine wS_pure 3 [(19, .bool (true)), (18, undef), (17, undef)] (by kernel_rfl) ?_
      refine wS_end (by rfl) ?_
      refine eX_then ?_
      refine cW_cond_t (by kernel_rfl) ?_
      refine cW_seq ?_
      refine cW_region ?_
      refine wS_pure 2 [(3, .bool (false)), (2, .slice none 0 0)] (by kernel_rfl) ?_
      refine wS_end (by rfl) ?_
      refine eX_then ?_
      refine cW_ret ?_
      refine eX_then_ret ?_
      have hq : (some (([], false)) : Option ((List (Int × Int)) × (Bool))) = some _ := hm
      replace hq := someE hq
      subst hq
      refine eX_ret (vs := [.slice none 0 0, .bool (false)]) [.tmp 2, .tmp 3] (by rfl) ⟨by (show lkE _ _ _ = _); kernel_rfl, ⟨by (show lkE _ _ _ = _); kernel_rfl, trivial⟩⟩ ?_
      exact ⟨none, 0, [], rfl, (Mx.nil F0.low), lowNil, hB⟩
    · have hm := condF hb3 hm
      rewrite [hb3]
      refine wS_pure 1 [(17, .slice A0 (l0).length cap0)] (by kernel_rfl) ?_
      obtain ⟨y4, hy5, hm⟩ := bindE hm
      refine wS_calls (d := 18) (f := 136) (vs := [.slice A0 (l0).length cap0, .func (.func 137) #[] #[]]) (by kernel_rfl) ent136 (c_slices_ContainsFunc_impl_Point_impl_Point_impl_noPoint hy5 F0) ?_
      rintro _ w6 ⟨rfl, hc7⟩
      replace F0 := F0.chg hc7 Dj.nil
      replace hB := hB.inS hc7 inNil
      replace hZ := Nat.le_trans hZ hc7.size
      refine ⟨.bool (y4), rfl, ?_⟩
      refine wS_pure 1 [(19, .bool (y4))] (by kernel_rfl) ?_
      refine wS_end (by rfl) ?_
      refine eX_then ?_
      refine cW_cond (t := y4) (by kernel_rfl) (fun hb8 => ?_) (fun hb8 => ?_)
      · have hm := condT hb8 hm
        refine cW_seq ?_
        refine cW_region ?_
        refine wS_pure 2 [(3, .bool (false)), (2, .slice none 0 0)] (by kernel_rfl) ?_
        refine wS_end (by rfl) ?_
        refine eX_then ?_
        refine cW_ret ?_
        refine eX_then_ret ?_
        have hq : (some (([], false)) : Option ((List (Int × Int)) × (Bool))) = some _ := hm
        replace hq := someE hq
        subst hq
        refine eX_ret (vs := [.slice none 0 0, .bool (false)]) [.tmp 2, .tmp 3] (by rfl) ⟨by (show lkE _ _ _ = _); kernel_rfl, ⟨by (show lkE _ _ _ = _); kernel_rfl, trivial⟩⟩ ?_
        exact ⟨none, 0, [], rfl, (Mx.nil F0.low), lowNil, hB⟩
      · have hm := condF hb8 hm
        refine cW_skip ?_
        refine eX_then ?_
        refine cW_seq ?_
        refine cW_region ?_
        refine wS_pure 1 [(20, .slice A0 (l0).length cap0)] (by kernel_rfl) ?_
        obtain ⟨y9, hy10, hm⟩ := bindE hm
        refine wS_slice3v (enc := encII) (U := 37) (l := l0) (d := 21) (T := 32) (A := A0) (cap := cap0) (hi := 1) (by kernel_rfl) sl32 F0 K0 hy10 ?_
        intro F11
        refine wS_pure 1 [(4, .slice A0 (y9).length (y9).length)] (by kernel_rfl) ?_
        refine wS_end (by rfl) ?_
        refine eX_then ?_
        refine cW_seq ?_
        refine cW_seq ?_
        refine cW_region ?_
        refine wS_pure 1 [(5, .int .i64 (1))] (by kernel_rfl) ?_
        refine wS_end (by rfl) ?_
        refine eX_then ?_
        obtain ⟨r545, hr546, hm⟩ := bindE hm
        have hm547 := hm
        refine cW_cut (fun a' w' => ∃ l525 : List (Int × Int), ∃ A526 : Option Addr, ∃ cap527 : Nat, ∃ fp528 : List Nat, Sum.inl l525 = r545 ∧ Fr 73 [(0, .slice A0 (l0).length cap0), (4, .slice A526 (l525).length cap527)] a' ∧ Sl 2 encII w' fp0 A0 l0 ∧ Mx 2 encII 37 w' fp0 fp528 A526 cap527 l525 ∧ (∀ x ∈ fp528, w0.heap.size ≤ x) ∧ Chg [] w0 w' ∧ w0.heap.size ≤ w'.heap.size) ?_ ?_
        · refine cW_block ?_
          refine cW_loop _ (fun (s548 : (List (Int × Int)) × Int) a' w' => ∃ l535 : List (Int × Int), ∃ A536 : Option Addr, ∃ cap537 : Nat, ∃ fp538 : List Nat, ∃ x540 : Int, (l535, x540) = s548 ∧ Fr 73 [(0, .slice A0 (l0).length cap0), (4, .slice A536 (l535).length cap537), (5, .int .i64 (x540))] a' ∧ Sl 2 encII w' fp0 A0 l0 ∧ Mx 2 encII 37 w' fp0 fp538 A536 cap537 l535 ∧ (∀ x ∈ fp538, w0.heap.size ≤ x) ∧ Chg [] w0 w' ∧ w0.heap.size ≤ w'.heap.size) hr546 (fun hst => ⟨y9, A0, (y9).length, [], 1, rfl, Fr.of hst (by kernel_rfl), F0, F11, lowNil, hB, hZ⟩) ?_
          rintro _ c549 a' w534 ⟨l535, A536, cap537, fp538, x540, rfl, hF541, F542, F543, G544, hB, hZ⟩ hx550
          refine Fr.goOn hF541 (by kernel_rfl) ?_
          have hm := hx550
          unfold m_impl_through_s1 at hm
          refine cW_seq ?_
          refine cW_seq ?_
          refine cW_region ?_
          refine wS_pure 4 [(25, .bool (decide (x540 < (((l0).length : Int))))), (24, .int .i64 (((l0).length : Int))), (23, .slice A0 (l0).length cap0), (22, .int .i64 (x540))] (by kernel_rfl) ?_
          refine wS_end (by rfl) ?_
          refine eX_then ?_
          refine cW_cond (t := decide (x540 < (((l0).length : Int)))) (by kernel_rfl) (fun hb551 => ?_) (fun hb551 => ?_)
          · have hm := condT hb551 hm
            refine cW_skip ?_
            refine eX_then ?_
            refine cW_seq ?_
            refine cW_block ?_
            refine cW_seq ?_
            obtain ⟨s679, hs680, hm⟩ := bindE hm
            refine cW_cut (fun a' w' => ∃ b661 : Nat, ∃ x662 : Int, ∃ x663 : Int, ∃ b665 : Nat, ∃ x666 : Int, ∃ x667 : Int, (x662, x663, x666, x667) = s679 ∧ Fr 73 [(0, .slice A0 (l0).length cap0), (4, .slice A536 (l535).length cap537), (5, .int .i64 (x540)), (6, .pointer (some ⟨b661, 0, none⟩)), (7, .pointer (some ⟨b665, 0, none⟩))] a' ∧ Sl 2 encII w' fp0 A0 l0 ∧ Mx 2 encII 37 w' fp0 fp538 A536 cap537 l535 ∧ Cl w' b661 37 [.int .i64 (x662), .int .i64 (x663)] ∧ Cl w' b665 37 [.int .i64 (x666), .int .i64 (x667)] ∧ w0.heap.size ≤ b661 ∧ w0.heap.size ≤ b665 ∧ Dj fp538 [b661] ∧ Dj [b665] [b661] ∧ Dj fp538 [b665] ∧ Chg [] w0 w' ∧ w0.heap.size ≤ w'.heap.size) ?_ ?_
            · have hm := hs680
              refine cW_drawnTail [] 12 (by kernel_rfl) (by kernel_rfl) (fun w681 hc682 => ?_)
              replace F542 := F542.chg hc682 Dj.nil
              replace F543 := F543.chg hc682 Dj.nil Dj.nil
              replace hB := hB.inS hc682 inNil
              replace hZ := Nat.le_trans hZ hc682.size
              have hS := Chg.refl [] w681
              have Z683 := F542
              have Z684 := F543
              refine wH_take [0, 1, 2] [2, 1, 0] [(30, .int .i64 (wr (x540 - 1))), (29, .int .i64 (x540)), (28, .slice A0 (l0).length cap0)] (by kernel_rfl) (qT (qT (qT (qB (qT (qL (qB (qT (qT qZ))))))))) (by kernel_rfl) ?_
              obtain ⟨x685, hx686, hm⟩ := bindE hm
              refine wH_idx (i := 3) (d := 31) (T := 32) (A := A0) (n := (l0).length) (cap := cap0) (kd := .i64) (m := wr (x540 - 1)) (by kernel_rfl) (qT (qT (qT (qB (qT (qL (qB (qT (qT qZ))))))))) (by kernel_rfl) (by kernel_rfl) sl32 (F542.is hx686) ?_
              refine wH_loadA (i := 4) (d := 32) (T := 37) (ad := (elA A0 2 (wr (x540 - 1)) 0)) (vs := [.int .i64 (x685.1), .int .i64 (x685.2)]) (by kernel_rfl) (qT (qT (qT (qB (qT (qL (qB (qT (qT qZ))))))))) (by kernel_rfl) (by kernel_rfl) vt37 (fun W hW i u hu => Sl.cells_at (Z683.chg hW Dj.nil) hx686 0 hu (by rfl)) ?_
              refine wH_take [5, 6] [6, 5, 4, 3, 2, 1, 0] [(34, .int .i64 (x540)), (33, .slice A0 (l0).length cap0)] (by kernel_rfl) (qT (qT (qT (qB (qT (qL (qB (qT (qT qZ))))))))) (by kernel_rfl) ?_
              obtain ⟨x687, hx688, hm⟩ := bindE hm
              refine wH_idx (i := 7) (d := 35) (T := 32) (A := A0) (n := (l0).length) (cap := cap0) (kd := .i64) (m := x540) (by kernel_rfl) (qT (qT (qT (qB (qT (qL (qB (qT (qT qZ))))))))) (by kernel_rfl) (by kernel_rfl) sl32 (F542.is hx688) ?_
              refine wH_loadA (i := 8) (d := 36) (T := 37) (ad := (elA A0 2 (x540) 0)) (vs := [.int .i64 (x687.1), .int .i64 (x687.2)]) (by kernel_rfl) (qT (qT (qT (qB (qT (qL (qB (qT (qT qZ))))))))) (by kernel_rfl) (by kernel_rfl) vt37 (fun W hW i u hu => Sl.cells_at (Z683.chg hW Dj.nil) hx688 0 hu (by rfl)) ?_
              refine wH_all [9, 10] (by rfl) (by kernel_rfl) (by simp) ⟨⟨by kernel_rfl, ?_⟩, ⟨by kernel_rfl, ?_⟩, trivial⟩
              · skip
                refine wS_alloc (d := 6) (T := 37) (z := .agg #[.int .i64 (0), .int .i64 (0)]) (by kernel_rfl) (by kernel_rfl) ?_
                intro b689 w690 G691 F692 hc693
                replace F692 : Cl w690 b689 37 [.int .i64 (0), .int .i64 (0)] := F692
                have D695 : Dj fp538 [b689] := Dj.of F543.low (low1 G691)
                replace F542 := F542.chg hc693 Dj.nil
                replace F543 := F543.chg hc693 Dj.nil Dj.nil
                replace hB := hB.inS hc693 inNil
                have hSz := hS
                replace hS := hS.inS hc693 inNil
                have Gz696 := low1 (Nat.le_trans hSz.size G691)
                replace G691 := Nat.le_trans hZ G691
                replace hZ := Nat.le_trans hZ hc693.size
                refine wS_end (by kernel_rfl) ?_
                refine eX_KH hS ?_
                refine wH_all [10] (by rfl) (by kernel_rfl) (by simp) ⟨⟨by kernel_rfl, ?_⟩, trivial⟩
                refine wS_alloc (d := 7) (T := 37) (z := .agg #[.int .i64 (0), .int .i64 (0)]) (by kernel_rfl) (by kernel_rfl) ?_
                intro b697 w698 G699 F700 hc701
                replace F700 : Cl w698 b697 37 [.int .i64 (0), .int .i64 (0)] := F700
                have D703 : Dj fp538 [b697] := Dj.of F543.low (low1 G699)
                have D704 : Dj [b689] [b697] := Dj.of (lt1 F692.lt) (low1 G699)
                replace F542 := F542.chg hc701 Dj.nil
                replace F543 := F543.chg hc701 Dj.nil Dj.nil
                replace F692 := F692.chg hc701 notNil
                replace hB := hB.inS hc701 inNil
                have hSz := hS
                replace hS := hS.inS hc701 inNil
                have Gz705 := low1 (Nat.le_trans hSz.size G699)
                replace G699 := Nat.le_trans hZ G699
                replace hZ := Nat.le_trans hZ hc701.size
                refine wS_end (by kernel_rfl) ?_
                refine eX_KH hS ?_
                refine wH_all [11] (by rfl) (by kernel_rfl) (by simp) ⟨⟨by kernel_rfl, ?_⟩, trivial⟩
                refine wS_store (T := 37) (g := b689) (o := 0) (ad := ⟨b689, 0, none⟩) (v := .agg #[.int .i64 (x685.1), .int .i64 (x685.2)]) (vs := [.int .i64 (x685.1), .int .i64 (x685.2)]) (by kernel_rfl) (by rfl) sz37 (by rfl) (by rfl) F692 (by simp only [List.length_cons, List.length_nil]; omega) ?_
                intro w706 F707 hc708
                replace F542 := F542.chg hc708 (Dj.of L0 (low1 G691))
                replace F543 := F543.chg hc708 (Dj.of L0 (low1 G691)) D695
                replace F700 := F700.chg hc708 (dj1 (D704).symm)
                replace hB := hB.inS hc708 (inLow (low1 G691))
                have hSz := hS
                replace hS := hS.inS hc708 (inLow Gz696)
                replace hZ := Nat.le_trans hZ hc708.size
                replace F707 : Cl w706 b689 37 [.int .i64 (x685.1), .int .i64 (x685.2)] := F707
                clear F692
                refine wS_end (by kernel_rfl) ?_
                refine eX_KH hS ?_
                refine wH_done (by kernel_rfl) ?_
                refine eX_tail ?_
                refine wS_store (T := 37) (g := b697) (o := 0) (ad := ⟨b697, 0, none⟩) (v := .agg #[.int .i64 (x687.1), .int .i64 (x687.2)]) (vs := [.int .i64 (x687.1), .int .i64 (x687.2)]) (by kernel_rfl) (by rfl) sz37 (by rfl) (by rfl) F700 (by simp only [List.length_cons, List.length_nil]; omega) ?_
                intro w709 F710 hc711
                replace F542 := F542.chg hc711 (Dj.of L0 (low1 G699))
                replace F543 := F543.chg hc711 (Dj.of L0 (low1 G699)) D703
                replace F707 := F707.chg hc711 (dj1 D704)
                replace hB := hB.inS hc711 (inLow (low1 G699))
                replace hZ := Nat.le_trans hZ hc711.size
                replace F710 : Cl w709 b697 37 [.int .i64 (x687.1), .int .i64 (x687.2)] := F710
                clear F700
                refine wS_end (by rfl) ?_
                have hq : (some ((x685.1, x685.2, x687.1, x687.2)) : Option (Int × Int × Int × Int)) = some _ := hm
                replace hq := someE hq
                subst hq
                exact eX_J (fun hst => ⟨b689, x685.1, x685.2, b697, x687.1, x687.2, rfl, Fr.of hst (by kernel_rfl), F542, F543, F707, F710, G691, G699, D695, (D704).symm, D703, hB, hZ⟩)
              · skip
                refine wS_alloc (d := 7) (T := 37) (z := .agg #[.int .i64 (0), .int .i64 (0)]) (by kernel_rfl) (by kernel_rfl) ?_
                intro b712 w713 G714 F715 hc716
                replace F715 : Cl w713 b712 37 [.int .i64 (0), .int .i64 (0)] := F715
                have D718 : Dj fp538 [b712] := Dj.of F543.low (low1 G714)
                replace F542 := F542.chg hc716 Dj.nil
                replace F543 := F543.chg hc716 Dj.nil Dj.nil
                replace hB := hB.inS hc716 inNil
                have hSz := hS
                replace hS := hS.inS hc716 inNil
                have Gz719 := low1 (Nat.le_trans hSz.size G714)
                replace G714 := Nat.le_trans hZ G714
                replace hZ := Nat.le_trans hZ hc716.size
                refine wS_end (by kernel_rfl) ?_
                refine eX_KH hS ?_
                refine wH_all [9] (by rfl) (by kernel_rfl) (by simp) ⟨⟨by kernel_rfl, ?_⟩, trivial⟩
                refine wS_alloc (d := 6) (T := 37) (z := .agg #[.int .i64 (0), .int .i64 (0)]) (by kernel_rfl) (by kernel_rfl) ?_
                intro b720 w721 G722 F723 hc724
                replace F723 : Cl w721 b720 37 [.int .i64 (0), .int .i64 (0)] := F723
                have D726 : Dj fp538 [b720] := Dj.of F543.low (low1 G722)
                have D727 : Dj [b712] [b720] := Dj.of (lt1 F715.lt) (low1 G722)
                replace F542 := F542.chg hc724 Dj.nil
                replace F543 := F543.chg hc724 Dj.nil Dj.nil
                replace F715 := F715.chg hc724 notNil
                replace hB := hB.inS hc724 inNil
                have hSz := hS
                replace hS := hS.inS hc724 inNil
                have Gz728 := low1 (Nat.le_trans hSz.size G722)
                replace G722 := Nat.le_trans hZ G722
                replace hZ := Nat.le_trans hZ hc724.size
                refine wS_end (by kernel_rfl) ?_
                refine eX_KH hS ?_
                refine wH_all [11] (by rfl) (by kernel_rfl) (by simp) ⟨⟨by kernel_rfl, ?_⟩, trivial⟩
                refine wS_store (T := 37) (g := b720) (o := 0) (ad := ⟨b720, 0, none⟩) (v := .agg #[.int .i64 (x685.1), .int .i64 (x685.2)]) (vs := [.int .i64 (x685.1), .int .i64 (x685.2)]) (by kernel_rfl) (by rfl) sz37 (by rfl) (by rfl) F723 (by simp only [List.length_cons, List.length_nil]; omega) ?_
                intro w729 F730 hc731
                replace F542 := F542.chg hc731 (Dj.of L0 (low1 G722))
                replace F543 := F543.chg hc731 (Dj.of L0 (low1 G722)) D726
                replace F715 := F715.chg hc731 (dj1 D727)
                replace hB := hB.inS hc731 (inLow (low1 G722))
                have hSz := hS
                replace hS := hS.inS hc731 (inLow Gz728)
                replace hZ := Nat.le_trans hZ hc731.size
                replace F730 : Cl w729 b720 37 [.int .i64 (x685.1), .int .i64 (x685.2)] := F730
                clear F723
                refine wS_end (by kernel_rfl) ?_
                refine eX_KH hS ?_
                refine wH_done (by kernel_rfl) ?_
                refine eX_tail ?_
                refine wS_store (T := 37) (g := b712) (o := 0) (ad := ⟨b712, 0, none⟩) (v := .agg #[.int .i64 (x687.1), .int .i64 (x687.2)]) (vs := [.int .i64 (x687.1), .int .i64 (x687.2)]) (by kernel_rfl) (by rfl) sz37 (by rfl) (by rfl) F715 (by simp only [List.length_cons, List.length_nil]; omega) ?_
                intro w732 F733 hc734
                replace F542 := F542.chg hc734 (Dj.of L0 (low1 G714))
                replace F543 := F543.chg hc734 (Dj.of L0 (low1 G714)) D718
                replace F730 := F730.chg hc734 (dj1 (D727).symm)
                replace hB := hB.inS hc734 (inLow (low1 G714))
                replace hZ := Nat.le_trans hZ hc734.size
                replace F733 : Cl w732 b712 37 [.int .i64 (x687.1), .int .i64 (x687.2)] := F733
                clear F715
                refine wS_end (by rfl) ?_
                have hq : (some ((x685.1, x685.2, x687.1, x687.2)) : Option (Int × Int × Int × Int)) = some _ := hm
                replace hq := someE hq
                subst hq
                exact eX_J (fun hst => ⟨b720, x685.1, x685.2, b712, x687.1, x687.2, rfl, Fr.of hst (by kernel_rfl), F542, F543, F730, F733, G722, G714, D726, D727, D718, hB, hZ⟩)
            · rintro a' w660 ⟨b661, x662, x663, b665, x666, x667, hJ, hF669, F670, F671, F672, F673, G674, G675, D676, D677, D678, hB, hZ⟩
              subst hJ
              refine Fr.goX hF669 (by kernel_rfl) ?_
              refine eX_then ?_
              refine cW_seq ?_
              refine cW_seq ?_
              refine cW_region ?_
              refine wS_loadA (d := 37) (T := 37) (ad := ⟨b661, 0, none⟩) (vs := [.int .i64 (x662), .int .i64 (x663)]) (by kernel_rfl) vt37 (fun i u hu => box_cells F672 0 hu (by rfl)) ?_
              refine wS_loadA (d := 38) (T := 37) (ad := ⟨b665, 0, none⟩) (vs := [.int .i64 (x666), .int .i64 (x667)]) (by kernel_rfl) vt37 (fun i u hu => box_cells F673 0 hu (by rfl)) ?_
              refine wS_eqS (d := 39) (T := 37) (x := x662) (y := x663) (x' := x666) (y' := x667) (by kernel_rfl) eq37 ?_
              refine wS_pure 1 [(40, .bool (x662 == x666 && x663 == x667))] (by kernel_rfl) ?_
              refine wS_bool (x662 == x666 && x663 == x667) (fun hb735 => ?_) (fun hb735 => ?_)
              · have hm := condT hb735 hm
                rewrite [hb735]
                refine wS_pure 18 [(58, .bool (true)), (57, undef), (56, undef), (55, undef), (54, .bool (true)), (53, .bool (true)), (52, undef), (51, undef), (50, undef), (49, undef), (48, undef), (47, undef), (46, undef), (45, undef), (44, undef), (43, undef), (42, undef), (41, undef)] (by kernel_rfl) ?_
                refine wS_end (by rfl) ?_
                refine eX_then ?_
                refine cW_prune [(0, .slice A0 (l0).length cap0), (4, .slice A536 (l535).length cap537), (5, .int .i64 (x540)), (6, .pointer (some ⟨b661, 0, none⟩)), (7, .pointer (some ⟨b665, 0, none⟩)), (58, .bool (true))] (by kernel_rfl) (by kernel_rfl) (fun a736 => ?_)
                refine cW_cond_t (by kernel_rfl) ?_
                refine cW_seq ?_
                refine cW_region ?_
                refine wS_pure 2 [(3, .bool (false)), (2, .slice none 0 0)] (by kernel_rfl) ?_
                refine wS_end (by rfl) ?_
                refine eX_then ?_
                refine cW_ret ?_
                refine eX_then_ret ?_
                refine eX_block_ret ?_
                refine eX_then_ret ?_
                have hq : (some (Ctl.out (Sum.inr (([], false)))) : Option (Ctl ((List (Int × Int)) × Int) (Sum ((List (Int × Int))) ((List (Int × Int)) × (Bool))))) = some _ := hm
                replace hq := someE hq
                subst hq
                refine eX_outR hx550 (fun hr => ?_)
                subst hr
                refine eX_block_ret ?_
                refine eX_then_ret ?_
                refine eX_then_ret ?_
                have hq : (some (([], false)) : Option ((List (Int × Int)) × (Bool))) = some _ := hm547
                replace hq := someE hq
                subst hq
                refine eX_ret (vs := [.slice none 0 0, .bool (false)]) [.tmp 2, .tmp 3] (by rfl) ⟨by (show lkE _ _ _ = _); kernel_rfl, ⟨by (show lkE _ _ _ = _); kernel_rfl, trivial⟩⟩ ?_
                exact ⟨none, 0, [], rfl, (Mx.nil F670.low), lowNil, hB⟩
              · have hm := condF hb735 hm
                rewrite [hb735]
                refine wS_pure 1 [(41, .pointer (some ⟨b661, 0, none⟩))] (by kernel_rfl) ?_
                refine wS_load1 (d := 42) (T := 2) (ad := ⟨b661, 0, none⟩) (v := .int .i64 (x662)) (by kernel_rfl) vt2 ((F672).cell 0) ?_
                refine wS_pure 1 [(43, .pointer (some ⟨b665, 0, none⟩))] (by kernel_rfl) ?_
                refine wS_load1 (d := 44) (T := 2) (ad := ⟨b665, 0, none⟩) (v := .int .i64 (x666)) (by kernel_rfl) vt2 ((F673).cell 0) ?_
                refine wS_pure 2 [(46, .bool (x662 != x666)), (45, .bool (x662 != x666))] (by kernel_rfl) ?_
                refine wS_bool (x662 != x666) (fun hb737 => ?_) (fun hb737 => ?_)
                · have hm := condT hb737 hm
                  rewrite [hb737]
                  refine wS_pure 1 [(47, .pointer (some ⟨b661, 1, none⟩))] (by kernel_rfl) ?_
                  refine wS_load1 (d := 48) (T := 2) (ad := ⟨b661, 1, none⟩) (v := .int .i64 (x663)) (by kernel_rfl) vt2 ((F672).cell 1) ?_
                  refine wS_pure 1 [(49, .pointer (some ⟨b665, 1, none⟩))] (by kernel_rfl) ?_
                  refine wS_load1 (d := 50) (T := 2) (ad := ⟨b665, 1, none⟩) (v := .int .i64 (x667)) (by kernel_rfl) vt2 ((F673).cell 1) ?_
                  refine wS_pure 4 [(54, .bool (x663 != x667)), (53, .bool (x663 != x667)), (52, .bool (x663 != x667)), (51, .bool (x663 != x667))] (by kernel_rfl) ?_
                  refine wS_bool (x663 != x667) (fun hb738 => ?_) (fun hb738 => ?_)
                  · have hm := condT hb738 hm
                    rewrite [hb738]
                    refine wS_pure 4 [(58, .bool (true)), (57, undef), (56, undef), (55, undef)] (by kernel_rfl) ?_
                    refine wS_end (by rfl) ?_
                    refine eX_then ?_
                    refine cW_prune [(0, .slice A0 (l0).length cap0), (4, .slice A536 (l535).length cap537), (5, .int .i64 (x540)), (6, .pointer (some ⟨b661, 0, none⟩)), (7, .pointer (some ⟨b665, 0, none⟩)), (58, .bool (true))] (by kernel_rfl) (by kernel_rfl) (fun a739 => ?_)
                    refine cW_cond_t (by kernel_rfl) ?_
                    refine cW_seq ?_
                    refine cW_region ?_
                    refine wS_pure 2 [(3, .bool (false)), (2, .slice none 0 0)] (by kernel_rfl) ?_
                    refine wS_end (by rfl) ?_
                    refine eX_then ?_
                    refine cW_ret ?_
                    refine eX_then_ret ?_
                    refine eX_block_ret ?_
                    refine eX_then_ret ?_
                    have hq : (some (Ctl.out (Sum.inr (([], false)))) : Option (Ctl ((List (Int × Int)) × Int) (Sum ((List (Int × Int))) ((List (Int × Int)) × (Bool))))) = some _ := hm
                    replace hq := someE hq
                    subst hq
                    refine eX_outR hx550 (fun hr => ?_)
                    subst hr
                    refine eX_block_ret ?_
                    refine eX_then_ret ?_
                    refine eX_then_ret ?_
                    have hq : (some (([], false)) : Option ((List (Int × Int)) × (Bool))) = some _ := hm547
                    replace hq := someE hq
                    subst hq
                    refine eX_ret (vs := [.slice none 0 0, .bool (false)]) [.tmp 2, .tmp 3] (by rfl) ⟨by (show lkE _ _ _ = _); kernel_rfl, ⟨by (show lkE _ _ _ = _); kernel_rfl, trivial⟩⟩ ?_
                    exact ⟨none, 0, [], rfl, (Mx.nil F670.low), lowNil, hB⟩
                  · have hm := condF hb738 hm
                    rewrite [hb738]
                    refine wS_pure 4 [(58, .bool (decide ((((l535).length : Int)) > 576))), (57, .bool (decide ((((l535).length : Int)) > 576))), (56, .int .i64 (((l535).length : Int))), (55, .slice A536 (l535).length cap537)] (by kernel_rfl) ?_
                    refine wS_end (by rfl) ?_
                    refine eX_then ?_
                    refine cW_prune [(0, .slice A0 (l0).length cap0), (4, .slice A536 (l535).length cap537), (5, .int .i64 (x540)), (6, .pointer (some ⟨b661, 0, none⟩)), (7, .pointer (some ⟨b665, 0, none⟩)), (58, .bool (decide ((((l535).length : Int)) > 576)))] (by kernel_rfl) (by kernel_rfl) (fun a740 => ?_)
                    refine cW_cond (t := decide ((((l535).length : Int)) > 576)) (by kernel_rfl) (fun hb741 => ?_) (fun hb741 => ?_)
                    · have hm := condT hb741 hm
                      refine cW_seq ?_
                      refine cW_region ?_
                      refine wS_pure 2 [(3, .bool (false)), (2, .slice none 0 0)] (by kernel_rfl) ?_
                      refine wS_end (by rfl) ?_
                      refine eX_then ?_
                      refine cW_ret ?_
                      refine eX_then_ret ?_
                      refine eX_block_ret ?_
                      refine eX_then_ret ?_
                      have hq : (some (Ctl.out (Sum.inr (([], false)))) : Option (Ctl ((List (Int × Int)) × Int) (Sum ((List (Int × Int))) ((List (Int × Int)) × (Bool))))) = some _ := hm
                      replace hq := someE hq
                      subst hq
                      refine eX_outR hx550 (fun hr => ?_)
                      subst hr
                      refine eX_block_ret ?_
                      refine eX_then_ret ?_
                      refine eX_then_ret ?_
                      have hq : (some (([], false)) : Option ((List (Int × Int)) × (Bool))) = some _ := hm547
                      replace hq := someE hq
                      subst hq
                      refine eX_ret (vs := [.slice none 0 0, .bool (false)]) [.tmp 2, .tmp 3] (by rfl) ⟨by (show lkE _ _ _ = _); kernel_rfl, ⟨by (show lkE _ _ _ = _); kernel_rfl, trivial⟩⟩ ?_
                      exact ⟨none, 0, [], rfl, (Mx.nil F670.low), lowNil, hB⟩
                    · have hm := condF hb741 hm
                      refine cW_skip ?_
                      refine eX_then ?_
                      refine cW_region ?_
                      refine wS_pure 1 [(59, .slice A536 (l535).length cap537)] (by kernel_rfl) ?_
                      refine wS_loadA (d := 60) (T := 37) (ad := ⟨b661, 0, none⟩) (vs := [.int .i64 (x662), .int .i64 (x663)]) (by kernel_rfl) vt37 (fun i u hu => box_cells F672 0 hu (by rfl)) ?_
                      refine wS_loadA (d := 61) (T := 37) (ad := ⟨b665, 0, none⟩) (vs := [.int .i64 (x666), .int .i64 (x667)]) (by kernel_rfl) vt37 (fun i u hu => box_cells F673 0 hu (by rfl)) ?_
                      obtain ⟨y742, hy743, hm⟩ := bindE hm
                      refine wS_calls (d := 62) (f := 135) (vs := [.agg #[.int .i64 (x662), .int .i64 (x663)], .agg #[.int .i64 (x666), .int .i64 (x667)]]) (by kernel_rfl) ent135 (c_impl_line hy743) ?_
                      rintro _ w744 ⟨A746, cap747, fp748, rfl, F749, G750, hc745⟩
                      have D753 : Dj fp538 fp748 := Dj.of F671.low G750
                      have D754 : Dj [b661] fp748 := Dj.of (lt1 F672.lt) G750
                      have D755 : Dj [b665] fp748 := Dj.of (lt1 F673.lt) G750
                      replace F670 := F670.chg hc745 Dj.nil
                      replace F671 := F671.chg hc745 Dj.nil Dj.nil
                      replace F672 := F672.chg hc745 notNil
                      replace F673 := F673.chg hc745 notNil
                      replace hB := hB.inS hc745 inNil
                      replace G750 := low_le hZ G750
                      replace hZ := Nat.le_trans hZ hc745.size
                      refine ⟨.slice A746 (y742).length cap747, rfl, ?_⟩
                      obtain ⟨_, hne756, hm⟩ := bindE hm
                      replace hne756 := neE hne756
                      obtain ⟨_, hk757, hm⟩ := bindE hm
                      replace hk757 := apE hk757
                      refine wS_appendMx (enc := encII) (l := (l535 : List (Int × Int))) (l2 := (y742 : List (Int × Int))) (d := 63) (t := 32) (T := 37) (A := A536) (A2 := A746) (cap := cap537) (cap2 := cap747) (by kernel_rfl) el32 encII_ok F671 (F749.sl encII_ok) hne756 hk757 ?_
                      intro w758 fp759 A760 cap761 F762 hc763 hp764
                      have G766 := low_ap G544 hZ hp764
                      have D767 : Dj [b661] fp759 := Dj.ap (D676).symm (lt1 F672.lt) hp764
                      have D768 : Dj [b665] fp759 := Dj.ap (D678).symm (lt1 F673.lt) hp764
                      have D769 : Dj fp748 fp759 := Dj.ap (D753).symm F749.low hp764
                      replace F670 := F670.chg hc763 (Dj.of L0 G544)
                      replace F672 := F672.chg hc763 (dj1 (D676).symm)
                      replace F673 := F673.chg hc763 (dj1 (D678).symm)
                      replace F749 := F749.chg hc763 (D753).symm
                      replace hB := hB.inS hc763 (inLow G544)
                      replace hZ := Nat.le_trans hZ hc763.size
                      refine wS_pure 1 [(4, .slice A760 (l535 ++ y742).length cap761)] (by kernel_rfl) ?_
                      refine wS_end (by rfl) ?_
                      refine eX_block ?_
                      refine eX_then ?_
                      refine cW_region ?_
                      refine wS_pure 3 [(5, .int .i64 (wr (x540 + 1))), (27, .int .i64 (wr (x540 + 1))), (26, .int .i64 (x540))] (by kernel_rfl) ?_
                      refine wS_end (by rfl) ?_
                      have hq : (some (Ctl.next ((l535 ++ y742, wr (x540 + 1)))) : Option (Ctl ((List (Int × Int)) × Int) (Sum ((List (Int × Int))) ((List (Int × Int)) × (Bool))))) = some _ := hm
                      replace hq := someE hq
                      subst hq
                      exact eX_next hx550 (fun hst => ⟨l535 ++ y742, A760, cap761, fp759, wr (x540 + 1), rfl, Fr.of hst (by kernel_rfl), F670, F762, G766, hB, hZ⟩)
                · have hm := condF hb737 hm
                  rewrite [hb737]
                  refine wS_pure 12 [(58, .bool (decide ((((l535).length : Int)) > 576))), (57, .bool (decide ((((l535).length : Int)) > 576))), (56, .int .i64 (((l535).length : Int))), (55, .slice A536 (l535).length cap537), (54, .bool (false)), (53, .bool (false)), (52, .bool (false)), (51, undef), (50, undef), (49, undef), (48, undef), (47, undef)] (by kernel_rfl) ?_
                  refine wS_end (by rfl) ?_
                  refine eX_then ?_
                  refine cW_prune [(0, .slice A0 (l0).length cap0), (4, .slice A536 (l535).length cap537), (5, .int .i64 (x540)), (6, .pointer (some ⟨b661, 0, none⟩)), (7, .pointer (some ⟨b665, 0, none⟩)), (58, .bool (decide ((((l535).length : Int)) > 576)))] (by kernel_rfl) (by kernel_rfl) (fun a770 => ?_)
                  refine cW_cond (t := decide ((((l535).length : Int)) > 576)) (by kernel_rfl) (fun hb771 => ?_) (fun hb771 => ?_)
                  · have hm := condT hb771 hm
                    refine cW_seq ?_
                    refine cW_region ?_
                    refine wS_pure 2 [(3, .bool (false)), (2, .slice none 0 0)] (by kernel_rfl) ?_
                    refine wS_end (by rfl) ?_
                    refine eX_then ?_
                    refine cW_ret ?_
                    refine eX_then_ret ?_
                    refine eX_block_ret ?_
                    refine eX_then_ret ?_
                    have hq : (some (Ctl.out (Sum.inr (([], false)))) : Option (Ctl ((List (Int × Int)) × Int) (Sum ((List (Int × Int))) ((List (Int × Int)) × (Bool))))) = some _ := hm
                    replace hq := someE hq
                    subst hq
                    refine eX_outR hx550 (fun hr => ?_)
                    subst hr
                    refine eX_block_ret ?_
                    refine eX_then_ret ?_
                    refine eX_then_ret ?_
                    have hq : (some (([], false)) : Option ((List (Int × Int)) × (Bool))) = some _ := hm547
                    replace hq := someE hq
                    subst hq
                    refine eX_ret (vs := [.slice none 0 0, .bool (false)]) [.tmp 2, .tmp 3] (by rfl) ⟨by (show lkE _ _ _ = _); kernel_rfl, ⟨by (show lkE _ _ _ = _); kernel_rfl, trivial⟩⟩ ?_
                    exact ⟨none, 0, [], rfl, (Mx.nil F670.low), lowNil, hB⟩
                  · have hm := condF hb771 hm
                    refine cW_skip ?_
                    refine eX_then ?_
                    refine cW_region ?_
                    refine wS_pure 1 [(59, .slice A536 (l535).length cap537)] (by kernel_rfl) ?_
                    refine wS_loadA (d := 60) (T := 37) (ad := ⟨b661, 0, none⟩) (vs := [.int .i64 (x662), .int .i64 (x663)]) (by kernel_rfl) vt37 (fun i u hu => box_cells F672 0 hu (by rfl)) ?_
                    refine wS_loadA (d := 61) (T := 37) (ad := ⟨b665, 0, none⟩) (vs := [.int .i64 (x666), .int .i64 (x667)]) (by kernel_rfl) vt37 (fun i u hu => box_cells F673 0 hu (by rfl)) ?_
                    obtain ⟨y772, hy773, hm⟩ := bindE hm
                    refine wS_calls (d := 62) (f := 135) (vs := [.agg #[.int .i64 (x662), .int .i64 (x663)], .agg #[.int .i64 (x666), .int .i64 (x667)]]) (by kernel_rfl) ent135 (c_impl_line hy773) ?_
                    rintro _ w774 ⟨A776, cap777, fp778, rfl, F779, G780, hc775⟩
                    have D783 : Dj fp538 fp778 := Dj.of F671.low G780
                    have D784 : Dj [b661] fp778 := Dj.of (lt1 F672.lt) G780
                    have D785 : Dj [b665] fp778 := Dj.of (lt1 F673.lt) G780
                    replace F670 := F670.chg hc775 Dj.nil
                    replace F671 := F671.chg hc775 Dj.nil Dj.nil
                    replace F672 := F672.chg hc775 notNil
                    replace F673 := F673.chg hc775 notNil
                    replace hB := hB.inS hc775 inNil
                    replace G780 := low_le hZ G780
                    replace hZ := Nat.le_trans hZ hc775.size
                    refine ⟨.slice A776 (y772).length cap777, rfl, ?_⟩
                    obtain ⟨_, hne786, hm⟩ := bindE hm
                    replace hne786 := neE hne786
                    obtain ⟨_, hk787, hm⟩ := bindE hm
                    replace hk787 := apE hk787
                    refine wS_appendMx (enc := encII) (l := (l535 : List (Int × Int))) (l2 := (y772 : List (Int × Int))) (d := 63) (t := 32) (T := 37) (A := A536) (A2 := A776) (cap := cap537) (cap2 := cap777) (by kernel_rfl) el32 encII_ok F671 (F779.sl encII_ok) hne786 hk787 ?_
                    intro w788 fp789 A790 cap791 F792 hc793 hp794
                    have G796 := low_ap G544 hZ hp794
                    have D797 : Dj [b661] fp789 := Dj.ap (D676).symm (lt1 F672.lt) hp794
                    have D798 : Dj [b665] fp789 := Dj.ap (D678).symm (lt1 F673.lt) hp794
                    have D799 : Dj fp778 fp789 := Dj.ap (D783).symm F779.low hp794
                    replace F670 := F670.chg hc793 (Dj.of L0 G544)
                    replace F672 := F672.chg hc793 (dj1 (D676).symm)
                    replace F673 := F673.chg hc793 (dj1 (D678).symm)
                    replace F779 := F779.chg hc793 (D783).symm
                    replace hB := hB.inS hc793 (inLow G544)
                    replace hZ := Nat.le_trans hZ hc793.size
                    refine wS_pure 1 [(4, .slice A790 (l535 ++ y772).length cap791)] (by kernel_rfl) ?_
                    refine wS_end (by rfl) ?_
                    refine eX_block ?_
                    refine eX_then ?_
                    refine cW_region ?_
                    refine wS_pure 3 [(5, .int .i64 (wr (x540 + 1))), (27, .int .i64 (wr (x540 + 1))), (26, .int .i64 (x540))] (by kernel_rfl) ?_
                    refine wS_end (by rfl) ?_
                    have hq : (some (Ctl.next ((l535 ++ y772, wr (x540 + 1)))) : Option (Ctl ((List (Int × Int)) × Int) (Sum ((List (Int × Int))) ((List (Int × Int)) × (Bool))))) = some _ := hm
                    replace hq := someE hq
                    subst hq
                    exact eX_next hx550 (fun hst => ⟨l535 ++ y772, A790, cap791, fp789, wr (x540 + 1), rfl, Fr.of hst (by kernel_rfl), F670, F792, G796, hB, hZ⟩)
          · have hm := condF hb551 hm
            refine cW_exit ?_
            refine eX_then_exit ?_
            have hq : (some (Ctl.out (Sum.inl l535)) : Option (Ctl ((List (Int × Int)) × Int) (Sum ((List (Int × Int))) ((List (Int × Int)) × (Bool))))) = some _ := hm
            replace hq := someE hq
            subst hq
            refine eX_outX hx550 (fun hr800 => ?_)
            replace hr800 := hr800.symm
            subst hr800
            refine eX_block_hit ?_
            exact eX_J (fun hst => ⟨l535, A536, cap537, fp538, rfl, Fr.of hst (by kernel_rfl), F542, F543, G544, hB, hZ⟩)
        · rintro a' w524 ⟨l525, A526, cap527, fp528, hJ, hF530, F531, F532, G533, hB, hZ⟩
          subst hJ
          refine Fr.goX hF530 (by kernel_rfl) ?_
          refine eX_then ?_
          refine cW_seq ?_
          refine cW_region ?_
          refine wS_pure 2 [(65, .slice A526 (l525).length cap527), (64, .slice A526 (l525).length cap527)] (by kernel_rfl) ?_
          obtain ⟨y801, hy802, hm⟩ := bindE hm
          refine wS_calls (d := 66) (f := 138) (vs := [.slice A526 (l525).length cap527]) (by kernel_rfl) ent138 (c_impl_IsPath hy802 (F532.sl encII_ok)) ?_
          rintro _ w803 ⟨rfl, hc804⟩
          replace F531 := F531.chg hc804 Dj.nil
          replace F532 := F532.chg hc804 Dj.nil Dj.nil
          replace hB := hB.inS hc804 inNil
          replace hZ := Nat.le_trans hZ hc804.size
          refine ⟨.bool (y801), rfl, ?_⟩
          refine wS_pure 1 [(67, .bool (y801))] (by kernel_rfl) ?_
          refine wS_bool y801 (fun hb805 => ?_) (fun hb805 => ?_)
          · have hm := condT hb805 hm
            rewrite [hb805]
            refine wS_pure 1 [(68, .slice A526 (l525).length cap527)] (by kernel_rfl) ?_
            obtain ⟨y806, hy807, hm⟩ := bindE hm
            refine wS_calls (d := 69) (f := 72) (vs := [.slice A526 (l525).length cap527]) (by kernel_rfl) ent72 (c_impl_corners hy807 (F532.sl encII_ok)) ?_
            rintro _ w808 ⟨A810, cap811, fp812, rfl, F813, G814, hc809⟩
            have D817 : Dj fp528 fp812 := Dj.of F532.low G814
            replace F531 := F531.chg hc809 Dj.nil
            replace F532 := F532.chg hc809 Dj.nil Dj.nil
            replace hB := hB.inS hc809 inNil
            replace G814 := low_le hZ G814
            replace hZ := Nat.le_trans hZ hc809.size
            refine ⟨.slice A810 (y806).length cap811, rfl, ?_⟩
            refine wS_pure 1 [(70, .slice A0 (l0).length cap0)] (by kernel_rfl) ?_
            obtain ⟨y818, hy819, hm⟩ := bindE hm
            refine wS_calls (d := 71) (f := 139) (vs := [.slice A810 (y806).length cap811, .slice A0 (l0).length cap0]) (by kernel_rfl) ent139 (c_slices_Equal_impl_Point_impl_Point hy819 (F813.sl encII_ok) F531) ?_
            rintro _ w820 ⟨rfl, hc821⟩
            replace F531 := F531.chg hc821 Dj.nil
            replace F532 := F532.chg hc821 Dj.nil Dj.nil
            replace F813 := F813.chg hc821 Dj.nil
            replace hB := hB.inS hc821 inNil
            replace hZ := Nat.le_trans hZ hc821.size
            refine ⟨.bool (y818), rfl, ?_⟩
            refine wS_pure 3 [(3, .bool (y818)), (2, .slice A526 (l525).length cap527), (72, .bool (y818))] (by kernel_rfl) ?_
            refine wS_end (by rfl) ?_
            refine eX_then ?_
            refine cW_ret ?_
            have hq : (some ((l525, y818)) : Option ((List (Int × Int)) × (Bool))) = some _ := hm
            replace hq := someE hq
            subst hq
            refine eX_ret (vs := [.slice A526 (l525).length cap527, .bool (y818)]) [.tmp 2, .tmp 3] (by rfl) ⟨by (show lkE _ _ _ = _); kernel_rfl, ⟨by (show lkE _ _ _ = _); kernel_rfl, trivial⟩⟩ ?_
            exact ⟨A526, cap527, fp528, rfl, F532, G533, hB⟩
          · have hm := condF hb805 hm
            rewrite [hb805]
            refine wS_pure 7 [(3, .bool (false)), (2, .slice A526 (l525).length cap527), (72, .bool (false)), (71, undef), (70, undef), (69, undef), (68, undef)] (by kernel_rfl) ?_
            refine wS_end (by rfl) ?_
            refine eX_then ?_
            refine cW_ret ?_
            have hq : (some ((l525, false)) : Option ((List (Int × Int)) × (Bool))) = some _ := hm
            replace hq := someE hq
            subst hq
            refine eX_ret (vs := [.slice A526 (l525).length cap527, .bool (false)]) [.tmp 2, .tmp 3] (by rfl) ⟨by (show lkE _ _ _ = _); kernel_rfl, ⟨by (show lkE _ _ _ = _); kernel_rfl, trivial⟩⟩ ?_
            exact ⟨A526, cap527, fp528, rfl, F532, G533, hB⟩

set_option maxRecDepth 100000 in
/-- impl.PathThrough -/
theorem c_impl_PathThrough {w0 : World} {l0 : List (Int × Int)} {A0 : Option Addr} {cap0 : Nat} {fp0 : List Nat} {r : (List (Int × Int)) × (Bool)} (hm : m_impl_PathThrough l0 = some r) (F0 : Sl 2 encII w0 fp0 A0 l0) (K0 : (l0).length ≤ cap0) :
    Calls Try.prog 18 #[.slice A0 (l0).length cap0] w0 fun e w' => ∃ A100 cap100 fp100, e = .returned (.tuple #[.slice A100 (r.1).length cap100, .bool (r.2)]) ∧ Ow 2 encII 37 w' fp100 A100 cap100 r.1 ∧ (∀ x ∈ fp100, w0.heap.size ≤ x) ∧ Chg [] w0 w' := by
  have L0 := F0.low
  have hB : Chg [] w0 w0 := Chg.refl _ _
  have hZ := Nat.le_refl w0.heap.size
  unfold m_impl_PathThrough at hm
  refine enterE (N := 15) Try.func18 (by rfl) Try.ntmps18 (by simp) [(0, .slice A0 (l0).length cap0)] (by rfl) (by kernel_rfl) (fun a => ?_)
  refine cW_seq ?_
  refine cW_region ?_
  refine wS_pure 2 [(3, .bool (false)), (2, .slice none 0 0)] (by kernel_rfl) ?_
  refine wS_end (by rfl) ?_
  refine eX_then ?_
  refine cW_seq ?_
  refine cW_region ?_
  refine wS_pure 1 [(7, .slice A0 (l0).length cap0)] (by kernel_rfl) ?_
  obtain ⟨y2, hy3, hm⟩ := bindE hm
  refine wS_calls (d := 8) (f := 74) (vs := [.slice A0 (l0).length cap0]) (by kernel_rfl) ent74 (c_impl_through hy3 F0 K0) ?_
  rintro _ w4 ⟨A6, cap7, fp8, rfl, F9, G10, hc5⟩
  replace F0 := F0.chg hc5 Dj.nil
  replace hB := hB.inS hc5 inNil
  replace G10 := low_le hZ G10
  replace hZ := Nat.le_trans hZ hc5.size
  refine ⟨.tuple #[.slice A6 (y2.1).length cap7, .bool (y2.2)], rfl, ?_⟩
  refine wS_pure 5 [(5, .bool (y2.2)), (4, .slice A6 (y2.1).length cap7), (10, .bool (y2.2)), (9, .slice A6 (y2.1).length cap7), (6, .tuple #[.slice A6 (y2.1).length cap7, .bool (y2.2)])] (by kernel_rfl) ?_
  refine wS_end (by rfl) ?_
  refine eX_then ?_
  refine cW_seq ?_
  refine cW_seq ?_
  refine cW_region ?_
  refine wS_pure 2 [(12, .bool (!y2.2)), (11, .bool (y2.2))] (by kernel_rfl) ?_
  refine wS_end (by rfl) ?_
  refine eX_then ?_
  refine cW_cond (t := !y2.2) (by kernel_rfl) (fun hb13 => ?_) (fun hb13 => ?_)
  · have hm := condT hb13 hm
    refine cW_seq ?_
    refine cW_region ?_
    refine wS_pure 2 [(3, .bool (false)), (2, .slice none 0 0)] (by kernel_rfl) ?_
    refine wS_end (by rfl) ?_
    refine eX_then ?_
    refine cW_ret ?_
    refine eX_then_ret ?_
    have hq : (some (([], false)) : Option ((List (Int × Int)) × (Bool))) = some _ := hm
    replace hq := someE hq
    subst hq
    refine eX_ret (vs := [.slice none 0 0, .bool (false)]) [.tmp 2, .tmp 3] (by rfl) ⟨by (show lkE _ _ _ = _); kernel_rfl, ⟨by (show lkE _ _ _ = _); kernel_rfl, trivial⟩⟩ ?_
    exact ⟨none, 0, [], rfl, Ow.nil _, lowNil, hB⟩
  · have hm := condF hb13 hm
    refine cW_skip ?_
    refine eX_then ?_
    refine cW_seq ?_
    refine cW_region ?_
    refine wS_pure 1 [(13, .slice A6 (y2.1).length cap7)] (by kernel_rfl) ?_
    obtain ⟨y14, hy15, hm⟩ := bindE hm
    refine wS_calls (d := 14) (f := 75) (vs := [.slice A6 (y2.1).length cap7]) (by kernel_rfl) ent75 (c_slices_Clone_impl_Point_impl_Point hy15 (F9.sl encII_ok)) ?_
    rintro _ w16 ⟨A18, cap19, fp20, rfl, F21, G22, hc17⟩
    have D25 : Dj fp8 fp20 := Dj.of F9.low G22
    replace F0 := F0.chg hc17 Dj.nil
    replace F9 := F9.chg hc17 Dj.nil Dj.nil
    replace hB := hB.inS hc17 inNil
    replace G22 := low_le hZ G22
    replace hZ := Nat.le_trans hZ hc17.size
    refine ⟨.slice A18 (y14).length cap19, rfl, ?_⟩
    refine wS_pure 2 [(3, .bool (true)), (2, .slice A18 (y14).length cap19)] (by kernel_rfl) ?_
    refine wS_end (by rfl) ?_
    refine eX_then ?_
    refine cW_ret ?_
    have hq : (some ((y14, true)) : Option ((List (Int × Int)) × (Bool))) = some _ := hm
    replace hq := someE hq
    subst hq
    refine eX_ret (vs := [.slice A18 (y14).length cap19, .bool (true)]) [.tmp 2, .tmp 3] (by rfl) ⟨by (show lkE _ _ _ = _); kernel_rfl, ⟨by (show lkE _ _ _ = _); kernel_rfl, trivial⟩⟩ ?_
    exact ⟨A18, cap19, fp20, rfl, F21, G22, hB⟩

set_option maxRecDepth 100000 in
/-- impl.RiverLength$1 -/
theorem c_impl_RiverLength_1 {w0 : World} {l0 : List (Int × Int)} {A0 : Option Addr} {cap0 : Nat} {fp0 : List Nat} {r : (Int)} (hm : m_impl_RiverLength_1 l0 = some r) (F0 : Sl 2 encII w0 fp0 A0 l0) :
    Calls Try.prog 77 #[.slice A0 (l0).length cap0] w0 fun e w' => e = .returned (.int .i64 (r)) ∧ Chg [] w0 w' := by
  have L0 := F0.low
  have hB : Chg [] w0 w0 := Chg.refl _ _
  have hZ := Nat.le_refl w0.heap.size
  unfold m_impl_RiverLength_1 at hm
  refine enterE (N := 6) Try.func77 (by rfl) Try.ntmps77 (by simp) [(0, .slice A0 (l0).length cap0)] (by rfl) (by kernel_rfl) (fun a => ?_)
  refine cW_seq ?_
  refine cW_region ?_
  refine wS_pure 1 [(2, .int .i64 (0))] (by kernel_rfl) ?_
  refine wS_end (by rfl) ?_
  refine eX_then ?_
  refine cW_seq ?_
  refine cW_region ?_
  refine wS_pure 4 [(2, .int .i64 (wr ((((l0).length : Int)) - 1))), (5, .int .i64 (wr ((((l0).length : Int)) - 1))), (4, .int .i64 (((l0).length : Int))), (3, .slice A0 (l0).length cap0)] (by kernel_rfl) ?_
  refine wS_end (by rfl) ?_
  refine eX_then ?_
  refine cW_ret ?_
  have hq : (some (wr ((((l0).length : Int)) - 1)) : Option ((Int))) = some _ := hm
  replace hq := someE hq
  subst hq
  refine eX_ret (vs := [.int .i64 (wr ((((l0).length : Int)) - 1))]) [.tmp 2] (by rfl) ⟨by (show lkE _ _ _ = _); kernel_rfl, trivial⟩ ?_
  exact ⟨rfl, hB⟩

set_option maxRecDepth 100000 in
/-- impl.riverSum -/
theorem c_impl_riverSum_impl_RiverLength_1 {w0 : World} {l0 : List (Int)} {A0 : Option Addr} {cap0 : Nat} {fp0 : List Nat} {l1 : List (Int)} {A1 : Option Addr} {cap1 : Nat} {fp1 : List Nat} {p2 : Int} {r : (Int) × (Bool)} (hm : m_impl_riverSum_impl_RiverLength_1 l0 l1 p2 = some r) (F0 : Sl 1 encI w0 fp0 A0 l0) (F1 : Sl 1 encI w0 fp1 A1 l1) :
    Calls Try.prog 76 #[.slice A0 (l0).length cap0, .slice A1 (l1).length cap1, .int .i64 (p2), .func (.func 77) #[] #[]] w0 fun e w' => e = .returned (.tuple #[.int .i64 (r.1), .bool (r.2)]) ∧ Chg [] w0 w' := by
  have L0 := F0.low
  have L1 := F1.low
  have hB : Chg [] w0 w0 := Chg.refl _ _
  have hZ := Nat.le_refl w0.heap.size
  unfold m_impl_riverSum_impl_RiverLength_1 at hm
  refine enterE (N := 33) Try.func76 (by rfl) Try.ntmps76 (by simp) [(0, .slice A0 (l0).length cap0), (1, .slice A1 (l1).length cap1), (2, .int .i64 (p2)), (3, .func (.func 77) #[] #[])] (by rfl) (by kernel_rfl) (fun a => ?_)
  refine cW_seq ?_
  refine cW_region ?_
  refine wS_pure 2 [(9, .bool (false)), (8, .int .i64 (0))] (by kernel_rfl) ?_
  refine wS_end (by rfl) ?_
  refine eX_then ?_
  refine cW_seq ?_
  refine cW_seq ?_
  refine cW_region ?_
  refine wS_pure 3 [(14, .int .i64 (p2)), (13, .slice A1 (l1).length cap1), (12, .slice A0 (l0).length cap0)] (by kernel_rfl) ?_
  obtain ⟨y3, hy4, hm⟩ := bindE hm
  refine wS_calls (d := 15) (f := 16) (vs := [.slice A0 (l0).length cap0, .slice A1 (l1).length cap1, .int .i64 (p2)]) (by kernel_rfl) ent16 (c_impl_FitsRiver hy4 F0 F1) ?_
  rintro _ w5 ⟨rfl, hc6⟩
  replace F0 := F0.chg hc6 Dj.nil
  replace F1 := F1.chg hc6 Dj.nil
  replace hB := hB.inS hc6 inNil
  replace hZ := Nat.le_trans hZ hc6.size
  refine ⟨.bool (y3), rfl, ?_⟩
  refine wS_pure 1 [(16, .bool (!y3))] (by kernel_rfl) ?_
  refine wS_end (by rfl) ?_
  refine eX_then ?_
  refine cW_cond (t := !y3) (by kernel_rfl) (fun hb7 => ?_) (fun hb7 => ?_)
  · have hm := condT hb7 hm
    refine cW_seq ?_
    refine cW_region ?_
    refine wS_pure 2 [(9, .bool (false)), (8, .int .i64 (0))] (by kernel_rfl) ?_
    refine wS_end (by rfl) ?_
    refine eX_then ?_
    refine cW_ret ?_
    refine eX_then_ret ?_
    have hq : (some ((0, false)) : Option ((Int) × (Bool))) = some _ := hm
    replace hq := someE hq
    subst hq
    refine eX_ret (vs := [.int .i64 (0), .bool (false)]) [.tmp 8, .tmp 9] (by rfl) ⟨by (show lkE _ _ _ = _); kernel_rfl, ⟨by (show lkE _ _ _ = _); kernel_rfl, trivial⟩⟩ ?_
    exact ⟨rfl, hB⟩
  · have hm := condF hb7 hm
    refine cW_skip ?_
    refine eX_then ?_
    refine cW_seq ?_
    refine cW_region ?_
    refine wS_pure 1 [(10, .int .i64 (0))] (by kernel_rfl) ?_
    refine wS_end (by rfl) ?_
    refine eX_then ?_
    refine cW_seq ?_
    refine cW_seq ?_
    refine cW_region ?_
    refine wS_pure 3 [(19, .int .i64 (0)), (18, .int .i64 (((l0).length : Int))), (17, .slice A0 (l0).length cap0)] (by kernel_rfl) ?_
    refine wS_end (by rfl) ?_
    refine eX_then ?_
    obtain ⟨r57, hr58, hm⟩ := bindE hm
    have hm59 := hm
    refine cW_cut (fun a' w' => ∃ x49 : Int, x49 = r57 ∧ Fr 33 [(10, .int .i64 (x49))] a' ∧ Chg [] w0 w' ∧ w0.heap.size ≤ w'.heap.size) ?_ ?_
    · refine cW_block ?_
      refine cW_loop _ (fun (s60 : Int × Int) a' w' => ∃ x52 : Int, ∃ x53 : Int, (x52, x53) = s60 ∧ Fr 33 [(0, .slice A0 (l0).length cap0), (1, .slice A1 (l1).length cap1), (2, .int .i64 (p2)), (3, .func (.func 77) #[] #[]), (10, .int .i64 (x52)), (18, .int .i64 (((l0).length : Int))), (19, .int .i64 (x53))] a' ∧ Sl 1 encI w' fp0 A0 l0 ∧ Sl 1 encI w' fp1 A1 l1 ∧ Chg [] w0 w' ∧ w0.heap.size ≤ w'.heap.size) hr58 (fun hst => ⟨0, 0, rfl, Fr.of hst (by kernel_rfl), F0, F1, hB, hZ⟩) ?_
      rintro _ c61 a' w51 ⟨x52, x53, rfl, hF54, F55, F56, hB, hZ⟩ hx62
      refine Fr.goOn hF54 (by kernel_rfl) ?_
      have hm := hx62
      unfold m_impl_riverSum_impl_RiverLength_1_s1 at hm
      refine cW_seq ?_
      refine cW_region ?_
      refine wS_pure 1 [(20, .bool (decide (x53 < (((l0).length : Int)))))] (by kernel_rfl) ?_
      refine wS_end (by rfl) ?_
      refine eX_then ?_
      refine cW_seq ?_
      refine cW_cond (t := decide (x53 < (((l0).length : Int)))) (by kernel_rfl) (fun hb63 => ?_) (fun hb63 => ?_)
      · have hm := condT hb63 hm
        refine cW_skip ?_
        refine eX_then ?_
        refine cW_seq ?_
        refine cW_block ?_
        refine cW_seq ?_
        refine cW_region ?_
        refine wS_pure 2 [(11, .int .i64 (x53)), (21, .int .i64 (x53))] (by kernel_rfl) ?_
        refine wS_end (by rfl) ?_
        refine eX_then ?_
        refine cW_region ?_
        refine wS_pure 6 [(27, .int .i64 (x53)), (26, .int .i64 (p2)), (25, .slice A1 (l1).length cap1), (24, .slice A0 (l0).length cap0), (23, .func (.func 77) #[] #[]), (22, .int .i64 (x52))] (by kernel_rfl) ?_
        obtain ⟨y64, hy65, hm⟩ := bindE hm
        refine wS_calls (d := 28) (f := 73) (vs := [.slice A0 (l0).length cap0, .slice A1 (l1).length cap1, .int .i64 (p2), .int .i64 (x53)]) (by kernel_rfl) ent73 (c_impl_riverPath hy65 F55 F56) ?_
        rintro _ w66 ⟨A68, cap69, fp70, rfl, F71, G72, hc67⟩
        replace F55 := F55.chg hc67 Dj.nil
        replace F56 := F56.chg hc67 Dj.nil
        replace hB := hB.inS hc67 inNil
        replace G72 := low_le hZ G72
        replace hZ := Nat.le_trans hZ hc67.size
        refine ⟨.slice A68 (y64).length cap69, rfl, ?_⟩
        obtain ⟨y75, hy76, hm⟩ := bindE hm
        refine wS_calls (d := 29) (f := 77) (vs := [.slice A68 (y64).length cap69]) (by kernel_rfl) ent77 (c_impl_RiverLength_1 hy76 (F71.sl encII_ok)) ?_
        rintro _ w77 ⟨rfl, hc78⟩
        replace F55 := F55.chg hc78 Dj.nil
        replace F56 := F56.chg hc78 Dj.nil
        replace F71 := F71.chg hc78 Dj.nil
        replace hB := hB.inS hc78 inNil
        replace hZ := Nat.le_trans hZ hc78.size
        refine ⟨.int .i64 (y75), rfl, ?_⟩
        refine wS_pure 2 [(10, .int .i64 (wr (x52 + y75))), (30, .int .i64 (wr (x52 + y75)))] (by kernel_rfl) ?_
        refine wS_end (by rfl) ?_
        refine eX_block ?_
        refine eX_then ?_
        refine cW_region ?_
        refine wS_pure 2 [(19, .int .i64 (wr (x53 + 1))), (31, .int .i64 (wr (x53 + 1)))] (by kernel_rfl) ?_
        refine wS_end (by rfl) ?_
        have hq : (some (Ctl.next ((wr (x52 + y75), wr (x53 + 1)))) : Option (Ctl (Int × Int) (Int))) = some _ := hm
        replace hq := someE hq
        subst hq
        exact eX_next hx62 (fun hst => ⟨wr (x52 + y75), wr (x53 + 1), rfl, Fr.of hst (by kernel_rfl), F55, F56, hB, hZ⟩)
      · have hm := condF hb63 hm
        refine cW_exit ?_
        refine eX_then_exit ?_
        have hq : (some (Ctl.out x52) : Option (Ctl (Int × Int) (Int))) = some _ := hm
        replace hq := someE hq
        subst hq
        refine eX_outX hx62 (fun hr79 => ?_)
        replace hr79 := hr79.symm
        subst hr79
        refine eX_block_hit ?_
        exact eX_J (fun hst => ⟨x52, rfl, Fr.of hst (by kernel_rfl), hB, hZ⟩)
    · rintro a' w48 ⟨x49, hJ, hF50, hB, hZ⟩
      subst hJ
      refine Fr.goX hF50 (by kernel_rfl) ?_
      refine eX_then ?_
      refine cW_seq ?_
      refine cW_region ?_
      refine wS_pure 3 [(9, .bool (true)), (8, .int .i64 (x49)), (32, .int .i64 (x49))] (by kernel_rfl) ?_
      refine wS_end (by rfl) ?_
      refine eX_then ?_
      refine cW_ret ?_
      have hq : (some ((x49, true)) : Option ((Int) × (Bool))) = some _ := hm
      replace hq := someE hq
      subst hq
      refine eX_ret (vs := [.int .i64 (x49), .bool (true)]) [.tmp 8, .tmp 9] (by rfl) ⟨by (show lkE _ _ _ = _); kernel_rfl, ⟨by (show lkE _ _ _ = _); kernel_rfl, trivial⟩⟩ ?_
      exact ⟨rfl, hB⟩

set_option maxRecDepth 100000 in
/-- impl.RiverLength -/
theorem c_impl_RiverLength {w0 : World} {l0 : List (Int)} {A0 : Option Addr} {cap0 : Nat} {fp0 : List Nat} {l1 : List (Int)} {A1 : Option Addr} {cap1 : Nat} {fp1 : List Nat} {p2 : Int} {r : (Int) × (Bool)} (hm : m_impl_RiverLength l0 l1 p2 = some r) (F0 : Sl 1 encI w0 fp0 A0 l0) (F1 : Sl 1 encI w0 fp1 A1 l1) :
    Calls Try.prog 19 #[.slice A0 (l0).length cap0, .slice A1 (l1).length cap1, .int .i64 (p2)] w0 fun e w' => e = .returned (.tuple #[.int .i64 (r.1), .bool (r.2)]) ∧ Chg [] w0 w' := by
  have L0 := F0.low
  have L1 := F1.low
  have hB : Chg [] w0 w0 := Chg.refl _ _
  have hZ := Nat.le_refl w0.heap.size
  unfold m_impl_RiverLength at hm
  refine enterE (N := 14) Try.func19 (by rfl) Try.ntmps19 (by simp) [(0, .slice A0 (l0).length cap0), (1, .slice A1 (l1).length cap1), (2, .int .i64 (p2))] (by rfl) (by kernel_rfl) (fun a => ?_)
  refine cW_seq ?_
  refine cW_region ?_
  refine wS_pure 2 [(7, .bool (false)), (6, .int .i64 (0))] (by kernel_rfl) ?_
  refine wS_end (by rfl) ?_
  refine eX_then ?_
  refine cW_seq ?_
  refine cW_region ?_
  refine wS_pure 3 [(10, .int .i64 (p2)), (9, .slice A1 (l1).length cap1), (8, .slice A0 (l0).length cap0)] (by kernel_rfl) ?_
  obtain ⟨y3, hy4, hm⟩ := bindE hm
  refine wS_calls (d := 11) (f := 76) (vs := [.slice A0 (l0).length cap0, .slice A1 (l1).length cap1, .int .i64 (p2), .func (.func 77) #[] #[]]) (by kernel_rfl) ent76 (c_impl_riverSum_impl_RiverLength_1 hy4 F0 F1) ?_
  rintro _ w5 ⟨rfl, hc6⟩
  replace F0 := F0.chg hc6 Dj.nil
  replace F1 := F1.chg hc6 Dj.nil
  replace hB := hB.inS hc6 inNil
  replace hZ := Nat.le_trans hZ hc6.size
  refine ⟨.tuple #[.int .i64 (y3.1), .bool (y3.2)], rfl, ?_⟩
  refine wS_pure 4 [(7, .bool (y3.2)), (6, .int .i64 (y3.1)), (13, .bool (y3.2)), (12, .int .i64 (y3.1))] (by kernel_rfl) ?_
  refine wS_end (by rfl) ?_
  refine eX_then ?_
  refine cW_ret ?_
  have hq : (some ((y3.1, y3.2)) : Option ((Int) × (Bool))) = some _ := hm
  replace hq := someE hq
  subst hq
  refine eX_ret (vs := [.int .i64 (y3.1), .bool (y3.2)]) [.tmp 6, .tmp 7] (by rfl) ⟨by (show lkE _ _ _ = _); kernel_rfl, ⟨by (show lkE _ _ _ = _); kernel_rfl, trivial⟩⟩ ?_
  exact ⟨rfl, hB⟩

set_option maxRecDepth 100000 in
/-- impl.RiverBends$1 -/
theorem c_impl_RiverBends_1 {w0 : World} {l0 : List (Int × Int)} {A0 : Option Addr} {cap0 : Nat} {fp0 : List Nat} {r : (Int)} (hm : m_impl_RiverBends_1 l0 = some r) (F0 : Sl 2 encII w0 fp0 A0 l0) :
    Calls Try.prog 78 #[.slice A0 (l0).length cap0] w0 fun e w' => e = .returned (.int .i64 (r)) ∧ Chg [] w0 w' := by
  have L0 := F0.low
  have hB : Chg [] w0 w0 := Chg.refl _ _
  have hZ := Nat.le_refl w0.heap.size
  unfold m_impl_RiverBends_1 at hm
  refine enterE (N := 7) Try.func78 (by rfl) Try.ntmps78 (by simp) [(0, .slice A0 (l0).length cap0)] (by rfl) (by kernel_rfl) (fun a => ?_)
  refine cW_seq ?_
  refine cW_region ?_
  refine wS_pure 1 [(2, .int .i64 (0))] (by kernel_rfl) ?_
  refine wS_end (by rfl) ?_
  refine eX_then ?_
  refine cW_seq ?_
  refine cW_region ?_
  refine wS_pure 1 [(3, .slice A0 (l0).length cap0)] (by kernel_rfl) ?_
  obtain ⟨y2, hy3, hm⟩ := bindE hm
  refine wS_calls (d := 4) (f := 72) (vs := [.slice A0 (l0).length cap0]) (by kernel_rfl) ent72 (c_impl_corners hy3 F0) ?_
  rintro _ w4 ⟨A6, cap7, fp8, rfl, F9, G10, hc5⟩
  replace F0 := F0.chg hc5 Dj.nil
  replace hB := hB.inS hc5 inNil
  replace G10 := low_le hZ G10
  replace hZ := Nat.le_trans hZ hc5.size
  refine ⟨.slice A6 (y2).length cap7, rfl, ?_⟩
  refine wS_pure 3 [(2, .int .i64 (wr ((((y2).length : Int)) - 2))), (6, .int .i64 (wr ((((y2).length : Int)) - 2))), (5, .int .i64 (((y2).length : Int)))] (by kernel_rfl) ?_
  refine wS_end (by rfl) ?_
  refine eX_then ?_
  refine cW_ret ?_
  have hq : (some (wr ((((y2).length : Int)) - 2)) : Option ((Int))) = some _ := hm
  replace hq := someE hq
  subst hq
  refine eX_ret (vs := [.int .i64 (wr ((((y2).length : Int)) - 2))]) [.tmp 2] (by rfl) ⟨by (show lkE _ _ _ = _); kernel_rfl, trivial⟩ ?_
  exact ⟨rfl, hB⟩

set_option maxRecDepth 100000 in
/-- impl.riverSum -/
theorem c_impl_riverSum_impl_RiverBends_1 {w0 : World} {l0 : List (Int)} {A0 : Option Addr} {cap0 : Nat} {fp0 : List Nat} {l1 : List (Int)} {A1 : Option Addr} {cap1 : Nat} {fp1 : List Nat} {p2 : Int} {r : (Int) × (Bool)} (hm : m_impl_riverSum_impl_RiverBends_1 l0 l1 p2 = some r) (F0 : Sl 1 encI w0 fp0 A0 l0) (F1 : Sl 1 encI w0 fp1 A1 l1) :
    Calls Try.prog 76 #[.slice A0 (l0).length cap0, .slice A1 (l1).length cap1, .int .i64 (p2), .func (.func 78) #[] #[]] w0 fun e w' => e = .returned (.tuple #[.int .i64 (r.1), .bool (r.2)]) ∧ Chg [] w0 w' := by
  have L0 := F0.low
  have L1 := F1.low
  have hB : Chg [] w0 w0 := Chg.refl _ _
  have hZ := Nat.le_refl w0.heap.size
  unfold m_impl_riverSum_impl_RiverBends_1 at hm
  refine enterE (N := 33) Try.func76 (by rfl) Try.ntmps76 (by simp) [(0, .slice A0 (l0).length cap0), (1, .slice A1 (l1).length cap1), (2, .int .i64 (p2)), (3, .func (.func 78) #[] #[])] (by rfl) (by kernel_rfl) (fun a => ?_)
  refine cW_seq ?_
  refine cW_region ?_
  refine wS_pure 2 [(9, .bool (false)), (8, .int .i64 (0))] (by kernel_rfl) ?_
  refine wS_end (by rfl) ?_
  refine eX_then ?_
  refine cW_seq ?_
  refine cW_seq ?_
  refine cW_region ?_
  refine wS_pure 3 [(14, .int .i64 (p2)), (13, .slice A1 (l1).length cap1), (12, .slice A0 (l0).length cap0)] (by kernel_rfl) ?_
  obtain ⟨y3, hy4, hm⟩ := bindE hm
  refine wS_calls (d := 15) (f := 16) (vs := [.slice A0 (l0).length cap0, .slice A1 (l1).length cap1, .int .i64 (p2)]) (by kernel_rfl) ent16 (c_impl_FitsRiver hy4 F0 F1) ?_
  rintro _ w5 ⟨rfl, hc6⟩
  replace F0 := F0.chg hc6 Dj.nil
  replace F1 := F1.chg hc6 Dj.nil
  replace hB := hB.inS hc6 inNil
  replace hZ := Nat.le_trans hZ hc6.size
  refine ⟨.bool (y3), rfl, ?_⟩
  refine wS_pure 1 [(16, .bool (!y3))] (by kernel_rfl) ?_
  refine wS_end (by rfl) ?_
  refine eX_then ?_
  refine cW_cond (t := !y3) (by kernel_rfl) (fun hb7 => ?_) (fun hb7 => ?_)
  · have hm := condT hb7 hm
    refine cW_seq ?_
    refine cW_region ?_
    refine wS_pure 2 [(9, .bool (false)), (8, .int .i64 (0))] (by kernel_rfl) ?_
    refine wS_end (by rfl) ?_
    refine eX_then ?_
    refine cW_ret ?_
    refine eX_then_ret ?_
    have hq : (some ((0, false)) : Option ((Int) × (Bool))) = some _ := hm
    replace hq := someE hq
    subst hq
    refine eX_ret (vs := [.int .i64 (0), .bool (false)]) [.tmp 8, .tmp 9] (by rfl) ⟨by (show lkE _ _ _ = _); kernel_rfl, ⟨by (show lkE _ _ _ = _); kernel_rfl, trivial⟩⟩ ?_
    exact ⟨rfl, hB⟩
  · have hm := condF hb7 hm
    refine cW_skip ?_
    refine eX_then ?_
    refine cW_seq ?_
    refine cW_region ?_
    refine wS_pure 1 [(10, .int .i64 (0))] (by kernel_rfl) ?_
    refine wS_end (by rfl) ?_
    refine eX_then ?_
    refine cW_seq ?_
    refine cW_seq ?_
    refine cW_region ?_
    refine wS_pure 3 [(19, .int .i64 (0)), (18, .int .i64 (((l0).length : Int))), (17, .slice A0 (l0).length cap0)] (by kernel_rfl) ?_
    refine wS_end (by rfl) ?_
    refine eX_then ?_
    obtain ⟨r57, hr58, hm⟩ := bindE hm
    have hm59 := hm
    refine cW_cut (fun a' w' => ∃ x49 : Int, x49 = r57 ∧ Fr 33 [(10, .int .i64 (x49))] a' ∧ Chg [] w0 w' ∧ w0.heap.size ≤ w'.heap.size) ?_ ?_
    · refine cW_block ?_
      refine cW_loop _ (fun (s60 : Int × Int) a' w' => ∃ x52 : Int, ∃ x53 : Int, (x52, x53) = s60 ∧ Fr 33 [(0, .slice A0 (l0).length cap0), (1, .slice A1 (l1).length cap1), (2, .int .i64 (p2)), (3, .func (.func 78) #[] #[]), (10, .int .i64 (x52)), (18, .int .i64 (((l0).length : Int))), (19, .int .i64 (x53))] a' ∧ Sl 1 encI w' fp0 A0 l0 ∧ Sl 1 encI w' fp1 A1 l1 ∧ Chg [] w0 w' ∧ w0.heap.size ≤ w'.heap.size) hr58 (fun hst => ⟨0, 0, rfl, Fr.of hst (by kernel_rfl), F0, F1, hB, hZ⟩) ?_
      rintro _ c61 a' w51 ⟨x52, x53, rfl, hF54, F55, F56, hB, hZ⟩ hx62
      refine Fr.goOn hF54 (by kernel_rfl) ?_
      have hm := hx62
      unfold m_impl_riverSum_impl_RiverBends_1_s1 at hm
      refine cW_seq ?_
      refine cW_region ?_
      refine wS_pure 1 [(20, .bool (decide (x53 < (((l0).length : Int)))))] (by kernel_rfl) ?_
      refine wS_end (by rfl) ?_
      refine eX_then ?_
      refine cW_seq ?_
      refine cW_cond (t := decide (x53 < (((l0).length : Int)))) (by kernel_rfl) (fun hb63 => ?_) (fun hb63 => ?_)
      · have hm := condT hb63 hm
        refine cW_skip ?_
        refine eX_then ?_
        refine cW_seq ?_
        refine cW_block ?_
        refine cW_seq ?_
        refine cW_region ?_
        refine wS_pure 2 [(11, .int .i64 (x53)), (21, .int .i64 (x53))] (by kernel_rfl) ?_
        refine wS_end (by rfl) ?_
        refine eX_then ?_
        refine cW_region ?_
        refine wS_pure 6 [(27, .int .i64 (x53)), (26, .int .i64 (p2)), (25, .slice A1 (l1).length cap1), (24, .slice A0 (l0).length cap0), (23, .func (.func 78) #[] #[]), (22, .int .i64 (x52))] (by kernel_rfl) ?_
        obtain ⟨y64, hy65, hm⟩ := bindE hm
        refine wS_calls (d := 28) (f := 73) (vs := [.slice A0 (l0).length cap0, .slice A1 (l1).length cap1, .int .i64 (p2), .int .i64 (x53)]) (by kernel_rfl) ent73 (c_impl_riverPath hy65 F55 F56) ?_
        rintro _ w66 ⟨A68, cap69, fp70, rfl, F71, G72, hc67⟩
        replace F55 := F55.chg hc67 Dj.nil
        replace F56 := F56.chg hc67 Dj.nil
        replace hB := hB.inS hc67 inNil
        replace G72 := low_le hZ G72
        replace hZ := Nat.le_trans hZ hc67.size
        refine ⟨.slice A68 (y64).length cap69, rfl, ?_⟩
        obtain ⟨y75, hy76, hm⟩ := bindE hm
        refine wS_calls (d := 29) (f := 78) (vs := [.slice A68 (y64).length cap69]) (by kernel_rfl) ent78 (c_impl_RiverBends_1 hy76 (F71.sl encII_ok)) ?_
        rintro _ w77 ⟨rfl, hc78⟩
        replace F55 := F55.chg hc78 Dj.nil
        replace F56 := F56.chg hc78 Dj.nil
        replace F71 := F71.chg hc78 Dj.nil
        replace hB := hB.inS hc78 inNil
        replace hZ := Nat.le_trans hZ hc78.size
        refine ⟨.int .i64 (y75), rfl, ?_⟩
        refine wS_pure 2 [(10, .int .i64 (wr (x52 + y75))), (30, .int .i64 (wr (x52 + y75)))] (by kernel_rfl) ?_
        refine wS_end (by rfl) ?_
        refine eX_block ?_
        refine eX_then ?_
        refine cW_region ?_
        refine wS_pure 2 [(19, .int .i64 (wr (x53 + 1))), (31, .int .i64 (wr (x53 + 1)))] (by kernel_rfl) ?_
        refine wS_end (by rfl) ?_
        have hq : (some (Ctl.next ((wr (x52 + y75), wr (x53 + 1)))) : Option (Ctl (Int × Int) (Int))) = some _ := hm
        replace hq := someE hq
        subst hq
        exact eX_next hx62 (fun hst => ⟨wr (x52 + y75), wr (x53 + 1), rfl, Fr.of hst (by kernel_rfl), F55, F56, hB, hZ⟩)
      · have hm := condF hb63 hm
        refine cW_exit ?_
        refine eX_then_exit ?_
        have hq : (some (Ctl.out x52) : Option (Ctl (Int × Int) (Int))) = some _ := hm
        replace hq := someE hq
        subst hq
        refine eX_outX hx62 (fun hr79 => ?_)
        replace hr79 := hr79.symm
        subst hr79
        refine eX_block_hit ?_
        exact eX_J (fun hst => ⟨x52, rfl, Fr.of hst (by kernel_rfl), hB, hZ⟩)
    · rintro a' w48 ⟨x49, hJ, hF50, hB, hZ⟩
      subst hJ
      refine Fr.goX hF50 (by kernel_rfl) ?_
      refine eX_then ?_
      refine cW_seq ?_
      refine cW_region ?_
      refine wS_pure 3 [(9, .bool (true)), (8, .int .i64 (x49)), (32, .int .i64 (x49))] (by kernel_rfl) ?_
      refine wS_end (by rfl) ?_
      refine eX_then ?_
      refine cW_ret ?_
      have hq : (some ((x49, true)) : Option ((Int) × (Bool))) = some _ := hm
      replace hq := someE hq
      subst hq
      refine eX_ret (vs := [.int .i64 (x49), .bool (true)]) [.tmp 8, .tmp 9] (by rfl) ⟨by (show lkE _ _ _ = _); kernel_rfl, ⟨by (show lkE _ _ _ = _); kernel_rfl, trivial⟩⟩ ?_
      exact ⟨rfl, hB⟩

set_option maxRecDepth 100000 in
/-- impl.RiverBends -/
theorem c_impl_RiverBends {w0 : World} {l0 : List (Int)} {A0 : Option Addr} {cap0 : Nat} {fp0 : List Nat} {l1 : List (Int)} {A1 : Option Addr} {cap1 : Nat} {fp1 : List Nat} {p2 : Int} {r : (Int) × (Bool)} (hm : m_impl_RiverBends l0 l1 p2 = some r) (F0 : Sl 1 encI w0 fp0 A0 l0) (F1 : Sl 1 encI w0 fp1 A1 l1) :
    Calls Try.prog 20 #[.slice A0 (l0).length cap0, .slice A1 (l1).length cap1, .int .i64 (p2)] w0 fun e w' => e = .returned (.tuple #[.int .i64 (r.1), .bool (r.2)]) ∧ Chg [] w0 w' := by
  have L0 := F0.low
  have L1 := F1.low
  have hB : Chg [] w0 w0 := Chg.refl _ _
  have hZ := Nat.le_refl w0.heap.size
  unfold m_impl_RiverBends at hm
  refine enterE (N := 14) Try.func20 (by rfl) Try.ntmps20 (by simp) [(0, .slice A0 (l0).length cap0), (1, .slice A1 (l1).length cap1), (2, .int .i64 (p2))] (by rfl) (by kernel_rfl) (fun a => ?_)
  refine cW_seq ?_
  refine cW_region ?_
  refine wS_pure 2 [(7, .bool (false)), (6, .int .i64 (0))] (by kernel_rfl) ?_
  refine wS_end (by rfl) ?_
  refine eX_then ?_
  refine cW_seq ?_
  refine cW_region ?_
  refine wS_pure 3 [(10, .int .i64 (p2)), (9, .slice A1 (l1).length cap1), (8, .slice A0 (l0).length cap0)] (by kernel_rfl) ?_
  obtain ⟨y3, hy4, hm⟩ := bindE hm
  refine wS_calls (d := 11) (f := 76) (vs := [.slice A0 (l0).length cap0, .slice A1 (l1).length cap1, .int .i64 (p2), .func (.func 78) #[] #[]]) (by kernel_rfl) ent76 (c_impl_riverSum_impl_RiverBends_1 hy4 F0 F1) ?_
  rintro _ w5 ⟨rfl, hc6⟩
  replace F0 := F0.chg hc6 Dj.nil
  replace F1 := F1.chg hc6 Dj.nil
  replace hB := hB.inS hc6 inNil
  replace hZ := Nat.le_trans hZ hc6.size
  refine ⟨.tuple #[.int .i64 (y3.1), .bool (y3.2)], rfl, ?_⟩
  refine wS_pure 4 [(7, .bool (y3.2)), (6, .int .i64 (y3.1)), (13, .bool (y3.2)), (12, .int .i64 (y3.1))] (by kernel_rfl) ?_
  refine wS_end (by rfl) ?_
  refine eX_then ?_
  refine cW_ret ?_
  have hq : (some ((y3.1, y3.2)) : Option ((Int) × (Bool))) = some _ := hm
  replace hq := someE hq
  subst hq
  refine eX_ret (vs := [.int .i64 (y3.1), .bool (y3.2)]) [.tmp 6, .tmp 7] (by rfl) ⟨by (show lkE _ _ _ = _); kernel_rfl, ⟨by (show lkE _ _ _ = _); kernel_rfl, trivial⟩⟩ ?_
  exact ⟨rfl, hB⟩

set_option maxRecDepth 100000 in
/-- impl.AreApart -/
theorem c_impl_AreApart {w0 : World} {l0 : List (List (Int × Int))} {A0 : Option Addr} {cap0 : Nat} {fp0 : List Nat} {r : (Bool)} (hm : m_impl_AreApart l0 = some r) (F0 : SlR 2 encII w0 fp0 A0 l0) :
    Calls Try.prog 21 #[.slice A0 (l0).length cap0] w0 fun e w' => e = .returned (.bool (r)) ∧ Chg [] w0 w' := by
  have L0 := F0.low
  have hB : Chg [] w0 w0 := Chg.refl _ _
  have hZ := Nat.le_refl w0.heap.size
  unfold m_impl_AreApart at hm
  refine enterE (N := 36) Try.func21 (by rfl) Try.ntmps21 (by simp) [(0, .slice A0 (l0).length cap0)] (by rfl) (by kernel_rfl) (fun a => ?_)
  refine cW_seq ?_
  refine cW_region ?_
  refine wS_pure 1 [(2, .bool (false))] (by kernel_rfl) ?_
  refine wS_end (by rfl) ?_
  refine eX_then ?_
  refine cW_seq ?_
  refine cW_region ?_
  refine wS_bs0 (α := Int × Int) (enc := encII) (d := 8) (t := 32) (T := 37) (by kernel_rfl) el32 ?_
  intro b2 w3 G4 F5 hc6
  replace F0 := F0.chg hc6 Dj.nil
  replace hB := hB.inS hc6 inNil
  replace G4 := Nat.le_trans hZ G4
  replace G4 := low1 G4
  replace hZ := Nat.le_trans hZ hc6.size
  refine wS_pure 1 [(3, .slice (some ⟨b2, 0, none⟩) (([] : List (Int × Int))).length 0)] (by kernel_rfl) ?_
  refine wS_end (by rfl) ?_
  refine eX_then ?_
  refine cW_seq ?_
  refine cW_seq ?_
  refine cW_region ?_
  refine wS_pure 3 [(11, .bool (decide ((((l0).length : Int)) > 20))), (10, .int .i64 (((l0).length : Int))), (9, .slice A0 (l0).length cap0)] (by kernel_rfl) ?_
  refine wS_end (by rfl) ?_
  refine eX_then ?_
  refine cW_cond (t := decide ((((l0).length : Int)) > 20)) (by kernel_rfl) (fun hb8 => ?_) (fun hb8 => ?_)
  · have hm := condT hb8 hm
    refine cW_seq ?_
    refine cW_region ?_
    refine wS_pure 1 [(2, .bool (false))] (by kernel_rfl) ?_
    refine wS_end (by rfl) ?_
    refine eX_then ?_
    refine cW_ret ?_
    refine eX_then_ret ?_
    have hq : (some false : Option ((Bool))) = some _ := hm
    replace hq := someE hq
    subst hq
    refine eX_ret (vs := [.bool (false)]) [.tmp 2] (by rfl) ⟨by (show lkE _ _ _ = _); kernel_rfl, trivial⟩ ?_
    exact ⟨rfl, hB⟩
  · have hm := condF hb8 hm
    refine cW_skip ?_
    refine eX_then ?_
    refine cW_seq ?_
    refine cW_seq ?_
    refine cW_region ?_
    refine wS_pure 3 [(14, .int .i64 (0)), (13, .int .i64 (((l0).length : Int))), (12, .slice A0 (l0).length cap0)] (by kernel_rfl) ?_
    refine wS_end (by rfl) ?_
    refine eX_then ?_
    obtain ⟨r108, hr109, hm⟩ := bindE hm
    have hm110 := hm
    refine cW_cut (fun a' w' => ∃ l89 : List (Int × Int), ∃ A90 : Option Addr, ∃ cap91 : Nat, ∃ fp92 : List Nat, Sum.inl l89 = r108 ∧ Fr 36 [(3, .slice A90 (l89).length cap91)] a' ∧ Ow 2 encII 37 w' fp92 A90 cap91 l89 ∧ (∀ x ∈ fp92, w0.heap.size ≤ x) ∧ Chg [] w0 w' ∧ w0.heap.size ≤ w'.heap.size) ?_ ?_
    · refine cW_block ?_
      refine cW_loop _ (fun (s111 : (List (Int × Int)) × Int) a' w' => ∃ l98 : List (Int × Int), ∃ A99 : Option Addr, ∃ cap100 : Nat, ∃ fp101 : List Nat, ∃ x103 : Int, (l98, x103) = s111 ∧ Fr 36 [(3, .slice A99 (l98).length cap100), (12, .slice A0 (l0).length cap0), (13, .int .i64 (((l0).length : Int))), (14, .int .i64 (x103))] a' ∧ SlR 2 encII w' fp0 A0 l0 ∧ Ow 2 encII 37 w' fp101 A99 cap100 l98 ∧ (∀ x ∈ fp101, w0.heap.size ≤ x) ∧ Chg [] w0 w' ∧ w0.heap.size ≤ w'.heap.size) hr109 (fun hst => ⟨([] : List (Int × Int)), (some ⟨b2, 0, none⟩), 0, [b2], 0, rfl, Fr.of hst (by kernel_rfl), F0, F5, G4, hB, hZ⟩) ?_
      rintro _ c112 a' w97 ⟨l98, A99, cap100, fp101, x103, rfl, hF104, F105, F106, G107, hB, hZ⟩ hx113
      refine Fr.goOn hF104 (by kernel_rfl) ?_
      have hm := hx113
      unfold m_impl_AreApart_s1 at hm
      refine cW_seq ?_
      refine cW_region ?_
      refine wS_pure 1 [(15, .bool (decide (x103 < (((l0).length : Int)))))] (by kernel_rfl) ?_
      refine wS_end (by rfl) ?_
      refine eX_then ?_
      refine cW_seq ?_
      refine cW_cond (t := decide (x103 < (((l0).length : Int)))) (by kernel_rfl) (fun hb114 => ?_) (fun hb114 => ?_)
      · have hm := condT hb114 hm
        refine cW_skip ?_
        refine eX_then ?_
        refine cW_seq ?_
        refine cW_block ?_
        refine cW_seq ?_
        refine cW_region ?_
        obtain ⟨x115, hx116, hm⟩ := bindE hm
        refine wS_idx (d := 16) (T := 31) (A := A0) (n := (l0).length) (cap := cap0) (kd := .i64) (m := x103) (by kernel_rfl) sl31 (F105.is hx116) ?_
        obtain ⟨A117, cap118, hc120, F119, K121⟩ := SlR.row F105 hx116
        refine wS_load1 (d := 17) (T := 32) (ad := (elA A0 1 (x103) 0)) (v := .slice A117 (x115).length cap118) (by kernel_rfl) vt32 hc120 ?_
        refine wS_pure 1 [(5, .slice A117 (x115).length cap118)] (by kernel_rfl) ?_
        refine wS_end (by rfl) ?_
        refine eX_then ?_
        refine cW_seq ?_
        refine cW_region ?_
        refine wS_pure 1 [(19, .slice A117 (x115).length cap118)] (by kernel_rfl) ?_
        obtain ⟨y123, hy124, hm⟩ := bindE hm
        refine wS_calls (d := 20) (f := 74) (vs := [.slice A117 (x115).length cap118]) (by kernel_rfl) ent74 (c_impl_through hy124 F119 K121) ?_
        rintro _ w125 ⟨A127, cap128, fp129, rfl, F130, G131, hc126⟩
        have D134 : Dj fp101 fp129 := Dj.of F106.low G131
        replace F105 := F105.chg hc126 Dj.nil
        replace F106 := F106.chg hc126 Dj.nil
        replace F119 := F119.chg hc126 Dj.nil
        replace hB := hB.inS hc126 inNil
        replace G131 := low_le hZ G131
        replace hZ := Nat.le_trans hZ hc126.size
        refine ⟨.tuple #[.slice A127 (y123.1).length cap128, .bool (y123.2)], rfl, ?_⟩
        refine wS_pure 5 [(7, .bool (y123.2)), (6, .slice A127 (y123.1).length cap128), (22, .bool (y123.2)), (21, .slice A127 (y123.1).length cap128), (18, .tuple #[.slice A127 (y123.1).length cap128, .bool (y123.2)])] (by kernel_rfl) ?_
        refine wS_end (by rfl) ?_
        refine eX_then ?_
        refine cW_seq ?_
        refine cW_seq ?_
        refine cW_region ?_
        refine wS_pure 2 [(24, .bool (!y123.2)), (23, .bool (y123.2))] (by kernel_rfl) ?_
        refine wS_end (by rfl) ?_
        refine eX_then ?_
        refine cW_cond (t := !y123.2) (by kernel_rfl) (fun hb135 => ?_) (fun hb135 => ?_)
        · have hm := condT hb135 hm
          refine cW_seq ?_
          refine cW_region ?_
          refine wS_pure 1 [(2, .bool (false))] (by kernel_rfl) ?_
          refine wS_end (by rfl) ?_
          refine eX_then ?_
          refine cW_ret ?_
          refine eX_then_ret ?_
          refine eX_block_ret ?_
          refine eX_then_ret ?_
          have hq : (some (Ctl.out (Sum.inr false)) : Option (Ctl ((List (Int × Int)) × Int) (Sum ((List (Int × Int))) ((Bool))))) = some _ := hm
          replace hq := someE hq
          subst hq
          refine eX_outR hx113 (fun hr => ?_)
          subst hr
          refine eX_block_ret ?_
          refine eX_then_ret ?_
          refine eX_then_ret ?_
          have hq : (some false : Option ((Bool))) = some _ := hm110
          replace hq := someE hq
          subst hq
          refine eX_ret (vs := [.bool (false)]) [.tmp 2] (by rfl) ⟨by (show lkE _ _ _ = _); kernel_rfl, trivial⟩ ?_
          exact ⟨rfl, hB⟩
        · have hm := condF hb135 hm
          refine cW_skip ?_
          refine eX_then ?_
          refine cW_region ?_
          refine wS_pure 2 [(26, .slice A127 (y123.1).length cap128), (25, .slice A99 (l98).length cap100)] (by kernel_rfl) ?_
          obtain ⟨_, hk136, hm⟩ := bindE hm
          replace hk136 := apE hk136
          refine wS_appendAny (enc := encII) (l := (l98 : List (Int × Int))) (l2 := (y123.1 : List (Int × Int))) (d := 27) (t := 32) (T := 37) (A := A99) (A2 := A127) (cap := cap100) (cap2 := cap128) (by kernel_rfl) el32 encII_ok F106 (F130.sl encII_ok) hk136 ?_
          intro w137 fp138 A139 cap140 F141 hc142 hp143
          have G145 := low_ap G107 hZ hp143
          have D146 : Dj fp129 fp138 := Dj.ap (D134).symm F130.low hp143
          replace F105 := F105.chg hc142 (Dj.of L0 G107)
          replace F119 := F119.chg hc142 (Dj.of L0 G107)
          replace F130 := F130.chg hc142 (Dj.of L0 G107) (D134).symm
          replace hB := hB.inS hc142 (inLow G107)
          replace hZ := Nat.le_trans hZ hc142.size
          refine wS_pure 1 [(3, .slice A139 (l98 ++ y123.1).length cap140)] (by kernel_rfl) ?_
          refine wS_end (by rfl) ?_
          refine eX_block ?_
          refine eX_then ?_
          refine cW_region ?_
          refine wS_pure 2 [(14, .int .i64 (wr (x103 + 1))), (28, .int .i64 (wr (x103 + 1)))] (by kernel_rfl) ?_
          refine wS_end (by rfl) ?_
          have hq : (some (Ctl.next ((l98 ++ y123.1, wr (x103 + 1)))) : Option (Ctl ((List (Int × Int)) × Int) (Sum ((List (Int × Int))) ((Bool))))) = some _ := hm
          replace hq := someE hq
          subst hq
          exact eX_next hx113 (fun hst => ⟨l98 ++ y123.1, A139, cap140, fp138, wr (x103 + 1), rfl, Fr.of hst (by kernel_rfl), F105, F141, G145, hB, hZ⟩)
      · have hm := condF hb114 hm
        refine cW_exit ?_
        refine eX_then_exit ?_
        have hq : (some (Ctl.out (Sum.inl l98)) : Option (Ctl ((List (Int × Int)) × Int) (Sum ((List (Int × Int))) ((Bool))))) = some _ := hm
        replace hq := someE hq
        subst hq
        refine eX_outX hx113 (fun hr147 => ?_)
        replace hr147 := hr147.symm
        subst hr147
        refine eX_block_hit ?_
        exact eX_J (fun hst => ⟨l98, A99, cap100, fp101, rfl, Fr.of hst (by kernel_rfl), F106, G107, hB, hZ⟩)
    · rintro a' w88 ⟨l89, A90, cap91, fp92, hJ, hF94, F95, G96, hB, hZ⟩
      subst hJ
      refine Fr.goX hF94 (by kernel_rfl) ?_
      refine eX_then ?_
      refine cW_seq ?_
      refine cW_region ?_
      refine wS_pure 1 [(29, .slice A90 (l89).length cap91)] (by kernel_rfl) ?_
      obtain ⟨y148, hy149, hm⟩ := bindE hm
      refine wS_calls (d := 30) (f := 75) (vs := [.slice A90 (l89).length cap91]) (by kernel_rfl) ent75 (c_slices_Clone_impl_Point_impl_Point hy149 (F95.sl encII_ok)) ?_
      rintro _ w150 ⟨A152, cap153, fp154, rfl, F155, G156, hc151⟩
      have D159 : Dj fp92 fp154 := Dj.of F95.low G156
      replace F95 := F95.chg hc151 Dj.nil
      replace hB := hB.inS hc151 inNil
      replace G156 := low_le hZ G156
      replace hZ := Nat.le_trans hZ hc151.size
      refine ⟨.slice A152 (y148).length cap153, rfl, ?_⟩
      obtain ⟨y160, hy161, hm⟩ := bindE hm
      refine wS_calls (d := 31) (f := 79) (vs := [.slice A152 (y148).length cap153]) (by kernel_rfl) ent79 (c_impl_sorted hy161 (F155.sl encII_ok)) ?_
      rintro _ w162 ⟨A164, cap165, fp166, rfl, F167, G168, hc163⟩
      have D171 : Dj fp92 fp166 := Dj.of F95.low G168
      have D172 : Dj fp154 fp166 := Dj.of F155.low G168
      replace F95 := F95.chg hc163 Dj.nil
      replace F155 := F155.chg hc163 Dj.nil
      replace hB := hB.inS hc163 inNil
      replace G168 := low_le hZ G168
      replace hZ := Nat.le_trans hZ hc163.size
      refine ⟨.slice A164 (y160).length cap165, rfl, ?_⟩
      refine wS_pure 5 [(2, .bool ((((y160).length : Int)) == (((l89).length : Int)))), (35, .bool ((((y160).length : Int)) == (((l89).length : Int)))), (34, .int .i64 (((l89).length : Int))), (33, .slice A90 (l89).length cap91), (32, .int .i64 (((y160).length : Int)))] (by kernel_rfl) ?_
      refine wS_end (by rfl) ?_
      refine eX_then ?_
      refine cW_ret ?_
      have hq : (some ((((y160).length : Int)) == (((l89).length : Int))) : Option ((Bool))) = some _ := hm
      replace hq := someE hq
      subst hq
      refine eX_ret (vs := [.bool ((((y160).length : Int)) == (((l89).length : Int)))]) [.tmp 2] (by rfl) ⟨by (show lkE _ _ _ = _); kernel_rfl, trivial⟩ ?_
      exact ⟨rfl, hB⟩

set_option maxRecDepth 100000 in
/-- laws.FnRivers -/
theorem c_laws_FnRivers {w0 : World} {l0 : List (Int)} {A0 : Option Addr} {cap0 : Nat} {fp0 : List Nat} {l1 : List (Int)} {A1 : Option Addr} {cap1 : Nat} {fp1 : List Nat} {r : (Bool)} (hm : m_laws_FnRivers l0 l1 = some r) (F0 : Sl 1 encU w0 fp0 A0 l0) (F1 : Sl 1 encU w0 fp1 A1 l1) :
    Calls Try.prog 3 #[.slice A0 (l0).length cap0, .slice A1 (l1).length cap1] w0 fun e w' => e = .returned (.bool (r)) ∧ Chg [] w0 w' := by
  have L0 := F0.low
  have L1 := F1.low
  have hB : Chg [] w0 w0 := Chg.refl _ _
  have hZ := Nat.le_refl w0.heap.size
  unfold m_laws_FnRivers at hm
  refine enterE (N := 215) Try.func3 (by rfl) Try.ntmps3 (by simp) [(0, .slice A0 (l0).length cap0), (1, .slice A1 (l1).length cap1)] (by rfl) (by kernel_rfl) (fun a => ?_)
  refine cW_seq ?_
  refine cW_region ?_
  refine wS_pure 1 [(4, .bool (false))] (by kernel_rfl) ?_
  refine wS_end (by rfl) ?_
  refine eX_then ?_
  refine cW_seq ?_
  refine cW_seq ?_
  refine cW_region ?_
  refine wS_pure 2 [(25, .slice A1 (l1).length cap1), (24, .slice A0 (l0).length cap0)] (by kernel_rfl) ?_
  obtain ⟨y3, hy4, hm⟩ := bindE hm
  refine wS_calls (d := 26) (f := 11) (vs := [.slice A0 (l0).length cap0, .slice A1 (l1).length cap1]) (by kernel_rfl) ent11 (c_laws_r8Long hy4 F0 F1) ?_
  rintro _ w5 ⟨rfl, hc6⟩
  replace F0 := F0.chg hc6 Dj.nil
  replace F1 := F1.chg hc6 Dj.nil
  replace hB := hB.inS hc6 inNil
  replace hZ := Nat.le_trans hZ hc6.size
  refine ⟨.bool (y3), rfl, ?_⟩
  refine wS_end (by rfl) ?_
  refine eX_then ?_
  refine cW_cond (t := y3) (by kernel_rfl) (fun hb7 => ?_) (fun hb7 => ?_)
  · have hm := condT hb7 hm
    refine cW_seq ?_
    refine cW_region ?_
    refine wS_pure 1 [(4, .bool (true))] (by kernel_rfl) ?_
    refine wS_end (by rfl) ?_
    refine eX_then ?_
    refine cW_ret ?_
    refine eX_then_ret ?_
    have hq : (some true : Option ((Bool))) = some _ := hm
    replace hq := someE hq
    subst hq
    refine eX_ret (vs := [.bool (true)]) [.tmp 4] (by rfl) ⟨by (show lkE _ _ _ = _); kernel_rfl, trivial⟩ ?_
    exact ⟨rfl, hB⟩
  · have hm := condF hb7 hm
    refine cW_skip ?_
    refine eX_then ?_
    refine cW_seq ?_
    refine cW_region ?_
    refine wS_pure 1 [(27, .slice A0 (l0).length cap0)] (by kernel_rfl) ?_
    obtain ⟨y8, hy9, hm⟩ := bindE hm
    refine wS_calls (d := 28) (f := 12) (vs := [.slice A0 (l0).length cap0, .int .i64 (40), .int .i64 (7)]) (by kernel_rfl) ent12 (c_laws_r8At hy9 F0) ?_
    rintro _ w10 ⟨rfl, hc11⟩
    replace F0 := F0.chg hc11 Dj.nil
    replace F1 := F1.chg hc11 Dj.nil
    replace hB := hB.inS hc11 inNil
    replace hZ := Nat.le_trans hZ hc11.size
    refine ⟨.int .i64 (y8), rfl, ?_⟩
    refine wS_pure 2 [(5, .int .i64 (wr (1 + y8))), (29, .int .i64 (wr (1 + y8)))] (by kernel_rfl) ?_
    refine wS_end (by rfl) ?_
    refine eX_then ?_
    refine cW_seq ?_
    refine cW_region ?_
    refine wS_pure 2 [(31, .int .i64 (wr (1 + y8))), (30, .slice A0 (l0).length cap0)] (by kernel_rfl) ?_
    obtain ⟨y12, hy13, hm⟩ := bindE hm
    refine wS_calls (d := 32) (f := 13) (vs := [.slice A0 (l0).length cap0, .int .i64 (wr (1 + y8))]) (by kernel_rfl) ent13 (c_spec_R8Row hy13 F0) ?_
    rintro _ w14 ⟨A16, cap17, fp18, rfl, F19, G20, hc15⟩
    replace F0 := F0.chg hc15 Dj.nil
    replace F1 := F1.chg hc15 Dj.nil
    replace hB := hB.inS hc15 inNil
    replace G20 := low_le hZ G20
    replace hZ := Nat.le_trans hZ hc15.size
    refine ⟨.slice A16 (y12).length cap17, rfl, ?_⟩
    refine wS_pure 1 [(6, .slice A16 (y12).length cap17)] (by kernel_rfl) ?_
    refine wS_end (by rfl) ?_
    refine eX_then ?_
    refine cW_seq ?_
    refine cW_region ?_
    refine wS_pure 2 [(34, .int .i64 (wr (1 + y8))), (33, .slice A1 (l1).length cap1)] (by kernel_rfl) ?_
    obtain ⟨y23, hy24, hm⟩ := bindE hm
    refine wS_calls (d := 35) (f := 13) (vs := [.slice A1 (l1).length cap1, .int .i64 (wr (1 + y8))]) (by kernel_rfl) ent13 (c_spec_R8Row hy24 F1) ?_
    rintro _ w25 ⟨A27, cap28, fp29, rfl, F30, G31, hc26⟩
    have D34 : Dj fp18 fp29 := Dj.of F19.low G31
    replace F0 := F0.chg hc26 Dj.nil
    replace F1 := F1.chg hc26 Dj.nil
    replace F19 := F19.chg hc26 Dj.nil
    replace hB := hB.inS hc26 inNil
    replace G31 := low_le hZ G31
    replace hZ := Nat.le_trans hZ hc26.size
    refine ⟨.slice A27 (y23).length cap28, rfl, ?_⟩
    refine wS_pure 1 [(7, .slice A27 (y23).length cap28)] (by kernel_rfl) ?_
    refine wS_end (by rfl) ?_
    refine eX_then ?_
    refine cW_seq ?_
    refine cW_region ?_
    refine wS_pure 2 [(38, .slice A27 (y23).length cap28), (37, .slice A16 (y12).length cap17)] (by kernel_rfl) ?_
    obtain ⟨y35, hy36, hm⟩ := bindE hm
    refine wS_calls (d := 39) (f := 14) (vs := [.slice A16 (y12).length cap17, .slice A27 (y23).length cap28]) (by kernel_rfl) ent14 (c_impl_LeastTracks hy36 (F19.sl encI_ok) (F30.sl encI_ok)) ?_
    rintro _ w37 ⟨rfl, hc38⟩
    replace F0 := F0.chg hc38 Dj.nil
    replace F1 := F1.chg hc38 Dj.nil
    replace F19 := F19.chg hc38 Dj.nil
    replace F30 := F30.chg hc38 Dj.nil
    replace hB := hB.inS hc38 inNil
    replace hZ := Nat.le_trans hZ hc38.size
    refine ⟨.tuple #[.int .i64 (y35.1), .bool (y35.2)], rfl, ?_⟩
    refine wS_pure 5 [(9, .bool (y35.2)), (8, .int .i64 (y35.1)), (41, .bool (y35.2)), (40, .int .i64 (y35.1)), (36, .tuple #[.int .i64 (y35.1), .bool (y35.2)])] (by kernel_rfl) ?_
    refine wS_end (by rfl) ?_
    refine eX_then ?_
    refine cW_prune [(0, .slice A0 (l0).length cap0), (5, .int .i64 (wr (1 + y8))), (6, .slice A16 (y12).length cap17), (7, .slice A27 (y23).length cap28), (8, .int .i64 (y35.1)), (9, .bool (y35.2))] (by kernel_rfl) (by kernel_rfl) (fun a39 => ?_)
    refine cW_seq ?_
    refine cW_seq ?_
    refine cW_region ?_
    refine wS_pure 3 [(44, .bool (!y35.2)), (43, .bool (!y35.2)), (42, .bool (y35.2))] (by kernel_rfl) ?_
    refine wS_bool (!y35.2) (fun hb40 => ?_) (fun hb40 => ?_)
    · have hm := condT hb40 hm
      rewrite [hb40]
      refine wS_pure 28 [(72, .bool (true)), (71, undef), (70, undef), (69, undef), (68, undef), (67, undef), (66, .bool (true)), (65, .bool (true)), (64, undef), (63, undef), (62, undef), (61, undef), (60, undef), (59, .bool (true)), (58, .bool (true)), (57, undef), (56, undef), (55, undef), (54, undef), (53, .bool (true)), (52, .bool (true)), (51, undef), (50, undef), (49, undef), (48, .bool (true)), (47, .bool (true)), (46, undef), (45, undef)] (by kernel_rfl) ?_
      refine wS_end (by rfl) ?_
      refine eX_then ?_
      refine cW_prune [(0, .slice A0 (l0).length cap0), (5, .int .i64 (wr (1 + y8))), (6, .slice A16 (y12).length cap17), (7, .slice A27 (y23).length cap28), (8, .int .i64 (y35.1)), (72, .bool (true))] (by kernel_rfl) (by kernel_rfl) (fun a41 => ?_)
      refine cW_cond_t (by kernel_rfl) ?_
      refine cW_seq ?_
      refine cW_region ?_
      refine wS_pure 1 [(4, .bool (false))] (by kernel_rfl) ?_
      refine wS_end (by rfl) ?_
      refine eX_then ?_
      refine cW_ret ?_
      refine eX_then_ret ?_
      have hq : (some false : Option ((Bool))) = some _ := hm
      replace hq := someE hq
      subst hq
      refine eX_ret (vs := [.bool (false)]) [.tmp 4] (by rfl) ⟨by (show lkE _ _ _ = _); kernel_rfl, trivial⟩ ?_
      exact ⟨rfl, hB⟩
    · have hm := condF hb40 hm
      rewrite [hb40]
      refine wS_pure 4 [(48, .bool (decide (y35.1 < 0))), (47, .bool (decide (y35.1 < 0))), (46, .bool (decide (y35.1 < 0))), (45, .int .i64 (y35.1))] (by kernel_rfl) ?_
      refine wS_bool (decide (y35.1 < 0)) (fun hb42 => ?_) (fun hb42 => ?_)
      · have hm := condT hb42 hm
        rewrite [hb42]
        refine wS_pure 24 [(72, .bool (true)), (71, undef), (70, undef), (69, undef), (68, undef), (67, undef), (66, .bool (true)), (65, .bool (true)), (64, undef), (63, undef), (62, undef), (61, undef), (60, undef), (59, .bool (true)), (58, .bool (true)), (57, undef), (56, undef), (55, undef), (54, undef), (53, .bool (true)), (52, .bool (true)), (51, undef), (50, undef), (49, undef)] (by kernel_rfl) ?_
        refine wS_end (by rfl) ?_
        refine eX_then ?_
        refine cW_prune [(0, .slice A0 (l0).length cap0), (5, .int .i64 (wr (1 + y8))), (6, .slice A16 (y12).length cap17), (7, .slice A27 (y23).length cap28), (8, .int .i64 (y35.1)), (72, .bool (true))] (by kernel_rfl) (by kernel_rfl) (fun a43 => ?_)
        refine cW_cond_t (by kernel_rfl) ?_
        refine cW_seq ?_
        refine cW_region ?_
        refine wS_pure 1 [(4, .bool (false))] (by kernel_rfl) ?_
        refine wS_end (by rfl) ?_
        refine eX_then ?_
        refine cW_ret ?_
        refine eX_then_ret ?_
        have hq : (some false : Option ((Bool))) = some _ := hm
        replace hq := someE hq
        subst hq
        refine eX_ret (vs := [.bool (false)]) [.tmp 4] (by rfl) ⟨by (show lkE _ _ _ = _); kernel_rfl, trivial⟩ ?_
        exact ⟨rfl, hB⟩
      · have hm := condF hb42 hm
        rewrite [hb42]
        refine wS_pure 5 [(53, .bool (decide (y35.1 > (wr (1 + y8))))), (52, .bool (decide (y35.1 > (wr (1 + y8))))), (51, .bool (decide (y35.1 > (wr (1 + y8))))), (50, .int .i64 (wr (1 + y8))), (49, .int .i64 (y35.1))] (by kernel_rfl) ?_
        refine wS_bool (decide (y35.1 > (wr (1 + y8)))) (fun hb44 => ?_) (fun hb44 => ?_)
        · have hm := condT hb44 hm
          rewrite [hb44]
          refine wS_pure 19 [(72, .bool (true)), (71, undef), (70, undef), (69, undef), (68, undef), (67, undef), (66, .bool (true)), (65, .bool (true)), (64, undef), (63, undef), (62, undef), (61, undef), (60, undef), (59, .bool (true)), (58, .bool (true)), (57, undef), (56, undef), (55, undef), (54, undef)] (by kernel_rfl) ?_
          refine wS_end (by rfl) ?_
          refine eX_then ?_
          refine cW_prune [(0, .slice A0 (l0).length cap0), (5, .int .i64 (wr (1 + y8))), (6, .slice A16 (y12).length cap17), (7, .slice A27 (y23).length cap28), (8, .int .i64 (y35.1)), (72, .bool (true))] (by kernel_rfl) (by kernel_rfl) (fun a45 => ?_)
          refine cW_cond_t (by kernel_rfl) ?_
          refine cW_seq ?_
          refine cW_region ?_
          refine wS_pure 1 [(4, .bool (false))] (by kernel_rfl) ?_
          refine wS_end (by rfl) ?_
          refine eX_then ?_
          refine cW_ret ?_
          refine eX_then_ret ?_
          have hq : (some false : Option ((Bool))) = some _ := hm
          replace hq := someE hq
          subst hq
          refine eX_ret (vs := [.bool (false)]) [.tmp 4] (by rfl) ⟨by (show lkE _ _ _ = _); kernel_rfl, trivial⟩ ?_
          exact ⟨rfl, hB⟩
        · have hm := condF hb44 hm
          rewrite [hb44]
          refine wS_pure 2 [(55, .slice A27 (y23).length cap28), (54, .slice A16 (y12).length cap17)] (by kernel_rfl) ?_
          obtain ⟨y46, hy47, hm⟩ := bindE hm
          refine wS_calls (d := 56) (f := 15) (vs := [.slice A16 (y12).length cap17, .slice A27 (y23).length cap28]) (by kernel_rfl) ent15 (c_impl_ValidRiver hy47 (F19.sl encI_ok) (F30.sl encI_ok)) ?_
          rintro _ w48 ⟨rfl, hc49⟩
          replace F0 := F0.chg hc49 Dj.nil
          replace F1 := F1.chg hc49 Dj.nil
          replace F19 := F19.chg hc49 Dj.nil
          replace F30 := F30.chg hc49 Dj.nil
          replace hB := hB.inS hc49 inNil
          replace hZ := Nat.le_trans hZ hc49.size
          refine ⟨.bool (y46), rfl, ?_⟩
          refine wS_pure 3 [(59, .bool (!y46)), (58, .bool (!y46)), (57, .bool (!y46))] (by kernel_rfl) ?_
          refine wS_bool (!y46) (fun hb50 => ?_) (fun hb50 => ?_)
          · have hm := condT hb50 hm
            rewrite [hb50]
            refine wS_pure 13 [(72, .bool (true)), (71, undef), (70, undef), (69, undef), (68, undef), (67, undef), (66, .bool (true)), (65, .bool (true)), (64, undef), (63, undef), (62, undef), (61, undef), (60, undef)] (by kernel_rfl) ?_
            refine wS_end (by rfl) ?_
            refine eX_then ?_
            refine cW_prune [(0, .slice A0 (l0).length cap0), (5, .int .i64 (wr (1 + y8))), (6, .slice A16 (y12).length cap17), (7, .slice A27 (y23).length cap28), (8, .int .i64 (y35.1)), (72, .bool (true))] (by kernel_rfl) (by kernel_rfl) (fun a51 => ?_)
            refine cW_cond_t (by kernel_rfl) ?_
            refine cW_seq ?_
            refine cW_region ?_
            refine wS_pure 1 [(4, .bool (false))] (by kernel_rfl) ?_
            refine wS_end (by rfl) ?_
            refine eX_then ?_
            refine cW_ret ?_
            refine eX_then_ret ?_
            have hq : (some false : Option ((Bool))) = some _ := hm
            replace hq := someE hq
            subst hq
            refine eX_ret (vs := [.bool (false)]) [.tmp 4] (by rfl) ⟨by (show lkE _ _ _ = _); kernel_rfl, trivial⟩ ?_
            exact ⟨rfl, hB⟩
          · have hm := condF hb50 hm
            rewrite [hb50]
            refine wS_pure 3 [(62, .int .i64 (y35.1)), (61, .slice A27 (y23).length cap28), (60, .slice A16 (y12).length cap17)] (by kernel_rfl) ?_
            obtain ⟨y52, hy53, hm⟩ := bindE hm
            refine wS_calls (d := 63) (f := 16) (vs := [.slice A16 (y12).length cap17, .slice A27 (y23).length cap28, .int .i64 (y35.1)]) (by kernel_rfl) ent16 (c_impl_FitsRiver hy53 (F19.sl encI_ok) (F30.sl encI_ok)) ?_
            rintro _ w54 ⟨rfl, hc55⟩
            replace F0 := F0.chg hc55 Dj.nil
            replace F1 := F1.chg hc55 Dj.nil
            replace F19 := F19.chg hc55 Dj.nil
            replace F30 := F30.chg hc55 Dj.nil
            replace hB := hB.inS hc55 inNil
            replace hZ := Nat.le_trans hZ hc55.size
            refine ⟨.bool (y52), rfl, ?_⟩
            refine wS_pure 3 [(66, .bool (!y52)), (65, .bool (!y52)), (64, .bool (!y52))] (by kernel_rfl) ?_
            refine wS_bool (!y52) (fun hb56 => ?_) (fun hb56 => ?_)
            · have hm := condT hb56 hm
              rewrite [hb56]
              refine wS_pure 6 [(72, .bool (true)), (71, undef), (70, undef), (69, undef), (68, undef), (67, undef)] (by kernel_rfl) ?_
              refine wS_end (by rfl) ?_
              refine eX_then ?_
              refine cW_prune [(0, .slice A0 (l0).length cap0), (5, .int .i64 (wr (1 + y8))), (6, .slice A16 (y12).length cap17), (7, .slice A27 (y23).length cap28), (8, .int .i64 (y35.1)), (72, .bool (true))] (by kernel_rfl) (by kernel_rfl) (fun a57 => ?_)
              refine cW_cond_t (by kernel_rfl) ?_
              refine cW_seq ?_
              refine cW_region ?_
              refine wS_pure 1 [(4, .bool (false))] (by kernel_rfl) ?_
              refine wS_end (by rfl) ?_
              refine eX_then ?_
              refine cW_ret ?_
              refine eX_then_ret ?_
              have hq : (some false : Option ((Bool))) = some _ := hm
              replace hq := someE hq
              subst hq
              refine eX_ret (vs := [.bool (false)]) [.tmp 4] (by rfl) ⟨by (show lkE _ _ _ = _); kernel_rfl, trivial⟩ ?_
              exact ⟨rfl, hB⟩
            · have hm := condF hb56 hm
              rewrite [hb56]
              refine wS_pure 4 [(70, .int .i64 (wr (y35.1 - 1))), (69, .int .i64 (y35.1)), (68, .slice A27 (y23).length cap28), (67, .slice A16 (y12).length cap17)] (by kernel_rfl) ?_
              obtain ⟨y58, hy59, hm⟩ := bindE hm
              refine wS_calls (d := 71) (f := 16) (vs := [.slice A16 (y12).length cap17, .slice A27 (y23).length cap28, .int .i64 (wr (y35.1 - 1))]) (by kernel_rfl) ent16 (c_impl_FitsRiver hy59 (F19.sl encI_ok) (F30.sl encI_ok)) ?_
              rintro _ w60 ⟨rfl, hc61⟩
              replace F0 := F0.chg hc61 Dj.nil
              replace F1 := F1.chg hc61 Dj.nil
              replace F19 := F19.chg hc61 Dj.nil
              replace F30 := F30.chg hc61 Dj.nil
              replace hB := hB.inS hc61 inNil
              replace hZ := Nat.le_trans hZ hc61.size
              refine ⟨.bool (y58), rfl, ?_⟩
              refine wS_pure 1 [(72, .bool (y58))] (by kernel_rfl) ?_
              refine wS_end (by rfl) ?_
              refine eX_then ?_
              refine cW_prune [(0, .slice A0 (l0).length cap0), (5, .int .i64 (wr (1 + y8))), (6, .slice A16 (y12).length cap17), (7, .slice A27 (y23).length cap28), (8, .int .i64 (y35.1)), (72, .bool (y58))] (by kernel_rfl) (by kernel_rfl) (fun a62 => ?_)
              refine cW_cond (t := y58) (by kernel_rfl) (fun hb63 => ?_) (fun hb63 => ?_)
              · have hm := condT hb63 hm
                refine cW_seq ?_
                refine cW_region ?_
                refine wS_pure 1 [(4, .bool (false))] (by kernel_rfl) ?_
                refine wS_end (by rfl) ?_
                refine eX_then ?_
                refine cW_ret ?_
                refine eX_then_ret ?_
                have hq : (some false : Option ((Bool))) = some _ := hm
                replace hq := someE hq
                subst hq
                refine eX_ret (vs := [.bool (false)]) [.tmp 4] (by rfl) ⟨by (show lkE _ _ _ = _); kernel_rfl, trivial⟩ ?_
                exact ⟨rfl, hB⟩
              · have hm := condF hb63 hm
                refine cW_skip ?_
                refine eX_then ?_
                refine cW_seq ?_
                refine cW_region ?_
                refine wS_pure 2 [(74, .slice A0 (l0).length cap0), (73, .int .i64 (y35.1))] (by kernel_rfl) ?_
                obtain ⟨y64, hy65, hm⟩ := bindE hm
                refine wS_calls (d := 75) (f := 12) (vs := [.slice A0 (l0).length cap0, .int .i64 (41), .int .i64 (3)]) (by kernel_rfl) ent12 (c_laws_r8At hy65 F0) ?_
                rintro _ w66 ⟨rfl, hc67⟩
                replace F0 := F0.chg hc67 Dj.nil
                replace F1 := F1.chg hc67 Dj.nil
                replace F19 := F19.chg hc67 Dj.nil
                replace F30 := F30.chg hc67 Dj.nil
                replace hB := hB.inS hc67 inNil
                replace hZ := Nat.le_trans hZ hc67.size
                refine ⟨.int .i64 (y64), rfl, ?_⟩
                refine wS_pure 2 [(10, .int .i64 (wr (y35.1 + y64))), (76, .int .i64 (wr (y35.1 + y64)))] (by kernel_rfl) ?_
                refine wS_end (by rfl) ?_
                refine eX_then ?_
                refine cW_seq ?_
                refine cW_seq ?_
                refine cW_region ?_
                refine wS_pure 3 [(79, .int .i64 (wr (y35.1 + y64))), (78, .slice A27 (y23).length cap28), (77, .slice A16 (y12).length cap17)] (by kernel_rfl) ?_
                obtain ⟨y68, hy69, hm⟩ := bindE hm
                refine wS_calls (d := 80) (f := 16) (vs := [.slice A16 (y12).length cap17, .slice A27 (y23).length cap28, .int .i64 (wr (y35.1 + y64))]) (by kernel_rfl) ent16 (c_impl_FitsRiver hy69 (F19.sl encI_ok) (F30.sl encI_ok)) ?_
                rintro _ w70 ⟨rfl, hc71⟩
                replace F0 := F0.chg hc71 Dj.nil
                replace F1 := F1.chg hc71 Dj.nil
                replace F19 := F19.chg hc71 Dj.nil
                replace F30 := F30.chg hc71 Dj.nil
                replace hB := hB.inS hc71 inNil
                replace hZ := Nat.le_trans hZ hc71.size
                refine ⟨.bool (y68), rfl, ?_⟩
                refine wS_pure 1 [(81, .bool (!y68))] (by kernel_rfl) ?_
                refine wS_end (by rfl) ?_
                refine eX_then ?_
                refine cW_cond (t := !y68) (by kernel_rfl) (fun hb72 => ?_) (fun hb72 => ?_)
                · have hm := condT hb72 hm
                  refine cW_seq ?_
                  refine cW_region ?_
                  refine wS_pure 1 [(4, .bool (false))] (by kernel_rfl) ?_
                  refine wS_end (by rfl) ?_
                  refine eX_then ?_
                  refine cW_ret ?_
                  refine eX_then_ret ?_
                  have hq : (some false : Option ((Bool))) = some _ := hm
                  replace hq := someE hq
                  subst hq
                  refine eX_ret (vs := [.bool (false)]) [.tmp 4] (by rfl) ⟨by (show lkE _ _ _ = _); kernel_rfl, trivial⟩ ?_
                  exact ⟨rfl, hB⟩
                · have hm := condF hb72 hm
                  refine cW_skip ?_
                  refine eX_then ?_
                  refine cW_seq ?_
                  refine cW_region ?_
                  refine wS_rows0 (k := 2) (enc := encII) (d := 82) (t := 31) (T := 32) (T2 := 37) (by kernel_rfl) el31 ?_
                  intro b73 w74 G75 F76 hc77
                  have D79 : Dj fp18 ([b73] ++ []) := Dj.of F19.low (lowApp (low1 G75) lowNil)
                  have D80 : Dj fp29 ([b73] ++ []) := Dj.of F30.low (lowApp (low1 G75) lowNil)
                  replace F0 := F0.chg hc77 Dj.nil
                  replace F1 := F1.chg hc77 Dj.nil
                  replace F19 := F19.chg hc77 Dj.nil
                  replace F30 := F30.chg hc77 Dj.nil
                  replace hB := hB.inS hc77 inNil
                  replace G75 := Nat.le_trans hZ G75
                  replace G75 := low1 G75
                  replace hZ := Nat.le_trans hZ hc77.size
                  replace G75 := lowApp G75 lowNil
                  refine wS_pure 1 [(11, .slice (some ⟨b73, 0, none⟩) (([] : List (List (Int × Int)))).length 0)] (by kernel_rfl) ?_
                  refine wS_end (by rfl) ?_
                  refine eX_then ?_
                  refine cW_seq ?_
                  refine cW_region ?_
                  refine wS_pure 1 [(12, .int .i64 (0))] (by kernel_rfl) ?_
                  refine wS_end (by rfl) ?_
                  refine eX_then ?_
                  refine cW_seq ?_
                  refine cW_region ?_
                  refine wS_pure 1 [(13, .int .i64 (0))] (by kernel_rfl) ?_
                  refine wS_end (by rfl) ?_
                  refine eX_then ?_
                  refine cW_seq ?_
                  refine cW_seq ?_
                  refine cW_region ?_
                  refine wS_pure 1 [(14, .int .i64 (0))] (by kernel_rfl) ?_
                  refine wS_end (by rfl) ?_
                  refine eX_then ?_
                  obtain ⟨r634, hr635, hm⟩ := bindE hm
                  have hm636 := hm
                  refine cW_cut (fun a' w' => ∃ l602 : List (List (Int × Int)), ∃ A603 : Option Addr, ∃ cap604 : Nat, ∃ fp605 : List Nat, ∃ fr607 : List Nat, ∃ x608 : Int, ∃ x609 : Int, Sum.inl ((l602, x608, x609)) = r634 ∧ Fr 215 [(6, .slice A16 (y12).length cap17), (7, .slice A27 (y23).length cap28), (10, .int .i64 (wr (y35.1 + y64))), (11, .slice A603 (l602).length cap604), (12, .int .i64 (x608)), (13, .int .i64 (x609))] a' ∧ Ow 1 encI 2 w' fp18 A16 cap17 y12 ∧ Ow 1 encI 2 w' fp29 A27 cap28 y23 ∧ OwR 2 encII 32 37 w' fp605 fr607 A603 cap604 l602 ∧ (∀ x ∈ (fp605 ++ fr607), w0.heap.size ≤ x) ∧ Dj fp18 (fp605 ++ fr607) ∧ Dj fp29 (fp605 ++ fr607) ∧ Chg [] w0 w' ∧ w0.heap.size ≤ w'.heap.size) ?_ ?_
                  · refine cW_block ?_
                    refine cW_loop _ (fun (s637 : (List (List (Int × Int))) × Int × Int × Int) a' w' => ∃ l618 : List (List (Int × Int)), ∃ A619 : Option Addr, ∃ cap620 : Nat, ∃ fp621 : List Nat, ∃ fr623 : List Nat, ∃ x624 : Int, ∃ x625 : Int, ∃ x626 : Int, (l618, x624, x625, x626) = s637 ∧ Fr 215 [(5, .int .i64 (wr (1 + y8))), (6, .slice A16 (y12).length cap17), (7, .slice A27 (y23).length cap28), (10, .int .i64 (wr (y35.1 + y64))), (11, .slice A619 (l618).length cap620), (12, .int .i64 (x624)), (13, .int .i64 (x625)), (14, .int .i64 (x626))] a' ∧ Ow 1 encI 2 w' fp18 A16 cap17 y12 ∧ Ow 1 encI 2 w' fp29 A27 cap28 y23 ∧ OwR 2 encII 32 37 w' fp621 fr623 A619 cap620 l618 ∧ (∀ x ∈ (fp621 ++ fr623), w0.heap.size ≤ x) ∧ Dj fp18 (fp621 ++ fr623) ∧ Dj fp29 (fp621 ++ fr623) ∧ Chg [] w0 w' ∧ w0.heap.size ≤ w'.heap.size) hr635 (fun hst => ⟨([] : List (List (Int × Int))), (some ⟨b73, 0, none⟩), 0, [b73], [], 0, 0, 0, rfl, Fr.of hst (by kernel_rfl), F19, F30, F76, G75, D79, D80, hB, hZ⟩) ?_
                    rintro _ c638 a' w617 ⟨l618, A619, cap620, fp621, fr623, x624, x625, x626, rfl, hF627, F628, F629, F630, G631, D632, D633, hB, hZ⟩ hx639
                    refine Fr.goOn hF627 (by kernel_rfl) ?_
                    have hm := hx639
                    unfold m_laws_FnRivers_s3 at hm
                    refine cW_seq ?_
                    refine cW_seq ?_
                    refine cW_region ?_
                    refine wS_pure 3 [(85, .bool (decide (x626 < (wr (1 + y8))))), (84, .int .i64 (wr (1 + y8))), (83, .int .i64 (x626))] (by kernel_rfl) ?_
                    refine wS_end (by rfl) ?_
                    refine eX_then ?_
                    refine cW_cond (t := decide (x626 < (wr (1 + y8)))) (by kernel_rfl) (fun hb640 => ?_) (fun hb640 => ?_)
                    · have hm := condT hb640 hm
                      refine cW_skip ?_
                      refine eX_then ?_
                      refine cW_seq ?_
                      refine cW_block ?_
                      refine cW_seq ?_
                      refine cW_region ?_
                      refine wS_pure 4 [(92, .int .i64 (x626)), (91, .int .i64 (wr (y35.1 + y64))), (90, .slice A27 (y23).length cap28), (89, .slice A16 (y12).length cap17)] (by kernel_rfl) ?_
                      obtain ⟨y641, hy642, hm⟩ := bindE hm
                      refine wS_calls (d := 93) (f := 17) (vs := [.slice A16 (y12).length cap17, .slice A27 (y23).length cap28, .int .i64 (wr (y35.1 + y64)), .int .i64 (x626)]) (by kernel_rfl) ent17 (c_impl_RiverWire hy642 (F628.sl encI_ok) (F629.sl encI_ok)) ?_
                      rintro _ w643 ⟨A645, cap646, fp647, rfl, F648, G649, hc644⟩
                      have D652 : Dj fp18 fp647 := Dj.of F628.low G649
                      have D653 : Dj fp29 fp647 := Dj.of F629.low G649
                      have D654 : Dj (fp621 ++ fr623) fp647 := Dj.of F630.low G649
                      replace F628 := F628.chg hc644 Dj.nil
                      replace F629 := F629.chg hc644 Dj.nil
                      replace F630 := F630.chg hc644 Dj.nil
                      replace hB := hB.inS hc644 inNil
                      replace G649 := low_le hZ G649
                      replace hZ := Nat.le_trans hZ hc644.size
                      refine ⟨.tuple #[.slice A645 (y641.1).length cap646, .bool (y641.2)], rfl, ?_⟩
                      refine wS_pure 5 [(16, .bool (y641.2)), (15, .slice A645 (y641.1).length cap646), (95, .bool (y641.2)), (94, .slice A645 (y641.1).length cap646), (88, .tuple #[.slice A645 (y641.1).length cap646, .bool (y641.2)])] (by kernel_rfl) ?_
                      refine wS_end (by rfl) ?_
                      refine eX_then ?_
                      refine cW_seq ?_
                      refine cW_region ?_
                      refine wS_pure 1 [(97, .slice A645 (y641.1).length cap646)] (by kernel_rfl) ?_
                      obtain ⟨y655, hy656, hm⟩ := bindE hm
                      refine wS_calls (d := 98) (f := 18) (vs := [.slice A645 (y641.1).length cap646]) (by kernel_rfl) ent18 (c_impl_PathThrough hy656 (F648.sl encII_ok) F648.cap_le) ?_
                      rintro _ w657 ⟨A659, cap660, fp661, rfl, F662, G663, hc658⟩
                      have D666 : Dj fp18 fp661 := Dj.of F628.low G663
                      have D667 : Dj fp29 fp661 := Dj.of F629.low G663
                      have D668 : Dj (fp621 ++ fr623) fp661 := Dj.of F630.low G663
                      have D669 : Dj fp647 fp661 := Dj.of F648.low G663
                      replace F628 := F628.chg hc658 Dj.nil
                      replace F629 := F629.chg hc658 Dj.nil
                      replace F630 := F630.chg hc658 Dj.nil
                      replace F648 := F648.chg hc658 Dj.nil
                      replace hB := hB.inS hc658 inNil
                      replace G663 := low_le hZ G663
                      replace hZ := Nat.le_trans hZ hc658.size
                      refine ⟨.tuple #[.slice A659 (y655.1).length cap660, .bool (y655.2)], rfl, ?_⟩
                      refine wS_pure 5 [(18, .bool (y655.2)), (17, .slice A659 (y655.1).length cap660), (100, .bool (y655.2)), (99, .slice A659 (y655.1).length cap660), (96, .tuple #[.slice A659 (y655.1).length cap660, .bool (y655.2)])] (by kernel_rfl) ?_
                      refine wS_end (by rfl) ?_
                      refine eX_then ?_
                      refine cW_prune [(5, .int .i64 (wr (1 + y8))), (6, .slice A16 (y12).length cap17), (7, .slice A27 (y23).length cap28), (10, .int .i64 (wr (y35.1 + y64))), (11, .slice A619 (l618).length cap620), (12, .int .i64 (x624)), (13, .int .i64 (x625)), (14, .int .i64 (x626)), (15, .slice A645 (y641.1).length cap646), (16, .bool (y641.2)), (17, .slice A659 (y655.1).length cap660), (18, .bool (y655.2))] (by kernel_rfl) (by kernel_rfl) (fun a670 => ?_)
                      refine cW_seq ?_
                      refine cW_seq ?_
                      refine cW_drawnTail [] 31 (by kernel_rfl) (by kernel_rfl) (fun w689 hc690 => ?_)
                      replace F628 := F628.chg hc690 Dj.nil
                      replace F629 := F629.chg hc690 Dj.nil
                      replace F630 := F630.chg hc690 Dj.nil
                      replace F648 := F648.chg hc690 Dj.nil
                      replace F662 := F662.chg hc690 Dj.nil
                      replace hB := hB.inS hc690 inNil
                      replace hZ := Nat.le_trans hZ hc690.size
                      have hS := Chg.refl [] w689
                      have Z691 := F628
                      have Z692 := F629
                      have Z693 := F630
                      have Z694 := F648
                      have Z695 := F662
                      refine wH_take [0, 1, 2] [2, 1, 0] [(103, .bool (!y641.2)), (102, .bool (!y641.2)), (101, .bool (y641.2))] (by kernel_rfl) (qT (qT (qT (qB (qT (qL (qB (qT (qT qZ))))))))) (by kernel_rfl) ?_
                      refine wH_bool (!y641.2) (fun hb696 => ?_) (fun hb696 => ?_)
                      · have hm := condT hb696 hm
                        rewrite [hb696]
                        refine wH_take [3, 4, 5, 6, 7, 8, 9, 10, 11, 12, 13, 14, 15, 16, 17, 18, 19, 20, 21, 22, 23, 24, 25, 26, 27, 28, 29, 30] [30, 29, 28, 27, 26, 25, 24, 23, 22, 21, 20, 19, 18, 17, 16, 15, 14, 13, 12, 11, 10, 9, 8, 7, 6, 5, 4, 3, 2, 1, 0] [(131, undef), (130, undef), (129, undef), (128, undef), (127, undef), (126, undef), (125, undef), (124, undef), (123, undef), (122, undef), (121, undef), (120, undef), (119, undef), (118, .bool (true)), (117, .bool (true)), (116, undef), (115, undef), (114, undef), (113, undef), (112, undef), (111, undef), (110, undef), (109, undef), (108, undef), (107, .bool (true)), (106, .bool (true)), (105, undef), (104, undef)] (by kernel_rfl) (qT (qT (qT (qB (qT (qL (qB (qT (qT qZ))))))))) (by kernel_rfl) ?_
                        refine wH_done (by kernel_rfl) ?_
                        refine eX_tail ?_
                        refine wS_pure 2 [(133, .bool (true)), (132, undef)] (by kernel_rfl) ?_
                        refine wS_end (by rfl) ?_
                        refine eX_then ?_
                        refine cW_prune [(5, .int .i64 (wr (1 + y8))), (6, .slice A16 (y12).length cap17), (7, .slice A27 (y23).length cap28), (10, .int .i64 (wr (y35.1 + y64))), (11, .slice A619 (l618).length cap620), (12, .int .i64 (x624)), (13, .int .i64 (x625)), (14, .int .i64 (x626)), (15, .slice A645 (y641.1).length cap646), (17, .slice A659 (y655.1).length cap660), (133, .bool (true))] (by kernel_rfl) (by kernel_rfl) (fun a697 => ?_)
                        refine cW_cond_t (by kernel_rfl) ?_
                        refine cW_seq ?_
                        refine cW_region ?_
                        refine wS_pure 1 [(4, .bool (false))] (by kernel_rfl) ?_
                        refine wS_end (by rfl) ?_
                        refine eX_then ?_
                        refine cW_ret ?_
                        refine eX_then_ret ?_
                        refine eX_block_ret ?_
                        refine eX_then_ret ?_
                        have hq : (some (Ctl.out (Sum.inr false)) : Option (Ctl ((List (List (Int × Int))) × Int × Int × Int) (Sum ((List (List (Int × Int))) × Int × Int) ((Bool))))) = some _ := hm
                        replace hq := someE hq
                        subst hq
                        refine eX_outR hx639 (fun hr => ?_)
                        subst hr
                        refine eX_block_ret ?_
                        refine eX_then_ret ?_
                        refine eX_then_ret ?_
                        have hq : (some false : Option ((Bool))) = some _ := hm636
                        replace hq := someE hq
                        subst hq
                        refine eX_ret (vs := [.bool (false)]) [.tmp 4] (by rfl) ⟨by (show lkE _ _ _ = _); kernel_rfl, trivial⟩ ?_
                        exact ⟨rfl, hB⟩
                      · have hm := condF hb696 hm
                        rewrite [hb696]
                        refine wH_take [3, 4, 5, 6] [6, 5, 4, 3, 2, 1, 0] [(107, .bool (!y655.2)), (106, .bool (!y655.2)), (105, .bool (!y655.2)), (104, .bool (y655.2))] (by kernel_rfl) (qT (qT (qT (qB (qT (qL (qB (qT (qT qZ))))))))) (by kernel_rfl) ?_
                        refine wH_bool (!y655.2) (fun hb698 => ?_) (fun hb698 => ?_)
                        · have hm := condT hb698 hm
                          rewrite [hb698]
                          refine wH_take [7, 8, 9, 10, 11, 12, 13, 14, 15, 16, 17, 18, 19, 20, 21, 22, 23, 24, 25, 26, 27, 28, 29, 30] [30, 29, 28, 27, 26, 25, 24, 23, 22, 21, 20, 19, 18, 17, 16, 15, 14, 13, 12, 11, 10, 9, 8, 7, 6, 5, 4, 3, 2, 1, 0] [(131, undef), (130, undef), (129, undef), (128, undef), (127, undef), (126, undef), (125, undef), (124, undef), (123, undef), (122, undef), (121, undef), (120, undef), (119, undef), (118, .bool (true)), (117, .bool (true)), (116, undef), (115, undef), (114, undef), (113, undef), (112, undef), (111, undef), (110, undef), (109, undef), (108, undef)] (by kernel_rfl) (qT (qT (qT (qB (qT (qL (qB (qT (qT qZ))))))))) (by kernel_rfl) ?_
                          refine wH_done (by kernel_rfl) ?_
                          refine eX_tail ?_
                          refine wS_pure 2 [(133, .bool (true)), (132, undef)] (by kernel_rfl) ?_
                          refine wS_end (by rfl) ?_
                          refine eX_then ?_
                          refine cW_prune [(5, .int .i64 (wr (1 + y8))), (6, .slice A16 (y12).length cap17), (7, .slice A27 (y23).length cap28), (10, .int .i64 (wr (y35.1 + y64))), (11, .slice A619 (l618).length cap620), (12, .int .i64 (x624)), (13, .int .i64 (x625)), (14, .int .i64 (x626)), (15, .slice A645 (y641.1).length cap646), (17, .slice A659 (y655.1).length cap660), (133, .bool (true))] (by kernel_rfl) (by kernel_rfl) (fun a699 => ?_)
                          refine cW_cond_t (by kernel_rfl) ?_
                          refine cW_seq ?_
                          refine cW_region ?_
                          refine wS_pure 1 [(4, .bool (false))] (by kernel_rfl) ?_
                          refine wS_end (by rfl) ?_
                          refine eX_then ?_
                          refine cW_ret ?_
                          refine eX_then_ret ?_
                          refine eX_block_ret ?_
                          refine eX_then_ret ?_
                          have hq : (some (Ctl.out (Sum.inr false)) : Option (Ctl ((List (List (Int × Int))) × Int × Int × Int) (Sum ((List (List (Int × Int))) × Int × Int) ((Bool))))) = some _ := hm
                          replace hq := someE hq
                          subst hq
                          refine eX_outR hx639 (fun hr => ?_)
                          subst hr
                          refine eX_block_ret ?_
                          refine eX_then_ret ?_
                          refine eX_then_ret ?_
                          have hq : (some false : Option ((Bool))) = some _ := hm636
                          replace hq := someE hq
                          subst hq
                          refine eX_ret (vs := [.bool (false)]) [.tmp 4] (by rfl) ⟨by (show lkE _ _ _ = _); kernel_rfl, trivial⟩ ?_
                          exact ⟨rfl, hB⟩
                        · have hm := condF hb698 hm
                          rewrite [hb698]
                          refine wH_take [7] [7, 6, 5, 4, 3, 2, 1, 0] [(108, .slice A659 (y655.1).length cap660)] (by kernel_rfl) (qT (qT (qT (qB (qT (qL (qB (qT (qT qZ))))))))) (by kernel_rfl) ?_
                          obtain ⟨x700, hx701, hm⟩ := bindE hm
                          refine wH_idx (i := 8) (d := 109) (T := 32) (A := A659) (n := (y655.1).length) (cap := cap660) (kd := .i64) (m := 0) (by kernel_rfl) (qT (qT (qT (qB (qT (qL (qB (qT (qT qZ))))))))) (by kernel_rfl) (by kernel_rfl) sl32 ((F662.sl encII_ok).is hx701) ?_
                          refine wH_loadA (i := 9) (d := 110) (T := 37) (ad := (elA A659 2 (0) 0)) (vs := [.int .i64 (x700.1), .int .i64 (x700.2)]) (by kernel_rfl) (qT (qT (qT (qB (qT (qL (qB (qT (qT qZ))))))))) (by kernel_rfl) (by kernel_rfl) vt37 (fun W hW i u hu => Sl.cells_at ((Z695.chg hW Dj.nil).sl encII_ok) hx701 0 hu (by rfl)) ?_
                          refine wH_take [10, 11] [11, 10, 9, 8, 7, 6, 5, 4, 3, 2, 1, 0] [(112, .int .i64 (x626)), (111, .slice A27 (y23).length cap28)] (by kernel_rfl) (qT (qT (qT (qB (qT (qL (qB (qT (qT qZ))))))))) (by kernel_rfl) ?_
                          obtain ⟨x702, hx703, hm⟩ := bindE hm
                          refine wH_idx (i := 12) (d := 113) (T := 25) (A := A27) (n := (y23).length) (cap := cap28) (kd := .i64) (m := x626) (by kernel_rfl) (qT (qT (qT (qB (qT (qL (qB (qT (qT qZ))))))))) (by kernel_rfl) (by kernel_rfl) sl25 ((F629.sl encI_ok).is hx703) ?_
                          refine wH_load1 (i := 13) (d := 114) (T := 2) (ad := (elA A27 1 (x626) 0)) (v := .int .i64 (x702)) (by kernel_rfl) (qT (qT (qT (qB (qT (qL (qB (qT (qT qZ))))))))) (by kernel_rfl) (by kernel_rfl) vt2 (fun W hW => Sl.cell ((Z692.chg hW Dj.nil).sl encI_ok) hx703 0 (by rfl)) ?_
                          refine wH_take [14] [14, 13, 12, 11, 10, 9, 8, 7, 6, 5, 4, 3, 2, 1, 0] [(115, .agg #[.int .i64 (x702), .int .i64 (0)])] (by kernel_rfl) (qT (qT (qT (qB (qT (qL (qB (qT (qT qZ))))))))) (by kernel_rfl) ?_
                          refine wH_neS (i := 15) (d := 116) (T := 37) (x := x700.1) (y := x700.2) (x' := x702) (y' := 0) (by kernel_rfl) (qT (qT (qT (qB (qT (qL (qB (qT (qT qZ))))))))) (by kernel_rfl) (by kernel_rfl) eq37 ?_
                          refine wH_take [16, 17] [17, 16, 15, 14, 13, 12, 11, 10, 9, 8, 7, 6, 5, 4, 3, 2, 1, 0] [(118, .bool (!(x700.1 == x702 && x700.2 == 0))), (117, .bool (!(x700.1 == x702 && x700.2 == 0)))] (by kernel_rfl) (qT (qT (qT (qB (qT (qL (qB (qT (qT qZ))))))))) (by kernel_rfl) ?_
                          refine wH_bool (!(x700.1 == x702 && x700.2 == 0)) (fun hb704 => ?_) (fun hb704 => ?_)
                          · have hm := condT hb704 hm
                            rewrite [hb704]
                            refine wH_take [18, 19, 20, 21, 22, 23, 24, 25, 26, 27, 28, 29, 30] [30, 29, 28, 27, 26, 25, 24, 23, 22, 21, 20, 19, 18, 17, 16, 15, 14, 13, 12, 11, 10, 9, 8, 7, 6, 5, 4, 3, 2, 1, 0] [(131, undef), (130, undef), (129, undef), (128, undef), (127, undef), (126, undef), (125, undef), (124, undef), (123, undef), (122, undef), (121, undef), (120, undef), (119, undef)] (by kernel_rfl) (qT (qT (qT (qB (qT (qL (qB (qT (qT qZ))))))))) (by kernel_rfl) ?_
                            refine wH_done (by kernel_rfl) ?_
                            refine eX_tail ?_
                            refine wS_pure 2 [(133, .bool (true)), (132, undef)] (by kernel_rfl) ?_
                            refine wS_end (by rfl) ?_
                            refine eX_then ?_
                            refine cW_prune [(5, .int .i64 (wr (1 + y8))), (6, .slice A16 (y12).length cap17), (7, .slice A27 (y23).length cap28), (10, .int .i64 (wr (y35.1 + y64))), (11, .slice A619 (l618).length cap620), (12, .int .i64 (x624)), (13, .int .i64 (x625)), (14, .int .i64 (x626)), (15, .slice A645 (y641.1).length cap646), (17, .slice A659 (y655.1).length cap660), (133, .bool (true))] (by kernel_rfl) (by kernel_rfl) (fun a705 => ?_)
                            refine cW_cond_t (by kernel_rfl) ?_
                            refine cW_seq ?_
                            refine cW_region ?_
                            refine wS_pure 1 [(4, .bool (false))] (by kernel_rfl) ?_
                            refine wS_end (by rfl) ?_
                            refine eX_then ?_
                            refine cW_ret ?_
                            refine eX_then_ret ?_
                            refine eX_block_ret ?_
                            refine eX_then_ret ?_
                            have hq : (some (Ctl.out (Sum.inr false)) : Option (Ctl ((List (List (Int × Int))) × Int × Int × Int) (Sum ((List (List (Int × Int))) × Int × Int) ((Bool))))) = some _ := hm
                            replace hq := someE hq
                            subst hq
                            refine eX_outR hx639 (fun hr => ?_)
                            subst hr
                            refine eX_block_ret ?_
                            refine eX_then_ret ?_
                            refine eX_then_ret ?_
                            have hq : (some false : Option ((Bool))) = some _ := hm636
                            replace hq := someE hq
                            subst hq
                            refine eX_ret (vs := [.bool (false)]) [.tmp 4] (by rfl) ⟨by (show lkE _ _ _ = _); kernel_rfl, trivial⟩ ?_
                            exact ⟨rfl, hB⟩
                          · have hm := condF hb704 hm
                            rewrite [hb704]
                            refine wH_take [18, 19, 20, 21] [21, 20, 19, 18, 17, 16, 15, 14, 13, 12, 11, 10, 9, 8, 7, 6, 5, 4, 3, 2, 1, 0] [(122, .int .i64 (wr ((((y655.1).length : Int)) - 1))), (121, .int .i64 (((y655.1).length : Int))), (120, .slice A659 (y655.1).length cap660), (119, .slice A659 (y655.1).length cap660)] (by kernel_rfl) (qT (qT (qT (qB (qT (qL (qB (qT (qT qZ))))))))) (by kernel_rfl) ?_
                            obtain ⟨x706, hx707, hm⟩ := bindE hm
                            refine wH_idx (i := 22) (d := 123) (T := 32) (A := A659) (n := (y655.1).length) (cap := cap660) (kd := .i64) (m := wr ((((y655.1).length : Int)) - 1)) (by kernel_rfl) (qT (qT (qT (qB (qT (qL (qB (qT (qT qZ))))))))) (by kernel_rfl) (by kernel_rfl) sl32 ((F662.sl encII_ok).is hx707) ?_
                            refine wH_loadA (i := 23) (d := 124) (T := 37) (ad := (elA A659 2 (wr ((((y655.1).length : Int)) - 1)) 0)) (vs := [.int .i64 (x706.1), .int .i64 (x706.2)]) (by kernel_rfl) (qT (qT (qT (qB (qT (qL (qB (qT (qT qZ))))))))) (by kernel_rfl) (by kernel_rfl) vt37 (fun W hW i u hu => Sl.cells_at ((Z695.chg hW Dj.nil).sl encII_ok) hx707 0 hu (by rfl)) ?_
                            refine wH_take [24, 25] [25, 24, 23, 22, 21, 20, 19, 18, 17, 16, 15, 14, 13, 12, 11, 10, 9, 8, 7, 6, 5, 4, 3, 2, 1, 0] [(126, .int .i64 (x626)), (125, .slice A16 (y12).length cap17)] (by kernel_rfl) (qT (qT (qT (qB (qT (qL (qB (qT (qT qZ))))))))) (by kernel_rfl) ?_
                            obtain ⟨x708, hx709, hm⟩ := bindE hm
                            refine wH_idx (i := 26) (d := 127) (T := 25) (A := A16) (n := (y12).length) (cap := cap17) (kd := .i64) (m := x626) (by kernel_rfl) (qT (qT (qT (qB (qT (qL (qB (qT (qT qZ))))))))) (by kernel_rfl) (by kernel_rfl) sl25 ((F628.sl encI_ok).is hx709) ?_
                            refine wH_load1 (i := 27) (d := 128) (T := 2) (ad := (elA A16 1 (x626) 0)) (v := .int .i64 (x708)) (by kernel_rfl) (qT (qT (qT (qB (qT (qL (qB (qT (qT qZ))))))))) (by kernel_rfl) (by kernel_rfl) vt2 (fun W hW => Sl.cell ((Z691.chg hW Dj.nil).sl encI_ok) hx709 0 (by rfl)) ?_
                            refine wH_take [28, 29, 30] [30, 29, 28, 27, 26, 25, 24, 23, 22, 21, 20, 19, 18, 17, 16, 15, 14, 13, 12, 11, 10, 9, 8, 7, 6, 5, 4, 3, 2, 1, 0] [(131, .agg #[.int .i64 (x708), .int .i64 (wr ((wr (y35.1 + y64)) + 1))]), (130, .int .i64 (wr ((wr (y35.1 + y64)) + 1))), (129, .int .i64 (wr (y35.1 + y64)))] (by kernel_rfl) (qT (qT (qT (qB (qT (qL (qB (qT (qT qZ))))))))) (by kernel_rfl) ?_
                            refine wH_done (by kernel_rfl) ?_
                            refine eX_tail ?_
                            refine wS_neS (d := 132) (T := 37) (x := x706.1) (y := x706.2) (x' := x708) (y' := (wr ((wr (y35.1 + y64)) + 1))) (by kernel_rfl) eq37 ?_
                            refine wS_pure 1 [(133, .bool (!(x706.1 == x708 && x706.2 == (wr ((wr (y35.1 + y64)) + 1)))))] (by kernel_rfl) ?_
                            refine wS_end (by rfl) ?_
                            refine eX_then ?_
                            refine cW_prune [(5, .int .i64 (wr (1 + y8))), (6, .slice A16 (y12).length cap17), (7, .slice A27 (y23).length cap28), (10, .int .i64 (wr (y35.1 + y64))), (11, .slice A619 (l618).length cap620), (12, .int .i64 (x624)), (13, .int .i64 (x625)), (14, .int .i64 (x626)), (15, .slice A645 (y641.1).length cap646), (17, .slice A659 (y655.1).length cap660), (133, .bool (!(x706.1 == x708 && x706.2 == (wr ((wr (y35.1 + y64)) + 1)))))] (by kernel_rfl) (by kernel_rfl) (fun a710 => ?_)
                            refine cW_cond (t := !(x706.1 == x708 && x706.2 == (wr ((wr (y35.1 + y64)) + 1)))) (by kernel_rfl) (fun hb711 => ?_) (fun hb711 => ?_)
                            · have hm := condT hb711 hm
                              refine cW_seq ?_
                              refine cW_region ?_
                              refine wS_pure 1 [(4, .bool (false))] (by kernel_rfl) ?_
                              refine wS_end (by rfl) ?_
                              refine eX_then ?_
                              refine cW_ret ?_
                              refine eX_then_ret ?_
                              refine eX_block_ret ?_
                              refine eX_then_ret ?_
                              have hq : (some (Ctl.out (Sum.inr false)) : Option (Ctl ((List (List (Int × Int))) × Int × Int × Int) (Sum ((List (List (Int × Int))) × Int × Int) ((Bool))))) = some _ := hm
                              replace hq := someE hq
                              subst hq
                              refine eX_outR hx639 (fun hr => ?_)
                              subst hr
                              refine eX_block_ret ?_
                              refine eX_then_ret ?_
                              refine eX_then_ret ?_
                              have hq : (some false : Option ((Bool))) = some _ := hm636
                              replace hq := someE hq
                              subst hq
                              refine eX_ret (vs := [.bool (false)]) [.tmp 4] (by rfl) ⟨by (show lkE _ _ _ = _); kernel_rfl, trivial⟩ ?_
                              exact ⟨rfl, hB⟩
                            · have hm := condF hb711 hm
                              refine cW_skip ?_
                              refine eX_then ?_
                              refine cW_seq ?_
                              refine cW_seq ?_
                              refine cW_region ?_
                              refine wS_pure 1 [(19, .int .i64 (1))] (by kernel_rfl) ?_
                              refine wS_end (by rfl) ?_
                              refine eX_then ?_
                              obtain ⟨r818, hr819, hm⟩ := bindE hm
                              have hm820 := hm
                              refine cW_cut (fun a' w' => Sum.inl (()) = r818 ∧ Fr 215 [(5, .int .i64 (wr (1 + y8))), (6, .slice A16 (y12).length cap17), (7, .slice A27 (y23).length cap28), (10, .int .i64 (wr (y35.1 + y64))), (11, .slice A619 (l618).length cap620), (12, .int .i64 (x624)), (13, .int .i64 (x625)), (14, .int .i64 (x626)), (15, .slice A645 (y641.1).length cap646), (17, .slice A659 (y655.1).length cap660)] a' ∧ Ow 1 encI 2 w' fp18 A16 cap17 y12 ∧ Ow 1 encI 2 w' fp29 A27 cap28 y23 ∧ OwR 2 encII 32 37 w' fp621 fr623 A619 cap620 l618 ∧ Ow 2 encII 37 w' fp647 A645 cap646 y641.1 ∧ Ow 2 encII 37 w' fp661 A659 cap660 y655.1 ∧ Chg [] w0 w' ∧ w0.heap.size ≤ w'.heap.size) ?_ ?_
                              · refine cW_block ?_
                                refine cW_loop _ (fun (s821 : Int) a' w' => ∃ x811 : Int, x811 = s821 ∧ Fr 215 [(5, .int .i64 (wr (1 + y8))), (6, .slice A16 (y12).length cap17), (7, .slice A27 (y23).length cap28), (10, .int .i64 (wr (y35.1 + y64))), (11, .slice A619 (l618).length cap620), (12, .int .i64 (x624)), (13, .int .i64 (x625)), (14, .int .i64 (x626)), (15, .slice A645 (y641.1).length cap646), (17, .slice A659 (y655.1).length cap660), (19, .int .i64 (x811))] a' ∧ Ow 1 encI 2 w' fp18 A16 cap17 y12 ∧ Ow 1 encI 2 w' fp29 A27 cap28 y23 ∧ OwR 2 encII 32 37 w' fp621 fr623 A619 cap620 l618 ∧ Ow 2 encII 37 w' fp647 A645 cap646 y641.1 ∧ Ow 2 encII 37 w' fp661 A659 cap660 y655.1 ∧ Chg [] w0 w' ∧ w0.heap.size ≤ w'.heap.size) hr819 (fun hst => ⟨1, rfl, Fr.of hst (by kernel_rfl), F628, F629, F630, F648, F662, hB, hZ⟩) ?_
                                rintro _ c822 a' w810 ⟨x811, rfl, hF812, F813, F814, F815, F816, F817, hB, hZ⟩ hx823
                                refine Fr.goOn hF812 (by kernel_rfl) ?_
                                have hm := hx823
                                unfold m_laws_FnRivers_s4 at hm
                                refine cW_seq ?_
                                refine cW_seq ?_
                                refine cW_region ?_
                                refine wS_pure 4 [(137, .bool (decide (x811 < (((y655.1).length : Int))))), (136, .int .i64 (((y655.1).length : Int))), (135, .slice A659 (y655.1).length cap660), (134, .int .i64 (x811))] (by kernel_rfl) ?_
                                refine wS_end (by rfl) ?_
                                refine eX_then ?_
                                refine cW_cond (t := decide (x811 < (((y655.1).length : Int)))) (by kernel_rfl) (fun hb824 => ?_) (fun hb824 => ?_)
                                · have hm := condT hb824 hm
                                  refine cW_skip ?_
                                  refine eX_then ?_
                                  refine cW_seq ?_
                                  refine cW_block ?_
                                  refine cW_seq ?_
                                  refine cW_drawnTail [] 26 (by kernel_rfl) (by kernel_rfl) (fun w842 hc843 => ?_)
                                  replace F813 := F813.chg hc843 Dj.nil
                                  replace F814 := F814.chg hc843 Dj.nil
                                  replace F815 := F815.chg hc843 Dj.nil
                                  replace F816 := F816.chg hc843 Dj.nil
                                  replace F817 := F817.chg hc843 Dj.nil
                                  replace hB := hB.inS hc843 inNil
                                  replace hZ := Nat.le_trans hZ hc843.size
                                  have hS := Chg.refl [] w842
                                  have Z844 := F813
                                  have Z845 := F814
                                  have Z846 := F815
                                  have Z847 := F816
                                  have Z848 := F817
                                  refine wH_take [0, 1] [1, 0] [(141, .int .i64 (x811)), (140, .slice A659 (y655.1).length cap660)] (by kernel_rfl) (qT (qT (qB (qT (qL (qB (qT (qT (qB (qT (qL (qB (qT (qT qZ)))))))))))))) (by kernel_rfl) ?_
                                  obtain ⟨x849, hx850, hm⟩ := bindE hm
                                  refine wH_idx (i := 2) (d := 142) (T := 32) (A := A659) (n := (y655.1).length) (cap := cap660) (kd := .i64) (m := x811) (by kernel_rfl) (qT (qT (qB (qT (qL (qB (qT (qT (qB (qT (qL (qB (qT (qT qZ)))))))))))))) (by kernel_rfl) (by kernel_rfl) sl32 ((F817.sl encII_ok).is hx850) ?_
                                  refine wH_take [3] [3, 2, 1, 0] [(143, .pointer (some (elA A659 2 (x811) 0)))] (by kernel_rfl) (qT (qT (qB (qT (qL (qB (qT (qT (qB (qT (qL (qB (qT (qT qZ)))))))))))))) (by kernel_rfl) ?_
                                  refine wH_load1 (i := 4) (d := 144) (T := 2) (ad := (elA A659 2 (x811) 0)) (v := .int .i64 (x849.1)) (by kernel_rfl) (qT (qT (qB (qT (qL (qB (qT (qT (qB (qT (qL (qB (qT (qT qZ)))))))))))))) (by kernel_rfl) (by kernel_rfl) vt2 (fun W hW => Sl.cell ((Z848.chg hW Dj.nil).sl encII_ok) hx850 0 (by rfl)) ?_
                                  refine wH_take [5, 6, 7] [7, 6, 5, 4, 3, 2, 1, 0] [(147, .int .i64 (wr (x811 - 1))), (146, .int .i64 (x811)), (145, .slice A659 (y655.1).length cap660)] (by kernel_rfl) (qT (qT (qB (qT (qL (qB (qT (qT (qB (qT (qL (qB (qT (qT qZ)))))))))))))) (by kernel_rfl) ?_
                                  obtain ⟨x851, hx852, hm⟩ := bindE hm
                                  refine wH_idx (i := 8) (d := 148) (T := 32) (A := A659) (n := (y655.1).length) (cap := cap660) (kd := .i64) (m := wr (x811 - 1)) (by kernel_rfl) (qT (qT (qB (qT (qL (qB (qT (qT (qB (qT (qL (qB (qT (qT qZ)))))))))))))) (by kernel_rfl) (by kernel_rfl) sl32 ((F817.sl encII_ok).is hx852) ?_
                                  refine wH_take [9] [9, 8, 7, 6, 5, 4, 3, 2, 1, 0] [(149, .pointer (some (elA A659 2 (wr (x811 - 1)) 0)))] (by kernel_rfl) (qT (qT (qB (qT (qL (qB (qT (qT (qB (qT (qL (qB (qT (qT qZ)))))))))))))) (by kernel_rfl) ?_
                                  refine wH_load1 (i := 10) (d := 150) (T := 2) (ad := (elA A659 2 (wr (x811 - 1)) 0)) (v := .int .i64 (x851.1)) (by kernel_rfl) (qT (qT (qB (qT (qL (qB (qT (qT (qB (qT (qL (qB (qT (qT qZ)))))))))))))) (by kernel_rfl) (by kernel_rfl) vt2 (fun W hW => Sl.cell ((Z848.chg hW Dj.nil).sl encII_ok) hx852 0 (by rfl)) ?_
                                  refine wH_take [11, 12] [12, 11, 10, 9, 8, 7, 6, 5, 4, 3, 2, 1, 0] [(152, .bool (x849.1 != x851.1)), (151, .bool (x849.1 != x851.1))] (by kernel_rfl) (qT (qT (qB (qT (qL (qB (qT (qT (qB (qT (qL (qB (qT (qT qZ)))))))))))))) (by kernel_rfl) ?_
                                  refine wH_bool (x849.1 != x851.1) (fun hb853 => ?_) (fun hb853 => ?_)
                                  · have hm := condT hb853 hm
                                    rewrite [hb853]
                                    refine wH_take [13, 14] [14, 13, 12, 11, 10, 9, 8, 7, 6, 5, 4, 3, 2, 1, 0] [(154, .int .i64 (x811)), (153, .slice A659 (y655.1).length cap660)] (by kernel_rfl) (qT (qT (qB (qT (qL (qB (qT (qT (qB (qT (qL (qB (qT (qT qZ)))))))))))))) (by kernel_rfl) ?_
                                    obtain ⟨x854, hx855, hm⟩ := bindE hm
                                    refine wH_idx (i := 15) (d := 155) (T := 32) (A := A659) (n := (y655.1).length) (cap := cap660) (kd := .i64) (m := x811) (by kernel_rfl) (qT (qT (qB (qT (qL (qB (qT (qT (qB (qT (qL (qB (qT (qT qZ)))))))))))))) (by kernel_rfl) (by kernel_rfl) sl32 ((F817.sl encII_ok).is hx855) ?_
                                    refine wH_take [16] [16, 15, 14, 13, 12, 11, 10, 9, 8, 7, 6, 5, 4, 3, 2, 1, 0] [(156, .pointer (some (elA A659 2 (x811) 1)))] (by kernel_rfl) (qT (qT (qB (qT (qL (qB (qT (qT (qB (qT (qL (qB (qT (qT qZ)))))))))))))) (by kernel_rfl) ?_
                                    refine wH_load1 (i := 17) (d := 157) (T := 2) (ad := (elA A659 2 (x811) 1)) (v := .int .i64 (x854.2)) (by kernel_rfl) (qT (qT (qB (qT (qL (qB (qT (qT (qB (qT (qL (qB (qT (qT qZ)))))))))))))) (by kernel_rfl) (by kernel_rfl) vt2 (fun W hW => Sl.cell ((Z848.chg hW Dj.nil).sl encII_ok) hx855 1 (by rfl)) ?_
                                    refine wH_take [18, 19] [19, 18, 17, 16, 15, 14, 13, 12, 11, 10, 9, 8, 7, 6, 5, 4, 3, 2, 1, 0] [(159, .bool (decide (x854.2 < 1))), (158, .bool (decide (x854.2 < 1)))] (by kernel_rfl) (qT (qT (qB (qT (qL (qB (qT (qT (qB (qT (qL (qB (qT (qT qZ)))))))))))))) (by kernel_rfl) ?_
                                    refine wH_bool (decide (x854.2 < 1)) (fun hb856 => ?_) (fun hb856 => ?_)
                                    · have hm := condT hb856 hm
                                      rewrite [hb856]
                                      refine wH_take [20, 21, 22, 23, 24, 25] [25, 24, 23, 22, 21, 20, 19, 18, 17, 16, 15, 14, 13, 12, 11, 10, 9, 8, 7, 6, 5, 4, 3, 2, 1, 0] [(165, undef), (164, undef), (163, undef), (162, undef), (161, undef), (160, undef)] (by kernel_rfl) (qT (qT (qB (qT (qL (qB (qT (qT (qB (qT (qL (qB (qT (qT qZ)))))))))))))) (by kernel_rfl) ?_
                                      refine wH_done (by kernel_rfl) ?_
                                      refine eX_tail ?_
                                      refine wS_pure 3 [(168, .bool (true)), (167, .bool (true)), (166, undef)] (by kernel_rfl) ?_
                                      refine wS_end (by rfl) ?_
                                      refine eX_then ?_
                                      refine cW_prune [(5, .int .i64 (wr (1 + y8))), (6, .slice A16 (y12).length cap17), (7, .slice A27 (y23).length cap28), (10, .int .i64 (wr (y35.1 + y64))), (11, .slice A619 (l618).length cap620), (12, .int .i64 (x624)), (13, .int .i64 (x625)), (14, .int .i64 (x626)), (15, .slice A645 (y641.1).length cap646), (17, .slice A659 (y655.1).length cap660), (19, .int .i64 (x811)), (168, .bool (true))] (by kernel_rfl) (by kernel_rfl) (fun a857 => ?_)
                                      refine cW_cond_t (by kernel_rfl) ?_
                                      refine cW_seq ?_
                                      refine cW_region ?_
                                      refine wS_pure 1 [(4, .bool (false))] (by kernel_rfl) ?_
                                      refine wS_end (by rfl) ?_
                                      refine eX_then ?_
                                      refine cW_ret ?_
                                      refine eX_block_ret ?_
                                      refine eX_then_ret ?_
                                      have hq : (some (Ctl.out (Sum.inr false)) : Option (Ctl (Int) (Sum (Unit) ((Bool))))) = some _ := hm
                                      replace hq := someE hq
                                      subst hq
                                      refine eX_outR hx823 (fun hr => ?_)
                                      subst hr
                                      refine eX_block_ret ?_
                                      refine eX_then_ret ?_
                                      refine eX_then_ret ?_
                                      refine eX_block_ret ?_
                                      refine eX_then_ret ?_
                                      have hq : (some (Ctl.out (Sum.inr false)) : Option (Ctl ((List (List (Int × Int))) × Int × Int × Int) (Sum ((List (List (Int × Int))) × Int × Int) ((Bool))))) = some _ := hm820
                                      replace hq := someE hq
                                      subst hq
                                      refine eX_outR hx639 (fun hr => ?_)
                                      subst hr
                                      refine eX_block_ret ?_
                                      refine eX_then_ret ?_
                                      refine eX_then_ret ?_
                                      have hq : (some false : Option ((Bool))) = some _ := hm636
                                      replace hq := someE hq
                                      subst hq
                                      refine eX_ret (vs := [.bool (false)]) [.tmp 4] (by rfl) ⟨by (show lkE _ _ _ = _); kernel_rfl, trivial⟩ ?_
                                      exact ⟨rfl, hB⟩
                                    · have hm := condF hb856 hm
                                      rewrite [hb856]
                                      refine wH_take [20, 21] [21, 20, 19, 18, 17, 16, 15, 14, 13, 12, 11, 10, 9, 8, 7, 6, 5, 4, 3, 2, 1, 0] [(161, .int .i64 (x811)), (160, .slice A659 (y655.1).length cap660)] (by kernel_rfl) (qT (qT (qB (qT (qL (qB (qT (qT (qB (qT (qL (qB (qT (qT qZ)))))))))))))) (by kernel_rfl) ?_
                                      obtain ⟨x858, hx859, hm⟩ := bindE hm
                                      refine wH_idx (i := 22) (d := 162) (T := 32) (A := A659) (n := (y655.1).length) (cap := cap660) (kd := .i64) (m := x811) (by kernel_rfl) (qT (qT (qB (qT (qL (qB (qT (qT (qB (qT (qL (qB (qT (qT qZ)))))))))))))) (by kernel_rfl) (by kernel_rfl) sl32 ((F817.sl encII_ok).is hx859) ?_
                                      refine wH_take [23] [23, 22, 21, 20, 19, 18, 17, 16, 15, 14, 13, 12, 11, 10, 9, 8, 7, 6, 5, 4, 3, 2, 1, 0] [(163, .pointer (some (elA A659 2 (x811) 1)))] (by kernel_rfl) (qT (qT (qB (qT (qL (qB (qT (qT (qB (qT (qL (qB (qT (qT qZ)))))))))))))) (by kernel_rfl) ?_
                                      refine wH_load1 (i := 24) (d := 164) (T := 2) (ad := (elA A659 2 (x811) 1)) (v := .int .i64 (x858.2)) (by kernel_rfl) (qT (qT (qB (qT (qL (qB (qT (qT (qB (qT (qL (qB (qT (qT qZ)))))))))))))) (by kernel_rfl) (by kernel_rfl) vt2 (fun W hW => Sl.cell ((Z848.chg hW Dj.nil).sl encII_ok) hx859 1 (by rfl)) ?_
                                      refine wH_take [25] [25, 24, 23, 22, 21, 20, 19, 18, 17, 16, 15, 14, 13, 12, 11, 10, 9, 8, 7, 6, 5, 4, 3, 2, 1, 0] [(165, .int .i64 (wr (y35.1 + y64)))] (by kernel_rfl) (qT (qT (qB (qT (qL (qB (qT (qT (qB (qT (qL (qB (qT (qT qZ)))))))))))))) (by kernel_rfl) ?_
                                      refine wH_done (by kernel_rfl) ?_
                                      refine eX_tail ?_
                                      refine wS_pure 3 [(168, .bool (decide (x858.2 > (wr (y35.1 + y64))))), (167, .bool (decide (x858.2 > (wr (y35.1 + y64))))), (166, .bool (decide (x858.2 > (wr (y35.1 + y64)))))] (by kernel_rfl) ?_
                                      refine wS_end (by rfl) ?_
                                      refine eX_then ?_
                                      refine cW_prune [(5, .int .i64 (wr (1 + y8))), (6, .slice A16 (y12).length cap17), (7, .slice A27 (y23).length cap28), (10, .int .i64 (wr (y35.1 + y64))), (11, .slice A619 (l618).length cap620), (12, .int .i64 (x624)), (13, .int .i64 (x625)), (14, .int .i64 (x626)), (15, .slice A645 (y641.1).length cap646), (17, .slice A659 (y655.1).length cap660), (19, .int .i64 (x811)), (168, .bool (decide (x858.2 > (wr (y35.1 + y64)))))] (by kernel_rfl) (by kernel_rfl) (fun a860 => ?_)
                                      refine cW_cond (t := decide (x858.2 > (wr (y35.1 + y64)))) (by kernel_rfl) (fun hb861 => ?_) (fun hb861 => ?_)
                                      · have hm := condT hb861 hm
                                        refine cW_seq ?_
                                        refine cW_region ?_
                                        refine wS_pure 1 [(4, .bool (false))] (by kernel_rfl) ?_
                                        refine wS_end (by rfl) ?_
                                        refine eX_then ?_
                                        refine cW_ret ?_
                                        refine eX_block_ret ?_
                                        refine eX_then_ret ?_
                                        have hq : (some (Ctl.out (Sum.inr false)) : Option (Ctl (Int) (Sum (Unit) ((Bool))))) = some _ := hm
                                        replace hq := someE hq
                                        subst hq
                                        refine eX_outR hx823 (fun hr => ?_)
                                        subst hr
                                        refine eX_block_ret ?_
                                        refine eX_then_ret ?_
                                        refine eX_then_ret ?_
                                        refine eX_block_ret ?_
                                        refine eX_then_ret ?_
                                        have hq : (some (Ctl.out (Sum.inr false)) : Option (Ctl ((List (List (Int × Int))) × Int × Int × Int) (Sum ((List (List (Int × Int))) × Int × Int) ((Bool))))) = some _ := hm820
                                        replace hq := someE hq
                                        subst hq
                                        refine eX_outR hx639 (fun hr => ?_)
                                        subst hr
                                        refine eX_block_ret ?_
                                        refine eX_then_ret ?_
                                        refine eX_then_ret ?_
                                        have hq : (some false : Option ((Bool))) = some _ := hm636
                                        replace hq := someE hq
                                        subst hq
                                        refine eX_ret (vs := [.bool (false)]) [.tmp 4] (by rfl) ⟨by (show lkE _ _ _ = _); kernel_rfl, trivial⟩ ?_
                                        exact ⟨rfl, hB⟩
                                      · have hm := condF hb861 hm
                                        refine cW_skip ?_
                                        refine eX_block ?_
                                        refine eX_then ?_
                                        refine cW_region ?_
                                        refine wS_pure 3 [(19, .int .i64 (wr (x811 + 1))), (139, .int .i64 (wr (x811 + 1))), (138, .int .i64 (x811))] (by kernel_rfl) ?_
                                        refine wS_end (by rfl) ?_
                                        have hq : (some (Ctl.next (wr (x811 + 1))) : Option (Ctl (Int) (Sum (Unit) ((Bool))))) = some _ := hm
                                        replace hq := someE hq
                                        subst hq
                                        exact eX_next hx823 (fun hst => ⟨wr (x811 + 1), rfl, Fr.of hst (by kernel_rfl), F813, F814, F815, F816, F817, hB, hZ⟩)
                                  · have hm := condF hb853 hm
                                    rewrite [hb853]
                                    refine wH_take [13, 14, 15, 16, 17, 18, 19, 20, 21, 22, 23, 24, 25] [25, 24, 23, 22, 21, 20, 19, 18, 17, 16, 15, 14, 13, 12, 11, 10, 9, 8, 7, 6, 5, 4, 3, 2, 1, 0] [(165, undef), (164, undef), (163, undef), (162, undef), (161, undef), (160, undef), (159, undef), (158, undef), (157, undef), (156, undef), (155, undef), (154, undef), (153, undef)] (by kernel_rfl) (qT (qT (qB (qT (qL (qB (qT (qT (qB (qT (qL (qB (qT (qT qZ)))))))))))))) (by kernel_rfl) ?_
                                    refine wH_done (by kernel_rfl) ?_
                                    refine eX_tail ?_
                                    refine wS_pure 3 [(168, .bool (false)), (167, undef), (166, undef)] (by kernel_rfl) ?_
                                    refine wS_end (by rfl) ?_
                                    refine eX_then ?_
                                    refine cW_prune [(5, .int .i64 (wr (1 + y8))), (6, .slice A16 (y12).length cap17), (7, .slice A27 (y23).length cap28), (10, .int .i64 (wr (y35.1 + y64))), (11, .slice A619 (l618).length cap620), (12, .int .i64 (x624)), (13, .int .i64 (x625)), (14, .int .i64 (x626)), (15, .slice A645 (y641.1).length cap646), (17, .slice A659 (y655.1).length cap660), (19, .int .i64 (x811)), (168, .bool (false))] (by kernel_rfl) (by kernel_rfl) (fun a862 => ?_)
                                    refine cW_cond_f (by kernel_rfl) ?_
                                    refine cW_skip ?_
                                    refine eX_block ?_
                                    refine eX_then ?_
                                    refine cW_region ?_
                                    refine wS_pure 3 [(19, .int .i64 (wr (x811 + 1))), (139, .int .i64 (wr (x811 + 1))), (138, .int .i64 (x811))] (by kernel_rfl) ?_
                                    refine wS_end (by rfl) ?_
                                    have hq : (some (Ctl.next (wr (x811 + 1))) : Option (Ctl (Int) (Sum (Unit) ((Bool))))) = some _ := hm
                                    replace hq := someE hq
                                    subst hq
                                    exact eX_next hx823 (fun hst => ⟨wr (x811 + 1), rfl, Fr.of hst (by kernel_rfl), F813, F814, F815, F816, F817, hB, hZ⟩)
                                · have hm := condF hb824 hm
                                  refine cW_exit ?_
                                  refine eX_then_exit ?_
                                  have hq : (some (Ctl.out (Sum.inl (()))) : Option (Ctl (Int) (Sum (Unit) ((Bool))))) = some _ := hm
                                  replace hq := someE hq
                                  subst hq
                                  refine eX_outX hx823 (fun hr863 => ?_)
                                  replace hr863 := hr863.symm
                                  subst hr863
                                  refine eX_block_hit ?_
                                  exact eX_J (fun hst => ⟨rfl, Fr.of hst (by kernel_rfl), F813, F814, F815, F816, F817, hB, hZ⟩)
                              · rintro a' w803 ⟨hJ, hF804, F805, F806, F807, F808, F809, hB, hZ⟩
                                subst hJ
                                refine Fr.goX hF804 (by kernel_rfl) ?_
                                refine eX_then ?_
                                refine cW_seq ?_
                                refine cW_region ?_
                                refine wS_pure 6 [(12, .int .i64 (wr (x624 + (wr ((((y655.1).length : Int)) - 1))))), (173, .int .i64 (wr (x624 + (wr ((((y655.1).length : Int)) - 1))))), (172, .int .i64 (wr ((((y655.1).length : Int)) - 1))), (171, .int .i64 (((y655.1).length : Int))), (170, .slice A659 (y655.1).length cap660), (169, .int .i64 (x624))] (by kernel_rfl) ?_
                                refine wS_end (by rfl) ?_
                                refine eX_then ?_
                                refine cW_seq ?_
                                refine cW_region ?_
                                refine wS_pure 6 [(13, .int .i64 (wr (x625 + (wr ((((y641.1).length : Int)) - 2))))), (178, .int .i64 (wr (x625 + (wr ((((y641.1).length : Int)) - 2))))), (177, .int .i64 (wr ((((y641.1).length : Int)) - 2))), (176, .int .i64 (((y641.1).length : Int))), (175, .slice A645 (y641.1).length cap646), (174, .int .i64 (x625))] (by kernel_rfl) ?_
                                refine wS_end (by rfl) ?_
                                refine eX_then ?_
                                refine cW_region ?_
                                refine wS_pure 2 [(180, .slice A645 (y641.1).length cap646), (179, .slice A619 (l618).length cap620)] (by kernel_rfl) ?_
                                refine wS_row1 (k := 2) (enc := encII) (l := y641.1) (d := 181) (t := 31) (T := 32) (B := A645) (c := cap646) (by kernel_rfl) el31 F808 ?_
                                intro b864 w865 G866 F867 hc868
                                have D870 : Dj fp18 ([b864] ++ fp647) := Dj.app (Dj.of F805.low (low1 G866)) D652
                                have D871 : Dj fp29 ([b864] ++ fp647) := Dj.app (Dj.of F806.low (low1 G866)) D653
                                have D872 : Dj (fp621 ++ fr623) ([b864] ++ fp647) := Dj.app (Dj.of F807.low (low1 G866)) D654
                                have D873 : Dj fp661 ([b864] ++ fp647) := Dj.app (Dj.of F809.low (low1 G866)) (D669).symm
                                replace F805 := F805.chg hc868 Dj.nil
                                replace F806 := F806.chg hc868 Dj.nil
                                replace F807 := F807.chg hc868 Dj.nil
                                replace F808 := F808.chg hc868 Dj.nil
                                replace F809 := F809.chg hc868 Dj.nil
                                replace hB := hB.inS hc868 inNil
                                replace G866 := Nat.le_trans hZ G866
                                replace G866 := lowApp (low1 G866) G649
                                replace hZ := Nat.le_trans hZ hc868.size
                                replace F808 := (F808.sl encII_ok)
                                obtain ⟨_, hk874, hm⟩ := bindE hm
                                replace hk874 := apE hk874
                                refine wS_appendR (k := 2) (enc := encII) (ll := (l618 : List (List (Int × Int)))) (ll2 := (([y641.1] : List (List (Int × Int))) : List (List (Int × Int)))) (d := 182) (t := 31) (T := 32) (A := A619) (A2 := (some ⟨b864, 0, none⟩)) (cap := cap620) (cap2 := 1) (by kernel_rfl) el31 F807 F867 (by rfl) D872 hk874 ?_
                                intro w875 fp876 A877 cap878 F879 hc880 hp881
                                have G883 := lowApp (low_ap (low_inl G631) hZ hp881) (lowApp (low_inr G631) (low_inr G866))
                                have D884 : Dj fp18 (fp876 ++ (fr623 ++ fp647)) := Dj.app (Dj.ap (Dj.inl D632) F805.low hp881) (Dj.app (Dj.inr D632) (Dj.inr D870))
                                have D885 : Dj fp29 (fp876 ++ (fr623 ++ fp647)) := Dj.app (Dj.ap (Dj.inl D633) F806.low hp881) (Dj.app (Dj.inr D633) (Dj.inr D871))
                                have D886 : Dj fp661 (fp876 ++ (fr623 ++ fp647)) := Dj.app (Dj.ap (Dj.inl (D668).symm) F809.low hp881) (Dj.app (Dj.inr (D668).symm) (Dj.inr D873))
                                replace F805 := F805.chg hc880 (Dj.inl D632)
                                replace F806 := F806.chg hc880 (Dj.inl D633)
                                replace F809 := F809.chg hc880 (Dj.inl (D668).symm)
                                replace hB := hB.inS hc880 (memS_inl (inLow G631))
                                replace hZ := Nat.le_trans hZ hc880.size
                                refine wS_pure 1 [(11, .slice A877 (l618 ++ (([y641.1] : List (List (Int × Int))))).length cap878)] (by kernel_rfl) ?_
                                refine wS_end (by rfl) ?_
                                refine eX_block ?_
                                refine eX_then ?_
                                refine cW_prune [(5, .int .i64 (wr (1 + y8))), (6, .slice A16 (y12).length cap17), (7, .slice A27 (y23).length cap28), (10, .int .i64 (wr (y35.1 + y64))), (11, .slice A877 (l618 ++ (([y641.1] : List (List (Int × Int))))).length cap878), (12, .int .i64 (wr (x624 + (wr ((((y655.1).length : Int)) - 1))))), (13, .int .i64 (wr (x625 + (wr ((((y641.1).length : Int)) - 2))))), (14, .int .i64 (x626))] (by kernel_rfl) (by kernel_rfl) (fun a887 => ?_)
                                refine cW_region ?_
                                refine wS_pure 3 [(14, .int .i64 (wr (x626 + 1))), (87, .int .i64 (wr (x626 + 1))), (86, .int .i64 (x626))] (by kernel_rfl) ?_
                                refine wS_end (by rfl) ?_
                                have hq : (some (Ctl.next ((l618 ++ (([y641.1] : List (List (Int × Int)))), wr (x624 + (wr ((((y655.1).length : Int)) - 1))), wr (x625 + (wr ((((y641.1).length : Int)) - 2))), wr (x626 + 1)))) : Option (Ctl ((List (List (Int × Int))) × Int × Int × Int) (Sum ((List (List (Int × Int))) × Int × Int) ((Bool))))) = some _ := hm
                                replace hq := someE hq
                                subst hq
                                exact eX_next hx639 (fun hst => ⟨l618 ++ (([y641.1] : List (List (Int × Int)))), A877, cap878, fp876, (fr623 ++ fp647), wr (x624 + (wr ((((y655.1).length : Int)) - 1))), wr (x625 + (wr ((((y641.1).length : Int)) - 2))), wr (x626 + 1), rfl, Fr.of hst (by kernel_rfl), F805, F806, F879, G883, D884, D885, hB, hZ⟩)
                    · have hm := condF hb640 hm
                      refine cW_exit ?_
                      refine eX_then_exit ?_
                      have hq : (some (Ctl.out (Sum.inl ((l618, x624, x625)))) : Option (Ctl ((List (List (Int × Int))) × Int × Int × Int) (Sum ((List (List (Int × Int))) × Int × Int) ((Bool))))) = some _ := hm
                      replace hq := someE hq
                      subst hq
                      refine eX_outX hx639 (fun hr890 => ?_)
                      replace hr890 := hr890.symm
                      subst hr890
                      refine eX_block_hit ?_
                      exact eX_J (fun hst => ⟨l618, A619, cap620, fp621, fr623, x624, x625, rfl, Fr.of hst (by kernel_rfl), F628, F629, F630, G631, D632, D633, hB, hZ⟩)
                  · rintro a' w601 ⟨l602, A603, cap604, fp605, fr607, x608, x609, hJ, hF610, F611, F612, F613, G614, D615, D616, hB, hZ⟩
                    subst hJ
                    refine Fr.goX hF610 (by kernel_rfl) ?_
                    refine eX_then ?_
                    refine cW_seq ?_
                    refine cW_region ?_
                    refine wS_pure 3 [(186, .int .i64 (wr (y35.1 + y64))), (185, .slice A27 (y23).length cap28), (184, .slice A16 (y12).length cap17)] (by kernel_rfl) ?_
                    obtain ⟨y891, hy892, hm⟩ := bindE hm
                    refine wS_calls (d := 187) (f := 19) (vs := [.slice A16 (y12).length cap17, .slice A27 (y23).length cap28, .int .i64 (wr (y35.1 + y64))]) (by kernel_rfl) ent19 (c_impl_RiverLength hy892 (F611.sl encI_ok) (F612.sl encI_ok)) ?_
                    rintro _ w893 ⟨rfl, hc894⟩
                    replace F611 := F611.chg hc894 Dj.nil
                    replace F612 := F612.chg hc894 Dj.nil
                    replace F613 := F613.chg hc894 Dj.nil
                    replace hB := hB.inS hc894 inNil
                    replace hZ := Nat.le_trans hZ hc894.size
                    refine ⟨.tuple #[.int .i64 (y891.1), .bool (y891.2)], rfl, ?_⟩
                    refine wS_pure 5 [(21, .bool (y891.2)), (20, .int .i64 (y891.1)), (189, .bool (y891.2)), (188, .int .i64 (y891.1)), (183, .tuple #[.int .i64 (y891.1), .bool (y891.2)])] (by kernel_rfl) ?_
                    refine wS_end (by rfl) ?_
                    refine eX_then ?_
                    refine cW_seq ?_
                    refine cW_region ?_
                    refine wS_pure 3 [(193, .int .i64 (wr (y35.1 + y64))), (192, .slice A27 (y23).length cap28), (191, .slice A16 (y12).length cap17)] (by kernel_rfl) ?_
                    obtain ⟨y895, hy896, hm⟩ := bindE hm
                    refine wS_calls (d := 194) (f := 20) (vs := [.slice A16 (y12).length cap17, .slice A27 (y23).length cap28, .int .i64 (wr (y35.1 + y64))]) (by kernel_rfl) ent20 (c_impl_RiverBends hy896 (F611.sl encI_ok) (F612.sl encI_ok)) ?_
                    rintro _ w897 ⟨rfl, hc898⟩
                    replace F611 := F611.chg hc898 Dj.nil
                    replace F612 := F612.chg hc898 Dj.nil
                    replace F613 := F613.chg hc898 Dj.nil
                    replace hB := hB.inS hc898 inNil
                    replace hZ := Nat.le_trans hZ hc898.size
                    refine ⟨.tuple #[.int .i64 (y895.1), .bool (y895.2)], rfl, ?_⟩
                    refine wS_pure 5 [(23, .bool (y895.2)), (22, .int .i64 (y895.1)), (196, .bool (y895.2)), (195, .int .i64 (y895.1)), (190, .tuple #[.int .i64 (y895.1), .bool (y895.2)])] (by kernel_rfl) ?_
                    refine wS_end (by rfl) ?_
                    refine eX_then ?_
                    refine cW_prune [(11, .slice A603 (l602).length cap604), (12, .int .i64 (x608)), (13, .int .i64 (x609)), (20, .int .i64 (y891.1)), (21, .bool (y891.2)), (22, .int .i64 (y895.1)), (23, .bool (y895.2))] (by kernel_rfl) (by kernel_rfl) (fun a899 => ?_)
                    refine cW_seq ?_
                    refine cW_region ?_
                    refine wS_pure 2 [(198, .bool (y891.2)), (197, .bool (y891.2))] (by kernel_rfl) ?_
                    refine wS_bool y891.2 (fun hb900 => ?_) (fun hb900 => ?_)
                    · have hm := condT hb900 hm
                      rewrite [hb900]
                      refine wS_pure 3 [(201, .bool (y895.2)), (200, .bool (y895.2)), (199, .bool (y895.2))] (by kernel_rfl) ?_
                      refine wS_bool y895.2 (fun hb901 => ?_) (fun hb901 => ?_)
                      · have hm := condT hb901 hm
                        rewrite [hb901]
                        refine wS_pure 5 [(206, .bool (y891.1 == x608)), (205, .bool (y891.1 == x608)), (204, .bool (y891.1 == x608)), (203, .int .i64 (x608)), (202, .int .i64 (y891.1))] (by kernel_rfl) ?_
                        refine wS_bool (y891.1 == x608) (fun hb902 => ?_) (fun hb902 => ?_)
                        · have hm := condT hb902 hm
                          rewrite [hb902]
                          refine wS_pure 5 [(211, .bool (y895.1 == x609)), (210, .bool (y895.1 == x609)), (209, .bool (y895.1 == x609)), (208, .int .i64 (x609)), (207, .int .i64 (y895.1))] (by kernel_rfl) ?_
                          refine wS_bool (y895.1 == x609) (fun hb903 => ?_) (fun hb903 => ?_)
                          · have hm := condT hb903 hm
                            rewrite [hb903]
                            refine wS_pure 1 [(212, .slice A603 (l602).length cap604)] (by kernel_rfl) ?_
                            obtain ⟨y904, hy905, hm⟩ := bindE hm
                            refine wS_calls (d := 213) (f := 21) (vs := [.slice A603 (l602).length cap604]) (by kernel_rfl) ent21 (c_impl_AreApart hy905 (F613.slr encII_ok)) ?_
                            rintro _ w906 ⟨rfl, hc907⟩
                            replace F611 := F611.chg hc907 Dj.nil
                            replace F612 := F612.chg hc907 Dj.nil
                            replace F613 := F613.chg hc907 Dj.nil
                            replace hB := hB.inS hc907 inNil
                            replace hZ := Nat.le_trans hZ hc907.size
                            refine ⟨.bool (y904), rfl, ?_⟩
                            refine wS_pure 2 [(4, .bool (y904)), (214, .bool (y904))] (by kernel_rfl) ?_
                            refine wS_end (by rfl) ?_
                            refine eX_then ?_
                            refine cW_prune [(4, .bool (y904))] (by kernel_rfl) (by kernel_rfl) (fun a908 => ?_)
                            refine cW_ret ?_
                            have hq : (some y904 : Option ((Bool))) = some _ := hm
                            replace hq := someE hq
                            subst hq
                            refine eX_ret (vs := [.bool (y904)]) [.tmp 4] (by rfl) ⟨by (show lkE _ _ _ = _); kernel_rfl, trivial⟩ ?_
                            exact ⟨rfl, hB⟩
                          · have hm := condF hb903 hm
                            rewrite [hb903]
                            refine wS_pure 4 [(4, .bool (false)), (214, .bool (false)), (213, undef), (212, undef)] (by kernel_rfl) ?_
                            refine wS_end (by rfl) ?_
                            refine eX_then ?_
                            refine cW_prune [(4, .bool (false))] (by kernel_rfl) (by kernel_rfl) (fun a909 => ?_)
                            refine cW_ret ?_
                            have hq : (some false : Option ((Bool))) = some _ := hm
                            replace hq := someE hq
                            subst hq
                            refine eX_ret (vs := [.bool (false)]) [.tmp 4] (by rfl) ⟨by (show lkE _ _ _ = _); kernel_rfl, trivial⟩ ?_
                            exact ⟨rfl, hB⟩
                        · have hm := condF hb902 hm
                          rewrite [hb902]
                          refine wS_pure 9 [(4, .bool (false)), (214, .bool (false)), (213, undef), (212, undef), (211, .bool (false)), (210, .bool (false)), (209, undef), (208, undef), (207, undef)] (by kernel_rfl) ?_
                          refine wS_end (by rfl) ?_
                          refine eX_then ?_
                          refine cW_prune [(4, .bool (false))] (by kernel_rfl) (by kernel_rfl) (fun a910 => ?_)
                          refine cW_ret ?_
                          have hq : (some false : Option ((Bool))) = some _ := hm
                          replace hq := someE hq
                          subst hq
                          refine eX_ret (vs := [.bool (false)]) [.tmp 4] (by rfl) ⟨by (show lkE _ _ _ = _); kernel_rfl, trivial⟩ ?_
                          exact ⟨rfl, hB⟩
                      · have hm := condF hb901 hm
                        rewrite [hb901]
                        refine wS_pure 14 [(4, .bool (false)), (214, .bool (false)), (213, undef), (212, undef), (211, .bool (false)), (210, .bool (false)), (209, undef), (208, undef), (207, undef), (206, .bool (false)), (205, .bool (false)), (204, undef), (203, undef), (202, undef)] (by kernel_rfl) ?_
                        refine wS_end (by rfl) ?_
                        refine eX_then ?_
                        refine cW_prune [(4, .bool (false))] (by kernel_rfl) (by kernel_rfl) (fun a911 => ?_)
                        refine cW_ret ?_
                        have hq : (some false : Option ((Bool))) = some _ := hm
                        replace hq := someE hq
                        subst hq
                        refine eX_ret (vs := [.bool (false)]) [.tmp 4] (by rfl) ⟨by (show lkE _ _ _ = _); kernel_rfl, trivial⟩ ?_
                        exact ⟨rfl, hB⟩
                    · have hm := condF hb900 hm
                      rewrite [hb900]
                      refine wS_pure 17 [(4, .bool (false)), (214, .bool (false)), (213, undef), (212, undef), (211, .bool (false)), (210, .bool (false)), (209, undef), (208, undef), (207, undef), (206, .bool (false)), (205, .bool (false)), (204, undef), (203, undef), (202, undef), (201, .bool (false)), (200, .bool (false)), (199, undef)] (by kernel_rfl) ?_
                      refine wS_end (by rfl) ?_
                      refine eX_then ?_
                      refine cW_prune [(4, .bool (false))] (by kernel_rfl) (by kernel_rfl) (fun a912 => ?_)
                      refine cW_ret ?_
                      have hq : (some false : Option ((Bool))) = some _ := hm
                      replace hq := someE hq
                      subst hq
                      refine eX_ret (vs := [.bool (false)]) [.tmp 4] (by rfl) ⟨by (show lkE _ _ _ = _); kernel_rfl, trivial⟩ ?_
                      exact ⟨rfl, hB⟩

end Go.Proofs.Ytgaecldkiijmpaa
