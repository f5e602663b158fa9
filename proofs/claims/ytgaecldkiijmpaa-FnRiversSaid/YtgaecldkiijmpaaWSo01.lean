/- Printed walks: slices.Clone[[]impl.Point,impl.Point], slices.Compact[[]impl.Point,impl.Point], impl.sorted. -/
import Derived.Test.YtgaecldkiijmpaaProg
import Derived.Test.YtgaecldkiijmpaaMod
import Derived.Test.YtgaecldkiijmpaaEqs
import Derived.Test.YtgaecldkiijmpaaSrtC
set_option linter.unusedSimpArgs false
set_option linter.unusedVariables false
namespace Go.Proofs.Ytgaecldkiijmpaa
open Go.RowKit
attribute [local irreducible] wS cW eX wH

theorem ent75 : Ent Try.prog 75 := fun _ => by kernel_rfl
theorem ent140 : Ent Try.prog 140 := fun _ => by kernel_rfl
theorem ent142 : Ent Try.prog 142 := fun _ => by kernel_rfl
theorem vt37 : VarTy Try.prog 37 2 true := ⟨by kernel_rfl, by kernel_rfl⟩
theorem sl32 : SlTy Try.prog 32 37 2 := ⟨Try.underlying32, by kernel_rfl⟩
theorem el32 : ElTy Try.prog 32 37 2 (.agg #[.int .i64 (0), .int .i64 (0)]) := ElTy.mk' Try.underlying32 (by kernel_rfl) (by rfl)
theorem eq37 : ∃ f0 f1, EqTy Try.prog 37 f0 f1 := ⟨_, _, Try.underlying37, by kernel_rfl, by kernel_rfl, by kernel_rfl, fun w => pureRun_run (by kernel_rfl) w, fun w => pureRun_run (by kernel_rfl) w, rfl, rfl, Try.underlying2, Try.underlying2, by kernel_rfl⟩
theorem sz37 : pureRun Try.prog (sizeOf 37) = some 2 := by kernel_rfl

set_option maxRecDepth 100000 in
/-- impl.Point] -/
theorem c_slices_Clone_impl_Point_impl_Point {w0 : World} {l0 : List (Int × Int)} {A0 : Option Addr} {cap0 : Nat} {fp0 : List Nat} {r : (List (Int × Int))} (hm : m_slices_Clone_impl_Point_impl_Point l0 = some r) (F0 : Sl 2 encII w0 fp0 A0 l0) :
    Calls Try.prog 75 #[.slice A0 (l0).length cap0] w0 fun e w' => ∃ A100 cap100 fp100, e = .returned (.slice A100 (r).length cap100) ∧ Ow 2 encII 37 w' fp100 A100 cap100 r ∧ (∀ x ∈ fp100, w0.heap.size ≤ x) ∧ Chg [] w0 w' := by
  have L0 := F0.low
  have hB : Chg [] w0 w0 := Chg.refl _ _
  have hZ := Nat.le_refl w0.heap.size
  unfold m_slices_Clone_impl_Point_impl_Point at hm
  refine enterE (N := 8) Try.func75 (by rfl) Try.ntmps75 (by simp) [(0, .slice A0 (l0).length cap0)] (by rfl) (by kernel_rfl) (fun a => ?_)
  refine cW_seq ?_
  refine cW_region ?_
  refine wS_pure 1 [(2, .slice none 0 0)] (by kernel_rfl) ?_
  refine wS_end (by rfl) ?_
  refine eX_then ?_
  refine cW_seq ?_
  refine cW_seq ?_
  refine cW_region ?_
  refine wS_pure 1 [(3, .slice A0 (l0).length cap0)] (by kernel_rfl) ?_
  rcases A0 with _ | ad2
  · have hl3 := F0.none_nil
    subst hl3
    replace hm : (some ([])) = some _ := Eq.trans (by kernel_rfl) hm
    refine wS_pure 1 [(4, .bool (true))] (by kernel_rfl) ?_
    refine wS_end (by rfl) ?_
    refine eX_then ?_
    refine cW_cond_t (by kernel_rfl) ?_
    refine cW_seq ?_
    refine cW_region ?_
    refine wS_pure 1 [(2, .slice none 0 0)] (by kernel_rfl) ?_
    refine wS_end (by rfl) ?_
    refine eX_then ?_
    refine cW_ret ?_
    refine eX_then_ret ?_
    have hq : (some ([]) : Option ((List (Int × Int)))) = some _ := hm
    replace hq := someE hq
    subst hq
    refine eX_ret (vs := [.slice none 0 0]) [.tmp 2] (by rfl) ⟨by (show lkE _ _ _ = _); kernel_rfl, trivial⟩ ?_
    exact ⟨none, 0, [], rfl, Ow.nil _, lowNil, hB⟩
  · skip
    refine wS_pure 1 [(4, .bool (false))] (by kernel_rfl) ?_
    refine wS_end (by rfl) ?_
    refine eX_then ?_
    refine cW_cond_f (by kernel_rfl) ?_
    refine cW_skip ?_
    refine eX_then ?_
    refine cW_seq ?_
    refine cW_region ?_
    refine wS_bs0 (α := Int × Int) (enc := encII) (d := 5) (t := 32) (T := 37) (by kernel_rfl) el32 ?_
    intro b4 w5 G6 F7 hc8
    replace F0 := F0.chg hc8 Dj.nil
    replace hB := hB.inS hc8 inNil
    replace G6 := Nat.le_trans hZ G6
    replace G6 := low1 G6
    replace hZ := Nat.le_trans hZ hc8.size
    refine wS_pure 1 [(6, .slice (some ad2) (l0).length cap0)] (by kernel_rfl) ?_
    obtain ⟨_, hk10, hm⟩ := bindE hm
    replace hk10 := apE hk10
    refine wS_appendAny (enc := encII) (l := (([] : List (Int × Int)) : List (Int × Int))) (l2 := (l0 : List (Int × Int))) (d := 7) (t := 32) (T := 37) (A := (some ⟨b4, 0, none⟩)) (A2 := (some ad2)) (cap := 0) (cap2 := cap0) (by kernel_rfl) el32 encII_ok F7 F0 hk10 ?_
    intro w11 fp12 A13 cap14 F15 hc16 hp17
    have G19 := low_ap G6 hZ hp17
    replace F0 := F0.chg hc16 (Dj.of L0 G6)
    replace hB := hB.inS hc16 (inLow G6)
    replace hZ := Nat.le_trans hZ hc16.size
    refine wS_pure 1 [(2, .slice A13 ((([] : List (Int × Int))) ++ l0).length cap14)] (by kernel_rfl) ?_
    refine wS_end (by rfl) ?_
    refine eX_then ?_
    refine cW_ret ?_
    have hq : (some ((([] : List (Int × Int))) ++ l0) : Option ((List (Int × Int)))) = some _ := hm
    replace hq := someE hq
    subst hq
    refine eX_ret (vs := [.slice A13 ((([] : List (Int × Int))) ++ l0).length cap14]) [.tmp 2] (by rfl) ⟨by (show lkE _ _ _ = _); kernel_rfl, trivial⟩ ?_
    exact ⟨A13, cap14, fp12, rfl, F15, G19, hB⟩

set_option maxRecDepth 100000 in
/-- impl.Point] -/
theorem c_slices_Compact_impl_Point_impl_Point {w0 : World} {l0 : List (Int × Int)} {A0 : Option Addr} {cap0 : Nat} {fp0 : List Nat} {r : (List (Int × Int))} (hm : m_slices_Compact_impl_Point_impl_Point l0 = some r) (F0 : Ow 2 encII 37 w0 fp0 A0 cap0 l0) (K0 : (l0).length ≤ cap0) :
    Calls Try.prog 142 #[.slice A0 (l0).length cap0] w0 fun e w' => e = .returned (.slice A0 (r).length cap0) ∧ Ow 2 encII 37 w' fp0 A0 cap0 r ∧ Chg (fp0 ++ []) w0 w' := by
  have L0 := F0.low
  have hB : Chg (fp0 ++ []) w0 w0 := Chg.refl _ _
  have hZ := Nat.le_refl w0.heap.size
  unfold m_slices_Compact_impl_Point_impl_Point at hm
  refine enterE (N := 61) Try.func142 (by rfl) Try.ntmps142 (by simp) [(0, .slice A0 (l0).length cap0)] (by rfl) (by kernel_rfl) (fun a => ?_)
  refine cW_seq ?_
  refine cW_region ?_
  refine wS_pure 1 [(2, .slice none 0 0)] (by kernel_rfl) ?_
  refine wS_end (by rfl) ?_
  refine eX_then ?_
  refine cW_seq ?_
  refine cW_seq ?_
  refine cW_region ?_
  refine wS_pure 3 [(8, .bool (decide ((((l0).length : Int)) < 2))), (7, .int .i64 (((l0).length : Int))), (6, .slice A0 (l0).length cap0)] (by kernel_rfl) ?_
  refine wS_end (by rfl) ?_
  refine eX_then ?_
  refine cW_cond (t := decide ((((l0).length : Int)) < 2)) (by kernel_rfl) (fun hb2 => ?_) (fun hb2 => ?_)
  · have hm := condT hb2 hm
    refine cW_seq ?_
    refine cW_region ?_
    refine wS_pure 2 [(2, .slice A0 (l0).length cap0), (9, .slice A0 (l0).length cap0)] (by kernel_rfl) ?_
    refine wS_end (by rfl) ?_
    refine eX_then ?_
    refine cW_ret ?_
    refine eX_then_ret ?_
    have hq : (some l0 : Option ((List (Int × Int)))) = some _ := hm
    replace hq := someE hq
    subst hq
    refine eX_ret (vs := [.slice A0 (l0).length cap0]) [.tmp 2] (by rfl) ⟨by (show lkE _ _ _ = _); kernel_rfl, trivial⟩ ?_
    exact ⟨rfl, F0, hB⟩
  · have hm := condF hb2 hm
    refine cW_skip ?_
    refine eX_then ?_
    refine cW_seq ?_
    refine cW_seq ?_
    refine cW_region ?_
    refine wS_pure 1 [(3, .int .i64 (1))] (by kernel_rfl) ?_
    refine wS_end (by rfl) ?_
    refine eX_then ?_
    obtain ⟨r545, hr546, hm⟩ := bindE hm
    have hm547 := hm
    refine cW_cut (fun a' w' => Sum.inl (()) = r545 ∧ Fr 61 [(0, .slice A0 (l0).length cap0)] a' ∧ Ow 2 encII 37 w' fp0 A0 cap0 l0 ∧ Chg (fp0 ++ []) w0 w' ∧ w0.heap.size ≤ w'.heap.size) ?_ ?_
    · refine cW_block ?_
      refine cW_loop _ (fun (s548 : Int) a' w' => ∃ x542 : Int, x542 = s548 ∧ Fr 61 [(0, .slice A0 (l0).length cap0), (3, .int .i64 (x542))] a' ∧ Ow 2 encII 37 w' fp0 A0 cap0 l0 ∧ Chg (fp0 ++ []) w0 w' ∧ w0.heap.size ≤ w'.heap.size) hr546 (fun hst => ⟨1, rfl, Fr.of hst (by kernel_rfl), F0, hB, hZ⟩) ?_
      rintro _ c549 a' w541 ⟨x542, rfl, hF543, F544, hB, hZ⟩ hx550
      refine Fr.goOn hF543 (by kernel_rfl) ?_
      have hm := hx550
      unfold m_slices_Compact_impl_Point_impl_Point_s3 at hm
      refine cW_seq ?_
      refine cW_seq ?_
      refine cW_region ?_
      refine wS_pure 4 [(13, .bool (decide (x542 < (((l0).length : Int))))), (12, .int .i64 (((l0).length : Int))), (11, .slice A0 (l0).length cap0), (10, .int .i64 (x542))] (by kernel_rfl) ?_
      refine wS_end (by rfl) ?_
      refine eX_then ?_
      refine cW_cond (t := decide (x542 < (((l0).length : Int)))) (by kernel_rfl) (fun hb551 => ?_) (fun hb551 => ?_)
      · have hm := condT hb551 hm
        refine cW_skip ?_
        refine eX_then ?_
        refine cW_seq ?_
        refine cW_block ?_
        refine cW_seq ?_
        refine cW_drawnTail [] 9 (by kernel_rfl) (by kernel_rfl) (fun w559 hc560 => ?_)
        replace F544 := F544.chg hc560 Dj.nil
        replace hB := hB.inS hc560 inNil
        replace hZ := Nat.le_trans hZ hc560.size
        have hS := Chg.refl [] w559
        have Z561 := F544
        refine wH_take [0, 1] [1, 0] [(17, .int .i64 (x542)), (16, .slice A0 (l0).length cap0)] (by kernel_rfl) (qT (qT (qB (qT (qL (qB (qT (qT qZ)))))))) (by kernel_rfl) ?_
        obtain ⟨x562, hx563, hm⟩ := bindE hm
        refine wH_idx (i := 2) (d := 18) (T := 32) (A := A0) (n := (l0).length) (cap := cap0) (kd := .i64) (m := x542) (by kernel_rfl) (qT (qT (qB (qT (qL (qB (qT (qT qZ)))))))) (by kernel_rfl) (by kernel_rfl) sl32 ((F544.sl encII_ok).is hx563) ?_
        refine wH_loadA (i := 3) (d := 19) (T := 37) (ad := (elA A0 2 (x542) 0)) (vs := [.int .i64 (x562.1), .int .i64 (x562.2)]) (by kernel_rfl) (qT (qT (qB (qT (qL (qB (qT (qT qZ)))))))) (by kernel_rfl) (by kernel_rfl) vt37 (fun W hW i u hu => Sl.cells_at ((Z561.chg hW Dj.nil).sl encII_ok) hx563 0 hu (by rfl)) ?_
        refine wH_take [4, 5, 6] [6, 5, 4, 3, 2, 1, 0] [(22, .int .i64 (wr (x542 - 1))), (21, .int .i64 (x542)), (20, .slice A0 (l0).length cap0)] (by kernel_rfl) (qT (qT (qB (qT (qL (qB (qT (qT qZ)))))))) (by kernel_rfl) ?_
        obtain ⟨x564, hx565, hm⟩ := bindE hm
        refine wH_idx (i := 7) (d := 23) (T := 32) (A := A0) (n := (l0).length) (cap := cap0) (kd := .i64) (m := wr (x542 - 1)) (by kernel_rfl) (qT (qT (qB (qT (qL (qB (qT (qT qZ)))))))) (by kernel_rfl) (by kernel_rfl) sl32 ((F544.sl encII_ok).is hx565) ?_
        refine wH_loadA (i := 8) (d := 24) (T := 37) (ad := (elA A0 2 (wr (x542 - 1)) 0)) (vs := [.int .i64 (x564.1), .int .i64 (x564.2)]) (by kernel_rfl) (qT (qT (qB (qT (qL (qB (qT (qT qZ)))))))) (by kernel_rfl) (by kernel_rfl) vt37 (fun W hW i u hu => Sl.cells_at ((Z561.chg hW Dj.nil).sl encII_ok) hx565 0 hu (by rfl)) ?_
        refine wH_done (by kernel_rfl) ?_
        refine eX_tail ?_
        refine wS_eqS (d := 25) (T := 37) (x := x562.1) (y := x562.2) (x' := x564.1) (y' := x564.2) (by kernel_rfl) eq37 ?_
        refine wS_end (by rfl) ?_
        refine eX_then ?_
        refine cW_cond (t := x562.1 == x564.1 && x562.2 == x564.2) (by kernel_rfl) (fun hb566 => ?_) (fun hb566 => ?_)
        · have hm := condT hb566 hm
          refine cW_seq ?_
          refine cW_region ?_
          refine wS_pure 2 [(27, .int .i64 (x542)), (26, .slice A0 (l0).length cap0)] (by kernel_rfl) ?_
          obtain ⟨y567, hy568, hm⟩ := bindE hm
          refine wS_cutA (enc := encII) (l := l0) (d := 28) (T := 32) (A := A0) (cap := cap0) (vlo := some (.int .i64 (x542))) (vhi := none) (lo := x542) (hi := ((l0).length : Int)) (n := 0) (by kernel_rfl) sl32 (Or.inl rfl) (Or.inr ⟨rfl, rfl⟩) (F544.sl encII_ok) F544.cap_le hy568 ?_
          intro A569 cap570 hA573 F571 hcap572
          obtain rfl := slci_slc hy568
          have hcz575 := F544.cap_le
          refine wS_pure 1 [(4, .slice A569 (slc l0 x542 (((l0).length : Int))).length cap570)] (by kernel_rfl) ?_
          refine wS_end (by rfl) ?_
          refine eX_then ?_
          refine cW_seq ?_
          refine cW_seq ?_
          refine cW_region ?_
          refine wS_pure 1 [(5, .int .i64 (1))] (by kernel_rfl) ?_
          refine wS_end (by rfl) ?_
          refine eX_then ?_
          obtain ⟨r728, hr729, hm⟩ := bindE hm
          have hm730 := hm
          refine cW_cut (fun a' w' => ∃ x715 : Int, ∃ l716 : List (Int × Int), (x715, l716) = r728 ∧ Fr 61 [(0, .slice A0 (l716).length cap0), (3, .int .i64 (x715))] a' ∧ Ow 2 encII 37 w' fp0 A0 cap0 l716 ∧ (l716).length = (l0).length ∧ Chg (fp0 ++ []) w0 w' ∧ w0.heap.size ≤ w'.heap.size) ?_ ?_
          · refine cW_block ?_
            refine cW_loop _ (fun (s731 : Int × Int × (List (Int × Int))) a' w' => ∃ x721 : Int, ∃ x722 : Int, ∃ l723 : List (Int × Int), (x721, x722, l723) = s731 ∧ Fr 61 [(0, .slice A0 (l723).length cap0), (3, .int .i64 (x721)), (4, .slice A569 (slc l723 x542 (((l0).length : Int))).length cap570), (5, .int .i64 (x722))] a' ∧ Ow 2 encII 37 w' fp0 A0 cap0 l723 ∧ Sl 2 encII w' fp0 A569 (slc l723 x542 (((l0).length : Int))) ∧ (l723).length = (l0).length ∧ Chg (fp0 ++ []) w0 w' ∧ w0.heap.size ≤ w'.heap.size) hr729 (fun hst => ⟨x542, 1, l0, rfl, Fr.of hst (by kernel_rfl), F544, F571, (Eq.refl (l0).length), hB, hZ⟩) ?_
            rintro _ c732 a' w720 ⟨x721, x722, l723, rfl, hF724, F725, F726, hl727, hB, hZ⟩ hx733
            refine Fr.goOn hF724 (by kernel_rfl) ?_
            have hm := hx733
            unfold m_slices_Compact_impl_Point_impl_Point_s4 at hm
            refine cW_seq ?_
            refine cW_seq ?_
            refine cW_region ?_
            refine wS_pure 4 [(32, .bool (decide (x722 < (((slc l723 x542 (((l0).length : Int))).length : Int))))), (31, .int .i64 (((slc l723 x542 (((l0).length : Int))).length : Int))), (30, .slice A569 (slc l723 x542 (((l0).length : Int))).length cap570), (29, .int .i64 (x722))] (by kernel_rfl) ?_
            refine wS_end (by rfl) ?_
            refine eX_then ?_
            refine cW_cond (t := decide (x722 < (((slc l723 x542 (((l0).length : Int))).length : Int)))) (by kernel_rfl) (fun hb734 => ?_) (fun hb734 => ?_)
            · have hm := condT hb734 hm
              refine cW_skip ?_
              refine eX_then ?_
              refine cW_seq ?_
              refine cW_block ?_
              obtain ⟨s769, hs770, hm⟩ := bindE hm
              refine cW_cut (fun a' w' => ∃ x763 : Int, ∃ l764 : List (Int × Int), (x763, l764) = s769 ∧ Fr 61 [(0, .slice A0 (l764).length cap0), (3, .int .i64 (x763)), (4, .slice A569 (slc l764 x542 (((l0).length : Int))).length cap570), (5, .int .i64 (x722))] a' ∧ Ow 2 encII 37 w' fp0 A0 cap0 l764 ∧ Sl 2 encII w' fp0 A569 (slc l764 x542 (((l0).length : Int))) ∧ (l764).length = (l0).length ∧ Chg (fp0 ++ []) w0 w' ∧ w0.heap.size ≤ w'.heap.size) ?_ ?_
              · have hm := hs770
                refine cW_seq ?_
                refine cW_drawnTail [] 9 (by kernel_rfl) (by kernel_rfl) (fun w779 hc780 => ?_)
                replace F725 := F725.chg hc780 Dj.nil
                replace F726 := F726.chg hc780 Dj.nil
                replace hB := hB.inS hc780 inNil
                replace hZ := Nat.le_trans hZ hc780.size
                have hS := Chg.refl [] w779
                have Z781 := F725
                have Z782 := F726
                refine wH_take [0, 1] [1, 0] [(36, .int .i64 (x722)), (35, .slice A569 (slc l723 x542 (((l0).length : Int))).length cap570)] (by kernel_rfl) (qT (qT (qT (qB (qT (qL (qB (qT (qT (qB (qT (qL (qB (qT (qT qZ))))))))))))))) (by kernel_rfl) ?_
                obtain ⟨x783, hx784, hm⟩ := bindE hm
                refine wH_idx (i := 2) (d := 37) (T := 32) (A := A569) (n := (slc l723 x542 (((l0).length : Int))).length) (cap := cap570) (kd := .i64) (m := x722) (by kernel_rfl) (qT (qT (qT (qB (qT (qL (qB (qT (qT (qB (qT (qL (qB (qT (qT qZ))))))))))))))) (by kernel_rfl) (by kernel_rfl) sl32 (F726.is hx784) ?_
                refine wH_loadA (i := 3) (d := 38) (T := 37) (ad := (elA A569 2 (x722) 0)) (vs := [.int .i64 (x783.1), .int .i64 (x783.2)]) (by kernel_rfl) (qT (qT (qT (qB (qT (qL (qB (qT (qT (qB (qT (qL (qB (qT (qT qZ))))))))))))))) (by kernel_rfl) (by kernel_rfl) vt37 (fun W hW i u hu => Sl.cells_at (Z782.chg hW Dj.nil) hx784 0 hu (by rfl)) ?_
                refine wH_take [4, 5, 6] [6, 5, 4, 3, 2, 1, 0] [(41, .int .i64 (wr (x722 - 1))), (40, .int .i64 (x722)), (39, .slice A569 (slc l723 x542 (((l0).length : Int))).length cap570)] (by kernel_rfl) (qT (qT (qT (qB (qT (qL (qB (qT (qT (qB (qT (qL (qB (qT (qT qZ))))))))))))))) (by kernel_rfl) ?_
                obtain ⟨x785, hx786, hm⟩ := bindE hm
                refine wH_idx (i := 7) (d := 42) (T := 32) (A := A569) (n := (slc l723 x542 (((l0).length : Int))).length) (cap := cap570) (kd := .i64) (m := wr (x722 - 1)) (by kernel_rfl) (qT (qT (qT (qB (qT (qL (qB (qT (qT (qB (qT (qL (qB (qT (qT qZ))))))))))))))) (by kernel_rfl) (by kernel_rfl) sl32 (F726.is hx786) ?_
                refine wH_loadA (i := 8) (d := 43) (T := 37) (ad := (elA A569 2 (wr (x722 - 1)) 0)) (vs := [.int .i64 (x785.1), .int .i64 (x785.2)]) (by kernel_rfl) (qT (qT (qT (qB (qT (qL (qB (qT (qT (qB (qT (qL (qB (qT (qT qZ))))))))))))))) (by kernel_rfl) (by kernel_rfl) vt37 (fun W hW i u hu => Sl.cells_at (Z782.chg hW Dj.nil) hx786 0 hu (by rfl)) ?_
                refine wH_done (by kernel_rfl) ?_
                refine eX_tail ?_
                refine wS_neS (d := 44) (T := 37) (x := x783.1) (y := x783.2) (x' := x785.1) (y' := x785.2) (by kernel_rfl) eq37 ?_
                refine wS_end (by rfl) ?_
                refine eX_then ?_
                refine cW_cond (t := !(x783.1 == x785.1 && x783.2 == x785.2)) (by kernel_rfl) (fun hb787 => ?_) (fun hb787 => ?_)
                · have hm := condT hb787 hm
                  refine cW_seq ?_
                  refine cW_region ?_
                  refine wS_pure 4 [(48, .int .i64 (x722)), (47, .slice A569 (slc l723 x542 (((l0).length : Int))).length cap570), (46, .int .i64 (x721)), (45, .slice A0 (l723).length cap0)] (by kernel_rfl) ?_
                  obtain ⟨x788, hx789, hm⟩ := bindE hm
                  refine wS_idx (d := 49) (T := 32) (A := A569) (n := (slc l723 x542 (((l0).length : Int))).length) (cap := cap570) (kd := .i64) (m := x722) (by kernel_rfl) sl32 (F726.is hx789) ?_
                  refine wS_loadA (d := 50) (T := 37) (ad := (elA A569 2 (x722) 0)) (vs := [.int .i64 (x788.1), .int .i64 (x788.2)]) (by kernel_rfl) vt37 (fun i u hu => Sl.cells_at F726 hx789 0 hu (by rfl)) ?_
                  obtain ⟨x790, hx791, hm⟩ := bindE hm
                  refine wS_idx (d := 51) (T := 32) (A := A0) (n := (l723).length) (cap := cap0) (kd := .i64) (m := x721) (by kernel_rfl) sl32 ((F725.sl encII_ok).is hx791) ?_
                  refine wS_storeEl (x := x790) ((x788.1, x788.2)) (T := 37) (U := 37) (cap := cap0) (j := 0) (A := A0) (v := .agg #[.int .i64 (x788.1), .int .i64 (x788.2)]) (vs := [.int .i64 (x788.1), .int .i64 (x788.2)]) (m := x721) (by kernel_rfl) (by rfl) sz37 (by rfl) encII_ok F725 hx791 (by simp only [List.length_cons, List.length_nil]; omega) (by rfl) ?_
                  intro w792 F793 hc794
                  replace hB := hB.inS hc794 (inMem (fun x hx => (List.mem_append_left _ hx)))
                  replace hZ := Nat.le_trans hZ hc794.size
                  clear F725
                  have hl795 := (show (l723.set (Int.toNat x721) ((x788.1, x788.2))).length = (l723).length from List.length_set ..).trans hl727
                  rewrite [show (l723).length = (l723.set (Int.toNat x721) ((x788.1, x788.2))).length from (List.length_set ..).symm]
                  have F796 := Sl.recut (F793.sl encII_ok) hA573 hy568 hcz575 (hl795.trans (Eq.refl (l0).length).symm)
                  first | rewrite [show (slc l723 x542 (((l0).length : Int))).length = (slc (l723.set (Int.toNat x721) ((x788.1, x788.2))) x542 (((l0).length : Int))).length from (slc_length (show (l723.set (Int.toNat x721) ((x788.1, x788.2))).length = (l723).length from List.length_set ..)).symm] | skip
                  refine wS_end (by rfl) ?_
                  refine eX_then ?_
                  refine cW_prune [(0, .slice A0 (l723.set (Int.toNat x721) ((x788.1, x788.2))).length cap0), (3, .int .i64 (x721)), (4, .slice A569 (slc (l723.set (Int.toNat x721) ((x788.1, x788.2))) x542 (((l0).length : Int))).length cap570), (5, .int .i64 (x722))] (by kernel_rfl) (by kernel_rfl) (fun a797 => ?_)
                  refine cW_region ?_
                  refine wS_pure 3 [(3, .int .i64 (wr (x721 + 1))), (53, .int .i64 (wr (x721 + 1))), (52, .int .i64 (x721))] (by kernel_rfl) ?_
                  refine wS_end (by rfl) ?_
                  have hq : (some ((wr (x721 + 1), l723.set (Int.toNat x721) ((x788.1, x788.2)))) : Option (Int × (List (Int × Int)))) = some _ := hm
                  replace hq := someE hq
                  subst hq
                  exact eX_J (fun hst => ⟨wr (x721 + 1), l723.set (Int.toNat x721) ((x788.1, x788.2)), rfl, Fr.of hst (by kernel_rfl), F793, F796, hl795, hB, hZ⟩)
                · have hm := condF hb787 hm
                  refine cW_skip ?_
                  have hq : (some ((x721, l723)) : Option (Int × (List (Int × Int)))) = some _ := hm
                  replace hq := someE hq
                  subst hq
                  exact eX_J (fun hst => ⟨x721, l723, rfl, Fr.of hst (by kernel_rfl), F725, F726, hl727, hB, hZ⟩)
              · rintro a' w762 ⟨x763, l764, hJ, hF765, F766, F767, hl768, hB, hZ⟩
                subst hJ
                refine Fr.goX hF765 (by kernel_rfl) ?_
                refine eX_block ?_
                refine eX_then ?_
                refine cW_region ?_
                refine wS_pure 3 [(5, .int .i64 (wr (x722 + 1))), (34, .int .i64 (wr (x722 + 1))), (33, .int .i64 (x722))] (by kernel_rfl) ?_
                refine wS_end (by rfl) ?_
                have hq : (some (Ctl.next ((x763, wr (x722 + 1), l764))) : Option (Ctl (Int × Int × (List (Int × Int))) (Int × (List (Int × Int))))) = some _ := hm
                replace hq := someE hq
                subst hq
                exact eX_next hx733 (fun hst => ⟨x763, wr (x722 + 1), l764, rfl, Fr.of hst (by kernel_rfl), F766, F767, hl768, hB, hZ⟩)
            · have hm := condF hb734 hm
              refine cW_exit ?_
              refine eX_then_exit ?_
              have hq : (some (Ctl.out ((x721, l723))) : Option (Ctl (Int × Int × (List (Int × Int))) (Int × (List (Int × Int))))) = some _ := hm
              replace hq := someE hq
              subst hq
              refine eX_outX hx733 (fun hr798 => ?_)
              replace hr798 := hr798.symm
              subst hr798
              refine eX_block_hit ?_
              exact eX_J (fun hst => ⟨x721, l723, rfl, Fr.of hst (by kernel_rfl), F725, hl727, hB, hZ⟩)
          · rintro a' w714 ⟨x715, l716, hJ, hF717, F718, hl719, hB, hZ⟩
            subst hJ
            refine Fr.goX hF717 (by kernel_rfl) ?_
            refine eX_then ?_
            refine cW_seq ?_
            refine cW_region ?_
            refine wS_pure 2 [(55, .int .i64 (x715)), (54, .slice A0 (l716).length cap0)] (by kernel_rfl) ?_
            obtain ⟨y799, hy800, hm⟩ := bindE hm
            refine wS_cutA (enc := encII) (l := l716) (d := 56) (T := 32) (A := A0) (cap := cap0) (vlo := some (.int .i64 (x715))) (vhi := none) (lo := x715) (hi := ((l716).length : Int)) (n := 0) (by kernel_rfl) sl32 (Or.inl rfl) (Or.inr ⟨rfl, rfl⟩) (F718.sl encII_ok) F718.cap_le hy800 ?_
            intro A801 cap802 hA805 F803 hcap804
            obtain rfl := slci_slc hy800
            have hcz807 := F718.cap_le
            refine wS_clear (A' := A801) (c' := cap802) (x0 := ((0, 0) : Int × Int)) (l := l716) (l0 := l716) (T := 32) (A := A0) (cap := cap0) (lo := x715) (by kernel_rfl) el32 encII_ok (by rfl) (by kernel_rfl) F718 hA805 hy800 rfl ?_
            intro w808 F809 hlc810 hc811
            replace hB := hB.inS hc811 (inMem (fun x hx => (List.mem_append_left _ hx)))
            replace hZ := Nat.le_trans hZ hc811.size
            clear F718
            have hl812 := hlc810.trans hl719
            rewrite [show (l716).length = (clr ((0, 0) : Int × Int) l716 x715).length from hlc810.symm]
            refine wS_end (by rfl) ?_
            refine eX_then ?_
            refine cW_seq ?_
            refine cW_region ?_
            refine wS_pure 2 [(58, .int .i64 (x715)), (57, .slice A0 (clr ((0, 0) : Int × Int) l716 x715).length cap0)] (by kernel_rfl) ?_
            obtain ⟨y813, hy814, hm⟩ := bindE hm
            refine wS_prefix (k := 2) (enc := encII) (U := 37) (l := clr ((0, 0) : Int × Int) l716 x715) (d := 59) (T := 32) (A := A0) (cap := cap0) (hi := x715) (by kernel_rfl) sl32 encII_ok F809 F809.cap_le hy814 ?_
            intro hpe F815
            subst hpe
            refine wS_pure 1 [(2, .slice A0 ((clr ((0, 0) : Int × Int) l716 x715).take (Int.toNat x715)).length cap0)] (by kernel_rfl) ?_
            refine wS_end (by rfl) ?_
            refine eX_then ?_
            refine cW_ret ?_
            refine eX_block_ret ?_
            refine eX_then_ret ?_
            have hq : (some (Ctl.out (Sum.inr ((clr ((0, 0) : Int × Int) l716 x715).take (Int.toNat x715)))) : Option (Ctl (Int) (Sum (Unit) ((List (Int × Int)))))) = some _ := hm
            replace hq := someE hq
            subst hq
            refine eX_outR hx550 (fun hr => ?_)
            subst hr
            refine eX_block_ret ?_
            refine eX_then_ret ?_
            refine eX_then_ret ?_
            have hq : (some ((clr ((0, 0) : Int × Int) l716 x715).take (Int.toNat x715)) : Option ((List (Int × Int)))) = some _ := hm547
            replace hq := someE hq
            subst hq
            refine eX_ret (vs := [.slice A0 ((clr ((0, 0) : Int × Int) l716 x715).take (Int.toNat x715)).length cap0]) [.tmp 2] (by rfl) ⟨by (show lkE _ _ _ = _); kernel_rfl, trivial⟩ ?_
            exact ⟨rfl, F815, hB⟩
        · have hm := condF hb566 hm
          refine cW_skip ?_
          refine eX_block ?_
          refine eX_then ?_
          refine cW_region ?_
          refine wS_pure 3 [(3, .int .i64 (wr (x542 + 1))), (15, .int .i64 (wr (x542 + 1))), (14, .int .i64 (x542))] (by kernel_rfl) ?_
          refine wS_end (by rfl) ?_
          have hq : (some (Ctl.next (wr (x542 + 1))) : Option (Ctl (Int) (Sum (Unit) ((List (Int × Int)))))) = some _ := hm
          replace hq := someE hq
          subst hq
          exact eX_next hx550 (fun hst => ⟨wr (x542 + 1), rfl, Fr.of hst (by kernel_rfl), F544, hB, hZ⟩)
      · have hm := condF hb551 hm
        refine cW_exit ?_
        refine eX_then_exit ?_
        have hq : (some (Ctl.out (Sum.inl (()))) : Option (Ctl (Int) (Sum (Unit) ((List (Int × Int)))))) = some _ := hm
        replace hq := someE hq
        subst hq
        refine eX_outX hx550 (fun hr816 => ?_)
        replace hr816 := hr816.symm
        subst hr816
        refine eX_block_hit ?_
        exact eX_J (fun hst => ⟨rfl, Fr.of hst (by kernel_rfl), F544, hB, hZ⟩)
    · rintro a' w538 ⟨hJ, hF539, F540, hB, hZ⟩
      subst hJ
      refine Fr.goX hF539 (by kernel_rfl) ?_
      refine eX_then ?_
      refine cW_seq ?_
      refine cW_region ?_
      refine wS_pure 2 [(2, .slice A0 (l0).length cap0), (60, .slice A0 (l0).length cap0)] (by kernel_rfl) ?_
      refine wS_end (by rfl) ?_
      refine eX_then ?_
      refine cW_ret ?_
      have hq : (some l0 : Option ((List (Int × Int)))) = some _ := hm
      replace hq := someE hq
      subst hq
      refine eX_ret (vs := [.slice A0 (l0).length cap0]) [.tmp 2] (by rfl) ⟨by (show lkE _ _ _ = _); kernel_rfl, trivial⟩ ?_
      exact ⟨rfl, F540, hB⟩

set_option maxRecDepth 100000 in
/-- impl.sorted -/
theorem c_impl_sorted {w0 : World} {l0 : List (Int × Int)} {A0 : Option Addr} {cap0 : Nat} {fp0 : List Nat} {r : (List (Int × Int))} (hm : m_impl_sorted l0 = some r) (F0 : Sl 2 encII w0 fp0 A0 l0) :
    Calls Try.prog 79 #[.slice A0 (l0).length cap0] w0 fun e w' => ∃ A100 cap100 fp100, e = .returned (.slice A100 (r).length cap100) ∧ Ow 2 encII 37 w' fp100 A100 cap100 r ∧ (∀ x ∈ fp100, w0.heap.size ≤ x) ∧ Chg [] w0 w' := by
  have L0 := F0.low
  have hB : Chg [] w0 w0 := Chg.refl _ _
  have hZ := Nat.le_refl w0.heap.size
  unfold m_impl_sorted at hm
  refine enterE (N := 10) Try.func79 (by rfl) Try.ntmps79 (by simp) [(0, .slice A0 (l0).length cap0)] (by rfl) (by kernel_rfl) (fun a => ?_)
  refine cW_seq ?_
  refine cW_region ?_
  refine wS_pure 1 [(2, .slice none 0 0)] (by kernel_rfl) ?_
  refine wS_end (by rfl) ?_
  refine eX_then ?_
  refine cW_seq ?_
  refine cW_region ?_
  refine wS_pure 1 [(4, .slice A0 (l0).length cap0)] (by kernel_rfl) ?_
  obtain ⟨y2, hy3, hm⟩ := bindE hm
  refine wS_calls (d := 5) (f := 75) (vs := [.slice A0 (l0).length cap0]) (by kernel_rfl) ent75 (c_slices_Clone_impl_Point_impl_Point hy3 F0) ?_
  rintro _ w4 ⟨A6, cap7, fp8, rfl, F9, G10, hc5⟩
  replace F0 := F0.chg hc5 Dj.nil
  replace hB := hB.inS hc5 inNil
  replace G10 := low_le hZ G10
  replace hZ := Nat.le_trans hZ hc5.size
  refine ⟨.slice A6 (y2).length cap7, rfl, ?_⟩
  refine wS_pure 1 [(3, .slice A6 (y2).length cap7)] (by kernel_rfl) ?_
  refine wS_end (by rfl) ?_
  refine eX_then ?_
  refine cW_seq ?_
  refine cW_region ?_
  refine wS_pure 1 [(6, .slice A6 (y2).length cap7)] (by kernel_rfl) ?_
  obtain ⟨y13, hy14, hm⟩ := bindE hm
  refine wS_calls (d := 7) (f := 140) (vs := [.slice A6 (y2).length cap7, .func (.func 141) #[] #[]]) (by kernel_rfl) ent140 (c_slices_SortFunc_impl_Point_impl_Point_impl_pointOrder hy14 F9) ?_
  rintro _ w15 ⟨rfl, F17, hl18, hc16⟩
  replace F0 := F0.chg hc16 (Dj.app (Dj.of L0 G10) Dj.nil)
  replace hB := hB.inS hc16 (inApp (inLow G10) inNil)
  replace hZ := Nat.le_trans hZ hc16.size
  clear F9
  refine ⟨.tuple #[], rfl, ?_⟩
  rewrite [(show (y2).length = (y13).length from hl18.symm)]
  refine wS_end (by rfl) ?_
  refine eX_then ?_
  refine cW_seq ?_
  refine cW_region ?_
  refine wS_pure 1 [(8, .slice A6 (y13).length cap7)] (by kernel_rfl) ?_
  obtain ⟨y19, hy20, hm⟩ := bindE hm
  refine wS_calls (d := 9) (f := 142) (vs := [.slice A6 (y13).length cap7]) (by kernel_rfl) ent142 (c_slices_Compact_impl_Point_impl_Point hy20 F17 F17.cap_le) ?_
  rintro _ w21 ⟨rfl, F23, hc22⟩
  replace F0 := F0.chg hc22 (Dj.app (Dj.of L0 G10) Dj.nil)
  replace hB := hB.inS hc22 (inApp (inLow G10) inNil)
  clear F17
  replace hZ := Nat.le_trans hZ hc22.size
  refine ⟨.slice A6 (y19).length cap7, rfl, ?_⟩
  refine wS_pure 1 [(2, .slice A6 (y19).length cap7)] (by kernel_rfl) ?_
  refine wS_end (by rfl) ?_
  refine eX_then ?_
  refine cW_ret ?_
  have hq : (some y19 : Option ((List (Int × Int)))) = some _ := hm
  replace hq := someE hq
  subst hq
  refine eX_ret (vs := [.slice A6 (y19).length cap7]) [.tmp 2] (by rfl) ⟨by (show lkE _ _ _ = _); kernel_rfl, trivial⟩ ?_
  exact ⟨A6, cap7, fp8, rfl, F23, G10, hB⟩

end Go.Proofs.Ytgaecldkiijmpaa
