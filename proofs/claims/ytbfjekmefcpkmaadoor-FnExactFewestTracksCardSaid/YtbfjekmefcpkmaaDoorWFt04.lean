/- Printed walks: laws.eqInt64S, laws.eqInt64SS, laws.eqChannel, laws.markInt64S, laws.markChannel, laws.markInt64SS, laws.heldInt64S, laws.heldInt64SS, laws.FnExactFewestTracks. -/
import Derived.Test.YtbfjekmefcpkmaaDoorProg
import Derived.Test.YtbfjekmefcpkmaaDoorWFt03
set_option linter.unusedSimpArgs false
set_option linter.unusedVariables false
namespace Go.Proofs.YtbfjekmefcpkmaaDoor
open Go.RowKit
attribute [local irreducible] wS cW eX wH

theorem ent9 : Ent Tryd.prog 9 := fun _ => by kernel_rfl
theorem ent20 : Ent Tryd.prog 20 := fun _ => by kernel_rfl
theorem ent21 : Ent Tryd.prog 21 := fun _ => by kernel_rfl
theorem ent22 : Ent Tryd.prog 22 := fun _ => by kernel_rfl
theorem ent23 : Ent Tryd.prog 23 := fun _ => by kernel_rfl
theorem ent24 : Ent Tryd.prog 24 := fun _ => by kernel_rfl
theorem ent25 : Ent Tryd.prog 25 := fun _ => by kernel_rfl
theorem ent26 : Ent Tryd.prog 26 := fun _ => by kernel_rfl
theorem ent27 : Ent Tryd.prog 27 := fun _ => by kernel_rfl
theorem ent66 : Ent Tryd.prog 66 := fun _ => by kernel_rfl
theorem ent67 : Ent Tryd.prog 67 := fun _ => by kernel_rfl
theorem ent68 : Ent Tryd.prog 68 := fun _ => by kernel_rfl
theorem vt39 : VarTy Tryd.prog 39 2 true := ⟨by kernel_rfl, by kernel_rfl⟩

set_option maxRecDepth 100000 in
/-- laws.eqInt64S -/
theorem c_laws_eqInt64S {w0 : World} {l0 : List (Int)} {A0 : Option Addr} {cap0 : Nat} {fp0 : List Nat} {l1 : List (Int)} {A1 : Option Addr} {cap1 : Nat} {fp1 : List Nat} {r : (Bool)} (hm : m_laws_eqInt64S l0 l1 = some r) (F0 : Sl 1 encI w0 fp0 A0 l0) (F1 : Sl 1 encI w0 fp1 A1 l1) :
  Calls Tryd.prog 66 #[.slice A0 (l0).length cap0, .slice A1 (l1).length cap1] w0 fun e w' => e = .returned (.bool (r)) ∧ Chg [] w0 w' := by
 have L0 := F0.low
 have L1 := F1.low
 have hB : Chg [] w0 w0 := Chg.refl _ _
 have hZ := Nat.le_refl w0.heap.size
 unfold m_laws_eqInt64S at hm
 refine enterE (N := 26) Tryd.func66 (by rfl) Tryd.ntmps66 (by simp) [(0, .slice A0 (l0).length cap0), (1, .slice A1 (l1).length cap1)] (by rfl) (by kernel_rfl) (fun a => ?_)
 refine cW_seq ?_
 refine cW_region ?_
 refine wS_pure 1 [(4, .bool (false))] (by kernel_rfl) ?_
 refine wS_end (by rfl) ?_
 refine eX_then ?_
 refine cW_seq ?_
 refine cW_seq ?_
 refine cW_region ?_
 refine wS_pure 5 [(10, .bool ((((l0).length : Int)) != (((l1).length : Int)))), (9, .int .i64 (((l1).length : Int))), (8, .slice A1 (l1).length cap1), (7, .int .i64 (((l0).length : Int))), (6, .slice A0 (l0).length cap0)] (by kernel_rfl) ?_
 refine wS_end (by rfl) ?_
 refine eX_then ?_
 refine cW_cond (t := (((l0).length : Int)) != (((l1).length : Int))) (by kernel_rfl) (fun hb1 => ?_) (fun hb1 => ?_)
 ·have hm := condT hb1 hm
  refine cW_seq ?_
  refine cW_region ?_
  refine wS_pure 1 [(4, .bool (false))] (by kernel_rfl) ?_
  refine wS_end (by rfl) ?_
  refine eX_then ?_
  refine cW_ret ?_
  refine eX_then_ret ?_
  have hq : (some false : Option ((Bool))) = some _ := hm
  replace hq := someE hq
  subst hq
  refine eX_ret (vs := [.bool (false)]) [.tmp 4] (by rfl) ⟨by (show lkE _ _ _ = _); kernel_rfl, trivial⟩ ?_
  exact ⟨rfl, hB⟩
 ·have hm := condF hb1 hm
  refine cW_skip ?_
  refine eX_then ?_
  refine cW_seq ?_
  refine cW_seq ?_
  refine cW_region ?_
  refine wS_pure 1 [(5, .int .i64 (0))] (by kernel_rfl) ?_
  refine wS_end (by rfl) ?_
  refine eX_then ?_
  obtain ⟨r1, hr1, hm⟩ := bindE hm
  have hm1 := hm
  refine cW_cut (fun a' w' => Sum.inl (()) = r1 ∧ Fr 26 [] a' ∧ Chg [] w0 w' ∧ w0.heap.size ≤ w'.heap.size) ?_ ?_
  ·refine cW_block ?_
   refine cW_loop _ (fun (s1 : Int) a' w' => ∃ x1 : Int, x1 = s1 ∧ Fr 26 [(0, .slice A0 (l0).length cap0), (1, .slice A1 (l1).length cap1), (5, .int .i64 (x1))] a' ∧ Sl 1 encI w' fp0 A0 l0 ∧ Sl 1 encI w' fp1 A1 l1 ∧ Chg [] w0 w' ∧ w0.heap.size ≤ w'.heap.size) hr1 (fun hst => ⟨0, rfl, Fr.of hst (by kernel_rfl), F0, F1, hB, hZ⟩) ?_
   rintro _ c1 a' w1 ⟨x1, rfl, hF1, F2, F3, hB, hZ⟩ hx1
   refine Fr.goOn hF1 (by kernel_rfl) ?_
   have hm := hx1
   unfold m_laws_eqInt64S_s1 at hm
   refine cW_seq ?_
   refine cW_seq ?_
   refine cW_region ?_
   refine wS_pure 4 [(14, .bool (decide (x1 < (((l0).length : Int))))), (13, .int .i64 (((l0).length : Int))), (12, .slice A0 (l0).length cap0), (11, .int .i64 (x1))] (by kernel_rfl) ?_
   refine wS_end (by rfl) ?_
   refine eX_then ?_
   refine cW_cond (t := decide (x1 < (((l0).length : Int)))) (by kernel_rfl) (fun hb2 => ?_) (fun hb2 => ?_)
   ·have hm := condT hb2 hm
    refine cW_skip ?_
    refine eX_then ?_
    refine cW_seq ?_
    refine cW_block ?_
    refine cW_seq ?_
    refine cW_drawnTail [] 8 (by kernel_rfl) (by kernel_rfl) (fun w2 hc1 => ?_)
    replace F2 := F2.chg hc1 Dj.nil
    replace F3 := F3.chg hc1 Dj.nil
    replace hB := hB.inS hc1 inNil
    replace hZ := Nat.le_trans hZ hc1.size
    have hS := Chg.refl [] w2
    have Z1 := F2
    have Z2 := F3
    refine wH_take [0, 1] [1, 0] [(18, .int .i64 (x1)), (17, .slice A0 (l0).length cap0)] (by kernel_rfl) (qT (qT (qB (qT (qL (qB (qT (qT qZ)))))))) (by kernel_rfl) ?_
    obtain ⟨x2, hx2, hm⟩ := bindE hm
    refine wH_idx (i := 2) (d := 19) (T := 24) (A := A0) (n := (l0).length) (cap := cap0) (kd := .i64) (m := x1) (by kernel_rfl) (qT (qT (qB (qT (qL (qB (qT (qT qZ)))))))) (by kernel_rfl) (by kernel_rfl) sl24 (F2.is hx2) ?_
    refine wH_load1 (i := 3) (d := 20) (T := 2) (ad := (elA A0 1 (x1) 0)) (v := .int .i64 (x2)) (by kernel_rfl) (qT (qT (qB (qT (qL (qB (qT (qT qZ)))))))) (by kernel_rfl) (by kernel_rfl) vt2 (fun W hW => Sl.cell (Z1.chg hW Dj.nil) hx2 0 (by rfl)) ?_
    refine wH_take [4, 5] [5, 4, 3, 2, 1, 0] [(22, .int .i64 (x1)), (21, .slice A1 (l1).length cap1)] (by kernel_rfl) (qT (qT (qB (qT (qL (qB (qT (qT qZ)))))))) (by kernel_rfl) ?_
    obtain ⟨x3, hx3, hm⟩ := bindE hm
    refine wH_idx (i := 6) (d := 23) (T := 24) (A := A1) (n := (l1).length) (cap := cap1) (kd := .i64) (m := x1) (by kernel_rfl) (qT (qT (qB (qT (qL (qB (qT (qT qZ)))))))) (by kernel_rfl) (by kernel_rfl) sl24 (F3.is hx3) ?_
    refine wH_load1 (i := 7) (d := 24) (T := 2) (ad := (elA A1 1 (x1) 0)) (v := .int .i64 (x3)) (by kernel_rfl) (qT (qT (qB (qT (qL (qB (qT (qT qZ)))))))) (by kernel_rfl) (by kernel_rfl) vt2 (fun W hW => Sl.cell (Z2.chg hW Dj.nil) hx3 0 (by rfl)) ?_
    refine wH_done (by kernel_rfl) ?_
    refine eX_tail ?_
    refine wS_pure 1 [(25, .bool (x2 != x3))] (by kernel_rfl) ?_
    refine wS_end (by rfl) ?_
    refine eX_then ?_
    refine cW_cond (t := x2 != x3) (by kernel_rfl) (fun hb3 => ?_) (fun hb3 => ?_)
    ·have hm := condT hb3 hm
     refine cW_seq ?_
     refine cW_region ?_
     refine wS_pure 1 [(4, .bool (false))] (by kernel_rfl) ?_
     refine wS_end (by rfl) ?_
     refine eX_then ?_
     refine cW_ret ?_
     refine eX_block_ret ?_
     refine eX_then_ret ?_
     have hq : (some (Ctl.out (Sum.inr false)) : Option (Ctl (Int) (Sum (Unit) ((Bool))))) = some _ := hm
     replace hq := someE hq
     subst hq
     refine eX_outR hx1 (fun hr => ?_)
     subst hr
     refine eX_block_ret ?_
     refine eX_then_ret ?_
     refine eX_then_ret ?_
     have hq : (some false : Option ((Bool))) = some _ := hm1
     replace hq := someE hq
     subst hq
     refine eX_ret (vs := [.bool (false)]) [.tmp 4] (by rfl) ⟨by (show lkE _ _ _ = _); kernel_rfl, trivial⟩ ?_
     exact ⟨rfl, hB⟩
    ·have hm := condF hb3 hm
     refine cW_skip ?_
     refine eX_block ?_
     refine eX_then ?_
     refine cW_region ?_
     refine wS_pure 3 [(5, .int .i64 (wr (x1 + 1))), (16, .int .i64 (wr (x1 + 1))), (15, .int .i64 (x1))] (by kernel_rfl) ?_
     refine wS_end (by rfl) ?_
     have hq : (some (Ctl.next (wr (x1 + 1))) : Option (Ctl (Int) (Sum (Unit) ((Bool))))) = some _ := hm
     replace hq := someE hq
     subst hq
     exact eX_next hx1 (fun hst => ⟨wr (x1 + 1), rfl, Fr.of hst (by kernel_rfl), F2, F3, hB, hZ⟩)
   ·have hm := condF hb2 hm
    refine cW_exit ?_
    refine eX_then_exit ?_
    have hq : (some (Ctl.out (Sum.inl (()))) : Option (Ctl (Int) (Sum (Unit) ((Bool))))) = some _ := hm
    replace hq := someE hq
    subst hq
    refine eX_outX hx1 (fun hr2 => ?_)
    replace hr2 := hr2.symm
    subst hr2
    refine eX_block_hit ?_
    exact eX_J (fun hst => ⟨rfl, Fr.of hst (by kernel_rfl), hB, hZ⟩)
  ·rintro a' w3 ⟨hJ, hF2, hB, hZ⟩
   subst hJ
   refine Fr.goX hF2 (by kernel_rfl) ?_
   refine eX_then ?_
   refine cW_seq ?_
   refine cW_region ?_
   refine wS_pure 1 [(4, .bool (true))] (by kernel_rfl) ?_
   refine wS_end (by rfl) ?_
   refine eX_then ?_
   refine cW_ret ?_
   have hq : (some true : Option ((Bool))) = some _ := hm
   replace hq := someE hq
   subst hq
   refine eX_ret (vs := [.bool (true)]) [.tmp 4] (by rfl) ⟨by (show lkE _ _ _ = _); kernel_rfl, trivial⟩ ?_
   exact ⟨rfl, hB⟩

set_option maxRecDepth 100000 in
/-- laws.eqInt64SS -/
theorem c_laws_eqInt64SS {w0 : World} {l0 : List (List (Int))} {A0 : Option Addr} {cap0 : Nat} {fp0 : List Nat} {l1 : List (List (Int))} {A1 : Option Addr} {cap1 : Nat} {fp1 : List Nat} {r : (Bool)} (hm : m_laws_eqInt64SS l0 l1 = some r) (F0 : SlR 1 encI w0 fp0 A0 l0) (F1 : SlR 1 encI w0 fp1 A1 l1) :
  Calls Tryd.prog 23 #[.slice A0 (l0).length cap0, .slice A1 (l1).length cap1] w0 fun e w' => e = .returned (.bool (r)) ∧ Chg [] w0 w' := by
 have L0 := F0.low
 have L1 := F1.low
 have hB : Chg [] w0 w0 := Chg.refl _ _
 have hZ := Nat.le_refl w0.heap.size
 unfold m_laws_eqInt64SS at hm
 refine enterE (N := 27) Tryd.func23 (by rfl) Tryd.ntmps23 (by simp) [(0, .slice A0 (l0).length cap0), (1, .slice A1 (l1).length cap1)] (by rfl) (by kernel_rfl) (fun a => ?_)
 refine cW_seq ?_
 refine cW_region ?_
 refine wS_pure 1 [(4, .bool (false))] (by kernel_rfl) ?_
 refine wS_end (by rfl) ?_
 refine eX_then ?_
 refine cW_seq ?_
 refine cW_seq ?_
 refine cW_region ?_
 refine wS_pure 5 [(10, .bool ((((l0).length : Int)) != (((l1).length : Int)))), (9, .int .i64 (((l1).length : Int))), (8, .slice A1 (l1).length cap1), (7, .int .i64 (((l0).length : Int))), (6, .slice A0 (l0).length cap0)] (by kernel_rfl) ?_
 refine wS_end (by rfl) ?_
 refine eX_then ?_
 refine cW_cond (t := (((l0).length : Int)) != (((l1).length : Int))) (by kernel_rfl) (fun hb1 => ?_) (fun hb1 => ?_)
 ·have hm := condT hb1 hm
  refine cW_seq ?_
  refine cW_region ?_
  refine wS_pure 1 [(4, .bool (false))] (by kernel_rfl) ?_
  refine wS_end (by rfl) ?_
  refine eX_then ?_
  refine cW_ret ?_
  refine eX_then_ret ?_
  have hq : (some false : Option ((Bool))) = some _ := hm
  replace hq := someE hq
  subst hq
  refine eX_ret (vs := [.bool (false)]) [.tmp 4] (by rfl) ⟨by (show lkE _ _ _ = _); kernel_rfl, trivial⟩ ?_
  exact ⟨rfl, hB⟩
 ·have hm := condF hb1 hm
  refine cW_skip ?_
  refine eX_then ?_
  refine cW_seq ?_
  refine cW_seq ?_
  refine cW_region ?_
  refine wS_pure 1 [(5, .int .i64 (0))] (by kernel_rfl) ?_
  refine wS_end (by rfl) ?_
  refine eX_then ?_
  obtain ⟨r1, hr1, hm⟩ := bindE hm
  have hm1 := hm
  refine cW_cut (fun a' w' => Sum.inl (()) = r1 ∧ Fr 27 [] a' ∧ Chg [] w0 w' ∧ w0.heap.size ≤ w'.heap.size) ?_ ?_
  ·refine cW_block ?_
   refine cW_loop _ (fun (s1 : Int) a' w' => ∃ x1 : Int, x1 = s1 ∧ Fr 27 [(0, .slice A0 (l0).length cap0), (1, .slice A1 (l1).length cap1), (5, .int .i64 (x1))] a' ∧ SlR 1 encI w' fp0 A0 l0 ∧ SlR 1 encI w' fp1 A1 l1 ∧ Chg [] w0 w' ∧ w0.heap.size ≤ w'.heap.size) hr1 (fun hst => ⟨0, rfl, Fr.of hst (by kernel_rfl), F0, F1, hB, hZ⟩) ?_
   rintro _ c1 a' w1 ⟨x1, rfl, hF1, F2, F3, hB, hZ⟩ hx1
   refine Fr.goOn hF1 (by kernel_rfl) ?_
   have hm := hx1
   unfold m_laws_eqInt64SS_s1 at hm
   refine cW_seq ?_
   refine cW_seq ?_
   refine cW_region ?_
   refine wS_pure 4 [(14, .bool (decide (x1 < (((l0).length : Int))))), (13, .int .i64 (((l0).length : Int))), (12, .slice A0 (l0).length cap0), (11, .int .i64 (x1))] (by kernel_rfl) ?_
   refine wS_end (by rfl) ?_
   refine eX_then ?_
   refine cW_cond (t := decide (x1 < (((l0).length : Int)))) (by kernel_rfl) (fun hb2 => ?_) (fun hb2 => ?_)
   ·have hm := condT hb2 hm
    refine cW_skip ?_
    refine eX_then ?_
    refine cW_seq ?_
    refine cW_block ?_
    refine cW_seq ?_
    refine cW_drawnTail [] 8 (by kernel_rfl) (by kernel_rfl) (fun w2 hc1 => ?_)
    replace F2 := F2.chg hc1 Dj.nil
    replace F3 := F3.chg hc1 Dj.nil
    replace hB := hB.inS hc1 inNil
    replace hZ := Nat.le_trans hZ hc1.size
    have hS := Chg.refl [] w2
    have Z1 := F2
    have Z2 := F3
    refine wH_take [0, 1] [1, 0] [(18, .int .i64 (x1)), (17, .slice A0 (l0).length cap0)] (by kernel_rfl) (qT (qT (qB (qT (qL (qB (qT (qT qZ)))))))) (by kernel_rfl) ?_
    obtain ⟨x2, hx2, hm⟩ := bindE hm
    refine wH_idx (i := 2) (d := 19) (T := 28) (A := A0) (n := (l0).length) (cap := cap0) (kd := .i64) (m := x1) (by kernel_rfl) (qT (qT (qB (qT (qL (qB (qT (qT qZ)))))))) (by kernel_rfl) (by kernel_rfl) sl28 (F2.is hx2) ?_
    obtain ⟨A2, cap2, hc2, F4, K1⟩ := SlR.row Z1 hx2
    refine wH_load1 (i := 3) (d := 20) (T := 24) (ad := (elA A0 1 (x1) 0)) (v := .slice A2 (x2).length cap2) (by kernel_rfl) (qT (qT (qB (qT (qL (qB (qT (qT qZ)))))))) (by kernel_rfl) (by kernel_rfl) vt24 (fun W hW => hW.keep hc2) ?_
    refine wH_take [4, 5] [5, 4, 3, 2, 1, 0] [(22, .int .i64 (x1)), (21, .slice A1 (l1).length cap1)] (by kernel_rfl) (qT (qT (qB (qT (qL (qB (qT (qT qZ)))))))) (by kernel_rfl) ?_
    obtain ⟨x3, hx3, hm⟩ := bindE hm
    refine wH_idx (i := 6) (d := 23) (T := 28) (A := A1) (n := (l1).length) (cap := cap1) (kd := .i64) (m := x1) (by kernel_rfl) (qT (qT (qB (qT (qL (qB (qT (qT qZ)))))))) (by kernel_rfl) (by kernel_rfl) sl28 (F3.is hx3) ?_
    obtain ⟨A3, cap3, hc3, F5, K2⟩ := SlR.row Z2 hx3
    refine wH_load1 (i := 7) (d := 24) (T := 24) (ad := (elA A1 1 (x1) 0)) (v := .slice A3 (x3).length cap3) (by kernel_rfl) (qT (qT (qB (qT (qL (qB (qT (qT qZ)))))))) (by kernel_rfl) (by kernel_rfl) vt24 (fun W hW => hW.keep hc3) ?_
    refine wH_done (by kernel_rfl) ?_
    refine eX_tail ?_
    obtain ⟨y1, hy1, hm⟩ := bindE hm
    refine wS_calls (d := 25) (f := 66) (vs := [.slice A2 (x2).length cap2, .slice A3 (x3).length cap3]) (by kernel_rfl) ent66 (c_laws_eqInt64S hy1 F4 F5) ?_
    rintro _ w3 ⟨rfl, hc4⟩
    replace F2 := F2.chg hc4 Dj.nil
    replace F3 := F3.chg hc4 Dj.nil
    replace F4 := F4.chg hc4 Dj.nil
    replace F5 := F5.chg hc4 Dj.nil
    replace hB := hB.inS hc4 inNil
    replace hZ := Nat.le_trans hZ hc4.size
    refine ⟨.bool (y1), rfl, ?_⟩
    refine wS_pure 1 [(26, .bool (!y1))] (by kernel_rfl) ?_
    refine wS_end (by rfl) ?_
    refine eX_then ?_
    refine cW_cond (t := !y1) (by kernel_rfl) (fun hb3 => ?_) (fun hb3 => ?_)
    ·have hm := condT hb3 hm
     refine cW_seq ?_
     refine cW_region ?_
     refine wS_pure 1 [(4, .bool (false))] (by kernel_rfl) ?_
     refine wS_end (by rfl) ?_
     refine eX_then ?_
     refine cW_ret ?_
     refine eX_block_ret ?_
     refine eX_then_ret ?_
     have hq : (some (Ctl.out (Sum.inr false)) : Option (Ctl (Int) (Sum (Unit) ((Bool))))) = some _ := hm
     replace hq := someE hq
     subst hq
     refine eX_outR hx1 (fun hr => ?_)
     subst hr
     refine eX_block_ret ?_
     refine eX_then_ret ?_
     refine eX_then_ret ?_
     have hq : (some false : Option ((Bool))) = some _ := hm1
     replace hq := someE hq
     subst hq
     refine eX_ret (vs := [.bool (false)]) [.tmp 4] (by rfl) ⟨by (show lkE _ _ _ = _); kernel_rfl, trivial⟩ ?_
     exact ⟨rfl, hB⟩
    ·have hm := condF hb3 hm
     refine cW_skip ?_
     refine eX_block ?_
     refine eX_then ?_
     refine cW_region ?_
     refine wS_pure 3 [(5, .int .i64 (wr (x1 + 1))), (16, .int .i64 (wr (x1 + 1))), (15, .int .i64 (x1))] (by kernel_rfl) ?_
     refine wS_end (by rfl) ?_
     have hq : (some (Ctl.next (wr (x1 + 1))) : Option (Ctl (Int) (Sum (Unit) ((Bool))))) = some _ := hm
     replace hq := someE hq
     subst hq
     exact eX_next hx1 (fun hst => ⟨wr (x1 + 1), rfl, Fr.of hst (by kernel_rfl), F2, F3, hB, hZ⟩)
   ·have hm := condF hb2 hm
    refine cW_exit ?_
    refine eX_then_exit ?_
    have hq : (some (Ctl.out (Sum.inl (()))) : Option (Ctl (Int) (Sum (Unit) ((Bool))))) = some _ := hm
    replace hq := someE hq
    subst hq
    refine eX_outX hx1 (fun hr2 => ?_)
    replace hr2 := hr2.symm
    subst hr2
    refine eX_block_hit ?_
    exact eX_J (fun hst => ⟨rfl, Fr.of hst (by kernel_rfl), hB, hZ⟩)
  ·rintro a' w4 ⟨hJ, hF2, hB, hZ⟩
   subst hJ
   refine Fr.goX hF2 (by kernel_rfl) ?_
   refine eX_then ?_
   refine cW_seq ?_
   refine cW_region ?_
   refine wS_pure 1 [(4, .bool (true))] (by kernel_rfl) ?_
   refine wS_end (by rfl) ?_
   refine eX_then ?_
   refine cW_ret ?_
   have hq : (some true : Option ((Bool))) = some _ := hm
   replace hq := someE hq
   subst hq
   refine eX_ret (vs := [.bool (true)]) [.tmp 4] (by rfl) ⟨by (show lkE _ _ _ = _); kernel_rfl, trivial⟩ ?_
   exact ⟨rfl, hB⟩

set_option maxRecDepth 100000 in
/-- laws.eqChannel -/
theorem c_laws_eqChannel {w0 : World} {l0_0 : List (Int)} {A0_0 : Option Addr} {cap0_0 : Nat} {fp0_0 : List Nat} {l0_1 : List (Int)} {A0_1 : Option Addr} {cap0_1 : Nat} {fp0_1 : List Nat} {l1_0 : List (Int)} {A1_0 : Option Addr} {cap1_0 : Nat} {fp1_0 : List Nat} {l1_1 : List (Int)} {A1_1 : Option Addr} {cap1_1 : Nat} {fp1_1 : List Nat} {r : (Bool)} (hm : m_laws_eqChannel l0_0 l0_1 l1_0 l1_1 = some r) (F0_0 : Sl 1 encI w0 fp0_0 A0_0 l0_0) (F0_1 : Sl 1 encI w0 fp0_1 A0_1 l0_1) (F1_0 : Sl 1 encI w0 fp1_0 A1_0 l1_0) (F1_1 : Sl 1 encI w0 fp1_1 A1_1 l1_1) :
  Calls Tryd.prog 24 #[.agg #[.slice A0_0 (l0_0).length cap0_0, .slice A0_1 (l0_1).length cap0_1], .agg #[.slice A1_0 (l1_0).length cap1_0, .slice A1_1 (l1_1).length cap1_1]] w0 fun e w' => e = .returned (.bool (r)) ∧ Chg [] w0 w' := by
 have L0_0 := F0_0.low
 have L0_1 := F0_1.low
 have L1_0 := F1_0.low
 have L1_1 := F1_1.low
 have hB : Chg [] w0 w0 := Chg.refl _ _
 have hZ := Nat.le_refl w0.heap.size
 unfold m_laws_eqChannel at hm
 refine enterE (N := 17) Tryd.func24 (by rfl) Tryd.ntmps24 (by simp) [(0, .agg #[.slice A0_0 (l0_0).length cap0_0, .slice A0_1 (l0_1).length cap0_1]), (1, .agg #[.slice A1_0 (l1_0).length cap1_0, .slice A1_1 (l1_1).length cap1_1])] (by rfl) (by kernel_rfl) (fun a => ?_)
 refine cW_seq ?_
 refine cW_region ?_
 refine wS_box (d := 2) (T := 26) (x := .agg #[.slice A0_0 (l0_0).length cap0_0, .slice A0_1 (l0_1).length cap0_1]) (by kernel_rfl) ?_
 intro b1 w1 G1 F1 hc1
 replace F1 : Cl w1 b1 26 [.slice A0_0 (l0_0).length cap0_0, .slice A0_1 (l0_1).length cap0_1] := F1
 replace F0_0 := F0_0.chg hc1 Dj.nil
 replace F0_1 := F0_1.chg hc1 Dj.nil
 replace F1_0 := F1_0.chg hc1 Dj.nil
 replace F1_1 := F1_1.chg hc1 Dj.nil
 replace hB := hB.inS hc1 inNil
 replace G1 := Nat.le_trans hZ G1
 replace hZ := Nat.le_trans hZ hc1.size
 refine wS_box (d := 3) (T := 26) (x := .agg #[.slice A1_0 (l1_0).length cap1_0, .slice A1_1 (l1_1).length cap1_1]) (by kernel_rfl) ?_
 intro b2 w2 G2 F2 hc2
 replace F2 : Cl w2 b2 26 [.slice A1_0 (l1_0).length cap1_0, .slice A1_1 (l1_1).length cap1_1] := F2
 have D1 : Dj [b1] [b2] := Dj.of (lt1 F1.lt) (low1 G2)
 replace F0_0 := F0_0.chg hc2 Dj.nil
 replace F0_1 := F0_1.chg hc2 Dj.nil
 replace F1_0 := F1_0.chg hc2 Dj.nil
 replace F1_1 := F1_1.chg hc2 Dj.nil
 replace F1 := F1.chg hc2 notNil
 replace hB := hB.inS hc2 inNil
 replace G2 := Nat.le_trans hZ G2
 replace hZ := Nat.le_trans hZ hc2.size
 refine wS_pure 1 [(4, .bool (false))] (by kernel_rfl) ?_
 refine wS_end (by rfl) ?_
 refine eX_then ?_
 refine cW_seq ?_
 refine cW_seq ?_
 refine cW_region ?_
 refine wS_pure 1 [(5, .pointer (some ⟨b1, 0, none⟩))] (by kernel_rfl) ?_
 refine wS_load1 (d := 6) (T := 24) (ad := ⟨b1, 0, none⟩) (v := .slice A0_0 (l0_0).length cap0_0) (by kernel_rfl) vt24 ((F1).cell 0) ?_
 refine wS_pure 1 [(7, .pointer (some ⟨b2, 0, none⟩))] (by kernel_rfl) ?_
 refine wS_load1 (d := 8) (T := 24) (ad := ⟨b2, 0, none⟩) (v := .slice A1_0 (l1_0).length cap1_0) (by kernel_rfl) vt24 ((F2).cell 0) ?_
 obtain ⟨y1, hy1, hm⟩ := bindE hm
 refine wS_calls (d := 9) (f := 66) (vs := [.slice A0_0 (l0_0).length cap0_0, .slice A1_0 (l1_0).length cap1_0]) (by kernel_rfl) ent66 (c_laws_eqInt64S hy1 F0_0 F1_0) ?_
 rintro _ w3 ⟨rfl, hc3⟩
 replace F0_0 := F0_0.chg hc3 Dj.nil
 replace F0_1 := F0_1.chg hc3 Dj.nil
 replace F1_0 := F1_0.chg hc3 Dj.nil
 replace F1_1 := F1_1.chg hc3 Dj.nil
 replace F1 := F1.chg hc3 notNil
 replace F2 := F2.chg hc3 notNil
 replace hB := hB.inS hc3 inNil
 replace hZ := Nat.le_trans hZ hc3.size
 refine ⟨.bool (y1), rfl, ?_⟩
 refine wS_pure 1 [(10, .bool (!y1))] (by kernel_rfl) ?_
 refine wS_end (by rfl) ?_
 refine eX_then ?_
 refine cW_cond (t := !y1) (by kernel_rfl) (fun hb1 => ?_) (fun hb1 => ?_)
 ·have hm := condT hb1 hm
  refine cW_seq ?_
  refine cW_region ?_
  refine wS_pure 1 [(4, .bool (false))] (by kernel_rfl) ?_
  refine wS_end (by rfl) ?_
  refine eX_then ?_
  refine cW_ret ?_
  refine eX_then_ret ?_
  have hq : (some false : Option ((Bool))) = some _ := hm
  replace hq := someE hq
  subst hq
  refine eX_ret (vs := [.bool (false)]) [.tmp 4] (by rfl) ⟨by (show lkE _ _ _ = _); kernel_rfl, trivial⟩ ?_
  exact ⟨rfl, hB⟩
 ·have hm := condF hb1 hm
  refine cW_skip ?_
  refine eX_then ?_
  refine cW_seq ?_
  refine cW_seq ?_
  refine cW_region ?_
  refine wS_pure 1 [(11, .pointer (some ⟨b1, 1, none⟩))] (by kernel_rfl) ?_
  refine wS_load1 (d := 12) (T := 24) (ad := ⟨b1, 1, none⟩) (v := .slice A0_1 (l0_1).length cap0_1) (by kernel_rfl) vt24 ((F1).cell 1) ?_
  refine wS_pure 1 [(13, .pointer (some ⟨b2, 1, none⟩))] (by kernel_rfl) ?_
  refine wS_load1 (d := 14) (T := 24) (ad := ⟨b2, 1, none⟩) (v := .slice A1_1 (l1_1).length cap1_1) (by kernel_rfl) vt24 ((F2).cell 1) ?_
  obtain ⟨y2, hy2, hm⟩ := bindE hm
  refine wS_calls (d := 15) (f := 66) (vs := [.slice A0_1 (l0_1).length cap0_1, .slice A1_1 (l1_1).length cap1_1]) (by kernel_rfl) ent66 (c_laws_eqInt64S hy2 F0_1 F1_1) ?_
  rintro _ w4 ⟨rfl, hc4⟩
  replace F0_0 := F0_0.chg hc4 Dj.nil
  replace F0_1 := F0_1.chg hc4 Dj.nil
  replace F1_0 := F1_0.chg hc4 Dj.nil
  replace F1_1 := F1_1.chg hc4 Dj.nil
  replace F1 := F1.chg hc4 notNil
  replace F2 := F2.chg hc4 notNil
  replace hB := hB.inS hc4 inNil
  replace hZ := Nat.le_trans hZ hc4.size
  refine ⟨.bool (y2), rfl, ?_⟩
  refine wS_pure 1 [(16, .bool (!y2))] (by kernel_rfl) ?_
  refine wS_end (by rfl) ?_
  refine eX_then ?_
  refine cW_cond (t := !y2) (by kernel_rfl) (fun hb2 => ?_) (fun hb2 => ?_)
  ·have hm := condT hb2 hm
   refine cW_seq ?_
   refine cW_region ?_
   refine wS_pure 1 [(4, .bool (false))] (by kernel_rfl) ?_
   refine wS_end (by rfl) ?_
   refine eX_then ?_
   refine cW_ret ?_
   refine eX_then_ret ?_
   have hq : (some false : Option ((Bool))) = some _ := hm
   replace hq := someE hq
   subst hq
   refine eX_ret (vs := [.bool (false)]) [.tmp 4] (by rfl) ⟨by (show lkE _ _ _ = _); kernel_rfl, trivial⟩ ?_
   exact ⟨rfl, hB⟩
  ·have hm := condF hb2 hm
   refine cW_skip ?_
   refine eX_then ?_
   refine cW_seq ?_
   refine cW_region ?_
   refine wS_pure 1 [(4, .bool (true))] (by kernel_rfl) ?_
   refine wS_end (by rfl) ?_
   refine eX_then ?_
   refine cW_ret ?_
   have hq : (some true : Option ((Bool))) = some _ := hm
   replace hq := someE hq
   subst hq
   refine eX_ret (vs := [.bool (true)]) [.tmp 4] (by rfl) ⟨by (show lkE _ _ _ = _); kernel_rfl, trivial⟩ ?_
   exact ⟨rfl, hB⟩

set_option maxRecDepth 100000 in
/-- laws.markInt64S -/
theorem c_laws_markInt64S {w0 : World} {l0 : List (Int)} {A0 : Option Addr} {cap0 : Nat} {fp0 : List Nat} {p1 : Int} {r : (Int) × (List (Int))} (hm : m_laws_markInt64S l0 p1 = some r) (F0 : Ow 1 encI 2 w0 fp0 A0 cap0 l0) :
  Calls Tryd.prog 67 #[.slice A0 (l0).length cap0, .int .i64 (p1)] w0 fun e w' => e = .returned (.int .i64 (r.1)) ∧ Ow 1 encI 2 w' fp0 A0 cap0 r.2 ∧ (r.2).length = (l0).length ∧ Chg (fp0 ++ []) w0 w' := by
 have L0 := F0.low
 have hB : Chg (fp0 ++ []) w0 w0 := Chg.refl _ _
 have hZ := Nat.le_refl w0.heap.size
 unfold m_laws_markInt64S at hm
 refine enterE (N := 19) Tryd.func67 (by rfl) Tryd.ntmps67 (by simp) [(0, .slice A0 (l0).length cap0), (1, .int .i64 (p1))] (by rfl) (by kernel_rfl) (fun a => ?_)
 refine cW_seq ?_
 refine cW_region ?_
 refine wS_pure 1 [(4, .int .i64 (0))] (by kernel_rfl) ?_
 refine wS_end (by rfl) ?_
 refine eX_then ?_
 refine cW_seq ?_
 refine cW_seq ?_
 refine cW_region ?_
 refine wS_pure 1 [(5, .int .i64 (0))] (by kernel_rfl) ?_
 refine wS_end (by rfl) ?_
 refine eX_then ?_
 obtain ⟨r1, hr1, hm⟩ := bindE hm
 have hm1 := hm
 refine cW_cut (fun a' w' => ∃ x1 : Int, ∃ l1 : List (Int), (x1, l1) = r1 ∧ Fr 19 [(1, .int .i64 (x1))] a' ∧ Ow 1 encI 2 w' fp0 A0 cap0 l1 ∧ (l1).length = (l0).length ∧ Chg (fp0 ++ []) w0 w' ∧ w0.heap.size ≤ w'.heap.size) ?_ ?_
 ·refine cW_block ?_
  refine cW_loop _ (fun (s1 : Int × Int × (List (Int))) a' w' => ∃ x2 : Int, ∃ x3 : Int, ∃ l2 : List (Int), (x2, x3, l2) = s1 ∧ Fr 19 [(0, .slice A0 (l2).length cap0), (1, .int .i64 (x2)), (5, .int .i64 (x3))] a' ∧ Ow 1 encI 2 w' fp0 A0 cap0 l2 ∧ (l2).length = (l0).length ∧ Chg (fp0 ++ []) w0 w' ∧ w0.heap.size ≤ w'.heap.size) hr1 (fun hst => ⟨p1, 0, l0, rfl, Fr.of hst (by kernel_rfl), F0, (Eq.refl (l0).length), hB, hZ⟩) ?_
  rintro _ c1 a' w1 ⟨x2, x3, l2, rfl, hF1, F1, hl1, hB, hZ⟩ hx1
  refine Fr.goOn hF1 (by kernel_rfl) ?_
  have hm := hx1
  unfold m_laws_markInt64S_s1 at hm
  refine cW_seq ?_
  refine cW_seq ?_
  refine cW_region ?_
  refine wS_pure 4 [(9, .bool (decide (x3 < (((l2).length : Int))))), (8, .int .i64 (((l2).length : Int))), (7, .slice A0 (l2).length cap0), (6, .int .i64 (x3))] (by kernel_rfl) ?_
  refine wS_end (by rfl) ?_
  refine eX_then ?_
  refine cW_cond (t := decide (x3 < (((l2).length : Int)))) (by kernel_rfl) (fun hb1 => ?_) (fun hb1 => ?_)
  ·have hm := condT hb1 hm
   refine cW_skip ?_
   refine eX_then ?_
   refine cW_seq ?_
   refine cW_block ?_
   refine cW_seq ?_
   refine cW_region ?_
   refine wS_pure 3 [(14, .int .i64 (x2)), (13, .int .i64 (x3)), (12, .slice A0 (l2).length cap0)] (by kernel_rfl) ?_
   obtain ⟨x4, hx2, hm⟩ := bindE hm
   refine wS_idx (d := 15) (T := 24) (A := A0) (n := (l2).length) (cap := cap0) (kd := .i64) (m := x3) (by kernel_rfl) sl24 ((F1.sl encI_ok).is hx2) ?_
   refine wS_storeEl (x := x4) x2 (T := 2) (U := 2) (cap := cap0) (j := 0) (A := A0) (v := .int .i64 (x2)) (vs := [.int .i64 (x2)]) (m := x3) (by kernel_rfl) (by rfl) sz2 (by rfl) encI_ok F1 hx2 (by simp only [List.length_cons, List.length_nil]; omega) (by rfl) ?_
   intro w2 F2 hc1
   replace hB := hB.inS hc1 (inMem (fun x hx => (List.mem_append_left _ hx)))
   replace hZ := Nat.le_trans hZ hc1.size
   clear F1
   have hl2 := (show (l2.set (Int.toNat x3) x2).length = (l2).length from List.length_set ..).trans hl1
   rewrite [show (l2).length = (l2.set (Int.toNat x3) x2).length from (List.length_set ..).symm]
   refine wS_end (by rfl) ?_
   refine eX_then ?_
   refine cW_region ?_
   refine wS_pure 3 [(1, .int .i64 (wr (x2 + 1))), (17, .int .i64 (wr (x2 + 1))), (16, .int .i64 (x2))] (by kernel_rfl) ?_
   refine wS_end (by rfl) ?_
   refine eX_block ?_
   refine eX_then ?_
   refine cW_region ?_
   refine wS_pure 3 [(5, .int .i64 (wr (x3 + 1))), (11, .int .i64 (wr (x3 + 1))), (10, .int .i64 (x3))] (by kernel_rfl) ?_
   refine wS_end (by rfl) ?_
   have hq : (some (Ctl.next ((wr (x2 + 1), wr (x3 + 1), l2.set (Int.toNat x3) x2))) : Option (Ctl (Int × Int × (List (Int))) (Int × (List (Int))))) = some _ := hm
   replace hq := someE hq
   subst hq
   exact eX_next hx1 (fun hst => ⟨wr (x2 + 1), wr (x3 + 1), l2.set (Int.toNat x3) x2, rfl, Fr.of hst (by kernel_rfl), F2, hl2, hB, hZ⟩)
  ·have hm := condF hb1 hm
   refine cW_exit ?_
   refine eX_then_exit ?_
   have hq : (some (Ctl.out ((x2, l2))) : Option (Ctl (Int × Int × (List (Int))) (Int × (List (Int))))) = some _ := hm
   replace hq := someE hq
   subst hq
   refine eX_outX hx1 (fun hr2 => ?_)
   replace hr2 := hr2.symm
   subst hr2
   refine eX_block_hit ?_
   exact eX_J (fun hst => ⟨x2, l2, rfl, Fr.of hst (by kernel_rfl), F1, hl1, hB, hZ⟩)
 ·rintro a' w3 ⟨x1, l1, hJ, hF2, F3, hl3, hB, hZ⟩
  subst hJ
  refine Fr.goX hF2 (by kernel_rfl) ?_
  refine eX_then ?_
  refine cW_seq ?_
  refine cW_region ?_
  refine wS_pure 2 [(4, .int .i64 (x1)), (18, .int .i64 (x1))] (by kernel_rfl) ?_
  refine wS_end (by rfl) ?_
  refine eX_then ?_
  refine cW_ret ?_
  have hq : (some ((x1, l1)) : Option ((Int) × (List (Int)))) = some _ := hm
  replace hq := someE hq
  subst hq
  refine eX_ret (vs := [.int .i64 (x1)]) [.tmp 4] (by rfl) ⟨by (show lkE _ _ _ = _); kernel_rfl, trivial⟩ ?_
  exact ⟨rfl, F3, (by first | exact hl3 | rfl), hB⟩

set_option maxRecDepth 100000 in
/-- laws.markChannel -/
theorem c_laws_markChannel {w0 : World} {l0_0 : List (Int)} {A0_0 : Option Addr} {cap0_0 : Nat} {fp0_0 : List Nat} {l0_1 : List (Int)} {A0_1 : Option Addr} {cap0_1 : Nat} {fp0_1 : List Nat} {p1 : Int} {r : (Int) × (List (Int)) × (List (Int))} (hm : m_laws_markChannel l0_0 l0_1 p1 = some r) (F0_0 : Ow 1 encI 2 w0 fp0_0 A0_0 cap0_0 l0_0) (F0_1 : Ow 1 encI 2 w0 fp0_1 A0_1 cap0_1 l0_1) (J0_0__0_1 : Dj fp0_0 fp0_1) :
  Calls Tryd.prog 25 #[.agg #[.slice A0_0 (l0_0).length cap0_0, .slice A0_1 (l0_1).length cap0_1], .int .i64 (p1)] w0 fun e w' => e = .returned (.int .i64 (r.1)) ∧ Ow 1 encI 2 w' fp0_0 A0_0 cap0_0 r.2.1 ∧ (r.2.1).length = (l0_0).length ∧ Ow 1 encI 2 w' fp0_1 A0_1 cap0_1 r.2.2 ∧ (r.2.2).length = (l0_1).length ∧ Chg (fp0_0 ++ (fp0_1 ++ [])) w0 w' := by
 have L0_0 := F0_0.low
 have L0_1 := F0_1.low
 have hB : Chg (fp0_0 ++ (fp0_1 ++ [])) w0 w0 := Chg.refl _ _
 have hZ := Nat.le_refl w0.heap.size
 unfold m_laws_markChannel at hm
 refine enterE (N := 14) Tryd.func25 (by rfl) Tryd.ntmps25 (by simp) [(0, .agg #[.slice A0_0 (l0_0).length cap0_0, .slice A0_1 (l0_1).length cap0_1]), (1, .int .i64 (p1))] (by rfl) (by kernel_rfl) (fun a => ?_)
 refine cW_seq ?_
 refine cW_region ?_
 refine wS_box (d := 2) (T := 26) (x := .agg #[.slice A0_0 (l0_0).length cap0_0, .slice A0_1 (l0_1).length cap0_1]) (by kernel_rfl) ?_
 intro b1 w1 G1 F1 hc1
 replace F1 : Cl w1 b1 26 [.slice A0_0 (l0_0).length cap0_0, .slice A0_1 (l0_1).length cap0_1] := F1
 replace F0_0 := F0_0.chg hc1 Dj.nil
 replace F0_1 := F0_1.chg hc1 Dj.nil
 replace hB := hB.inS hc1 inNil
 replace G1 := Nat.le_trans hZ G1
 replace hZ := Nat.le_trans hZ hc1.size
 refine wS_pure 1 [(4, .int .i64 (0))] (by kernel_rfl) ?_
 refine wS_end (by rfl) ?_
 refine eX_then ?_
 refine cW_seq ?_
 refine cW_region ?_
 refine wS_pure 1 [(5, .pointer (some ⟨b1, 0, none⟩))] (by kernel_rfl) ?_
 refine wS_load1 (d := 6) (T := 24) (ad := ⟨b1, 0, none⟩) (v := .slice A0_0 (l0_0).length cap0_0) (by kernel_rfl) vt24 ((F1).cell 0) ?_
 refine wS_pure 1 [(7, .int .i64 (p1))] (by kernel_rfl) ?_
 obtain ⟨y1, hy1, hm⟩ := bindE hm
 refine wS_calls (d := 8) (f := 67) (vs := [.slice A0_0 (l0_0).length cap0_0, .int .i64 (p1)]) (by kernel_rfl) ent67 (c_laws_markInt64S hy1 F0_0) ?_
 rintro _ w2 ⟨rfl, F2, hl1, hc2⟩
 replace F0_1 := F0_1.chg hc2 (Dj.app (J0_0__0_1).symm Dj.nil)
 replace F1 := F1.chg hc2 (dj1 (Dj.app (Dj.of L0_0 (low1 G1)).symm Dj.nil))
 replace hB := hB.inS hc2 (inApp (inMem (fun x hx => (List.mem_append_left _ hx))) inNil)
 replace hZ := Nat.le_trans hZ hc2.size
 clear F0_0
 have hl2 := hl1.trans (Eq.refl (l0_0).length)
 refine ⟨.int .i64 (y1.1), rfl, ?_⟩
 rewrite [(show (l0_0).length = (y1.2).length from hl1.symm)]
 try rewrite [(show (l0_0).length = (y1.2).length from hl1.symm)] at F1
 refine wS_pure 1 [(1, .int .i64 (y1.1))] (by kernel_rfl) ?_
 refine wS_end (by rfl) ?_
 refine eX_then ?_
 refine cW_seq ?_
 refine cW_region ?_
 refine wS_pure 1 [(9, .pointer (some ⟨b1, 1, none⟩))] (by kernel_rfl) ?_
 refine wS_load1 (d := 10) (T := 24) (ad := ⟨b1, 1, none⟩) (v := .slice A0_1 (l0_1).length cap0_1) (by kernel_rfl) vt24 ((F1).cell 1) ?_
 refine wS_pure 1 [(11, .int .i64 (y1.1))] (by kernel_rfl) ?_
 obtain ⟨y2, hy2, hm⟩ := bindE hm
 refine wS_calls (d := 12) (f := 67) (vs := [.slice A0_1 (l0_1).length cap0_1, .int .i64 (y1.1)]) (by kernel_rfl) ent67 (c_laws_markInt64S hy2 F0_1) ?_
 rintro _ w3 ⟨rfl, F3, hl3, hc3⟩
 replace F2 := F2.chg hc3 (Dj.app J0_0__0_1 Dj.nil)
 replace F1 := F1.chg hc3 (dj1 (Dj.app (Dj.of L0_1 (low1 G1)).symm Dj.nil))
 replace hB := hB.inS hc3 (inApp (inMem (fun x hx => (List.mem_append_right _ (List.mem_append_left _ hx)))) inNil)
 replace hZ := Nat.le_trans hZ hc3.size
 clear F0_1
 have hl4 := hl3.trans (Eq.refl (l0_1).length)
 refine ⟨.int .i64 (y2.1), rfl, ?_⟩
 rewrite [(show (l0_1).length = (y2.2).length from hl3.symm)]
 try rewrite [(show (l0_1).length = (y2.2).length from hl3.symm)] at F1
 refine wS_pure 1 [(1, .int .i64 (y2.1))] (by kernel_rfl) ?_
 refine wS_end (by rfl) ?_
 refine eX_then ?_
 refine cW_seq ?_
 refine cW_region ?_
 refine wS_pure 2 [(4, .int .i64 (y2.1)), (13, .int .i64 (y2.1))] (by kernel_rfl) ?_
 refine wS_end (by rfl) ?_
 refine eX_then ?_
 refine cW_ret ?_
 have hq : (some ((y2.1, y1.2, y2.2)) : Option ((Int) × (List (Int)) × (List (Int)))) = some _ := hm
 replace hq := someE hq
 subst hq
 refine eX_ret (vs := [.int .i64 (y2.1)]) [.tmp 4] (by rfl) ⟨by (show lkE _ _ _ = _); kernel_rfl, trivial⟩ ?_
 exact ⟨rfl, F2, (by first | exact hl2 | rfl), F3, (by first | exact hl4 | rfl), hB⟩

set_option maxRecDepth 100000 in
/-- laws.markInt64SS -/
theorem c_laws_markInt64SS {w0 : World} {l0 : List (List (Int))} {A0 : Option Addr} {cap0 : Nat} {fp0 fr0 : List Nat} {p1 : Int} {r : (Int) × (List (List (Int)))} (hm : m_laws_markInt64SS l0 p1 = some r) (F0 : OwR 1 encI 24 2 w0 fp0 fr0 A0 cap0 l0) :
  Calls Tryd.prog 26 #[.slice A0 (l0).length cap0, .int .i64 (p1)] w0 fun e w' => e = .returned (.int .i64 (r.1)) ∧ OwR 1 encI 24 2 w' fp0 fr0 A0 cap0 r.2 ∧ (r.2).length = (l0).length ∧ Chg ((fp0 ++ fr0) ++ []) w0 w' := by
 have L0 := F0.low
 have hB : Chg ((fp0 ++ fr0) ++ []) w0 w0 := Chg.refl _ _
 have hZ := Nat.le_refl w0.heap.size
 unfold m_laws_markInt64SS at hm
 refine enterE (N := 19) Tryd.func26 (by rfl) Tryd.ntmps26 (by simp) [(0, .slice A0 (l0).length cap0), (1, .int .i64 (p1))] (by rfl) (by kernel_rfl) (fun a => ?_)
 refine cW_seq ?_
 refine cW_region ?_
 refine wS_pure 1 [(4, .int .i64 (0))] (by kernel_rfl) ?_
 refine wS_end (by rfl) ?_
 refine eX_then ?_
 refine cW_seq ?_
 refine cW_seq ?_
 refine cW_region ?_
 refine wS_pure 1 [(5, .int .i64 (0))] (by kernel_rfl) ?_
 refine wS_end (by rfl) ?_
 refine eX_then ?_
 obtain ⟨r1, hr1, hm⟩ := bindE hm
 have hm1 := hm
 refine cW_cut (fun a' w' => ∃ x1 : Int, ∃ l1 : List (List (Int)), (x1, l1) = r1 ∧ Fr 19 [(1, .int .i64 (x1))] a' ∧ OwR 1 encI 24 2 w' fp0 fr0 A0 cap0 l1 ∧ (l1).length = (l0).length ∧ Chg ((fp0 ++ fr0) ++ []) w0 w' ∧ w0.heap.size ≤ w'.heap.size) ?_ ?_
 ·refine cW_block ?_
  refine cW_loop _ (fun (s1 : Int × Int × (List (List (Int)))) a' w' => ∃ x2 : Int, ∃ x3 : Int, ∃ l2 : List (List (Int)), (x2, x3, l2) = s1 ∧ Fr 19 [(0, .slice A0 (l2).length cap0), (1, .int .i64 (x2)), (5, .int .i64 (x3))] a' ∧ OwR 1 encI 24 2 w' fp0 fr0 A0 cap0 l2 ∧ (l2).length = (l0).length ∧ Chg ((fp0 ++ fr0) ++ []) w0 w' ∧ w0.heap.size ≤ w'.heap.size) hr1 (fun hst => ⟨p1, 0, l0, rfl, Fr.of hst (by kernel_rfl), F0, (Eq.refl (l0).length), hB, hZ⟩) ?_
  rintro _ c1 a' w1 ⟨x2, x3, l2, rfl, hF1, F1, hl1, hB, hZ⟩ hx1
  refine Fr.goOn hF1 (by kernel_rfl) ?_
  have hm := hx1
  unfold m_laws_markInt64SS_s1 at hm
  refine cW_seq ?_
  refine cW_seq ?_
  refine cW_region ?_
  refine wS_pure 4 [(9, .bool (decide (x3 < (((l2).length : Int))))), (8, .int .i64 (((l2).length : Int))), (7, .slice A0 (l2).length cap0), (6, .int .i64 (x3))] (by kernel_rfl) ?_
  refine wS_end (by rfl) ?_
  refine eX_then ?_
  refine cW_cond (t := decide (x3 < (((l2).length : Int)))) (by kernel_rfl) (fun hb1 => ?_) (fun hb1 => ?_)
  ·have hm := condT hb1 hm
   refine cW_skip ?_
   refine eX_then ?_
   refine cW_seq ?_
   refine cW_block ?_
   refine cW_region ?_
   refine wS_pure 2 [(13, .int .i64 (x3)), (12, .slice A0 (l2).length cap0)] (by kernel_rfl) ?_
   obtain ⟨x4, hx2, hm⟩ := bindE hm
   refine wS_idx (d := 14) (T := 28) (A := A0) (n := (l2).length) (cap := cap0) (kd := .i64) (m := x3) (by kernel_rfl) sl28 ((F1.slr encI_ok).is hx2) ?_
   obtain ⟨A1, cap1, fp1, hc1, hsub1, F2, hcl1⟩ := OwR.lend F1 hx2
   have Dm1 := (F1.dj).symm
   refine wS_load1 (d := 15) (T := 24) (ad := (elA A0 1 (x3) 0)) (v := .slice A1 (x4).length cap1) (by kernel_rfl) vt24 hc1 ?_
   refine wS_pure 1 [(16, .int .i64 (x2))] (by kernel_rfl) ?_
   obtain ⟨y1, hy1, hm⟩ := bindE hm
   refine wS_calls (d := 17) (f := 67) (vs := [.slice A1 (x4).length cap1, .int .i64 (x2)]) (by kernel_rfl) ent67 (c_laws_markInt64S hy1 F2) ?_
   rintro _ w2 ⟨rfl, F3, hl2, hc2⟩
   have F4 := hcl1 _ _ (hc2.more (fun x hx => by simpa using hx)) F3 hl2
   have hc3 := hc2.more (S' := (fp0 ++ fr0) ++ []) (fun x hx => List.mem_append_left _ (hsub1 x (by simpa using hx)))
   have hl3 := (show (l2.set (Int.toNat x3) y1.2).length = (l2).length from List.length_set ..).trans hl1
   clear F1
   replace hB := hB.inS hc3 (inApp (inMem (fun x hx => (List.mem_append_left _ hx))) inNil)
   replace hZ := Nat.le_trans hZ hc3.size
   refine ⟨.int .i64 (y1.1), rfl, ?_⟩
   rewrite [(show (l2).length = (l2.set (Int.toNat x3) y1.2).length from (List.length_set ..).symm)]
   refine wS_pure 1 [(1, .int .i64 (y1.1))] (by kernel_rfl) ?_
   refine wS_end (by rfl) ?_
   refine eX_block ?_
   refine eX_then ?_
   refine cW_region ?_
   refine wS_pure 3 [(5, .int .i64 (wr (x3 + 1))), (11, .int .i64 (wr (x3 + 1))), (10, .int .i64 (x3))] (by kernel_rfl) ?_
   refine wS_end (by rfl) ?_
   have hq : (some (Ctl.next ((y1.1, wr (x3 + 1), l2.set (Int.toNat x3) y1.2))) : Option (Ctl (Int × Int × (List (List (Int)))) (Int × (List (List (Int)))))) = some _ := hm
   replace hq := someE hq
   subst hq
   exact eX_next hx1 (fun hst => ⟨y1.1, wr (x3 + 1), l2.set (Int.toNat x3) y1.2, rfl, Fr.of hst (by kernel_rfl), F4, hl3, hB, hZ⟩)
  ·have hm := condF hb1 hm
   refine cW_exit ?_
   refine eX_then_exit ?_
   have hq : (some (Ctl.out ((x2, l2))) : Option (Ctl (Int × Int × (List (List (Int)))) (Int × (List (List (Int)))))) = some _ := hm
   replace hq := someE hq
   subst hq
   refine eX_outX hx1 (fun hr2 => ?_)
   replace hr2 := hr2.symm
   subst hr2
   refine eX_block_hit ?_
   exact eX_J (fun hst => ⟨x2, l2, rfl, Fr.of hst (by kernel_rfl), F1, hl1, hB, hZ⟩)
 ·rintro a' w3 ⟨x1, l1, hJ, hF2, F5, hl4, hB, hZ⟩
  subst hJ
  refine Fr.goX hF2 (by kernel_rfl) ?_
  refine eX_then ?_
  refine cW_seq ?_
  refine cW_region ?_
  refine wS_pure 2 [(4, .int .i64 (x1)), (18, .int .i64 (x1))] (by kernel_rfl) ?_
  refine wS_end (by rfl) ?_
  refine eX_then ?_
  refine cW_ret ?_
  have hq : (some ((x1, l1)) : Option ((Int) × (List (List (Int))))) = some _ := hm
  replace hq := someE hq
  subst hq
  refine eX_ret (vs := [.int .i64 (x1)]) [.tmp 4] (by rfl) ⟨by (show lkE _ _ _ = _); kernel_rfl, trivial⟩ ?_
  exact ⟨rfl, F5, (by first | exact hl4 | rfl), hB⟩

set_option maxRecDepth 100000 in
/-- laws.heldInt64S -/
theorem c_laws_heldInt64S {w0 : World} {l0 : List (Int)} {A0 : Option Addr} {cap0 : Nat} {fp0 : List Nat} {p1 : Int} {r : (Int)} (hm : m_laws_heldInt64S l0 p1 = some r) (F0 : Sl 1 encI w0 fp0 A0 l0) :
  Calls Tryd.prog 68 #[.slice A0 (l0).length cap0, .int .i64 (p1)] w0 fun e w' => e = .returned (.int .i64 (r)) ∧ Chg [] w0 w' := by
 have L0 := F0.low
 have hB : Chg [] w0 w0 := Chg.refl _ _
 have hZ := Nat.le_refl w0.heap.size
 unfold m_laws_heldInt64S at hm
 refine enterE (N := 21) Tryd.func68 (by rfl) Tryd.ntmps68 (by simp) [(0, .slice A0 (l0).length cap0), (1, .int .i64 (p1))] (by rfl) (by kernel_rfl) (fun a => ?_)
 refine cW_seq ?_
 refine cW_region ?_
 refine wS_pure 1 [(4, .int .i64 (0))] (by kernel_rfl) ?_
 refine wS_end (by rfl) ?_
 refine eX_then ?_
 refine cW_seq ?_
 refine cW_seq ?_
 refine cW_region ?_
 refine wS_pure 1 [(5, .int .i64 (0))] (by kernel_rfl) ?_
 refine wS_end (by rfl) ?_
 refine eX_then ?_
 obtain ⟨r1, hr1, hm⟩ := bindE hm
 have hm1 := hm
 refine cW_cut (fun a' w' => ∃ x1 : Int, Sum.inl x1 = r1 ∧ Fr 21 [(1, .int .i64 (x1))] a' ∧ Chg [] w0 w' ∧ w0.heap.size ≤ w'.heap.size) ?_ ?_
 ·refine cW_block ?_
  refine cW_loop _ (fun (s1 : Int × Int) a' w' => ∃ x2 : Int, ∃ x3 : Int, (x2, x3) = s1 ∧ Fr 21 [(0, .slice A0 (l0).length cap0), (1, .int .i64 (x2)), (5, .int .i64 (x3))] a' ∧ Sl 1 encI w' fp0 A0 l0 ∧ Chg [] w0 w' ∧ w0.heap.size ≤ w'.heap.size) hr1 (fun hst => ⟨p1, 0, rfl, Fr.of hst (by kernel_rfl), F0, hB, hZ⟩) ?_
  rintro _ c1 a' w1 ⟨x2, x3, rfl, hF1, F1, hB, hZ⟩ hx1
  refine Fr.goOn hF1 (by kernel_rfl) ?_
  have hm := hx1
  unfold m_laws_heldInt64S_s1 at hm
  refine cW_seq ?_
  refine cW_seq ?_
  refine cW_region ?_
  refine wS_pure 4 [(9, .bool (decide (x3 < (((l0).length : Int))))), (8, .int .i64 (((l0).length : Int))), (7, .slice A0 (l0).length cap0), (6, .int .i64 (x3))] (by kernel_rfl) ?_
  refine wS_end (by rfl) ?_
  refine eX_then ?_
  refine cW_cond (t := decide (x3 < (((l0).length : Int)))) (by kernel_rfl) (fun hb1 => ?_) (fun hb1 => ?_)
  ·have hm := condT hb1 hm
   refine cW_skip ?_
   refine eX_then ?_
   refine cW_seq ?_
   refine cW_block ?_
   refine cW_seq ?_
   refine cW_seq ?_
   refine cW_region ?_
   refine wS_pure 2 [(13, .int .i64 (x3)), (12, .slice A0 (l0).length cap0)] (by kernel_rfl) ?_
   obtain ⟨x4, hx2, hm⟩ := bindE hm
   refine wS_idx (d := 14) (T := 24) (A := A0) (n := (l0).length) (cap := cap0) (kd := .i64) (m := x3) (by kernel_rfl) sl24 (F1.is hx2) ?_
   refine wS_load1 (d := 15) (T := 2) (ad := (elA A0 1 (x3) 0)) (v := .int .i64 (x4)) (by kernel_rfl) vt2 (Sl.cell F1 hx2 0 (by rfl)) ?_
   refine wS_pure 2 [(17, .bool (x4 != x2)), (16, .int .i64 (x2))] (by kernel_rfl) ?_
   refine wS_end (by rfl) ?_
   refine eX_then ?_
   refine cW_cond (t := x4 != x2) (by kernel_rfl) (fun hb2 => ?_) (fun hb2 => ?_)
   ·have hm := condT hb2 hm
    refine cW_seq ?_
    refine cW_region ?_
    refine wS_pure 1 [(4, .int .i64 ((-1)))] (by kernel_rfl) ?_
    refine wS_end (by rfl) ?_
    refine eX_then ?_
    refine cW_ret ?_
    refine eX_then_ret ?_
    refine eX_block_ret ?_
    refine eX_then_ret ?_
    have hq : (some (Ctl.out (Sum.inr ((-1)))) : Option (Ctl (Int × Int) (Sum (Int) ((Int))))) = some _ := hm
    replace hq := someE hq
    subst hq
    refine eX_outR hx1 (fun hr => ?_)
    subst hr
    refine eX_block_ret ?_
    refine eX_then_ret ?_
    refine eX_then_ret ?_
    have hq : (some ((-1)) : Option ((Int))) = some _ := hm1
    replace hq := someE hq
    subst hq
    refine eX_ret (vs := [.int .i64 ((-1))]) [.tmp 4] (by rfl) ⟨by (show lkE _ _ _ = _); kernel_rfl, trivial⟩ ?_
    exact ⟨rfl, hB⟩
   ·have hm := condF hb2 hm
    refine cW_skip ?_
    refine eX_then ?_
    refine cW_region ?_
    refine wS_pure 3 [(1, .int .i64 (wr (x2 + 1))), (19, .int .i64 (wr (x2 + 1))), (18, .int .i64 (x2))] (by kernel_rfl) ?_
    refine wS_end (by rfl) ?_
    refine eX_block ?_
    refine eX_then ?_
    refine cW_region ?_
    refine wS_pure 3 [(5, .int .i64 (wr (x3 + 1))), (11, .int .i64 (wr (x3 + 1))), (10, .int .i64 (x3))] (by kernel_rfl) ?_
    refine wS_end (by rfl) ?_
    have hq : (some (Ctl.next ((wr (x2 + 1), wr (x3 + 1)))) : Option (Ctl (Int × Int) (Sum (Int) ((Int))))) = some _ := hm
    replace hq := someE hq
    subst hq
    exact eX_next hx1 (fun hst => ⟨wr (x2 + 1), wr (x3 + 1), rfl, Fr.of hst (by kernel_rfl), F1, hB, hZ⟩)
  ·have hm := condF hb1 hm
   refine cW_exit ?_
   refine eX_then_exit ?_
   have hq : (some (Ctl.out (Sum.inl x2)) : Option (Ctl (Int × Int) (Sum (Int) ((Int))))) = some _ := hm
   replace hq := someE hq
   subst hq
   refine eX_outX hx1 (fun hr2 => ?_)
   replace hr2 := hr2.symm
   subst hr2
   refine eX_block_hit ?_
   exact eX_J (fun hst => ⟨x2, rfl, Fr.of hst (by kernel_rfl), hB, hZ⟩)
 ·rintro a' w2 ⟨x1, hJ, hF2, hB, hZ⟩
  subst hJ
  refine Fr.goX hF2 (by kernel_rfl) ?_
  refine eX_then ?_
  refine cW_seq ?_
  refine cW_region ?_
  refine wS_pure 2 [(4, .int .i64 (x1)), (20, .int .i64 (x1))] (by kernel_rfl) ?_
  refine wS_end (by rfl) ?_
  refine eX_then ?_
  refine cW_ret ?_
  have hq : (some x1 : Option ((Int))) = some _ := hm
  replace hq := someE hq
  subst hq
  refine eX_ret (vs := [.int .i64 (x1)]) [.tmp 4] (by rfl) ⟨by (show lkE _ _ _ = _); kernel_rfl, trivial⟩ ?_
  exact ⟨rfl, hB⟩

set_option maxRecDepth 100000 in
/-- laws.heldInt64SS -/
theorem c_laws_heldInt64SS {w0 : World} {l0 : List (List (Int))} {A0 : Option Addr} {cap0 : Nat} {fp0 : List Nat} {p1 : Int} {r : (Int)} (hm : m_laws_heldInt64SS l0 p1 = some r) (F0 : SlR 1 encI w0 fp0 A0 l0) :
  Calls Tryd.prog 27 #[.slice A0 (l0).length cap0, .int .i64 (p1)] w0 fun e w' => e = .returned (.int .i64 (r)) ∧ Chg [] w0 w' := by
 have L0 := F0.low
 have hB : Chg [] w0 w0 := Chg.refl _ _
 have hZ := Nat.le_refl w0.heap.size
 unfold m_laws_heldInt64SS at hm
 refine enterE (N := 21) Tryd.func27 (by rfl) Tryd.ntmps27 (by simp) [(0, .slice A0 (l0).length cap0), (1, .int .i64 (p1))] (by rfl) (by kernel_rfl) (fun a => ?_)
 refine cW_seq ?_
 refine cW_region ?_
 refine wS_pure 1 [(4, .int .i64 (0))] (by kernel_rfl) ?_
 refine wS_end (by rfl) ?_
 refine eX_then ?_
 refine cW_seq ?_
 refine cW_seq ?_
 refine cW_region ?_
 refine wS_pure 1 [(5, .int .i64 (0))] (by kernel_rfl) ?_
 refine wS_end (by rfl) ?_
 refine eX_then ?_
 obtain ⟨r1, hr1, hm⟩ := bindE hm
 have hm1 := hm
 refine cW_cut (fun a' w' => ∃ x1 : Int, Sum.inl x1 = r1 ∧ Fr 21 [(1, .int .i64 (x1))] a' ∧ Chg [] w0 w' ∧ w0.heap.size ≤ w'.heap.size) ?_ ?_
 ·refine cW_block ?_
  refine cW_loop _ (fun (s1 : Int × Int) a' w' => ∃ x2 : Int, ∃ x3 : Int, (x2, x3) = s1 ∧ Fr 21 [(0, .slice A0 (l0).length cap0), (1, .int .i64 (x2)), (5, .int .i64 (x3))] a' ∧ SlR 1 encI w' fp0 A0 l0 ∧ Chg [] w0 w' ∧ w0.heap.size ≤ w'.heap.size) hr1 (fun hst => ⟨p1, 0, rfl, Fr.of hst (by kernel_rfl), F0, hB, hZ⟩) ?_
  rintro _ c1 a' w1 ⟨x2, x3, rfl, hF1, F1, hB, hZ⟩ hx1
  refine Fr.goOn hF1 (by kernel_rfl) ?_
  have hm := hx1
  unfold m_laws_heldInt64SS_s1 at hm
  refine cW_seq ?_
  refine cW_seq ?_
  refine cW_region ?_
  refine wS_pure 4 [(9, .bool (decide (x3 < (((l0).length : Int))))), (8, .int .i64 (((l0).length : Int))), (7, .slice A0 (l0).length cap0), (6, .int .i64 (x3))] (by kernel_rfl) ?_
  refine wS_end (by rfl) ?_
  refine eX_then ?_
  refine cW_cond (t := decide (x3 < (((l0).length : Int)))) (by kernel_rfl) (fun hb1 => ?_) (fun hb1 => ?_)
  ·have hm := condT hb1 hm
   refine cW_skip ?_
   refine eX_then ?_
   refine cW_seq ?_
   refine cW_block ?_
   refine cW_seq ?_
   refine cW_region ?_
   refine wS_pure 2 [(13, .int .i64 (x3)), (12, .slice A0 (l0).length cap0)] (by kernel_rfl) ?_
   obtain ⟨x4, hx2, hm⟩ := bindE hm
   refine wS_idx (d := 14) (T := 28) (A := A0) (n := (l0).length) (cap := cap0) (kd := .i64) (m := x3) (by kernel_rfl) sl28 (F1.is hx2) ?_
   obtain ⟨A1, cap1, hc1, F2, K1⟩ := SlR.row F1 hx2
   refine wS_load1 (d := 15) (T := 24) (ad := (elA A0 1 (x3) 0)) (v := .slice A1 (x4).length cap1) (by kernel_rfl) vt24 hc1 ?_
   refine wS_pure 1 [(16, .int .i64 (x2))] (by kernel_rfl) ?_
   obtain ⟨y1, hy1, hm⟩ := bindE hm
   refine wS_calls (d := 17) (f := 68) (vs := [.slice A1 (x4).length cap1, .int .i64 (x2)]) (by kernel_rfl) ent68 (c_laws_heldInt64S hy1 F2) ?_
   rintro _ w2 ⟨rfl, hc2⟩
   replace F1 := F1.chg hc2 Dj.nil
   replace F2 := F2.chg hc2 Dj.nil
   replace hB := hB.inS hc2 inNil
   replace hZ := Nat.le_trans hZ hc2.size
   refine ⟨.int .i64 (y1), rfl, ?_⟩
   refine wS_pure 1 [(1, .int .i64 (y1))] (by kernel_rfl) ?_
   refine wS_end (by rfl) ?_
   refine eX_then ?_
   refine cW_seq ?_
   refine cW_region ?_
   refine wS_pure 2 [(19, .bool (decide (y1 < 0))), (18, .int .i64 (y1))] (by kernel_rfl) ?_
   refine wS_end (by rfl) ?_
   refine eX_then ?_
   refine cW_cond (t := decide (y1 < 0)) (by kernel_rfl) (fun hb2 => ?_) (fun hb2 => ?_)
   ·have hm := condT hb2 hm
    refine cW_seq ?_
    refine cW_region ?_
    refine wS_pure 1 [(4, .int .i64 ((-1)))] (by kernel_rfl) ?_
    refine wS_end (by rfl) ?_
    refine eX_then ?_
    refine cW_ret ?_
    refine eX_block_ret ?_
    refine eX_then_ret ?_
    have hq : (some (Ctl.out (Sum.inr ((-1)))) : Option (Ctl (Int × Int) (Sum (Int) ((Int))))) = some _ := hm
    replace hq := someE hq
    subst hq
    refine eX_outR hx1 (fun hr => ?_)
    subst hr
    refine eX_block_ret ?_
    refine eX_then_ret ?_
    refine eX_then_ret ?_
    have hq : (some ((-1)) : Option ((Int))) = some _ := hm1
    replace hq := someE hq
    subst hq
    refine eX_ret (vs := [.int .i64 ((-1))]) [.tmp 4] (by rfl) ⟨by (show lkE _ _ _ = _); kernel_rfl, trivial⟩ ?_
    exact ⟨rfl, hB⟩
   ·have hm := condF hb2 hm
    refine cW_skip ?_
    refine eX_block ?_
    refine eX_then ?_
    refine cW_region ?_
    refine wS_pure 3 [(5, .int .i64 (wr (x3 + 1))), (11, .int .i64 (wr (x3 + 1))), (10, .int .i64 (x3))] (by kernel_rfl) ?_
    refine wS_end (by rfl) ?_
    have hq : (some (Ctl.next ((y1, wr (x3 + 1)))) : Option (Ctl (Int × Int) (Sum (Int) ((Int))))) = some _ := hm
    replace hq := someE hq
    subst hq
    exact eX_next hx1 (fun hst => ⟨y1, wr (x3 + 1), rfl, Fr.of hst (by kernel_rfl), F1, hB, hZ⟩)
  ·have hm := condF hb1 hm
   refine cW_exit ?_
   refine eX_then_exit ?_
   have hq : (some (Ctl.out (Sum.inl x2)) : Option (Ctl (Int × Int) (Sum (Int) ((Int))))) = some _ := hm
   replace hq := someE hq
   subst hq
   refine eX_outX hx1 (fun hr2 => ?_)
   replace hr2 := hr2.symm
   subst hr2
   refine eX_block_hit ?_
   exact eX_J (fun hst => ⟨x2, rfl, Fr.of hst (by kernel_rfl), hB, hZ⟩)
 ·rintro a' w3 ⟨x1, hJ, hF2, hB, hZ⟩
  subst hJ
  refine Fr.goX hF2 (by kernel_rfl) ?_
  refine eX_then ?_
  refine cW_seq ?_
  refine cW_region ?_
  refine wS_pure 2 [(4, .int .i64 (x1)), (20, .int .i64 (x1))] (by kernel_rfl) ?_
  refine wS_end (by rfl) ?_
  refine eX_then ?_
  refine cW_ret ?_
  have hq : (some x1 : Option ((Int))) = some _ := hm
  replace hq := someE hq
  subst hq
  refine eX_ret (vs := [.int .i64 (x1)]) [.tmp 4] (by rfl) ⟨by (show lkE _ _ _ = _); kernel_rfl, trivial⟩ ?_
  exact ⟨rfl, hB⟩

set_option maxRecDepth 100000 in
/-- laws.FnExactFewestTracks -/
theorem c_laws_FnExactFewestTracks {w0 : World} {l0_0 : List (Int)} {A0_0 : Option Addr} {cap0_0 : Nat} {fp0_0 : List Nat} {l0_1 : List (Int)} {A0_1 : Option Addr} {cap0_1 : Nat} {fp0_1 : List Nat} {r : (Bool)} (hm : m_laws_FnExactFewestTracks l0_0 l0_1 = some r) (F0_0 : Sl 1 encI w0 fp0_0 A0_0 l0_0) (F0_1 : Sl 1 encI w0 fp0_1 A0_1 l0_1) (FG : Sl 1 encU w0 [1] (some ⟨1, 0, none⟩) tab64) :
  Calls Tryd.prog 4 #[.agg #[.slice A0_0 (l0_0).length cap0_0, .slice A0_1 (l0_1).length cap0_1]] w0 fun e w' => e = .returned (.bool (r)) ∧ Chg [] w0 w' := by
 have L0_0 := F0_0.low
 have L0_1 := F0_1.low
 have Lg := FG.low
 have hB : Chg [] w0 w0 := Chg.refl _ _
 have hZ := Nat.le_refl w0.heap.size
 unfold m_laws_FnExactFewestTracks at hm
 refine enterE (N := 96) Tryd.func4 (by rfl) Tryd.ntmps4 (by simp) [(0, .agg #[.slice A0_0 (l0_0).length cap0_0, .slice A0_1 (l0_1).length cap0_1])] (by rfl) (by kernel_rfl) (fun a => ?_)
 refine cW_seq ?_
 refine cW_region ?_
 refine wS_box (d := 1) (T := 39) (x := .agg #[.slice A0_0 (l0_0).length cap0_0, .slice A0_1 (l0_1).length cap0_1]) (by kernel_rfl) ?_
 intro b1 w1 G1 F1 hc1
 replace F1 : Cl w1 b1 39 [.slice A0_0 (l0_0).length cap0_0, .slice A0_1 (l0_1).length cap0_1] := F1
 replace F0_0 := F0_0.chg hc1 Dj.nil
 replace F0_1 := F0_1.chg hc1 Dj.nil
 replace FG := FG.chg hc1 Dj.nil
 replace hB := hB.inS hc1 inNil
 replace G1 := Nat.le_trans hZ G1
 replace hZ := Nat.le_trans hZ hc1.size
 refine wS_pure 1 [(2, .bool (false))] (by kernel_rfl) ?_
 refine wS_end (by rfl) ?_
 refine eX_then ?_
 refine cW_seq ?_
 refine cW_region ?_
 refine wS_pure 1 [(3, .int .i64 (1048576))] (by kernel_rfl) ?_
 refine wS_end (by rfl) ?_
 refine eX_then ?_
 refine cW_seq ?_
 refine cW_region ?_
 refine wS_loadA (d := 14) (T := 39) (ad := ⟨b1, 0, none⟩) (vs := [.slice A0_0 (l0_0).length cap0_0, .slice A0_1 (l0_1).length cap0_1]) (by kernel_rfl) vt39 (fun i u hu => box_cells F1 0 hu (by rfl)) ?_
 refine wS_pure 1 [(15, .int .i64 (1048576))] (by kernel_rfl) ?_
 obtain ⟨y1, hy1, hm⟩ := bindE hm
 refine wS_calls (d := 16) (f := 20) (vs := [.agg #[.slice A0_0 (l0_0).length cap0_0, .slice A0_1 (l0_1).length cap0_1], .int .i64 (1048576)]) (by kernel_rfl) ent20 (c_laws_szChannel hy1 F0_0 F0_1) ?_
 rintro _ w2 ⟨rfl, hc2⟩
 replace F0_0 := F0_0.chg hc2 Dj.nil
 replace F0_1 := F0_1.chg hc2 Dj.nil
 replace FG := FG.chg hc2 Dj.nil
 replace F1 := F1.chg hc2 notNil
 replace hB := hB.inS hc2 inNil
 replace hZ := Nat.le_trans hZ hc2.size
 refine ⟨.int .i64 (y1), rfl, ?_⟩
 refine wS_pure 1 [(3, .int .i64 (y1))] (by kernel_rfl) ?_
 refine wS_end (by rfl) ?_
 refine eX_then ?_
 refine cW_seq ?_
 refine cW_seq ?_
 refine cW_region ?_
 refine wS_pure 2 [(18, .bool (decide (y1 < 0))), (17, .int .i64 (y1))] (by kernel_rfl) ?_
 refine wS_end (by rfl) ?_
 refine eX_then ?_
 refine cW_cond (t := decide (y1 < 0)) (by kernel_rfl) (fun hb1 => ?_) (fun hb1 => ?_)
 ·have hm := condT hb1 hm
  refine cW_seq ?_
  refine cW_region ?_
  refine wS_pure 1 [(2, .bool (true))] (by kernel_rfl) ?_
  refine wS_end (by rfl) ?_
  refine eX_then ?_
  refine cW_ret ?_
  refine eX_then_ret ?_
  have hq : (some true : Option ((Bool))) = some _ := hm
  replace hq := someE hq
  subst hq
  refine eX_ret (vs := [.bool (true)]) [.tmp 2] (by rfl) ⟨by (show lkE _ _ _ = _); kernel_rfl, trivial⟩ ?_
  exact ⟨rfl, hB⟩
 ·have hm := condF hb1 hm
  refine cW_skip ?_
  refine eX_then ?_
  refine cW_seq ?_
  refine cW_region ?_
  refine wS_loadA (d := 20) (T := 39) (ad := ⟨b1, 0, none⟩) (vs := [.slice A0_0 (l0_0).length cap0_0, .slice A0_1 (l0_1).length cap0_1]) (by kernel_rfl) vt39 (fun i u hu => box_cells F1 0 hu (by rfl)) ?_
  obtain ⟨y2, hy2, hm⟩ := bindE hm
  refine wS_calls (d := 21) (f := 22) (vs := [.agg #[.slice A0_0 (l0_0).length cap0_0, .slice A0_1 (l0_1).length cap0_1]]) (by kernel_rfl) ent22 (c_laws_toChannel hy2 F0_0 F0_1) ?_
  rintro _ w3 ⟨A1, cap1, fp1, A2, cap2, fp2, rfl, F2, G2, F3, G3, D1, hc3⟩
  have D2 : Dj [b1] fp1 := Dj.of (lt1 F1.lt) G2
  have D3 : Dj [b1] fp2 := Dj.of (lt1 F1.lt) G3
  replace F0_0 := F0_0.chg hc3 Dj.nil
  replace F0_1 := F0_1.chg hc3 Dj.nil
  replace FG := FG.chg hc3 Dj.nil
  replace F1 := F1.chg hc3 notNil
  replace hB := hB.inS hc3 inNil
  replace G2 := low_le hZ G2
  replace G3 := low_le hZ G3
  replace hZ := Nat.le_trans hZ hc3.size
  refine ⟨.agg #[.slice A1 (y2.1).length cap1, .slice A2 (y2.2).length cap2], rfl, ?_⟩
  obtain ⟨y3, hy3, hm⟩ := bindE hm
  refine wS_calls (d := 22) (f := 21) (vs := [.agg #[.slice A1 (y2.1).length cap1, .slice A2 (y2.2).length cap2]]) (by kernel_rfl) ent21 (c_spec_FewestTracks hy3 (F2.sl encI_ok) (F3.sl encI_ok)) ?_
  rintro _ w4 ⟨A3, cap3, fp3, fr1, rfl, F4, G4, hc4⟩
  have D4 : Dj [b1] (fp3 ++ fr1) := Dj.of (lt1 F1.lt) G4
  have D5 : Dj fp1 (fp3 ++ fr1) := Dj.of F2.low G4
  have D6 : Dj fp2 (fp3 ++ fr1) := Dj.of F3.low G4
  replace F0_0 := F0_0.chg hc4 Dj.nil
  replace F0_1 := F0_1.chg hc4 Dj.nil
  replace FG := FG.chg hc4 Dj.nil
  replace F1 := F1.chg hc4 notNil
  replace F2 := F2.chg hc4 Dj.nil
  replace F3 := F3.chg hc4 Dj.nil
  replace hB := hB.inS hc4 inNil
  replace G4 := low_le hZ G4
  replace hZ := Nat.le_trans hZ hc4.size
  refine ⟨.tuple #[.slice A3 (y3.1).length cap3, .bool (y3.2)], rfl, ?_⟩
  refine wS_pure 5 [(5, .bool (y3.2)), (4, .slice A3 (y3.1).length cap3), (24, .bool (y3.2)), (23, .slice A3 (y3.1).length cap3), (19, .tuple #[.slice A3 (y3.1).length cap3, .bool (y3.2)])] (by kernel_rfl) ?_
  refine wS_end (by rfl) ?_
  refine eX_then ?_
  refine cW_seq ?_
  refine cW_region ?_
  refine wS_loadA (d := 25) (T := 39) (ad := ⟨b1, 0, none⟩) (vs := [.slice A0_0 (l0_0).length cap0_0, .slice A0_1 (l0_1).length cap0_1]) (by kernel_rfl) vt39 (fun i u hu => box_cells F1 0 hu (by rfl)) ?_
  obtain ⟨y4, hy4, hm⟩ := bindE hm
  refine wS_calls (d := 26) (f := 22) (vs := [.agg #[.slice A0_0 (l0_0).length cap0_0, .slice A0_1 (l0_1).length cap0_1]]) (by kernel_rfl) ent22 (c_laws_toChannel hy4 F0_0 F0_1) ?_
  rintro _ w5 ⟨A4, cap4, fp4, A5, cap5, fp5, rfl, F5, G5, F6, G6, D7, hc5⟩
  have D8 : Dj [b1] fp4 := Dj.of (lt1 F1.lt) G5
  have D9 : Dj fp1 fp4 := Dj.of F2.low G5
  have D10 : Dj fp2 fp4 := Dj.of F3.low G5
  have D11 : Dj (fp3 ++ fr1) fp4 := Dj.of F4.low G5
  have D12 : Dj [b1] fp5 := Dj.of (lt1 F1.lt) G6
  have D13 : Dj fp1 fp5 := Dj.of F2.low G6
  have D14 : Dj fp2 fp5 := Dj.of F3.low G6
  have D15 : Dj (fp3 ++ fr1) fp5 := Dj.of F4.low G6
  replace F0_0 := F0_0.chg hc5 Dj.nil
  replace F0_1 := F0_1.chg hc5 Dj.nil
  replace FG := FG.chg hc5 Dj.nil
  replace F1 := F1.chg hc5 notNil
  replace F2 := F2.chg hc5 Dj.nil
  replace F3 := F3.chg hc5 Dj.nil
  replace F4 := F4.chg hc5 Dj.nil
  replace hB := hB.inS hc5 inNil
  replace G5 := low_le hZ G5
  replace G6 := low_le hZ G6
  replace hZ := Nat.le_trans hZ hc5.size
  refine ⟨.agg #[.slice A4 (y4.1).length cap4, .slice A5 (y4.2).length cap5], rfl, ?_⟩
  refine wS_alloc (d := 6) (T := 26) (z := .agg #[.slice none 0 0, .slice none 0 0]) (by kernel_rfl) (by kernel_rfl) ?_
  intro b2 w6 G7 F7 hc6
  replace F7 : Cl w6 b2 26 [.slice none 0 0, .slice none 0 0] := F7
  have D16 : Dj [b1] [b2] := Dj.of (lt1 F1.lt) (low1 G7)
  have D17 : Dj fp1 [b2] := Dj.of F2.low (low1 G7)
  have D18 : Dj fp2 [b2] := Dj.of F3.low (low1 G7)
  have D19 : Dj (fp3 ++ fr1) [b2] := Dj.of F4.low (low1 G7)
  have D20 : Dj fp4 [b2] := Dj.of F5.low (low1 G7)
  have D21 : Dj fp5 [b2] := Dj.of F6.low (low1 G7)
  replace F0_0 := F0_0.chg hc6 Dj.nil
  replace F0_1 := F0_1.chg hc6 Dj.nil
  replace FG := FG.chg hc6 Dj.nil
  replace F1 := F1.chg hc6 notNil
  replace F2 := F2.chg hc6 Dj.nil
  replace F3 := F3.chg hc6 Dj.nil
  replace F4 := F4.chg hc6 Dj.nil
  replace F5 := F5.chg hc6 Dj.nil
  replace F6 := F6.chg hc6 Dj.nil
  replace hB := hB.inS hc6 inNil
  replace G7 := Nat.le_trans hZ G7
  replace hZ := Nat.le_trans hZ hc6.size
  refine wS_store (T := 26) (g := b2) (o := 0) (ad := ⟨b2, 0, none⟩) (v := .agg #[.slice A4 (y4.1).length cap4, .slice A5 (y4.2).length cap5]) (vs := [.slice A4 (y4.1).length cap4, .slice A5 (y4.2).length cap5]) (by kernel_rfl) (by rfl) sz26 (by rfl) (by rfl) F7 (by simp only [List.length_cons, List.length_nil]; omega) ?_
  intro w7 F8 hc7
  replace F0_0 := F0_0.chg hc7 (Dj.of L0_0 (low1 G7))
  replace F0_1 := F0_1.chg hc7 (Dj.of L0_1 (low1 G7))
  replace FG := FG.chg hc7 (Dj.of Lg (low1 G7))
  replace F1 := F1.chg hc7 (dj1 D16)
  replace F2 := F2.chg hc7 D17
  replace F3 := F3.chg hc7 D18
  replace F4 := F4.chg hc7 D19
  replace F5 := F5.chg hc7 D20
  replace F6 := F6.chg hc7 D21
  replace hB := hB.inS hc7 (inLow (low1 G7))
  replace hZ := Nat.le_trans hZ hc7.size
  replace F8 : Cl w7 b2 26 [.slice A4 (y4.1).length cap4, .slice A5 (y4.2).length cap5] := F8
  clear F7
  refine wS_end (by rfl) ?_
  refine eX_then ?_
  refine cW_seq ?_
  refine cW_region ?_
  refine wS_loadA (d := 28) (T := 26) (ad := ⟨b2, 0, none⟩) (vs := [.slice A4 (y4.1).length cap4, .slice A5 (y4.2).length cap5]) (by kernel_rfl) vt26 (fun i u hu => box_cells F8 0 hu (by rfl)) ?_
  obtain ⟨y5, hy5, hm⟩ := bindE hm
  refine wS_calls (d := 29) (f := 9) (vs := [.agg #[.slice A4 (y4.1).length cap4, .slice A5 (y4.2).length cap5]]) (by kernel_rfl) ent9 (c_impl_FewestTracks hy5 (F5.sl encI_ok) F5.cap_le (F6.sl encI_ok) F6.cap_le FG) ?_
  rintro _ w8 ⟨A6, cap6, fp6, fr2, rfl, F9, G8, hc8⟩
  have D22 : Dj [b1] (fp6 ++ fr2) := Dj.of (lt1 F1.lt) G8
  have D23 : Dj fp1 (fp6 ++ fr2) := Dj.of F2.low G8
  have D24 : Dj fp2 (fp6 ++ fr2) := Dj.of F3.low G8
  have D25 : Dj (fp3 ++ fr1) (fp6 ++ fr2) := Dj.of F4.low G8
  have D26 : Dj fp4 (fp6 ++ fr2) := Dj.of F5.low G8
  have D27 : Dj fp5 (fp6 ++ fr2) := Dj.of F6.low G8
  have D28 : Dj [b2] (fp6 ++ fr2) := Dj.of (lt1 F8.lt) G8
  replace F0_0 := F0_0.chg hc8 Dj.nil
  replace F0_1 := F0_1.chg hc8 Dj.nil
  replace FG := FG.chg hc8 Dj.nil
  replace F1 := F1.chg hc8 notNil
  replace F2 := F2.chg hc8 Dj.nil
  replace F3 := F3.chg hc8 Dj.nil
  replace F4 := F4.chg hc8 Dj.nil
  replace F5 := F5.chg hc8 Dj.nil
  replace F6 := F6.chg hc8 Dj.nil
  replace F8 := F8.chg hc8 notNil
  replace hB := hB.inS hc8 inNil
  replace G8 := low_le hZ G8
  replace hZ := Nat.le_trans hZ hc8.size
  refine ⟨.tuple #[.slice A6 (y5.1).length cap6, .bool (y5.2)], rfl, ?_⟩
  refine wS_pure 5 [(8, .bool (y5.2)), (7, .slice A6 (y5.1).length cap6), (31, .bool (y5.2)), (30, .slice A6 (y5.1).length cap6), (27, .tuple #[.slice A6 (y5.1).length cap6, .bool (y5.2)])] (by kernel_rfl) ?_
  refine wS_end (by rfl) ?_
  refine eX_then ?_
  refine cW_prune [(1, .pointer (some ⟨b1, 0, none⟩)), (4, .slice A3 (y3.1).length cap3), (5, .bool (y3.2)), (6, .pointer (some ⟨b2, 0, none⟩)), (7, .slice A6 (y5.1).length cap6), (8, .bool (y5.2))] (by kernel_rfl) (by kernel_rfl) (fun a1 => ?_)
  refine cW_seq ?_
  refine cW_seq ?_
  refine cW_region ?_
  refine wS_pure 2 [(33, .slice A3 (y3.1).length cap3), (32, .slice A6 (y5.1).length cap6)] (by kernel_rfl) ?_
  obtain ⟨y6, hy6, hm⟩ := bindE hm
  refine wS_calls (d := 34) (f := 23) (vs := [.slice A6 (y5.1).length cap6, .slice A3 (y3.1).length cap3]) (by kernel_rfl) ent23 (c_laws_eqInt64SS hy6 (F9.slr encI_ok) (F4.slr encI_ok)) ?_
  rintro _ w9 ⟨rfl, hc9⟩
  replace F0_0 := F0_0.chg hc9 Dj.nil
  replace F0_1 := F0_1.chg hc9 Dj.nil
  replace FG := FG.chg hc9 Dj.nil
  replace F1 := F1.chg hc9 notNil
  replace F2 := F2.chg hc9 Dj.nil
  replace F3 := F3.chg hc9 Dj.nil
  replace F4 := F4.chg hc9 Dj.nil
  replace F5 := F5.chg hc9 Dj.nil
  replace F6 := F6.chg hc9 Dj.nil
  replace F8 := F8.chg hc9 notNil
  replace F9 := F9.chg hc9 Dj.nil
  replace hB := hB.inS hc9 inNil
  replace hZ := Nat.le_trans hZ hc9.size
  refine ⟨.bool (y6), rfl, ?_⟩
  refine wS_pure 2 [(36, .bool (!y6)), (35, .bool (!y6))] (by kernel_rfl) ?_
  refine wS_bool (!y6) (fun hb2 => ?_) (fun hb2 => ?_)
  ·have hm := condT hb2 hm
   rewrite [hb2]
   refine wS_pure 4 [(40, .bool (true)), (39, undef), (38, undef), (37, undef)] (by kernel_rfl) ?_
   refine wS_end (by rfl) ?_
   refine eX_then ?_
   refine cW_cond_t (by kernel_rfl) ?_
   refine cW_seq ?_
   refine cW_region ?_
   refine wS_pure 1 [(2, .bool (false))] (by kernel_rfl) ?_
   refine wS_end (by rfl) ?_
   refine eX_then ?_
   refine cW_ret ?_
   refine eX_then_ret ?_
   have hq : (some false : Option ((Bool))) = some _ := hm
   replace hq := someE hq
   subst hq
   refine eX_ret (vs := [.bool (false)]) [.tmp 2] (by rfl) ⟨by (show lkE _ _ _ = _); kernel_rfl, trivial⟩ ?_
   exact ⟨rfl, hB⟩
  ·have hm := condF hb2 hm
   rewrite [hb2]
   refine wS_pure 4 [(40, .bool (!(y5.2 == y3.2))), (39, .bool (!(y5.2 == y3.2))), (38, .bool (y3.2)), (37, .bool (y5.2))] (by kernel_rfl) ?_
   refine wS_end (by rfl) ?_
   refine eX_then ?_
   refine cW_cond (t := !(y5.2 == y3.2)) (by kernel_rfl) (fun hb3 => ?_) (fun hb3 => ?_)
   ·have hm := condT hb3 hm
    refine cW_seq ?_
    refine cW_region ?_
    refine wS_pure 1 [(2, .bool (false))] (by kernel_rfl) ?_
    refine wS_end (by rfl) ?_
    refine eX_then ?_
    refine cW_ret ?_
    refine eX_then_ret ?_
    have hq : (some false : Option ((Bool))) = some _ := hm
    replace hq := someE hq
    subst hq
    refine eX_ret (vs := [.bool (false)]) [.tmp 2] (by rfl) ⟨by (show lkE _ _ _ = _); kernel_rfl, trivial⟩ ?_
    exact ⟨rfl, hB⟩
   ·have hm := condF hb3 hm
    refine cW_skip ?_
    refine eX_then ?_
    refine cW_seq ?_
    refine cW_seq ?_
    refine cW_drawnTail [] 3 (by kernel_rfl) (by kernel_rfl) (fun w10 hc10 => ?_)
    replace F0_0 := F0_0.chg hc10 Dj.nil
    replace F0_1 := F0_1.chg hc10 Dj.nil
    replace FG := FG.chg hc10 Dj.nil
    replace F1 := F1.chg hc10 notNil
    replace F2 := F2.chg hc10 Dj.nil
    replace F3 := F3.chg hc10 Dj.nil
    replace F4 := F4.chg hc10 Dj.nil
    replace F5 := F5.chg hc10 Dj.nil
    replace F6 := F6.chg hc10 Dj.nil
    replace F8 := F8.chg hc10 notNil
    replace F9 := F9.chg hc10 Dj.nil
    replace hB := hB.inS hc10 inNil
    replace hZ := Nat.le_trans hZ hc10.size
    have hS := Chg.refl [] w10
    have Z1 := F0_0
    have Z2 := F0_1
    have Z3 := FG
    have Z4 := F1
    have Z5 := F2
    have Z6 := F3
    have Z7 := F4
    have Z8 := F5
    have Z9 := F6
    have Z10 := F8
    have Z11 := F9
    refine wH_loadA (i := 0) (d := 41) (T := 26) (ad := ⟨b2, 0, none⟩) (vs := [.slice A4 (y4.1).length cap4, .slice A5 (y4.2).length cap5]) (by kernel_rfl) (qT (qT (qT qZ))) (by kernel_rfl) (by kernel_rfl) vt26 (fun W hW i u hu => box_cells (Z10.chg hW notNil) 0 hu (by rfl)) ?_
    refine wH_loadA (i := 1) (d := 42) (T := 39) (ad := ⟨b1, 0, none⟩) (vs := [.slice A0_0 (l0_0).length cap0_0, .slice A0_1 (l0_1).length cap0_1]) (by kernel_rfl) (qT (qT (qT qZ))) (by kernel_rfl) (by kernel_rfl) vt39 (fun W hW i u hu => box_cells (Z4.chg hW notNil) 0 hu (by rfl)) ?_
    refine wH_all [2] (by rfl) (by kernel_rfl) (by simp) ⟨⟨by kernel_rfl, ?_⟩, trivial⟩
    obtain ⟨y7, hy7, hm⟩ := bindE hm
    refine wS_calls (d := 43) (f := 22) (vs := [.agg #[.slice A0_0 (l0_0).length cap0_0, .slice A0_1 (l0_1).length cap0_1]]) (by kernel_rfl) ent22 (c_laws_toChannel hy7 F0_0 F0_1) ?_
    rintro _ w11 ⟨A7, cap7, fp7, A8, cap8, fp8, rfl, F10, G9, F11, G10, D29, hc11⟩
    have D30 : Dj [b1] fp7 := Dj.of (lt1 F1.lt) G9
    have D31 : Dj fp1 fp7 := Dj.of F2.low G9
    have D32 : Dj fp2 fp7 := Dj.of F3.low G9
    have D33 : Dj (fp3 ++ fr1) fp7 := Dj.of F4.low G9
    have D34 : Dj fp4 fp7 := Dj.of F5.low G9
    have D35 : Dj fp5 fp7 := Dj.of F6.low G9
    have D36 : Dj [b2] fp7 := Dj.of (lt1 F8.lt) G9
    have D37 : Dj (fp6 ++ fr2) fp7 := Dj.of F9.low G9
    have D38 : Dj [b1] fp8 := Dj.of (lt1 F1.lt) G10
    have D39 : Dj fp1 fp8 := Dj.of F2.low G10
    have D40 : Dj fp2 fp8 := Dj.of F3.low G10
    have D41 : Dj (fp3 ++ fr1) fp8 := Dj.of F4.low G10
    have D42 : Dj fp4 fp8 := Dj.of F5.low G10
    have D43 : Dj fp5 fp8 := Dj.of F6.low G10
    have D44 : Dj [b2] fp8 := Dj.of (lt1 F8.lt) G10
    have D45 : Dj (fp6 ++ fr2) fp8 := Dj.of F9.low G10
    replace F0_0 := F0_0.chg hc11 Dj.nil
    replace F0_1 := F0_1.chg hc11 Dj.nil
    replace FG := FG.chg hc11 Dj.nil
    replace F1 := F1.chg hc11 notNil
    replace F2 := F2.chg hc11 Dj.nil
    replace F3 := F3.chg hc11 Dj.nil
    replace F4 := F4.chg hc11 Dj.nil
    replace F5 := F5.chg hc11 Dj.nil
    replace F6 := F6.chg hc11 Dj.nil
    replace F8 := F8.chg hc11 notNil
    replace F9 := F9.chg hc11 Dj.nil
    replace hB := hB.inS hc11 inNil
    have hSz := hS
    replace hS := hS.inS hc11 inNil
    replace G9 := low_le hZ G9
    replace G10 := low_le hZ G10
    replace hZ := Nat.le_trans hZ hc11.size
    refine ⟨.agg #[.slice A7 (y7.1).length cap7, .slice A8 (y7.2).length cap8], rfl, ?_⟩
    refine wS_end (by kernel_rfl) ?_
    refine eX_KH hS ?_
    refine wH_done (by kernel_rfl) ?_
    refine eX_tail ?_
    obtain ⟨y8, hy8, hm⟩ := bindE hm
    refine wS_calls (d := 44) (f := 24) (vs := [.agg #[.slice A4 (y4.1).length cap4, .slice A5 (y4.2).length cap5], .agg #[.slice A7 (y7.1).length cap7, .slice A8 (y7.2).length cap8]]) (by kernel_rfl) ent24 (c_laws_eqChannel hy8 (F5.sl encI_ok) (F6.sl encI_ok) (F10.sl encI_ok) (F11.sl encI_ok)) ?_
    rintro _ w12 ⟨rfl, hc12⟩
    replace F0_0 := F0_0.chg hc12 Dj.nil
    replace F0_1 := F0_1.chg hc12 Dj.nil
    replace FG := FG.chg hc12 Dj.nil
    replace F1 := F1.chg hc12 notNil
    replace F2 := F2.chg hc12 Dj.nil
    replace F3 := F3.chg hc12 Dj.nil
    replace F4 := F4.chg hc12 Dj.nil
    replace F5 := F5.chg hc12 Dj.nil
    replace F6 := F6.chg hc12 Dj.nil
    replace F8 := F8.chg hc12 notNil
    replace F9 := F9.chg hc12 Dj.nil
    replace F10 := F10.chg hc12 Dj.nil
    replace F11 := F11.chg hc12 Dj.nil
    replace hB := hB.inS hc12 inNil
    replace hZ := Nat.le_trans hZ hc12.size
    refine ⟨.bool (y8), rfl, ?_⟩
    refine wS_pure 1 [(45, .bool (!y8))] (by kernel_rfl) ?_
    refine wS_end (by rfl) ?_
    refine eX_then ?_
    refine cW_cond (t := !y8) (by kernel_rfl) (fun hb4 => ?_) (fun hb4 => ?_)
    ·have hm := condT hb4 hm
     refine cW_seq ?_
     refine cW_region ?_
     refine wS_pure 1 [(2, .bool (false))] (by kernel_rfl) ?_
     refine wS_end (by rfl) ?_
     refine eX_then ?_
     refine cW_ret ?_
     refine eX_then_ret ?_
     have hq : (some false : Option ((Bool))) = some _ := hm
     replace hq := someE hq
     subst hq
     refine eX_ret (vs := [.bool (false)]) [.tmp 2] (by rfl) ⟨by (show lkE _ _ _ = _); kernel_rfl, trivial⟩ ?_
     exact ⟨rfl, hB⟩
    ·have hm := condF hb4 hm
     refine cW_skip ?_
     refine eX_then ?_
     refine cW_seq ?_
     refine cW_region ?_
     refine wS_pure 1 [(9, .int .i64 (1))] (by kernel_rfl) ?_
     refine wS_end (by rfl) ?_
     refine eX_then ?_
     refine cW_seq ?_
     refine cW_region ?_
     refine wS_loadA (d := 46) (T := 26) (ad := ⟨b2, 0, none⟩) (vs := [.slice A4 (y4.1).length cap4, .slice A5 (y4.2).length cap5]) (by kernel_rfl) vt26 (fun i u hu => box_cells F8 0 hu (by rfl)) ?_
     refine wS_pure 1 [(47, .int .i64 (1))] (by kernel_rfl) ?_
     obtain ⟨y9, hy9, hm⟩ := bindE hm
     refine wS_calls (d := 48) (f := 25) (vs := [.agg #[.slice A4 (y4.1).length cap4, .slice A5 (y4.2).length cap5], .int .i64 (1)]) (by kernel_rfl) ent25 (c_laws_markChannel hy9 F5 F6 D7) ?_
     rintro _ w13 ⟨rfl, F12, hl1, F13, hl2, hc13⟩
     replace F0_0 := F0_0.chg hc13 (Dj.app (Dj.of L0_0 G5) (Dj.app (Dj.of L0_0 G6) Dj.nil))
     replace F0_1 := F0_1.chg hc13 (Dj.app (Dj.of L0_1 G5) (Dj.app (Dj.of L0_1 G6) Dj.nil))
     replace FG := FG.chg hc13 (Dj.app (Dj.of Lg G5) (Dj.app (Dj.of Lg G6) Dj.nil))
     replace F1 := F1.chg hc13 (dj1 (Dj.app D8 (Dj.app D12 Dj.nil)))
     replace F2 := F2.chg hc13 (Dj.app D9 (Dj.app D13 Dj.nil))
     replace F3 := F3.chg hc13 (Dj.app D10 (Dj.app D14 Dj.nil))
     replace F4 := F4.chg hc13 (Dj.app D11 (Dj.app D15 Dj.nil))
     replace F8 := F8.chg hc13 (dj1 (Dj.app (D20).symm (Dj.app (D21).symm Dj.nil)))
     replace F9 := F9.chg hc13 (Dj.app (D26).symm (Dj.app (D27).symm Dj.nil))
     replace F10 := F10.chg hc13 (Dj.app (D34).symm (Dj.app (D35).symm Dj.nil))
     replace F11 := F11.chg hc13 (Dj.app (D42).symm (Dj.app (D43).symm Dj.nil))
     replace hB := hB.inS hc13 (inApp (inLow G5) (inApp (inLow G6) inNil))
     replace hZ := Nat.le_trans hZ hc13.size
     clear F5
     clear F6
     refine ⟨.int .i64 (y9.1), rfl, ?_⟩
     rewrite [(show (y4.1).length = (y9.2.1).length from hl1.symm)]
     try rewrite [(show (y4.1).length = (y9.2.1).length from hl1.symm)] at F1
     try rewrite [(show (y4.1).length = (y9.2.1).length from hl1.symm)] at F8
     rewrite [(show (y4.2).length = (y9.2.2).length from hl2.symm)]
     try rewrite [(show (y4.2).length = (y9.2.2).length from hl2.symm)] at F1
     try rewrite [(show (y4.2).length = (y9.2.2).length from hl2.symm)] at F8
     refine wS_pure 1 [(9, .int .i64 (y9.1))] (by kernel_rfl) ?_
     refine wS_end (by rfl) ?_
     refine eX_then ?_
     refine cW_prune [(1, .pointer (some ⟨b1, 0, none⟩)), (4, .slice A3 (y3.1).length cap3), (5, .bool (y3.2)), (7, .slice A6 (y5.1).length cap6), (8, .bool (y5.2)), (9, .int .i64 (y9.1))] (by kernel_rfl) (by kernel_rfl) (fun a2 => ?_)
     refine cW_seq ?_
     refine cW_seq ?_
     refine cW_region ?_
     refine wS_pure 3 [(51, .bool (decide (y9.1 < 0))), (50, .bool (decide (y9.1 < 0))), (49, .int .i64 (y9.1))] (by kernel_rfl) ?_
     refine wS_bool (decide (y9.1 < 0)) (fun hb5 => ?_) (fun hb5 => ?_)
     ·have hm := condT hb5 hm
      rewrite [hb5]
      refine wS_pure 10 [(61, .bool (true)), (60, undef), (59, undef), (58, undef), (57, .bool (true)), (56, .bool (true)), (55, undef), (54, undef), (53, undef), (52, undef)] (by kernel_rfl) ?_
      refine wS_end (by rfl) ?_
      refine eX_then ?_
      refine cW_cond_t (by kernel_rfl) ?_
      refine cW_seq ?_
      refine cW_region ?_
      refine wS_pure 1 [(2, .bool (false))] (by kernel_rfl) ?_
      refine wS_end (by rfl) ?_
      refine eX_then ?_
      refine cW_ret ?_
      refine eX_then_ret ?_
      have hq : (some false : Option ((Bool))) = some _ := hm
      replace hq := someE hq
      subst hq
      refine eX_ret (vs := [.bool (false)]) [.tmp 2] (by rfl) ⟨by (show lkE _ _ _ = _); kernel_rfl, trivial⟩ ?_
      exact ⟨rfl, hB⟩
     ·have hm := condF hb5 hm
      rewrite [hb5]
      refine wS_pure 2 [(53, .slice A3 (y3.1).length cap3), (52, .slice A6 (y5.1).length cap6)] (by kernel_rfl) ?_
      obtain ⟨y10, hy10, hm⟩ := bindE hm
      refine wS_calls (d := 54) (f := 23) (vs := [.slice A6 (y5.1).length cap6, .slice A3 (y3.1).length cap3]) (by kernel_rfl) ent23 (c_laws_eqInt64SS hy10 (F9.slr encI_ok) (F4.slr encI_ok)) ?_
      rintro _ w14 ⟨rfl, hc14⟩
      replace F0_0 := F0_0.chg hc14 Dj.nil
      replace F0_1 := F0_1.chg hc14 Dj.nil
      replace FG := FG.chg hc14 Dj.nil
      replace F1 := F1.chg hc14 notNil
      replace F2 := F2.chg hc14 Dj.nil
      replace F3 := F3.chg hc14 Dj.nil
      replace F4 := F4.chg hc14 Dj.nil
      replace F12 := F12.chg hc14 Dj.nil
      replace F13 := F13.chg hc14 Dj.nil
      replace F8 := F8.chg hc14 notNil
      replace F9 := F9.chg hc14 Dj.nil
      replace F10 := F10.chg hc14 Dj.nil
      replace F11 := F11.chg hc14 Dj.nil
      replace hB := hB.inS hc14 inNil
      replace hZ := Nat.le_trans hZ hc14.size
      refine ⟨.bool (y10), rfl, ?_⟩
      refine wS_pure 3 [(57, .bool (!y10)), (56, .bool (!y10)), (55, .bool (!y10))] (by kernel_rfl) ?_
      refine wS_bool (!y10) (fun hb6 => ?_) (fun hb6 => ?_)
      ·have hm := condT hb6 hm
       rewrite [hb6]
       refine wS_pure 4 [(61, .bool (true)), (60, undef), (59, undef), (58, undef)] (by kernel_rfl) ?_
       refine wS_end (by rfl) ?_
       refine eX_then ?_
       refine cW_cond_t (by kernel_rfl) ?_
       refine cW_seq ?_
       refine cW_region ?_
       refine wS_pure 1 [(2, .bool (false))] (by kernel_rfl) ?_
       refine wS_end (by rfl) ?_
       refine eX_then ?_
       refine cW_ret ?_
       refine eX_then_ret ?_
       have hq : (some false : Option ((Bool))) = some _ := hm
       replace hq := someE hq
       subst hq
       refine eX_ret (vs := [.bool (false)]) [.tmp 2] (by rfl) ⟨by (show lkE _ _ _ = _); kernel_rfl, trivial⟩ ?_
       exact ⟨rfl, hB⟩
      ·have hm := condF hb6 hm
       rewrite [hb6]
       refine wS_pure 4 [(61, .bool (!(y5.2 == y3.2))), (60, .bool (!(y5.2 == y3.2))), (59, .bool (y3.2)), (58, .bool (y5.2))] (by kernel_rfl) ?_
       refine wS_end (by rfl) ?_
       refine eX_then ?_
       refine cW_cond (t := !(y5.2 == y3.2)) (by kernel_rfl) (fun hb7 => ?_) (fun hb7 => ?_)
       ·have hm := condT hb7 hm
        refine cW_seq ?_
        refine cW_region ?_
        refine wS_pure 1 [(2, .bool (false))] (by kernel_rfl) ?_
        refine wS_end (by rfl) ?_
        refine eX_then ?_
        refine cW_ret ?_
        refine eX_then_ret ?_
        have hq : (some false : Option ((Bool))) = some _ := hm
        replace hq := someE hq
        subst hq
        refine eX_ret (vs := [.bool (false)]) [.tmp 2] (by rfl) ⟨by (show lkE _ _ _ = _); kernel_rfl, trivial⟩ ?_
        exact ⟨rfl, hB⟩
       ·have hm := condF hb7 hm
        refine cW_skip ?_
        refine eX_then ?_
        refine cW_seq ?_
        refine cW_region ?_
        refine wS_pure 1 [(10, .int .i64 (1))] (by kernel_rfl) ?_
        refine wS_end (by rfl) ?_
        refine eX_then ?_
        refine cW_seq ?_
        refine cW_region ?_
        refine wS_pure 2 [(63, .int .i64 (1)), (62, .slice A6 (y5.1).length cap6)] (by kernel_rfl) ?_
        obtain ⟨y11, hy11, hm⟩ := bindE hm
        refine wS_calls (d := 64) (f := 26) (vs := [.slice A6 (y5.1).length cap6, .int .i64 (1)]) (by kernel_rfl) ent26 (c_laws_markInt64SS hy11 F9) ?_
        rintro _ w15 ⟨rfl, F14, hl3, hc15⟩
        replace F0_0 := F0_0.chg hc15 (Dj.app (Dj.of L0_0 G8) Dj.nil)
        replace F0_1 := F0_1.chg hc15 (Dj.app (Dj.of L0_1 G8) Dj.nil)
        replace FG := FG.chg hc15 (Dj.app (Dj.of Lg G8) Dj.nil)
        replace F1 := F1.chg hc15 (dj1 (Dj.app D22 Dj.nil))
        replace F2 := F2.chg hc15 (Dj.app D23 Dj.nil)
        replace F3 := F3.chg hc15 (Dj.app D24 Dj.nil)
        replace F4 := F4.chg hc15 (Dj.app D25 Dj.nil)
        replace F12 := F12.chg hc15 (Dj.app D26 Dj.nil)
        replace F13 := F13.chg hc15 (Dj.app D27 Dj.nil)
        replace F8 := F8.chg hc15 (dj1 (Dj.app D28 Dj.nil))
        replace F10 := F10.chg hc15 (Dj.app (D37).symm Dj.nil)
        replace F11 := F11.chg hc15 (Dj.app (D45).symm Dj.nil)
        replace hB := hB.inS hc15 (inApp (inLow G8) inNil)
        replace hZ := Nat.le_trans hZ hc15.size
        clear F9
        refine ⟨.int .i64 (y11.1), rfl, ?_⟩
        rewrite [(show (y5.1).length = (y11.2).length from hl3.symm)]
        try rewrite [(show (y5.1).length = (y11.2).length from hl3.symm)] at F1
        try rewrite [(show (y5.1).length = (y11.2).length from hl3.symm)] at F8
        refine wS_pure 1 [(10, .int .i64 (y11.1))] (by kernel_rfl) ?_
        refine wS_end (by rfl) ?_
        refine eX_then ?_
        refine cW_seq ?_
        refine cW_region ?_
        refine wS_pure 1 [(11, .int .i64 (1))] (by kernel_rfl) ?_
        refine wS_end (by rfl) ?_
        refine eX_then ?_
        refine cW_prune [(1, .pointer (some ⟨b1, 0, none⟩)), (4, .slice A3 (y3.1).length cap3), (5, .bool (y3.2)), (7, .slice A6 (y11.2).length cap6), (10, .int .i64 (y11.1)), (11, .int .i64 (1))] (by kernel_rfl) (by kernel_rfl) (fun a3 => ?_)
        refine cW_seq ?_
        refine cW_region ?_
        refine wS_pure 2 [(66, .int .i64 (1)), (65, .slice A6 (y11.2).length cap6)] (by kernel_rfl) ?_
        obtain ⟨y12, hy12, hm⟩ := bindE hm
        refine wS_calls (d := 67) (f := 27) (vs := [.slice A6 (y11.2).length cap6, .int .i64 (1)]) (by kernel_rfl) ent27 (c_laws_heldInt64SS hy12 (F14.slr encI_ok)) ?_
        rintro _ w16 ⟨rfl, hc16⟩
        replace F0_0 := F0_0.chg hc16 Dj.nil
        replace F0_1 := F0_1.chg hc16 Dj.nil
        replace FG := FG.chg hc16 Dj.nil
        replace F1 := F1.chg hc16 notNil
        replace F2 := F2.chg hc16 Dj.nil
        replace F3 := F3.chg hc16 Dj.nil
        replace F4 := F4.chg hc16 Dj.nil
        replace F12 := F12.chg hc16 Dj.nil
        replace F13 := F13.chg hc16 Dj.nil
        replace F8 := F8.chg hc16 notNil
        replace F14 := F14.chg hc16 Dj.nil
        replace F10 := F10.chg hc16 Dj.nil
        replace F11 := F11.chg hc16 Dj.nil
        replace hB := hB.inS hc16 inNil
        replace hZ := Nat.le_trans hZ hc16.size
        refine ⟨.int .i64 (y12), rfl, ?_⟩
        refine wS_pure 1 [(11, .int .i64 (y12))] (by kernel_rfl) ?_
        refine wS_end (by rfl) ?_
        refine eX_then ?_
        refine cW_seq ?_
        refine cW_seq ?_
        refine cW_region ?_
        refine wS_pure 2 [(69, .bool (decide (y12 < 0))), (68, .int .i64 (y12))] (by kernel_rfl) ?_
        refine wS_end (by rfl) ?_
        refine eX_then ?_
        refine cW_cond (t := decide (y12 < 0)) (by kernel_rfl) (fun hb8 => ?_) (fun hb8 => ?_)
        ·have hm := condT hb8 hm
         refine cW_seq ?_
         refine cW_region ?_
         refine wS_pure 1 [(2, .bool (false))] (by kernel_rfl) ?_
         refine wS_end (by rfl) ?_
         refine eX_then ?_
         refine cW_ret ?_
         refine eX_then_ret ?_
         have hq : (some false : Option ((Bool))) = some _ := hm
         replace hq := someE hq
         subst hq
         refine eX_ret (vs := [.bool (false)]) [.tmp 2] (by rfl) ⟨by (show lkE _ _ _ = _); kernel_rfl, trivial⟩ ?_
         exact ⟨rfl, hB⟩
        ·have hm := condF hb8 hm
         refine cW_skip ?_
         refine eX_then ?_
         refine cW_seq ?_
         refine cW_seq ?_
         refine cW_region ?_
         refine wS_pure 3 [(72, .bool (y12 != y11.1)), (71, .int .i64 (y11.1)), (70, .int .i64 (y12))] (by kernel_rfl) ?_
         refine wS_end (by rfl) ?_
         refine eX_then ?_
         refine cW_cond (t := y12 != y11.1) (by kernel_rfl) (fun hb9 => ?_) (fun hb9 => ?_)
         ·have hm := condT hb9 hm
          refine cW_seq ?_
          refine cW_region ?_
          refine wS_pure 1 [(2, .bool (false))] (by kernel_rfl) ?_
          refine wS_end (by rfl) ?_
          refine eX_then ?_
          refine cW_ret ?_
          refine eX_then_ret ?_
          have hq : (some false : Option ((Bool))) = some _ := hm
          replace hq := someE hq
          subst hq
          refine eX_ret (vs := [.bool (false)]) [.tmp 2] (by rfl) ⟨by (show lkE _ _ _ = _); kernel_rfl, trivial⟩ ?_
          exact ⟨rfl, hB⟩
         ·have hm := condF hb9 hm
          refine cW_skip ?_
          refine eX_then ?_
          refine cW_seq ?_
          refine cW_region ?_
          refine wS_loadA (d := 74) (T := 39) (ad := ⟨b1, 0, none⟩) (vs := [.slice A0_0 (l0_0).length cap0_0, .slice A0_1 (l0_1).length cap0_1]) (by kernel_rfl) vt39 (fun i u hu => box_cells F1 0 hu (by rfl)) ?_
          obtain ⟨y13, hy13, hm⟩ := bindE hm
          refine wS_calls (d := 75) (f := 22) (vs := [.agg #[.slice A0_0 (l0_0).length cap0_0, .slice A0_1 (l0_1).length cap0_1]]) (by kernel_rfl) ent22 (c_laws_toChannel hy13 F0_0 F0_1) ?_
          rintro _ w17 ⟨A9, cap9, fp9, A10, cap10, fp10, rfl, F15, G11, F16, G12, D46, hc17⟩
          have D47 : Dj [b1] fp9 := Dj.of (lt1 F1.lt) G11
          have D48 : Dj fp1 fp9 := Dj.of F2.low G11
          have D49 : Dj fp2 fp9 := Dj.of F3.low G11
          have D50 : Dj (fp3 ++ fr1) fp9 := Dj.of F4.low G11
          have D51 : Dj fp4 fp9 := Dj.of F12.low G11
          have D52 : Dj fp5 fp9 := Dj.of F13.low G11
          have D53 : Dj [b2] fp9 := Dj.of (lt1 F8.lt) G11
          have D54 : Dj (fp6 ++ fr2) fp9 := Dj.of F14.low G11
          have D55 : Dj fp7 fp9 := Dj.of F10.low G11
          have D56 : Dj fp8 fp9 := Dj.of F11.low G11
          have D57 : Dj [b1] fp10 := Dj.of (lt1 F1.lt) G12
          have D58 : Dj fp1 fp10 := Dj.of F2.low G12
          have D59 : Dj fp2 fp10 := Dj.of F3.low G12
          have D60 : Dj (fp3 ++ fr1) fp10 := Dj.of F4.low G12
          have D61 : Dj fp4 fp10 := Dj.of F12.low G12
          have D62 : Dj fp5 fp10 := Dj.of F13.low G12
          have D63 : Dj [b2] fp10 := Dj.of (lt1 F8.lt) G12
          have D64 : Dj (fp6 ++ fr2) fp10 := Dj.of F14.low G12
          have D65 : Dj fp7 fp10 := Dj.of F10.low G12
          have D66 : Dj fp8 fp10 := Dj.of F11.low G12
          replace F0_0 := F0_0.chg hc17 Dj.nil
          replace F0_1 := F0_1.chg hc17 Dj.nil
          replace FG := FG.chg hc17 Dj.nil
          replace F1 := F1.chg hc17 notNil
          replace F2 := F2.chg hc17 Dj.nil
          replace F3 := F3.chg hc17 Dj.nil
          replace F4 := F4.chg hc17 Dj.nil
          replace F12 := F12.chg hc17 Dj.nil
          replace F13 := F13.chg hc17 Dj.nil
          replace F8 := F8.chg hc17 notNil
          replace F14 := F14.chg hc17 Dj.nil
          replace F10 := F10.chg hc17 Dj.nil
          replace F11 := F11.chg hc17 Dj.nil
          replace hB := hB.inS hc17 inNil
          replace G11 := low_le hZ G11
          replace G12 := low_le hZ G12
          replace hZ := Nat.le_trans hZ hc17.size
          refine ⟨.agg #[.slice A9 (y13.1).length cap9, .slice A10 (y13.2).length cap10], rfl, ?_⟩
          obtain ⟨y14, hy14, hm⟩ := bindE hm
          refine wS_calls (d := 76) (f := 9) (vs := [.agg #[.slice A9 (y13.1).length cap9, .slice A10 (y13.2).length cap10]]) (by kernel_rfl) ent9 (c_impl_FewestTracks hy14 (F15.sl encI_ok) F15.cap_le (F16.sl encI_ok) F16.cap_le FG) ?_
          rintro _ w18 ⟨A11, cap11, fp11, fr3, rfl, F17, G13, hc18⟩
          have D67 : Dj [b1] (fp11 ++ fr3) := Dj.of (lt1 F1.lt) G13
          have D68 : Dj fp1 (fp11 ++ fr3) := Dj.of F2.low G13
          have D69 : Dj fp2 (fp11 ++ fr3) := Dj.of F3.low G13
          have D70 : Dj (fp3 ++ fr1) (fp11 ++ fr3) := Dj.of F4.low G13
          have D71 : Dj fp4 (fp11 ++ fr3) := Dj.of F12.low G13
          have D72 : Dj fp5 (fp11 ++ fr3) := Dj.of F13.low G13
          have D73 : Dj [b2] (fp11 ++ fr3) := Dj.of (lt1 F8.lt) G13
          have D74 : Dj (fp6 ++ fr2) (fp11 ++ fr3) := Dj.of F14.low G13
          have D75 : Dj fp7 (fp11 ++ fr3) := Dj.of F10.low G13
          have D76 : Dj fp8 (fp11 ++ fr3) := Dj.of F11.low G13
          have D77 : Dj fp9 (fp11 ++ fr3) := Dj.of F15.low G13
          have D78 : Dj fp10 (fp11 ++ fr3) := Dj.of F16.low G13
          replace F0_0 := F0_0.chg hc18 Dj.nil
          replace F0_1 := F0_1.chg hc18 Dj.nil
          replace FG := FG.chg hc18 Dj.nil
          replace F1 := F1.chg hc18 notNil
          replace F2 := F2.chg hc18 Dj.nil
          replace F3 := F3.chg hc18 Dj.nil
          replace F4 := F4.chg hc18 Dj.nil
          replace F12 := F12.chg hc18 Dj.nil
          replace F13 := F13.chg hc18 Dj.nil
          replace F8 := F8.chg hc18 notNil
          replace F14 := F14.chg hc18 Dj.nil
          replace F10 := F10.chg hc18 Dj.nil
          replace F11 := F11.chg hc18 Dj.nil
          replace F15 := F15.chg hc18 Dj.nil
          replace F16 := F16.chg hc18 Dj.nil
          replace hB := hB.inS hc18 inNil
          replace G13 := low_le hZ G13
          replace hZ := Nat.le_trans hZ hc18.size
          refine ⟨.tuple #[.slice A11 (y14.1).length cap11, .bool (y14.2)], rfl, ?_⟩
          refine wS_pure 5 [(13, .bool (y14.2)), (12, .slice A11 (y14.1).length cap11), (78, .bool (y14.2)), (77, .slice A11 (y14.1).length cap11), (73, .tuple #[.slice A11 (y14.1).length cap11, .bool (y14.2)])] (by kernel_rfl) ?_
          refine wS_end (by rfl) ?_
          refine eX_then ?_
          refine cW_seq ?_
          refine cW_seq ?_
          refine cW_region ?_
          refine wS_pure 2 [(80, .slice A3 (y3.1).length cap3), (79, .slice A11 (y14.1).length cap11)] (by kernel_rfl) ?_
          obtain ⟨y15, hy15, hm⟩ := bindE hm
          refine wS_calls (d := 81) (f := 23) (vs := [.slice A11 (y14.1).length cap11, .slice A3 (y3.1).length cap3]) (by kernel_rfl) ent23 (c_laws_eqInt64SS hy15 (F17.slr encI_ok) (F4.slr encI_ok)) ?_
          rintro _ w19 ⟨rfl, hc19⟩
          replace F0_0 := F0_0.chg hc19 Dj.nil
          replace F0_1 := F0_1.chg hc19 Dj.nil
          replace FG := FG.chg hc19 Dj.nil
          replace F1 := F1.chg hc19 notNil
          replace F2 := F2.chg hc19 Dj.nil
          replace F3 := F3.chg hc19 Dj.nil
          replace F4 := F4.chg hc19 Dj.nil
          replace F12 := F12.chg hc19 Dj.nil
          replace F13 := F13.chg hc19 Dj.nil
          replace F8 := F8.chg hc19 notNil
          replace F14 := F14.chg hc19 Dj.nil
          replace F10 := F10.chg hc19 Dj.nil
          replace F11 := F11.chg hc19 Dj.nil
          replace F15 := F15.chg hc19 Dj.nil
          replace F16 := F16.chg hc19 Dj.nil
          replace F17 := F17.chg hc19 Dj.nil
          replace hB := hB.inS hc19 inNil
          replace hZ := Nat.le_trans hZ hc19.size
          refine ⟨.bool (y15), rfl, ?_⟩
          refine wS_pure 2 [(83, .bool (!y15)), (82, .bool (!y15))] (by kernel_rfl) ?_
          refine wS_bool (!y15) (fun hb10 => ?_) (fun hb10 => ?_)
          ·have hm := condT hb10 hm
           rewrite [hb10]
           refine wS_pure 4 [(87, .bool (true)), (86, undef), (85, undef), (84, undef)] (by kernel_rfl) ?_
           refine wS_end (by rfl) ?_
           refine eX_then ?_
           refine cW_prune [(7, .slice A6 (y11.2).length cap6), (10, .int .i64 (y11.1)), (87, .bool (true))] (by kernel_rfl) (by kernel_rfl) (fun a4 => ?_)
           refine cW_cond_t (by kernel_rfl) ?_
           refine cW_seq ?_
           refine cW_region ?_
           refine wS_pure 1 [(2, .bool (false))] (by kernel_rfl) ?_
           refine wS_end (by rfl) ?_
           refine eX_then ?_
           refine cW_ret ?_
           refine eX_then_ret ?_
           have hq : (some false : Option ((Bool))) = some _ := hm
           replace hq := someE hq
           subst hq
           refine eX_ret (vs := [.bool (false)]) [.tmp 2] (by rfl) ⟨by (show lkE _ _ _ = _); kernel_rfl, trivial⟩ ?_
           exact ⟨rfl, hB⟩
          ·have hm := condF hb10 hm
           rewrite [hb10]
           refine wS_pure 4 [(87, .bool (!(y14.2 == y3.2))), (86, .bool (!(y14.2 == y3.2))), (85, .bool (y3.2)), (84, .bool (y14.2))] (by kernel_rfl) ?_
           refine wS_end (by rfl) ?_
           refine eX_then ?_
           refine cW_prune [(7, .slice A6 (y11.2).length cap6), (10, .int .i64 (y11.1)), (87, .bool (!(y14.2 == y3.2)))] (by kernel_rfl) (by kernel_rfl) (fun a5 => ?_)
           refine cW_cond (t := !(y14.2 == y3.2)) (by kernel_rfl) (fun hb11 => ?_) (fun hb11 => ?_)
           ·have hm := condT hb11 hm
            refine cW_seq ?_
            refine cW_region ?_
            refine wS_pure 1 [(2, .bool (false))] (by kernel_rfl) ?_
            refine wS_end (by rfl) ?_
            refine eX_then ?_
            refine cW_ret ?_
            refine eX_then_ret ?_
            have hq : (some false : Option ((Bool))) = some _ := hm
            replace hq := someE hq
            subst hq
            refine eX_ret (vs := [.bool (false)]) [.tmp 2] (by rfl) ⟨by (show lkE _ _ _ = _); kernel_rfl, trivial⟩ ?_
            exact ⟨rfl, hB⟩
           ·have hm := condF hb11 hm
            refine cW_skip ?_
            refine eX_then ?_
            refine cW_seq ?_
            refine cW_region ?_
            refine wS_pure 1 [(11, .int .i64 (1))] (by kernel_rfl) ?_
            refine wS_end (by rfl) ?_
            refine eX_then ?_
            refine cW_seq ?_
            refine cW_region ?_
            refine wS_pure 2 [(89, .int .i64 (1)), (88, .slice A6 (y11.2).length cap6)] (by kernel_rfl) ?_
            obtain ⟨y16, hy16, hm⟩ := bindE hm
            refine wS_calls (d := 90) (f := 27) (vs := [.slice A6 (y11.2).length cap6, .int .i64 (1)]) (by kernel_rfl) ent27 (c_laws_heldInt64SS hy16 (F14.slr encI_ok)) ?_
            rintro _ w20 ⟨rfl, hc20⟩
            replace F0_0 := F0_0.chg hc20 Dj.nil
            replace F0_1 := F0_1.chg hc20 Dj.nil
            replace FG := FG.chg hc20 Dj.nil
            replace F1 := F1.chg hc20 notNil
            replace F2 := F2.chg hc20 Dj.nil
            replace F3 := F3.chg hc20 Dj.nil
            replace F4 := F4.chg hc20 Dj.nil
            replace F12 := F12.chg hc20 Dj.nil
            replace F13 := F13.chg hc20 Dj.nil
            replace F8 := F8.chg hc20 notNil
            replace F14 := F14.chg hc20 Dj.nil
            replace F10 := F10.chg hc20 Dj.nil
            replace F11 := F11.chg hc20 Dj.nil
            replace F15 := F15.chg hc20 Dj.nil
            replace F16 := F16.chg hc20 Dj.nil
            replace F17 := F17.chg hc20 Dj.nil
            replace hB := hB.inS hc20 inNil
            replace hZ := Nat.le_trans hZ hc20.size
            refine ⟨.int .i64 (y16), rfl, ?_⟩
            refine wS_pure 1 [(11, .int .i64 (y16))] (by kernel_rfl) ?_
            refine wS_end (by rfl) ?_
            refine eX_then ?_
            refine cW_seq ?_
            refine cW_seq ?_
            refine cW_region ?_
            refine wS_pure 2 [(92, .bool (decide (y16 < 0))), (91, .int .i64 (y16))] (by kernel_rfl) ?_
            refine wS_end (by rfl) ?_
            refine eX_then ?_
            refine cW_cond (t := decide (y16 < 0)) (by kernel_rfl) (fun hb12 => ?_) (fun hb12 => ?_)
            ·have hm := condT hb12 hm
             refine cW_seq ?_
             refine cW_region ?_
             refine wS_pure 1 [(2, .bool (false))] (by kernel_rfl) ?_
             refine wS_end (by rfl) ?_
             refine eX_then ?_
             refine cW_ret ?_
             refine eX_then_ret ?_
             have hq : (some false : Option ((Bool))) = some _ := hm
             replace hq := someE hq
             subst hq
             refine eX_ret (vs := [.bool (false)]) [.tmp 2] (by rfl) ⟨by (show lkE _ _ _ = _); kernel_rfl, trivial⟩ ?_
             exact ⟨rfl, hB⟩
            ·have hm := condF hb12 hm
             refine cW_skip ?_
             refine eX_then ?_
             refine cW_seq ?_
             refine cW_seq ?_
             refine cW_region ?_
             refine wS_pure 3 [(95, .bool (y16 != y11.1)), (94, .int .i64 (y11.1)), (93, .int .i64 (y16))] (by kernel_rfl) ?_
             refine wS_end (by rfl) ?_
             refine eX_then ?_
             refine cW_cond (t := y16 != y11.1) (by kernel_rfl) (fun hb13 => ?_) (fun hb13 => ?_)
             ·have hm := condT hb13 hm
              refine cW_seq ?_
              refine cW_region ?_
              refine wS_pure 1 [(2, .bool (false))] (by kernel_rfl) ?_
              refine wS_end (by rfl) ?_
              refine eX_then ?_
              refine cW_ret ?_
              refine eX_then_ret ?_
              have hq : (some false : Option ((Bool))) = some _ := hm
              replace hq := someE hq
              subst hq
              refine eX_ret (vs := [.bool (false)]) [.tmp 2] (by rfl) ⟨by (show lkE _ _ _ = _); kernel_rfl, trivial⟩ ?_
              exact ⟨rfl, hB⟩
             ·have hm := condF hb13 hm
              refine cW_skip ?_
              refine eX_then ?_
              refine cW_seq ?_
              refine cW_region ?_
              refine wS_pure 1 [(2, .bool (true))] (by kernel_rfl) ?_
              refine wS_end (by rfl) ?_
              refine eX_then ?_
              refine cW_ret ?_
              have hq : (some true : Option ((Bool))) = some _ := hm
              replace hq := someE hq
              subst hq
              refine eX_ret (vs := [.bool (true)]) [.tmp 2] (by rfl) ⟨by (show lkE _ _ _ = _); kernel_rfl, trivial⟩ ?_
              exact ⟨rfl, hB⟩

end Go.Proofs.YtbfjekmefcpkmaaDoor
