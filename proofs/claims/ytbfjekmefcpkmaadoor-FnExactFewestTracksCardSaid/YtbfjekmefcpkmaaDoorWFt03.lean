/- Printed walks: spec.l03Is, spec.l03Above, spec.l03OfNets, laws.szInt64S, laws.szChannel, spec.l03Less, spec.l03Fits, spec.l03Fewest, spec.FewestTracks, laws.toInt64S, laws.toChannel. -/
import Derived.Test.YtbfjekmefcpkmaaDoorProg
import Derived.Test.YtbfjekmefcpkmaaDoorWFt02
set_option linter.unusedSimpArgs false
set_option linter.unusedVariables false
namespace Go.Proofs.YtbfjekmefcpkmaaDoor
open Go.RowKit
attribute [local irreducible] wS cW eX wH

theorem ent55 : Ent Tryd.prog 55 := fun _ => by kernel_rfl
theorem ent60 : Ent Tryd.prog 60 := fun _ => by kernel_rfl
theorem ent62 : Ent Tryd.prog 62 := fun _ => by kernel_rfl
theorem ent63 : Ent Tryd.prog 63 := fun _ => by kernel_rfl
theorem ent64 : Ent Tryd.prog 64 := fun _ => by kernel_rfl
theorem ent65 : Ent Tryd.prog 65 := fun _ => by kernel_rfl
theorem ent94 : Ent Tryd.prog 94 := fun _ => by kernel_rfl
theorem ent95 : Ent Tryd.prog 95 := fun _ => by kernel_rfl
theorem ent96 : Ent Tryd.prog 96 := fun _ => by kernel_rfl
theorem ent97 : Ent Tryd.prog 97 := fun _ => by kernel_rfl
theorem ent121 : Ent Tryd.prog 121 := fun _ => by kernel_rfl
theorem vt4 : VarTy Tryd.prog 4 1 false := ⟨by kernel_rfl, by kernel_rfl⟩
theorem vt92 : VarTy Tryd.prog 92 1 false := ⟨by kernel_rfl, by kernel_rfl⟩
theorem vt120 : VarTy Tryd.prog 120 1 false := ⟨by kernel_rfl, by kernel_rfl⟩
theorem sl92 : SlTy Tryd.prog 92 120 1 := ⟨Tryd.underlying92, by kernel_rfl⟩
theorem sl120 : SlTy Tryd.prog 120 4 1 := ⟨Tryd.underlying120, by kernel_rfl⟩
theorem el92 : ElTy Tryd.prog 92 120 1 (.slice none 0 0) := ElTy.mk' Tryd.underlying92 (by kernel_rfl) (by rfl)
theorem el120 : ElTy Tryd.prog 120 4 1 (.bool (false)) := ElTy.mk' Tryd.underlying120 (by kernel_rfl) (by rfl)
theorem sz2 : pureRun Tryd.prog (sizeOf 2) = some 1 := by kernel_rfl
theorem sz4 : pureRun Tryd.prog (sizeOf 4) = some 1 := by kernel_rfl
theorem sz26 : pureRun Tryd.prog (sizeOf 26) = some 2 := by kernel_rfl
theorem sz92 : pureRun Tryd.prog (sizeOf 92) = some 1 := by kernel_rfl

set_option maxRecDepth 100000 in
/-- spec.l03Is -/
theorem c_spec_l03Is_bimplChannel {w0 : World} {l0_0 : List (Int)} {A0_0 : Option Addr} {cap0_0 : Nat} {fp0_0 : List Nat} {l0_1 : List (Int)} {A0_1 : Option Addr} {cap0_1 : Nat} {fp0_1 : List Nat} {b0 : Nat} {r : (Bool)} (hm : m_spec_l03Is_bimplChannel l0_0 l0_1 = some r) (F0_0 : Sl 1 encI w0 fp0_0 A0_0 l0_0) (F0_1 : Sl 1 encI w0 fp0_1 A0_1 l0_1) (F0 : Cl w0 b0 26 [.slice A0_0 (l0_0).length cap0_0, .slice A0_1 (l0_1).length cap0_1]) :
  Calls Tryd.prog 60 #[.pointer (some ⟨b0, 0, none⟩)] w0 fun e w' => e = .returned (.bool (r)) ∧ Chg [] w0 w' := by
 have L0_0 := F0_0.low
 have L0_1 := F0_1.low
 have L0 := lt1 F0.lt
 have hB : Chg [] w0 w0 := Chg.refl _ _
 have hZ := Nat.le_refl w0.heap.size
 unfold m_spec_l03Is_bimplChannel at hm
 refine enterE (N := 88) Tryd.func60 (by rfl) Tryd.ntmps60 (by simp) [(0, .pointer (some ⟨b0, 0, none⟩))] (by rfl) (by kernel_rfl) (fun a => ?_)
 refine cW_seq ?_
 refine cW_region ?_
 refine wS_pure 1 [(2, .bool (false))] (by kernel_rfl) ?_
 refine wS_end (by rfl) ?_
 refine eX_then ?_
 refine cW_seq ?_
 refine cW_region ?_
 refine wS_pure 3 [(9, .pointer (some ⟨b0, 0, none⟩)), (8, .pointer (some ⟨b0, 0, none⟩)), (7, .pointer (some ⟨b0, 0, none⟩))] (by kernel_rfl) ?_
 refine wS_load1 (d := 10) (T := 24) (ad := ⟨b0, 0, none⟩) (v := .slice A0_0 (l0_0).length cap0_0) (by kernel_rfl) vt24 ((F0).cell 0) ?_
 refine wS_pure 2 [(3, .int .i64 (((l0_0).length : Int))), (11, .int .i64 (((l0_0).length : Int)))] (by kernel_rfl) ?_
 refine wS_end (by rfl) ?_
 refine eX_then ?_
 refine cW_seq ?_
 refine cW_seq ?_
 refine cW_region ?_
 refine wS_pure 3 [(14, .bool (decide ((((l0_0).length : Int)) < 1))), (13, .bool (decide ((((l0_0).length : Int)) < 1))), (12, .int .i64 (((l0_0).length : Int)))] (by kernel_rfl) ?_
 refine wS_bool (decide ((((l0_0).length : Int)) < 1)) (fun hb1 => ?_) (fun hb1 => ?_)
 ·have hm := condT hb1 hm
  rewrite [hb1]
  refine wS_pure 12 [(26, .bool (true)), (25, undef), (24, undef), (23, undef), (22, undef), (21, undef), (20, undef), (19, undef), (18, .bool (true)), (17, .bool (true)), (16, undef), (15, undef)] (by kernel_rfl) ?_
  refine wS_end (by rfl) ?_
  refine eX_then ?_
  refine cW_cond_t (by kernel_rfl) ?_
  refine cW_seq ?_
  refine cW_region ?_
  refine wS_pure 1 [(2, .bool (false))] (by kernel_rfl) ?_
  refine wS_end (by rfl) ?_
  refine eX_then ?_
  refine cW_ret ?_
  refine eX_then_ret ?_
  have hq : (some false : Option ((Bool))) = some _ := hm
  replace hq := someE hq
  subst hq
  refine eX_ret (vs := [.bool (false)]) [.tmp 2] (by rfl) ⟨by (show lkE _ _ _ = _); kernel_rfl, trivial⟩ ?_
  exact ⟨rfl, hB⟩
 ·have hm := condF hb1 hm
  rewrite [hb1]
  refine wS_pure 4 [(18, .bool (decide ((((l0_0).length : Int)) > 24))), (17, .bool (decide ((((l0_0).length : Int)) > 24))), (16, .bool (decide ((((l0_0).length : Int)) > 24))), (15, .int .i64 (((l0_0).length : Int)))] (by kernel_rfl) ?_
  refine wS_bool (decide ((((l0_0).length : Int)) > 24)) (fun hb2 => ?_) (fun hb2 => ?_)
  ·have hm := condT hb2 hm
   rewrite [hb2]
   refine wS_pure 8 [(26, .bool (true)), (25, undef), (24, undef), (23, undef), (22, undef), (21, undef), (20, undef), (19, undef)] (by kernel_rfl) ?_
   refine wS_end (by rfl) ?_
   refine eX_then ?_
   refine cW_cond_t (by kernel_rfl) ?_
   refine cW_seq ?_
   refine cW_region ?_
   refine wS_pure 1 [(2, .bool (false))] (by kernel_rfl) ?_
   refine wS_end (by rfl) ?_
   refine eX_then ?_
   refine cW_ret ?_
   refine eX_then_ret ?_
   have hq : (some false : Option ((Bool))) = some _ := hm
   replace hq := someE hq
   subst hq
   refine eX_ret (vs := [.bool (false)]) [.tmp 2] (by rfl) ⟨by (show lkE _ _ _ = _); kernel_rfl, trivial⟩ ?_
   exact ⟨rfl, hB⟩
  ·have hm := condF hb2 hm
   rewrite [hb2]
   refine wS_pure 3 [(21, .pointer (some ⟨b0, 1, none⟩)), (20, .pointer (some ⟨b0, 0, none⟩)), (19, .pointer (some ⟨b0, 0, none⟩))] (by kernel_rfl) ?_
   refine wS_load1 (d := 22) (T := 24) (ad := ⟨b0, 1, none⟩) (v := .slice A0_1 (l0_1).length cap0_1) (by kernel_rfl) vt24 ((F0).cell 1) ?_
   refine wS_pure 4 [(26, .bool ((((l0_1).length : Int)) != (((l0_0).length : Int)))), (25, .bool ((((l0_1).length : Int)) != (((l0_0).length : Int)))), (24, .int .i64 (((l0_0).length : Int))), (23, .int .i64 (((l0_1).length : Int)))] (by kernel_rfl) ?_
   refine wS_end (by rfl) ?_
   refine eX_then ?_
   refine cW_cond (t := (((l0_1).length : Int)) != (((l0_0).length : Int))) (by kernel_rfl) (fun hb3 => ?_) (fun hb3 => ?_)
   ·have hm := condT hb3 hm
    refine cW_seq ?_
    refine cW_region ?_
    refine wS_pure 1 [(2, .bool (false))] (by kernel_rfl) ?_
    refine wS_end (by rfl) ?_
    refine eX_then ?_
    refine cW_ret ?_
    refine eX_then_ret ?_
    have hq : (some false : Option ((Bool))) = some _ := hm
    replace hq := someE hq
    subst hq
    refine eX_ret (vs := [.bool (false)]) [.tmp 2] (by rfl) ⟨by (show lkE _ _ _ = _); kernel_rfl, trivial⟩ ?_
    exact ⟨rfl, hB⟩
   ·have hm := condF hb3 hm
    refine cW_skip ?_
    refine eX_then ?_
    refine cW_seq ?_
    refine cW_region ?_
    obtain ⟨_, hk1, hm⟩ := bindE hm
    replace hk1 := mkE hk1
    refine wS_make (enc := encI) (x0 := (0 : Int)) (d := 27) (t := 24) (T := 2) (k1 := .i64) (k2 := .i64) (m := 13) (by kernel_rfl) el24 encI_ok (by rfl) hk1.1 hk1.2 ?_
    intro b1 w1 G1 F1 hc1
    replace F0_0 := F0_0.chg hc1 Dj.nil
    replace F0_1 := F0_1.chg hc1 Dj.nil
    replace F0 := F0.chg hc1 notNil
    replace hB := hB.inS hc1 inNil
    replace G1 := Nat.le_trans hZ G1
    replace G1 := low1 G1
    replace hZ := Nat.le_trans hZ hc1.size
    refine wS_pure 1 [(4, .slice (some ⟨b1, 0, none⟩) (List.replicate (Int.toNat 13) ((0 : Int))).length (Int.toNat 13))] (by kernel_rfl) ?_
    refine wS_end (by rfl) ?_
    refine eX_then ?_
    refine cW_prune [(0, .pointer (some ⟨b0, 0, none⟩)), (3, .int .i64 (((l0_0).length : Int))), (4, .slice (some ⟨b1, 0, none⟩) (List.replicate (Int.toNat 13) ((0 : Int))).length (Int.toNat 13))] (by kernel_rfl) (by kernel_rfl) (fun a1 => ?_)
    refine cW_seq ?_
    refine cW_seq ?_
    refine cW_region ?_
    refine wS_pure 1 [(5, .int .i64 (0))] (by kernel_rfl) ?_
    refine wS_end (by rfl) ?_
    refine eX_then ?_
    obtain ⟨r1, hr1, hm⟩ := bindE hm
    have hm1 := hm
    refine cW_cut (fun a' w' => ∃ l1 : List (Int), Sum.inl l1 = r1 ∧ Fr 88 [(4, .slice (some ⟨b1, 0, none⟩) (l1).length (Int.toNat 13))] a' ∧ Ow 1 encI 2 w' [b1] (some ⟨b1, 0, none⟩) (Int.toNat 13) l1 ∧ Chg [] w0 w' ∧ w0.heap.size ≤ w'.heap.size) ?_ ?_
    ·refine cW_block ?_
     refine cW_loop _ (fun (s1 : Int × (List (Int))) a' w' => ∃ x1 : Int, ∃ l2 : List (Int), (x1, l2) = s1 ∧ Fr 88 [(0, .pointer (some ⟨b0, 0, none⟩)), (3, .int .i64 (((l0_0).length : Int))), (4, .slice (some ⟨b1, 0, none⟩) (l2).length (Int.toNat 13)), (5, .int .i64 (x1))] a' ∧ Sl 1 encI w' fp0_0 A0_0 l0_0 ∧ Sl 1 encI w' fp0_1 A0_1 l0_1 ∧ Cl w' b0 26 [.slice A0_0 (l0_0).length cap0_0, .slice A0_1 (l0_1).length cap0_1] ∧ Ow 1 encI 2 w' [b1] (some ⟨b1, 0, none⟩) (Int.toNat 13) l2 ∧ Chg [] w0 w' ∧ w0.heap.size ≤ w'.heap.size) hr1 (fun hst => ⟨0, List.replicate (Int.toNat 13) ((0 : Int)), rfl, Fr.of hst (by kernel_rfl), F0_0, F0_1, F0, F1, hB, hZ⟩) ?_
     rintro _ c1 a' w2 ⟨x1, l2, rfl, hF1, F2, F3, F4, F5, hB, hZ⟩ hx1
     refine Fr.goOn hF1 (by kernel_rfl) ?_
     have hm := hx1
     unfold m_spec_l03Is_bimplChannel_s1 at hm
     refine cW_seq ?_
     refine cW_seq ?_
     refine cW_region ?_
     refine wS_pure 3 [(30, .bool (decide (x1 < (((l0_0).length : Int))))), (29, .int .i64 (((l0_0).length : Int))), (28, .int .i64 (x1))] (by kernel_rfl) ?_
     refine wS_end (by rfl) ?_
     refine eX_then ?_
     refine cW_cond (t := decide (x1 < (((l0_0).length : Int)))) (by kernel_rfl) (fun hb4 => ?_) (fun hb4 => ?_)
     ·have hm := condT hb4 hm
      refine cW_skip ?_
      refine eX_then ?_
      refine cW_seq ?_
      refine cW_block ?_
      refine cW_seq ?_
      refine cW_seq ?_
      refine cW_region ?_
      refine wS_pure 3 [(35, .pointer (some ⟨b0, 0, none⟩)), (34, .pointer (some ⟨b0, 0, none⟩)), (33, .pointer (some ⟨b0, 0, none⟩))] (by kernel_rfl) ?_
      refine wS_load1 (d := 36) (T := 24) (ad := ⟨b0, 0, none⟩) (v := .slice A0_0 (l0_0).length cap0_0) (by kernel_rfl) vt24 ((F4).cell 0) ?_
      refine wS_pure 1 [(37, .int .i64 (x1))] (by kernel_rfl) ?_
      obtain ⟨x2, hx2, hm⟩ := bindE hm
      refine wS_idx (d := 38) (T := 24) (A := A0_0) (n := (l0_0).length) (cap := cap0_0) (kd := .i64) (m := x1) (by kernel_rfl) sl24 (F2.is hx2) ?_
      refine wS_load1 (d := 39) (T := 2) (ad := (elA A0_0 1 (x1) 0)) (v := .int .i64 (x2)) (by kernel_rfl) vt2 (Sl.cell F2 hx2 0 (by rfl)) ?_
      obtain ⟨y1, hy1, hm⟩ := bindE hm
      refine wS_calls (d := 40) (f := 94) (vs := [.int .i64 (x2), .int .i64 (0), .int .i64 (12)]) (by kernel_rfl) ent94 (c_spec_l00In hy1) ?_
      rintro _ w3 ⟨rfl, hc2⟩
      replace F2 := F2.chg hc2 Dj.nil
      replace F3 := F3.chg hc2 Dj.nil
      replace F4 := F4.chg hc2 notNil
      replace F5 := F5.chg hc2 Dj.nil
      replace hB := hB.inS hc2 inNil
      replace hZ := Nat.le_trans hZ hc2.size
      refine ⟨.bool (y1), rfl, ?_⟩
      refine wS_pure 2 [(42, .bool (!y1)), (41, .bool (!y1))] (by kernel_rfl) ?_
      refine wS_bool (!y1) (fun hb5 => ?_) (fun hb5 => ?_)
      ·have hm := condT hb5 hm
       rewrite [hb5]
       refine wS_pure 10 [(52, .bool (true)), (51, undef), (50, undef), (49, undef), (48, undef), (47, undef), (46, undef), (45, undef), (44, undef), (43, undef)] (by kernel_rfl) ?_
       refine wS_end (by rfl) ?_
       refine eX_then ?_
       refine cW_prune [(0, .pointer (some ⟨b0, 0, none⟩)), (3, .int .i64 (((l0_0).length : Int))), (4, .slice (some ⟨b1, 0, none⟩) (l2).length (Int.toNat 13)), (5, .int .i64 (x1)), (52, .bool (true))] (by kernel_rfl) (by kernel_rfl) (fun a2 => ?_)
       refine cW_cond_t (by kernel_rfl) ?_
       refine cW_seq ?_
       refine cW_region ?_
       refine wS_pure 1 [(2, .bool (false))] (by kernel_rfl) ?_
       refine wS_end (by rfl) ?_
       refine eX_then ?_
       refine cW_ret ?_
       refine eX_then_ret ?_
       refine eX_block_ret ?_
       refine eX_then_ret ?_
       have hq : (some (Ctl.out (Sum.inr false)) : Option (Ctl (Int × (List (Int))) (Sum ((List (Int))) ((Bool))))) = some _ := hm
       replace hq := someE hq
       subst hq
       refine eX_outR hx1 (fun hr => ?_)
       subst hr
       refine eX_block_ret ?_
       refine eX_then_ret ?_
       refine eX_then_ret ?_
       have hq : (some false : Option ((Bool))) = some _ := hm1
       replace hq := someE hq
       subst hq
       refine eX_ret (vs := [.bool (false)]) [.tmp 2] (by rfl) ⟨by (show lkE _ _ _ = _); kernel_rfl, trivial⟩ ?_
       exact ⟨rfl, hB⟩
      ·have hm := condF hb5 hm
       rewrite [hb5]
       refine wS_pure 3 [(45, .pointer (some ⟨b0, 1, none⟩)), (44, .pointer (some ⟨b0, 0, none⟩)), (43, .pointer (some ⟨b0, 0, none⟩))] (by kernel_rfl) ?_
       refine wS_load1 (d := 46) (T := 24) (ad := ⟨b0, 1, none⟩) (v := .slice A0_1 (l0_1).length cap0_1) (by kernel_rfl) vt24 ((F4).cell 1) ?_
       refine wS_pure 1 [(47, .int .i64 (x1))] (by kernel_rfl) ?_
       obtain ⟨x3, hx3, hm⟩ := bindE hm
       refine wS_idx (d := 48) (T := 24) (A := A0_1) (n := (l0_1).length) (cap := cap0_1) (kd := .i64) (m := x1) (by kernel_rfl) sl24 (F3.is hx3) ?_
       refine wS_load1 (d := 49) (T := 2) (ad := (elA A0_1 1 (x1) 0)) (v := .int .i64 (x3)) (by kernel_rfl) vt2 (Sl.cell F3 hx3 0 (by rfl)) ?_
       obtain ⟨y2, hy2, hm⟩ := bindE hm
       refine wS_calls (d := 50) (f := 94) (vs := [.int .i64 (x3), .int .i64 (0), .int .i64 (12)]) (by kernel_rfl) ent94 (c_spec_l00In hy2) ?_
       rintro _ w4 ⟨rfl, hc3⟩
       replace F2 := F2.chg hc3 Dj.nil
       replace F3 := F3.chg hc3 Dj.nil
       replace F4 := F4.chg hc3 notNil
       replace F5 := F5.chg hc3 Dj.nil
       replace hB := hB.inS hc3 inNil
       replace hZ := Nat.le_trans hZ hc3.size
       refine ⟨.bool (y2), rfl, ?_⟩
       refine wS_pure 2 [(52, .bool (!y2)), (51, .bool (!y2))] (by kernel_rfl) ?_
       refine wS_end (by rfl) ?_
       refine eX_then ?_
       refine cW_prune [(0, .pointer (some ⟨b0, 0, none⟩)), (3, .int .i64 (((l0_0).length : Int))), (4, .slice (some ⟨b1, 0, none⟩) (l2).length (Int.toNat 13)), (5, .int .i64 (x1)), (52, .bool (!y2))] (by kernel_rfl) (by kernel_rfl) (fun a3 => ?_)
       refine cW_cond (t := !y2) (by kernel_rfl) (fun hb6 => ?_) (fun hb6 => ?_)
       ·have hm := condT hb6 hm
        refine cW_seq ?_
        refine cW_region ?_
        refine wS_pure 1 [(2, .bool (false))] (by kernel_rfl) ?_
        refine wS_end (by rfl) ?_
        refine eX_then ?_
        refine cW_ret ?_
        refine eX_then_ret ?_
        refine eX_block_ret ?_
        refine eX_then_ret ?_
        have hq : (some (Ctl.out (Sum.inr false)) : Option (Ctl (Int × (List (Int))) (Sum ((List (Int))) ((Bool))))) = some _ := hm
        replace hq := someE hq
        subst hq
        refine eX_outR hx1 (fun hr => ?_)
        subst hr
        refine eX_block_ret ?_
        refine eX_then_ret ?_
        refine eX_then_ret ?_
        have hq : (some false : Option ((Bool))) = some _ := hm1
        replace hq := someE hq
        subst hq
        refine eX_ret (vs := [.bool (false)]) [.tmp 2] (by rfl) ⟨by (show lkE _ _ _ = _); kernel_rfl, trivial⟩ ?_
        exact ⟨rfl, hB⟩
       ·have hm := condF hb6 hm
        refine cW_skip ?_
        refine eX_then ?_
        refine cW_seq ?_
        refine cW_region ?_
        refine wS_pure 4 [(56, .pointer (some ⟨b0, 0, none⟩)), (55, .pointer (some ⟨b0, 0, none⟩)), (54, .pointer (some ⟨b0, 0, none⟩)), (53, .slice (some ⟨b1, 0, none⟩) (l2).length (Int.toNat 13))] (by kernel_rfl) ?_
        refine wS_load1 (d := 57) (T := 24) (ad := ⟨b0, 0, none⟩) (v := .slice A0_0 (l0_0).length cap0_0) (by kernel_rfl) vt24 ((F4).cell 0) ?_
        refine wS_pure 1 [(58, .int .i64 (x1))] (by kernel_rfl) ?_
        obtain ⟨x4, hx4, hm⟩ := bindE hm
        refine wS_idx (d := 59) (T := 24) (A := A0_0) (n := (l0_0).length) (cap := cap0_0) (kd := .i64) (m := x1) (by kernel_rfl) sl24 (F2.is hx4) ?_
        refine wS_load1 (d := 60) (T := 2) (ad := (elA A0_0 1 (x1) 0)) (v := .int .i64 (x4)) (by kernel_rfl) vt2 (Sl.cell F2 hx4 0 (by rfl)) ?_
        obtain ⟨x5, hx5, hm⟩ := bindE hm
        refine wS_idx (d := 61) (T := 24) (A := (some ⟨b1, 0, none⟩)) (n := (l2).length) (cap := (Int.toNat 13)) (kd := .i64) (m := x4) (by kernel_rfl) sl24 ((F5.sl encI_ok).is hx5) ?_
        refine wS_load1 (d := 62) (T := 2) (ad := (elA (some ⟨b1, 0, none⟩) 1 (x4) 0)) (v := .int .i64 (x5)) (by kernel_rfl) vt2 (Sl.cell (F5.sl encI_ok) hx5 0 (by rfl)) ?_
        refine wS_pure 1 [(63, .int .i64 (wr (x5 + 1)))] (by kernel_rfl) ?_
        obtain ⟨x6, hx6, hm⟩ := bindE hm
        refine wS_idx (d := 64) (T := 24) (A := (some ⟨b1, 0, none⟩)) (n := (l2).length) (cap := (Int.toNat 13)) (kd := .i64) (m := x4) (by kernel_rfl) sl24 ((F5.sl encI_ok).is hx6) ?_
        refine wS_storeEl (x := x6) (wr (x5 + 1)) (T := 2) (U := 2) (cap := (Int.toNat 13)) (j := 0) (A := (some ⟨b1, 0, none⟩)) (v := .int .i64 (wr (x5 + 1))) (vs := [.int .i64 (wr (x5 + 1))]) (m := x4) (by kernel_rfl) (by rfl) sz2 (by rfl) encI_ok F5 hx6 (by simp only [List.length_cons, List.length_nil]; omega) (by rfl) ?_
        intro w5 F6 hc4
        replace F2 := F2.chg hc4 (Dj.of L0_0 G1)
        replace F3 := F3.chg hc4 (Dj.of L0_1 G1)
        replace F4 := F4.chg hc4 (dj1 (Dj.of L0 G1))
        replace hB := hB.inS hc4 (inLow G1)
        replace hZ := Nat.le_trans hZ hc4.size
        clear F5
        rewrite [show (l2).length = (l2.set (Int.toNat x4) (wr (x5 + 1))).length from (List.length_set ..).symm]
        refine wS_end (by rfl) ?_
        refine eX_then ?_
        refine cW_region ?_
        refine wS_pure 4 [(68, .pointer (some ⟨b0, 1, none⟩)), (67, .pointer (some ⟨b0, 0, none⟩)), (66, .pointer (some ⟨b0, 0, none⟩)), (65, .slice (some ⟨b1, 0, none⟩) (l2.set (Int.toNat x4) (wr (x5 + 1))).length (Int.toNat 13))] (by kernel_rfl) ?_
        refine wS_load1 (d := 69) (T := 24) (ad := ⟨b0, 1, none⟩) (v := .slice A0_1 (l0_1).length cap0_1) (by kernel_rfl) vt24 ((F4).cell 1) ?_
        refine wS_pure 1 [(70, .int .i64 (x1))] (by kernel_rfl) ?_
        obtain ⟨x7, hx7, hm⟩ := bindE hm
        refine wS_idx (d := 71) (T := 24) (A := A0_1) (n := (l0_1).length) (cap := cap0_1) (kd := .i64) (m := x1) (by kernel_rfl) sl24 (F3.is hx7) ?_
        refine wS_load1 (d := 72) (T := 2) (ad := (elA A0_1 1 (x1) 0)) (v := .int .i64 (x7)) (by kernel_rfl) vt2 (Sl.cell F3 hx7 0 (by rfl)) ?_
        obtain ⟨x8, hx8, hm⟩ := bindE hm
        refine wS_idx (d := 73) (T := 24) (A := (some ⟨b1, 0, none⟩)) (n := (l2.set (Int.toNat x4) (wr (x5 + 1))).length) (cap := (Int.toNat 13)) (kd := .i64) (m := x7) (by kernel_rfl) sl24 ((F6.sl encI_ok).is hx8) ?_
        refine wS_load1 (d := 74) (T := 2) (ad := (elA (some ⟨b1, 0, none⟩) 1 (x7) 0)) (v := .int .i64 (x8)) (by kernel_rfl) vt2 (Sl.cell (F6.sl encI_ok) hx8 0 (by rfl)) ?_
        refine wS_pure 1 [(75, .int .i64 (wr (x8 + 1)))] (by kernel_rfl) ?_
        obtain ⟨x9, hx9, hm⟩ := bindE hm
        refine wS_idx (d := 76) (T := 24) (A := (some ⟨b1, 0, none⟩)) (n := (l2.set (Int.toNat x4) (wr (x5 + 1))).length) (cap := (Int.toNat 13)) (kd := .i64) (m := x7) (by kernel_rfl) sl24 ((F6.sl encI_ok).is hx9) ?_
        refine wS_storeEl (x := x9) (wr (x8 + 1)) (T := 2) (U := 2) (cap := (Int.toNat 13)) (j := 0) (A := (some ⟨b1, 0, none⟩)) (v := .int .i64 (wr (x8 + 1))) (vs := [.int .i64 (wr (x8 + 1))]) (m := x7) (by kernel_rfl) (by rfl) sz2 (by rfl) encI_ok F6 hx9 (by simp only [List.length_cons, List.length_nil]; omega) (by rfl) ?_
        intro w6 F7 hc5
        replace F2 := F2.chg hc5 (Dj.of L0_0 G1)
        replace F3 := F3.chg hc5 (Dj.of L0_1 G1)
        replace F4 := F4.chg hc5 (dj1 (Dj.of L0 G1))
        replace hB := hB.inS hc5 (inLow G1)
        replace hZ := Nat.le_trans hZ hc5.size
        clear F6
        rewrite [show (l2.set (Int.toNat x4) (wr (x5 + 1))).length = ((l2.set (Int.toNat x4) (wr (x5 + 1))).set (Int.toNat x7) (wr (x8 + 1))).length from (List.length_set ..).symm]
        refine wS_end (by rfl) ?_
        refine eX_block ?_
        refine eX_then ?_
        refine cW_prune [(0, .pointer (some ⟨b0, 0, none⟩)), (3, .int .i64 (((l0_0).length : Int))), (4, .slice (some ⟨b1, 0, none⟩) ((l2.set (Int.toNat x4) (wr (x5 + 1))).set (Int.toNat x7) (wr (x8 + 1))).length (Int.toNat 13)), (5, .int .i64 (x1))] (by kernel_rfl) (by kernel_rfl) (fun a4 => ?_)
        refine cW_region ?_
        refine wS_pure 3 [(5, .int .i64 (wr (x1 + 1))), (32, .int .i64 (wr (x1 + 1))), (31, .int .i64 (x1))] (by kernel_rfl) ?_
        refine wS_end (by rfl) ?_
        have hq : (some (Ctl.next ((wr (x1 + 1), (l2.set (Int.toNat x4) (wr (x5 + 1))).set (Int.toNat x7) (wr (x8 + 1))))) : Option (Ctl (Int × (List (Int))) (Sum ((List (Int))) ((Bool))))) = some _ := hm
        replace hq := someE hq
        subst hq
        exact eX_next hx1 (fun hst => ⟨wr (x1 + 1), (l2.set (Int.toNat x4) (wr (x5 + 1))).set (Int.toNat x7) (wr (x8 + 1)), rfl, Fr.of hst (by kernel_rfl), F2, F3, F4, F7, hB, hZ⟩)
     ·have hm := condF hb4 hm
      refine cW_exit ?_
      refine eX_then_exit ?_
      have hq : (some (Ctl.out (Sum.inl l2)) : Option (Ctl (Int × (List (Int))) (Sum ((List (Int))) ((Bool))))) = some _ := hm
      replace hq := someE hq
      subst hq
      refine eX_outX hx1 (fun hr2 => ?_)
      replace hr2 := hr2.symm
      subst hr2
      refine eX_block_hit ?_
      exact eX_J (fun hst => ⟨l2, rfl, Fr.of hst (by kernel_rfl), F5, hB, hZ⟩)
    ·rintro a' w7 ⟨l1, hJ, hF2, F8, hB, hZ⟩
     subst hJ
     refine Fr.goX hF2 (by kernel_rfl) ?_
     refine eX_then ?_
     refine cW_seq ?_
     refine cW_seq ?_
     refine cW_region ?_
     refine wS_pure 1 [(6, .int .i64 (1))] (by kernel_rfl) ?_
     refine wS_end (by rfl) ?_
     refine eX_then ?_
     obtain ⟨r2, hr3, hm⟩ := bindE hm
     have hm2 := hm
     refine cW_cut (fun a' w' => Sum.inl (()) = r2 ∧ Fr 88 [] a' ∧ Chg [] w0 w' ∧ w0.heap.size ≤ w'.heap.size) ?_ ?_
     ·refine cW_block ?_
      refine cW_loop _ (fun (s2 : Int) a' w' => ∃ x10 : Int, x10 = s2 ∧ Fr 88 [(4, .slice (some ⟨b1, 0, none⟩) (l1).length (Int.toNat 13)), (6, .int .i64 (x10))] a' ∧ Ow 1 encI 2 w' [b1] (some ⟨b1, 0, none⟩) (Int.toNat 13) l1 ∧ Chg [] w0 w' ∧ w0.heap.size ≤ w'.heap.size) hr3 (fun hst => ⟨1, rfl, Fr.of hst (by kernel_rfl), F8, hB, hZ⟩) ?_
      rintro _ c2 a' w8 ⟨x10, rfl, hF3, F9, hB, hZ⟩ hx10
      refine Fr.goOn hF3 (by kernel_rfl) ?_
      have hm := hx10
      unfold m_spec_l03Is_bimplChannel_s2 at hm
      refine cW_seq ?_
      refine cW_seq ?_
      refine cW_region ?_
      refine wS_pure 4 [(80, .bool (decide (x10 < (((l1).length : Int))))), (79, .int .i64 (((l1).length : Int))), (78, .slice (some ⟨b1, 0, none⟩) (l1).length (Int.toNat 13)), (77, .int .i64 (x10))] (by kernel_rfl) ?_
      refine wS_end (by rfl) ?_
      refine eX_then ?_
      refine cW_cond (t := decide (x10 < (((l1).length : Int)))) (by kernel_rfl) (fun hb7 => ?_) (fun hb7 => ?_)
      ·have hm := condT hb7 hm
       refine cW_skip ?_
       refine eX_then ?_
       refine cW_seq ?_
       refine cW_block ?_
       refine cW_seq ?_
       refine cW_region ?_
       refine wS_pure 2 [(84, .int .i64 (x10)), (83, .slice (some ⟨b1, 0, none⟩) (l1).length (Int.toNat 13))] (by kernel_rfl) ?_
       obtain ⟨x11, hx11, hm⟩ := bindE hm
       refine wS_idx (d := 85) (T := 24) (A := (some ⟨b1, 0, none⟩)) (n := (l1).length) (cap := (Int.toNat 13)) (kd := .i64) (m := x10) (by kernel_rfl) sl24 ((F9.sl encI_ok).is hx11) ?_
       refine wS_load1 (d := 86) (T := 2) (ad := (elA (some ⟨b1, 0, none⟩) 1 (x10) 0)) (v := .int .i64 (x11)) (by kernel_rfl) vt2 (Sl.cell (F9.sl encI_ok) hx11 0 (by rfl)) ?_
       refine wS_pure 1 [(87, .bool (x11 == 1))] (by kernel_rfl) ?_
       refine wS_end (by rfl) ?_
       refine eX_then ?_
       refine cW_cond (t := x11 == 1) (by kernel_rfl) (fun hb8 => ?_) (fun hb8 => ?_)
       ·have hm := condT hb8 hm
        refine cW_seq ?_
        refine cW_region ?_
        refine wS_pure 1 [(2, .bool (false))] (by kernel_rfl) ?_
        refine wS_end (by rfl) ?_
        refine eX_then ?_
        refine cW_ret ?_
        refine eX_block_ret ?_
        refine eX_then_ret ?_
        have hq : (some (Ctl.out (Sum.inr false)) : Option (Ctl (Int) (Sum (Unit) ((Bool))))) = some _ := hm
        replace hq := someE hq
        subst hq
        refine eX_outR hx10 (fun hr => ?_)
        subst hr
        refine eX_block_ret ?_
        refine eX_then_ret ?_
        refine eX_then_ret ?_
        have hq : (some false : Option ((Bool))) = some _ := hm2
        replace hq := someE hq
        subst hq
        refine eX_ret (vs := [.bool (false)]) [.tmp 2] (by rfl) ⟨by (show lkE _ _ _ = _); kernel_rfl, trivial⟩ ?_
        exact ⟨rfl, hB⟩
       ·have hm := condF hb8 hm
        refine cW_skip ?_
        refine eX_block ?_
        refine eX_then ?_
        refine cW_region ?_
        refine wS_pure 3 [(6, .int .i64 (wr (x10 + 1))), (82, .int .i64 (wr (x10 + 1))), (81, .int .i64 (x10))] (by kernel_rfl) ?_
        refine wS_end (by rfl) ?_
        have hq : (some (Ctl.next (wr (x10 + 1))) : Option (Ctl (Int) (Sum (Unit) ((Bool))))) = some _ := hm
        replace hq := someE hq
        subst hq
        exact eX_next hx10 (fun hst => ⟨wr (x10 + 1), rfl, Fr.of hst (by kernel_rfl), F9, hB, hZ⟩)
      ·have hm := condF hb7 hm
       refine cW_exit ?_
       refine eX_then_exit ?_
       have hq : (some (Ctl.out (Sum.inl (()))) : Option (Ctl (Int) (Sum (Unit) ((Bool))))) = some _ := hm
       replace hq := someE hq
       subst hq
       refine eX_outX hx10 (fun hr4 => ?_)
       replace hr4 := hr4.symm
       subst hr4
       refine eX_block_hit ?_
       exact eX_J (fun hst => ⟨rfl, Fr.of hst (by kernel_rfl), hB, hZ⟩)
     ·rintro a' w9 ⟨hJ, hF4, hB, hZ⟩
      subst hJ
      refine Fr.goX hF4 (by kernel_rfl) ?_
      refine eX_then ?_
      refine cW_seq ?_
      refine cW_region ?_
      refine wS_pure 1 [(2, .bool (true))] (by kernel_rfl) ?_
      refine wS_end (by rfl) ?_
      refine eX_then ?_
      refine cW_ret ?_
      have hq : (some true : Option ((Bool))) = some _ := hm
      replace hq := someE hq
      subst hq
      refine eX_ret (vs := [.bool (true)]) [.tmp 2] (by rfl) ⟨by (show lkE _ _ _ = _); kernel_rfl, trivial⟩ ?_
      exact ⟨rfl, hB⟩

set_option maxRecDepth 100000 in
/-- spec.l03Above -/
theorem c_spec_l03Above_bimplChannel {w0 : World} {l0_0 : List (Int)} {A0_0 : Option Addr} {cap0_0 : Nat} {fp0_0 : List Nat} {l0_1 : List (Int)} {A0_1 : Option Addr} {cap0_1 : Nat} {fp0_1 : List Nat} {b0 : Nat} {p1 : Int} {p2 : Int} {r : (Bool)} (hm : m_spec_l03Above_bimplChannel l0_0 l0_1 p1 p2 = some r) (F0_0 : Sl 1 encI w0 fp0_0 A0_0 l0_0) (F0_1 : Sl 1 encI w0 fp0_1 A0_1 l0_1) (F0 : Cl w0 b0 26 [.slice A0_0 (l0_0).length cap0_0, .slice A0_1 (l0_1).length cap0_1]) :
  Calls Tryd.prog 95 #[.pointer (some ⟨b0, 0, none⟩), .int .i64 (p1), .int .i64 (p2)] w0 fun e w' => e = .returned (.bool (r)) ∧ Chg [] w0 w' := by
 have L0_0 := F0_0.low
 have L0_1 := F0_1.low
 have L0 := lt1 F0.lt
 have hB : Chg [] w0 w0 := Chg.refl _ _
 have hZ := Nat.le_refl w0.heap.size
 unfold m_spec_l03Above_bimplChannel at hm
 refine enterE (N := 61) Tryd.func95 (by rfl) Tryd.ntmps95 (by simp) [(0, .pointer (some ⟨b0, 0, none⟩)), (1, .int .i64 (p1)), (2, .int .i64 (p2))] (by rfl) (by kernel_rfl) (fun a => ?_)
 refine cW_seq ?_
 refine cW_region ?_
 refine wS_pure 1 [(6, .bool (false))] (by kernel_rfl) ?_
 refine wS_end (by rfl) ?_
 refine eX_then ?_
 refine cW_seq ?_
 refine cW_seq ?_
 refine cW_region ?_
 refine wS_pure 4 [(12, .bool (p1 == p2)), (11, .bool (p1 == p2)), (10, .int .i64 (p2)), (9, .int .i64 (p1))] (by kernel_rfl) ?_
 refine wS_bool (p1 == p2) (fun hb1 => ?_) (fun hb1 => ?_)
 ·have hm := condT hb1 hm
  rewrite [hb1]
  refine wS_pure 7 [(19, .bool (true)), (18, undef), (17, undef), (16, .bool (true)), (15, .bool (true)), (14, undef), (13, undef)] (by kernel_rfl) ?_
  refine wS_end (by rfl) ?_
  refine eX_then ?_
  refine cW_cond_t (by kernel_rfl) ?_
  refine cW_seq ?_
  refine cW_region ?_
  refine wS_pure 1 [(6, .bool (false))] (by kernel_rfl) ?_
  refine wS_end (by rfl) ?_
  refine eX_then ?_
  refine cW_ret ?_
  refine eX_then_ret ?_
  have hq : (some false : Option ((Bool))) = some _ := hm
  replace hq := someE hq
  subst hq
  refine eX_ret (vs := [.bool (false)]) [.tmp 6] (by rfl) ⟨by (show lkE _ _ _ = _); kernel_rfl, trivial⟩ ?_
  exact ⟨rfl, hB⟩
 ·have hm := condF hb1 hm
  rewrite [hb1]
  refine wS_pure 4 [(16, .bool (p1 == 0)), (15, .bool (p1 == 0)), (14, .bool (p1 == 0)), (13, .int .i64 (p1))] (by kernel_rfl) ?_
  refine wS_bool (p1 == 0) (fun hb2 => ?_) (fun hb2 => ?_)
  ·have hm := condT hb2 hm
   rewrite [hb2]
   refine wS_pure 3 [(19, .bool (true)), (18, undef), (17, undef)] (by kernel_rfl) ?_
   refine wS_end (by rfl) ?_
   refine eX_then ?_
   refine cW_cond_t (by kernel_rfl) ?_
   refine cW_seq ?_
   refine cW_region ?_
   refine wS_pure 1 [(6, .bool (false))] (by kernel_rfl) ?_
   refine wS_end (by rfl) ?_
   refine eX_then ?_
   refine cW_ret ?_
   refine eX_then_ret ?_
   have hq : (some false : Option ((Bool))) = some _ := hm
   replace hq := someE hq
   subst hq
   refine eX_ret (vs := [.bool (false)]) [.tmp 6] (by rfl) ⟨by (show lkE _ _ _ = _); kernel_rfl, trivial⟩ ?_
   exact ⟨rfl, hB⟩
  ·have hm := condF hb2 hm
   rewrite [hb2]
   refine wS_pure 3 [(19, .bool (p2 == 0)), (18, .bool (p2 == 0)), (17, .int .i64 (p2))] (by kernel_rfl) ?_
   refine wS_end (by rfl) ?_
   refine eX_then ?_
   refine cW_cond (t := p2 == 0) (by kernel_rfl) (fun hb3 => ?_) (fun hb3 => ?_)
   ·have hm := condT hb3 hm
    refine cW_seq ?_
    refine cW_region ?_
    refine wS_pure 1 [(6, .bool (false))] (by kernel_rfl) ?_
    refine wS_end (by rfl) ?_
    refine eX_then ?_
    refine cW_ret ?_
    refine eX_then_ret ?_
    have hq : (some false : Option ((Bool))) = some _ := hm
    replace hq := someE hq
    subst hq
    refine eX_ret (vs := [.bool (false)]) [.tmp 6] (by rfl) ⟨by (show lkE _ _ _ = _); kernel_rfl, trivial⟩ ?_
    exact ⟨rfl, hB⟩
   ·have hm := condF hb3 hm
    refine cW_skip ?_
    refine eX_then ?_
    refine cW_seq ?_
    refine cW_region ?_
    refine wS_pure 1 [(20, .pointer (some ⟨b0, 0, none⟩))] (by kernel_rfl) ?_
    obtain ⟨y1, hy1, hm⟩ := bindE hm
    refine wS_calls (d := 21) (f := 55) (vs := [.pointer (some ⟨b0, 0, none⟩)]) (by kernel_rfl) ent55 (c_spec_l03Nets_bimplChannel hy1 F0_0 F0_1 F0) ?_
    rintro _ w1 ⟨A1, cap1, fp1, rfl, F1, G1, hc1⟩
    replace F0_0 := F0_0.chg hc1 Dj.nil
    replace F0_1 := F0_1.chg hc1 Dj.nil
    replace F0 := F0.chg hc1 notNil
    replace hB := hB.inS hc1 inNil
    replace G1 := low_le hZ G1
    replace hZ := Nat.le_trans hZ hc1.size
    refine ⟨.slice A1 (y1).length cap1, rfl, ?_⟩
    refine wS_pure 1 [(7, .slice A1 (y1).length cap1)] (by kernel_rfl) ?_
    refine wS_end (by rfl) ?_
    refine eX_then ?_
    refine cW_seq ?_
    refine cW_seq ?_
    refine cW_region ?_
    refine wS_pure 2 [(23, .int .i64 (p1)), (22, .slice A1 (y1).length cap1)] (by kernel_rfl) ?_
    obtain ⟨y2, hy2, hm⟩ := bindE hm
    refine wS_calls (d := 24) (f := 121) (vs := [.slice A1 (y1).length cap1, .int .i64 (p1)]) (by kernel_rfl) ent121 (c_spec_l00Has hy2 (F1.sl encI_ok)) ?_
    rintro _ w2 ⟨rfl, hc2⟩
    replace F0_0 := F0_0.chg hc2 Dj.nil
    replace F0_1 := F0_1.chg hc2 Dj.nil
    replace F0 := F0.chg hc2 notNil
    replace F1 := F1.chg hc2 Dj.nil
    replace hB := hB.inS hc2 inNil
    replace hZ := Nat.le_trans hZ hc2.size
    refine ⟨.bool (y2), rfl, ?_⟩
    refine wS_pure 2 [(26, .bool (!y2)), (25, .bool (!y2))] (by kernel_rfl) ?_
    refine wS_bool (!y2) (fun hb4 => ?_) (fun hb4 => ?_)
    ·have hm := condT hb4 hm
     rewrite [hb4]
     refine wS_pure 5 [(31, .bool (true)), (30, undef), (29, undef), (28, undef), (27, undef)] (by kernel_rfl) ?_
     refine wS_end (by rfl) ?_
     refine eX_then ?_
     refine cW_prune [(0, .pointer (some ⟨b0, 0, none⟩)), (1, .int .i64 (p1)), (2, .int .i64 (p2)), (31, .bool (true))] (by kernel_rfl) (by kernel_rfl) (fun a1 => ?_)
     refine cW_cond_t (by kernel_rfl) ?_
     refine cW_seq ?_
     refine cW_region ?_
     refine wS_pure 1 [(6, .bool (false))] (by kernel_rfl) ?_
     refine wS_end (by rfl) ?_
     refine eX_then ?_
     refine cW_ret ?_
     refine eX_then_ret ?_
     have hq : (some false : Option ((Bool))) = some _ := hm
     replace hq := someE hq
     subst hq
     refine eX_ret (vs := [.bool (false)]) [.tmp 6] (by rfl) ⟨by (show lkE _ _ _ = _); kernel_rfl, trivial⟩ ?_
     exact ⟨rfl, hB⟩
    ·have hm := condF hb4 hm
     rewrite [hb4]
     refine wS_pure 2 [(28, .int .i64 (p2)), (27, .slice A1 (y1).length cap1)] (by kernel_rfl) ?_
     obtain ⟨y3, hy3, hm⟩ := bindE hm
     refine wS_calls (d := 29) (f := 121) (vs := [.slice A1 (y1).length cap1, .int .i64 (p2)]) (by kernel_rfl) ent121 (c_spec_l00Has hy3 (F1.sl encI_ok)) ?_
     rintro _ w3 ⟨rfl, hc3⟩
     replace F0_0 := F0_0.chg hc3 Dj.nil
     replace F0_1 := F0_1.chg hc3 Dj.nil
     replace F0 := F0.chg hc3 notNil
     replace F1 := F1.chg hc3 Dj.nil
     replace hB := hB.inS hc3 inNil
     replace hZ := Nat.le_trans hZ hc3.size
     refine ⟨.bool (y3), rfl, ?_⟩
     refine wS_pure 2 [(31, .bool (!y3)), (30, .bool (!y3))] (by kernel_rfl) ?_
     refine wS_end (by rfl) ?_
     refine eX_then ?_
     refine cW_prune [(0, .pointer (some ⟨b0, 0, none⟩)), (1, .int .i64 (p1)), (2, .int .i64 (p2)), (31, .bool (!y3))] (by kernel_rfl) (by kernel_rfl) (fun a2 => ?_)
     refine cW_cond (t := !y3) (by kernel_rfl) (fun hb5 => ?_) (fun hb5 => ?_)
     ·have hm := condT hb5 hm
      refine cW_seq ?_
      refine cW_region ?_
      refine wS_pure 1 [(6, .bool (false))] (by kernel_rfl) ?_
      refine wS_end (by rfl) ?_
      refine eX_then ?_
      refine cW_ret ?_
      refine eX_then_ret ?_
      have hq : (some false : Option ((Bool))) = some _ := hm
      replace hq := someE hq
      subst hq
      refine eX_ret (vs := [.bool (false)]) [.tmp 6] (by rfl) ⟨by (show lkE _ _ _ = _); kernel_rfl, trivial⟩ ?_
      exact ⟨rfl, hB⟩
     ·have hm := condF hb5 hm
      refine cW_skip ?_
      refine eX_then ?_
      refine cW_seq ?_
      refine cW_seq ?_
      refine cW_region ?_
      refine wS_pure 1 [(8, .int .i64 (0))] (by kernel_rfl) ?_
      refine wS_end (by rfl) ?_
      refine eX_then ?_
      obtain ⟨r1, hr1, hm⟩ := bindE hm
      have hm1 := hm
      refine cW_cut (fun a' w' => Sum.inl (()) = r1 ∧ Fr 61 [] a' ∧ Chg [] w0 w' ∧ w0.heap.size ≤ w'.heap.size) ?_ ?_
      ·refine cW_block ?_
       refine cW_loop _ (fun (s1 : Int) a' w' => ∃ x1 : Int, x1 = s1 ∧ Fr 61 [(0, .pointer (some ⟨b0, 0, none⟩)), (1, .int .i64 (p1)), (2, .int .i64 (p2)), (8, .int .i64 (x1))] a' ∧ Sl 1 encI w' fp0_0 A0_0 l0_0 ∧ Sl 1 encI w' fp0_1 A0_1 l0_1 ∧ Cl w' b0 26 [.slice A0_0 (l0_0).length cap0_0, .slice A0_1 (l0_1).length cap0_1] ∧ Chg [] w0 w' ∧ w0.heap.size ≤ w'.heap.size) hr1 (fun hst => ⟨0, rfl, Fr.of hst (by kernel_rfl), F0_0, F0_1, F0, hB, hZ⟩) ?_
       rintro _ c1 a' w4 ⟨x1, rfl, hF1, F2, F3, F4, hB, hZ⟩ hx1
       refine Fr.goOn hF1 (by kernel_rfl) ?_
       have hm := hx1
       unfold m_spec_l03Above_bimplChannel_s1 at hm
       refine cW_seq ?_
       refine cW_seq ?_
       refine cW_region ?_
       refine wS_pure 4 [(35, .pointer (some ⟨b0, 0, none⟩)), (34, .pointer (some ⟨b0, 0, none⟩)), (33, .pointer (some ⟨b0, 0, none⟩)), (32, .int .i64 (x1))] (by kernel_rfl) ?_
       refine wS_load1 (d := 36) (T := 24) (ad := ⟨b0, 0, none⟩) (v := .slice A0_0 (l0_0).length cap0_0) (by kernel_rfl) vt24 ((F4).cell 0) ?_
       refine wS_pure 2 [(38, .bool (decide (x1 < (((l0_0).length : Int))))), (37, .int .i64 (((l0_0).length : Int)))] (by kernel_rfl) ?_
       refine wS_end (by rfl) ?_
       refine eX_then ?_
       refine cW_cond (t := decide (x1 < (((l0_0).length : Int)))) (by kernel_rfl) (fun hb6 => ?_) (fun hb6 => ?_)
       ·have hm := condT hb6 hm
        refine cW_skip ?_
        refine eX_then ?_
        refine cW_seq ?_
        refine cW_block ?_
        refine cW_seq ?_
        refine cW_region ?_
        refine wS_pure 3 [(43, .pointer (some ⟨b0, 0, none⟩)), (42, .pointer (some ⟨b0, 0, none⟩)), (41, .pointer (some ⟨b0, 0, none⟩))] (by kernel_rfl) ?_
        refine wS_load1 (d := 44) (T := 24) (ad := ⟨b0, 0, none⟩) (v := .slice A0_0 (l0_0).length cap0_0) (by kernel_rfl) vt24 ((F4).cell 0) ?_
        refine wS_pure 1 [(45, .int .i64 (x1))] (by kernel_rfl) ?_
        obtain ⟨x2, hx2, hm⟩ := bindE hm
        refine wS_idx (d := 46) (T := 24) (A := A0_0) (n := (l0_0).length) (cap := cap0_0) (kd := .i64) (m := x1) (by kernel_rfl) sl24 (F2.is hx2) ?_
        refine wS_load1 (d := 47) (T := 2) (ad := (elA A0_0 1 (x1) 0)) (v := .int .i64 (x2)) (by kernel_rfl) vt2 (Sl.cell F2 hx2 0 (by rfl)) ?_
        refine wS_pure 3 [(50, .bool (x2 == p1)), (49, .bool (x2 == p1)), (48, .int .i64 (p1))] (by kernel_rfl) ?_
        refine wS_bool (x2 == p1) (fun hb7 => ?_) (fun hb7 => ?_)
        ·have hm := condT hb7 hm
         rewrite [hb7]
         refine wS_pure 3 [(53, .pointer (some ⟨b0, 1, none⟩)), (52, .pointer (some ⟨b0, 0, none⟩)), (51, .pointer (some ⟨b0, 0, none⟩))] (by kernel_rfl) ?_
         refine wS_load1 (d := 54) (T := 24) (ad := ⟨b0, 1, none⟩) (v := .slice A0_1 (l0_1).length cap0_1) (by kernel_rfl) vt24 ((F4).cell 1) ?_
         refine wS_pure 1 [(55, .int .i64 (x1))] (by kernel_rfl) ?_
         obtain ⟨x3, hx3, hm⟩ := bindE hm
         refine wS_idx (d := 56) (T := 24) (A := A0_1) (n := (l0_1).length) (cap := cap0_1) (kd := .i64) (m := x1) (by kernel_rfl) sl24 (F3.is hx3) ?_
         refine wS_load1 (d := 57) (T := 2) (ad := (elA A0_1 1 (x1) 0)) (v := .int .i64 (x3)) (by kernel_rfl) vt2 (Sl.cell F3 hx3 0 (by rfl)) ?_
         refine wS_pure 3 [(60, .bool (x3 == p2)), (59, .bool (x3 == p2)), (58, .int .i64 (p2))] (by kernel_rfl) ?_
         refine wS_end (by rfl) ?_
         refine eX_then ?_
         refine cW_prune [(0, .pointer (some ⟨b0, 0, none⟩)), (1, .int .i64 (p1)), (2, .int .i64 (p2)), (8, .int .i64 (x1)), (60, .bool (x3 == p2))] (by kernel_rfl) (by kernel_rfl) (fun a3 => ?_)
         refine cW_cond (t := x3 == p2) (by kernel_rfl) (fun hb8 => ?_) (fun hb8 => ?_)
         ·have hm := condT hb8 hm
          refine cW_seq ?_
          refine cW_region ?_
          refine wS_pure 1 [(6, .bool (true))] (by kernel_rfl) ?_
          refine wS_end (by rfl) ?_
          refine eX_then ?_
          refine cW_ret ?_
          refine eX_block_ret ?_
          refine eX_then_ret ?_
          have hq : (some (Ctl.out (Sum.inr true)) : Option (Ctl (Int) (Sum (Unit) ((Bool))))) = some _ := hm
          replace hq := someE hq
          subst hq
          refine eX_outR hx1 (fun hr => ?_)
          subst hr
          refine eX_block_ret ?_
          refine eX_then_ret ?_
          refine eX_then_ret ?_
          have hq : (some true : Option ((Bool))) = some _ := hm1
          replace hq := someE hq
          subst hq
          refine eX_ret (vs := [.bool (true)]) [.tmp 6] (by rfl) ⟨by (show lkE _ _ _ = _); kernel_rfl, trivial⟩ ?_
          exact ⟨rfl, hB⟩
         ·have hm := condF hb8 hm
          refine cW_skip ?_
          refine eX_block ?_
          refine eX_then ?_
          refine cW_region ?_
          refine wS_pure 3 [(8, .int .i64 (wr (x1 + 1))), (40, .int .i64 (wr (x1 + 1))), (39, .int .i64 (x1))] (by kernel_rfl) ?_
          refine wS_end (by rfl) ?_
          have hq : (some (Ctl.next (wr (x1 + 1))) : Option (Ctl (Int) (Sum (Unit) ((Bool))))) = some _ := hm
          replace hq := someE hq
          subst hq
          exact eX_next hx1 (fun hst => ⟨wr (x1 + 1), rfl, Fr.of hst (by kernel_rfl), F2, F3, F4, hB, hZ⟩)
        ·have hm := condF hb7 hm
         rewrite [hb7]
         refine wS_pure 10 [(60, .bool (false)), (59, undef), (58, undef), (57, undef), (56, undef), (55, undef), (54, undef), (53, undef), (52, undef), (51, undef)] (by kernel_rfl) ?_
         refine wS_end (by rfl) ?_
         refine eX_then ?_
         refine cW_prune [(0, .pointer (some ⟨b0, 0, none⟩)), (1, .int .i64 (p1)), (2, .int .i64 (p2)), (8, .int .i64 (x1)), (60, .bool (false))] (by kernel_rfl) (by kernel_rfl) (fun a4 => ?_)
         refine cW_cond_f (by kernel_rfl) ?_
         refine cW_skip ?_
         refine eX_block ?_
         refine eX_then ?_
         refine cW_region ?_
         refine wS_pure 3 [(8, .int .i64 (wr (x1 + 1))), (40, .int .i64 (wr (x1 + 1))), (39, .int .i64 (x1))] (by kernel_rfl) ?_
         refine wS_end (by rfl) ?_
         have hq : (some (Ctl.next (wr (x1 + 1))) : Option (Ctl (Int) (Sum (Unit) ((Bool))))) = some _ := hm
         replace hq := someE hq
         subst hq
         exact eX_next hx1 (fun hst => ⟨wr (x1 + 1), rfl, Fr.of hst (by kernel_rfl), F2, F3, F4, hB, hZ⟩)
       ·have hm := condF hb6 hm
        refine cW_exit ?_
        refine eX_then_exit ?_
        have hq : (some (Ctl.out (Sum.inl (()))) : Option (Ctl (Int) (Sum (Unit) ((Bool))))) = some _ := hm
        replace hq := someE hq
        subst hq
        refine eX_outX hx1 (fun hr2 => ?_)
        replace hr2 := hr2.symm
        subst hr2
        refine eX_block_hit ?_
        exact eX_J (fun hst => ⟨rfl, Fr.of hst (by kernel_rfl), hB, hZ⟩)
      ·rintro a' w5 ⟨hJ, hF2, hB, hZ⟩
       subst hJ
       refine Fr.goX hF2 (by kernel_rfl) ?_
       refine eX_then ?_
       refine cW_seq ?_
       refine cW_region ?_
       refine wS_pure 1 [(6, .bool (false))] (by kernel_rfl) ?_
       refine wS_end (by rfl) ?_
       refine eX_then ?_
       refine cW_ret ?_
       have hq : (some false : Option ((Bool))) = some _ := hm
       replace hq := someE hq
       subst hq
       refine eX_ret (vs := [.bool (false)]) [.tmp 6] (by rfl) ⟨by (show lkE _ _ _ = _); kernel_rfl, trivial⟩ ?_
       exact ⟨rfl, hB⟩

set_option maxRecDepth 100000 in
/-- spec.l03OfNets -/
theorem c_spec_l03OfNets_bimplChannel {w0 : World} {l0_0 : List (Int)} {A0_0 : Option Addr} {cap0_0 : Nat} {fp0_0 : List Nat} {l0_1 : List (Int)} {A0_1 : Option Addr} {cap0_1 : Nat} {fp0_1 : List Nat} {b0 : Nat} {r : ((List (Int)) × (List (List (Bool))) × (List (List (Bool))))} (hm : m_spec_l03OfNets_bimplChannel l0_0 l0_1 = some r) (F0_0 : Sl 1 encI w0 fp0_0 A0_0 l0_0) (F0_1 : Sl 1 encI w0 fp0_1 A0_1 l0_1) (F0 : Cl w0 b0 26 [.slice A0_0 (l0_0).length cap0_0, .slice A0_1 (l0_1).length cap0_1]) :
  Calls Tryd.prog 62 #[.pointer (some ⟨b0, 0, none⟩)] w0 fun e w' => ∃ b100, ∃ A100_0 cap100_0 fp100_0, ∃ A100_1 cap100_1 fp100_1 fr100_1, ∃ A100_2 cap100_2 fp100_2 fr100_2, e = .returned (.pointer (some ⟨b100, 0, none⟩)) ∧ Cl w' b100 94 [.slice A100_0 (r.1).length cap100_0, .slice A100_1 (r.2.1).length cap100_1, .slice A100_2 (r.2.2).length cap100_2] ∧ w0.heap.size ≤ b100 ∧ Ow 1 encI 2 w' fp100_0 A100_0 cap100_0 r.1 ∧ (∀ x ∈ fp100_0, w0.heap.size ≤ x) ∧ OwR 1 encB 120 4 w' fp100_1 fr100_1 A100_1 cap100_1 r.2.1 ∧ (∀ x ∈ fp100_1 ++ fr100_1, w0.heap.size ≤ x) ∧ OwR 1 encB 120 4 w' fp100_2 fr100_2 A100_2 cap100_2 r.2.2 ∧ (∀ x ∈ fp100_2 ++ fr100_2, w0.heap.size ≤ x) ∧ Dj [b100] fp100_0 ∧ Dj [b100] (fp100_1 ++ fr100_1) ∧ Dj [b100] (fp100_2 ++ fr100_2) ∧ Dj fp100_0 (fp100_1 ++ fr100_1) ∧ Dj fp100_0 (fp100_2 ++ fr100_2) ∧ Dj (fp100_1 ++ fr100_1) (fp100_2 ++ fr100_2) ∧ Chg [] w0 w' := by
 have L0_0 := F0_0.low
 have L0_1 := F0_1.low
 have L0 := lt1 F0.lt
 have hB : Chg [] w0 w0 := Chg.refl _ _
 have hZ := Nat.le_refl w0.heap.size
 unfold m_spec_l03OfNets_bimplChannel at hm
 refine enterE (N := 108) Tryd.func62 (by rfl) Tryd.ntmps62 (by simp) [(0, .pointer (some ⟨b0, 0, none⟩))] (by rfl) (by kernel_rfl) (fun a => ?_)
 refine cW_seq ?_
 refine cW_region ?_
 refine wS_pure 1 [(2, .pointer none)] (by kernel_rfl) ?_
 refine wS_end (by rfl) ?_
 refine eX_then ?_
 refine cW_seq ?_
 refine cW_region ?_
 refine wS_pure 1 [(15, .pointer (some ⟨b0, 0, none⟩))] (by kernel_rfl) ?_
 obtain ⟨y1, hy1, hm⟩ := bindE hm
 refine wS_calls (d := 16) (f := 55) (vs := [.pointer (some ⟨b0, 0, none⟩)]) (by kernel_rfl) ent55 (c_spec_l03Nets_bimplChannel hy1 F0_0 F0_1 F0) ?_
 rintro _ w1 ⟨A1, cap1, fp1, rfl, F1, G1, hc1⟩
 replace F0_0 := F0_0.chg hc1 Dj.nil
 replace F0_1 := F0_1.chg hc1 Dj.nil
 replace F0 := F0.chg hc1 notNil
 replace hB := hB.inS hc1 inNil
 replace G1 := low_le hZ G1
 replace hZ := Nat.le_trans hZ hc1.size
 refine ⟨.slice A1 (y1).length cap1, rfl, ?_⟩
 refine wS_pure 1 [(3, .slice A1 (y1).length cap1)] (by kernel_rfl) ?_
 refine wS_end (by rfl) ?_
 refine eX_then ?_
 refine cW_seq ?_
 refine cW_region ?_
 refine wS_pure 2 [(18, .agg #[.slice A1 (y1).length cap1, .slice none 0 0, .slice none 0 0]), (17, .slice A1 (y1).length cap1)] (by kernel_rfl) ?_
 refine wS_box (d := 19) (T := 94) (x := .agg #[.slice A1 (y1).length cap1, .slice none 0 0, .slice none 0 0]) (by kernel_rfl) ?_
 intro b1 w2 G2 F2 hc2
 replace F2 : Cl w2 b1 94 [.slice A1 (y1).length cap1, .slice none 0 0, .slice none 0 0] := F2
 have D1 : Dj fp1 [b1] := Dj.of F1.low (low1 G2)
 replace F0_0 := F0_0.chg hc2 Dj.nil
 replace F0_1 := F0_1.chg hc2 Dj.nil
 replace F0 := F0.chg hc2 notNil
 replace F1 := F1.chg hc2 Dj.nil
 replace hB := hB.inS hc2 inNil
 replace G2 := Nat.le_trans hZ G2
 replace hZ := Nat.le_trans hZ hc2.size
 refine wS_pure 1 [(4, .pointer (some ⟨b1, 0, none⟩))] (by kernel_rfl) ?_
 refine wS_end (by rfl) ?_
 refine eX_then ?_
 refine cW_seq ?_
 refine cW_seq ?_
 refine cW_region ?_
 refine wS_pure 1 [(5, .int .i64 (0))] (by kernel_rfl) ?_
 refine wS_end (by rfl) ?_
 refine eX_then ?_
 obtain ⟨r1, hr1, hm⟩ := bindE hm
 have hm1 := hm
 refine cW_cut (fun a' w' => ∃ l1 : List (List (Bool)), ∃ A3 : Option Addr, ∃ cap3 : Nat, ∃ fp2 : List Nat, ∃ fr1 : List Nat, ∃ l2 : List (List (Bool)), ∃ A4 : Option Addr, ∃ cap4 : Nat, ∃ fp3 : List Nat, ∃ fr2 : List Nat, (l1, l2) = r1 ∧ Fr 108 [(4, .pointer (some ⟨b1, 0, none⟩))] a' ∧ Ow 1 encI 2 w' fp1 A1 cap1 y1 ∧ Cl w' b1 94 [.slice A1 (y1).length cap1, .slice A3 (l1).length cap3, .slice A4 (l2).length cap4] ∧ OwR 1 encB 120 4 w' fp2 fr1 A3 cap3 l1 ∧ OwR 1 encB 120 4 w' fp3 fr2 A4 cap4 l2 ∧ (∀ x ∈ (fp2 ++ fr1), w0.heap.size ≤ x) ∧ (∀ x ∈ (fp3 ++ fr2), w0.heap.size ≤ x) ∧ Dj fp1 (fp2 ++ fr1) ∧ Dj [b1] (fp2 ++ fr1) ∧ Dj (fp3 ++ fr2) (fp2 ++ fr1) ∧ Dj fp1 (fp3 ++ fr2) ∧ Dj [b1] (fp3 ++ fr2) ∧ Chg [] w0 w' ∧ w0.heap.size ≤ w'.heap.size) ?_ ?_
 ·refine cW_block ?_
  refine cW_loop _ (fun (s1 : Int × (List (List (Bool))) × (List (List (Bool)))) a' w' => ∃ x1 : Int, ∃ l3 : List (List (Bool)), ∃ A5 : Option Addr, ∃ cap5 : Nat, ∃ fp4 : List Nat, ∃ fr3 : List Nat, ∃ l4 : List (List (Bool)), ∃ A6 : Option Addr, ∃ cap6 : Nat, ∃ fp5 : List Nat, ∃ fr4 : List Nat, (x1, l3, l4) = s1 ∧ Fr 108 [(0, .pointer (some ⟨b0, 0, none⟩)), (3, .slice A1 (y1).length cap1), (4, .pointer (some ⟨b1, 0, none⟩)), (5, .int .i64 (x1))] a' ∧ Sl 1 encI w' fp0_0 A0_0 l0_0 ∧ Sl 1 encI w' fp0_1 A0_1 l0_1 ∧ Cl w' b0 26 [.slice A0_0 (l0_0).length cap0_0, .slice A0_1 (l0_1).length cap0_1] ∧ Ow 1 encI 2 w' fp1 A1 cap1 y1 ∧ Cl w' b1 94 [.slice A1 (y1).length cap1, .slice A5 (l3).length cap5, .slice A6 (l4).length cap6] ∧ OwR 1 encB 120 4 w' fp4 fr3 A5 cap5 l3 ∧ OwR 1 encB 120 4 w' fp5 fr4 A6 cap6 l4 ∧ (∀ x ∈ (fp4 ++ fr3), w0.heap.size ≤ x) ∧ (∀ x ∈ (fp5 ++ fr4), w0.heap.size ≤ x) ∧ Dj fp1 (fp4 ++ fr3) ∧ Dj [b1] (fp4 ++ fr3) ∧ Dj (fp5 ++ fr4) (fp4 ++ fr3) ∧ Dj fp1 (fp5 ++ fr4) ∧ Dj [b1] (fp5 ++ fr4) ∧ Chg [] w0 w' ∧ w0.heap.size ≤ w'.heap.size) hr1 (fun hst => ⟨0, [], none, 0, [], [], [], none, 0, [], [], rfl, Fr.of hst (by kernel_rfl), F0_0, F0_1, F0, F1, F2, OwR.nil _, OwR.nil _, (lowApp lowNil lowNil), (lowApp lowNil lowNil), (Dj.app Dj.nil Dj.nil), (Dj.app Dj.nil Dj.nil), (Dj.app Dj.nil Dj.nil), (Dj.app Dj.nil Dj.nil), (Dj.app Dj.nil Dj.nil), hB, hZ⟩) ?_
  rintro _ c1 a' w3 ⟨x1, l3, A5, cap5, fp4, fr3, l4, A6, cap6, fp5, fr4, rfl, hF1, F3, F4, F5, F6, F7, F8, F9, G3, G4, D2, D3, D4, D5, D6, hB, hZ⟩ hx1
  refine Fr.goOn hF1 (by kernel_rfl) ?_
  have hm := hx1
  unfold m_spec_l03OfNets_bimplChannel_s3 at hm
  refine cW_seq ?_
  refine cW_seq ?_
  refine cW_region ?_
  refine wS_pure 4 [(23, .bool (decide (x1 < (((y1).length : Int))))), (22, .int .i64 (((y1).length : Int))), (21, .slice A1 (y1).length cap1), (20, .int .i64 (x1))] (by kernel_rfl) ?_
  refine wS_end (by rfl) ?_
  refine eX_then ?_
  refine cW_cond (t := decide (x1 < (((y1).length : Int)))) (by kernel_rfl) (fun hb1 => ?_) (fun hb1 => ?_)
  ·have hm := condT hb1 hm
   refine cW_skip ?_
   refine eX_then ?_
   refine cW_seq ?_
   refine cW_block ?_
   refine cW_seq ?_
   refine cW_region ?_
   refine wS_pure 3 [(29, .int .i64 (x1)), (28, .slice A1 (y1).length cap1), (27, .pointer (some ⟨b0, 0, none⟩))] (by kernel_rfl) ?_
   obtain ⟨x2, hx2, hm⟩ := bindE hm
   refine wS_idx (d := 30) (T := 24) (A := A1) (n := (y1).length) (cap := cap1) (kd := .i64) (m := x1) (by kernel_rfl) sl24 ((F6.sl encI_ok).is hx2) ?_
   refine wS_load1 (d := 31) (T := 2) (ad := (elA A1 1 (x1) 0)) (v := .int .i64 (x2)) (by kernel_rfl) vt2 (Sl.cell (F6.sl encI_ok) hx2 0 (by rfl)) ?_
   obtain ⟨y2, hy2, hm⟩ := bindE hm
   refine wS_calls (d := 32) (f := 92) (vs := [.pointer (some ⟨b0, 0, none⟩), .int .i64 (x2)]) (by kernel_rfl) ent92 (c_spec_l03Span_bimplChannel hy2 F3 F4 F5) ?_
   rintro _ w4 ⟨rfl, hc3⟩
   replace F3 := F3.chg hc3 Dj.nil
   replace F4 := F4.chg hc3 Dj.nil
   replace F5 := F5.chg hc3 notNil
   replace F6 := F6.chg hc3 Dj.nil
   replace F7 := F7.chg hc3 notNil
   replace F8 := F8.chg hc3 Dj.nil
   replace F9 := F9.chg hc3 Dj.nil
   replace hB := hB.inS hc3 inNil
   replace hZ := Nat.le_trans hZ hc3.size
   refine ⟨.tuple #[.int .i64 (y2.1), .int .i64 (y2.2.1), .bool (y2.2.2)], rfl, ?_⟩
   refine wS_pure 7 [(8, .bool (y2.2.2)), (7, .int .i64 (y2.2.1)), (6, .int .i64 (y2.1)), (35, .bool (y2.2.2)), (34, .int .i64 (y2.2.1)), (33, .int .i64 (y2.1)), (26, .tuple #[.int .i64 (y2.1), .int .i64 (y2.2.1), .bool (y2.2.2)])] (by kernel_rfl) ?_
   refine wS_end (by rfl) ?_
   refine eX_then ?_
   refine cW_seq ?_
   refine cW_region ?_
   refine wS_pure 2 [(37, .int .i64 (((y1).length : Int))), (36, .slice A1 (y1).length cap1)] (by kernel_rfl) ?_
   obtain ⟨_, hk1, hm⟩ := bindE hm
   replace hk1 := mkE hk1
   refine wS_make (enc := encB) (x0 := (false : Bool)) (d := 38) (t := 120) (T := 4) (k1 := .i64) (k2 := .i64) (m := ((y1).length : Int)) (by kernel_rfl) el120 encB_ok (by rfl) hk1.1 hk1.2 ?_
   intro b2 w5 G5 F10 hc4
   have D7 : Dj fp1 [b2] := Dj.of F6.low (low1 G5)
   have D8 : Dj [b1] [b2] := Dj.of (lt1 F7.lt) (low1 G5)
   have D9 : Dj (fp4 ++ fr3) [b2] := Dj.of F8.low (low1 G5)
   have D10 : Dj (fp5 ++ fr4) [b2] := Dj.of F9.low (low1 G5)
   replace F3 := F3.chg hc4 Dj.nil
   replace F4 := F4.chg hc4 Dj.nil
   replace F5 := F5.chg hc4 notNil
   replace F6 := F6.chg hc4 Dj.nil
   replace F7 := F7.chg hc4 notNil
   replace F8 := F8.chg hc4 Dj.nil
   replace F9 := F9.chg hc4 Dj.nil
   replace hB := hB.inS hc4 inNil
   replace G5 := Nat.le_trans hZ G5
   replace G5 := low1 G5
   replace hZ := Nat.le_trans hZ hc4.size
   refine wS_pure 1 [(9, .slice (some ⟨b2, 0, none⟩) (List.replicate (Int.toNat (((y1).length : Int))) ((false : Bool))).length (Int.toNat (((y1).length : Int))))] (by kernel_rfl) ?_
   refine wS_end (by rfl) ?_
   refine eX_then ?_
   refine cW_prune [(0, .pointer (some ⟨b0, 0, none⟩)), (3, .slice A1 (y1).length cap1), (4, .pointer (some ⟨b1, 0, none⟩)), (5, .int .i64 (x1)), (6, .int .i64 (y2.1)), (7, .int .i64 (y2.2.1)), (9, .slice (some ⟨b2, 0, none⟩) (List.replicate (Int.toNat (((y1).length : Int))) ((false : Bool))).length (Int.toNat (((y1).length : Int))))] (by kernel_rfl) (by kernel_rfl) (fun a1 => ?_)
   refine cW_seq ?_
   refine cW_region ?_
   refine wS_pure 2 [(40, .int .i64 (((y1).length : Int))), (39, .slice A1 (y1).length cap1)] (by kernel_rfl) ?_
   obtain ⟨_, hk2, hm⟩ := bindE hm
   replace hk2 := mkE hk2
   refine wS_make (enc := encB) (x0 := (false : Bool)) (d := 41) (t := 120) (T := 4) (k1 := .i64) (k2 := .i64) (m := ((y1).length : Int)) (by kernel_rfl) el120 encB_ok (by rfl) hk2.1 hk2.2 ?_
   intro b3 w6 G6 F11 hc5
   have D11 : Dj fp1 [b3] := Dj.of F6.low (low1 G6)
   have D12 : Dj [b1] [b3] := Dj.of (lt1 F7.lt) (low1 G6)
   have D13 : Dj (fp4 ++ fr3) [b3] := Dj.of F8.low (low1 G6)
   have D14 : Dj (fp5 ++ fr4) [b3] := Dj.of F9.low (low1 G6)
   have D15 : Dj [b2] [b3] := Dj.of F10.low (low1 G6)
   replace F3 := F3.chg hc5 Dj.nil
   replace F4 := F4.chg hc5 Dj.nil
   replace F5 := F5.chg hc5 notNil
   replace F6 := F6.chg hc5 Dj.nil
   replace F7 := F7.chg hc5 notNil
   replace F8 := F8.chg hc5 Dj.nil
   replace F9 := F9.chg hc5 Dj.nil
   replace F10 := F10.chg hc5 Dj.nil
   replace hB := hB.inS hc5 inNil
   replace G6 := Nat.le_trans hZ G6
   replace G6 := low1 G6
   replace hZ := Nat.le_trans hZ hc5.size
   refine wS_pure 1 [(10, .slice (some ⟨b3, 0, none⟩) (List.replicate (Int.toNat (((y1).length : Int))) ((false : Bool))).length (Int.toNat (((y1).length : Int))))] (by kernel_rfl) ?_
   refine wS_end (by rfl) ?_
   refine eX_then ?_
   refine cW_seq ?_
   refine cW_seq ?_
   refine cW_region ?_
   refine wS_pure 1 [(11, .int .i64 (0))] (by kernel_rfl) ?_
   refine wS_end (by rfl) ?_
   refine eX_then ?_
   obtain ⟨r2, hr2, hm⟩ := bindE hm
   have hm2 := hm
   refine cW_cut (fun a' w' => ∃ l5 : List (Bool), ∃ l6 : List (Bool), (l5, l6) = r2 ∧ Fr 108 [(0, .pointer (some ⟨b0, 0, none⟩)), (3, .slice A1 (y1).length cap1), (4, .pointer (some ⟨b1, 0, none⟩)), (5, .int .i64 (x1)), (9, .slice (some ⟨b2, 0, none⟩) (l5).length (Int.toNat (((y1).length : Int)))), (10, .slice (some ⟨b3, 0, none⟩) (l6).length (Int.toNat (((y1).length : Int))))] a' ∧ Sl 1 encI w' fp0_0 A0_0 l0_0 ∧ Sl 1 encI w' fp0_1 A0_1 l0_1 ∧ Cl w' b0 26 [.slice A0_0 (l0_0).length cap0_0, .slice A0_1 (l0_1).length cap0_1] ∧ Ow 1 encI 2 w' fp1 A1 cap1 y1 ∧ Cl w' b1 94 [.slice A1 (y1).length cap1, .slice A5 (l3).length cap5, .slice A6 (l4).length cap6] ∧ OwR 1 encB 120 4 w' fp4 fr3 A5 cap5 l3 ∧ OwR 1 encB 120 4 w' fp5 fr4 A6 cap6 l4 ∧ Ow 1 encB 4 w' [b2] (some ⟨b2, 0, none⟩) (Int.toNat (((y1).length : Int))) l5 ∧ Ow 1 encB 4 w' [b3] (some ⟨b3, 0, none⟩) (Int.toNat (((y1).length : Int))) l6 ∧ Chg [] w0 w' ∧ w0.heap.size ≤ w'.heap.size) ?_ ?_
   ·refine cW_block ?_
    refine cW_loop _ (fun (s2 : Int × (List (Bool)) × (List (Bool))) a' w' => ∃ x3 : Int, ∃ l7 : List (Bool), ∃ l8 : List (Bool), (x3, l7, l8) = s2 ∧ Fr 108 [(0, .pointer (some ⟨b0, 0, none⟩)), (3, .slice A1 (y1).length cap1), (4, .pointer (some ⟨b1, 0, none⟩)), (5, .int .i64 (x1)), (6, .int .i64 (y2.1)), (7, .int .i64 (y2.2.1)), (9, .slice (some ⟨b2, 0, none⟩) (l7).length (Int.toNat (((y1).length : Int)))), (10, .slice (some ⟨b3, 0, none⟩) (l8).length (Int.toNat (((y1).length : Int)))), (11, .int .i64 (x3))] a' ∧ Sl 1 encI w' fp0_0 A0_0 l0_0 ∧ Sl 1 encI w' fp0_1 A0_1 l0_1 ∧ Cl w' b0 26 [.slice A0_0 (l0_0).length cap0_0, .slice A0_1 (l0_1).length cap0_1] ∧ Ow 1 encI 2 w' fp1 A1 cap1 y1 ∧ Cl w' b1 94 [.slice A1 (y1).length cap1, .slice A5 (l3).length cap5, .slice A6 (l4).length cap6] ∧ OwR 1 encB 120 4 w' fp4 fr3 A5 cap5 l3 ∧ OwR 1 encB 120 4 w' fp5 fr4 A6 cap6 l4 ∧ Ow 1 encB 4 w' [b2] (some ⟨b2, 0, none⟩) (Int.toNat (((y1).length : Int))) l7 ∧ Ow 1 encB 4 w' [b3] (some ⟨b3, 0, none⟩) (Int.toNat (((y1).length : Int))) l8 ∧ Chg [] w0 w' ∧ w0.heap.size ≤ w'.heap.size) hr2 (fun hst => ⟨0, List.replicate (Int.toNat (((y1).length : Int))) ((false : Bool)), List.replicate (Int.toNat (((y1).length : Int))) ((false : Bool)), rfl, Fr.of hst (by kernel_rfl), F3, F4, F5, F6, F7, F8, F9, F10, F11, hB, hZ⟩) ?_
    rintro _ c2 a' w7 ⟨x3, l7, l8, rfl, hF2, F12, F13, F14, F15, F16, F17, F18, F19, F20, hB, hZ⟩ hx3
    refine Fr.goOn hF2 (by kernel_rfl) ?_
    have hm := hx3
    unfold m_spec_l03OfNets_bimplChannel_s4 at hm
    refine cW_seq ?_
    refine cW_seq ?_
    refine cW_region ?_
    refine wS_pure 4 [(45, .bool (decide (x3 < (((y1).length : Int))))), (44, .int .i64 (((y1).length : Int))), (43, .slice A1 (y1).length cap1), (42, .int .i64 (x3))] (by kernel_rfl) ?_
    refine wS_end (by rfl) ?_
    refine eX_then ?_
    refine cW_cond (t := decide (x3 < (((y1).length : Int)))) (by kernel_rfl) (fun hb2 => ?_) (fun hb2 => ?_)
    ·have hm := condT hb2 hm
     refine cW_skip ?_
     refine eX_then ?_
     refine cW_seq ?_
     refine cW_block ?_
     refine cW_seq ?_
     refine cW_region ?_
     refine wS_pure 3 [(51, .int .i64 (x3)), (50, .slice A1 (y1).length cap1), (49, .pointer (some ⟨b0, 0, none⟩))] (by kernel_rfl) ?_
     obtain ⟨x4, hx4, hm⟩ := bindE hm
     refine wS_idx (d := 52) (T := 24) (A := A1) (n := (y1).length) (cap := cap1) (kd := .i64) (m := x3) (by kernel_rfl) sl24 ((F15.sl encI_ok).is hx4) ?_
     refine wS_load1 (d := 53) (T := 2) (ad := (elA A1 1 (x3) 0)) (v := .int .i64 (x4)) (by kernel_rfl) vt2 (Sl.cell (F15.sl encI_ok) hx4 0 (by rfl)) ?_
     obtain ⟨y3, hy3, hm⟩ := bindE hm
     refine wS_calls (d := 54) (f := 92) (vs := [.pointer (some ⟨b0, 0, none⟩), .int .i64 (x4)]) (by kernel_rfl) ent92 (c_spec_l03Span_bimplChannel hy3 F12 F13 F14) ?_
     rintro _ w8 ⟨rfl, hc6⟩
     replace F12 := F12.chg hc6 Dj.nil
     replace F13 := F13.chg hc6 Dj.nil
     replace F14 := F14.chg hc6 notNil
     replace F15 := F15.chg hc6 Dj.nil
     replace F16 := F16.chg hc6 notNil
     replace F17 := F17.chg hc6 Dj.nil
     replace F18 := F18.chg hc6 Dj.nil
     replace F19 := F19.chg hc6 Dj.nil
     replace F20 := F20.chg hc6 Dj.nil
     replace hB := hB.inS hc6 inNil
     replace hZ := Nat.le_trans hZ hc6.size
     refine ⟨.tuple #[.int .i64 (y3.1), .int .i64 (y3.2.1), .bool (y3.2.2)], rfl, ?_⟩
     refine wS_pure 7 [(14, .bool (y3.2.2)), (13, .int .i64 (y3.2.1)), (12, .int .i64 (y3.1)), (57, .bool (y3.2.2)), (56, .int .i64 (y3.2.1)), (55, .int .i64 (y3.1)), (48, .tuple #[.int .i64 (y3.1), .int .i64 (y3.2.1), .bool (y3.2.2)])] (by kernel_rfl) ?_
     refine wS_end (by rfl) ?_
     refine eX_then ?_
     refine cW_prune [(0, .pointer (some ⟨b0, 0, none⟩)), (3, .slice A1 (y1).length cap1), (4, .pointer (some ⟨b1, 0, none⟩)), (5, .int .i64 (x1)), (6, .int .i64 (y2.1)), (7, .int .i64 (y2.2.1)), (9, .slice (some ⟨b2, 0, none⟩) (l7).length (Int.toNat (((y1).length : Int)))), (10, .slice (some ⟨b3, 0, none⟩) (l8).length (Int.toNat (((y1).length : Int)))), (11, .int .i64 (x3)), (12, .int .i64 (y3.1)), (13, .int .i64 (y3.2.1))] (by kernel_rfl) (by kernel_rfl) (fun a2 => ?_)
     refine cW_seq ?_
     refine cW_region ?_
     refine wS_pure 6 [(63, .bool (x1 != x3)), (62, .bool (x1 != x3)), (61, .int .i64 (x3)), (60, .int .i64 (x1)), (59, .int .i64 (x3)), (58, .slice (some ⟨b2, 0, none⟩) (l7).length (Int.toNat (((y1).length : Int))))] (by kernel_rfl) ?_
     refine wS_bool (x1 != x3) (fun hb3 => ?_) (fun hb3 => ?_)
     ·have hm := condT hb3 hm
      rewrite [hb3]
      refine wS_pure 5 [(68, .bool (decide (y2.1 ≤ y3.2.1))), (67, .bool (decide (y2.1 ≤ y3.2.1))), (66, .bool (decide (y2.1 ≤ y3.2.1))), (65, .int .i64 (y3.2.1)), (64, .int .i64 (y2.1))] (by kernel_rfl) ?_
      refine wS_bool (decide (y2.1 ≤ y3.2.1)) (fun hb4 => ?_) (fun hb4 => ?_)
      ·have hm := condT hb4 hm
       rewrite [hb4]
       refine wS_pure 4 [(72, .bool (decide (y3.1 ≤ y2.2.1))), (71, .bool (decide (y3.1 ≤ y2.2.1))), (70, .int .i64 (y2.2.1)), (69, .int .i64 (y3.1))] (by kernel_rfl) ?_
       obtain ⟨x5, hx5, hm⟩ := bindE hm
       refine wS_idx (d := 73) (T := 120) (A := (some ⟨b2, 0, none⟩)) (n := (l7).length) (cap := (Int.toNat (((y1).length : Int)))) (kd := .i64) (m := x3) (by kernel_rfl) sl120 ((F19.sl encB_ok).is hx5) ?_
       refine wS_storeEl (x := x5) (decide (y3.1 ≤ y2.2.1)) (T := 4) (U := 4) (cap := (Int.toNat (((y1).length : Int)))) (j := 0) (A := (some ⟨b2, 0, none⟩)) (v := .bool (decide (y3.1 ≤ y2.2.1))) (vs := [.bool (decide (y3.1 ≤ y2.2.1))]) (m := x3) (by kernel_rfl) (by rfl) sz4 (by rfl) encB_ok F19 hx5 (by simp only [List.length_cons, List.length_nil]; omega) (by rfl) ?_
       intro w9 F21 hc7
       replace F12 := F12.chg hc7 (Dj.of L0_0 G5)
       replace F13 := F13.chg hc7 (Dj.of L0_1 G5)
       replace F14 := F14.chg hc7 (dj1 (Dj.of L0 G5))
       replace F15 := F15.chg hc7 D7
       replace F16 := F16.chg hc7 (dj1 D8)
       replace F17 := F17.chg hc7 D9
       replace F18 := F18.chg hc7 D10
       replace F20 := F20.chg hc7 (D15).symm
       replace hB := hB.inS hc7 (inLow G5)
       replace hZ := Nat.le_trans hZ hc7.size
       clear F19
       rewrite [show (l7).length = (l7.set (Int.toNat x3) (decide (y3.1 ≤ y2.2.1))).length from (List.length_set ..).symm]
       refine wS_end (by rfl) ?_
       refine eX_then ?_
       refine cW_prune [(0, .pointer (some ⟨b0, 0, none⟩)), (3, .slice A1 (y1).length cap1), (4, .pointer (some ⟨b1, 0, none⟩)), (5, .int .i64 (x1)), (6, .int .i64 (y2.1)), (7, .int .i64 (y2.2.1)), (9, .slice (some ⟨b2, 0, none⟩) (l7.set (Int.toNat x3) (decide (y3.1 ≤ y2.2.1))).length (Int.toNat (((y1).length : Int)))), (10, .slice (some ⟨b3, 0, none⟩) (l8).length (Int.toNat (((y1).length : Int)))), (11, .int .i64 (x3))] (by kernel_rfl) (by kernel_rfl) (fun a3 => ?_)
       refine cW_drawnTail [] 12 (by kernel_rfl) (by kernel_rfl) (fun w10 hc8 => ?_)
       replace F12 := F12.chg hc8 Dj.nil
       replace F13 := F13.chg hc8 Dj.nil
       replace F14 := F14.chg hc8 notNil
       replace F15 := F15.chg hc8 Dj.nil
       replace F16 := F16.chg hc8 notNil
       replace F17 := F17.chg hc8 Dj.nil
       replace F18 := F18.chg hc8 Dj.nil
       replace F21 := F21.chg hc8 Dj.nil
       replace F20 := F20.chg hc8 Dj.nil
       replace hB := hB.inS hc8 inNil
       replace hZ := Nat.le_trans hZ hc8.size
       have hS := Chg.refl [] w10
       have Z1 := F12
       have Z2 := F13
       have Z3 := F14
       have Z4 := F15
       have Z5 := F16
       have Z6 := F17
       have Z7 := F18
       have Z8 := F21
       have Z9 := F20
       refine wH_take [0, 1, 2, 3, 4] [4, 3, 2, 1, 0] [(78, .int .i64 (x1)), (77, .slice A1 (y1).length cap1), (76, .pointer (some ⟨b0, 0, none⟩)), (75, .int .i64 (x3)), (74, .slice (some ⟨b3, 0, none⟩) (l8).length (Int.toNat (((y1).length : Int))))] (by kernel_rfl) (qT (qB (qT (qL (qB (qT (qT (qB (qT (qL (qB (qT (qT qZ))))))))))))) (by kernel_rfl) ?_
       obtain ⟨x6, hx6, hm⟩ := bindE hm
       refine wH_idx (i := 5) (d := 79) (T := 24) (A := A1) (n := (y1).length) (cap := cap1) (kd := .i64) (m := x1) (by kernel_rfl) (qT (qB (qT (qL (qB (qT (qT (qB (qT (qL (qB (qT (qT qZ))))))))))))) (by kernel_rfl) (by kernel_rfl) sl24 ((F15.sl encI_ok).is hx6) ?_
       refine wH_load1 (i := 6) (d := 80) (T := 2) (ad := (elA A1 1 (x1) 0)) (v := .int .i64 (x6)) (by kernel_rfl) (qT (qB (qT (qL (qB (qT (qT (qB (qT (qL (qB (qT (qT qZ))))))))))))) (by kernel_rfl) (by kernel_rfl) vt2 (fun W hW => Sl.cell ((Z4.chg hW Dj.nil).sl encI_ok) hx6 0 (by rfl)) ?_
       refine wH_take [7, 8] [8, 7, 6, 5, 4, 3, 2, 1, 0] [(82, .int .i64 (x3)), (81, .slice A1 (y1).length cap1)] (by kernel_rfl) (qT (qB (qT (qL (qB (qT (qT (qB (qT (qL (qB (qT (qT qZ))))))))))))) (by kernel_rfl) ?_
       obtain ⟨x7, hx7, hm⟩ := bindE hm
       refine wH_idx (i := 9) (d := 83) (T := 24) (A := A1) (n := (y1).length) (cap := cap1) (kd := .i64) (m := x3) (by kernel_rfl) (qT (qB (qT (qL (qB (qT (qT (qB (qT (qL (qB (qT (qT qZ))))))))))))) (by kernel_rfl) (by kernel_rfl) sl24 ((F15.sl encI_ok).is hx7) ?_
       refine wH_load1 (i := 10) (d := 84) (T := 2) (ad := (elA A1 1 (x3) 0)) (v := .int .i64 (x7)) (by kernel_rfl) (qT (qB (qT (qL (qB (qT (qT (qB (qT (qL (qB (qT (qT qZ))))))))))))) (by kernel_rfl) (by kernel_rfl) vt2 (fun W hW => Sl.cell ((Z4.chg hW Dj.nil).sl encI_ok) hx7 0 (by rfl)) ?_
       refine wH_all [11] (by rfl) (by kernel_rfl) (by simp) ⟨⟨by kernel_rfl, ?_⟩, trivial⟩
       obtain ⟨y4, hy4, hm⟩ := bindE hm
       refine wS_calls (d := 85) (f := 95) (vs := [.pointer (some ⟨b0, 0, none⟩), .int .i64 (x6), .int .i64 (x7)]) (by kernel_rfl) ent95 (c_spec_l03Above_bimplChannel hy4 F12 F13 F14) ?_
       rintro _ w11 ⟨rfl, hc9⟩
       replace F12 := F12.chg hc9 Dj.nil
       replace F13 := F13.chg hc9 Dj.nil
       replace F14 := F14.chg hc9 notNil
       replace F15 := F15.chg hc9 Dj.nil
       replace F16 := F16.chg hc9 notNil
       replace F17 := F17.chg hc9 Dj.nil
       replace F18 := F18.chg hc9 Dj.nil
       replace F21 := F21.chg hc9 Dj.nil
       replace F20 := F20.chg hc9 Dj.nil
       replace hB := hB.inS hc9 inNil
       have hSz := hS
       replace hS := hS.inS hc9 inNil
       replace hZ := Nat.le_trans hZ hc9.size
       refine ⟨.bool (y4), rfl, ?_⟩
       refine wS_end (by kernel_rfl) ?_
       refine eX_KH hS ?_
       refine wH_done (by kernel_rfl) ?_
       refine eX_tail ?_
       obtain ⟨x8, hx8, hm⟩ := bindE hm
       refine wS_idx (d := 86) (T := 120) (A := (some ⟨b3, 0, none⟩)) (n := (l8).length) (cap := (Int.toNat (((y1).length : Int)))) (kd := .i64) (m := x3) (by kernel_rfl) sl120 ((F20.sl encB_ok).is hx8) ?_
       refine wS_storeEl (x := x8) y4 (T := 4) (U := 4) (cap := (Int.toNat (((y1).length : Int)))) (j := 0) (A := (some ⟨b3, 0, none⟩)) (v := .bool (y4)) (vs := [.bool (y4)]) (m := x3) (by kernel_rfl) (by rfl) sz4 (by rfl) encB_ok F20 hx8 (by simp only [List.length_cons, List.length_nil]; omega) (by rfl) ?_
       intro w12 F22 hc10
       replace F12 := F12.chg hc10 (Dj.of L0_0 G6)
       replace F13 := F13.chg hc10 (Dj.of L0_1 G6)
       replace F14 := F14.chg hc10 (dj1 (Dj.of L0 G6))
       replace F15 := F15.chg hc10 D11
       replace F16 := F16.chg hc10 (dj1 D12)
       replace F17 := F17.chg hc10 D13
       replace F18 := F18.chg hc10 D14
       replace F21 := F21.chg hc10 D15
       replace hB := hB.inS hc10 (inLow G6)
       replace hZ := Nat.le_trans hZ hc10.size
       clear F20
       rewrite [show (l8).length = (l8.set (Int.toNat x3) y4).length from (List.length_set ..).symm]
       refine wS_end (by rfl) ?_
       refine eX_block ?_
       refine eX_then ?_
       refine cW_region ?_
       refine wS_pure 3 [(11, .int .i64 (wr (x3 + 1))), (47, .int .i64 (wr (x3 + 1))), (46, .int .i64 (x3))] (by kernel_rfl) ?_
       refine wS_end (by rfl) ?_
       have hq : (some (Ctl.next ((wr (x3 + 1), l7.set (Int.toNat x3) (decide (y3.1 ≤ y2.2.1)), l8.set (Int.toNat x3) y4))) : Option (Ctl (Int × (List (Bool)) × (List (Bool))) ((List (Bool)) × (List (Bool))))) = some _ := hm
       replace hq := someE hq
       subst hq
       exact eX_next hx3 (fun hst => ⟨wr (x3 + 1), l7.set (Int.toNat x3) (decide (y3.1 ≤ y2.2.1)), l8.set (Int.toNat x3) y4, rfl, Fr.of hst (by kernel_rfl), F12, F13, F14, F15, F16, F17, F18, F21, F22, hB, hZ⟩)
      ·have hm := condF hb4 hm
       rewrite [hb4]
       refine wS_pure 4 [(72, .bool (false)), (71, undef), (70, undef), (69, undef)] (by kernel_rfl) ?_
       obtain ⟨x9, hx9, hm⟩ := bindE hm
       refine wS_idx (d := 73) (T := 120) (A := (some ⟨b2, 0, none⟩)) (n := (l7).length) (cap := (Int.toNat (((y1).length : Int)))) (kd := .i64) (m := x3) (by kernel_rfl) sl120 ((F19.sl encB_ok).is hx9) ?_
       refine wS_storeEl (x := x9) false (T := 4) (U := 4) (cap := (Int.toNat (((y1).length : Int)))) (j := 0) (A := (some ⟨b2, 0, none⟩)) (v := .bool (false)) (vs := [.bool (false)]) (m := x3) (by kernel_rfl) (by rfl) sz4 (by rfl) encB_ok F19 hx9 (by simp only [List.length_cons, List.length_nil]; omega) (by rfl) ?_
       intro w13 F23 hc11
       replace F12 := F12.chg hc11 (Dj.of L0_0 G5)
       replace F13 := F13.chg hc11 (Dj.of L0_1 G5)
       replace F14 := F14.chg hc11 (dj1 (Dj.of L0 G5))
       replace F15 := F15.chg hc11 D7
       replace F16 := F16.chg hc11 (dj1 D8)
       replace F17 := F17.chg hc11 D9
       replace F18 := F18.chg hc11 D10
       replace F20 := F20.chg hc11 (D15).symm
       replace hB := hB.inS hc11 (inLow G5)
       replace hZ := Nat.le_trans hZ hc11.size
       clear F19
       rewrite [show (l7).length = (l7.set (Int.toNat x3) false).length from (List.length_set ..).symm]
       refine wS_end (by rfl) ?_
       refine eX_then ?_
       refine cW_prune [(0, .pointer (some ⟨b0, 0, none⟩)), (3, .slice A1 (y1).length cap1), (4, .pointer (some ⟨b1, 0, none⟩)), (5, .int .i64 (x1)), (6, .int .i64 (y2.1)), (7, .int .i64 (y2.2.1)), (9, .slice (some ⟨b2, 0, none⟩) (l7.set (Int.toNat x3) false).length (Int.toNat (((y1).length : Int)))), (10, .slice (some ⟨b3, 0, none⟩) (l8).length (Int.toNat (((y1).length : Int)))), (11, .int .i64 (x3))] (by kernel_rfl) (by kernel_rfl) (fun a4 => ?_)
       refine cW_drawnTail [] 12 (by kernel_rfl) (by kernel_rfl) (fun w14 hc12 => ?_)
       replace F12 := F12.chg hc12 Dj.nil
       replace F13 := F13.chg hc12 Dj.nil
       replace F14 := F14.chg hc12 notNil
       replace F15 := F15.chg hc12 Dj.nil
       replace F16 := F16.chg hc12 notNil
       replace F17 := F17.chg hc12 Dj.nil
       replace F18 := F18.chg hc12 Dj.nil
       replace F23 := F23.chg hc12 Dj.nil
       replace F20 := F20.chg hc12 Dj.nil
       replace hB := hB.inS hc12 inNil
       replace hZ := Nat.le_trans hZ hc12.size
       have hS := Chg.refl [] w14
       have Z10 := F12
       have Z11 := F13
       have Z12 := F14
       have Z13 := F15
       have Z14 := F16
       have Z15 := F17
       have Z16 := F18
       have Z17 := F23
       have Z18 := F20
       refine wH_take [0, 1, 2, 3, 4] [4, 3, 2, 1, 0] [(78, .int .i64 (x1)), (77, .slice A1 (y1).length cap1), (76, .pointer (some ⟨b0, 0, none⟩)), (75, .int .i64 (x3)), (74, .slice (some ⟨b3, 0, none⟩) (l8).length (Int.toNat (((y1).length : Int))))] (by kernel_rfl) (qT (qB (qT (qL (qB (qT (qT (qB (qT (qL (qB (qT (qT qZ))))))))))))) (by kernel_rfl) ?_
       obtain ⟨x10, hx10, hm⟩ := bindE hm
       refine wH_idx (i := 5) (d := 79) (T := 24) (A := A1) (n := (y1).length) (cap := cap1) (kd := .i64) (m := x1) (by kernel_rfl) (qT (qB (qT (qL (qB (qT (qT (qB (qT (qL (qB (qT (qT qZ))))))))))))) (by kernel_rfl) (by kernel_rfl) sl24 ((F15.sl encI_ok).is hx10) ?_
       refine wH_load1 (i := 6) (d := 80) (T := 2) (ad := (elA A1 1 (x1) 0)) (v := .int .i64 (x10)) (by kernel_rfl) (qT (qB (qT (qL (qB (qT (qT (qB (qT (qL (qB (qT (qT qZ))))))))))))) (by kernel_rfl) (by kernel_rfl) vt2 (fun W hW => Sl.cell ((Z13.chg hW Dj.nil).sl encI_ok) hx10 0 (by rfl)) ?_
       refine wH_take [7, 8] [8, 7, 6, 5, 4, 3, 2, 1, 0] [(82, .int .i64 (x3)), (81, .slice A1 (y1).length cap1)] (by kernel_rfl) (qT (qB (qT (qL (qB (qT (qT (qB (qT (qL (qB (qT (qT qZ))))))))))))) (by kernel_rfl) ?_
       obtain ⟨x11, hx11, hm⟩ := bindE hm
       refine wH_idx (i := 9) (d := 83) (T := 24) (A := A1) (n := (y1).length) (cap := cap1) (kd := .i64) (m := x3) (by kernel_rfl) (qT (qB (qT (qL (qB (qT (qT (qB (qT (qL (qB (qT (qT qZ))))))))))))) (by kernel_rfl) (by kernel_rfl) sl24 ((F15.sl encI_ok).is hx11) ?_
       refine wH_load1 (i := 10) (d := 84) (T := 2) (ad := (elA A1 1 (x3) 0)) (v := .int .i64 (x11)) (by kernel_rfl) (qT (qB (qT (qL (qB (qT (qT (qB (qT (qL (qB (qT (qT qZ))))))))))))) (by kernel_rfl) (by kernel_rfl) vt2 (fun W hW => Sl.cell ((Z13.chg hW Dj.nil).sl encI_ok) hx11 0 (by rfl)) ?_
       refine wH_all [11] (by rfl) (by kernel_rfl) (by simp) ⟨⟨by kernel_rfl, ?_⟩, trivial⟩
       obtain ⟨y5, hy5, hm⟩ := bindE hm
       refine wS_calls (d := 85) (f := 95) (vs := [.pointer (some ⟨b0, 0, none⟩), .int .i64 (x10), .int .i64 (x11)]) (by kernel_rfl) ent95 (c_spec_l03Above_bimplChannel hy5 F12 F13 F14) ?_
       rintro _ w15 ⟨rfl, hc13⟩
       replace F12 := F12.chg hc13 Dj.nil
       replace F13 := F13.chg hc13 Dj.nil
       replace F14 := F14.chg hc13 notNil
       replace F15 := F15.chg hc13 Dj.nil
       replace F16 := F16.chg hc13 notNil
       replace F17 := F17.chg hc13 Dj.nil
       replace F18 := F18.chg hc13 Dj.nil
       replace F23 := F23.chg hc13 Dj.nil
       replace F20 := F20.chg hc13 Dj.nil
       replace hB := hB.inS hc13 inNil
       have hSz := hS
       replace hS := hS.inS hc13 inNil
       replace hZ := Nat.le_trans hZ hc13.size
       refine ⟨.bool (y5), rfl, ?_⟩
       refine wS_end (by kernel_rfl) ?_
       refine eX_KH hS ?_
       refine wH_done (by kernel_rfl) ?_
       refine eX_tail ?_
       obtain ⟨x12, hx12, hm⟩ := bindE hm
       refine wS_idx (d := 86) (T := 120) (A := (some ⟨b3, 0, none⟩)) (n := (l8).length) (cap := (Int.toNat (((y1).length : Int)))) (kd := .i64) (m := x3) (by kernel_rfl) sl120 ((F20.sl encB_ok).is hx12) ?_
       refine wS_storeEl (x := x12) y5 (T := 4) (U := 4) (cap := (Int.toNat (((y1).length : Int)))) (j := 0) (A := (some ⟨b3, 0, none⟩)) (v := .bool (y5)) (vs := [.bool (y5)]) (m := x3) (by kernel_rfl) (by rfl) sz4 (by rfl) encB_ok F20 hx12 (by simp only [List.length_cons, List.length_nil]; omega) (by rfl) ?_
       intro w16 F24 hc14
       replace F12 := F12.chg hc14 (Dj.of L0_0 G6)
       replace F13 := F13.chg hc14 (Dj.of L0_1 G6)
       replace F14 := F14.chg hc14 (dj1 (Dj.of L0 G6))
       replace F15 := F15.chg hc14 D11
       replace F16 := F16.chg hc14 (dj1 D12)
       replace F17 := F17.chg hc14 D13
       replace F18 := F18.chg hc14 D14
       replace F23 := F23.chg hc14 D15
       replace hB := hB.inS hc14 (inLow G6)
       replace hZ := Nat.le_trans hZ hc14.size
       clear F20
       rewrite [show (l8).length = (l8.set (Int.toNat x3) y5).length from (List.length_set ..).symm]
       refine wS_end (by rfl) ?_
       refine eX_block ?_
       refine eX_then ?_
       refine cW_region ?_
       refine wS_pure 3 [(11, .int .i64 (wr (x3 + 1))), (47, .int .i64 (wr (x3 + 1))), (46, .int .i64 (x3))] (by kernel_rfl) ?_
       refine wS_end (by rfl) ?_
       have hq : (some (Ctl.next ((wr (x3 + 1), l7.set (Int.toNat x3) false, l8.set (Int.toNat x3) y5))) : Option (Ctl (Int × (List (Bool)) × (List (Bool))) ((List (Bool)) × (List (Bool))))) = some _ := hm
       replace hq := someE hq
       subst hq
       exact eX_next hx3 (fun hst => ⟨wr (x3 + 1), l7.set (Int.toNat x3) false, l8.set (Int.toNat x3) y5, rfl, Fr.of hst (by kernel_rfl), F12, F13, F14, F15, F16, F17, F18, F23, F24, hB, hZ⟩)
     ·have hm := condF hb3 hm
      rewrite [hb3]
      refine wS_pure 9 [(72, .bool (false)), (71, undef), (70, undef), (69, undef), (68, .bool (false)), (67, .bool (false)), (66, undef), (65, undef), (64, undef)] (by kernel_rfl) ?_
      obtain ⟨x13, hx13, hm⟩ := bindE hm
      refine wS_idx (d := 73) (T := 120) (A := (some ⟨b2, 0, none⟩)) (n := (l7).length) (cap := (Int.toNat (((y1).length : Int)))) (kd := .i64) (m := x3) (by kernel_rfl) sl120 ((F19.sl encB_ok).is hx13) ?_
      refine wS_storeEl (x := x13) false (T := 4) (U := 4) (cap := (Int.toNat (((y1).length : Int)))) (j := 0) (A := (some ⟨b2, 0, none⟩)) (v := .bool (false)) (vs := [.bool (false)]) (m := x3) (by kernel_rfl) (by rfl) sz4 (by rfl) encB_ok F19 hx13 (by simp only [List.length_cons, List.length_nil]; omega) (by rfl) ?_
      intro w17 F25 hc15
      replace F12 := F12.chg hc15 (Dj.of L0_0 G5)
      replace F13 := F13.chg hc15 (Dj.of L0_1 G5)
      replace F14 := F14.chg hc15 (dj1 (Dj.of L0 G5))
      replace F15 := F15.chg hc15 D7
      replace F16 := F16.chg hc15 (dj1 D8)
      replace F17 := F17.chg hc15 D9
      replace F18 := F18.chg hc15 D10
      replace F20 := F20.chg hc15 (D15).symm
      replace hB := hB.inS hc15 (inLow G5)
      replace hZ := Nat.le_trans hZ hc15.size
      clear F19
      rewrite [show (l7).length = (l7.set (Int.toNat x3) false).length from (List.length_set ..).symm]
      refine wS_end (by rfl) ?_
      refine eX_then ?_
      refine cW_prune [(0, .pointer (some ⟨b0, 0, none⟩)), (3, .slice A1 (y1).length cap1), (4, .pointer (some ⟨b1, 0, none⟩)), (5, .int .i64 (x1)), (6, .int .i64 (y2.1)), (7, .int .i64 (y2.2.1)), (9, .slice (some ⟨b2, 0, none⟩) (l7.set (Int.toNat x3) false).length (Int.toNat (((y1).length : Int)))), (10, .slice (some ⟨b3, 0, none⟩) (l8).length (Int.toNat (((y1).length : Int)))), (11, .int .i64 (x3))] (by kernel_rfl) (by kernel_rfl) (fun a5 => ?_)
      refine cW_drawnTail [] 12 (by kernel_rfl) (by kernel_rfl) (fun w18 hc16 => ?_)
      replace F12 := F12.chg hc16 Dj.nil
      replace F13 := F13.chg hc16 Dj.nil
      replace F14 := F14.chg hc16 notNil
      replace F15 := F15.chg hc16 Dj.nil
      replace F16 := F16.chg hc16 notNil
      replace F17 := F17.chg hc16 Dj.nil
      replace F18 := F18.chg hc16 Dj.nil
      replace F25 := F25.chg hc16 Dj.nil
      replace F20 := F20.chg hc16 Dj.nil
      replace hB := hB.inS hc16 inNil
      replace hZ := Nat.le_trans hZ hc16.size
      have hS := Chg.refl [] w18
      have Z19 := F12
      have Z20 := F13
      have Z21 := F14
      have Z22 := F15
      have Z23 := F16
      have Z24 := F17
      have Z25 := F18
      have Z26 := F25
      have Z27 := F20
      refine wH_take [0, 1, 2, 3, 4] [4, 3, 2, 1, 0] [(78, .int .i64 (x1)), (77, .slice A1 (y1).length cap1), (76, .pointer (some ⟨b0, 0, none⟩)), (75, .int .i64 (x3)), (74, .slice (some ⟨b3, 0, none⟩) (l8).length (Int.toNat (((y1).length : Int))))] (by kernel_rfl) (qT (qB (qT (qL (qB (qT (qT (qB (qT (qL (qB (qT (qT qZ))))))))))))) (by kernel_rfl) ?_
      obtain ⟨x14, hx14, hm⟩ := bindE hm
      refine wH_idx (i := 5) (d := 79) (T := 24) (A := A1) (n := (y1).length) (cap := cap1) (kd := .i64) (m := x1) (by kernel_rfl) (qT (qB (qT (qL (qB (qT (qT (qB (qT (qL (qB (qT (qT qZ))))))))))))) (by kernel_rfl) (by kernel_rfl) sl24 ((F15.sl encI_ok).is hx14) ?_
      refine wH_load1 (i := 6) (d := 80) (T := 2) (ad := (elA A1 1 (x1) 0)) (v := .int .i64 (x14)) (by kernel_rfl) (qT (qB (qT (qL (qB (qT (qT (qB (qT (qL (qB (qT (qT qZ))))))))))))) (by kernel_rfl) (by kernel_rfl) vt2 (fun W hW => Sl.cell ((Z22.chg hW Dj.nil).sl encI_ok) hx14 0 (by rfl)) ?_
      refine wH_take [7, 8] [8, 7, 6, 5, 4, 3, 2, 1, 0] [(82, .int .i64 (x3)), (81, .slice A1 (y1).length cap1)] (by kernel_rfl) (qT (qB (qT (qL (qB (qT (qT (qB (qT (qL (qB (qT (qT qZ))))))))))))) (by kernel_rfl) ?_
      obtain ⟨x15, hx15, hm⟩ := bindE hm
      refine wH_idx (i := 9) (d := 83) (T := 24) (A := A1) (n := (y1).length) (cap := cap1) (kd := .i64) (m := x3) (by kernel_rfl) (qT (qB (qT (qL (qB (qT (qT (qB (qT (qL (qB (qT (qT qZ))))))))))))) (by kernel_rfl) (by kernel_rfl) sl24 ((F15.sl encI_ok).is hx15) ?_
      refine wH_load1 (i := 10) (d := 84) (T := 2) (ad := (elA A1 1 (x3) 0)) (v := .int .i64 (x15)) (by kernel_rfl) (qT (qB (qT (qL (qB (qT (qT (qB (qT (qL (qB (qT (qT qZ))))))))))))) (by kernel_rfl) (by kernel_rfl) vt2 (fun W hW => Sl.cell ((Z22.chg hW Dj.nil).sl encI_ok) hx15 0 (by rfl)) ?_
      refine wH_all [11] (by rfl) (by kernel_rfl) (by simp) ⟨⟨by kernel_rfl, ?_⟩, trivial⟩
      obtain ⟨y6, hy6, hm⟩ := bindE hm
      refine wS_calls (d := 85) (f := 95) (vs := [.pointer (some ⟨b0, 0, none⟩), .int .i64 (x14), .int .i64 (x15)]) (by kernel_rfl) ent95 (c_spec_l03Above_bimplChannel hy6 F12 F13 F14) ?_
      rintro _ w19 ⟨rfl, hc17⟩
      replace F12 := F12.chg hc17 Dj.nil
      replace F13 := F13.chg hc17 Dj.nil
      replace F14 := F14.chg hc17 notNil
      replace F15 := F15.chg hc17 Dj.nil
      replace F16 := F16.chg hc17 notNil
      replace F17 := F17.chg hc17 Dj.nil
      replace F18 := F18.chg hc17 Dj.nil
      replace F25 := F25.chg hc17 Dj.nil
      replace F20 := F20.chg hc17 Dj.nil
      replace hB := hB.inS hc17 inNil
      have hSz := hS
      replace hS := hS.inS hc17 inNil
      replace hZ := Nat.le_trans hZ hc17.size
      refine ⟨.bool (y6), rfl, ?_⟩
      refine wS_end (by kernel_rfl) ?_
      refine eX_KH hS ?_
      refine wH_done (by kernel_rfl) ?_
      refine eX_tail ?_
      obtain ⟨x16, hx16, hm⟩ := bindE hm
      refine wS_idx (d := 86) (T := 120) (A := (some ⟨b3, 0, none⟩)) (n := (l8).length) (cap := (Int.toNat (((y1).length : Int)))) (kd := .i64) (m := x3) (by kernel_rfl) sl120 ((F20.sl encB_ok).is hx16) ?_
      refine wS_storeEl (x := x16) y6 (T := 4) (U := 4) (cap := (Int.toNat (((y1).length : Int)))) (j := 0) (A := (some ⟨b3, 0, none⟩)) (v := .bool (y6)) (vs := [.bool (y6)]) (m := x3) (by kernel_rfl) (by rfl) sz4 (by rfl) encB_ok F20 hx16 (by simp only [List.length_cons, List.length_nil]; omega) (by rfl) ?_
      intro w20 F26 hc18
      replace F12 := F12.chg hc18 (Dj.of L0_0 G6)
      replace F13 := F13.chg hc18 (Dj.of L0_1 G6)
      replace F14 := F14.chg hc18 (dj1 (Dj.of L0 G6))
      replace F15 := F15.chg hc18 D11
      replace F16 := F16.chg hc18 (dj1 D12)
      replace F17 := F17.chg hc18 D13
      replace F18 := F18.chg hc18 D14
      replace F25 := F25.chg hc18 D15
      replace hB := hB.inS hc18 (inLow G6)
      replace hZ := Nat.le_trans hZ hc18.size
      clear F20
      rewrite [show (l8).length = (l8.set (Int.toNat x3) y6).length from (List.length_set ..).symm]
      refine wS_end (by rfl) ?_
      refine eX_block ?_
      refine eX_then ?_
      refine cW_region ?_
      refine wS_pure 3 [(11, .int .i64 (wr (x3 + 1))), (47, .int .i64 (wr (x3 + 1))), (46, .int .i64 (x3))] (by kernel_rfl) ?_
      refine wS_end (by rfl) ?_
      have hq : (some (Ctl.next ((wr (x3 + 1), l7.set (Int.toNat x3) false, l8.set (Int.toNat x3) y6))) : Option (Ctl (Int × (List (Bool)) × (List (Bool))) ((List (Bool)) × (List (Bool))))) = some _ := hm
      replace hq := someE hq
      subst hq
      exact eX_next hx3 (fun hst => ⟨wr (x3 + 1), l7.set (Int.toNat x3) false, l8.set (Int.toNat x3) y6, rfl, Fr.of hst (by kernel_rfl), F12, F13, F14, F15, F16, F17, F18, F25, F26, hB, hZ⟩)
    ·have hm := condF hb2 hm
     refine cW_exit ?_
     refine eX_then_exit ?_
     have hq : (some (Ctl.out ((l7, l8))) : Option (Ctl (Int × (List (Bool)) × (List (Bool))) ((List (Bool)) × (List (Bool))))) = some _ := hm
     replace hq := someE hq
     subst hq
     refine eX_outX hx3 (fun hr3 => ?_)
     replace hr3 := hr3.symm
     subst hr3
     refine eX_block_hit ?_
     exact eX_J (fun hst => ⟨l7, l8, rfl, Fr.of hst (by kernel_rfl), F12, F13, F14, F15, F16, F17, F18, F19, F20, hB, hZ⟩)
   ·rintro a' w21 ⟨l5, l6, hJ, hF3, F27, F28, F29, F30, F31, F32, F33, F34, F35, hB, hZ⟩
    subst hJ
    refine Fr.goX hF3 (by kernel_rfl) ?_
    refine eX_then ?_
    refine cW_seq ?_
    refine cW_region ?_
    refine wS_pure 4 [(90, .pointer (some ⟨b1, 1, none⟩)), (89, .pointer (some ⟨b1, 0, none⟩)), (88, .pointer (some ⟨b1, 0, none⟩)), (87, .pointer (some ⟨b1, 0, none⟩))] (by kernel_rfl) ?_
    refine wS_load1 (d := 91) (T := 92) (ad := ⟨b1, 1, none⟩) (v := .slice A5 (l3).length cap5) (by kernel_rfl) vt92 ((F31).cell 1) ?_
    refine wS_pure 1 [(92, .slice (some ⟨b2, 0, none⟩) (l5).length (Int.toNat (((y1).length : Int))))] (by kernel_rfl) ?_
    refine wS_row1 (k := 1) (enc := encB) (l := l5) (d := 93) (t := 92) (T := 120) (B := (some ⟨b2, 0, none⟩)) (c := (Int.toNat (((y1).length : Int)))) (by kernel_rfl) el92 F34 ?_
    intro b4 w22 G7 F36 hc19
    have D16 : Dj fp1 ([b4] ++ [b2]) := Dj.app (Dj.of F30.low (low1 G7)) D7
    have D17 : Dj [b1] ([b4] ++ [b2]) := Dj.app (Dj.of (lt1 F31.lt) (low1 G7)) D8
    have D18 : Dj (fp4 ++ fr3) ([b4] ++ [b2]) := Dj.app (Dj.of F32.low (low1 G7)) D9
    have D19 : Dj (fp5 ++ fr4) ([b4] ++ [b2]) := Dj.app (Dj.of F33.low (low1 G7)) D10
    have D20 : Dj [b3] ([b4] ++ [b2]) := Dj.app (Dj.of F35.low (low1 G7)) (D15).symm
    replace F27 := F27.chg hc19 Dj.nil
    replace F28 := F28.chg hc19 Dj.nil
    replace F29 := F29.chg hc19 notNil
    replace F30 := F30.chg hc19 Dj.nil
    replace F31 := F31.chg hc19 notNil
    replace F32 := F32.chg hc19 Dj.nil
    replace F33 := F33.chg hc19 Dj.nil
    replace F34 := F34.chg hc19 Dj.nil
    replace F35 := F35.chg hc19 Dj.nil
    replace hB := hB.inS hc19 inNil
    replace G7 := Nat.le_trans hZ G7
    replace G7 := lowApp (low1 G7) G5
    replace hZ := Nat.le_trans hZ hc19.size
    replace F34 := (F34.sl encB_ok)
    obtain ⟨_, hk3, hm⟩ := bindE hm
    replace hk3 := apE hk3
    refine wS_appendR (k := 1) (enc := encB) (ll := (l3 : List (List (Bool)))) (ll2 := (([l5] : List (List (Bool))) : List (List (Bool)))) (d := 94) (t := 92) (T := 120) (A := A5) (A2 := (some ⟨b4, 0, none⟩)) (cap := cap5) (cap2 := 1) (by kernel_rfl) el92 F32 F36 (by rfl) D18 hk3 ?_
    intro w23 fp6 A7 cap7 F37 hc20 hp1
    have G8 := lowApp (low_ap (low_inl G3) hZ hp1) (lowApp (low_inr G3) (low_inr G7))
    have D21 : Dj fp1 (fp6 ++ (fr3 ++ [b2])) := Dj.app (Dj.ap (Dj.inl D2) F30.low hp1) (Dj.app (Dj.inr D2) (Dj.inr D16))
    have D22 : Dj [b1] (fp6 ++ (fr3 ++ [b2])) := Dj.app (Dj.ap (Dj.inl D3) (lt1 F31.lt) hp1) (Dj.app (Dj.inr D3) (Dj.inr D17))
    have D23 : Dj (fp5 ++ fr4) (fp6 ++ (fr3 ++ [b2])) := Dj.app (Dj.ap (Dj.inl D4) F33.low hp1) (Dj.app (Dj.inr D4) (Dj.inr D19))
    have D24 : Dj [b3] (fp6 ++ (fr3 ++ [b2])) := Dj.app (Dj.ap (Dj.inl (D13).symm) F35.low hp1) (Dj.app (Dj.inr (D13).symm) (Dj.inr D20))
    replace F27 := F27.chg hc20 (Dj.inl (Dj.of L0_0 G3))
    replace F28 := F28.chg hc20 (Dj.inl (Dj.of L0_1 G3))
    replace F29 := F29.chg hc20 (dj1 (Dj.inl (Dj.of L0 G3)))
    replace F30 := F30.chg hc20 (Dj.inl D2)
    replace F31 := F31.chg hc20 (dj1 (Dj.inl D3))
    replace F33 := F33.chg hc20 (Dj.inl D4)
    replace F35 := F35.chg hc20 (Dj.inl (D13).symm)
    replace hB := hB.inS hc20 (memS_inl (inLow G3))
    replace hZ := Nat.le_trans hZ hc20.size
    refine wS_pure 2 [(96, .pointer (some ⟨b1, 1, none⟩)), (95, .pointer (some ⟨b1, 0, none⟩))] (by kernel_rfl) ?_
    refine wS_store (T := 92) (g := b1) (o := 1) (ad := ⟨b1, 1, none⟩) (v := .slice A7 (l3 ++ (([l5] : List (List (Bool))))).length cap7) (vs := [.slice A7 (l3 ++ (([l5] : List (List (Bool))))).length cap7]) (by kernel_rfl) (by rfl) sz92 (by rfl) (by rfl) F31 (by simp only [List.length_cons, List.length_nil]; omega) ?_
    intro w24 F38 hc21
    replace F27 := F27.chg hc21 (Dj.of L0_0 (low1 G2))
    replace F28 := F28.chg hc21 (Dj.of L0_1 (low1 G2))
    replace F29 := F29.chg hc21 (dj1 (Dj.of L0 (low1 G2)))
    replace F30 := F30.chg hc21 D1
    replace F33 := F33.chg hc21 (D6).symm
    replace F35 := F35.chg hc21 (D12).symm
    replace F37 := F37.chg hc21 (D22).symm
    replace hB := hB.inS hc21 (inLow (low1 G2))
    replace hZ := Nat.le_trans hZ hc21.size
    replace F38 : Cl w24 b1 94 [.slice A1 (y1).length cap1, .slice A7 (l3 ++ (([l5] : List (List (Bool))))).length cap7, .slice A6 (l4).length cap6] := F38
    clear F31
    refine wS_end (by rfl) ?_
    refine eX_then ?_
    refine cW_region ?_
    refine wS_pure 4 [(100, .pointer (some ⟨b1, 2, none⟩)), (99, .pointer (some ⟨b1, 0, none⟩)), (98, .pointer (some ⟨b1, 0, none⟩)), (97, .pointer (some ⟨b1, 0, none⟩))] (by kernel_rfl) ?_
    refine wS_load1 (d := 101) (T := 92) (ad := ⟨b1, 2, none⟩) (v := .slice A6 (l4).length cap6) (by kernel_rfl) vt92 ((F38).cell 2) ?_
    refine wS_pure 1 [(102, .slice (some ⟨b3, 0, none⟩) (l6).length (Int.toNat (((y1).length : Int))))] (by kernel_rfl) ?_
    refine wS_row1 (k := 1) (enc := encB) (l := l6) (d := 103) (t := 92) (T := 120) (B := (some ⟨b3, 0, none⟩)) (c := (Int.toNat (((y1).length : Int)))) (by kernel_rfl) el92 F35 ?_
    intro b5 w25 G9 F39 hc22
    have D25 : Dj fp1 ([b5] ++ [b3]) := Dj.app (Dj.of F30.low (low1 G9)) D11
    have D26 : Dj [b1] ([b5] ++ [b3]) := Dj.app (Dj.of (lt1 F38.lt) (low1 G9)) D12
    have D27 : Dj (fp5 ++ fr4) ([b5] ++ [b3]) := Dj.app (Dj.of F33.low (low1 G9)) D14
    have D28 : Dj (fp6 ++ (fr3 ++ [b2])) ([b5] ++ [b3]) := Dj.app (Dj.of F37.low (low1 G9)) (D24).symm
    replace F27 := F27.chg hc22 Dj.nil
    replace F28 := F28.chg hc22 Dj.nil
    replace F29 := F29.chg hc22 notNil
    replace F30 := F30.chg hc22 Dj.nil
    replace F38 := F38.chg hc22 notNil
    replace F33 := F33.chg hc22 Dj.nil
    replace F35 := F35.chg hc22 Dj.nil
    replace F37 := F37.chg hc22 Dj.nil
    replace hB := hB.inS hc22 inNil
    replace G9 := Nat.le_trans hZ G9
    replace G9 := lowApp (low1 G9) G6
    replace hZ := Nat.le_trans hZ hc22.size
    replace F35 := (F35.sl encB_ok)
    obtain ⟨_, hk4, hm⟩ := bindE hm
    replace hk4 := apE hk4
    refine wS_appendR (k := 1) (enc := encB) (ll := (l4 : List (List (Bool)))) (ll2 := (([l6] : List (List (Bool))) : List (List (Bool)))) (d := 104) (t := 92) (T := 120) (A := A6) (A2 := (some ⟨b5, 0, none⟩)) (cap := cap6) (cap2 := 1) (by kernel_rfl) el92 F33 F39 (by rfl) D27 hk4 ?_
    intro w26 fp7 A8 cap8 F40 hc23 hp2
    have G10 := lowApp (low_ap (low_inl G4) hZ hp2) (lowApp (low_inr G4) (low_inr G9))
    have D29 : Dj fp1 (fp7 ++ (fr4 ++ [b3])) := Dj.app (Dj.ap (Dj.inl D5) F30.low hp2) (Dj.app (Dj.inr D5) (Dj.inr D25))
    have D30 : Dj [b1] (fp7 ++ (fr4 ++ [b3])) := Dj.app (Dj.ap (Dj.inl D6) (lt1 F38.lt) hp2) (Dj.app (Dj.inr D6) (Dj.inr D26))
    have D31 : Dj (fp6 ++ (fr3 ++ [b2])) (fp7 ++ (fr4 ++ [b3])) := Dj.app (Dj.ap (Dj.inl (D23).symm) F37.low hp2) (Dj.app (Dj.inr (D23).symm) (Dj.inr D28))
    replace F27 := F27.chg hc23 (Dj.inl (Dj.of L0_0 G4))
    replace F28 := F28.chg hc23 (Dj.inl (Dj.of L0_1 G4))
    replace F29 := F29.chg hc23 (dj1 (Dj.inl (Dj.of L0 G4)))
    replace F30 := F30.chg hc23 (Dj.inl D5)
    replace F38 := F38.chg hc23 (dj1 (Dj.inl D6))
    replace F37 := F37.chg hc23 (Dj.inl (D23).symm)
    replace hB := hB.inS hc23 (memS_inl (inLow G4))
    replace hZ := Nat.le_trans hZ hc23.size
    refine wS_pure 2 [(106, .pointer (some ⟨b1, 2, none⟩)), (105, .pointer (some ⟨b1, 0, none⟩))] (by kernel_rfl) ?_
    refine wS_store (T := 92) (g := b1) (o := 2) (ad := ⟨b1, 2, none⟩) (v := .slice A8 (l4 ++ (([l6] : List (List (Bool))))).length cap8) (vs := [.slice A8 (l4 ++ (([l6] : List (List (Bool))))).length cap8]) (by kernel_rfl) (by rfl) sz92 (by rfl) (by rfl) F38 (by simp only [List.length_cons, List.length_nil]; omega) ?_
    intro w27 F41 hc24
    replace F27 := F27.chg hc24 (Dj.of L0_0 (low1 G2))
    replace F28 := F28.chg hc24 (Dj.of L0_1 (low1 G2))
    replace F29 := F29.chg hc24 (dj1 (Dj.of L0 (low1 G2)))
    replace F30 := F30.chg hc24 D1
    replace F37 := F37.chg hc24 (D22).symm
    replace F40 := F40.chg hc24 (D30).symm
    replace hB := hB.inS hc24 (inLow (low1 G2))
    replace hZ := Nat.le_trans hZ hc24.size
    replace F41 : Cl w27 b1 94 [.slice A1 (y1).length cap1, .slice A7 (l3 ++ (([l5] : List (List (Bool))))).length cap7, .slice A8 (l4 ++ (([l6] : List (List (Bool))))).length cap8] := F41
    clear F38
    refine wS_end (by rfl) ?_
    refine eX_block ?_
    refine eX_then ?_
    refine cW_prune [(0, .pointer (some ⟨b0, 0, none⟩)), (3, .slice A1 (y1).length cap1), (4, .pointer (some ⟨b1, 0, none⟩)), (5, .int .i64 (x1))] (by kernel_rfl) (by kernel_rfl) (fun a6 => ?_)
    refine cW_region ?_
    refine wS_pure 3 [(5, .int .i64 (wr (x1 + 1))), (25, .int .i64 (wr (x1 + 1))), (24, .int .i64 (x1))] (by kernel_rfl) ?_
    refine wS_end (by rfl) ?_
    have hq : (some (Ctl.next ((wr (x1 + 1), l3 ++ (([l5] : List (List (Bool)))), l4 ++ (([l6] : List (List (Bool))))))) : Option (Ctl (Int × (List (List (Bool))) × (List (List (Bool)))) ((List (List (Bool))) × (List (List (Bool)))))) = some _ := hm
    replace hq := someE hq
    subst hq
    exact eX_next hx1 (fun hst => ⟨wr (x1 + 1), l3 ++ (([l5] : List (List (Bool)))), A7, cap7, fp6, (fr3 ++ [b2]), l4 ++ (([l6] : List (List (Bool)))), A8, cap8, fp7, (fr4 ++ [b3]), rfl, Fr.of hst (by kernel_rfl), F27, F28, F29, F30, F41, F37, F40, G8, G10, D21, D22, (D31).symm, D29, D30, hB, hZ⟩)
  ·have hm := condF hb1 hm
   refine cW_exit ?_
   refine eX_then_exit ?_
   have hq : (some (Ctl.out ((l3, l4))) : Option (Ctl (Int × (List (List (Bool))) × (List (List (Bool)))) ((List (List (Bool))) × (List (List (Bool)))))) = some _ := hm
   replace hq := someE hq
   subst hq
   refine eX_outX hx1 (fun hr4 => ?_)
   replace hr4 := hr4.symm
   subst hr4
   refine eX_block_hit ?_
   exact eX_J (fun hst => ⟨l3, A5, cap5, fp4, fr3, l4, A6, cap6, fp5, fr4, rfl, Fr.of hst (by kernel_rfl), F6, F7, F8, F9, G3, G4, D2, D3, D4, D5, D6, hB, hZ⟩)
 ·rintro a' w28 ⟨l1, A3, cap3, fp2, fr1, l2, A4, cap4, fp3, fr2, hJ, hF4, F42, F43, F44, F45, G11, G12, D32, D33, D34, D35, D36, hB, hZ⟩
  subst hJ
  refine Fr.goX hF4 (by kernel_rfl) ?_
  refine eX_then ?_
  refine cW_seq ?_
  refine cW_region ?_
  refine wS_pure 2 [(2, .pointer (some ⟨b1, 0, none⟩)), (107, .pointer (some ⟨b1, 0, none⟩))] (by kernel_rfl) ?_
  refine wS_end (by rfl) ?_
  refine eX_then ?_
  refine cW_ret ?_
  have hq : (some ((y1, l1, l2)) : Option (((List (Int)) × (List (List (Bool))) × (List (List (Bool)))))) = some _ := hm
  replace hq := someE hq
  subst hq
  refine eX_ret (vs := [.pointer (some ⟨b1, 0, none⟩)]) [.tmp 2] (by rfl) ⟨by (show lkE _ _ _ = _); kernel_rfl, trivial⟩ ?_
  exact ⟨b1, A1, cap1, fp1, A3, cap3, fp2, fr1, A4, cap4, fp3, fr2, rfl, F43, G2, F42, G1, F44, G11, F45, G12, (D1).symm, D33, D36, D32, D35, (D34).symm, hB⟩

set_option maxRecDepth 100000 in
/-- laws.szInt64S -/
theorem c_laws_szInt64S {w0 : World} {l0 : List (Int)} {A0 : Option Addr} {cap0 : Nat} {fp0 : List Nat} {p1 : Int} {r : (Int)} (hm : m_laws_szInt64S l0 p1 = some r) (F0 : Sl 1 encI w0 fp0 A0 l0) :
  Calls Tryd.prog 63 #[.slice A0 (l0).length cap0, .int .i64 (p1)] w0 fun e w' => e = .returned (.int .i64 (r)) ∧ Chg [] w0 w' := by
 have L0 := F0.low
 have hB : Chg [] w0 w0 := Chg.refl _ _
 have hZ := Nat.le_refl w0.heap.size
 unfold m_laws_szInt64S at hm
 refine enterE (N := 12) Tryd.func63 (by rfl) Tryd.ntmps63 (by simp) [(0, .slice A0 (l0).length cap0), (1, .int .i64 (p1))] (by rfl) (by kernel_rfl) (fun a => ?_)
 refine cW_seq ?_
 refine cW_region ?_
 refine wS_pure 1 [(4, .int .i64 (0))] (by kernel_rfl) ?_
 refine wS_end (by rfl) ?_
 refine eX_then ?_
 refine cW_seq ?_
 refine cW_region ?_
 refine wS_pure 5 [(1, .int .i64 (wr (p1 - (((l0).length : Int))))), (8, .int .i64 (wr (p1 - (((l0).length : Int))))), (7, .int .i64 (((l0).length : Int))), (6, .slice A0 (l0).length cap0), (5, .int .i64 (p1))] (by kernel_rfl) ?_
 refine wS_end (by rfl) ?_
 refine eX_then ?_
 refine cW_seq ?_
 refine cW_seq ?_
 refine cW_region ?_
 refine wS_pure 2 [(10, .bool (decide ((wr (p1 - (((l0).length : Int)))) < 0))), (9, .int .i64 (wr (p1 - (((l0).length : Int)))))] (by kernel_rfl) ?_
 refine wS_end (by rfl) ?_
 refine eX_then ?_
 refine cW_cond (t := decide ((wr (p1 - (((l0).length : Int)))) < 0)) (by kernel_rfl) (fun hb1 => ?_) (fun hb1 => ?_)
 ·have hm := condT hb1 hm
  refine cW_seq ?_
  refine cW_region ?_
  refine wS_pure 1 [(4, .int .i64 ((-1)))] (by kernel_rfl) ?_
  refine wS_end (by rfl) ?_
  refine eX_then ?_
  refine cW_ret ?_
  refine eX_then_ret ?_
  have hq : (some ((-1)) : Option ((Int))) = some _ := hm
  replace hq := someE hq
  subst hq
  refine eX_ret (vs := [.int .i64 ((-1))]) [.tmp 4] (by rfl) ⟨by (show lkE _ _ _ = _); kernel_rfl, trivial⟩ ?_
  exact ⟨rfl, hB⟩
 ·have hm := condF hb1 hm
  refine cW_skip ?_
  refine eX_then ?_
  refine cW_seq ?_
  refine cW_region ?_
  refine wS_pure 2 [(4, .int .i64 (wr (p1 - (((l0).length : Int))))), (11, .int .i64 (wr (p1 - (((l0).length : Int)))))] (by kernel_rfl) ?_
  refine wS_end (by rfl) ?_
  refine eX_then ?_
  refine cW_ret ?_
  have hq : (some (wr (p1 - (((l0).length : Int)))) : Option ((Int))) = some _ := hm
  replace hq := someE hq
  subst hq
  refine eX_ret (vs := [.int .i64 (wr (p1 - (((l0).length : Int))))]) [.tmp 4] (by rfl) ⟨by (show lkE _ _ _ = _); kernel_rfl, trivial⟩ ?_
  exact ⟨rfl, hB⟩

set_option maxRecDepth 100000 in
/-- laws.szChannel -/
theorem c_laws_szChannel {w0 : World} {l0_0 : List (Int)} {A0_0 : Option Addr} {cap0_0 : Nat} {fp0_0 : List Nat} {l0_1 : List (Int)} {A0_1 : Option Addr} {cap0_1 : Nat} {fp0_1 : List Nat} {p1 : Int} {r : (Int)} (hm : m_laws_szChannel l0_0 l0_1 p1 = some r) (F0_0 : Sl 1 encI w0 fp0_0 A0_0 l0_0) (F0_1 : Sl 1 encI w0 fp0_1 A0_1 l0_1) :
  Calls Tryd.prog 20 #[.agg #[.slice A0_0 (l0_0).length cap0_0, .slice A0_1 (l0_1).length cap0_1], .int .i64 (p1)] w0 fun e w' => e = .returned (.int .i64 (r)) ∧ Chg [] w0 w' := by
 have L0_0 := F0_0.low
 have L0_1 := F0_1.low
 have hB : Chg [] w0 w0 := Chg.refl _ _
 have hZ := Nat.le_refl w0.heap.size
 unfold m_laws_szChannel at hm
 refine enterE (N := 18) Tryd.func20 (by rfl) Tryd.ntmps20 (by simp) [(0, .agg #[.slice A0_0 (l0_0).length cap0_0, .slice A0_1 (l0_1).length cap0_1]), (1, .int .i64 (p1))] (by rfl) (by kernel_rfl) (fun a => ?_)
 refine cW_seq ?_
 refine cW_region ?_
 refine wS_box (d := 2) (T := 39) (x := .agg #[.slice A0_0 (l0_0).length cap0_0, .slice A0_1 (l0_1).length cap0_1]) (by kernel_rfl) ?_
 intro b1 w1 G1 F1 hc1
 replace F1 : Cl w1 b1 39 [.slice A0_0 (l0_0).length cap0_0, .slice A0_1 (l0_1).length cap0_1] := F1
 replace F0_0 := F0_0.chg hc1 Dj.nil
 replace F0_1 := F0_1.chg hc1 Dj.nil
 replace hB := hB.inS hc1 inNil
 replace G1 := Nat.le_trans hZ G1
 replace hZ := Nat.le_trans hZ hc1.size
 refine wS_pure 1 [(4, .int .i64 (0))] (by kernel_rfl) ?_
 refine wS_end (by rfl) ?_
 refine eX_then ?_
 refine cW_seq ?_
 refine cW_region ?_
 refine wS_pure 1 [(5, .pointer (some ⟨b1, 0, none⟩))] (by kernel_rfl) ?_
 refine wS_load1 (d := 6) (T := 24) (ad := ⟨b1, 0, none⟩) (v := .slice A0_0 (l0_0).length cap0_0) (by kernel_rfl) vt24 ((F1).cell 0) ?_
 refine wS_pure 1 [(7, .int .i64 (p1))] (by kernel_rfl) ?_
 obtain ⟨y1, hy1, hm⟩ := bindE hm
 refine wS_calls (d := 8) (f := 63) (vs := [.slice A0_0 (l0_0).length cap0_0, .int .i64 (p1)]) (by kernel_rfl) ent63 (c_laws_szInt64S hy1 F0_0) ?_
 rintro _ w2 ⟨rfl, hc2⟩
 replace F0_0 := F0_0.chg hc2 Dj.nil
 replace F0_1 := F0_1.chg hc2 Dj.nil
 replace F1 := F1.chg hc2 notNil
 replace hB := hB.inS hc2 inNil
 replace hZ := Nat.le_trans hZ hc2.size
 refine ⟨.int .i64 (y1), rfl, ?_⟩
 refine wS_pure 1 [(1, .int .i64 (y1))] (by kernel_rfl) ?_
 refine wS_end (by rfl) ?_
 refine eX_then ?_
 refine cW_seq ?_
 refine cW_seq ?_
 refine cW_region ?_
 refine wS_pure 2 [(10, .bool (decide (y1 < 0))), (9, .int .i64 (y1))] (by kernel_rfl) ?_
 refine wS_end (by rfl) ?_
 refine eX_then ?_
 refine cW_cond (t := decide (y1 < 0)) (by kernel_rfl) (fun hb1 => ?_) (fun hb1 => ?_)
 ·have hm := condT hb1 hm
  refine cW_seq ?_
  refine cW_region ?_
  refine wS_pure 1 [(4, .int .i64 ((-1)))] (by kernel_rfl) ?_
  refine wS_end (by rfl) ?_
  refine eX_then ?_
  refine cW_ret ?_
  refine eX_then_ret ?_
  have hq : (some ((-1)) : Option ((Int))) = some _ := hm
  replace hq := someE hq
  subst hq
  refine eX_ret (vs := [.int .i64 ((-1))]) [.tmp 4] (by rfl) ⟨by (show lkE _ _ _ = _); kernel_rfl, trivial⟩ ?_
  exact ⟨rfl, hB⟩
 ·have hm := condF hb1 hm
  refine cW_skip ?_
  refine eX_then ?_
  refine cW_seq ?_
  refine cW_region ?_
  refine wS_pure 1 [(11, .pointer (some ⟨b1, 1, none⟩))] (by kernel_rfl) ?_
  refine wS_load1 (d := 12) (T := 24) (ad := ⟨b1, 1, none⟩) (v := .slice A0_1 (l0_1).length cap0_1) (by kernel_rfl) vt24 ((F1).cell 1) ?_
  refine wS_pure 1 [(13, .int .i64 (y1))] (by kernel_rfl) ?_
  obtain ⟨y2, hy2, hm⟩ := bindE hm
  refine wS_calls (d := 14) (f := 63) (vs := [.slice A0_1 (l0_1).length cap0_1, .int .i64 (y1)]) (by kernel_rfl) ent63 (c_laws_szInt64S hy2 F0_1) ?_
  rintro _ w3 ⟨rfl, hc3⟩
  replace F0_0 := F0_0.chg hc3 Dj.nil
  replace F0_1 := F0_1.chg hc3 Dj.nil
  replace F1 := F1.chg hc3 notNil
  replace hB := hB.inS hc3 inNil
  replace hZ := Nat.le_trans hZ hc3.size
  refine ⟨.int .i64 (y2), rfl, ?_⟩
  refine wS_pure 1 [(1, .int .i64 (y2))] (by kernel_rfl) ?_
  refine wS_end (by rfl) ?_
  refine eX_then ?_
  refine cW_seq ?_
  refine cW_seq ?_
  refine cW_region ?_
  refine wS_pure 2 [(16, .bool (decide (y2 < 0))), (15, .int .i64 (y2))] (by kernel_rfl) ?_
  refine wS_end (by rfl) ?_
  refine eX_then ?_
  refine cW_cond (t := decide (y2 < 0)) (by kernel_rfl) (fun hb2 => ?_) (fun hb2 => ?_)
  ·have hm := condT hb2 hm
   refine cW_seq ?_
   refine cW_region ?_
   refine wS_pure 1 [(4, .int .i64 ((-1)))] (by kernel_rfl) ?_
   refine wS_end (by rfl) ?_
   refine eX_then ?_
   refine cW_ret ?_
   refine eX_then_ret ?_
   have hq : (some ((-1)) : Option ((Int))) = some _ := hm
   replace hq := someE hq
   subst hq
   refine eX_ret (vs := [.int .i64 ((-1))]) [.tmp 4] (by rfl) ⟨by (show lkE _ _ _ = _); kernel_rfl, trivial⟩ ?_
   exact ⟨rfl, hB⟩
  ·have hm := condF hb2 hm
   refine cW_skip ?_
   refine eX_then ?_
   refine cW_seq ?_
   refine cW_region ?_
   refine wS_pure 2 [(4, .int .i64 (y2)), (17, .int .i64 (y2))] (by kernel_rfl) ?_
   refine wS_end (by rfl) ?_
   refine eX_then ?_
   refine cW_ret ?_
   have hq : (some y2 : Option ((Int))) = some _ := hm
   replace hq := someE hq
   subst hq
   refine eX_ret (vs := [.int .i64 (y2)]) [.tmp 4] (by rfl) ⟨by (show lkE _ _ _ = _); kernel_rfl, trivial⟩ ?_
   exact ⟨rfl, hB⟩

set_option maxRecDepth 100000 in
/-- spec.l03Less -/
theorem c_spec_l03Less {w0 : World} {l0 : List (Int)} {A0 : Option Addr} {cap0 : Nat} {fp0 : List Nat} {l1 : List (Int)} {A1 : Option Addr} {cap1 : Nat} {fp1 : List Nat} {r : (Bool)} (hm : m_spec_l03Less l0 l1 = some r) (F0 : Sl 1 encI w0 fp0 A0 l0) (F1 : Sl 1 encI w0 fp1 A1 l1) :
  Calls Tryd.prog 97 #[.slice A0 (l0).length cap0, .slice A1 (l1).length cap1] w0 fun e w' => e = .returned (.bool (r)) ∧ Chg [] w0 w' := by
 have L0 := F0.low
 have L1 := F1.low
 have hB : Chg [] w0 w0 := Chg.refl _ _
 have hZ := Nat.le_refl w0.heap.size
 unfold m_spec_l03Less at hm
 refine enterE (N := 41) Tryd.func97 (by rfl) Tryd.ntmps97 (by simp) [(0, .slice A0 (l0).length cap0), (1, .slice A1 (l1).length cap1)] (by rfl) (by kernel_rfl) (fun a => ?_)
 refine cW_seq ?_
 refine cW_region ?_
 refine wS_pure 1 [(4, .bool (false))] (by kernel_rfl) ?_
 refine wS_end (by rfl) ?_
 refine eX_then ?_
 refine cW_seq ?_
 refine cW_seq ?_
 refine cW_region ?_
 refine wS_pure 1 [(5, .int .i64 (0))] (by kernel_rfl) ?_
 refine wS_end (by rfl) ?_
 refine eX_then ?_
 obtain ⟨r1, hr1, hm⟩ := bindE hm
 have hm1 := hm
 refine cW_cut (fun a' w' => Sum.inl (()) = r1 ∧ Fr 41 [(0, .slice A0 (l0).length cap0), (1, .slice A1 (l1).length cap1)] a' ∧ Sl 1 encI w' fp0 A0 l0 ∧ Sl 1 encI w' fp1 A1 l1 ∧ Chg [] w0 w' ∧ w0.heap.size ≤ w'.heap.size) ?_ ?_
 ·refine cW_block ?_
  refine cW_loop _ (fun (s1 : Int) a' w' => ∃ x1 : Int, x1 = s1 ∧ Fr 41 [(0, .slice A0 (l0).length cap0), (1, .slice A1 (l1).length cap1), (5, .int .i64 (x1))] a' ∧ Sl 1 encI w' fp0 A0 l0 ∧ Sl 1 encI w' fp1 A1 l1 ∧ Chg [] w0 w' ∧ w0.heap.size ≤ w'.heap.size) hr1 (fun hst => ⟨0, rfl, Fr.of hst (by kernel_rfl), F0, F1, hB, hZ⟩) ?_
  rintro _ c1 a' w1 ⟨x1, rfl, hF1, F2, F3, hB, hZ⟩ hx1
  refine Fr.goOn hF1 (by kernel_rfl) ?_
  have hm := hx1
  unfold m_spec_l03Less_s1 at hm
  refine cW_seq ?_
  refine cW_seq ?_
  refine cW_region ?_
  refine wS_pure 5 [(10, .bool (decide (x1 < (((l0).length : Int))))), (9, .bool (decide (x1 < (((l0).length : Int))))), (8, .int .i64 (((l0).length : Int))), (7, .slice A0 (l0).length cap0), (6, .int .i64 (x1))] (by kernel_rfl) ?_
  refine wS_bool (decide (x1 < (((l0).length : Int)))) (fun hb1 => ?_) (fun hb1 => ?_)
  ·have hm := condT hb1 hm
   rewrite [hb1]
   refine wS_pure 5 [(15, .bool (decide (x1 < (((l1).length : Int))))), (14, .bool (decide (x1 < (((l1).length : Int))))), (13, .int .i64 (((l1).length : Int))), (12, .slice A1 (l1).length cap1), (11, .int .i64 (x1))] (by kernel_rfl) ?_
   refine wS_end (by rfl) ?_
   refine eX_then ?_
   refine cW_cond (t := decide (x1 < (((l1).length : Int)))) (by kernel_rfl) (fun hb2 => ?_) (fun hb2 => ?_)
   ·have hm := condT hb2 hm
    refine cW_skip ?_
    refine eX_then ?_
    refine cW_seq ?_
    refine cW_block ?_
    refine cW_seq ?_
    refine cW_drawnTail [] 8 (by kernel_rfl) (by kernel_rfl) (fun w2 hc1 => ?_)
    replace F2 := F2.chg hc1 Dj.nil
    replace F3 := F3.chg hc1 Dj.nil
    replace hB := hB.inS hc1 inNil
    replace hZ := Nat.le_trans hZ hc1.size
    have hS := Chg.refl [] w2
    have Z1 := F2
    have Z2 := F3
    refine wH_take [0, 1] [1, 0] [(19, .int .i64 (x1)), (18, .slice A0 (l0).length cap0)] (by kernel_rfl) (qT (qT (qB (qT (qL (qB (qT (qT qZ)))))))) (by kernel_rfl) ?_
    obtain ⟨x2, hx2, hm⟩ := bindE hm
    refine wH_idx (i := 2) (d := 20) (T := 24) (A := A0) (n := (l0).length) (cap := cap0) (kd := .i64) (m := x1) (by kernel_rfl) (qT (qT (qB (qT (qL (qB (qT (qT qZ)))))))) (by kernel_rfl) (by kernel_rfl) sl24 (F2.is hx2) ?_
    refine wH_load1 (i := 3) (d := 21) (T := 2) (ad := (elA A0 1 (x1) 0)) (v := .int .i64 (x2)) (by kernel_rfl) (qT (qT (qB (qT (qL (qB (qT (qT qZ)))))))) (by kernel_rfl) (by kernel_rfl) vt2 (fun W hW => Sl.cell (Z1.chg hW Dj.nil) hx2 0 (by rfl)) ?_
    refine wH_take [4, 5] [5, 4, 3, 2, 1, 0] [(23, .int .i64 (x1)), (22, .slice A1 (l1).length cap1)] (by kernel_rfl) (qT (qT (qB (qT (qL (qB (qT (qT qZ)))))))) (by kernel_rfl) ?_
    obtain ⟨x3, hx3, hm⟩ := bindE hm
    refine wH_idx (i := 6) (d := 24) (T := 24) (A := A1) (n := (l1).length) (cap := cap1) (kd := .i64) (m := x1) (by kernel_rfl) (qT (qT (qB (qT (qL (qB (qT (qT qZ)))))))) (by kernel_rfl) (by kernel_rfl) sl24 (F3.is hx3) ?_
    refine wH_load1 (i := 7) (d := 25) (T := 2) (ad := (elA A1 1 (x1) 0)) (v := .int .i64 (x3)) (by kernel_rfl) (qT (qT (qB (qT (qL (qB (qT (qT qZ)))))))) (by kernel_rfl) (by kernel_rfl) vt2 (fun W hW => Sl.cell (Z2.chg hW Dj.nil) hx3 0 (by rfl)) ?_
    refine wH_done (by kernel_rfl) ?_
    refine eX_tail ?_
    refine wS_pure 1 [(26, .bool (x2 != x3))] (by kernel_rfl) ?_
    refine wS_end (by rfl) ?_
    refine eX_then ?_
    refine cW_cond (t := x2 != x3) (by kernel_rfl) (fun hb3 => ?_) (fun hb3 => ?_)
    ·have hm := condT hb3 hm
     refine cW_seq ?_
     refine cW_drawnTail [] 8 (by kernel_rfl) (by kernel_rfl) (fun w3 hc2 => ?_)
     replace F2 := F2.chg hc2 Dj.nil
     replace F3 := F3.chg hc2 Dj.nil
     replace hB := hB.inS hc2 inNil
     replace hZ := Nat.le_trans hZ hc2.size
     have hS := Chg.refl [] w3
     have Z3 := F2
     have Z4 := F3
     refine wH_take [0, 1] [1, 0] [(28, .int .i64 (x1)), (27, .slice A0 (l0).length cap0)] (by kernel_rfl) (qT (qT (qB (qT (qL (qB (qT (qT qZ)))))))) (by kernel_rfl) ?_
     obtain ⟨x4, hx4, hm⟩ := bindE hm
     refine wH_idx (i := 2) (d := 29) (T := 24) (A := A0) (n := (l0).length) (cap := cap0) (kd := .i64) (m := x1) (by kernel_rfl) (qT (qT (qB (qT (qL (qB (qT (qT qZ)))))))) (by kernel_rfl) (by kernel_rfl) sl24 (F2.is hx4) ?_
     refine wH_load1 (i := 3) (d := 30) (T := 2) (ad := (elA A0 1 (x1) 0)) (v := .int .i64 (x4)) (by kernel_rfl) (qT (qT (qB (qT (qL (qB (qT (qT qZ)))))))) (by kernel_rfl) (by kernel_rfl) vt2 (fun W hW => Sl.cell (Z3.chg hW Dj.nil) hx4 0 (by rfl)) ?_
     refine wH_take [4, 5] [5, 4, 3, 2, 1, 0] [(32, .int .i64 (x1)), (31, .slice A1 (l1).length cap1)] (by kernel_rfl) (qT (qT (qB (qT (qL (qB (qT (qT qZ)))))))) (by kernel_rfl) ?_
     obtain ⟨x5, hx5, hm⟩ := bindE hm
     refine wH_idx (i := 6) (d := 33) (T := 24) (A := A1) (n := (l1).length) (cap := cap1) (kd := .i64) (m := x1) (by kernel_rfl) (qT (qT (qB (qT (qL (qB (qT (qT qZ)))))))) (by kernel_rfl) (by kernel_rfl) sl24 (F3.is hx5) ?_
     refine wH_load1 (i := 7) (d := 34) (T := 2) (ad := (elA A1 1 (x1) 0)) (v := .int .i64 (x5)) (by kernel_rfl) (qT (qT (qB (qT (qL (qB (qT (qT qZ)))))))) (by kernel_rfl) (by kernel_rfl) vt2 (fun W hW => Sl.cell (Z4.chg hW Dj.nil) hx5 0 (by rfl)) ?_
     refine wH_done (by kernel_rfl) ?_
     refine eX_tail ?_
     refine wS_pure 2 [(4, .bool (decide (x4 < x5))), (35, .bool (decide (x4 < x5)))] (by kernel_rfl) ?_
     refine wS_end (by rfl) ?_
     refine eX_then ?_
     refine cW_prune [(4, .bool (decide (x4 < x5)))] (by kernel_rfl) (by kernel_rfl) (fun a1 => ?_)
     refine cW_ret ?_
     refine eX_block_ret ?_
     refine eX_then_ret ?_
     have hq : (some (Ctl.out (Sum.inr (decide (x4 < x5)))) : Option (Ctl (Int) (Sum (Unit) ((Bool))))) = some _ := hm
     replace hq := someE hq
     subst hq
     refine eX_outR hx1 (fun hr => ?_)
     subst hr
     refine eX_block_ret ?_
     refine eX_then_ret ?_
     refine eX_then_ret ?_
     have hq : (some (decide (x4 < x5)) : Option ((Bool))) = some _ := hm1
     replace hq := someE hq
     subst hq
     refine eX_ret (vs := [.bool (decide (x4 < x5))]) [.tmp 4] (by rfl) ⟨by (show lkE _ _ _ = _); kernel_rfl, trivial⟩ ?_
     exact ⟨rfl, hB⟩
    ·have hm := condF hb3 hm
     refine cW_skip ?_
     refine eX_block ?_
     refine eX_then ?_
     refine cW_region ?_
     refine wS_pure 3 [(5, .int .i64 (wr (x1 + 1))), (17, .int .i64 (wr (x1 + 1))), (16, .int .i64 (x1))] (by kernel_rfl) ?_
     refine wS_end (by rfl) ?_
     have hq : (some (Ctl.next (wr (x1 + 1))) : Option (Ctl (Int) (Sum (Unit) ((Bool))))) = some _ := hm
     replace hq := someE hq
     subst hq
     exact eX_next hx1 (fun hst => ⟨wr (x1 + 1), rfl, Fr.of hst (by kernel_rfl), F2, F3, hB, hZ⟩)
   ·have hm := condF hb2 hm
    refine cW_exit ?_
    refine eX_then_exit ?_
    have hq : (some (Ctl.out (Sum.inl (()))) : Option (Ctl (Int) (Sum (Unit) ((Bool))))) = some _ := hm
    replace hq := someE hq
    subst hq
    refine eX_outX hx1 (fun hr2 => ?_)
    replace hr2 := hr2.symm
    subst hr2
    refine eX_block_hit ?_
    exact eX_J (fun hst => ⟨rfl, Fr.of hst (by kernel_rfl), F2, F3, hB, hZ⟩)
  ·have hm := condF hb1 hm
   rewrite [hb1]
   refine wS_pure 5 [(15, .bool (false)), (14, undef), (13, undef), (12, undef), (11, undef)] (by kernel_rfl) ?_
   refine wS_end (by rfl) ?_
   refine eX_then ?_
   refine cW_cond_f (by kernel_rfl) ?_
   refine cW_exit ?_
   refine eX_then_exit ?_
   have hq : (some (Ctl.out (Sum.inl (()))) : Option (Ctl (Int) (Sum (Unit) ((Bool))))) = some _ := hm
   replace hq := someE hq
   subst hq
   refine eX_outX hx1 (fun hr3 => ?_)
   replace hr3 := hr3.symm
   subst hr3
   refine eX_block_hit ?_
   exact eX_J (fun hst => ⟨rfl, Fr.of hst (by kernel_rfl), F2, F3, hB, hZ⟩)
 ·rintro a' w4 ⟨hJ, hF2, F4, F5, hB, hZ⟩
  subst hJ
  refine Fr.goX hF2 (by kernel_rfl) ?_
  refine eX_then ?_
  refine cW_seq ?_
  refine cW_region ?_
  refine wS_pure 6 [(4, .bool (decide ((((l0).length : Int)) < (((l1).length : Int))))), (40, .bool (decide ((((l0).length : Int)) < (((l1).length : Int))))), (39, .int .i64 (((l1).length : Int))), (38, .slice A1 (l1).length cap1), (37, .int .i64 (((l0).length : Int))), (36, .slice A0 (l0).length cap0)] (by kernel_rfl) ?_
  refine wS_end (by rfl) ?_
  refine eX_then ?_
  refine cW_ret ?_
  have hq : (some (decide ((((l0).length : Int)) < (((l1).length : Int)))) : Option ((Bool))) = some _ := hm
  replace hq := someE hq
  subst hq
  refine eX_ret (vs := [.bool (decide ((((l0).length : Int)) < (((l1).length : Int))))]) [.tmp 4] (by rfl) ⟨by (show lkE _ _ _ = _); kernel_rfl, trivial⟩ ?_
  exact ⟨rfl, hB⟩

set_option maxRecDepth 100000 in
/-- spec.l03Fits -/
theorem c_spec_l03Fits_bspecl03Things {w0 : World} {l0_0 : List (Int)} {A0_0 : Option Addr} {cap0_0 : Nat} {fp0_0 : List Nat} {l0_1 : List (List (Bool))} {A0_1 : Option Addr} {cap0_1 : Nat} {fp0_1 : List Nat} {l0_2 : List (List (Bool))} {A0_2 : Option Addr} {cap0_2 : Nat} {fp0_2 : List Nat} {b0 : Nat} {p1 : Int} {p2 : Int} {r : (Bool)} (hm : m_spec_l03Fits_bspecl03Things l0_0 l0_1 l0_2 p1 p2 = some r) (F0_0 : Sl 1 encI w0 fp0_0 A0_0 l0_0) (F0_1 : SlR 1 encB w0 fp0_1 A0_1 l0_1) (F0_2 : SlR 1 encB w0 fp0_2 A0_2 l0_2) (F0 : Cl w0 b0 94 [.slice A0_0 (l0_0).length cap0_0, .slice A0_1 (l0_1).length cap0_1, .slice A0_2 (l0_2).length cap0_2]) :
  Calls Tryd.prog 96 #[.pointer (some ⟨b0, 0, none⟩), .int .i64 (p1), .int .i64 (p2)] w0 fun e w' => e = .returned (.bool (r)) ∧ Chg [] w0 w' := by
 have L0_0 := F0_0.low
 have L0_1 := F0_1.low
 have L0_2 := F0_2.low
 have L0 := lt1 F0.lt
 have hB : Chg [] w0 w0 := Chg.refl _ _
 have hZ := Nat.le_refl w0.heap.size
 unfold m_spec_l03Fits_bspecl03Things at hm
 refine enterE (N := 71) Tryd.func96 (by rfl) Tryd.ntmps96 (by simp) [(0, .pointer (some ⟨b0, 0, none⟩)), (1, .int .i64 (p1)), (2, .int .i64 (p2))] (by rfl) (by kernel_rfl) (fun a => ?_)
 refine cW_seq ?_
 refine cW_region ?_
 refine wS_pure 1 [(6, .bool (false))] (by kernel_rfl) ?_
 refine wS_end (by rfl) ?_
 refine eX_then ?_
 refine cW_seq ?_
 refine cW_seq ?_
 refine cW_region ?_
 refine wS_pure 1 [(7, .int .i64 (0))] (by kernel_rfl) ?_
 refine wS_end (by rfl) ?_
 refine eX_then ?_
 obtain ⟨r1, hr1, hm⟩ := bindE hm
 have hm1 := hm
 refine cW_cut (fun a' w' => Sum.inl (()) = r1 ∧ Fr 71 [(1, .int .i64 (p1))] a' ∧ Chg [] w0 w' ∧ w0.heap.size ≤ w'.heap.size) ?_ ?_
 ·refine cW_block ?_
  refine cW_loop _ (fun (s1 : Int) a' w' => ∃ x1 : Int, x1 = s1 ∧ Fr 71 [(0, .pointer (some ⟨b0, 0, none⟩)), (1, .int .i64 (p1)), (2, .int .i64 (p2)), (7, .int .i64 (x1))] a' ∧ Sl 1 encI w' fp0_0 A0_0 l0_0 ∧ SlR 1 encB w' fp0_1 A0_1 l0_1 ∧ SlR 1 encB w' fp0_2 A0_2 l0_2 ∧ Cl w' b0 94 [.slice A0_0 (l0_0).length cap0_0, .slice A0_1 (l0_1).length cap0_1, .slice A0_2 (l0_2).length cap0_2] ∧ Chg [] w0 w' ∧ w0.heap.size ≤ w'.heap.size) hr1 (fun hst => ⟨0, rfl, Fr.of hst (by kernel_rfl), F0_0, F0_1, F0_2, F0, hB, hZ⟩) ?_
  rintro _ c1 a' w1 ⟨x1, rfl, hF1, F1, F2, F3, F4, hB, hZ⟩ hx1
  refine Fr.goOn hF1 (by kernel_rfl) ?_
  have hm := hx1
  unfold m_spec_l03Fits_bspecl03Things_s3 at hm
  refine cW_seq ?_
  refine cW_seq ?_
  refine cW_region ?_
  refine wS_pure 4 [(12, .pointer (some ⟨b0, 0, none⟩)), (11, .pointer (some ⟨b0, 0, none⟩)), (10, .pointer (some ⟨b0, 0, none⟩)), (9, .int .i64 (x1))] (by kernel_rfl) ?_
  refine wS_load1 (d := 13) (T := 24) (ad := ⟨b0, 0, none⟩) (v := .slice A0_0 (l0_0).length cap0_0) (by kernel_rfl) vt24 ((F4).cell 0) ?_
  refine wS_pure 2 [(15, .bool (decide (x1 < (((l0_0).length : Int))))), (14, .int .i64 (((l0_0).length : Int)))] (by kernel_rfl) ?_
  refine wS_end (by rfl) ?_
  refine eX_then ?_
  refine cW_cond (t := decide (x1 < (((l0_0).length : Int)))) (by kernel_rfl) (fun hb1 => ?_) (fun hb1 => ?_)
  ·have hm := condT hb1 hm
   refine cW_skip ?_
   refine eX_then ?_
   refine cW_seq ?_
   refine cW_block ?_
   refine cW_seq ?_
   refine cW_seq ?_
   refine cW_region ?_
   refine wS_pure 3 [(20, .int .u64 (wu x1)), (19, .int .i64 (x1)), (18, .int .i64 (p1))] (by kernel_rfl) ?_
   obtain ⟨u1, hu1, hm⟩ := bindE hm
   refine wS_shr (d := 21) (x := p1) (y := wu x1) (yk := .u64) (by kernel_rfl) (p0E hu1) ?_
   refine wS_pure 2 [(23, .bool ((andI (shrI p1 (wu x1)) 1) == 0)), (22, .int .i64 (andI (shrI p1 (wu x1)) 1))] (by kernel_rfl) ?_
   refine wS_end (by rfl) ?_
   refine eX_then ?_
   refine cW_cond (t := (andI (shrI p1 (wu x1)) 1) == 0) (by kernel_rfl) (fun hb2 => ?_) (fun hb2 => ?_)
   ·have hm := condT hb2 hm
    refine cW_exit ?_
    refine eX_then_exit ?_
    refine eX_block_hit ?_
    refine eX_then ?_
    refine cW_region ?_
    refine wS_pure 3 [(7, .int .i64 (wr (x1 + 1))), (17, .int .i64 (wr (x1 + 1))), (16, .int .i64 (x1))] (by kernel_rfl) ?_
    refine wS_end (by rfl) ?_
    have hq : (some (Ctl.next (wr (x1 + 1))) : Option (Ctl (Int) (Sum (Unit) ((Bool))))) = some _ := hm
    replace hq := someE hq
    subst hq
    exact eX_next hx1 (fun hst => ⟨wr (x1 + 1), rfl, Fr.of hst (by kernel_rfl), F1, F2, F3, F4, hB, hZ⟩)
   ·have hm := condF hb2 hm
    refine cW_skip ?_
    refine eX_then ?_
    refine cW_seq ?_
    refine cW_region ?_
    refine wS_pure 1 [(8, .int .i64 (0))] (by kernel_rfl) ?_
    refine wS_end (by rfl) ?_
    refine eX_then ?_
    obtain ⟨r2, hr2, hm⟩ := bindE hm
    have hm2 := hm
    refine cW_cut (fun a' w' => Sum.inl (()) = r2 ∧ Fr 71 [(0, .pointer (some ⟨b0, 0, none⟩)), (1, .int .i64 (p1)), (2, .int .i64 (p2)), (7, .int .i64 (x1))] a' ∧ Sl 1 encI w' fp0_0 A0_0 l0_0 ∧ SlR 1 encB w' fp0_1 A0_1 l0_1 ∧ SlR 1 encB w' fp0_2 A0_2 l0_2 ∧ Cl w' b0 94 [.slice A0_0 (l0_0).length cap0_0, .slice A0_1 (l0_1).length cap0_1, .slice A0_2 (l0_2).length cap0_2] ∧ Chg [] w0 w' ∧ w0.heap.size ≤ w'.heap.size) ?_ ?_
    ·refine cW_block ?_
     refine cW_loop _ (fun (s2 : Int) a' w' => ∃ x2 : Int, x2 = s2 ∧ Fr 71 [(0, .pointer (some ⟨b0, 0, none⟩)), (1, .int .i64 (p1)), (2, .int .i64 (p2)), (7, .int .i64 (x1)), (8, .int .i64 (x2))] a' ∧ Sl 1 encI w' fp0_0 A0_0 l0_0 ∧ SlR 1 encB w' fp0_1 A0_1 l0_1 ∧ SlR 1 encB w' fp0_2 A0_2 l0_2 ∧ Cl w' b0 94 [.slice A0_0 (l0_0).length cap0_0, .slice A0_1 (l0_1).length cap0_1, .slice A0_2 (l0_2).length cap0_2] ∧ Chg [] w0 w' ∧ w0.heap.size ≤ w'.heap.size) hr2 (fun hst => ⟨0, rfl, Fr.of hst (by kernel_rfl), F1, F2, F3, F4, hB, hZ⟩) ?_
     rintro _ c2 a' w2 ⟨x2, rfl, hF2, F5, F6, F7, F8, hB, hZ⟩ hx2
     refine Fr.goOn hF2 (by kernel_rfl) ?_
     have hm := hx2
     unfold m_spec_l03Fits_bspecl03Things_s4 at hm
     refine cW_seq ?_
     refine cW_seq ?_
     refine cW_region ?_
     refine wS_pure 4 [(27, .pointer (some ⟨b0, 0, none⟩)), (26, .pointer (some ⟨b0, 0, none⟩)), (25, .pointer (some ⟨b0, 0, none⟩)), (24, .int .i64 (x2))] (by kernel_rfl) ?_
     refine wS_load1 (d := 28) (T := 24) (ad := ⟨b0, 0, none⟩) (v := .slice A0_0 (l0_0).length cap0_0) (by kernel_rfl) vt24 ((F8).cell 0) ?_
     refine wS_pure 2 [(30, .bool (decide (x2 < (((l0_0).length : Int))))), (29, .int .i64 (((l0_0).length : Int)))] (by kernel_rfl) ?_
     refine wS_end (by rfl) ?_
     refine eX_then ?_
     refine cW_cond (t := decide (x2 < (((l0_0).length : Int)))) (by kernel_rfl) (fun hb3 => ?_) (fun hb3 => ?_)
     ·have hm := condT hb3 hm
      refine cW_skip ?_
      refine eX_then ?_
      refine cW_seq ?_
      refine cW_block ?_
      refine cW_seq ?_
      refine cW_seq ?_
      refine cW_region ?_
      refine wS_pure 3 [(35, .int .u64 (wu x2)), (34, .int .i64 (x2)), (33, .int .i64 (p2))] (by kernel_rfl) ?_
      obtain ⟨u2, hu2, hm⟩ := bindE hm
      refine wS_shr (d := 36) (x := p2) (y := wu x2) (yk := .u64) (by kernel_rfl) (p0E hu2) ?_
      refine wS_pure 2 [(38, .bool ((andI (shrI p2 (wu x2)) 1) == 0)), (37, .int .i64 (andI (shrI p2 (wu x2)) 1))] (by kernel_rfl) ?_
      refine wS_end (by rfl) ?_
      refine eX_then ?_
      refine cW_cond (t := (andI (shrI p2 (wu x2)) 1) == 0) (by kernel_rfl) (fun hb4 => ?_) (fun hb4 => ?_)
      ·have hm := condT hb4 hm
       refine cW_exit ?_
       refine eX_then_exit ?_
       refine eX_block_hit ?_
       refine eX_then ?_
       refine cW_region ?_
       refine wS_pure 3 [(8, .int .i64 (wr (x2 + 1))), (32, .int .i64 (wr (x2 + 1))), (31, .int .i64 (x2))] (by kernel_rfl) ?_
       refine wS_end (by rfl) ?_
       have hq : (some (Ctl.next (wr (x2 + 1))) : Option (Ctl (Int) (Sum (Unit) ((Bool))))) = some _ := hm
       replace hq := someE hq
       subst hq
       exact eX_next hx2 (fun hst => ⟨wr (x2 + 1), rfl, Fr.of hst (by kernel_rfl), F5, F6, F7, F8, hB, hZ⟩)
      ·have hm := condF hb4 hm
       refine cW_skip ?_
       refine eX_then ?_
       refine cW_seq ?_
       refine cW_region ?_
       refine wS_pure 3 [(41, .pointer (some ⟨b0, 2, none⟩)), (40, .pointer (some ⟨b0, 0, none⟩)), (39, .pointer (some ⟨b0, 0, none⟩))] (by kernel_rfl) ?_
       refine wS_load1 (d := 42) (T := 92) (ad := ⟨b0, 2, none⟩) (v := .slice A0_2 (l0_2).length cap0_2) (by kernel_rfl) vt92 ((F8).cell 2) ?_
       refine wS_pure 1 [(43, .int .i64 (x2))] (by kernel_rfl) ?_
       obtain ⟨x3, hx3, hm⟩ := bindE hm
       refine wS_idx (d := 44) (T := 92) (A := A0_2) (n := (l0_2).length) (cap := cap0_2) (kd := .i64) (m := x2) (by kernel_rfl) sl92 (F7.is hx3) ?_
       obtain ⟨A1, cap1, hc1, F9, K1⟩ := SlR.row F7 hx3
       refine wS_load1 (d := 45) (T := 120) (ad := (elA A0_2 1 (x2) 0)) (v := .slice A1 (x3).length cap1) (by kernel_rfl) vt120 hc1 ?_
       refine wS_pure 1 [(46, .int .i64 (x1))] (by kernel_rfl) ?_
       obtain ⟨x4, hx4, hm⟩ := bindE hm
       refine wS_idx (d := 47) (T := 120) (A := A1) (n := (x3).length) (cap := cap1) (kd := .i64) (m := x1) (by kernel_rfl) sl120 (F9.is hx4) ?_
       refine wS_load1 (d := 48) (T := 4) (ad := (elA A1 1 (x1) 0)) (v := .bool (x4)) (by kernel_rfl) vt4 (Sl.cell F9 hx4 0 (by rfl)) ?_
       refine wS_pure 1 [(49, .bool (x4))] (by kernel_rfl) ?_
       refine wS_bool x4 (fun hb5 => ?_) (fun hb5 => ?_)
       ·have hm := condT hb5 hm
        subst hb5
        refine wS_pure 19 [(68, .bool (true)), (67, undef), (66, undef), (65, undef), (64, undef), (63, undef), (62, undef), (61, undef), (60, undef), (59, undef), (58, undef), (57, undef), (56, undef), (55, undef), (54, undef), (53, undef), (52, undef), (51, undef), (50, undef)] (by kernel_rfl) ?_
        refine wS_end (by rfl) ?_
        refine eX_then ?_
        refine cW_prune [(0, .pointer (some ⟨b0, 0, none⟩)), (1, .int .i64 (p1)), (2, .int .i64 (p2)), (7, .int .i64 (x1)), (8, .int .i64 (x2)), (68, .bool (true))] (by kernel_rfl) (by kernel_rfl) (fun a1 => ?_)
        refine cW_cond_t (by kernel_rfl) ?_
        refine cW_seq ?_
        refine cW_region ?_
        refine wS_pure 1 [(6, .bool (false))] (by kernel_rfl) ?_
        refine wS_end (by rfl) ?_
        refine eX_then ?_
        refine cW_ret ?_
        refine eX_block_ret ?_
        refine eX_then_ret ?_
        have hq : (some (Ctl.out (Sum.inr false)) : Option (Ctl (Int) (Sum (Unit) ((Bool))))) = some _ := hm
        replace hq := someE hq
        subst hq
        refine eX_outR hx2 (fun hr => ?_)
        subst hr
        refine eX_block_ret ?_
        refine eX_then_ret ?_
        refine eX_block_ret ?_
        refine eX_then_ret ?_
        have hq : (some (Ctl.out (Sum.inr false)) : Option (Ctl (Int) (Sum (Unit) ((Bool))))) = some _ := hm2
        replace hq := someE hq
        subst hq
        refine eX_outR hx1 (fun hr => ?_)
        subst hr
        refine eX_block_ret ?_
        refine eX_then_ret ?_
        refine eX_then_ret ?_
        have hq : (some false : Option ((Bool))) = some _ := hm1
        replace hq := someE hq
        subst hq
        refine eX_ret (vs := [.bool (false)]) [.tmp 6] (by rfl) ⟨by (show lkE _ _ _ = _); kernel_rfl, trivial⟩ ?_
        exact ⟨rfl, hB⟩
       ·have hm := condF hb5 hm
        subst hb5
        refine wS_pure 3 [(52, .pointer (some ⟨b0, 1, none⟩)), (51, .pointer (some ⟨b0, 0, none⟩)), (50, .pointer (some ⟨b0, 0, none⟩))] (by kernel_rfl) ?_
        refine wS_load1 (d := 53) (T := 92) (ad := ⟨b0, 1, none⟩) (v := .slice A0_1 (l0_1).length cap0_1) (by kernel_rfl) vt92 ((F8).cell 1) ?_
        refine wS_pure 1 [(54, .int .i64 (x1))] (by kernel_rfl) ?_
        obtain ⟨x5, hx5, hm⟩ := bindE hm
        refine wS_idx (d := 55) (T := 92) (A := A0_1) (n := (l0_1).length) (cap := cap0_1) (kd := .i64) (m := x1) (by kernel_rfl) sl92 (F6.is hx5) ?_
        obtain ⟨A2, cap2, hc2, F10, K2⟩ := SlR.row F6 hx5
        refine wS_load1 (d := 56) (T := 120) (ad := (elA A0_1 1 (x1) 0)) (v := .slice A2 (x5).length cap2) (by kernel_rfl) vt120 hc2 ?_
        refine wS_pure 1 [(57, .int .i64 (x2))] (by kernel_rfl) ?_
        obtain ⟨x6, hx6, hm⟩ := bindE hm
        refine wS_idx (d := 58) (T := 120) (A := A2) (n := (x5).length) (cap := cap2) (kd := .i64) (m := x2) (by kernel_rfl) sl120 (F10.is hx6) ?_
        refine wS_load1 (d := 59) (T := 4) (ad := (elA A2 1 (x2) 0)) (v := .bool (x6)) (by kernel_rfl) vt4 (Sl.cell F10 hx6 0 (by rfl)) ?_
        refine wS_pure 1 [(60, .bool (x6))] (by kernel_rfl) ?_
        refine wS_bool x6 (fun hb6 => ?_) (fun hb6 => ?_)
        ·have hm := condT hb6 hm
         subst hb6
         refine wS_pure 3 [(63, .int .u64 (wu x2)), (62, .int .i64 (x2)), (61, .int .i64 (p1))] (by kernel_rfl) ?_
         obtain ⟨u3, hu3, hm⟩ := bindE hm
         refine wS_shr (d := 64) (x := p1) (y := wu x2) (yk := .u64) (by kernel_rfl) (p0E hu3) ?_
         refine wS_pure 4 [(68, .bool ((andI (shrI p1 (wu x2)) 1) == 1)), (67, .bool ((andI (shrI p1 (wu x2)) 1) == 1)), (66, .bool ((andI (shrI p1 (wu x2)) 1) == 1)), (65, .int .i64 (andI (shrI p1 (wu x2)) 1))] (by kernel_rfl) ?_
         refine wS_end (by rfl) ?_
         refine eX_then ?_
         refine cW_prune [(0, .pointer (some ⟨b0, 0, none⟩)), (1, .int .i64 (p1)), (2, .int .i64 (p2)), (7, .int .i64 (x1)), (8, .int .i64 (x2)), (68, .bool ((andI (shrI p1 (wu x2)) 1) == 1))] (by kernel_rfl) (by kernel_rfl) (fun a2 => ?_)
         refine cW_cond (t := (andI (shrI p1 (wu x2)) 1) == 1) (by kernel_rfl) (fun hb7 => ?_) (fun hb7 => ?_)
         ·have hm := condT hb7 hm
          refine cW_seq ?_
          refine cW_region ?_
          refine wS_pure 1 [(6, .bool (false))] (by kernel_rfl) ?_
          refine wS_end (by rfl) ?_
          refine eX_then ?_
          refine cW_ret ?_
          refine eX_block_ret ?_
          refine eX_then_ret ?_
          have hq : (some (Ctl.out (Sum.inr false)) : Option (Ctl (Int) (Sum (Unit) ((Bool))))) = some _ := hm
          replace hq := someE hq
          subst hq
          refine eX_outR hx2 (fun hr => ?_)
          subst hr
          refine eX_block_ret ?_
          refine eX_then_ret ?_
          refine eX_block_ret ?_
          refine eX_then_ret ?_
          have hq : (some (Ctl.out (Sum.inr false)) : Option (Ctl (Int) (Sum (Unit) ((Bool))))) = some _ := hm2
          replace hq := someE hq
          subst hq
          refine eX_outR hx1 (fun hr => ?_)
          subst hr
          refine eX_block_ret ?_
          refine eX_then_ret ?_
          refine eX_then_ret ?_
          have hq : (some false : Option ((Bool))) = some _ := hm1
          replace hq := someE hq
          subst hq
          refine eX_ret (vs := [.bool (false)]) [.tmp 6] (by rfl) ⟨by (show lkE _ _ _ = _); kernel_rfl, trivial⟩ ?_
          exact ⟨rfl, hB⟩
         ·have hm := condF hb7 hm
          refine cW_skip ?_
          refine eX_block ?_
          refine eX_then ?_
          refine cW_region ?_
          refine wS_pure 3 [(8, .int .i64 (wr (x2 + 1))), (32, .int .i64 (wr (x2 + 1))), (31, .int .i64 (x2))] (by kernel_rfl) ?_
          refine wS_end (by rfl) ?_
          have hq : (some (Ctl.next (wr (x2 + 1))) : Option (Ctl (Int) (Sum (Unit) ((Bool))))) = some _ := hm
          replace hq := someE hq
          subst hq
          exact eX_next hx2 (fun hst => ⟨wr (x2 + 1), rfl, Fr.of hst (by kernel_rfl), F5, F6, F7, F8, hB, hZ⟩)
        ·have hm := condF hb6 hm
         subst hb6
         refine wS_pure 8 [(68, .bool (false)), (67, .bool (false)), (66, undef), (65, undef), (64, undef), (63, undef), (62, undef), (61, undef)] (by kernel_rfl) ?_
         refine wS_end (by rfl) ?_
         refine eX_then ?_
         refine cW_prune [(0, .pointer (some ⟨b0, 0, none⟩)), (1, .int .i64 (p1)), (2, .int .i64 (p2)), (7, .int .i64 (x1)), (8, .int .i64 (x2)), (68, .bool (false))] (by kernel_rfl) (by kernel_rfl) (fun a3 => ?_)
         refine cW_cond_f (by kernel_rfl) ?_
         refine cW_skip ?_
         refine eX_block ?_
         refine eX_then ?_
         refine cW_region ?_
         refine wS_pure 3 [(8, .int .i64 (wr (x2 + 1))), (32, .int .i64 (wr (x2 + 1))), (31, .int .i64 (x2))] (by kernel_rfl) ?_
         refine wS_end (by rfl) ?_
         have hq : (some (Ctl.next (wr (x2 + 1))) : Option (Ctl (Int) (Sum (Unit) ((Bool))))) = some _ := hm
         replace hq := someE hq
         subst hq
         exact eX_next hx2 (fun hst => ⟨wr (x2 + 1), rfl, Fr.of hst (by kernel_rfl), F5, F6, F7, F8, hB, hZ⟩)
     ·have hm := condF hb3 hm
      refine cW_exit ?_
      refine eX_then_exit ?_
      have hq : (some (Ctl.out (Sum.inl (()))) : Option (Ctl (Int) (Sum (Unit) ((Bool))))) = some _ := hm
      replace hq := someE hq
      subst hq
      refine eX_outX hx2 (fun hr3 => ?_)
      replace hr3 := hr3.symm
      subst hr3
      refine eX_block_hit ?_
      exact eX_J (fun hst => ⟨rfl, Fr.of hst (by kernel_rfl), F5, F6, F7, F8, hB, hZ⟩)
    ·rintro a' w3 ⟨hJ, hF3, F11, F12, F13, F14, hB, hZ⟩
     subst hJ
     refine Fr.goX hF3 (by kernel_rfl) ?_
     refine eX_block ?_
     refine eX_then ?_
     refine cW_region ?_
     refine wS_pure 3 [(7, .int .i64 (wr (x1 + 1))), (17, .int .i64 (wr (x1 + 1))), (16, .int .i64 (x1))] (by kernel_rfl) ?_
     refine wS_end (by rfl) ?_
     have hq : (some (Ctl.next (wr (x1 + 1))) : Option (Ctl (Int) (Sum (Unit) ((Bool))))) = some _ := hm
     replace hq := someE hq
     subst hq
     exact eX_next hx1 (fun hst => ⟨wr (x1 + 1), rfl, Fr.of hst (by kernel_rfl), F11, F12, F13, F14, hB, hZ⟩)
  ·have hm := condF hb1 hm
   refine cW_exit ?_
   refine eX_then_exit ?_
   have hq : (some (Ctl.out (Sum.inl (()))) : Option (Ctl (Int) (Sum (Unit) ((Bool))))) = some _ := hm
   replace hq := someE hq
   subst hq
   refine eX_outX hx1 (fun hr4 => ?_)
   replace hr4 := hr4.symm
   subst hr4
   refine eX_block_hit ?_
   exact eX_J (fun hst => ⟨rfl, Fr.of hst (by kernel_rfl), hB, hZ⟩)
 ·rintro a' w4 ⟨hJ, hF4, hB, hZ⟩
  subst hJ
  refine Fr.goX hF4 (by kernel_rfl) ?_
  refine eX_then ?_
  refine cW_seq ?_
  refine cW_region ?_
  refine wS_pure 3 [(6, .bool (p1 != 0)), (70, .bool (p1 != 0)), (69, .int .i64 (p1))] (by kernel_rfl) ?_
  refine wS_end (by rfl) ?_
  refine eX_then ?_
  refine cW_ret ?_
  have hq : (some (p1 != 0) : Option ((Bool))) = some _ := hm
  replace hq := someE hq
  subst hq
  refine eX_ret (vs := [.bool (p1 != 0)]) [.tmp 6] (by rfl) ⟨by (show lkE _ _ _ = _); kernel_rfl, trivial⟩ ?_
  exact ⟨rfl, hB⟩

set_option maxRecDepth 100000 in
/-- spec.l03Fewest -/
theorem c_spec_l03Fewest_bspecl03Things {w0 : World} {l0_0 : List (Int)} {A0_0 : Option Addr} {cap0_0 : Nat} {fp0_0 : List Nat} {l0_1 : List (List (Bool))} {A0_1 : Option Addr} {cap0_1 : Nat} {fp0_1 : List Nat} {l0_2 : List (List (Bool))} {A0_2 : Option Addr} {cap0_2 : Nat} {fp0_2 : List Nat} {b0 : Nat} {r : (List (List (Int))) × (Bool)} (hm : m_spec_l03Fewest_bspecl03Things l0_0 l0_1 l0_2 = some r) (F0_0 : Sl 1 encI w0 fp0_0 A0_0 l0_0) (F0_1 : SlR 1 encB w0 fp0_1 A0_1 l0_1) (F0_2 : SlR 1 encB w0 fp0_2 A0_2 l0_2) (F0 : Cl w0 b0 94 [.slice A0_0 (l0_0).length cap0_0, .slice A0_1 (l0_1).length cap0_1, .slice A0_2 (l0_2).length cap0_2]) :
  Calls Tryd.prog 64 #[.pointer (some ⟨b0, 0, none⟩)] w0 fun e w' => ∃ A100 cap100 fp100 fr100, e = .returned (.tuple #[.slice A100 (r.1).length cap100, .bool (r.2)]) ∧ OwR 1 encI 24 2 w' fp100 fr100 A100 cap100 r.1 ∧ (∀ x ∈ fp100 ++ fr100, w0.heap.size ≤ x) ∧ Chg [] w0 w' := by
 have L0_0 := F0_0.low
 have L0_1 := F0_1.low
 have L0_2 := F0_2.low
 have L0 := lt1 F0.lt
 have hB : Chg [] w0 w0 := Chg.refl _ _
 have hZ := Nat.le_refl w0.heap.size
 unfold m_spec_l03Fewest_bspecl03Things at hm
 refine enterE (N := 154) Tryd.func64 (by rfl) Tryd.ntmps64 (by simp) [(0, .pointer (some ⟨b0, 0, none⟩))] (by rfl) (by kernel_rfl) (fun a => ?_)
 refine cW_seq ?_
 refine cW_region ?_
 refine wS_pure 2 [(3, .bool (false)), (2, .slice none 0 0)] (by kernel_rfl) ?_
 refine wS_end (by rfl) ?_
 refine eX_then ?_
 refine cW_seq ?_
 refine cW_region ?_
 refine wS_pure 3 [(19, .pointer (some ⟨b0, 0, none⟩)), (18, .pointer (some ⟨b0, 0, none⟩)), (17, .pointer (some ⟨b0, 0, none⟩))] (by kernel_rfl) ?_
 refine wS_load1 (d := 20) (T := 24) (ad := ⟨b0, 0, none⟩) (v := .slice A0_0 (l0_0).length cap0_0) (by kernel_rfl) vt24 ((F0).cell 0) ?_
 refine wS_pure 2 [(4, .int .i64 (((l0_0).length : Int))), (21, .int .i64 (((l0_0).length : Int)))] (by kernel_rfl) ?_
 refine wS_end (by rfl) ?_
 refine eX_then ?_
 refine cW_seq ?_
 refine cW_region ?_
 refine wS_pure 2 [(23, .int .u64 (wu (((l0_0).length : Int)))), (22, .int .i64 (((l0_0).length : Int)))] (by kernel_rfl) ?_
 obtain ⟨u1, hu1, hm⟩ := bindE hm
 refine wS_shl (d := 24) (x := 1) (y := wu (((l0_0).length : Int))) (yk := .u64) (by kernel_rfl) (p0E hu1) ?_
 refine wS_pure 1 [(5, .int .i64 (shlI 1 (wu (((l0_0).length : Int)))))] (by kernel_rfl) ?_
 refine wS_end (by rfl) ?_
 refine eX_then ?_
 refine cW_seq ?_
 refine cW_region ?_
 refine wS_pure 1 [(25, .int .i64 (shlI 1 (wu (((l0_0).length : Int)))))] (by kernel_rfl) ?_
 obtain ⟨_, hk1, hm⟩ := bindE hm
 replace hk1 := mkE hk1
 refine wS_make (enc := encI) (x0 := (0 : Int)) (d := 26) (t := 24) (T := 2) (k1 := .i64) (k2 := .i64) (m := shlI 1 (wu (((l0_0).length : Int)))) (by kernel_rfl) el24 encI_ok (by rfl) hk1.1 hk1.2 ?_
 intro b1 w1 G1 F1 hc1
 replace F0_0 := F0_0.chg hc1 Dj.nil
 replace F0_1 := F0_1.chg hc1 Dj.nil
 replace F0_2 := F0_2.chg hc1 Dj.nil
 replace F0 := F0.chg hc1 notNil
 replace hB := hB.inS hc1 inNil
 replace G1 := Nat.le_trans hZ G1
 replace G1 := low1 G1
 replace hZ := Nat.le_trans hZ hc1.size
 refine wS_pure 1 [(6, .slice (some ⟨b1, 0, none⟩) (List.replicate (Int.toNat (shlI 1 (wu (((l0_0).length : Int))))) ((0 : Int))).length (Int.toNat (shlI 1 (wu (((l0_0).length : Int))))))] (by kernel_rfl) ?_
 refine wS_end (by rfl) ?_
 refine eX_then ?_
 refine cW_seq ?_
 refine cW_seq ?_
 refine cW_region ?_
 refine wS_pure 1 [(7, .int .i64 (1))] (by kernel_rfl) ?_
 refine wS_end (by rfl) ?_
 refine eX_then ?_
 obtain ⟨r1, hr1, hm⟩ := bindE hm
 have hm1 := hm
 refine cW_cut (fun a' w' => ∃ l1 : List (Int), l1 = r1 ∧ Fr 154 [(0, .pointer (some ⟨b0, 0, none⟩)), (4, .int .i64 (((l0_0).length : Int))), (5, .int .i64 (shlI 1 (wu (((l0_0).length : Int))))), (6, .slice (some ⟨b1, 0, none⟩) (l1).length (Int.toNat (shlI 1 (wu (((l0_0).length : Int))))))] a' ∧ Sl 1 encI w' fp0_0 A0_0 l0_0 ∧ SlR 1 encB w' fp0_1 A0_1 l0_1 ∧ SlR 1 encB w' fp0_2 A0_2 l0_2 ∧ Cl w' b0 94 [.slice A0_0 (l0_0).length cap0_0, .slice A0_1 (l0_1).length cap0_1, .slice A0_2 (l0_2).length cap0_2] ∧ Ow 1 encI 2 w' [b1] (some ⟨b1, 0, none⟩) (Int.toNat (shlI 1 (wu (((l0_0).length : Int))))) l1 ∧ Chg [] w0 w' ∧ w0.heap.size ≤ w'.heap.size) ?_ ?_
 ·refine cW_block ?_
  refine cW_loop _ (fun (s1 : Int × (List (Int))) a' w' => ∃ x1 : Int, ∃ l3 : List (Int), (x1, l3) = s1 ∧ Fr 154 [(0, .pointer (some ⟨b0, 0, none⟩)), (4, .int .i64 (((l0_0).length : Int))), (5, .int .i64 (shlI 1 (wu (((l0_0).length : Int))))), (6, .slice (some ⟨b1, 0, none⟩) (l3).length (Int.toNat (shlI 1 (wu (((l0_0).length : Int)))))), (7, .int .i64 (x1))] a' ∧ Sl 1 encI w' fp0_0 A0_0 l0_0 ∧ SlR 1 encB w' fp0_1 A0_1 l0_1 ∧ SlR 1 encB w' fp0_2 A0_2 l0_2 ∧ Cl w' b0 94 [.slice A0_0 (l0_0).length cap0_0, .slice A0_1 (l0_1).length cap0_1, .slice A0_2 (l0_2).length cap0_2] ∧ Ow 1 encI 2 w' [b1] (some ⟨b1, 0, none⟩) (Int.toNat (shlI 1 (wu (((l0_0).length : Int))))) l3 ∧ Chg [] w0 w' ∧ w0.heap.size ≤ w'.heap.size) hr1 (fun hst => ⟨1, List.replicate (Int.toNat (shlI 1 (wu (((l0_0).length : Int))))) ((0 : Int)), rfl, Fr.of hst (by kernel_rfl), F0_0, F0_1, F0_2, F0, F1, hB, hZ⟩) ?_
  rintro _ c1 a' w2 ⟨x1, l3, rfl, hF1, F2, F3, F4, F5, F6, hB, hZ⟩ hx1
  refine Fr.goOn hF1 (by kernel_rfl) ?_
  have hm := hx1
  unfold m_spec_l03Fewest_bspecl03Things_s3 at hm
  refine cW_seq ?_
  refine cW_seq ?_
  refine cW_region ?_
  refine wS_pure 3 [(29, .bool (decide (x1 < (shlI 1 (wu (((l0_0).length : Int))))))), (28, .int .i64 (shlI 1 (wu (((l0_0).length : Int))))), (27, .int .i64 (x1))] (by kernel_rfl) ?_
  refine wS_end (by rfl) ?_
  refine eX_then ?_
  refine cW_cond (t := decide (x1 < (shlI 1 (wu (((l0_0).length : Int)))))) (by kernel_rfl) (fun hb1 => ?_) (fun hb1 => ?_)
  ·have hm := condT hb1 hm
   refine cW_skip ?_
   refine eX_then ?_
   refine cW_seq ?_
   refine cW_block ?_
   refine cW_seq ?_
   refine cW_region ?_
   refine wS_pure 2 [(33, .int .i64 (x1)), (32, .slice (some ⟨b1, 0, none⟩) (l3).length (Int.toNat (shlI 1 (wu (((l0_0).length : Int))))))] (by kernel_rfl) ?_
   obtain ⟨x2, hx2, hm⟩ := bindE hm
   refine wS_idx (d := 34) (T := 24) (A := (some ⟨b1, 0, none⟩)) (n := (l3).length) (cap := (Int.toNat (shlI 1 (wu (((l0_0).length : Int)))))) (kd := .i64) (m := x1) (by kernel_rfl) sl24 ((F6.sl encI_ok).is hx2) ?_
   refine wS_storeEl (x := x2) ((-1)) (T := 2) (U := 2) (cap := (Int.toNat (shlI 1 (wu (((l0_0).length : Int)))))) (j := 0) (A := (some ⟨b1, 0, none⟩)) (v := .int .i64 ((-1))) (vs := [.int .i64 ((-1))]) (m := x1) (by kernel_rfl) (by rfl) sz2 (by rfl) encI_ok F6 hx2 (by simp only [List.length_cons, List.length_nil]; omega) (by rfl) ?_
   intro w3 F7 hc2
   replace F2 := F2.chg hc2 (Dj.of L0_0 G1)
   replace F3 := F3.chg hc2 (Dj.of L0_1 G1)
   replace F4 := F4.chg hc2 (Dj.of L0_2 G1)
   replace F5 := F5.chg hc2 (dj1 (Dj.of L0 G1))
   replace hB := hB.inS hc2 (inLow G1)
   replace hZ := Nat.le_trans hZ hc2.size
   clear F6
   rewrite [show (l3).length = (l3.set (Int.toNat x1) ((-1))).length from (List.length_set ..).symm]
   refine wS_end (by rfl) ?_
   refine eX_then ?_
   refine cW_seq ?_
   refine cW_region ?_
   refine wS_pure 2 [(8, .int .i64 (x1)), (35, .int .i64 (x1))] (by kernel_rfl) ?_
   refine wS_end (by rfl) ?_
   refine eX_then ?_
   obtain ⟨r2, hr2, hm⟩ := bindE hm
   have hm2 := hm
   refine cW_cut (fun a' w' => ∃ l4 : List (Int), l4 = r2 ∧ Fr 154 [(0, .pointer (some ⟨b0, 0, none⟩)), (4, .int .i64 (((l0_0).length : Int))), (5, .int .i64 (shlI 1 (wu (((l0_0).length : Int))))), (6, .slice (some ⟨b1, 0, none⟩) (l4).length (Int.toNat (shlI 1 (wu (((l0_0).length : Int)))))), (7, .int .i64 (x1))] a' ∧ Sl 1 encI w' fp0_0 A0_0 l0_0 ∧ SlR 1 encB w' fp0_1 A0_1 l0_1 ∧ SlR 1 encB w' fp0_2 A0_2 l0_2 ∧ Cl w' b0 94 [.slice A0_0 (l0_0).length cap0_0, .slice A0_1 (l0_1).length cap0_1, .slice A0_2 (l0_2).length cap0_2] ∧ Ow 1 encI 2 w' [b1] (some ⟨b1, 0, none⟩) (Int.toNat (shlI 1 (wu (((l0_0).length : Int))))) l4 ∧ Chg [] w0 w' ∧ w0.heap.size ≤ w'.heap.size) ?_ ?_
   ·refine cW_block ?_
    refine cW_loop _ (fun (s2 : Int × (List (Int))) a' w' => ∃ x3 : Int, ∃ l5 : List (Int), (x3, l5) = s2 ∧ Fr 154 [(0, .pointer (some ⟨b0, 0, none⟩)), (4, .int .i64 (((l0_0).length : Int))), (5, .int .i64 (shlI 1 (wu (((l0_0).length : Int))))), (6, .slice (some ⟨b1, 0, none⟩) (l5).length (Int.toNat (shlI 1 (wu (((l0_0).length : Int)))))), (7, .int .i64 (x1)), (8, .int .i64 (x3))] a' ∧ Sl 1 encI w' fp0_0 A0_0 l0_0 ∧ SlR 1 encB w' fp0_1 A0_1 l0_1 ∧ SlR 1 encB w' fp0_2 A0_2 l0_2 ∧ Cl w' b0 94 [.slice A0_0 (l0_0).length cap0_0, .slice A0_1 (l0_1).length cap0_1, .slice A0_2 (l0_2).length cap0_2] ∧ Ow 1 encI 2 w' [b1] (some ⟨b1, 0, none⟩) (Int.toNat (shlI 1 (wu (((l0_0).length : Int))))) l5 ∧ Chg [] w0 w' ∧ w0.heap.size ≤ w'.heap.size) hr2 (fun hst => ⟨x1, l3.set (Int.toNat x1) ((-1)), rfl, Fr.of hst (by kernel_rfl), F2, F3, F4, F5, F7, hB, hZ⟩) ?_
    rintro _ c2 a' w4 ⟨x3, l5, rfl, hF2, F8, F9, F10, F11, F12, hB, hZ⟩ hx3
    refine Fr.goOn hF2 (by kernel_rfl) ?_
    have hm := hx3
    unfold m_spec_l03Fewest_bspecl03Things_s4 at hm
    refine cW_seq ?_
    refine cW_seq ?_
    refine cW_region ?_
    refine wS_pure 2 [(37, .bool (decide (x3 > 0))), (36, .int .i64 (x3))] (by kernel_rfl) ?_
    refine wS_end (by rfl) ?_
    refine eX_then ?_
    refine cW_cond (t := decide (x3 > 0)) (by kernel_rfl) (fun hb2 => ?_) (fun hb2 => ?_)
    ·have hm := condT hb2 hm
     refine cW_skip ?_
     refine eX_then ?_
     refine cW_seq ?_
     refine cW_block ?_
     obtain ⟨s3, hs1, hm⟩ := bindE hm
     refine cW_cut (fun a' w' => ∃ l6 : List (Int), l6 = s3 ∧ Fr 154 [(0, .pointer (some ⟨b0, 0, none⟩)), (4, .int .i64 (((l0_0).length : Int))), (5, .int .i64 (shlI 1 (wu (((l0_0).length : Int))))), (6, .slice (some ⟨b1, 0, none⟩) (l6).length (Int.toNat (shlI 1 (wu (((l0_0).length : Int)))))), (7, .int .i64 (x1)), (8, .int .i64 (x3))] a' ∧ Sl 1 encI w' fp0_0 A0_0 l0_0 ∧ SlR 1 encB w' fp0_1 A0_1 l0_1 ∧ SlR 1 encB w' fp0_2 A0_2 l0_2 ∧ Cl w' b0 94 [.slice A0_0 (l0_0).length cap0_0, .slice A0_1 (l0_1).length cap0_1, .slice A0_2 (l0_2).length cap0_2] ∧ Ow 1 encI 2 w' [b1] (some ⟨b1, 0, none⟩) (Int.toNat (shlI 1 (wu (((l0_0).length : Int))))) l6 ∧ Chg [] w0 w' ∧ w0.heap.size ≤ w'.heap.size) ?_ ?_
     ·have hm := hs1
      refine cW_seq ?_
      refine cW_region ?_
      refine wS_pure 4 [(45, .int .i64 (andNI x1 x3)), (44, .int .i64 (x3)), (43, .int .i64 (x1)), (42, .slice (some ⟨b1, 0, none⟩) (l5).length (Int.toNat (shlI 1 (wu (((l0_0).length : Int))))))] (by kernel_rfl) ?_
      obtain ⟨x4, hx4, hm⟩ := bindE hm
      refine wS_idx (d := 46) (T := 24) (A := (some ⟨b1, 0, none⟩)) (n := (l5).length) (cap := (Int.toNat (shlI 1 (wu (((l0_0).length : Int)))))) (kd := .i64) (m := andNI x1 x3) (by kernel_rfl) sl24 ((F12.sl encI_ok).is hx4) ?_
      refine wS_load1 (d := 47) (T := 2) (ad := (elA (some ⟨b1, 0, none⟩) 1 (andNI x1 x3) 0)) (v := .int .i64 (x4)) (by kernel_rfl) vt2 (Sl.cell (F12.sl encI_ok) hx4 0 (by rfl)) ?_
      refine wS_pure 1 [(9, .int .i64 (x4))] (by kernel_rfl) ?_
      refine wS_end (by rfl) ?_
      refine eX_then ?_
      refine cW_seq ?_
      refine cW_region ?_
      refine wS_pure 3 [(50, .bool (decide (x4 ≥ 0))), (49, .bool (decide (x4 ≥ 0))), (48, .int .i64 (x4))] (by kernel_rfl) ?_
      refine wS_bool (decide (x4 ≥ 0)) (fun hb3 => ?_) (fun hb3 => ?_)
      ·have hm := condT hb3 hm
       rewrite [hb3]
       refine wS_pure 2 [(52, .int .i64 (x1)), (51, .slice (some ⟨b1, 0, none⟩) (l5).length (Int.toNat (shlI 1 (wu (((l0_0).length : Int))))))] (by kernel_rfl) ?_
       obtain ⟨x5, hx5, hm⟩ := bindE hm
       refine wS_idx (d := 53) (T := 24) (A := (some ⟨b1, 0, none⟩)) (n := (l5).length) (cap := (Int.toNat (shlI 1 (wu (((l0_0).length : Int)))))) (kd := .i64) (m := x1) (by kernel_rfl) sl24 ((F12.sl encI_ok).is hx5) ?_
       refine wS_load1 (d := 54) (T := 2) (ad := (elA (some ⟨b1, 0, none⟩) 1 (x1) 0)) (v := .int .i64 (x5)) (by kernel_rfl) vt2 (Sl.cell (F12.sl encI_ok) hx5 0 (by rfl)) ?_
       refine wS_pure 2 [(56, .bool (decide (x5 < 0))), (55, .bool (decide (x5 < 0)))] (by kernel_rfl) ?_
       refine wS_bool (decide (x5 < 0)) (fun hb4 => ?_) (fun hb4 => ?_)
       ·have hm := condT hb4 hm
        rewrite [hb4]
        refine wS_pure 13 [(69, .int .i64 (x1)), (68, .int .i64 (x3)), (67, .pointer (some ⟨b0, 0, none⟩)), (66, .bool (true)), (65, .bool (true)), (64, .bool (true)), (63, undef), (62, undef), (61, undef), (60, undef), (59, undef), (58, undef), (57, undef)] (by kernel_rfl) ?_
        obtain ⟨y1, hy1, hm⟩ := bindE hm
        refine wS_calls (d := 70) (f := 96) (vs := [.pointer (some ⟨b0, 0, none⟩), .int .i64 (x3), .int .i64 (x1)]) (by kernel_rfl) ent96 (c_spec_l03Fits_bspecl03Things hy1 F8 F9 F10 F11) ?_
        rintro _ w5 ⟨rfl, hc3⟩
        replace F8 := F8.chg hc3 Dj.nil
        replace F9 := F9.chg hc3 Dj.nil
        replace F10 := F10.chg hc3 Dj.nil
        replace F11 := F11.chg hc3 notNil
        replace F12 := F12.chg hc3 Dj.nil
        replace hB := hB.inS hc3 inNil
        replace hZ := Nat.le_trans hZ hc3.size
        refine ⟨.bool (y1), rfl, ?_⟩
        refine wS_pure 1 [(71, .bool (y1))] (by kernel_rfl) ?_
        refine wS_end (by rfl) ?_
        refine eX_then ?_
        refine cW_prune [(0, .pointer (some ⟨b0, 0, none⟩)), (4, .int .i64 (((l0_0).length : Int))), (5, .int .i64 (shlI 1 (wu (((l0_0).length : Int))))), (6, .slice (some ⟨b1, 0, none⟩) (l5).length (Int.toNat (shlI 1 (wu (((l0_0).length : Int)))))), (7, .int .i64 (x1)), (8, .int .i64 (x3)), (9, .int .i64 (x4)), (71, .bool (y1))] (by kernel_rfl) (by kernel_rfl) (fun a1 => ?_)
        refine cW_cond (t := y1) (by kernel_rfl) (fun hb5 => ?_) (fun hb5 => ?_)
        ·have hm := condT hb5 hm
         refine cW_region ?_
         refine wS_pure 4 [(75, .int .i64 (wr (x4 + 1))), (74, .int .i64 (x4)), (73, .int .i64 (x1)), (72, .slice (some ⟨b1, 0, none⟩) (l5).length (Int.toNat (shlI 1 (wu (((l0_0).length : Int))))))] (by kernel_rfl) ?_
         obtain ⟨x6, hx6, hm⟩ := bindE hm
         refine wS_idx (d := 76) (T := 24) (A := (some ⟨b1, 0, none⟩)) (n := (l5).length) (cap := (Int.toNat (shlI 1 (wu (((l0_0).length : Int)))))) (kd := .i64) (m := x1) (by kernel_rfl) sl24 ((F12.sl encI_ok).is hx6) ?_
         refine wS_storeEl (x := x6) (wr (x4 + 1)) (T := 2) (U := 2) (cap := (Int.toNat (shlI 1 (wu (((l0_0).length : Int)))))) (j := 0) (A := (some ⟨b1, 0, none⟩)) (v := .int .i64 (wr (x4 + 1))) (vs := [.int .i64 (wr (x4 + 1))]) (m := x1) (by kernel_rfl) (by rfl) sz2 (by rfl) encI_ok F12 hx6 (by simp only [List.length_cons, List.length_nil]; omega) (by rfl) ?_
         intro w6 F13 hc4
         replace F8 := F8.chg hc4 (Dj.of L0_0 G1)
         replace F9 := F9.chg hc4 (Dj.of L0_1 G1)
         replace F10 := F10.chg hc4 (Dj.of L0_2 G1)
         replace F11 := F11.chg hc4 (dj1 (Dj.of L0 G1))
         replace hB := hB.inS hc4 (inLow G1)
         replace hZ := Nat.le_trans hZ hc4.size
         clear F12
         rewrite [show (l5).length = (l5.set (Int.toNat x1) (wr (x4 + 1))).length from (List.length_set ..).symm]
         refine wS_end (by rfl) ?_
         have hq : (some (l5.set (Int.toNat x1) (wr (x4 + 1))) : Option ((List (Int)))) = some _ := hm
         replace hq := someE hq
         subst hq
         exact eX_J (fun hst => ⟨l5.set (Int.toNat x1) (wr (x4 + 1)), rfl, Fr.of hst (by kernel_rfl), F8, F9, F10, F11, F13, hB, hZ⟩)
        ·have hm := condF hb5 hm
         refine cW_skip ?_
         have hq : (some l5 : Option ((List (Int)))) = some _ := hm
         replace hq := someE hq
         subst hq
         exact eX_J (fun hst => ⟨l5, rfl, Fr.of hst (by kernel_rfl), F8, F9, F10, F11, F12, hB, hZ⟩)
       ·have hm := condF hb4 hm
        rewrite [hb4]
        refine wS_pure 4 [(60, .int .i64 (x1)), (59, .slice (some ⟨b1, 0, none⟩) (l5).length (Int.toNat (shlI 1 (wu (((l0_0).length : Int)))))), (58, .int .i64 (wr (x4 + 1))), (57, .int .i64 (x4))] (by kernel_rfl) ?_
        obtain ⟨x7, hx7, hm⟩ := bindE hm
        refine wS_idx (d := 61) (T := 24) (A := (some ⟨b1, 0, none⟩)) (n := (l5).length) (cap := (Int.toNat (shlI 1 (wu (((l0_0).length : Int)))))) (kd := .i64) (m := x1) (by kernel_rfl) sl24 ((F12.sl encI_ok).is hx7) ?_
        refine wS_load1 (d := 62) (T := 2) (ad := (elA (some ⟨b1, 0, none⟩) 1 (x1) 0)) (v := .int .i64 (x7)) (by kernel_rfl) vt2 (Sl.cell (F12.sl encI_ok) hx7 0 (by rfl)) ?_
        refine wS_pure 4 [(66, .bool (decide ((wr (x4 + 1)) < x7))), (65, .bool (decide ((wr (x4 + 1)) < x7))), (64, .bool (decide ((wr (x4 + 1)) < x7))), (63, .bool (decide ((wr (x4 + 1)) < x7)))] (by kernel_rfl) ?_
        refine wS_bool (decide ((wr (x4 + 1)) < x7)) (fun hb6 => ?_) (fun hb6 => ?_)
        ·have hm := condT hb6 hm
         rewrite [hb6]
         refine wS_pure 3 [(69, .int .i64 (x1)), (68, .int .i64 (x3)), (67, .pointer (some ⟨b0, 0, none⟩))] (by kernel_rfl) ?_
         obtain ⟨y2, hy2, hm⟩ := bindE hm
         refine wS_calls (d := 70) (f := 96) (vs := [.pointer (some ⟨b0, 0, none⟩), .int .i64 (x3), .int .i64 (x1)]) (by kernel_rfl) ent96 (c_spec_l03Fits_bspecl03Things hy2 F8 F9 F10 F11) ?_
         rintro _ w7 ⟨rfl, hc5⟩
         replace F8 := F8.chg hc5 Dj.nil
         replace F9 := F9.chg hc5 Dj.nil
         replace F10 := F10.chg hc5 Dj.nil
         replace F11 := F11.chg hc5 notNil
         replace F12 := F12.chg hc5 Dj.nil
         replace hB := hB.inS hc5 inNil
         replace hZ := Nat.le_trans hZ hc5.size
         refine ⟨.bool (y2), rfl, ?_⟩
         refine wS_pure 1 [(71, .bool (y2))] (by kernel_rfl) ?_
         refine wS_end (by rfl) ?_
         refine eX_then ?_
         refine cW_prune [(0, .pointer (some ⟨b0, 0, none⟩)), (4, .int .i64 (((l0_0).length : Int))), (5, .int .i64 (shlI 1 (wu (((l0_0).length : Int))))), (6, .slice (some ⟨b1, 0, none⟩) (l5).length (Int.toNat (shlI 1 (wu (((l0_0).length : Int)))))), (7, .int .i64 (x1)), (8, .int .i64 (x3)), (9, .int .i64 (x4)), (71, .bool (y2))] (by kernel_rfl) (by kernel_rfl) (fun a2 => ?_)
         refine cW_cond (t := y2) (by kernel_rfl) (fun hb7 => ?_) (fun hb7 => ?_)
         ·have hm := condT hb7 hm
          refine cW_region ?_
          refine wS_pure 4 [(75, .int .i64 (wr (x4 + 1))), (74, .int .i64 (x4)), (73, .int .i64 (x1)), (72, .slice (some ⟨b1, 0, none⟩) (l5).length (Int.toNat (shlI 1 (wu (((l0_0).length : Int))))))] (by kernel_rfl) ?_
          obtain ⟨x8, hx8, hm⟩ := bindE hm
          refine wS_idx (d := 76) (T := 24) (A := (some ⟨b1, 0, none⟩)) (n := (l5).length) (cap := (Int.toNat (shlI 1 (wu (((l0_0).length : Int)))))) (kd := .i64) (m := x1) (by kernel_rfl) sl24 ((F12.sl encI_ok).is hx8) ?_
          refine wS_storeEl (x := x8) (wr (x4 + 1)) (T := 2) (U := 2) (cap := (Int.toNat (shlI 1 (wu (((l0_0).length : Int)))))) (j := 0) (A := (some ⟨b1, 0, none⟩)) (v := .int .i64 (wr (x4 + 1))) (vs := [.int .i64 (wr (x4 + 1))]) (m := x1) (by kernel_rfl) (by rfl) sz2 (by rfl) encI_ok F12 hx8 (by simp only [List.length_cons, List.length_nil]; omega) (by rfl) ?_
          intro w8 F14 hc6
          replace F8 := F8.chg hc6 (Dj.of L0_0 G1)
          replace F9 := F9.chg hc6 (Dj.of L0_1 G1)
          replace F10 := F10.chg hc6 (Dj.of L0_2 G1)
          replace F11 := F11.chg hc6 (dj1 (Dj.of L0 G1))
          replace hB := hB.inS hc6 (inLow G1)
          replace hZ := Nat.le_trans hZ hc6.size
          clear F12
          rewrite [show (l5).length = (l5.set (Int.toNat x1) (wr (x4 + 1))).length from (List.length_set ..).symm]
          refine wS_end (by rfl) ?_
          have hq : (some (l5.set (Int.toNat x1) (wr (x4 + 1))) : Option ((List (Int)))) = some _ := hm
          replace hq := someE hq
          subst hq
          exact eX_J (fun hst => ⟨l5.set (Int.toNat x1) (wr (x4 + 1)), rfl, Fr.of hst (by kernel_rfl), F8, F9, F10, F11, F14, hB, hZ⟩)
         ·have hm := condF hb7 hm
          refine cW_skip ?_
          have hq : (some l5 : Option ((List (Int)))) = some _ := hm
          replace hq := someE hq
          subst hq
          exact eX_J (fun hst => ⟨l5, rfl, Fr.of hst (by kernel_rfl), F8, F9, F10, F11, F12, hB, hZ⟩)
        ·have hm := condF hb6 hm
         rewrite [hb6]
         refine wS_pure 5 [(71, .bool (false)), (70, undef), (69, undef), (68, undef), (67, undef)] (by kernel_rfl) ?_
         refine wS_end (by rfl) ?_
         refine eX_then ?_
         refine cW_prune [(0, .pointer (some ⟨b0, 0, none⟩)), (4, .int .i64 (((l0_0).length : Int))), (5, .int .i64 (shlI 1 (wu (((l0_0).length : Int))))), (6, .slice (some ⟨b1, 0, none⟩) (l5).length (Int.toNat (shlI 1 (wu (((l0_0).length : Int)))))), (7, .int .i64 (x1)), (8, .int .i64 (x3)), (9, .int .i64 (x4)), (71, .bool (false))] (by kernel_rfl) (by kernel_rfl) (fun a3 => ?_)
         refine cW_cond_f (by kernel_rfl) ?_
         refine cW_skip ?_
         have hq : (some l5 : Option ((List (Int)))) = some _ := hm
         replace hq := someE hq
         subst hq
         exact eX_J (fun hst => ⟨l5, rfl, Fr.of hst (by kernel_rfl), F8, F9, F10, F11, F12, hB, hZ⟩)
      ·have hm := condF hb3 hm
       rewrite [hb3]
       refine wS_pure 21 [(71, .bool (false)), (70, undef), (69, undef), (68, undef), (67, undef), (66, .bool (false)), (65, .bool (false)), (64, undef), (63, undef), (62, undef), (61, undef), (60, undef), (59, undef), (58, undef), (57, undef), (56, undef), (55, undef), (54, undef), (53, undef), (52, undef), (51, undef)] (by kernel_rfl) ?_
       refine wS_end (by rfl) ?_
       refine eX_then ?_
       refine cW_prune [(0, .pointer (some ⟨b0, 0, none⟩)), (4, .int .i64 (((l0_0).length : Int))), (5, .int .i64 (shlI 1 (wu (((l0_0).length : Int))))), (6, .slice (some ⟨b1, 0, none⟩) (l5).length (Int.toNat (shlI 1 (wu (((l0_0).length : Int)))))), (7, .int .i64 (x1)), (8, .int .i64 (x3)), (9, .int .i64 (x4)), (71, .bool (false))] (by kernel_rfl) (by kernel_rfl) (fun a4 => ?_)
       refine cW_cond_f (by kernel_rfl) ?_
       refine cW_skip ?_
       have hq : (some l5 : Option ((List (Int)))) = some _ := hm
       replace hq := someE hq
       subst hq
       exact eX_J (fun hst => ⟨l5, rfl, Fr.of hst (by kernel_rfl), F8, F9, F10, F11, F12, hB, hZ⟩)
     ·rintro a' w9 ⟨l6, hJ, hF3, F15, F16, F17, F18, F19, hB, hZ⟩
      subst hJ
      refine Fr.goX hF3 (by kernel_rfl) ?_
      refine eX_block ?_
      refine eX_then ?_
      refine cW_region ?_
      refine wS_pure 5 [(8, .int .i64 (andI (wr (x3 - 1)) x1)), (41, .int .i64 (andI (wr (x3 - 1)) x1)), (40, .int .i64 (x1)), (39, .int .i64 (wr (x3 - 1))), (38, .int .i64 (x3))] (by kernel_rfl) ?_
      refine wS_end (by rfl) ?_
      have hq : (some (Ctl.next ((andI (wr (x3 - 1)) x1, l6))) : Option (Ctl (Int × (List (Int))) ((List (Int))))) = some _ := hm
      replace hq := someE hq
      subst hq
      exact eX_next hx3 (fun hst => ⟨andI (wr (x3 - 1)) x1, l6, rfl, Fr.of hst (by kernel_rfl), F15, F16, F17, F18, F19, hB, hZ⟩)
    ·have hm := condF hb2 hm
     refine cW_exit ?_
     refine eX_then_exit ?_
     have hq : (some (Ctl.out l5) : Option (Ctl (Int × (List (Int))) ((List (Int))))) = some _ := hm
     replace hq := someE hq
     subst hq
     refine eX_outX hx3 (fun hr3 => ?_)
     replace hr3 := hr3.symm
     subst hr3
     refine eX_block_hit ?_
     exact eX_J (fun hst => ⟨l5, rfl, Fr.of hst (by kernel_rfl), F8, F9, F10, F11, F12, hB, hZ⟩)
   ·rintro a' w10 ⟨l4, hJ, hF4, F20, F21, F22, F23, F24, hB, hZ⟩
    subst hJ
    refine Fr.goX hF4 (by kernel_rfl) ?_
    refine eX_block ?_
    refine eX_then ?_
    refine cW_region ?_
    refine wS_pure 3 [(7, .int .i64 (wr (x1 + 1))), (31, .int .i64 (wr (x1 + 1))), (30, .int .i64 (x1))] (by kernel_rfl) ?_
    refine wS_end (by rfl) ?_
    have hq : (some (Ctl.next ((wr (x1 + 1), l4))) : Option (Ctl (Int × (List (Int))) ((List (Int))))) = some _ := hm
    replace hq := someE hq
    subst hq
    exact eX_next hx1 (fun hst => ⟨wr (x1 + 1), l4, rfl, Fr.of hst (by kernel_rfl), F20, F21, F22, F23, F24, hB, hZ⟩)
  ·have hm := condF hb1 hm
   refine cW_exit ?_
   refine eX_then_exit ?_
   have hq : (some (Ctl.out l3) : Option (Ctl (Int × (List (Int))) ((List (Int))))) = some _ := hm
   replace hq := someE hq
   subst hq
   refine eX_outX hx1 (fun hr4 => ?_)
   replace hr4 := hr4.symm
   subst hr4
   refine eX_block_hit ?_
   exact eX_J (fun hst => ⟨l3, rfl, Fr.of hst (by kernel_rfl), F2, F3, F4, F5, F6, hB, hZ⟩)
 ·rintro a' w11 ⟨l1, hJ, hF5, F25, F26, F27, F28, F29, hB, hZ⟩
  subst hJ
  refine Fr.goX hF5 (by kernel_rfl) ?_
  refine eX_then ?_
  refine cW_seq ?_
  refine cW_seq ?_
  refine cW_region ?_
  refine wS_pure 3 [(79, .int .i64 (wr ((shlI 1 (wu (((l0_0).length : Int)))) - 1))), (78, .int .i64 (shlI 1 (wu (((l0_0).length : Int))))), (77, .slice (some ⟨b1, 0, none⟩) (l1).length (Int.toNat (shlI 1 (wu (((l0_0).length : Int))))))] (by kernel_rfl) ?_
  obtain ⟨x9, hx9, hm⟩ := bindE hm
  refine wS_idx (d := 80) (T := 24) (A := (some ⟨b1, 0, none⟩)) (n := (l1).length) (cap := (Int.toNat (shlI 1 (wu (((l0_0).length : Int)))))) (kd := .i64) (m := wr ((shlI 1 (wu (((l0_0).length : Int)))) - 1)) (by kernel_rfl) sl24 ((F29.sl encI_ok).is hx9) ?_
  refine wS_load1 (d := 81) (T := 2) (ad := (elA (some ⟨b1, 0, none⟩) 1 (wr ((shlI 1 (wu (((l0_0).length : Int)))) - 1)) 0)) (v := .int .i64 (x9)) (by kernel_rfl) vt2 (Sl.cell (F29.sl encI_ok) hx9 0 (by rfl)) ?_
  refine wS_pure 1 [(82, .bool (decide (x9 < 0)))] (by kernel_rfl) ?_
  refine wS_end (by rfl) ?_
  refine eX_then ?_
  refine cW_cond (t := decide (x9 < 0)) (by kernel_rfl) (fun hb8 => ?_) (fun hb8 => ?_)
  ·have hm := condT hb8 hm
   refine cW_seq ?_
   refine cW_region ?_
   refine wS_pure 2 [(3, .bool (false)), (2, .slice none 0 0)] (by kernel_rfl) ?_
   refine wS_end (by rfl) ?_
   refine eX_then ?_
   refine cW_ret ?_
   refine eX_then_ret ?_
   have hq : (some (([], false)) : Option ((List (List (Int))) × (Bool))) = some _ := hm
   replace hq := someE hq
   subst hq
   refine eX_ret (vs := [.slice none 0 0, .bool (false)]) [.tmp 2, .tmp 3] (by rfl) ⟨by (show lkE _ _ _ = _); kernel_rfl, ⟨by (show lkE _ _ _ = _); kernel_rfl, trivial⟩⟩ ?_
   exact ⟨none, 0, [], [], rfl, OwR.nil _, (lowApp lowNil lowNil), hB⟩
  ·have hm := condF hb8 hm
   refine cW_skip ?_
   refine eX_then ?_
   refine cW_seq ?_
   refine cW_region ?_
   refine wS_rows0 (k := 1) (enc := encI) (d := 83) (t := 28) (T := 24) (T2 := 2) (by kernel_rfl) el28 ?_
   intro b2 w12 G2 F30 hc7
   have D1 : Dj [b1] ([b2] ++ []) := Dj.of F29.low (lowApp (low1 G2) lowNil)
   replace F25 := F25.chg hc7 Dj.nil
   replace F26 := F26.chg hc7 Dj.nil
   replace F27 := F27.chg hc7 Dj.nil
   replace F28 := F28.chg hc7 notNil
   replace F29 := F29.chg hc7 Dj.nil
   replace hB := hB.inS hc7 inNil
   replace G2 := Nat.le_trans hZ G2
   replace G2 := low1 G2
   replace hZ := Nat.le_trans hZ hc7.size
   replace G2 := lowApp G2 lowNil
   refine wS_pure 1 [(10, .slice (some ⟨b2, 0, none⟩) (([] : List (List (Int)))).length 0)] (by kernel_rfl) ?_
   refine wS_end (by rfl) ?_
   refine eX_then ?_
   refine cW_seq ?_
   refine cW_seq ?_
   refine cW_region ?_
   refine wS_pure 3 [(11, .int .i64 (wr ((shlI 1 (wu (((l0_0).length : Int)))) - 1))), (85, .int .i64 (wr ((shlI 1 (wu (((l0_0).length : Int)))) - 1))), (84, .int .i64 (shlI 1 (wu (((l0_0).length : Int)))))] (by kernel_rfl) ?_
   refine wS_end (by rfl) ?_
   refine eX_then ?_
   obtain ⟨r3, hr5, hm⟩ := bindE hm
   have hm3 := hm
   refine cW_cut (fun a' w' => ∃ l7 : List (List (Int)), ∃ A1 : Option Addr, ∃ cap1 : Nat, ∃ fp1 : List Nat, ∃ fr1 : List Nat, l7 = r3 ∧ Fr 154 [(10, .slice A1 (l7).length cap1)] a' ∧ OwR 1 encI 24 2 w' fp1 fr1 A1 cap1 l7 ∧ (∀ x ∈ (fp1 ++ fr1), w0.heap.size ≤ x) ∧ Chg [] w0 w' ∧ w0.heap.size ≤ w'.heap.size) ?_ ?_
   ·refine cW_block ?_
    refine cW_loop _ (fun (s4 : (List (List (Int))) × Int) a' w' => ∃ l8 : List (List (Int)), ∃ A3 : Option Addr, ∃ cap3 : Nat, ∃ fp2 : List Nat, ∃ fr2 : List Nat, ∃ x10 : Int, (l8, x10) = s4 ∧ Fr 154 [(0, .pointer (some ⟨b0, 0, none⟩)), (4, .int .i64 (((l0_0).length : Int))), (6, .slice (some ⟨b1, 0, none⟩) (l1).length (Int.toNat (shlI 1 (wu (((l0_0).length : Int)))))), (10, .slice A3 (l8).length cap3), (11, .int .i64 (x10))] a' ∧ Sl 1 encI w' fp0_0 A0_0 l0_0 ∧ SlR 1 encB w' fp0_1 A0_1 l0_1 ∧ SlR 1 encB w' fp0_2 A0_2 l0_2 ∧ Cl w' b0 94 [.slice A0_0 (l0_0).length cap0_0, .slice A0_1 (l0_1).length cap0_1, .slice A0_2 (l0_2).length cap0_2] ∧ Ow 1 encI 2 w' [b1] (some ⟨b1, 0, none⟩) (Int.toNat (shlI 1 (wu (((l0_0).length : Int))))) l1 ∧ OwR 1 encI 24 2 w' fp2 fr2 A3 cap3 l8 ∧ (∀ x ∈ (fp2 ++ fr2), w0.heap.size ≤ x) ∧ Dj [b1] (fp2 ++ fr2) ∧ Chg [] w0 w' ∧ w0.heap.size ≤ w'.heap.size) hr5 (fun hst => ⟨([] : List (List (Int))), (some ⟨b2, 0, none⟩), 0, [b2], [], wr ((shlI 1 (wu (((l0_0).length : Int)))) - 1), rfl, Fr.of hst (by kernel_rfl), F25, F26, F27, F28, F29, F30, G2, D1, hB, hZ⟩) ?_
    rintro _ c3 a' w13 ⟨l8, A3, cap3, fp2, fr2, x10, rfl, hF6, F31, F32, F33, F34, F35, F36, G3, D2, hB, hZ⟩ hx10
    refine Fr.goOn hF6 (by kernel_rfl) ?_
    have hm := hx10
    unfold m_spec_l03Fewest_bspecl03Things_s19 at hm
    refine cW_seq ?_
    refine cW_seq ?_
    refine cW_region ?_
    refine wS_pure 2 [(87, .bool (decide (x10 > 0))), (86, .int .i64 (x10))] (by kernel_rfl) ?_
    refine wS_end (by rfl) ?_
    refine eX_then ?_
    refine cW_cond (t := decide (x10 > 0)) (by kernel_rfl) (fun hb9 => ?_) (fun hb9 => ?_)
    ·have hm := condT hb9 hm
     refine cW_skip ?_
     refine eX_then ?_
     refine cW_block ?_
     refine cW_seq ?_
     refine cW_region ?_
     refine wS_bs0 (α := Int) (enc := encI) (d := 88) (t := 24) (T := 2) (by kernel_rfl) el24 ?_
     intro b3 w14 G4 F37 hc8
     have D3 : Dj [b1] [b3] := Dj.of F35.low (low1 G4)
     have D4 : Dj (fp2 ++ fr2) [b3] := Dj.of F36.low (low1 G4)
     replace F31 := F31.chg hc8 Dj.nil
     replace F32 := F32.chg hc8 Dj.nil
     replace F33 := F33.chg hc8 Dj.nil
     replace F34 := F34.chg hc8 notNil
     replace F35 := F35.chg hc8 Dj.nil
     replace F36 := F36.chg hc8 Dj.nil
     replace hB := hB.inS hc8 inNil
     replace G4 := Nat.le_trans hZ G4
     replace G4 := low1 G4
     replace hZ := Nat.le_trans hZ hc8.size
     refine wS_pure 1 [(12, .slice (some ⟨b3, 0, none⟩) (([] : List (Int))).length 0)] (by kernel_rfl) ?_
     refine wS_end (by rfl) ?_
     refine eX_then ?_
     refine cW_seq ?_
     refine cW_region ?_
     refine wS_pure 1 [(13, .int .i64 (0))] (by kernel_rfl) ?_
     refine wS_end (by rfl) ?_
     refine eX_then ?_
     refine cW_seq ?_
     refine cW_seq ?_
     refine cW_region ?_
     refine wS_pure 2 [(14, .int .i64 (x10)), (89, .int .i64 (x10))] (by kernel_rfl) ?_
     refine wS_end (by rfl) ?_
     refine eX_then ?_
     obtain ⟨r4, hr6, hm⟩ := bindE hm
     have hm4 := hm
     refine cW_cut (fun a' w' => ∃ l9 : List (Int), ∃ A4 : Option Addr, ∃ cap4 : Nat, ∃ fp3 : List Nat, ∃ x11 : Int, (l9, x11) = r4 ∧ Fr 154 [(0, .pointer (some ⟨b0, 0, none⟩)), (4, .int .i64 (((l0_0).length : Int))), (6, .slice (some ⟨b1, 0, none⟩) (l1).length (Int.toNat (shlI 1 (wu (((l0_0).length : Int)))))), (10, .slice A3 (l8).length cap3), (11, .int .i64 (x10)), (12, .slice A4 (l9).length cap4), (13, .int .i64 (x11))] a' ∧ Sl 1 encI w' fp0_0 A0_0 l0_0 ∧ SlR 1 encB w' fp0_1 A0_1 l0_1 ∧ SlR 1 encB w' fp0_2 A0_2 l0_2 ∧ Cl w' b0 94 [.slice A0_0 (l0_0).length cap0_0, .slice A0_1 (l0_1).length cap0_1, .slice A0_2 (l0_2).length cap0_2] ∧ Ow 1 encI 2 w' [b1] (some ⟨b1, 0, none⟩) (Int.toNat (shlI 1 (wu (((l0_0).length : Int))))) l1 ∧ OwR 1 encI 24 2 w' fp2 fr2 A3 cap3 l8 ∧ Ow 1 encI 2 w' fp3 A4 cap4 l9 ∧ (∀ x ∈ fp3, w0.heap.size ≤ x) ∧ Dj [b1] fp3 ∧ Dj (fp2 ++ fr2) fp3 ∧ Chg [] w0 w' ∧ w0.heap.size ≤ w'.heap.size) ?_ ?_
     ·refine cW_block ?_
      refine cW_loop _ (fun (s5 : (List (Int)) × Int × Int) a' w' => ∃ l10 : List (Int), ∃ A5 : Option Addr, ∃ cap5 : Nat, ∃ fp4 : List Nat, ∃ x12 : Int, ∃ x13 : Int, (l10, x12, x13) = s5 ∧ Fr 154 [(0, .pointer (some ⟨b0, 0, none⟩)), (4, .int .i64 (((l0_0).length : Int))), (6, .slice (some ⟨b1, 0, none⟩) (l1).length (Int.toNat (shlI 1 (wu (((l0_0).length : Int)))))), (10, .slice A3 (l8).length cap3), (11, .int .i64 (x10)), (12, .slice A5 (l10).length cap5), (13, .int .i64 (x12)), (14, .int .i64 (x13))] a' ∧ Sl 1 encI w' fp0_0 A0_0 l0_0 ∧ SlR 1 encB w' fp0_1 A0_1 l0_1 ∧ SlR 1 encB w' fp0_2 A0_2 l0_2 ∧ Cl w' b0 94 [.slice A0_0 (l0_0).length cap0_0, .slice A0_1 (l0_1).length cap0_1, .slice A0_2 (l0_2).length cap0_2] ∧ Ow 1 encI 2 w' [b1] (some ⟨b1, 0, none⟩) (Int.toNat (shlI 1 (wu (((l0_0).length : Int))))) l1 ∧ OwR 1 encI 24 2 w' fp2 fr2 A3 cap3 l8 ∧ Ow 1 encI 2 w' fp4 A5 cap5 l10 ∧ (∀ x ∈ fp4, w0.heap.size ≤ x) ∧ Dj [b1] fp4 ∧ Dj (fp2 ++ fr2) fp4 ∧ Chg [] w0 w' ∧ w0.heap.size ≤ w'.heap.size) hr6 (fun hst => ⟨([] : List (Int)), (some ⟨b3, 0, none⟩), 0, [b3], 0, x10, rfl, Fr.of hst (by kernel_rfl), F31, F32, F33, F34, F35, F36, F37, G4, D3, D4, hB, hZ⟩) ?_
      rintro _ c4 a' w15 ⟨l10, A5, cap5, fp4, x12, x13, rfl, hF7, F38, F39, F40, F41, F42, F43, F44, G5, D5, D6, hB, hZ⟩ hx11
      refine Fr.goOn hF7 (by kernel_rfl) ?_
      have hm := hx11
      unfold m_spec_l03Fewest_bspecl03Things_s24 at hm
      refine cW_seq ?_
      refine cW_seq ?_
      refine cW_region ?_
      refine wS_pure 2 [(91, .bool (decide (x13 > 0))), (90, .int .i64 (x13))] (by kernel_rfl) ?_
      refine wS_end (by rfl) ?_
      refine eX_then ?_
      refine cW_cond (t := decide (x13 > 0)) (by kernel_rfl) (fun hb10 => ?_) (fun hb10 => ?_)
      ·have hm := condT hb10 hm
       refine cW_skip ?_
       refine eX_then ?_
       refine cW_seq ?_
       refine cW_block ?_
       refine cW_seq ?_
       refine cW_seq ?_
       refine cW_drawnTail [] 16 (by kernel_rfl) (by kernel_rfl) (fun w16 hc9 => ?_)
       replace F38 := F38.chg hc9 Dj.nil
       replace F39 := F39.chg hc9 Dj.nil
       replace F40 := F40.chg hc9 Dj.nil
       replace F41 := F41.chg hc9 notNil
       replace F42 := F42.chg hc9 Dj.nil
       replace F43 := F43.chg hc9 Dj.nil
       replace F44 := F44.chg hc9 Dj.nil
       replace hB := hB.inS hc9 inNil
       replace hZ := Nat.le_trans hZ hc9.size
       have hS := Chg.refl [] w16
       have Z1 := F38
       have Z2 := F39
       have Z3 := F40
       have Z4 := F41
       have Z5 := F42
       have Z6 := F43
       have Z7 := F44
       refine wH_take [0, 1, 2, 3] [3, 2, 1, 0] [(99, .int .i64 (andNI x10 x13)), (98, .int .i64 (x13)), (97, .int .i64 (x10)), (96, .slice (some ⟨b1, 0, none⟩) (l1).length (Int.toNat (shlI 1 (wu (((l0_0).length : Int))))))] (by kernel_rfl) (qT (qT (qT (qB (qT (qL (qB (qT (qT (qB (qL (qB (qT (qT qZ)))))))))))))) (by kernel_rfl) ?_
       obtain ⟨x14, hx12, hm⟩ := bindE hm
       refine wH_idx (i := 4) (d := 100) (T := 24) (A := (some ⟨b1, 0, none⟩)) (n := (l1).length) (cap := (Int.toNat (shlI 1 (wu (((l0_0).length : Int)))))) (kd := .i64) (m := andNI x10 x13) (by kernel_rfl) (qT (qT (qT (qB (qT (qL (qB (qT (qT (qB (qL (qB (qT (qT qZ)))))))))))))) (by kernel_rfl) (by kernel_rfl) sl24 ((F42.sl encI_ok).is hx12) ?_
       refine wH_load1 (i := 5) (d := 101) (T := 2) (ad := (elA (some ⟨b1, 0, none⟩) 1 (andNI x10 x13) 0)) (v := .int .i64 (x14)) (by kernel_rfl) (qT (qT (qT (qB (qT (qL (qB (qT (qT (qB (qL (qB (qT (qT qZ)))))))))))))) (by kernel_rfl) (by kernel_rfl) vt2 (fun W hW => Sl.cell ((Z5.chg hW Dj.nil).sl encI_ok) hx12 0 (by rfl)) ?_
       refine wH_take [6, 7] [7, 6, 5, 4, 3, 2, 1, 0] [(103, .int .i64 (x10)), (102, .slice (some ⟨b1, 0, none⟩) (l1).length (Int.toNat (shlI 1 (wu (((l0_0).length : Int))))))] (by kernel_rfl) (qT (qT (qT (qB (qT (qL (qB (qT (qT (qB (qL (qB (qT (qT qZ)))))))))))))) (by kernel_rfl) ?_
       obtain ⟨x15, hx13, hm⟩ := bindE hm
       refine wH_idx (i := 8) (d := 104) (T := 24) (A := (some ⟨b1, 0, none⟩)) (n := (l1).length) (cap := (Int.toNat (shlI 1 (wu (((l0_0).length : Int)))))) (kd := .i64) (m := x10) (by kernel_rfl) (qT (qT (qT (qB (qT (qL (qB (qT (qT (qB (qL (qB (qT (qT qZ)))))))))))))) (by kernel_rfl) (by kernel_rfl) sl24 ((F42.sl encI_ok).is hx13) ?_
       refine wH_load1 (i := 9) (d := 105) (T := 2) (ad := (elA (some ⟨b1, 0, none⟩) 1 (x10) 0)) (v := .int .i64 (x15)) (by kernel_rfl) (qT (qT (qT (qB (qT (qL (qB (qT (qT (qB (qL (qB (qT (qT qZ)))))))))))))) (by kernel_rfl) (by kernel_rfl) vt2 (fun W hW => Sl.cell ((Z5.chg hW Dj.nil).sl encI_ok) hx13 0 (by rfl)) ?_
       refine wH_take [10, 11, 12] [12, 11, 10, 9, 8, 7, 6, 5, 4, 3, 2, 1, 0] [(108, .bool (x14 != (wr (x15 - 1)))), (107, .bool (x14 != (wr (x15 - 1)))), (106, .int .i64 (wr (x15 - 1)))] (by kernel_rfl) (qT (qT (qT (qB (qT (qL (qB (qT (qT (qB (qL (qB (qT (qT qZ)))))))))))))) (by kernel_rfl) ?_
       refine wH_bool (x14 != (wr (x15 - 1))) (fun hb11 => ?_) (fun hb11 => ?_)
       ·have hm := condT hb11 hm
        rewrite [hb11]
        refine wH_take [13, 14, 15] [15, 14, 13, 12, 11, 10, 9, 8, 7, 6, 5, 4, 3, 2, 1, 0] [(111, undef), (110, undef), (109, undef)] (by kernel_rfl) (qT (qT (qT (qB (qT (qL (qB (qT (qT (qB (qL (qB (qT (qT qZ)))))))))))))) (by kernel_rfl) ?_
        refine wH_done (by kernel_rfl) ?_
        refine eX_tail ?_
        refine wS_pure 3 [(114, .bool (true)), (113, undef), (112, undef)] (by kernel_rfl) ?_
        refine wS_end (by rfl) ?_
        refine eX_then ?_
        refine cW_prune [(0, .pointer (some ⟨b0, 0, none⟩)), (4, .int .i64 (((l0_0).length : Int))), (6, .slice (some ⟨b1, 0, none⟩) (l1).length (Int.toNat (shlI 1 (wu (((l0_0).length : Int)))))), (10, .slice A3 (l8).length cap3), (11, .int .i64 (x10)), (12, .slice A5 (l10).length cap5), (13, .int .i64 (x12)), (14, .int .i64 (x13)), (114, .bool (true))] (by kernel_rfl) (by kernel_rfl) (fun a5 => ?_)
        refine cW_cond_t (by kernel_rfl) ?_
        refine cW_exit ?_
        refine eX_then_exit ?_
        refine eX_block_hit ?_
        refine eX_then ?_
        refine cW_region ?_
        refine wS_pure 5 [(14, .int .i64 (andI (wr (x13 - 1)) x10)), (95, .int .i64 (andI (wr (x13 - 1)) x10)), (94, .int .i64 (x10)), (93, .int .i64 (wr (x13 - 1))), (92, .int .i64 (x13))] (by kernel_rfl) ?_
        refine wS_end (by rfl) ?_
        have hq : (some (Ctl.next ((l10, x12, andI (wr (x13 - 1)) x10))) : Option (Ctl ((List (Int)) × Int × Int) ((List (Int)) × Int))) = some _ := hm
        replace hq := someE hq
        subst hq
        exact eX_next hx11 (fun hst => ⟨l10, A5, cap5, fp4, x12, andI (wr (x13 - 1)) x10, rfl, Fr.of hst (by kernel_rfl), F38, F39, F40, F41, F42, F43, F44, G5, D5, D6, hB, hZ⟩)
       ·have hm := condF hb11 hm
        rewrite [hb11]
        refine wH_take [13, 14, 15] [15, 14, 13, 12, 11, 10, 9, 8, 7, 6, 5, 4, 3, 2, 1, 0] [(111, .int .i64 (x10)), (110, .int .i64 (x13)), (109, .pointer (some ⟨b0, 0, none⟩))] (by kernel_rfl) (qT (qT (qT (qB (qT (qL (qB (qT (qT (qB (qL (qB (qT (qT qZ)))))))))))))) (by kernel_rfl) ?_
        refine wH_done (by kernel_rfl) ?_
        refine eX_tail ?_
        obtain ⟨y3, hy3, hm⟩ := bindE hm
        refine wS_calls (d := 112) (f := 96) (vs := [.pointer (some ⟨b0, 0, none⟩), .int .i64 (x13), .int .i64 (x10)]) (by kernel_rfl) ent96 (c_spec_l03Fits_bspecl03Things hy3 F38 F39 F40 F41) ?_
        rintro _ w17 ⟨rfl, hc10⟩
        replace F38 := F38.chg hc10 Dj.nil
        replace F39 := F39.chg hc10 Dj.nil
        replace F40 := F40.chg hc10 Dj.nil
        replace F41 := F41.chg hc10 notNil
        replace F42 := F42.chg hc10 Dj.nil
        replace F43 := F43.chg hc10 Dj.nil
        replace F44 := F44.chg hc10 Dj.nil
        replace hB := hB.inS hc10 inNil
        replace hZ := Nat.le_trans hZ hc10.size
        refine ⟨.bool (y3), rfl, ?_⟩
        refine wS_pure 2 [(114, .bool (!y3)), (113, .bool (!y3))] (by kernel_rfl) ?_
        refine wS_end (by rfl) ?_
        refine eX_then ?_
        refine cW_prune [(0, .pointer (some ⟨b0, 0, none⟩)), (4, .int .i64 (((l0_0).length : Int))), (6, .slice (some ⟨b1, 0, none⟩) (l1).length (Int.toNat (shlI 1 (wu (((l0_0).length : Int)))))), (10, .slice A3 (l8).length cap3), (11, .int .i64 (x10)), (12, .slice A5 (l10).length cap5), (13, .int .i64 (x12)), (14, .int .i64 (x13)), (114, .bool (!y3))] (by kernel_rfl) (by kernel_rfl) (fun a6 => ?_)
        refine cW_cond (t := !y3) (by kernel_rfl) (fun hb12 => ?_) (fun hb12 => ?_)
        ·have hm := condT hb12 hm
         refine cW_exit ?_
         refine eX_then_exit ?_
         refine eX_block_hit ?_
         refine eX_then ?_
         refine cW_region ?_
         refine wS_pure 5 [(14, .int .i64 (andI (wr (x13 - 1)) x10)), (95, .int .i64 (andI (wr (x13 - 1)) x10)), (94, .int .i64 (x10)), (93, .int .i64 (wr (x13 - 1))), (92, .int .i64 (x13))] (by kernel_rfl) ?_
         refine wS_end (by rfl) ?_
         have hq : (some (Ctl.next ((l10, x12, andI (wr (x13 - 1)) x10))) : Option (Ctl ((List (Int)) × Int × Int) ((List (Int)) × Int))) = some _ := hm
         replace hq := someE hq
         subst hq
         exact eX_next hx11 (fun hst => ⟨l10, A5, cap5, fp4, x12, andI (wr (x13 - 1)) x10, rfl, Fr.of hst (by kernel_rfl), F38, F39, F40, F41, F42, F43, F44, G5, D5, D6, hB, hZ⟩)
        ·have hm := condF hb12 hm
         refine cW_skip ?_
         refine eX_then ?_
         obtain ⟨s6, hs2, hm⟩ := bindE hm
         refine cW_cut (fun a' w' => ∃ l11 : List (Int), ∃ A6 : Option Addr, ∃ cap6 : Nat, ∃ fp5 : List Nat, ∃ x16 : Int, (l11, x16) = s6 ∧ Fr 154 [(0, .pointer (some ⟨b0, 0, none⟩)), (4, .int .i64 (((l0_0).length : Int))), (6, .slice (some ⟨b1, 0, none⟩) (l1).length (Int.toNat (shlI 1 (wu (((l0_0).length : Int)))))), (10, .slice A3 (l8).length cap3), (11, .int .i64 (x10)), (12, .slice A6 (l11).length cap6), (13, .int .i64 (x16)), (14, .int .i64 (x13))] a' ∧ Sl 1 encI w' fp0_0 A0_0 l0_0 ∧ SlR 1 encB w' fp0_1 A0_1 l0_1 ∧ SlR 1 encB w' fp0_2 A0_2 l0_2 ∧ Cl w' b0 94 [.slice A0_0 (l0_0).length cap0_0, .slice A0_1 (l0_1).length cap0_1, .slice A0_2 (l0_2).length cap0_2] ∧ Ow 1 encI 2 w' [b1] (some ⟨b1, 0, none⟩) (Int.toNat (shlI 1 (wu (((l0_0).length : Int))))) l1 ∧ OwR 1 encI 24 2 w' fp2 fr2 A3 cap3 l8 ∧ Ow 1 encI 2 w' fp5 A6 cap6 l11 ∧ (∀ x ∈ fp5, w0.heap.size ≤ x) ∧ Dj [b1] fp5 ∧ Dj (fp2 ++ fr2) fp5 ∧ Chg [] w0 w' ∧ w0.heap.size ≤ w'.heap.size) ?_ ?_
         ·have hm := hs2
          refine cW_seq ?_
          refine cW_region ?_
          refine wS_bs0 (α := Int) (enc := encI) (d := 115) (t := 24) (T := 2) (by kernel_rfl) el24 ?_
          intro b4 w18 G6 F45 hc11
          have D7 : Dj [b1] [b4] := Dj.of F42.low (low1 G6)
          have D8 : Dj (fp2 ++ fr2) [b4] := Dj.of F43.low (low1 G6)
          have D9 : Dj fp4 [b4] := Dj.of F44.low (low1 G6)
          replace F38 := F38.chg hc11 Dj.nil
          replace F39 := F39.chg hc11 Dj.nil
          replace F40 := F40.chg hc11 Dj.nil
          replace F41 := F41.chg hc11 notNil
          replace F42 := F42.chg hc11 Dj.nil
          replace F43 := F43.chg hc11 Dj.nil
          replace F44 := F44.chg hc11 Dj.nil
          replace hB := hB.inS hc11 inNil
          replace G6 := Nat.le_trans hZ G6
          replace G6 := low1 G6
          replace hZ := Nat.le_trans hZ hc11.size
          refine wS_pure 1 [(15, .slice (some ⟨b4, 0, none⟩) (([] : List (Int))).length 0)] (by kernel_rfl) ?_
          refine wS_end (by rfl) ?_
          refine eX_then ?_
          refine cW_seq ?_
          refine cW_seq ?_
          refine cW_region ?_
          refine wS_pure 1 [(16, .int .i64 (0))] (by kernel_rfl) ?_
          refine wS_end (by rfl) ?_
          refine eX_then ?_
          obtain ⟨r5, hr7, hm⟩ := bindE hm
          have hm5 := hm
          refine cW_cut (fun a' w' => ∃ l12 : List (Int), ∃ A7 : Option Addr, ∃ cap7 : Nat, ∃ fp6 : List Nat, l12 = r5 ∧ Fr 154 [(0, .pointer (some ⟨b0, 0, none⟩)), (4, .int .i64 (((l0_0).length : Int))), (6, .slice (some ⟨b1, 0, none⟩) (l1).length (Int.toNat (shlI 1 (wu (((l0_0).length : Int)))))), (10, .slice A3 (l8).length cap3), (11, .int .i64 (x10)), (12, .slice A5 (l10).length cap5), (13, .int .i64 (x12)), (14, .int .i64 (x13)), (15, .slice A7 (l12).length cap7)] a' ∧ Sl 1 encI w' fp0_0 A0_0 l0_0 ∧ SlR 1 encB w' fp0_1 A0_1 l0_1 ∧ SlR 1 encB w' fp0_2 A0_2 l0_2 ∧ Cl w' b0 94 [.slice A0_0 (l0_0).length cap0_0, .slice A0_1 (l0_1).length cap0_1, .slice A0_2 (l0_2).length cap0_2] ∧ Ow 1 encI 2 w' [b1] (some ⟨b1, 0, none⟩) (Int.toNat (shlI 1 (wu (((l0_0).length : Int))))) l1 ∧ OwR 1 encI 24 2 w' fp2 fr2 A3 cap3 l8 ∧ Ow 1 encI 2 w' fp4 A5 cap5 l10 ∧ Ow 1 encI 2 w' fp6 A7 cap7 l12 ∧ (∀ x ∈ fp6, w0.heap.size ≤ x) ∧ Dj [b1] fp6 ∧ Dj (fp2 ++ fr2) fp6 ∧ Dj fp4 fp6 ∧ Chg [] w0 w' ∧ w0.heap.size ≤ w'.heap.size) ?_ ?_
          ·refine cW_block ?_
           refine cW_loop _ (fun (s7 : (List (Int)) × Int) a' w' => ∃ l13 : List (Int), ∃ A8 : Option Addr, ∃ cap8 : Nat, ∃ fp7 : List Nat, ∃ x17 : Int, (l13, x17) = s7 ∧ Fr 154 [(0, .pointer (some ⟨b0, 0, none⟩)), (4, .int .i64 (((l0_0).length : Int))), (6, .slice (some ⟨b1, 0, none⟩) (l1).length (Int.toNat (shlI 1 (wu (((l0_0).length : Int)))))), (10, .slice A3 (l8).length cap3), (11, .int .i64 (x10)), (12, .slice A5 (l10).length cap5), (13, .int .i64 (x12)), (14, .int .i64 (x13)), (15, .slice A8 (l13).length cap8), (16, .int .i64 (x17))] a' ∧ Sl 1 encI w' fp0_0 A0_0 l0_0 ∧ SlR 1 encB w' fp0_1 A0_1 l0_1 ∧ SlR 1 encB w' fp0_2 A0_2 l0_2 ∧ Cl w' b0 94 [.slice A0_0 (l0_0).length cap0_0, .slice A0_1 (l0_1).length cap0_1, .slice A0_2 (l0_2).length cap0_2] ∧ Ow 1 encI 2 w' [b1] (some ⟨b1, 0, none⟩) (Int.toNat (shlI 1 (wu (((l0_0).length : Int))))) l1 ∧ OwR 1 encI 24 2 w' fp2 fr2 A3 cap3 l8 ∧ Ow 1 encI 2 w' fp4 A5 cap5 l10 ∧ Ow 1 encI 2 w' fp7 A8 cap8 l13 ∧ (∀ x ∈ fp7, w0.heap.size ≤ x) ∧ Dj [b1] fp7 ∧ Dj (fp2 ++ fr2) fp7 ∧ Dj fp4 fp7 ∧ Chg [] w0 w' ∧ w0.heap.size ≤ w'.heap.size) hr7 (fun hst => ⟨([] : List (Int)), (some ⟨b4, 0, none⟩), 0, [b4], 0, rfl, Fr.of hst (by kernel_rfl), F38, F39, F40, F41, F42, F43, F44, F45, G6, D7, D8, D9, hB, hZ⟩) ?_
           rintro _ c5 a' w19 ⟨l13, A8, cap8, fp7, x17, rfl, hF8, F46, F47, F48, F49, F50, F51, F52, F53, G7, D10, D11, D12, hB, hZ⟩ hx14
           refine Fr.goOn hF8 (by kernel_rfl) ?_
           have hm := hx14
           unfold m_spec_l03Fewest_bspecl03Things_s26 at hm
           refine cW_seq ?_
           refine cW_seq ?_
           refine cW_region ?_
           refine wS_pure 3 [(118, .bool (decide (x17 < (((l0_0).length : Int))))), (117, .int .i64 (((l0_0).length : Int))), (116, .int .i64 (x17))] (by kernel_rfl) ?_
           refine wS_end (by rfl) ?_
           refine eX_then ?_
           refine cW_cond (t := decide (x17 < (((l0_0).length : Int)))) (by kernel_rfl) (fun hb13 => ?_) (fun hb13 => ?_)
           ·have hm := condT hb13 hm
            refine cW_skip ?_
            refine eX_then ?_
            refine cW_seq ?_
            refine cW_block ?_
            obtain ⟨s8, hs3, hm⟩ := bindE hm
            refine cW_cut (fun a' w' => ∃ l14 : List (Int), ∃ A9 : Option Addr, ∃ cap9 : Nat, ∃ fp8 : List Nat, l14 = s8 ∧ Fr 154 [(0, .pointer (some ⟨b0, 0, none⟩)), (4, .int .i64 (((l0_0).length : Int))), (6, .slice (some ⟨b1, 0, none⟩) (l1).length (Int.toNat (shlI 1 (wu (((l0_0).length : Int)))))), (10, .slice A3 (l8).length cap3), (11, .int .i64 (x10)), (12, .slice A5 (l10).length cap5), (13, .int .i64 (x12)), (14, .int .i64 (x13)), (15, .slice A9 (l14).length cap9), (16, .int .i64 (x17))] a' ∧ Sl 1 encI w' fp0_0 A0_0 l0_0 ∧ SlR 1 encB w' fp0_1 A0_1 l0_1 ∧ SlR 1 encB w' fp0_2 A0_2 l0_2 ∧ Cl w' b0 94 [.slice A0_0 (l0_0).length cap0_0, .slice A0_1 (l0_1).length cap0_1, .slice A0_2 (l0_2).length cap0_2] ∧ Ow 1 encI 2 w' [b1] (some ⟨b1, 0, none⟩) (Int.toNat (shlI 1 (wu (((l0_0).length : Int))))) l1 ∧ OwR 1 encI 24 2 w' fp2 fr2 A3 cap3 l8 ∧ Ow 1 encI 2 w' fp4 A5 cap5 l10 ∧ Ow 1 encI 2 w' fp8 A9 cap9 l14 ∧ (∀ x ∈ fp8, w0.heap.size ≤ x) ∧ Dj [b1] fp8 ∧ Dj (fp2 ++ fr2) fp8 ∧ Dj fp4 fp8 ∧ Chg [] w0 w' ∧ w0.heap.size ≤ w'.heap.size) ?_ ?_
            ·have hm := hs3
             refine cW_seq ?_
             refine cW_region ?_
             refine wS_pure 3 [(123, .int .u64 (wu x17)), (122, .int .i64 (x17)), (121, .int .i64 (x13))] (by kernel_rfl) ?_
             obtain ⟨u2, hu2, hm⟩ := bindE hm
             refine wS_shr (d := 124) (x := x13) (y := wu x17) (yk := .u64) (by kernel_rfl) (p0E hu2) ?_
             refine wS_pure 2 [(126, .bool ((andI (shrI x13 (wu x17)) 1) == 1)), (125, .int .i64 (andI (shrI x13 (wu x17)) 1))] (by kernel_rfl) ?_
             refine wS_end (by rfl) ?_
             refine eX_then ?_
             refine cW_cond (t := (andI (shrI x13 (wu x17)) 1) == 1) (by kernel_rfl) (fun hb14 => ?_) (fun hb14 => ?_)
             ·have hm := condT hb14 hm
              refine cW_region ?_
              refine wS_pure 4 [(130, .pointer (some ⟨b0, 0, none⟩)), (129, .pointer (some ⟨b0, 0, none⟩)), (128, .pointer (some ⟨b0, 0, none⟩)), (127, .slice A8 (l13).length cap8)] (by kernel_rfl) ?_
              refine wS_load1 (d := 131) (T := 24) (ad := ⟨b0, 0, none⟩) (v := .slice A0_0 (l0_0).length cap0_0) (by kernel_rfl) vt24 ((F49).cell 0) ?_
              refine wS_pure 1 [(132, .int .i64 (x17))] (by kernel_rfl) ?_
              obtain ⟨x18, hx15, hm⟩ := bindE hm
              refine wS_idx (d := 133) (T := 24) (A := A0_0) (n := (l0_0).length) (cap := cap0_0) (kd := .i64) (m := x17) (by kernel_rfl) sl24 (F46.is hx15) ?_
              refine wS_load1 (d := 134) (T := 2) (ad := (elA A0_0 1 (x17) 0)) (v := .int .i64 (x18)) (by kernel_rfl) vt2 (Sl.cell F46 hx15 0 (by rfl)) ?_
              refine wS_bs (enc := encI) ([x18] : List (Int)) [.int .i64 (x18)] (d := 135) (t := 24) (T := 2) (n := 1) (ps := [(0, .int .i64 (x18))]) (by kernel_rfl) el24 encI_ok (by rfl) (by omega) (by omega) (by kernel_rfl) (by rfl) ?_
              intro b5 w20 G8 F54 hc12
              have D13 : Dj [b1] [b5] := Dj.of F50.low (low1 G8)
              have D14 : Dj (fp2 ++ fr2) [b5] := Dj.of F51.low (low1 G8)
              have D15 : Dj fp4 [b5] := Dj.of F52.low (low1 G8)
              have D16 : Dj fp7 [b5] := Dj.of F53.low (low1 G8)
              replace F46 := F46.chg hc12 Dj.nil
              replace F47 := F47.chg hc12 Dj.nil
              replace F48 := F48.chg hc12 Dj.nil
              replace F49 := F49.chg hc12 notNil
              replace F50 := F50.chg hc12 Dj.nil
              replace F51 := F51.chg hc12 Dj.nil
              replace F52 := F52.chg hc12 Dj.nil
              replace F53 := F53.chg hc12 Dj.nil
              replace hB := hB.inS hc12 inNil
              replace G8 := Nat.le_trans hZ G8
              replace G8 := low1 G8
              replace hZ := Nat.le_trans hZ hc12.size
              obtain ⟨_, hk2, hm⟩ := bindE hm
              replace hk2 := apE hk2
              refine wS_append (enc := encI) (l := (l13 : List (Int))) (l2 := (([x18] : List (Int)) : List (Int))) (d := 136) (t := 24) (T := 2) (A := A8) (A2 := (some ⟨b5, 0, none⟩)) (cap := cap8) (cap2 := 1) (by kernel_rfl) el24 encI_ok F53 (F54.sl encI_ok) (by rfl) hk2 ?_
              intro w21 fp9 A10 cap10 F55 hc13 hp1
              have G9 := low_ap G7 hZ hp1
              have D17 : Dj [b1] fp9 := Dj.ap D10 F50.low hp1
              have D18 : Dj (fp2 ++ fr2) fp9 := Dj.ap D11 F51.low hp1
              have D19 : Dj fp4 fp9 := Dj.ap D12 F52.low hp1
              have D20 : Dj [b5] fp9 := Dj.ap (D16).symm F54.low hp1
              replace F46 := F46.chg hc13 (Dj.of L0_0 G7)
              replace F47 := F47.chg hc13 (Dj.of L0_1 G7)
              replace F48 := F48.chg hc13 (Dj.of L0_2 G7)
              replace F49 := F49.chg hc13 (dj1 (Dj.of L0 G7))
              replace F50 := F50.chg hc13 D10
              replace F51 := F51.chg hc13 D11
              replace F52 := F52.chg hc13 D12
              replace F54 := F54.chg hc13 (D16).symm
              replace hB := hB.inS hc13 (inLow G7)
              replace hZ := Nat.le_trans hZ hc13.size
              refine wS_pure 1 [(15, .slice A10 (l13 ++ (([x18] : List (Int)))).length cap10)] (by kernel_rfl) ?_
              refine wS_end (by rfl) ?_
              have hq : (some (l13 ++ (([x18] : List (Int)))) : Option ((List (Int)))) = some _ := hm
              replace hq := someE hq
              subst hq
              exact eX_J (fun hst => ⟨l13 ++ (([x18] : List (Int))), A10, cap10, fp9, rfl, Fr.of hst (by kernel_rfl), F46, F47, F48, F49, F50, F51, F52, F55, G9, D17, D18, D19, hB, hZ⟩)
             ·have hm := condF hb14 hm
              refine cW_skip ?_
              have hq : (some l13 : Option ((List (Int)))) = some _ := hm
              replace hq := someE hq
              subst hq
              exact eX_J (fun hst => ⟨l13, A8, cap8, fp7, rfl, Fr.of hst (by kernel_rfl), F46, F47, F48, F49, F50, F51, F52, F53, G7, D10, D11, D12, hB, hZ⟩)
            ·rintro a' w22 ⟨l14, A9, cap9, fp8, hJ, hF9, F56, F57, F58, F59, F60, F61, F62, F63, G10, D21, D22, D23, hB, hZ⟩
             subst hJ
             refine Fr.goX hF9 (by kernel_rfl) ?_
             refine eX_block ?_
             refine eX_then ?_
             refine cW_region ?_
             refine wS_pure 3 [(16, .int .i64 (wr (x17 + 1))), (120, .int .i64 (wr (x17 + 1))), (119, .int .i64 (x17))] (by kernel_rfl) ?_
             refine wS_end (by rfl) ?_
             have hq : (some (Ctl.next ((l14, wr (x17 + 1)))) : Option (Ctl ((List (Int)) × Int) ((List (Int))))) = some _ := hm
             replace hq := someE hq
             subst hq
             exact eX_next hx14 (fun hst => ⟨l14, A9, cap9, fp8, wr (x17 + 1), rfl, Fr.of hst (by kernel_rfl), F56, F57, F58, F59, F60, F61, F62, F63, G10, D21, D22, D23, hB, hZ⟩)
           ·have hm := condF hb13 hm
            refine cW_exit ?_
            refine eX_then_exit ?_
            have hq : (some (Ctl.out l13) : Option (Ctl ((List (Int)) × Int) ((List (Int))))) = some _ := hm
            replace hq := someE hq
            subst hq
            refine eX_outX hx14 (fun hr8 => ?_)
            replace hr8 := hr8.symm
            subst hr8
            refine eX_block_hit ?_
            exact eX_J (fun hst => ⟨l13, A8, cap8, fp7, rfl, Fr.of hst (by kernel_rfl), F46, F47, F48, F49, F50, F51, F52, F53, G7, D10, D11, D12, hB, hZ⟩)
          ·rintro a' w23 ⟨l12, A7, cap7, fp6, hJ, hF10, F64, F65, F66, F67, F68, F69, F70, F71, G11, D24, D25, D26, hB, hZ⟩
           subst hJ
           refine Fr.goX hF10 (by kernel_rfl) ?_
           refine eX_then ?_
           refine cW_seq ?_
           refine cW_region ?_
           refine wS_pure 3 [(139, .bool (x12 == 0)), (138, .bool (x12 == 0)), (137, .int .i64 (x12))] (by kernel_rfl) ?_
           refine wS_bool (x12 == 0) (fun hb15 => ?_) (fun hb15 => ?_)
           ·have hm := condT hb15 hm
            rewrite [hb15]
            refine wS_pure 4 [(143, .bool (true)), (142, undef), (141, undef), (140, undef)] (by kernel_rfl) ?_
            refine wS_end (by rfl) ?_
            refine eX_then ?_
            refine cW_cond_t (by kernel_rfl) ?_
            refine cW_seq ?_
            refine cW_region ?_
            refine wS_pure 2 [(12, .slice A7 (l12).length cap7), (144, .slice A7 (l12).length cap7)] (by kernel_rfl) ?_
            refine wS_end (by rfl) ?_
            refine eX_then ?_
            refine cW_region ?_
            refine wS_pure 2 [(13, .int .i64 (x13)), (145, .int .i64 (x13))] (by kernel_rfl) ?_
            refine wS_end (by rfl) ?_
            have hq : (some ((l12, x13)) : Option ((List (Int)) × Int)) = some _ := hm
            replace hq := someE hq
            subst hq
            exact eX_J (fun hst => ⟨l12, A7, cap7, fp6, x13, rfl, Fr.of hst (by kernel_rfl), F64, F65, F66, F67, F68, F69, F71, G11, D24, D25, hB, hZ⟩)
           ·have hm := condF hb15 hm
            rewrite [hb15]
            refine wS_pure 2 [(141, .slice A5 (l10).length cap5), (140, .slice A7 (l12).length cap7)] (by kernel_rfl) ?_
            obtain ⟨y4, hy4, hm⟩ := bindE hm
            refine wS_calls (d := 142) (f := 97) (vs := [.slice A7 (l12).length cap7, .slice A5 (l10).length cap5]) (by kernel_rfl) ent97 (c_spec_l03Less hy4 (F71.sl encI_ok) (F70.sl encI_ok)) ?_
            rintro _ w24 ⟨rfl, hc14⟩
            replace F64 := F64.chg hc14 Dj.nil
            replace F65 := F65.chg hc14 Dj.nil
            replace F66 := F66.chg hc14 Dj.nil
            replace F67 := F67.chg hc14 notNil
            replace F68 := F68.chg hc14 Dj.nil
            replace F69 := F69.chg hc14 Dj.nil
            replace F70 := F70.chg hc14 Dj.nil
            replace F71 := F71.chg hc14 Dj.nil
            replace hB := hB.inS hc14 inNil
            replace hZ := Nat.le_trans hZ hc14.size
            refine ⟨.bool (y4), rfl, ?_⟩
            refine wS_pure 1 [(143, .bool (y4))] (by kernel_rfl) ?_
            refine wS_end (by rfl) ?_
            refine eX_then ?_
            refine cW_cond (t := y4) (by kernel_rfl) (fun hb16 => ?_) (fun hb16 => ?_)
            ·have hm := condT hb16 hm
             refine cW_seq ?_
             refine cW_region ?_
             refine wS_pure 2 [(12, .slice A7 (l12).length cap7), (144, .slice A7 (l12).length cap7)] (by kernel_rfl) ?_
             refine wS_end (by rfl) ?_
             refine eX_then ?_
             refine cW_region ?_
             refine wS_pure 2 [(13, .int .i64 (x13)), (145, .int .i64 (x13))] (by kernel_rfl) ?_
             refine wS_end (by rfl) ?_
             have hq : (some ((l12, x13)) : Option ((List (Int)) × Int)) = some _ := hm
             replace hq := someE hq
             subst hq
             exact eX_J (fun hst => ⟨l12, A7, cap7, fp6, x13, rfl, Fr.of hst (by kernel_rfl), F64, F65, F66, F67, F68, F69, F71, G11, D24, D25, hB, hZ⟩)
            ·have hm := condF hb16 hm
             refine cW_skip ?_
             have hq : (some ((l10, x12)) : Option ((List (Int)) × Int)) = some _ := hm
             replace hq := someE hq
             subst hq
             exact eX_J (fun hst => ⟨l10, A5, cap5, fp4, x12, rfl, Fr.of hst (by kernel_rfl), F64, F65, F66, F67, F68, F69, F70, G5, D5, D6, hB, hZ⟩)
         ·rintro a' w25 ⟨l11, A6, cap6, fp5, x16, hJ, hF11, F72, F73, F74, F75, F76, F77, F78, G12, D27, D28, hB, hZ⟩
          subst hJ
          refine Fr.goX hF11 (by kernel_rfl) ?_
          refine eX_block ?_
          refine eX_then ?_
          refine cW_region ?_
          refine wS_pure 5 [(14, .int .i64 (andI (wr (x13 - 1)) x10)), (95, .int .i64 (andI (wr (x13 - 1)) x10)), (94, .int .i64 (x10)), (93, .int .i64 (wr (x13 - 1))), (92, .int .i64 (x13))] (by kernel_rfl) ?_
          refine wS_end (by rfl) ?_
          have hq : (some (Ctl.next ((l11, x16, andI (wr (x13 - 1)) x10))) : Option (Ctl ((List (Int)) × Int × Int) ((List (Int)) × Int))) = some _ := hm
          replace hq := someE hq
          subst hq
          exact eX_next hx11 (fun hst => ⟨l11, A6, cap6, fp5, x16, andI (wr (x13 - 1)) x10, rfl, Fr.of hst (by kernel_rfl), F72, F73, F74, F75, F76, F77, F78, G12, D27, D28, hB, hZ⟩)
      ·have hm := condF hb10 hm
       refine cW_exit ?_
       refine eX_then_exit ?_
       have hq : (some (Ctl.out ((l10, x12))) : Option (Ctl ((List (Int)) × Int × Int) ((List (Int)) × Int))) = some _ := hm
       replace hq := someE hq
       subst hq
       refine eX_outX hx11 (fun hr9 => ?_)
       replace hr9 := hr9.symm
       subst hr9
       refine eX_block_hit ?_
       exact eX_J (fun hst => ⟨l10, A5, cap5, fp4, x12, rfl, Fr.of hst (by kernel_rfl), F38, F39, F40, F41, F42, F43, F44, G5, D5, D6, hB, hZ⟩)
     ·rintro a' w26 ⟨l9, A4, cap4, fp3, x11, hJ, hF12, F79, F80, F81, F82, F83, F84, F85, G13, D29, D30, hB, hZ⟩
      subst hJ
      refine Fr.goX hF12 (by kernel_rfl) ?_
      refine eX_then ?_
      refine cW_seq ?_
      refine cW_region ?_
      refine wS_pure 2 [(147, .slice A4 (l9).length cap4), (146, .slice A3 (l8).length cap3)] (by kernel_rfl) ?_
      refine wS_row1 (k := 1) (enc := encI) (l := l9) (d := 148) (t := 28) (T := 24) (B := A4) (c := cap4) (by kernel_rfl) el28 F85 ?_
      intro b6 w27 G14 F86 hc15
      have D31 : Dj [b1] ([b6] ++ fp3) := Dj.app (Dj.of F83.low (low1 G14)) D29
      have D32 : Dj (fp2 ++ fr2) ([b6] ++ fp3) := Dj.app (Dj.of F84.low (low1 G14)) D30
      replace F79 := F79.chg hc15 Dj.nil
      replace F80 := F80.chg hc15 Dj.nil
      replace F81 := F81.chg hc15 Dj.nil
      replace F82 := F82.chg hc15 notNil
      replace F83 := F83.chg hc15 Dj.nil
      replace F84 := F84.chg hc15 Dj.nil
      replace F85 := F85.chg hc15 Dj.nil
      replace hB := hB.inS hc15 inNil
      replace G14 := Nat.le_trans hZ G14
      replace G14 := lowApp (low1 G14) G13
      replace hZ := Nat.le_trans hZ hc15.size
      replace F85 := (F85.sl encI_ok)
      obtain ⟨_, hk3, hm⟩ := bindE hm
      replace hk3 := apE hk3
      refine wS_appendR (k := 1) (enc := encI) (ll := (l8 : List (List (Int)))) (ll2 := (([l9] : List (List (Int))) : List (List (Int)))) (d := 149) (t := 28) (T := 24) (A := A3) (A2 := (some ⟨b6, 0, none⟩)) (cap := cap3) (cap2 := 1) (by kernel_rfl) el28 F84 F86 (by rfl) D32 hk3 ?_
      intro w28 fp10 A11 cap11 F87 hc16 hp2
      have G15 := lowApp (low_ap (low_inl G3) hZ hp2) (lowApp (low_inr G3) (low_inr G14))
      have D33 : Dj [b1] (fp10 ++ (fr2 ++ fp3)) := Dj.app (Dj.ap (Dj.inl D2) F83.low hp2) (Dj.app (Dj.inr D2) (Dj.inr D31))
      replace F79 := F79.chg hc16 (Dj.inl (Dj.of L0_0 G3))
      replace F80 := F80.chg hc16 (Dj.inl (Dj.of L0_1 G3))
      replace F81 := F81.chg hc16 (Dj.inl (Dj.of L0_2 G3))
      replace F82 := F82.chg hc16 (dj1 (Dj.inl (Dj.of L0 G3)))
      replace F83 := F83.chg hc16 (Dj.inl D2)
      replace hB := hB.inS hc16 (memS_inl (inLow G3))
      replace hZ := Nat.le_trans hZ hc16.size
      refine wS_pure 1 [(10, .slice A11 (l8 ++ (([l9] : List (List (Int))))).length cap11)] (by kernel_rfl) ?_
      refine wS_end (by rfl) ?_
      refine eX_then ?_
      refine cW_region ?_
      refine wS_pure 4 [(11, .int .i64 (andNI x10 x11)), (152, .int .i64 (andNI x10 x11)), (151, .int .i64 (x11)), (150, .int .i64 (x10))] (by kernel_rfl) ?_
      refine wS_end (by rfl) ?_
      refine eX_block ?_
      have hq : (some (Ctl.next ((l8 ++ (([l9] : List (List (Int)))), andNI x10 x11))) : Option (Ctl ((List (List (Int))) × Int) ((List (List (Int)))))) = some _ := hm
      replace hq := someE hq
      subst hq
      exact eX_next hx10 (fun hst => ⟨l8 ++ (([l9] : List (List (Int)))), A11, cap11, fp10, (fr2 ++ fp3), andNI x10 x11, rfl, Fr.of hst (by kernel_rfl), F79, F80, F81, F82, F83, F87, G15, D33, hB, hZ⟩)
    ·have hm := condF hb9 hm
     refine cW_exit ?_
     refine eX_then_exit ?_
     have hq : (some (Ctl.out l8) : Option (Ctl ((List (List (Int))) × Int) ((List (List (Int)))))) = some _ := hm
     replace hq := someE hq
     subst hq
     refine eX_outX hx10 (fun hr10 => ?_)
     replace hr10 := hr10.symm
     subst hr10
     refine eX_block_hit ?_
     exact eX_J (fun hst => ⟨l8, A3, cap3, fp2, fr2, rfl, Fr.of hst (by kernel_rfl), F36, G3, hB, hZ⟩)
   ·rintro a' w29 ⟨l7, A1, cap1, fp1, fr1, hJ, hF13, F88, G16, hB, hZ⟩
    subst hJ
    refine Fr.goX hF13 (by kernel_rfl) ?_
    refine eX_then ?_
    refine cW_seq ?_
    refine cW_region ?_
    refine wS_pure 3 [(3, .bool (true)), (2, .slice A1 (l7).length cap1), (153, .slice A1 (l7).length cap1)] (by kernel_rfl) ?_
    refine wS_end (by rfl) ?_
    refine eX_then ?_
    refine cW_ret ?_
    have hq : (some ((l7, true)) : Option ((List (List (Int))) × (Bool))) = some _ := hm
    replace hq := someE hq
    subst hq
    refine eX_ret (vs := [.slice A1 (l7).length cap1, .bool (true)]) [.tmp 2, .tmp 3] (by rfl) ⟨by (show lkE _ _ _ = _); kernel_rfl, ⟨by (show lkE _ _ _ = _); kernel_rfl, trivial⟩⟩ ?_
    exact ⟨A1, cap1, fp1, fr1, rfl, F88, G16, hB⟩

set_option maxRecDepth 100000 in
/-- spec.FewestTracks -/
theorem c_spec_FewestTracks {w0 : World} {l0_0 : List (Int)} {A0_0 : Option Addr} {cap0_0 : Nat} {fp0_0 : List Nat} {l0_1 : List (Int)} {A0_1 : Option Addr} {cap0_1 : Nat} {fp0_1 : List Nat} {r : (List (List (Int))) × (Bool)} (hm : m_spec_FewestTracks l0_0 l0_1 = some r) (F0_0 : Sl 1 encI w0 fp0_0 A0_0 l0_0) (F0_1 : Sl 1 encI w0 fp0_1 A0_1 l0_1) :
  Calls Tryd.prog 21 #[.agg #[.slice A0_0 (l0_0).length cap0_0, .slice A0_1 (l0_1).length cap0_1]] w0 fun e w' => ∃ A100 cap100 fp100 fr100, e = .returned (.tuple #[.slice A100 (r.1).length cap100, .bool (r.2)]) ∧ OwR 1 encI 24 2 w' fp100 fr100 A100 cap100 r.1 ∧ (∀ x ∈ fp100 ++ fr100, w0.heap.size ≤ x) ∧ Chg [] w0 w' := by
 have L0_0 := F0_0.low
 have L0_1 := F0_1.low
 have hB : Chg [] w0 w0 := Chg.refl _ _
 have hZ := Nat.le_refl w0.heap.size
 unfold m_spec_FewestTracks at hm
 refine enterE (N := 10) Tryd.func21 (by rfl) Tryd.ntmps21 (by simp) [(0, .agg #[.slice A0_0 (l0_0).length cap0_0, .slice A0_1 (l0_1).length cap0_1])] (by rfl) (by kernel_rfl) (fun a => ?_)
 refine cW_seq ?_
 refine cW_region ?_
 refine wS_box (d := 1) (T := 26) (x := .agg #[.slice A0_0 (l0_0).length cap0_0, .slice A0_1 (l0_1).length cap0_1]) (by kernel_rfl) ?_
 intro b1 w1 G1 F1 hc1
 replace F1 : Cl w1 b1 26 [.slice A0_0 (l0_0).length cap0_0, .slice A0_1 (l0_1).length cap0_1] := F1
 replace F0_0 := F0_0.chg hc1 Dj.nil
 replace F0_1 := F0_1.chg hc1 Dj.nil
 replace hB := hB.inS hc1 inNil
 replace G1 := Nat.le_trans hZ G1
 replace hZ := Nat.le_trans hZ hc1.size
 refine wS_pure 2 [(3, .bool (false)), (2, .slice none 0 0)] (by kernel_rfl) ?_
 refine wS_end (by rfl) ?_
 refine eX_then ?_
 refine cW_seq ?_
 refine cW_seq ?_
 refine cW_region ?_
 obtain ⟨y1, hy1, hm⟩ := bindE hm
 refine wS_calls (d := 4) (f := 60) (vs := [.pointer (some ⟨b1, 0, none⟩)]) (by kernel_rfl) ent60 (c_spec_l03Is_bimplChannel hy1 F0_0 F0_1 F1) ?_
 rintro _ w2 ⟨rfl, hc2⟩
 replace F0_0 := F0_0.chg hc2 Dj.nil
 replace F0_1 := F0_1.chg hc2 Dj.nil
 replace F1 := F1.chg hc2 notNil
 replace hB := hB.inS hc2 inNil
 replace hZ := Nat.le_trans hZ hc2.size
 refine ⟨.bool (y1), rfl, ?_⟩
 refine wS_pure 1 [(5, .bool (!y1))] (by kernel_rfl) ?_
 refine wS_end (by rfl) ?_
 refine eX_then ?_
 refine cW_cond (t := !y1) (by kernel_rfl) (fun hb1 => ?_) (fun hb1 => ?_)
 ·have hm := condT hb1 hm
  refine cW_seq ?_
  refine cW_region ?_
  refine wS_pure 2 [(3, .bool (false)), (2, .slice none 0 0)] (by kernel_rfl) ?_
  refine wS_end (by rfl) ?_
  refine eX_then ?_
  refine cW_ret ?_
  refine eX_then_ret ?_
  have hq : (some (([], false)) : Option ((List (List (Int))) × (Bool))) = some _ := hm
  replace hq := someE hq
  subst hq
  refine eX_ret (vs := [.slice none 0 0, .bool (false)]) [.tmp 2, .tmp 3] (by rfl) ⟨by (show lkE _ _ _ = _); kernel_rfl, ⟨by (show lkE _ _ _ = _); kernel_rfl, trivial⟩⟩ ?_
  exact ⟨none, 0, [], [], rfl, OwR.nil _, (lowApp lowNil lowNil), hB⟩
 ·have hm := condF hb1 hm
  refine cW_skip ?_
  refine eX_then ?_
  refine cW_seq ?_
  refine cW_region ?_
  obtain ⟨y2, hy2, hm⟩ := bindE hm
  refine wS_calls (d := 6) (f := 62) (vs := [.pointer (some ⟨b1, 0, none⟩)]) (by kernel_rfl) ent62 (c_spec_l03OfNets_bimplChannel hy2 F0_0 F0_1 F1) ?_
  rintro _ w3 ⟨b2, A1, cap1, fp1, A2, cap2, fp2, fr1, A3, cap3, fp3, fr2, rfl, F2, G2, F3, G3, F4, G4, F5, G5, D1, D2, D3, D4, D5, D6, hc3⟩
  have D7 : Dj [b1] [b2] := Dj.of (lt1 F1.lt) (low1 G2)
  have D8 : Dj [b1] fp1 := Dj.of (lt1 F1.lt) G3
  have D9 : Dj [b1] (fp2 ++ fr1) := Dj.of (lt1 F1.lt) G4
  have D10 : Dj [b1] (fp3 ++ fr2) := Dj.of (lt1 F1.lt) G5
  replace F0_0 := F0_0.chg hc3 Dj.nil
  replace F0_1 := F0_1.chg hc3 Dj.nil
  replace F1 := F1.chg hc3 notNil
  replace hB := hB.inS hc3 inNil
  replace G2 := Nat.le_trans hZ G2
  replace G3 := low_le hZ G3
  replace G4 := low_le hZ G4
  replace G5 := low_le hZ G5
  replace hZ := Nat.le_trans hZ hc3.size
  refine ⟨.pointer (some ⟨b2, 0, none⟩), rfl, ?_⟩
  obtain ⟨y3, hy3, hm⟩ := bindE hm
  refine wS_calls (d := 7) (f := 64) (vs := [.pointer (some ⟨b2, 0, none⟩)]) (by kernel_rfl) ent64 (c_spec_l03Fewest_bspecl03Things hy3 (F3.sl encI_ok) (F4.slr encB_ok) (F5.slr encB_ok) F2) ?_
  rintro _ w4 ⟨A4, cap4, fp4, fr3, rfl, F6, G6, hc4⟩
  have D11 : Dj [b1] (fp4 ++ fr3) := Dj.of (lt1 F1.lt) G6
  have D12 : Dj [b2] (fp4 ++ fr3) := Dj.of (lt1 F2.lt) G6
  have D13 : Dj fp1 (fp4 ++ fr3) := Dj.of F3.low G6
  have D14 : Dj (fp2 ++ fr1) (fp4 ++ fr3) := Dj.of F4.low G6
  have D15 : Dj (fp3 ++ fr2) (fp4 ++ fr3) := Dj.of F5.low G6
  replace F0_0 := F0_0.chg hc4 Dj.nil
  replace F0_1 := F0_1.chg hc4 Dj.nil
  replace F1 := F1.chg hc4 notNil
  replace F2 := F2.chg hc4 notNil
  replace F3 := F3.chg hc4 Dj.nil
  replace F4 := F4.chg hc4 Dj.nil
  replace F5 := F5.chg hc4 Dj.nil
  replace hB := hB.inS hc4 inNil
  replace G6 := low_le hZ G6
  replace hZ := Nat.le_trans hZ hc4.size
  refine ⟨.tuple #[.slice A4 (y3.1).length cap4, .bool (y3.2)], rfl, ?_⟩
  refine wS_pure 4 [(3, .bool (y3.2)), (2, .slice A4 (y3.1).length cap4), (9, .bool (y3.2)), (8, .slice A4 (y3.1).length cap4)] (by kernel_rfl) ?_
  refine wS_end (by rfl) ?_
  refine eX_then ?_
  refine cW_ret ?_
  have hq : (some ((y3.1, y3.2)) : Option ((List (List (Int))) × (Bool))) = some _ := hm
  replace hq := someE hq
  subst hq
  refine eX_ret (vs := [.slice A4 (y3.1).length cap4, .bool (y3.2)]) [.tmp 2, .tmp 3] (by rfl) ⟨by (show lkE _ _ _ = _); kernel_rfl, ⟨by (show lkE _ _ _ = _); kernel_rfl, trivial⟩⟩ ?_
  exact ⟨A4, cap4, fp4, fr3, rfl, F6, G6, hB⟩

set_option maxRecDepth 100000 in
/-- laws.toInt64S -/
theorem c_laws_toInt64S {w0 : World} {l0 : List (Int)} {A0 : Option Addr} {cap0 : Nat} {fp0 : List Nat} {r : (List (Int))} (hm : m_laws_toInt64S l0 = some r) (F0 : Sl 1 encI w0 fp0 A0 l0) :
  Calls Tryd.prog 65 #[.slice A0 (l0).length cap0] w0 fun e w' => ∃ A100 cap100 fp100, e = .returned (.slice A100 (r).length cap100) ∧ Ow 1 encI 2 w' fp100 A100 cap100 r ∧ (∀ x ∈ fp100, w0.heap.size ≤ x) ∧ Chg [] w0 w' := by
 have L0 := F0.low
 have hB : Chg [] w0 w0 := Chg.refl _ _
 have hZ := Nat.le_refl w0.heap.size
 unfold m_laws_toInt64S at hm
 refine enterE (N := 22) Tryd.func65 (by rfl) Tryd.ntmps65 (by simp) [(0, .slice A0 (l0).length cap0)] (by rfl) (by kernel_rfl) (fun a => ?_)
 refine cW_seq ?_
 refine cW_region ?_
 refine wS_pure 1 [(2, .slice none 0 0)] (by kernel_rfl) ?_
 refine wS_end (by rfl) ?_
 refine eX_then ?_
 refine cW_seq ?_
 refine cW_region ?_
 refine wS_pure 2 [(6, .int .i64 (((l0).length : Int))), (5, .slice A0 (l0).length cap0)] (by kernel_rfl) ?_
 obtain ⟨_, hk1, hm⟩ := bindE hm
 replace hk1 := mkE hk1
 refine wS_make (enc := encI) (x0 := (0 : Int)) (d := 7) (t := 24) (T := 2) (k1 := .i64) (k2 := .i64) (m := ((l0).length : Int)) (by kernel_rfl) el24 encI_ok (by rfl) hk1.1 hk1.2 ?_
 intro b1 w1 G1 F1 hc1
 replace F0 := F0.chg hc1 Dj.nil
 replace hB := hB.inS hc1 inNil
 replace G1 := Nat.le_trans hZ G1
 replace G1 := low1 G1
 replace hZ := Nat.le_trans hZ hc1.size
 refine wS_pure 1 [(3, .slice (some ⟨b1, 0, none⟩) (List.replicate (Int.toNat (((l0).length : Int))) ((0 : Int))).length (Int.toNat (((l0).length : Int))))] (by kernel_rfl) ?_
 refine wS_end (by rfl) ?_
 refine eX_then ?_
 refine cW_seq ?_
 refine cW_seq ?_
 refine cW_region ?_
 refine wS_pure 1 [(4, .int .i64 (0))] (by kernel_rfl) ?_
 refine wS_end (by rfl) ?_
 refine eX_then ?_
 obtain ⟨r1, hr1, hm⟩ := bindE hm
 have hm1 := hm
 refine cW_cut (fun a' w' => ∃ l1 : List (Int), l1 = r1 ∧ Fr 22 [(3, .slice (some ⟨b1, 0, none⟩) (l1).length (Int.toNat (((l0).length : Int))))] a' ∧ Ow 1 encI 2 w' [b1] (some ⟨b1, 0, none⟩) (Int.toNat (((l0).length : Int))) l1 ∧ Chg [] w0 w' ∧ w0.heap.size ≤ w'.heap.size) ?_ ?_
 ·refine cW_block ?_
  refine cW_loop _ (fun (s1 : Int × (List (Int))) a' w' => ∃ x1 : Int, ∃ l2 : List (Int), (x1, l2) = s1 ∧ Fr 22 [(0, .slice A0 (l0).length cap0), (3, .slice (some ⟨b1, 0, none⟩) (l2).length (Int.toNat (((l0).length : Int)))), (4, .int .i64 (x1))] a' ∧ Sl 1 encI w' fp0 A0 l0 ∧ Ow 1 encI 2 w' [b1] (some ⟨b1, 0, none⟩) (Int.toNat (((l0).length : Int))) l2 ∧ Chg [] w0 w' ∧ w0.heap.size ≤ w'.heap.size) hr1 (fun hst => ⟨0, List.replicate (Int.toNat (((l0).length : Int))) ((0 : Int)), rfl, Fr.of hst (by kernel_rfl), F0, F1, hB, hZ⟩) ?_
  rintro _ c1 a' w2 ⟨x1, l2, rfl, hF1, F2, F3, hB, hZ⟩ hx1
  refine Fr.goOn hF1 (by kernel_rfl) ?_
  have hm := hx1
  unfold m_laws_toInt64S_s1 at hm
  refine cW_seq ?_
  refine cW_seq ?_
  refine cW_region ?_
  refine wS_pure 4 [(11, .bool (decide (x1 < (((l0).length : Int))))), (10, .int .i64 (((l0).length : Int))), (9, .slice A0 (l0).length cap0), (8, .int .i64 (x1))] (by kernel_rfl) ?_
  refine wS_end (by rfl) ?_
  refine eX_then ?_
  refine cW_cond (t := decide (x1 < (((l0).length : Int)))) (by kernel_rfl) (fun hb1 => ?_) (fun hb1 => ?_)
  ·have hm := condT hb1 hm
   refine cW_skip ?_
   refine eX_then ?_
   refine cW_seq ?_
   refine cW_block ?_
   refine cW_region ?_
   refine wS_pure 4 [(17, .int .i64 (x1)), (16, .slice A0 (l0).length cap0), (15, .int .i64 (x1)), (14, .slice (some ⟨b1, 0, none⟩) (l2).length (Int.toNat (((l0).length : Int))))] (by kernel_rfl) ?_
   obtain ⟨x2, hx2, hm⟩ := bindE hm
   refine wS_idx (d := 18) (T := 24) (A := A0) (n := (l0).length) (cap := cap0) (kd := .i64) (m := x1) (by kernel_rfl) sl24 (F2.is hx2) ?_
   refine wS_load1 (d := 19) (T := 2) (ad := (elA A0 1 (x1) 0)) (v := .int .i64 (x2)) (by kernel_rfl) vt2 (Sl.cell F2 hx2 0 (by rfl)) ?_
   obtain ⟨x3, hx3, hm⟩ := bindE hm
   refine wS_idx (d := 20) (T := 24) (A := (some ⟨b1, 0, none⟩)) (n := (l2).length) (cap := (Int.toNat (((l0).length : Int)))) (kd := .i64) (m := x1) (by kernel_rfl) sl24 ((F3.sl encI_ok).is hx3) ?_
   refine wS_storeEl (x := x3) x2 (T := 2) (U := 2) (cap := (Int.toNat (((l0).length : Int)))) (j := 0) (A := (some ⟨b1, 0, none⟩)) (v := .int .i64 (x2)) (vs := [.int .i64 (x2)]) (m := x1) (by kernel_rfl) (by rfl) sz2 (by rfl) encI_ok F3 hx3 (by simp only [List.length_cons, List.length_nil]; omega) (by rfl) ?_
   intro w3 F4 hc2
   replace F2 := F2.chg hc2 (Dj.of L0 G1)
   replace hB := hB.inS hc2 (inLow G1)
   replace hZ := Nat.le_trans hZ hc2.size
   clear F3
   rewrite [show (l2).length = (l2.set (Int.toNat x1) x2).length from (List.length_set ..).symm]
   refine wS_end (by rfl) ?_
   refine eX_block ?_
   refine eX_then ?_
   refine cW_region ?_
   refine wS_pure 3 [(4, .int .i64 (wr (x1 + 1))), (13, .int .i64 (wr (x1 + 1))), (12, .int .i64 (x1))] (by kernel_rfl) ?_
   refine wS_end (by rfl) ?_
   have hq : (some (Ctl.next ((wr (x1 + 1), l2.set (Int.toNat x1) x2))) : Option (Ctl (Int × (List (Int))) ((List (Int))))) = some _ := hm
   replace hq := someE hq
   subst hq
   exact eX_next hx1 (fun hst => ⟨wr (x1 + 1), l2.set (Int.toNat x1) x2, rfl, Fr.of hst (by kernel_rfl), F2, F4, hB, hZ⟩)
  ·have hm := condF hb1 hm
   refine cW_exit ?_
   refine eX_then_exit ?_
   have hq : (some (Ctl.out l2) : Option (Ctl (Int × (List (Int))) ((List (Int))))) = some _ := hm
   replace hq := someE hq
   subst hq
   refine eX_outX hx1 (fun hr2 => ?_)
   replace hr2 := hr2.symm
   subst hr2
   refine eX_block_hit ?_
   exact eX_J (fun hst => ⟨l2, rfl, Fr.of hst (by kernel_rfl), F3, hB, hZ⟩)
 ·rintro a' w4 ⟨l1, hJ, hF2, F5, hB, hZ⟩
  subst hJ
  refine Fr.goX hF2 (by kernel_rfl) ?_
  refine eX_then ?_
  refine cW_seq ?_
  refine cW_region ?_
  refine wS_pure 2 [(2, .slice (some ⟨b1, 0, none⟩) (l1).length (Int.toNat (((l0).length : Int)))), (21, .slice (some ⟨b1, 0, none⟩) (l1).length (Int.toNat (((l0).length : Int))))] (by kernel_rfl) ?_
  refine wS_end (by rfl) ?_
  refine eX_then ?_
  refine cW_ret ?_
  have hq : (some l1 : Option ((List (Int)))) = some _ := hm
  replace hq := someE hq
  subst hq
  refine eX_ret (vs := [.slice (some ⟨b1, 0, none⟩) (l1).length (Int.toNat (((l0).length : Int)))]) [.tmp 2] (by rfl) ⟨by (show lkE _ _ _ = _); kernel_rfl, trivial⟩ ?_
  exact ⟨(some ⟨b1, 0, none⟩), (Int.toNat (((l0).length : Int))), [b1], rfl, F5, G1, hB⟩

set_option maxRecDepth 100000 in
/-- laws.toChannel -/
theorem c_laws_toChannel {w0 : World} {l0_0 : List (Int)} {A0_0 : Option Addr} {cap0_0 : Nat} {fp0_0 : List Nat} {l0_1 : List (Int)} {A0_1 : Option Addr} {cap0_1 : Nat} {fp0_1 : List Nat} {r : ((List (Int)) × (List (Int)))} (hm : m_laws_toChannel l0_0 l0_1 = some r) (F0_0 : Sl 1 encI w0 fp0_0 A0_0 l0_0) (F0_1 : Sl 1 encI w0 fp0_1 A0_1 l0_1) :
  Calls Tryd.prog 22 #[.agg #[.slice A0_0 (l0_0).length cap0_0, .slice A0_1 (l0_1).length cap0_1]] w0 fun e w' => ∃ A100_0 cap100_0 fp100_0, ∃ A100_1 cap100_1 fp100_1, e = .returned (.agg #[.slice A100_0 (r.1).length cap100_0, .slice A100_1 (r.2).length cap100_1]) ∧ Ow 1 encI 2 w' fp100_0 A100_0 cap100_0 r.1 ∧ (∀ x ∈ fp100_0, w0.heap.size ≤ x) ∧ Ow 1 encI 2 w' fp100_1 A100_1 cap100_1 r.2 ∧ (∀ x ∈ fp100_1, w0.heap.size ≤ x) ∧ Dj fp100_0 fp100_1 ∧ Chg [] w0 w' := by
 have L0_0 := F0_0.low
 have L0_1 := F0_1.low
 have hB : Chg [] w0 w0 := Chg.refl _ _
 have hZ := Nat.le_refl w0.heap.size
 unfold m_laws_toChannel at hm
 refine enterE (N := 13) Tryd.func22 (by rfl) Tryd.ntmps22 (by simp) [(0, .agg #[.slice A0_0 (l0_0).length cap0_0, .slice A0_1 (l0_1).length cap0_1])] (by rfl) (by kernel_rfl) (fun a => ?_)
 refine cW_seq ?_
 refine cW_region ?_
 refine wS_box (d := 1) (T := 39) (x := .agg #[.slice A0_0 (l0_0).length cap0_0, .slice A0_1 (l0_1).length cap0_1]) (by kernel_rfl) ?_
 intro b1 w1 G1 F1 hc1
 replace F1 : Cl w1 b1 39 [.slice A0_0 (l0_0).length cap0_0, .slice A0_1 (l0_1).length cap0_1] := F1
 replace F0_0 := F0_0.chg hc1 Dj.nil
 replace F0_1 := F0_1.chg hc1 Dj.nil
 replace hB := hB.inS hc1 inNil
 replace G1 := Nat.le_trans hZ G1
 replace hZ := Nat.le_trans hZ hc1.size
 refine wS_alloc (d := 2) (T := 26) (z := .agg #[.slice none 0 0, .slice none 0 0]) (by kernel_rfl) (by kernel_rfl) ?_
 intro b2 w2 G2 F2 hc2
 replace F2 : Cl w2 b2 26 [.slice none 0 0, .slice none 0 0] := F2
 have D1 : Dj [b1] [b2] := Dj.of (lt1 F1.lt) (low1 G2)
 replace F0_0 := F0_0.chg hc2 Dj.nil
 replace F0_1 := F0_1.chg hc2 Dj.nil
 replace F1 := F1.chg hc2 notNil
 replace hB := hB.inS hc2 inNil
 replace G2 := Nat.le_trans hZ G2
 replace hZ := Nat.le_trans hZ hc2.size
 refine wS_end (by rfl) ?_
 refine eX_then ?_
 refine cW_seq ?_
 refine cW_region ?_
 refine wS_alloc (d := 3) (T := 26) (z := .agg #[.slice none 0 0, .slice none 0 0]) (by kernel_rfl) (by kernel_rfl) ?_
 intro b3 w3 G3 F3 hc3
 replace F3 : Cl w3 b3 26 [.slice none 0 0, .slice none 0 0] := F3
 have D2 : Dj [b1] [b3] := Dj.of (lt1 F1.lt) (low1 G3)
 have D3 : Dj [b2] [b3] := Dj.of (lt1 F2.lt) (low1 G3)
 replace F0_0 := F0_0.chg hc3 Dj.nil
 replace F0_1 := F0_1.chg hc3 Dj.nil
 replace F1 := F1.chg hc3 notNil
 replace F2 := F2.chg hc3 notNil
 replace hB := hB.inS hc3 inNil
 replace G3 := Nat.le_trans hZ G3
 replace hZ := Nat.le_trans hZ hc3.size
 refine wS_end (by rfl) ?_
 refine eX_then ?_
 refine cW_seq ?_
 refine cW_region ?_
 refine wS_pure 1 [(4, .pointer (some ⟨b1, 0, none⟩))] (by kernel_rfl) ?_
 refine wS_load1 (d := 5) (T := 24) (ad := ⟨b1, 0, none⟩) (v := .slice A0_0 (l0_0).length cap0_0) (by kernel_rfl) vt24 ((F1).cell 0) ?_
 obtain ⟨y1, hy1, hm⟩ := bindE hm
 refine wS_calls (d := 6) (f := 65) (vs := [.slice A0_0 (l0_0).length cap0_0]) (by kernel_rfl) ent65 (c_laws_toInt64S hy1 F0_0) ?_
 rintro _ w4 ⟨A1, cap1, fp1, rfl, F4, G4, hc4⟩
 have D4 : Dj [b1] fp1 := Dj.of (lt1 F1.lt) G4
 have D5 : Dj [b2] fp1 := Dj.of (lt1 F2.lt) G4
 have D6 : Dj [b3] fp1 := Dj.of (lt1 F3.lt) G4
 replace F0_0 := F0_0.chg hc4 Dj.nil
 replace F0_1 := F0_1.chg hc4 Dj.nil
 replace F1 := F1.chg hc4 notNil
 replace F2 := F2.chg hc4 notNil
 replace F3 := F3.chg hc4 notNil
 replace hB := hB.inS hc4 inNil
 replace G4 := low_le hZ G4
 replace hZ := Nat.le_trans hZ hc4.size
 refine ⟨.slice A1 (y1).length cap1, rfl, ?_⟩
 refine wS_pure 1 [(7, .pointer (some ⟨b3, 0, none⟩))] (by kernel_rfl) ?_
 refine wS_store (T := 24) (g := b3) (o := 0) (ad := ⟨b3, 0, none⟩) (v := .slice A1 (y1).length cap1) (vs := [.slice A1 (y1).length cap1]) (by kernel_rfl) (by rfl) sz24 (by rfl) (by rfl) F3 (by simp only [List.length_cons, List.length_nil]; omega) ?_
 intro w5 F5 hc5
 replace F0_0 := F0_0.chg hc5 (Dj.of L0_0 (low1 G3))
 replace F0_1 := F0_1.chg hc5 (Dj.of L0_1 (low1 G3))
 replace F1 := F1.chg hc5 (dj1 D2)
 replace F2 := F2.chg hc5 (dj1 D3)
 replace F4 := F4.chg hc5 (D6).symm
 replace hB := hB.inS hc5 (inLow (low1 G3))
 replace hZ := Nat.le_trans hZ hc5.size
 replace F5 : Cl w5 b3 26 [.slice A1 (y1).length cap1, .slice none 0 0] := F5
 clear F3
 refine wS_end (by rfl) ?_
 refine eX_then ?_
 refine cW_seq ?_
 refine cW_region ?_
 refine wS_pure 1 [(8, .pointer (some ⟨b1, 1, none⟩))] (by kernel_rfl) ?_
 refine wS_load1 (d := 9) (T := 24) (ad := ⟨b1, 1, none⟩) (v := .slice A0_1 (l0_1).length cap0_1) (by kernel_rfl) vt24 ((F1).cell 1) ?_
 obtain ⟨y2, hy2, hm⟩ := bindE hm
 refine wS_calls (d := 10) (f := 65) (vs := [.slice A0_1 (l0_1).length cap0_1]) (by kernel_rfl) ent65 (c_laws_toInt64S hy2 F0_1) ?_
 rintro _ w6 ⟨A2, cap2, fp2, rfl, F6, G5, hc6⟩
 have D7 : Dj [b1] fp2 := Dj.of (lt1 F1.lt) G5
 have D8 : Dj [b2] fp2 := Dj.of (lt1 F2.lt) G5
 have D9 : Dj [b3] fp2 := Dj.of (lt1 F5.lt) G5
 have D10 : Dj fp1 fp2 := Dj.of F4.low G5
 replace F0_0 := F0_0.chg hc6 Dj.nil
 replace F0_1 := F0_1.chg hc6 Dj.nil
 replace F1 := F1.chg hc6 notNil
 replace F2 := F2.chg hc6 notNil
 replace F5 := F5.chg hc6 notNil
 replace F4 := F4.chg hc6 Dj.nil
 replace hB := hB.inS hc6 inNil
 replace G5 := low_le hZ G5
 replace hZ := Nat.le_trans hZ hc6.size
 refine ⟨.slice A2 (y2).length cap2, rfl, ?_⟩
 refine wS_pure 1 [(11, .pointer (some ⟨b3, 1, none⟩))] (by kernel_rfl) ?_
 refine wS_store (T := 24) (g := b3) (o := 1) (ad := ⟨b3, 1, none⟩) (v := .slice A2 (y2).length cap2) (vs := [.slice A2 (y2).length cap2]) (by kernel_rfl) (by rfl) sz24 (by rfl) (by rfl) F5 (by simp only [List.length_cons, List.length_nil]; omega) ?_
 intro w7 F7 hc7
 replace F0_0 := F0_0.chg hc7 (Dj.of L0_0 (low1 G3))
 replace F0_1 := F0_1.chg hc7 (Dj.of L0_1 (low1 G3))
 replace F1 := F1.chg hc7 (dj1 D2)
 replace F2 := F2.chg hc7 (dj1 D3)
 replace F4 := F4.chg hc7 (D6).symm
 replace F6 := F6.chg hc7 (D9).symm
 replace hB := hB.inS hc7 (inLow (low1 G3))
 replace hZ := Nat.le_trans hZ hc7.size
 replace F7 : Cl w7 b3 26 [.slice A1 (y1).length cap1, .slice A2 (y2).length cap2] := F7
 clear F5
 refine wS_end (by rfl) ?_
 refine eX_then ?_
 refine cW_seq ?_
 refine cW_region ?_
 refine wS_loadA (d := 12) (T := 26) (ad := ⟨b3, 0, none⟩) (vs := [.slice A1 (y1).length cap1, .slice A2 (y2).length cap2]) (by kernel_rfl) vt26 (fun i u hu => box_cells F7 0 hu (by rfl)) ?_
 refine wS_store (T := 26) (g := b2) (o := 0) (ad := ⟨b2, 0, none⟩) (v := .agg #[.slice A1 (y1).length cap1, .slice A2 (y2).length cap2]) (vs := [.slice A1 (y1).length cap1, .slice A2 (y2).length cap2]) (by kernel_rfl) (by rfl) sz26 (by rfl) (by rfl) F2 (by simp only [List.length_cons, List.length_nil]; omega) ?_
 intro w8 F8 hc8
 replace F0_0 := F0_0.chg hc8 (Dj.of L0_0 (low1 G2))
 replace F0_1 := F0_1.chg hc8 (Dj.of L0_1 (low1 G2))
 replace F1 := F1.chg hc8 (dj1 D1)
 replace F7 := F7.chg hc8 (dj1 (D3).symm)
 replace F4 := F4.chg hc8 (D5).symm
 replace F6 := F6.chg hc8 (D8).symm
 replace hB := hB.inS hc8 (inLow (low1 G2))
 replace hZ := Nat.le_trans hZ hc8.size
 replace F8 : Cl w8 b2 26 [.slice A1 (y1).length cap1, .slice A2 (y2).length cap2] := F8
 clear F2
 refine wS_end (by rfl) ?_
 refine eX_then ?_
 refine cW_ret ?_
 have hq : (some ((y1, y2)) : Option (((List (Int)) × (List (Int))))) = some _ := hm
 replace hq := someE hq
 subst hq
 refine eX_ret (vs := [.agg #[.slice A1 (y1).length cap1, .slice A2 (y2).length cap2]]) [.cell 2 26] (by rfl) ⟨⟨⟨b2, 0, none⟩, by kernel_rfl, run_loadVarA (vs := [.slice A1 (y1).length cap1, .slice A2 (y2).length cap2]) vt26 (fun i u hu => by exact box_cells F8 0 hu (by rfl))⟩, trivial⟩ ?_
 exact ⟨A1, cap1, fp1, A2, cap2, fp2, rfl, F4, G4, F6, G5, D10, hB⟩

end Go.Proofs.YtbfjekmefcpkmaaDoor
