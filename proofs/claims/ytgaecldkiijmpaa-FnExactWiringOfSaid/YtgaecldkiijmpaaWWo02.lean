/- Printed walks: spec.l01Path, spec.l07Paths, spec.l01Bend, spec.l01Corners, spec.l07Segments, spec.l07Share, spec.l07Lists, spec.l07Is. -/
import Derived.Test.YtgaecldkiijmpaaProg
import Derived.Test.YtgaecldkiijmpaaWWo01
set_option linter.unusedSimpArgs false
set_option linter.unusedVariables false
namespace Go.Proofs.Ytgaecldkiijmpaa
open Go.RowKit
attribute [local irreducible] wS cW eX wH

theorem ent120 : Ent Try.prog 120 := fun _ => by kernel_rfl
theorem ent153 : Ent Try.prog 153 := fun _ => by kernel_rfl
theorem ent154 : Ent Try.prog 154 := fun _ => by kernel_rfl
theorem ent165 : Ent Try.prog 165 := fun _ => by kernel_rfl
theorem ent167 : Ent Try.prog 167 := fun _ => by kernel_rfl
theorem ent172 : Ent Try.prog 172 := fun _ => by kernel_rfl
theorem ent173 : Ent Try.prog 173 := fun _ => by kernel_rfl
theorem ent174 : Ent Try.prog 174 := fun _ => by kernel_rfl
theorem ent176 : Ent Try.prog 176 := fun _ => by kernel_rfl
theorem vt32 : VarTy Try.prog 32 1 false := ⟨by kernel_rfl, by kernel_rfl⟩
theorem vt40 : VarTy Try.prog 40 1 false := ⟨by kernel_rfl, by kernel_rfl⟩
theorem sl31 : SlTy Try.prog 31 32 1 := ⟨Try.underlying31, by kernel_rfl⟩
theorem el25 : ElTy Try.prog 25 2 1 (.int .i64 (0)) := ElTy.mk' Try.underlying25 (by kernel_rfl) (by rfl)
theorem el40 : ElTy Try.prog 40 25 1 (.slice none 0 0) := ElTy.mk' Try.underlying40 (by kernel_rfl) (by rfl)

set_option maxRecDepth 100000 in
/-- spec.l01Path -/
theorem c_spec_l01Path {w0 : World} {l0 : List (Int × Int)} {A0 : Option Addr} {cap0 : Nat} {fp0 : List Nat} {r : (Bool)} (hm : m_spec_l01Path l0 = some r) (F0 : Sl 2 encII w0 fp0 A0 l0) (K0 : (l0).length ≤ cap0) :
    Calls Try.prog 173 #[.slice A0 (l0).length cap0] w0 fun e w' => e = .returned (.bool (r)) ∧ Chg [] w0 w' := by
  have L0 := F0.low
  have hB : Chg [] w0 w0 := Chg.refl _ _
  have hZ := Nat.le_refl w0.heap.size
  unfold m_spec_l01Path at hm
  refine enterE (N := 52) Try.func173 (by rfl) Try.ntmps173 (by simp) [(0, .slice A0 (l0).length cap0)] (by rfl) (by kernel_rfl) (fun a => ?_)
  refine cW_seq ?_
  refine cW_region ?_
  refine wS_pure 1 [(2, .bool (false))] (by kernel_rfl) ?_
  refine wS_end (by rfl) ?_
  refine eX_then ?_
  refine cW_seq ?_
  refine cW_seq ?_
  refine cW_region ?_
  refine wS_pure 4 [(7, .bool (decide ((((l0).length : Int)) < 1))), (6, .bool (decide ((((l0).length : Int)) < 1))), (5, .int .i64 (((l0).length : Int))), (4, .slice A0 (l0).length cap0)] (by kernel_rfl) ?_
  refine wS_bool (decide ((((l0).length : Int)) < 1)) (fun hb2 => ?_) (fun hb2 => ?_)
  · have hm := condT hb2 hm
    rewrite [hb2]
    refine wS_pure 4 [(11, .bool (true)), (10, undef), (9, undef), (8, undef)] (by kernel_rfl) ?_
    refine wS_end (by rfl) ?_
    refine eX_then ?_
    refine cW_cond_t (by kernel_rfl) ?_
    refine cW_seq ?_
    refine cW_region ?_
    refine wS_pure 1 [(2, .bool (false))] (by kernel_rfl) ?_
    refine wS_end (by rfl) ?_
    refine eX_then ?_
    refine cW_ret ?_
    refine eX_then_ret ?_
    have hq : (some false : Option ((Bool))) = some _ := hm
    replace hq := someE hq
    subst hq
    refine eX_ret (vs := [.bool (false)]) [.tmp 2] (by rfl) ⟨by (show lkE _ _ _ = _); kernel_rfl, trivial⟩ ?_
    exact ⟨rfl, hB⟩
  · have hm := condF hb2 hm
    rewrite [hb2]
    refine wS_pure 4 [(11, .bool (decide ((((l0).length : Int)) > 576))), (10, .bool (decide ((((l0).length : Int)) > 576))), (9, .int .i64 (((l0).length : Int))), (8, .slice A0 (l0).length cap0)] (by kernel_rfl) ?_
    refine wS_end (by rfl) ?_
    refine eX_then ?_
    refine cW_cond (t := decide ((((l0).length : Int)) > 576)) (by kernel_rfl) (fun hb3 => ?_) (fun hb3 => ?_)
    · have hm := condT hb3 hm
      refine cW_seq ?_
      refine cW_region ?_
      refine wS_pure 1 [(2, .bool (false))] (by kernel_rfl) ?_
      refine wS_end (by rfl) ?_
      refine eX_then ?_
      refine cW_ret ?_
      refine eX_then_ret ?_
      have hq : (some false : Option ((Bool))) = some _ := hm
      replace hq := someE hq
      subst hq
      refine eX_ret (vs := [.bool (false)]) [.tmp 2] (by rfl) ⟨by (show lkE _ _ _ = _); kernel_rfl, trivial⟩ ?_
      exact ⟨rfl, hB⟩
    · have hm := condF hb3 hm
      refine cW_skip ?_
      refine eX_then ?_
      refine cW_seq ?_
      refine cW_seq ?_
      refine cW_region ?_
      refine wS_pure 1 [(3, .int .i64 (0))] (by kernel_rfl) ?_
      refine wS_end (by rfl) ?_
      refine eX_then ?_
      obtain ⟨r167, hr168, hm⟩ := bindE hm
      have hm169 := hm
      refine cW_cut (fun a' w' => Sum.inl (()) = r167 ∧ Fr 52 [] a' ∧ Chg [] w0 w' ∧ w0.heap.size ≤ w'.heap.size) ?_ ?_
      · refine cW_block ?_
        refine cW_loop _ (fun (s170 : Int) a' w' => ∃ x164 : Int, x164 = s170 ∧ Fr 52 [(0, .slice A0 (l0).length cap0), (3, .int .i64 (x164))] a' ∧ Sl 2 encII w' fp0 A0 l0 ∧ Chg [] w0 w' ∧ w0.heap.size ≤ w'.heap.size) hr168 (fun hst => ⟨0, rfl, Fr.of hst (by kernel_rfl), F0, hB, hZ⟩) ?_
        rintro _ c171 a' w163 ⟨x164, rfl, hF165, F166, hB, hZ⟩ hx172
        refine Fr.goOn hF165 (by kernel_rfl) ?_
        have hm := hx172
        unfold m_spec_l01Path_s1 at hm
        refine cW_seq ?_
        refine cW_seq ?_
        refine cW_region ?_
        refine wS_pure 4 [(15, .bool (decide (x164 < (((l0).length : Int))))), (14, .int .i64 (((l0).length : Int))), (13, .slice A0 (l0).length cap0), (12, .int .i64 (x164))] (by kernel_rfl) ?_
        refine wS_end (by rfl) ?_
        refine eX_then ?_
        refine cW_cond (t := decide (x164 < (((l0).length : Int)))) (by kernel_rfl) (fun hb173 => ?_) (fun hb173 => ?_)
        · have hm := condT hb173 hm
          refine cW_skip ?_
          refine eX_then ?_
          refine cW_seq ?_
          refine cW_block ?_
          refine cW_seq ?_
          refine cW_drawnTail [] 30 (by kernel_rfl) (by kernel_rfl) (fun w209 hc210 => ?_)
          replace F166 := F166.chg hc210 Dj.nil
          replace hB := hB.inS hc210 inNil
          replace hZ := Nat.le_trans hZ hc210.size
          have hS := Chg.refl [] w209
          have Z211 := F166
          refine wH_take [0, 1] [1, 0] [(19, .int .i64 (x164)), (18, .slice A0 (l0).length cap0)] (by kernel_rfl) (qT (qT (qB (qT (qL (qB (qT (qT qZ)))))))) (by kernel_rfl) ?_
          obtain ⟨x212, hx213, hm⟩ := bindE hm
          refine wH_idx (i := 2) (d := 20) (T := 32) (A := A0) (n := (l0).length) (cap := cap0) (kd := .i64) (m := x164) (by kernel_rfl) (qT (qT (qB (qT (qL (qB (qT (qT qZ)))))))) (by kernel_rfl) (by kernel_rfl) sl32 (F166.is hx213) ?_
          refine wH_loadA (i := 3) (d := 21) (T := 37) (ad := (elA A0 2 (x164) 0)) (vs := [.int .i64 (x212.1), .int .i64 (x212.2)]) (by kernel_rfl) (qT (qT (qB (qT (qL (qB (qT (qT qZ)))))))) (by kernel_rfl) (by kernel_rfl) vt37 (fun W hW i u hu => Sl.cells_at (Z211.chg hW Dj.nil) hx213 0 hu (by rfl)) ?_
          refine wH_all [4] (by rfl) (by kernel_rfl) (by simp) ⟨⟨by kernel_rfl, ?_⟩, trivial⟩
          obtain ⟨y214, hy215, hm⟩ := bindE hm
          refine wS_calls (d := 22) (f := 167) (vs := [.agg #[.int .i64 (x212.1), .int .i64 (x212.2)]]) (by kernel_rfl) ent167 (c_spec_l01Point hy215) ?_
          rintro _ w216 ⟨rfl, hc217⟩
          replace F166 := F166.chg hc217 Dj.nil
          replace hB := hB.inS hc217 inNil
          have hSz := hS
          replace hS := hS.inS hc217 inNil
          replace hZ := Nat.le_trans hZ hc217.size
          refine ⟨.bool (y214), rfl, ?_⟩
          refine wS_end (by kernel_rfl) ?_
          refine eX_KH hS ?_
          refine wH_take [5, 6] [6, 5, 4, 3, 2, 1, 0] [(24, .bool (!y214)), (23, .bool (!y214))] (by kernel_rfl) (qT (qT (qB (qT (qL (qB (qT (qT qZ)))))))) (by kernel_rfl) ?_
          refine wH_bool (!y214) (fun hb218 => ?_) (fun hb218 => ?_)
          · have hm := condT hb218 hm
            rewrite [hb218]
            refine wH_take [7, 8, 9, 10, 11, 12, 13, 14, 15, 16, 17, 18, 19, 20, 21, 22, 23, 24, 25, 26, 27, 28, 29] [29, 28, 27, 26, 25, 24, 23, 22, 21, 20, 19, 18, 17, 16, 15, 14, 13, 12, 11, 10, 9, 8, 7, 6, 5, 4, 3, 2, 1, 0] [(47, undef), (46, undef), (45, undef), (44, undef), (43, undef), (42, undef), (41, undef), (40, undef), (39, undef), (38, undef), (37, undef), (36, undef), (35, .bool (true)), (34, .bool (true)), (33, undef), (32, undef), (31, undef), (30, undef), (29, undef), (28, undef), (27, undef), (26, undef), (25, undef)] (by kernel_rfl) (qT (qT (qB (qT (qL (qB (qT (qT qZ)))))))) (by kernel_rfl) ?_
            refine wH_done (by kernel_rfl) ?_
            refine eX_tail ?_
            refine wS_pure 4 [(51, .bool (true)), (50, undef), (49, undef), (48, undef)] (by kernel_rfl) ?_
            refine wS_end (by rfl) ?_
            refine eX_then ?_
            refine cW_prune [(0, .slice A0 (l0).length cap0), (3, .int .i64 (x164)), (51, .bool (true))] (by kernel_rfl) (by kernel_rfl) (fun a219 => ?_)
            refine cW_cond_t (by kernel_rfl) ?_
            refine cW_seq ?_
            refine cW_region ?_
            refine wS_pure 1 [(2, .bool (false))] (by kernel_rfl) ?_
            refine wS_end (by rfl) ?_
            refine eX_then ?_
            refine cW_ret ?_
            refine eX_block_ret ?_
            refine eX_then_ret ?_
            have hq : (some (Ctl.out (Sum.inr false)) : Option (Ctl (Int) (Sum (Unit) ((Bool))))) = some _ := hm
            replace hq := someE hq
            subst hq
            refine eX_outR hx172 (fun hr => ?_)
            subst hr
            refine eX_block_ret ?_
            refine eX_then_ret ?_
            refine eX_then_ret ?_
            have hq : (some false : Option ((Bool))) = some _ := hm169
            replace hq := someE hq
            subst hq
            refine eX_ret (vs := [.bool (false)]) [.tmp 2] (by rfl) ⟨by (show lkE _ _ _ = _); kernel_rfl, trivial⟩ ?_
            exact ⟨rfl, hB⟩
          · have hm := condF hb218 hm
            rewrite [hb218]
            refine wH_take [7, 8] [8, 7, 6, 5, 4, 3, 2, 1, 0] [(26, .int .i64 (x164)), (25, .slice A0 (l0).length cap0)] (by kernel_rfl) (qT (qT (qB (qT (qL (qB (qT (qT qZ)))))))) (by kernel_rfl) ?_
            obtain ⟨y220, hy221, hm⟩ := bindE hm
            refine wH_slice (k := 2) (enc := encII) (fp := fp0) (l := l0) (i := 9) (d := 27) (T := 32) (A := A0) (cap := cap0) (vlo := none) (vhi := some (.int .i64 (x164))) (lo := 0) (hi := x164) (n := 0) (by kernel_rfl) (qT (qT (qB (qT (qL (qB (qT (qT qZ)))))))) (by kernel_rfl) (by kernel_rfl) sl32 (Or.inr ⟨rfl, rfl⟩) (Or.inl rfl) K0 hy221 ?_
            intro A222 cap223 hcut224 hcap225
            have F226 := hcut224 _ F166
            have Fz227 := hcut224 _ Z211
            refine wH_take [10, 11] [11, 10, 9, 8, 7, 6, 5, 4, 3, 2, 1, 0] [(29, .int .i64 (x164)), (28, .slice A0 (l0).length cap0)] (by kernel_rfl) (qT (qT (qB (qT (qL (qB (qT (qT qZ)))))))) (by kernel_rfl) ?_
            obtain ⟨x229, hx230, hm⟩ := bindE hm
            refine wH_idx (i := 12) (d := 30) (T := 32) (A := A0) (n := (l0).length) (cap := cap0) (kd := .i64) (m := x164) (by kernel_rfl) (qT (qT (qB (qT (qL (qB (qT (qT qZ)))))))) (by kernel_rfl) (by kernel_rfl) sl32 (F166.is hx230) ?_
            refine wH_loadA (i := 13) (d := 31) (T := 37) (ad := (elA A0 2 (x164) 0)) (vs := [.int .i64 (x229.1), .int .i64 (x229.2)]) (by kernel_rfl) (qT (qT (qB (qT (qL (qB (qT (qT qZ)))))))) (by kernel_rfl) (by kernel_rfl) vt37 (fun W hW i u hu => Sl.cells_at (Z211.chg hW Dj.nil) hx230 0 hu (by rfl)) ?_
            refine wH_all [14] (by rfl) (by kernel_rfl) (by simp) ⟨⟨by kernel_rfl, ?_⟩, trivial⟩
            obtain ⟨y231, hy232, hm⟩ := bindE hm
            refine wS_calls (d := 32) (f := 165) (vs := [.slice A222 (y220).length cap223, .agg #[.int .i64 (x229.1), .int .i64 (x229.2)]]) (by kernel_rfl) ent165 (c_spec_l01Index hy232 F226) ?_
            rintro _ w233 ⟨rfl, hc234⟩
            replace F166 := F166.chg hc234 Dj.nil
            replace F226 := F226.chg hc234 Dj.nil
            replace hB := hB.inS hc234 inNil
            have hSz := hS
            replace hS := hS.inS hc234 inNil
            replace hZ := Nat.le_trans hZ hc234.size
            refine ⟨.int .i64 (y231), rfl, ?_⟩
            refine wS_end (by kernel_rfl) ?_
            refine eX_KH hS ?_
            refine wH_take [15, 16, 17] [17, 16, 15, 14, 13, 12, 11, 10, 9, 8, 7, 6, 5, 4, 3, 2, 1, 0] [(35, .bool (decide (y231 ≥ 0))), (34, .bool (decide (y231 ≥ 0))), (33, .bool (decide (y231 ≥ 0)))] (by kernel_rfl) (qT (qT (qB (qT (qL (qB (qT (qT qZ)))))))) (by kernel_rfl) ?_
            refine wH_bool (decide (y231 ≥ 0)) (fun hb235 => ?_) (fun hb235 => ?_)
            · have hm := condT hb235 hm
              rewrite [hb235]
              refine wH_take [18, 19, 20, 21, 22, 23, 24, 25, 26, 27, 28, 29] [29, 28, 27, 26, 25, 24, 23, 22, 21, 20, 19, 18, 17, 16, 15, 14, 13, 12, 11, 10, 9, 8, 7, 6, 5, 4, 3, 2, 1, 0] [(47, undef), (46, undef), (45, undef), (44, undef), (43, undef), (42, undef), (41, undef), (40, undef), (39, undef), (38, undef), (37, undef), (36, undef)] (by kernel_rfl) (qT (qT (qB (qT (qL (qB (qT (qT qZ)))))))) (by kernel_rfl) ?_
              refine wH_done (by kernel_rfl) ?_
              refine eX_tail ?_
              refine wS_pure 4 [(51, .bool (true)), (50, undef), (49, undef), (48, undef)] (by kernel_rfl) ?_
              refine wS_end (by rfl) ?_
              refine eX_then ?_
              refine cW_prune [(0, .slice A0 (l0).length cap0), (3, .int .i64 (x164)), (51, .bool (true))] (by kernel_rfl) (by kernel_rfl) (fun a236 => ?_)
              refine cW_cond_t (by kernel_rfl) ?_
              refine cW_seq ?_
              refine cW_region ?_
              refine wS_pure 1 [(2, .bool (false))] (by kernel_rfl) ?_
              refine wS_end (by rfl) ?_
              refine eX_then ?_
              refine cW_ret ?_
              refine eX_block_ret ?_
              refine eX_then_ret ?_
              have hq : (some (Ctl.out (Sum.inr false)) : Option (Ctl (Int) (Sum (Unit) ((Bool))))) = some _ := hm
              replace hq := someE hq
              subst hq
              refine eX_outR hx172 (fun hr => ?_)
              subst hr
              refine eX_block_ret ?_
              refine eX_then_ret ?_
              refine eX_then_ret ?_
              have hq : (some false : Option ((Bool))) = some _ := hm169
              replace hq := someE hq
              subst hq
              refine eX_ret (vs := [.bool (false)]) [.tmp 2] (by rfl) ⟨by (show lkE _ _ _ = _); kernel_rfl, trivial⟩ ?_
              exact ⟨rfl, hB⟩
            · have hm := condF hb235 hm
              rewrite [hb235]
              refine wH_take [18, 19, 20] [20, 19, 18, 17, 16, 15, 14, 13, 12, 11, 10, 9, 8, 7, 6, 5, 4, 3, 2, 1, 0] [(38, .bool (decide (x164 > 0))), (37, .bool (decide (x164 > 0))), (36, .int .i64 (x164))] (by kernel_rfl) (qT (qT (qB (qT (qL (qB (qT (qT qZ)))))))) (by kernel_rfl) ?_
              refine wH_bool (decide (x164 > 0)) (fun hb237 => ?_) (fun hb237 => ?_)
              · have hm := condT hb237 hm
                rewrite [hb237]
                refine wH_take [21, 22, 23] [23, 22, 21, 20, 19, 18, 17, 16, 15, 14, 13, 12, 11, 10, 9, 8, 7, 6, 5, 4, 3, 2, 1, 0] [(41, .int .i64 (wr (x164 - 1))), (40, .int .i64 (x164)), (39, .slice A0 (l0).length cap0)] (by kernel_rfl) (qT (qT (qB (qT (qL (qB (qT (qT qZ)))))))) (by kernel_rfl) ?_
                obtain ⟨x238, hx239, hm⟩ := bindE hm
                refine wH_idx (i := 24) (d := 42) (T := 32) (A := A0) (n := (l0).length) (cap := cap0) (kd := .i64) (m := wr (x164 - 1)) (by kernel_rfl) (qT (qT (qB (qT (qL (qB (qT (qT qZ)))))))) (by kernel_rfl) (by kernel_rfl) sl32 (F166.is hx239) ?_
                refine wH_loadA (i := 25) (d := 43) (T := 37) (ad := (elA A0 2 (wr (x164 - 1)) 0)) (vs := [.int .i64 (x238.1), .int .i64 (x238.2)]) (by kernel_rfl) (qT (qT (qB (qT (qL (qB (qT (qT qZ)))))))) (by kernel_rfl) (by kernel_rfl) vt37 (fun W hW i u hu => Sl.cells_at (Z211.chg hW Dj.nil) hx239 0 hu (by rfl)) ?_
                refine wH_take [26, 27] [27, 26, 25, 24, 23, 22, 21, 20, 19, 18, 17, 16, 15, 14, 13, 12, 11, 10, 9, 8, 7, 6, 5, 4, 3, 2, 1, 0] [(45, .int .i64 (x164)), (44, .slice A0 (l0).length cap0)] (by kernel_rfl) (qT (qT (qB (qT (qL (qB (qT (qT qZ)))))))) (by kernel_rfl) ?_
                obtain ⟨x240, hx241, hm⟩ := bindE hm
                refine wH_idx (i := 28) (d := 46) (T := 32) (A := A0) (n := (l0).length) (cap := cap0) (kd := .i64) (m := x164) (by kernel_rfl) (qT (qT (qB (qT (qL (qB (qT (qT qZ)))))))) (by kernel_rfl) (by kernel_rfl) sl32 (F166.is hx241) ?_
                refine wH_loadA (i := 29) (d := 47) (T := 37) (ad := (elA A0 2 (x164) 0)) (vs := [.int .i64 (x240.1), .int .i64 (x240.2)]) (by kernel_rfl) (qT (qT (qB (qT (qL (qB (qT (qT qZ)))))))) (by kernel_rfl) (by kernel_rfl) vt37 (fun W hW i u hu => Sl.cells_at (Z211.chg hW Dj.nil) hx241 0 hu (by rfl)) ?_
                refine wH_done (by kernel_rfl) ?_
                refine eX_tail ?_
                obtain ⟨y242, hy243, hm⟩ := bindE hm
                refine wS_calls (d := 48) (f := 153) (vs := [.agg #[.int .i64 (x238.1), .int .i64 (x238.2)], .agg #[.int .i64 (x240.1), .int .i64 (x240.2)]]) (by kernel_rfl) ent153 (c_spec_l01Far hy243) ?_
                rintro _ w244 ⟨rfl, hc245⟩
                replace F166 := F166.chg hc245 Dj.nil
                replace F226 := F226.chg hc245 Dj.nil
                replace hB := hB.inS hc245 inNil
                replace hZ := Nat.le_trans hZ hc245.size
                refine ⟨.int .i64 (y242), rfl, ?_⟩
                refine wS_pure 3 [(51, .bool (y242 != 1)), (50, .bool (y242 != 1)), (49, .bool (y242 != 1))] (by kernel_rfl) ?_
                refine wS_end (by rfl) ?_
                refine eX_then ?_
                refine cW_prune [(0, .slice A0 (l0).length cap0), (3, .int .i64 (x164)), (51, .bool (y242 != 1))] (by kernel_rfl) (by kernel_rfl) (fun a246 => ?_)
                refine cW_cond (t := y242 != 1) (by kernel_rfl) (fun hb247 => ?_) (fun hb247 => ?_)
                · have hm := condT hb247 hm
                  refine cW_seq ?_
                  refine cW_region ?_
                  refine wS_pure 1 [(2, .bool (false))] (by kernel_rfl) ?_
                  refine wS_end (by rfl) ?_
                  refine eX_then ?_
                  refine cW_ret ?_
                  refine eX_block_ret ?_
                  refine eX_then_ret ?_
                  have hq : (some (Ctl.out (Sum.inr false)) : Option (Ctl (Int) (Sum (Unit) ((Bool))))) = some _ := hm
                  replace hq := someE hq
                  subst hq
                  refine eX_outR hx172 (fun hr => ?_)
                  subst hr
                  refine eX_block_ret ?_
                  refine eX_then_ret ?_
                  refine eX_then_ret ?_
                  have hq : (some false : Option ((Bool))) = some _ := hm169
                  replace hq := someE hq
                  subst hq
                  refine eX_ret (vs := [.bool (false)]) [.tmp 2] (by rfl) ⟨by (show lkE _ _ _ = _); kernel_rfl, trivial⟩ ?_
                  exact ⟨rfl, hB⟩
                · have hm := condF hb247 hm
                  refine cW_skip ?_
                  refine eX_block ?_
                  refine eX_then ?_
                  refine cW_region ?_
                  refine wS_pure 3 [(3, .int .i64 (wr (x164 + 1))), (17, .int .i64 (wr (x164 + 1))), (16, .int .i64 (x164))] (by kernel_rfl) ?_
                  refine wS_end (by rfl) ?_
                  have hq : (some (Ctl.next (wr (x164 + 1))) : Option (Ctl (Int) (Sum (Unit) ((Bool))))) = some _ := hm
                  replace hq := someE hq
                  subst hq
                  exact eX_next hx172 (fun hst => ⟨wr (x164 + 1), rfl, Fr.of hst (by kernel_rfl), F166, hB, hZ⟩)
              · have hm := condF hb237 hm
                rewrite [hb237]
                refine wH_take [21, 22, 23, 24, 25, 26, 27, 28, 29] [29, 28, 27, 26, 25, 24, 23, 22, 21, 20, 19, 18, 17, 16, 15, 14, 13, 12, 11, 10, 9, 8, 7, 6, 5, 4, 3, 2, 1, 0] [(47, undef), (46, undef), (45, undef), (44, undef), (43, undef), (42, undef), (41, undef), (40, undef), (39, undef)] (by kernel_rfl) (qT (qT (qB (qT (qL (qB (qT (qT qZ)))))))) (by kernel_rfl) ?_
                refine wH_done (by kernel_rfl) ?_
                refine eX_tail ?_
                refine wS_pure 4 [(51, .bool (false)), (50, .bool (false)), (49, undef), (48, undef)] (by kernel_rfl) ?_
                refine wS_end (by rfl) ?_
                refine eX_then ?_
                refine cW_prune [(0, .slice A0 (l0).length cap0), (3, .int .i64 (x164)), (51, .bool (false))] (by kernel_rfl) (by kernel_rfl) (fun a248 => ?_)
                refine cW_cond_f (by kernel_rfl) ?_
                refine cW_skip ?_
                refine eX_block ?_
                refine eX_then ?_
                refine cW_region ?_
                refine wS_pure 3 [(3, .int .i64 (wr (x164 + 1))), (17, .int .i64 (wr (x164 + 1))), (16, .int .i64 (x164))] (by kernel_rfl) ?_
                refine wS_end (by rfl) ?_
                have hq : (some (Ctl.next (wr (x164 + 1))) : Option (Ctl (Int) (Sum (Unit) ((Bool))))) = some _ := hm
                replace hq := someE hq
                subst hq
                exact eX_next hx172 (fun hst => ⟨wr (x164 + 1), rfl, Fr.of hst (by kernel_rfl), F166, hB, hZ⟩)
        · have hm := condF hb173 hm
          refine cW_exit ?_
          refine eX_then_exit ?_
          have hq : (some (Ctl.out (Sum.inl (()))) : Option (Ctl (Int) (Sum (Unit) ((Bool))))) = some _ := hm
          replace hq := someE hq
          subst hq
          refine eX_outX hx172 (fun hr249 => ?_)
          replace hr249 := hr249.symm
          subst hr249
          refine eX_block_hit ?_
          exact eX_J (fun hst => ⟨rfl, Fr.of hst (by kernel_rfl), hB, hZ⟩)
      · rintro a' w161 ⟨hJ, hF162, hB, hZ⟩
        subst hJ
        refine Fr.goX hF162 (by kernel_rfl) ?_
        refine eX_then ?_
        refine cW_seq ?_
        refine cW_region ?_
        refine wS_pure 1 [(2, .bool (true))] (by kernel_rfl) ?_
        refine wS_end (by rfl) ?_
        refine eX_then ?_
        refine cW_ret ?_
        have hq : (some true : Option ((Bool))) = some _ := hm
        replace hq := someE hq
        subst hq
        refine eX_ret (vs := [.bool (true)]) [.tmp 2] (by rfl) ⟨by (show lkE _ _ _ = _); kernel_rfl, trivial⟩ ?_
        exact ⟨rfl, hB⟩

set_option maxRecDepth 100000 in
/-- spec.l07Paths -/
theorem c_spec_l07Paths {w0 : World} {l0 : List (List (Int × Int))} {A0 : Option Addr} {cap0 : Nat} {fp0 : List Nat} {r : (Bool)} (hm : m_spec_l07Paths l0 = some r) (F0 : SlR 2 encII w0 fp0 A0 l0) :
    Calls Try.prog 118 #[.slice A0 (l0).length cap0] w0 fun e w' => e = .returned (.bool (r)) ∧ Chg [] w0 w' := by
  have L0 := F0.low
  have hB : Chg [] w0 w0 := Chg.refl _ _
  have hZ := Nat.le_refl w0.heap.size
  unfold m_spec_l07Paths at hm
  refine enterE (N := 27) Try.func118 (by rfl) Try.ntmps118 (by simp) [(0, .slice A0 (l0).length cap0)] (by rfl) (by kernel_rfl) (fun a => ?_)
  refine cW_seq ?_
  refine cW_region ?_
  refine wS_pure 1 [(2, .bool (false))] (by kernel_rfl) ?_
  refine wS_end (by rfl) ?_
  refine eX_then ?_
  refine cW_seq ?_
  refine cW_seq ?_
  refine cW_region ?_
  refine wS_pure 1 [(3, .int .i64 (0))] (by kernel_rfl) ?_
  refine wS_end (by rfl) ?_
  refine eX_then ?_
  obtain ⟨r60, hr61, hm⟩ := bindE hm
  have hm62 := hm
  refine cW_cut (fun a' w' => Sum.inl (()) = r60 ∧ Fr 27 [(0, .slice A0 (l0).length cap0)] a' ∧ SlR 2 encII w' fp0 A0 l0 ∧ Chg [] w0 w' ∧ w0.heap.size ≤ w'.heap.size) ?_ ?_
  · refine cW_block ?_
    refine cW_loop _ (fun (s63 : Int) a' w' => ∃ x57 : Int, x57 = s63 ∧ Fr 27 [(0, .slice A0 (l0).length cap0), (3, .int .i64 (x57))] a' ∧ SlR 2 encII w' fp0 A0 l0 ∧ Chg [] w0 w' ∧ w0.heap.size ≤ w'.heap.size) hr61 (fun hst => ⟨0, rfl, Fr.of hst (by kernel_rfl), F0, hB, hZ⟩) ?_
    rintro _ c64 a' w56 ⟨x57, rfl, hF58, F59, hB, hZ⟩ hx65
    refine Fr.goOn hF58 (by kernel_rfl) ?_
    have hm := hx65
    unfold m_spec_l07Paths_s1 at hm
    refine cW_seq ?_
    refine cW_seq ?_
    refine cW_region ?_
    refine wS_pure 4 [(7, .bool (decide (x57 < (((l0).length : Int))))), (6, .int .i64 (((l0).length : Int))), (5, .slice A0 (l0).length cap0), (4, .int .i64 (x57))] (by kernel_rfl) ?_
    refine wS_end (by rfl) ?_
    refine eX_then ?_
    refine cW_cond (t := decide (x57 < (((l0).length : Int)))) (by kernel_rfl) (fun hb66 => ?_) (fun hb66 => ?_)
    · have hm := condT hb66 hm
      refine cW_skip ?_
      refine eX_then ?_
      refine cW_seq ?_
      refine cW_block ?_
      refine cW_seq ?_
      refine cW_region ?_
      refine wS_pure 2 [(11, .int .i64 (x57)), (10, .slice A0 (l0).length cap0)] (by kernel_rfl) ?_
      obtain ⟨x67, hx68, hm⟩ := bindE hm
      refine wS_idx (d := 12) (T := 31) (A := A0) (n := (l0).length) (cap := cap0) (kd := .i64) (m := x57) (by kernel_rfl) sl31 (F59.is hx68) ?_
      obtain ⟨A69, cap70, hc72, F71, K73⟩ := SlR.row F59 hx68
      refine wS_load1 (d := 13) (T := 32) (ad := (elA A0 1 (x57) 0)) (v := .slice A69 (x67).length cap70) (by kernel_rfl) vt32 hc72 ?_
      refine wS_pure 3 [(16, .bool (decide ((((x67).length : Int)) < 2))), (15, .bool (decide ((((x67).length : Int)) < 2))), (14, .int .i64 (((x67).length : Int)))] (by kernel_rfl) ?_
      refine wS_bool (decide ((((x67).length : Int)) < 2)) (fun hb75 => ?_) (fun hb75 => ?_)
      · have hm := condT hb75 hm
        rewrite [hb75]
        refine wS_pure 7 [(23, .bool (true)), (22, undef), (21, undef), (20, undef), (19, undef), (18, undef), (17, undef)] (by kernel_rfl) ?_
        refine wS_end (by rfl) ?_
        refine eX_then ?_
        refine cW_cond_t (by kernel_rfl) ?_
        refine cW_seq ?_
        refine cW_region ?_
        refine wS_pure 1 [(2, .bool (false))] (by kernel_rfl) ?_
        refine wS_end (by rfl) ?_
        refine eX_then ?_
        refine cW_ret ?_
        refine eX_block_ret ?_
        refine eX_then_ret ?_
        have hq : (some (Ctl.out (Sum.inr false)) : Option (Ctl (Int) (Sum (Unit) ((Bool))))) = some _ := hm
        replace hq := someE hq
        subst hq
        refine eX_outR hx65 (fun hr => ?_)
        subst hr
        refine eX_block_ret ?_
        refine eX_then_ret ?_
        refine eX_then_ret ?_
        have hq : (some false : Option ((Bool))) = some _ := hm62
        replace hq := someE hq
        subst hq
        refine eX_ret (vs := [.bool (false)]) [.tmp 2] (by rfl) ⟨by (show lkE _ _ _ = _); kernel_rfl, trivial⟩ ?_
        exact ⟨rfl, hB⟩
      · have hm := condF hb75 hm
        rewrite [hb75]
        refine wS_pure 2 [(18, .int .i64 (x57)), (17, .slice A0 (l0).length cap0)] (by kernel_rfl) ?_
        obtain ⟨x76, hx77, hm⟩ := bindE hm
        refine wS_idx (d := 19) (T := 31) (A := A0) (n := (l0).length) (cap := cap0) (kd := .i64) (m := x57) (by kernel_rfl) sl31 (F59.is hx77) ?_
        obtain ⟨A78, cap79, hc81, F80, K82⟩ := SlR.row F59 hx77
        refine wS_load1 (d := 20) (T := 32) (ad := (elA A0 1 (x57) 0)) (v := .slice A78 (x76).length cap79) (by kernel_rfl) vt32 hc81 ?_
        obtain ⟨y84, hy85, hm⟩ := bindE hm
        refine wS_calls (d := 21) (f := 173) (vs := [.slice A78 (x76).length cap79]) (by kernel_rfl) ent173 (c_spec_l01Path hy85 F80 K82) ?_
        rintro _ w86 ⟨rfl, hc87⟩
        replace F59 := F59.chg hc87 Dj.nil
        replace F71 := F71.chg hc87 Dj.nil
        replace F80 := F80.chg hc87 Dj.nil
        replace hB := hB.inS hc87 inNil
        replace hZ := Nat.le_trans hZ hc87.size
        refine ⟨.bool (y84), rfl, ?_⟩
        refine wS_pure 2 [(23, .bool (!y84)), (22, .bool (!y84))] (by kernel_rfl) ?_
        refine wS_end (by rfl) ?_
        refine eX_then ?_
        refine cW_cond (t := !y84) (by kernel_rfl) (fun hb88 => ?_) (fun hb88 => ?_)
        · have hm := condT hb88 hm
          refine cW_seq ?_
          refine cW_region ?_
          refine wS_pure 1 [(2, .bool (false))] (by kernel_rfl) ?_
          refine wS_end (by rfl) ?_
          refine eX_then ?_
          refine cW_ret ?_
          refine eX_block_ret ?_
          refine eX_then_ret ?_
          have hq : (some (Ctl.out (Sum.inr false)) : Option (Ctl (Int) (Sum (Unit) ((Bool))))) = some _ := hm
          replace hq := someE hq
          subst hq
          refine eX_outR hx65 (fun hr => ?_)
          subst hr
          refine eX_block_ret ?_
          refine eX_then_ret ?_
          refine eX_then_ret ?_
          have hq : (some false : Option ((Bool))) = some _ := hm62
          replace hq := someE hq
          subst hq
          refine eX_ret (vs := [.bool (false)]) [.tmp 2] (by rfl) ⟨by (show lkE _ _ _ = _); kernel_rfl, trivial⟩ ?_
          exact ⟨rfl, hB⟩
        · have hm := condF hb88 hm
          refine cW_skip ?_
          refine eX_block ?_
          refine eX_then ?_
          refine cW_region ?_
          refine wS_pure 3 [(3, .int .i64 (wr (x57 + 1))), (9, .int .i64 (wr (x57 + 1))), (8, .int .i64 (x57))] (by kernel_rfl) ?_
          refine wS_end (by rfl) ?_
          have hq : (some (Ctl.next (wr (x57 + 1))) : Option (Ctl (Int) (Sum (Unit) ((Bool))))) = some _ := hm
          replace hq := someE hq
          subst hq
          exact eX_next hx65 (fun hst => ⟨wr (x57 + 1), rfl, Fr.of hst (by kernel_rfl), F59, hB, hZ⟩)
    · have hm := condF hb66 hm
      refine cW_exit ?_
      refine eX_then_exit ?_
      have hq : (some (Ctl.out (Sum.inl (()))) : Option (Ctl (Int) (Sum (Unit) ((Bool))))) = some _ := hm
      replace hq := someE hq
      subst hq
      refine eX_outX hx65 (fun hr89 => ?_)
      replace hr89 := hr89.symm
      subst hr89
      refine eX_block_hit ?_
      exact eX_J (fun hst => ⟨rfl, Fr.of hst (by kernel_rfl), F59, hB, hZ⟩)
  · rintro a' w53 ⟨hJ, hF54, F55, hB, hZ⟩
    subst hJ
    refine Fr.goX hF54 (by kernel_rfl) ?_
    refine eX_then ?_
    refine cW_seq ?_
    refine cW_region ?_
    refine wS_pure 4 [(2, .bool (decide ((((l0).length : Int)) ≤ 6))), (26, .bool (decide ((((l0).length : Int)) ≤ 6))), (25, .int .i64 (((l0).length : Int))), (24, .slice A0 (l0).length cap0)] (by kernel_rfl) ?_
    refine wS_end (by rfl) ?_
    refine eX_then ?_
    refine cW_ret ?_
    have hq : (some (decide ((((l0).length : Int)) ≤ 6)) : Option ((Bool))) = some _ := hm
    replace hq := someE hq
    subst hq
    refine eX_ret (vs := [.bool (decide ((((l0).length : Int)) ≤ 6))]) [.tmp 2] (by rfl) ⟨by (show lkE _ _ _ = _); kernel_rfl, trivial⟩ ?_
    exact ⟨rfl, hB⟩

set_option maxRecDepth 100000 in
/-- spec.l01Bend -/
theorem c_spec_l01Bend {w0 : World} {l0 : List (Int × Int)} {A0 : Option Addr} {cap0 : Nat} {fp0 : List Nat} {p1 : Int} {r : (Bool)} (hm : m_spec_l01Bend l0 p1 = some r) (F0 : Sl 2 encII w0 fp0 A0 l0) :
    Calls Try.prog 174 #[.slice A0 (l0).length cap0, .int .i64 (p1)] w0 fun e w' => e = .returned (.bool (r)) ∧ Chg [] w0 w' := by
  have L0 := F0.low
  have hB : Chg [] w0 w0 := Chg.refl _ _
  have hZ := Nat.le_refl w0.heap.size
  unfold m_spec_l01Bend at hm
  refine enterE (N := 44) Try.func174 (by rfl) Try.ntmps174 (by simp) [(0, .slice A0 (l0).length cap0), (1, .int .i64 (p1))] (by rfl) (by kernel_rfl) (fun a => ?_)
  refine cW_seq ?_
  refine cW_region ?_
  refine wS_pure 1 [(4, .bool (false))] (by kernel_rfl) ?_
  refine wS_end (by rfl) ?_
  refine eX_then ?_
  refine cW_seq ?_
  refine cW_drawnTail [] 37 (by kernel_rfl) (by kernel_rfl) (fun w16 hc17 => ?_)
  replace F0 := F0.chg hc17 Dj.nil
  replace hB := hB.inS hc17 inNil
  replace hZ := Nat.le_trans hZ hc17.size
  have hS := Chg.refl [] w16
  have Z18 := F0
  refine wH_take [0, 1, 2] [2, 1, 0] [(7, .bool (decide (p1 > 0))), (6, .bool (decide (p1 > 0))), (5, .int .i64 (p1))] (by kernel_rfl) (qT (qT qZ)) (by kernel_rfl) ?_
  refine wH_bool (decide (p1 > 0)) (fun hb19 => ?_) (fun hb19 => ?_)
  · have hm := condT hb19 hm
    rewrite [hb19]
    refine wH_take [3, 4, 5, 6, 7, 8, 9] [9, 8, 7, 6, 5, 4, 3, 2, 1, 0] [(14, .bool (decide ((wr (p1 + 1)) < (((l0).length : Int))))), (13, .bool (decide ((wr (p1 + 1)) < (((l0).length : Int))))), (12, .bool (decide ((wr (p1 + 1)) < (((l0).length : Int))))), (11, .int .i64 (((l0).length : Int))), (10, .slice A0 (l0).length cap0), (9, .int .i64 (wr (p1 + 1))), (8, .int .i64 (p1))] (by kernel_rfl) (qT (qT qZ)) (by kernel_rfl) ?_
    refine wH_bool (decide ((wr (p1 + 1)) < (((l0).length : Int)))) (fun hb20 => ?_) (fun hb20 => ?_)
    · have hm := condT hb20 hm
      rewrite [hb20]
      refine wH_take [10, 11, 12] [12, 11, 10, 9, 8, 7, 6, 5, 4, 3, 2, 1, 0] [(17, .int .i64 (wr (p1 - 1))), (16, .int .i64 (p1)), (15, .slice A0 (l0).length cap0)] (by kernel_rfl) (qT (qT qZ)) (by kernel_rfl) ?_
      obtain ⟨x21, hx22, hm⟩ := bindE hm
      refine wH_idx (i := 13) (d := 18) (T := 32) (A := A0) (n := (l0).length) (cap := cap0) (kd := .i64) (m := wr (p1 - 1)) (by kernel_rfl) (qT (qT qZ)) (by kernel_rfl) (by kernel_rfl) sl32 (F0.is hx22) ?_
      refine wH_take [14] [14, 13, 12, 11, 10, 9, 8, 7, 6, 5, 4, 3, 2, 1, 0] [(19, .pointer (some (elA A0 2 (wr (p1 - 1)) 0)))] (by kernel_rfl) (qT (qT qZ)) (by kernel_rfl) ?_
      refine wH_load1 (i := 15) (d := 20) (T := 2) (ad := (elA A0 2 (wr (p1 - 1)) 0)) (v := .int .i64 (x21.1)) (by kernel_rfl) (qT (qT qZ)) (by kernel_rfl) (by kernel_rfl) vt2 (fun W hW => Sl.cell (Z18.chg hW Dj.nil) hx22 0 (by rfl)) ?_
      refine wH_take [16, 17, 18] [18, 17, 16, 15, 14, 13, 12, 11, 10, 9, 8, 7, 6, 5, 4, 3, 2, 1, 0] [(23, .int .i64 (wr (p1 + 1))), (22, .int .i64 (p1)), (21, .slice A0 (l0).length cap0)] (by kernel_rfl) (qT (qT qZ)) (by kernel_rfl) ?_
      obtain ⟨x23, hx24, hm⟩ := bindE hm
      refine wH_idx (i := 19) (d := 24) (T := 32) (A := A0) (n := (l0).length) (cap := cap0) (kd := .i64) (m := wr (p1 + 1)) (by kernel_rfl) (qT (qT qZ)) (by kernel_rfl) (by kernel_rfl) sl32 (F0.is hx24) ?_
      refine wH_take [20] [20, 19, 18, 17, 16, 15, 14, 13, 12, 11, 10, 9, 8, 7, 6, 5, 4, 3, 2, 1, 0] [(25, .pointer (some (elA A0 2 (wr (p1 + 1)) 0)))] (by kernel_rfl) (qT (qT qZ)) (by kernel_rfl) ?_
      refine wH_load1 (i := 21) (d := 26) (T := 2) (ad := (elA A0 2 (wr (p1 + 1)) 0)) (v := .int .i64 (x23.1)) (by kernel_rfl) (qT (qT qZ)) (by kernel_rfl) (by kernel_rfl) vt2 (fun W hW => Sl.cell (Z18.chg hW Dj.nil) hx24 0 (by rfl)) ?_
      refine wH_take [22, 23, 24] [24, 23, 22, 21, 20, 19, 18, 17, 16, 15, 14, 13, 12, 11, 10, 9, 8, 7, 6, 5, 4, 3, 2, 1, 0] [(29, .bool (x21.1 != x23.1)), (28, .bool (x21.1 != x23.1)), (27, .bool (x21.1 != x23.1))] (by kernel_rfl) (qT (qT qZ)) (by kernel_rfl) ?_
      refine wH_bool (x21.1 != x23.1) (fun hb25 => ?_) (fun hb25 => ?_)
      · have hm := condT hb25 hm
        rewrite [hb25]
        refine wH_take [25, 26, 27] [27, 26, 25, 24, 23, 22, 21, 20, 19, 18, 17, 16, 15, 14, 13, 12, 11, 10, 9, 8, 7, 6, 5, 4, 3, 2, 1, 0] [(32, .int .i64 (wr (p1 - 1))), (31, .int .i64 (p1)), (30, .slice A0 (l0).length cap0)] (by kernel_rfl) (qT (qT qZ)) (by kernel_rfl) ?_
        obtain ⟨x26, hx27, hm⟩ := bindE hm
        refine wH_idx (i := 28) (d := 33) (T := 32) (A := A0) (n := (l0).length) (cap := cap0) (kd := .i64) (m := wr (p1 - 1)) (by kernel_rfl) (qT (qT qZ)) (by kernel_rfl) (by kernel_rfl) sl32 (F0.is hx27) ?_
        refine wH_take [29] [29, 28, 27, 26, 25, 24, 23, 22, 21, 20, 19, 18, 17, 16, 15, 14, 13, 12, 11, 10, 9, 8, 7, 6, 5, 4, 3, 2, 1, 0] [(34, .pointer (some (elA A0 2 (wr (p1 - 1)) 1)))] (by kernel_rfl) (qT (qT qZ)) (by kernel_rfl) ?_
        refine wH_load1 (i := 30) (d := 35) (T := 2) (ad := (elA A0 2 (wr (p1 - 1)) 1)) (v := .int .i64 (x26.2)) (by kernel_rfl) (qT (qT qZ)) (by kernel_rfl) (by kernel_rfl) vt2 (fun W hW => Sl.cell (Z18.chg hW Dj.nil) hx27 1 (by rfl)) ?_
        refine wH_take [31, 32, 33] [33, 32, 31, 30, 29, 28, 27, 26, 25, 24, 23, 22, 21, 20, 19, 18, 17, 16, 15, 14, 13, 12, 11, 10, 9, 8, 7, 6, 5, 4, 3, 2, 1, 0] [(38, .int .i64 (wr (p1 + 1))), (37, .int .i64 (p1)), (36, .slice A0 (l0).length cap0)] (by kernel_rfl) (qT (qT qZ)) (by kernel_rfl) ?_
        obtain ⟨x28, hx29, hm⟩ := bindE hm
        refine wH_idx (i := 34) (d := 39) (T := 32) (A := A0) (n := (l0).length) (cap := cap0) (kd := .i64) (m := wr (p1 + 1)) (by kernel_rfl) (qT (qT qZ)) (by kernel_rfl) (by kernel_rfl) sl32 (F0.is hx29) ?_
        refine wH_take [35] [35, 34, 33, 32, 31, 30, 29, 28, 27, 26, 25, 24, 23, 22, 21, 20, 19, 18, 17, 16, 15, 14, 13, 12, 11, 10, 9, 8, 7, 6, 5, 4, 3, 2, 1, 0] [(40, .pointer (some (elA A0 2 (wr (p1 + 1)) 1)))] (by kernel_rfl) (qT (qT qZ)) (by kernel_rfl) ?_
        refine wH_load1 (i := 36) (d := 41) (T := 2) (ad := (elA A0 2 (wr (p1 + 1)) 1)) (v := .int .i64 (x28.2)) (by kernel_rfl) (qT (qT qZ)) (by kernel_rfl) (by kernel_rfl) vt2 (fun W hW => Sl.cell (Z18.chg hW Dj.nil) hx29 1 (by rfl)) ?_
        refine wH_done (by kernel_rfl) ?_
        refine eX_tail ?_
        refine wS_pure 3 [(4, .bool (x26.2 != x28.2)), (43, .bool (x26.2 != x28.2)), (42, .bool (x26.2 != x28.2))] (by kernel_rfl) ?_
        refine wS_end (by rfl) ?_
        refine eX_then ?_
        refine cW_prune [(4, .bool (x26.2 != x28.2))] (by kernel_rfl) (by kernel_rfl) (fun a30 => ?_)
        refine cW_ret ?_
        have hq : (some (x26.2 != x28.2) : Option ((Bool))) = some _ := hm
        replace hq := someE hq
        subst hq
        refine eX_ret (vs := [.bool (x26.2 != x28.2)]) [.tmp 4] (by rfl) ⟨by (show lkE _ _ _ = _); kernel_rfl, trivial⟩ ?_
        exact ⟨rfl, hB⟩
      · have hm := condF hb25 hm
        rewrite [hb25]
        refine wH_take [25, 26, 27, 28, 29, 30, 31, 32, 33, 34, 35, 36] [36, 35, 34, 33, 32, 31, 30, 29, 28, 27, 26, 25, 24, 23, 22, 21, 20, 19, 18, 17, 16, 15, 14, 13, 12, 11, 10, 9, 8, 7, 6, 5, 4, 3, 2, 1, 0] [(41, undef), (40, undef), (39, undef), (38, undef), (37, undef), (36, undef), (35, undef), (34, undef), (33, undef), (32, undef), (31, undef), (30, undef)] (by kernel_rfl) (qT (qT qZ)) (by kernel_rfl) ?_
        refine wH_done (by kernel_rfl) ?_
        refine eX_tail ?_
        refine wS_pure 3 [(4, .bool (false)), (43, .bool (false)), (42, undef)] (by kernel_rfl) ?_
        refine wS_end (by rfl) ?_
        refine eX_then ?_
        refine cW_prune [(4, .bool (false))] (by kernel_rfl) (by kernel_rfl) (fun a31 => ?_)
        refine cW_ret ?_
        have hq : (some false : Option ((Bool))) = some _ := hm
        replace hq := someE hq
        subst hq
        refine eX_ret (vs := [.bool (false)]) [.tmp 4] (by rfl) ⟨by (show lkE _ _ _ = _); kernel_rfl, trivial⟩ ?_
        exact ⟨rfl, hB⟩
    · have hm := condF hb20 hm
      rewrite [hb20]
      refine wH_take [10, 11, 12, 13, 14, 15, 16, 17, 18, 19, 20, 21, 22, 23, 24, 25, 26, 27, 28, 29, 30, 31, 32, 33, 34, 35, 36] [36, 35, 34, 33, 32, 31, 30, 29, 28, 27, 26, 25, 24, 23, 22, 21, 20, 19, 18, 17, 16, 15, 14, 13, 12, 11, 10, 9, 8, 7, 6, 5, 4, 3, 2, 1, 0] [(41, undef), (40, undef), (39, undef), (38, undef), (37, undef), (36, undef), (35, undef), (34, undef), (33, undef), (32, undef), (31, undef), (30, undef), (29, .bool (false)), (28, .bool (false)), (27, undef), (26, undef), (25, undef), (24, undef), (23, undef), (22, undef), (21, undef), (20, undef), (19, undef), (18, undef), (17, undef), (16, undef), (15, undef)] (by kernel_rfl) (qT (qT qZ)) (by kernel_rfl) ?_
      refine wH_done (by kernel_rfl) ?_
      refine eX_tail ?_
      refine wS_pure 3 [(4, .bool (false)), (43, .bool (false)), (42, undef)] (by kernel_rfl) ?_
      refine wS_end (by rfl) ?_
      refine eX_then ?_
      refine cW_prune [(4, .bool (false))] (by kernel_rfl) (by kernel_rfl) (fun a32 => ?_)
      refine cW_ret ?_
      have hq : (some false : Option ((Bool))) = some _ := hm
      replace hq := someE hq
      subst hq
      refine eX_ret (vs := [.bool (false)]) [.tmp 4] (by rfl) ⟨by (show lkE _ _ _ = _); kernel_rfl, trivial⟩ ?_
      exact ⟨rfl, hB⟩
  · have hm := condF hb19 hm
    rewrite [hb19]
    refine wH_take [3, 4, 5, 6, 7, 8, 9, 10, 11, 12, 13, 14, 15, 16, 17, 18, 19, 20, 21, 22, 23, 24, 25, 26, 27, 28, 29, 30, 31, 32, 33, 34, 35, 36] [36, 35, 34, 33, 32, 31, 30, 29, 28, 27, 26, 25, 24, 23, 22, 21, 20, 19, 18, 17, 16, 15, 14, 13, 12, 11, 10, 9, 8, 7, 6, 5, 4, 3, 2, 1, 0] [(41, undef), (40, undef), (39, undef), (38, undef), (37, undef), (36, undef), (35, undef), (34, undef), (33, undef), (32, undef), (31, undef), (30, undef), (29, .bool (false)), (28, .bool (false)), (27, undef), (26, undef), (25, undef), (24, undef), (23, undef), (22, undef), (21, undef), (20, undef), (19, undef), (18, undef), (17, undef), (16, undef), (15, undef), (14, .bool (false)), (13, .bool (false)), (12, undef), (11, undef), (10, undef), (9, undef), (8, undef)] (by kernel_rfl) (qT (qT qZ)) (by kernel_rfl) ?_
    refine wH_done (by kernel_rfl) ?_
    refine eX_tail ?_
    refine wS_pure 3 [(4, .bool (false)), (43, .bool (false)), (42, undef)] (by kernel_rfl) ?_
    refine wS_end (by rfl) ?_
    refine eX_then ?_
    refine cW_prune [(4, .bool (false))] (by kernel_rfl) (by kernel_rfl) (fun a33 => ?_)
    refine cW_ret ?_
    have hq : (some false : Option ((Bool))) = some _ := hm
    replace hq := someE hq
    subst hq
    refine eX_ret (vs := [.bool (false)]) [.tmp 4] (by rfl) ⟨by (show lkE _ _ _ = _); kernel_rfl, trivial⟩ ?_
    exact ⟨rfl, hB⟩

set_option maxRecDepth 100000 in
/-- spec.l01Corners -/
theorem c_spec_l01Corners {w0 : World} {l0 : List (Int × Int)} {A0 : Option Addr} {cap0 : Nat} {fp0 : List Nat} {r : (List (Int × Int))} (hm : m_spec_l01Corners l0 = some r) (F0 : Sl 2 encII w0 fp0 A0 l0) :
    Calls Try.prog 120 #[.slice A0 (l0).length cap0] w0 fun e w' => ∃ A100 cap100 fp100, e = .returned (.slice A100 (r).length cap100) ∧ Ow 2 encII 37 w' fp100 A100 cap100 r ∧ (∀ x ∈ fp100, w0.heap.size ≤ x) ∧ Chg [] w0 w' := by
  have L0 := F0.low
  have hB : Chg [] w0 w0 := Chg.refl _ _
  have hZ := Nat.le_refl w0.heap.size
  unfold m_spec_l01Corners at hm
  refine enterE (N := 34) Try.func120 (by rfl) Try.ntmps120 (by simp) [(0, .slice A0 (l0).length cap0)] (by rfl) (by kernel_rfl) (fun a => ?_)
  refine cW_seq ?_
  refine cW_region ?_
  refine wS_pure 1 [(2, .slice none 0 0)] (by kernel_rfl) ?_
  refine wS_end (by rfl) ?_
  refine eX_then ?_
  refine cW_seq ?_
  refine cW_region ?_
  refine wS_bs0 (α := Int × Int) (enc := encII) (d := 5) (t := 32) (T := 37) (by kernel_rfl) el32 ?_
  intro b2 w3 G4 F5 hc6
  replace F0 := F0.chg hc6 Dj.nil
  replace hB := hB.inS hc6 inNil
  replace G4 := Nat.le_trans hZ G4
  replace G4 := low1 G4
  replace hZ := Nat.le_trans hZ hc6.size
  refine wS_pure 1 [(3, .slice (some ⟨b2, 0, none⟩) (([] : List (Int × Int))).length 0)] (by kernel_rfl) ?_
  refine wS_end (by rfl) ?_
  refine eX_then ?_
  refine cW_seq ?_
  refine cW_seq ?_
  refine cW_region ?_
  refine wS_pure 1 [(4, .int .i64 (0))] (by kernel_rfl) ?_
  refine wS_end (by rfl) ?_
  refine eX_then ?_
  obtain ⟨r335, hr336, hm⟩ := bindE hm
  have hm337 := hm
  refine cW_cut (fun a' w' => ∃ l316 : List (Int × Int), ∃ A317 : Option Addr, ∃ cap318 : Nat, ∃ fp319 : List Nat, l316 = r335 ∧ Fr 34 [(3, .slice A317 (l316).length cap318)] a' ∧ Ow 2 encII 37 w' fp319 A317 cap318 l316 ∧ (∀ x ∈ fp319, w0.heap.size ≤ x) ∧ Chg [] w0 w' ∧ w0.heap.size ≤ w'.heap.size) ?_ ?_
  · refine cW_block ?_
    refine cW_loop _ (fun (s338 : (List (Int × Int)) × Int) a' w' => ∃ l325 : List (Int × Int), ∃ A326 : Option Addr, ∃ cap327 : Nat, ∃ fp328 : List Nat, ∃ x330 : Int, (l325, x330) = s338 ∧ Fr 34 [(0, .slice A0 (l0).length cap0), (3, .slice A326 (l325).length cap327), (4, .int .i64 (x330))] a' ∧ Sl 2 encII w' fp0 A0 l0 ∧ Ow 2 encII 37 w' fp328 A326 cap327 l325 ∧ (∀ x ∈ fp328, w0.heap.size ≤ x) ∧ Chg [] w0 w' ∧ w0.heap.size ≤ w'.heap.size) hr336 (fun hst => ⟨([] : List (Int × Int)), (some ⟨b2, 0, none⟩), 0, [b2], 0, rfl, Fr.of hst (by kernel_rfl), F0, F5, G4, hB, hZ⟩) ?_
    rintro _ c339 a' w324 ⟨l325, A326, cap327, fp328, x330, rfl, hF331, F332, F333, G334, hB, hZ⟩ hx340
    refine Fr.goOn hF331 (by kernel_rfl) ?_
    have hm := hx340
    unfold m_spec_l01Corners_s1 at hm
    refine cW_seq ?_
    refine cW_seq ?_
    refine cW_region ?_
    refine wS_pure 4 [(9, .bool (decide (x330 < (((l0).length : Int))))), (8, .int .i64 (((l0).length : Int))), (7, .slice A0 (l0).length cap0), (6, .int .i64 (x330))] (by kernel_rfl) ?_
    refine wS_end (by rfl) ?_
    refine eX_then ?_
    refine cW_cond (t := decide (x330 < (((l0).length : Int)))) (by kernel_rfl) (fun hb341 => ?_) (fun hb341 => ?_)
    · have hm := condT hb341 hm
      refine cW_skip ?_
      refine eX_then ?_
      refine cW_seq ?_
      refine cW_block ?_
      obtain ⟨s419, hs420, hm⟩ := bindE hm
      refine cW_cut (fun a' w' => ∃ l410 : List (Int × Int), ∃ A411 : Option Addr, ∃ cap412 : Nat, ∃ fp413 : List Nat, l410 = s419 ∧ Fr 34 [(0, .slice A0 (l0).length cap0), (3, .slice A411 (l410).length cap412), (4, .int .i64 (x330))] a' ∧ Sl 2 encII w' fp0 A0 l0 ∧ Ow 2 encII 37 w' fp413 A411 cap412 l410 ∧ (∀ x ∈ fp413, w0.heap.size ≤ x) ∧ Chg [] w0 w' ∧ w0.heap.size ≤ w'.heap.size) ?_ ?_
      · have hm := hs420
        refine cW_seq ?_
        refine cW_region ?_
        refine wS_pure 3 [(14, .bool (x330 == 0)), (13, .bool (x330 == 0)), (12, .int .i64 (x330))] (by kernel_rfl) ?_
        refine wS_bool (x330 == 0) (fun hb421 => ?_) (fun hb421 => ?_)
        · have hm := condT hb421 hm
          rewrite [hb421]
          refine wS_pure 11 [(25, .bool (true)), (24, undef), (23, undef), (22, undef), (21, .bool (true)), (20, .bool (true)), (19, undef), (18, undef), (17, undef), (16, undef), (15, undef)] (by kernel_rfl) ?_
          refine wS_end (by rfl) ?_
          refine eX_then ?_
          refine cW_cond_t (by kernel_rfl) ?_
          refine cW_region ?_
          refine wS_pure 3 [(28, .int .i64 (x330)), (27, .slice A0 (l0).length cap0), (26, .slice A326 (l325).length cap327)] (by kernel_rfl) ?_
          obtain ⟨x422, hx423, hm⟩ := bindE hm
          refine wS_idx (d := 29) (T := 32) (A := A0) (n := (l0).length) (cap := cap0) (kd := .i64) (m := x330) (by kernel_rfl) sl32 (F332.is hx423) ?_
          refine wS_loadA (d := 30) (T := 37) (ad := (elA A0 2 (x330) 0)) (vs := [.int .i64 (x422.1), .int .i64 (x422.2)]) (by kernel_rfl) vt37 (fun i u hu => Sl.cells_at F332 hx423 0 hu (by rfl)) ?_
          refine wS_bs (enc := encII) ([(x422.1, x422.2)] : List (Int × Int)) [.int .i64 (x422.1), .int .i64 (x422.2)] (d := 31) (t := 32) (T := 37) (n := 1) (ps := [(0, .agg #[.int .i64 (x422.1), .int .i64 (x422.2)])]) (by kernel_rfl) el32 encII_ok (by rfl) (by omega) (by omega) (by kernel_rfl) (by rfl) ?_
          intro b424 w425 G426 F427 hc428
          have D430 : Dj fp328 [b424] := Dj.of F333.low (low1 G426)
          replace F332 := F332.chg hc428 Dj.nil
          replace F333 := F333.chg hc428 Dj.nil
          replace hB := hB.inS hc428 inNil
          replace G426 := Nat.le_trans hZ G426
          replace G426 := low1 G426
          replace hZ := Nat.le_trans hZ hc428.size
          obtain ⟨_, hk431, hm⟩ := bindE hm
          replace hk431 := apE hk431
          refine wS_append (enc := encII) (l := (l325 : List (Int × Int))) (l2 := (([(x422.1, x422.2)] : List (Int × Int)) : List (Int × Int))) (d := 32) (t := 32) (T := 37) (A := A326) (A2 := (some ⟨b424, 0, none⟩)) (cap := cap327) (cap2 := 1) (by kernel_rfl) el32 encII_ok F333 (F427.sl encII_ok) (by rfl) hk431 ?_
          intro w432 fp433 A434 cap435 F436 hc437 hp438
          have G440 := low_ap G334 hZ hp438
          have D441 : Dj [b424] fp433 := Dj.ap (D430).symm F427.low hp438
          replace F332 := F332.chg hc437 (Dj.of L0 G334)
          replace F427 := F427.chg hc437 (D430).symm
          replace hB := hB.inS hc437 (inLow G334)
          replace hZ := Nat.le_trans hZ hc437.size
          refine wS_pure 1 [(3, .slice A434 (l325 ++ (([(x422.1, x422.2)] : List (Int × Int)))).length cap435)] (by kernel_rfl) ?_
          refine wS_end (by rfl) ?_
          have hq : (some (l325 ++ (([(x422.1, x422.2)] : List (Int × Int)))) : Option ((List (Int × Int)))) = some _ := hm
          replace hq := someE hq
          subst hq
          exact eX_J (fun hst => ⟨l325 ++ (([(x422.1, x422.2)] : List (Int × Int))), A434, cap435, fp433, rfl, Fr.of hst (by kernel_rfl), F332, F436, G440, hB, hZ⟩)
        · have hm := condF hb421 hm
          rewrite [hb421]
          refine wS_pure 7 [(21, .bool (x330 == (wr ((((l0).length : Int)) - 1)))), (20, .bool (x330 == (wr ((((l0).length : Int)) - 1)))), (19, .bool (x330 == (wr ((((l0).length : Int)) - 1)))), (18, .int .i64 (wr ((((l0).length : Int)) - 1))), (17, .int .i64 (((l0).length : Int))), (16, .slice A0 (l0).length cap0), (15, .int .i64 (x330))] (by kernel_rfl) ?_
          refine wS_bool (x330 == (wr ((((l0).length : Int)) - 1))) (fun hb442 => ?_) (fun hb442 => ?_)
          · have hm := condT hb442 hm
            rewrite [hb442]
            refine wS_pure 4 [(25, .bool (true)), (24, undef), (23, undef), (22, undef)] (by kernel_rfl) ?_
            refine wS_end (by rfl) ?_
            refine eX_then ?_
            refine cW_cond_t (by kernel_rfl) ?_
            refine cW_region ?_
            refine wS_pure 3 [(28, .int .i64 (x330)), (27, .slice A0 (l0).length cap0), (26, .slice A326 (l325).length cap327)] (by kernel_rfl) ?_
            obtain ⟨x443, hx444, hm⟩ := bindE hm
            refine wS_idx (d := 29) (T := 32) (A := A0) (n := (l0).length) (cap := cap0) (kd := .i64) (m := x330) (by kernel_rfl) sl32 (F332.is hx444) ?_
            refine wS_loadA (d := 30) (T := 37) (ad := (elA A0 2 (x330) 0)) (vs := [.int .i64 (x443.1), .int .i64 (x443.2)]) (by kernel_rfl) vt37 (fun i u hu => Sl.cells_at F332 hx444 0 hu (by rfl)) ?_
            refine wS_bs (enc := encII) ([(x443.1, x443.2)] : List (Int × Int)) [.int .i64 (x443.1), .int .i64 (x443.2)] (d := 31) (t := 32) (T := 37) (n := 1) (ps := [(0, .agg #[.int .i64 (x443.1), .int .i64 (x443.2)])]) (by kernel_rfl) el32 encII_ok (by rfl) (by omega) (by omega) (by kernel_rfl) (by rfl) ?_
            intro b445 w446 G447 F448 hc449
            have D451 : Dj fp328 [b445] := Dj.of F333.low (low1 G447)
            replace F332 := F332.chg hc449 Dj.nil
            replace F333 := F333.chg hc449 Dj.nil
            replace hB := hB.inS hc449 inNil
            replace G447 := Nat.le_trans hZ G447
            replace G447 := low1 G447
            replace hZ := Nat.le_trans hZ hc449.size
            obtain ⟨_, hk452, hm⟩ := bindE hm
            replace hk452 := apE hk452
            refine wS_append (enc := encII) (l := (l325 : List (Int × Int))) (l2 := (([(x443.1, x443.2)] : List (Int × Int)) : List (Int × Int))) (d := 32) (t := 32) (T := 37) (A := A326) (A2 := (some ⟨b445, 0, none⟩)) (cap := cap327) (cap2 := 1) (by kernel_rfl) el32 encII_ok F333 (F448.sl encII_ok) (by rfl) hk452 ?_
            intro w453 fp454 A455 cap456 F457 hc458 hp459
            have G461 := low_ap G334 hZ hp459
            have D462 : Dj [b445] fp454 := Dj.ap (D451).symm F448.low hp459
            replace F332 := F332.chg hc458 (Dj.of L0 G334)
            replace F448 := F448.chg hc458 (D451).symm
            replace hB := hB.inS hc458 (inLow G334)
            replace hZ := Nat.le_trans hZ hc458.size
            refine wS_pure 1 [(3, .slice A455 (l325 ++ (([(x443.1, x443.2)] : List (Int × Int)))).length cap456)] (by kernel_rfl) ?_
            refine wS_end (by rfl) ?_
            have hq : (some (l325 ++ (([(x443.1, x443.2)] : List (Int × Int)))) : Option ((List (Int × Int)))) = some _ := hm
            replace hq := someE hq
            subst hq
            exact eX_J (fun hst => ⟨l325 ++ (([(x443.1, x443.2)] : List (Int × Int))), A455, cap456, fp454, rfl, Fr.of hst (by kernel_rfl), F332, F457, G461, hB, hZ⟩)
          · have hm := condF hb442 hm
            rewrite [hb442]
            refine wS_pure 2 [(23, .int .i64 (x330)), (22, .slice A0 (l0).length cap0)] (by kernel_rfl) ?_
            obtain ⟨y463, hy464, hm⟩ := bindE hm
            refine wS_calls (d := 24) (f := 174) (vs := [.slice A0 (l0).length cap0, .int .i64 (x330)]) (by kernel_rfl) ent174 (c_spec_l01Bend hy464 F332) ?_
            rintro _ w465 ⟨rfl, hc466⟩
            replace F332 := F332.chg hc466 Dj.nil
            replace F333 := F333.chg hc466 Dj.nil
            replace hB := hB.inS hc466 inNil
            replace hZ := Nat.le_trans hZ hc466.size
            refine ⟨.bool (y463), rfl, ?_⟩
            refine wS_pure 1 [(25, .bool (y463))] (by kernel_rfl) ?_
            refine wS_end (by rfl) ?_
            refine eX_then ?_
            refine cW_cond (t := y463) (by kernel_rfl) (fun hb467 => ?_) (fun hb467 => ?_)
            · have hm := condT hb467 hm
              refine cW_region ?_
              refine wS_pure 3 [(28, .int .i64 (x330)), (27, .slice A0 (l0).length cap0), (26, .slice A326 (l325).length cap327)] (by kernel_rfl) ?_
              obtain ⟨x468, hx469, hm⟩ := bindE hm
              refine wS_idx (d := 29) (T := 32) (A := A0) (n := (l0).length) (cap := cap0) (kd := .i64) (m := x330) (by kernel_rfl) sl32 (F332.is hx469) ?_
              refine wS_loadA (d := 30) (T := 37) (ad := (elA A0 2 (x330) 0)) (vs := [.int .i64 (x468.1), .int .i64 (x468.2)]) (by kernel_rfl) vt37 (fun i u hu => Sl.cells_at F332 hx469 0 hu (by rfl)) ?_
              refine wS_bs (enc := encII) ([(x468.1, x468.2)] : List (Int × Int)) [.int .i64 (x468.1), .int .i64 (x468.2)] (d := 31) (t := 32) (T := 37) (n := 1) (ps := [(0, .agg #[.int .i64 (x468.1), .int .i64 (x468.2)])]) (by kernel_rfl) el32 encII_ok (by rfl) (by omega) (by omega) (by kernel_rfl) (by rfl) ?_
              intro b470 w471 G472 F473 hc474
              have D476 : Dj fp328 [b470] := Dj.of F333.low (low1 G472)
              replace F332 := F332.chg hc474 Dj.nil
              replace F333 := F333.chg hc474 Dj.nil
              replace hB := hB.inS hc474 inNil
              replace G472 := Nat.le_trans hZ G472
              replace G472 := low1 G472
              replace hZ := Nat.le_trans hZ hc474.size
              obtain ⟨_, hk477, hm⟩ := bindE hm
              replace hk477 := apE hk477
              refine wS_append (enc := encII) (l := (l325 : List (Int × Int))) (l2 := (([(x468.1, x468.2)] : List (Int × Int)) : List (Int × Int))) (d := 32) (t := 32) (T := 37) (A := A326) (A2 := (some ⟨b470, 0, none⟩)) (cap := cap327) (cap2 := 1) (by kernel_rfl) el32 encII_ok F333 (F473.sl encII_ok) (by rfl) hk477 ?_
              intro w478 fp479 A480 cap481 F482 hc483 hp484
              have G486 := low_ap G334 hZ hp484
              have D487 : Dj [b470] fp479 := Dj.ap (D476).symm F473.low hp484
              replace F332 := F332.chg hc483 (Dj.of L0 G334)
              replace F473 := F473.chg hc483 (D476).symm
              replace hB := hB.inS hc483 (inLow G334)
              replace hZ := Nat.le_trans hZ hc483.size
              refine wS_pure 1 [(3, .slice A480 (l325 ++ (([(x468.1, x468.2)] : List (Int × Int)))).length cap481)] (by kernel_rfl) ?_
              refine wS_end (by rfl) ?_
              have hq : (some (l325 ++ (([(x468.1, x468.2)] : List (Int × Int)))) : Option ((List (Int × Int)))) = some _ := hm
              replace hq := someE hq
              subst hq
              exact eX_J (fun hst => ⟨l325 ++ (([(x468.1, x468.2)] : List (Int × Int))), A480, cap481, fp479, rfl, Fr.of hst (by kernel_rfl), F332, F482, G486, hB, hZ⟩)
            · have hm := condF hb467 hm
              refine cW_skip ?_
              have hq : (some l325 : Option ((List (Int × Int)))) = some _ := hm
              replace hq := someE hq
              subst hq
              exact eX_J (fun hst => ⟨l325, A326, cap327, fp328, rfl, Fr.of hst (by kernel_rfl), F332, F333, G334, hB, hZ⟩)
      · rintro a' w409 ⟨l410, A411, cap412, fp413, hJ, hF415, F416, F417, G418, hB, hZ⟩
        subst hJ
        refine Fr.goX hF415 (by kernel_rfl) ?_
        refine eX_block ?_
        refine eX_then ?_
        refine cW_region ?_
        refine wS_pure 3 [(4, .int .i64 (wr (x330 + 1))), (11, .int .i64 (wr (x330 + 1))), (10, .int .i64 (x330))] (by kernel_rfl) ?_
        refine wS_end (by rfl) ?_
        have hq : (some (Ctl.next ((l410, wr (x330 + 1)))) : Option (Ctl ((List (Int × Int)) × Int) ((List (Int × Int))))) = some _ := hm
        replace hq := someE hq
        subst hq
        exact eX_next hx340 (fun hst => ⟨l410, A411, cap412, fp413, wr (x330 + 1), rfl, Fr.of hst (by kernel_rfl), F416, F417, G418, hB, hZ⟩)
    · have hm := condF hb341 hm
      refine cW_exit ?_
      refine eX_then_exit ?_
      have hq : (some (Ctl.out l325) : Option (Ctl ((List (Int × Int)) × Int) ((List (Int × Int))))) = some _ := hm
      replace hq := someE hq
      subst hq
      refine eX_outX hx340 (fun hr488 => ?_)
      replace hr488 := hr488.symm
      subst hr488
      refine eX_block_hit ?_
      exact eX_J (fun hst => ⟨l325, A326, cap327, fp328, rfl, Fr.of hst (by kernel_rfl), F333, G334, hB, hZ⟩)
  · rintro a' w315 ⟨l316, A317, cap318, fp319, hJ, hF321, F322, G323, hB, hZ⟩
    subst hJ
    refine Fr.goX hF321 (by kernel_rfl) ?_
    refine eX_then ?_
    refine cW_seq ?_
    refine cW_region ?_
    refine wS_pure 2 [(2, .slice A317 (l316).length cap318), (33, .slice A317 (l316).length cap318)] (by kernel_rfl) ?_
    refine wS_end (by rfl) ?_
    refine eX_then ?_
    refine cW_ret ?_
    have hq : (some l316 : Option ((List (Int × Int)))) = some _ := hm
    replace hq := someE hq
    subst hq
    refine eX_ret (vs := [.slice A317 (l316).length cap318]) [.tmp 2] (by rfl) ⟨by (show lkE _ _ _ = _); kernel_rfl, trivial⟩ ?_
    exact ⟨A317, cap318, fp319, rfl, F322, G323, hB⟩

set_option maxRecDepth 100000 in
/-- spec.l07Segments -/
theorem c_spec_l07Segments {w0 : World} {l0 : List (List (Int × Int))} {A0 : Option Addr} {cap0 : Nat} {fp0 : List Nat} {r : (List (List (Int)))} (hm : m_spec_l07Segments l0 = some r) (F0 : SlR 2 encII w0 fp0 A0 l0) :
    Calls Try.prog 119 #[.slice A0 (l0).length cap0] w0 fun e w' => ∃ A100 cap100 fp100 fr100, e = .returned (.slice A100 (r).length cap100) ∧ OwR 1 encI 25 2 w' fp100 fr100 A100 cap100 r ∧ (∀ x ∈ fp100 ++ fr100, w0.heap.size ≤ x) ∧ Chg [] w0 w' := by
  have L0 := F0.low
  have hB : Chg [] w0 w0 := Chg.refl _ _
  have hZ := Nat.le_refl w0.heap.size
  unfold m_spec_l07Segments at hm
  refine enterE (N := 34) Try.func119 (by rfl) Try.ntmps119 (by simp) [(0, .slice A0 (l0).length cap0)] (by rfl) (by kernel_rfl) (fun a => ?_)
  refine cW_seq ?_
  refine cW_region ?_
  refine wS_pure 1 [(2, .slice none 0 0)] (by kernel_rfl) ?_
  refine wS_end (by rfl) ?_
  refine eX_then ?_
  refine cW_seq ?_
  refine cW_region ?_
  refine wS_rows0 (k := 1) (enc := encI) (d := 7) (t := 40) (T := 25) (T2 := 2) (by kernel_rfl) el40 ?_
  intro b2 w3 G4 F5 hc6
  replace F0 := F0.chg hc6 Dj.nil
  replace hB := hB.inS hc6 inNil
  replace G4 := Nat.le_trans hZ G4
  replace G4 := low1 G4
  replace hZ := Nat.le_trans hZ hc6.size
  replace G4 := lowApp G4 lowNil
  refine wS_pure 1 [(3, .slice (some ⟨b2, 0, none⟩) (([] : List (List (Int)))).length 0)] (by kernel_rfl) ?_
  refine wS_end (by rfl) ?_
  refine eX_then ?_
  refine cW_seq ?_
  refine cW_seq ?_
  refine cW_region ?_
  refine wS_pure 1 [(4, .int .i64 (0))] (by kernel_rfl) ?_
  refine wS_end (by rfl) ?_
  refine eX_then ?_
  obtain ⟨r324, hr325, hm⟩ := bindE hm
  have hm326 := hm
  refine cW_cut (fun a' w' => ∃ l303 : List (List (Int)), ∃ A304 : Option Addr, ∃ cap305 : Nat, ∃ fp306 : List Nat, ∃ fr308 : List Nat, l303 = r324 ∧ Fr 34 [(3, .slice A304 (l303).length cap305)] a' ∧ OwR 1 encI 25 2 w' fp306 fr308 A304 cap305 l303 ∧ (∀ x ∈ (fp306 ++ fr308), w0.heap.size ≤ x) ∧ Chg [] w0 w' ∧ w0.heap.size ≤ w'.heap.size) ?_ ?_
  · refine cW_block ?_
    refine cW_loop _ (fun (s327 : (List (List (Int))) × Int) a' w' => ∃ l313 : List (List (Int)), ∃ A314 : Option Addr, ∃ cap315 : Nat, ∃ fp316 : List Nat, ∃ fr318 : List Nat, ∃ x319 : Int, (l313, x319) = s327 ∧ Fr 34 [(0, .slice A0 (l0).length cap0), (3, .slice A314 (l313).length cap315), (4, .int .i64 (x319))] a' ∧ SlR 2 encII w' fp0 A0 l0 ∧ OwR 1 encI 25 2 w' fp316 fr318 A314 cap315 l313 ∧ (∀ x ∈ (fp316 ++ fr318), w0.heap.size ≤ x) ∧ Chg [] w0 w' ∧ w0.heap.size ≤ w'.heap.size) hr325 (fun hst => ⟨([] : List (List (Int))), (some ⟨b2, 0, none⟩), 0, [b2], [], 0, rfl, Fr.of hst (by kernel_rfl), F0, F5, G4, hB, hZ⟩) ?_
    rintro _ c328 a' w312 ⟨l313, A314, cap315, fp316, fr318, x319, rfl, hF320, F321, F322, G323, hB, hZ⟩ hx329
    refine Fr.goOn hF320 (by kernel_rfl) ?_
    have hm := hx329
    unfold m_spec_l07Segments_s3 at hm
    refine cW_seq ?_
    refine cW_seq ?_
    refine cW_region ?_
    refine wS_pure 4 [(11, .bool (decide (x319 < (((l0).length : Int))))), (10, .int .i64 (((l0).length : Int))), (9, .slice A0 (l0).length cap0), (8, .int .i64 (x319))] (by kernel_rfl) ?_
    refine wS_end (by rfl) ?_
    refine eX_then ?_
    refine cW_cond (t := decide (x319 < (((l0).length : Int)))) (by kernel_rfl) (fun hb330 => ?_) (fun hb330 => ?_)
    · have hm := condT hb330 hm
      refine cW_skip ?_
      refine eX_then ?_
      refine cW_seq ?_
      refine cW_block ?_
      refine cW_seq ?_
      refine cW_region ?_
      refine wS_pure 2 [(15, .int .i64 (x319)), (14, .slice A0 (l0).length cap0)] (by kernel_rfl) ?_
      obtain ⟨x331, hx332, hm⟩ := bindE hm
      refine wS_idx (d := 16) (T := 31) (A := A0) (n := (l0).length) (cap := cap0) (kd := .i64) (m := x319) (by kernel_rfl) sl31 (F321.is hx332) ?_
      obtain ⟨A333, cap334, hc336, F335, K337⟩ := SlR.row F321 hx332
      refine wS_load1 (d := 17) (T := 32) (ad := (elA A0 1 (x319) 0)) (v := .slice A333 (x331).length cap334) (by kernel_rfl) vt32 hc336 ?_
      obtain ⟨y339, hy340, hm⟩ := bindE hm
      refine wS_calls (d := 18) (f := 120) (vs := [.slice A333 (x331).length cap334]) (by kernel_rfl) ent120 (c_spec_l01Corners hy340 F335) ?_
      rintro _ w341 ⟨A343, cap344, fp345, rfl, F346, G347, hc342⟩
      have D350 : Dj (fp316 ++ fr318) fp345 := Dj.of F322.low G347
      replace F321 := F321.chg hc342 Dj.nil
      replace F322 := F322.chg hc342 Dj.nil
      replace F335 := F335.chg hc342 Dj.nil
      replace hB := hB.inS hc342 inNil
      replace G347 := low_le hZ G347
      replace hZ := Nat.le_trans hZ hc342.size
      refine ⟨.slice A343 (y339).length cap344, rfl, ?_⟩
      refine wS_pure 2 [(5, .int .i64 (((y339).length : Int))), (19, .int .i64 (((y339).length : Int)))] (by kernel_rfl) ?_
      refine wS_end (by rfl) ?_
      refine eX_then ?_
      refine cW_seq ?_
      refine cW_region ?_
      refine wS_pure 1 [(6, .int .i64 (1))] (by kernel_rfl) ?_
      refine wS_end (by rfl) ?_
      refine eX_then ?_
      obtain ⟨r438, hr439, hm⟩ := bindE hm
      have hm440 := hm
      refine cW_cut (fun a' w' => ∃ l416 : List (List (Int)), ∃ A417 : Option Addr, ∃ cap418 : Nat, ∃ fp419 : List Nat, ∃ fr421 : List Nat, l416 = r438 ∧ Fr 34 [(0, .slice A0 (l0).length cap0), (3, .slice A417 (l416).length cap418), (4, .int .i64 (x319))] a' ∧ SlR 2 encII w' fp0 A0 l0 ∧ OwR 1 encI 25 2 w' fp419 fr421 A417 cap418 l416 ∧ (∀ x ∈ (fp419 ++ fr421), w0.heap.size ≤ x) ∧ Chg [] w0 w' ∧ w0.heap.size ≤ w'.heap.size) ?_ ?_
      · refine cW_block ?_
        refine cW_loop _ (fun (s441 : (List (List (Int))) × Int) a' w' => ∃ l427 : List (List (Int)), ∃ A428 : Option Addr, ∃ cap429 : Nat, ∃ fp430 : List Nat, ∃ fr432 : List Nat, ∃ x433 : Int, (l427, x433) = s441 ∧ Fr 34 [(0, .slice A0 (l0).length cap0), (3, .slice A428 (l427).length cap429), (4, .int .i64 (x319)), (5, .int .i64 (((y339).length : Int))), (6, .int .i64 (x433))] a' ∧ SlR 2 encII w' fp0 A0 l0 ∧ OwR 1 encI 25 2 w' fp430 fr432 A428 cap429 l427 ∧ (∀ x ∈ (fp430 ++ fr432), w0.heap.size ≤ x) ∧ Chg [] w0 w' ∧ w0.heap.size ≤ w'.heap.size) hr439 (fun hst => ⟨l313, A314, cap315, fp316, fr318, 1, rfl, Fr.of hst (by kernel_rfl), F321, F322, G323, hB, hZ⟩) ?_
        rintro _ c442 a' w426 ⟨l427, A428, cap429, fp430, fr432, x433, rfl, hF434, F435, F436, G437, hB, hZ⟩ hx443
        refine Fr.goOn hF434 (by kernel_rfl) ?_
        have hm := hx443
        unfold m_spec_l07Segments_s4 at hm
        refine cW_seq ?_
        refine cW_seq ?_
        refine cW_region ?_
        refine wS_pure 3 [(22, .bool (decide (x433 < (((y339).length : Int))))), (21, .int .i64 (((y339).length : Int))), (20, .int .i64 (x433))] (by kernel_rfl) ?_
        refine wS_end (by rfl) ?_
        refine eX_then ?_
        refine cW_cond (t := decide (x433 < (((y339).length : Int)))) (by kernel_rfl) (fun hb444 => ?_) (fun hb444 => ?_)
        · have hm := condT hb444 hm
          refine cW_skip ?_
          refine eX_then ?_
          refine cW_seq ?_
          refine cW_block ?_
          refine cW_region ?_
          refine wS_pure 5 [(29, .int .i64 (x433)), (28, .int .i64 (wr (x433 - 1))), (27, .int .i64 (x433)), (26, .int .i64 (x319)), (25, .slice A428 (l427).length cap429)] (by kernel_rfl) ?_
          refine wS_bs (enc := encI) ([x319, wr (x433 - 1), x433] : List (Int)) [.int .i64 (x319), .int .i64 (wr (x433 - 1)), .int .i64 (x433)] (d := 30) (t := 25) (T := 2) (n := 3) (ps := [(0, .int .i64 (x319)), (1, .int .i64 (wr (x433 - 1))), (2, .int .i64 (x433))]) (by kernel_rfl) el25 encI_ok (by rfl) (by omega) (by omega) (by kernel_rfl) (by rfl) ?_
          intro b445 w446 G447 F448 hc449
          have D451 : Dj (fp430 ++ fr432) [b445] := Dj.of F436.low (low1 G447)
          replace F435 := F435.chg hc449 Dj.nil
          replace F436 := F436.chg hc449 Dj.nil
          replace hB := hB.inS hc449 inNil
          replace G447 := Nat.le_trans hZ G447
          replace G447 := low1 G447
          replace hZ := Nat.le_trans hZ hc449.size
          refine wS_row1 (k := 1) (enc := encI) (l := ([x319, wr (x433 - 1), x433] : List (Int))) (d := 31) (t := 40) (T := 25) (B := (some ⟨b445, 0, none⟩)) (c := 3) (by kernel_rfl) el40 F448 ?_
          intro b452 w453 G454 F455 hc456
          have D458 : Dj (fp430 ++ fr432) ([b452] ++ [b445]) := Dj.app (Dj.of F436.low (low1 G454)) D451
          replace F435 := F435.chg hc456 Dj.nil
          replace F436 := F436.chg hc456 Dj.nil
          replace F448 := F448.chg hc456 Dj.nil
          replace hB := hB.inS hc456 inNil
          replace G454 := Nat.le_trans hZ G454
          replace G454 := lowApp (low1 G454) G447
          replace hZ := Nat.le_trans hZ hc456.size
          replace F448 := (F448.sl encI_ok)
          obtain ⟨_, hk459, hm⟩ := bindE hm
          replace hk459 := apE hk459
          refine wS_appendR (k := 1) (enc := encI) (ll := (l427 : List (List (Int)))) (ll2 := (([([x319, wr (x433 - 1), x433] : List (Int))] : List (List (Int))) : List (List (Int)))) (d := 32) (t := 40) (T := 25) (A := A428) (A2 := (some ⟨b452, 0, none⟩)) (cap := cap429) (cap2 := 1) (by kernel_rfl) el40 F436 F455 (by rfl) D458 hk459 ?_
          intro w460 fp461 A462 cap463 F464 hc465 hp466
          have G468 := lowApp (low_ap (low_inl G437) hZ hp466) (lowApp (low_inr G437) (low_inr G454))
          replace F435 := F435.chg hc465 (Dj.inl (Dj.of L0 G437))
          replace hB := hB.inS hc465 (memS_inl (inLow G437))
          replace hZ := Nat.le_trans hZ hc465.size
          refine wS_pure 1 [(3, .slice A462 (l427 ++ (([([x319, wr (x433 - 1), x433] : List (Int))] : List (List (Int))))).length cap463)] (by kernel_rfl) ?_
          refine wS_end (by rfl) ?_
          refine eX_block ?_
          refine eX_then ?_
          refine cW_region ?_
          refine wS_pure 3 [(6, .int .i64 (wr (x433 + 1))), (24, .int .i64 (wr (x433 + 1))), (23, .int .i64 (x433))] (by kernel_rfl) ?_
          refine wS_end (by rfl) ?_
          have hq : (some (Ctl.next ((l427 ++ (([([x319, wr (x433 - 1), x433] : List (Int))] : List (List (Int)))), wr (x433 + 1)))) : Option (Ctl ((List (List (Int))) × Int) ((List (List (Int)))))) = some _ := hm
          replace hq := someE hq
          subst hq
          exact eX_next hx443 (fun hst => ⟨l427 ++ (([([x319, wr (x433 - 1), x433] : List (Int))] : List (List (Int)))), A462, cap463, fp461, (fr432 ++ [b445]), wr (x433 + 1), rfl, Fr.of hst (by kernel_rfl), F435, F464, G468, hB, hZ⟩)
        · have hm := condF hb444 hm
          refine cW_exit ?_
          refine eX_then_exit ?_
          have hq : (some (Ctl.out l427) : Option (Ctl ((List (List (Int))) × Int) ((List (List (Int)))))) = some _ := hm
          replace hq := someE hq
          subst hq
          refine eX_outX hx443 (fun hr469 => ?_)
          replace hr469 := hr469.symm
          subst hr469
          refine eX_block_hit ?_
          exact eX_J (fun hst => ⟨l427, A428, cap429, fp430, fr432, rfl, Fr.of hst (by kernel_rfl), F435, F436, G437, hB, hZ⟩)
      · rintro a' w415 ⟨l416, A417, cap418, fp419, fr421, hJ, hF422, F423, F424, G425, hB, hZ⟩
        subst hJ
        refine Fr.goX hF422 (by kernel_rfl) ?_
        refine eX_block ?_
        refine eX_then ?_
        refine cW_region ?_
        refine wS_pure 3 [(4, .int .i64 (wr (x319 + 1))), (13, .int .i64 (wr (x319 + 1))), (12, .int .i64 (x319))] (by kernel_rfl) ?_
        refine wS_end (by rfl) ?_
        have hq : (some (Ctl.next ((l416, wr (x319 + 1)))) : Option (Ctl ((List (List (Int))) × Int) ((List (List (Int)))))) = some _ := hm
        replace hq := someE hq
        subst hq
        exact eX_next hx329 (fun hst => ⟨l416, A417, cap418, fp419, fr421, wr (x319 + 1), rfl, Fr.of hst (by kernel_rfl), F423, F424, G425, hB, hZ⟩)
    · have hm := condF hb330 hm
      refine cW_exit ?_
      refine eX_then_exit ?_
      have hq : (some (Ctl.out l313) : Option (Ctl ((List (List (Int))) × Int) ((List (List (Int)))))) = some _ := hm
      replace hq := someE hq
      subst hq
      refine eX_outX hx329 (fun hr470 => ?_)
      replace hr470 := hr470.symm
      subst hr470
      refine eX_block_hit ?_
      exact eX_J (fun hst => ⟨l313, A314, cap315, fp316, fr318, rfl, Fr.of hst (by kernel_rfl), F322, G323, hB, hZ⟩)
  · rintro a' w302 ⟨l303, A304, cap305, fp306, fr308, hJ, hF309, F310, G311, hB, hZ⟩
    subst hJ
    refine Fr.goX hF309 (by kernel_rfl) ?_
    refine eX_then ?_
    refine cW_seq ?_
    refine cW_region ?_
    refine wS_pure 2 [(2, .slice A304 (l303).length cap305), (33, .slice A304 (l303).length cap305)] (by kernel_rfl) ?_
    refine wS_end (by rfl) ?_
    refine eX_then ?_
    refine cW_ret ?_
    have hq : (some l303 : Option ((List (List (Int))))) = some _ := hm
    replace hq := someE hq
    subst hq
    refine eX_ret (vs := [.slice A304 (l303).length cap305]) [.tmp 2] (by rfl) ⟨by (show lkE _ _ _ = _); kernel_rfl, trivial⟩ ?_
    exact ⟨A304, cap305, fp306, fr308, rfl, F310, G311, hB⟩

set_option maxRecDepth 100000 in
/-- spec.l07Share -/
theorem c_spec_l07Share {w0 : World} {p0_0 : Int} {p0_1 : Int} {p1_0 : Int} {p1_1 : Int} {p2_0 : Int} {p2_1 : Int} {p3_0 : Int} {p3_1 : Int} {r : (Bool)} (hm : m_spec_l07Share p0_0 p0_1 p1_0 p1_1 p2_0 p2_1 p3_0 p3_1 = some r)  :
    Calls Try.prog 121 #[.agg #[.int .i64 (p0_0), .int .i64 (p0_1)], .agg #[.int .i64 (p1_0), .int .i64 (p1_1)], .agg #[.int .i64 (p2_0), .int .i64 (p2_1)], .agg #[.int .i64 (p3_0), .int .i64 (p3_1)]] w0 fun e w' => e = .returned (.bool (r)) ∧ Chg [] w0 w' := by
  have hB : Chg [] w0 w0 := Chg.refl _ _
  have hZ := Nat.le_refl w0.heap.size
  unfold m_spec_l07Share at hm
  refine enterE (N := 57) Try.func121 (by rfl) Try.ntmps121 (by simp) [(0, .agg #[.int .i64 (p0_0), .int .i64 (p0_1)]), (1, .agg #[.int .i64 (p1_0), .int .i64 (p1_1)]), (2, .agg #[.int .i64 (p2_0), .int .i64 (p2_1)]), (3, .agg #[.int .i64 (p3_0), .int .i64 (p3_1)])] (by rfl) (by kernel_rfl) (fun a => ?_)
  refine cW_seq ?_
  refine cW_region ?_
  refine wS_box (d := 4) (T := 37) (x := .agg #[.int .i64 (p0_0), .int .i64 (p0_1)]) (by kernel_rfl) ?_
  intro b1 w2 G3 F4 hc5
  replace F4 : Cl w2 b1 37 [.int .i64 (p0_0), .int .i64 (p0_1)] := F4
  replace hB := hB.inS hc5 inNil
  replace G3 := Nat.le_trans hZ G3
  replace hZ := Nat.le_trans hZ hc5.size
  refine wS_box (d := 5) (T := 37) (x := .agg #[.int .i64 (p1_0), .int .i64 (p1_1)]) (by kernel_rfl) ?_
  intro b7 w8 G9 F10 hc11
  replace F10 : Cl w8 b7 37 [.int .i64 (p1_0), .int .i64 (p1_1)] := F10
  have D13 : Dj [b1] [b7] := Dj.of (lt1 F4.lt) (low1 G9)
  replace F4 := F4.chg hc11 notNil
  replace hB := hB.inS hc11 inNil
  replace G9 := Nat.le_trans hZ G9
  replace hZ := Nat.le_trans hZ hc11.size
  refine wS_box (d := 6) (T := 37) (x := .agg #[.int .i64 (p2_0), .int .i64 (p2_1)]) (by kernel_rfl) ?_
  intro b14 w15 G16 F17 hc18
  replace F17 : Cl w15 b14 37 [.int .i64 (p2_0), .int .i64 (p2_1)] := F17
  have D20 : Dj [b1] [b14] := Dj.of (lt1 F4.lt) (low1 G16)
  have D21 : Dj [b7] [b14] := Dj.of (lt1 F10.lt) (low1 G16)
  replace F4 := F4.chg hc18 notNil
  replace F10 := F10.chg hc18 notNil
  replace hB := hB.inS hc18 inNil
  replace G16 := Nat.le_trans hZ G16
  replace hZ := Nat.le_trans hZ hc18.size
  refine wS_box (d := 7) (T := 37) (x := .agg #[.int .i64 (p3_0), .int .i64 (p3_1)]) (by kernel_rfl) ?_
  intro b22 w23 G24 F25 hc26
  replace F25 : Cl w23 b22 37 [.int .i64 (p3_0), .int .i64 (p3_1)] := F25
  have D28 : Dj [b1] [b22] := Dj.of (lt1 F4.lt) (low1 G24)
  have D29 : Dj [b7] [b22] := Dj.of (lt1 F10.lt) (low1 G24)
  have D30 : Dj [b14] [b22] := Dj.of (lt1 F17.lt) (low1 G24)
  replace F4 := F4.chg hc26 notNil
  replace F10 := F10.chg hc26 notNil
  replace F17 := F17.chg hc26 notNil
  replace hB := hB.inS hc26 inNil
  replace G24 := Nat.le_trans hZ G24
  replace hZ := Nat.le_trans hZ hc26.size
  refine wS_pure 1 [(8, .bool (false))] (by kernel_rfl) ?_
  refine wS_end (by rfl) ?_
  refine eX_then ?_
  refine cW_seq ?_
  refine cW_drawnTail [] 44 (by kernel_rfl) (by kernel_rfl) (fun w86 hc87 => ?_)
  replace F4 := F4.chg hc87 notNil
  replace F10 := F10.chg hc87 notNil
  replace F17 := F17.chg hc87 notNil
  replace F25 := F25.chg hc87 notNil
  replace hB := hB.inS hc87 inNil
  replace hZ := Nat.le_trans hZ hc87.size
  have hS := Chg.refl [] w86
  have Z88 := F4
  have Z89 := F10
  have Z90 := F17
  have Z91 := F25
  refine wH_take [0] [0] [(9, .pointer (some ⟨b1, 0, none⟩))] (by kernel_rfl) (qT (qT qZ)) (by kernel_rfl) ?_
  refine wH_load1 (i := 1) (d := 10) (T := 2) (ad := ⟨b1, 0, none⟩) (v := .int .i64 (p0_0)) (by kernel_rfl) (qT (qT qZ)) (by kernel_rfl) (by kernel_rfl) vt2 (fun W hW => (Z88.chg hW notNil).cell 0) ?_
  refine wH_take [2] [2, 1, 0] [(11, .pointer (some ⟨b7, 0, none⟩))] (by kernel_rfl) (qT (qT qZ)) (by kernel_rfl) ?_
  refine wH_load1 (i := 3) (d := 12) (T := 2) (ad := ⟨b7, 0, none⟩) (v := .int .i64 (p1_0)) (by kernel_rfl) (qT (qT qZ)) (by kernel_rfl) (by kernel_rfl) vt2 (fun W hW => (Z89.chg hW notNil).cell 0) ?_
  refine wH_take [5] [5, 3, 2, 1, 0] [(14, .pointer (some ⟨b14, 0, none⟩))] (by kernel_rfl) (qT (qT qZ)) (by kernel_rfl) ?_
  refine wH_load1 (i := 6) (d := 15) (T := 2) (ad := ⟨b14, 0, none⟩) (v := .int .i64 (p2_0)) (by kernel_rfl) (qT (qT qZ)) (by kernel_rfl) (by kernel_rfl) vt2 (fun W hW => (Z90.chg hW notNil).cell 0) ?_
  refine wH_take [7] [7, 6, 5, 3, 2, 1, 0] [(16, .pointer (some ⟨b22, 0, none⟩))] (by kernel_rfl) (qT (qT qZ)) (by kernel_rfl) ?_
  refine wH_load1 (i := 8) (d := 17) (T := 2) (ad := ⟨b22, 0, none⟩) (v := .int .i64 (p3_0)) (by kernel_rfl) (qT (qT qZ)) (by kernel_rfl) (by kernel_rfl) vt2 (fun W hW => (Z91.chg hW notNil).cell 0) ?_
  refine wH_take [11] [11, 8, 7, 6, 5, 3, 2, 1, 0] [(20, .pointer (some ⟨b1, 0, none⟩))] (by kernel_rfl) (qT (qT qZ)) (by kernel_rfl) ?_
  refine wH_load1 (i := 12) (d := 21) (T := 2) (ad := ⟨b1, 0, none⟩) (v := .int .i64 (p0_0)) (by kernel_rfl) (qT (qT qZ)) (by kernel_rfl) (by kernel_rfl) vt2 (fun W hW => (Z88.chg hW notNil).cell 0) ?_
  refine wH_take [13] [13, 12, 11, 8, 7, 6, 5, 3, 2, 1, 0] [(22, .pointer (some ⟨b7, 0, none⟩))] (by kernel_rfl) (qT (qT qZ)) (by kernel_rfl) ?_
  refine wH_load1 (i := 14) (d := 23) (T := 2) (ad := ⟨b7, 0, none⟩) (v := .int .i64 (p1_0)) (by kernel_rfl) (qT (qT qZ)) (by kernel_rfl) (by kernel_rfl) vt2 (fun W hW => (Z89.chg hW notNil).cell 0) ?_
  refine wH_take [16] [16, 14, 13, 12, 11, 8, 7, 6, 5, 3, 2, 1, 0] [(25, .pointer (some ⟨b14, 0, none⟩))] (by kernel_rfl) (qT (qT qZ)) (by kernel_rfl) ?_
  refine wH_load1 (i := 17) (d := 26) (T := 2) (ad := ⟨b14, 0, none⟩) (v := .int .i64 (p2_0)) (by kernel_rfl) (qT (qT qZ)) (by kernel_rfl) (by kernel_rfl) vt2 (fun W hW => (Z90.chg hW notNil).cell 0) ?_
  refine wH_take [18] [18, 17, 16, 14, 13, 12, 11, 8, 7, 6, 5, 3, 2, 1, 0] [(27, .pointer (some ⟨b22, 0, none⟩))] (by kernel_rfl) (qT (qT qZ)) (by kernel_rfl) ?_
  refine wH_load1 (i := 19) (d := 28) (T := 2) (ad := ⟨b22, 0, none⟩) (v := .int .i64 (p3_0)) (by kernel_rfl) (qT (qT qZ)) (by kernel_rfl) (by kernel_rfl) vt2 (fun W hW => (Z91.chg hW notNil).cell 0) ?_
  refine wH_all [4] (by rfl) (by kernel_rfl) (by simp) ⟨⟨by kernel_rfl, ?_⟩, trivial⟩
  obtain ⟨y92, hy93, hm⟩ := bindE hm
  refine wS_calls (d := 13) (f := 172) (vs := [.int .i64 (p0_0), .int .i64 (p1_0)]) (by kernel_rfl) ent172 (c_spec_l00Min hy93) ?_
  rintro _ w94 ⟨rfl, hc95⟩
  replace F4 := F4.chg hc95 notNil
  replace F10 := F10.chg hc95 notNil
  replace F17 := F17.chg hc95 notNil
  replace F25 := F25.chg hc95 notNil
  replace hB := hB.inS hc95 inNil
  have hSz := hS
  replace hS := hS.inS hc95 inNil
  replace hZ := Nat.le_trans hZ hc95.size
  refine ⟨.int .i64 (y92), rfl, ?_⟩
  refine wS_end (by kernel_rfl) ?_
  refine eX_KH hS ?_
  refine wH_all [9] (by rfl) (by kernel_rfl) (by simp) ⟨⟨by kernel_rfl, ?_⟩, trivial⟩
  obtain ⟨y96, hy97, hm⟩ := bindE hm
  refine wS_calls (d := 18) (f := 172) (vs := [.int .i64 (p2_0), .int .i64 (p3_0)]) (by kernel_rfl) ent172 (c_spec_l00Min hy97) ?_
  rintro _ w98 ⟨rfl, hc99⟩
  replace F4 := F4.chg hc99 notNil
  replace F10 := F10.chg hc99 notNil
  replace F17 := F17.chg hc99 notNil
  replace F25 := F25.chg hc99 notNil
  replace hB := hB.inS hc99 inNil
  have hSz := hS
  replace hS := hS.inS hc99 inNil
  replace hZ := Nat.le_trans hZ hc99.size
  refine ⟨.int .i64 (y96), rfl, ?_⟩
  refine wS_end (by kernel_rfl) ?_
  refine eX_KH hS ?_
  refine wH_all [10] (by rfl) (by kernel_rfl) (by simp) ⟨⟨by kernel_rfl, ?_⟩, trivial⟩
  obtain ⟨y100, hy101, hm⟩ := bindE hm
  refine wS_calls (d := 19) (f := 175) (vs := [.int .i64 (y92), .int .i64 (y96)]) (by kernel_rfl) ent175 (c_spec_l00Max hy101) ?_
  rintro _ w102 ⟨rfl, hc103⟩
  replace F4 := F4.chg hc103 notNil
  replace F10 := F10.chg hc103 notNil
  replace F17 := F17.chg hc103 notNil
  replace F25 := F25.chg hc103 notNil
  replace hB := hB.inS hc103 inNil
  have hSz := hS
  replace hS := hS.inS hc103 inNil
  replace hZ := Nat.le_trans hZ hc103.size
  refine ⟨.int .i64 (y100), rfl, ?_⟩
  refine wS_end (by kernel_rfl) ?_
  refine eX_KH hS ?_
  refine wH_all [15] (by rfl) (by kernel_rfl) (by simp) ⟨⟨by kernel_rfl, ?_⟩, trivial⟩
  obtain ⟨y104, hy105, hm⟩ := bindE hm
  refine wS_calls (d := 24) (f := 175) (vs := [.int .i64 (p0_0), .int .i64 (p1_0)]) (by kernel_rfl) ent175 (c_spec_l00Max hy105) ?_
  rintro _ w106 ⟨rfl, hc107⟩
  replace F4 := F4.chg hc107 notNil
  replace F10 := F10.chg hc107 notNil
  replace F17 := F17.chg hc107 notNil
  replace F25 := F25.chg hc107 notNil
  replace hB := hB.inS hc107 inNil
  have hSz := hS
  replace hS := hS.inS hc107 inNil
  replace hZ := Nat.le_trans hZ hc107.size
  refine ⟨.int .i64 (y104), rfl, ?_⟩
  refine wS_end (by kernel_rfl) ?_
  refine eX_KH hS ?_
  refine wH_all [20] (by rfl) (by kernel_rfl) (by simp) ⟨⟨by kernel_rfl, ?_⟩, trivial⟩
  obtain ⟨y108, hy109, hm⟩ := bindE hm
  refine wS_calls (d := 29) (f := 175) (vs := [.int .i64 (p2_0), .int .i64 (p3_0)]) (by kernel_rfl) ent175 (c_spec_l00Max hy109) ?_
  rintro _ w110 ⟨rfl, hc111⟩
  replace F4 := F4.chg hc111 notNil
  replace F10 := F10.chg hc111 notNil
  replace F17 := F17.chg hc111 notNil
  replace F25 := F25.chg hc111 notNil
  replace hB := hB.inS hc111 inNil
  have hSz := hS
  replace hS := hS.inS hc111 inNil
  replace hZ := Nat.le_trans hZ hc111.size
  refine ⟨.int .i64 (y108), rfl, ?_⟩
  refine wS_end (by kernel_rfl) ?_
  refine eX_KH hS ?_
  refine wH_all [21] (by rfl) (by kernel_rfl) (by simp) ⟨⟨by kernel_rfl, ?_⟩, trivial⟩
  obtain ⟨y112, hy113, hm⟩ := bindE hm
  refine wS_calls (d := 30) (f := 172) (vs := [.int .i64 (y104), .int .i64 (y108)]) (by kernel_rfl) ent172 (c_spec_l00Min hy113) ?_
  rintro _ w114 ⟨rfl, hc115⟩
  replace F4 := F4.chg hc115 notNil
  replace F10 := F10.chg hc115 notNil
  replace F17 := F17.chg hc115 notNil
  replace F25 := F25.chg hc115 notNil
  replace hB := hB.inS hc115 inNil
  have hSz := hS
  replace hS := hS.inS hc115 inNil
  replace hZ := Nat.le_trans hZ hc115.size
  refine ⟨.int .i64 (y112), rfl, ?_⟩
  refine wS_end (by kernel_rfl) ?_
  refine eX_KH hS ?_
  refine wH_take [22, 23] [23, 22, 21, 20, 15, 10, 9, 4, 19, 18, 17, 16, 14, 13, 12, 11, 8, 7, 6, 5, 3, 2, 1, 0] [(32, .bool (decide (y100 ≤ y112))), (31, .bool (decide (y100 ≤ y112)))] (by kernel_rfl) (qT (qT qZ)) (by kernel_rfl) ?_
  refine wH_bool (decide (y100 ≤ y112)) (fun hb116 => ?_) (fun hb116 => ?_)
  · have hm := condT hb116 hm
    rewrite [hb116]
    refine wH_take [24] [24, 23, 22, 21, 20, 15, 10, 9, 4, 19, 18, 17, 16, 14, 13, 12, 11, 8, 7, 6, 5, 3, 2, 1, 0] [(33, .pointer (some ⟨b1, 1, none⟩))] (by kernel_rfl) (qT (qT qZ)) (by kernel_rfl) ?_
    refine wH_load1 (i := 25) (d := 34) (T := 2) (ad := ⟨b1, 1, none⟩) (v := .int .i64 (p0_1)) (by kernel_rfl) (qT (qT qZ)) (by kernel_rfl) (by kernel_rfl) vt2 (fun W hW => (Z88.chg hW notNil).cell 1) ?_
    refine wH_take [26] [26, 25, 24, 23, 22, 21, 20, 15, 10, 9, 4, 19, 18, 17, 16, 14, 13, 12, 11, 8, 7, 6, 5, 3, 2, 1, 0] [(35, .pointer (some ⟨b7, 1, none⟩))] (by kernel_rfl) (qT (qT qZ)) (by kernel_rfl) ?_
    refine wH_load1 (i := 27) (d := 36) (T := 2) (ad := ⟨b7, 1, none⟩) (v := .int .i64 (p1_1)) (by kernel_rfl) (qT (qT qZ)) (by kernel_rfl) (by kernel_rfl) vt2 (fun W hW => (Z89.chg hW notNil).cell 1) ?_
    refine wH_take [29] [29, 27, 26, 25, 24, 23, 22, 21, 20, 15, 10, 9, 4, 19, 18, 17, 16, 14, 13, 12, 11, 8, 7, 6, 5, 3, 2, 1, 0] [(38, .pointer (some ⟨b14, 1, none⟩))] (by kernel_rfl) (qT (qT qZ)) (by kernel_rfl) ?_
    refine wH_load1 (i := 30) (d := 39) (T := 2) (ad := ⟨b14, 1, none⟩) (v := .int .i64 (p2_1)) (by kernel_rfl) (qT (qT qZ)) (by kernel_rfl) (by kernel_rfl) vt2 (fun W hW => (Z90.chg hW notNil).cell 1) ?_
    refine wH_take [31] [31, 30, 29, 27, 26, 25, 24, 23, 22, 21, 20, 15, 10, 9, 4, 19, 18, 17, 16, 14, 13, 12, 11, 8, 7, 6, 5, 3, 2, 1, 0] [(40, .pointer (some ⟨b22, 1, none⟩))] (by kernel_rfl) (qT (qT qZ)) (by kernel_rfl) ?_
    refine wH_load1 (i := 32) (d := 41) (T := 2) (ad := ⟨b22, 1, none⟩) (v := .int .i64 (p3_1)) (by kernel_rfl) (qT (qT qZ)) (by kernel_rfl) (by kernel_rfl) vt2 (fun W hW => (Z91.chg hW notNil).cell 1) ?_
    refine wH_take [35] [35, 32, 31, 30, 29, 27, 26, 25, 24, 23, 22, 21, 20, 15, 10, 9, 4, 19, 18, 17, 16, 14, 13, 12, 11, 8, 7, 6, 5, 3, 2, 1, 0] [(44, .pointer (some ⟨b1, 1, none⟩))] (by kernel_rfl) (qT (qT qZ)) (by kernel_rfl) ?_
    refine wH_load1 (i := 36) (d := 45) (T := 2) (ad := ⟨b1, 1, none⟩) (v := .int .i64 (p0_1)) (by kernel_rfl) (qT (qT qZ)) (by kernel_rfl) (by kernel_rfl) vt2 (fun W hW => (Z88.chg hW notNil).cell 1) ?_
    refine wH_take [37] [37, 36, 35, 32, 31, 30, 29, 27, 26, 25, 24, 23, 22, 21, 20, 15, 10, 9, 4, 19, 18, 17, 16, 14, 13, 12, 11, 8, 7, 6, 5, 3, 2, 1, 0] [(46, .pointer (some ⟨b7, 1, none⟩))] (by kernel_rfl) (qT (qT qZ)) (by kernel_rfl) ?_
    refine wH_load1 (i := 38) (d := 47) (T := 2) (ad := ⟨b7, 1, none⟩) (v := .int .i64 (p1_1)) (by kernel_rfl) (qT (qT qZ)) (by kernel_rfl) (by kernel_rfl) vt2 (fun W hW => (Z89.chg hW notNil).cell 1) ?_
    refine wH_take [40] [40, 38, 37, 36, 35, 32, 31, 30, 29, 27, 26, 25, 24, 23, 22, 21, 20, 15, 10, 9, 4, 19, 18, 17, 16, 14, 13, 12, 11, 8, 7, 6, 5, 3, 2, 1, 0] [(49, .pointer (some ⟨b14, 1, none⟩))] (by kernel_rfl) (qT (qT qZ)) (by kernel_rfl) ?_
    refine wH_load1 (i := 41) (d := 50) (T := 2) (ad := ⟨b14, 1, none⟩) (v := .int .i64 (p2_1)) (by kernel_rfl) (qT (qT qZ)) (by kernel_rfl) (by kernel_rfl) vt2 (fun W hW => (Z90.chg hW notNil).cell 1) ?_
    refine wH_take [42] [42, 41, 40, 38, 37, 36, 35, 32, 31, 30, 29, 27, 26, 25, 24, 23, 22, 21, 20, 15, 10, 9, 4, 19, 18, 17, 16, 14, 13, 12, 11, 8, 7, 6, 5, 3, 2, 1, 0] [(51, .pointer (some ⟨b22, 1, none⟩))] (by kernel_rfl) (qT (qT qZ)) (by kernel_rfl) ?_
    refine wH_load1 (i := 43) (d := 52) (T := 2) (ad := ⟨b22, 1, none⟩) (v := .int .i64 (p3_1)) (by kernel_rfl) (qT (qT qZ)) (by kernel_rfl) (by kernel_rfl) vt2 (fun W hW => (Z91.chg hW notNil).cell 1) ?_
    refine wH_all [28] (by rfl) (by kernel_rfl) (by simp) ⟨⟨by kernel_rfl, ?_⟩, trivial⟩
    obtain ⟨y117, hy118, hm⟩ := bindE hm
    refine wS_calls (d := 37) (f := 172) (vs := [.int .i64 (p0_1), .int .i64 (p1_1)]) (by kernel_rfl) ent172 (c_spec_l00Min hy118) ?_
    rintro _ w119 ⟨rfl, hc120⟩
    replace F4 := F4.chg hc120 notNil
    replace F10 := F10.chg hc120 notNil
    replace F17 := F17.chg hc120 notNil
    replace F25 := F25.chg hc120 notNil
    replace hB := hB.inS hc120 inNil
    have hSz := hS
    replace hS := hS.inS hc120 inNil
    replace hZ := Nat.le_trans hZ hc120.size
    refine ⟨.int .i64 (y117), rfl, ?_⟩
    refine wS_end (by kernel_rfl) ?_
    refine eX_KH hS ?_
    refine wH_all [33] (by rfl) (by kernel_rfl) (by simp) ⟨⟨by kernel_rfl, ?_⟩, trivial⟩
    obtain ⟨y121, hy122, hm⟩ := bindE hm
    refine wS_calls (d := 42) (f := 172) (vs := [.int .i64 (p2_1), .int .i64 (p3_1)]) (by kernel_rfl) ent172 (c_spec_l00Min hy122) ?_
    rintro _ w123 ⟨rfl, hc124⟩
    replace F4 := F4.chg hc124 notNil
    replace F10 := F10.chg hc124 notNil
    replace F17 := F17.chg hc124 notNil
    replace F25 := F25.chg hc124 notNil
    replace hB := hB.inS hc124 inNil
    have hSz := hS
    replace hS := hS.inS hc124 inNil
    replace hZ := Nat.le_trans hZ hc124.size
    refine ⟨.int .i64 (y121), rfl, ?_⟩
    refine wS_end (by kernel_rfl) ?_
    refine eX_KH hS ?_
    refine wH_all [34] (by rfl) (by kernel_rfl) (by simp) ⟨⟨by kernel_rfl, ?_⟩, trivial⟩
    obtain ⟨y125, hy126, hm⟩ := bindE hm
    refine wS_calls (d := 43) (f := 175) (vs := [.int .i64 (y117), .int .i64 (y121)]) (by kernel_rfl) ent175 (c_spec_l00Max hy126) ?_
    rintro _ w127 ⟨rfl, hc128⟩
    replace F4 := F4.chg hc128 notNil
    replace F10 := F10.chg hc128 notNil
    replace F17 := F17.chg hc128 notNil
    replace F25 := F25.chg hc128 notNil
    replace hB := hB.inS hc128 inNil
    have hSz := hS
    replace hS := hS.inS hc128 inNil
    replace hZ := Nat.le_trans hZ hc128.size
    refine ⟨.int .i64 (y125), rfl, ?_⟩
    refine wS_end (by kernel_rfl) ?_
    refine eX_KH hS ?_
    refine wH_all [39] (by rfl) (by kernel_rfl) (by simp) ⟨⟨by kernel_rfl, ?_⟩, trivial⟩
    obtain ⟨y129, hy130, hm⟩ := bindE hm
    refine wS_calls (d := 48) (f := 175) (vs := [.int .i64 (p0_1), .int .i64 (p1_1)]) (by kernel_rfl) ent175 (c_spec_l00Max hy130) ?_
    rintro _ w131 ⟨rfl, hc132⟩
    replace F4 := F4.chg hc132 notNil
    replace F10 := F10.chg hc132 notNil
    replace F17 := F17.chg hc132 notNil
    replace F25 := F25.chg hc132 notNil
    replace hB := hB.inS hc132 inNil
    have hSz := hS
    replace hS := hS.inS hc132 inNil
    replace hZ := Nat.le_trans hZ hc132.size
    refine ⟨.int .i64 (y129), rfl, ?_⟩
    refine wS_end (by kernel_rfl) ?_
    refine eX_KH hS ?_
    refine wH_done (by kernel_rfl) ?_
    refine eX_tail ?_
    obtain ⟨y133, hy134, hm⟩ := bindE hm
    refine wS_calls (d := 53) (f := 175) (vs := [.int .i64 (p2_1), .int .i64 (p3_1)]) (by kernel_rfl) ent175 (c_spec_l00Max hy134) ?_
    rintro _ w135 ⟨rfl, hc136⟩
    replace F4 := F4.chg hc136 notNil
    replace F10 := F10.chg hc136 notNil
    replace F17 := F17.chg hc136 notNil
    replace F25 := F25.chg hc136 notNil
    replace hB := hB.inS hc136 inNil
    replace hZ := Nat.le_trans hZ hc136.size
    refine ⟨.int .i64 (y133), rfl, ?_⟩
    obtain ⟨y137, hy138, hm⟩ := bindE hm
    refine wS_calls (d := 54) (f := 172) (vs := [.int .i64 (y129), .int .i64 (y133)]) (by kernel_rfl) ent172 (c_spec_l00Min hy138) ?_
    rintro _ w139 ⟨rfl, hc140⟩
    replace F4 := F4.chg hc140 notNil
    replace F10 := F10.chg hc140 notNil
    replace F17 := F17.chg hc140 notNil
    replace F25 := F25.chg hc140 notNil
    replace hB := hB.inS hc140 inNil
    replace hZ := Nat.le_trans hZ hc140.size
    refine ⟨.int .i64 (y137), rfl, ?_⟩
    refine wS_pure 3 [(8, .bool (decide (y125 ≤ y137))), (56, .bool (decide (y125 ≤ y137))), (55, .bool (decide (y125 ≤ y137)))] (by kernel_rfl) ?_
    refine wS_end (by rfl) ?_
    refine eX_then ?_
    refine cW_prune [(8, .bool (decide (y125 ≤ y137)))] (by kernel_rfl) (by kernel_rfl) (fun a141 => ?_)
    refine cW_ret ?_
    have hq : (some (decide (y125 ≤ y137)) : Option ((Bool))) = some _ := hm
    replace hq := someE hq
    subst hq
    refine eX_ret (vs := [.bool (decide (y125 ≤ y137))]) [.tmp 8] (by rfl) ⟨by (show lkE _ _ _ = _); kernel_rfl, trivial⟩ ?_
    exact ⟨rfl, hB⟩
  · have hm := condF hb116 hm
    rewrite [hb116]
    refine wH_take [24, 25, 26, 27, 28, 29, 30, 31, 32, 33, 34, 35, 36, 37, 38, 39, 40, 41, 42, 43] [43, 42, 41, 40, 39, 38, 37, 36, 35, 34, 33, 32, 31, 30, 29, 28, 27, 26, 25, 24, 23, 22, 21, 20, 15, 10, 9, 4, 19, 18, 17, 16, 14, 13, 12, 11, 8, 7, 6, 5, 3, 2, 1, 0] [(52, undef), (51, undef), (50, undef), (49, undef), (48, undef), (47, undef), (46, undef), (45, undef), (44, undef), (43, undef), (42, undef), (41, undef), (40, undef), (39, undef), (38, undef), (37, undef), (36, undef), (35, undef), (34, undef), (33, undef)] (by kernel_rfl) (qT (qT qZ)) (by kernel_rfl) ?_
    refine wH_done (by kernel_rfl) ?_
    refine eX_tail ?_
    refine wS_pure 5 [(8, .bool (false)), (56, .bool (false)), (55, undef), (54, undef), (53, undef)] (by kernel_rfl) ?_
    refine wS_end (by rfl) ?_
    refine eX_then ?_
    refine cW_prune [(8, .bool (false))] (by kernel_rfl) (by kernel_rfl) (fun a142 => ?_)
    refine cW_ret ?_
    have hq : (some false : Option ((Bool))) = some _ := hm
    replace hq := someE hq
    subst hq
    refine eX_ret (vs := [.bool (false)]) [.tmp 8] (by rfl) ⟨by (show lkE _ _ _ = _); kernel_rfl, trivial⟩ ?_
    exact ⟨rfl, hB⟩

set_option maxRecDepth 100000 in
/-- spec.l07Lists -/
theorem c_spec_l07Lists {w0 : World} {l0 : List (List (Int))} {A0 : Option Addr} {cap0 : Nat} {fp0 : List Nat} {p1 : Int} {p2 : Int} {r : (Bool)} (hm : m_spec_l07Lists l0 p1 p2 = some r) (F0 : SlR 1 encI w0 fp0 A0 l0) :
    Calls Try.prog 176 #[.slice A0 (l0).length cap0, .int .i64 (p1), .int .i64 (p2)] w0 fun e w' => e = .returned (.bool (r)) ∧ Chg [] w0 w' := by
  have L0 := F0.low
  have hB : Chg [] w0 w0 := Chg.refl _ _
  have hZ := Nat.le_refl w0.heap.size
  unfold m_spec_l07Lists at hm
  refine enterE (N := 71) Try.func176 (by rfl) Try.ntmps176 (by simp) [(0, .slice A0 (l0).length cap0), (1, .int .i64 (p1)), (2, .int .i64 (p2))] (by rfl) (by kernel_rfl) (fun a => ?_)
  refine cW_seq ?_
  refine cW_region ?_
  refine wS_pure 1 [(6, .bool (false))] (by kernel_rfl) ?_
  refine wS_end (by rfl) ?_
  refine eX_then ?_
  refine cW_seq ?_
  refine cW_seq ?_
  refine cW_region ?_
  refine wS_pure 1 [(7, .int .i64 (0))] (by kernel_rfl) ?_
  refine wS_end (by rfl) ?_
  refine eX_then ?_
  obtain ⟨r212, hr213, hm⟩ := bindE hm
  have hm214 := hm
  refine cW_cut (fun a' w' => Sum.inl (()) = r212 ∧ Fr 71 [(0, .slice A0 (l0).length cap0)] a' ∧ SlR 1 encI w' fp0 A0 l0 ∧ Chg [] w0 w' ∧ w0.heap.size ≤ w'.heap.size) ?_ ?_
  · refine cW_block ?_
    refine cW_loop _ (fun (s215 : Int) a' w' => ∃ x209 : Int, x209 = s215 ∧ Fr 71 [(0, .slice A0 (l0).length cap0), (1, .int .i64 (p1)), (2, .int .i64 (p2)), (7, .int .i64 (x209))] a' ∧ SlR 1 encI w' fp0 A0 l0 ∧ Chg [] w0 w' ∧ w0.heap.size ≤ w'.heap.size) hr213 (fun hst => ⟨0, rfl, Fr.of hst (by kernel_rfl), F0, hB, hZ⟩) ?_
    rintro _ c216 a' w208 ⟨x209, rfl, hF210, F211, hB, hZ⟩ hx217
    refine Fr.goOn hF210 (by kernel_rfl) ?_
    have hm := hx217
    unfold m_spec_l07Lists_s1 at hm
    refine cW_seq ?_
    refine cW_seq ?_
    refine cW_region ?_
    refine wS_pure 4 [(12, .bool (decide (x209 < (((l0).length : Int))))), (11, .int .i64 (((l0).length : Int))), (10, .slice A0 (l0).length cap0), (9, .int .i64 (x209))] (by kernel_rfl) ?_
    refine wS_end (by rfl) ?_
    refine eX_then ?_
    refine cW_cond (t := decide (x209 < (((l0).length : Int)))) (by kernel_rfl) (fun hb218 => ?_) (fun hb218 => ?_)
    · have hm := condT hb218 hm
      refine cW_skip ?_
      refine eX_then ?_
      refine cW_seq ?_
      refine cW_block ?_
      refine cW_seq ?_
      refine cW_region ?_
      refine wS_pure 2 [(16, .int .i64 (x209)), (15, .slice A0 (l0).length cap0)] (by kernel_rfl) ?_
      obtain ⟨x219, hx220, hm⟩ := bindE hm
      refine wS_idx (d := 17) (T := 40) (A := A0) (n := (l0).length) (cap := cap0) (kd := .i64) (m := x209) (by kernel_rfl) sl40 (F211.is hx220) ?_
      obtain ⟨A221, cap222, hc224, F223, K225⟩ := SlR.row F211 hx220
      refine wS_load1 (d := 18) (T := 25) (ad := (elA A0 1 (x209) 0)) (v := .slice A221 (x219).length cap222) (by kernel_rfl) vt25 hc224 ?_
      refine wS_pure 1 [(8, .slice A221 (x219).length cap222)] (by kernel_rfl) ?_
      refine wS_end (by rfl) ?_
      refine eX_then ?_
      refine cW_seq ?_
      refine cW_seq ?_
      refine cW_drawnTail [] 23 (by kernel_rfl) (by kernel_rfl) (fun w255 hc256 => ?_)
      replace F211 := F211.chg hc256 Dj.nil
      replace F223 := F223.chg hc256 Dj.nil
      replace hB := hB.inS hc256 inNil
      replace hZ := Nat.le_trans hZ hc256.size
      have hS := Chg.refl [] w255
      have Z257 := F211
      have Z258 := F223
      refine wH_take [0, 1, 2, 3, 4] [4, 3, 2, 1, 0] [(23, .bool ((((x219).length : Int)) != p2)), (22, .bool ((((x219).length : Int)) != p2)), (21, .int .i64 (p2)), (20, .int .i64 (((x219).length : Int))), (19, .slice A221 (x219).length cap222)] (by kernel_rfl) (qT (qT (qT (qB (qT (qL (qB (qT (qT qZ))))))))) (by kernel_rfl) ?_
      refine wH_bool ((((x219).length : Int)) != p2) (fun hb259 => ?_) (fun hb259 => ?_)
      · have hm := condT hb259 hm
        rewrite [hb259]
        refine wH_take [5, 6, 7, 8, 9, 10, 11, 12, 13, 14, 15, 16, 17, 18, 19, 20, 21, 22] [22, 21, 20, 19, 18, 17, 16, 15, 14, 13, 12, 11, 10, 9, 8, 7, 6, 5, 4, 3, 2, 1, 0] [(41, undef), (40, undef), (39, undef), (38, undef), (37, undef), (36, undef), (35, undef), (34, undef), (33, undef), (32, .bool (true)), (31, .bool (true)), (30, undef), (29, undef), (28, undef), (27, undef), (26, undef), (25, undef), (24, undef)] (by kernel_rfl) (qT (qT (qT (qB (qT (qL (qB (qT (qT qZ))))))))) (by kernel_rfl) ?_
        refine wH_done (by kernel_rfl) ?_
        refine eX_tail ?_
        refine wS_pure 14 [(55, .bool (true)), (54, undef), (53, undef), (52, undef), (51, undef), (50, undef), (49, undef), (48, undef), (47, undef), (46, undef), (45, .bool (true)), (44, .bool (true)), (43, undef), (42, undef)] (by kernel_rfl) ?_
        refine wS_end (by rfl) ?_
        refine eX_then ?_
        refine cW_prune [(0, .slice A0 (l0).length cap0), (1, .int .i64 (p1)), (2, .int .i64 (p2)), (7, .int .i64 (x209)), (8, .slice A221 (x219).length cap222), (55, .bool (true))] (by kernel_rfl) (by kernel_rfl) (fun a260 => ?_)
        refine cW_cond_t (by kernel_rfl) ?_
        refine cW_seq ?_
        refine cW_region ?_
        refine wS_pure 1 [(6, .bool (false))] (by kernel_rfl) ?_
        refine wS_end (by rfl) ?_
        refine eX_then ?_
        refine cW_ret ?_
        refine eX_then_ret ?_
        refine eX_block_ret ?_
        refine eX_then_ret ?_
        have hq : (some (Ctl.out (Sum.inr false)) : Option (Ctl (Int) (Sum (Unit) ((Bool))))) = some _ := hm
        replace hq := someE hq
        subst hq
        refine eX_outR hx217 (fun hr => ?_)
        subst hr
        refine eX_block_ret ?_
        refine eX_then_ret ?_
        refine eX_then_ret ?_
        have hq : (some false : Option ((Bool))) = some _ := hm214
        replace hq := someE hq
        subst hq
        refine eX_ret (vs := [.bool (false)]) [.tmp 6] (by rfl) ⟨by (show lkE _ _ _ = _); kernel_rfl, trivial⟩ ?_
        exact ⟨rfl, hB⟩
      · have hm := condF hb259 hm
        rewrite [hb259]
        refine wH_take [5] [5, 4, 3, 2, 1, 0] [(24, .slice A221 (x219).length cap222)] (by kernel_rfl) (qT (qT (qT (qB (qT (qL (qB (qT (qT qZ))))))))) (by kernel_rfl) ?_
        obtain ⟨x261, hx262, hm⟩ := bindE hm
        refine wH_idx (i := 6) (d := 25) (T := 25) (A := A221) (n := (x219).length) (cap := cap222) (kd := .i64) (m := 0) (by kernel_rfl) (qT (qT (qT (qB (qT (qL (qB (qT (qT qZ))))))))) (by kernel_rfl) (by kernel_rfl) sl25 (F223.is hx262) ?_
        refine wH_load1 (i := 7) (d := 26) (T := 2) (ad := (elA A221 1 (0) 0)) (v := .int .i64 (x261)) (by kernel_rfl) (qT (qT (qT (qB (qT (qL (qB (qT (qT qZ))))))))) (by kernel_rfl) (by kernel_rfl) vt2 (fun W hW => Sl.cell (Z258.chg hW Dj.nil) hx262 0 (by rfl)) ?_
        refine wH_take [8, 9] [9, 8, 7, 6, 5, 4, 3, 2, 1, 0] [(28, .int .i64 (wr (p1 - 1))), (27, .int .i64 (p1))] (by kernel_rfl) (qT (qT (qT (qB (qT (qL (qB (qT (qT qZ))))))))) (by kernel_rfl) ?_
        refine wH_all [10] (by rfl) (by kernel_rfl) (by simp) ⟨⟨by kernel_rfl, ?_⟩, trivial⟩
        obtain ⟨y263, hy264, hm⟩ := bindE hm
        refine wS_calls (d := 29) (f := 143) (vs := [.int .i64 (x261), .int .i64 (0), .int .i64 (wr (p1 - 1))]) (by kernel_rfl) ent143 (c_spec_l00In hy264) ?_
        rintro _ w265 ⟨rfl, hc266⟩
        replace F211 := F211.chg hc266 Dj.nil
        replace F223 := F223.chg hc266 Dj.nil
        replace hB := hB.inS hc266 inNil
        have hSz := hS
        replace hS := hS.inS hc266 inNil
        replace hZ := Nat.le_trans hZ hc266.size
        refine ⟨.bool (y263), rfl, ?_⟩
        refine wS_end (by kernel_rfl) ?_
        refine eX_KH hS ?_
        refine wH_take [11, 12, 13] [13, 12, 11, 10, 9, 8, 7, 6, 5, 4, 3, 2, 1, 0] [(32, .bool (!y263)), (31, .bool (!y263)), (30, .bool (!y263))] (by kernel_rfl) (qT (qT (qT (qB (qT (qL (qB (qT (qT qZ))))))))) (by kernel_rfl) ?_
        refine wH_bool (!y263) (fun hb267 => ?_) (fun hb267 => ?_)
        · have hm := condT hb267 hm
          rewrite [hb267]
          refine wH_take [14, 15, 16, 17, 18, 19, 20, 21, 22] [22, 21, 20, 19, 18, 17, 16, 15, 14, 13, 12, 11, 10, 9, 8, 7, 6, 5, 4, 3, 2, 1, 0] [(41, undef), (40, undef), (39, undef), (38, undef), (37, undef), (36, undef), (35, undef), (34, undef), (33, undef)] (by kernel_rfl) (qT (qT (qT (qB (qT (qL (qB (qT (qT qZ))))))))) (by kernel_rfl) ?_
          refine wH_done (by kernel_rfl) ?_
          refine eX_tail ?_
          refine wS_pure 14 [(55, .bool (true)), (54, undef), (53, undef), (52, undef), (51, undef), (50, undef), (49, undef), (48, undef), (47, undef), (46, undef), (45, .bool (true)), (44, .bool (true)), (43, undef), (42, undef)] (by kernel_rfl) ?_
          refine wS_end (by rfl) ?_
          refine eX_then ?_
          refine cW_prune [(0, .slice A0 (l0).length cap0), (1, .int .i64 (p1)), (2, .int .i64 (p2)), (7, .int .i64 (x209)), (8, .slice A221 (x219).length cap222), (55, .bool (true))] (by kernel_rfl) (by kernel_rfl) (fun a268 => ?_)
          refine cW_cond_t (by kernel_rfl) ?_
          refine cW_seq ?_
          refine cW_region ?_
          refine wS_pure 1 [(6, .bool (false))] (by kernel_rfl) ?_
          refine wS_end (by rfl) ?_
          refine eX_then ?_
          refine cW_ret ?_
          refine eX_then_ret ?_
          refine eX_block_ret ?_
          refine eX_then_ret ?_
          have hq : (some (Ctl.out (Sum.inr false)) : Option (Ctl (Int) (Sum (Unit) ((Bool))))) = some _ := hm
          replace hq := someE hq
          subst hq
          refine eX_outR hx217 (fun hr => ?_)
          subst hr
          refine eX_block_ret ?_
          refine eX_then_ret ?_
          refine eX_then_ret ?_
          have hq : (some false : Option ((Bool))) = some _ := hm214
          replace hq := someE hq
          subst hq
          refine eX_ret (vs := [.bool (false)]) [.tmp 6] (by rfl) ⟨by (show lkE _ _ _ = _); kernel_rfl, trivial⟩ ?_
          exact ⟨rfl, hB⟩
        · have hm := condF hb267 hm
          rewrite [hb267]
          refine wH_take [14] [14, 13, 12, 11, 10, 9, 8, 7, 6, 5, 4, 3, 2, 1, 0] [(33, .slice A221 (x219).length cap222)] (by kernel_rfl) (qT (qT (qT (qB (qT (qL (qB (qT (qT qZ))))))))) (by kernel_rfl) ?_
          obtain ⟨x269, hx270, hm⟩ := bindE hm
          refine wH_idx (i := 15) (d := 34) (T := 25) (A := A221) (n := (x219).length) (cap := cap222) (kd := .i64) (m := 1) (by kernel_rfl) (qT (qT (qT (qB (qT (qL (qB (qT (qT qZ))))))))) (by kernel_rfl) (by kernel_rfl) sl25 (F223.is hx270) ?_
          refine wH_load1 (i := 16) (d := 35) (T := 2) (ad := (elA A221 1 (1) 0)) (v := .int .i64 (x269)) (by kernel_rfl) (qT (qT (qT (qB (qT (qL (qB (qT (qT qZ))))))))) (by kernel_rfl) (by kernel_rfl) vt2 (fun W hW => Sl.cell (Z258.chg hW Dj.nil) hx270 0 (by rfl)) ?_
          refine wH_take [17] [17, 16, 15, 14, 13, 12, 11, 10, 9, 8, 7, 6, 5, 4, 3, 2, 1, 0] [(36, .slice A221 (x219).length cap222)] (by kernel_rfl) (qT (qT (qT (qB (qT (qL (qB (qT (qT qZ))))))))) (by kernel_rfl) ?_
          obtain ⟨x271, hx272, hm⟩ := bindE hm
          refine wH_idx (i := 18) (d := 37) (T := 25) (A := A221) (n := (x219).length) (cap := cap222) (kd := .i64) (m := 0) (by kernel_rfl) (qT (qT (qT (qB (qT (qL (qB (qT (qT qZ))))))))) (by kernel_rfl) (by kernel_rfl) sl25 (F223.is hx272) ?_
          refine wH_load1 (i := 19) (d := 38) (T := 2) (ad := (elA A221 1 (0) 0)) (v := .int .i64 (x271)) (by kernel_rfl) (qT (qT (qT (qB (qT (qL (qB (qT (qT qZ))))))))) (by kernel_rfl) (by kernel_rfl) vt2 (fun W hW => Sl.cell (Z258.chg hW Dj.nil) hx272 0 (by rfl)) ?_
          refine wH_take [20, 21, 22] [22, 21, 20, 19, 18, 17, 16, 15, 14, 13, 12, 11, 10, 9, 8, 7, 6, 5, 4, 3, 2, 1, 0] [(41, .int .i64 (wr (p1 - 1))), (40, .int .i64 (p1)), (39, .int .i64 (wr (x271 + 1)))] (by kernel_rfl) (qT (qT (qT (qB (qT (qL (qB (qT (qT qZ))))))))) (by kernel_rfl) ?_
          refine wH_done (by kernel_rfl) ?_
          refine eX_tail ?_
          obtain ⟨y273, hy274, hm⟩ := bindE hm
          refine wS_calls (d := 42) (f := 143) (vs := [.int .i64 (x269), .int .i64 (wr (x271 + 1)), .int .i64 (wr (p1 - 1))]) (by kernel_rfl) ent143 (c_spec_l00In hy274) ?_
          rintro _ w275 ⟨rfl, hc276⟩
          replace F211 := F211.chg hc276 Dj.nil
          replace F223 := F223.chg hc276 Dj.nil
          replace hB := hB.inS hc276 inNil
          replace hZ := Nat.le_trans hZ hc276.size
          refine ⟨.bool (y273), rfl, ?_⟩
          refine wS_pure 3 [(45, .bool (!y273)), (44, .bool (!y273)), (43, .bool (!y273))] (by kernel_rfl) ?_
          refine wS_bool (!y273) (fun hb277 => ?_) (fun hb277 => ?_)
          · have hm := condT hb277 hm
            rewrite [hb277]
            refine wS_pure 10 [(55, .bool (true)), (54, undef), (53, undef), (52, undef), (51, undef), (50, undef), (49, undef), (48, undef), (47, undef), (46, undef)] (by kernel_rfl) ?_
            refine wS_end (by rfl) ?_
            refine eX_then ?_
            refine cW_prune [(0, .slice A0 (l0).length cap0), (1, .int .i64 (p1)), (2, .int .i64 (p2)), (7, .int .i64 (x209)), (8, .slice A221 (x219).length cap222), (55, .bool (true))] (by kernel_rfl) (by kernel_rfl) (fun a278 => ?_)
            refine cW_cond_t (by kernel_rfl) ?_
            refine cW_seq ?_
            refine cW_region ?_
            refine wS_pure 1 [(6, .bool (false))] (by kernel_rfl) ?_
            refine wS_end (by rfl) ?_
            refine eX_then ?_
            refine cW_ret ?_
            refine eX_then_ret ?_
            refine eX_block_ret ?_
            refine eX_then_ret ?_
            have hq : (some (Ctl.out (Sum.inr false)) : Option (Ctl (Int) (Sum (Unit) ((Bool))))) = some _ := hm
            replace hq := someE hq
            subst hq
            refine eX_outR hx217 (fun hr => ?_)
            subst hr
            refine eX_block_ret ?_
            refine eX_then_ret ?_
            refine eX_then_ret ?_
            have hq : (some false : Option ((Bool))) = some _ := hm214
            replace hq := someE hq
            subst hq
            refine eX_ret (vs := [.bool (false)]) [.tmp 6] (by rfl) ⟨by (show lkE _ _ _ = _); kernel_rfl, trivial⟩ ?_
            exact ⟨rfl, hB⟩
          · have hm := condF hb277 hm
            rewrite [hb277]
            refine wS_pure 3 [(48, .bool (p2 == 3)), (47, .bool (p2 == 3)), (46, .int .i64 (p2))] (by kernel_rfl) ?_
            refine wS_bool (p2 == 3) (fun hb279 => ?_) (fun hb279 => ?_)
            · have hm := condT hb279 hm
              rewrite [hb279]
              refine wS_pure 1 [(49, .slice A221 (x219).length cap222)] (by kernel_rfl) ?_
              obtain ⟨x280, hx281, hm⟩ := bindE hm
              refine wS_idx (d := 50) (T := 25) (A := A221) (n := (x219).length) (cap := cap222) (kd := .i64) (m := 2) (by kernel_rfl) sl25 (F223.is hx281) ?_
              refine wS_load1 (d := 51) (T := 2) (ad := (elA A221 1 (2) 0)) (v := .int .i64 (x280)) (by kernel_rfl) vt2 (Sl.cell F223 hx281 0 (by rfl)) ?_
              obtain ⟨y282, hy283, hm⟩ := bindE hm
              refine wS_calls (d := 52) (f := 143) (vs := [.int .i64 (x280), .int .i64 (0), .int .i64 (1000)]) (by kernel_rfl) ent143 (c_spec_l00In hy283) ?_
              rintro _ w284 ⟨rfl, hc285⟩
              replace F211 := F211.chg hc285 Dj.nil
              replace F223 := F223.chg hc285 Dj.nil
              replace hB := hB.inS hc285 inNil
              replace hZ := Nat.le_trans hZ hc285.size
              refine ⟨.bool (y282), rfl, ?_⟩
              refine wS_pure 3 [(55, .bool (!y282)), (54, .bool (!y282)), (53, .bool (!y282))] (by kernel_rfl) ?_
              refine wS_end (by rfl) ?_
              refine eX_then ?_
              refine cW_prune [(0, .slice A0 (l0).length cap0), (1, .int .i64 (p1)), (2, .int .i64 (p2)), (7, .int .i64 (x209)), (8, .slice A221 (x219).length cap222), (55, .bool (!y282))] (by kernel_rfl) (by kernel_rfl) (fun a286 => ?_)
              refine cW_cond (t := !y282) (by kernel_rfl) (fun hb287 => ?_) (fun hb287 => ?_)
              · have hm := condT hb287 hm
                refine cW_seq ?_
                refine cW_region ?_
                refine wS_pure 1 [(6, .bool (false))] (by kernel_rfl) ?_
                refine wS_end (by rfl) ?_
                refine eX_then ?_
                refine cW_ret ?_
                refine eX_then_ret ?_
                refine eX_block_ret ?_
                refine eX_then_ret ?_
                have hq : (some (Ctl.out (Sum.inr false)) : Option (Ctl (Int) (Sum (Unit) ((Bool))))) = some _ := hm
                replace hq := someE hq
                subst hq
                refine eX_outR hx217 (fun hr => ?_)
                subst hr
                refine eX_block_ret ?_
                refine eX_then_ret ?_
                refine eX_then_ret ?_
                have hq : (some false : Option ((Bool))) = some _ := hm214
                replace hq := someE hq
                subst hq
                refine eX_ret (vs := [.bool (false)]) [.tmp 6] (by rfl) ⟨by (show lkE _ _ _ = _); kernel_rfl, trivial⟩ ?_
                exact ⟨rfl, hB⟩
              · have hm := condF hb287 hm
                refine cW_skip ?_
                refine eX_then ?_
                refine cW_seq ?_
                refine cW_region ?_
                refine wS_pure 3 [(58, .bool (decide (x209 > 0))), (57, .bool (decide (x209 > 0))), (56, .int .i64 (x209))] (by kernel_rfl) ?_
                refine wS_bool (decide (x209 > 0)) (fun hb288 => ?_) (fun hb288 => ?_)
                · have hm := condT hb288 hm
                  rewrite [hb288]
                  refine wS_pure 3 [(61, .int .i64 (wr (x209 - 1))), (60, .int .i64 (x209)), (59, .slice A0 (l0).length cap0)] (by kernel_rfl) ?_
                  obtain ⟨x289, hx290, hm⟩ := bindE hm
                  refine wS_idx (d := 62) (T := 40) (A := A0) (n := (l0).length) (cap := cap0) (kd := .i64) (m := wr (x209 - 1)) (by kernel_rfl) sl40 (F211.is hx290) ?_
                  obtain ⟨A291, cap292, hc294, F293, K295⟩ := SlR.row F211 hx290
                  refine wS_load1 (d := 63) (T := 25) (ad := (elA A0 1 (wr (x209 - 1)) 0)) (v := .slice A291 (x289).length cap292) (by kernel_rfl) vt25 hc294 ?_
                  refine wS_pure 1 [(64, .slice A221 (x219).length cap222)] (by kernel_rfl) ?_
                  obtain ⟨y297, hy298, hm⟩ := bindE hm
                  refine wS_calls (d := 65) (f := 154) (vs := [.slice A291 (x289).length cap292, .slice A221 (x219).length cap222]) (by kernel_rfl) ent154 (c_spec_l03Less hy298 F293 F223) ?_
                  rintro _ w299 ⟨rfl, hc300⟩
                  replace F211 := F211.chg hc300 Dj.nil
                  replace F223 := F223.chg hc300 Dj.nil
                  replace F293 := F293.chg hc300 Dj.nil
                  replace hB := hB.inS hc300 inNil
                  replace hZ := Nat.le_trans hZ hc300.size
                  refine ⟨.bool (y297), rfl, ?_⟩
                  refine wS_pure 2 [(67, .bool (!y297)), (66, .bool (!y297))] (by kernel_rfl) ?_
                  refine wS_end (by rfl) ?_
                  refine eX_then ?_
                  refine cW_cond (t := !y297) (by kernel_rfl) (fun hb301 => ?_) (fun hb301 => ?_)
                  · have hm := condT hb301 hm
                    refine cW_seq ?_
                    refine cW_region ?_
                    refine wS_pure 1 [(6, .bool (false))] (by kernel_rfl) ?_
                    refine wS_end (by rfl) ?_
                    refine eX_then ?_
                    refine cW_ret ?_
                    refine eX_block_ret ?_
                    refine eX_then_ret ?_
                    have hq : (some (Ctl.out (Sum.inr false)) : Option (Ctl (Int) (Sum (Unit) ((Bool))))) = some _ := hm
                    replace hq := someE hq
                    subst hq
                    refine eX_outR hx217 (fun hr => ?_)
                    subst hr
                    refine eX_block_ret ?_
                    refine eX_then_ret ?_
                    refine eX_then_ret ?_
                    have hq : (some false : Option ((Bool))) = some _ := hm214
                    replace hq := someE hq
                    subst hq
                    refine eX_ret (vs := [.bool (false)]) [.tmp 6] (by rfl) ⟨by (show lkE _ _ _ = _); kernel_rfl, trivial⟩ ?_
                    exact ⟨rfl, hB⟩
                  · have hm := condF hb301 hm
                    refine cW_skip ?_
                    refine eX_block ?_
                    refine eX_then ?_
                    refine cW_region ?_
                    refine wS_pure 3 [(7, .int .i64 (wr (x209 + 1))), (14, .int .i64 (wr (x209 + 1))), (13, .int .i64 (x209))] (by kernel_rfl) ?_
                    refine wS_end (by rfl) ?_
                    have hq : (some (Ctl.next (wr (x209 + 1))) : Option (Ctl (Int) (Sum (Unit) ((Bool))))) = some _ := hm
                    replace hq := someE hq
                    subst hq
                    exact eX_next hx217 (fun hst => ⟨wr (x209 + 1), rfl, Fr.of hst (by kernel_rfl), F211, hB, hZ⟩)
                · have hm := condF hb288 hm
                  rewrite [hb288]
                  refine wS_pure 9 [(67, .bool (false)), (66, undef), (65, undef), (64, undef), (63, undef), (62, undef), (61, undef), (60, undef), (59, undef)] (by kernel_rfl) ?_
                  refine wS_end (by rfl) ?_
                  refine eX_then ?_
                  refine cW_cond_f (by kernel_rfl) ?_
                  refine cW_skip ?_
                  refine eX_block ?_
                  refine eX_then ?_
                  refine cW_region ?_
                  refine wS_pure 3 [(7, .int .i64 (wr (x209 + 1))), (14, .int .i64 (wr (x209 + 1))), (13, .int .i64 (x209))] (by kernel_rfl) ?_
                  refine wS_end (by rfl) ?_
                  have hq : (some (Ctl.next (wr (x209 + 1))) : Option (Ctl (Int) (Sum (Unit) ((Bool))))) = some _ := hm
                  replace hq := someE hq
                  subst hq
                  exact eX_next hx217 (fun hst => ⟨wr (x209 + 1), rfl, Fr.of hst (by kernel_rfl), F211, hB, hZ⟩)
            · have hm := condF hb279 hm
              rewrite [hb279]
              refine wS_pure 7 [(55, .bool (false)), (54, .bool (false)), (53, undef), (52, undef), (51, undef), (50, undef), (49, undef)] (by kernel_rfl) ?_
              refine wS_end (by rfl) ?_
              refine eX_then ?_
              refine cW_prune [(0, .slice A0 (l0).length cap0), (1, .int .i64 (p1)), (2, .int .i64 (p2)), (7, .int .i64 (x209)), (8, .slice A221 (x219).length cap222), (55, .bool (false))] (by kernel_rfl) (by kernel_rfl) (fun a302 => ?_)
              refine cW_cond_f (by kernel_rfl) ?_
              refine cW_skip ?_
              refine eX_then ?_
              refine cW_seq ?_
              refine cW_region ?_
              refine wS_pure 3 [(58, .bool (decide (x209 > 0))), (57, .bool (decide (x209 > 0))), (56, .int .i64 (x209))] (by kernel_rfl) ?_
              refine wS_bool (decide (x209 > 0)) (fun hb303 => ?_) (fun hb303 => ?_)
              · have hm := condT hb303 hm
                rewrite [hb303]
                refine wS_pure 3 [(61, .int .i64 (wr (x209 - 1))), (60, .int .i64 (x209)), (59, .slice A0 (l0).length cap0)] (by kernel_rfl) ?_
                obtain ⟨x304, hx305, hm⟩ := bindE hm
                refine wS_idx (d := 62) (T := 40) (A := A0) (n := (l0).length) (cap := cap0) (kd := .i64) (m := wr (x209 - 1)) (by kernel_rfl) sl40 (F211.is hx305) ?_
                obtain ⟨A306, cap307, hc309, F308, K310⟩ := SlR.row F211 hx305
                refine wS_load1 (d := 63) (T := 25) (ad := (elA A0 1 (wr (x209 - 1)) 0)) (v := .slice A306 (x304).length cap307) (by kernel_rfl) vt25 hc309 ?_
                refine wS_pure 1 [(64, .slice A221 (x219).length cap222)] (by kernel_rfl) ?_
                obtain ⟨y312, hy313, hm⟩ := bindE hm
                refine wS_calls (d := 65) (f := 154) (vs := [.slice A306 (x304).length cap307, .slice A221 (x219).length cap222]) (by kernel_rfl) ent154 (c_spec_l03Less hy313 F308 F223) ?_
                rintro _ w314 ⟨rfl, hc315⟩
                replace F211 := F211.chg hc315 Dj.nil
                replace F223 := F223.chg hc315 Dj.nil
                replace F308 := F308.chg hc315 Dj.nil
                replace hB := hB.inS hc315 inNil
                replace hZ := Nat.le_trans hZ hc315.size
                refine ⟨.bool (y312), rfl, ?_⟩
                refine wS_pure 2 [(67, .bool (!y312)), (66, .bool (!y312))] (by kernel_rfl) ?_
                refine wS_end (by rfl) ?_
                refine eX_then ?_
                refine cW_cond (t := !y312) (by kernel_rfl) (fun hb316 => ?_) (fun hb316 => ?_)
                · have hm := condT hb316 hm
                  refine cW_seq ?_
                  refine cW_region ?_
                  refine wS_pure 1 [(6, .bool (false))] (by kernel_rfl) ?_
                  refine wS_end (by rfl) ?_
                  refine eX_then ?_
                  refine cW_ret ?_
                  refine eX_block_ret ?_
                  refine eX_then_ret ?_
                  have hq : (some (Ctl.out (Sum.inr false)) : Option (Ctl (Int) (Sum (Unit) ((Bool))))) = some _ := hm
                  replace hq := someE hq
                  subst hq
                  refine eX_outR hx217 (fun hr => ?_)
                  subst hr
                  refine eX_block_ret ?_
                  refine eX_then_ret ?_
                  refine eX_then_ret ?_
                  have hq : (some false : Option ((Bool))) = some _ := hm214
                  replace hq := someE hq
                  subst hq
                  refine eX_ret (vs := [.bool (false)]) [.tmp 6] (by rfl) ⟨by (show lkE _ _ _ = _); kernel_rfl, trivial⟩ ?_
                  exact ⟨rfl, hB⟩
                · have hm := condF hb316 hm
                  refine cW_skip ?_
                  refine eX_block ?_
                  refine eX_then ?_
                  refine cW_region ?_
                  refine wS_pure 3 [(7, .int .i64 (wr (x209 + 1))), (14, .int .i64 (wr (x209 + 1))), (13, .int .i64 (x209))] (by kernel_rfl) ?_
                  refine wS_end (by rfl) ?_
                  have hq : (some (Ctl.next (wr (x209 + 1))) : Option (Ctl (Int) (Sum (Unit) ((Bool))))) = some _ := hm
                  replace hq := someE hq
                  subst hq
                  exact eX_next hx217 (fun hst => ⟨wr (x209 + 1), rfl, Fr.of hst (by kernel_rfl), F211, hB, hZ⟩)
              · have hm := condF hb303 hm
                rewrite [hb303]
                refine wS_pure 9 [(67, .bool (false)), (66, undef), (65, undef), (64, undef), (63, undef), (62, undef), (61, undef), (60, undef), (59, undef)] (by kernel_rfl) ?_
                refine wS_end (by rfl) ?_
                refine eX_then ?_
                refine cW_cond_f (by kernel_rfl) ?_
                refine cW_skip ?_
                refine eX_block ?_
                refine eX_then ?_
                refine cW_region ?_
                refine wS_pure 3 [(7, .int .i64 (wr (x209 + 1))), (14, .int .i64 (wr (x209 + 1))), (13, .int .i64 (x209))] (by kernel_rfl) ?_
                refine wS_end (by rfl) ?_
                have hq : (some (Ctl.next (wr (x209 + 1))) : Option (Ctl (Int) (Sum (Unit) ((Bool))))) = some _ := hm
                replace hq := someE hq
                subst hq
                exact eX_next hx217 (fun hst => ⟨wr (x209 + 1), rfl, Fr.of hst (by kernel_rfl), F211, hB, hZ⟩)
    · have hm := condF hb218 hm
      refine cW_exit ?_
      refine eX_then_exit ?_
      have hq : (some (Ctl.out (Sum.inl (()))) : Option (Ctl (Int) (Sum (Unit) ((Bool))))) = some _ := hm
      replace hq := someE hq
      subst hq
      refine eX_outX hx217 (fun hr317 => ?_)
      replace hr317 := hr317.symm
      subst hr317
      refine eX_block_hit ?_
      exact eX_J (fun hst => ⟨rfl, Fr.of hst (by kernel_rfl), F211, hB, hZ⟩)
  · rintro a' w205 ⟨hJ, hF206, F207, hB, hZ⟩
    subst hJ
    refine Fr.goX hF206 (by kernel_rfl) ?_
    refine eX_then ?_
    refine cW_seq ?_
    refine cW_region ?_
    refine wS_pure 4 [(6, .bool (decide ((((l0).length : Int)) ≤ 30))), (70, .bool (decide ((((l0).length : Int)) ≤ 30))), (69, .int .i64 (((l0).length : Int))), (68, .slice A0 (l0).length cap0)] (by kernel_rfl) ?_
    refine wS_end (by rfl) ?_
    refine eX_then ?_
    refine cW_ret ?_
    have hq : (some (decide ((((l0).length : Int)) ≤ 30)) : Option ((Bool))) = some _ := hm
    replace hq := someE hq
    subst hq
    refine eX_ret (vs := [.bool (decide ((((l0).length : Int)) ≤ 30))]) [.tmp 6] (by rfl) ⟨by (show lkE _ _ _ = _); kernel_rfl, trivial⟩ ?_
    exact ⟨rfl, hB⟩

set_option maxRecDepth 100000 in
/-- spec.l07Is -/
theorem c_spec_l07Is_bimplWiring {w0 : World} {q0_0 : Int} {l0_1 : List (List (Int))} {A0_1 : Option Addr} {cap0_1 : Nat} {fp0_1 : List Nat} {l0_2 : List (List (Int))} {A0_2 : Option Addr} {cap0_2 : Nat} {fp0_2 : List Nat} {l0_3 : List (Int)} {A0_3 : Option Addr} {cap0_3 : Nat} {fp0_3 : List Nat} {b0 : Nat} {r : (Bool)} (hm : m_spec_l07Is_bimplWiring q0_0 l0_1 l0_2 l0_3 = some r) (F0_1 : SlR 1 encI w0 fp0_1 A0_1 l0_1) (F0_2 : SlR 1 encI w0 fp0_2 A0_2 l0_2) (F0_3 : Sl 1 encI w0 fp0_3 A0_3 l0_3) (F0 : Cl w0 b0 83 [.int .i64 (q0_0), .slice A0_1 (l0_1).length cap0_1, .slice A0_2 (l0_2).length cap0_2, .slice A0_3 (l0_3).length cap0_3]) :
    Calls Try.prog 122 #[.pointer (some ⟨b0, 0, none⟩)] w0 fun e w' => e = .returned (.bool (r)) ∧ Chg [] w0 w' := by
  have L0_1 := F0_1.low
  have L0_2 := F0_2.low
  have L0_3 := F0_3.low
  have L0 := lt1 F0.lt
  have hB : Chg [] w0 w0 := Chg.refl _ _
  have hZ := Nat.le_refl w0.heap.size
  unfold m_spec_l07Is_bimplWiring at hm
  refine enterE (N := 60) Try.func122 (by rfl) Try.ntmps122 (by simp) [(0, .pointer (some ⟨b0, 0, none⟩))] (by rfl) (by kernel_rfl) (fun a => ?_)
  refine cW_seq ?_
  refine cW_region ?_
  refine wS_pure 1 [(2, .bool (false))] (by kernel_rfl) ?_
  refine wS_end (by rfl) ?_
  refine eX_then ?_
  refine cW_seq ?_
  refine cW_seq ?_
  refine cW_drawnTail [] 16 (by kernel_rfl) (by kernel_rfl) (fun w16 hc17 => ?_)
  replace F0_1 := F0_1.chg hc17 Dj.nil
  replace F0_2 := F0_2.chg hc17 Dj.nil
  replace F0_3 := F0_3.chg hc17 Dj.nil
  replace F0 := F0.chg hc17 notNil
  replace hB := hB.inS hc17 inNil
  replace hZ := Nat.le_trans hZ hc17.size
  have hS := Chg.refl [] w16
  have Z18 := F0_1
  have Z19 := F0_2
  have Z20 := F0_3
  have Z21 := F0
  refine wH_take [0, 1, 2] [2, 1, 0] [(6, .pointer (some ⟨b0, 0, none⟩)), (5, .pointer (some ⟨b0, 0, none⟩)), (4, .pointer (some ⟨b0, 0, none⟩))] (by kernel_rfl) (qT (qT (qT qZ))) (by kernel_rfl) ?_
  refine wH_load1 (i := 3) (d := 7) (T := 2) (ad := ⟨b0, 0, none⟩) (v := .int .i64 (q0_0)) (by kernel_rfl) (qT (qT (qT qZ))) (by kernel_rfl) (by kernel_rfl) vt2 (fun W hW => (Z21.chg hW notNil).cell 0) ?_
  refine wH_all [4] (by rfl) (by kernel_rfl) (by simp) ⟨⟨by kernel_rfl, ?_⟩, trivial⟩
  obtain ⟨y22, hy23, hm⟩ := bindE hm
  refine wS_calls (d := 8) (f := 143) (vs := [.int .i64 (q0_0), .int .i64 (0), .int .i64 (14)]) (by kernel_rfl) ent143 (c_spec_l00In hy23) ?_
  rintro _ w24 ⟨rfl, hc25⟩
  replace F0_1 := F0_1.chg hc25 Dj.nil
  replace F0_2 := F0_2.chg hc25 Dj.nil
  replace F0_3 := F0_3.chg hc25 Dj.nil
  replace F0 := F0.chg hc25 notNil
  replace hB := hB.inS hc25 inNil
  have hSz := hS
  replace hS := hS.inS hc25 inNil
  replace hZ := Nat.le_trans hZ hc25.size
  refine ⟨.bool (y22), rfl, ?_⟩
  refine wS_end (by kernel_rfl) ?_
  refine eX_KH hS ?_
  refine wH_take [5, 6] [6, 5, 4, 3, 2, 1, 0] [(10, .bool (!y22)), (9, .bool (!y22))] (by kernel_rfl) (qT (qT (qT qZ))) (by kernel_rfl) ?_
  refine wH_bool (!y22) (fun hb26 => ?_) (fun hb26 => ?_)
  · have hm := condT hb26 hm
    rewrite [hb26]
    refine wH_take [7, 8, 9, 10, 11, 12, 13, 14, 15] [15, 14, 13, 12, 11, 10, 9, 8, 7, 6, 5, 4, 3, 2, 1, 0] [(19, undef), (18, undef), (17, undef), (16, undef), (15, undef), (14, undef), (13, undef), (12, undef), (11, undef)] (by kernel_rfl) (qT (qT (qT qZ))) (by kernel_rfl) ?_
    refine wH_done (by kernel_rfl) ?_
    refine eX_tail ?_
    refine wS_pure 2 [(21, .bool (true)), (20, undef)] (by kernel_rfl) ?_
    refine wS_end (by rfl) ?_
    refine eX_then ?_
    refine cW_cond_t (by kernel_rfl) ?_
    refine cW_seq ?_
    refine cW_region ?_
    refine wS_pure 1 [(2, .bool (false))] (by kernel_rfl) ?_
    refine wS_end (by rfl) ?_
    refine eX_then ?_
    refine cW_ret ?_
    refine eX_then_ret ?_
    have hq : (some false : Option ((Bool))) = some _ := hm
    replace hq := someE hq
    subst hq
    refine eX_ret (vs := [.bool (false)]) [.tmp 2] (by rfl) ⟨by (show lkE _ _ _ = _); kernel_rfl, trivial⟩ ?_
    exact ⟨rfl, hB⟩
  · have hm := condF hb26 hm
    rewrite [hb26]
    refine wH_take [7, 8, 9] [9, 8, 7, 6, 5, 4, 3, 2, 1, 0] [(13, .pointer (some ⟨b0, 3, none⟩)), (12, .pointer (some ⟨b0, 0, none⟩)), (11, .pointer (some ⟨b0, 0, none⟩))] (by kernel_rfl) (qT (qT (qT qZ))) (by kernel_rfl) ?_
    refine wH_load1 (i := 10) (d := 14) (T := 25) (ad := ⟨b0, 3, none⟩) (v := .slice A0_3 (l0_3).length cap0_3) (by kernel_rfl) (qT (qT (qT qZ))) (by kernel_rfl) (by kernel_rfl) vt25 (fun W hW => (Z21.chg hW notNil).cell 3) ?_
    refine wH_take [11, 12, 13, 14] [14, 13, 12, 11, 10, 9, 8, 7, 6, 5, 4, 3, 2, 1, 0] [(18, .pointer (some ⟨b0, 0, none⟩)), (17, .pointer (some ⟨b0, 0, none⟩)), (16, .pointer (some ⟨b0, 0, none⟩)), (15, .int .i64 (((l0_3).length : Int)))] (by kernel_rfl) (qT (qT (qT qZ))) (by kernel_rfl) ?_
    refine wH_load1 (i := 15) (d := 19) (T := 2) (ad := ⟨b0, 0, none⟩) (v := .int .i64 (q0_0)) (by kernel_rfl) (qT (qT (qT qZ))) (by kernel_rfl) (by kernel_rfl) vt2 (fun W hW => (Z21.chg hW notNil).cell 0) ?_
    refine wH_done (by kernel_rfl) ?_
    refine eX_tail ?_
    refine wS_pure 2 [(21, .bool ((((l0_3).length : Int)) != q0_0)), (20, .bool ((((l0_3).length : Int)) != q0_0))] (by kernel_rfl) ?_
    refine wS_end (by rfl) ?_
    refine eX_then ?_
    refine cW_cond (t := (((l0_3).length : Int)) != q0_0) (by kernel_rfl) (fun hb27 => ?_) (fun hb27 => ?_)
    · have hm := condT hb27 hm
      refine cW_seq ?_
      refine cW_region ?_
      refine wS_pure 1 [(2, .bool (false))] (by kernel_rfl) ?_
      refine wS_end (by rfl) ?_
      refine eX_then ?_
      refine cW_ret ?_
      refine eX_then_ret ?_
      have hq : (some false : Option ((Bool))) = some _ := hm
      replace hq := someE hq
      subst hq
      refine eX_ret (vs := [.bool (false)]) [.tmp 2] (by rfl) ⟨by (show lkE _ _ _ = _); kernel_rfl, trivial⟩ ?_
      exact ⟨rfl, hB⟩
    · have hm := condF hb27 hm
      refine cW_skip ?_
      refine eX_then ?_
      refine cW_seq ?_
      refine cW_seq ?_
      refine cW_region ?_
      refine wS_pure 1 [(3, .int .i64 (0))] (by kernel_rfl) ?_
      refine wS_end (by rfl) ?_
      refine eX_then ?_
      obtain ⟨r68, hr69, hm⟩ := bindE hm
      have hm70 := hm
      refine cW_cut (fun a' w' => Sum.inl (()) = r68 ∧ Fr 60 [(0, .pointer (some ⟨b0, 0, none⟩))] a' ∧ SlR 1 encI w' fp0_1 A0_1 l0_1 ∧ SlR 1 encI w' fp0_2 A0_2 l0_2 ∧ Sl 1 encI w' fp0_3 A0_3 l0_3 ∧ Cl w' b0 83 [.int .i64 (q0_0), .slice A0_1 (l0_1).length cap0_1, .slice A0_2 (l0_2).length cap0_2, .slice A0_3 (l0_3).length cap0_3] ∧ Chg [] w0 w' ∧ w0.heap.size ≤ w'.heap.size) ?_ ?_
      · refine cW_block ?_
        refine cW_loop _ (fun (s71 : Int) a' w' => ∃ x62 : Int, x62 = s71 ∧ Fr 60 [(0, .pointer (some ⟨b0, 0, none⟩)), (3, .int .i64 (x62))] a' ∧ SlR 1 encI w' fp0_1 A0_1 l0_1 ∧ SlR 1 encI w' fp0_2 A0_2 l0_2 ∧ Sl 1 encI w' fp0_3 A0_3 l0_3 ∧ Cl w' b0 83 [.int .i64 (q0_0), .slice A0_1 (l0_1).length cap0_1, .slice A0_2 (l0_2).length cap0_2, .slice A0_3 (l0_3).length cap0_3] ∧ Chg [] w0 w' ∧ w0.heap.size ≤ w'.heap.size) hr69 (fun hst => ⟨0, rfl, Fr.of hst (by kernel_rfl), F0_1, F0_2, F0_3, F0, hB, hZ⟩) ?_
        rintro _ c72 a' w61 ⟨x62, rfl, hF63, F64, F65, F66, F67, hB, hZ⟩ hx73
        refine Fr.goOn hF63 (by kernel_rfl) ?_
        have hm := hx73
        unfold m_spec_l07Is_bimplWiring_s1 at hm
        refine cW_seq ?_
        refine cW_seq ?_
        refine cW_region ?_
        refine wS_pure 4 [(25, .pointer (some ⟨b0, 3, none⟩)), (24, .pointer (some ⟨b0, 0, none⟩)), (23, .pointer (some ⟨b0, 0, none⟩)), (22, .int .i64 (x62))] (by kernel_rfl) ?_
        refine wS_load1 (d := 26) (T := 25) (ad := ⟨b0, 3, none⟩) (v := .slice A0_3 (l0_3).length cap0_3) (by kernel_rfl) vt25 ((F67).cell 3) ?_
        refine wS_pure 2 [(28, .bool (decide (x62 < (((l0_3).length : Int))))), (27, .int .i64 (((l0_3).length : Int)))] (by kernel_rfl) ?_
        refine wS_end (by rfl) ?_
        refine eX_then ?_
        refine cW_cond (t := decide (x62 < (((l0_3).length : Int)))) (by kernel_rfl) (fun hb74 => ?_) (fun hb74 => ?_)
        · have hm := condT hb74 hm
          refine cW_skip ?_
          refine eX_then ?_
          refine cW_seq ?_
          refine cW_block ?_
          refine cW_seq ?_
          refine cW_region ?_
          refine wS_pure 3 [(33, .pointer (some ⟨b0, 3, none⟩)), (32, .pointer (some ⟨b0, 0, none⟩)), (31, .pointer (some ⟨b0, 0, none⟩))] (by kernel_rfl) ?_
          refine wS_load1 (d := 34) (T := 25) (ad := ⟨b0, 3, none⟩) (v := .slice A0_3 (l0_3).length cap0_3) (by kernel_rfl) vt25 ((F67).cell 3) ?_
          refine wS_pure 1 [(35, .int .i64 (x62))] (by kernel_rfl) ?_
          obtain ⟨x75, hx76, hm⟩ := bindE hm
          refine wS_idx (d := 36) (T := 25) (A := A0_3) (n := (l0_3).length) (cap := cap0_3) (kd := .i64) (m := x62) (by kernel_rfl) sl25 (F66.is hx76) ?_
          refine wS_load1 (d := 37) (T := 2) (ad := (elA A0_3 1 (x62) 0)) (v := .int .i64 (x75)) (by kernel_rfl) vt2 (Sl.cell F66 hx76 0 (by rfl)) ?_
          obtain ⟨y77, hy78, hm⟩ := bindE hm
          refine wS_calls (d := 38) (f := 143) (vs := [.int .i64 (x75), .int .i64 ((-1)), .int .i64 (1)]) (by kernel_rfl) ent143 (c_spec_l00In hy78) ?_
          rintro _ w79 ⟨rfl, hc80⟩
          replace F64 := F64.chg hc80 Dj.nil
          replace F65 := F65.chg hc80 Dj.nil
          replace F66 := F66.chg hc80 Dj.nil
          replace F67 := F67.chg hc80 notNil
          replace hB := hB.inS hc80 inNil
          replace hZ := Nat.le_trans hZ hc80.size
          refine ⟨.bool (y77), rfl, ?_⟩
          refine wS_pure 1 [(39, .bool (!y77))] (by kernel_rfl) ?_
          refine wS_end (by rfl) ?_
          refine eX_then ?_
          refine cW_cond (t := !y77) (by kernel_rfl) (fun hb81 => ?_) (fun hb81 => ?_)
          · have hm := condT hb81 hm
            refine cW_seq ?_
            refine cW_region ?_
            refine wS_pure 1 [(2, .bool (false))] (by kernel_rfl) ?_
            refine wS_end (by rfl) ?_
            refine eX_then ?_
            refine cW_ret ?_
            refine eX_block_ret ?_
            refine eX_then_ret ?_
            have hq : (some (Ctl.out (Sum.inr false)) : Option (Ctl (Int) (Sum (Unit) ((Bool))))) = some _ := hm
            replace hq := someE hq
            subst hq
            refine eX_outR hx73 (fun hr => ?_)
            subst hr
            refine eX_block_ret ?_
            refine eX_then_ret ?_
            refine eX_then_ret ?_
            have hq : (some false : Option ((Bool))) = some _ := hm70
            replace hq := someE hq
            subst hq
            refine eX_ret (vs := [.bool (false)]) [.tmp 2] (by rfl) ⟨by (show lkE _ _ _ = _); kernel_rfl, trivial⟩ ?_
            exact ⟨rfl, hB⟩
          · have hm := condF hb81 hm
            refine cW_skip ?_
            refine eX_block ?_
            refine eX_then ?_
            refine cW_region ?_
            refine wS_pure 3 [(3, .int .i64 (wr (x62 + 1))), (30, .int .i64 (wr (x62 + 1))), (29, .int .i64 (x62))] (by kernel_rfl) ?_
            refine wS_end (by rfl) ?_
            have hq : (some (Ctl.next (wr (x62 + 1))) : Option (Ctl (Int) (Sum (Unit) ((Bool))))) = some _ := hm
            replace hq := someE hq
            subst hq
            exact eX_next hx73 (fun hst => ⟨wr (x62 + 1), rfl, Fr.of hst (by kernel_rfl), F64, F65, F66, F67, hB, hZ⟩)
        · have hm := condF hb74 hm
          refine cW_exit ?_
          refine eX_then_exit ?_
          have hq : (some (Ctl.out (Sum.inl (()))) : Option (Ctl (Int) (Sum (Unit) ((Bool))))) = some _ := hm
          replace hq := someE hq
          subst hq
          refine eX_outX hx73 (fun hr82 => ?_)
          replace hr82 := hr82.symm
          subst hr82
          refine eX_block_hit ?_
          exact eX_J (fun hst => ⟨rfl, Fr.of hst (by kernel_rfl), F64, F65, F66, F67, hB, hZ⟩)
      · rintro a' w55 ⟨hJ, hF56, F57, F58, F59, F60, hB, hZ⟩
        subst hJ
        refine Fr.goX hF56 (by kernel_rfl) ?_
        refine eX_then ?_
        refine cW_seq ?_
        refine cW_drawnTail [] 18 (by kernel_rfl) (by kernel_rfl) (fun w98 hc99 => ?_)
        replace F57 := F57.chg hc99 Dj.nil
        replace F58 := F58.chg hc99 Dj.nil
        replace F59 := F59.chg hc99 Dj.nil
        replace F60 := F60.chg hc99 notNil
        replace hB := hB.inS hc99 inNil
        replace hZ := Nat.le_trans hZ hc99.size
        have hS := Chg.refl [] w98
        have Z100 := F57
        have Z101 := F58
        have Z102 := F59
        have Z103 := F60
        refine wH_take [0, 1, 2] [2, 1, 0] [(42, .pointer (some ⟨b0, 1, none⟩)), (41, .pointer (some ⟨b0, 0, none⟩)), (40, .pointer (some ⟨b0, 0, none⟩))] (by kernel_rfl) (qT (qT qZ)) (by kernel_rfl) ?_
        refine wH_load1 (i := 3) (d := 43) (T := 40) (ad := ⟨b0, 1, none⟩) (v := .slice A0_1 (l0_1).length cap0_1) (by kernel_rfl) (qT (qT qZ)) (by kernel_rfl) (by kernel_rfl) vt40 (fun W hW => (Z103.chg hW notNil).cell 1) ?_
        refine wH_take [4, 5, 6] [6, 5, 4, 3, 2, 1, 0] [(46, .pointer (some ⟨b0, 0, none⟩)), (45, .pointer (some ⟨b0, 0, none⟩)), (44, .pointer (some ⟨b0, 0, none⟩))] (by kernel_rfl) (qT (qT qZ)) (by kernel_rfl) ?_
        refine wH_load1 (i := 7) (d := 47) (T := 2) (ad := ⟨b0, 0, none⟩) (v := .int .i64 (q0_0)) (by kernel_rfl) (qT (qT qZ)) (by kernel_rfl) (by kernel_rfl) vt2 (fun W hW => (Z103.chg hW notNil).cell 0) ?_
        refine wH_all [8] (by rfl) (by kernel_rfl) (by simp) ⟨⟨by kernel_rfl, ?_⟩, trivial⟩
        obtain ⟨y104, hy105, hm⟩ := bindE hm
        refine wS_calls (d := 48) (f := 176) (vs := [.slice A0_1 (l0_1).length cap0_1, .int .i64 (q0_0), .int .i64 (2)]) (by kernel_rfl) ent176 (c_spec_l07Lists hy105 F57) ?_
        rintro _ w106 ⟨rfl, hc107⟩
        replace F57 := F57.chg hc107 Dj.nil
        replace F58 := F58.chg hc107 Dj.nil
        replace F59 := F59.chg hc107 Dj.nil
        replace F60 := F60.chg hc107 notNil
        replace hB := hB.inS hc107 inNil
        have hSz := hS
        replace hS := hS.inS hc107 inNil
        replace hZ := Nat.le_trans hZ hc107.size
        refine ⟨.bool (y104), rfl, ?_⟩
        refine wS_end (by kernel_rfl) ?_
        refine eX_KH hS ?_
        refine wH_take [9] [9, 8, 7, 6, 5, 4, 3, 2, 1, 0] [(49, .bool (y104))] (by kernel_rfl) (qT (qT qZ)) (by kernel_rfl) ?_
        refine wH_bool y104 (fun hb108 => ?_) (fun hb108 => ?_)
        · have hm := condT hb108 hm
          rewrite [hb108]
          refine wH_take [10, 11, 12] [12, 11, 10, 9, 8, 7, 6, 5, 4, 3, 2, 1, 0] [(52, .pointer (some ⟨b0, 2, none⟩)), (51, .pointer (some ⟨b0, 0, none⟩)), (50, .pointer (some ⟨b0, 0, none⟩))] (by kernel_rfl) (qT (qT qZ)) (by kernel_rfl) ?_
          refine wH_load1 (i := 13) (d := 53) (T := 40) (ad := ⟨b0, 2, none⟩) (v := .slice A0_2 (l0_2).length cap0_2) (by kernel_rfl) (qT (qT qZ)) (by kernel_rfl) (by kernel_rfl) vt40 (fun W hW => (Z103.chg hW notNil).cell 2) ?_
          refine wH_take [14, 15, 16] [16, 15, 14, 13, 12, 11, 10, 9, 8, 7, 6, 5, 4, 3, 2, 1, 0] [(56, .pointer (some ⟨b0, 0, none⟩)), (55, .pointer (some ⟨b0, 0, none⟩)), (54, .pointer (some ⟨b0, 0, none⟩))] (by kernel_rfl) (qT (qT qZ)) (by kernel_rfl) ?_
          refine wH_load1 (i := 17) (d := 57) (T := 2) (ad := ⟨b0, 0, none⟩) (v := .int .i64 (q0_0)) (by kernel_rfl) (qT (qT qZ)) (by kernel_rfl) (by kernel_rfl) vt2 (fun W hW => (Z103.chg hW notNil).cell 0) ?_
          refine wH_done (by kernel_rfl) ?_
          refine eX_tail ?_
          obtain ⟨y109, hy110, hm⟩ := bindE hm
          refine wS_calls (d := 58) (f := 176) (vs := [.slice A0_2 (l0_2).length cap0_2, .int .i64 (q0_0), .int .i64 (3)]) (by kernel_rfl) ent176 (c_spec_l07Lists hy110 F58) ?_
          rintro _ w111 ⟨rfl, hc112⟩
          replace F57 := F57.chg hc112 Dj.nil
          replace F58 := F58.chg hc112 Dj.nil
          replace F59 := F59.chg hc112 Dj.nil
          replace F60 := F60.chg hc112 notNil
          replace hB := hB.inS hc112 inNil
          replace hZ := Nat.le_trans hZ hc112.size
          refine ⟨.bool (y109), rfl, ?_⟩
          refine wS_pure 2 [(2, .bool (y109)), (59, .bool (y109))] (by kernel_rfl) ?_
          refine wS_end (by rfl) ?_
          refine eX_then ?_
          refine cW_ret ?_
          have hq : (some y109 : Option ((Bool))) = some _ := hm
          replace hq := someE hq
          subst hq
          refine eX_ret (vs := [.bool (y109)]) [.tmp 2] (by rfl) ⟨by (show lkE _ _ _ = _); kernel_rfl, trivial⟩ ?_
          exact ⟨rfl, hB⟩
        · have hm := condF hb108 hm
          rewrite [hb108]
          refine wH_take [10, 11, 12, 13, 14, 15, 16, 17] [17, 16, 15, 14, 13, 12, 11, 10, 9, 8, 7, 6, 5, 4, 3, 2, 1, 0] [(57, undef), (56, undef), (55, undef), (54, undef), (53, undef), (52, undef), (51, undef), (50, undef)] (by kernel_rfl) (qT (qT qZ)) (by kernel_rfl) ?_
          refine wH_done (by kernel_rfl) ?_
          refine eX_tail ?_
          refine wS_pure 3 [(2, .bool (false)), (59, .bool (false)), (58, undef)] (by kernel_rfl) ?_
          refine wS_end (by rfl) ?_
          refine eX_then ?_
          refine cW_ret ?_
          have hq : (some false : Option ((Bool))) = some _ := hm
          replace hq := someE hq
          subst hq
          refine eX_ret (vs := [.bool (false)]) [.tmp 2] (by rfl) ⟨by (show lkE _ _ _ = _); kernel_rfl, trivial⟩ ?_
          exact ⟨rfl, hB⟩

end Go.Proofs.Ytgaecldkiijmpaa
