/- Printed walks: laws.r8Long, spec.l00From, (*spec.l00Src).next, (*spec.l00Src).pick, (*spec.l00Src).one, spec.R8Maze, spec.l00In, spec.l04Open, spec.R8Open, impl.in, impl.ValidMaze$1, slices.IndexFunc[[]int64,int64], slices.ContainsFunc[[]int64,int64], impl.ValidMaze, (*impl.Maze).has, (*impl.Maze).price, (*impl.Maze).open, impl.IsOpen, impl.size, impl.far, impl.blockOk, impl.next, slices.Clone[[]impl.Point,impl.Point], slices.Compact[[]impl.Point,impl.Point], impl.sorted, impl.pointsOf, (*impl.flow).beside. -/
import Derived.Test.YtcknpoeannbpbaaProg
import Derived.Test.YtcknpoeannbpbaaMod
import Derived.Test.YtcknpoeannbpbaaEqs
import Derived.Test.YtcknpoeannbpbaaSrtC
import Derived.Test.YtcknpoeannbpbaaGte
set_option linter.unusedSimpArgs false
set_option linter.unusedVariables false
namespace Go.Proofs.Ytcknpoeannbpbaa
open Go.RowKit
attribute [local irreducible] wS cW eX wH

theorem ent12 : Ent Try.prog 12 := fun _ => by kernel_rfl
theorem ent24 : Ent Try.prog 24 := fun _ => by kernel_rfl
theorem ent25 : Ent Try.prog 25 := fun _ => by kernel_rfl
theorem ent26 : Ent Try.prog 26 := fun _ => by kernel_rfl
theorem ent27 : Ent Try.prog 27 := fun _ => by kernel_rfl
theorem ent31 : Ent Try.prog 31 := fun _ => by kernel_rfl
theorem ent32 : Ent Try.prog 32 := fun _ => by kernel_rfl
theorem ent33 : Ent Try.prog 33 := fun _ => by kernel_rfl
theorem ent45 : Ent Try.prog 45 := fun _ => by kernel_rfl
theorem ent46 : Ent Try.prog 46 := fun _ => by kernel_rfl
theorem ent50 : Ent Try.prog 50 := fun _ => by kernel_rfl
theorem ent51 : Ent Try.prog 51 := fun _ => by kernel_rfl
theorem ent52 : Ent Try.prog 52 := fun _ => by kernel_rfl
theorem ent53 : Ent Try.prog 53 := fun _ => by kernel_rfl
theorem ent54 : Ent Try.prog 54 := fun _ => by kernel_rfl
theorem ent55 : Ent Try.prog 55 := fun _ => by kernel_rfl
theorem ent56 : Ent Try.prog 56 := fun _ => by kernel_rfl
theorem ent68 : Ent Try.prog 68 := fun _ => by kernel_rfl
theorem ent69 : Ent Try.prog 69 := fun _ => by kernel_rfl
theorem ent73 : Ent Try.prog 73 := fun _ => by kernel_rfl
theorem ent74 : Ent Try.prog 74 := fun _ => by kernel_rfl
theorem ent76 : Ent Try.prog 76 := fun _ => by kernel_rfl
theorem vt4 : VarTy Try.prog 4 1 false := ⟨by kernel_rfl, by kernel_rfl⟩
theorem vt5 : VarTy Try.prog 5 1 false := ⟨by kernel_rfl, by kernel_rfl⟩
theorem vt22 : VarTy Try.prog 22 1 false := ⟨by kernel_rfl, by kernel_rfl⟩
theorem vt24 : VarTy Try.prog 24 1 false := ⟨by kernel_rfl, by kernel_rfl⟩
theorem vt26 : VarTy Try.prog 26 1 true := ⟨by kernel_rfl, by kernel_rfl⟩
theorem vt29 : VarTy Try.prog 29 2 true := ⟨by kernel_rfl, by kernel_rfl⟩
theorem vt38 : VarTy Try.prog 38 1 false := ⟨by kernel_rfl, by kernel_rfl⟩
theorem vt56 : VarTy Try.prog 56 1 false := ⟨by kernel_rfl, by kernel_rfl⟩
theorem vt79 : VarTy Try.prog 79 1 false := ⟨by kernel_rfl, by kernel_rfl⟩
theorem sl22 : SlTy Try.prog 22 5 1 := ⟨Try.underlying22, by kernel_rfl⟩
theorem sl24 : SlTy Try.prog 24 38 1 := ⟨Try.underlying24, by kernel_rfl⟩
theorem sl31 : SlTy Try.prog 31 29 2 := ⟨Try.underlying31, by kernel_rfl⟩
theorem sl38 : SlTy Try.prog 38 2 1 := ⟨Try.underlying38, by kernel_rfl⟩
theorem el24 : ElTy Try.prog 24 38 1 (.slice none 0 0) := ElTy.mk' Try.underlying24 (by kernel_rfl) (by rfl)
theorem el31 : ElTy Try.prog 31 29 2 (.agg #[.int .i64 (0), .int .i64 (0)]) := ElTy.mk' Try.underlying31 (by kernel_rfl) (by rfl)
theorem el38 : ElTy Try.prog 38 2 1 (.int .i64 (0)) := ElTy.mk' Try.underlying38 (by kernel_rfl) (by rfl)
theorem el107 : ElTy Try.prog 107 92 3 (.agg #[.int .i64 (0), .int .i64 (0), .bool (false)]) := ElTy.mk' Try.underlying107 (by kernel_rfl) (by rfl)
theorem mk90 : MK Try.prog 29 ekII okII := by
  refine mkDeep (m := 4) (n := 159) laidOut (by omega) (of_decide_eq_true (by kernel_rfl)) (by kernel_rfl) (by kernel_rfl) (by kernel_rfl) (by kernel_rfl) (fun k hk => ?_) injII
  obtain ⟨h0, h1⟩ := okII_t hk
  exact ⟨by kernel_rfl, _, (kl_struct2 (cs := [.int .i64 k.1, .int .i64 k.2]) (c0 := [.int .i64 k.1]) (c1 := [.int .i64 k.2]) Try.underlying29 (by kernel_rfl) (by kernel_rfl) (by kernel_rfl) (by kernel_rfl) (kl_int Try.underlying2 h0) (kl_int Try.underlying2 h1))⟩
theorem mp90 : MpTy Try.prog 90 29 4 (vB false) := ⟨Try.underlying90, by kernel_rfl⟩
theorem eq29 : ∃ f0 f1, EqTy Try.prog 29 f0 f1 := ⟨_, _, Try.underlying29, by kernel_rfl, by kernel_rfl, by kernel_rfl, fun w => pureRun_run (by kernel_rfl) w, fun w => pureRun_run (by kernel_rfl) w, rfl, rfl, Try.underlying2, Try.underlying2, by kernel_rfl⟩
theorem sz2 : pureRun Try.prog (sizeOf 2) = some 1 := by kernel_rfl
theorem sz3 : pureRun Try.prog (sizeOf 3) = some 1 := by kernel_rfl
theorem sz24 : pureRun Try.prog (sizeOf 24) = some 1 := by kernel_rfl
theorem sz26 : pureRun Try.prog (sizeOf 26) = some 1 := by kernel_rfl
theorem sz29 : pureRun Try.prog (sizeOf 29) = some 2 := by kernel_rfl
theorem sz79 : pureRun Try.prog (sizeOf 79) = some 1 := by kernel_rfl

set_option maxRecDepth 100000 in
/-- laws.r8Long -/
theorem c_laws_r8Long {w0 : World} {l0 : List (Int)} {A0 : Option Addr} {cap0 : Nat} {fp0 : List Nat} {l1 : List (Int)} {A1 : Option Addr} {cap1 : Nat} {fp1 : List Nat} {r : (Bool)} (hm : m_laws_r8Long l0 l1 = some r) (F0 : Sl 1 encU w0 fp0 A0 l0) (F1 : Sl 1 encU w0 fp1 A1 l1) :
  Calls Try.prog 6 #[.slice A0 (l0).length cap0, .slice A1 (l1).length cap1] w0 fun e w' => e = .returned (.bool (r)) ∧ Chg [] w0 w' := by
 have L0 := F0.low
 have L1 := F1.low
 have hB : Chg [] w0 w0 := Chg.refl _ _
 have hZ := Nat.le_refl w0.heap.size
 unfold m_laws_r8Long at hm
 refine enterE (N := 13) Try.func6 (by rfl) Try.ntmps6 (by simp) [(0, .slice A0 (l0).length cap0), (1, .slice A1 (l1).length cap1)] (by rfl) (by kernel_rfl) (fun a => ?_)
 refine cW_seq ?_
 refine cW_region ?_
 refine wS_pure 1 [(4, .bool (false))] (by kernel_rfl) ?_
 refine wS_end (by rfl) ?_
 refine eX_then ?_
 refine cW_seq ?_
 refine cW_region ?_
 refine wS_pure 4 [(8, .bool (decide ((((l0).length : Int)) > 48))), (7, .bool (decide ((((l0).length : Int)) > 48))), (6, .int .i64 (((l0).length : Int))), (5, .slice A0 (l0).length cap0)] (by kernel_rfl) ?_
 refine wS_bool (decide ((((l0).length : Int)) > 48)) (fun hb1 => ?_) (fun hb1 => ?_)
 ·have hm := condT hb1 hm
  rewrite [hb1]
  refine wS_pure 5 [(4, .bool (true)), (12, .bool (true)), (11, undef), (10, undef), (9, undef)] (by kernel_rfl) ?_
  refine wS_end (by rfl) ?_
  refine eX_then ?_
  refine cW_ret ?_
  have hq : (some true : Option ((Bool))) = some _ := hm
  replace hq := someE hq
  subst hq
  refine eX_ret (vs := [.bool (true)]) [.tmp 4] (by rfl) ⟨by (show lkE _ _ _ = _); kernel_rfl, trivial⟩ ?_
  exact ⟨rfl, hB⟩
 ·have hm := condF hb1 hm
  rewrite [hb1]
  refine wS_pure 5 [(4, .bool (decide ((((l1).length : Int)) > 48))), (12, .bool (decide ((((l1).length : Int)) > 48))), (11, .bool (decide ((((l1).length : Int)) > 48))), (10, .int .i64 (((l1).length : Int))), (9, .slice A1 (l1).length cap1)] (by kernel_rfl) ?_
  refine wS_end (by rfl) ?_
  refine eX_then ?_
  refine cW_ret ?_
  have hq : (some (decide ((((l1).length : Int)) > 48)) : Option ((Bool))) = some _ := hm
  replace hq := someE hq
  subst hq
  refine eX_ret (vs := [.bool (decide ((((l1).length : Int)) > 48))]) [.tmp 4] (by rfl) ⟨by (show lkE _ _ _ = _); kernel_rfl, trivial⟩ ?_
  exact ⟨rfl, hB⟩

set_option maxRecDepth 100000 in
/-- spec.l00From -/
theorem c_spec_l00From {w0 : World} {l0 : List (Int)} {A0 : Option Addr} {cap0 : Nat} {fp0 : List Nat} {r : (Int × Int)} (hm : m_spec_l00From l0 = some r) (F0 : Sl 1 encU w0 fp0 A0 l0) :
  Calls Try.prog 24 #[.slice A0 (l0).length cap0] w0 fun e w' => ∃ b100, e = .returned (.pointer (some ⟨b100, 0, none⟩)) ∧ Cl w' b100 81 [.slice A0 (l0).length cap0, .int .i64 (r.1), .int .u64 (r.2)] ∧ w0.heap.size ≤ b100 ∧ Chg [] w0 w' := by
 have L0 := F0.low
 have hB : Chg [] w0 w0 := Chg.refl _ _
 have hZ := Nat.le_refl w0.heap.size
 unfold m_spec_l00From at hm
 refine enterE (N := 6) Try.func24 (by rfl) Try.ntmps24 (by simp) [(0, .slice A0 (l0).length cap0)] (by rfl) (by kernel_rfl) (fun a => ?_)
 refine cW_seq ?_
 refine cW_region ?_
 refine wS_pure 1 [(2, .pointer none)] (by kernel_rfl) ?_
 refine wS_end (by rfl) ?_
 refine eX_then ?_
 refine cW_seq ?_
 refine cW_region ?_
 refine wS_pure 2 [(4, .agg #[.slice A0 (l0).length cap0, .int .i64 (0), .int .u64 (0)]), (3, .slice A0 (l0).length cap0)] (by kernel_rfl) ?_
 refine wS_box (d := 5) (T := 81) (x := .agg #[.slice A0 (l0).length cap0, .int .i64 (0), .int .u64 (0)]) (by kernel_rfl) ?_
 intro b1 w1 G1 F1 hc1
 replace F1 : Cl w1 b1 81 [.slice A0 (l0).length cap0, .int .i64 (0), .int .u64 (0)] := F1
 replace F0 := F0.chg hc1 Dj.nil
 replace hB := hB.inS hc1 inNil
 replace G1 := Nat.le_trans hZ G1
 replace hZ := Nat.le_trans hZ hc1.size
 refine wS_pure 1 [(2, .pointer (some ⟨b1, 0, none⟩))] (by kernel_rfl) ?_
 refine wS_end (by rfl) ?_
 refine eX_then ?_
 refine cW_ret ?_
 have hq : (some ((0, 0)) : Option ((Int × Int))) = some _ := hm
 replace hq := someE hq
 subst hq
 refine eX_ret (vs := [.pointer (some ⟨b1, 0, none⟩)]) [.tmp 2] (by rfl) ⟨by (show lkE _ _ _ = _); kernel_rfl, trivial⟩ ?_
 exact ⟨b1, rfl, F1, G1, hB⟩

set_option maxRecDepth 100000 in
/-- spec.l00Src).next -/
theorem c_spec_l00Src_next_bspecl00Src {w0 : World} {l0_0 : List (Int)} {A0_0 : Option Addr} {cap0_0 : Nat} {fp0_0 : List Nat} {q0_1 : Int} {q0_2 : Int} {b0 : Nat} {r : (Int) × (Int) × (Int)} (hm : m_spec_l00Src_next_bspecl00Src l0_0 q0_1 q0_2 = some r) (F0_0 : Sl 1 encU w0 fp0_0 A0_0 l0_0) (F0 : Cl w0 b0 81 [.slice A0_0 (l0_0).length cap0_0, .int .i64 (q0_1), .int .u64 (q0_2)]) (J0__0_0 : Dj [b0] fp0_0) :
  Calls Try.prog 45 #[.pointer (some ⟨b0, 0, none⟩)] w0 fun e w' => e = .returned (.int .i64 (r.1)) ∧ Cl w' b0 81 [.slice A0_0 (l0_0).length cap0_0, .int .i64 (r.2.1), .int .u64 (r.2.2)] ∧ Chg ([b0] ++ []) w0 w' := by
 have L0_0 := F0_0.low
 have L0 := lt1 F0.lt
 have hB : Chg ([b0] ++ []) w0 w0 := Chg.refl _ _
 have hZ := Nat.le_refl w0.heap.size
 unfold m_spec_l00Src_next_bspecl00Src at hm
 refine enterE (N := 62) Try.func45 (by rfl) Try.ntmps45 (by simp) [(0, .pointer (some ⟨b0, 0, none⟩))] (by rfl) (by kernel_rfl) (fun a => ?_)
 refine cW_seq ?_
 refine cW_region ?_
 refine wS_pure 1 [(2, .int .i64 (0))] (by kernel_rfl) ?_
 refine wS_end (by rfl) ?_
 refine eX_then ?_
 refine cW_seq ?_
 refine cW_region ?_
 refine wS_pure 1 [(3, .int .i64 (0))] (by kernel_rfl) ?_
 refine wS_end (by rfl) ?_
 refine eX_then ?_
 refine cW_seq ?_
 obtain ⟨s1, hs1, hm⟩ := bindE hm
 refine cW_cut (fun a' w' => ∃ x1 : Int, x1 = s1 ∧ Fr 62 [(0, .pointer (some ⟨b0, 0, none⟩)), (3, .int .i64 (x1))] a' ∧ Sl 1 encU w' fp0_0 A0_0 l0_0 ∧ Cl w' b0 81 [.slice A0_0 (l0_0).length cap0_0, .int .i64 (q0_1), .int .u64 (q0_2)] ∧ Chg ([b0] ++ []) w0 w' ∧ w0.heap.size ≤ w'.heap.size) ?_ ?_
 ·have hm := hs1
  refine cW_seq ?_
  refine cW_drawnTail [] 9 (by kernel_rfl) (by kernel_rfl) (fun w1 hc1 => ?_)
  replace F0_0 := F0_0.chg hc1 Dj.nil
  replace F0 := F0.chg hc1 notNil
  replace hB := hB.inS hc1 inNil
  replace hZ := Nat.le_trans hZ hc1.size
  have hS := Chg.refl [] w1
  have Z1 := F0_0
  have Z2 := F0
  refine wH_take [0, 1, 2] [2, 1, 0] [(6, .pointer (some ⟨b0, 1, none⟩)), (5, .pointer (some ⟨b0, 0, none⟩)), (4, .pointer (some ⟨b0, 0, none⟩))] (by kernel_rfl) (qT (qT (qT (qT qZ)))) (by kernel_rfl) ?_
  refine wH_load1 (i := 3) (d := 7) (T := 3) (ad := ⟨b0, 1, none⟩) (v := .int .i64 (q0_1)) (by kernel_rfl) (qT (qT (qT (qT qZ)))) (by kernel_rfl) (by kernel_rfl) vt3 (fun W hW => (Z2.chg hW notNil).cell 1) ?_
  refine wH_take [4, 5, 6] [6, 5, 4, 3, 2, 1, 0] [(10, .pointer (some ⟨b0, 0, none⟩)), (9, .pointer (some ⟨b0, 0, none⟩)), (8, .pointer (some ⟨b0, 0, none⟩))] (by kernel_rfl) (qT (qT (qT (qT qZ)))) (by kernel_rfl) ?_
  refine wH_load1 (i := 7) (d := 11) (T := 22) (ad := ⟨b0, 0, none⟩) (v := .slice A0_0 (l0_0).length cap0_0) (by kernel_rfl) (qT (qT (qT (qT qZ)))) (by kernel_rfl) (by kernel_rfl) vt22 (fun W hW => (Z2.chg hW notNil).cell 0) ?_
  refine wH_take [8] [8, 7, 6, 5, 4, 3, 2, 1, 0] [(12, .int .i64 (((l0_0).length : Int)))] (by kernel_rfl) (qT (qT (qT (qT qZ)))) (by kernel_rfl) ?_
  refine wH_done (by kernel_rfl) ?_
  refine eX_tail ?_
  refine wS_pure 1 [(13, .bool (decide (q0_1 < (((l0_0).length : Int)))))] (by kernel_rfl) ?_
  refine wS_end (by rfl) ?_
  refine eX_then ?_
  refine cW_cond (t := decide (q0_1 < (((l0_0).length : Int)))) (by kernel_rfl) (fun hb1 => ?_) (fun hb1 => ?_)
  ·have hm := condT hb1 hm
   refine cW_drawnTail [] 8 (by kernel_rfl) (by kernel_rfl) (fun w2 hc2 => ?_)
   replace F0_0 := F0_0.chg hc2 Dj.nil
   replace F0 := F0.chg hc2 notNil
   replace hB := hB.inS hc2 inNil
   replace hZ := Nat.le_trans hZ hc2.size
   have hS := Chg.refl [] w2
   have Z3 := F0_0
   have Z4 := F0
   refine wH_take [0, 1, 2] [2, 1, 0] [(16, .pointer (some ⟨b0, 0, none⟩)), (15, .pointer (some ⟨b0, 0, none⟩)), (14, .pointer (some ⟨b0, 0, none⟩))] (by kernel_rfl) (qT (qT (qT qZ))) (by kernel_rfl) ?_
   refine wH_load1 (i := 3) (d := 17) (T := 22) (ad := ⟨b0, 0, none⟩) (v := .slice A0_0 (l0_0).length cap0_0) (by kernel_rfl) (qT (qT (qT qZ))) (by kernel_rfl) (by kernel_rfl) vt22 (fun W hW => (Z4.chg hW notNil).cell 0) ?_
   refine wH_take [4, 5, 6] [6, 5, 4, 3, 2, 1, 0] [(20, .pointer (some ⟨b0, 1, none⟩)), (19, .pointer (some ⟨b0, 0, none⟩)), (18, .pointer (some ⟨b0, 0, none⟩))] (by kernel_rfl) (qT (qT (qT qZ))) (by kernel_rfl) ?_
   refine wH_load1 (i := 7) (d := 21) (T := 3) (ad := ⟨b0, 1, none⟩) (v := .int .i64 (q0_1)) (by kernel_rfl) (qT (qT (qT qZ))) (by kernel_rfl) (by kernel_rfl) vt3 (fun W hW => (Z4.chg hW notNil).cell 1) ?_
   refine wH_done (by kernel_rfl) ?_
   refine eX_tail ?_
   obtain ⟨x2, hx1, hm⟩ := bindE hm
   refine wS_idx (d := 22) (T := 22) (A := A0_0) (n := (l0_0).length) (cap := cap0_0) (kd := .i64) (m := q0_1) (by kernel_rfl) sl22 (F0_0.is hx1) ?_
   refine wS_load1 (d := 23) (T := 5) (ad := (elA A0_0 1 (q0_1) 0)) (v := .int .u8 (x2)) (by kernel_rfl) vt5 (Sl.cell F0_0 hx1 0 (by rfl)) ?_
   refine wS_pure 2 [(3, .int .i64 (wr x2)), (24, .int .i64 (wr x2))] (by kernel_rfl) ?_
   refine wS_end (by rfl) ?_
   have hq : (some (wr x2) : Option (Int)) = some _ := hm
   replace hq := someE hq
   subst hq
   exact eX_J (fun hst => ⟨wr x2, rfl, Fr.of hst (by kernel_rfl), F0_0, F0, hB, hZ⟩)
  ·have hm := condF hb1 hm
   refine cW_skip ?_
   have hq : (some 0 : Option (Int)) = some _ := hm
   replace hq := someE hq
   subst hq
   exact eX_J (fun hst => ⟨0, rfl, Fr.of hst (by kernel_rfl), F0_0, F0, hB, hZ⟩)
 ·rintro a' w3 ⟨x1, hJ, hF1, F1, F2, hB, hZ⟩
  subst hJ
  refine Fr.goX hF1 (by kernel_rfl) ?_
  refine eX_then ?_
  refine cW_seq ?_
  refine cW_region ?_
  refine wS_pure 3 [(27, .pointer (some ⟨b0, 1, none⟩)), (26, .pointer (some ⟨b0, 0, none⟩)), (25, .pointer (some ⟨b0, 0, none⟩))] (by kernel_rfl) ?_
  refine wS_load1 (d := 28) (T := 3) (ad := ⟨b0, 1, none⟩) (v := .int .i64 (q0_1)) (by kernel_rfl) vt3 ((F2).cell 1) ?_
  refine wS_pure 3 [(31, .pointer (some ⟨b0, 1, none⟩)), (30, .pointer (some ⟨b0, 0, none⟩)), (29, .int .i64 (wr (q0_1 + 1)))] (by kernel_rfl) ?_
  refine wS_store (T := 3) (g := b0) (o := 1) (ad := ⟨b0, 1, none⟩) (v := .int .i64 (wr (q0_1 + 1))) (vs := [.int .i64 (wr (q0_1 + 1))]) (by kernel_rfl) (by rfl) sz3 (by rfl) (by rfl) F2 (by simp only [List.length_cons, List.length_nil]; omega) ?_
  intro w4 F3 hc3
  replace F1 := F1.chg hc3 (J0__0_0).symm
  replace hB := hB.inS hc3 (inMem (fun x hx => (List.mem_append_left _ hx)))
  replace hZ := Nat.le_trans hZ hc3.size
  replace F3 : Cl w4 b0 81 [.slice A0_0 (l0_0).length cap0_0, .int .i64 (wr (q0_1 + 1)), .int .u64 (q0_2)] := F3
  clear F2
  refine wS_end (by rfl) ?_
  refine eX_then ?_
  refine cW_seq ?_
  refine cW_region ?_
  refine wS_pure 4 [(35, .pointer (some ⟨b0, 2, none⟩)), (34, .pointer (some ⟨b0, 0, none⟩)), (33, .pointer (some ⟨b0, 0, none⟩)), (32, .pointer (some ⟨b0, 0, none⟩))] (by kernel_rfl) ?_
  refine wS_load1 (d := 36) (T := 79) (ad := ⟨b0, 2, none⟩) (v := .int .u64 (q0_2)) (by kernel_rfl) vt79 ((F3).cell 2) ?_
  refine wS_pure 7 [(43, .pointer (some ⟨b0, 2, none⟩)), (42, .pointer (some ⟨b0, 0, none⟩)), (41, .int .u64 (wu ((wu ((wu (q0_2 * 6364136223846793005)) + (wu x1))) + 1442695040888963407))), (40, .int .u64 (wu ((wu (q0_2 * 6364136223846793005)) + (wu x1)))), (39, .int .u64 (wu x1)), (38, .int .i64 (x1)), (37, .int .u64 (wu (q0_2 * 6364136223846793005)))] (by kernel_rfl) ?_
  refine wS_store (T := 79) (g := b0) (o := 2) (ad := ⟨b0, 2, none⟩) (v := .int .u64 (wu ((wu ((wu (q0_2 * 6364136223846793005)) + (wu x1))) + 1442695040888963407))) (vs := [.int .u64 (wu ((wu ((wu (q0_2 * 6364136223846793005)) + (wu x1))) + 1442695040888963407))]) (by kernel_rfl) (by rfl) sz79 (by rfl) (by rfl) F3 (by simp only [List.length_cons, List.length_nil]; omega) ?_
  intro w5 F4 hc4
  replace F1 := F1.chg hc4 (J0__0_0).symm
  replace hB := hB.inS hc4 (inMem (fun x hx => (List.mem_append_left _ hx)))
  replace hZ := Nat.le_trans hZ hc4.size
  replace F4 : Cl w5 b0 81 [.slice A0_0 (l0_0).length cap0_0, .int .i64 (wr (q0_1 + 1)), .int .u64 (wu ((wu ((wu (q0_2 * 6364136223846793005)) + (wu x1))) + 1442695040888963407))] := F4
  clear F3
  refine wS_end (by rfl) ?_
  refine eX_then ?_
  refine cW_seq ?_
  refine cW_seq ?_
  refine cW_drawnTail [] 9 (by kernel_rfl) (by kernel_rfl) (fun w6 hc5 => ?_)
  replace F1 := F1.chg hc5 Dj.nil
  replace F4 := F4.chg hc5 notNil
  replace hB := hB.inS hc5 inNil
  replace hZ := Nat.le_trans hZ hc5.size
  have hS := Chg.refl [] w6
  have Z5 := F1
  have Z6 := F4
  refine wH_take [0, 1, 2] [2, 1, 0] [(46, .pointer (some ⟨b0, 1, none⟩)), (45, .pointer (some ⟨b0, 0, none⟩)), (44, .pointer (some ⟨b0, 0, none⟩))] (by kernel_rfl) (qT (qT (qT qZ))) (by kernel_rfl) ?_
  refine wH_load1 (i := 3) (d := 47) (T := 3) (ad := ⟨b0, 1, none⟩) (v := .int .i64 (wr (q0_1 + 1))) (by kernel_rfl) (qT (qT (qT qZ))) (by kernel_rfl) (by kernel_rfl) vt3 (fun W hW => (Z6.chg hW notNil).cell 1) ?_
  refine wH_take [4, 5, 6] [6, 5, 4, 3, 2, 1, 0] [(50, .pointer (some ⟨b0, 0, none⟩)), (49, .pointer (some ⟨b0, 0, none⟩)), (48, .pointer (some ⟨b0, 0, none⟩))] (by kernel_rfl) (qT (qT (qT qZ))) (by kernel_rfl) ?_
  refine wH_load1 (i := 7) (d := 51) (T := 22) (ad := ⟨b0, 0, none⟩) (v := .slice A0_0 (l0_0).length cap0_0) (by kernel_rfl) (qT (qT (qT qZ))) (by kernel_rfl) (by kernel_rfl) vt22 (fun W hW => (Z6.chg hW notNil).cell 0) ?_
  refine wH_take [8] [8, 7, 6, 5, 4, 3, 2, 1, 0] [(52, .int .i64 (((l0_0).length : Int)))] (by kernel_rfl) (qT (qT (qT qZ))) (by kernel_rfl) ?_
  refine wH_done (by kernel_rfl) ?_
  refine eX_tail ?_
  refine wS_pure 1 [(53, .bool (decide ((wr (q0_1 + 1)) ≤ (((l0_0).length : Int)))))] (by kernel_rfl) ?_
  refine wS_end (by rfl) ?_
  refine eX_then ?_
  refine cW_prune [(0, .pointer (some ⟨b0, 0, none⟩)), (3, .int .i64 (x1)), (53, .bool (decide ((wr (q0_1 + 1)) ≤ (((l0_0).length : Int)))))] (by kernel_rfl) (by kernel_rfl) (fun a1 => ?_)
  refine cW_cond (t := decide ((wr (q0_1 + 1)) ≤ (((l0_0).length : Int)))) (by kernel_rfl) (fun hb2 => ?_) (fun hb2 => ?_)
  ·have hm := condT hb2 hm
   refine cW_seq ?_
   refine cW_region ?_
   refine wS_pure 2 [(2, .int .i64 (x1)), (54, .int .i64 (x1))] (by kernel_rfl) ?_
   refine wS_end (by rfl) ?_
   refine eX_then ?_
   refine cW_ret ?_
   refine eX_then_ret ?_
   have hq : (some ((x1, wr (q0_1 + 1), wu ((wu ((wu (q0_2 * 6364136223846793005)) + (wu x1))) + 1442695040888963407))) : Option ((Int) × (Int) × (Int))) = some _ := hm
   replace hq := someE hq
   subst hq
   refine eX_ret (vs := [.int .i64 (x1)]) [.tmp 2] (by rfl) ⟨by (show lkE _ _ _ = _); kernel_rfl, trivial⟩ ?_
   exact ⟨rfl, F4, hB⟩
  ·have hm := condF hb2 hm
   refine cW_skip ?_
   refine eX_then ?_
   refine cW_seq ?_
   refine cW_region ?_
   refine wS_pure 3 [(57, .pointer (some ⟨b0, 2, none⟩)), (56, .pointer (some ⟨b0, 0, none⟩)), (55, .pointer (some ⟨b0, 0, none⟩))] (by kernel_rfl) ?_
   refine wS_load1 (d := 58) (T := 79) (ad := ⟨b0, 2, none⟩) (v := .int .u64 (wu ((wu ((wu (q0_2 * 6364136223846793005)) + (wu x1))) + 1442695040888963407))) (by kernel_rfl) vt79 ((F4).cell 2) ?_
   refine wS_pure 4 [(2, .int .i64 (wr (andU (shrU (wu ((wu ((wu (q0_2 * 6364136223846793005)) + (wu x1))) + 1442695040888963407)) 40) 255))), (61, .int .i64 (wr (andU (shrU (wu ((wu ((wu (q0_2 * 6364136223846793005)) + (wu x1))) + 1442695040888963407)) 40) 255))), (60, .int .u64 (andU (shrU (wu ((wu ((wu (q0_2 * 6364136223846793005)) + (wu x1))) + 1442695040888963407)) 40) 255)), (59, .int .u64 (shrU (wu ((wu ((wu (q0_2 * 6364136223846793005)) + (wu x1))) + 1442695040888963407)) 40))] (by kernel_rfl) ?_
   refine wS_end (by rfl) ?_
   refine eX_then ?_
   refine cW_ret ?_
   have hq : (some ((wr (andU (shrU (wu ((wu ((wu (q0_2 * 6364136223846793005)) + (wu x1))) + 1442695040888963407)) 40) 255), wr (q0_1 + 1), wu ((wu ((wu (q0_2 * 6364136223846793005)) + (wu x1))) + 1442695040888963407))) : Option ((Int) × (Int) × (Int))) = some _ := hm
   replace hq := someE hq
   subst hq
   refine eX_ret (vs := [.int .i64 (wr (andU (shrU (wu ((wu ((wu (q0_2 * 6364136223846793005)) + (wu x1))) + 1442695040888963407)) 40) 255))]) [.tmp 2] (by rfl) ⟨by (show lkE _ _ _ = _); kernel_rfl, trivial⟩ ?_
   exact ⟨rfl, F4, hB⟩

set_option maxRecDepth 100000 in
/-- spec.l00Src).pick -/
theorem c_spec_l00Src_pick_bspecl00Src {w0 : World} {l0_0 : List (Int)} {A0_0 : Option Addr} {cap0_0 : Nat} {fp0_0 : List Nat} {q0_1 : Int} {q0_2 : Int} {b0 : Nat} {p1 : Int} {r : (Int) × (Int) × (Int)} (hm : m_spec_l00Src_pick_bspecl00Src l0_0 q0_1 q0_2 p1 = some r) (F0_0 : Sl 1 encU w0 fp0_0 A0_0 l0_0) (F0 : Cl w0 b0 81 [.slice A0_0 (l0_0).length cap0_0, .int .i64 (q0_1), .int .u64 (q0_2)]) (J0__0_0 : Dj [b0] fp0_0) :
  Calls Try.prog 25 #[.pointer (some ⟨b0, 0, none⟩), .int .i64 (p1)] w0 fun e w' => e = .returned (.int .i64 (r.1)) ∧ Cl w' b0 81 [.slice A0_0 (l0_0).length cap0_0, .int .i64 (r.2.1), .int .u64 (r.2.2)] ∧ Chg ([b0] ++ []) w0 w' := by
 have L0_0 := F0_0.low
 have L0 := lt1 F0.lt
 have hB : Chg ([b0] ++ []) w0 w0 := Chg.refl _ _
 have hZ := Nat.le_refl w0.heap.size
 unfold m_spec_l00Src_pick_bspecl00Src at hm
 refine enterE (N := 20) Try.func25 (by rfl) Try.ntmps25 (by simp) [(0, .pointer (some ⟨b0, 0, none⟩)), (1, .int .i64 (p1))] (by rfl) (by kernel_rfl) (fun a => ?_)
 refine cW_seq ?_
 refine cW_region ?_
 refine wS_pure 1 [(4, .int .i64 (0))] (by kernel_rfl) ?_
 refine wS_end (by rfl) ?_
 refine eX_then ?_
 refine cW_seq ?_
 refine cW_seq ?_
 refine cW_region ?_
 refine wS_pure 2 [(7, .bool (decide (p1 ≤ 1))), (6, .int .i64 (p1))] (by kernel_rfl) ?_
 refine wS_end (by rfl) ?_
 refine eX_then ?_
 refine cW_cond (t := decide (p1 ≤ 1)) (by kernel_rfl) (fun hb1 => ?_) (fun hb1 => ?_)
 ·have hm := condT hb1 hm
  refine cW_seq ?_
  refine cW_region ?_
  refine wS_pure 1 [(4, .int .i64 (0))] (by kernel_rfl) ?_
  refine wS_end (by rfl) ?_
  refine eX_then ?_
  refine cW_ret ?_
  refine eX_then_ret ?_
  have hq : (some ((0, q0_1, q0_2)) : Option ((Int) × (Int) × (Int))) = some _ := hm
  replace hq := someE hq
  subst hq
  refine eX_ret (vs := [.int .i64 (0)]) [.tmp 4] (by rfl) ⟨by (show lkE _ _ _ = _); kernel_rfl, trivial⟩ ?_
  exact ⟨rfl, F0, hB⟩
 ·have hm := condF hb1 hm
  refine cW_skip ?_
  refine eX_then ?_
  refine cW_seq ?_
  refine cW_region ?_
  refine wS_pure 1 [(8, .pointer (some ⟨b0, 0, none⟩))] (by kernel_rfl) ?_
  obtain ⟨y1, hy1, hm⟩ := bindE hm
  refine wS_calls (d := 9) (f := 45) (vs := [.pointer (some ⟨b0, 0, none⟩)]) (by kernel_rfl) ent45 (c_spec_l00Src_next_bspecl00Src hy1 F0_0 F0 J0__0_0) ?_
  rintro _ w1 ⟨rfl, F1, hc1⟩
  replace F0_0 := F0_0.chg hc1 (Dj.app (J0__0_0).symm Dj.nil)
  replace hB := hB.inS hc1 (inApp (inMem (fun x hx => (List.mem_append_left _ hx))) inNil)
  replace hZ := Nat.le_trans hZ hc1.size
  clear F0
  refine ⟨.int .i64 (y1.1), rfl, ?_⟩
  refine wS_pure 1 [(5, .int .i64 (y1.1))] (by kernel_rfl) ?_
  refine wS_end (by rfl) ?_
  refine eX_then ?_
  refine cW_seq ?_
  obtain ⟨s1, hs1, hm⟩ := bindE hm
  refine cW_cut (fun a' w' => ∃ x1 : Int, ∃ x2 : Int, ∃ x3 : Int, (x1, x2, x3) = s1 ∧ Fr 20 [(1, .int .i64 (p1)), (5, .int .i64 (x1))] a' ∧ Sl 1 encU w' fp0_0 A0_0 l0_0 ∧ Cl w' b0 81 [.slice A0_0 (l0_0).length cap0_0, .int .i64 (x2), .int .u64 (x3)] ∧ Chg ([b0] ++ []) w0 w' ∧ w0.heap.size ≤ w'.heap.size) ?_ ?_
  ·have hm := hs1
   refine cW_seq ?_
   refine cW_region ?_
   refine wS_pure 2 [(11, .bool (decide (p1 > 200))), (10, .int .i64 (p1))] (by kernel_rfl) ?_
   refine wS_end (by rfl) ?_
   refine eX_then ?_
   refine cW_cond (t := decide (p1 > 200)) (by kernel_rfl) (fun hb2 => ?_) (fun hb2 => ?_)
   ·have hm := condT hb2 hm
    refine cW_region ?_
    refine wS_pure 3 [(14, .pointer (some ⟨b0, 0, none⟩)), (13, .int .i64 (wr (y1.1 * 256))), (12, .int .i64 (y1.1))] (by kernel_rfl) ?_
    obtain ⟨y2, hy2, hm⟩ := bindE hm
    refine wS_calls (d := 15) (f := 45) (vs := [.pointer (some ⟨b0, 0, none⟩)]) (by kernel_rfl) ent45 (c_spec_l00Src_next_bspecl00Src hy2 F0_0 F1 J0__0_0) ?_
    rintro _ w2 ⟨rfl, F2, hc2⟩
    replace F0_0 := F0_0.chg hc2 (Dj.app (J0__0_0).symm Dj.nil)
    replace hB := hB.inS hc2 (inApp (inMem (fun x hx => (List.mem_append_left _ hx))) inNil)
    replace hZ := Nat.le_trans hZ hc2.size
    clear F1
    refine ⟨.int .i64 (y2.1), rfl, ?_⟩
    refine wS_pure 2 [(5, .int .i64 (wr ((wr (y1.1 * 256)) + y2.1))), (16, .int .i64 (wr ((wr (y1.1 * 256)) + y2.1)))] (by kernel_rfl) ?_
    refine wS_end (by rfl) ?_
    have hq : (some ((wr ((wr (y1.1 * 256)) + y2.1), y2.2.1, y2.2.2)) : Option (Int × Int × Int)) = some _ := hm
    replace hq := someE hq
    subst hq
    exact eX_J (fun hst => ⟨wr ((wr (y1.1 * 256)) + y2.1), y2.2.1, y2.2.2, rfl, Fr.of hst (by kernel_rfl), F0_0, F2, hB, hZ⟩)
   ·have hm := condF hb2 hm
    refine cW_skip ?_
    have hq : (some ((y1.1, y1.2.1, y1.2.2)) : Option (Int × Int × Int)) = some _ := hm
    replace hq := someE hq
    subst hq
    exact eX_J (fun hst => ⟨y1.1, y1.2.1, y1.2.2, rfl, Fr.of hst (by kernel_rfl), F0_0, F1, hB, hZ⟩)
  ·rintro a' w3 ⟨x1, x2, x3, hJ, hF1, F3, F4, hB, hZ⟩
   subst hJ
   refine Fr.goX hF1 (by kernel_rfl) ?_
   refine eX_then ?_
   refine cW_seq ?_
   refine cW_region ?_
   refine wS_pure 2 [(18, .int .i64 (p1)), (17, .int .i64 (x1))] (by kernel_rfl) ?_
   obtain ⟨u1, hu1, hm⟩ := bindE hm
   refine wS_rem (d := 19) (x := x1) (y := p1) (by kernel_rfl) (nzE hu1) ?_
   refine wS_pure 1 [(4, .int .i64 (Int.tmod x1 p1))] (by kernel_rfl) ?_
   refine wS_end (by rfl) ?_
   refine eX_then ?_
   refine cW_ret ?_
   have hq : (some ((Int.tmod x1 p1, x2, x3)) : Option ((Int) × (Int) × (Int))) = some _ := hm
   replace hq := someE hq
   subst hq
   refine eX_ret (vs := [.int .i64 (Int.tmod x1 p1)]) [.tmp 4] (by rfl) ⟨by (show lkE _ _ _ = _); kernel_rfl, trivial⟩ ?_
   exact ⟨rfl, F4, hB⟩

set_option maxRecDepth 100000 in
/-- spec.l00Src).one -/
theorem c_spec_l00Src_one_bspecl00Src {w0 : World} {l0_0 : List (Int)} {A0_0 : Option Addr} {cap0_0 : Nat} {fp0_0 : List Nat} {q0_1 : Int} {q0_2 : Int} {b0 : Nat} {p1 : Int} {r : (Bool) × (Int) × (Int)} (hm : m_spec_l00Src_one_bspecl00Src l0_0 q0_1 q0_2 p1 = some r) (F0_0 : Sl 1 encU w0 fp0_0 A0_0 l0_0) (F0 : Cl w0 b0 81 [.slice A0_0 (l0_0).length cap0_0, .int .i64 (q0_1), .int .u64 (q0_2)]) (J0__0_0 : Dj [b0] fp0_0) :
  Calls Try.prog 26 #[.pointer (some ⟨b0, 0, none⟩), .int .i64 (p1)] w0 fun e w' => e = .returned (.bool (r.1)) ∧ Cl w' b0 81 [.slice A0_0 (l0_0).length cap0_0, .int .i64 (r.2.1), .int .u64 (r.2.2)] ∧ Chg ([b0] ++ []) w0 w' := by
 have L0_0 := F0_0.low
 have L0 := lt1 F0.lt
 have hB : Chg ([b0] ++ []) w0 w0 := Chg.refl _ _
 have hZ := Nat.le_refl w0.heap.size
 unfold m_spec_l00Src_one_bspecl00Src at hm
 refine enterE (N := 9) Try.func26 (by rfl) Try.ntmps26 (by simp) [(0, .pointer (some ⟨b0, 0, none⟩)), (1, .int .i64 (p1))] (by rfl) (by kernel_rfl) (fun a => ?_)
 refine cW_seq ?_
 refine cW_region ?_
 refine wS_pure 1 [(4, .bool (false))] (by kernel_rfl) ?_
 refine wS_end (by rfl) ?_
 refine eX_then ?_
 refine cW_seq ?_
 refine cW_region ?_
 refine wS_pure 2 [(6, .int .i64 (p1)), (5, .pointer (some ⟨b0, 0, none⟩))] (by kernel_rfl) ?_
 obtain ⟨y1, hy1, hm⟩ := bindE hm
 refine wS_calls (d := 7) (f := 25) (vs := [.pointer (some ⟨b0, 0, none⟩), .int .i64 (p1)]) (by kernel_rfl) ent25 (c_spec_l00Src_pick_bspecl00Src hy1 F0_0 F0 J0__0_0) ?_
 rintro _ w1 ⟨rfl, F1, hc1⟩
 replace F0_0 := F0_0.chg hc1 (Dj.app (J0__0_0).symm Dj.nil)
 replace hB := hB.inS hc1 (inApp (inMem (fun x hx => (List.mem_append_left _ hx))) inNil)
 replace hZ := Nat.le_trans hZ hc1.size
 clear F0
 refine ⟨.int .i64 (y1.1), rfl, ?_⟩
 refine wS_pure 2 [(4, .bool (y1.1 == 0)), (8, .bool (y1.1 == 0))] (by kernel_rfl) ?_
 refine wS_end (by rfl) ?_
 refine eX_then ?_
 refine cW_ret ?_
 have hq : (some ((y1.1 == 0, y1.2.1, y1.2.2)) : Option ((Bool) × (Int) × (Int))) = some _ := hm
 replace hq := someE hq
 subst hq
 refine eX_ret (vs := [.bool (y1.1 == 0)]) [.tmp 4] (by rfl) ⟨by (show lkE _ _ _ = _); kernel_rfl, trivial⟩ ?_
 exact ⟨rfl, F1, hB⟩

set_option maxRecDepth 100000 in
/-- spec.R8Maze -/
theorem c_spec_R8Maze {w0 : World} {l0 : List (Int)} {A0 : Option Addr} {cap0 : Nat} {fp0 : List Nat} {r : ((List (List (Int))))} (hm : m_spec_R8Maze l0 = some r) (F0 : Sl 1 encU w0 fp0 A0 l0) :
  Calls Try.prog 7 #[.slice A0 (l0).length cap0] w0 fun e w' => ∃ A100_0 cap100_0 fp100_0 fr100_0, e = .returned (.agg #[.slice A100_0 (r).length cap100_0]) ∧ OwR 1 encI 38 2 w' fp100_0 fr100_0 A100_0 cap100_0 r ∧ (∀ x ∈ fp100_0 ++ fr100_0, w0.heap.size ≤ x) ∧ Chg [] w0 w' := by
 have L0 := F0.low
 have hB : Chg [] w0 w0 := Chg.refl _ _
 have hZ := Nat.le_refl w0.heap.size
 unfold m_spec_R8Maze at hm
 refine enterE (N := 59) Try.func7 (by rfl) Try.ntmps7 (by simp) [(0, .slice A0 (l0).length cap0)] (by rfl) (by kernel_rfl) (fun a => ?_)
 refine cW_seq ?_
 refine cW_region ?_
 refine wS_alloc (d := 2) (T := 26) (z := .agg #[.slice none 0 0]) (by kernel_rfl) (by kernel_rfl) ?_
 intro b1 w1 G1 F1 hc1
 replace F1 : Cl w1 b1 26 [.slice none 0 0] := F1
 replace F0 := F0.chg hc1 Dj.nil
 replace hB := hB.inS hc1 inNil
 replace G1 := Nat.le_trans hZ G1
 replace hZ := Nat.le_trans hZ hc1.size
 refine wS_end (by rfl) ?_
 refine eX_then ?_
 refine cW_seq ?_
 refine cW_region ?_
 refine wS_pure 1 [(12, .slice A0 (l0).length cap0)] (by kernel_rfl) ?_
 obtain ⟨y1, hy1, hm⟩ := bindE hm
 refine wS_calls (d := 13) (f := 24) (vs := [.slice A0 (l0).length cap0]) (by kernel_rfl) ent24 (c_spec_l00From hy1 F0) ?_
 rintro _ w2 ⟨b2, rfl, F2, G2, hc2⟩
 have D1 : Dj [b1] [b2] := Dj.of (lt1 F1.lt) (low1 G2)
 replace F0 := F0.chg hc2 Dj.nil
 replace F1 := F1.chg hc2 notNil
 replace hB := hB.inS hc2 inNil
 replace G2 := Nat.le_trans hZ G2
 replace hZ := Nat.le_trans hZ hc2.size
 refine ⟨.pointer (some ⟨b2, 0, none⟩), rfl, ?_⟩
 refine wS_pure 1 [(3, .pointer (some ⟨b2, 0, none⟩))] (by kernel_rfl) ?_
 refine wS_end (by rfl) ?_
 refine eX_then ?_
 refine cW_seq ?_
 refine cW_region ?_
 refine wS_rows0 (k := 1) (enc := encI) (d := 14) (t := 24) (T := 38) (T2 := 2) (by kernel_rfl) el24 ?_
 intro b3 w3 G3 F3 hc3
 have D2 : Dj [b1] ([b3] ++ []) := Dj.of (lt1 F1.lt) (lowApp (low1 G3) lowNil)
 have D3 : Dj [b2] ([b3] ++ []) := Dj.of (lt1 F2.lt) (lowApp (low1 G3) lowNil)
 replace F0 := F0.chg hc3 Dj.nil
 replace F1 := F1.chg hc3 notNil
 replace F2 := F2.chg hc3 notNil
 replace hB := hB.inS hc3 inNil
 replace G3 := Nat.le_trans hZ G3
 replace G3 := low1 G3
 replace hZ := Nat.le_trans hZ hc3.size
 replace G3 := lowApp G3 lowNil
 refine wS_pure 1 [(15, .agg #[.slice (some ⟨b3, 0, none⟩) (([] : List (List (Int)))).length 0])] (by kernel_rfl) ?_
 refine wS_alloc (d := 4) (T := 26) (z := .agg #[.slice none 0 0]) (by kernel_rfl) (by kernel_rfl) ?_
 intro b4 w4 G4 F4 hc4
 replace F4 : Cl w4 b4 26 [.slice none 0 0] := F4
 have D4 : Dj [b1] [b4] := Dj.of (lt1 F1.lt) (low1 G4)
 have D5 : Dj [b2] [b4] := Dj.of (lt1 F2.lt) (low1 G4)
 have D6 : Dj ([b3] ++ []) [b4] := Dj.of F3.low (low1 G4)
 replace F0 := F0.chg hc4 Dj.nil
 replace F1 := F1.chg hc4 notNil
 replace F2 := F2.chg hc4 notNil
 replace F3 := F3.chg hc4 Dj.nil
 replace hB := hB.inS hc4 inNil
 replace G4 := Nat.le_trans hZ G4
 replace hZ := Nat.le_trans hZ hc4.size
 refine wS_store (T := 26) (g := b4) (o := 0) (ad := ⟨b4, 0, none⟩) (v := .agg #[.slice (some ⟨b3, 0, none⟩) (([] : List (List (Int)))).length 0]) (vs := [.slice (some ⟨b3, 0, none⟩) (([] : List (List (Int)))).length 0]) (by kernel_rfl) (by rfl) sz26 (by rfl) (by rfl) F4 (by simp only [List.length_cons, List.length_nil]; omega) ?_
 intro w5 F5 hc5
 replace F0 := F0.chg hc5 (Dj.of L0 (low1 G4))
 replace F1 := F1.chg hc5 (dj1 D4)
 replace F2 := F2.chg hc5 (dj1 D5)
 replace F3 := F3.chg hc5 D6
 replace hB := hB.inS hc5 (inLow (low1 G4))
 replace hZ := Nat.le_trans hZ hc5.size
 replace F5 : Cl w5 b4 26 [.slice (some ⟨b3, 0, none⟩) (([] : List (List (Int)))).length 0] := F5
 clear F4
 refine wS_end (by rfl) ?_
 refine eX_then ?_
 refine cW_seq ?_
 refine cW_region ?_
 refine wS_pure 1 [(16, .pointer (some ⟨b2, 0, none⟩))] (by kernel_rfl) ?_
 obtain ⟨y2, hy2, hm⟩ := bindE hm
 refine wS_calls (d := 17) (f := 25) (vs := [.pointer (some ⟨b2, 0, none⟩), .int .i64 (5)]) (by kernel_rfl) ent25 (c_spec_l00Src_pick_bspecl00Src hy2 F0 F2 (Dj.of L0 (low1 G2)).symm) ?_
 rintro _ w6 ⟨rfl, F6, hc6⟩
 replace F0 := F0.chg hc6 (Dj.app (Dj.of L0 (low1 G2)) Dj.nil)
 replace F1 := F1.chg hc6 (dj1 (Dj.app D1 Dj.nil))
 replace F3 := F3.chg hc6 (Dj.app (D3).symm Dj.nil)
 replace F5 := F5.chg hc6 (dj1 (Dj.app (D5).symm Dj.nil))
 replace hB := hB.inS hc6 (inApp (inLow (low1 G2)) inNil)
 replace hZ := Nat.le_trans hZ hc6.size
 clear F2
 refine ⟨.int .i64 (y2.1), rfl, ?_⟩
 refine wS_pure 2 [(5, .int .i64 (wr (1 + y2.1))), (18, .int .i64 (wr (1 + y2.1)))] (by kernel_rfl) ?_
 refine wS_end (by rfl) ?_
 refine eX_then ?_
 refine cW_seq ?_
 refine cW_region ?_
 refine wS_pure 1 [(19, .pointer (some ⟨b2, 0, none⟩))] (by kernel_rfl) ?_
 obtain ⟨y3, hy3, hm⟩ := bindE hm
 refine wS_calls (d := 20) (f := 25) (vs := [.pointer (some ⟨b2, 0, none⟩), .int .i64 (5)]) (by kernel_rfl) ent25 (c_spec_l00Src_pick_bspecl00Src hy3 F0 F6 (Dj.of L0 (low1 G2)).symm) ?_
 rintro _ w7 ⟨rfl, F7, hc7⟩
 replace F0 := F0.chg hc7 (Dj.app (Dj.of L0 (low1 G2)) Dj.nil)
 replace F1 := F1.chg hc7 (dj1 (Dj.app D1 Dj.nil))
 replace F3 := F3.chg hc7 (Dj.app (D3).symm Dj.nil)
 replace F5 := F5.chg hc7 (dj1 (Dj.app (D5).symm Dj.nil))
 replace hB := hB.inS hc7 (inApp (inLow (low1 G2)) inNil)
 replace hZ := Nat.le_trans hZ hc7.size
 clear F6
 refine ⟨.int .i64 (y3.1), rfl, ?_⟩
 refine wS_pure 2 [(6, .int .i64 (wr (1 + y3.1))), (21, .int .i64 (wr (1 + y3.1)))] (by kernel_rfl) ?_
 refine wS_end (by rfl) ?_
 refine eX_then ?_
 refine cW_seq ?_
 refine cW_region ?_
 refine wS_pure 1 [(22, .pointer (some ⟨b2, 0, none⟩))] (by kernel_rfl) ?_
 obtain ⟨y4, hy4, hm⟩ := bindE hm
 refine wS_calls (d := 23) (f := 26) (vs := [.pointer (some ⟨b2, 0, none⟩), .int .i64 (2)]) (by kernel_rfl) ent26 (c_spec_l00Src_one_bspecl00Src hy4 F0 F7 (Dj.of L0 (low1 G2)).symm) ?_
 rintro _ w8 ⟨rfl, F8, hc8⟩
 replace F0 := F0.chg hc8 (Dj.app (Dj.of L0 (low1 G2)) Dj.nil)
 replace F1 := F1.chg hc8 (dj1 (Dj.app D1 Dj.nil))
 replace F3 := F3.chg hc8 (Dj.app (D3).symm Dj.nil)
 replace F5 := F5.chg hc8 (dj1 (Dj.app (D5).symm Dj.nil))
 replace hB := hB.inS hc8 (inApp (inLow (low1 G2)) inNil)
 replace hZ := Nat.le_trans hZ hc8.size
 clear F7
 refine ⟨.bool (y4.1), rfl, ?_⟩
 refine wS_pure 1 [(7, .bool (y4.1))] (by kernel_rfl) ?_
 refine wS_end (by rfl) ?_
 refine eX_then ?_
 refine cW_seq ?_
 refine cW_seq ?_
 refine cW_region ?_
 refine wS_pure 1 [(8, .int .i64 (0))] (by kernel_rfl) ?_
 refine wS_end (by rfl) ?_
 refine eX_then ?_
 obtain ⟨r1, hr1, hm⟩ := bindE hm
 have hm1 := hm
 refine cW_cut (fun a' w' => ∃ l1 : List (List (Int)), ∃ A1 : Option Addr, ∃ cap1 : Nat, ∃ fp1 : List Nat, ∃ fr1 : List Nat, l1 = r1 ∧ Fr 59 [(2, .pointer (some ⟨b1, 0, none⟩)), (4, .pointer (some ⟨b4, 0, none⟩))] a' ∧ Cl w' b1 26 [.slice none 0 0] ∧ Cl w' b4 26 [.slice A1 (l1).length cap1] ∧ OwR 1 encI 38 2 w' fp1 fr1 A1 cap1 l1 ∧ (∀ x ∈ (fp1 ++ fr1), w0.heap.size ≤ x) ∧ Dj [b1] (fp1 ++ fr1) ∧ Dj [b4] (fp1 ++ fr1) ∧ Chg [] w0 w' ∧ w0.heap.size ≤ w'.heap.size) ?_ ?_
 ·refine cW_block ?_
  refine cW_loop _ (fun (s1 : Int × Int × Int × (List (List (Int)))) a' w' => ∃ x1 : Int, ∃ x2 : Int, ∃ x3 : Int, ∃ l3 : List (List (Int)), ∃ A3 : Option Addr, ∃ cap3 : Nat, ∃ fp2 : List Nat, ∃ fr2 : List Nat, (x1, x2, x3, l3) = s1 ∧ Fr 59 [(2, .pointer (some ⟨b1, 0, none⟩)), (3, .pointer (some ⟨b2, 0, none⟩)), (4, .pointer (some ⟨b4, 0, none⟩)), (5, .int .i64 (wr (1 + y2.1))), (6, .int .i64 (wr (1 + y3.1))), (7, .bool (y4.1)), (8, .int .i64 (x1))] a' ∧ Sl 1 encU w' fp0 A0 l0 ∧ Cl w' b1 26 [.slice none 0 0] ∧ Cl w' b2 81 [.slice A0 (l0).length cap0, .int .i64 (x2), .int .u64 (x3)] ∧ Cl w' b4 26 [.slice A3 (l3).length cap3] ∧ OwR 1 encI 38 2 w' fp2 fr2 A3 cap3 l3 ∧ (∀ x ∈ (fp2 ++ fr2), w0.heap.size ≤ x) ∧ Dj [b1] (fp2 ++ fr2) ∧ Dj [b2] (fp2 ++ fr2) ∧ Dj [b4] (fp2 ++ fr2) ∧ Chg [] w0 w' ∧ w0.heap.size ≤ w'.heap.size) hr1 (fun hst => ⟨0, y4.2.1, y4.2.2, ([] : List (List (Int))), (some ⟨b3, 0, none⟩), 0, [b3], [], rfl, Fr.of hst (by kernel_rfl), F0, F1, F8, F5, F3, G3, D2, D3, (D6).symm, hB, hZ⟩) ?_
  rintro _ c1 a' w9 ⟨x1, x2, x3, l3, A3, cap3, fp2, fr2, rfl, hF1, F9, F10, F11, F12, F13, G5, D7, D8, D9, hB, hZ⟩ hx1
  refine Fr.goOn hF1 (by kernel_rfl) ?_
  have hm := hx1
  unfold m_spec_R8Maze_s3 at hm
  refine cW_seq ?_
  refine cW_seq ?_
  refine cW_region ?_
  refine wS_pure 3 [(26, .bool (decide (x1 < (wr (1 + y3.1))))), (25, .int .i64 (wr (1 + y3.1))), (24, .int .i64 (x1))] (by kernel_rfl) ?_
  refine wS_end (by rfl) ?_
  refine eX_then ?_
  refine cW_cond (t := decide (x1 < (wr (1 + y3.1)))) (by kernel_rfl) (fun hb1 => ?_) (fun hb1 => ?_)
  ·have hm := condT hb1 hm
   refine cW_skip ?_
   refine eX_then ?_
   refine cW_seq ?_
   refine cW_block ?_
   refine cW_seq ?_
   refine cW_region ?_
   refine wS_bs0 (α := Int) (enc := encI) (d := 29) (t := 38) (T := 2) (by kernel_rfl) el38 ?_
   intro b5 w10 G6 F14 hc9
   have D10 : Dj [b1] [b5] := Dj.of (lt1 F10.lt) (low1 G6)
   have D11 : Dj [b2] [b5] := Dj.of (lt1 F11.lt) (low1 G6)
   have D12 : Dj [b4] [b5] := Dj.of (lt1 F12.lt) (low1 G6)
   have D13 : Dj (fp2 ++ fr2) [b5] := Dj.of F13.low (low1 G6)
   replace F9 := F9.chg hc9 Dj.nil
   replace F10 := F10.chg hc9 notNil
   replace F11 := F11.chg hc9 notNil
   replace F12 := F12.chg hc9 notNil
   replace F13 := F13.chg hc9 Dj.nil
   replace hB := hB.inS hc9 inNil
   replace G6 := Nat.le_trans hZ G6
   replace G6 := low1 G6
   replace hZ := Nat.le_trans hZ hc9.size
   refine wS_pure 1 [(9, .slice (some ⟨b5, 0, none⟩) (([] : List (Int))).length 0)] (by kernel_rfl) ?_
   refine wS_end (by rfl) ?_
   refine eX_then ?_
   refine cW_seq ?_
   refine cW_seq ?_
   refine cW_region ?_
   refine wS_pure 1 [(10, .int .i64 (0))] (by kernel_rfl) ?_
   refine wS_end (by rfl) ?_
   refine eX_then ?_
   obtain ⟨r2, hr2, hm⟩ := bindE hm
   have hm2 := hm
   refine cW_cut (fun a' w' => ∃ l4 : List (Int), ∃ A4 : Option Addr, ∃ cap4 : Nat, ∃ fp3 : List Nat, ∃ x4 : Int, ∃ x5 : Int, (l4, x4, x5) = r2 ∧ Fr 59 [(2, .pointer (some ⟨b1, 0, none⟩)), (3, .pointer (some ⟨b2, 0, none⟩)), (4, .pointer (some ⟨b4, 0, none⟩)), (5, .int .i64 (wr (1 + y2.1))), (6, .int .i64 (wr (1 + y3.1))), (7, .bool (y4.1)), (8, .int .i64 (x1)), (9, .slice A4 (l4).length cap4)] a' ∧ Sl 1 encU w' fp0 A0 l0 ∧ Cl w' b1 26 [.slice none 0 0] ∧ Cl w' b2 81 [.slice A0 (l0).length cap0, .int .i64 (x4), .int .u64 (x5)] ∧ Cl w' b4 26 [.slice A3 (l3).length cap3] ∧ OwR 1 encI 38 2 w' fp2 fr2 A3 cap3 l3 ∧ Ow 1 encI 2 w' fp3 A4 cap4 l4 ∧ (∀ x ∈ fp3, w0.heap.size ≤ x) ∧ Dj [b1] fp3 ∧ Dj [b2] fp3 ∧ Dj [b4] fp3 ∧ Dj (fp2 ++ fr2) fp3 ∧ Chg [] w0 w' ∧ w0.heap.size ≤ w'.heap.size) ?_ ?_
   ·refine cW_block ?_
    refine cW_loop _ (fun (s2 : (List (Int)) × Int × Int × Int) a' w' => ∃ l5 : List (Int), ∃ A5 : Option Addr, ∃ cap5 : Nat, ∃ fp4 : List Nat, ∃ x6 : Int, ∃ x7 : Int, ∃ x8 : Int, (l5, x6, x7, x8) = s2 ∧ Fr 59 [(2, .pointer (some ⟨b1, 0, none⟩)), (3, .pointer (some ⟨b2, 0, none⟩)), (4, .pointer (some ⟨b4, 0, none⟩)), (5, .int .i64 (wr (1 + y2.1))), (6, .int .i64 (wr (1 + y3.1))), (7, .bool (y4.1)), (8, .int .i64 (x1)), (9, .slice A5 (l5).length cap5), (10, .int .i64 (x6))] a' ∧ Sl 1 encU w' fp0 A0 l0 ∧ Cl w' b1 26 [.slice none 0 0] ∧ Cl w' b2 81 [.slice A0 (l0).length cap0, .int .i64 (x7), .int .u64 (x8)] ∧ Cl w' b4 26 [.slice A3 (l3).length cap3] ∧ OwR 1 encI 38 2 w' fp2 fr2 A3 cap3 l3 ∧ Ow 1 encI 2 w' fp4 A5 cap5 l5 ∧ (∀ x ∈ fp4, w0.heap.size ≤ x) ∧ Dj [b1] fp4 ∧ Dj [b2] fp4 ∧ Dj [b4] fp4 ∧ Dj (fp2 ++ fr2) fp4 ∧ Chg [] w0 w' ∧ w0.heap.size ≤ w'.heap.size) hr2 (fun hst => ⟨([] : List (Int)), (some ⟨b5, 0, none⟩), 0, [b5], 0, x2, x3, rfl, Fr.of hst (by kernel_rfl), F9, F10, F11, F12, F13, F14, G6, D10, D11, D12, D13, hB, hZ⟩) ?_
    rintro _ c2 a' w11 ⟨l5, A5, cap5, fp4, x6, x7, x8, rfl, hF2, F15, F16, F17, F18, F19, F20, G7, D14, D15, D16, D17, hB, hZ⟩ hx2
    refine Fr.goOn hF2 (by kernel_rfl) ?_
    have hm := hx2
    unfold m_spec_R8Maze_s4 at hm
    refine cW_seq ?_
    refine cW_seq ?_
    refine cW_region ?_
    refine wS_pure 3 [(32, .bool (decide (x6 < (wr (1 + y2.1))))), (31, .int .i64 (wr (1 + y2.1))), (30, .int .i64 (x6))] (by kernel_rfl) ?_
    refine wS_end (by rfl) ?_
    refine eX_then ?_
    refine cW_cond (t := decide (x6 < (wr (1 + y2.1)))) (by kernel_rfl) (fun hb2 => ?_) (fun hb2 => ?_)
    ·have hm := condT hb2 hm
     refine cW_skip ?_
     refine eX_then ?_
     refine cW_seq ?_
     refine cW_block ?_
     obtain ⟨s3, hs1, hm⟩ := bindE hm
     refine cW_cut (fun a' w' => ∃ l6 : List (Int), ∃ A6 : Option Addr, ∃ cap6 : Nat, ∃ fp5 : List Nat, ∃ x9 : Int, ∃ x10 : Int, (l6, x9, x10) = s3 ∧ Fr 59 [(2, .pointer (some ⟨b1, 0, none⟩)), (3, .pointer (some ⟨b2, 0, none⟩)), (4, .pointer (some ⟨b4, 0, none⟩)), (5, .int .i64 (wr (1 + y2.1))), (6, .int .i64 (wr (1 + y3.1))), (7, .bool (y4.1)), (8, .int .i64 (x1)), (9, .slice A6 (l6).length cap6), (10, .int .i64 (x6))] a' ∧ Sl 1 encU w' fp0 A0 l0 ∧ Cl w' b1 26 [.slice none 0 0] ∧ Cl w' b2 81 [.slice A0 (l0).length cap0, .int .i64 (x9), .int .u64 (x10)] ∧ Cl w' b4 26 [.slice A3 (l3).length cap3] ∧ OwR 1 encI 38 2 w' fp2 fr2 A3 cap3 l3 ∧ Ow 1 encI 2 w' fp5 A6 cap6 l6 ∧ (∀ x ∈ fp5, w0.heap.size ≤ x) ∧ Dj [b1] fp5 ∧ Dj [b2] fp5 ∧ Dj [b4] fp5 ∧ Dj (fp2 ++ fr2) fp5 ∧ Chg [] w0 w' ∧ w0.heap.size ≤ w'.heap.size) ?_ ?_
     ·have hm := hs1
      refine cW_seq ?_
      refine cW_region ?_
      refine wS_pure 1 [(11, .int .i64 (1))] (by kernel_rfl) ?_
      refine wS_end (by rfl) ?_
      refine eX_then ?_
      refine cW_seq ?_
      obtain ⟨s4, hs2, hm⟩ := bindE hm
      refine cW_cut (fun a' w' => ∃ x11 : Int, ∃ x12 : Int, ∃ x13 : Int, (x11, x12, x13) = s4 ∧ Fr 59 [(2, .pointer (some ⟨b1, 0, none⟩)), (3, .pointer (some ⟨b2, 0, none⟩)), (4, .pointer (some ⟨b4, 0, none⟩)), (5, .int .i64 (wr (1 + y2.1))), (6, .int .i64 (wr (1 + y3.1))), (7, .bool (y4.1)), (8, .int .i64 (x1)), (9, .slice A5 (l5).length cap5), (10, .int .i64 (x6)), (11, .int .i64 (x11))] a' ∧ Sl 1 encU w' fp0 A0 l0 ∧ Cl w' b1 26 [.slice none 0 0] ∧ Cl w' b2 81 [.slice A0 (l0).length cap0, .int .i64 (x12), .int .u64 (x13)] ∧ Cl w' b4 26 [.slice A3 (l3).length cap3] ∧ OwR 1 encI 38 2 w' fp2 fr2 A3 cap3 l3 ∧ Ow 1 encI 2 w' fp4 A5 cap5 l5 ∧ Chg [] w0 w' ∧ w0.heap.size ≤ w'.heap.size) ?_ ?_
      ·have hm := hs2
       refine cW_seq ?_
       refine cW_region ?_
       refine wS_pure 2 [(36, .bool (!y4.1)), (35, .bool (y4.1))] (by kernel_rfl) ?_
       refine wS_end (by rfl) ?_
       refine eX_then ?_
       refine cW_cond (t := !y4.1) (by kernel_rfl) (fun hb3 => ?_) (fun hb3 => ?_)
       ·have hm := condT hb3 hm
        refine cW_region ?_
        refine wS_pure 1 [(37, .pointer (some ⟨b2, 0, none⟩))] (by kernel_rfl) ?_
        obtain ⟨y5, hy5, hm⟩ := bindE hm
        refine wS_calls (d := 38) (f := 25) (vs := [.pointer (some ⟨b2, 0, none⟩), .int .i64 (9)]) (by kernel_rfl) ent25 (c_spec_l00Src_pick_bspecl00Src hy5 F15 F17 (Dj.of L0 (low1 G2)).symm) ?_
        rintro _ w12 ⟨rfl, F21, hc10⟩
        replace F15 := F15.chg hc10 (Dj.app (Dj.of L0 (low1 G2)) Dj.nil)
        replace F16 := F16.chg hc10 (dj1 (Dj.app D1 Dj.nil))
        replace F18 := F18.chg hc10 (dj1 (Dj.app (D5).symm Dj.nil))
        replace F19 := F19.chg hc10 (Dj.app (D8).symm Dj.nil)
        replace F20 := F20.chg hc10 (Dj.app (D15).symm Dj.nil)
        replace hB := hB.inS hc10 (inApp (inLow (low1 G2)) inNil)
        replace hZ := Nat.le_trans hZ hc10.size
        clear F17
        refine ⟨.int .i64 (y5.1), rfl, ?_⟩
        refine wS_pure 2 [(11, .int .i64 (wr (1 + y5.1))), (39, .int .i64 (wr (1 + y5.1)))] (by kernel_rfl) ?_
        refine wS_end (by rfl) ?_
        have hq : (some ((wr (1 + y5.1), y5.2.1, y5.2.2)) : Option (Int × Int × Int)) = some _ := hm
        replace hq := someE hq
        subst hq
        exact eX_J (fun hst => ⟨wr (1 + y5.1), y5.2.1, y5.2.2, rfl, Fr.of hst (by kernel_rfl), F15, F16, F21, F18, F19, F20, hB, hZ⟩)
       ·have hm := condF hb3 hm
        refine cW_skip ?_
        have hq : (some ((1, x7, x8)) : Option (Int × Int × Int)) = some _ := hm
        replace hq := someE hq
        subst hq
        exact eX_J (fun hst => ⟨1, x7, x8, rfl, Fr.of hst (by kernel_rfl), F15, F16, F17, F18, F19, F20, hB, hZ⟩)
      ·rintro a' w13 ⟨x11, x12, x13, hJ, hF3, F22, F23, F24, F25, F26, F27, hB, hZ⟩
       subst hJ
       refine Fr.goX hF3 (by kernel_rfl) ?_
       refine eX_then ?_
       refine cW_seq ?_
       obtain ⟨s5, hs3, hm⟩ := bindE hm
       refine cW_cut (fun a' w' => ∃ x14 : Int, ∃ x15 : Int, ∃ x16 : Int, (x14, x15, x16) = s5 ∧ Fr 59 [(2, .pointer (some ⟨b1, 0, none⟩)), (3, .pointer (some ⟨b2, 0, none⟩)), (4, .pointer (some ⟨b4, 0, none⟩)), (5, .int .i64 (wr (1 + y2.1))), (6, .int .i64 (wr (1 + y3.1))), (7, .bool (y4.1)), (8, .int .i64 (x1)), (9, .slice A5 (l5).length cap5), (10, .int .i64 (x6)), (11, .int .i64 (x14))] a' ∧ Sl 1 encU w' fp0 A0 l0 ∧ Cl w' b1 26 [.slice none 0 0] ∧ Cl w' b2 81 [.slice A0 (l0).length cap0, .int .i64 (x15), .int .u64 (x16)] ∧ Cl w' b4 26 [.slice A3 (l3).length cap3] ∧ OwR 1 encI 38 2 w' fp2 fr2 A3 cap3 l3 ∧ Ow 1 encI 2 w' fp4 A5 cap5 l5 ∧ Chg [] w0 w' ∧ w0.heap.size ≤ w'.heap.size) ?_ ?_
       ·have hm := hs3
        refine cW_seq ?_
        refine cW_region ?_
        refine wS_pure 1 [(40, .pointer (some ⟨b2, 0, none⟩))] (by kernel_rfl) ?_
        obtain ⟨y6, hy6, hm⟩ := bindE hm
        refine wS_calls (d := 41) (f := 26) (vs := [.pointer (some ⟨b2, 0, none⟩), .int .i64 (4)]) (by kernel_rfl) ent26 (c_spec_l00Src_one_bspecl00Src hy6 F22 F24 (Dj.of L0 (low1 G2)).symm) ?_
        rintro _ w14 ⟨rfl, F28, hc11⟩
        replace F22 := F22.chg hc11 (Dj.app (Dj.of L0 (low1 G2)) Dj.nil)
        replace F23 := F23.chg hc11 (dj1 (Dj.app D1 Dj.nil))
        replace F25 := F25.chg hc11 (dj1 (Dj.app (D5).symm Dj.nil))
        replace F26 := F26.chg hc11 (Dj.app (D8).symm Dj.nil)
        replace F27 := F27.chg hc11 (Dj.app (D15).symm Dj.nil)
        replace hB := hB.inS hc11 (inApp (inLow (low1 G2)) inNil)
        replace hZ := Nat.le_trans hZ hc11.size
        clear F24
        refine ⟨.bool (y6.1), rfl, ?_⟩
        refine wS_pure 1 [(42, .bool (y6.1))] (by kernel_rfl) ?_
        refine wS_bool y6.1 (fun hb4 => ?_) (fun hb4 => ?_)
        ·have hm := condT hb4 hm
         rewrite [hb4]
         refine wS_pure 5 [(47, .bool (decide ((wr (x6 + x1)) > 0))), (46, .bool (decide ((wr (x6 + x1)) > 0))), (45, .int .i64 (wr (x6 + x1))), (44, .int .i64 (x1)), (43, .int .i64 (x6))] (by kernel_rfl) ?_
         refine wS_end (by rfl) ?_
         refine eX_then ?_
         refine cW_cond (t := decide ((wr (x6 + x1)) > 0)) (by kernel_rfl) (fun hb5 => ?_) (fun hb5 => ?_)
         ·have hm := condT hb5 hm
          refine cW_region ?_
          refine wS_pure 1 [(11, .int .i64 (0))] (by kernel_rfl) ?_
          refine wS_end (by rfl) ?_
          have hq : (some ((0, y6.2.1, y6.2.2)) : Option (Int × Int × Int)) = some _ := hm
          replace hq := someE hq
          subst hq
          exact eX_J (fun hst => ⟨0, y6.2.1, y6.2.2, rfl, Fr.of hst (by kernel_rfl), F22, F23, F28, F25, F26, F27, hB, hZ⟩)
         ·have hm := condF hb5 hm
          refine cW_skip ?_
          have hq : (some ((x11, y6.2.1, y6.2.2)) : Option (Int × Int × Int)) = some _ := hm
          replace hq := someE hq
          subst hq
          exact eX_J (fun hst => ⟨x11, y6.2.1, y6.2.2, rfl, Fr.of hst (by kernel_rfl), F22, F23, F28, F25, F26, F27, hB, hZ⟩)
        ·have hm := condF hb4 hm
         rewrite [hb4]
         refine wS_pure 5 [(47, .bool (false)), (46, undef), (45, undef), (44, undef), (43, undef)] (by kernel_rfl) ?_
         refine wS_end (by rfl) ?_
         refine eX_then ?_
         refine cW_cond_f (by kernel_rfl) ?_
         refine cW_skip ?_
         have hq : (some ((x11, y6.2.1, y6.2.2)) : Option (Int × Int × Int)) = some _ := hm
         replace hq := someE hq
         subst hq
         exact eX_J (fun hst => ⟨x11, y6.2.1, y6.2.2, rfl, Fr.of hst (by kernel_rfl), F22, F23, F28, F25, F26, F27, hB, hZ⟩)
       ·rintro a' w15 ⟨x14, x15, x16, hJ, hF4, F29, F30, F31, F32, F33, F34, hB, hZ⟩
        subst hJ
        refine Fr.goX hF4 (by kernel_rfl) ?_
        refine eX_then ?_
        refine cW_region ?_
        refine wS_pure 2 [(49, .int .i64 (x14)), (48, .slice A5 (l5).length cap5)] (by kernel_rfl) ?_
        refine wS_bs (enc := encI) ([x14] : List (Int)) [.int .i64 (x14)] (d := 50) (t := 38) (T := 2) (n := 1) (ps := [(0, .int .i64 (x14))]) (by kernel_rfl) el38 encI_ok (by rfl) (by omega) (by omega) (by kernel_rfl) (by rfl) ?_
        intro b6 w16 G8 F35 hc12
        have D18 : Dj [b1] [b6] := Dj.of (lt1 F30.lt) (low1 G8)
        have D19 : Dj [b2] [b6] := Dj.of (lt1 F31.lt) (low1 G8)
        have D20 : Dj [b4] [b6] := Dj.of (lt1 F32.lt) (low1 G8)
        have D21 : Dj (fp2 ++ fr2) [b6] := Dj.of F33.low (low1 G8)
        have D22 : Dj fp4 [b6] := Dj.of F34.low (low1 G8)
        replace F29 := F29.chg hc12 Dj.nil
        replace F30 := F30.chg hc12 notNil
        replace F31 := F31.chg hc12 notNil
        replace F32 := F32.chg hc12 notNil
        replace F33 := F33.chg hc12 Dj.nil
        replace F34 := F34.chg hc12 Dj.nil
        replace hB := hB.inS hc12 inNil
        replace G8 := Nat.le_trans hZ G8
        replace G8 := low1 G8
        replace hZ := Nat.le_trans hZ hc12.size
        obtain ⟨_, hk1, hm⟩ := bindE hm
        replace hk1 := apE hk1
        refine wS_append (enc := encI) (l := (l5 : List (Int))) (l2 := (([x14] : List (Int)) : List (Int))) (d := 51) (t := 38) (T := 2) (A := A5) (A2 := (some ⟨b6, 0, none⟩)) (cap := cap5) (cap2 := 1) (by kernel_rfl) el38 encI_ok F34 (F35.sl encI_ok) (by rfl) hk1 ?_
        intro w17 fp6 A7 cap7 F36 hc13 hp1
        have G9 := low_ap G7 hZ hp1
        have D23 : Dj [b1] fp6 := Dj.ap D14 (lt1 F30.lt) hp1
        have D24 : Dj [b2] fp6 := Dj.ap D15 (lt1 F31.lt) hp1
        have D25 : Dj [b4] fp6 := Dj.ap D16 (lt1 F32.lt) hp1
        have D26 : Dj (fp2 ++ fr2) fp6 := Dj.ap D17 F33.low hp1
        have D27 : Dj [b6] fp6 := Dj.ap (D22).symm F35.low hp1
        replace F29 := F29.chg hc13 (Dj.of L0 G7)
        replace F30 := F30.chg hc13 (dj1 D14)
        replace F31 := F31.chg hc13 (dj1 D15)
        replace F32 := F32.chg hc13 (dj1 D16)
        replace F33 := F33.chg hc13 D17
        replace F35 := F35.chg hc13 (D22).symm
        replace hB := hB.inS hc13 (inLow G7)
        replace hZ := Nat.le_trans hZ hc13.size
        refine wS_pure 1 [(9, .slice A7 (l5 ++ (([x14] : List (Int)))).length cap7)] (by kernel_rfl) ?_
        refine wS_end (by rfl) ?_
        have hq : (some ((l5 ++ (([x14] : List (Int))), x15, x16)) : Option ((List (Int)) × Int × Int)) = some _ := hm
        replace hq := someE hq
        subst hq
        exact eX_J (fun hst => ⟨l5 ++ (([x14] : List (Int))), A7, cap7, fp6, x15, x16, rfl, Fr.of hst (by kernel_rfl), F29, F30, F31, F32, F33, F36, G9, D23, D24, D25, D26, hB, hZ⟩)
     ·rintro a' w18 ⟨l6, A6, cap6, fp5, x9, x10, hJ, hF5, F37, F38, F39, F40, F41, F42, G10, D28, D29, D30, D31, hB, hZ⟩
      subst hJ
      refine Fr.goX hF5 (by kernel_rfl) ?_
      refine eX_block ?_
      refine eX_then ?_
      refine cW_region ?_
      refine wS_pure 3 [(10, .int .i64 (wr (x6 + 1))), (34, .int .i64 (wr (x6 + 1))), (33, .int .i64 (x6))] (by kernel_rfl) ?_
      refine wS_end (by rfl) ?_
      have hq : (some (Ctl.next ((l6, wr (x6 + 1), x9, x10))) : Option (Ctl ((List (Int)) × Int × Int × Int) ((List (Int)) × Int × Int))) = some _ := hm
      replace hq := someE hq
      subst hq
      exact eX_next hx2 (fun hst => ⟨l6, A6, cap6, fp5, wr (x6 + 1), x9, x10, rfl, Fr.of hst (by kernel_rfl), F37, F38, F39, F40, F41, F42, G10, D28, D29, D30, D31, hB, hZ⟩)
    ·have hm := condF hb2 hm
     refine cW_exit ?_
     refine eX_then_exit ?_
     have hq : (some (Ctl.out ((l5, x7, x8))) : Option (Ctl ((List (Int)) × Int × Int × Int) ((List (Int)) × Int × Int))) = some _ := hm
     replace hq := someE hq
     subst hq
     refine eX_outX hx2 (fun hr3 => ?_)
     replace hr3 := hr3.symm
     subst hr3
     refine eX_block_hit ?_
     exact eX_J (fun hst => ⟨l5, A5, cap5, fp4, x7, x8, rfl, Fr.of hst (by kernel_rfl), F15, F16, F17, F18, F19, F20, G7, D14, D15, D16, D17, hB, hZ⟩)
   ·rintro a' w19 ⟨l4, A4, cap4, fp3, x4, x5, hJ, hF6, F43, F44, F45, F46, F47, F48, G11, D32, D33, D34, D35, hB, hZ⟩
    subst hJ
    refine Fr.goX hF6 (by kernel_rfl) ?_
    refine eX_then ?_
    refine cW_region ?_
    refine wS_pure 1 [(52, .pointer (some ⟨b4, 0, none⟩))] (by kernel_rfl) ?_
    refine wS_load1 (d := 53) (T := 24) (ad := ⟨b4, 0, none⟩) (v := .slice A3 (l3).length cap3) (by kernel_rfl) vt24 ((F46).cell 0) ?_
    refine wS_pure 1 [(54, .slice A4 (l4).length cap4)] (by kernel_rfl) ?_
    refine wS_row1 (k := 1) (enc := encI) (l := l4) (d := 55) (t := 24) (T := 38) (B := A4) (c := cap4) (by kernel_rfl) el24 F48 ?_
    intro b7 w20 G12 F49 hc14
    have D36 : Dj [b1] ([b7] ++ fp3) := Dj.app (Dj.of (lt1 F44.lt) (low1 G12)) D32
    have D37 : Dj [b2] ([b7] ++ fp3) := Dj.app (Dj.of (lt1 F45.lt) (low1 G12)) D33
    have D38 : Dj [b4] ([b7] ++ fp3) := Dj.app (Dj.of (lt1 F46.lt) (low1 G12)) D34
    have D39 : Dj (fp2 ++ fr2) ([b7] ++ fp3) := Dj.app (Dj.of F47.low (low1 G12)) D35
    replace F43 := F43.chg hc14 Dj.nil
    replace F44 := F44.chg hc14 notNil
    replace F45 := F45.chg hc14 notNil
    replace F46 := F46.chg hc14 notNil
    replace F47 := F47.chg hc14 Dj.nil
    replace F48 := F48.chg hc14 Dj.nil
    replace hB := hB.inS hc14 inNil
    replace G12 := Nat.le_trans hZ G12
    replace G12 := lowApp (low1 G12) G11
    replace hZ := Nat.le_trans hZ hc14.size
    replace F48 := (F48.sl encI_ok)
    obtain ⟨_, hk2, hm⟩ := bindE hm
    replace hk2 := apE hk2
    refine wS_appendR (k := 1) (enc := encI) (ll := (l3 : List (List (Int)))) (ll2 := (([l4] : List (List (Int))) : List (List (Int)))) (d := 56) (t := 24) (T := 38) (A := A3) (A2 := (some ⟨b7, 0, none⟩)) (cap := cap3) (cap2 := 1) (by kernel_rfl) el24 F47 F49 (by rfl) D39 hk2 ?_
    intro w21 fp7 A8 cap8 F50 hc15 hp2
    have G13 := lowApp (low_ap (low_inl G5) hZ hp2) (lowApp (low_inr G5) (low_inr G12))
    have D40 : Dj [b1] (fp7 ++ (fr2 ++ fp3)) := Dj.app (Dj.ap (Dj.inl D7) (lt1 F44.lt) hp2) (Dj.app (Dj.inr D7) (Dj.inr D36))
    have D41 : Dj [b2] (fp7 ++ (fr2 ++ fp3)) := Dj.app (Dj.ap (Dj.inl D8) (lt1 F45.lt) hp2) (Dj.app (Dj.inr D8) (Dj.inr D37))
    have D42 : Dj [b4] (fp7 ++ (fr2 ++ fp3)) := Dj.app (Dj.ap (Dj.inl D9) (lt1 F46.lt) hp2) (Dj.app (Dj.inr D9) (Dj.inr D38))
    replace F43 := F43.chg hc15 (Dj.inl (Dj.of L0 G5))
    replace F44 := F44.chg hc15 (dj1 (Dj.inl D7))
    replace F45 := F45.chg hc15 (dj1 (Dj.inl D8))
    replace F46 := F46.chg hc15 (dj1 (Dj.inl D9))
    replace hB := hB.inS hc15 (memS_inl (inLow G5))
    replace hZ := Nat.le_trans hZ hc15.size
    refine wS_pure 1 [(57, .pointer (some ⟨b4, 0, none⟩))] (by kernel_rfl) ?_
    refine wS_store (T := 24) (g := b4) (o := 0) (ad := ⟨b4, 0, none⟩) (v := .slice A8 (l3 ++ (([l4] : List (List (Int))))).length cap8) (vs := [.slice A8 (l3 ++ (([l4] : List (List (Int))))).length cap8]) (by kernel_rfl) (by rfl) sz24 (by rfl) (by rfl) F46 (by simp only [List.length_cons, List.length_nil]; omega) ?_
    intro w22 F51 hc16
    replace F43 := F43.chg hc16 (Dj.of L0 (low1 G4))
    replace F44 := F44.chg hc16 (dj1 D4)
    replace F45 := F45.chg hc16 (dj1 D5)
    replace F50 := F50.chg hc16 (D42).symm
    replace hB := hB.inS hc16 (inLow (low1 G4))
    replace hZ := Nat.le_trans hZ hc16.size
    replace F51 : Cl w22 b4 26 [.slice A8 (l3 ++ (([l4] : List (List (Int))))).length cap8] := F51
    clear F46
    refine wS_end (by rfl) ?_
    refine eX_block ?_
    refine eX_then ?_
    refine cW_region ?_
    refine wS_pure 3 [(8, .int .i64 (wr (x1 + 1))), (28, .int .i64 (wr (x1 + 1))), (27, .int .i64 (x1))] (by kernel_rfl) ?_
    refine wS_end (by rfl) ?_
    have hq : (some (Ctl.next ((wr (x1 + 1), x4, x5, l3 ++ (([l4] : List (List (Int))))))) : Option (Ctl (Int × Int × Int × (List (List (Int)))) ((List (List (Int)))))) = some _ := hm
    replace hq := someE hq
    subst hq
    exact eX_next hx1 (fun hst => ⟨wr (x1 + 1), x4, x5, l3 ++ (([l4] : List (List (Int)))), A8, cap8, fp7, (fr2 ++ fp3), rfl, Fr.of hst (by kernel_rfl), F43, F44, F45, F51, F50, G13, D40, D41, D42, hB, hZ⟩)
  ·have hm := condF hb1 hm
   refine cW_exit ?_
   refine eX_then_exit ?_
   have hq : (some (Ctl.out l3) : Option (Ctl (Int × Int × Int × (List (List (Int)))) ((List (List (Int)))))) = some _ := hm
   replace hq := someE hq
   subst hq
   refine eX_outX hx1 (fun hr4 => ?_)
   replace hr4 := hr4.symm
   subst hr4
   refine eX_block_hit ?_
   exact eX_J (fun hst => ⟨l3, A3, cap3, fp2, fr2, rfl, Fr.of hst (by kernel_rfl), F10, F12, F13, G5, D7, D9, hB, hZ⟩)
 ·rintro a' w23 ⟨l1, A1, cap1, fp1, fr1, hJ, hF7, F52, F53, F54, G14, D43, D44, hB, hZ⟩
  subst hJ
  refine Fr.goX hF7 (by kernel_rfl) ?_
  refine eX_then ?_
  refine cW_seq ?_
  refine cW_region ?_
  refine wS_loadA (d := 58) (T := 26) (ad := ⟨b4, 0, none⟩) (vs := [.slice A1 (l1).length cap1]) (by kernel_rfl) vt26 (fun i u hu => box_cells F53 0 hu (by rfl)) ?_
  refine wS_store (T := 26) (g := b1) (o := 0) (ad := ⟨b1, 0, none⟩) (v := .agg #[.slice A1 (l1).length cap1]) (vs := [.slice A1 (l1).length cap1]) (by kernel_rfl) (by rfl) sz26 (by rfl) (by rfl) F52 (by simp only [List.length_cons, List.length_nil]; omega) ?_
  intro w24 F55 hc17
  replace F53 := F53.chg hc17 (dj1 (D4).symm)
  replace F54 := F54.chg hc17 (D43).symm
  replace hB := hB.inS hc17 (inLow (low1 G1))
  replace hZ := Nat.le_trans hZ hc17.size
  replace F55 : Cl w24 b1 26 [.slice A1 (l1).length cap1] := F55
  clear F52
  refine wS_end (by rfl) ?_
  refine eX_then ?_
  refine cW_ret ?_
  have hq : (some ((l1)) : Option (((List (List (Int)))))) = some _ := hm
  replace hq := someE hq
  subst hq
  refine eX_ret (vs := [.agg #[.slice A1 (l1).length cap1]]) [.cell 2 26] (by rfl) ⟨⟨⟨b1, 0, none⟩, by kernel_rfl, run_loadVarA (vs := [.slice A1 (l1).length cap1]) vt26 (fun i u hu => by exact box_cells F55 0 hu (by rfl))⟩, trivial⟩ ?_
  exact ⟨A1, cap1, fp1, fr1, rfl, F54, G14, hB⟩

set_option maxRecDepth 100000 in
/-- spec.l00In -/
theorem c_spec_l00In {w0 : World} {p0 : Int} {p1 : Int} {p2 : Int} {r : (Bool)} (hm : m_spec_l00In p0 p1 p2 = some r)  :
  Calls Try.prog 46 #[.int .i64 (p0), .int .i64 (p1), .int .i64 (p2)] w0 fun e w' => e = .returned (.bool (r)) ∧ Chg [] w0 w' := by
 have hB : Chg [] w0 w0 := Chg.refl _ _
 have hZ := Nat.le_refl w0.heap.size
 unfold m_spec_l00In at hm
 refine enterE (N := 15) Try.func46 (by rfl) Try.ntmps46 (by simp) [(0, .int .i64 (p0)), (1, .int .i64 (p1)), (2, .int .i64 (p2))] (by rfl) (by kernel_rfl) (fun a => ?_)
 refine cW_seq ?_
 refine cW_region ?_
 refine wS_pure 1 [(6, .bool (false))] (by kernel_rfl) ?_
 refine wS_end (by rfl) ?_
 refine eX_then ?_
 refine cW_seq ?_
 refine cW_region ?_
 refine wS_pure 4 [(10, .bool (decide (p0 ≥ p1))), (9, .bool (decide (p0 ≥ p1))), (8, .int .i64 (p1)), (7, .int .i64 (p0))] (by kernel_rfl) ?_
 refine wS_bool (decide (p0 ≥ p1)) (fun hb1 => ?_) (fun hb1 => ?_)
 ·have hm := condT hb1 hm
  rewrite [hb1]
  refine wS_pure 5 [(6, .bool (decide (p0 ≤ p2))), (14, .bool (decide (p0 ≤ p2))), (13, .bool (decide (p0 ≤ p2))), (12, .int .i64 (p2)), (11, .int .i64 (p0))] (by kernel_rfl) ?_
  refine wS_end (by rfl) ?_
  refine eX_then ?_
  refine cW_ret ?_
  have hq : (some (decide (p0 ≤ p2)) : Option ((Bool))) = some _ := hm
  replace hq := someE hq
  subst hq
  refine eX_ret (vs := [.bool (decide (p0 ≤ p2))]) [.tmp 6] (by rfl) ⟨by (show lkE _ _ _ = _); kernel_rfl, trivial⟩ ?_
  exact ⟨rfl, hB⟩
 ·have hm := condF hb1 hm
  rewrite [hb1]
  refine wS_pure 5 [(6, .bool (false)), (14, .bool (false)), (13, undef), (12, undef), (11, undef)] (by kernel_rfl) ?_
  refine wS_end (by rfl) ?_
  refine eX_then ?_
  refine cW_ret ?_
  have hq : (some false : Option ((Bool))) = some _ := hm
  replace hq := someE hq
  subst hq
  refine eX_ret (vs := [.bool (false)]) [.tmp 6] (by rfl) ⟨by (show lkE _ _ _ = _); kernel_rfl, trivial⟩ ?_
  exact ⟨rfl, hB⟩

set_option maxRecDepth 100000 in
/-- spec.l04Open -/
theorem c_spec_l04Open_bimplMaze {w0 : World} {l0_0 : List (List (Int))} {A0_0 : Option Addr} {cap0_0 : Nat} {fp0_0 : List Nat} {b0 : Nat} {p1_0 : Int} {p1_1 : Int} {r : (Bool)} (hm : m_spec_l04Open_bimplMaze l0_0 p1_0 p1_1 = some r) (F0_0 : SlR 1 encI w0 fp0_0 A0_0 l0_0) (F0 : Cl w0 b0 26 [.slice A0_0 (l0_0).length cap0_0]) :
  Calls Try.prog 27 #[.pointer (some ⟨b0, 0, none⟩), .agg #[.int .i64 (p1_0), .int .i64 (p1_1)]] w0 fun e w' => e = .returned (.bool (r)) ∧ Chg [] w0 w' := by
 have L0_0 := F0_0.low
 have L0 := lt1 F0.lt
 have hB : Chg [] w0 w0 := Chg.refl _ _
 have hZ := Nat.le_refl w0.heap.size
 unfold m_spec_l04Open_bimplMaze at hm
 refine enterE (N := 42) Try.func27 (by rfl) Try.ntmps27 (by simp) [(0, .pointer (some ⟨b0, 0, none⟩)), (1, .agg #[.int .i64 (p1_0), .int .i64 (p1_1)])] (by rfl) (by kernel_rfl) (fun a => ?_)
 refine cW_seq ?_
 refine cW_region ?_
 refine wS_box (d := 3) (T := 29) (x := .agg #[.int .i64 (p1_0), .int .i64 (p1_1)]) (by kernel_rfl) ?_
 intro b1 w1 G1 F1 hc1
 replace F1 : Cl w1 b1 29 [.int .i64 (p1_0), .int .i64 (p1_1)] := F1
 replace F0_0 := F0_0.chg hc1 Dj.nil
 replace F0 := F0.chg hc1 notNil
 replace hB := hB.inS hc1 inNil
 replace G1 := Nat.le_trans hZ G1
 replace hZ := Nat.le_trans hZ hc1.size
 refine wS_pure 1 [(4, .bool (false))] (by kernel_rfl) ?_
 refine wS_end (by rfl) ?_
 refine eX_then ?_
 refine cW_seq ?_
 refine cW_drawnTail [] 33 (by kernel_rfl) (by kernel_rfl) (fun w2 hc2 => ?_)
 replace F0_0 := F0_0.chg hc2 Dj.nil
 replace F0 := F0.chg hc2 notNil
 replace F1 := F1.chg hc2 notNil
 replace hB := hB.inS hc2 inNil
 replace hZ := Nat.le_trans hZ hc2.size
 have hS := Chg.refl [] w2
 have Z1 := F0_0
 have Z2 := F0
 have Z3 := F1
 refine wH_take [0] [0] [(5, .pointer (some ⟨b1, 1, none⟩))] (by kernel_rfl) (qT (qT qZ)) (by kernel_rfl) ?_
 refine wH_load1 (i := 1) (d := 6) (T := 2) (ad := ⟨b1, 1, none⟩) (v := .int .i64 (p1_1)) (by kernel_rfl) (qT (qT qZ)) (by kernel_rfl) (by kernel_rfl) vt2 (fun W hW => (Z3.chg hW notNil).cell 1) ?_
 refine wH_take [2, 3, 4] [4, 3, 2, 1, 0] [(9, .pointer (some ⟨b0, 0, none⟩)), (8, .pointer (some ⟨b0, 0, none⟩)), (7, .pointer (some ⟨b0, 0, none⟩))] (by kernel_rfl) (qT (qT qZ)) (by kernel_rfl) ?_
 refine wH_load1 (i := 5) (d := 10) (T := 24) (ad := ⟨b0, 0, none⟩) (v := .slice A0_0 (l0_0).length cap0_0) (by kernel_rfl) (qT (qT qZ)) (by kernel_rfl) (by kernel_rfl) vt24 (fun W hW => (Z2.chg hW notNil).cell 0) ?_
 refine wH_take [6, 7] [7, 6, 5, 4, 3, 2, 1, 0] [(12, .int .i64 (wr ((((l0_0).length : Int)) - 1))), (11, .int .i64 (((l0_0).length : Int)))] (by kernel_rfl) (qT (qT qZ)) (by kernel_rfl) ?_
 refine wH_all [8] (by rfl) (by kernel_rfl) (by simp) ⟨⟨by kernel_rfl, ?_⟩, trivial⟩
 obtain ⟨y1, hy1, hm⟩ := bindE hm
 refine wS_calls (d := 13) (f := 46) (vs := [.int .i64 (p1_1), .int .i64 (0), .int .i64 (wr ((((l0_0).length : Int)) - 1))]) (by kernel_rfl) ent46 (c_spec_l00In hy1) ?_
 rintro _ w3 ⟨rfl, hc3⟩
 replace F0_0 := F0_0.chg hc3 Dj.nil
 replace F0 := F0.chg hc3 notNil
 replace F1 := F1.chg hc3 notNil
 replace hB := hB.inS hc3 inNil
 have hSz := hS
 replace hS := hS.inS hc3 inNil
 replace hZ := Nat.le_trans hZ hc3.size
 refine ⟨.bool (y1), rfl, ?_⟩
 refine wS_end (by kernel_rfl) ?_
 refine eX_KH hS ?_
 refine wH_take [9] [9, 8, 7, 6, 5, 4, 3, 2, 1, 0] [(14, .bool (y1))] (by kernel_rfl) (qT (qT qZ)) (by kernel_rfl) ?_
 refine wH_bool y1 (fun hb1 => ?_) (fun hb1 => ?_)
 ·have hm := condT hb1 hm
  rewrite [hb1]
  refine wH_take [10] [10, 9, 8, 7, 6, 5, 4, 3, 2, 1, 0] [(15, .pointer (some ⟨b1, 0, none⟩))] (by kernel_rfl) (qT (qT qZ)) (by kernel_rfl) ?_
  refine wH_load1 (i := 11) (d := 16) (T := 2) (ad := ⟨b1, 0, none⟩) (v := .int .i64 (p1_0)) (by kernel_rfl) (qT (qT qZ)) (by kernel_rfl) (by kernel_rfl) vt2 (fun W hW => (Z3.chg hW notNil).cell 0) ?_
  refine wH_take [12, 13, 14] [14, 13, 12, 11, 10, 9, 8, 7, 6, 5, 4, 3, 2, 1, 0] [(19, .pointer (some ⟨b0, 0, none⟩)), (18, .pointer (some ⟨b0, 0, none⟩)), (17, .pointer (some ⟨b0, 0, none⟩))] (by kernel_rfl) (qT (qT qZ)) (by kernel_rfl) ?_
  refine wH_load1 (i := 15) (d := 20) (T := 24) (ad := ⟨b0, 0, none⟩) (v := .slice A0_0 (l0_0).length cap0_0) (by kernel_rfl) (qT (qT qZ)) (by kernel_rfl) (by kernel_rfl) vt24 (fun W hW => (Z2.chg hW notNil).cell 0) ?_
  obtain ⟨x1, hx1, hm⟩ := bindE hm
  refine wH_idx (i := 16) (d := 21) (T := 24) (A := A0_0) (n := (l0_0).length) (cap := cap0_0) (kd := .i64) (m := 0) (by kernel_rfl) (qT (qT qZ)) (by kernel_rfl) (by kernel_rfl) sl24 (F0_0.is hx1) ?_
  obtain ⟨A1, cap1, hc4, F2, K1⟩ := SlR.row Z1 hx1
  have F3 := F2.chg hS Dj.nil
  refine wH_load1 (i := 17) (d := 22) (T := 38) (ad := (elA A0_0 1 (0) 0)) (v := .slice A1 (x1).length cap1) (by kernel_rfl) (qT (qT qZ)) (by kernel_rfl) (by kernel_rfl) vt38 (fun W hW => hW.keep hc4) ?_
  refine wH_take [18, 19] [19, 18, 17, 16, 15, 14, 13, 12, 11, 10, 9, 8, 7, 6, 5, 4, 3, 2, 1, 0] [(24, .int .i64 (wr ((((x1).length : Int)) - 1))), (23, .int .i64 (((x1).length : Int)))] (by kernel_rfl) (qT (qT qZ)) (by kernel_rfl) ?_
  refine wH_all [20] (by rfl) (by kernel_rfl) (by simp) ⟨⟨by kernel_rfl, ?_⟩, trivial⟩
  obtain ⟨y2, hy2, hm⟩ := bindE hm
  refine wS_calls (d := 25) (f := 46) (vs := [.int .i64 (p1_0), .int .i64 (0), .int .i64 (wr ((((x1).length : Int)) - 1))]) (by kernel_rfl) ent46 (c_spec_l00In hy2) ?_
  rintro _ w4 ⟨rfl, hc5⟩
  replace F0_0 := F0_0.chg hc5 Dj.nil
  replace F0 := F0.chg hc5 notNil
  replace F1 := F1.chg hc5 notNil
  replace F3 := F3.chg hc5 Dj.nil
  replace hB := hB.inS hc5 inNil
  have hSz := hS
  replace hS := hS.inS hc5 inNil
  replace hZ := Nat.le_trans hZ hc5.size
  refine ⟨.bool (y2), rfl, ?_⟩
  refine wS_end (by kernel_rfl) ?_
  refine eX_KH hS ?_
  refine wH_take [21, 22] [22, 21, 20, 19, 18, 17, 16, 15, 14, 13, 12, 11, 10, 9, 8, 7, 6, 5, 4, 3, 2, 1, 0] [(27, .bool (y2)), (26, .bool (y2))] (by kernel_rfl) (qT (qT qZ)) (by kernel_rfl) ?_
  refine wH_bool y2 (fun hb2 => ?_) (fun hb2 => ?_)
  ·have hm := condT hb2 hm
   rewrite [hb2]
   refine wH_take [23, 24, 25] [25, 24, 23, 22, 21, 20, 19, 18, 17, 16, 15, 14, 13, 12, 11, 10, 9, 8, 7, 6, 5, 4, 3, 2, 1, 0] [(30, .pointer (some ⟨b0, 0, none⟩)), (29, .pointer (some ⟨b0, 0, none⟩)), (28, .pointer (some ⟨b0, 0, none⟩))] (by kernel_rfl) (qT (qT qZ)) (by kernel_rfl) ?_
   refine wH_load1 (i := 26) (d := 31) (T := 24) (ad := ⟨b0, 0, none⟩) (v := .slice A0_0 (l0_0).length cap0_0) (by kernel_rfl) (qT (qT qZ)) (by kernel_rfl) (by kernel_rfl) vt24 (fun W hW => (Z2.chg hW notNil).cell 0) ?_
   refine wH_take [27] [27, 26, 25, 24, 23, 22, 21, 20, 19, 18, 17, 16, 15, 14, 13, 12, 11, 10, 9, 8, 7, 6, 5, 4, 3, 2, 1, 0] [(32, .pointer (some ⟨b1, 1, none⟩))] (by kernel_rfl) (qT (qT qZ)) (by kernel_rfl) ?_
   refine wH_load1 (i := 28) (d := 33) (T := 2) (ad := ⟨b1, 1, none⟩) (v := .int .i64 (p1_1)) (by kernel_rfl) (qT (qT qZ)) (by kernel_rfl) (by kernel_rfl) vt2 (fun W hW => (Z3.chg hW notNil).cell 1) ?_
   obtain ⟨x2, hx2, hm⟩ := bindE hm
   refine wH_idx (i := 29) (d := 34) (T := 24) (A := A0_0) (n := (l0_0).length) (cap := cap0_0) (kd := .i64) (m := p1_1) (by kernel_rfl) (qT (qT qZ)) (by kernel_rfl) (by kernel_rfl) sl24 (F0_0.is hx2) ?_
   obtain ⟨A2, cap2, hc6, F4, K2⟩ := SlR.row Z1 hx2
   have F5 := F4.chg hS Dj.nil
   refine wH_load1 (i := 30) (d := 35) (T := 38) (ad := (elA A0_0 1 (p1_1) 0)) (v := .slice A2 (x2).length cap2) (by kernel_rfl) (qT (qT qZ)) (by kernel_rfl) (by kernel_rfl) vt38 (fun W hW => hW.keep hc6) ?_
   refine wH_take [31] [31, 30, 29, 28, 27, 26, 25, 24, 23, 22, 21, 20, 19, 18, 17, 16, 15, 14, 13, 12, 11, 10, 9, 8, 7, 6, 5, 4, 3, 2, 1, 0] [(36, .pointer (some ⟨b1, 0, none⟩))] (by kernel_rfl) (qT (qT qZ)) (by kernel_rfl) ?_
   refine wH_load1 (i := 32) (d := 37) (T := 2) (ad := ⟨b1, 0, none⟩) (v := .int .i64 (p1_0)) (by kernel_rfl) (qT (qT qZ)) (by kernel_rfl) (by kernel_rfl) vt2 (fun W hW => (Z3.chg hW notNil).cell 0) ?_
   refine wH_done (by kernel_rfl) ?_
   refine eX_tail ?_
   obtain ⟨x3, hx3, hm⟩ := bindE hm
   refine wS_idx (d := 38) (T := 38) (A := A2) (n := (x2).length) (cap := cap2) (kd := .i64) (m := p1_0) (by kernel_rfl) sl38 (F5.is hx3) ?_
   refine wS_load1 (d := 39) (T := 2) (ad := (elA A2 1 (p1_0) 0)) (v := .int .i64 (x3)) (by kernel_rfl) vt2 (Sl.cell F5 hx3 0 (by rfl)) ?_
   refine wS_pure 3 [(4, .bool (decide (x3 > 0))), (41, .bool (decide (x3 > 0))), (40, .bool (decide (x3 > 0)))] (by kernel_rfl) ?_
   refine wS_end (by rfl) ?_
   refine eX_then ?_
   refine cW_prune [(4, .bool (decide (x3 > 0)))] (by kernel_rfl) (by kernel_rfl) (fun a1 => ?_)
   refine cW_ret ?_
   have hq : (some (decide (x3 > 0)) : Option ((Bool))) = some _ := hm
   replace hq := someE hq
   subst hq
   refine eX_ret (vs := [.bool (decide (x3 > 0))]) [.tmp 4] (by rfl) ⟨by (show lkE _ _ _ = _); kernel_rfl, trivial⟩ ?_
   exact ⟨rfl, hB⟩
  ·have hm := condF hb2 hm
   rewrite [hb2]
   refine wH_take [23, 24, 25, 26, 27, 28, 29, 30, 31, 32] [32, 31, 30, 29, 28, 27, 26, 25, 24, 23, 22, 21, 20, 19, 18, 17, 16, 15, 14, 13, 12, 11, 10, 9, 8, 7, 6, 5, 4, 3, 2, 1, 0] [(37, undef), (36, undef), (35, undef), (34, undef), (33, undef), (32, undef), (31, undef), (30, undef), (29, undef), (28, undef)] (by kernel_rfl) (qT (qT qZ)) (by kernel_rfl) ?_
   refine wH_done (by kernel_rfl) ?_
   refine eX_tail ?_
   refine wS_pure 5 [(4, .bool (false)), (41, .bool (false)), (40, undef), (39, undef), (38, undef)] (by kernel_rfl) ?_
   refine wS_end (by rfl) ?_
   refine eX_then ?_
   refine cW_prune [(4, .bool (false))] (by kernel_rfl) (by kernel_rfl) (fun a2 => ?_)
   refine cW_ret ?_
   have hq : (some false : Option ((Bool))) = some _ := hm
   replace hq := someE hq
   subst hq
   refine eX_ret (vs := [.bool (false)]) [.tmp 4] (by rfl) ⟨by (show lkE _ _ _ = _); kernel_rfl, trivial⟩ ?_
   exact ⟨rfl, hB⟩
 ·have hm := condF hb1 hm
  rewrite [hb1]
  refine wH_take [10, 11, 12, 13, 14, 15, 16, 17, 18, 19, 20, 21, 22, 23, 24, 25, 26, 27, 28, 29, 30, 31, 32] [32, 31, 30, 29, 28, 27, 26, 25, 24, 23, 22, 21, 20, 19, 18, 17, 16, 15, 14, 13, 12, 11, 10, 9, 8, 7, 6, 5, 4, 3, 2, 1, 0] [(37, undef), (36, undef), (35, undef), (34, undef), (33, undef), (32, undef), (31, undef), (30, undef), (29, undef), (28, undef), (27, .bool (false)), (26, .bool (false)), (25, undef), (24, undef), (23, undef), (22, undef), (21, undef), (20, undef), (19, undef), (18, undef), (17, undef), (16, undef), (15, undef)] (by kernel_rfl) (qT (qT qZ)) (by kernel_rfl) ?_
  refine wH_done (by kernel_rfl) ?_
  refine eX_tail ?_
  refine wS_pure 5 [(4, .bool (false)), (41, .bool (false)), (40, undef), (39, undef), (38, undef)] (by kernel_rfl) ?_
  refine wS_end (by rfl) ?_
  refine eX_then ?_
  refine cW_prune [(4, .bool (false))] (by kernel_rfl) (by kernel_rfl) (fun a3 => ?_)
  refine cW_ret ?_
  have hq : (some false : Option ((Bool))) = some _ := hm
  replace hq := someE hq
  subst hq
  refine eX_ret (vs := [.bool (false)]) [.tmp 4] (by rfl) ⟨by (show lkE _ _ _ = _); kernel_rfl, trivial⟩ ?_
  exact ⟨rfl, hB⟩

set_option maxRecDepth 100000 in
/-- spec.R8Open -/
theorem c_spec_R8Open {w0 : World} {l0 : List (Int)} {A0 : Option Addr} {cap0 : Nat} {fp0 : List Nat} {l1_0 : List (List (Int))} {A1_0 : Option Addr} {cap1_0 : Nat} {fp1_0 : List Nat} {r : (Int × Int)} (hm : m_spec_R8Open l0 l1_0 = some r) (F0 : Sl 1 encU w0 fp0 A0 l0) (F1_0 : SlR 1 encI w0 fp1_0 A1_0 l1_0) :
  Calls Try.prog 8 #[.slice A0 (l0).length cap0, .agg #[.slice A1_0 (l1_0).length cap1_0]] w0 fun e w' => e = .returned (.agg #[.int .i64 (r.1), .int .i64 (r.2)]) ∧ Chg [] w0 w' := by
 have L0 := F0.low
 have L1_0 := F1_0.low
 have hB : Chg [] w0 w0 := Chg.refl _ _
 have hZ := Nat.le_refl w0.heap.size
 unfold m_spec_R8Open at hm
 refine enterE (N := 32) Try.func8 (by rfl) Try.ntmps8 (by simp) [(0, .slice A0 (l0).length cap0), (1, .agg #[.slice A1_0 (l1_0).length cap1_0])] (by rfl) (by kernel_rfl) (fun a => ?_)
 refine cW_seq ?_
 refine cW_region ?_
 refine wS_box (d := 3) (T := 26) (x := .agg #[.slice A1_0 (l1_0).length cap1_0]) (by kernel_rfl) ?_
 intro b1 w1 G1 F1 hc1
 replace F1 : Cl w1 b1 26 [.slice A1_0 (l1_0).length cap1_0] := F1
 replace F0 := F0.chg hc1 Dj.nil
 replace F1_0 := F1_0.chg hc1 Dj.nil
 replace hB := hB.inS hc1 inNil
 replace G1 := Nat.le_trans hZ G1
 replace hZ := Nat.le_trans hZ hc1.size
 refine wS_alloc (d := 4) (T := 29) (z := .agg #[.int .i64 (0), .int .i64 (0)]) (by kernel_rfl) (by kernel_rfl) ?_
 intro b2 w2 G2 F2 hc2
 replace F2 : Cl w2 b2 29 [.int .i64 (0), .int .i64 (0)] := F2
 have D1 : Dj [b1] [b2] := Dj.of (lt1 F1.lt) (low1 G2)
 replace F0 := F0.chg hc2 Dj.nil
 replace F1_0 := F1_0.chg hc2 Dj.nil
 replace F1 := F1.chg hc2 notNil
 replace hB := hB.inS hc2 inNil
 replace G2 := Nat.le_trans hZ G2
 replace hZ := Nat.le_trans hZ hc2.size
 refine wS_end (by rfl) ?_
 refine eX_then ?_
 refine cW_seq ?_
 refine cW_region ?_
 refine wS_pure 1 [(8, .slice A0 (l0).length cap0)] (by kernel_rfl) ?_
 obtain ⟨y1, hy1, hm⟩ := bindE hm
 refine wS_calls (d := 9) (f := 24) (vs := [.slice A0 (l0).length cap0]) (by kernel_rfl) ent24 (c_spec_l00From hy1 F0) ?_
 rintro _ w3 ⟨b3, rfl, F3, G3, hc3⟩
 have D2 : Dj [b1] [b3] := Dj.of (lt1 F1.lt) (low1 G3)
 have D3 : Dj [b2] [b3] := Dj.of (lt1 F2.lt) (low1 G3)
 replace F0 := F0.chg hc3 Dj.nil
 replace F1_0 := F1_0.chg hc3 Dj.nil
 replace F1 := F1.chg hc3 notNil
 replace F2 := F2.chg hc3 notNil
 replace hB := hB.inS hc3 inNil
 replace G3 := Nat.le_trans hZ G3
 replace hZ := Nat.le_trans hZ hc3.size
 refine ⟨.pointer (some ⟨b3, 0, none⟩), rfl, ?_⟩
 refine wS_pure 1 [(5, .pointer (some ⟨b3, 0, none⟩))] (by kernel_rfl) ?_
 refine wS_end (by rfl) ?_
 refine eX_then ?_
 refine cW_seq ?_
 refine cW_seq ?_
 refine cW_region ?_
 refine wS_pure 1 [(6, .int .i64 (0))] (by kernel_rfl) ?_
 refine wS_end (by rfl) ?_
 refine eX_then ?_
 obtain ⟨r1, hr1, hm⟩ := bindE hm
 have hm1 := hm
 refine cW_cut (fun a' w' => Sum.inl (()) = r1 ∧ Fr 32 [(4, .pointer (some ⟨b2, 0, none⟩))] a' ∧ Cl w' b2 29 [.int .i64 (0), .int .i64 (0)] ∧ Chg [] w0 w' ∧ w0.heap.size ≤ w'.heap.size) ?_ ?_
 ·refine cW_block ?_
  refine cW_loop _ (fun (s1 : Int × Int × Int) a' w' => ∃ x1 : Int, ∃ x2 : Int, ∃ x3 : Int, (x1, x2, x3) = s1 ∧ Fr 32 [(3, .pointer (some ⟨b1, 0, none⟩)), (4, .pointer (some ⟨b2, 0, none⟩)), (5, .pointer (some ⟨b3, 0, none⟩)), (6, .int .i64 (x1))] a' ∧ Sl 1 encU w' fp0 A0 l0 ∧ SlR 1 encI w' fp1_0 A1_0 l1_0 ∧ Cl w' b1 26 [.slice A1_0 (l1_0).length cap1_0] ∧ Cl w' b2 29 [.int .i64 (0), .int .i64 (0)] ∧ Cl w' b3 81 [.slice A0 (l0).length cap0, .int .i64 (x2), .int .u64 (x3)] ∧ Chg [] w0 w' ∧ w0.heap.size ≤ w'.heap.size) hr1 (fun hst => ⟨0, y1.1, y1.2, rfl, Fr.of hst (by kernel_rfl), F0, F1_0, F1, F2, F3, hB, hZ⟩) ?_
  rintro _ c1 a' w4 ⟨x1, x2, x3, rfl, hF1, F4, F5, F6, F7, F8, hB, hZ⟩ hx1
  refine Fr.goOn hF1 (by kernel_rfl) ?_
  have hm := hx1
  unfold m_spec_R8Open_s1 at hm
  refine cW_seq ?_
  refine cW_seq ?_
  refine cW_region ?_
  refine wS_pure 2 [(11, .bool (decide (x1 < 8))), (10, .int .i64 (x1))] (by kernel_rfl) ?_
  refine wS_end (by rfl) ?_
  refine eX_then ?_
  refine cW_cond (t := decide (x1 < 8)) (by kernel_rfl) (fun hb1 => ?_) (fun hb1 => ?_)
  ·have hm := condT hb1 hm
   refine cW_skip ?_
   refine eX_then ?_
   refine cW_seq ?_
   refine cW_block ?_
   refine cW_seq ?_
   refine cW_region ?_
   refine wS_pure 2 [(15, .pointer (some ⟨b1, 0, none⟩)), (14, .pointer (some ⟨b3, 0, none⟩))] (by kernel_rfl) ?_
   refine wS_load1 (d := 16) (T := 24) (ad := ⟨b1, 0, none⟩) (v := .slice A1_0 (l1_0).length cap1_0) (by kernel_rfl) vt24 ((F6).cell 0) ?_
   obtain ⟨x4, hx2, hm⟩ := bindE hm
   refine wS_idx (d := 17) (T := 24) (A := A1_0) (n := (l1_0).length) (cap := cap1_0) (kd := .i64) (m := 0) (by kernel_rfl) sl24 (F5.is hx2) ?_
   obtain ⟨A1, cap1, hc4, F9, K1⟩ := SlR.row F5 hx2
   refine wS_load1 (d := 18) (T := 38) (ad := (elA A1_0 1 (0) 0)) (v := .slice A1 (x4).length cap1) (by kernel_rfl) vt38 hc4 ?_
   refine wS_pure 1 [(19, .int .i64 (((x4).length : Int)))] (by kernel_rfl) ?_
   obtain ⟨y2, hy2, hm⟩ := bindE hm
   refine wS_calls (d := 20) (f := 25) (vs := [.pointer (some ⟨b3, 0, none⟩), .int .i64 (((x4).length : Int))]) (by kernel_rfl) ent25 (c_spec_l00Src_pick_bspecl00Src hy2 F4 F8 (Dj.of L0 (low1 G3)).symm) ?_
   rintro _ w5 ⟨rfl, F10, hc5⟩
   replace F4 := F4.chg hc5 (Dj.app (Dj.of L0 (low1 G3)) Dj.nil)
   replace F5 := F5.chg hc5 (Dj.app (Dj.of L1_0 (low1 G3)) Dj.nil)
   replace F6 := F6.chg hc5 (dj1 (Dj.app D2 Dj.nil))
   replace F7 := F7.chg hc5 (dj1 (Dj.app D3 Dj.nil))
   replace F9 := F9.chg hc5 (Dj.app (Dj.of L1_0 (low1 G3)) Dj.nil)
   replace hB := hB.inS hc5 (inApp (inLow (low1 G3)) inNil)
   replace hZ := Nat.le_trans hZ hc5.size
   clear F8
   refine ⟨.int .i64 (y2.1), rfl, ?_⟩
   refine wS_pure 1 [(21, .agg #[.int .i64 (y2.1), .int .i64 (0)])] (by kernel_rfl) ?_
   refine wS_alloc (d := 7) (T := 29) (z := .agg #[.int .i64 (0), .int .i64 (0)]) (by kernel_rfl) (by kernel_rfl) ?_
   intro b4 w6 G4 F11 hc6
   replace F11 : Cl w6 b4 29 [.int .i64 (0), .int .i64 (0)] := F11
   have D4 : Dj [b1] [b4] := Dj.of (lt1 F6.lt) (low1 G4)
   have D5 : Dj [b2] [b4] := Dj.of (lt1 F7.lt) (low1 G4)
   have D6 : Dj [b3] [b4] := Dj.of (lt1 F10.lt) (low1 G4)
   replace F4 := F4.chg hc6 Dj.nil
   replace F5 := F5.chg hc6 Dj.nil
   replace F6 := F6.chg hc6 notNil
   replace F7 := F7.chg hc6 notNil
   replace F10 := F10.chg hc6 notNil
   replace F9 := F9.chg hc6 Dj.nil
   replace hB := hB.inS hc6 inNil
   replace G4 := Nat.le_trans hZ G4
   replace hZ := Nat.le_trans hZ hc6.size
   refine wS_store (T := 29) (g := b4) (o := 0) (ad := ⟨b4, 0, none⟩) (v := .agg #[.int .i64 (y2.1), .int .i64 (0)]) (vs := [.int .i64 (y2.1), .int .i64 (0)]) (by kernel_rfl) (by rfl) sz29 (by rfl) (by rfl) F11 (by simp only [List.length_cons, List.length_nil]; omega) ?_
   intro w7 F12 hc7
   replace F4 := F4.chg hc7 (Dj.of L0 (low1 G4))
   replace F5 := F5.chg hc7 (Dj.of L1_0 (low1 G4))
   replace F6 := F6.chg hc7 (dj1 D4)
   replace F7 := F7.chg hc7 (dj1 D5)
   replace F10 := F10.chg hc7 (dj1 D6)
   replace F9 := F9.chg hc7 (Dj.of L1_0 (low1 G4))
   replace hB := hB.inS hc7 (inLow (low1 G4))
   replace hZ := Nat.le_trans hZ hc7.size
   replace F12 : Cl w7 b4 29 [.int .i64 (y2.1), .int .i64 (0)] := F12
   clear F11
   refine wS_end (by rfl) ?_
   refine eX_then ?_
   refine cW_seq ?_
   refine cW_region ?_
   refine wS_pure 2 [(23, .pointer (some ⟨b1, 0, none⟩)), (22, .pointer (some ⟨b3, 0, none⟩))] (by kernel_rfl) ?_
   refine wS_load1 (d := 24) (T := 24) (ad := ⟨b1, 0, none⟩) (v := .slice A1_0 (l1_0).length cap1_0) (by kernel_rfl) vt24 ((F6).cell 0) ?_
   refine wS_pure 1 [(25, .int .i64 (((l1_0).length : Int)))] (by kernel_rfl) ?_
   obtain ⟨y3, hy3, hm⟩ := bindE hm
   refine wS_calls (d := 26) (f := 25) (vs := [.pointer (some ⟨b3, 0, none⟩), .int .i64 (((l1_0).length : Int))]) (by kernel_rfl) ent25 (c_spec_l00Src_pick_bspecl00Src hy3 F4 F10 (Dj.of L0 (low1 G3)).symm) ?_
   rintro _ w8 ⟨rfl, F13, hc8⟩
   replace F4 := F4.chg hc8 (Dj.app (Dj.of L0 (low1 G3)) Dj.nil)
   replace F5 := F5.chg hc8 (Dj.app (Dj.of L1_0 (low1 G3)) Dj.nil)
   replace F6 := F6.chg hc8 (dj1 (Dj.app D2 Dj.nil))
   replace F7 := F7.chg hc8 (dj1 (Dj.app D3 Dj.nil))
   replace F9 := F9.chg hc8 (Dj.app (Dj.of L1_0 (low1 G3)) Dj.nil)
   replace F12 := F12.chg hc8 (dj1 (Dj.app (D6).symm Dj.nil))
   replace hB := hB.inS hc8 (inApp (inLow (low1 G3)) inNil)
   replace hZ := Nat.le_trans hZ hc8.size
   clear F10
   refine ⟨.int .i64 (y3.1), rfl, ?_⟩
   refine wS_pure 1 [(27, .pointer (some ⟨b4, 1, none⟩))] (by kernel_rfl) ?_
   refine wS_store (T := 2) (g := b4) (o := 1) (ad := ⟨b4, 1, none⟩) (v := .int .i64 (y3.1)) (vs := [.int .i64 (y3.1)]) (by kernel_rfl) (by rfl) sz2 (by rfl) (by rfl) F12 (by simp only [List.length_cons, List.length_nil]; omega) ?_
   intro w9 F14 hc9
   replace F4 := F4.chg hc9 (Dj.of L0 (low1 G4))
   replace F5 := F5.chg hc9 (Dj.of L1_0 (low1 G4))
   replace F6 := F6.chg hc9 (dj1 D4)
   replace F7 := F7.chg hc9 (dj1 D5)
   replace F13 := F13.chg hc9 (dj1 D6)
   replace F9 := F9.chg hc9 (Dj.of L1_0 (low1 G4))
   replace hB := hB.inS hc9 (inLow (low1 G4))
   replace hZ := Nat.le_trans hZ hc9.size
   replace F14 : Cl w9 b4 29 [.int .i64 (y2.1), .int .i64 (y3.1)] := F14
   clear F12
   refine wS_end (by rfl) ?_
   refine eX_then ?_
   refine cW_seq ?_
   refine cW_region ?_
   refine wS_loadA (d := 28) (T := 29) (ad := ⟨b4, 0, none⟩) (vs := [.int .i64 (y2.1), .int .i64 (y3.1)]) (by kernel_rfl) vt29 (fun i u hu => box_cells F14 0 hu (by rfl)) ?_
   obtain ⟨y4, hy4, hm⟩ := bindE hm
   refine wS_calls (d := 29) (f := 27) (vs := [.pointer (some ⟨b1, 0, none⟩), .agg #[.int .i64 (y2.1), .int .i64 (y3.1)]]) (by kernel_rfl) ent27 (c_spec_l04Open_bimplMaze hy4 F5 F6) ?_
   rintro _ w10 ⟨rfl, hc10⟩
   replace F4 := F4.chg hc10 Dj.nil
   replace F5 := F5.chg hc10 Dj.nil
   replace F6 := F6.chg hc10 notNil
   replace F7 := F7.chg hc10 notNil
   replace F13 := F13.chg hc10 notNil
   replace F9 := F9.chg hc10 Dj.nil
   replace F14 := F14.chg hc10 notNil
   replace hB := hB.inS hc10 inNil
   replace hZ := Nat.le_trans hZ hc10.size
   refine ⟨.bool (y4), rfl, ?_⟩
   refine wS_end (by rfl) ?_
   refine eX_then ?_
   refine cW_cond (t := y4) (by kernel_rfl) (fun hb2 => ?_) (fun hb2 => ?_)
   ·have hm := condT hb2 hm
    refine cW_seq ?_
    refine cW_region ?_
    refine wS_loadA (d := 30) (T := 29) (ad := ⟨b4, 0, none⟩) (vs := [.int .i64 (y2.1), .int .i64 (y3.1)]) (by kernel_rfl) vt29 (fun i u hu => box_cells F14 0 hu (by rfl)) ?_
    refine wS_store (T := 29) (g := b2) (o := 0) (ad := ⟨b2, 0, none⟩) (v := .agg #[.int .i64 (y2.1), .int .i64 (y3.1)]) (vs := [.int .i64 (y2.1), .int .i64 (y3.1)]) (by kernel_rfl) (by rfl) sz29 (by rfl) (by rfl) F7 (by simp only [List.length_cons, List.length_nil]; omega) ?_
    intro w11 F15 hc11
    replace F4 := F4.chg hc11 (Dj.of L0 (low1 G2))
    replace F5 := F5.chg hc11 (Dj.of L1_0 (low1 G2))
    replace F6 := F6.chg hc11 (dj1 D1)
    replace F13 := F13.chg hc11 (dj1 (D3).symm)
    replace F9 := F9.chg hc11 (Dj.of L1_0 (low1 G2))
    replace F14 := F14.chg hc11 (dj1 (D5).symm)
    replace hB := hB.inS hc11 (inLow (low1 G2))
    replace hZ := Nat.le_trans hZ hc11.size
    replace F15 : Cl w11 b2 29 [.int .i64 (y2.1), .int .i64 (y3.1)] := F15
    clear F7
    refine wS_end (by rfl) ?_
    refine eX_then ?_
    refine cW_prune [(4, .pointer (some ⟨b2, 0, none⟩))] (by kernel_rfl) (by kernel_rfl) (fun a1 => ?_)
    refine cW_ret ?_
    refine eX_block_ret ?_
    refine eX_then_ret ?_
    have hq : (some (Ctl.out (Sum.inr ((y2.1, y3.1)))) : Option (Ctl (Int × Int × Int) (Sum (Unit) ((Int × Int))))) = some _ := hm
    replace hq := someE hq
    subst hq
    refine eX_outR hx1 (fun hr => ?_)
    subst hr
    refine eX_block_ret ?_
    refine eX_then_ret ?_
    refine eX_then_ret ?_
    have hq : (some ((y2.1, y3.1)) : Option ((Int × Int))) = some _ := hm1
    replace hq := someE hq
    subst hq
    refine eX_ret (vs := [.agg #[.int .i64 (y2.1), .int .i64 (y3.1)]]) [.cell 4 29] (by rfl) ⟨⟨⟨b2, 0, none⟩, by kernel_rfl, run_loadVarA (vs := [.int .i64 (y2.1), .int .i64 (y3.1)]) vt29 (fun i u hu => by exact box_cells F15 0 hu (by rfl))⟩, trivial⟩ ?_
    exact ⟨rfl, hB⟩
   ·have hm := condF hb2 hm
    refine cW_skip ?_
    refine eX_block ?_
    refine eX_then ?_
    refine cW_region ?_
    refine wS_pure 3 [(6, .int .i64 (wr (x1 + 1))), (13, .int .i64 (wr (x1 + 1))), (12, .int .i64 (x1))] (by kernel_rfl) ?_
    refine wS_end (by rfl) ?_
    have hq : (some (Ctl.next ((wr (x1 + 1), y3.2.1, y3.2.2))) : Option (Ctl (Int × Int × Int) (Sum (Unit) ((Int × Int))))) = some _ := hm
    replace hq := someE hq
    subst hq
    exact eX_next hx1 (fun hst => ⟨wr (x1 + 1), y3.2.1, y3.2.2, rfl, Fr.of hst (by kernel_rfl), F4, F5, F6, F7, F13, hB, hZ⟩)
  ·have hm := condF hb1 hm
   refine cW_exit ?_
   refine eX_then_exit ?_
   have hq : (some (Ctl.out (Sum.inl (()))) : Option (Ctl (Int × Int × Int) (Sum (Unit) ((Int × Int))))) = some _ := hm
   replace hq := someE hq
   subst hq
   refine eX_outX hx1 (fun hr2 => ?_)
   replace hr2 := hr2.symm
   subst hr2
   refine eX_block_hit ?_
   exact eX_J (fun hst => ⟨rfl, Fr.of hst (by kernel_rfl), F7, hB, hZ⟩)
 ·rintro a' w12 ⟨hJ, hF2, F16, hB, hZ⟩
  subst hJ
  refine Fr.goX hF2 (by kernel_rfl) ?_
  refine eX_then ?_
  refine cW_seq ?_
  refine cW_region ?_
  refine wS_pure 1 [(31, .agg #[.int .i64 (0), .int .i64 (0)])] (by kernel_rfl) ?_
  refine wS_store (T := 29) (g := b2) (o := 0) (ad := ⟨b2, 0, none⟩) (v := .agg #[.int .i64 (0), .int .i64 (0)]) (vs := [.int .i64 (0), .int .i64 (0)]) (by kernel_rfl) (by rfl) sz29 (by rfl) (by rfl) F16 (by simp only [List.length_cons, List.length_nil]; omega) ?_
  intro w13 F17 hc12
  replace hB := hB.inS hc12 (inLow (low1 G2))
  replace hZ := Nat.le_trans hZ hc12.size
  replace F17 : Cl w13 b2 29 [.int .i64 (0), .int .i64 (0)] := F17
  clear F16
  refine wS_end (by rfl) ?_
  refine eX_then ?_
  refine cW_ret ?_
  have hq : (some ((0, 0)) : Option ((Int × Int))) = some _ := hm
  replace hq := someE hq
  subst hq
  refine eX_ret (vs := [.agg #[.int .i64 (0), .int .i64 (0)]]) [.cell 4 29] (by rfl) ⟨⟨⟨b2, 0, none⟩, by kernel_rfl, run_loadVarA (vs := [.int .i64 (0), .int .i64 (0)]) vt29 (fun i u hu => by exact box_cells F17 0 hu (by rfl))⟩, trivial⟩ ?_
  exact ⟨rfl, hB⟩

set_option maxRecDepth 100000 in
/-- impl.in -/
theorem c_impl_in {w0 : World} {p0 : Int} {p1 : Int} {p2 : Int} {r : (Bool)} (hm : m_impl_in p0 p1 p2 = some r)  :
  Calls Try.prog 50 #[.int .i64 (p0), .int .i64 (p1), .int .i64 (p2)] w0 fun e w' => e = .returned (.bool (r)) ∧ Chg [] w0 w' := by
 have hB : Chg [] w0 w0 := Chg.refl _ _
 have hZ := Nat.le_refl w0.heap.size
 unfold m_impl_in at hm
 refine enterE (N := 15) Try.func50 (by rfl) Try.ntmps50 (by simp) [(0, .int .i64 (p0)), (1, .int .i64 (p1)), (2, .int .i64 (p2))] (by rfl) (by kernel_rfl) (fun a => ?_)
 refine cW_seq ?_
 refine cW_region ?_
 refine wS_pure 1 [(6, .bool (false))] (by kernel_rfl) ?_
 refine wS_end (by rfl) ?_
 refine eX_then ?_
 refine cW_seq ?_
 refine cW_region ?_
 refine wS_pure 4 [(10, .bool (decide (p0 ≥ p1))), (9, .bool (decide (p0 ≥ p1))), (8, .int .i64 (p1)), (7, .int .i64 (p0))] (by kernel_rfl) ?_
 refine wS_bool (decide (p0 ≥ p1)) (fun hb1 => ?_) (fun hb1 => ?_)
 ·have hm := condT hb1 hm
  rewrite [hb1]
  refine wS_pure 5 [(6, .bool (decide (p0 ≤ p2))), (14, .bool (decide (p0 ≤ p2))), (13, .bool (decide (p0 ≤ p2))), (12, .int .i64 (p2)), (11, .int .i64 (p0))] (by kernel_rfl) ?_
  refine wS_end (by rfl) ?_
  refine eX_then ?_
  refine cW_ret ?_
  have hq : (some (decide (p0 ≤ p2)) : Option ((Bool))) = some _ := hm
  replace hq := someE hq
  subst hq
  refine eX_ret (vs := [.bool (decide (p0 ≤ p2))]) [.tmp 6] (by rfl) ⟨by (show lkE _ _ _ = _); kernel_rfl, trivial⟩ ?_
  exact ⟨rfl, hB⟩
 ·have hm := condF hb1 hm
  rewrite [hb1]
  refine wS_pure 5 [(6, .bool (false)), (14, .bool (false)), (13, undef), (12, undef), (11, undef)] (by kernel_rfl) ?_
  refine wS_end (by rfl) ?_
  refine eX_then ?_
  refine cW_ret ?_
  have hq : (some false : Option ((Bool))) = some _ := hm
  replace hq := someE hq
  subst hq
  refine eX_ret (vs := [.bool (false)]) [.tmp 6] (by rfl) ⟨by (show lkE _ _ _ = _); kernel_rfl, trivial⟩ ?_
  exact ⟨rfl, hB⟩

set_option maxRecDepth 100000 in
/-- impl.ValidMaze$1 -/
theorem c_impl_ValidMaze_1 {w0 : World} {p0 : Int} {r : (Bool)} (hm : m_impl_ValidMaze_1 p0 = some r)  :
  Calls Try.prog 53 #[.int .i64 (p0)] w0 fun e w' => e = .returned (.bool (r)) ∧ Chg [] w0 w' := by
 have hB : Chg [] w0 w0 := Chg.refl _ _
 have hZ := Nat.le_refl w0.heap.size
 unfold m_impl_ValidMaze_1 at hm
 refine enterE (N := 6) Try.func53 (by rfl) Try.ntmps53 (by simp) [(0, .int .i64 (p0))] (by rfl) (by kernel_rfl) (fun a => ?_)
 refine cW_seq ?_
 refine cW_region ?_
 refine wS_pure 1 [(2, .bool (false))] (by kernel_rfl) ?_
 refine wS_end (by rfl) ?_
 refine eX_then ?_
 refine cW_seq ?_
 refine cW_region ?_
 refine wS_pure 1 [(3, .int .i64 (p0))] (by kernel_rfl) ?_
 obtain ⟨y1, hy1, hm⟩ := bindE hm
 refine wS_calls (d := 4) (f := 50) (vs := [.int .i64 (p0), .int .i64 (0), .int .i64 (9)]) (by kernel_rfl) ent50 (c_impl_in hy1) ?_
 rintro _ w1 ⟨rfl, hc1⟩
 replace hB := hB.inS hc1 inNil
 replace hZ := Nat.le_trans hZ hc1.size
 refine ⟨.bool (y1), rfl, ?_⟩
 refine wS_pure 2 [(2, .bool (!y1)), (5, .bool (!y1))] (by kernel_rfl) ?_
 refine wS_end (by rfl) ?_
 refine eX_then ?_
 refine cW_ret ?_
 have hq : (some (!y1) : Option ((Bool))) = some _ := hm
 replace hq := someE hq
 subst hq
 refine eX_ret (vs := [.bool (!y1)]) [.tmp 2] (by rfl) ⟨by (show lkE _ _ _ = _); kernel_rfl, trivial⟩ ?_
 exact ⟨rfl, hB⟩

set_option maxRecDepth 100000 in
/-- slices.IndexFunc[[]int64,int64] -/
theorem c_slices_IndexFunc_int64_int64_impl_ValidMaze_1 {w0 : World} {l0 : List (Int)} {A0 : Option Addr} {cap0 : Nat} {fp0 : List Nat} {r : (Int)} (hm : m_slices_IndexFunc_int64_int64_impl_ValidMaze_1 l0 = some r) (F0 : Sl 1 encI w0 fp0 A0 l0) :
  Calls Try.prog 69 #[.slice A0 (l0).length cap0, .func (.func 53) #[] #[]] w0 fun e w' => e = .returned (.int .i64 (r)) ∧ Chg [] w0 w' := by
 have L0 := F0.low
 have hB : Chg [] w0 w0 := Chg.refl _ _
 have hZ := Nat.le_refl w0.heap.size
 unfold m_slices_IndexFunc_int64_int64_impl_ValidMaze_1 at hm
 refine enterE (N := 19) Try.func69 (by rfl) Try.ntmps69 (by simp) [(0, .slice A0 (l0).length cap0), (1, .func (.func 53) #[] #[])] (by rfl) (by kernel_rfl) (fun a => ?_)
 refine cW_seq ?_
 refine cW_region ?_
 refine wS_pure 1 [(4, .int .i64 (0))] (by kernel_rfl) ?_
 refine wS_end (by rfl) ?_
 refine eX_then ?_
 refine cW_seq ?_
 refine cW_seq ?_
 refine cW_region ?_
 refine wS_pure 3 [(8, .int .i64 (0)), (7, .int .i64 (((l0).length : Int))), (6, .slice A0 (l0).length cap0)] (by kernel_rfl) ?_
 refine wS_end (by rfl) ?_
 refine eX_then ?_
 obtain ⟨r1, hr1, hm⟩ := bindE hm
 have hm1 := hm
 refine cW_cut (fun a' w' => Sum.inl (()) = r1 ∧ Fr 19 [] a' ∧ Chg [] w0 w' ∧ w0.heap.size ≤ w'.heap.size) ?_ ?_
 ·refine cW_block ?_
  refine cW_loop _ (fun (s1 : Int) a' w' => ∃ x1 : Int, x1 = s1 ∧ Fr 19 [(0, .slice A0 (l0).length cap0), (1, .func (.func 53) #[] #[]), (7, .int .i64 (((l0).length : Int))), (8, .int .i64 (x1))] a' ∧ Sl 1 encI w' fp0 A0 l0 ∧ Chg [] w0 w' ∧ w0.heap.size ≤ w'.heap.size) hr1 (fun hst => ⟨0, rfl, Fr.of hst (by kernel_rfl), F0, hB, hZ⟩) ?_
  rintro _ c1 a' w1 ⟨x1, rfl, hF1, F1, hB, hZ⟩ hx1
  refine Fr.goOn hF1 (by kernel_rfl) ?_
  have hm := hx1
  unfold m_slices_IndexFunc_int64_int64_impl_ValidMaze_1_s1 at hm
  refine cW_seq ?_
  refine cW_region ?_
  refine wS_pure 1 [(9, .bool (decide (x1 < (((l0).length : Int)))))] (by kernel_rfl) ?_
  refine wS_end (by rfl) ?_
  refine eX_then ?_
  refine cW_seq ?_
  refine cW_cond (t := decide (x1 < (((l0).length : Int)))) (by kernel_rfl) (fun hb1 => ?_) (fun hb1 => ?_)
  ·have hm := condT hb1 hm
   refine cW_skip ?_
   refine eX_then ?_
   refine cW_seq ?_
   refine cW_block ?_
   refine cW_seq ?_
   refine cW_region ?_
   refine wS_pure 2 [(5, .int .i64 (x1)), (10, .int .i64 (x1))] (by kernel_rfl) ?_
   refine wS_end (by rfl) ?_
   refine eX_then ?_
   refine cW_seq ?_
   refine cW_region ?_
   refine wS_pure 3 [(13, .int .i64 (x1)), (12, .slice A0 (l0).length cap0), (11, .func (.func 53) #[] #[])] (by kernel_rfl) ?_
   obtain ⟨x2, hx2, hm⟩ := bindE hm
   refine wS_idx (d := 14) (T := 38) (A := A0) (n := (l0).length) (cap := cap0) (kd := .i64) (m := x1) (by kernel_rfl) sl38 (F1.is hx2) ?_
   refine wS_load1 (d := 15) (T := 2) (ad := (elA A0 1 (x1) 0)) (v := .int .i64 (x2)) (by kernel_rfl) vt2 (Sl.cell F1 hx2 0 (by rfl)) ?_
   obtain ⟨y1, hy1, hm⟩ := bindE hm
   refine wS_calls (d := 16) (f := 53) (vs := [.int .i64 (x2)]) (by kernel_rfl) ent53 (c_impl_ValidMaze_1 hy1) ?_
   rintro _ w2 ⟨rfl, hc1⟩
   replace F1 := F1.chg hc1 Dj.nil
   replace hB := hB.inS hc1 inNil
   replace hZ := Nat.le_trans hZ hc1.size
   refine ⟨.bool (y1), rfl, ?_⟩
   refine wS_end (by rfl) ?_
   refine eX_then ?_
   refine cW_cond (t := y1) (by kernel_rfl) (fun hb2 => ?_) (fun hb2 => ?_)
   ·have hm := condT hb2 hm
    refine cW_seq ?_
    refine cW_region ?_
    refine wS_pure 2 [(4, .int .i64 (x1)), (17, .int .i64 (x1))] (by kernel_rfl) ?_
    refine wS_end (by rfl) ?_
    refine eX_then ?_
    refine cW_ret ?_
    refine eX_block_ret ?_
    refine eX_then_ret ?_
    have hq : (some (Ctl.out (Sum.inr x1)) : Option (Ctl (Int) (Sum (Unit) ((Int))))) = some _ := hm
    replace hq := someE hq
    subst hq
    refine eX_outR hx1 (fun hr => ?_)
    subst hr
    refine eX_block_ret ?_
    refine eX_then_ret ?_
    refine eX_then_ret ?_
    have hq : (some x1 : Option ((Int))) = some _ := hm1
    replace hq := someE hq
    subst hq
    refine eX_ret (vs := [.int .i64 (x1)]) [.tmp 4] (by rfl) ⟨by (show lkE _ _ _ = _); kernel_rfl, trivial⟩ ?_
    exact ⟨rfl, hB⟩
   ·have hm := condF hb2 hm
    refine cW_skip ?_
    refine eX_block ?_
    refine eX_then ?_
    refine cW_region ?_
    refine wS_pure 2 [(8, .int .i64 (wr (x1 + 1))), (18, .int .i64 (wr (x1 + 1)))] (by kernel_rfl) ?_
    refine wS_end (by rfl) ?_
    have hq : (some (Ctl.next (wr (x1 + 1))) : Option (Ctl (Int) (Sum (Unit) ((Int))))) = some _ := hm
    replace hq := someE hq
    subst hq
    exact eX_next hx1 (fun hst => ⟨wr (x1 + 1), rfl, Fr.of hst (by kernel_rfl), F1, hB, hZ⟩)
  ·have hm := condF hb1 hm
   refine cW_exit ?_
   refine eX_then_exit ?_
   have hq : (some (Ctl.out (Sum.inl (()))) : Option (Ctl (Int) (Sum (Unit) ((Int))))) = some _ := hm
   replace hq := someE hq
   subst hq
   refine eX_outX hx1 (fun hr2 => ?_)
   replace hr2 := hr2.symm
   subst hr2
   refine eX_block_hit ?_
   exact eX_J (fun hst => ⟨rfl, Fr.of hst (by kernel_rfl), hB, hZ⟩)
 ·rintro a' w3 ⟨hJ, hF2, hB, hZ⟩
  subst hJ
  refine Fr.goX hF2 (by kernel_rfl) ?_
  refine eX_then ?_
  refine cW_seq ?_
  refine cW_region ?_
  refine wS_pure 1 [(4, .int .i64 ((-1)))] (by kernel_rfl) ?_
  refine wS_end (by rfl) ?_
  refine eX_then ?_
  refine cW_ret ?_
  have hq : (some ((-1)) : Option ((Int))) = some _ := hm
  replace hq := someE hq
  subst hq
  refine eX_ret (vs := [.int .i64 ((-1))]) [.tmp 4] (by rfl) ⟨by (show lkE _ _ _ = _); kernel_rfl, trivial⟩ ?_
  exact ⟨rfl, hB⟩

set_option maxRecDepth 100000 in
/-- slices.ContainsFunc[[]int64,int64] -/
theorem c_slices_ContainsFunc_int64_int64_impl_ValidMaze_1 {w0 : World} {l0 : List (Int)} {A0 : Option Addr} {cap0 : Nat} {fp0 : List Nat} {r : (Bool)} (hm : m_slices_ContainsFunc_int64_int64_impl_ValidMaze_1 l0 = some r) (F0 : Sl 1 encI w0 fp0 A0 l0) :
  Calls Try.prog 52 #[.slice A0 (l0).length cap0, .func (.func 53) #[] #[]] w0 fun e w' => e = .returned (.bool (r)) ∧ Chg [] w0 w' := by
 have L0 := F0.low
 have hB : Chg [] w0 w0 := Chg.refl _ _
 have hZ := Nat.le_refl w0.heap.size
 unfold m_slices_ContainsFunc_int64_int64_impl_ValidMaze_1 at hm
 refine enterE (N := 9) Try.func52 (by rfl) Try.ntmps52 (by simp) [(0, .slice A0 (l0).length cap0), (1, .func (.func 53) #[] #[])] (by rfl) (by kernel_rfl) (fun a => ?_)
 refine cW_seq ?_
 refine cW_region ?_
 refine wS_pure 1 [(4, .bool (false))] (by kernel_rfl) ?_
 refine wS_end (by rfl) ?_
 refine eX_then ?_
 refine cW_seq ?_
 refine cW_region ?_
 refine wS_pure 2 [(6, .func (.func 53) #[] #[]), (5, .slice A0 (l0).length cap0)] (by kernel_rfl) ?_
 obtain ⟨y1, hy1, hm⟩ := bindE hm
 refine wS_calls (d := 7) (f := 69) (vs := [.slice A0 (l0).length cap0, .func (.func 53) #[] #[]]) (by kernel_rfl) ent69 (c_slices_IndexFunc_int64_int64_impl_ValidMaze_1 hy1 F0) ?_
 rintro _ w1 ⟨rfl, hc1⟩
 replace F0 := F0.chg hc1 Dj.nil
 replace hB := hB.inS hc1 inNil
 replace hZ := Nat.le_trans hZ hc1.size
 refine ⟨.int .i64 (y1), rfl, ?_⟩
 refine wS_pure 2 [(4, .bool (decide (y1 ≥ 0))), (8, .bool (decide (y1 ≥ 0)))] (by kernel_rfl) ?_
 refine wS_end (by rfl) ?_
 refine eX_then ?_
 refine cW_ret ?_
 have hq : (some (decide (y1 ≥ 0)) : Option ((Bool))) = some _ := hm
 replace hq := someE hq
 subst hq
 refine eX_ret (vs := [.bool (decide (y1 ≥ 0))]) [.tmp 4] (by rfl) ⟨by (show lkE _ _ _ = _); kernel_rfl, trivial⟩ ?_
 exact ⟨rfl, hB⟩

set_option maxRecDepth 100000 in
/-- impl.ValidMaze -/
theorem c_impl_ValidMaze {w0 : World} {l0_0 : List (List (Int))} {A0_0 : Option Addr} {cap0_0 : Nat} {fp0_0 : List Nat} {r : (Bool)} (hm : m_impl_ValidMaze l0_0 = some r) (F0_0 : SlR 1 encI w0 fp0_0 A0_0 l0_0) :
  Calls Try.prog 32 #[.agg #[.slice A0_0 (l0_0).length cap0_0]] w0 fun e w' => e = .returned (.bool (r)) ∧ Chg [] w0 w' := by
 have L0_0 := F0_0.low
 have hB : Chg [] w0 w0 := Chg.refl _ _
 have hZ := Nat.le_refl w0.heap.size
 unfold m_impl_ValidMaze at hm
 refine enterE (N := 39) Try.func32 (by rfl) Try.ntmps32 (by simp) [(0, .agg #[.slice A0_0 (l0_0).length cap0_0])] (by rfl) (by kernel_rfl) (fun a => ?_)
 refine cW_seq ?_
 refine cW_region ?_
 refine wS_box (d := 1) (T := 26) (x := .agg #[.slice A0_0 (l0_0).length cap0_0]) (by kernel_rfl) ?_
 intro b1 w1 G1 F1 hc1
 replace F1 : Cl w1 b1 26 [.slice A0_0 (l0_0).length cap0_0] := F1
 replace F0_0 := F0_0.chg hc1 Dj.nil
 replace hB := hB.inS hc1 inNil
 replace G1 := Nat.le_trans hZ G1
 replace hZ := Nat.le_trans hZ hc1.size
 refine wS_pure 1 [(2, .bool (false))] (by kernel_rfl) ?_
 refine wS_end (by rfl) ?_
 refine eX_then ?_
 refine cW_seq ?_
 refine cW_seq ?_
 refine cW_region ?_
 refine wS_pure 1 [(5, .pointer (some ⟨b1, 0, none⟩))] (by kernel_rfl) ?_
 refine wS_load1 (d := 6) (T := 24) (ad := ⟨b1, 0, none⟩) (v := .slice A0_0 (l0_0).length cap0_0) (by kernel_rfl) vt24 ((F1).cell 0) ?_
 refine wS_pure 1 [(7, .int .i64 (((l0_0).length : Int)))] (by kernel_rfl) ?_
 obtain ⟨y1, hy1, hm⟩ := bindE hm
 refine wS_calls (d := 8) (f := 50) (vs := [.int .i64 (((l0_0).length : Int)), .int .i64 (1), .int .i64 (12)]) (by kernel_rfl) ent50 (c_impl_in hy1) ?_
 rintro _ w2 ⟨rfl, hc2⟩
 replace F0_0 := F0_0.chg hc2 Dj.nil
 replace F1 := F1.chg hc2 notNil
 replace hB := hB.inS hc2 inNil
 replace hZ := Nat.le_trans hZ hc2.size
 refine ⟨.bool (y1), rfl, ?_⟩
 refine wS_pure 2 [(10, .bool (!y1)), (9, .bool (!y1))] (by kernel_rfl) ?_
 refine wS_bool (!y1) (fun hb1 => ?_) (fun hb1 => ?_)
 ·have hm := condT hb1 hm
  rewrite [hb1]
  refine wS_pure 8 [(18, .bool (true)), (17, undef), (16, undef), (15, undef), (14, undef), (13, undef), (12, undef), (11, undef)] (by kernel_rfl) ?_
  refine wS_end (by rfl) ?_
  refine eX_then ?_
  refine cW_cond_t (by kernel_rfl) ?_
  refine cW_seq ?_
  refine cW_region ?_
  refine wS_pure 1 [(2, .bool (false))] (by kernel_rfl) ?_
  refine wS_end (by rfl) ?_
  refine eX_then ?_
  refine cW_ret ?_
  refine eX_then_ret ?_
  have hq : (some false : Option ((Bool))) = some _ := hm
  replace hq := someE hq
  subst hq
  refine eX_ret (vs := [.bool (false)]) [.tmp 2] (by rfl) ⟨by (show lkE _ _ _ = _); kernel_rfl, trivial⟩ ?_
  exact ⟨rfl, hB⟩
 ·have hm := condF hb1 hm
  rewrite [hb1]
  refine wS_pure 1 [(11, .pointer (some ⟨b1, 0, none⟩))] (by kernel_rfl) ?_
  refine wS_load1 (d := 12) (T := 24) (ad := ⟨b1, 0, none⟩) (v := .slice A0_0 (l0_0).length cap0_0) (by kernel_rfl) vt24 ((F1).cell 0) ?_
  obtain ⟨x1, hx1, hm⟩ := bindE hm
  refine wS_idx (d := 13) (T := 24) (A := A0_0) (n := (l0_0).length) (cap := cap0_0) (kd := .i64) (m := 0) (by kernel_rfl) sl24 (F0_0.is hx1) ?_
  obtain ⟨A1, cap1, hc3, F2, K1⟩ := SlR.row F0_0 hx1
  refine wS_load1 (d := 14) (T := 38) (ad := (elA A0_0 1 (0) 0)) (v := .slice A1 (x1).length cap1) (by kernel_rfl) vt38 hc3 ?_
  refine wS_pure 1 [(15, .int .i64 (((x1).length : Int)))] (by kernel_rfl) ?_
  obtain ⟨y2, hy2, hm⟩ := bindE hm
  refine wS_calls (d := 16) (f := 50) (vs := [.int .i64 (((x1).length : Int)), .int .i64 (1), .int .i64 (12)]) (by kernel_rfl) ent50 (c_impl_in hy2) ?_
  rintro _ w3 ⟨rfl, hc4⟩
  replace F0_0 := F0_0.chg hc4 Dj.nil
  replace F1 := F1.chg hc4 notNil
  replace F2 := F2.chg hc4 Dj.nil
  replace hB := hB.inS hc4 inNil
  replace hZ := Nat.le_trans hZ hc4.size
  refine ⟨.bool (y2), rfl, ?_⟩
  refine wS_pure 2 [(18, .bool (!y2)), (17, .bool (!y2))] (by kernel_rfl) ?_
  refine wS_end (by rfl) ?_
  refine eX_then ?_
  refine cW_cond (t := !y2) (by kernel_rfl) (fun hb2 => ?_) (fun hb2 => ?_)
  ·have hm := condT hb2 hm
   refine cW_seq ?_
   refine cW_region ?_
   refine wS_pure 1 [(2, .bool (false))] (by kernel_rfl) ?_
   refine wS_end (by rfl) ?_
   refine eX_then ?_
   refine cW_ret ?_
   refine eX_then_ret ?_
   have hq : (some false : Option ((Bool))) = some _ := hm
   replace hq := someE hq
   subst hq
   refine eX_ret (vs := [.bool (false)]) [.tmp 2] (by rfl) ⟨by (show lkE _ _ _ = _); kernel_rfl, trivial⟩ ?_
   exact ⟨rfl, hB⟩
  ·have hm := condF hb2 hm
   refine cW_skip ?_
   refine eX_then ?_
   refine cW_seq ?_
   refine cW_seq ?_
   refine cW_region ?_
   refine wS_pure 1 [(19, .pointer (some ⟨b1, 0, none⟩))] (by kernel_rfl) ?_
   refine wS_load1 (d := 20) (T := 24) (ad := ⟨b1, 0, none⟩) (v := .slice A0_0 (l0_0).length cap0_0) (by kernel_rfl) vt24 ((F1).cell 0) ?_
   refine wS_pure 2 [(22, .int .i64 (0)), (21, .int .i64 (((l0_0).length : Int)))] (by kernel_rfl) ?_
   refine wS_end (by rfl) ?_
   refine eX_then ?_
   obtain ⟨r1, hr1, hm⟩ := bindE hm
   have hm1 := hm
   refine cW_cut (fun a' w' => Sum.inl (()) = r1 ∧ Fr 39 [] a' ∧ Chg [] w0 w' ∧ w0.heap.size ≤ w'.heap.size) ?_ ?_
   ·refine cW_block ?_
    refine cW_loop _ (fun (s1 : Int) a' w' => ∃ x2 : Int, x2 = s1 ∧ Fr 39 [(1, .pointer (some ⟨b1, 0, none⟩)), (20, .slice A0_0 (l0_0).length cap0_0), (21, .int .i64 (((l0_0).length : Int))), (22, .int .i64 (x2))] a' ∧ SlR 1 encI w' fp0_0 A0_0 l0_0 ∧ Cl w' b1 26 [.slice A0_0 (l0_0).length cap0_0] ∧ Chg [] w0 w' ∧ w0.heap.size ≤ w'.heap.size) hr1 (fun hst => ⟨0, rfl, Fr.of hst (by kernel_rfl), F0_0, F1, hB, hZ⟩) ?_
    rintro _ c1 a' w4 ⟨x2, rfl, hF1, F3, F4, hB, hZ⟩ hx2
    refine Fr.goOn hF1 (by kernel_rfl) ?_
    have hm := hx2
    unfold m_impl_ValidMaze_s1 at hm
    refine cW_seq ?_
    refine cW_region ?_
    refine wS_pure 1 [(23, .bool (decide (x2 < (((l0_0).length : Int)))))] (by kernel_rfl) ?_
    refine wS_end (by rfl) ?_
    refine eX_then ?_
    refine cW_seq ?_
    refine cW_cond (t := decide (x2 < (((l0_0).length : Int)))) (by kernel_rfl) (fun hb3 => ?_) (fun hb3 => ?_)
    ·have hm := condT hb3 hm
     refine cW_skip ?_
     refine eX_then ?_
     refine cW_seq ?_
     refine cW_block ?_
     refine cW_seq ?_
     refine cW_region ?_
     obtain ⟨x3, hx3, hm⟩ := bindE hm
     refine wS_idx (d := 24) (T := 24) (A := A0_0) (n := (l0_0).length) (cap := cap0_0) (kd := .i64) (m := x2) (by kernel_rfl) sl24 (F3.is hx3) ?_
     obtain ⟨A2, cap2, hc5, F5, K2⟩ := SlR.row F3 hx3
     refine wS_load1 (d := 25) (T := 38) (ad := (elA A0_0 1 (x2) 0)) (v := .slice A2 (x3).length cap2) (by kernel_rfl) vt38 hc5 ?_
     refine wS_pure 1 [(4, .slice A2 (x3).length cap2)] (by kernel_rfl) ?_
     refine wS_end (by rfl) ?_
     refine eX_then ?_
     refine cW_seq ?_
     refine cW_region ?_
     refine wS_pure 3 [(28, .pointer (some ⟨b1, 0, none⟩)), (27, .int .i64 (((x3).length : Int))), (26, .slice A2 (x3).length cap2)] (by kernel_rfl) ?_
     refine wS_load1 (d := 29) (T := 24) (ad := ⟨b1, 0, none⟩) (v := .slice A0_0 (l0_0).length cap0_0) (by kernel_rfl) vt24 ((F4).cell 0) ?_
     obtain ⟨x4, hx4, hm⟩ := bindE hm
     refine wS_idx (d := 30) (T := 24) (A := A0_0) (n := (l0_0).length) (cap := cap0_0) (kd := .i64) (m := 0) (by kernel_rfl) sl24 (F3.is hx4) ?_
     obtain ⟨A3, cap3, hc6, F6, K3⟩ := SlR.row F3 hx4
     refine wS_load1 (d := 31) (T := 38) (ad := (elA A0_0 1 (0) 0)) (v := .slice A3 (x4).length cap3) (by kernel_rfl) vt38 hc6 ?_
     refine wS_pure 3 [(34, .bool ((((x3).length : Int)) != (((x4).length : Int)))), (33, .bool ((((x3).length : Int)) != (((x4).length : Int)))), (32, .int .i64 (((x4).length : Int)))] (by kernel_rfl) ?_
     refine wS_bool ((((x3).length : Int)) != (((x4).length : Int))) (fun hb4 => ?_) (fun hb4 => ?_)
     ·have hm := condT hb4 hm
      rewrite [hb4]
      refine wS_pure 3 [(37, .bool (true)), (36, undef), (35, undef)] (by kernel_rfl) ?_
      refine wS_end (by rfl) ?_
      refine eX_then ?_
      refine cW_cond_t (by kernel_rfl) ?_
      refine cW_seq ?_
      refine cW_region ?_
      refine wS_pure 1 [(2, .bool (false))] (by kernel_rfl) ?_
      refine wS_end (by rfl) ?_
      refine eX_then ?_
      refine cW_ret ?_
      refine eX_block_ret ?_
      refine eX_then_ret ?_
      have hq : (some (Ctl.out (Sum.inr false)) : Option (Ctl (Int) (Sum (Unit) ((Bool))))) = some _ := hm
      replace hq := someE hq
      subst hq
      refine eX_outR hx2 (fun hr => ?_)
      subst hr
      refine eX_block_ret ?_
      refine eX_then_ret ?_
      refine eX_then_ret ?_
      have hq : (some false : Option ((Bool))) = some _ := hm1
      replace hq := someE hq
      subst hq
      refine eX_ret (vs := [.bool (false)]) [.tmp 2] (by rfl) ⟨by (show lkE _ _ _ = _); kernel_rfl, trivial⟩ ?_
      exact ⟨rfl, hB⟩
     ·have hm := condF hb4 hm
      rewrite [hb4]
      refine wS_pure 1 [(35, .slice A2 (x3).length cap2)] (by kernel_rfl) ?_
      obtain ⟨y3, hy3, hm⟩ := bindE hm
      refine wS_calls (d := 36) (f := 52) (vs := [.slice A2 (x3).length cap2, .func (.func 53) #[] #[]]) (by kernel_rfl) ent52 (c_slices_ContainsFunc_int64_int64_impl_ValidMaze_1 hy3 F5) ?_
      rintro _ w5 ⟨rfl, hc7⟩
      replace F3 := F3.chg hc7 Dj.nil
      replace F4 := F4.chg hc7 notNil
      replace F5 := F5.chg hc7 Dj.nil
      replace F6 := F6.chg hc7 Dj.nil
      replace hB := hB.inS hc7 inNil
      replace hZ := Nat.le_trans hZ hc7.size
      refine ⟨.bool (y3), rfl, ?_⟩
      refine wS_pure 1 [(37, .bool (y3))] (by kernel_rfl) ?_
      refine wS_end (by rfl) ?_
      refine eX_then ?_
      refine cW_cond (t := y3) (by kernel_rfl) (fun hb5 => ?_) (fun hb5 => ?_)
      ·have hm := condT hb5 hm
       refine cW_seq ?_
       refine cW_region ?_
       refine wS_pure 1 [(2, .bool (false))] (by kernel_rfl) ?_
       refine wS_end (by rfl) ?_
       refine eX_then ?_
       refine cW_ret ?_
       refine eX_block_ret ?_
       refine eX_then_ret ?_
       have hq : (some (Ctl.out (Sum.inr false)) : Option (Ctl (Int) (Sum (Unit) ((Bool))))) = some _ := hm
       replace hq := someE hq
       subst hq
       refine eX_outR hx2 (fun hr => ?_)
       subst hr
       refine eX_block_ret ?_
       refine eX_then_ret ?_
       refine eX_then_ret ?_
       have hq : (some false : Option ((Bool))) = some _ := hm1
       replace hq := someE hq
       subst hq
       refine eX_ret (vs := [.bool (false)]) [.tmp 2] (by rfl) ⟨by (show lkE _ _ _ = _); kernel_rfl, trivial⟩ ?_
       exact ⟨rfl, hB⟩
      ·have hm := condF hb5 hm
       refine cW_skip ?_
       refine eX_block ?_
       refine eX_then ?_
       refine cW_region ?_
       refine wS_pure 2 [(22, .int .i64 (wr (x2 + 1))), (38, .int .i64 (wr (x2 + 1)))] (by kernel_rfl) ?_
       refine wS_end (by rfl) ?_
       have hq : (some (Ctl.next (wr (x2 + 1))) : Option (Ctl (Int) (Sum (Unit) ((Bool))))) = some _ := hm
       replace hq := someE hq
       subst hq
       exact eX_next hx2 (fun hst => ⟨wr (x2 + 1), rfl, Fr.of hst (by kernel_rfl), F3, F4, hB, hZ⟩)
    ·have hm := condF hb3 hm
     refine cW_exit ?_
     refine eX_then_exit ?_
     have hq : (some (Ctl.out (Sum.inl (()))) : Option (Ctl (Int) (Sum (Unit) ((Bool))))) = some _ := hm
     replace hq := someE hq
     subst hq
     refine eX_outX hx2 (fun hr2 => ?_)
     replace hr2 := hr2.symm
     subst hr2
     refine eX_block_hit ?_
     exact eX_J (fun hst => ⟨rfl, Fr.of hst (by kernel_rfl), hB, hZ⟩)
   ·rintro a' w6 ⟨hJ, hF2, hB, hZ⟩
    subst hJ
    refine Fr.goX hF2 (by kernel_rfl) ?_
    refine eX_then ?_
    refine cW_seq ?_
    refine cW_region ?_
    refine wS_pure 1 [(2, .bool (true))] (by kernel_rfl) ?_
    refine wS_end (by rfl) ?_
    refine eX_then ?_
    refine cW_ret ?_
    have hq : (some true : Option ((Bool))) = some _ := hm
    replace hq := someE hq
    subst hq
    refine eX_ret (vs := [.bool (true)]) [.tmp 2] (by rfl) ⟨by (show lkE _ _ _ = _); kernel_rfl, trivial⟩ ?_
    exact ⟨rfl, hB⟩

set_option maxRecDepth 100000 in
/-- impl.Maze).has -/
theorem c_impl_Maze_has_bimplMaze {w0 : World} {l0_0 : List (List (Int))} {A0_0 : Option Addr} {cap0_0 : Nat} {fp0_0 : List Nat} {b0 : Nat} {p1_0 : Int} {p1_1 : Int} {r : (Bool)} (hm : m_impl_Maze_has_bimplMaze l0_0 p1_0 p1_1 = some r) (F0_0 : SlR 1 encI w0 fp0_0 A0_0 l0_0) (F0 : Cl w0 b0 26 [.slice A0_0 (l0_0).length cap0_0]) :
  Calls Try.prog 54 #[.pointer (some ⟨b0, 0, none⟩), .agg #[.int .i64 (p1_0), .int .i64 (p1_1)]] w0 fun e w' => e = .returned (.bool (r)) ∧ Chg [] w0 w' := by
 have L0_0 := F0_0.low
 have L0 := lt1 F0.lt
 have hB : Chg [] w0 w0 := Chg.refl _ _
 have hZ := Nat.le_refl w0.heap.size
 unfold m_impl_Maze_has_bimplMaze at hm
 refine enterE (N := 27) Try.func54 (by rfl) Try.ntmps54 (by simp) [(0, .pointer (some ⟨b0, 0, none⟩)), (1, .agg #[.int .i64 (p1_0), .int .i64 (p1_1)])] (by rfl) (by kernel_rfl) (fun a => ?_)
 refine cW_seq ?_
 refine cW_region ?_
 refine wS_box (d := 3) (T := 29) (x := .agg #[.int .i64 (p1_0), .int .i64 (p1_1)]) (by kernel_rfl) ?_
 intro b1 w1 G1 F1 hc1
 replace F1 : Cl w1 b1 29 [.int .i64 (p1_0), .int .i64 (p1_1)] := F1
 replace F0_0 := F0_0.chg hc1 Dj.nil
 replace F0 := F0.chg hc1 notNil
 replace hB := hB.inS hc1 inNil
 replace G1 := Nat.le_trans hZ G1
 replace hZ := Nat.le_trans hZ hc1.size
 refine wS_pure 1 [(4, .bool (false))] (by kernel_rfl) ?_
 refine wS_end (by rfl) ?_
 refine eX_then ?_
 refine cW_seq ?_
 refine cW_drawnTail [] 20 (by kernel_rfl) (by kernel_rfl) (fun w2 hc2 => ?_)
 replace F0_0 := F0_0.chg hc2 Dj.nil
 replace F0 := F0.chg hc2 notNil
 replace F1 := F1.chg hc2 notNil
 replace hB := hB.inS hc2 inNil
 replace hZ := Nat.le_trans hZ hc2.size
 have hS := Chg.refl [] w2
 have Z1 := F0_0
 have Z2 := F0
 have Z3 := F1
 refine wH_take [0] [0] [(5, .pointer (some ⟨b1, 1, none⟩))] (by kernel_rfl) (qT (qT qZ)) (by kernel_rfl) ?_
 refine wH_load1 (i := 1) (d := 6) (T := 2) (ad := ⟨b1, 1, none⟩) (v := .int .i64 (p1_1)) (by kernel_rfl) (qT (qT qZ)) (by kernel_rfl) (by kernel_rfl) vt2 (fun W hW => (Z3.chg hW notNil).cell 1) ?_
 refine wH_take [2, 3, 4] [4, 3, 2, 1, 0] [(9, .pointer (some ⟨b0, 0, none⟩)), (8, .pointer (some ⟨b0, 0, none⟩)), (7, .pointer (some ⟨b0, 0, none⟩))] (by kernel_rfl) (qT (qT qZ)) (by kernel_rfl) ?_
 refine wH_load1 (i := 5) (d := 10) (T := 24) (ad := ⟨b0, 0, none⟩) (v := .slice A0_0 (l0_0).length cap0_0) (by kernel_rfl) (qT (qT qZ)) (by kernel_rfl) (by kernel_rfl) vt24 (fun W hW => (Z2.chg hW notNil).cell 0) ?_
 refine wH_take [6, 7] [7, 6, 5, 4, 3, 2, 1, 0] [(12, .int .i64 (wr ((((l0_0).length : Int)) - 1))), (11, .int .i64 (((l0_0).length : Int)))] (by kernel_rfl) (qT (qT qZ)) (by kernel_rfl) ?_
 refine wH_all [8] (by rfl) (by kernel_rfl) (by simp) ⟨⟨by kernel_rfl, ?_⟩, trivial⟩
 obtain ⟨y1, hy1, hm⟩ := bindE hm
 refine wS_calls (d := 13) (f := 50) (vs := [.int .i64 (p1_1), .int .i64 (0), .int .i64 (wr ((((l0_0).length : Int)) - 1))]) (by kernel_rfl) ent50 (c_impl_in hy1) ?_
 rintro _ w3 ⟨rfl, hc3⟩
 replace F0_0 := F0_0.chg hc3 Dj.nil
 replace F0 := F0.chg hc3 notNil
 replace F1 := F1.chg hc3 notNil
 replace hB := hB.inS hc3 inNil
 have hSz := hS
 replace hS := hS.inS hc3 inNil
 replace hZ := Nat.le_trans hZ hc3.size
 refine ⟨.bool (y1), rfl, ?_⟩
 refine wS_end (by kernel_rfl) ?_
 refine eX_KH hS ?_
 refine wH_take [9] [9, 8, 7, 6, 5, 4, 3, 2, 1, 0] [(14, .bool (y1))] (by kernel_rfl) (qT (qT qZ)) (by kernel_rfl) ?_
 refine wH_bool y1 (fun hb1 => ?_) (fun hb1 => ?_)
 ·have hm := condT hb1 hm
  rewrite [hb1]
  refine wH_take [10] [10, 9, 8, 7, 6, 5, 4, 3, 2, 1, 0] [(15, .pointer (some ⟨b1, 0, none⟩))] (by kernel_rfl) (qT (qT qZ)) (by kernel_rfl) ?_
  refine wH_load1 (i := 11) (d := 16) (T := 2) (ad := ⟨b1, 0, none⟩) (v := .int .i64 (p1_0)) (by kernel_rfl) (qT (qT qZ)) (by kernel_rfl) (by kernel_rfl) vt2 (fun W hW => (Z3.chg hW notNil).cell 0) ?_
  refine wH_take [12, 13, 14] [14, 13, 12, 11, 10, 9, 8, 7, 6, 5, 4, 3, 2, 1, 0] [(19, .pointer (some ⟨b0, 0, none⟩)), (18, .pointer (some ⟨b0, 0, none⟩)), (17, .pointer (some ⟨b0, 0, none⟩))] (by kernel_rfl) (qT (qT qZ)) (by kernel_rfl) ?_
  refine wH_load1 (i := 15) (d := 20) (T := 24) (ad := ⟨b0, 0, none⟩) (v := .slice A0_0 (l0_0).length cap0_0) (by kernel_rfl) (qT (qT qZ)) (by kernel_rfl) (by kernel_rfl) vt24 (fun W hW => (Z2.chg hW notNil).cell 0) ?_
  obtain ⟨x1, hx1, hm⟩ := bindE hm
  refine wH_idx (i := 16) (d := 21) (T := 24) (A := A0_0) (n := (l0_0).length) (cap := cap0_0) (kd := .i64) (m := 0) (by kernel_rfl) (qT (qT qZ)) (by kernel_rfl) (by kernel_rfl) sl24 (F0_0.is hx1) ?_
  obtain ⟨A1, cap1, hc4, F2, K1⟩ := SlR.row Z1 hx1
  have F3 := F2.chg hS Dj.nil
  refine wH_load1 (i := 17) (d := 22) (T := 38) (ad := (elA A0_0 1 (0) 0)) (v := .slice A1 (x1).length cap1) (by kernel_rfl) (qT (qT qZ)) (by kernel_rfl) (by kernel_rfl) vt38 (fun W hW => hW.keep hc4) ?_
  refine wH_take [18, 19] [19, 18, 17, 16, 15, 14, 13, 12, 11, 10, 9, 8, 7, 6, 5, 4, 3, 2, 1, 0] [(24, .int .i64 (wr ((((x1).length : Int)) - 1))), (23, .int .i64 (((x1).length : Int)))] (by kernel_rfl) (qT (qT qZ)) (by kernel_rfl) ?_
  refine wH_done (by kernel_rfl) ?_
  refine eX_tail ?_
  obtain ⟨y2, hy2, hm⟩ := bindE hm
  refine wS_calls (d := 25) (f := 50) (vs := [.int .i64 (p1_0), .int .i64 (0), .int .i64 (wr ((((x1).length : Int)) - 1))]) (by kernel_rfl) ent50 (c_impl_in hy2) ?_
  rintro _ w4 ⟨rfl, hc5⟩
  replace F0_0 := F0_0.chg hc5 Dj.nil
  replace F0 := F0.chg hc5 notNil
  replace F1 := F1.chg hc5 notNil
  replace F3 := F3.chg hc5 Dj.nil
  replace hB := hB.inS hc5 inNil
  replace hZ := Nat.le_trans hZ hc5.size
  refine ⟨.bool (y2), rfl, ?_⟩
  refine wS_pure 2 [(4, .bool (y2)), (26, .bool (y2))] (by kernel_rfl) ?_
  refine wS_end (by rfl) ?_
  refine eX_then ?_
  refine cW_prune [(4, .bool (y2))] (by kernel_rfl) (by kernel_rfl) (fun a1 => ?_)
  refine cW_ret ?_
  have hq : (some y2 : Option ((Bool))) = some _ := hm
  replace hq := someE hq
  subst hq
  refine eX_ret (vs := [.bool (y2)]) [.tmp 4] (by rfl) ⟨by (show lkE _ _ _ = _); kernel_rfl, trivial⟩ ?_
  exact ⟨rfl, hB⟩
 ·have hm := condF hb1 hm
  rewrite [hb1]
  refine wH_take [10, 11, 12, 13, 14, 15, 16, 17, 18, 19] [19, 18, 17, 16, 15, 14, 13, 12, 11, 10, 9, 8, 7, 6, 5, 4, 3, 2, 1, 0] [(24, undef), (23, undef), (22, undef), (21, undef), (20, undef), (19, undef), (18, undef), (17, undef), (16, undef), (15, undef)] (by kernel_rfl) (qT (qT qZ)) (by kernel_rfl) ?_
  refine wH_done (by kernel_rfl) ?_
  refine eX_tail ?_
  refine wS_pure 3 [(4, .bool (false)), (26, .bool (false)), (25, undef)] (by kernel_rfl) ?_
  refine wS_end (by rfl) ?_
  refine eX_then ?_
  refine cW_prune [(4, .bool (false))] (by kernel_rfl) (by kernel_rfl) (fun a2 => ?_)
  refine cW_ret ?_
  have hq : (some false : Option ((Bool))) = some _ := hm
  replace hq := someE hq
  subst hq
  refine eX_ret (vs := [.bool (false)]) [.tmp 4] (by rfl) ⟨by (show lkE _ _ _ = _); kernel_rfl, trivial⟩ ?_
  exact ⟨rfl, hB⟩

set_option maxRecDepth 100000 in
/-- impl.Maze).price -/
theorem c_impl_Maze_price_bimplMaze {w0 : World} {l0_0 : List (List (Int))} {A0_0 : Option Addr} {cap0_0 : Nat} {fp0_0 : List Nat} {b0 : Nat} {p1_0 : Int} {p1_1 : Int} {r : (Int)} (hm : m_impl_Maze_price_bimplMaze l0_0 p1_0 p1_1 = some r) (F0_0 : SlR 1 encI w0 fp0_0 A0_0 l0_0) (F0 : Cl w0 b0 26 [.slice A0_0 (l0_0).length cap0_0]) :
  Calls Try.prog 55 #[.pointer (some ⟨b0, 0, none⟩), .agg #[.int .i64 (p1_0), .int .i64 (p1_1)]] w0 fun e w' => e = .returned (.int .i64 (r)) ∧ Chg [] w0 w' := by
 have L0_0 := F0_0.low
 have L0 := lt1 F0.lt
 have hB : Chg [] w0 w0 := Chg.refl _ _
 have hZ := Nat.le_refl w0.heap.size
 unfold m_impl_Maze_price_bimplMaze at hm
 refine enterE (N := 17) Try.func55 (by rfl) Try.ntmps55 (by simp) [(0, .pointer (some ⟨b0, 0, none⟩)), (1, .agg #[.int .i64 (p1_0), .int .i64 (p1_1)])] (by rfl) (by kernel_rfl) (fun a => ?_)
 refine cW_seq ?_
 refine cW_region ?_
 refine wS_box (d := 3) (T := 29) (x := .agg #[.int .i64 (p1_0), .int .i64 (p1_1)]) (by kernel_rfl) ?_
 intro b1 w1 G1 F1 hc1
 replace F1 : Cl w1 b1 29 [.int .i64 (p1_0), .int .i64 (p1_1)] := F1
 replace F0_0 := F0_0.chg hc1 Dj.nil
 replace F0 := F0.chg hc1 notNil
 replace hB := hB.inS hc1 inNil
 replace G1 := Nat.le_trans hZ G1
 replace hZ := Nat.le_trans hZ hc1.size
 refine wS_pure 1 [(4, .int .i64 (0))] (by kernel_rfl) ?_
 refine wS_end (by rfl) ?_
 refine eX_then ?_
 refine cW_seq ?_
 refine cW_drawnTail [] 10 (by kernel_rfl) (by kernel_rfl) (fun w2 hc2 => ?_)
 replace F0_0 := F0_0.chg hc2 Dj.nil
 replace F0 := F0.chg hc2 notNil
 replace F1 := F1.chg hc2 notNil
 replace hB := hB.inS hc2 inNil
 replace hZ := Nat.le_trans hZ hc2.size
 have hS := Chg.refl [] w2
 have Z1 := F0_0
 have Z2 := F0
 have Z3 := F1
 refine wH_take [0, 1, 2] [2, 1, 0] [(7, .pointer (some ⟨b0, 0, none⟩)), (6, .pointer (some ⟨b0, 0, none⟩)), (5, .pointer (some ⟨b0, 0, none⟩))] (by kernel_rfl) (qT (qT qZ)) (by kernel_rfl) ?_
 refine wH_load1 (i := 3) (d := 8) (T := 24) (ad := ⟨b0, 0, none⟩) (v := .slice A0_0 (l0_0).length cap0_0) (by kernel_rfl) (qT (qT qZ)) (by kernel_rfl) (by kernel_rfl) vt24 (fun W hW => (Z2.chg hW notNil).cell 0) ?_
 refine wH_take [4] [4, 3, 2, 1, 0] [(9, .pointer (some ⟨b1, 1, none⟩))] (by kernel_rfl) (qT (qT qZ)) (by kernel_rfl) ?_
 refine wH_load1 (i := 5) (d := 10) (T := 2) (ad := ⟨b1, 1, none⟩) (v := .int .i64 (p1_1)) (by kernel_rfl) (qT (qT qZ)) (by kernel_rfl) (by kernel_rfl) vt2 (fun W hW => (Z3.chg hW notNil).cell 1) ?_
 obtain ⟨x1, hx1, hm⟩ := bindE hm
 refine wH_idx (i := 6) (d := 11) (T := 24) (A := A0_0) (n := (l0_0).length) (cap := cap0_0) (kd := .i64) (m := p1_1) (by kernel_rfl) (qT (qT qZ)) (by kernel_rfl) (by kernel_rfl) sl24 (F0_0.is hx1) ?_
 obtain ⟨A1, cap1, hc3, F2, K1⟩ := SlR.row Z1 hx1
 refine wH_load1 (i := 7) (d := 12) (T := 38) (ad := (elA A0_0 1 (p1_1) 0)) (v := .slice A1 (x1).length cap1) (by kernel_rfl) (qT (qT qZ)) (by kernel_rfl) (by kernel_rfl) vt38 (fun W hW => hW.keep hc3) ?_
 refine wH_take [8] [8, 7, 6, 5, 4, 3, 2, 1, 0] [(13, .pointer (some ⟨b1, 0, none⟩))] (by kernel_rfl) (qT (qT qZ)) (by kernel_rfl) ?_
 refine wH_load1 (i := 9) (d := 14) (T := 2) (ad := ⟨b1, 0, none⟩) (v := .int .i64 (p1_0)) (by kernel_rfl) (qT (qT qZ)) (by kernel_rfl) (by kernel_rfl) vt2 (fun W hW => (Z3.chg hW notNil).cell 0) ?_
 refine wH_done (by kernel_rfl) ?_
 refine eX_tail ?_
 obtain ⟨x2, hx2, hm⟩ := bindE hm
 refine wS_idx (d := 15) (T := 38) (A := A1) (n := (x1).length) (cap := cap1) (kd := .i64) (m := p1_0) (by kernel_rfl) sl38 (F2.is hx2) ?_
 refine wS_load1 (d := 16) (T := 2) (ad := (elA A1 1 (p1_0) 0)) (v := .int .i64 (x2)) (by kernel_rfl) vt2 (Sl.cell F2 hx2 0 (by rfl)) ?_
 refine wS_pure 1 [(4, .int .i64 (x2))] (by kernel_rfl) ?_
 refine wS_end (by rfl) ?_
 refine eX_then ?_
 refine cW_ret ?_
 have hq : (some x2 : Option ((Int))) = some _ := hm
 replace hq := someE hq
 subst hq
 refine eX_ret (vs := [.int .i64 (x2)]) [.tmp 4] (by rfl) ⟨by (show lkE _ _ _ = _); kernel_rfl, trivial⟩ ?_
 exact ⟨rfl, hB⟩

set_option maxRecDepth 100000 in
/-- impl.Maze).open -/
theorem c_impl_Maze_open_bimplMaze {w0 : World} {l0_0 : List (List (Int))} {A0_0 : Option Addr} {cap0_0 : Nat} {fp0_0 : List Nat} {b0 : Nat} {p1_0 : Int} {p1_1 : Int} {r : (Bool)} (hm : m_impl_Maze_open_bimplMaze l0_0 p1_0 p1_1 = some r) (F0_0 : SlR 1 encI w0 fp0_0 A0_0 l0_0) (F0 : Cl w0 b0 26 [.slice A0_0 (l0_0).length cap0_0]) :
  Calls Try.prog 33 #[.pointer (some ⟨b0, 0, none⟩), .agg #[.int .i64 (p1_0), .int .i64 (p1_1)]] w0 fun e w' => e = .returned (.bool (r)) ∧ Chg [] w0 w' := by
 have L0_0 := F0_0.low
 have L0 := lt1 F0.lt
 have hB : Chg [] w0 w0 := Chg.refl _ _
 have hZ := Nat.le_refl w0.heap.size
 unfold m_impl_Maze_open_bimplMaze at hm
 refine enterE (N := 14) Try.func33 (by rfl) Try.ntmps33 (by simp) [(0, .pointer (some ⟨b0, 0, none⟩)), (1, .agg #[.int .i64 (p1_0), .int .i64 (p1_1)])] (by rfl) (by kernel_rfl) (fun a => ?_)
 refine cW_seq ?_
 refine cW_region ?_
 refine wS_box (d := 3) (T := 29) (x := .agg #[.int .i64 (p1_0), .int .i64 (p1_1)]) (by kernel_rfl) ?_
 intro b1 w1 G1 F1 hc1
 replace F1 : Cl w1 b1 29 [.int .i64 (p1_0), .int .i64 (p1_1)] := F1
 replace F0_0 := F0_0.chg hc1 Dj.nil
 replace F0 := F0.chg hc1 notNil
 replace hB := hB.inS hc1 inNil
 replace G1 := Nat.le_trans hZ G1
 replace hZ := Nat.le_trans hZ hc1.size
 refine wS_pure 1 [(4, .bool (false))] (by kernel_rfl) ?_
 refine wS_end (by rfl) ?_
 refine eX_then ?_
 refine cW_seq ?_
 refine cW_region ?_
 refine wS_pure 1 [(5, .pointer (some ⟨b0, 0, none⟩))] (by kernel_rfl) ?_
 refine wS_loadA (d := 6) (T := 29) (ad := ⟨b1, 0, none⟩) (vs := [.int .i64 (p1_0), .int .i64 (p1_1)]) (by kernel_rfl) vt29 (fun i u hu => box_cells F1 0 hu (by rfl)) ?_
 obtain ⟨y1, hy1, hm⟩ := bindE hm
 refine wS_calls (d := 7) (f := 54) (vs := [.pointer (some ⟨b0, 0, none⟩), .agg #[.int .i64 (p1_0), .int .i64 (p1_1)]]) (by kernel_rfl) ent54 (c_impl_Maze_has_bimplMaze hy1 F0_0 F0) ?_
 rintro _ w2 ⟨rfl, hc2⟩
 replace F0_0 := F0_0.chg hc2 Dj.nil
 replace F0 := F0.chg hc2 notNil
 replace F1 := F1.chg hc2 notNil
 replace hB := hB.inS hc2 inNil
 replace hZ := Nat.le_trans hZ hc2.size
 refine ⟨.bool (y1), rfl, ?_⟩
 refine wS_pure 1 [(8, .bool (y1))] (by kernel_rfl) ?_
 refine wS_bool y1 (fun hb1 => ?_) (fun hb1 => ?_)
 ·have hm := condT hb1 hm
  rewrite [hb1]
  refine wS_pure 1 [(9, .pointer (some ⟨b0, 0, none⟩))] (by kernel_rfl) ?_
  refine wS_loadA (d := 10) (T := 29) (ad := ⟨b1, 0, none⟩) (vs := [.int .i64 (p1_0), .int .i64 (p1_1)]) (by kernel_rfl) vt29 (fun i u hu => box_cells F1 0 hu (by rfl)) ?_
  obtain ⟨y2, hy2, hm⟩ := bindE hm
  refine wS_calls (d := 11) (f := 55) (vs := [.pointer (some ⟨b0, 0, none⟩), .agg #[.int .i64 (p1_0), .int .i64 (p1_1)]]) (by kernel_rfl) ent55 (c_impl_Maze_price_bimplMaze hy2 F0_0 F0) ?_
  rintro _ w3 ⟨rfl, hc3⟩
  replace F0_0 := F0_0.chg hc3 Dj.nil
  replace F0 := F0.chg hc3 notNil
  replace F1 := F1.chg hc3 notNil
  replace hB := hB.inS hc3 inNil
  replace hZ := Nat.le_trans hZ hc3.size
  refine ⟨.int .i64 (y2), rfl, ?_⟩
  refine wS_pure 3 [(4, .bool (y2 != 0)), (13, .bool (y2 != 0)), (12, .bool (y2 != 0))] (by kernel_rfl) ?_
  refine wS_end (by rfl) ?_
  refine eX_then ?_
  refine cW_ret ?_
  have hq : (some (y2 != 0) : Option ((Bool))) = some _ := hm
  replace hq := someE hq
  subst hq
  refine eX_ret (vs := [.bool (y2 != 0)]) [.tmp 4] (by rfl) ⟨by (show lkE _ _ _ = _); kernel_rfl, trivial⟩ ?_
  exact ⟨rfl, hB⟩
 ·have hm := condF hb1 hm
  rewrite [hb1]
  refine wS_pure 6 [(4, .bool (false)), (13, .bool (false)), (12, undef), (11, undef), (10, undef), (9, undef)] (by kernel_rfl) ?_
  refine wS_end (by rfl) ?_
  refine eX_then ?_
  refine cW_ret ?_
  have hq : (some false : Option ((Bool))) = some _ := hm
  replace hq := someE hq
  subst hq
  refine eX_ret (vs := [.bool (false)]) [.tmp 4] (by rfl) ⟨by (show lkE _ _ _ = _); kernel_rfl, trivial⟩ ?_
  exact ⟨rfl, hB⟩

set_option maxRecDepth 100000 in
/-- impl.IsOpen -/
theorem c_impl_IsOpen {w0 : World} {l0_0 : List (List (Int))} {A0_0 : Option Addr} {cap0_0 : Nat} {fp0_0 : List Nat} {p1_0 : Int} {p1_1 : Int} {r : (Bool)} (hm : m_impl_IsOpen l0_0 p1_0 p1_1 = some r) (F0_0 : SlR 1 encI w0 fp0_0 A0_0 l0_0) :
  Calls Try.prog 12 #[.agg #[.slice A0_0 (l0_0).length cap0_0], .agg #[.int .i64 (p1_0), .int .i64 (p1_1)]] w0 fun e w' => e = .returned (.bool (r)) ∧ Chg [] w0 w' := by
 have L0_0 := F0_0.low
 have hB : Chg [] w0 w0 := Chg.refl _ _
 have hZ := Nat.le_refl w0.heap.size
 unfold m_impl_IsOpen at hm
 refine enterE (N := 11) Try.func12 (by rfl) Try.ntmps12 (by simp) [(0, .agg #[.slice A0_0 (l0_0).length cap0_0]), (1, .agg #[.int .i64 (p1_0), .int .i64 (p1_1)])] (by rfl) (by kernel_rfl) (fun a => ?_)
 refine cW_seq ?_
 refine cW_region ?_
 refine wS_box (d := 2) (T := 26) (x := .agg #[.slice A0_0 (l0_0).length cap0_0]) (by kernel_rfl) ?_
 intro b1 w1 G1 F1 hc1
 replace F1 : Cl w1 b1 26 [.slice A0_0 (l0_0).length cap0_0] := F1
 replace F0_0 := F0_0.chg hc1 Dj.nil
 replace hB := hB.inS hc1 inNil
 replace G1 := Nat.le_trans hZ G1
 replace hZ := Nat.le_trans hZ hc1.size
 refine wS_box (d := 3) (T := 29) (x := .agg #[.int .i64 (p1_0), .int .i64 (p1_1)]) (by kernel_rfl) ?_
 intro b2 w2 G2 F2 hc2
 replace F2 : Cl w2 b2 29 [.int .i64 (p1_0), .int .i64 (p1_1)] := F2
 have D1 : Dj [b1] [b2] := Dj.of (lt1 F1.lt) (low1 G2)
 replace F0_0 := F0_0.chg hc2 Dj.nil
 replace F1 := F1.chg hc2 notNil
 replace hB := hB.inS hc2 inNil
 replace G2 := Nat.le_trans hZ G2
 replace hZ := Nat.le_trans hZ hc2.size
 refine wS_pure 1 [(4, .bool (false))] (by kernel_rfl) ?_
 refine wS_end (by rfl) ?_
 refine eX_then ?_
 refine cW_seq ?_
 refine cW_region ?_
 refine wS_loadA (d := 5) (T := 26) (ad := ⟨b1, 0, none⟩) (vs := [.slice A0_0 (l0_0).length cap0_0]) (by kernel_rfl) vt26 (fun i u hu => box_cells F1 0 hu (by rfl)) ?_
 obtain ⟨y1, hy1, hm⟩ := bindE hm
 refine wS_calls (d := 6) (f := 32) (vs := [.agg #[.slice A0_0 (l0_0).length cap0_0]]) (by kernel_rfl) ent32 (c_impl_ValidMaze hy1 F0_0) ?_
 rintro _ w3 ⟨rfl, hc3⟩
 replace F0_0 := F0_0.chg hc3 Dj.nil
 replace F1 := F1.chg hc3 notNil
 replace F2 := F2.chg hc3 notNil
 replace hB := hB.inS hc3 inNil
 replace hZ := Nat.le_trans hZ hc3.size
 refine ⟨.bool (y1), rfl, ?_⟩
 refine wS_pure 1 [(7, .bool (y1))] (by kernel_rfl) ?_
 refine wS_bool y1 (fun hb1 => ?_) (fun hb1 => ?_)
 ·have hm := condT hb1 hm
  rewrite [hb1]
  refine wS_loadA (d := 8) (T := 29) (ad := ⟨b2, 0, none⟩) (vs := [.int .i64 (p1_0), .int .i64 (p1_1)]) (by kernel_rfl) vt29 (fun i u hu => box_cells F2 0 hu (by rfl)) ?_
  obtain ⟨y2, hy2, hm⟩ := bindE hm
  refine wS_calls (d := 9) (f := 33) (vs := [.pointer (some ⟨b1, 0, none⟩), .agg #[.int .i64 (p1_0), .int .i64 (p1_1)]]) (by kernel_rfl) ent33 (c_impl_Maze_open_bimplMaze hy2 F0_0 F1) ?_
  rintro _ w4 ⟨rfl, hc4⟩
  replace F0_0 := F0_0.chg hc4 Dj.nil
  replace F1 := F1.chg hc4 notNil
  replace F2 := F2.chg hc4 notNil
  replace hB := hB.inS hc4 inNil
  replace hZ := Nat.le_trans hZ hc4.size
  refine ⟨.bool (y2), rfl, ?_⟩
  refine wS_pure 2 [(4, .bool (y2)), (10, .bool (y2))] (by kernel_rfl) ?_
  refine wS_end (by rfl) ?_
  refine eX_then ?_
  refine cW_ret ?_
  have hq : (some y2 : Option ((Bool))) = some _ := hm
  replace hq := someE hq
  subst hq
  refine eX_ret (vs := [.bool (y2)]) [.tmp 4] (by rfl) ⟨by (show lkE _ _ _ = _); kernel_rfl, trivial⟩ ?_
  exact ⟨rfl, hB⟩
 ·have hm := condF hb1 hm
  rewrite [hb1]
  refine wS_pure 4 [(4, .bool (false)), (10, .bool (false)), (9, undef), (8, undef)] (by kernel_rfl) ?_
  refine wS_end (by rfl) ?_
  refine eX_then ?_
  refine cW_ret ?_
  have hq : (some false : Option ((Bool))) = some _ := hm
  replace hq := someE hq
  subst hq
  refine eX_ret (vs := [.bool (false)]) [.tmp 4] (by rfl) ⟨by (show lkE _ _ _ = _); kernel_rfl, trivial⟩ ?_
  exact ⟨rfl, hB⟩

set_option maxRecDepth 100000 in
/-- impl.size -/
theorem c_impl_size {w0 : World} {p0 : Int} {r : (Int)} (hm : m_impl_size p0 = some r)  :
  Calls Try.prog 51 #[.int .i64 (p0)] w0 fun e w' => e = .returned (.int .i64 (r)) ∧ Chg [] w0 w' := by
 have hB : Chg [] w0 w0 := Chg.refl _ _
 have hZ := Nat.le_refl w0.heap.size
 unfold m_impl_size at hm
 refine enterE (N := 7) Try.func51 (by rfl) Try.ntmps51 (by simp) [(0, .int .i64 (p0))] (by rfl) (by kernel_rfl) (fun a => ?_)
 refine cW_seq ?_
 refine cW_region ?_
 refine wS_pure 1 [(2, .int .i64 (0))] (by kernel_rfl) ?_
 refine wS_end (by rfl) ?_
 refine eX_then ?_
 refine cW_seq ?_
 refine cW_region ?_
 refine wS_pure 5 [(2, .int .i64 (if (wr (0 - p0)) > p0 then (wr (0 - p0)) else p0)), (6, .int .i64 (if (wr (0 - p0)) > p0 then (wr (0 - p0)) else p0)), (5, .int .i64 (wr (0 - p0))), (4, .int .i64 (p0)), (3, .int .i64 (p0))] (by kernel_rfl) ?_
 refine wS_end (by rfl) ?_
 refine eX_then ?_
 refine cW_ret ?_
 have hq : (some (if (wr (0 - p0)) > p0 then (wr (0 - p0)) else p0) : Option ((Int))) = some _ := hm
 replace hq := someE hq
 subst hq
 refine eX_ret (vs := [.int .i64 (if (wr (0 - p0)) > p0 then (wr (0 - p0)) else p0)]) [.tmp 2] (by rfl) ⟨by (show lkE _ _ _ = _); kernel_rfl, trivial⟩ ?_
 exact ⟨rfl, hB⟩

set_option maxRecDepth 100000 in
/-- impl.far -/
theorem c_impl_far {w0 : World} {p0_0 : Int} {p0_1 : Int} {p1_0 : Int} {p1_1 : Int} {r : (Int)} (hm : m_impl_far p0_0 p0_1 p1_0 p1_1 = some r)  :
  Calls Try.prog 31 #[.agg #[.int .i64 (p0_0), .int .i64 (p0_1)], .agg #[.int .i64 (p1_0), .int .i64 (p1_1)]] w0 fun e w' => e = .returned (.int .i64 (r)) ∧ Chg [] w0 w' := by
 have hB : Chg [] w0 w0 := Chg.refl _ _
 have hZ := Nat.le_refl w0.heap.size
 unfold m_impl_far at hm
 refine enterE (N := 18) Try.func31 (by rfl) Try.ntmps31 (by simp) [(0, .agg #[.int .i64 (p0_0), .int .i64 (p0_1)]), (1, .agg #[.int .i64 (p1_0), .int .i64 (p1_1)])] (by rfl) (by kernel_rfl) (fun a => ?_)
 refine cW_seq ?_
 refine cW_region ?_
 refine wS_box (d := 2) (T := 29) (x := .agg #[.int .i64 (p0_0), .int .i64 (p0_1)]) (by kernel_rfl) ?_
 intro b1 w1 G1 F1 hc1
 replace F1 : Cl w1 b1 29 [.int .i64 (p0_0), .int .i64 (p0_1)] := F1
 replace hB := hB.inS hc1 inNil
 replace G1 := Nat.le_trans hZ G1
 replace hZ := Nat.le_trans hZ hc1.size
 refine wS_box (d := 3) (T := 29) (x := .agg #[.int .i64 (p1_0), .int .i64 (p1_1)]) (by kernel_rfl) ?_
 intro b2 w2 G2 F2 hc2
 replace F2 : Cl w2 b2 29 [.int .i64 (p1_0), .int .i64 (p1_1)] := F2
 have D1 : Dj [b1] [b2] := Dj.of (lt1 F1.lt) (low1 G2)
 replace F1 := F1.chg hc2 notNil
 replace hB := hB.inS hc2 inNil
 replace G2 := Nat.le_trans hZ G2
 replace hZ := Nat.le_trans hZ hc2.size
 refine wS_pure 1 [(4, .int .i64 (0))] (by kernel_rfl) ?_
 refine wS_end (by rfl) ?_
 refine eX_then ?_
 refine cW_seq ?_
 refine cW_drawnTail [] 11 (by kernel_rfl) (by kernel_rfl) (fun w3 hc3 => ?_)
 replace F1 := F1.chg hc3 notNil
 replace F2 := F2.chg hc3 notNil
 replace hB := hB.inS hc3 inNil
 replace hZ := Nat.le_trans hZ hc3.size
 have hS := Chg.refl [] w3
 have Z1 := F1
 have Z2 := F2
 refine wH_take [0] [0] [(5, .pointer (some ⟨b1, 0, none⟩))] (by kernel_rfl) (qT (qT qZ)) (by kernel_rfl) ?_
 refine wH_load1 (i := 1) (d := 6) (T := 2) (ad := ⟨b1, 0, none⟩) (v := .int .i64 (p0_0)) (by kernel_rfl) (qT (qT qZ)) (by kernel_rfl) (by kernel_rfl) vt2 (fun W hW => (Z1.chg hW notNil).cell 0) ?_
 refine wH_take [2] [2, 1, 0] [(7, .pointer (some ⟨b2, 0, none⟩))] (by kernel_rfl) (qT (qT qZ)) (by kernel_rfl) ?_
 refine wH_load1 (i := 3) (d := 8) (T := 2) (ad := ⟨b2, 0, none⟩) (v := .int .i64 (p1_0)) (by kernel_rfl) (qT (qT qZ)) (by kernel_rfl) (by kernel_rfl) vt2 (fun W hW => (Z2.chg hW notNil).cell 0) ?_
 refine wH_take [4, 6] [6, 4, 3, 2, 1, 0] [(11, .pointer (some ⟨b1, 1, none⟩)), (9, .int .i64 (wr (p0_0 - p1_0)))] (by kernel_rfl) (qT (qT qZ)) (by kernel_rfl) ?_
 refine wH_load1 (i := 7) (d := 12) (T := 2) (ad := ⟨b1, 1, none⟩) (v := .int .i64 (p0_1)) (by kernel_rfl) (qT (qT qZ)) (by kernel_rfl) (by kernel_rfl) vt2 (fun W hW => (Z1.chg hW notNil).cell 1) ?_
 refine wH_take [8] [8, 7, 6, 4, 3, 2, 1, 0] [(13, .pointer (some ⟨b2, 1, none⟩))] (by kernel_rfl) (qT (qT qZ)) (by kernel_rfl) ?_
 refine wH_load1 (i := 9) (d := 14) (T := 2) (ad := ⟨b2, 1, none⟩) (v := .int .i64 (p1_1)) (by kernel_rfl) (qT (qT qZ)) (by kernel_rfl) (by kernel_rfl) vt2 (fun W hW => (Z2.chg hW notNil).cell 1) ?_
 refine wH_take [10] [10, 9, 8, 7, 6, 4, 3, 2, 1, 0] [(15, .int .i64 (wr (p0_1 - p1_1)))] (by kernel_rfl) (qT (qT qZ)) (by kernel_rfl) ?_
 refine wH_all [5] (by rfl) (by kernel_rfl) (by simp) ⟨⟨by kernel_rfl, ?_⟩, trivial⟩
 obtain ⟨y1, hy1, hm⟩ := bindE hm
 refine wS_calls (d := 10) (f := 51) (vs := [.int .i64 (wr (p0_0 - p1_0))]) (by kernel_rfl) ent51 (c_impl_size hy1) ?_
 rintro _ w4 ⟨rfl, hc4⟩
 replace F1 := F1.chg hc4 notNil
 replace F2 := F2.chg hc4 notNil
 replace hB := hB.inS hc4 inNil
 have hSz := hS
 replace hS := hS.inS hc4 inNil
 replace hZ := Nat.le_trans hZ hc4.size
 refine ⟨.int .i64 (y1), rfl, ?_⟩
 refine wS_end (by kernel_rfl) ?_
 refine eX_KH hS ?_
 refine wH_done (by kernel_rfl) ?_
 refine eX_tail ?_
 obtain ⟨y2, hy2, hm⟩ := bindE hm
 refine wS_calls (d := 16) (f := 51) (vs := [.int .i64 (wr (p0_1 - p1_1))]) (by kernel_rfl) ent51 (c_impl_size hy2) ?_
 rintro _ w5 ⟨rfl, hc5⟩
 replace F1 := F1.chg hc5 notNil
 replace F2 := F2.chg hc5 notNil
 replace hB := hB.inS hc5 inNil
 replace hZ := Nat.le_trans hZ hc5.size
 refine ⟨.int .i64 (y2), rfl, ?_⟩
 refine wS_pure 2 [(4, .int .i64 (wr (y1 + y2))), (17, .int .i64 (wr (y1 + y2)))] (by kernel_rfl) ?_
 refine wS_end (by rfl) ?_
 refine eX_then ?_
 refine cW_ret ?_
 have hq : (some (wr (y1 + y2)) : Option ((Int))) = some _ := hm
 replace hq := someE hq
 subst hq
 refine eX_ret (vs := [.int .i64 (wr (y1 + y2))]) [.tmp 4] (by rfl) ⟨by (show lkE _ _ _ = _); kernel_rfl, trivial⟩ ?_
 exact ⟨rfl, hB⟩

set_option maxRecDepth 100000 in
/-- impl.blockOk -/
theorem c_impl_blockOk {w0 : World} {l0_0 : List (List (Int))} {A0_0 : Option Addr} {cap0_0 : Nat} {fp0_0 : List Nat} {p1_0 : Int} {p1_1 : Int} {p2_0 : Int} {p2_1 : Int} {r : (Bool)} (hm : m_impl_blockOk l0_0 p1_0 p1_1 p2_0 p2_1 = some r) (F0_0 : SlR 1 encI w0 fp0_0 A0_0 l0_0) :
  Calls Try.prog 28 #[.agg #[.slice A0_0 (l0_0).length cap0_0], .agg #[.int .i64 (p1_0), .int .i64 (p1_1)], .agg #[.int .i64 (p2_0), .int .i64 (p2_1)]] w0 fun e w' => e = .returned (.bool (r)) ∧ Chg [] w0 w' := by
 have L0_0 := F0_0.low
 have hB : Chg [] w0 w0 := Chg.refl _ _
 have hZ := Nat.le_refl w0.heap.size
 unfold m_impl_blockOk at hm
 refine enterE (N := 20) Try.func28 (by rfl) Try.ntmps28 (by simp) [(0, .agg #[.slice A0_0 (l0_0).length cap0_0]), (1, .agg #[.int .i64 (p1_0), .int .i64 (p1_1)]), (2, .agg #[.int .i64 (p2_0), .int .i64 (p2_1)])] (by rfl) (by kernel_rfl) (fun a => ?_)
 refine cW_seq ?_
 refine cW_region ?_
 refine wS_box (d := 3) (T := 26) (x := .agg #[.slice A0_0 (l0_0).length cap0_0]) (by kernel_rfl) ?_
 intro b1 w1 G1 F1 hc1
 replace F1 : Cl w1 b1 26 [.slice A0_0 (l0_0).length cap0_0] := F1
 replace F0_0 := F0_0.chg hc1 Dj.nil
 replace hB := hB.inS hc1 inNil
 replace G1 := Nat.le_trans hZ G1
 replace hZ := Nat.le_trans hZ hc1.size
 refine wS_box (d := 4) (T := 29) (x := .agg #[.int .i64 (p1_0), .int .i64 (p1_1)]) (by kernel_rfl) ?_
 intro b2 w2 G2 F2 hc2
 replace F2 : Cl w2 b2 29 [.int .i64 (p1_0), .int .i64 (p1_1)] := F2
 have D1 : Dj [b1] [b2] := Dj.of (lt1 F1.lt) (low1 G2)
 replace F0_0 := F0_0.chg hc2 Dj.nil
 replace F1 := F1.chg hc2 notNil
 replace hB := hB.inS hc2 inNil
 replace G2 := Nat.le_trans hZ G2
 replace hZ := Nat.le_trans hZ hc2.size
 refine wS_box (d := 5) (T := 29) (x := .agg #[.int .i64 (p2_0), .int .i64 (p2_1)]) (by kernel_rfl) ?_
 intro b3 w3 G3 F3 hc3
 replace F3 : Cl w3 b3 29 [.int .i64 (p2_0), .int .i64 (p2_1)] := F3
 have D2 : Dj [b1] [b3] := Dj.of (lt1 F1.lt) (low1 G3)
 have D3 : Dj [b2] [b3] := Dj.of (lt1 F2.lt) (low1 G3)
 replace F0_0 := F0_0.chg hc3 Dj.nil
 replace F1 := F1.chg hc3 notNil
 replace F2 := F2.chg hc3 notNil
 replace hB := hB.inS hc3 inNil
 replace G3 := Nat.le_trans hZ G3
 replace hZ := Nat.le_trans hZ hc3.size
 refine wS_pure 1 [(6, .bool (false))] (by kernel_rfl) ?_
 refine wS_end (by rfl) ?_
 refine eX_then ?_
 refine cW_seq ?_
 refine cW_region ?_
 refine wS_loadA (d := 7) (T := 26) (ad := ⟨b1, 0, none⟩) (vs := [.slice A0_0 (l0_0).length cap0_0]) (by kernel_rfl) vt26 (fun i u hu => box_cells F1 0 hu (by rfl)) ?_
 refine wS_loadA (d := 8) (T := 29) (ad := ⟨b2, 0, none⟩) (vs := [.int .i64 (p1_0), .int .i64 (p1_1)]) (by kernel_rfl) vt29 (fun i u hu => box_cells F2 0 hu (by rfl)) ?_
 obtain ⟨y1, hy1, hm⟩ := bindE hm
 refine wS_calls (d := 9) (f := 12) (vs := [.agg #[.slice A0_0 (l0_0).length cap0_0], .agg #[.int .i64 (p1_0), .int .i64 (p1_1)]]) (by kernel_rfl) ent12 (c_impl_IsOpen hy1 F0_0) ?_
 rintro _ w4 ⟨rfl, hc4⟩
 replace F0_0 := F0_0.chg hc4 Dj.nil
 replace F1 := F1.chg hc4 notNil
 replace F2 := F2.chg hc4 notNil
 replace F3 := F3.chg hc4 notNil
 replace hB := hB.inS hc4 inNil
 replace hZ := Nat.le_trans hZ hc4.size
 refine ⟨.bool (y1), rfl, ?_⟩
 refine wS_pure 1 [(10, .bool (y1))] (by kernel_rfl) ?_
 refine wS_bool y1 (fun hb1 => ?_) (fun hb1 => ?_)
 ·have hm := condT hb1 hm
  rewrite [hb1]
  refine wS_loadA (d := 11) (T := 29) (ad := ⟨b3, 0, none⟩) (vs := [.int .i64 (p2_0), .int .i64 (p2_1)]) (by kernel_rfl) vt29 (fun i u hu => box_cells F3 0 hu (by rfl)) ?_
  obtain ⟨y2, hy2, hm⟩ := bindE hm
  refine wS_calls (d := 12) (f := 33) (vs := [.pointer (some ⟨b1, 0, none⟩), .agg #[.int .i64 (p2_0), .int .i64 (p2_1)]]) (by kernel_rfl) ent33 (c_impl_Maze_open_bimplMaze hy2 F0_0 F1) ?_
  rintro _ w5 ⟨rfl, hc5⟩
  replace F0_0 := F0_0.chg hc5 Dj.nil
  replace F1 := F1.chg hc5 notNil
  replace F2 := F2.chg hc5 notNil
  replace F3 := F3.chg hc5 notNil
  replace hB := hB.inS hc5 inNil
  replace hZ := Nat.le_trans hZ hc5.size
  refine ⟨.bool (y2), rfl, ?_⟩
  refine wS_pure 2 [(14, .bool (y2)), (13, .bool (y2))] (by kernel_rfl) ?_
  refine wS_bool y2 (fun hb2 => ?_) (fun hb2 => ?_)
  ·have hm := condT hb2 hm
   rewrite [hb2]
   refine wS_loadA (d := 15) (T := 29) (ad := ⟨b2, 0, none⟩) (vs := [.int .i64 (p1_0), .int .i64 (p1_1)]) (by kernel_rfl) vt29 (fun i u hu => box_cells F2 0 hu (by rfl)) ?_
   refine wS_loadA (d := 16) (T := 29) (ad := ⟨b3, 0, none⟩) (vs := [.int .i64 (p2_0), .int .i64 (p2_1)]) (by kernel_rfl) vt29 (fun i u hu => box_cells F3 0 hu (by rfl)) ?_
   obtain ⟨y3, hy3, hm⟩ := bindE hm
   refine wS_calls (d := 17) (f := 31) (vs := [.agg #[.int .i64 (p1_0), .int .i64 (p1_1)], .agg #[.int .i64 (p2_0), .int .i64 (p2_1)]]) (by kernel_rfl) ent31 (c_impl_far hy3) ?_
   rintro _ w6 ⟨rfl, hc6⟩
   replace F0_0 := F0_0.chg hc6 Dj.nil
   replace F1 := F1.chg hc6 notNil
   replace F2 := F2.chg hc6 notNil
   replace F3 := F3.chg hc6 notNil
   replace hB := hB.inS hc6 inNil
   replace hZ := Nat.le_trans hZ hc6.size
   refine ⟨.int .i64 (y3), rfl, ?_⟩
   refine wS_pure 3 [(6, .bool (decide (y3 > 1))), (19, .bool (decide (y3 > 1))), (18, .bool (decide (y3 > 1)))] (by kernel_rfl) ?_
   refine wS_end (by rfl) ?_
   refine eX_then ?_
   refine cW_ret ?_
   have hq : (some (decide (y3 > 1)) : Option ((Bool))) = some _ := hm
   replace hq := someE hq
   subst hq
   refine eX_ret (vs := [.bool (decide (y3 > 1))]) [.tmp 6] (by rfl) ⟨by (show lkE _ _ _ = _); kernel_rfl, trivial⟩ ?_
   exact ⟨rfl, hB⟩
  ·have hm := condF hb2 hm
   rewrite [hb2]
   refine wS_pure 6 [(6, .bool (false)), (19, .bool (false)), (18, undef), (17, undef), (16, undef), (15, undef)] (by kernel_rfl) ?_
   refine wS_end (by rfl) ?_
   refine eX_then ?_
   refine cW_ret ?_
   have hq : (some false : Option ((Bool))) = some _ := hm
   replace hq := someE hq
   subst hq
   refine eX_ret (vs := [.bool (false)]) [.tmp 6] (by rfl) ⟨by (show lkE _ _ _ = _); kernel_rfl, trivial⟩ ?_
   exact ⟨rfl, hB⟩
 ·have hm := condF hb1 hm
  rewrite [hb1]
  refine wS_pure 10 [(6, .bool (false)), (19, .bool (false)), (18, undef), (17, undef), (16, undef), (15, undef), (14, .bool (false)), (13, .bool (false)), (12, undef), (11, undef)] (by kernel_rfl) ?_
  refine wS_end (by rfl) ?_
  refine eX_then ?_
  refine cW_ret ?_
  have hq : (some false : Option ((Bool))) = some _ := hm
  replace hq := someE hq
  subst hq
  refine eX_ret (vs := [.bool (false)]) [.tmp 6] (by rfl) ⟨by (show lkE _ _ _ = _); kernel_rfl, trivial⟩ ?_
  exact ⟨rfl, hB⟩

set_option maxRecDepth 100000 in
/-- impl.next -/
theorem c_impl_next {w0 : World} {p0_0 : Int} {p0_1 : Int} {p1 : Int} {r : (Int × Int)} (hm : m_impl_next p0_0 p0_1 p1 = some r)  :
  Calls Try.prog 56 #[.agg #[.int .i64 (p0_0), .int .i64 (p0_1)], .int .i64 (p1)] w0 fun e w' => e = .returned (.agg #[.int .i64 (r.1), .int .i64 (r.2)]) ∧ Chg [] w0 w' := by
 have hB : Chg [] w0 w0 := Chg.refl _ _
 have hZ := Nat.le_refl w0.heap.size
 unfold m_impl_next at hm
 refine enterE (N := 36) Try.func56 (by rfl) Try.ntmps56 (by simp) [(0, .agg #[.int .i64 (p0_0), .int .i64 (p0_1)]), (1, .int .i64 (p1))] (by rfl) (by kernel_rfl) (fun a => ?_)
 refine cW_seq ?_
 refine cW_region ?_
 refine wS_box (d := 2) (T := 29) (x := .agg #[.int .i64 (p0_0), .int .i64 (p0_1)]) (by kernel_rfl) ?_
 intro b1 w1 G1 F1 hc1
 replace F1 : Cl w1 b1 29 [.int .i64 (p0_0), .int .i64 (p0_1)] := F1
 replace hB := hB.inS hc1 inNil
 replace G1 := Nat.le_trans hZ G1
 replace hZ := Nat.le_trans hZ hc1.size
 refine wS_alloc (d := 4) (T := 29) (z := .agg #[.int .i64 (0), .int .i64 (0)]) (by kernel_rfl) (by kernel_rfl) ?_
 intro b2 w2 G2 F2 hc2
 replace F2 : Cl w2 b2 29 [.int .i64 (0), .int .i64 (0)] := F2
 have D1 : Dj [b1] [b2] := Dj.of (lt1 F1.lt) (low1 G2)
 replace F1 := F1.chg hc2 notNil
 replace hB := hB.inS hc2 inNil
 replace G2 := Nat.le_trans hZ G2
 replace hZ := Nat.le_trans hZ hc2.size
 refine wS_end (by rfl) ?_
 refine eX_then ?_
 refine cW_seq ?_
 refine cW_seq ?_
 refine cW_region ?_
 refine wS_pure 1 [(5, .int .i64 (p1))] (by kernel_rfl) ?_
 refine wS_end (by rfl) ?_
 refine eX_then ?_
 refine cW_block ?_
 refine cW_seq ?_
 refine cW_region ?_
 refine wS_pure 2 [(6, .bool (p1 == 0)), (7, .bool (p1 == 0))] (by kernel_rfl) ?_
 refine wS_end (by rfl) ?_
 refine eX_then ?_
 refine cW_cond (t := p1 == 0) (by kernel_rfl) (fun hb1 => ?_) (fun hb1 => ?_)
 ·have hm := condT hb1 hm
  refine cW_seq ?_
  refine cW_region ?_
  refine wS_pure 1 [(8, .pointer (some ⟨b1, 0, none⟩))] (by kernel_rfl) ?_
  refine wS_load1 (d := 9) (T := 2) (ad := ⟨b1, 0, none⟩) (v := .int .i64 (p0_0)) (by kernel_rfl) vt2 ((F1).cell 0) ?_
  refine wS_pure 1 [(10, .pointer (some ⟨b1, 1, none⟩))] (by kernel_rfl) ?_
  refine wS_load1 (d := 11) (T := 2) (ad := ⟨b1, 1, none⟩) (v := .int .i64 (p0_1)) (by kernel_rfl) vt2 ((F1).cell 1) ?_
  refine wS_pure 2 [(13, .agg #[.int .i64 (p0_0), .int .i64 (wr (p0_1 - 1))]), (12, .int .i64 (wr (p0_1 - 1)))] (by kernel_rfl) ?_
  refine wS_store (T := 29) (g := b2) (o := 0) (ad := ⟨b2, 0, none⟩) (v := .agg #[.int .i64 (p0_0), .int .i64 (wr (p0_1 - 1))]) (vs := [.int .i64 (p0_0), .int .i64 (wr (p0_1 - 1))]) (by kernel_rfl) (by rfl) sz29 (by rfl) (by rfl) F2 (by simp only [List.length_cons, List.length_nil]; omega) ?_
  intro w3 F3 hc3
  replace F1 := F1.chg hc3 (dj1 D1)
  replace hB := hB.inS hc3 (inLow (low1 G2))
  replace hZ := Nat.le_trans hZ hc3.size
  replace F3 : Cl w3 b2 29 [.int .i64 (p0_0), .int .i64 (wr (p0_1 - 1))] := F3
  clear F2
  refine wS_end (by rfl) ?_
  refine eX_then ?_
  refine cW_ret ?_
  refine eX_block_ret ?_
  refine eX_then_ret ?_
  have hq : (some ((p0_0, wr (p0_1 - 1))) : Option ((Int × Int))) = some _ := hm
  replace hq := someE hq
  subst hq
  refine eX_ret (vs := [.agg #[.int .i64 (p0_0), .int .i64 (wr (p0_1 - 1))]]) [.cell 4 29] (by rfl) ⟨⟨⟨b2, 0, none⟩, by kernel_rfl, run_loadVarA (vs := [.int .i64 (p0_0), .int .i64 (wr (p0_1 - 1))]) vt29 (fun i u hu => by exact box_cells F3 0 hu (by rfl))⟩, trivial⟩ ?_
  exact ⟨rfl, hB⟩
 ·have hm := condF hb1 hm
  refine cW_seq ?_
  refine cW_region ?_
  refine wS_pure 2 [(14, .bool (p1 == 1)), (15, .bool (p1 == 1))] (by kernel_rfl) ?_
  refine wS_end (by rfl) ?_
  refine eX_then ?_
  refine cW_cond (t := p1 == 1) (by kernel_rfl) (fun hb2 => ?_) (fun hb2 => ?_)
  ·have hm := condT hb2 hm
   refine cW_seq ?_
   refine cW_region ?_
   refine wS_pure 1 [(16, .pointer (some ⟨b1, 0, none⟩))] (by kernel_rfl) ?_
   refine wS_load1 (d := 17) (T := 2) (ad := ⟨b1, 0, none⟩) (v := .int .i64 (p0_0)) (by kernel_rfl) vt2 ((F1).cell 0) ?_
   refine wS_pure 2 [(19, .pointer (some ⟨b1, 1, none⟩)), (18, .int .i64 (wr (p0_0 - 1)))] (by kernel_rfl) ?_
   refine wS_load1 (d := 20) (T := 2) (ad := ⟨b1, 1, none⟩) (v := .int .i64 (p0_1)) (by kernel_rfl) vt2 ((F1).cell 1) ?_
   refine wS_pure 1 [(21, .agg #[.int .i64 (wr (p0_0 - 1)), .int .i64 (p0_1)])] (by kernel_rfl) ?_
   refine wS_store (T := 29) (g := b2) (o := 0) (ad := ⟨b2, 0, none⟩) (v := .agg #[.int .i64 (wr (p0_0 - 1)), .int .i64 (p0_1)]) (vs := [.int .i64 (wr (p0_0 - 1)), .int .i64 (p0_1)]) (by kernel_rfl) (by rfl) sz29 (by rfl) (by rfl) F2 (by simp only [List.length_cons, List.length_nil]; omega) ?_
   intro w4 F4 hc4
   replace F1 := F1.chg hc4 (dj1 D1)
   replace hB := hB.inS hc4 (inLow (low1 G2))
   replace hZ := Nat.le_trans hZ hc4.size
   replace F4 : Cl w4 b2 29 [.int .i64 (wr (p0_0 - 1)), .int .i64 (p0_1)] := F4
   clear F2
   refine wS_end (by rfl) ?_
   refine eX_then ?_
   refine cW_ret ?_
   refine eX_block_ret ?_
   refine eX_then_ret ?_
   have hq : (some ((wr (p0_0 - 1), p0_1)) : Option ((Int × Int))) = some _ := hm
   replace hq := someE hq
   subst hq
   refine eX_ret (vs := [.agg #[.int .i64 (wr (p0_0 - 1)), .int .i64 (p0_1)]]) [.cell 4 29] (by rfl) ⟨⟨⟨b2, 0, none⟩, by kernel_rfl, run_loadVarA (vs := [.int .i64 (wr (p0_0 - 1)), .int .i64 (p0_1)]) vt29 (fun i u hu => by exact box_cells F4 0 hu (by rfl))⟩, trivial⟩ ?_
   exact ⟨rfl, hB⟩
  ·have hm := condF hb2 hm
   refine cW_seq ?_
   refine cW_region ?_
   refine wS_pure 2 [(22, .bool (p1 == 2)), (23, .bool (p1 == 2))] (by kernel_rfl) ?_
   refine wS_end (by rfl) ?_
   refine eX_then ?_
   refine cW_cond (t := p1 == 2) (by kernel_rfl) (fun hb3 => ?_) (fun hb3 => ?_)
   ·have hm := condT hb3 hm
    refine cW_seq ?_
    refine cW_region ?_
    refine wS_pure 1 [(24, .pointer (some ⟨b1, 0, none⟩))] (by kernel_rfl) ?_
    refine wS_load1 (d := 25) (T := 2) (ad := ⟨b1, 0, none⟩) (v := .int .i64 (p0_0)) (by kernel_rfl) vt2 ((F1).cell 0) ?_
    refine wS_pure 2 [(27, .pointer (some ⟨b1, 1, none⟩)), (26, .int .i64 (wr (p0_0 + 1)))] (by kernel_rfl) ?_
    refine wS_load1 (d := 28) (T := 2) (ad := ⟨b1, 1, none⟩) (v := .int .i64 (p0_1)) (by kernel_rfl) vt2 ((F1).cell 1) ?_
    refine wS_pure 1 [(29, .agg #[.int .i64 (wr (p0_0 + 1)), .int .i64 (p0_1)])] (by kernel_rfl) ?_
    refine wS_store (T := 29) (g := b2) (o := 0) (ad := ⟨b2, 0, none⟩) (v := .agg #[.int .i64 (wr (p0_0 + 1)), .int .i64 (p0_1)]) (vs := [.int .i64 (wr (p0_0 + 1)), .int .i64 (p0_1)]) (by kernel_rfl) (by rfl) sz29 (by rfl) (by rfl) F2 (by simp only [List.length_cons, List.length_nil]; omega) ?_
    intro w5 F5 hc5
    replace F1 := F1.chg hc5 (dj1 D1)
    replace hB := hB.inS hc5 (inLow (low1 G2))
    replace hZ := Nat.le_trans hZ hc5.size
    replace F5 : Cl w5 b2 29 [.int .i64 (wr (p0_0 + 1)), .int .i64 (p0_1)] := F5
    clear F2
    refine wS_end (by rfl) ?_
    refine eX_then ?_
    refine cW_ret ?_
    refine eX_block_ret ?_
    refine eX_then_ret ?_
    have hq : (some ((wr (p0_0 + 1), p0_1)) : Option ((Int × Int))) = some _ := hm
    replace hq := someE hq
    subst hq
    refine eX_ret (vs := [.agg #[.int .i64 (wr (p0_0 + 1)), .int .i64 (p0_1)]]) [.cell 4 29] (by rfl) ⟨⟨⟨b2, 0, none⟩, by kernel_rfl, run_loadVarA (vs := [.int .i64 (wr (p0_0 + 1)), .int .i64 (p0_1)]) vt29 (fun i u hu => by exact box_cells F5 0 hu (by rfl))⟩, trivial⟩ ?_
    exact ⟨rfl, hB⟩
   ·have hm := condF hb3 hm
    refine cW_skip ?_
    refine eX_block ?_
    refine eX_then ?_
    refine cW_seq ?_
    refine cW_region ?_
    refine wS_pure 1 [(30, .pointer (some ⟨b1, 0, none⟩))] (by kernel_rfl) ?_
    refine wS_load1 (d := 31) (T := 2) (ad := ⟨b1, 0, none⟩) (v := .int .i64 (p0_0)) (by kernel_rfl) vt2 ((F1).cell 0) ?_
    refine wS_pure 1 [(32, .pointer (some ⟨b1, 1, none⟩))] (by kernel_rfl) ?_
    refine wS_load1 (d := 33) (T := 2) (ad := ⟨b1, 1, none⟩) (v := .int .i64 (p0_1)) (by kernel_rfl) vt2 ((F1).cell 1) ?_
    refine wS_pure 2 [(35, .agg #[.int .i64 (p0_0), .int .i64 (wr (p0_1 + 1))]), (34, .int .i64 (wr (p0_1 + 1)))] (by kernel_rfl) ?_
    refine wS_store (T := 29) (g := b2) (o := 0) (ad := ⟨b2, 0, none⟩) (v := .agg #[.int .i64 (p0_0), .int .i64 (wr (p0_1 + 1))]) (vs := [.int .i64 (p0_0), .int .i64 (wr (p0_1 + 1))]) (by kernel_rfl) (by rfl) sz29 (by rfl) (by rfl) F2 (by simp only [List.length_cons, List.length_nil]; omega) ?_
    intro w6 F6 hc6
    replace F1 := F1.chg hc6 (dj1 D1)
    replace hB := hB.inS hc6 (inLow (low1 G2))
    replace hZ := Nat.le_trans hZ hc6.size
    replace F6 : Cl w6 b2 29 [.int .i64 (p0_0), .int .i64 (wr (p0_1 + 1))] := F6
    clear F2
    refine wS_end (by rfl) ?_
    refine eX_then ?_
    refine cW_ret ?_
    have hq : (some ((p0_0, wr (p0_1 + 1))) : Option ((Int × Int))) = some _ := hm
    replace hq := someE hq
    subst hq
    refine eX_ret (vs := [.agg #[.int .i64 (p0_0), .int .i64 (wr (p0_1 + 1))]]) [.cell 4 29] (by rfl) ⟨⟨⟨b2, 0, none⟩, by kernel_rfl, run_loadVarA (vs := [.int .i64 (p0_0), .int .i64 (wr (p0_1 + 1))]) vt29 (fun i u hu => by exact box_cells F6 0 hu (by rfl))⟩, trivial⟩ ?_
    exact ⟨rfl, hB⟩

set_option maxRecDepth 100000 in
/-- impl.Point] -/
theorem c_slices_Clone_impl_Point_impl_Point {w0 : World} {l0 : List (Int × Int)} {A0 : Option Addr} {cap0 : Nat} {fp0 : List Nat} {r : (List (Int × Int))} (hm : m_slices_Clone_impl_Point_impl_Point l0 = some r) (F0 : Sl 2 encII w0 fp0 A0 l0) :
  Calls Try.prog 73 #[.slice A0 (l0).length cap0] w0 fun e w' => ∃ A100 cap100 fp100, e = .returned (.slice A100 (r).length cap100) ∧ Ow 2 encII 29 w' fp100 A100 cap100 r ∧ (∀ x ∈ fp100, w0.heap.size ≤ x) ∧ Chg [] w0 w' := by
 have L0 := F0.low
 have hB : Chg [] w0 w0 := Chg.refl _ _
 have hZ := Nat.le_refl w0.heap.size
 unfold m_slices_Clone_impl_Point_impl_Point at hm
 refine enterE (N := 8) Try.func73 (by rfl) Try.ntmps73 (by simp) [(0, .slice A0 (l0).length cap0)] (by rfl) (by kernel_rfl) (fun a => ?_)
 refine cW_seq ?_
 refine cW_region ?_
 refine wS_pure 1 [(2, .slice none 0 0)] (by kernel_rfl) ?_
 refine wS_end (by rfl) ?_
 refine eX_then ?_
 refine cW_seq ?_
 refine cW_seq ?_
 refine cW_region ?_
 refine wS_pure 1 [(3, .slice A0 (l0).length cap0)] (by kernel_rfl) ?_
 rcases A0 with _ | ad1
 ·have hl1 := F0.none_nil
  subst hl1
  replace hm : (some ([])) = some _ := Eq.trans (by kernel_rfl) hm
  refine wS_pure 1 [(4, .bool (true))] (by kernel_rfl) ?_
  refine wS_end (by rfl) ?_
  refine eX_then ?_
  refine cW_cond_t (by kernel_rfl) ?_
  refine cW_seq ?_
  refine cW_region ?_
  refine wS_pure 1 [(2, .slice none 0 0)] (by kernel_rfl) ?_
  refine wS_end (by rfl) ?_
  refine eX_then ?_
  refine cW_ret ?_
  refine eX_then_ret ?_
  have hq : (some ([]) : Option ((List (Int × Int)))) = some _ := hm
  replace hq := someE hq
  subst hq
  refine eX_ret (vs := [.slice none 0 0]) [.tmp 2] (by rfl) ⟨by (show lkE _ _ _ = _); kernel_rfl, trivial⟩ ?_
  exact ⟨none, 0, [], rfl, Ow.nil _, lowNil, hB⟩
 ·skip
  refine wS_pure 1 [(4, .bool (false))] (by kernel_rfl) ?_
  refine wS_end (by rfl) ?_
  refine eX_then ?_
  refine cW_cond_f (by kernel_rfl) ?_
  refine cW_skip ?_
  refine eX_then ?_
  refine cW_seq ?_
  refine cW_region ?_
  refine wS_bs0 (α := Int × Int) (enc := encII) (d := 5) (t := 31) (T := 29) (by kernel_rfl) el31 ?_
  intro b1 w1 G1 F1 hc1
  replace F0 := F0.chg hc1 Dj.nil
  replace hB := hB.inS hc1 inNil
  replace G1 := Nat.le_trans hZ G1
  replace G1 := low1 G1
  replace hZ := Nat.le_trans hZ hc1.size
  refine wS_pure 1 [(6, .slice (some ad1) (l0).length cap0)] (by kernel_rfl) ?_
  obtain ⟨_, hk1, hm⟩ := bindE hm
  replace hk1 := apE hk1
  refine wS_appendAny (enc := encII) (l := (([] : List (Int × Int)) : List (Int × Int))) (l2 := (l0 : List (Int × Int))) (d := 7) (t := 31) (T := 29) (A := (some ⟨b1, 0, none⟩)) (A2 := (some ad1)) (cap := 0) (cap2 := cap0) (by kernel_rfl) el31 encII_ok F1 F0 hk1 ?_
  intro w2 fp1 A1 cap1 F2 hc2 hp1
  have G2 := low_ap G1 hZ hp1
  replace F0 := F0.chg hc2 (Dj.of L0 G1)
  replace hB := hB.inS hc2 (inLow G1)
  replace hZ := Nat.le_trans hZ hc2.size
  refine wS_pure 1 [(2, .slice A1 ((([] : List (Int × Int))) ++ l0).length cap1)] (by kernel_rfl) ?_
  refine wS_end (by rfl) ?_
  refine eX_then ?_
  refine cW_ret ?_
  have hq : (some ((([] : List (Int × Int))) ++ l0) : Option ((List (Int × Int)))) = some _ := hm
  replace hq := someE hq
  subst hq
  refine eX_ret (vs := [.slice A1 ((([] : List (Int × Int))) ++ l0).length cap1]) [.tmp 2] (by rfl) ⟨by (show lkE _ _ _ = _); kernel_rfl, trivial⟩ ?_
  exact ⟨A1, cap1, fp1, rfl, F2, G2, hB⟩

set_option maxRecDepth 100000 in
/-- impl.Point] -/
theorem c_slices_Compact_impl_Point_impl_Point {w0 : World} {l0 : List (Int × Int)} {A0 : Option Addr} {cap0 : Nat} {fp0 : List Nat} {r : (List (Int × Int))} (hm : m_slices_Compact_impl_Point_impl_Point l0 = some r) (F0 : Ow 2 encII 29 w0 fp0 A0 cap0 l0) (K0 : (l0).length ≤ cap0) :
  Calls Try.prog 76 #[.slice A0 (l0).length cap0] w0 fun e w' => e = .returned (.slice A0 (r).length cap0) ∧ Ow 2 encII 29 w' fp0 A0 cap0 r ∧ Chg (fp0 ++ []) w0 w' := by
 have L0 := F0.low
 have hB : Chg (fp0 ++ []) w0 w0 := Chg.refl _ _
 have hZ := Nat.le_refl w0.heap.size
 unfold m_slices_Compact_impl_Point_impl_Point at hm
 refine enterE (N := 61) Try.func76 (by rfl) Try.ntmps76 (by simp) [(0, .slice A0 (l0).length cap0)] (by rfl) (by kernel_rfl) (fun a => ?_)
 refine cW_seq ?_
 refine cW_region ?_
 refine wS_pure 1 [(2, .slice none 0 0)] (by kernel_rfl) ?_
 refine wS_end (by rfl) ?_
 refine eX_then ?_
 refine cW_seq ?_
 refine cW_seq ?_
 refine cW_region ?_
 refine wS_pure 3 [(8, .bool (decide ((((l0).length : Int)) < 2))), (7, .int .i64 (((l0).length : Int))), (6, .slice A0 (l0).length cap0)] (by kernel_rfl) ?_
 refine wS_end (by rfl) ?_
 refine eX_then ?_
 refine cW_cond (t := decide ((((l0).length : Int)) < 2)) (by kernel_rfl) (fun hb1 => ?_) (fun hb1 => ?_)
 ·have hm := condT hb1 hm
  refine cW_seq ?_
  refine cW_region ?_
  refine wS_pure 2 [(2, .slice A0 (l0).length cap0), (9, .slice A0 (l0).length cap0)] (by kernel_rfl) ?_
  refine wS_end (by rfl) ?_
  refine eX_then ?_
  refine cW_ret ?_
  refine eX_then_ret ?_
  have hq : (some l0 : Option ((List (Int × Int)))) = some _ := hm
  replace hq := someE hq
  subst hq
  refine eX_ret (vs := [.slice A0 (l0).length cap0]) [.tmp 2] (by rfl) ⟨by (show lkE _ _ _ = _); kernel_rfl, trivial⟩ ?_
  exact ⟨rfl, F0, hB⟩
 ·have hm := condF hb1 hm
  refine cW_skip ?_
  refine eX_then ?_
  refine cW_seq ?_
  refine cW_seq ?_
  refine cW_region ?_
  refine wS_pure 1 [(3, .int .i64 (1))] (by kernel_rfl) ?_
  refine wS_end (by rfl) ?_
  refine eX_then ?_
  obtain ⟨r1, hr1, hm⟩ := bindE hm
  have hm1 := hm
  refine cW_cut (fun a' w' => Sum.inl (()) = r1 ∧ Fr 61 [(0, .slice A0 (l0).length cap0)] a' ∧ Ow 2 encII 29 w' fp0 A0 cap0 l0 ∧ Chg (fp0 ++ []) w0 w' ∧ w0.heap.size ≤ w'.heap.size) ?_ ?_
  ·refine cW_block ?_
   refine cW_loop _ (fun (s1 : Int) a' w' => ∃ x1 : Int, x1 = s1 ∧ Fr 61 [(0, .slice A0 (l0).length cap0), (3, .int .i64 (x1))] a' ∧ Ow 2 encII 29 w' fp0 A0 cap0 l0 ∧ Chg (fp0 ++ []) w0 w' ∧ w0.heap.size ≤ w'.heap.size) hr1 (fun hst => ⟨1, rfl, Fr.of hst (by kernel_rfl), F0, hB, hZ⟩) ?_
   rintro _ c1 a' w1 ⟨x1, rfl, hF1, F1, hB, hZ⟩ hx1
   refine Fr.goOn hF1 (by kernel_rfl) ?_
   have hm := hx1
   unfold m_slices_Compact_impl_Point_impl_Point_s3 at hm
   refine cW_seq ?_
   refine cW_seq ?_
   refine cW_region ?_
   refine wS_pure 4 [(13, .bool (decide (x1 < (((l0).length : Int))))), (12, .int .i64 (((l0).length : Int))), (11, .slice A0 (l0).length cap0), (10, .int .i64 (x1))] (by kernel_rfl) ?_
   refine wS_end (by rfl) ?_
   refine eX_then ?_
   refine cW_cond (t := decide (x1 < (((l0).length : Int)))) (by kernel_rfl) (fun hb2 => ?_) (fun hb2 => ?_)
   ·have hm := condT hb2 hm
    refine cW_skip ?_
    refine eX_then ?_
    refine cW_seq ?_
    refine cW_block ?_
    refine cW_seq ?_
    refine cW_drawnTail [] 9 (by kernel_rfl) (by kernel_rfl) (fun w2 hc1 => ?_)
    replace F1 := F1.chg hc1 Dj.nil
    replace hB := hB.inS hc1 inNil
    replace hZ := Nat.le_trans hZ hc1.size
    have hS := Chg.refl [] w2
    have Z1 := F1
    refine wH_take [0, 1] [1, 0] [(17, .int .i64 (x1)), (16, .slice A0 (l0).length cap0)] (by kernel_rfl) (qT (qT (qB (qT (qL (qB (qT (qT qZ)))))))) (by kernel_rfl) ?_
    obtain ⟨x2, hx2, hm⟩ := bindE hm
    refine wH_idx (i := 2) (d := 18) (T := 31) (A := A0) (n := (l0).length) (cap := cap0) (kd := .i64) (m := x1) (by kernel_rfl) (qT (qT (qB (qT (qL (qB (qT (qT qZ)))))))) (by kernel_rfl) (by kernel_rfl) sl31 ((F1.sl encII_ok).is hx2) ?_
    refine wH_loadA (i := 3) (d := 19) (T := 29) (ad := (elA A0 2 (x1) 0)) (vs := [.int .i64 (x2.1), .int .i64 (x2.2)]) (by kernel_rfl) (qT (qT (qB (qT (qL (qB (qT (qT qZ)))))))) (by kernel_rfl) (by kernel_rfl) vt29 (fun W hW i u hu => Sl.cells_at ((Z1.chg hW Dj.nil).sl encII_ok) hx2 0 hu (by rfl)) ?_
    refine wH_take [4, 5, 6] [6, 5, 4, 3, 2, 1, 0] [(22, .int .i64 (wr (x1 - 1))), (21, .int .i64 (x1)), (20, .slice A0 (l0).length cap0)] (by kernel_rfl) (qT (qT (qB (qT (qL (qB (qT (qT qZ)))))))) (by kernel_rfl) ?_
    obtain ⟨x3, hx3, hm⟩ := bindE hm
    refine wH_idx (i := 7) (d := 23) (T := 31) (A := A0) (n := (l0).length) (cap := cap0) (kd := .i64) (m := wr (x1 - 1)) (by kernel_rfl) (qT (qT (qB (qT (qL (qB (qT (qT qZ)))))))) (by kernel_rfl) (by kernel_rfl) sl31 ((F1.sl encII_ok).is hx3) ?_
    refine wH_loadA (i := 8) (d := 24) (T := 29) (ad := (elA A0 2 (wr (x1 - 1)) 0)) (vs := [.int .i64 (x3.1), .int .i64 (x3.2)]) (by kernel_rfl) (qT (qT (qB (qT (qL (qB (qT (qT qZ)))))))) (by kernel_rfl) (by kernel_rfl) vt29 (fun W hW i u hu => Sl.cells_at ((Z1.chg hW Dj.nil).sl encII_ok) hx3 0 hu (by rfl)) ?_
    refine wH_done (by kernel_rfl) ?_
    refine eX_tail ?_
    refine wS_eqS (d := 25) (T := 29) (x := x2.1) (y := x2.2) (x' := x3.1) (y' := x3.2) (by kernel_rfl) eq29 ?_
    refine wS_end (by rfl) ?_
    refine eX_then ?_
    refine cW_cond (t := x2.1 == x3.1 && x2.2 == x3.2) (by kernel_rfl) (fun hb3 => ?_) (fun hb3 => ?_)
    ·have hm := condT hb3 hm
     refine cW_seq ?_
     refine cW_region ?_
     refine wS_pure 2 [(27, .int .i64 (x1)), (26, .slice A0 (l0).length cap0)] (by kernel_rfl) ?_
     obtain ⟨y1, hy1, hm⟩ := bindE hm
     refine wS_cutA (enc := encII) (l := l0) (d := 28) (T := 31) (A := A0) (cap := cap0) (vlo := some (.int .i64 (x1))) (vhi := none) (lo := x1) (hi := ((l0).length : Int)) (n := 0) (by kernel_rfl) sl31 (Or.inl rfl) (Or.inr ⟨rfl, rfl⟩) (F1.sl encII_ok) F1.cap_le hy1 ?_
     intro A1 cap1 hA1 F2 hcap1
     obtain rfl := slci_slc hy1
     have hcz1 := F1.cap_le
     refine wS_pure 1 [(4, .slice A1 (slc l0 x1 (((l0).length : Int))).length cap1)] (by kernel_rfl) ?_
     refine wS_end (by rfl) ?_
     refine eX_then ?_
     refine cW_seq ?_
     refine cW_seq ?_
     refine cW_region ?_
     refine wS_pure 1 [(5, .int .i64 (1))] (by kernel_rfl) ?_
     refine wS_end (by rfl) ?_
     refine eX_then ?_
     obtain ⟨r2, hr2, hm⟩ := bindE hm
     have hm2 := hm
     refine cW_cut (fun a' w' => ∃ x4 : Int, ∃ l1 : List (Int × Int), (x4, l1) = r2 ∧ Fr 61 [(0, .slice A0 (l1).length cap0), (3, .int .i64 (x4))] a' ∧ Ow 2 encII 29 w' fp0 A0 cap0 l1 ∧ (l1).length = (l0).length ∧ Chg (fp0 ++ []) w0 w' ∧ w0.heap.size ≤ w'.heap.size) ?_ ?_
     ·refine cW_block ?_
      refine cW_loop _ (fun (s2 : Int × Int × (List (Int × Int))) a' w' => ∃ x5 : Int, ∃ x6 : Int, ∃ l2 : List (Int × Int), (x5, x6, l2) = s2 ∧ Fr 61 [(0, .slice A0 (l2).length cap0), (3, .int .i64 (x5)), (4, .slice A1 (slc l2 x1 (((l0).length : Int))).length cap1), (5, .int .i64 (x6))] a' ∧ Ow 2 encII 29 w' fp0 A0 cap0 l2 ∧ Sl 2 encII w' fp0 A1 (slc l2 x1 (((l0).length : Int))) ∧ (l2).length = (l0).length ∧ Chg (fp0 ++ []) w0 w' ∧ w0.heap.size ≤ w'.heap.size) hr2 (fun hst => ⟨x1, 1, l0, rfl, Fr.of hst (by kernel_rfl), F1, F2, (Eq.refl (l0).length), hB, hZ⟩) ?_
      rintro _ c2 a' w3 ⟨x5, x6, l2, rfl, hF2, F3, F4, hl1, hB, hZ⟩ hx4
      refine Fr.goOn hF2 (by kernel_rfl) ?_
      have hm := hx4
      unfold m_slices_Compact_impl_Point_impl_Point_s4 at hm
      refine cW_seq ?_
      refine cW_seq ?_
      refine cW_region ?_
      refine wS_pure 4 [(32, .bool (decide (x6 < (((slc l2 x1 (((l0).length : Int))).length : Int))))), (31, .int .i64 (((slc l2 x1 (((l0).length : Int))).length : Int))), (30, .slice A1 (slc l2 x1 (((l0).length : Int))).length cap1), (29, .int .i64 (x6))] (by kernel_rfl) ?_
      refine wS_end (by rfl) ?_
      refine eX_then ?_
      refine cW_cond (t := decide (x6 < (((slc l2 x1 (((l0).length : Int))).length : Int)))) (by kernel_rfl) (fun hb4 => ?_) (fun hb4 => ?_)
      ·have hm := condT hb4 hm
       refine cW_skip ?_
       refine eX_then ?_
       refine cW_seq ?_
       refine cW_block ?_
       obtain ⟨s3, hs1, hm⟩ := bindE hm
       refine cW_cut (fun a' w' => ∃ x7 : Int, ∃ l3 : List (Int × Int), (x7, l3) = s3 ∧ Fr 61 [(0, .slice A0 (l3).length cap0), (3, .int .i64 (x7)), (4, .slice A1 (slc l3 x1 (((l0).length : Int))).length cap1), (5, .int .i64 (x6))] a' ∧ Ow 2 encII 29 w' fp0 A0 cap0 l3 ∧ Sl 2 encII w' fp0 A1 (slc l3 x1 (((l0).length : Int))) ∧ (l3).length = (l0).length ∧ Chg (fp0 ++ []) w0 w' ∧ w0.heap.size ≤ w'.heap.size) ?_ ?_
       ·have hm := hs1
        refine cW_seq ?_
        refine cW_drawnTail [] 9 (by kernel_rfl) (by kernel_rfl) (fun w4 hc2 => ?_)
        replace F3 := F3.chg hc2 Dj.nil
        replace F4 := F4.chg hc2 Dj.nil
        replace hB := hB.inS hc2 inNil
        replace hZ := Nat.le_trans hZ hc2.size
        have hS := Chg.refl [] w4
        have Z2 := F3
        have Z3 := F4
        refine wH_take [0, 1] [1, 0] [(36, .int .i64 (x6)), (35, .slice A1 (slc l2 x1 (((l0).length : Int))).length cap1)] (by kernel_rfl) (qT (qT (qT (qB (qT (qL (qB (qT (qT (qB (qT (qL (qB (qT (qT qZ))))))))))))))) (by kernel_rfl) ?_
        obtain ⟨x8, hx5, hm⟩ := bindE hm
        refine wH_idx (i := 2) (d := 37) (T := 31) (A := A1) (n := (slc l2 x1 (((l0).length : Int))).length) (cap := cap1) (kd := .i64) (m := x6) (by kernel_rfl) (qT (qT (qT (qB (qT (qL (qB (qT (qT (qB (qT (qL (qB (qT (qT qZ))))))))))))))) (by kernel_rfl) (by kernel_rfl) sl31 (F4.is hx5) ?_
        refine wH_loadA (i := 3) (d := 38) (T := 29) (ad := (elA A1 2 (x6) 0)) (vs := [.int .i64 (x8.1), .int .i64 (x8.2)]) (by kernel_rfl) (qT (qT (qT (qB (qT (qL (qB (qT (qT (qB (qT (qL (qB (qT (qT qZ))))))))))))))) (by kernel_rfl) (by kernel_rfl) vt29 (fun W hW i u hu => Sl.cells_at (Z3.chg hW Dj.nil) hx5 0 hu (by rfl)) ?_
        refine wH_take [4, 5, 6] [6, 5, 4, 3, 2, 1, 0] [(41, .int .i64 (wr (x6 - 1))), (40, .int .i64 (x6)), (39, .slice A1 (slc l2 x1 (((l0).length : Int))).length cap1)] (by kernel_rfl) (qT (qT (qT (qB (qT (qL (qB (qT (qT (qB (qT (qL (qB (qT (qT qZ))))))))))))))) (by kernel_rfl) ?_
        obtain ⟨x9, hx6, hm⟩ := bindE hm
        refine wH_idx (i := 7) (d := 42) (T := 31) (A := A1) (n := (slc l2 x1 (((l0).length : Int))).length) (cap := cap1) (kd := .i64) (m := wr (x6 - 1)) (by kernel_rfl) (qT (qT (qT (qB (qT (qL (qB (qT (qT (qB (qT (qL (qB (qT (qT qZ))))))))))))))) (by kernel_rfl) (by kernel_rfl) sl31 (F4.is hx6) ?_
        refine wH_loadA (i := 8) (d := 43) (T := 29) (ad := (elA A1 2 (wr (x6 - 1)) 0)) (vs := [.int .i64 (x9.1), .int .i64 (x9.2)]) (by kernel_rfl) (qT (qT (qT (qB (qT (qL (qB (qT (qT (qB (qT (qL (qB (qT (qT qZ))))))))))))))) (by kernel_rfl) (by kernel_rfl) vt29 (fun W hW i u hu => Sl.cells_at (Z3.chg hW Dj.nil) hx6 0 hu (by rfl)) ?_
        refine wH_done (by kernel_rfl) ?_
        refine eX_tail ?_
        refine wS_neS (d := 44) (T := 29) (x := x8.1) (y := x8.2) (x' := x9.1) (y' := x9.2) (by kernel_rfl) eq29 ?_
        refine wS_end (by rfl) ?_
        refine eX_then ?_
        refine cW_cond (t := !(x8.1 == x9.1 && x8.2 == x9.2)) (by kernel_rfl) (fun hb5 => ?_) (fun hb5 => ?_)
        ·have hm := condT hb5 hm
         refine cW_seq ?_
         refine cW_region ?_
         refine wS_pure 4 [(48, .int .i64 (x6)), (47, .slice A1 (slc l2 x1 (((l0).length : Int))).length cap1), (46, .int .i64 (x5)), (45, .slice A0 (l2).length cap0)] (by kernel_rfl) ?_
         obtain ⟨x10, hx7, hm⟩ := bindE hm
         refine wS_idx (d := 49) (T := 31) (A := A1) (n := (slc l2 x1 (((l0).length : Int))).length) (cap := cap1) (kd := .i64) (m := x6) (by kernel_rfl) sl31 (F4.is hx7) ?_
         refine wS_loadA (d := 50) (T := 29) (ad := (elA A1 2 (x6) 0)) (vs := [.int .i64 (x10.1), .int .i64 (x10.2)]) (by kernel_rfl) vt29 (fun i u hu => Sl.cells_at F4 hx7 0 hu (by rfl)) ?_
         obtain ⟨x11, hx8, hm⟩ := bindE hm
         refine wS_idx (d := 51) (T := 31) (A := A0) (n := (l2).length) (cap := cap0) (kd := .i64) (m := x5) (by kernel_rfl) sl31 ((F3.sl encII_ok).is hx8) ?_
         refine wS_storeEl (x := x11) ((x10.1, x10.2)) (T := 29) (U := 29) (cap := cap0) (j := 0) (A := A0) (v := .agg #[.int .i64 (x10.1), .int .i64 (x10.2)]) (vs := [.int .i64 (x10.1), .int .i64 (x10.2)]) (m := x5) (by kernel_rfl) (by rfl) sz29 (by rfl) encII_ok F3 hx8 (by simp only [List.length_cons, List.length_nil]; omega) (by rfl) ?_
         intro w5 F5 hc3
         replace hB := hB.inS hc3 (inMem (fun x hx => (List.mem_append_left _ hx)))
         replace hZ := Nat.le_trans hZ hc3.size
         clear F3
         have hl2 := (show (l2.set (Int.toNat x5) ((x10.1, x10.2))).length = (l2).length from List.length_set ..).trans hl1
         rewrite [show (l2).length = (l2.set (Int.toNat x5) ((x10.1, x10.2))).length from (List.length_set ..).symm]
         have F6 := Sl.recut (F5.sl encII_ok) hA1 hy1 hcz1 (hl2.trans (Eq.refl (l0).length).symm)
         first | rewrite [show (slc l2 x1 (((l0).length : Int))).length = (slc (l2.set (Int.toNat x5) ((x10.1, x10.2))) x1 (((l0).length : Int))).length from (slc_length (show (l2.set (Int.toNat x5) ((x10.1, x10.2))).length = (l2).length from List.length_set ..)).symm] | skip
         refine wS_end (by rfl) ?_
         refine eX_then ?_
         refine cW_prune [(0, .slice A0 (l2.set (Int.toNat x5) ((x10.1, x10.2))).length cap0), (3, .int .i64 (x5)), (4, .slice A1 (slc (l2.set (Int.toNat x5) ((x10.1, x10.2))) x1 (((l0).length : Int))).length cap1), (5, .int .i64 (x6))] (by kernel_rfl) (by kernel_rfl) (fun a1 => ?_)
         refine cW_region ?_
         refine wS_pure 3 [(3, .int .i64 (wr (x5 + 1))), (53, .int .i64 (wr (x5 + 1))), (52, .int .i64 (x5))] (by kernel_rfl) ?_
         refine wS_end (by rfl) ?_
         have hq : (some ((wr (x5 + 1), l2.set (Int.toNat x5) ((x10.1, x10.2)))) : Option (Int × (List (Int × Int)))) = some _ := hm
         replace hq := someE hq
         subst hq
         exact eX_J (fun hst => ⟨wr (x5 + 1), l2.set (Int.toNat x5) ((x10.1, x10.2)), rfl, Fr.of hst (by kernel_rfl), F5, F6, hl2, hB, hZ⟩)
        ·have hm := condF hb5 hm
         refine cW_skip ?_
         have hq : (some ((x5, l2)) : Option (Int × (List (Int × Int)))) = some _ := hm
         replace hq := someE hq
         subst hq
         exact eX_J (fun hst => ⟨x5, l2, rfl, Fr.of hst (by kernel_rfl), F3, F4, hl1, hB, hZ⟩)
       ·rintro a' w6 ⟨x7, l3, hJ, hF3, F7, F8, hl3, hB, hZ⟩
        subst hJ
        refine Fr.goX hF3 (by kernel_rfl) ?_
        refine eX_block ?_
        refine eX_then ?_
        refine cW_region ?_
        refine wS_pure 3 [(5, .int .i64 (wr (x6 + 1))), (34, .int .i64 (wr (x6 + 1))), (33, .int .i64 (x6))] (by kernel_rfl) ?_
        refine wS_end (by rfl) ?_
        have hq : (some (Ctl.next ((x7, wr (x6 + 1), l3))) : Option (Ctl (Int × Int × (List (Int × Int))) (Int × (List (Int × Int))))) = some _ := hm
        replace hq := someE hq
        subst hq
        exact eX_next hx4 (fun hst => ⟨x7, wr (x6 + 1), l3, rfl, Fr.of hst (by kernel_rfl), F7, F8, hl3, hB, hZ⟩)
      ·have hm := condF hb4 hm
       refine cW_exit ?_
       refine eX_then_exit ?_
       have hq : (some (Ctl.out ((x5, l2))) : Option (Ctl (Int × Int × (List (Int × Int))) (Int × (List (Int × Int))))) = some _ := hm
       replace hq := someE hq
       subst hq
       refine eX_outX hx4 (fun hr3 => ?_)
       replace hr3 := hr3.symm
       subst hr3
       refine eX_block_hit ?_
       exact eX_J (fun hst => ⟨x5, l2, rfl, Fr.of hst (by kernel_rfl), F3, hl1, hB, hZ⟩)
     ·rintro a' w7 ⟨x4, l1, hJ, hF4, F9, hl4, hB, hZ⟩
      subst hJ
      refine Fr.goX hF4 (by kernel_rfl) ?_
      refine eX_then ?_
      refine cW_seq ?_
      refine cW_region ?_
      refine wS_pure 2 [(55, .int .i64 (x4)), (54, .slice A0 (l1).length cap0)] (by kernel_rfl) ?_
      obtain ⟨y2, hy2, hm⟩ := bindE hm
      refine wS_cutA (enc := encII) (l := l1) (d := 56) (T := 31) (A := A0) (cap := cap0) (vlo := some (.int .i64 (x4))) (vhi := none) (lo := x4) (hi := ((l1).length : Int)) (n := 0) (by kernel_rfl) sl31 (Or.inl rfl) (Or.inr ⟨rfl, rfl⟩) (F9.sl encII_ok) F9.cap_le hy2 ?_
      intro A2 cap2 hA2 F10 hcap2
      obtain rfl := slci_slc hy2
      have hcz2 := F9.cap_le
      refine wS_clear (A' := A2) (c' := cap2) (x0 := ((0, 0) : Int × Int)) (l := l1) (l0 := l1) (T := 31) (A := A0) (cap := cap0) (lo := x4) (by kernel_rfl) el31 encII_ok (by rfl) (by kernel_rfl) F9 hA2 hy2 rfl ?_
      intro w8 F11 hlc1 hc4
      replace hB := hB.inS hc4 (inMem (fun x hx => (List.mem_append_left _ hx)))
      replace hZ := Nat.le_trans hZ hc4.size
      clear F9
      have hl5 := hlc1.trans hl4
      rewrite [show (l1).length = (clr ((0, 0) : Int × Int) l1 x4).length from hlc1.symm]
      refine wS_end (by rfl) ?_
      refine eX_then ?_
      refine cW_seq ?_
      refine cW_region ?_
      refine wS_pure 2 [(58, .int .i64 (x4)), (57, .slice A0 (clr ((0, 0) : Int × Int) l1 x4).length cap0)] (by kernel_rfl) ?_
      obtain ⟨y3, hy3, hm⟩ := bindE hm
      refine wS_prefix (k := 2) (enc := encII) (U := 29) (l := clr ((0, 0) : Int × Int) l1 x4) (d := 59) (T := 31) (A := A0) (cap := cap0) (hi := x4) (by kernel_rfl) sl31 encII_ok F11 F11.cap_le hy3 ?_
      intro hpe F12
      subst hpe
      refine wS_pure 1 [(2, .slice A0 ((clr ((0, 0) : Int × Int) l1 x4).take (Int.toNat x4)).length cap0)] (by kernel_rfl) ?_
      refine wS_end (by rfl) ?_
      refine eX_then ?_
      refine cW_ret ?_
      refine eX_block_ret ?_
      refine eX_then_ret ?_
      have hq : (some (Ctl.out (Sum.inr ((clr ((0, 0) : Int × Int) l1 x4).take (Int.toNat x4)))) : Option (Ctl (Int) (Sum (Unit) ((List (Int × Int)))))) = some _ := hm
      replace hq := someE hq
      subst hq
      refine eX_outR hx1 (fun hr => ?_)
      subst hr
      refine eX_block_ret ?_
      refine eX_then_ret ?_
      refine eX_then_ret ?_
      have hq : (some ((clr ((0, 0) : Int × Int) l1 x4).take (Int.toNat x4)) : Option ((List (Int × Int)))) = some _ := hm1
      replace hq := someE hq
      subst hq
      refine eX_ret (vs := [.slice A0 ((clr ((0, 0) : Int × Int) l1 x4).take (Int.toNat x4)).length cap0]) [.tmp 2] (by rfl) ⟨by (show lkE _ _ _ = _); kernel_rfl, trivial⟩ ?_
      exact ⟨rfl, F12, hB⟩
    ·have hm := condF hb3 hm
     refine cW_skip ?_
     refine eX_block ?_
     refine eX_then ?_
     refine cW_region ?_
     refine wS_pure 3 [(3, .int .i64 (wr (x1 + 1))), (15, .int .i64 (wr (x1 + 1))), (14, .int .i64 (x1))] (by kernel_rfl) ?_
     refine wS_end (by rfl) ?_
     have hq : (some (Ctl.next (wr (x1 + 1))) : Option (Ctl (Int) (Sum (Unit) ((List (Int × Int)))))) = some _ := hm
     replace hq := someE hq
     subst hq
     exact eX_next hx1 (fun hst => ⟨wr (x1 + 1), rfl, Fr.of hst (by kernel_rfl), F1, hB, hZ⟩)
   ·have hm := condF hb2 hm
    refine cW_exit ?_
    refine eX_then_exit ?_
    have hq : (some (Ctl.out (Sum.inl (()))) : Option (Ctl (Int) (Sum (Unit) ((List (Int × Int)))))) = some _ := hm
    replace hq := someE hq
    subst hq
    refine eX_outX hx1 (fun hr4 => ?_)
    replace hr4 := hr4.symm
    subst hr4
    refine eX_block_hit ?_
    exact eX_J (fun hst => ⟨rfl, Fr.of hst (by kernel_rfl), F1, hB, hZ⟩)
  ·rintro a' w9 ⟨hJ, hF5, F13, hB, hZ⟩
   subst hJ
   refine Fr.goX hF5 (by kernel_rfl) ?_
   refine eX_then ?_
   refine cW_seq ?_
   refine cW_region ?_
   refine wS_pure 2 [(2, .slice A0 (l0).length cap0), (60, .slice A0 (l0).length cap0)] (by kernel_rfl) ?_
   refine wS_end (by rfl) ?_
   refine eX_then ?_
   refine cW_ret ?_
   have hq : (some l0 : Option ((List (Int × Int)))) = some _ := hm
   replace hq := someE hq
   subst hq
   refine eX_ret (vs := [.slice A0 (l0).length cap0]) [.tmp 2] (by rfl) ⟨by (show lkE _ _ _ = _); kernel_rfl, trivial⟩ ?_
   exact ⟨rfl, F13, hB⟩

set_option maxRecDepth 100000 in
/-- impl.sorted -/
theorem c_impl_sorted {w0 : World} {l0 : List (Int × Int)} {A0 : Option Addr} {cap0 : Nat} {fp0 : List Nat} {r : (List (Int × Int))} (hm : m_impl_sorted l0 = some r) (F0 : Sl 2 encII w0 fp0 A0 l0) :
  Calls Try.prog 68 #[.slice A0 (l0).length cap0] w0 fun e w' => ∃ A100 cap100 fp100, e = .returned (.slice A100 (r).length cap100) ∧ Ow 2 encII 29 w' fp100 A100 cap100 r ∧ (∀ x ∈ fp100, w0.heap.size ≤ x) ∧ Chg [] w0 w' := by
 have L0 := F0.low
 have hB : Chg [] w0 w0 := Chg.refl _ _
 have hZ := Nat.le_refl w0.heap.size
 unfold m_impl_sorted at hm
 refine enterE (N := 10) Try.func68 (by rfl) Try.ntmps68 (by simp) [(0, .slice A0 (l0).length cap0)] (by rfl) (by kernel_rfl) (fun a => ?_)
 refine cW_seq ?_
 refine cW_region ?_
 refine wS_pure 1 [(2, .slice none 0 0)] (by kernel_rfl) ?_
 refine wS_end (by rfl) ?_
 refine eX_then ?_
 refine cW_seq ?_
 refine cW_region ?_
 refine wS_pure 1 [(4, .slice A0 (l0).length cap0)] (by kernel_rfl) ?_
 obtain ⟨y1, hy1, hm⟩ := bindE hm
 refine wS_calls (d := 5) (f := 73) (vs := [.slice A0 (l0).length cap0]) (by kernel_rfl) ent73 (c_slices_Clone_impl_Point_impl_Point hy1 F0) ?_
 rintro _ w1 ⟨A1, cap1, fp1, rfl, F1, G1, hc1⟩
 replace F0 := F0.chg hc1 Dj.nil
 replace hB := hB.inS hc1 inNil
 replace G1 := low_le hZ G1
 replace hZ := Nat.le_trans hZ hc1.size
 refine ⟨.slice A1 (y1).length cap1, rfl, ?_⟩
 refine wS_pure 1 [(3, .slice A1 (y1).length cap1)] (by kernel_rfl) ?_
 refine wS_end (by rfl) ?_
 refine eX_then ?_
 refine cW_seq ?_
 refine cW_region ?_
 refine wS_pure 1 [(6, .slice A1 (y1).length cap1)] (by kernel_rfl) ?_
 obtain ⟨y2, hy2, hm⟩ := bindE hm
 refine wS_calls (d := 7) (f := 74) (vs := [.slice A1 (y1).length cap1, .func (.func 75) #[] #[]]) (by kernel_rfl) ent74 (c_slices_SortFunc_impl_Point_impl_Point_impl_pointOrder hy2 F1) ?_
 rintro _ w2 ⟨rfl, F2, hl1, hc2⟩
 replace F0 := F0.chg hc2 (Dj.app (Dj.of L0 G1) Dj.nil)
 replace hB := hB.inS hc2 (inApp (inLow G1) inNil)
 replace hZ := Nat.le_trans hZ hc2.size
 clear F1
 refine ⟨.tuple #[], rfl, ?_⟩
 rewrite [(show (y1).length = (y2).length from hl1.symm)]
 refine wS_end (by rfl) ?_
 refine eX_then ?_
 refine cW_seq ?_
 refine cW_region ?_
 refine wS_pure 1 [(8, .slice A1 (y2).length cap1)] (by kernel_rfl) ?_
 obtain ⟨y3, hy3, hm⟩ := bindE hm
 refine wS_calls (d := 9) (f := 76) (vs := [.slice A1 (y2).length cap1]) (by kernel_rfl) ent76 (c_slices_Compact_impl_Point_impl_Point hy3 F2 F2.cap_le) ?_
 rintro _ w3 ⟨rfl, F3, hc3⟩
 replace F0 := F0.chg hc3 (Dj.app (Dj.of L0 G1) Dj.nil)
 replace hB := hB.inS hc3 (inApp (inLow G1) inNil)
 clear F2
 replace hZ := Nat.le_trans hZ hc3.size
 refine ⟨.slice A1 (y3).length cap1, rfl, ?_⟩
 refine wS_pure 1 [(2, .slice A1 (y3).length cap1)] (by kernel_rfl) ?_
 refine wS_end (by rfl) ?_
 refine eX_then ?_
 refine cW_ret ?_
 have hq : (some y3 : Option ((List (Int × Int)))) = some _ := hm
 replace hq := someE hq
 subst hq
 refine eX_ret (vs := [.slice A1 (y3).length cap1]) [.tmp 2] (by rfl) ⟨by (show lkE _ _ _ = _); kernel_rfl, trivial⟩ ?_
 exact ⟨A1, cap1, fp1, rfl, F3, G1, hB⟩

set_option maxRecDepth 100000 in
/-- impl.pointsOf -/
theorem c_impl_pointsOf {w0 : World} {l0 : List ((Int × Int) × Bool)} {b0 : Nat} {r : (List (Int × Int))} (hm : m_impl_pointsOf l0 = some r) (F0 : Mp okII ekII vB w0 b0 l0) :
  Calls Try.prog 49 #[.map (some b0)] w0 fun e w' => ∃ A100 cap100 fp100, e = .returned (.slice A100 (r).length cap100) ∧ Ow 2 encII 29 w' fp100 A100 cap100 r ∧ (∀ x ∈ fp100, w0.heap.size ≤ x) ∧ Chg [] w0 w' := by
 have L0 := F0.low
 have hB : Chg [] w0 w0 := Chg.refl _ _
 have hZ := Nat.le_refl w0.heap.size
 unfold m_impl_pointsOf at hm
 refine enterE (N := 18) Try.func49 (by rfl) Try.ntmps49 (by simp) [(0, .map (some b0))] (by rfl) (by kernel_rfl) (fun a => ?_)
 refine cW_seq ?_
 refine cW_region ?_
 refine wS_pure 1 [(2, .slice none 0 0)] (by kernel_rfl) ?_
 refine wS_end (by rfl) ?_
 refine eX_then ?_
 refine cW_seq ?_
 refine cW_region ?_
 refine wS_bs0 (α := Int × Int) (enc := encII) (d := 5) (t := 31) (T := 29) (by kernel_rfl) el31 ?_
 intro b1 w1 G1 F1 hc1
 replace F0 := F0.chg hc1 Dj.nil
 replace hB := hB.inS hc1 inNil
 replace G1 := Nat.le_trans hZ G1
 replace G1 := low1 G1
 replace hZ := Nat.le_trans hZ hc1.size
 refine wS_pure 1 [(3, .slice (some ⟨b1, 0, none⟩) (([] : List (Int × Int))).length 0)] (by kernel_rfl) ?_
 refine wS_end (by rfl) ?_
 refine eX_then ?_
 refine cW_seq ?_
 refine cW_seq ?_
 refine cW_region ?_
 refine wS_pure 1 [(6, .map (some b0))] (by kernel_rfl) ?_
 refine wS_range (d := 7) (T := 90) (by kernel_rfl) mp90 F0 ?_
 intro b2 w2 G2 F2 hc2
 have D1 : Dj [b1] [b2] := Dj.of F1.low (low1 G2)
 replace F0 := F0.chg hc2 Dj.nil
 replace F1 := F1.chg hc2 Dj.nil
 replace hB := hB.inS hc2 inNil
 replace G2 := Nat.le_trans hZ G2
 replace G2 := low1 G2
 replace hZ := Nat.le_trans hZ hc2.size
 refine wS_end (by rfl) ?_
 refine eX_then ?_
 have hA1 := allO_some hm
 refine cW_cut (fun a' w' => ∃ lo1 : List ((Int × Int) × Bool), ∃ l1 : List (Int × Int), ∃ A1 : Option Addr, ∃ cap1 : Nat, ∃ fp1 : List Nat, lo1.Perm l0 ∧ foldR (m_impl_pointsOf_s1) (([] : List (Int × Int))) lo1 = some l1 ∧ Fr 18 [(3, .slice A1 (l1).length cap1)] a' ∧ Ow 2 encII 29 w' fp1 A1 cap1 l1 ∧ (∀ x ∈ fp1, w0.heap.size ≤ x) ∧ Chg [] w0 w' ∧ w0.heap.size ≤ w'.heap.size) ?_ ?_
 ·refine cW_block ?_
  refine cW_loop cdn (fun (n1 : Nat) a' w' => ∃ ld1 : List ((Int × Int) × Bool), ∃ lr1 : List ((Int × Int) × Bool), ∃ l3 : List (Int × Int), ∃ A3 : Option Addr, ∃ cap3 : Nat, ∃ fp2 : List Nat, lr1.length = n1 ∧ (ld1 ++ lr1).Perm l0 ∧ foldR (m_impl_pointsOf_s1) (([] : List (Int × Int))) ld1 = some l3 ∧ Fr 18 [(3, .slice A3 (l3).length cap3), (7, .pointer (some ⟨b2, 0, none⟩))] a' ∧ Mp okII ekII vB w' b0 l0 ∧ RgE okII ekII vB w' b0 b2 l0 lr1 ∧ Ow 2 encII 29 w' fp2 A3 cap3 l3 ∧ (∀ x ∈ fp2, w0.heap.size ≤ x) ∧ Dj [b2] fp2 ∧ Chg [] w0 w' ∧ w0.heap.size ≤ w'.heap.size) (cdn_run _) (fun hst => ⟨[], l0, ([] : List (Int × Int)), (some ⟨b1, 0, none⟩), 0, [b1], rfl, (List.Perm.refl _), rfl, Fr.of hst (by kernel_rfl), F0, F2, F1, G1, (D1).symm, hB, hZ⟩) ?_
  rintro n1 c_ a' w3 ⟨ld1, lr1, l3, A3, cap3, fp2, hn1, hP1, hF1, hF2, F3, F4, F5, G3, D2, hB, hZ⟩ hx1
  refine Fr.goOn hF2 (by kernel_rfl) ?_
  refine cW_seq ?_
  refine cW_region ?_
  refine wS_next (d := 8) (by kernel_rfl) F4 (fun hnil1 => ?_) (fun pa1 p1 pd1 w4 hsp1 F6 hc3 => ?_)
  ·skip
   refine wS_pure 1 [(9, .bool (false))] (by kernel_rfl) ?_
   refine wS_end (by rfl) ?_
   refine eX_then ?_
   refine cW_seq ?_
   refine cW_cond_f (by kernel_rfl) ?_
   refine cW_exit ?_
   refine eX_then_exit ?_
   refine eX_outX (cdn_0 hn1 hnil1) (fun _ => ?_)
   refine eX_block_hit ?_
   exact eX_J (fun hst => ⟨ld1, l3, A3, cap3, fp2, (perm_end hP1 hnil1), hF1, Fr.of hst (by kernel_rfl), F5, G3, hB, hZ⟩)
  ·skip
   obtain ⟨s1, hs1⟩ := foldR_step hF1 (hA1 _ (perm_pick hP1 hsp1))
   have hm := hs1
   unfold m_impl_pointsOf_s1 at hm
   replace F3 := F3.chg hc3 (Dj.of L0 G2)
   replace F5 := F5.chg hc3 (D2).symm
   replace hB := hB.inS hc3 (inLow G2)
   replace hZ := Nat.le_trans hZ hc3.size
   clear F4
   refine wS_pure 1 [(9, .bool (true))] (by kernel_rfl) ?_
   refine wS_end (by rfl) ?_
   refine eX_then ?_
   refine cW_seq ?_
   refine cW_cond_t (by kernel_rfl) ?_
   refine cW_skip ?_
   refine eX_then ?_
   refine cW_block ?_
   refine cW_seq ?_
   refine cW_region ?_
   refine wS_ntry (d := 10) (by kernel_rfl) F6 ?_
   refine wS_pure 1 [(11, .agg #[.int .i64 (p1.1.1), .int .i64 (p1.1.2)])] (by kernel_rfl) ?_
   refine wS_alloc (d := 4) (T := 29) (z := .agg #[.int .i64 (0), .int .i64 (0)]) (by kernel_rfl) (by kernel_rfl) ?_
   intro b3 w5 G4 F7 hc4
   replace F7 : Cl w5 b3 29 [.int .i64 (0), .int .i64 (0)] := F7
   have D3 : Dj [b2] [b3] := Dj.of F6.low (low1 G4)
   have D4 : Dj fp2 [b3] := Dj.of F5.low (low1 G4)
   replace F3 := F3.chg hc4 Dj.nil
   replace F6 := F6.chg hc4 Dj.nil Dj.nil
   replace F5 := F5.chg hc4 Dj.nil
   replace hB := hB.inS hc4 inNil
   replace G4 := Nat.le_trans hZ G4
   replace hZ := Nat.le_trans hZ hc4.size
   refine wS_store (T := 29) (g := b3) (o := 0) (ad := ⟨b3, 0, none⟩) (v := .agg #[.int .i64 (p1.1.1), .int .i64 (p1.1.2)]) (vs := [.int .i64 (p1.1.1), .int .i64 (p1.1.2)]) (by kernel_rfl) (by rfl) sz29 (by rfl) (by rfl) F7 (by simp only [List.length_cons, List.length_nil]; omega) ?_
   intro w6 F8 hc5
   replace F3 := F3.chg hc5 (Dj.of L0 (low1 G4))
   replace F6 := F6.chg hc5 (Dj.of L0 (low1 G4)) D3
   replace F5 := F5.chg hc5 D4
   replace hB := hB.inS hc5 (inLow (low1 G4))
   replace hZ := Nat.le_trans hZ hc5.size
   replace F8 : Cl w6 b3 29 [.int .i64 (p1.1.1), .int .i64 (p1.1.2)] := F8
   clear F7
   refine wS_end (by rfl) ?_
   refine eX_then ?_
   refine cW_region ?_
   refine wS_pure 1 [(12, .slice A3 (l3).length cap3)] (by kernel_rfl) ?_
   refine wS_loadA (d := 13) (T := 29) (ad := ⟨b3, 0, none⟩) (vs := [.int .i64 (p1.1.1), .int .i64 (p1.1.2)]) (by kernel_rfl) vt29 (fun i u hu => box_cells F8 0 hu (by rfl)) ?_
   refine wS_bs (enc := encII) ([(p1.1.1, p1.1.2)] : List (Int × Int)) [.int .i64 (p1.1.1), .int .i64 (p1.1.2)] (d := 14) (t := 31) (T := 29) (n := 1) (ps := [(0, .agg #[.int .i64 (p1.1.1), .int .i64 (p1.1.2)])]) (by kernel_rfl) el31 encII_ok (by rfl) (by omega) (by omega) (by kernel_rfl) (by rfl) ?_
   intro b4 w7 G5 F9 hc6
   have D5 : Dj [b2] [b4] := Dj.of F6.low (low1 G5)
   have D6 : Dj fp2 [b4] := Dj.of F5.low (low1 G5)
   have D7 : Dj [b3] [b4] := Dj.of (lt1 F8.lt) (low1 G5)
   replace F3 := F3.chg hc6 Dj.nil
   replace F6 := F6.chg hc6 Dj.nil Dj.nil
   replace F5 := F5.chg hc6 Dj.nil
   replace F8 := F8.chg hc6 notNil
   replace hB := hB.inS hc6 inNil
   replace G5 := Nat.le_trans hZ G5
   replace G5 := low1 G5
   replace hZ := Nat.le_trans hZ hc6.size
   obtain ⟨_, hk1, hm⟩ := bindE hm
   replace hk1 := apE hk1
   refine wS_append (enc := encII) (l := (l3 : List (Int × Int))) (l2 := (([(p1.1.1, p1.1.2)] : List (Int × Int)) : List (Int × Int))) (d := 15) (t := 31) (T := 29) (A := A3) (A2 := (some ⟨b4, 0, none⟩)) (cap := cap3) (cap2 := 1) (by kernel_rfl) el31 encII_ok F5 (F9.sl encII_ok) (by rfl) hk1 ?_
   intro w8 fp3 A4 cap4 F10 hc7 hp1
   have G6 := low_ap G3 hZ hp1
   have D8 : Dj [b2] fp3 := Dj.ap D2 F6.low hp1
   have D9 : Dj [b3] fp3 := Dj.ap (D4).symm (lt1 F8.lt) hp1
   have D10 : Dj [b4] fp3 := Dj.ap (D6).symm F9.low hp1
   replace F3 := F3.chg hc7 (Dj.of L0 G3)
   replace F6 := F6.chg hc7 (Dj.of L0 G3) D2
   replace F8 := F8.chg hc7 (dj1 (D4).symm)
   replace F9 := F9.chg hc7 (D6).symm
   replace hB := hB.inS hc7 (inLow G3)
   replace hZ := Nat.le_trans hZ hc7.size
   refine wS_pure 1 [(3, .slice A4 (l3 ++ (([(p1.1.1, p1.1.2)] : List (Int × Int)))).length cap4)] (by kernel_rfl) ?_
   refine wS_end (by rfl) ?_
   refine eX_block ?_
   have hq := ctlE (show (some (Ctl.next (l3 ++ (([(p1.1.1, p1.1.2)] : List (Int × Int))))) : Option (Ctl ((List (Int × Int))) (Unit))) = some (Ctl.next _) from hm)
   subst hq
   exact eX_next (cdn_at hn1 hsp1) (fun hst => ⟨ld1 ++ [p1], pa1 ++ pd1, l3 ++ (([(p1.1.1, p1.1.2)] : List (Int × Int))), A4, cap4, fp3, rfl, (perm_next hP1 hsp1), (foldR_snoc hF1 hs1), Fr.of hst (by kernel_rfl), F3, ⟨_, F6⟩, F10, G6, D8, hB, hZ⟩)
 ·rintro a' w9 ⟨lo1, l1, A1, cap1, fp1, hP2, hF3, hF4, F11, G7, hB, hZ⟩
  have hm := hA1 _ hP2
  rewrite [hF3] at hm
  refine Fr.goX hF4 (by kernel_rfl) ?_
  have hm := bindSome hm
  refine eX_then ?_
  refine cW_seq ?_
  refine cW_region ?_
  refine wS_pure 1 [(16, .slice A1 (l1).length cap1)] (by kernel_rfl) ?_
  obtain ⟨y1, hy1, hm⟩ := bindE hm
  refine wS_calls (d := 17) (f := 68) (vs := [.slice A1 (l1).length cap1]) (by kernel_rfl) ent68 (c_impl_sorted hy1 (F11.sl encII_ok)) ?_
  rintro _ w10 ⟨A5, cap5, fp4, rfl, F12, G8, hc8⟩
  have D11 : Dj fp1 fp4 := Dj.of F11.low G8
  replace F11 := F11.chg hc8 Dj.nil
  replace hB := hB.inS hc8 inNil
  replace G8 := low_le hZ G8
  replace hZ := Nat.le_trans hZ hc8.size
  refine ⟨.slice A5 (y1).length cap5, rfl, ?_⟩
  refine wS_pure 1 [(2, .slice A5 (y1).length cap5)] (by kernel_rfl) ?_
  refine wS_end (by rfl) ?_
  refine eX_then ?_
  refine cW_ret ?_
  have hq : (some y1 : Option ((List (Int × Int)))) = some _ := hm
  replace hq := someE hq
  subst hq
  refine eX_ret (vs := [.slice A5 (y1).length cap5]) [.tmp 2] (by rfl) ⟨by (show lkE _ _ _ = _); kernel_rfl, trivial⟩ ?_
  exact ⟨A5, cap5, fp4, rfl, F12, G8, hB⟩

set_option maxRecDepth 100000 in
/-- impl.flow).beside -/
theorem c_impl_flow_beside_bimplflow_bimplMaze {w0 : World} {l0_0_0 : List (List (Int))} {A0_0_0 : Option Addr} {cap0_0_0 : Nat} {fp0_0_0 : List Nat} {b0_0 : Nat} {q0_1 : Int} {q0_2 : Int} {q0_3 : Int} {q0_4 : Int} {l0_5 : List ((Int × Int × Bool × Int × Int × Bool) × Bool)} {b0_5 : Nat} {b0 : Nat} {p1_0 : Int} {p1_1 : Int} {p1_2 : Bool} {r : (List (Int × Int × Bool))} (hm : m_impl_flow_beside_bimplflow_bimplMaze l0_0_0 q0_1 q0_2 q0_3 q0_4 l0_5 p1_0 p1_1 p1_2 = some r) (F0_0_0 : SlR 1 encI w0 fp0_0_0 A0_0_0 l0_0_0) (F0_0 : Cl w0 b0_0 26 [.slice A0_0_0 (l0_0_0).length cap0_0_0]) (F0_5 : Mp okIIBIIB ekIIBIIB vB w0 b0_5 l0_5) (F0 : Cl w0 b0 86 [.pointer (some ⟨b0_0, 0, none⟩), .int .i64 (q0_1), .int .i64 (q0_2), .int .i64 (q0_3), .int .i64 (q0_4), .map (some b0_5)]) :
  Calls Try.prog 66 #[.pointer (some ⟨b0, 0, none⟩), .agg #[.int .i64 (p1_0), .int .i64 (p1_1), .bool (p1_2)]] w0 fun e w' => ∃ A100 cap100 fp100, e = .returned (.slice A100 (r).length cap100) ∧ Ow 3 encIIB 92 w' fp100 A100 cap100 r ∧ (∀ x ∈ fp100, w0.heap.size ≤ x) ∧ Chg [] w0 w' := by
 have L0_0_0 := F0_0_0.low
 have L0_0 := lt1 F0_0.lt
 have L0_5 := F0_5.low
 have L0 := lt1 F0.lt
 have hB : Chg [] w0 w0 := Chg.refl _ _
 have hZ := Nat.le_refl w0.heap.size
 unfold m_impl_flow_beside_bimplflow_bimplMaze at hm
 refine enterE (N := 38) Try.func66 (by rfl) Try.ntmps66 (by simp) [(0, .pointer (some ⟨b0, 0, none⟩)), (1, .agg #[.int .i64 (p1_0), .int .i64 (p1_1), .bool (p1_2)])] (by rfl) (by kernel_rfl) (fun a => ?_)
 refine cW_seq ?_
 refine cW_region ?_
 refine wS_box (d := 3) (T := 92) (x := .agg #[.int .i64 (p1_0), .int .i64 (p1_1), .bool (p1_2)]) (by kernel_rfl) ?_
 intro b1 w1 G1 F1 hc1
 replace F1 : Cl w1 b1 92 [.int .i64 (p1_0), .int .i64 (p1_1), .bool (p1_2)] := F1
 replace F0_0_0 := F0_0_0.chg hc1 Dj.nil
 replace F0_0 := F0_0.chg hc1 notNil
 replace F0_5 := F0_5.chg hc1 Dj.nil
 replace F0 := F0.chg hc1 notNil
 replace hB := hB.inS hc1 inNil
 replace G1 := Nat.le_trans hZ G1
 replace hZ := Nat.le_trans hZ hc1.size
 refine wS_pure 1 [(4, .slice none 0 0)] (by kernel_rfl) ?_
 refine wS_end (by rfl) ?_
 refine eX_then ?_
 refine cW_seq ?_
 refine cW_region ?_
 refine wS_pure 1 [(8, .pointer (some ⟨b1, 0, none⟩))] (by kernel_rfl) ?_
 refine wS_loadA (d := 9) (T := 29) (ad := ⟨b1, 0, none⟩) (vs := [.int .i64 (p1_0), .int .i64 (p1_1)]) (by kernel_rfl) vt29 (fun i u hu => box_cells F1 0 hu (by rfl)) ?_
 refine wS_pure 1 [(10, .pointer (some ⟨b1, 2, none⟩))] (by kernel_rfl) ?_
 refine wS_load1 (d := 11) (T := 4) (ad := ⟨b1, 2, none⟩) (v := .bool (p1_2)) (by kernel_rfl) vt4 ((F1).cell 2) ?_
 refine wS_pure 2 [(13, .agg #[.int .i64 (p1_0), .int .i64 (p1_1), .bool (!p1_2)]), (12, .bool (!p1_2))] (by kernel_rfl) ?_
 refine wS_bs (enc := encIIB) ([(p1_0, p1_1, !p1_2)] : List (Int × Int × Bool)) [.int .i64 (p1_0), .int .i64 (p1_1), .bool (!p1_2)] (d := 14) (t := 107) (T := 92) (n := 1) (ps := [(0, .agg #[.int .i64 (p1_0), .int .i64 (p1_1), .bool (!p1_2)])]) (by kernel_rfl) el107 encIIB_ok (by rfl) (by omega) (by omega) (by kernel_rfl) (by rfl) ?_
 intro b2 w2 G2 F2 hc2
 have D1 : Dj [b1] [b2] := Dj.of (lt1 F1.lt) (low1 G2)
 replace F0_0_0 := F0_0_0.chg hc2 Dj.nil
 replace F0_0 := F0_0.chg hc2 notNil
 replace F0_5 := F0_5.chg hc2 Dj.nil
 replace F0 := F0.chg hc2 notNil
 replace F1 := F1.chg hc2 notNil
 replace hB := hB.inS hc2 inNil
 replace G2 := Nat.le_trans hZ G2
 replace G2 := low1 G2
 replace hZ := Nat.le_trans hZ hc2.size
 refine wS_pure 1 [(5, .slice (some ⟨b2, 0, none⟩) (([(p1_0, p1_1, !p1_2)] : List (Int × Int × Bool))).length 1)] (by kernel_rfl) ?_
 refine wS_end (by rfl) ?_
 refine eX_then ?_
 refine cW_seq ?_
 refine cW_seq ?_
 refine cW_region ?_
 refine wS_pure 1 [(15, .int .i64 (0))] (by kernel_rfl) ?_
 refine wS_end (by rfl) ?_
 refine eX_then ?_
 obtain ⟨r1, hr1, hm⟩ := bindE hm
 have hm1 := hm
 refine cW_cut (fun a' w' => ∃ l1 : List (Int × Int × Bool), ∃ A1 : Option Addr, ∃ cap1 : Nat, ∃ fp1 : List Nat, l1 = r1 ∧ Fr 38 [(5, .slice A1 (l1).length cap1)] a' ∧ Ow 3 encIIB 92 w' fp1 A1 cap1 l1 ∧ (∀ x ∈ fp1, w0.heap.size ≤ x) ∧ Chg [] w0 w' ∧ w0.heap.size ≤ w'.heap.size) ?_ ?_
 ·refine cW_block ?_
  refine cW_loop _ (fun (s1 : (List (Int × Int × Bool)) × Int) a' w' => ∃ l3 : List (Int × Int × Bool), ∃ A3 : Option Addr, ∃ cap3 : Nat, ∃ fp2 : List Nat, ∃ x1 : Int, (l3, x1) = s1 ∧ Fr 38 [(0, .pointer (some ⟨b0, 0, none⟩)), (3, .pointer (some ⟨b1, 0, none⟩)), (5, .slice A3 (l3).length cap3), (15, .int .i64 (x1))] a' ∧ SlR 1 encI w' fp0_0_0 A0_0_0 l0_0_0 ∧ Cl w' b0_0 26 [.slice A0_0_0 (l0_0_0).length cap0_0_0] ∧ Mp okIIBIIB ekIIBIIB vB w' b0_5 l0_5 ∧ Cl w' b0 86 [.pointer (some ⟨b0_0, 0, none⟩), .int .i64 (q0_1), .int .i64 (q0_2), .int .i64 (q0_3), .int .i64 (q0_4), .map (some b0_5)] ∧ Cl w' b1 92 [.int .i64 (p1_0), .int .i64 (p1_1), .bool (p1_2)] ∧ Ow 3 encIIB 92 w' fp2 A3 cap3 l3 ∧ (∀ x ∈ fp2, w0.heap.size ≤ x) ∧ Dj [b1] fp2 ∧ Chg [] w0 w' ∧ w0.heap.size ≤ w'.heap.size) hr1 (fun hst => ⟨([(p1_0, p1_1, !p1_2)] : List (Int × Int × Bool)), (some ⟨b2, 0, none⟩), 1, [b2], 0, rfl, Fr.of hst (by kernel_rfl), F0_0_0, F0_0, F0_5, F0, F1, F2, G2, D1, hB, hZ⟩) ?_
  rintro _ c1 a' w3 ⟨l3, A3, cap3, fp2, x1, rfl, hF1, F3, F4, F5, F6, F7, F8, G3, D2, hB, hZ⟩ hx1
  refine Fr.goOn hF1 (by kernel_rfl) ?_
  have hm := hx1
  unfold m_impl_flow_beside_bimplflow_bimplMaze_s1 at hm
  refine cW_seq ?_
  refine cW_region ?_
  refine wS_pure 1 [(16, .bool (decide (x1 < 4)))] (by kernel_rfl) ?_
  refine wS_end (by rfl) ?_
  refine eX_then ?_
  refine cW_seq ?_
  refine cW_cond (t := decide (x1 < 4)) (by kernel_rfl) (fun hb1 => ?_) (fun hb1 => ?_)
  ·have hm := condT hb1 hm
   refine cW_skip ?_
   refine eX_then ?_
   refine cW_seq ?_
   refine cW_block ?_
   obtain ⟨s2, hs1, hm⟩ := bindE hm
   refine cW_cut (fun a' w' => ∃ l4 : List (Int × Int × Bool), ∃ A4 : Option Addr, ∃ cap4 : Nat, ∃ fp3 : List Nat, l4 = s2 ∧ Fr 38 [(0, .pointer (some ⟨b0, 0, none⟩)), (3, .pointer (some ⟨b1, 0, none⟩)), (5, .slice A4 (l4).length cap4), (15, .int .i64 (x1))] a' ∧ SlR 1 encI w' fp0_0_0 A0_0_0 l0_0_0 ∧ Cl w' b0_0 26 [.slice A0_0_0 (l0_0_0).length cap0_0_0] ∧ Mp okIIBIIB ekIIBIIB vB w' b0_5 l0_5 ∧ Cl w' b0 86 [.pointer (some ⟨b0_0, 0, none⟩), .int .i64 (q0_1), .int .i64 (q0_2), .int .i64 (q0_3), .int .i64 (q0_4), .map (some b0_5)] ∧ Cl w' b1 92 [.int .i64 (p1_0), .int .i64 (p1_1), .bool (p1_2)] ∧ Ow 3 encIIB 92 w' fp3 A4 cap4 l4 ∧ (∀ x ∈ fp3, w0.heap.size ≤ x) ∧ Dj [b1] fp3 ∧ Chg [] w0 w' ∧ w0.heap.size ≤ w'.heap.size) ?_ ?_
   ·have hm := hs1
    refine cW_seq ?_
    refine cW_region ?_
    refine wS_pure 2 [(6, .int .i64 (x1)), (17, .int .i64 (x1))] (by kernel_rfl) ?_
    refine wS_end (by rfl) ?_
    refine eX_then ?_
    refine cW_seq ?_
    refine cW_region ?_
    refine wS_pure 1 [(18, .pointer (some ⟨b1, 0, none⟩))] (by kernel_rfl) ?_
    refine wS_loadA (d := 19) (T := 29) (ad := ⟨b1, 0, none⟩) (vs := [.int .i64 (p1_0), .int .i64 (p1_1)]) (by kernel_rfl) vt29 (fun i u hu => box_cells F7 0 hu (by rfl)) ?_
    refine wS_pure 1 [(20, .int .i64 (x1))] (by kernel_rfl) ?_
    obtain ⟨y1, hy1, hm⟩ := bindE hm
    refine wS_calls (d := 21) (f := 56) (vs := [.agg #[.int .i64 (p1_0), .int .i64 (p1_1)], .int .i64 (x1)]) (by kernel_rfl) ent56 (c_impl_next hy1) ?_
    rintro _ w4 ⟨rfl, hc3⟩
    replace F3 := F3.chg hc3 Dj.nil
    replace F4 := F4.chg hc3 notNil
    replace F5 := F5.chg hc3 Dj.nil
    replace F6 := F6.chg hc3 notNil
    replace F7 := F7.chg hc3 notNil
    replace F8 := F8.chg hc3 Dj.nil
    replace hB := hB.inS hc3 inNil
    replace hZ := Nat.le_trans hZ hc3.size
    refine ⟨.agg #[.int .i64 (y1.1), .int .i64 (y1.2)], rfl, ?_⟩
    refine wS_alloc (d := 7) (T := 29) (z := .agg #[.int .i64 (0), .int .i64 (0)]) (by kernel_rfl) (by kernel_rfl) ?_
    intro b3 w5 G4 F9 hc4
    replace F9 : Cl w5 b3 29 [.int .i64 (0), .int .i64 (0)] := F9
    have D3 : Dj [b1] [b3] := Dj.of (lt1 F7.lt) (low1 G4)
    have D4 : Dj fp2 [b3] := Dj.of F8.low (low1 G4)
    replace F3 := F3.chg hc4 Dj.nil
    replace F4 := F4.chg hc4 notNil
    replace F5 := F5.chg hc4 Dj.nil
    replace F6 := F6.chg hc4 notNil
    replace F7 := F7.chg hc4 notNil
    replace F8 := F8.chg hc4 Dj.nil
    replace hB := hB.inS hc4 inNil
    replace G4 := Nat.le_trans hZ G4
    replace hZ := Nat.le_trans hZ hc4.size
    refine wS_store (T := 29) (g := b3) (o := 0) (ad := ⟨b3, 0, none⟩) (v := .agg #[.int .i64 (y1.1), .int .i64 (y1.2)]) (vs := [.int .i64 (y1.1), .int .i64 (y1.2)]) (by kernel_rfl) (by rfl) sz29 (by rfl) (by rfl) F9 (by simp only [List.length_cons, List.length_nil]; omega) ?_
    intro w6 F10 hc5
    replace F3 := F3.chg hc5 (Dj.of L0_0_0 (low1 G4))
    replace F4 := F4.chg hc5 (dj1 (Dj.of L0_0 (low1 G4)))
    replace F5 := F5.chg hc5 (Dj.of L0_5 (low1 G4))
    replace F6 := F6.chg hc5 (dj1 (Dj.of L0 (low1 G4)))
    replace F7 := F7.chg hc5 (dj1 D3)
    replace F8 := F8.chg hc5 D4
    replace hB := hB.inS hc5 (inLow (low1 G4))
    replace hZ := Nat.le_trans hZ hc5.size
    replace F10 : Cl w6 b3 29 [.int .i64 (y1.1), .int .i64 (y1.2)] := F10
    clear F9
    refine wS_end (by rfl) ?_
    refine eX_then ?_
    refine cW_seq ?_
    refine cW_drawnTail [] 5 (by kernel_rfl) (by kernel_rfl) (fun w7 hc6 => ?_)
    replace F3 := F3.chg hc6 Dj.nil
    replace F4 := F4.chg hc6 notNil
    replace F5 := F5.chg hc6 Dj.nil
    replace F6 := F6.chg hc6 notNil
    replace F7 := F7.chg hc6 notNil
    replace F8 := F8.chg hc6 Dj.nil
    replace F10 := F10.chg hc6 notNil
    replace hB := hB.inS hc6 inNil
    replace hZ := Nat.le_trans hZ hc6.size
    have hS := Chg.refl [] w7
    have Z1 := F3
    have Z2 := F4
    have Z3 := F5
    have Z4 := F6
    have Z5 := F7
    have Z6 := F8
    have Z7 := F10
    refine wH_take [0, 1, 2] [2, 1, 0] [(24, .pointer (some ⟨b0, 0, none⟩)), (23, .pointer (some ⟨b0, 0, none⟩)), (22, .pointer (some ⟨b0, 0, none⟩))] (by kernel_rfl) (qT (qT (qT (qB (qT (qL (qB (qT (qT qZ))))))))) (by kernel_rfl) ?_
    refine wH_load1 (i := 3) (d := 25) (T := 56) (ad := ⟨b0, 0, none⟩) (v := .pointer (some ⟨b0_0, 0, none⟩)) (by kernel_rfl) (qT (qT (qT (qB (qT (qL (qB (qT (qT qZ))))))))) (by kernel_rfl) (by kernel_rfl) vt56 (fun W hW => (Z4.chg hW notNil).cell 0) ?_
    refine wH_loadA (i := 4) (d := 26) (T := 29) (ad := ⟨b3, 0, none⟩) (vs := [.int .i64 (y1.1), .int .i64 (y1.2)]) (by kernel_rfl) (qT (qT (qT (qB (qT (qL (qB (qT (qT qZ))))))))) (by kernel_rfl) (by kernel_rfl) vt29 (fun W hW i u hu => box_cells (Z7.chg hW notNil) 0 hu (by rfl)) ?_
    refine wH_done (by kernel_rfl) ?_
    refine eX_tail ?_
    obtain ⟨y2, hy2, hm⟩ := bindE hm
    refine wS_calls (d := 27) (f := 33) (vs := [.pointer (some ⟨b0_0, 0, none⟩), .agg #[.int .i64 (y1.1), .int .i64 (y1.2)]]) (by kernel_rfl) ent33 (c_impl_Maze_open_bimplMaze hy2 F3 F4) ?_
    rintro _ w8 ⟨rfl, hc7⟩
    replace F3 := F3.chg hc7 Dj.nil
    replace F4 := F4.chg hc7 notNil
    replace F5 := F5.chg hc7 Dj.nil
    replace F6 := F6.chg hc7 notNil
    replace F7 := F7.chg hc7 notNil
    replace F8 := F8.chg hc7 Dj.nil
    replace F10 := F10.chg hc7 notNil
    replace hB := hB.inS hc7 inNil
    replace hZ := Nat.le_trans hZ hc7.size
    refine ⟨.bool (y2), rfl, ?_⟩
    refine wS_end (by rfl) ?_
    refine eX_then ?_
    refine cW_cond (t := y2) (by kernel_rfl) (fun hb2 => ?_) (fun hb2 => ?_)
    ·have hm := condT hb2 hm
     refine cW_region ?_
     refine wS_pure 1 [(28, .slice A3 (l3).length cap3)] (by kernel_rfl) ?_
     refine wS_loadA (d := 29) (T := 29) (ad := ⟨b3, 0, none⟩) (vs := [.int .i64 (y1.1), .int .i64 (y1.2)]) (by kernel_rfl) vt29 (fun i u hu => box_cells F10 0 hu (by rfl)) ?_
     refine wS_pure 1 [(30, .pointer (some ⟨b1, 2, none⟩))] (by kernel_rfl) ?_
     refine wS_load1 (d := 31) (T := 4) (ad := ⟨b1, 2, none⟩) (v := .bool (p1_2)) (by kernel_rfl) vt4 ((F7).cell 2) ?_
     refine wS_pure 2 [(33, .agg #[.int .i64 (y1.1), .int .i64 (y1.2), .bool (!p1_2)]), (32, .bool (!p1_2))] (by kernel_rfl) ?_
     refine wS_bs (enc := encIIB) ([(y1.1, y1.2, !p1_2)] : List (Int × Int × Bool)) [.int .i64 (y1.1), .int .i64 (y1.2), .bool (!p1_2)] (d := 34) (t := 107) (T := 92) (n := 1) (ps := [(0, .agg #[.int .i64 (y1.1), .int .i64 (y1.2), .bool (!p1_2)])]) (by kernel_rfl) el107 encIIB_ok (by rfl) (by omega) (by omega) (by kernel_rfl) (by rfl) ?_
     intro b4 w9 G5 F11 hc8
     have D5 : Dj [b1] [b4] := Dj.of (lt1 F7.lt) (low1 G5)
     have D6 : Dj fp2 [b4] := Dj.of F8.low (low1 G5)
     have D7 : Dj [b3] [b4] := Dj.of (lt1 F10.lt) (low1 G5)
     replace F3 := F3.chg hc8 Dj.nil
     replace F4 := F4.chg hc8 notNil
     replace F5 := F5.chg hc8 Dj.nil
     replace F6 := F6.chg hc8 notNil
     replace F7 := F7.chg hc8 notNil
     replace F8 := F8.chg hc8 Dj.nil
     replace F10 := F10.chg hc8 notNil
     replace hB := hB.inS hc8 inNil
     replace G5 := Nat.le_trans hZ G5
     replace G5 := low1 G5
     replace hZ := Nat.le_trans hZ hc8.size
     obtain ⟨_, hk1, hm⟩ := bindE hm
     replace hk1 := apE hk1
     refine wS_append (enc := encIIB) (l := (l3 : List (Int × Int × Bool))) (l2 := (([(y1.1, y1.2, !p1_2)] : List (Int × Int × Bool)) : List (Int × Int × Bool))) (d := 35) (t := 107) (T := 92) (A := A3) (A2 := (some ⟨b4, 0, none⟩)) (cap := cap3) (cap2 := 1) (by kernel_rfl) el107 encIIB_ok F8 (F11.sl encIIB_ok) (by rfl) hk1 ?_
     intro w10 fp4 A5 cap5 F12 hc9 hp1
     have G6 := low_ap G3 hZ hp1
     have D8 : Dj [b1] fp4 := Dj.ap D2 (lt1 F7.lt) hp1
     have D9 : Dj [b3] fp4 := Dj.ap (D4).symm (lt1 F10.lt) hp1
     have D10 : Dj [b4] fp4 := Dj.ap (D6).symm F11.low hp1
     replace F3 := F3.chg hc9 (Dj.of L0_0_0 G3)
     replace F4 := F4.chg hc9 (dj1 (Dj.of L0_0 G3))
     replace F5 := F5.chg hc9 (Dj.of L0_5 G3)
     replace F6 := F6.chg hc9 (dj1 (Dj.of L0 G3))
     replace F7 := F7.chg hc9 (dj1 D2)
     replace F10 := F10.chg hc9 (dj1 (D4).symm)
     replace F11 := F11.chg hc9 (D6).symm
     replace hB := hB.inS hc9 (inLow G3)
     replace hZ := Nat.le_trans hZ hc9.size
     refine wS_pure 1 [(5, .slice A5 (l3 ++ (([(y1.1, y1.2, !p1_2)] : List (Int × Int × Bool)))).length cap5)] (by kernel_rfl) ?_
     refine wS_end (by rfl) ?_
     have hq : (some (l3 ++ (([(y1.1, y1.2, !p1_2)] : List (Int × Int × Bool)))) : Option ((List (Int × Int × Bool)))) = some _ := hm
     replace hq := someE hq
     subst hq
     exact eX_J (fun hst => ⟨l3 ++ (([(y1.1, y1.2, !p1_2)] : List (Int × Int × Bool))), A5, cap5, fp4, rfl, Fr.of hst (by kernel_rfl), F3, F4, F5, F6, F7, F12, G6, D8, hB, hZ⟩)
    ·have hm := condF hb2 hm
     refine cW_skip ?_
     have hq : (some l3 : Option ((List (Int × Int × Bool)))) = some _ := hm
     replace hq := someE hq
     subst hq
     exact eX_J (fun hst => ⟨l3, A3, cap3, fp2, rfl, Fr.of hst (by kernel_rfl), F3, F4, F5, F6, F7, F8, G3, D2, hB, hZ⟩)
   ·rintro a' w11 ⟨l4, A4, cap4, fp3, hJ, hF2, F13, F14, F15, F16, F17, F18, G7, D11, hB, hZ⟩
    subst hJ
    refine Fr.goX hF2 (by kernel_rfl) ?_
    refine eX_block ?_
    refine eX_then ?_
    refine cW_region ?_
    refine wS_pure 2 [(15, .int .i64 (wr (x1 + 1))), (36, .int .i64 (wr (x1 + 1)))] (by kernel_rfl) ?_
    refine wS_end (by rfl) ?_
    have hq : (some (Ctl.next ((l4, wr (x1 + 1)))) : Option (Ctl ((List (Int × Int × Bool)) × Int) ((List (Int × Int × Bool))))) = some _ := hm
    replace hq := someE hq
    subst hq
    exact eX_next hx1 (fun hst => ⟨l4, A4, cap4, fp3, wr (x1 + 1), rfl, Fr.of hst (by kernel_rfl), F13, F14, F15, F16, F17, F18, G7, D11, hB, hZ⟩)
  ·have hm := condF hb1 hm
   refine cW_exit ?_
   refine eX_then_exit ?_
   have hq : (some (Ctl.out l3) : Option (Ctl ((List (Int × Int × Bool)) × Int) ((List (Int × Int × Bool))))) = some _ := hm
   replace hq := someE hq
   subst hq
   refine eX_outX hx1 (fun hr2 => ?_)
   replace hr2 := hr2.symm
   subst hr2
   refine eX_block_hit ?_
   exact eX_J (fun hst => ⟨l3, A3, cap3, fp2, rfl, Fr.of hst (by kernel_rfl), F8, G3, hB, hZ⟩)
 ·rintro a' w12 ⟨l1, A1, cap1, fp1, hJ, hF3, F19, G8, hB, hZ⟩
  subst hJ
  refine Fr.goX hF3 (by kernel_rfl) ?_
  refine eX_then ?_
  refine cW_seq ?_
  refine cW_region ?_
  refine wS_pure 2 [(4, .slice A1 (l1).length cap1), (37, .slice A1 (l1).length cap1)] (by kernel_rfl) ?_
  refine wS_end (by rfl) ?_
  refine eX_then ?_
  refine cW_ret ?_
  have hq : (some l1 : Option ((List (Int × Int × Bool)))) = some _ := hm
  replace hq := someE hq
  subst hq
  refine eX_ret (vs := [.slice A1 (l1).length cap1]) [.tmp 4] (by rfl) ⟨by (show lkE _ _ _ = _); kernel_rfl, trivial⟩ ?_
  exact ⟨A1, cap1, fp1, rfl, F19, G8, hB⟩

end Go.Proofs.Ytcknpoeannbpbaa
