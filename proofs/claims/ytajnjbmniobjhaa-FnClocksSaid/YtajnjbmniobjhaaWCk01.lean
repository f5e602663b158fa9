/- Printed walks: laws.r8Long, spec.l00From, (*spec.l00Src).next, (*spec.l00Src).pick, impl.in, impl.ValidRegion, (impl.Region).far, impl.mergeOk, (impl.Region).grown, (impl.Region).meet, impl.size, impl.merge, spec.R8Pins, spec.R8Joins. -/
import Derived.Test.YtajnjbmniobjhaaProg
import Derived.Test.YtajnjbmniobjhaaMod
import Derived.Test.YtajnjbmniobjhaaEqs
set_option linter.unusedSimpArgs false
set_option linter.unusedVariables false
namespace Go.Proofs.Ytajnjbmniobjhaa
open Go.RowKit
attribute [local irreducible] wS cW eX wH

theorem ent21 : Ent Try.prog 21 := fun _ => by kernel_rfl
theorem ent72 : Ent Try.prog 72 := fun _ => by kernel_rfl
theorem ent73 : Ent Try.prog 73 := fun _ => by kernel_rfl
theorem ent74 : Ent Try.prog 74 := fun _ => by kernel_rfl
theorem ent75 : Ent Try.prog 75 := fun _ => by kernel_rfl
theorem ent77 : Ent Try.prog 77 := fun _ => by kernel_rfl
theorem ent78 : Ent Try.prog 78 := fun _ => by kernel_rfl
theorem ent79 : Ent Try.prog 79 := fun _ => by kernel_rfl
theorem ent121 : Ent Try.prog 121 := fun _ => by kernel_rfl
theorem ent122 : Ent Try.prog 122 := fun _ => by kernel_rfl
theorem vt2 : VarTy Try.prog 2 1 false := ⟨by kernel_rfl, by kernel_rfl⟩
theorem vt3 : VarTy Try.prog 3 1 false := ⟨by kernel_rfl, by kernel_rfl⟩
theorem vt5 : VarTy Try.prog 5 1 false := ⟨by kernel_rfl, by kernel_rfl⟩
theorem vt22 : VarTy Try.prog 22 1 false := ⟨by kernel_rfl, by kernel_rfl⟩
theorem vt25 : VarTy Try.prog 25 4 true := ⟨by kernel_rfl, by kernel_rfl⟩
theorem vt27 : VarTy Try.prog 27 5 true := ⟨by kernel_rfl, by kernel_rfl⟩
theorem vt116 : VarTy Try.prog 116 2 true := ⟨by kernel_rfl, by kernel_rfl⟩
theorem vt140 : VarTy Try.prog 140 1 false := ⟨by kernel_rfl, by kernel_rfl⟩
theorem sl22 : SlTy Try.prog 22 5 1 := ⟨Try.underlying22, by kernel_rfl⟩
theorem sl38 : SlTy Try.prog 38 2 1 := ⟨Try.underlying38, by kernel_rfl⟩
theorem el37 : ElTy Try.prog 37 38 1 (.slice none 0 0) := ElTy.mk' Try.underlying37 (by kernel_rfl) (by rfl)
theorem el38 : ElTy Try.prog 38 2 1 (.int .i64 (0)) := ElTy.mk' Try.underlying38 (by kernel_rfl) (by rfl)
theorem el58 : ElTy Try.prog 58 116 2 (.agg #[.int .i64 (0), .int .i64 (0)]) := ElTy.mk' Try.underlying58 (by kernel_rfl) (by rfl)
theorem sz2 : pureRun Try.prog (sizeOf 2) = some 1 := by kernel_rfl
theorem sz3 : pureRun Try.prog (sizeOf 3) = some 1 := by kernel_rfl
theorem sz25 : pureRun Try.prog (sizeOf 25) = some 4 := by kernel_rfl
theorem sz27 : pureRun Try.prog (sizeOf 27) = some 5 := by kernel_rfl
theorem sz116 : pureRun Try.prog (sizeOf 116) = some 2 := by kernel_rfl
theorem sz140 : pureRun Try.prog (sizeOf 140) = some 1 := by kernel_rfl

set_option maxRecDepth 100000 in
/-- laws.r8Long -/
theorem c_laws_r8Long {w0 : World} {l0 : List (Int)} {A0 : Option Addr} {cap0 : Nat} {fp0 : List Nat} {l1 : List (Int)} {A1 : Option Addr} {cap1 : Nat} {fp1 : List Nat} {r : (Bool)} (hm : m_laws_r8Long l0 l1 = some r) (F0 : Sl 1 encU w0 fp0 A0 l0) (F1 : Sl 1 encU w0 fp1 A1 l1) :
    Calls Try.prog 17 #[.slice A0 (l0).length cap0, .slice A1 (l1).length cap1] w0 fun e w' => e = .returned (.bool (r)) ∧ Chg [] w0 w' := by
  have L0 := F0.low
  have L1 := F1.low
  have hB : Chg [] w0 w0 := Chg.refl _ _
  have hZ := Nat.le_refl w0.heap.size
  unfold m_laws_r8Long at hm
  refine enterE (N := 13) Try.func17 (by rfl) Try.ntmps17 (by simp) [(0, .slice A0 (l0).length cap0), (1, .slice A1 (l1).length cap1)] (by rfl) (by kernel_rfl) (fun a => ?_)
  refine cW_seq ?_
  refine cW_region ?_
  refine wS_pure 1 [(4, .bool (false))] (by kernel_rfl) ?_
  refine wS_end (by rfl) ?_
  refine eX_then ?_
  refine cW_seq ?_
  refine cW_region ?_
  refine wS_pure 4 [(8, .bool (decide ((((l0).length : Int)) > 48))), (7, .bool (decide ((((l0).length : Int)) > 48))), (6, .int .i64 (((l0).length : Int))), (5, .slice A0 (l0).length cap0)] (by kernel_rfl) ?_
  refine wS_bool (decide ((((l0).length : Int)) > 48)) (fun hb3 => ?_) (fun hb3 => ?_)
  · have hm := condT hb3 hm
    rewrite [hb3]
    refine wS_pure 5 [(4, .bool (true)), (12, .bool (true)), (11, undef), (10, undef), (9, undef)] (by kernel_rfl) ?_
    refine wS_end (by rfl) ?_
    refine eX_then ?_
    refine cW_ret ?_
    have hq : (some true : Option ((Bool))) = some _ := hm
    replace hq := someE hq
    subst hq
    refine eX_ret (vs := [.bool (true)]) [.tmp 4] (by rfl) ⟨by (show lkE _ _ _ = _); kernel_rfl, trivial⟩ ?_
    exact ⟨rfl, hB⟩
  · have hm := condF hb3 hm
    rewrite [hb3]
    refine wS_pure 5 [(4, .bool (decide ((((l1).length : Int)) > 48))), (12, .bool (decide ((((l1).length : Int)) > 48))), (11, .bool (decide ((((l1).length : Int)) > 48))), (10, .int .i64 (((l1).length : Int))), (9, .slice A1 (l1).length cap1)] (by kernel_rfl) ?_
    refine wS_end (by rfl) ?_
    refine eX_then ?_
    refine cW_ret ?_
    have hq : (some (decide ((((l1).length : Int)) > 48)) : Option ((Bool))) = some _ := hm
    replace hq := someE hq
    subst hq
    refine eX_ret (vs := [.bool (decide ((((l1).length : Int)) > 48))]) [.tmp 4] (by rfl) ⟨by (show lkE _ _ _ = _); kernel_rfl, trivial⟩ ?_
    exact ⟨rfl, hB⟩

set_option maxRecDepth 100000 in
/-- spec.l00From -/
theorem c_spec_l00From {w0 : World} {l0 : List (Int)} {A0 : Option Addr} {cap0 : Nat} {fp0 : List Nat} {r : (Int × Int)} (hm : m_spec_l00From l0 = some r) (F0 : Sl 1 encU w0 fp0 A0 l0) :
    Calls Try.prog 72 #[.slice A0 (l0).length cap0] w0 fun e w' => ∃ b100, e = .returned (.pointer (some ⟨b100, 0, none⟩)) ∧ Cl w' b100 142 [.slice A0 (l0).length cap0, .int .i64 (r.1), .int .u64 (r.2)] ∧ w0.heap.size ≤ b100 ∧ Chg [] w0 w' := by
  have L0 := F0.low
  have hB : Chg [] w0 w0 := Chg.refl _ _
  have hZ := Nat.le_refl w0.heap.size
  unfold m_spec_l00From at hm
  refine enterE (N := 6) Try.func72 (by rfl) Try.ntmps72 (by simp) [(0, .slice A0 (l0).length cap0)] (by rfl) (by kernel_rfl) (fun a => ?_)
  refine cW_seq ?_
  refine cW_region ?_
  refine wS_pure 1 [(2, .pointer none)] (by kernel_rfl) ?_
  refine wS_end (by rfl) ?_
  refine eX_then ?_
  refine cW_seq ?_
  refine cW_region ?_
  refine wS_pure 2 [(4, .agg #[.slice A0 (l0).length cap0, .int .i64 (0), .int .u64 (0)]), (3, .slice A0 (l0).length cap0)] (by kernel_rfl) ?_
  refine wS_box (d := 5) (T := 142) (x := .agg #[.slice A0 (l0).length cap0, .int .i64 (0), .int .u64 (0)]) (by kernel_rfl) ?_
  intro b2 w3 G4 F5 hc6
  replace F5 : Cl w3 b2 142 [.slice A0 (l0).length cap0, .int .i64 (0), .int .u64 (0)] := F5
  replace F0 := F0.chg hc6 Dj.nil
  replace hB := hB.inS hc6 inNil
  replace G4 := Nat.le_trans hZ G4
  replace hZ := Nat.le_trans hZ hc6.size
  refine wS_pure 1 [(2, .pointer (some ⟨b2, 0, none⟩))] (by kernel_rfl) ?_
  refine wS_end (by rfl) ?_
  refine eX_then ?_
  refine cW_ret ?_
  have hq : (some ((0, 0)) : Option ((Int × Int))) = some _ := hm
  replace hq := someE hq
  subst hq
  refine eX_ret (vs := [.pointer (some ⟨b2, 0, none⟩)]) [.tmp 2] (by rfl) ⟨by (show lkE _ _ _ = _); kernel_rfl, trivial⟩ ?_
  exact ⟨b2, rfl, F5, G4, hB⟩

set_option maxRecDepth 100000 in
/-- spec.l00Src).next -/
theorem c_spec_l00Src_next_bspecl00Src {w0 : World} {l0_0 : List (Int)} {A0_0 : Option Addr} {cap0_0 : Nat} {fp0_0 : List Nat} {q0_1 : Int} {q0_2 : Int} {b0 : Nat} {r : (Int) × (Int) × (Int)} (hm : m_spec_l00Src_next_bspecl00Src l0_0 q0_1 q0_2 = some r) (F0_0 : Sl 1 encU w0 fp0_0 A0_0 l0_0) (F0 : Cl w0 b0 142 [.slice A0_0 (l0_0).length cap0_0, .int .i64 (q0_1), .int .u64 (q0_2)]) (J0__0_0 : Dj [b0] fp0_0) :
    Calls Try.prog 121 #[.pointer (some ⟨b0, 0, none⟩)] w0 fun e w' => e = .returned (.int .i64 (r.1)) ∧ Cl w' b0 142 [.slice A0_0 (l0_0).length cap0_0, .int .i64 (r.2.1), .int .u64 (r.2.2)] ∧ Chg ([b0] ++ []) w0 w' := by
  have L0_0 := F0_0.low
  have L0 := lt1 F0.lt
  have hB : Chg ([b0] ++ []) w0 w0 := Chg.refl _ _
  have hZ := Nat.le_refl w0.heap.size
  unfold m_spec_l00Src_next_bspecl00Src at hm
  refine enterE (N := 62) Try.func121 (by rfl) Try.ntmps121 (by simp) [(0, .pointer (some ⟨b0, 0, none⟩))] (by rfl) (by kernel_rfl) (fun a => ?_)
  refine cW_seq ?_
  refine cW_region ?_
  refine wS_pure 1 [(2, .int .i64 (0))] (by kernel_rfl) ?_
  refine wS_end (by rfl) ?_
  refine eX_then ?_
  refine cW_seq ?_
  refine cW_region ?_
  refine wS_pure 1 [(3, .int .i64 (0))] (by kernel_rfl) ?_
  refine wS_end (by rfl) ?_
  refine eX_then ?_
  refine cW_seq ?_
  obtain ⟨s29, hs30, hm⟩ := bindE hm
  refine cW_cut (fun a' w' => ∃ x25 : Int, x25 = s29 ∧ Fr 62 [(0, .pointer (some ⟨b0, 0, none⟩)), (3, .int .i64 (x25))] a' ∧ Sl 1 encU w' fp0_0 A0_0 l0_0 ∧ Cl w' b0 142 [.slice A0_0 (l0_0).length cap0_0, .int .i64 (q0_1), .int .u64 (q0_2)] ∧ Chg ([b0] ++ []) w0 w' ∧ w0.heap.size ≤ w'.heap.size) ?_ ?_
  · have hm := hs30
    refine cW_seq ?_
    refine cW_drawnTail [] 9 (by kernel_rfl) (by kernel_rfl) (fun w35 hc36 => ?_)
    replace F0_0 := F0_0.chg hc36 Dj.nil
    replace F0 := F0.chg hc36 notNil
    replace hB := hB.inS hc36 inNil
    replace hZ := Nat.le_trans hZ hc36.size
    have hS := Chg.refl [] w35
    have Z37 := F0_0
    have Z38 := F0
    refine wH_take [0, 1, 2] [2, 1, 0] [(6, .pointer (some ⟨b0, 1, none⟩)), (5, .pointer (some ⟨b0, 0, none⟩)), (4, .pointer (some ⟨b0, 0, none⟩))] (by kernel_rfl) (qT (qT (qT (qT qZ)))) (by kernel_rfl) ?_
    refine wH_load1 (i := 3) (d := 7) (T := 3) (ad := ⟨b0, 1, none⟩) (v := .int .i64 (q0_1)) (by kernel_rfl) (qT (qT (qT (qT qZ)))) (by kernel_rfl) (by kernel_rfl) vt3 (fun W hW => (Z38.chg hW notNil).cell 1) ?_
    refine wH_take [4, 5, 6] [6, 5, 4, 3, 2, 1, 0] [(10, .pointer (some ⟨b0, 0, none⟩)), (9, .pointer (some ⟨b0, 0, none⟩)), (8, .pointer (some ⟨b0, 0, none⟩))] (by kernel_rfl) (qT (qT (qT (qT qZ)))) (by kernel_rfl) ?_
    refine wH_load1 (i := 7) (d := 11) (T := 22) (ad := ⟨b0, 0, none⟩) (v := .slice A0_0 (l0_0).length cap0_0) (by kernel_rfl) (qT (qT (qT (qT qZ)))) (by kernel_rfl) (by kernel_rfl) vt22 (fun W hW => (Z38.chg hW notNil).cell 0) ?_
    refine wH_take [8] [8, 7, 6, 5, 4, 3, 2, 1, 0] [(12, .int .i64 (((l0_0).length : Int)))] (by kernel_rfl) (qT (qT (qT (qT qZ)))) (by kernel_rfl) ?_
    refine wH_done (by kernel_rfl) ?_
    refine eX_tail ?_
    refine wS_pure 1 [(13, .bool (decide (q0_1 < (((l0_0).length : Int)))))] (by kernel_rfl) ?_
    refine wS_end (by rfl) ?_
    refine eX_then ?_
    refine cW_cond (t := decide (q0_1 < (((l0_0).length : Int)))) (by kernel_rfl) (fun hb39 => ?_) (fun hb39 => ?_)
    · have hm := condT hb39 hm
      refine cW_drawnTail [] 8 (by kernel_rfl) (by kernel_rfl) (fun w46 hc47 => ?_)
      replace F0_0 := F0_0.chg hc47 Dj.nil
      replace F0 := F0.chg hc47 notNil
      replace hB := hB.inS hc47 inNil
      replace hZ := Nat.le_trans hZ hc47.size
      have hS := Chg.refl [] w46
      have Z48 := F0_0
      have Z49 := F0
      refine wH_take [0, 1, 2] [2, 1, 0] [(16, .pointer (some ⟨b0, 0, none⟩)), (15, .pointer (some ⟨b0, 0, none⟩)), (14, .pointer (some ⟨b0, 0, none⟩))] (by kernel_rfl) (qT (qT (qT qZ))) (by kernel_rfl) ?_
      refine wH_load1 (i := 3) (d := 17) (T := 22) (ad := ⟨b0, 0, none⟩) (v := .slice A0_0 (l0_0).length cap0_0) (by kernel_rfl) (qT (qT (qT qZ))) (by kernel_rfl) (by kernel_rfl) vt22 (fun W hW => (Z49.chg hW notNil).cell 0) ?_
      refine wH_take [4, 5, 6] [6, 5, 4, 3, 2, 1, 0] [(20, .pointer (some ⟨b0, 1, none⟩)), (19, .pointer (some ⟨b0, 0, none⟩)), (18, .pointer (some ⟨b0, 0, none⟩))] (by kernel_rfl) (qT (qT (qT qZ))) (by kernel_rfl) ?_
      refine wH_load1 (i := 7) (d := 21) (T := 3) (ad := ⟨b0, 1, none⟩) (v := .int .i64 (q0_1)) (by kernel_rfl) (qT (qT (qT qZ))) (by kernel_rfl) (by kernel_rfl) vt3 (fun W hW => (Z49.chg hW notNil).cell 1) ?_
      refine wH_done (by kernel_rfl) ?_
      refine eX_tail ?_
      obtain ⟨x50, hx51, hm⟩ := bindE hm
      refine wS_idx (d := 22) (T := 22) (A := A0_0) (n := (l0_0).length) (cap := cap0_0) (kd := .i64) (m := q0_1) (by kernel_rfl) sl22 (F0_0.is hx51) ?_
      refine wS_load1 (d := 23) (T := 5) (ad := (elA A0_0 1 (q0_1) 0)) (v := .int .u8 (x50)) (by kernel_rfl) vt5 (Sl.cell F0_0 hx51 0 (by rfl)) ?_
      refine wS_pure 2 [(3, .int .i64 (wr x50)), (24, .int .i64 (wr x50))] (by kernel_rfl) ?_
      refine wS_end (by rfl) ?_
      have hq : (some (wr x50) : Option (Int)) = some _ := hm
      replace hq := someE hq
      subst hq
      exact eX_J (fun hst => ⟨wr x50, rfl, Fr.of hst (by kernel_rfl), F0_0, F0, hB, hZ⟩)
    · have hm := condF hb39 hm
      refine cW_skip ?_
      have hq : (some 0 : Option (Int)) = some _ := hm
      replace hq := someE hq
      subst hq
      exact eX_J (fun hst => ⟨0, rfl, Fr.of hst (by kernel_rfl), F0_0, F0, hB, hZ⟩)
  · rintro a' w24 ⟨x25, hJ, hF26, F27, F28, hB, hZ⟩
    subst hJ
    refine Fr.goX hF26 (by kernel_rfl) ?_
    refine eX_then ?_
    refine cW_seq ?_
    refine cW_region ?_
    refine wS_pure 3 [(27, .pointer (some ⟨b0, 1, none⟩)), (26, .pointer (some ⟨b0, 0, none⟩)), (25, .pointer (some ⟨b0, 0, none⟩))] (by kernel_rfl) ?_
    refine wS_load1 (d := 28) (T := 3) (ad := ⟨b0, 1, none⟩) (v := .int .i64 (q0_1)) (by kernel_rfl) vt3 ((F28).cell 1) ?_
    refine wS_pure 3 [(31, .pointer (some ⟨b0, 1, none⟩)), (30, .pointer (some ⟨b0, 0, none⟩)), (29, .int .i64 (wr (q0_1 + 1)))] (by kernel_rfl) ?_
    refine wS_store (T := 3) (g := b0) (o := 1) (ad := ⟨b0, 1, none⟩) (v := .int .i64 (wr (q0_1 + 1))) (vs := [.int .i64 (wr (q0_1 + 1))]) (by kernel_rfl) (by rfl) sz3 (by rfl) (by rfl) F28 (by simp only [List.length_cons, List.length_nil]; omega) ?_
    intro w52 F53 hc54
    replace F27 := F27.chg hc54 (J0__0_0).symm
    replace hB := hB.inS hc54 (inMem (fun x hx => (List.mem_append_left _ hx)))
    replace hZ := Nat.le_trans hZ hc54.size
    replace F53 : Cl w52 b0 142 [.slice A0_0 (l0_0).length cap0_0, .int .i64 (wr (q0_1 + 1)), .int .u64 (q0_2)] := F53
    clear F28
    refine wS_end (by rfl) ?_
    refine eX_then ?_
    refine cW_seq ?_
    refine cW_region ?_
    refine wS_pure 4 [(35, .pointer (some ⟨b0, 2, none⟩)), (34, .pointer (some ⟨b0, 0, none⟩)), (33, .pointer (some ⟨b0, 0, none⟩)), (32, .pointer (some ⟨b0, 0, none⟩))] (by kernel_rfl) ?_
    refine wS_load1 (d := 36) (T := 140) (ad := ⟨b0, 2, none⟩) (v := .int .u64 (q0_2)) (by kernel_rfl) vt140 ((F53).cell 2) ?_
    refine wS_pure 7 [(43, .pointer (some ⟨b0, 2, none⟩)), (42, .pointer (some ⟨b0, 0, none⟩)), (41, .int .u64 (wu ((wu ((wu (q0_2 * 6364136223846793005)) + (wu x25))) + 1442695040888963407))), (40, .int .u64 (wu ((wu (q0_2 * 6364136223846793005)) + (wu x25)))), (39, .int .u64 (wu x25)), (38, .int .i64 (x25)), (37, .int .u64 (wu (q0_2 * 6364136223846793005)))] (by kernel_rfl) ?_
    refine wS_store (T := 140) (g := b0) (o := 2) (ad := ⟨b0, 2, none⟩) (v := .int .u64 (wu ((wu ((wu (q0_2 * 6364136223846793005)) + (wu x25))) + 1442695040888963407))) (vs := [.int .u64 (wu ((wu ((wu (q0_2 * 6364136223846793005)) + (wu x25))) + 1442695040888963407))]) (by kernel_rfl) (by rfl) sz140 (by rfl) (by rfl) F53 (by simp only [List.length_cons, List.length_nil]; omega) ?_
    intro w55 F56 hc57
    replace F27 := F27.chg hc57 (J0__0_0).symm
    replace hB := hB.inS hc57 (inMem (fun x hx => (List.mem_append_left _ hx)))
    replace hZ := Nat.le_trans hZ hc57.size
    replace F56 : Cl w55 b0 142 [.slice A0_0 (l0_0).length cap0_0, .int .i64 (wr (q0_1 + 1)), .int .u64 (wu ((wu ((wu (q0_2 * 6364136223846793005)) + (wu x25))) + 1442695040888963407))] := F56
    clear F53
    refine wS_end (by rfl) ?_
    refine eX_then ?_
    refine cW_seq ?_
    refine cW_seq ?_
    refine cW_drawnTail [] 9 (by kernel_rfl) (by kernel_rfl) (fun w62 hc63 => ?_)
    replace F27 := F27.chg hc63 Dj.nil
    replace F56 := F56.chg hc63 notNil
    replace hB := hB.inS hc63 inNil
    replace hZ := Nat.le_trans hZ hc63.size
    have hS := Chg.refl [] w62
    have Z64 := F27
    have Z65 := F56
    refine wH_take [0, 1, 2] [2, 1, 0] [(46, .pointer (some ⟨b0, 1, none⟩)), (45, .pointer (some ⟨b0, 0, none⟩)), (44, .pointer (some ⟨b0, 0, none⟩))] (by kernel_rfl) (qT (qT (qT qZ))) (by kernel_rfl) ?_
    refine wH_load1 (i := 3) (d := 47) (T := 3) (ad := ⟨b0, 1, none⟩) (v := .int .i64 (wr (q0_1 + 1))) (by kernel_rfl) (qT (qT (qT qZ))) (by kernel_rfl) (by kernel_rfl) vt3 (fun W hW => (Z65.chg hW notNil).cell 1) ?_
    refine wH_take [4, 5, 6] [6, 5, 4, 3, 2, 1, 0] [(50, .pointer (some ⟨b0, 0, none⟩)), (49, .pointer (some ⟨b0, 0, none⟩)), (48, .pointer (some ⟨b0, 0, none⟩))] (by kernel_rfl) (qT (qT (qT qZ))) (by kernel_rfl) ?_
    refine wH_load1 (i := 7) (d := 51) (T := 22) (ad := ⟨b0, 0, none⟩) (v := .slice A0_0 (l0_0).length cap0_0) (by kernel_rfl) (qT (qT (qT qZ))) (by kernel_rfl) (by kernel_rfl) vt22 (fun W hW => (Z65.chg hW notNil).cell 0) ?_
    refine wH_take [8] [8, 7, 6, 5, 4, 3, 2, 1, 0] [(52, .int .i64 (((l0_0).length : Int)))] (by kernel_rfl) (qT (qT (qT qZ))) (by kernel_rfl) ?_
    refine wH_done (by kernel_rfl) ?_
    refine eX_tail ?_
    refine wS_pure 1 [(53, .bool (decide ((wr (q0_1 + 1)) ≤ (((l0_0).length : Int)))))] (by kernel_rfl) ?_
    refine wS_end (by rfl) ?_
    refine eX_then ?_
    refine cW_prune [(0, .pointer (some ⟨b0, 0, none⟩)), (3, .int .i64 (x25)), (53, .bool (decide ((wr (q0_1 + 1)) ≤ (((l0_0).length : Int)))))] (by kernel_rfl) (by kernel_rfl) (fun a66 => ?_)
    refine cW_cond (t := decide ((wr (q0_1 + 1)) ≤ (((l0_0).length : Int)))) (by kernel_rfl) (fun hb67 => ?_) (fun hb67 => ?_)
    · have hm := condT hb67 hm
      refine cW_seq ?_
      refine cW_region ?_
      refine wS_pure 2 [(2, .int .i64 (x25)), (54, .int .i64 (x25))] (by kernel_rfl) ?_
      refine wS_end (by rfl) ?_
      refine eX_then ?_
      refine cW_ret ?_
      refine eX_then_ret ?_
      have hq : (some ((x25, wr (q0_1 + 1), wu ((wu ((wu (q0_2 * 6364136223846793005)) + (wu x25))) + 1442695040888963407))) : Option ((Int) × (Int) × (Int))) = some _ := hm
      replace hq := someE hq
      subst hq
      refine eX_ret (vs := [.int .i64 (x25)]) [.tmp 2] (by rfl) ⟨by (show lkE _ _ _ = _); kernel_rfl, trivial⟩ ?_
      exact ⟨rfl, F56, hB⟩
    · have hm := condF hb67 hm
      refine cW_skip ?_
      refine eX_then ?_
      refine cW_seq ?_
      refine cW_region ?_
      refine wS_pure 3 [(57, .pointer (some ⟨b0, 2, none⟩)), (56, .pointer (some ⟨b0, 0, none⟩)), (55, .pointer (some ⟨b0, 0, none⟩))] (by kernel_rfl) ?_
      refine wS_load1 (d := 58) (T := 140) (ad := ⟨b0, 2, none⟩) (v := .int .u64 (wu ((wu ((wu (q0_2 * 6364136223846793005)) + (wu x25))) + 1442695040888963407))) (by kernel_rfl) vt140 ((F56).cell 2) ?_
      refine wS_pure 4 [(2, .int .i64 (wr (andU (shrU (wu ((wu ((wu (q0_2 * 6364136223846793005)) + (wu x25))) + 1442695040888963407)) 40) 255))), (61, .int .i64 (wr (andU (shrU (wu ((wu ((wu (q0_2 * 6364136223846793005)) + (wu x25))) + 1442695040888963407)) 40) 255))), (60, .int .u64 (andU (shrU (wu ((wu ((wu (q0_2 * 6364136223846793005)) + (wu x25))) + 1442695040888963407)) 40) 255)), (59, .int .u64 (shrU (wu ((wu ((wu (q0_2 * 6364136223846793005)) + (wu x25))) + 1442695040888963407)) 40))] (by kernel_rfl) ?_
      refine wS_end (by rfl) ?_
      refine eX_then ?_
      refine cW_ret ?_
      have hq : (some ((wr (andU (shrU (wu ((wu ((wu (q0_2 * 6364136223846793005)) + (wu x25))) + 1442695040888963407)) 40) 255), wr (q0_1 + 1), wu ((wu ((wu (q0_2 * 6364136223846793005)) + (wu x25))) + 1442695040888963407))) : Option ((Int) × (Int) × (Int))) = some _ := hm
      replace hq := someE hq
      subst hq
      refine eX_ret (vs := [.int .i64 (wr (andU (shrU (wu ((wu ((wu (q0_2 * 6364136223846793005)) + (wu x25))) + 1442695040888963407)) 40) 255))]) [.tmp 2] (by rfl) ⟨by (show lkE _ _ _ = _); kernel_rfl, trivial⟩ ?_
      exact ⟨rfl, F56, hB⟩

set_option maxRecDepth 100000 in
/-- spec.l00Src).pick -/
theorem c_spec_l00Src_pick_bspecl00Src {w0 : World} {l0_0 : List (Int)} {A0_0 : Option Addr} {cap0_0 : Nat} {fp0_0 : List Nat} {q0_1 : Int} {q0_2 : Int} {b0 : Nat} {p1 : Int} {r : (Int) × (Int) × (Int)} (hm : m_spec_l00Src_pick_bspecl00Src l0_0 q0_1 q0_2 p1 = some r) (F0_0 : Sl 1 encU w0 fp0_0 A0_0 l0_0) (F0 : Cl w0 b0 142 [.slice A0_0 (l0_0).length cap0_0, .int .i64 (q0_1), .int .u64 (q0_2)]) (J0__0_0 : Dj [b0] fp0_0) :
    Calls Try.prog 73 #[.pointer (some ⟨b0, 0, none⟩), .int .i64 (p1)] w0 fun e w' => e = .returned (.int .i64 (r.1)) ∧ Cl w' b0 142 [.slice A0_0 (l0_0).length cap0_0, .int .i64 (r.2.1), .int .u64 (r.2.2)] ∧ Chg ([b0] ++ []) w0 w' := by
  have L0_0 := F0_0.low
  have L0 := lt1 F0.lt
  have hB : Chg ([b0] ++ []) w0 w0 := Chg.refl _ _
  have hZ := Nat.le_refl w0.heap.size
  unfold m_spec_l00Src_pick_bspecl00Src at hm
  refine enterE (N := 20) Try.func73 (by rfl) Try.ntmps73 (by simp) [(0, .pointer (some ⟨b0, 0, none⟩)), (1, .int .i64 (p1))] (by rfl) (by kernel_rfl) (fun a => ?_)
  refine cW_seq ?_
  refine cW_region ?_
  refine wS_pure 1 [(4, .int .i64 (0))] (by kernel_rfl) ?_
  refine wS_end (by rfl) ?_
  refine eX_then ?_
  refine cW_seq ?_
  refine cW_seq ?_
  refine cW_region ?_
  refine wS_pure 2 [(7, .bool (decide (p1 ≤ 1))), (6, .int .i64 (p1))] (by kernel_rfl) ?_
  refine wS_end (by rfl) ?_
  refine eX_then ?_
  refine cW_cond (t := decide (p1 ≤ 1)) (by kernel_rfl) (fun hb3 => ?_) (fun hb3 => ?_)
  · have hm := condT hb3 hm
    refine cW_seq ?_
    refine cW_region ?_
    refine wS_pure 1 [(4, .int .i64 (0))] (by kernel_rfl) ?_
    refine wS_end (by rfl) ?_
    refine eX_then ?_
    refine cW_ret ?_
    refine eX_then_ret ?_
    have hq : (some ((0, q0_1, q0_2)) : Option ((Int) × (Int) × (Int))) = some _ := hm
    replace hq := someE hq
    subst hq
    refine eX_ret (vs := [.int .i64 (0)]) [.tmp 4] (by rfl) ⟨by (show lkE _ _ _ = _); kernel_rfl, trivial⟩ ?_
    exact ⟨rfl, F0, hB⟩
  · have hm := condF hb3 hm
    refine cW_skip ?_
    refine eX_then ?_
    refine cW_seq ?_
    refine cW_region ?_
    refine wS_pure 1 [(8, .pointer (some ⟨b0, 0, none⟩))] (by kernel_rfl) ?_
    obtain ⟨y4, hy5, hm⟩ := bindE hm
    refine wS_calls (d := 9) (f := 121) (vs := [.pointer (some ⟨b0, 0, none⟩)]) (by kernel_rfl) ent121 (c_spec_l00Src_next_bspecl00Src hy5 F0_0 F0 J0__0_0) ?_
    rintro _ w6 ⟨rfl, F8, hc7⟩
    replace F0_0 := F0_0.chg hc7 (Dj.app (J0__0_0).symm Dj.nil)
    replace hB := hB.inS hc7 (inApp (inMem (fun x hx => (List.mem_append_left _ hx))) inNil)
    replace hZ := Nat.le_trans hZ hc7.size
    clear F0
    refine ⟨.int .i64 (y4.1), rfl, ?_⟩
    refine wS_pure 1 [(5, .int .i64 (y4.1))] (by kernel_rfl) ?_
    refine wS_end (by rfl) ?_
    refine eX_then ?_
    refine cW_seq ?_
    obtain ⟨s22, hs23, hm⟩ := bindE hm
    refine cW_cut (fun a' w' => ∃ x16 : Int, ∃ x17 : Int, ∃ x18 : Int, (x16, x17, x18) = s22 ∧ Fr 20 [(1, .int .i64 (p1)), (5, .int .i64 (x16))] a' ∧ Sl 1 encU w' fp0_0 A0_0 l0_0 ∧ Cl w' b0 142 [.slice A0_0 (l0_0).length cap0_0, .int .i64 (x17), .int .u64 (x18)] ∧ Chg ([b0] ++ []) w0 w' ∧ w0.heap.size ≤ w'.heap.size) ?_ ?_
    · have hm := hs23
      refine cW_seq ?_
      refine cW_region ?_
      refine wS_pure 2 [(11, .bool (decide (p1 > 200))), (10, .int .i64 (p1))] (by kernel_rfl) ?_
      refine wS_end (by rfl) ?_
      refine eX_then ?_
      refine cW_cond (t := decide (p1 > 200)) (by kernel_rfl) (fun hb24 => ?_) (fun hb24 => ?_)
      · have hm := condT hb24 hm
        refine cW_region ?_
        refine wS_pure 3 [(14, .pointer (some ⟨b0, 0, none⟩)), (13, .int .i64 (wr (y4.1 * 256))), (12, .int .i64 (y4.1))] (by kernel_rfl) ?_
        obtain ⟨y25, hy26, hm⟩ := bindE hm
        refine wS_calls (d := 15) (f := 121) (vs := [.pointer (some ⟨b0, 0, none⟩)]) (by kernel_rfl) ent121 (c_spec_l00Src_next_bspecl00Src hy26 F0_0 F8 J0__0_0) ?_
        rintro _ w27 ⟨rfl, F29, hc28⟩
        replace F0_0 := F0_0.chg hc28 (Dj.app (J0__0_0).symm Dj.nil)
        replace hB := hB.inS hc28 (inApp (inMem (fun x hx => (List.mem_append_left _ hx))) inNil)
        replace hZ := Nat.le_trans hZ hc28.size
        clear F8
        refine ⟨.int .i64 (y25.1), rfl, ?_⟩
        refine wS_pure 2 [(5, .int .i64 (wr ((wr (y4.1 * 256)) + y25.1))), (16, .int .i64 (wr ((wr (y4.1 * 256)) + y25.1)))] (by kernel_rfl) ?_
        refine wS_end (by rfl) ?_
        have hq : (some ((wr ((wr (y4.1 * 256)) + y25.1), y25.2.1, y25.2.2)) : Option (Int × Int × Int)) = some _ := hm
        replace hq := someE hq
        subst hq
        exact eX_J (fun hst => ⟨wr ((wr (y4.1 * 256)) + y25.1), y25.2.1, y25.2.2, rfl, Fr.of hst (by kernel_rfl), F0_0, F29, hB, hZ⟩)
      · have hm := condF hb24 hm
        refine cW_skip ?_
        have hq : (some ((y4.1, y4.2.1, y4.2.2)) : Option (Int × Int × Int)) = some _ := hm
        replace hq := someE hq
        subst hq
        exact eX_J (fun hst => ⟨y4.1, y4.2.1, y4.2.2, rfl, Fr.of hst (by kernel_rfl), F0_0, F8, hB, hZ⟩)
    · rintro a' w15 ⟨x16, x17, x18, hJ, hF19, F20, F21, hB, hZ⟩
      subst hJ
      refine Fr.goX hF19 (by kernel_rfl) ?_
      refine eX_then ?_
      refine cW_seq ?_
      refine cW_region ?_
      refine wS_pure 2 [(18, .int .i64 (p1)), (17, .int .i64 (x16))] (by kernel_rfl) ?_
      obtain ⟨u30, hu31, hm⟩ := bindE hm
      refine wS_rem (d := 19) (x := x16) (y := p1) (by kernel_rfl) (nzE hu31) ?_
      refine wS_pure 1 [(4, .int .i64 (Int.tmod x16 p1))] (by kernel_rfl) ?_
      refine wS_end (by rfl) ?_
      refine eX_then ?_
      refine cW_ret ?_
      have hq : (some ((Int.tmod x16 p1, x17, x18)) : Option ((Int) × (Int) × (Int))) = some _ := hm
      replace hq := someE hq
      subst hq
      refine eX_ret (vs := [.int .i64 (Int.tmod x16 p1)]) [.tmp 4] (by rfl) ⟨by (show lkE _ _ _ = _); kernel_rfl, trivial⟩ ?_
      exact ⟨rfl, F21, hB⟩

set_option maxRecDepth 100000 in
/-- impl.in -/
theorem c_impl_in {w0 : World} {p0 : Int} {p1 : Int} {p2 : Int} {r : (Bool)} (hm : m_impl_in p0 p1 p2 = some r)  :
    Calls Try.prog 77 #[.int .i64 (p0), .int .i64 (p1), .int .i64 (p2)] w0 fun e w' => e = .returned (.bool (r)) ∧ Chg [] w0 w' := by
  have hB : Chg [] w0 w0 := Chg.refl _ _
  have hZ := Nat.le_refl w0.heap.size
  unfold m_impl_in at hm
  refine enterE (N := 15) Try.func77 (by rfl) Try.ntmps77 (by simp) [(0, .int .i64 (p0)), (1, .int .i64 (p1)), (2, .int .i64 (p2))] (by rfl) (by kernel_rfl) (fun a => ?_)
  refine cW_seq ?_
  refine cW_region ?_
  refine wS_pure 1 [(6, .bool (false))] (by kernel_rfl) ?_
  refine wS_end (by rfl) ?_
  refine eX_then ?_
  refine cW_seq ?_
  refine cW_region ?_
  refine wS_pure 4 [(10, .bool (decide (p0 ≥ p1))), (9, .bool (decide (p0 ≥ p1))), (8, .int .i64 (p1)), (7, .int .i64 (p0))] (by kernel_rfl) ?_
  refine wS_bool (decide (p0 ≥ p1)) (fun hb1 => ?_) (fun hb1 => ?_)
  · have hm := condT hb1 hm
    rewrite [hb1]
    refine wS_pure 5 [(6, .bool (decide (p0 ≤ p2))), (14, .bool (decide (p0 ≤ p2))), (13, .bool (decide (p0 ≤ p2))), (12, .int .i64 (p2)), (11, .int .i64 (p0))] (by kernel_rfl) ?_
    refine wS_end (by rfl) ?_
    refine eX_then ?_
    refine cW_ret ?_
    have hq : (some (decide (p0 ≤ p2)) : Option ((Bool))) = some _ := hm
    replace hq := someE hq
    subst hq
    refine eX_ret (vs := [.bool (decide (p0 ≤ p2))]) [.tmp 6] (by rfl) ⟨by (show lkE _ _ _ = _); kernel_rfl, trivial⟩ ?_
    exact ⟨rfl, hB⟩
  · have hm := condF hb1 hm
    rewrite [hb1]
    refine wS_pure 5 [(6, .bool (false)), (14, .bool (false)), (13, undef), (12, undef), (11, undef)] (by kernel_rfl) ?_
    refine wS_end (by rfl) ?_
    refine eX_then ?_
    refine cW_ret ?_
    have hq : (some false : Option ((Bool))) = some _ := hm
    replace hq := someE hq
    subst hq
    refine eX_ret (vs := [.bool (false)]) [.tmp 6] (by rfl) ⟨by (show lkE _ _ _ = _); kernel_rfl, trivial⟩ ?_
    exact ⟨rfl, hB⟩

set_option maxRecDepth 100000 in
/-- impl.ValidRegion -/
theorem c_impl_ValidRegion {w0 : World} {p0_0 : Int} {p0_1 : Int} {p0_2 : Int} {p0_3 : Int} {r : (Bool)} (hm : m_impl_ValidRegion p0_0 p0_1 p0_2 p0_3 = some r)  :
    Calls Try.prog 21 #[.agg #[.int .i64 (p0_0), .int .i64 (p0_1), .int .i64 (p0_2), .int .i64 (p0_3)]] w0 fun e w' => e = .returned (.bool (r)) ∧ Chg [] w0 w' := by
  have hB : Chg [] w0 w0 := Chg.refl _ _
  have hZ := Nat.le_refl w0.heap.size
  unfold m_impl_ValidRegion at hm
  refine enterE (N := 25) Try.func21 (by rfl) Try.ntmps21 (by simp) [(0, .agg #[.int .i64 (p0_0), .int .i64 (p0_1), .int .i64 (p0_2), .int .i64 (p0_3)])] (by rfl) (by kernel_rfl) (fun a => ?_)
  refine cW_seq ?_
  refine cW_region ?_
  refine wS_box (d := 1) (T := 25) (x := .agg #[.int .i64 (p0_0), .int .i64 (p0_1), .int .i64 (p0_2), .int .i64 (p0_3)]) (by kernel_rfl) ?_
  intro b1 w2 G3 F4 hc5
  replace F4 : Cl w2 b1 25 [.int .i64 (p0_0), .int .i64 (p0_1), .int .i64 (p0_2), .int .i64 (p0_3)] := F4
  replace hB := hB.inS hc5 inNil
  replace G3 := Nat.le_trans hZ G3
  replace hZ := Nat.le_trans hZ hc5.size
  refine wS_pure 1 [(2, .bool (false))] (by kernel_rfl) ?_
  refine wS_end (by rfl) ?_
  refine eX_then ?_
  refine cW_seq ?_
  refine cW_region ?_
  refine wS_pure 1 [(3, .pointer (some ⟨b1, 0, none⟩))] (by kernel_rfl) ?_
  refine wS_load1 (d := 4) (T := 2) (ad := ⟨b1, 0, none⟩) (v := .int .i64 (p0_0)) (by kernel_rfl) vt2 ((F4).cell 0) ?_
  refine wS_pure 1 [(5, .pointer (some ⟨b1, 1, none⟩))] (by kernel_rfl) ?_
  refine wS_load1 (d := 6) (T := 2) (ad := ⟨b1, 1, none⟩) (v := .int .i64 (p0_1)) (by kernel_rfl) vt2 ((F4).cell 1) ?_
  obtain ⟨y7, hy8, hm⟩ := bindE hm
  refine wS_calls (d := 7) (f := 77) (vs := [.int .i64 (p0_0), .int .i64 ((-1000000000)), .int .i64 (p0_1)]) (by kernel_rfl) ent77 (c_impl_in hy8) ?_
  rintro _ w9 ⟨rfl, hc10⟩
  replace F4 := F4.chg hc10 notNil
  replace hB := hB.inS hc10 inNil
  replace hZ := Nat.le_trans hZ hc10.size
  refine ⟨.bool (y7), rfl, ?_⟩
  refine wS_pure 1 [(8, .bool (y7))] (by kernel_rfl) ?_
  refine wS_bool y7 (fun hb11 => ?_) (fun hb11 => ?_)
  · have hm := condT hb11 hm
    rewrite [hb11]
    refine wS_pure 1 [(9, .pointer (some ⟨b1, 2, none⟩))] (by kernel_rfl) ?_
    refine wS_load1 (d := 10) (T := 2) (ad := ⟨b1, 2, none⟩) (v := .int .i64 (p0_2)) (by kernel_rfl) vt2 ((F4).cell 2) ?_
    refine wS_pure 1 [(11, .pointer (some ⟨b1, 3, none⟩))] (by kernel_rfl) ?_
    refine wS_load1 (d := 12) (T := 2) (ad := ⟨b1, 3, none⟩) (v := .int .i64 (p0_3)) (by kernel_rfl) vt2 ((F4).cell 3) ?_
    obtain ⟨y12, hy13, hm⟩ := bindE hm
    refine wS_calls (d := 13) (f := 77) (vs := [.int .i64 (p0_2), .int .i64 ((-1000000000)), .int .i64 (p0_3)]) (by kernel_rfl) ent77 (c_impl_in hy13) ?_
    rintro _ w14 ⟨rfl, hc15⟩
    replace F4 := F4.chg hc15 notNil
    replace hB := hB.inS hc15 inNil
    replace hZ := Nat.le_trans hZ hc15.size
    refine ⟨.bool (y12), rfl, ?_⟩
    refine wS_pure 2 [(15, .bool (y12)), (14, .bool (y12))] (by kernel_rfl) ?_
    refine wS_bool y12 (fun hb16 => ?_) (fun hb16 => ?_)
    · have hm := condT hb16 hm
      rewrite [hb16]
      refine wS_pure 1 [(16, .pointer (some ⟨b1, 1, none⟩))] (by kernel_rfl) ?_
      refine wS_load1 (d := 17) (T := 2) (ad := ⟨b1, 1, none⟩) (v := .int .i64 (p0_1)) (by kernel_rfl) vt2 ((F4).cell 1) ?_
      refine wS_pure 3 [(20, .bool (decide (p0_1 ≤ 1000000000))), (19, .bool (decide (p0_1 ≤ 1000000000))), (18, .bool (decide (p0_1 ≤ 1000000000)))] (by kernel_rfl) ?_
      refine wS_bool (decide (p0_1 ≤ 1000000000)) (fun hb17 => ?_) (fun hb17 => ?_)
      · have hm := condT hb17 hm
        rewrite [hb17]
        refine wS_pure 1 [(21, .pointer (some ⟨b1, 3, none⟩))] (by kernel_rfl) ?_
        refine wS_load1 (d := 22) (T := 2) (ad := ⟨b1, 3, none⟩) (v := .int .i64 (p0_3)) (by kernel_rfl) vt2 ((F4).cell 3) ?_
        refine wS_pure 3 [(2, .bool (decide (p0_3 ≤ 1000000000))), (24, .bool (decide (p0_3 ≤ 1000000000))), (23, .bool (decide (p0_3 ≤ 1000000000)))] (by kernel_rfl) ?_
        refine wS_end (by rfl) ?_
        refine eX_then ?_
        refine cW_prune [(2, .bool (decide (p0_3 ≤ 1000000000)))] (by kernel_rfl) (by kernel_rfl) (fun a18 => ?_)
        refine cW_ret ?_
        have hq : (some (decide (p0_3 ≤ 1000000000)) : Option ((Bool))) = some _ := hm
        replace hq := someE hq
        subst hq
        refine eX_ret (vs := [.bool (decide (p0_3 ≤ 1000000000))]) [.tmp 2] (by rfl) ⟨by (show lkE _ _ _ = _); kernel_rfl, trivial⟩ ?_
        exact ⟨rfl, hB⟩
      · have hm := condF hb17 hm
        rewrite [hb17]
        refine wS_pure 5 [(2, .bool (false)), (24, .bool (false)), (23, undef), (22, undef), (21, undef)] (by kernel_rfl) ?_
        refine wS_end (by rfl) ?_
        refine eX_then ?_
        refine cW_prune [(2, .bool (false))] (by kernel_rfl) (by kernel_rfl) (fun a19 => ?_)
        refine cW_ret ?_
        have hq : (some false : Option ((Bool))) = some _ := hm
        replace hq := someE hq
        subst hq
        refine eX_ret (vs := [.bool (false)]) [.tmp 2] (by rfl) ⟨by (show lkE _ _ _ = _); kernel_rfl, trivial⟩ ?_
        exact ⟨rfl, hB⟩
    · have hm := condF hb16 hm
      rewrite [hb16]
      refine wS_pure 10 [(2, .bool (false)), (24, .bool (false)), (23, undef), (22, undef), (21, undef), (20, .bool (false)), (19, .bool (false)), (18, undef), (17, undef), (16, undef)] (by kernel_rfl) ?_
      refine wS_end (by rfl) ?_
      refine eX_then ?_
      refine cW_prune [(2, .bool (false))] (by kernel_rfl) (by kernel_rfl) (fun a20 => ?_)
      refine cW_ret ?_
      have hq : (some false : Option ((Bool))) = some _ := hm
      replace hq := someE hq
      subst hq
      refine eX_ret (vs := [.bool (false)]) [.tmp 2] (by rfl) ⟨by (show lkE _ _ _ = _); kernel_rfl, trivial⟩ ?_
      exact ⟨rfl, hB⟩
  · have hm := condF hb11 hm
    rewrite [hb11]
    refine wS_pure 17 [(2, .bool (false)), (24, .bool (false)), (23, undef), (22, undef), (21, undef), (20, .bool (false)), (19, .bool (false)), (18, undef), (17, undef), (16, undef), (15, .bool (false)), (14, .bool (false)), (13, undef), (12, undef), (11, undef), (10, undef), (9, undef)] (by kernel_rfl) ?_
    refine wS_end (by rfl) ?_
    refine eX_then ?_
    refine cW_prune [(2, .bool (false))] (by kernel_rfl) (by kernel_rfl) (fun a21 => ?_)
    refine cW_ret ?_
    have hq : (some false : Option ((Bool))) = some _ := hm
    replace hq := someE hq
    subst hq
    refine eX_ret (vs := [.bool (false)]) [.tmp 2] (by rfl) ⟨by (show lkE _ _ _ = _); kernel_rfl, trivial⟩ ?_
    exact ⟨rfl, hB⟩

set_option maxRecDepth 100000 in
/-- impl.Region).far -/
theorem c_impl_Region_far {w0 : World} {p0_0 : Int} {p0_1 : Int} {p0_2 : Int} {p0_3 : Int} {p1_0 : Int} {p1_1 : Int} {p1_2 : Int} {p1_3 : Int} {r : (Int)} (hm : m_impl_Region_far p0_0 p0_1 p0_2 p0_3 p1_0 p1_1 p1_2 p1_3 = some r)  :
    Calls Try.prog 74 #[.agg #[.int .i64 (p0_0), .int .i64 (p0_1), .int .i64 (p0_2), .int .i64 (p0_3)], .agg #[.int .i64 (p1_0), .int .i64 (p1_1), .int .i64 (p1_2), .int .i64 (p1_3)]] w0 fun e w' => e = .returned (.int .i64 (r)) ∧ Chg [] w0 w' := by
  have hB : Chg [] w0 w0 := Chg.refl _ _
  have hZ := Nat.le_refl w0.heap.size
  unfold m_impl_Region_far at hm
  refine enterE (N := 26) Try.func74 (by rfl) Try.ntmps74 (by simp) [(0, .agg #[.int .i64 (p0_0), .int .i64 (p0_1), .int .i64 (p0_2), .int .i64 (p0_3)]), (1, .agg #[.int .i64 (p1_0), .int .i64 (p1_1), .int .i64 (p1_2), .int .i64 (p1_3)])] (by rfl) (by kernel_rfl) (fun a => ?_)
  refine cW_seq ?_
  refine cW_region ?_
  refine wS_box (d := 2) (T := 25) (x := .agg #[.int .i64 (p0_0), .int .i64 (p0_1), .int .i64 (p0_2), .int .i64 (p0_3)]) (by kernel_rfl) ?_
  intro b1 w2 G3 F4 hc5
  replace F4 : Cl w2 b1 25 [.int .i64 (p0_0), .int .i64 (p0_1), .int .i64 (p0_2), .int .i64 (p0_3)] := F4
  replace hB := hB.inS hc5 inNil
  replace G3 := Nat.le_trans hZ G3
  replace hZ := Nat.le_trans hZ hc5.size
  refine wS_box (d := 3) (T := 25) (x := .agg #[.int .i64 (p1_0), .int .i64 (p1_1), .int .i64 (p1_2), .int .i64 (p1_3)]) (by kernel_rfl) ?_
  intro b7 w8 G9 F10 hc11
  replace F10 : Cl w8 b7 25 [.int .i64 (p1_0), .int .i64 (p1_1), .int .i64 (p1_2), .int .i64 (p1_3)] := F10
  have D13 : Dj [b1] [b7] := Dj.of (lt1 F4.lt) (low1 G9)
  replace F4 := F4.chg hc11 notNil
  replace hB := hB.inS hc11 inNil
  replace G9 := Nat.le_trans hZ G9
  replace hZ := Nat.le_trans hZ hc11.size
  refine wS_pure 1 [(4, .int .i64 (0))] (by kernel_rfl) ?_
  refine wS_end (by rfl) ?_
  refine eX_then ?_
  refine cW_seq ?_
  refine cW_region ?_
  refine wS_pure 1 [(5, .pointer (some ⟨b1, 0, none⟩))] (by kernel_rfl) ?_
  refine wS_load1 (d := 6) (T := 2) (ad := ⟨b1, 0, none⟩) (v := .int .i64 (p0_0)) (by kernel_rfl) vt2 ((F4).cell 0) ?_
  refine wS_pure 1 [(7, .pointer (some ⟨b7, 1, none⟩))] (by kernel_rfl) ?_
  refine wS_load1 (d := 8) (T := 2) (ad := ⟨b7, 1, none⟩) (v := .int .i64 (p1_1)) (by kernel_rfl) vt2 ((F10).cell 1) ?_
  refine wS_pure 2 [(10, .pointer (some ⟨b7, 0, none⟩)), (9, .int .i64 (wr (p0_0 - p1_1)))] (by kernel_rfl) ?_
  refine wS_load1 (d := 11) (T := 2) (ad := ⟨b7, 0, none⟩) (v := .int .i64 (p1_0)) (by kernel_rfl) vt2 ((F10).cell 0) ?_
  refine wS_pure 1 [(12, .pointer (some ⟨b1, 1, none⟩))] (by kernel_rfl) ?_
  refine wS_load1 (d := 13) (T := 2) (ad := ⟨b1, 1, none⟩) (v := .int .i64 (p0_1)) (by kernel_rfl) vt2 ((F4).cell 1) ?_
  refine wS_pure 2 [(15, .pointer (some ⟨b1, 2, none⟩)), (14, .int .i64 (wr (p1_0 - p0_1)))] (by kernel_rfl) ?_
  refine wS_load1 (d := 16) (T := 2) (ad := ⟨b1, 2, none⟩) (v := .int .i64 (p0_2)) (by kernel_rfl) vt2 ((F4).cell 2) ?_
  refine wS_pure 1 [(17, .pointer (some ⟨b7, 3, none⟩))] (by kernel_rfl) ?_
  refine wS_load1 (d := 18) (T := 2) (ad := ⟨b7, 3, none⟩) (v := .int .i64 (p1_3)) (by kernel_rfl) vt2 ((F10).cell 3) ?_
  refine wS_pure 2 [(20, .pointer (some ⟨b7, 2, none⟩)), (19, .int .i64 (wr (p0_2 - p1_3)))] (by kernel_rfl) ?_
  refine wS_load1 (d := 21) (T := 2) (ad := ⟨b7, 2, none⟩) (v := .int .i64 (p1_2)) (by kernel_rfl) vt2 ((F10).cell 2) ?_
  refine wS_pure 1 [(22, .pointer (some ⟨b1, 3, none⟩))] (by kernel_rfl) ?_
  refine wS_load1 (d := 23) (T := 2) (ad := ⟨b1, 3, none⟩) (v := .int .i64 (p0_3)) (by kernel_rfl) vt2 ((F4).cell 3) ?_
  refine wS_pure 3 [(4, .int .i64 (if (wr (p1_2 - p0_3)) > (if (wr (p0_2 - p1_3)) > (if (wr (p1_0 - p0_1)) > (if (wr (p0_0 - p1_1)) > 0 then (wr (p0_0 - p1_1)) else 0) then (wr (p1_0 - p0_1)) else (if (wr (p0_0 - p1_1)) > 0 then (wr (p0_0 - p1_1)) else 0)) then (wr (p0_2 - p1_3)) else (if (wr (p1_0 - p0_1)) > (if (wr (p0_0 - p1_1)) > 0 then (wr (p0_0 - p1_1)) else 0) then (wr (p1_0 - p0_1)) else (if (wr (p0_0 - p1_1)) > 0 then (wr (p0_0 - p1_1)) else 0))) then (wr (p1_2 - p0_3)) else (if (wr (p0_2 - p1_3)) > (if (wr (p1_0 - p0_1)) > (if (wr (p0_0 - p1_1)) > 0 then (wr (p0_0 - p1_1)) else 0) then (wr (p1_0 - p0_1)) else (if (wr (p0_0 - p1_1)) > 0 then (wr (p0_0 - p1_1)) else 0)) then (wr (p0_2 - p1_3)) else (if (wr (p1_0 - p0_1)) > (if (wr (p0_0 - p1_1)) > 0 then (wr (p0_0 - p1_1)) else 0) then (wr (p1_0 - p0_1)) else (if (wr (p0_0 - p1_1)) > 0 then (wr (p0_0 - p1_1)) else 0))))), (25, .int .i64 (if (wr (p1_2 - p0_3)) > (if (wr (p0_2 - p1_3)) > (if (wr (p1_0 - p0_1)) > (if (wr (p0_0 - p1_1)) > 0 then (wr (p0_0 - p1_1)) else 0) then (wr (p1_0 - p0_1)) else (if (wr (p0_0 - p1_1)) > 0 then (wr (p0_0 - p1_1)) else 0)) then (wr (p0_2 - p1_3)) else (if (wr (p1_0 - p0_1)) > (if (wr (p0_0 - p1_1)) > 0 then (wr (p0_0 - p1_1)) else 0) then (wr (p1_0 - p0_1)) else (if (wr (p0_0 - p1_1)) > 0 then (wr (p0_0 - p1_1)) else 0))) then (wr (p1_2 - p0_3)) else (if (wr (p0_2 - p1_3)) > (if (wr (p1_0 - p0_1)) > (if (wr (p0_0 - p1_1)) > 0 then (wr (p0_0 - p1_1)) else 0) then (wr (p1_0 - p0_1)) else (if (wr (p0_0 - p1_1)) > 0 then (wr (p0_0 - p1_1)) else 0)) then (wr (p0_2 - p1_3)) else (if (wr (p1_0 - p0_1)) > (if (wr (p0_0 - p1_1)) > 0 then (wr (p0_0 - p1_1)) else 0) then (wr (p1_0 - p0_1)) else (if (wr (p0_0 - p1_1)) > 0 then (wr (p0_0 - p1_1)) else 0))))), (24, .int .i64 (wr (p1_2 - p0_3)))] (by kernel_rfl) ?_
  refine wS_end (by rfl) ?_
  refine eX_then ?_
  refine cW_prune [(4, .int .i64 (if (wr (p1_2 - p0_3)) > (if (wr (p0_2 - p1_3)) > (if (wr (p1_0 - p0_1)) > (if (wr (p0_0 - p1_1)) > 0 then (wr (p0_0 - p1_1)) else 0) then (wr (p1_0 - p0_1)) else (if (wr (p0_0 - p1_1)) > 0 then (wr (p0_0 - p1_1)) else 0)) then (wr (p0_2 - p1_3)) else (if (wr (p1_0 - p0_1)) > (if (wr (p0_0 - p1_1)) > 0 then (wr (p0_0 - p1_1)) else 0) then (wr (p1_0 - p0_1)) else (if (wr (p0_0 - p1_1)) > 0 then (wr (p0_0 - p1_1)) else 0))) then (wr (p1_2 - p0_3)) else (if (wr (p0_2 - p1_3)) > (if (wr (p1_0 - p0_1)) > (if (wr (p0_0 - p1_1)) > 0 then (wr (p0_0 - p1_1)) else 0) then (wr (p1_0 - p0_1)) else (if (wr (p0_0 - p1_1)) > 0 then (wr (p0_0 - p1_1)) else 0)) then (wr (p0_2 - p1_3)) else (if (wr (p1_0 - p0_1)) > (if (wr (p0_0 - p1_1)) > 0 then (wr (p0_0 - p1_1)) else 0) then (wr (p1_0 - p0_1)) else (if (wr (p0_0 - p1_1)) > 0 then (wr (p0_0 - p1_1)) else 0)))))] (by kernel_rfl) (by kernel_rfl) (fun a14 => ?_)
  refine cW_ret ?_
  have hq : (some (if (wr (p1_2 - p0_3)) > (if (wr (p0_2 - p1_3)) > (if (wr (p1_0 - p0_1)) > (if (wr (p0_0 - p1_1)) > 0 then (wr (p0_0 - p1_1)) else 0) then (wr (p1_0 - p0_1)) else (if (wr (p0_0 - p1_1)) > 0 then (wr (p0_0 - p1_1)) else 0)) then (wr (p0_2 - p1_3)) else (if (wr (p1_0 - p0_1)) > (if (wr (p0_0 - p1_1)) > 0 then (wr (p0_0 - p1_1)) else 0) then (wr (p1_0 - p0_1)) else (if (wr (p0_0 - p1_1)) > 0 then (wr (p0_0 - p1_1)) else 0))) then (wr (p1_2 - p0_3)) else (if (wr (p0_2 - p1_3)) > (if (wr (p1_0 - p0_1)) > (if (wr (p0_0 - p1_1)) > 0 then (wr (p0_0 - p1_1)) else 0) then (wr (p1_0 - p0_1)) else (if (wr (p0_0 - p1_1)) > 0 then (wr (p0_0 - p1_1)) else 0)) then (wr (p0_2 - p1_3)) else (if (wr (p1_0 - p0_1)) > (if (wr (p0_0 - p1_1)) > 0 then (wr (p0_0 - p1_1)) else 0) then (wr (p1_0 - p0_1)) else (if (wr (p0_0 - p1_1)) > 0 then (wr (p0_0 - p1_1)) else 0)))) : Option ((Int))) = some _ := hm
  replace hq := someE hq
  subst hq
  refine eX_ret (vs := [.int .i64 (if (wr (p1_2 - p0_3)) > (if (wr (p0_2 - p1_3)) > (if (wr (p1_0 - p0_1)) > (if (wr (p0_0 - p1_1)) > 0 then (wr (p0_0 - p1_1)) else 0) then (wr (p1_0 - p0_1)) else (if (wr (p0_0 - p1_1)) > 0 then (wr (p0_0 - p1_1)) else 0)) then (wr (p0_2 - p1_3)) else (if (wr (p1_0 - p0_1)) > (if (wr (p0_0 - p1_1)) > 0 then (wr (p0_0 - p1_1)) else 0) then (wr (p1_0 - p0_1)) else (if (wr (p0_0 - p1_1)) > 0 then (wr (p0_0 - p1_1)) else 0))) then (wr (p1_2 - p0_3)) else (if (wr (p0_2 - p1_3)) > (if (wr (p1_0 - p0_1)) > (if (wr (p0_0 - p1_1)) > 0 then (wr (p0_0 - p1_1)) else 0) then (wr (p1_0 - p0_1)) else (if (wr (p0_0 - p1_1)) > 0 then (wr (p0_0 - p1_1)) else 0)) then (wr (p0_2 - p1_3)) else (if (wr (p1_0 - p0_1)) > (if (wr (p0_0 - p1_1)) > 0 then (wr (p0_0 - p1_1)) else 0) then (wr (p1_0 - p0_1)) else (if (wr (p0_0 - p1_1)) > 0 then (wr (p0_0 - p1_1)) else 0))))]) [.tmp 4] (by rfl) ⟨by (show lkE _ _ _ = _); kernel_rfl, trivial⟩ ?_
  exact ⟨rfl, hB⟩

set_option maxRecDepth 100000 in
/-- impl.mergeOk -/
theorem c_impl_mergeOk {w0 : World} {p0_0 : Int} {p0_1 : Int} {p0_2 : Int} {p0_3 : Int} {p0_4 : Int} {r : (Bool)} (hm : m_impl_mergeOk p0_0 p0_1 p0_2 p0_3 p0_4 = some r)  :
    Calls Try.prog 75 #[.agg #[.int .i64 (p0_0), .int .i64 (p0_1), .int .i64 (p0_2), .int .i64 (p0_3), .int .i64 (p0_4)]] w0 fun e w' => e = .returned (.bool (r)) ∧ Chg [] w0 w' := by
  have hB : Chg [] w0 w0 := Chg.refl _ _
  have hZ := Nat.le_refl w0.heap.size
  unfold m_impl_mergeOk at hm
  refine enterE (N := 11) Try.func75 (by rfl) Try.ntmps75 (by simp) [(0, .agg #[.int .i64 (p0_0), .int .i64 (p0_1), .int .i64 (p0_2), .int .i64 (p0_3), .int .i64 (p0_4)])] (by rfl) (by kernel_rfl) (fun a => ?_)
  refine cW_seq ?_
  refine cW_region ?_
  refine wS_box (d := 1) (T := 27) (x := .agg #[.int .i64 (p0_0), .int .i64 (p0_1), .int .i64 (p0_2), .int .i64 (p0_3), .int .i64 (p0_4)]) (by kernel_rfl) ?_
  intro b1 w2 G3 F4 hc5
  replace F4 : Cl w2 b1 27 [.int .i64 (p0_0), .int .i64 (p0_1), .int .i64 (p0_2), .int .i64 (p0_3), .int .i64 (p0_4)] := F4
  replace hB := hB.inS hc5 inNil
  replace G3 := Nat.le_trans hZ G3
  replace hZ := Nat.le_trans hZ hc5.size
  refine wS_pure 1 [(2, .bool (false))] (by kernel_rfl) ?_
  refine wS_end (by rfl) ?_
  refine eX_then ?_
  refine cW_seq ?_
  refine cW_region ?_
  refine wS_pure 1 [(3, .pointer (some ⟨b1, 0, none⟩))] (by kernel_rfl) ?_
  refine wS_loadA (d := 4) (T := 25) (ad := ⟨b1, 0, none⟩) (vs := [.int .i64 (p0_0), .int .i64 (p0_1), .int .i64 (p0_2), .int .i64 (p0_3)]) (by kernel_rfl) vt25 (fun i u hu => box_cells F4 0 hu (by rfl)) ?_
  obtain ⟨y7, hy8, hm⟩ := bindE hm
  refine wS_calls (d := 5) (f := 21) (vs := [.agg #[.int .i64 (p0_0), .int .i64 (p0_1), .int .i64 (p0_2), .int .i64 (p0_3)]]) (by kernel_rfl) ent21 (c_impl_ValidRegion hy8) ?_
  rintro _ w9 ⟨rfl, hc10⟩
  replace F4 := F4.chg hc10 notNil
  replace hB := hB.inS hc10 inNil
  replace hZ := Nat.le_trans hZ hc10.size
  refine ⟨.bool (y7), rfl, ?_⟩
  refine wS_pure 1 [(6, .bool (y7))] (by kernel_rfl) ?_
  refine wS_bool y7 (fun hb11 => ?_) (fun hb11 => ?_)
  · have hm := condT hb11 hm
    rewrite [hb11]
    refine wS_pure 1 [(7, .pointer (some ⟨b1, 4, none⟩))] (by kernel_rfl) ?_
    refine wS_load1 (d := 8) (T := 2) (ad := ⟨b1, 4, none⟩) (v := .int .i64 (p0_4)) (by kernel_rfl) vt2 ((F4).cell 4) ?_
    obtain ⟨y12, hy13, hm⟩ := bindE hm
    refine wS_calls (d := 9) (f := 77) (vs := [.int .i64 (p0_4), .int .i64 (0), .int .i64 (1000000000)]) (by kernel_rfl) ent77 (c_impl_in hy13) ?_
    rintro _ w14 ⟨rfl, hc15⟩
    replace F4 := F4.chg hc15 notNil
    replace hB := hB.inS hc15 inNil
    replace hZ := Nat.le_trans hZ hc15.size
    refine ⟨.bool (y12), rfl, ?_⟩
    refine wS_pure 2 [(2, .bool (y12)), (10, .bool (y12))] (by kernel_rfl) ?_
    refine wS_end (by rfl) ?_
    refine eX_then ?_
    refine cW_ret ?_
    have hq : (some y12 : Option ((Bool))) = some _ := hm
    replace hq := someE hq
    subst hq
    refine eX_ret (vs := [.bool (y12)]) [.tmp 2] (by rfl) ⟨by (show lkE _ _ _ = _); kernel_rfl, trivial⟩ ?_
    exact ⟨rfl, hB⟩
  · have hm := condF hb11 hm
    rewrite [hb11]
    refine wS_pure 5 [(2, .bool (false)), (10, .bool (false)), (9, undef), (8, undef), (7, undef)] (by kernel_rfl) ?_
    refine wS_end (by rfl) ?_
    refine eX_then ?_
    refine cW_ret ?_
    have hq : (some false : Option ((Bool))) = some _ := hm
    replace hq := someE hq
    subst hq
    refine eX_ret (vs := [.bool (false)]) [.tmp 2] (by rfl) ⟨by (show lkE _ _ _ = _); kernel_rfl, trivial⟩ ?_
    exact ⟨rfl, hB⟩

set_option maxRecDepth 100000 in
/-- impl.Region).grown -/
theorem c_impl_Region_grown {w0 : World} {p0_0 : Int} {p0_1 : Int} {p0_2 : Int} {p0_3 : Int} {p1 : Int} {r : (Int × Int × Int × Int)} (hm : m_impl_Region_grown p0_0 p0_1 p0_2 p0_3 p1 = some r)  :
    Calls Try.prog 78 #[.agg #[.int .i64 (p0_0), .int .i64 (p0_1), .int .i64 (p0_2), .int .i64 (p0_3)], .int .i64 (p1)] w0 fun e w' => e = .returned (.agg #[.int .i64 (r.1), .int .i64 (r.2.1), .int .i64 (r.2.2.1), .int .i64 (r.2.2.2)]) ∧ Chg [] w0 w' := by
  have hB : Chg [] w0 w0 := Chg.refl _ _
  have hZ := Nat.le_refl w0.heap.size
  unfold m_impl_Region_grown at hm
  refine enterE (N := 22) Try.func78 (by rfl) Try.ntmps78 (by simp) [(0, .agg #[.int .i64 (p0_0), .int .i64 (p0_1), .int .i64 (p0_2), .int .i64 (p0_3)]), (1, .int .i64 (p1))] (by rfl) (by kernel_rfl) (fun a => ?_)
  refine cW_seq ?_
  refine cW_region ?_
  refine wS_box (d := 2) (T := 25) (x := .agg #[.int .i64 (p0_0), .int .i64 (p0_1), .int .i64 (p0_2), .int .i64 (p0_3)]) (by kernel_rfl) ?_
  intro b1 w2 G3 F4 hc5
  replace F4 : Cl w2 b1 25 [.int .i64 (p0_0), .int .i64 (p0_1), .int .i64 (p0_2), .int .i64 (p0_3)] := F4
  replace hB := hB.inS hc5 inNil
  replace G3 := Nat.le_trans hZ G3
  replace hZ := Nat.le_trans hZ hc5.size
  refine wS_alloc (d := 4) (T := 25) (z := .agg #[.int .i64 (0), .int .i64 (0), .int .i64 (0), .int .i64 (0)]) (by kernel_rfl) (by kernel_rfl) ?_
  intro b7 w8 G9 F10 hc11
  replace F10 : Cl w8 b7 25 [.int .i64 (0), .int .i64 (0), .int .i64 (0), .int .i64 (0)] := F10
  have D13 : Dj [b1] [b7] := Dj.of (lt1 F4.lt) (low1 G9)
  replace F4 := F4.chg hc11 notNil
  replace hB := hB.inS hc11 inNil
  replace G9 := Nat.le_trans hZ G9
  replace hZ := Nat.le_trans hZ hc11.size
  refine wS_end (by rfl) ?_
  refine eX_then ?_
  refine cW_seq ?_
  refine cW_region ?_
  refine wS_pure 1 [(5, .pointer (some ⟨b1, 0, none⟩))] (by kernel_rfl) ?_
  refine wS_load1 (d := 6) (T := 2) (ad := ⟨b1, 0, none⟩) (v := .int .i64 (p0_0)) (by kernel_rfl) vt2 ((F4).cell 0) ?_
  refine wS_pure 3 [(9, .pointer (some ⟨b1, 1, none⟩)), (8, .int .i64 (wr (p0_0 - p1))), (7, .int .i64 (p1))] (by kernel_rfl) ?_
  refine wS_load1 (d := 10) (T := 2) (ad := ⟨b1, 1, none⟩) (v := .int .i64 (p0_1)) (by kernel_rfl) vt2 ((F4).cell 1) ?_
  refine wS_pure 3 [(13, .pointer (some ⟨b1, 2, none⟩)), (12, .int .i64 (wr (p0_1 + p1))), (11, .int .i64 (p1))] (by kernel_rfl) ?_
  refine wS_load1 (d := 14) (T := 2) (ad := ⟨b1, 2, none⟩) (v := .int .i64 (p0_2)) (by kernel_rfl) vt2 ((F4).cell 2) ?_
  refine wS_pure 3 [(17, .pointer (some ⟨b1, 3, none⟩)), (16, .int .i64 (wr (p0_2 - p1))), (15, .int .i64 (p1))] (by kernel_rfl) ?_
  refine wS_load1 (d := 18) (T := 2) (ad := ⟨b1, 3, none⟩) (v := .int .i64 (p0_3)) (by kernel_rfl) vt2 ((F4).cell 3) ?_
  refine wS_pure 3 [(21, .agg #[.int .i64 (wr (p0_0 - p1)), .int .i64 (wr (p0_1 + p1)), .int .i64 (wr (p0_2 - p1)), .int .i64 (wr (p0_3 + p1))]), (20, .int .i64 (wr (p0_3 + p1))), (19, .int .i64 (p1))] (by kernel_rfl) ?_
  refine wS_store (T := 25) (g := b7) (o := 0) (ad := ⟨b7, 0, none⟩) (v := .agg #[.int .i64 (wr (p0_0 - p1)), .int .i64 (wr (p0_1 + p1)), .int .i64 (wr (p0_2 - p1)), .int .i64 (wr (p0_3 + p1))]) (vs := [.int .i64 (wr (p0_0 - p1)), .int .i64 (wr (p0_1 + p1)), .int .i64 (wr (p0_2 - p1)), .int .i64 (wr (p0_3 + p1))]) (by kernel_rfl) (by rfl) sz25 (by rfl) (by rfl) F10 (by simp only [List.length_cons, List.length_nil]; omega) ?_
  intro w14 F15 hc16
  replace F4 := F4.chg hc16 (dj1 D13)
  replace hB := hB.inS hc16 (inLow (low1 G9))
  replace hZ := Nat.le_trans hZ hc16.size
  replace F15 : Cl w14 b7 25 [.int .i64 (wr (p0_0 - p1)), .int .i64 (wr (p0_1 + p1)), .int .i64 (wr (p0_2 - p1)), .int .i64 (wr (p0_3 + p1))] := F15
  clear F10
  refine wS_end (by rfl) ?_
  refine eX_then ?_
  refine cW_ret ?_
  have hq : (some ((wr (p0_0 - p1), wr (p0_1 + p1), wr (p0_2 - p1), wr (p0_3 + p1))) : Option ((Int × Int × Int × Int))) = some _ := hm
  replace hq := someE hq
  subst hq
  refine eX_ret (vs := [.agg #[.int .i64 (wr (p0_0 - p1)), .int .i64 (wr (p0_1 + p1)), .int .i64 (wr (p0_2 - p1)), .int .i64 (wr (p0_3 + p1))]]) [.cell 4 25] (by rfl) ⟨⟨⟨b7, 0, none⟩, by kernel_rfl, run_loadVarA (vs := [.int .i64 (wr (p0_0 - p1)), .int .i64 (wr (p0_1 + p1)), .int .i64 (wr (p0_2 - p1)), .int .i64 (wr (p0_3 + p1))]) vt25 (fun i u hu => by exact box_cells F15 0 hu (by rfl))⟩, trivial⟩ ?_
  exact ⟨rfl, hB⟩

set_option maxRecDepth 100000 in
/-- impl.Region).meet -/
theorem c_impl_Region_meet {w0 : World} {p0_0 : Int} {p0_1 : Int} {p0_2 : Int} {p0_3 : Int} {p1_0 : Int} {p1_1 : Int} {p1_2 : Int} {p1_3 : Int} {r : (Int × Int × Int × Int) × (Bool)} (hm : m_impl_Region_meet p0_0 p0_1 p0_2 p0_3 p1_0 p1_1 p1_2 p1_3 = some r)  :
    Calls Try.prog 79 #[.agg #[.int .i64 (p0_0), .int .i64 (p0_1), .int .i64 (p0_2), .int .i64 (p0_3)], .agg #[.int .i64 (p1_0), .int .i64 (p1_1), .int .i64 (p1_2), .int .i64 (p1_3)]] w0 fun e w' => e = .returned (.tuple #[.agg #[.int .i64 (r.1.1), .int .i64 (r.1.2.1), .int .i64 (r.1.2.2.1), .int .i64 (r.1.2.2.2)], .bool (r.2)]) ∧ Chg [] w0 w' := by
  have hB : Chg [] w0 w0 := Chg.refl _ _
  have hZ := Nat.le_refl w0.heap.size
  unfold m_impl_Region_meet at hm
  refine enterE (N := 41) Try.func79 (by rfl) Try.ntmps79 (by simp) [(0, .agg #[.int .i64 (p0_0), .int .i64 (p0_1), .int .i64 (p0_2), .int .i64 (p0_3)]), (1, .agg #[.int .i64 (p1_0), .int .i64 (p1_1), .int .i64 (p1_2), .int .i64 (p1_3)])] (by rfl) (by kernel_rfl) (fun a => ?_)
  refine cW_seq ?_
  refine cW_region ?_
  refine wS_box (d := 2) (T := 25) (x := .agg #[.int .i64 (p0_0), .int .i64 (p0_1), .int .i64 (p0_2), .int .i64 (p0_3)]) (by kernel_rfl) ?_
  intro b1 w2 G3 F4 hc5
  replace F4 : Cl w2 b1 25 [.int .i64 (p0_0), .int .i64 (p0_1), .int .i64 (p0_2), .int .i64 (p0_3)] := F4
  replace hB := hB.inS hc5 inNil
  replace G3 := Nat.le_trans hZ G3
  replace hZ := Nat.le_trans hZ hc5.size
  refine wS_box (d := 3) (T := 25) (x := .agg #[.int .i64 (p1_0), .int .i64 (p1_1), .int .i64 (p1_2), .int .i64 (p1_3)]) (by kernel_rfl) ?_
  intro b7 w8 G9 F10 hc11
  replace F10 : Cl w8 b7 25 [.int .i64 (p1_0), .int .i64 (p1_1), .int .i64 (p1_2), .int .i64 (p1_3)] := F10
  have D13 : Dj [b1] [b7] := Dj.of (lt1 F4.lt) (low1 G9)
  replace F4 := F4.chg hc11 notNil
  replace hB := hB.inS hc11 inNil
  replace G9 := Nat.le_trans hZ G9
  replace hZ := Nat.le_trans hZ hc11.size
  refine wS_alloc (d := 4) (T := 25) (z := .agg #[.int .i64 (0), .int .i64 (0), .int .i64 (0), .int .i64 (0)]) (by kernel_rfl) (by kernel_rfl) ?_
  intro b14 w15 G16 F17 hc18
  replace F17 : Cl w15 b14 25 [.int .i64 (0), .int .i64 (0), .int .i64 (0), .int .i64 (0)] := F17
  have D20 : Dj [b1] [b14] := Dj.of (lt1 F4.lt) (low1 G16)
  have D21 : Dj [b7] [b14] := Dj.of (lt1 F10.lt) (low1 G16)
  replace F4 := F4.chg hc18 notNil
  replace F10 := F10.chg hc18 notNil
  replace hB := hB.inS hc18 inNil
  replace G16 := Nat.le_trans hZ G16
  replace hZ := Nat.le_trans hZ hc18.size
  refine wS_pure 1 [(5, .bool (false))] (by kernel_rfl) ?_
  refine wS_end (by rfl) ?_
  refine eX_then ?_
  refine cW_seq ?_
  refine cW_region ?_
  refine wS_pure 1 [(7, .pointer (some ⟨b1, 0, none⟩))] (by kernel_rfl) ?_
  refine wS_load1 (d := 8) (T := 2) (ad := ⟨b1, 0, none⟩) (v := .int .i64 (p0_0)) (by kernel_rfl) vt2 ((F4).cell 0) ?_
  refine wS_pure 1 [(9, .pointer (some ⟨b7, 0, none⟩))] (by kernel_rfl) ?_
  refine wS_load1 (d := 10) (T := 2) (ad := ⟨b7, 0, none⟩) (v := .int .i64 (p1_0)) (by kernel_rfl) vt2 ((F10).cell 0) ?_
  refine wS_pure 2 [(12, .pointer (some ⟨b1, 1, none⟩)), (11, .int .i64 (if p1_0 > p0_0 then p1_0 else p0_0))] (by kernel_rfl) ?_
  refine wS_load1 (d := 13) (T := 2) (ad := ⟨b1, 1, none⟩) (v := .int .i64 (p0_1)) (by kernel_rfl) vt2 ((F4).cell 1) ?_
  refine wS_pure 1 [(14, .pointer (some ⟨b7, 1, none⟩))] (by kernel_rfl) ?_
  refine wS_load1 (d := 15) (T := 2) (ad := ⟨b7, 1, none⟩) (v := .int .i64 (p1_1)) (by kernel_rfl) vt2 ((F10).cell 1) ?_
  refine wS_pure 2 [(17, .pointer (some ⟨b1, 2, none⟩)), (16, .int .i64 (if p1_1 < p0_1 then p1_1 else p0_1))] (by kernel_rfl) ?_
  refine wS_load1 (d := 18) (T := 2) (ad := ⟨b1, 2, none⟩) (v := .int .i64 (p0_2)) (by kernel_rfl) vt2 ((F4).cell 2) ?_
  refine wS_pure 1 [(19, .pointer (some ⟨b7, 2, none⟩))] (by kernel_rfl) ?_
  refine wS_load1 (d := 20) (T := 2) (ad := ⟨b7, 2, none⟩) (v := .int .i64 (p1_2)) (by kernel_rfl) vt2 ((F10).cell 2) ?_
  refine wS_pure 2 [(22, .pointer (some ⟨b1, 3, none⟩)), (21, .int .i64 (if p1_2 > p0_2 then p1_2 else p0_2))] (by kernel_rfl) ?_
  refine wS_load1 (d := 23) (T := 2) (ad := ⟨b1, 3, none⟩) (v := .int .i64 (p0_3)) (by kernel_rfl) vt2 ((F4).cell 3) ?_
  refine wS_pure 1 [(24, .pointer (some ⟨b7, 3, none⟩))] (by kernel_rfl) ?_
  refine wS_load1 (d := 25) (T := 2) (ad := ⟨b7, 3, none⟩) (v := .int .i64 (p1_3)) (by kernel_rfl) vt2 ((F10).cell 3) ?_
  refine wS_pure 2 [(27, .agg #[.int .i64 (if p1_0 > p0_0 then p1_0 else p0_0), .int .i64 (if p1_1 < p0_1 then p1_1 else p0_1), .int .i64 (if p1_2 > p0_2 then p1_2 else p0_2), .int .i64 (if p1_3 < p0_3 then p1_3 else p0_3)]), (26, .int .i64 (if p1_3 < p0_3 then p1_3 else p0_3))] (by kernel_rfl) ?_
  refine wS_alloc (d := 6) (T := 25) (z := .agg #[.int .i64 (0), .int .i64 (0), .int .i64 (0), .int .i64 (0)]) (by kernel_rfl) (by kernel_rfl) ?_
  intro b22 w23 G24 F25 hc26
  replace F25 : Cl w23 b22 25 [.int .i64 (0), .int .i64 (0), .int .i64 (0), .int .i64 (0)] := F25
  have D28 : Dj [b1] [b22] := Dj.of (lt1 F4.lt) (low1 G24)
  have D29 : Dj [b7] [b22] := Dj.of (lt1 F10.lt) (low1 G24)
  have D30 : Dj [b14] [b22] := Dj.of (lt1 F17.lt) (low1 G24)
  replace F4 := F4.chg hc26 notNil
  replace F10 := F10.chg hc26 notNil
  replace F17 := F17.chg hc26 notNil
  replace hB := hB.inS hc26 inNil
  replace G24 := Nat.le_trans hZ G24
  replace hZ := Nat.le_trans hZ hc26.size
  refine wS_store (T := 25) (g := b22) (o := 0) (ad := ⟨b22, 0, none⟩) (v := .agg #[.int .i64 (if p1_0 > p0_0 then p1_0 else p0_0), .int .i64 (if p1_1 < p0_1 then p1_1 else p0_1), .int .i64 (if p1_2 > p0_2 then p1_2 else p0_2), .int .i64 (if p1_3 < p0_3 then p1_3 else p0_3)]) (vs := [.int .i64 (if p1_0 > p0_0 then p1_0 else p0_0), .int .i64 (if p1_1 < p0_1 then p1_1 else p0_1), .int .i64 (if p1_2 > p0_2 then p1_2 else p0_2), .int .i64 (if p1_3 < p0_3 then p1_3 else p0_3)]) (by kernel_rfl) (by rfl) sz25 (by rfl) (by rfl) F25 (by simp only [List.length_cons, List.length_nil]; omega) ?_
  intro w31 F32 hc33
  replace F4 := F4.chg hc33 (dj1 D28)
  replace F10 := F10.chg hc33 (dj1 D29)
  replace F17 := F17.chg hc33 (dj1 D30)
  replace hB := hB.inS hc33 (inLow (low1 G24))
  replace hZ := Nat.le_trans hZ hc33.size
  replace F32 : Cl w31 b22 25 [.int .i64 (if p1_0 > p0_0 then p1_0 else p0_0), .int .i64 (if p1_1 < p0_1 then p1_1 else p0_1), .int .i64 (if p1_2 > p0_2 then p1_2 else p0_2), .int .i64 (if p1_3 < p0_3 then p1_3 else p0_3)] := F32
  clear F25
  refine wS_end (by rfl) ?_
  refine eX_then ?_
  refine cW_prune [(4, .pointer (some ⟨b14, 0, none⟩)), (6, .pointer (some ⟨b22, 0, none⟩))] (by kernel_rfl) (by kernel_rfl) (fun a34 => ?_)
  refine cW_seq ?_
  refine cW_drawnTail [b14] 14 (by kernel_rfl) (by kernel_rfl) (fun w48 hc49 => ?_)
  replace F4 := F4.chg hc49 notNil
  replace F10 := F10.chg hc49 notNil
  replace F17 := F17.chg hc49 notNil
  replace F32 := F32.chg hc49 notNil
  replace hB := hB.inS hc49 inNil
  replace hZ := Nat.le_trans hZ hc49.size
  have hS := Chg.refl [b14] w48
  have Z50 := F4
  have Z51 := F10
  have Z52 := F17
  have Z53 := F32
  refine wH_loadA (i := 0) (d := 28) (T := 25) (ad := ⟨b22, 0, none⟩) (vs := [.int .i64 (if p1_0 > p0_0 then p1_0 else p0_0), .int .i64 (if p1_1 < p0_1 then p1_1 else p0_1), .int .i64 (if p1_2 > p0_2 then p1_2 else p0_2), .int .i64 (if p1_3 < p0_3 then p1_3 else p0_3)]) (by kernel_rfl) (qT (qT qZ)) (by kernel_rfl) (by kernel_rfl) vt25 (fun W hW i u hu => box_cells (Z53.chg hW (dj1 (D30).symm)) 0 hu (by rfl)) ?_
  refine wH_take [1] [1, 0] [(29, .pointer (some ⟨b22, 0, none⟩))] (by kernel_rfl) (qT (qT qZ)) (by kernel_rfl) ?_
  refine wH_load1 (i := 2) (d := 30) (T := 2) (ad := ⟨b22, 0, none⟩) (v := .int .i64 (if p1_0 > p0_0 then p1_0 else p0_0)) (by kernel_rfl) (qT (qT qZ)) (by kernel_rfl) (by kernel_rfl) vt2 (fun W hW => (Z53.chg hW (dj1 (D30).symm)).cell 0) ?_
  refine wH_take [3] [3, 2, 1, 0] [(31, .pointer (some ⟨b22, 1, none⟩))] (by kernel_rfl) (qT (qT qZ)) (by kernel_rfl) ?_
  refine wH_load1 (i := 4) (d := 32) (T := 2) (ad := ⟨b22, 1, none⟩) (v := .int .i64 (if p1_1 < p0_1 then p1_1 else p0_1)) (by kernel_rfl) (qT (qT qZ)) (by kernel_rfl) (by kernel_rfl) vt2 (fun W hW => (Z53.chg hW (dj1 (D30).symm)).cell 1) ?_
  refine wH_take [5, 6] [6, 5, 4, 3, 2, 1, 0] [(34, .bool (decide ((if p1_0 > p0_0 then p1_0 else p0_0) ≤ (if p1_1 < p0_1 then p1_1 else p0_1)))), (33, .bool (decide ((if p1_0 > p0_0 then p1_0 else p0_0) ≤ (if p1_1 < p0_1 then p1_1 else p0_1))))] (by kernel_rfl) (qT (qT qZ)) (by kernel_rfl) ?_
  refine wH_bool (decide ((if p1_0 > p0_0 then p1_0 else p0_0) ≤ (if p1_1 < p0_1 then p1_1 else p0_1))) (fun hb54 => ?_) (fun hb54 => ?_)
  · have hm := condT hb54 hm
    rewrite [hb54]
    refine wH_take [7] [7, 6, 5, 4, 3, 2, 1, 0] [(35, .pointer (some ⟨b22, 2, none⟩))] (by kernel_rfl) (qT (qT qZ)) (by kernel_rfl) ?_
    refine wH_load1 (i := 8) (d := 36) (T := 2) (ad := ⟨b22, 2, none⟩) (v := .int .i64 (if p1_2 > p0_2 then p1_2 else p0_2)) (by kernel_rfl) (qT (qT qZ)) (by kernel_rfl) (by kernel_rfl) vt2 (fun W hW => (Z53.chg hW (dj1 (D30).symm)).cell 2) ?_
    refine wH_take [9] [9, 8, 7, 6, 5, 4, 3, 2, 1, 0] [(37, .pointer (some ⟨b22, 3, none⟩))] (by kernel_rfl) (qT (qT qZ)) (by kernel_rfl) ?_
    refine wH_load1 (i := 10) (d := 38) (T := 2) (ad := ⟨b22, 3, none⟩) (v := .int .i64 (if p1_3 < p0_3 then p1_3 else p0_3)) (by kernel_rfl) (qT (qT qZ)) (by kernel_rfl) (by kernel_rfl) vt2 (fun W hW => (Z53.chg hW (dj1 (D30).symm)).cell 3) ?_
    refine wH_take [11, 12] [12, 11, 10, 9, 8, 7, 6, 5, 4, 3, 2, 1, 0] [(40, .bool (decide ((if p1_2 > p0_2 then p1_2 else p0_2) ≤ (if p1_3 < p0_3 then p1_3 else p0_3)))), (39, .bool (decide ((if p1_2 > p0_2 then p1_2 else p0_2) ≤ (if p1_3 < p0_3 then p1_3 else p0_3))))] (by kernel_rfl) (qT (qT qZ)) (by kernel_rfl) ?_
    refine wH_all [13] (by rfl) (by kernel_rfl) (by simp) ⟨⟨by kernel_rfl, ?_⟩, trivial⟩
    refine wS_store (T := 25) (g := b14) (o := 0) (ad := ⟨b14, 0, none⟩) (v := .agg #[.int .i64 (if p1_0 > p0_0 then p1_0 else p0_0), .int .i64 (if p1_1 < p0_1 then p1_1 else p0_1), .int .i64 (if p1_2 > p0_2 then p1_2 else p0_2), .int .i64 (if p1_3 < p0_3 then p1_3 else p0_3)]) (vs := [.int .i64 (if p1_0 > p0_0 then p1_0 else p0_0), .int .i64 (if p1_1 < p0_1 then p1_1 else p0_1), .int .i64 (if p1_2 > p0_2 then p1_2 else p0_2), .int .i64 (if p1_3 < p0_3 then p1_3 else p0_3)]) (by kernel_rfl) (by rfl) sz25 (by rfl) (by rfl) F17 (by simp only [List.length_cons, List.length_nil]; omega) ?_
    intro w55 F56 hc57
    replace F4 := F4.chg hc57 (dj1 D20)
    replace F10 := F10.chg hc57 (dj1 D21)
    replace F32 := F32.chg hc57 (dj1 (D30).symm)
    replace hB := hB.inS hc57 (inLow (low1 G16))
    have hSz := hS
    replace hS := hS.trans hc57
    replace hZ := Nat.le_trans hZ hc57.size
    replace F56 : Cl w55 b14 25 [.int .i64 (if p1_0 > p0_0 then p1_0 else p0_0), .int .i64 (if p1_1 < p0_1 then p1_1 else p0_1), .int .i64 (if p1_2 > p0_2 then p1_2 else p0_2), .int .i64 (if p1_3 < p0_3 then p1_3 else p0_3)] := F56
    clear F17
    refine wS_end (by kernel_rfl) ?_
    refine eX_KH hS ?_
    refine wH_done (by kernel_rfl) ?_
    refine eX_tail ?_
    refine wS_pure 1 [(5, .bool (decide ((if p1_2 > p0_2 then p1_2 else p0_2) ≤ (if p1_3 < p0_3 then p1_3 else p0_3))))] (by kernel_rfl) ?_
    refine wS_end (by rfl) ?_
    refine eX_then ?_
    refine cW_ret ?_
    have hq : (some (((if p1_0 > p0_0 then p1_0 else p0_0, if p1_1 < p0_1 then p1_1 else p0_1, if p1_2 > p0_2 then p1_2 else p0_2, if p1_3 < p0_3 then p1_3 else p0_3), decide ((if p1_2 > p0_2 then p1_2 else p0_2) ≤ (if p1_3 < p0_3 then p1_3 else p0_3)))) : Option ((Int × Int × Int × Int) × (Bool))) = some _ := hm
    replace hq := someE hq
    subst hq
    refine eX_ret (vs := [.agg #[.int .i64 (if p1_0 > p0_0 then p1_0 else p0_0), .int .i64 (if p1_1 < p0_1 then p1_1 else p0_1), .int .i64 (if p1_2 > p0_2 then p1_2 else p0_2), .int .i64 (if p1_3 < p0_3 then p1_3 else p0_3)], .bool (decide ((if p1_2 > p0_2 then p1_2 else p0_2) ≤ (if p1_3 < p0_3 then p1_3 else p0_3)))]) [.cell 4 25, .tmp 5] (by rfl) ⟨⟨⟨b14, 0, none⟩, by kernel_rfl, run_loadVarA (vs := [.int .i64 (if p1_0 > p0_0 then p1_0 else p0_0), .int .i64 (if p1_1 < p0_1 then p1_1 else p0_1), .int .i64 (if p1_2 > p0_2 then p1_2 else p0_2), .int .i64 (if p1_3 < p0_3 then p1_3 else p0_3)]) vt25 (fun i u hu => by exact box_cells F56 0 hu (by rfl))⟩, ⟨by (show lkE _ _ _ = _); kernel_rfl, trivial⟩⟩ ?_
    exact ⟨rfl, hB⟩
  · have hm := condF hb54 hm
    rewrite [hb54]
    refine wH_take [7, 8, 9, 10, 11, 12] [12, 11, 10, 9, 8, 7, 6, 5, 4, 3, 2, 1, 0] [(40, .bool (false)), (39, undef), (38, undef), (37, undef), (36, undef), (35, undef)] (by kernel_rfl) (qT (qT qZ)) (by kernel_rfl) ?_
    refine wH_all [13] (by rfl) (by kernel_rfl) (by simp) ⟨⟨by kernel_rfl, ?_⟩, trivial⟩
    refine wS_store (T := 25) (g := b14) (o := 0) (ad := ⟨b14, 0, none⟩) (v := .agg #[.int .i64 (if p1_0 > p0_0 then p1_0 else p0_0), .int .i64 (if p1_1 < p0_1 then p1_1 else p0_1), .int .i64 (if p1_2 > p0_2 then p1_2 else p0_2), .int .i64 (if p1_3 < p0_3 then p1_3 else p0_3)]) (vs := [.int .i64 (if p1_0 > p0_0 then p1_0 else p0_0), .int .i64 (if p1_1 < p0_1 then p1_1 else p0_1), .int .i64 (if p1_2 > p0_2 then p1_2 else p0_2), .int .i64 (if p1_3 < p0_3 then p1_3 else p0_3)]) (by kernel_rfl) (by rfl) sz25 (by rfl) (by rfl) F17 (by simp only [List.length_cons, List.length_nil]; omega) ?_
    intro w58 F59 hc60
    replace F4 := F4.chg hc60 (dj1 D20)
    replace F10 := F10.chg hc60 (dj1 D21)
    replace F32 := F32.chg hc60 (dj1 (D30).symm)
    replace hB := hB.inS hc60 (inLow (low1 G16))
    have hSz := hS
    replace hS := hS.trans hc60
    replace hZ := Nat.le_trans hZ hc60.size
    replace F59 : Cl w58 b14 25 [.int .i64 (if p1_0 > p0_0 then p1_0 else p0_0), .int .i64 (if p1_1 < p0_1 then p1_1 else p0_1), .int .i64 (if p1_2 > p0_2 then p1_2 else p0_2), .int .i64 (if p1_3 < p0_3 then p1_3 else p0_3)] := F59
    clear F17
    refine wS_end (by kernel_rfl) ?_
    refine eX_KH hS ?_
    refine wH_done (by kernel_rfl) ?_
    refine eX_tail ?_
    refine wS_pure 1 [(5, .bool (false))] (by kernel_rfl) ?_
    refine wS_end (by rfl) ?_
    refine eX_then ?_
    refine cW_ret ?_
    have hq : (some (((if p1_0 > p0_0 then p1_0 else p0_0, if p1_1 < p0_1 then p1_1 else p0_1, if p1_2 > p0_2 then p1_2 else p0_2, if p1_3 < p0_3 then p1_3 else p0_3), false)) : Option ((Int × Int × Int × Int) × (Bool))) = some _ := hm
    replace hq := someE hq
    subst hq
    refine eX_ret (vs := [.agg #[.int .i64 (if p1_0 > p0_0 then p1_0 else p0_0), .int .i64 (if p1_1 < p0_1 then p1_1 else p0_1), .int .i64 (if p1_2 > p0_2 then p1_2 else p0_2), .int .i64 (if p1_3 < p0_3 then p1_3 else p0_3)], .bool (false)]) [.cell 4 25, .tmp 5] (by rfl) ⟨⟨⟨b14, 0, none⟩, by kernel_rfl, run_loadVarA (vs := [.int .i64 (if p1_0 > p0_0 then p1_0 else p0_0), .int .i64 (if p1_1 < p0_1 then p1_1 else p0_1), .int .i64 (if p1_2 > p0_2 then p1_2 else p0_2), .int .i64 (if p1_3 < p0_3 then p1_3 else p0_3)]) vt25 (fun i u hu => by exact box_cells F59 0 hu (by rfl))⟩, ⟨by (show lkE _ _ _ = _); kernel_rfl, trivial⟩⟩ ?_
    exact ⟨rfl, hB⟩

set_option maxRecDepth 100000 in
/-- impl.size -/
theorem c_impl_size {w0 : World} {p0 : Int} {r : (Int)} (hm : m_impl_size p0 = some r)  :
    Calls Try.prog 122 #[.int .i64 (p0)] w0 fun e w' => e = .returned (.int .i64 (r)) ∧ Chg [] w0 w' := by
  have hB : Chg [] w0 w0 := Chg.refl _ _
  have hZ := Nat.le_refl w0.heap.size
  unfold m_impl_size at hm
  refine enterE (N := 7) Try.func122 (by rfl) Try.ntmps122 (by simp) [(0, .int .i64 (p0))] (by rfl) (by kernel_rfl) (fun a => ?_)
  refine cW_seq ?_
  refine cW_region ?_
  refine wS_pure 1 [(2, .int .i64 (0))] (by kernel_rfl) ?_
  refine wS_end (by rfl) ?_
  refine eX_then ?_
  refine cW_seq ?_
  refine cW_region ?_
  refine wS_pure 5 [(2, .int .i64 (if (wr (0 - p0)) > p0 then (wr (0 - p0)) else p0)), (6, .int .i64 (if (wr (0 - p0)) > p0 then (wr (0 - p0)) else p0)), (5, .int .i64 (wr (0 - p0))), (4, .int .i64 (p0)), (3, .int .i64 (p0))] (by kernel_rfl) ?_
  refine wS_end (by rfl) ?_
  refine eX_then ?_
  refine cW_ret ?_
  have hq : (some (if (wr (0 - p0)) > p0 then (wr (0 - p0)) else p0) : Option ((Int))) = some _ := hm
  replace hq := someE hq
  subst hq
  refine eX_ret (vs := [.int .i64 (if (wr (0 - p0)) > p0 then (wr (0 - p0)) else p0)]) [.tmp 2] (by rfl) ⟨by (show lkE _ _ _ = _); kernel_rfl, trivial⟩ ?_
  exact ⟨rfl, hB⟩

set_option maxRecDepth 100000 in
/-- impl.merge -/
theorem c_impl_merge {w0 : World} {p0_0 : Int} {p0_1 : Int} {p0_2 : Int} {p0_3 : Int} {p0_4 : Int} {p1_0 : Int} {p1_1 : Int} {p1_2 : Int} {p1_3 : Int} {p1_4 : Int} {r : (Int × Int × Int × Int × Int) × (Int) × (Int) × (Bool)} (hm : m_impl_merge p0_0 p0_1 p0_2 p0_3 p0_4 p1_0 p1_1 p1_2 p1_3 p1_4 = some r)  :
    Calls Try.prog 76 #[.agg #[.int .i64 (p0_0), .int .i64 (p0_1), .int .i64 (p0_2), .int .i64 (p0_3), .int .i64 (p0_4)], .agg #[.int .i64 (p1_0), .int .i64 (p1_1), .int .i64 (p1_2), .int .i64 (p1_3), .int .i64 (p1_4)]] w0 fun e w' => e = .returned (.tuple #[.agg #[.int .i64 (r.1.1), .int .i64 (r.1.2.1), .int .i64 (r.1.2.2.1), .int .i64 (r.1.2.2.2.1), .int .i64 (r.1.2.2.2.2)], .int .i64 (r.2.1), .int .i64 (r.2.2.1), .bool (r.2.2.2)]) ∧ Chg [] w0 w' := by
  have hB : Chg [] w0 w0 := Chg.refl _ _
  have hZ := Nat.le_refl w0.heap.size
  unfold m_impl_merge at hm
  refine enterE (N := 86) Try.func76 (by rfl) Try.ntmps76 (by simp) [(0, .agg #[.int .i64 (p0_0), .int .i64 (p0_1), .int .i64 (p0_2), .int .i64 (p0_3), .int .i64 (p0_4)]), (1, .agg #[.int .i64 (p1_0), .int .i64 (p1_1), .int .i64 (p1_2), .int .i64 (p1_3), .int .i64 (p1_4)])] (by rfl) (by kernel_rfl) (fun a => ?_)
  refine cW_seq ?_
  refine cW_region ?_
  refine wS_box (d := 2) (T := 27) (x := .agg #[.int .i64 (p0_0), .int .i64 (p0_1), .int .i64 (p0_2), .int .i64 (p0_3), .int .i64 (p0_4)]) (by kernel_rfl) ?_
  intro b1 w2 G3 F4 hc5
  replace F4 : Cl w2 b1 27 [.int .i64 (p0_0), .int .i64 (p0_1), .int .i64 (p0_2), .int .i64 (p0_3), .int .i64 (p0_4)] := F4
  replace hB := hB.inS hc5 inNil
  replace G3 := Nat.le_trans hZ G3
  replace hZ := Nat.le_trans hZ hc5.size
  refine wS_box (d := 3) (T := 27) (x := .agg #[.int .i64 (p1_0), .int .i64 (p1_1), .int .i64 (p1_2), .int .i64 (p1_3), .int .i64 (p1_4)]) (by kernel_rfl) ?_
  intro b7 w8 G9 F10 hc11
  replace F10 : Cl w8 b7 27 [.int .i64 (p1_0), .int .i64 (p1_1), .int .i64 (p1_2), .int .i64 (p1_3), .int .i64 (p1_4)] := F10
  have D13 : Dj [b1] [b7] := Dj.of (lt1 F4.lt) (low1 G9)
  replace F4 := F4.chg hc11 notNil
  replace hB := hB.inS hc11 inNil
  replace G9 := Nat.le_trans hZ G9
  replace hZ := Nat.le_trans hZ hc11.size
  refine wS_alloc (d := 4) (T := 27) (z := .agg #[.int .i64 (0), .int .i64 (0), .int .i64 (0), .int .i64 (0), .int .i64 (0)]) (by kernel_rfl) (by kernel_rfl) ?_
  intro b14 w15 G16 F17 hc18
  replace F17 : Cl w15 b14 27 [.int .i64 (0), .int .i64 (0), .int .i64 (0), .int .i64 (0), .int .i64 (0)] := F17
  have D20 : Dj [b1] [b14] := Dj.of (lt1 F4.lt) (low1 G16)
  have D21 : Dj [b7] [b14] := Dj.of (lt1 F10.lt) (low1 G16)
  replace F4 := F4.chg hc18 notNil
  replace F10 := F10.chg hc18 notNil
  replace hB := hB.inS hc18 inNil
  replace G16 := Nat.le_trans hZ G16
  replace hZ := Nat.le_trans hZ hc18.size
  refine wS_pure 3 [(7, .bool (false)), (6, .int .i64 (0)), (5, .int .i64 (0))] (by kernel_rfl) ?_
  refine wS_end (by rfl) ?_
  refine eX_then ?_
  refine cW_seq ?_
  refine cW_region ?_
  refine wS_pure 1 [(15, .pointer (some ⟨b1, 0, none⟩))] (by kernel_rfl) ?_
  refine wS_loadA (d := 16) (T := 25) (ad := ⟨b1, 0, none⟩) (vs := [.int .i64 (p0_0), .int .i64 (p0_1), .int .i64 (p0_2), .int .i64 (p0_3)]) (by kernel_rfl) vt25 (fun i u hu => box_cells F4 0 hu (by rfl)) ?_
  refine wS_pure 1 [(17, .pointer (some ⟨b7, 0, none⟩))] (by kernel_rfl) ?_
  refine wS_loadA (d := 18) (T := 25) (ad := ⟨b7, 0, none⟩) (vs := [.int .i64 (p1_0), .int .i64 (p1_1), .int .i64 (p1_2), .int .i64 (p1_3)]) (by kernel_rfl) vt25 (fun i u hu => box_cells F10 0 hu (by rfl)) ?_
  obtain ⟨y22, hy23, hm⟩ := bindE hm
  refine wS_calls (d := 19) (f := 74) (vs := [.agg #[.int .i64 (p0_0), .int .i64 (p0_1), .int .i64 (p0_2), .int .i64 (p0_3)], .agg #[.int .i64 (p1_0), .int .i64 (p1_1), .int .i64 (p1_2), .int .i64 (p1_3)]]) (by kernel_rfl) ent74 (c_impl_Region_far hy23) ?_
  rintro _ w24 ⟨rfl, hc25⟩
  replace F4 := F4.chg hc25 notNil
  replace F10 := F10.chg hc25 notNil
  replace F17 := F17.chg hc25 notNil
  replace hB := hB.inS hc25 inNil
  replace hZ := Nat.le_trans hZ hc25.size
  refine ⟨.int .i64 (y22), rfl, ?_⟩
  refine wS_pure 1 [(8, .int .i64 (y22))] (by kernel_rfl) ?_
  refine wS_end (by rfl) ?_
  refine eX_then ?_
  refine cW_seq ?_
  refine cW_drawnTail [] 13 (by kernel_rfl) (by kernel_rfl) (fun w31 hc32 => ?_)
  replace F4 := F4.chg hc32 notNil
  replace F10 := F10.chg hc32 notNil
  replace F17 := F17.chg hc32 notNil
  replace hB := hB.inS hc32 inNil
  replace hZ := Nat.le_trans hZ hc32.size
  have hS := Chg.refl [] w31
  have Z33 := F4
  have Z34 := F10
  have Z35 := F17
  refine wH_take [0] [0] [(20, .pointer (some ⟨b7, 4, none⟩))] (by kernel_rfl) (qT (qT qZ)) (by kernel_rfl) ?_
  refine wH_load1 (i := 1) (d := 21) (T := 2) (ad := ⟨b7, 4, none⟩) (v := .int .i64 (p1_4)) (by kernel_rfl) (qT (qT qZ)) (by kernel_rfl) (by kernel_rfl) vt2 (fun W hW => (Z34.chg hW notNil).cell 4) ?_
  refine wH_take [2] [2, 1, 0] [(22, .pointer (some ⟨b1, 4, none⟩))] (by kernel_rfl) (qT (qT qZ)) (by kernel_rfl) ?_
  refine wH_load1 (i := 3) (d := 23) (T := 2) (ad := ⟨b1, 4, none⟩) (v := .int .i64 (p0_4)) (by kernel_rfl) (qT (qT qZ)) (by kernel_rfl) (by kernel_rfl) vt2 (fun W hW => (Z33.chg hW notNil).cell 4) ?_
  refine wH_take [4, 5, 6] [6, 5, 4, 3, 2, 1, 0] [(26, .pointer (some ⟨b1, 4, none⟩)), (25, .int .i64 (if 0 > (wr (p1_4 - p0_4)) then 0 else (wr (p1_4 - p0_4)))), (24, .int .i64 (wr (p1_4 - p0_4)))] (by kernel_rfl) (qT (qT qZ)) (by kernel_rfl) ?_
  refine wH_load1 (i := 7) (d := 27) (T := 2) (ad := ⟨b1, 4, none⟩) (v := .int .i64 (p0_4)) (by kernel_rfl) (qT (qT qZ)) (by kernel_rfl) (by kernel_rfl) vt2 (fun W hW => (Z33.chg hW notNil).cell 4) ?_
  refine wH_take [8] [8, 7, 6, 5, 4, 3, 2, 1, 0] [(28, .pointer (some ⟨b7, 4, none⟩))] (by kernel_rfl) (qT (qT qZ)) (by kernel_rfl) ?_
  refine wH_load1 (i := 9) (d := 29) (T := 2) (ad := ⟨b7, 4, none⟩) (v := .int .i64 (p1_4)) (by kernel_rfl) (qT (qT qZ)) (by kernel_rfl) (by kernel_rfl) vt2 (fun W hW => (Z34.chg hW notNil).cell 4) ?_
  refine wH_take [10, 11, 12] [12, 11, 10, 9, 8, 7, 6, 5, 4, 3, 2, 1, 0] [(9, .int .i64 (if 0 > (wr (p1_4 - p0_4)) then 0 else (wr (p1_4 - p0_4)))), (31, .int .i64 (if 0 > (wr (p0_4 - p1_4)) then 0 else (wr (p0_4 - p1_4)))), (30, .int .i64 (wr (p0_4 - p1_4)))] (by kernel_rfl) (qT (qT qZ)) (by kernel_rfl) ?_
  refine wH_done (by kernel_rfl) ?_
  refine eX_tail ?_
  refine wS_pure 1 [(10, .int .i64 (if 0 > (wr (p0_4 - p1_4)) then 0 else (wr (p0_4 - p1_4))))] (by kernel_rfl) ?_
  refine wS_end (by rfl) ?_
  refine eX_then ?_
  refine cW_prune [(2, .pointer (some ⟨b1, 0, none⟩)), (3, .pointer (some ⟨b7, 0, none⟩)), (4, .pointer (some ⟨b14, 0, none⟩)), (8, .int .i64 (y22)), (9, .int .i64 (if 0 > (wr (p1_4 - p0_4)) then 0 else (wr (p1_4 - p0_4)))), (10, .int .i64 (if 0 > (wr (p0_4 - p1_4)) then 0 else (wr (p0_4 - p1_4))))] (by kernel_rfl) (by kernel_rfl) (fun a36 => ?_)
  refine cW_seq ?_
  refine cW_seq ?_
  refine cW_region ?_
  refine wS_pure 1 [(32, .pointer (some ⟨b1, 4, none⟩))] (by kernel_rfl) ?_
  refine wS_load1 (d := 33) (T := 2) (ad := ⟨b1, 4, none⟩) (v := .int .i64 (p0_4)) (by kernel_rfl) vt2 ((F4).cell 4) ?_
  refine wS_pure 1 [(34, .pointer (some ⟨b7, 4, none⟩))] (by kernel_rfl) ?_
  refine wS_load1 (d := 35) (T := 2) (ad := ⟨b7, 4, none⟩) (v := .int .i64 (p1_4)) (by kernel_rfl) vt2 ((F10).cell 4) ?_
  refine wS_pure 1 [(36, .int .i64 (wr (p0_4 - p1_4)))] (by kernel_rfl) ?_
  obtain ⟨y37, hy38, hm⟩ := bindE hm
  refine wS_calls (d := 37) (f := 122) (vs := [.int .i64 (wr (p0_4 - p1_4))]) (by kernel_rfl) ent122 (c_impl_size hy38) ?_
  rintro _ w39 ⟨rfl, hc40⟩
  replace F4 := F4.chg hc40 notNil
  replace F10 := F10.chg hc40 notNil
  replace F17 := F17.chg hc40 notNil
  replace hB := hB.inS hc40 inNil
  replace hZ := Nat.le_trans hZ hc40.size
  refine ⟨.int .i64 (y37), rfl, ?_⟩
  refine wS_pure 2 [(39, .bool (decide (y37 ≤ y22))), (38, .int .i64 (y22))] (by kernel_rfl) ?_
  refine wS_end (by rfl) ?_
  refine eX_then ?_
  refine cW_cond (t := decide (y37 ≤ y22)) (by kernel_rfl) (fun hb41 => ?_) (fun hb41 => ?_)
  · have hm := condT hb41 hm
    refine cW_seq ?_
    refine cW_region ?_
    refine wS_pure 2 [(41, .pointer (some ⟨b7, 4, none⟩)), (40, .int .i64 (y22))] (by kernel_rfl) ?_
    refine wS_load1 (d := 42) (T := 2) (ad := ⟨b7, 4, none⟩) (v := .int .i64 (p1_4)) (by kernel_rfl) vt2 ((F10).cell 4) ?_
    refine wS_pure 2 [(44, .pointer (some ⟨b1, 4, none⟩)), (43, .int .i64 (wr (y22 + p1_4)))] (by kernel_rfl) ?_
    refine wS_load1 (d := 45) (T := 2) (ad := ⟨b1, 4, none⟩) (v := .int .i64 (p0_4)) (by kernel_rfl) vt2 ((F4).cell 4) ?_
    refine wS_pure 2 [(11, .int .i64 (wr ((wr (y22 + p1_4)) - p0_4))), (46, .int .i64 (wr ((wr (y22 + p1_4)) - p0_4)))] (by kernel_rfl) ?_
    refine wS_end (by rfl) ?_
    refine eX_then ?_
    refine cW_seq ?_
    refine cW_seq ?_
    refine cW_region ?_
    refine wS_pure 3 [(49, .bool ((Int.tmod (wr ((wr (y22 + p1_4)) - p0_4)) 2) != 0)), (48, .int .i64 (Int.tmod (wr ((wr (y22 + p1_4)) - p0_4)) 2)), (47, .int .i64 (wr ((wr (y22 + p1_4)) - p0_4)))] (by kernel_rfl) ?_
    refine wS_end (by rfl) ?_
    refine eX_then ?_
    refine cW_prune [(2, .pointer (some ⟨b1, 0, none⟩)), (3, .pointer (some ⟨b7, 0, none⟩)), (4, .pointer (some ⟨b14, 0, none⟩)), (8, .int .i64 (y22)), (11, .int .i64 (wr ((wr (y22 + p1_4)) - p0_4))), (49, .bool ((Int.tmod (wr ((wr (y22 + p1_4)) - p0_4)) 2) != 0))] (by kernel_rfl) (by kernel_rfl) (fun a42 => ?_)
    refine cW_cond (t := (Int.tmod (wr ((wr (y22 + p1_4)) - p0_4)) 2) != 0) (by kernel_rfl) (fun hb43 => ?_) (fun hb43 => ?_)
    · have hm := condT hb43 hm
      refine cW_seq ?_
      refine cW_region ?_
      refine wS_pure 1 [(50, .agg #[.int .i64 (0), .int .i64 (0), .int .i64 (0), .int .i64 (0), .int .i64 (0)])] (by kernel_rfl) ?_
      refine wS_store (T := 27) (g := b14) (o := 0) (ad := ⟨b14, 0, none⟩) (v := .agg #[.int .i64 (0), .int .i64 (0), .int .i64 (0), .int .i64 (0), .int .i64 (0)]) (vs := [.int .i64 (0), .int .i64 (0), .int .i64 (0), .int .i64 (0), .int .i64 (0)]) (by kernel_rfl) (by rfl) sz27 (by rfl) (by rfl) F17 (by simp only [List.length_cons, List.length_nil]; omega) ?_
      intro w44 F45 hc46
      replace F4 := F4.chg hc46 (dj1 D20)
      replace F10 := F10.chg hc46 (dj1 D21)
      replace hB := hB.inS hc46 (inLow (low1 G16))
      replace hZ := Nat.le_trans hZ hc46.size
      replace F45 : Cl w44 b14 27 [.int .i64 (0), .int .i64 (0), .int .i64 (0), .int .i64 (0), .int .i64 (0)] := F45
      clear F17
      refine wS_pure 3 [(7, .bool (false)), (6, .int .i64 (0)), (5, .int .i64 (0))] (by kernel_rfl) ?_
      refine wS_end (by rfl) ?_
      refine eX_then ?_
      refine cW_ret ?_
      refine eX_then_ret ?_
      refine eX_then_ret ?_
      have hq : (some (((0, 0, 0, 0, 0), 0, 0, false)) : Option ((Int × Int × Int × Int × Int) × (Int) × (Int) × (Bool))) = some _ := hm
      replace hq := someE hq
      subst hq
      refine eX_ret (vs := [.agg #[.int .i64 (0), .int .i64 (0), .int .i64 (0), .int .i64 (0), .int .i64 (0)], .int .i64 (0), .int .i64 (0), .bool (false)]) [.cell 4 27, .tmp 5, .tmp 6, .tmp 7] (by rfl) ⟨⟨⟨b14, 0, none⟩, by kernel_rfl, run_loadVarA (vs := [.int .i64 (0), .int .i64 (0), .int .i64 (0), .int .i64 (0), .int .i64 (0)]) vt27 (fun i u hu => by exact box_cells F45 0 hu (by rfl))⟩, ⟨by (show lkE _ _ _ = _); kernel_rfl, ⟨by (show lkE _ _ _ = _); kernel_rfl, ⟨by (show lkE _ _ _ = _); kernel_rfl, trivial⟩⟩⟩⟩ ?_
      exact ⟨rfl, hB⟩
    · have hm := condF hb43 hm
      refine cW_skip ?_
      refine eX_then ?_
      refine cW_region ?_
      refine wS_pure 8 [(10, .int .i64 (wr (y22 - (wr (Int.tdiv (wr ((wr (y22 + p1_4)) - p0_4)) 2))))), (9, .int .i64 (wr (Int.tdiv (wr ((wr (y22 + p1_4)) - p0_4)) 2))), (56, .int .i64 (wr (y22 - (wr (Int.tdiv (wr ((wr (y22 + p1_4)) - p0_4)) 2))))), (55, .int .i64 (wr (Int.tdiv (wr ((wr (y22 + p1_4)) - p0_4)) 2))), (54, .int .i64 (wr ((wr (y22 + p1_4)) - p0_4))), (53, .int .i64 (y22)), (52, .int .i64 (wr (Int.tdiv (wr ((wr (y22 + p1_4)) - p0_4)) 2))), (51, .int .i64 (wr ((wr (y22 + p1_4)) - p0_4)))] (by kernel_rfl) ?_
      refine wS_end (by rfl) ?_
      refine eX_then ?_
      refine cW_seq ?_
      obtain ⟨s248, hs249, hm⟩ := bindE hm
      refine cW_cut (fun a' w' => ∃ b234 : Nat, ∃ x235 : Int, ∃ x236 : Int, ∃ x237 : Int, ∃ x238 : Int, ∃ x240 : Bool, (x235, x236, x237, x238, x240) = s248 ∧ Fr 86 [(2, .pointer (some ⟨b1, 0, none⟩)), (4, .pointer (some ⟨b14, 0, none⟩)), (9, .int .i64 (wr (Int.tdiv (wr ((wr (y22 + p1_4)) - p0_4)) 2))), (10, .int .i64 (wr (y22 - (wr (Int.tdiv (wr ((wr (y22 + p1_4)) - p0_4)) 2))))), (12, .pointer (some ⟨b234, 0, none⟩)), (13, .bool (x240))] a' ∧ Cl w' b1 27 [.int .i64 (p0_0), .int .i64 (p0_1), .int .i64 (p0_2), .int .i64 (p0_3), .int .i64 (p0_4)] ∧ Cl w' b14 27 [.int .i64 (0), .int .i64 (0), .int .i64 (0), .int .i64 (0), .int .i64 (0)] ∧ Cl w' b234 25 [.int .i64 (x235), .int .i64 (x236), .int .i64 (x237), .int .i64 (x238)] ∧ w0.heap.size ≤ b234 ∧ Dj [b1] [b234] ∧ Dj [b14] [b234] ∧ Chg [] w0 w' ∧ w0.heap.size ≤ w'.heap.size) ?_ ?_
      · have hm := hs249
        refine cW_drawnTail [] 14 (by kernel_rfl) (by kernel_rfl) (fun w250 hc251 => ?_)
        replace F4 := F4.chg hc251 notNil
        replace F10 := F10.chg hc251 notNil
        replace F17 := F17.chg hc251 notNil
        replace hB := hB.inS hc251 inNil
        replace hZ := Nat.le_trans hZ hc251.size
        have hS := Chg.refl [] w250
        have Z252 := F4
        have Z253 := F10
        have Z254 := F17
        refine wH_take [0] [0] [(58, .pointer (some ⟨b1, 0, none⟩))] (by kernel_rfl) (qT (qT (qT qZ))) (by kernel_rfl) ?_
        refine wH_loadA (i := 1) (d := 59) (T := 25) (ad := ⟨b1, 0, none⟩) (vs := [.int .i64 (p0_0), .int .i64 (p0_1), .int .i64 (p0_2), .int .i64 (p0_3)]) (by kernel_rfl) (qT (qT (qT qZ))) (by kernel_rfl) (by kernel_rfl) vt25 (fun W hW i u hu => box_cells (Z252.chg hW notNil) 0 hu (by rfl)) ?_
        refine wH_take [2, 4] [4, 2, 1, 0] [(62, .pointer (some ⟨b7, 0, none⟩)), (60, .int .i64 (wr (Int.tdiv (wr ((wr (y22 + p1_4)) - p0_4)) 2)))] (by kernel_rfl) (qT (qT (qT qZ))) (by kernel_rfl) ?_
        refine wH_loadA (i := 5) (d := 63) (T := 25) (ad := ⟨b7, 0, none⟩) (vs := [.int .i64 (p1_0), .int .i64 (p1_1), .int .i64 (p1_2), .int .i64 (p1_3)]) (by kernel_rfl) (qT (qT (qT qZ))) (by kernel_rfl) (by kernel_rfl) vt25 (fun W hW i u hu => box_cells (Z253.chg hW notNil) 0 hu (by rfl)) ?_
        refine wH_take [6] [6, 5, 4, 2, 1, 0] [(64, .int .i64 (wr (y22 - (wr (Int.tdiv (wr ((wr (y22 + p1_4)) - p0_4)) 2)))))] (by kernel_rfl) (qT (qT (qT qZ))) (by kernel_rfl) ?_
        refine wH_all [3, 12] (by rfl) (by kernel_rfl) (by simp) ⟨⟨by kernel_rfl, ?_⟩, ⟨by kernel_rfl, ?_⟩, trivial⟩
        · skip
          obtain ⟨y255, hy256, hm⟩ := bindE hm
          refine wS_calls (d := 61) (f := 78) (vs := [.agg #[.int .i64 (p0_0), .int .i64 (p0_1), .int .i64 (p0_2), .int .i64 (p0_3)], .int .i64 (wr (Int.tdiv (wr ((wr (y22 + p1_4)) - p0_4)) 2))]) (by kernel_rfl) ent78 (c_impl_Region_grown hy256) ?_
          rintro _ w257 ⟨rfl, hc258⟩
          replace F4 := F4.chg hc258 notNil
          replace F10 := F10.chg hc258 notNil
          replace F17 := F17.chg hc258 notNil
          replace hB := hB.inS hc258 inNil
          have hSz := hS
          replace hS := hS.inS hc258 inNil
          replace hZ := Nat.le_trans hZ hc258.size
          refine ⟨.agg #[.int .i64 (y255.1), .int .i64 (y255.2.1), .int .i64 (y255.2.2.1), .int .i64 (y255.2.2.2)], rfl, ?_⟩
          refine wS_end (by kernel_rfl) ?_
          refine eX_KH hS ?_
          refine wH_all [7, 12] (by rfl) (by kernel_rfl) (by simp) ⟨⟨by kernel_rfl, ?_⟩, ⟨by kernel_rfl, ?_⟩, trivial⟩
          · skip
            obtain ⟨y259, hy260, hm⟩ := bindE hm
            refine wS_calls (d := 65) (f := 78) (vs := [.agg #[.int .i64 (p1_0), .int .i64 (p1_1), .int .i64 (p1_2), .int .i64 (p1_3)], .int .i64 (wr (y22 - (wr (Int.tdiv (wr ((wr (y22 + p1_4)) - p0_4)) 2))))]) (by kernel_rfl) ent78 (c_impl_Region_grown hy260) ?_
            rintro _ w261 ⟨rfl, hc262⟩
            replace F4 := F4.chg hc262 notNil
            replace F10 := F10.chg hc262 notNil
            replace F17 := F17.chg hc262 notNil
            replace hB := hB.inS hc262 inNil
            have hSz := hS
            replace hS := hS.inS hc262 inNil
            replace hZ := Nat.le_trans hZ hc262.size
            refine ⟨.agg #[.int .i64 (y259.1), .int .i64 (y259.2.1), .int .i64 (y259.2.2.1), .int .i64 (y259.2.2.2)], rfl, ?_⟩
            refine wS_end (by kernel_rfl) ?_
            refine eX_KH hS ?_
            refine wH_all [8, 12] (by rfl) (by kernel_rfl) (by simp) ⟨⟨by kernel_rfl, ?_⟩, ⟨by kernel_rfl, ?_⟩, trivial⟩
            · skip
              obtain ⟨y263, hy264, hm⟩ := bindE hm
              refine wS_calls (d := 66) (f := 79) (vs := [.agg #[.int .i64 (y255.1), .int .i64 (y255.2.1), .int .i64 (y255.2.2.1), .int .i64 (y255.2.2.2)], .agg #[.int .i64 (y259.1), .int .i64 (y259.2.1), .int .i64 (y259.2.2.1), .int .i64 (y259.2.2.2)]]) (by kernel_rfl) ent79 (c_impl_Region_meet hy264) ?_
              rintro _ w265 ⟨rfl, hc266⟩
              replace F4 := F4.chg hc266 notNil
              replace F10 := F10.chg hc266 notNil
              replace F17 := F17.chg hc266 notNil
              replace hB := hB.inS hc266 inNil
              have hSz := hS
              replace hS := hS.inS hc266 inNil
              replace hZ := Nat.le_trans hZ hc266.size
              refine ⟨.tuple #[.agg #[.int .i64 (y263.1.1), .int .i64 (y263.1.2.1), .int .i64 (y263.1.2.2.1), .int .i64 (y263.1.2.2.2)], .bool (y263.2)], rfl, ?_⟩
              refine wS_end (by kernel_rfl) ?_
              refine eX_KH hS ?_
              refine wH_take [9, 10, 11] [11, 10, 9, 8, 7, 3, 6, 5, 4, 2, 1, 0] [(68, .bool (y263.2)), (67, .agg #[.int .i64 (y263.1.1), .int .i64 (y263.1.2.1), .int .i64 (y263.1.2.2.1), .int .i64 (y263.1.2.2.2)]), (57, .tuple #[.agg #[.int .i64 (y263.1.1), .int .i64 (y263.1.2.1), .int .i64 (y263.1.2.2.1), .int .i64 (y263.1.2.2.2)], .bool (y263.2)])] (by kernel_rfl) (qT (qT (qT qZ))) (by kernel_rfl) ?_
              refine wH_all [12] (by rfl) (by kernel_rfl) (by simp) ⟨⟨by kernel_rfl, ?_⟩, trivial⟩
              refine wS_alloc (d := 12) (T := 25) (z := .agg #[.int .i64 (0), .int .i64 (0), .int .i64 (0), .int .i64 (0)]) (by kernel_rfl) (by kernel_rfl) ?_
              intro b267 w268 G269 F270 hc271
              replace F270 : Cl w268 b267 25 [.int .i64 (0), .int .i64 (0), .int .i64 (0), .int .i64 (0)] := F270
              have D273 : Dj [b1] [b267] := Dj.of (lt1 F4.lt) (low1 G269)
              have D274 : Dj [b7] [b267] := Dj.of (lt1 F10.lt) (low1 G269)
              have D275 : Dj [b14] [b267] := Dj.of (lt1 F17.lt) (low1 G269)
              replace F4 := F4.chg hc271 notNil
              replace F10 := F10.chg hc271 notNil
              replace F17 := F17.chg hc271 notNil
              replace hB := hB.inS hc271 inNil
              have hSz := hS
              replace hS := hS.inS hc271 inNil
              have Gz276 := low1 (Nat.le_trans hSz.size G269)
              replace G269 := Nat.le_trans hZ G269
              replace hZ := Nat.le_trans hZ hc271.size
              refine wS_end (by kernel_rfl) ?_
              refine eX_KH hS ?_
              refine wH_all [13] (by rfl) (by kernel_rfl) (by simp) ⟨⟨by kernel_rfl, ?_⟩, trivial⟩
              refine wS_store (T := 25) (g := b267) (o := 0) (ad := ⟨b267, 0, none⟩) (v := .agg #[.int .i64 (y263.1.1), .int .i64 (y263.1.2.1), .int .i64 (y263.1.2.2.1), .int .i64 (y263.1.2.2.2)]) (vs := [.int .i64 (y263.1.1), .int .i64 (y263.1.2.1), .int .i64 (y263.1.2.2.1), .int .i64 (y263.1.2.2.2)]) (by kernel_rfl) (by rfl) sz25 (by rfl) (by rfl) F270 (by simp only [List.length_cons, List.length_nil]; omega) ?_
              intro w277 F278 hc279
              replace F4 := F4.chg hc279 (dj1 D273)
              replace F10 := F10.chg hc279 (dj1 D274)
              replace F17 := F17.chg hc279 (dj1 D275)
              replace hB := hB.inS hc279 (inLow (low1 G269))
              have hSz := hS
              replace hS := hS.inS hc279 (inLow Gz276)
              replace hZ := Nat.le_trans hZ hc279.size
              replace F278 : Cl w277 b267 25 [.int .i64 (y263.1.1), .int .i64 (y263.1.2.1), .int .i64 (y263.1.2.2.1), .int .i64 (y263.1.2.2.2)] := F278
              clear F270
              refine wS_end (by kernel_rfl) ?_
              refine eX_KH hS ?_
              refine wH_done (by kernel_rfl) ?_
              refine eX_tail ?_
              refine wS_pure 1 [(13, .bool (y263.2))] (by kernel_rfl) ?_
              refine wS_end (by rfl) ?_
              have hq : (some ((y263.1.1, y263.1.2.1, y263.1.2.2.1, y263.1.2.2.2, y263.2)) : Option (Int × Int × Int × Int × Bool)) = some _ := hm
              replace hq := someE hq
              subst hq
              exact eX_J (fun hst => ⟨b267, y263.1.1, y263.1.2.1, y263.1.2.2.1, y263.1.2.2.2, y263.2, rfl, Fr.of hst (by kernel_rfl), F4, F17, F278, G269, D273, D275, hB, hZ⟩)
            · skip
              refine wS_alloc (d := 12) (T := 25) (z := .agg #[.int .i64 (0), .int .i64 (0), .int .i64 (0), .int .i64 (0)]) (by kernel_rfl) (by kernel_rfl) ?_
              intro b280 w281 G282 F283 hc284
              replace F283 : Cl w281 b280 25 [.int .i64 (0), .int .i64 (0), .int .i64 (0), .int .i64 (0)] := F283
              have D286 : Dj [b1] [b280] := Dj.of (lt1 F4.lt) (low1 G282)
              have D287 : Dj [b7] [b280] := Dj.of (lt1 F10.lt) (low1 G282)
              have D288 : Dj [b14] [b280] := Dj.of (lt1 F17.lt) (low1 G282)
              replace F4 := F4.chg hc284 notNil
              replace F10 := F10.chg hc284 notNil
              replace F17 := F17.chg hc284 notNil
              replace hB := hB.inS hc284 inNil
              have hSz := hS
              replace hS := hS.inS hc284 inNil
              have Gz289 := low1 (Nat.le_trans hSz.size G282)
              replace G282 := Nat.le_trans hZ G282
              replace hZ := Nat.le_trans hZ hc284.size
              refine wS_end (by kernel_rfl) ?_
              refine eX_KH hS ?_
              refine wH_all [8] (by rfl) (by kernel_rfl) (by simp) ⟨⟨by kernel_rfl, ?_⟩, trivial⟩
              obtain ⟨y290, hy291, hm⟩ := bindE hm
              refine wS_calls (d := 66) (f := 79) (vs := [.agg #[.int .i64 (y255.1), .int .i64 (y255.2.1), .int .i64 (y255.2.2.1), .int .i64 (y255.2.2.2)], .agg #[.int .i64 (y259.1), .int .i64 (y259.2.1), .int .i64 (y259.2.2.1), .int .i64 (y259.2.2.2)]]) (by kernel_rfl) ent79 (c_impl_Region_meet hy291) ?_
              rintro _ w292 ⟨rfl, hc293⟩
              replace F4 := F4.chg hc293 notNil
              replace F10 := F10.chg hc293 notNil
              replace F17 := F17.chg hc293 notNil
              replace F283 := F283.chg hc293 notNil
              replace hB := hB.inS hc293 inNil
              have hSz := hS
              replace hS := hS.inS hc293 inNil
              replace hZ := Nat.le_trans hZ hc293.size
              refine ⟨.tuple #[.agg #[.int .i64 (y290.1.1), .int .i64 (y290.1.2.1), .int .i64 (y290.1.2.2.1), .int .i64 (y290.1.2.2.2)], .bool (y290.2)], rfl, ?_⟩
              refine wS_end (by kernel_rfl) ?_
              refine eX_KH hS ?_
              refine wH_take [9, 10, 11] [11, 10, 9, 8, 12, 7, 3, 6, 5, 4, 2, 1, 0] [(68, .bool (y290.2)), (67, .agg #[.int .i64 (y290.1.1), .int .i64 (y290.1.2.1), .int .i64 (y290.1.2.2.1), .int .i64 (y290.1.2.2.2)]), (57, .tuple #[.agg #[.int .i64 (y290.1.1), .int .i64 (y290.1.2.1), .int .i64 (y290.1.2.2.1), .int .i64 (y290.1.2.2.2)], .bool (y290.2)])] (by kernel_rfl) (qT (qT (qT qZ))) (by kernel_rfl) ?_
              refine wH_all [13] (by rfl) (by kernel_rfl) (by simp) ⟨⟨by kernel_rfl, ?_⟩, trivial⟩
              refine wS_store (T := 25) (g := b280) (o := 0) (ad := ⟨b280, 0, none⟩) (v := .agg #[.int .i64 (y290.1.1), .int .i64 (y290.1.2.1), .int .i64 (y290.1.2.2.1), .int .i64 (y290.1.2.2.2)]) (vs := [.int .i64 (y290.1.1), .int .i64 (y290.1.2.1), .int .i64 (y290.1.2.2.1), .int .i64 (y290.1.2.2.2)]) (by kernel_rfl) (by rfl) sz25 (by rfl) (by rfl) F283 (by simp only [List.length_cons, List.length_nil]; omega) ?_
              intro w294 F295 hc296
              replace F4 := F4.chg hc296 (dj1 D286)
              replace F10 := F10.chg hc296 (dj1 D287)
              replace F17 := F17.chg hc296 (dj1 D288)
              replace hB := hB.inS hc296 (inLow (low1 G282))
              have hSz := hS
              replace hS := hS.inS hc296 (inLow Gz289)
              replace hZ := Nat.le_trans hZ hc296.size
              replace F295 : Cl w294 b280 25 [.int .i64 (y290.1.1), .int .i64 (y290.1.2.1), .int .i64 (y290.1.2.2.1), .int .i64 (y290.1.2.2.2)] := F295
              clear F283
              refine wS_end (by kernel_rfl) ?_
              refine eX_KH hS ?_
              refine wH_done (by kernel_rfl) ?_
              refine eX_tail ?_
              refine wS_pure 1 [(13, .bool (y290.2))] (by kernel_rfl) ?_
              refine wS_end (by rfl) ?_
              have hq : (some ((y290.1.1, y290.1.2.1, y290.1.2.2.1, y290.1.2.2.2, y290.2)) : Option (Int × Int × Int × Int × Bool)) = some _ := hm
              replace hq := someE hq
              subst hq
              exact eX_J (fun hst => ⟨b280, y290.1.1, y290.1.2.1, y290.1.2.2.1, y290.1.2.2.2, y290.2, rfl, Fr.of hst (by kernel_rfl), F4, F17, F295, G282, D286, D288, hB, hZ⟩)
          · skip
            refine wS_alloc (d := 12) (T := 25) (z := .agg #[.int .i64 (0), .int .i64 (0), .int .i64 (0), .int .i64 (0)]) (by kernel_rfl) (by kernel_rfl) ?_
            intro b297 w298 G299 F300 hc301
            replace F300 : Cl w298 b297 25 [.int .i64 (0), .int .i64 (0), .int .i64 (0), .int .i64 (0)] := F300
            have D303 : Dj [b1] [b297] := Dj.of (lt1 F4.lt) (low1 G299)
            have D304 : Dj [b7] [b297] := Dj.of (lt1 F10.lt) (low1 G299)
            have D305 : Dj [b14] [b297] := Dj.of (lt1 F17.lt) (low1 G299)
            replace F4 := F4.chg hc301 notNil
            replace F10 := F10.chg hc301 notNil
            replace F17 := F17.chg hc301 notNil
            replace hB := hB.inS hc301 inNil
            have hSz := hS
            replace hS := hS.inS hc301 inNil
            have Gz306 := low1 (Nat.le_trans hSz.size G299)
            replace G299 := Nat.le_trans hZ G299
            replace hZ := Nat.le_trans hZ hc301.size
            refine wS_end (by kernel_rfl) ?_
            refine eX_KH hS ?_
            refine wH_all [7] (by rfl) (by kernel_rfl) (by simp) ⟨⟨by kernel_rfl, ?_⟩, trivial⟩
            obtain ⟨y307, hy308, hm⟩ := bindE hm
            refine wS_calls (d := 65) (f := 78) (vs := [.agg #[.int .i64 (p1_0), .int .i64 (p1_1), .int .i64 (p1_2), .int .i64 (p1_3)], .int .i64 (wr (y22 - (wr (Int.tdiv (wr ((wr (y22 + p1_4)) - p0_4)) 2))))]) (by kernel_rfl) ent78 (c_impl_Region_grown hy308) ?_
            rintro _ w309 ⟨rfl, hc310⟩
            replace F4 := F4.chg hc310 notNil
            replace F10 := F10.chg hc310 notNil
            replace F17 := F17.chg hc310 notNil
            replace F300 := F300.chg hc310 notNil
            replace hB := hB.inS hc310 inNil
            have hSz := hS
            replace hS := hS.inS hc310 inNil
            replace hZ := Nat.le_trans hZ hc310.size
            refine ⟨.agg #[.int .i64 (y307.1), .int .i64 (y307.2.1), .int .i64 (y307.2.2.1), .int .i64 (y307.2.2.2)], rfl, ?_⟩
            refine wS_end (by kernel_rfl) ?_
            refine eX_KH hS ?_
            refine wH_all [8] (by rfl) (by kernel_rfl) (by simp) ⟨⟨by kernel_rfl, ?_⟩, trivial⟩
            obtain ⟨y311, hy312, hm⟩ := bindE hm
            refine wS_calls (d := 66) (f := 79) (vs := [.agg #[.int .i64 (y255.1), .int .i64 (y255.2.1), .int .i64 (y255.2.2.1), .int .i64 (y255.2.2.2)], .agg #[.int .i64 (y307.1), .int .i64 (y307.2.1), .int .i64 (y307.2.2.1), .int .i64 (y307.2.2.2)]]) (by kernel_rfl) ent79 (c_impl_Region_meet hy312) ?_
            rintro _ w313 ⟨rfl, hc314⟩
            replace F4 := F4.chg hc314 notNil
            replace F10 := F10.chg hc314 notNil
            replace F17 := F17.chg hc314 notNil
            replace F300 := F300.chg hc314 notNil
            replace hB := hB.inS hc314 inNil
            have hSz := hS
            replace hS := hS.inS hc314 inNil
            replace hZ := Nat.le_trans hZ hc314.size
            refine ⟨.tuple #[.agg #[.int .i64 (y311.1.1), .int .i64 (y311.1.2.1), .int .i64 (y311.1.2.2.1), .int .i64 (y311.1.2.2.2)], .bool (y311.2)], rfl, ?_⟩
            refine wS_end (by kernel_rfl) ?_
            refine eX_KH hS ?_
            refine wH_take [9, 10, 11] [11, 10, 9, 8, 7, 12, 3, 6, 5, 4, 2, 1, 0] [(68, .bool (y311.2)), (67, .agg #[.int .i64 (y311.1.1), .int .i64 (y311.1.2.1), .int .i64 (y311.1.2.2.1), .int .i64 (y311.1.2.2.2)]), (57, .tuple #[.agg #[.int .i64 (y311.1.1), .int .i64 (y311.1.2.1), .int .i64 (y311.1.2.2.1), .int .i64 (y311.1.2.2.2)], .bool (y311.2)])] (by kernel_rfl) (qT (qT (qT qZ))) (by kernel_rfl) ?_
            refine wH_all [13] (by rfl) (by kernel_rfl) (by simp) ⟨⟨by kernel_rfl, ?_⟩, trivial⟩
            refine wS_store (T := 25) (g := b297) (o := 0) (ad := ⟨b297, 0, none⟩) (v := .agg #[.int .i64 (y311.1.1), .int .i64 (y311.1.2.1), .int .i64 (y311.1.2.2.1), .int .i64 (y311.1.2.2.2)]) (vs := [.int .i64 (y311.1.1), .int .i64 (y311.1.2.1), .int .i64 (y311.1.2.2.1), .int .i64 (y311.1.2.2.2)]) (by kernel_rfl) (by rfl) sz25 (by rfl) (by rfl) F300 (by simp only [List.length_cons, List.length_nil]; omega) ?_
            intro w315 F316 hc317
            replace F4 := F4.chg hc317 (dj1 D303)
            replace F10 := F10.chg hc317 (dj1 D304)
            replace F17 := F17.chg hc317 (dj1 D305)
            replace hB := hB.inS hc317 (inLow (low1 G299))
            have hSz := hS
            replace hS := hS.inS hc317 (inLow Gz306)
            replace hZ := Nat.le_trans hZ hc317.size
            replace F316 : Cl w315 b297 25 [.int .i64 (y311.1.1), .int .i64 (y311.1.2.1), .int .i64 (y311.1.2.2.1), .int .i64 (y311.1.2.2.2)] := F316
            clear F300
            refine wS_end (by kernel_rfl) ?_
            refine eX_KH hS ?_
            refine wH_done (by kernel_rfl) ?_
            refine eX_tail ?_
            refine wS_pure 1 [(13, .bool (y311.2))] (by kernel_rfl) ?_
            refine wS_end (by rfl) ?_
            have hq : (some ((y311.1.1, y311.1.2.1, y311.1.2.2.1, y311.1.2.2.2, y311.2)) : Option (Int × Int × Int × Int × Bool)) = some _ := hm
            replace hq := someE hq
            subst hq
            exact eX_J (fun hst => ⟨b297, y311.1.1, y311.1.2.1, y311.1.2.2.1, y311.1.2.2.2, y311.2, rfl, Fr.of hst (by kernel_rfl), F4, F17, F316, G299, D303, D305, hB, hZ⟩)
        · skip
          refine wS_alloc (d := 12) (T := 25) (z := .agg #[.int .i64 (0), .int .i64 (0), .int .i64 (0), .int .i64 (0)]) (by kernel_rfl) (by kernel_rfl) ?_
          intro b318 w319 G320 F321 hc322
          replace F321 : Cl w319 b318 25 [.int .i64 (0), .int .i64 (0), .int .i64 (0), .int .i64 (0)] := F321
          have D324 : Dj [b1] [b318] := Dj.of (lt1 F4.lt) (low1 G320)
          have D325 : Dj [b7] [b318] := Dj.of (lt1 F10.lt) (low1 G320)
          have D326 : Dj [b14] [b318] := Dj.of (lt1 F17.lt) (low1 G320)
          replace F4 := F4.chg hc322 notNil
          replace F10 := F10.chg hc322 notNil
          replace F17 := F17.chg hc322 notNil
          replace hB := hB.inS hc322 inNil
          have hSz := hS
          replace hS := hS.inS hc322 inNil
          have Gz327 := low1 (Nat.le_trans hSz.size G320)
          replace G320 := Nat.le_trans hZ G320
          replace hZ := Nat.le_trans hZ hc322.size
          refine wS_end (by kernel_rfl) ?_
          refine eX_KH hS ?_
          refine wH_all [3] (by rfl) (by kernel_rfl) (by simp) ⟨⟨by kernel_rfl, ?_⟩, trivial⟩
          obtain ⟨y328, hy329, hm⟩ := bindE hm
          refine wS_calls (d := 61) (f := 78) (vs := [.agg #[.int .i64 (p0_0), .int .i64 (p0_1), .int .i64 (p0_2), .int .i64 (p0_3)], .int .i64 (wr (Int.tdiv (wr ((wr (y22 + p1_4)) - p0_4)) 2))]) (by kernel_rfl) ent78 (c_impl_Region_grown hy329) ?_
          rintro _ w330 ⟨rfl, hc331⟩
          replace F4 := F4.chg hc331 notNil
          replace F10 := F10.chg hc331 notNil
          replace F17 := F17.chg hc331 notNil
          replace F321 := F321.chg hc331 notNil
          replace hB := hB.inS hc331 inNil
          have hSz := hS
          replace hS := hS.inS hc331 inNil
          replace hZ := Nat.le_trans hZ hc331.size
          refine ⟨.agg #[.int .i64 (y328.1), .int .i64 (y328.2.1), .int .i64 (y328.2.2.1), .int .i64 (y328.2.2.2)], rfl, ?_⟩
          refine wS_end (by kernel_rfl) ?_
          refine eX_KH hS ?_
          refine wH_all [7] (by rfl) (by kernel_rfl) (by simp) ⟨⟨by kernel_rfl, ?_⟩, trivial⟩
          obtain ⟨y332, hy333, hm⟩ := bindE hm
          refine wS_calls (d := 65) (f := 78) (vs := [.agg #[.int .i64 (p1_0), .int .i64 (p1_1), .int .i64 (p1_2), .int .i64 (p1_3)], .int .i64 (wr (y22 - (wr (Int.tdiv (wr ((wr (y22 + p1_4)) - p0_4)) 2))))]) (by kernel_rfl) ent78 (c_impl_Region_grown hy333) ?_
          rintro _ w334 ⟨rfl, hc335⟩
          replace F4 := F4.chg hc335 notNil
          replace F10 := F10.chg hc335 notNil
          replace F17 := F17.chg hc335 notNil
          replace F321 := F321.chg hc335 notNil
          replace hB := hB.inS hc335 inNil
          have hSz := hS
          replace hS := hS.inS hc335 inNil
          replace hZ := Nat.le_trans hZ hc335.size
          refine ⟨.agg #[.int .i64 (y332.1), .int .i64 (y332.2.1), .int .i64 (y332.2.2.1), .int .i64 (y332.2.2.2)], rfl, ?_⟩
          refine wS_end (by kernel_rfl) ?_
          refine eX_KH hS ?_
          refine wH_all [8] (by rfl) (by kernel_rfl) (by simp) ⟨⟨by kernel_rfl, ?_⟩, trivial⟩
          obtain ⟨y336, hy337, hm⟩ := bindE hm
          refine wS_calls (d := 66) (f := 79) (vs := [.agg #[.int .i64 (y328.1), .int .i64 (y328.2.1), .int .i64 (y328.2.2.1), .int .i64 (y328.2.2.2)], .agg #[.int .i64 (y332.1), .int .i64 (y332.2.1), .int .i64 (y332.2.2.1), .int .i64 (y332.2.2.2)]]) (by kernel_rfl) ent79 (c_impl_Region_meet hy337) ?_
          rintro _ w338 ⟨rfl, hc339⟩
          replace F4 := F4.chg hc339 notNil
          replace F10 := F10.chg hc339 notNil
          replace F17 := F17.chg hc339 notNil
          replace F321 := F321.chg hc339 notNil
          replace hB := hB.inS hc339 inNil
          have hSz := hS
          replace hS := hS.inS hc339 inNil
          replace hZ := Nat.le_trans hZ hc339.size
          refine ⟨.tuple #[.agg #[.int .i64 (y336.1.1), .int .i64 (y336.1.2.1), .int .i64 (y336.1.2.2.1), .int .i64 (y336.1.2.2.2)], .bool (y336.2)], rfl, ?_⟩
          refine wS_end (by kernel_rfl) ?_
          refine eX_KH hS ?_
          refine wH_take [9, 10, 11] [11, 10, 9, 8, 7, 3, 12, 6, 5, 4, 2, 1, 0] [(68, .bool (y336.2)), (67, .agg #[.int .i64 (y336.1.1), .int .i64 (y336.1.2.1), .int .i64 (y336.1.2.2.1), .int .i64 (y336.1.2.2.2)]), (57, .tuple #[.agg #[.int .i64 (y336.1.1), .int .i64 (y336.1.2.1), .int .i64 (y336.1.2.2.1), .int .i64 (y336.1.2.2.2)], .bool (y336.2)])] (by kernel_rfl) (qT (qT (qT qZ))) (by kernel_rfl) ?_
          refine wH_all [13] (by rfl) (by kernel_rfl) (by simp) ⟨⟨by kernel_rfl, ?_⟩, trivial⟩
          refine wS_store (T := 25) (g := b318) (o := 0) (ad := ⟨b318, 0, none⟩) (v := .agg #[.int .i64 (y336.1.1), .int .i64 (y336.1.2.1), .int .i64 (y336.1.2.2.1), .int .i64 (y336.1.2.2.2)]) (vs := [.int .i64 (y336.1.1), .int .i64 (y336.1.2.1), .int .i64 (y336.1.2.2.1), .int .i64 (y336.1.2.2.2)]) (by kernel_rfl) (by rfl) sz25 (by rfl) (by rfl) F321 (by simp only [List.length_cons, List.length_nil]; omega) ?_
          intro w340 F341 hc342
          replace F4 := F4.chg hc342 (dj1 D324)
          replace F10 := F10.chg hc342 (dj1 D325)
          replace F17 := F17.chg hc342 (dj1 D326)
          replace hB := hB.inS hc342 (inLow (low1 G320))
          have hSz := hS
          replace hS := hS.inS hc342 (inLow Gz327)
          replace hZ := Nat.le_trans hZ hc342.size
          replace F341 : Cl w340 b318 25 [.int .i64 (y336.1.1), .int .i64 (y336.1.2.1), .int .i64 (y336.1.2.2.1), .int .i64 (y336.1.2.2.2)] := F341
          clear F321
          refine wS_end (by kernel_rfl) ?_
          refine eX_KH hS ?_
          refine wH_done (by kernel_rfl) ?_
          refine eX_tail ?_
          refine wS_pure 1 [(13, .bool (y336.2))] (by kernel_rfl) ?_
          refine wS_end (by rfl) ?_
          have hq : (some ((y336.1.1, y336.1.2.1, y336.1.2.2.1, y336.1.2.2.2, y336.2)) : Option (Int × Int × Int × Int × Bool)) = some _ := hm
          replace hq := someE hq
          subst hq
          exact eX_J (fun hst => ⟨b318, y336.1.1, y336.1.2.1, y336.1.2.2.1, y336.1.2.2.2, y336.2, rfl, Fr.of hst (by kernel_rfl), F4, F17, F341, G320, D324, D326, hB, hZ⟩)
      · rintro a' w233 ⟨b234, x235, x236, x237, x238, x240, hJ, hF241, F242, F243, F244, G245, D246, D247, hB, hZ⟩
        subst hJ
        refine Fr.goX hF241 (by kernel_rfl) ?_
        refine eX_then ?_
        refine cW_seq ?_
        refine cW_region ?_
        refine wS_loadA (d := 69) (T := 25) (ad := ⟨b234, 0, none⟩) (vs := [.int .i64 (x235), .int .i64 (x236), .int .i64 (x237), .int .i64 (x238)]) (by kernel_rfl) vt25 (fun i u hu => box_cells F244 0 hu (by rfl)) ?_
        refine wS_pure 1 [(70, .pointer (some ⟨b1, 4, none⟩))] (by kernel_rfl) ?_
        refine wS_load1 (d := 71) (T := 2) (ad := ⟨b1, 4, none⟩) (v := .int .i64 (p0_4)) (by kernel_rfl) vt2 ((F242).cell 4) ?_
        refine wS_pure 3 [(74, .agg #[.int .i64 (x235), .int .i64 (x236), .int .i64 (x237), .int .i64 (x238), .int .i64 (wr (p0_4 + (wr (Int.tdiv (wr ((wr (y22 + p1_4)) - p0_4)) 2))))]), (73, .int .i64 (wr (p0_4 + (wr (Int.tdiv (wr ((wr (y22 + p1_4)) - p0_4)) 2))))), (72, .int .i64 (wr (Int.tdiv (wr ((wr (y22 + p1_4)) - p0_4)) 2)))] (by kernel_rfl) ?_
        refine wS_alloc (d := 14) (T := 27) (z := .agg #[.int .i64 (0), .int .i64 (0), .int .i64 (0), .int .i64 (0), .int .i64 (0)]) (by kernel_rfl) (by kernel_rfl) ?_
        intro b343 w344 G345 F346 hc347
        replace F346 : Cl w344 b343 27 [.int .i64 (0), .int .i64 (0), .int .i64 (0), .int .i64 (0), .int .i64 (0)] := F346
        have D349 : Dj [b1] [b343] := Dj.of (lt1 F242.lt) (low1 G345)
        have D350 : Dj [b14] [b343] := Dj.of (lt1 F243.lt) (low1 G345)
        have D351 : Dj [b234] [b343] := Dj.of (lt1 F244.lt) (low1 G345)
        replace F242 := F242.chg hc347 notNil
        replace F243 := F243.chg hc347 notNil
        replace F244 := F244.chg hc347 notNil
        replace hB := hB.inS hc347 inNil
        replace G345 := Nat.le_trans hZ G345
        replace hZ := Nat.le_trans hZ hc347.size
        refine wS_store (T := 27) (g := b343) (o := 0) (ad := ⟨b343, 0, none⟩) (v := .agg #[.int .i64 (x235), .int .i64 (x236), .int .i64 (x237), .int .i64 (x238), .int .i64 (wr (p0_4 + (wr (Int.tdiv (wr ((wr (y22 + p1_4)) - p0_4)) 2))))]) (vs := [.int .i64 (x235), .int .i64 (x236), .int .i64 (x237), .int .i64 (x238), .int .i64 (wr (p0_4 + (wr (Int.tdiv (wr ((wr (y22 + p1_4)) - p0_4)) 2))))]) (by kernel_rfl) (by rfl) sz27 (by rfl) (by rfl) F346 (by simp only [List.length_cons, List.length_nil]; omega) ?_
        intro w352 F353 hc354
        replace F242 := F242.chg hc354 (dj1 D349)
        replace F243 := F243.chg hc354 (dj1 D350)
        replace F244 := F244.chg hc354 (dj1 D351)
        replace hB := hB.inS hc354 (inLow (low1 G345))
        replace hZ := Nat.le_trans hZ hc354.size
        replace F353 : Cl w352 b343 27 [.int .i64 (x235), .int .i64 (x236), .int .i64 (x237), .int .i64 (x238), .int .i64 (wr (p0_4 + (wr (Int.tdiv (wr ((wr (y22 + p1_4)) - p0_4)) 2))))] := F353
        clear F346
        refine wS_end (by rfl) ?_
        refine eX_then ?_
        refine cW_seq ?_
        refine cW_seq ?_
        refine cW_region ?_
        refine wS_pure 3 [(77, .bool (!x240)), (76, .bool (!x240)), (75, .bool (x240))] (by kernel_rfl) ?_
        refine wS_bool (!x240) (fun hb355 => ?_) (fun hb355 => ?_)
        · have hm := condT hb355 hm
          rewrite [hb355]
          refine wS_pure 4 [(81, .bool (true)), (80, undef), (79, undef), (78, undef)] (by kernel_rfl) ?_
          refine wS_end (by rfl) ?_
          refine eX_then ?_
          refine cW_cond_t (by kernel_rfl) ?_
          refine cW_seq ?_
          refine cW_region ?_
          refine wS_pure 1 [(82, .agg #[.int .i64 (0), .int .i64 (0), .int .i64 (0), .int .i64 (0), .int .i64 (0)])] (by kernel_rfl) ?_
          refine wS_store (T := 27) (g := b14) (o := 0) (ad := ⟨b14, 0, none⟩) (v := .agg #[.int .i64 (0), .int .i64 (0), .int .i64 (0), .int .i64 (0), .int .i64 (0)]) (vs := [.int .i64 (0), .int .i64 (0), .int .i64 (0), .int .i64 (0), .int .i64 (0)]) (by kernel_rfl) (by rfl) sz27 (by rfl) (by rfl) F243 (by simp only [List.length_cons, List.length_nil]; omega) ?_
          intro w356 F357 hc358
          replace F242 := F242.chg hc358 (dj1 D20)
          replace F244 := F244.chg hc358 (dj1 (D247).symm)
          replace F353 := F353.chg hc358 (dj1 (D350).symm)
          replace hB := hB.inS hc358 (inLow (low1 G16))
          replace hZ := Nat.le_trans hZ hc358.size
          replace F357 : Cl w356 b14 27 [.int .i64 (0), .int .i64 (0), .int .i64 (0), .int .i64 (0), .int .i64 (0)] := F357
          clear F243
          refine wS_pure 3 [(7, .bool (false)), (6, .int .i64 (0)), (5, .int .i64 (0))] (by kernel_rfl) ?_
          refine wS_end (by rfl) ?_
          refine eX_then ?_
          refine cW_prune [(4, .pointer (some ⟨b14, 0, none⟩)), (5, .int .i64 (0)), (6, .int .i64 (0)), (7, .bool (false))] (by kernel_rfl) (by kernel_rfl) (fun a359 => ?_)
          refine cW_ret ?_
          refine eX_then_ret ?_
          have hq : (some (((0, 0, 0, 0, 0), 0, 0, false)) : Option ((Int × Int × Int × Int × Int) × (Int) × (Int) × (Bool))) = some _ := hm
          replace hq := someE hq
          subst hq
          refine eX_ret (vs := [.agg #[.int .i64 (0), .int .i64 (0), .int .i64 (0), .int .i64 (0), .int .i64 (0)], .int .i64 (0), .int .i64 (0), .bool (false)]) [.cell 4 27, .tmp 5, .tmp 6, .tmp 7] (by rfl) ⟨⟨⟨b14, 0, none⟩, by kernel_rfl, run_loadVarA (vs := [.int .i64 (0), .int .i64 (0), .int .i64 (0), .int .i64 (0), .int .i64 (0)]) vt27 (fun i u hu => by exact box_cells F357 0 hu (by rfl))⟩, ⟨by (show lkE _ _ _ = _); kernel_rfl, ⟨by (show lkE _ _ _ = _); kernel_rfl, ⟨by (show lkE _ _ _ = _); kernel_rfl, trivial⟩⟩⟩⟩ ?_
          exact ⟨rfl, hB⟩
        · have hm := condF hb355 hm
          rewrite [hb355]
          refine wS_loadA (d := 78) (T := 27) (ad := ⟨b343, 0, none⟩) (vs := [.int .i64 (x235), .int .i64 (x236), .int .i64 (x237), .int .i64 (x238), .int .i64 (wr (p0_4 + (wr (Int.tdiv (wr ((wr (y22 + p1_4)) - p0_4)) 2))))]) (by kernel_rfl) vt27 (fun i u hu => box_cells F353 0 hu (by rfl)) ?_
          obtain ⟨y360, hy361, hm⟩ := bindE hm
          refine wS_calls (d := 79) (f := 75) (vs := [.agg #[.int .i64 (x235), .int .i64 (x236), .int .i64 (x237), .int .i64 (x238), .int .i64 (wr (p0_4 + (wr (Int.tdiv (wr ((wr (y22 + p1_4)) - p0_4)) 2))))]]) (by kernel_rfl) ent75 (c_impl_mergeOk hy361) ?_
          rintro _ w362 ⟨rfl, hc363⟩
          replace F242 := F242.chg hc363 notNil
          replace F243 := F243.chg hc363 notNil
          replace F244 := F244.chg hc363 notNil
          replace F353 := F353.chg hc363 notNil
          replace hB := hB.inS hc363 inNil
          replace hZ := Nat.le_trans hZ hc363.size
          refine ⟨.bool (y360), rfl, ?_⟩
          refine wS_pure 2 [(81, .bool (!y360)), (80, .bool (!y360))] (by kernel_rfl) ?_
          refine wS_end (by rfl) ?_
          refine eX_then ?_
          refine cW_cond (t := !y360) (by kernel_rfl) (fun hb364 => ?_) (fun hb364 => ?_)
          · have hm := condT hb364 hm
            refine cW_seq ?_
            refine cW_region ?_
            refine wS_pure 1 [(82, .agg #[.int .i64 (0), .int .i64 (0), .int .i64 (0), .int .i64 (0), .int .i64 (0)])] (by kernel_rfl) ?_
            refine wS_store (T := 27) (g := b14) (o := 0) (ad := ⟨b14, 0, none⟩) (v := .agg #[.int .i64 (0), .int .i64 (0), .int .i64 (0), .int .i64 (0), .int .i64 (0)]) (vs := [.int .i64 (0), .int .i64 (0), .int .i64 (0), .int .i64 (0), .int .i64 (0)]) (by kernel_rfl) (by rfl) sz27 (by rfl) (by rfl) F243 (by simp only [List.length_cons, List.length_nil]; omega) ?_
            intro w365 F366 hc367
            replace F242 := F242.chg hc367 (dj1 D20)
            replace F244 := F244.chg hc367 (dj1 (D247).symm)
            replace F353 := F353.chg hc367 (dj1 (D350).symm)
            replace hB := hB.inS hc367 (inLow (low1 G16))
            replace hZ := Nat.le_trans hZ hc367.size
            replace F366 : Cl w365 b14 27 [.int .i64 (0), .int .i64 (0), .int .i64 (0), .int .i64 (0), .int .i64 (0)] := F366
            clear F243
            refine wS_pure 3 [(7, .bool (false)), (6, .int .i64 (0)), (5, .int .i64 (0))] (by kernel_rfl) ?_
            refine wS_end (by rfl) ?_
            refine eX_then ?_
            refine cW_prune [(4, .pointer (some ⟨b14, 0, none⟩)), (5, .int .i64 (0)), (6, .int .i64 (0)), (7, .bool (false))] (by kernel_rfl) (by kernel_rfl) (fun a368 => ?_)
            refine cW_ret ?_
            refine eX_then_ret ?_
            have hq : (some (((0, 0, 0, 0, 0), 0, 0, false)) : Option ((Int × Int × Int × Int × Int) × (Int) × (Int) × (Bool))) = some _ := hm
            replace hq := someE hq
            subst hq
            refine eX_ret (vs := [.agg #[.int .i64 (0), .int .i64 (0), .int .i64 (0), .int .i64 (0), .int .i64 (0)], .int .i64 (0), .int .i64 (0), .bool (false)]) [.cell 4 27, .tmp 5, .tmp 6, .tmp 7] (by rfl) ⟨⟨⟨b14, 0, none⟩, by kernel_rfl, run_loadVarA (vs := [.int .i64 (0), .int .i64 (0), .int .i64 (0), .int .i64 (0), .int .i64 (0)]) vt27 (fun i u hu => by exact box_cells F366 0 hu (by rfl))⟩, ⟨by (show lkE _ _ _ = _); kernel_rfl, ⟨by (show lkE _ _ _ = _); kernel_rfl, ⟨by (show lkE _ _ _ = _); kernel_rfl, trivial⟩⟩⟩⟩ ?_
            exact ⟨rfl, hB⟩
          · have hm := condF hb364 hm
            refine cW_skip ?_
            refine eX_then ?_
            refine cW_seq ?_
            refine cW_region ?_
            refine wS_loadA (d := 83) (T := 27) (ad := ⟨b343, 0, none⟩) (vs := [.int .i64 (x235), .int .i64 (x236), .int .i64 (x237), .int .i64 (x238), .int .i64 (wr (p0_4 + (wr (Int.tdiv (wr ((wr (y22 + p1_4)) - p0_4)) 2))))]) (by kernel_rfl) vt27 (fun i u hu => box_cells F353 0 hu (by rfl)) ?_
            refine wS_pure 2 [(85, .int .i64 (wr (y22 - (wr (Int.tdiv (wr ((wr (y22 + p1_4)) - p0_4)) 2))))), (84, .int .i64 (wr (Int.tdiv (wr ((wr (y22 + p1_4)) - p0_4)) 2)))] (by kernel_rfl) ?_
            refine wS_store (T := 27) (g := b14) (o := 0) (ad := ⟨b14, 0, none⟩) (v := .agg #[.int .i64 (x235), .int .i64 (x236), .int .i64 (x237), .int .i64 (x238), .int .i64 (wr (p0_4 + (wr (Int.tdiv (wr ((wr (y22 + p1_4)) - p0_4)) 2))))]) (vs := [.int .i64 (x235), .int .i64 (x236), .int .i64 (x237), .int .i64 (x238), .int .i64 (wr (p0_4 + (wr (Int.tdiv (wr ((wr (y22 + p1_4)) - p0_4)) 2))))]) (by kernel_rfl) (by rfl) sz27 (by rfl) (by rfl) F243 (by simp only [List.length_cons, List.length_nil]; omega) ?_
            intro w369 F370 hc371
            replace F242 := F242.chg hc371 (dj1 D20)
            replace F244 := F244.chg hc371 (dj1 (D247).symm)
            replace F353 := F353.chg hc371 (dj1 (D350).symm)
            replace hB := hB.inS hc371 (inLow (low1 G16))
            replace hZ := Nat.le_trans hZ hc371.size
            replace F370 : Cl w369 b14 27 [.int .i64 (x235), .int .i64 (x236), .int .i64 (x237), .int .i64 (x238), .int .i64 (wr (p0_4 + (wr (Int.tdiv (wr ((wr (y22 + p1_4)) - p0_4)) 2))))] := F370
            clear F243
            refine wS_pure 3 [(7, .bool (true)), (6, .int .i64 (wr (y22 - (wr (Int.tdiv (wr ((wr (y22 + p1_4)) - p0_4)) 2))))), (5, .int .i64 (wr (Int.tdiv (wr ((wr (y22 + p1_4)) - p0_4)) 2)))] (by kernel_rfl) ?_
            refine wS_end (by rfl) ?_
            refine eX_then ?_
            refine cW_prune [(4, .pointer (some ⟨b14, 0, none⟩)), (5, .int .i64 (wr (Int.tdiv (wr ((wr (y22 + p1_4)) - p0_4)) 2))), (6, .int .i64 (wr (y22 - (wr (Int.tdiv (wr ((wr (y22 + p1_4)) - p0_4)) 2))))), (7, .bool (true))] (by kernel_rfl) (by kernel_rfl) (fun a372 => ?_)
            refine cW_ret ?_
            have hq : (some (((x235, x236, x237, x238, wr (p0_4 + (wr (Int.tdiv (wr ((wr (y22 + p1_4)) - p0_4)) 2)))), wr (Int.tdiv (wr ((wr (y22 + p1_4)) - p0_4)) 2), wr (y22 - (wr (Int.tdiv (wr ((wr (y22 + p1_4)) - p0_4)) 2))), true)) : Option ((Int × Int × Int × Int × Int) × (Int) × (Int) × (Bool))) = some _ := hm
            replace hq := someE hq
            subst hq
            refine eX_ret (vs := [.agg #[.int .i64 (x235), .int .i64 (x236), .int .i64 (x237), .int .i64 (x238), .int .i64 (wr (p0_4 + (wr (Int.tdiv (wr ((wr (y22 + p1_4)) - p0_4)) 2))))], .int .i64 (wr (Int.tdiv (wr ((wr (y22 + p1_4)) - p0_4)) 2)), .int .i64 (wr (y22 - (wr (Int.tdiv (wr ((wr (y22 + p1_4)) - p0_4)) 2)))), .bool (true)]) [.cell 4 27, .tmp 5, .tmp 6, .tmp 7] (by rfl) ⟨⟨⟨b14, 0, none⟩, by kernel_rfl, run_loadVarA (vs := [.int .i64 (x235), .int .i64 (x236), .int .i64 (x237), .int .i64 (x238), .int .i64 (wr (p0_4 + (wr (Int.tdiv (wr ((wr (y22 + p1_4)) - p0_4)) 2))))]) vt27 (fun i u hu => by exact box_cells F370 0 hu (by rfl))⟩, ⟨by (show lkE _ _ _ = _); kernel_rfl, ⟨by (show lkE _ _ _ = _); kernel_rfl, ⟨by (show lkE _ _ _ = _); kernel_rfl, trivial⟩⟩⟩⟩ ?_
            exact ⟨rfl, hB⟩
  · have hm := condF hb41 hm
    refine cW_skip ?_
    refine eX_then ?_
    refine cW_seq ?_
    obtain ⟨s574, hs575, hm⟩ := bindE hm
    refine cW_cut (fun a' w' => ∃ b560 : Nat, ∃ x561 : Int, ∃ x562 : Int, ∃ x563 : Int, ∃ x564 : Int, ∃ x566 : Bool, (x561, x562, x563, x564, x566) = s574 ∧ Fr 86 [(2, .pointer (some ⟨b1, 0, none⟩)), (4, .pointer (some ⟨b14, 0, none⟩)), (9, .int .i64 (if 0 > (wr (p1_4 - p0_4)) then 0 else (wr (p1_4 - p0_4)))), (10, .int .i64 (if 0 > (wr (p0_4 - p1_4)) then 0 else (wr (p0_4 - p1_4)))), (12, .pointer (some ⟨b560, 0, none⟩)), (13, .bool (x566))] a' ∧ Cl w' b1 27 [.int .i64 (p0_0), .int .i64 (p0_1), .int .i64 (p0_2), .int .i64 (p0_3), .int .i64 (p0_4)] ∧ Cl w' b14 27 [.int .i64 (0), .int .i64 (0), .int .i64 (0), .int .i64 (0), .int .i64 (0)] ∧ Cl w' b560 25 [.int .i64 (x561), .int .i64 (x562), .int .i64 (x563), .int .i64 (x564)] ∧ w0.heap.size ≤ b560 ∧ Dj [b1] [b560] ∧ Dj [b14] [b560] ∧ Chg [] w0 w' ∧ w0.heap.size ≤ w'.heap.size) ?_ ?_
    · have hm := hs575
      refine cW_drawnTail [] 14 (by kernel_rfl) (by kernel_rfl) (fun w576 hc577 => ?_)
      replace F4 := F4.chg hc577 notNil
      replace F10 := F10.chg hc577 notNil
      replace F17 := F17.chg hc577 notNil
      replace hB := hB.inS hc577 inNil
      replace hZ := Nat.le_trans hZ hc577.size
      have hS := Chg.refl [] w576
      have Z578 := F4
      have Z579 := F10
      have Z580 := F17
      refine wH_take [0] [0] [(58, .pointer (some ⟨b1, 0, none⟩))] (by kernel_rfl) (qT (qT (qT qZ))) (by kernel_rfl) ?_
      refine wH_loadA (i := 1) (d := 59) (T := 25) (ad := ⟨b1, 0, none⟩) (vs := [.int .i64 (p0_0), .int .i64 (p0_1), .int .i64 (p0_2), .int .i64 (p0_3)]) (by kernel_rfl) (qT (qT (qT qZ))) (by kernel_rfl) (by kernel_rfl) vt25 (fun W hW i u hu => box_cells (Z578.chg hW notNil) 0 hu (by rfl)) ?_
      refine wH_take [2, 4] [4, 2, 1, 0] [(62, .pointer (some ⟨b7, 0, none⟩)), (60, .int .i64 (if 0 > (wr (p1_4 - p0_4)) then 0 else (wr (p1_4 - p0_4))))] (by kernel_rfl) (qT (qT (qT qZ))) (by kernel_rfl) ?_
      refine wH_loadA (i := 5) (d := 63) (T := 25) (ad := ⟨b7, 0, none⟩) (vs := [.int .i64 (p1_0), .int .i64 (p1_1), .int .i64 (p1_2), .int .i64 (p1_3)]) (by kernel_rfl) (qT (qT (qT qZ))) (by kernel_rfl) (by kernel_rfl) vt25 (fun W hW i u hu => box_cells (Z579.chg hW notNil) 0 hu (by rfl)) ?_
      refine wH_take [6] [6, 5, 4, 2, 1, 0] [(64, .int .i64 (if 0 > (wr (p0_4 - p1_4)) then 0 else (wr (p0_4 - p1_4))))] (by kernel_rfl) (qT (qT (qT qZ))) (by kernel_rfl) ?_
      refine wH_all [3, 12] (by rfl) (by kernel_rfl) (by simp) ⟨⟨by kernel_rfl, ?_⟩, ⟨by kernel_rfl, ?_⟩, trivial⟩
      · skip
        obtain ⟨y581, hy582, hm⟩ := bindE hm
        refine wS_calls (d := 61) (f := 78) (vs := [.agg #[.int .i64 (p0_0), .int .i64 (p0_1), .int .i64 (p0_2), .int .i64 (p0_3)], .int .i64 (if 0 > (wr (p1_4 - p0_4)) then 0 else (wr (p1_4 - p0_4)))]) (by kernel_rfl) ent78 (c_impl_Region_grown hy582) ?_
        rintro _ w583 ⟨rfl, hc584⟩
        replace F4 := F4.chg hc584 notNil
        replace F10 := F10.chg hc584 notNil
        replace F17 := F17.chg hc584 notNil
        replace hB := hB.inS hc584 inNil
        have hSz := hS
        replace hS := hS.inS hc584 inNil
        replace hZ := Nat.le_trans hZ hc584.size
        refine ⟨.agg #[.int .i64 (y581.1), .int .i64 (y581.2.1), .int .i64 (y581.2.2.1), .int .i64 (y581.2.2.2)], rfl, ?_⟩
        refine wS_end (by kernel_rfl) ?_
        refine eX_KH hS ?_
        refine wH_all [7, 12] (by rfl) (by kernel_rfl) (by simp) ⟨⟨by kernel_rfl, ?_⟩, ⟨by kernel_rfl, ?_⟩, trivial⟩
        · skip
          obtain ⟨y585, hy586, hm⟩ := bindE hm
          refine wS_calls (d := 65) (f := 78) (vs := [.agg #[.int .i64 (p1_0), .int .i64 (p1_1), .int .i64 (p1_2), .int .i64 (p1_3)], .int .i64 (if 0 > (wr (p0_4 - p1_4)) then 0 else (wr (p0_4 - p1_4)))]) (by kernel_rfl) ent78 (c_impl_Region_grown hy586) ?_
          rintro _ w587 ⟨rfl, hc588⟩
          replace F4 := F4.chg hc588 notNil
          replace F10 := F10.chg hc588 notNil
          replace F17 := F17.chg hc588 notNil
          replace hB := hB.inS hc588 inNil
          have hSz := hS
          replace hS := hS.inS hc588 inNil
          replace hZ := Nat.le_trans hZ hc588.size
          refine ⟨.agg #[.int .i64 (y585.1), .int .i64 (y585.2.1), .int .i64 (y585.2.2.1), .int .i64 (y585.2.2.2)], rfl, ?_⟩
          refine wS_end (by kernel_rfl) ?_
          refine eX_KH hS ?_
          refine wH_all [8, 12] (by rfl) (by kernel_rfl) (by simp) ⟨⟨by kernel_rfl, ?_⟩, ⟨by kernel_rfl, ?_⟩, trivial⟩
          · skip
            obtain ⟨y589, hy590, hm⟩ := bindE hm
            refine wS_calls (d := 66) (f := 79) (vs := [.agg #[.int .i64 (y581.1), .int .i64 (y581.2.1), .int .i64 (y581.2.2.1), .int .i64 (y581.2.2.2)], .agg #[.int .i64 (y585.1), .int .i64 (y585.2.1), .int .i64 (y585.2.2.1), .int .i64 (y585.2.2.2)]]) (by kernel_rfl) ent79 (c_impl_Region_meet hy590) ?_
            rintro _ w591 ⟨rfl, hc592⟩
            replace F4 := F4.chg hc592 notNil
            replace F10 := F10.chg hc592 notNil
            replace F17 := F17.chg hc592 notNil
            replace hB := hB.inS hc592 inNil
            have hSz := hS
            replace hS := hS.inS hc592 inNil
            replace hZ := Nat.le_trans hZ hc592.size
            refine ⟨.tuple #[.agg #[.int .i64 (y589.1.1), .int .i64 (y589.1.2.1), .int .i64 (y589.1.2.2.1), .int .i64 (y589.1.2.2.2)], .bool (y589.2)], rfl, ?_⟩
            refine wS_end (by kernel_rfl) ?_
            refine eX_KH hS ?_
            refine wH_take [9, 10, 11] [11, 10, 9, 8, 7, 3, 6, 5, 4, 2, 1, 0] [(68, .bool (y589.2)), (67, .agg #[.int .i64 (y589.1.1), .int .i64 (y589.1.2.1), .int .i64 (y589.1.2.2.1), .int .i64 (y589.1.2.2.2)]), (57, .tuple #[.agg #[.int .i64 (y589.1.1), .int .i64 (y589.1.2.1), .int .i64 (y589.1.2.2.1), .int .i64 (y589.1.2.2.2)], .bool (y589.2)])] (by kernel_rfl) (qT (qT (qT qZ))) (by kernel_rfl) ?_
            refine wH_all [12] (by rfl) (by kernel_rfl) (by simp) ⟨⟨by kernel_rfl, ?_⟩, trivial⟩
            refine wS_alloc (d := 12) (T := 25) (z := .agg #[.int .i64 (0), .int .i64 (0), .int .i64 (0), .int .i64 (0)]) (by kernel_rfl) (by kernel_rfl) ?_
            intro b593 w594 G595 F596 hc597
            replace F596 : Cl w594 b593 25 [.int .i64 (0), .int .i64 (0), .int .i64 (0), .int .i64 (0)] := F596
            have D599 : Dj [b1] [b593] := Dj.of (lt1 F4.lt) (low1 G595)
            have D600 : Dj [b7] [b593] := Dj.of (lt1 F10.lt) (low1 G595)
            have D601 : Dj [b14] [b593] := Dj.of (lt1 F17.lt) (low1 G595)
            replace F4 := F4.chg hc597 notNil
            replace F10 := F10.chg hc597 notNil
            replace F17 := F17.chg hc597 notNil
            replace hB := hB.inS hc597 inNil
            have hSz := hS
            replace hS := hS.inS hc597 inNil
            have Gz602 := low1 (Nat.le_trans hSz.size G595)
            replace G595 := Nat.le_trans hZ G595
            replace hZ := Nat.le_trans hZ hc597.size
            refine wS_end (by kernel_rfl) ?_
            refine eX_KH hS ?_
            refine wH_all [13] (by rfl) (by kernel_rfl) (by simp) ⟨⟨by kernel_rfl, ?_⟩, trivial⟩
            refine wS_store (T := 25) (g := b593) (o := 0) (ad := ⟨b593, 0, none⟩) (v := .agg #[.int .i64 (y589.1.1), .int .i64 (y589.1.2.1), .int .i64 (y589.1.2.2.1), .int .i64 (y589.1.2.2.2)]) (vs := [.int .i64 (y589.1.1), .int .i64 (y589.1.2.1), .int .i64 (y589.1.2.2.1), .int .i64 (y589.1.2.2.2)]) (by kernel_rfl) (by rfl) sz25 (by rfl) (by rfl) F596 (by simp only [List.length_cons, List.length_nil]; omega) ?_
            intro w603 F604 hc605
            replace F4 := F4.chg hc605 (dj1 D599)
            replace F10 := F10.chg hc605 (dj1 D600)
            replace F17 := F17.chg hc605 (dj1 D601)
            replace hB := hB.inS hc605 (inLow (low1 G595))
            have hSz := hS
            replace hS := hS.inS hc605 (inLow Gz602)
            replace hZ := Nat.le_trans hZ hc605.size
            replace F604 : Cl w603 b593 25 [.int .i64 (y589.1.1), .int .i64 (y589.1.2.1), .int .i64 (y589.1.2.2.1), .int .i64 (y589.1.2.2.2)] := F604
            clear F596
            refine wS_end (by kernel_rfl) ?_
            refine eX_KH hS ?_
            refine wH_done (by kernel_rfl) ?_
            refine eX_tail ?_
            refine wS_pure 1 [(13, .bool (y589.2))] (by kernel_rfl) ?_
            refine wS_end (by rfl) ?_
            have hq : (some ((y589.1.1, y589.1.2.1, y589.1.2.2.1, y589.1.2.2.2, y589.2)) : Option (Int × Int × Int × Int × Bool)) = some _ := hm
            replace hq := someE hq
            subst hq
            exact eX_J (fun hst => ⟨b593, y589.1.1, y589.1.2.1, y589.1.2.2.1, y589.1.2.2.2, y589.2, rfl, Fr.of hst (by kernel_rfl), F4, F17, F604, G595, D599, D601, hB, hZ⟩)
          · skip
            refine wS_alloc (d := 12) (T := 25) (z := .agg #[.int .i64 (0), .int .i64 (0), .int .i64 (0), .int .i64 (0)]) (by kernel_rfl) (by kernel_rfl) ?_
            intro b606 w607 G608 F609 hc610
            replace F609 : Cl w607 b606 25 [.int .i64 (0), .int .i64 (0), .int .i64 (0), .int .i64 (0)] := F609
            have D612 : Dj [b1] [b606] := Dj.of (lt1 F4.lt) (low1 G608)
            have D613 : Dj [b7] [b606] := Dj.of (lt1 F10.lt) (low1 G608)
            have D614 : Dj [b14] [b606] := Dj.of (lt1 F17.lt) (low1 G608)
            replace F4 := F4.chg hc610 notNil
            replace F10 := F10.chg hc610 notNil
            replace F17 := F17.chg hc610 notNil
            replace hB := hB.inS hc610 inNil
            have hSz := hS
            replace hS := hS.inS hc610 inNil
            have Gz615 := low1 (Nat.le_trans hSz.size G608)
            replace G608 := Nat.le_trans hZ G608
            replace hZ := Nat.le_trans hZ hc610.size
            refine wS_end (by kernel_rfl) ?_
            refine eX_KH hS ?_
            refine wH_all [8] (by rfl) (by kernel_rfl) (by simp) ⟨⟨by kernel_rfl, ?_⟩, trivial⟩
            obtain ⟨y616, hy617, hm⟩ := bindE hm
            refine wS_calls (d := 66) (f := 79) (vs := [.agg #[.int .i64 (y581.1), .int .i64 (y581.2.1), .int .i64 (y581.2.2.1), .int .i64 (y581.2.2.2)], .agg #[.int .i64 (y585.1), .int .i64 (y585.2.1), .int .i64 (y585.2.2.1), .int .i64 (y585.2.2.2)]]) (by kernel_rfl) ent79 (c_impl_Region_meet hy617) ?_
            rintro _ w618 ⟨rfl, hc619⟩
            replace F4 := F4.chg hc619 notNil
            replace F10 := F10.chg hc619 notNil
            replace F17 := F17.chg hc619 notNil
            replace F609 := F609.chg hc619 notNil
            replace hB := hB.inS hc619 inNil
            have hSz := hS
            replace hS := hS.inS hc619 inNil
            replace hZ := Nat.le_trans hZ hc619.size
            refine ⟨.tuple #[.agg #[.int .i64 (y616.1.1), .int .i64 (y616.1.2.1), .int .i64 (y616.1.2.2.1), .int .i64 (y616.1.2.2.2)], .bool (y616.2)], rfl, ?_⟩
            refine wS_end (by kernel_rfl) ?_
            refine eX_KH hS ?_
            refine wH_take [9, 10, 11] [11, 10, 9, 8, 12, 7, 3, 6, 5, 4, 2, 1, 0] [(68, .bool (y616.2)), (67, .agg #[.int .i64 (y616.1.1), .int .i64 (y616.1.2.1), .int .i64 (y616.1.2.2.1), .int .i64 (y616.1.2.2.2)]), (57, .tuple #[.agg #[.int .i64 (y616.1.1), .int .i64 (y616.1.2.1), .int .i64 (y616.1.2.2.1), .int .i64 (y616.1.2.2.2)], .bool (y616.2)])] (by kernel_rfl) (qT (qT (qT qZ))) (by kernel_rfl) ?_
            refine wH_all [13] (by rfl) (by kernel_rfl) (by simp) ⟨⟨by kernel_rfl, ?_⟩, trivial⟩
            refine wS_store (T := 25) (g := b606) (o := 0) (ad := ⟨b606, 0, none⟩) (v := .agg #[.int .i64 (y616.1.1), .int .i64 (y616.1.2.1), .int .i64 (y616.1.2.2.1), .int .i64 (y616.1.2.2.2)]) (vs := [.int .i64 (y616.1.1), .int .i64 (y616.1.2.1), .int .i64 (y616.1.2.2.1), .int .i64 (y616.1.2.2.2)]) (by kernel_rfl) (by rfl) sz25 (by rfl) (by rfl) F609 (by simp only [List.length_cons, List.length_nil]; omega) ?_
            intro w620 F621 hc622
            replace F4 := F4.chg hc622 (dj1 D612)
            replace F10 := F10.chg hc622 (dj1 D613)
            replace F17 := F17.chg hc622 (dj1 D614)
            replace hB := hB.inS hc622 (inLow (low1 G608))
            have hSz := hS
            replace hS := hS.inS hc622 (inLow Gz615)
            replace hZ := Nat.le_trans hZ hc622.size
            replace F621 : Cl w620 b606 25 [.int .i64 (y616.1.1), .int .i64 (y616.1.2.1), .int .i64 (y616.1.2.2.1), .int .i64 (y616.1.2.2.2)] := F621
            clear F609
            refine wS_end (by kernel_rfl) ?_
            refine eX_KH hS ?_
            refine wH_done (by kernel_rfl) ?_
            refine eX_tail ?_
            refine wS_pure 1 [(13, .bool (y616.2))] (by kernel_rfl) ?_
            refine wS_end (by rfl) ?_
            have hq : (some ((y616.1.1, y616.1.2.1, y616.1.2.2.1, y616.1.2.2.2, y616.2)) : Option (Int × Int × Int × Int × Bool)) = some _ := hm
            replace hq := someE hq
            subst hq
            exact eX_J (fun hst => ⟨b606, y616.1.1, y616.1.2.1, y616.1.2.2.1, y616.1.2.2.2, y616.2, rfl, Fr.of hst (by kernel_rfl), F4, F17, F621, G608, D612, D614, hB, hZ⟩)
        · skip
          refine wS_alloc (d := 12) (T := 25) (z := .agg #[.int .i64 (0), .int .i64 (0), .int .i64 (0), .int .i64 (0)]) (by kernel_rfl) (by kernel_rfl) ?_
          intro b623 w624 G625 F626 hc627
          replace F626 : Cl w624 b623 25 [.int .i64 (0), .int .i64 (0), .int .i64 (0), .int .i64 (0)] := F626
          have D629 : Dj [b1] [b623] := Dj.of (lt1 F4.lt) (low1 G625)
          have D630 : Dj [b7] [b623] := Dj.of (lt1 F10.lt) (low1 G625)
          have D631 : Dj [b14] [b623] := Dj.of (lt1 F17.lt) (low1 G625)
          replace F4 := F4.chg hc627 notNil
          replace F10 := F10.chg hc627 notNil
          replace F17 := F17.chg hc627 notNil
          replace hB := hB.inS hc627 inNil
          have hSz := hS
          replace hS := hS.inS hc627 inNil
          have Gz632 := low1 (Nat.le_trans hSz.size G625)
          replace G625 := Nat.le_trans hZ G625
          replace hZ := Nat.le_trans hZ hc627.size
          refine wS_end (by kernel_rfl) ?_
          refine eX_KH hS ?_
          refine wH_all [7] (by rfl) (by kernel_rfl) (by simp) ⟨⟨by kernel_rfl, ?_⟩, trivial⟩
          obtain ⟨y633, hy634, hm⟩ := bindE hm
          refine wS_calls (d := 65) (f := 78) (vs := [.agg #[.int .i64 (p1_0), .int .i64 (p1_1), .int .i64 (p1_2), .int .i64 (p1_3)], .int .i64 (if 0 > (wr (p0_4 - p1_4)) then 0 else (wr (p0_4 - p1_4)))]) (by kernel_rfl) ent78 (c_impl_Region_grown hy634) ?_
          rintro _ w635 ⟨rfl, hc636⟩
          replace F4 := F4.chg hc636 notNil
          replace F10 := F10.chg hc636 notNil
          replace F17 := F17.chg hc636 notNil
          replace F626 := F626.chg hc636 notNil
          replace hB := hB.inS hc636 inNil
          have hSz := hS
          replace hS := hS.inS hc636 inNil
          replace hZ := Nat.le_trans hZ hc636.size
          refine ⟨.agg #[.int .i64 (y633.1), .int .i64 (y633.2.1), .int .i64 (y633.2.2.1), .int .i64 (y633.2.2.2)], rfl, ?_⟩
          refine wS_end (by kernel_rfl) ?_
          refine eX_KH hS ?_
          refine wH_all [8] (by rfl) (by kernel_rfl) (by simp) ⟨⟨by kernel_rfl, ?_⟩, trivial⟩
          obtain ⟨y637, hy638, hm⟩ := bindE hm
          refine wS_calls (d := 66) (f := 79) (vs := [.agg #[.int .i64 (y581.1), .int .i64 (y581.2.1), .int .i64 (y581.2.2.1), .int .i64 (y581.2.2.2)], .agg #[.int .i64 (y633.1), .int .i64 (y633.2.1), .int .i64 (y633.2.2.1), .int .i64 (y633.2.2.2)]]) (by kernel_rfl) ent79 (c_impl_Region_meet hy638) ?_
          rintro _ w639 ⟨rfl, hc640⟩
          replace F4 := F4.chg hc640 notNil
          replace F10 := F10.chg hc640 notNil
          replace F17 := F17.chg hc640 notNil
          replace F626 := F626.chg hc640 notNil
          replace hB := hB.inS hc640 inNil
          have hSz := hS
          replace hS := hS.inS hc640 inNil
          replace hZ := Nat.le_trans hZ hc640.size
          refine ⟨.tuple #[.agg #[.int .i64 (y637.1.1), .int .i64 (y637.1.2.1), .int .i64 (y637.1.2.2.1), .int .i64 (y637.1.2.2.2)], .bool (y637.2)], rfl, ?_⟩
          refine wS_end (by kernel_rfl) ?_
          refine eX_KH hS ?_
          refine wH_take [9, 10, 11] [11, 10, 9, 8, 7, 12, 3, 6, 5, 4, 2, 1, 0] [(68, .bool (y637.2)), (67, .agg #[.int .i64 (y637.1.1), .int .i64 (y637.1.2.1), .int .i64 (y637.1.2.2.1), .int .i64 (y637.1.2.2.2)]), (57, .tuple #[.agg #[.int .i64 (y637.1.1), .int .i64 (y637.1.2.1), .int .i64 (y637.1.2.2.1), .int .i64 (y637.1.2.2.2)], .bool (y637.2)])] (by kernel_rfl) (qT (qT (qT qZ))) (by kernel_rfl) ?_
          refine wH_all [13] (by rfl) (by kernel_rfl) (by simp) ⟨⟨by kernel_rfl, ?_⟩, trivial⟩
          refine wS_store (T := 25) (g := b623) (o := 0) (ad := ⟨b623, 0, none⟩) (v := .agg #[.int .i64 (y637.1.1), .int .i64 (y637.1.2.1), .int .i64 (y637.1.2.2.1), .int .i64 (y637.1.2.2.2)]) (vs := [.int .i64 (y637.1.1), .int .i64 (y637.1.2.1), .int .i64 (y637.1.2.2.1), .int .i64 (y637.1.2.2.2)]) (by kernel_rfl) (by rfl) sz25 (by rfl) (by rfl) F626 (by simp only [List.length_cons, List.length_nil]; omega) ?_
          intro w641 F642 hc643
          replace F4 := F4.chg hc643 (dj1 D629)
          replace F10 := F10.chg hc643 (dj1 D630)
          replace F17 := F17.chg hc643 (dj1 D631)
          replace hB := hB.inS hc643 (inLow (low1 G625))
          have hSz := hS
          replace hS := hS.inS hc643 (inLow Gz632)
          replace hZ := Nat.le_trans hZ hc643.size
          replace F642 : Cl w641 b623 25 [.int .i64 (y637.1.1), .int .i64 (y637.1.2.1), .int .i64 (y637.1.2.2.1), .int .i64 (y637.1.2.2.2)] := F642
          clear F626
          refine wS_end (by kernel_rfl) ?_
          refine eX_KH hS ?_
          refine wH_done (by kernel_rfl) ?_
          refine eX_tail ?_
          refine wS_pure 1 [(13, .bool (y637.2))] (by kernel_rfl) ?_
          refine wS_end (by rfl) ?_
          have hq : (some ((y637.1.1, y637.1.2.1, y637.1.2.2.1, y637.1.2.2.2, y637.2)) : Option (Int × Int × Int × Int × Bool)) = some _ := hm
          replace hq := someE hq
          subst hq
          exact eX_J (fun hst => ⟨b623, y637.1.1, y637.1.2.1, y637.1.2.2.1, y637.1.2.2.2, y637.2, rfl, Fr.of hst (by kernel_rfl), F4, F17, F642, G625, D629, D631, hB, hZ⟩)
      · skip
        refine wS_alloc (d := 12) (T := 25) (z := .agg #[.int .i64 (0), .int .i64 (0), .int .i64 (0), .int .i64 (0)]) (by kernel_rfl) (by kernel_rfl) ?_
        intro b644 w645 G646 F647 hc648
        replace F647 : Cl w645 b644 25 [.int .i64 (0), .int .i64 (0), .int .i64 (0), .int .i64 (0)] := F647
        have D650 : Dj [b1] [b644] := Dj.of (lt1 F4.lt) (low1 G646)
        have D651 : Dj [b7] [b644] := Dj.of (lt1 F10.lt) (low1 G646)
        have D652 : Dj [b14] [b644] := Dj.of (lt1 F17.lt) (low1 G646)
        replace F4 := F4.chg hc648 notNil
        replace F10 := F10.chg hc648 notNil
        replace F17 := F17.chg hc648 notNil
        replace hB := hB.inS hc648 inNil
        have hSz := hS
        replace hS := hS.inS hc648 inNil
        have Gz653 := low1 (Nat.le_trans hSz.size G646)
        replace G646 := Nat.le_trans hZ G646
        replace hZ := Nat.le_trans hZ hc648.size
        refine wS_end (by kernel_rfl) ?_
        refine eX_KH hS ?_
        refine wH_all [3] (by rfl) (by kernel_rfl) (by simp) ⟨⟨by kernel_rfl, ?_⟩, trivial⟩
        obtain ⟨y654, hy655, hm⟩ := bindE hm
        refine wS_calls (d := 61) (f := 78) (vs := [.agg #[.int .i64 (p0_0), .int .i64 (p0_1), .int .i64 (p0_2), .int .i64 (p0_3)], .int .i64 (if 0 > (wr (p1_4 - p0_4)) then 0 else (wr (p1_4 - p0_4)))]) (by kernel_rfl) ent78 (c_impl_Region_grown hy655) ?_
        rintro _ w656 ⟨rfl, hc657⟩
        replace F4 := F4.chg hc657 notNil
        replace F10 := F10.chg hc657 notNil
        replace F17 := F17.chg hc657 notNil
        replace F647 := F647.chg hc657 notNil
        replace hB := hB.inS hc657 inNil
        have hSz := hS
        replace hS := hS.inS hc657 inNil
        replace hZ := Nat.le_trans hZ hc657.size
        refine ⟨.agg #[.int .i64 (y654.1), .int .i64 (y654.2.1), .int .i64 (y654.2.2.1), .int .i64 (y654.2.2.2)], rfl, ?_⟩
        refine wS_end (by kernel_rfl) ?_
        refine eX_KH hS ?_
        refine wH_all [7] (by rfl) (by kernel_rfl) (by simp) ⟨⟨by kernel_rfl, ?_⟩, trivial⟩
        obtain ⟨y658, hy659, hm⟩ := bindE hm
        refine wS_calls (d := 65) (f := 78) (vs := [.agg #[.int .i64 (p1_0), .int .i64 (p1_1), .int .i64 (p1_2), .int .i64 (p1_3)], .int .i64 (if 0 > (wr (p0_4 - p1_4)) then 0 else (wr (p0_4 - p1_4)))]) (by kernel_rfl) ent78 (c_impl_Region_grown hy659) ?_
        rintro _ w660 ⟨rfl, hc661⟩
        replace F4 := F4.chg hc661 notNil
        replace F10 := F10.chg hc661 notNil
        replace F17 := F17.chg hc661 notNil
        replace F647 := F647.chg hc661 notNil
        replace hB := hB.inS hc661 inNil
        have hSz := hS
        replace hS := hS.inS hc661 inNil
        replace hZ := Nat.le_trans hZ hc661.size
        refine ⟨.agg #[.int .i64 (y658.1), .int .i64 (y658.2.1), .int .i64 (y658.2.2.1), .int .i64 (y658.2.2.2)], rfl, ?_⟩
        refine wS_end (by kernel_rfl) ?_
        refine eX_KH hS ?_
        refine wH_all [8] (by rfl) (by kernel_rfl) (by simp) ⟨⟨by kernel_rfl, ?_⟩, trivial⟩
        obtain ⟨y662, hy663, hm⟩ := bindE hm
        refine wS_calls (d := 66) (f := 79) (vs := [.agg #[.int .i64 (y654.1), .int .i64 (y654.2.1), .int .i64 (y654.2.2.1), .int .i64 (y654.2.2.2)], .agg #[.int .i64 (y658.1), .int .i64 (y658.2.1), .int .i64 (y658.2.2.1), .int .i64 (y658.2.2.2)]]) (by kernel_rfl) ent79 (c_impl_Region_meet hy663) ?_
        rintro _ w664 ⟨rfl, hc665⟩
        replace F4 := F4.chg hc665 notNil
        replace F10 := F10.chg hc665 notNil
        replace F17 := F17.chg hc665 notNil
        replace F647 := F647.chg hc665 notNil
        replace hB := hB.inS hc665 inNil
        have hSz := hS
        replace hS := hS.inS hc665 inNil
        replace hZ := Nat.le_trans hZ hc665.size
        refine ⟨.tuple #[.agg #[.int .i64 (y662.1.1), .int .i64 (y662.1.2.1), .int .i64 (y662.1.2.2.1), .int .i64 (y662.1.2.2.2)], .bool (y662.2)], rfl, ?_⟩
        refine wS_end (by kernel_rfl) ?_
        refine eX_KH hS ?_
        refine wH_take [9, 10, 11] [11, 10, 9, 8, 7, 3, 12, 6, 5, 4, 2, 1, 0] [(68, .bool (y662.2)), (67, .agg #[.int .i64 (y662.1.1), .int .i64 (y662.1.2.1), .int .i64 (y662.1.2.2.1), .int .i64 (y662.1.2.2.2)]), (57, .tuple #[.agg #[.int .i64 (y662.1.1), .int .i64 (y662.1.2.1), .int .i64 (y662.1.2.2.1), .int .i64 (y662.1.2.2.2)], .bool (y662.2)])] (by kernel_rfl) (qT (qT (qT qZ))) (by kernel_rfl) ?_
        refine wH_all [13] (by rfl) (by kernel_rfl) (by simp) ⟨⟨by kernel_rfl, ?_⟩, trivial⟩
        refine wS_store (T := 25) (g := b644) (o := 0) (ad := ⟨b644, 0, none⟩) (v := .agg #[.int .i64 (y662.1.1), .int .i64 (y662.1.2.1), .int .i64 (y662.1.2.2.1), .int .i64 (y662.1.2.2.2)]) (vs := [.int .i64 (y662.1.1), .int .i64 (y662.1.2.1), .int .i64 (y662.1.2.2.1), .int .i64 (y662.1.2.2.2)]) (by kernel_rfl) (by rfl) sz25 (by rfl) (by rfl) F647 (by simp only [List.length_cons, List.length_nil]; omega) ?_
        intro w666 F667 hc668
        replace F4 := F4.chg hc668 (dj1 D650)
        replace F10 := F10.chg hc668 (dj1 D651)
        replace F17 := F17.chg hc668 (dj1 D652)
        replace hB := hB.inS hc668 (inLow (low1 G646))
        have hSz := hS
        replace hS := hS.inS hc668 (inLow Gz653)
        replace hZ := Nat.le_trans hZ hc668.size
        replace F667 : Cl w666 b644 25 [.int .i64 (y662.1.1), .int .i64 (y662.1.2.1), .int .i64 (y662.1.2.2.1), .int .i64 (y662.1.2.2.2)] := F667
        clear F647
        refine wS_end (by kernel_rfl) ?_
        refine eX_KH hS ?_
        refine wH_done (by kernel_rfl) ?_
        refine eX_tail ?_
        refine wS_pure 1 [(13, .bool (y662.2))] (by kernel_rfl) ?_
        refine wS_end (by rfl) ?_
        have hq : (some ((y662.1.1, y662.1.2.1, y662.1.2.2.1, y662.1.2.2.2, y662.2)) : Option (Int × Int × Int × Int × Bool)) = some _ := hm
        replace hq := someE hq
        subst hq
        exact eX_J (fun hst => ⟨b644, y662.1.1, y662.1.2.1, y662.1.2.2.1, y662.1.2.2.2, y662.2, rfl, Fr.of hst (by kernel_rfl), F4, F17, F667, G646, D650, D652, hB, hZ⟩)
    · rintro a' w559 ⟨b560, x561, x562, x563, x564, x566, hJ, hF567, F568, F569, F570, G571, D572, D573, hB, hZ⟩
      subst hJ
      refine Fr.goX hF567 (by kernel_rfl) ?_
      refine eX_then ?_
      refine cW_seq ?_
      refine cW_region ?_
      refine wS_loadA (d := 69) (T := 25) (ad := ⟨b560, 0, none⟩) (vs := [.int .i64 (x561), .int .i64 (x562), .int .i64 (x563), .int .i64 (x564)]) (by kernel_rfl) vt25 (fun i u hu => box_cells F570 0 hu (by rfl)) ?_
      refine wS_pure 1 [(70, .pointer (some ⟨b1, 4, none⟩))] (by kernel_rfl) ?_
      refine wS_load1 (d := 71) (T := 2) (ad := ⟨b1, 4, none⟩) (v := .int .i64 (p0_4)) (by kernel_rfl) vt2 ((F568).cell 4) ?_
      refine wS_pure 3 [(74, .agg #[.int .i64 (x561), .int .i64 (x562), .int .i64 (x563), .int .i64 (x564), .int .i64 (wr (p0_4 + (if 0 > (wr (p1_4 - p0_4)) then 0 else (wr (p1_4 - p0_4)))))]), (73, .int .i64 (wr (p0_4 + (if 0 > (wr (p1_4 - p0_4)) then 0 else (wr (p1_4 - p0_4)))))), (72, .int .i64 (if 0 > (wr (p1_4 - p0_4)) then 0 else (wr (p1_4 - p0_4))))] (by kernel_rfl) ?_
      refine wS_alloc (d := 14) (T := 27) (z := .agg #[.int .i64 (0), .int .i64 (0), .int .i64 (0), .int .i64 (0), .int .i64 (0)]) (by kernel_rfl) (by kernel_rfl) ?_
      intro b669 w670 G671 F672 hc673
      replace F672 : Cl w670 b669 27 [.int .i64 (0), .int .i64 (0), .int .i64 (0), .int .i64 (0), .int .i64 (0)] := F672
      have D675 : Dj [b1] [b669] := Dj.of (lt1 F568.lt) (low1 G671)
      have D676 : Dj [b14] [b669] := Dj.of (lt1 F569.lt) (low1 G671)
      have D677 : Dj [b560] [b669] := Dj.of (lt1 F570.lt) (low1 G671)
      replace F568 := F568.chg hc673 notNil
      replace F569 := F569.chg hc673 notNil
      replace F570 := F570.chg hc673 notNil
      replace hB := hB.inS hc673 inNil
      replace G671 := Nat.le_trans hZ G671
      replace hZ := Nat.le_trans hZ hc673.size
      refine wS_store (T := 27) (g := b669) (o := 0) (ad := ⟨b669, 0, none⟩) (v := .agg #[.int .i64 (x561), .int .i64 (x562), .int .i64 (x563), .int .i64 (x564), .int .i64 (wr (p0_4 + (if 0 > (wr (p1_4 - p0_4)) then 0 else (wr (p1_4 - p0_4)))))]) (vs := [.int .i64 (x561), .int .i64 (x562), .int .i64 (x563), .int .i64 (x564), .int .i64 (wr (p0_4 + (if 0 > (wr (p1_4 - p0_4)) then 0 else (wr (p1_4 - p0_4)))))]) (by kernel_rfl) (by rfl) sz27 (by rfl) (by rfl) F672 (by simp only [List.length_cons, List.length_nil]; omega) ?_
      intro w678 F679 hc680
      replace F568 := F568.chg hc680 (dj1 D675)
      replace F569 := F569.chg hc680 (dj1 D676)
      replace F570 := F570.chg hc680 (dj1 D677)
      replace hB := hB.inS hc680 (inLow (low1 G671))
      replace hZ := Nat.le_trans hZ hc680.size
      replace F679 : Cl w678 b669 27 [.int .i64 (x561), .int .i64 (x562), .int .i64 (x563), .int .i64 (x564), .int .i64 (wr (p0_4 + (if 0 > (wr (p1_4 - p0_4)) then 0 else (wr (p1_4 - p0_4)))))] := F679
      clear F672
      refine wS_end (by rfl) ?_
      refine eX_then ?_
      refine cW_seq ?_
      refine cW_seq ?_
      refine cW_region ?_
      refine wS_pure 3 [(77, .bool (!x566)), (76, .bool (!x566)), (75, .bool (x566))] (by kernel_rfl) ?_
      refine wS_bool (!x566) (fun hb681 => ?_) (fun hb681 => ?_)
      · have hm := condT hb681 hm
        rewrite [hb681]
        refine wS_pure 4 [(81, .bool (true)), (80, undef), (79, undef), (78, undef)] (by kernel_rfl) ?_
        refine wS_end (by rfl) ?_
        refine eX_then ?_
        refine cW_cond_t (by kernel_rfl) ?_
        refine cW_seq ?_
        refine cW_region ?_
        refine wS_pure 1 [(82, .agg #[.int .i64 (0), .int .i64 (0), .int .i64 (0), .int .i64 (0), .int .i64 (0)])] (by kernel_rfl) ?_
        refine wS_store (T := 27) (g := b14) (o := 0) (ad := ⟨b14, 0, none⟩) (v := .agg #[.int .i64 (0), .int .i64 (0), .int .i64 (0), .int .i64 (0), .int .i64 (0)]) (vs := [.int .i64 (0), .int .i64 (0), .int .i64 (0), .int .i64 (0), .int .i64 (0)]) (by kernel_rfl) (by rfl) sz27 (by rfl) (by rfl) F569 (by simp only [List.length_cons, List.length_nil]; omega) ?_
        intro w682 F683 hc684
        replace F568 := F568.chg hc684 (dj1 D20)
        replace F570 := F570.chg hc684 (dj1 (D573).symm)
        replace F679 := F679.chg hc684 (dj1 (D676).symm)
        replace hB := hB.inS hc684 (inLow (low1 G16))
        replace hZ := Nat.le_trans hZ hc684.size
        replace F683 : Cl w682 b14 27 [.int .i64 (0), .int .i64 (0), .int .i64 (0), .int .i64 (0), .int .i64 (0)] := F683
        clear F569
        refine wS_pure 3 [(7, .bool (false)), (6, .int .i64 (0)), (5, .int .i64 (0))] (by kernel_rfl) ?_
        refine wS_end (by rfl) ?_
        refine eX_then ?_
        refine cW_prune [(4, .pointer (some ⟨b14, 0, none⟩)), (5, .int .i64 (0)), (6, .int .i64 (0)), (7, .bool (false))] (by kernel_rfl) (by kernel_rfl) (fun a685 => ?_)
        refine cW_ret ?_
        refine eX_then_ret ?_
        have hq : (some (((0, 0, 0, 0, 0), 0, 0, false)) : Option ((Int × Int × Int × Int × Int) × (Int) × (Int) × (Bool))) = some _ := hm
        replace hq := someE hq
        subst hq
        refine eX_ret (vs := [.agg #[.int .i64 (0), .int .i64 (0), .int .i64 (0), .int .i64 (0), .int .i64 (0)], .int .i64 (0), .int .i64 (0), .bool (false)]) [.cell 4 27, .tmp 5, .tmp 6, .tmp 7] (by rfl) ⟨⟨⟨b14, 0, none⟩, by kernel_rfl, run_loadVarA (vs := [.int .i64 (0), .int .i64 (0), .int .i64 (0), .int .i64 (0), .int .i64 (0)]) vt27 (fun i u hu => by exact box_cells F683 0 hu (by rfl))⟩, ⟨by (show lkE _ _ _ = _); kernel_rfl, ⟨by (show lkE _ _ _ = _); kernel_rfl, ⟨by (show lkE _ _ _ = _); kernel_rfl, trivial⟩⟩⟩⟩ ?_
        exact ⟨rfl, hB⟩
      · have hm := condF hb681 hm
        rewrite [hb681]
        refine wS_loadA (d := 78) (T := 27) (ad := ⟨b669, 0, none⟩) (vs := [.int .i64 (x561), .int .i64 (x562), .int .i64 (x563), .int .i64 (x564), .int .i64 (wr (p0_4 + (if 0 > (wr (p1_4 - p0_4)) then 0 else (wr (p1_4 - p0_4)))))]) (by kernel_rfl) vt27 (fun i u hu => box_cells F679 0 hu (by rfl)) ?_
        obtain ⟨y686, hy687, hm⟩ := bindE hm
        refine wS_calls (d := 79) (f := 75) (vs := [.agg #[.int .i64 (x561), .int .i64 (x562), .int .i64 (x563), .int .i64 (x564), .int .i64 (wr (p0_4 + (if 0 > (wr (p1_4 - p0_4)) then 0 else (wr (p1_4 - p0_4)))))]]) (by kernel_rfl) ent75 (c_impl_mergeOk hy687) ?_
        rintro _ w688 ⟨rfl, hc689⟩
        replace F568 := F568.chg hc689 notNil
        replace F569 := F569.chg hc689 notNil
        replace F570 := F570.chg hc689 notNil
        replace F679 := F679.chg hc689 notNil
        replace hB := hB.inS hc689 inNil
        replace hZ := Nat.le_trans hZ hc689.size
        refine ⟨.bool (y686), rfl, ?_⟩
        refine wS_pure 2 [(81, .bool (!y686)), (80, .bool (!y686))] (by kernel_rfl) ?_
        refine wS_end (by rfl) ?_
        refine eX_then ?_
        refine cW_cond (t := !y686) (by kernel_rfl) (fun hb690 => ?_) (fun hb690 => ?_)
        · have hm := condT hb690 hm
          refine cW_seq ?_
          refine cW_region ?_
          refine wS_pure 1 [(82, .agg #[.int .i64 (0), .int .i64 (0), .int .i64 (0), .int .i64 (0), .int .i64 (0)])] (by kernel_rfl) ?_
          refine wS_store (T := 27) (g := b14) (o := 0) (ad := ⟨b14, 0, none⟩) (v := .agg #[.int .i64 (0), .int .i64 (0), .int .i64 (0), .int .i64 (0), .int .i64 (0)]) (vs := [.int .i64 (0), .int .i64 (0), .int .i64 (0), .int .i64 (0), .int .i64 (0)]) (by kernel_rfl) (by rfl) sz27 (by rfl) (by rfl) F569 (by simp only [List.length_cons, List.length_nil]; omega) ?_
          intro w691 F692 hc693
          replace F568 := F568.chg hc693 (dj1 D20)
          replace F570 := F570.chg hc693 (dj1 (D573).symm)
          replace F679 := F679.chg hc693 (dj1 (D676).symm)
          replace hB := hB.inS hc693 (inLow (low1 G16))
          replace hZ := Nat.le_trans hZ hc693.size
          replace F692 : Cl w691 b14 27 [.int .i64 (0), .int .i64 (0), .int .i64 (0), .int .i64 (0), .int .i64 (0)] := F692
          clear F569
          refine wS_pure 3 [(7, .bool (false)), (6, .int .i64 (0)), (5, .int .i64 (0))] (by kernel_rfl) ?_
          refine wS_end (by rfl) ?_
          refine eX_then ?_
          refine cW_prune [(4, .pointer (some ⟨b14, 0, none⟩)), (5, .int .i64 (0)), (6, .int .i64 (0)), (7, .bool (false))] (by kernel_rfl) (by kernel_rfl) (fun a694 => ?_)
          refine cW_ret ?_
          refine eX_then_ret ?_
          have hq : (some (((0, 0, 0, 0, 0), 0, 0, false)) : Option ((Int × Int × Int × Int × Int) × (Int) × (Int) × (Bool))) = some _ := hm
          replace hq := someE hq
          subst hq
          refine eX_ret (vs := [.agg #[.int .i64 (0), .int .i64 (0), .int .i64 (0), .int .i64 (0), .int .i64 (0)], .int .i64 (0), .int .i64 (0), .bool (false)]) [.cell 4 27, .tmp 5, .tmp 6, .tmp 7] (by rfl) ⟨⟨⟨b14, 0, none⟩, by kernel_rfl, run_loadVarA (vs := [.int .i64 (0), .int .i64 (0), .int .i64 (0), .int .i64 (0), .int .i64 (0)]) vt27 (fun i u hu => by exact box_cells F692 0 hu (by rfl))⟩, ⟨by (show lkE _ _ _ = _); kernel_rfl, ⟨by (show lkE _ _ _ = _); kernel_rfl, ⟨by (show lkE _ _ _ = _); kernel_rfl, trivial⟩⟩⟩⟩ ?_
          exact ⟨rfl, hB⟩
        · have hm := condF hb690 hm
          refine cW_skip ?_
          refine eX_then ?_
          refine cW_seq ?_
          refine cW_region ?_
          refine wS_loadA (d := 83) (T := 27) (ad := ⟨b669, 0, none⟩) (vs := [.int .i64 (x561), .int .i64 (x562), .int .i64 (x563), .int .i64 (x564), .int .i64 (wr (p0_4 + (if 0 > (wr (p1_4 - p0_4)) then 0 else (wr (p1_4 - p0_4)))))]) (by kernel_rfl) vt27 (fun i u hu => box_cells F679 0 hu (by rfl)) ?_
          refine wS_pure 2 [(85, .int .i64 (if 0 > (wr (p0_4 - p1_4)) then 0 else (wr (p0_4 - p1_4)))), (84, .int .i64 (if 0 > (wr (p1_4 - p0_4)) then 0 else (wr (p1_4 - p0_4))))] (by kernel_rfl) ?_
          refine wS_store (T := 27) (g := b14) (o := 0) (ad := ⟨b14, 0, none⟩) (v := .agg #[.int .i64 (x561), .int .i64 (x562), .int .i64 (x563), .int .i64 (x564), .int .i64 (wr (p0_4 + (if 0 > (wr (p1_4 - p0_4)) then 0 else (wr (p1_4 - p0_4)))))]) (vs := [.int .i64 (x561), .int .i64 (x562), .int .i64 (x563), .int .i64 (x564), .int .i64 (wr (p0_4 + (if 0 > (wr (p1_4 - p0_4)) then 0 else (wr (p1_4 - p0_4)))))]) (by kernel_rfl) (by rfl) sz27 (by rfl) (by rfl) F569 (by simp only [List.length_cons, List.length_nil]; omega) ?_
          intro w695 F696 hc697
          replace F568 := F568.chg hc697 (dj1 D20)
          replace F570 := F570.chg hc697 (dj1 (D573).symm)
          replace F679 := F679.chg hc697 (dj1 (D676).symm)
          replace hB := hB.inS hc697 (inLow (low1 G16))
          replace hZ := Nat.le_trans hZ hc697.size
          replace F696 : Cl w695 b14 27 [.int .i64 (x561), .int .i64 (x562), .int .i64 (x563), .int .i64 (x564), .int .i64 (wr (p0_4 + (if 0 > (wr (p1_4 - p0_4)) then 0 else (wr (p1_4 - p0_4)))))] := F696
          clear F569
          refine wS_pure 3 [(7, .bool (true)), (6, .int .i64 (if 0 > (wr (p0_4 - p1_4)) then 0 else (wr (p0_4 - p1_4)))), (5, .int .i64 (if 0 > (wr (p1_4 - p0_4)) then 0 else (wr (p1_4 - p0_4))))] (by kernel_rfl) ?_
          refine wS_end (by rfl) ?_
          refine eX_then ?_
          refine cW_prune [(4, .pointer (some ⟨b14, 0, none⟩)), (5, .int .i64 (if 0 > (wr (p1_4 - p0_4)) then 0 else (wr (p1_4 - p0_4)))), (6, .int .i64 (if 0 > (wr (p0_4 - p1_4)) then 0 else (wr (p0_4 - p1_4)))), (7, .bool (true))] (by kernel_rfl) (by kernel_rfl) (fun a698 => ?_)
          refine cW_ret ?_
          have hq : (some (((x561, x562, x563, x564, wr (p0_4 + (if 0 > (wr (p1_4 - p0_4)) then 0 else (wr (p1_4 - p0_4))))), if 0 > (wr (p1_4 - p0_4)) then 0 else (wr (p1_4 - p0_4)), if 0 > (wr (p0_4 - p1_4)) then 0 else (wr (p0_4 - p1_4)), true)) : Option ((Int × Int × Int × Int × Int) × (Int) × (Int) × (Bool))) = some _ := hm
          replace hq := someE hq
          subst hq
          refine eX_ret (vs := [.agg #[.int .i64 (x561), .int .i64 (x562), .int .i64 (x563), .int .i64 (x564), .int .i64 (wr (p0_4 + (if 0 > (wr (p1_4 - p0_4)) then 0 else (wr (p1_4 - p0_4)))))], .int .i64 (if 0 > (wr (p1_4 - p0_4)) then 0 else (wr (p1_4 - p0_4))), .int .i64 (if 0 > (wr (p0_4 - p1_4)) then 0 else (wr (p0_4 - p1_4))), .bool (true)]) [.cell 4 27, .tmp 5, .tmp 6, .tmp 7] (by rfl) ⟨⟨⟨b14, 0, none⟩, by kernel_rfl, run_loadVarA (vs := [.int .i64 (x561), .int .i64 (x562), .int .i64 (x563), .int .i64 (x564), .int .i64 (wr (p0_4 + (if 0 > (wr (p1_4 - p0_4)) then 0 else (wr (p1_4 - p0_4)))))]) vt27 (fun i u hu => by exact box_cells F696 0 hu (by rfl))⟩, ⟨by (show lkE _ _ _ = _); kernel_rfl, ⟨by (show lkE _ _ _ = _); kernel_rfl, ⟨by (show lkE _ _ _ = _); kernel_rfl, trivial⟩⟩⟩⟩ ?_
          exact ⟨rfl, hB⟩

set_option maxRecDepth 100000 in
/-- spec.R8Pins -/
theorem c_spec_R8Pins {w0 : World} {l0 : List (Int)} {A0 : Option Addr} {cap0 : Nat} {fp0 : List Nat} {p1 : Int} {r : (List (Int × Int))} (hm : m_spec_R8Pins l0 p1 = some r) (F0 : Sl 1 encU w0 fp0 A0 l0) :
    Calls Try.prog 38 #[.slice A0 (l0).length cap0, .int .i64 (p1)] w0 fun e w' => ∃ A100 cap100 fp100, e = .returned (.slice A100 (r).length cap100) ∧ Ow 2 encII 116 w' fp100 A100 cap100 r ∧ (∀ x ∈ fp100, w0.heap.size ≤ x) ∧ Chg [] w0 w' := by
  have L0 := F0.low
  have hB : Chg [] w0 w0 := Chg.refl _ _
  have hZ := Nat.le_refl w0.heap.size
  unfold m_spec_R8Pins at hm
  refine enterE (N := 32) Try.func38 (by rfl) Try.ntmps38 (by simp) [(0, .slice A0 (l0).length cap0), (1, .int .i64 (p1))] (by rfl) (by kernel_rfl) (fun a => ?_)
  refine cW_seq ?_
  refine cW_region ?_
  refine wS_pure 1 [(4, .slice none 0 0)] (by kernel_rfl) ?_
  refine wS_end (by rfl) ?_
  refine eX_then ?_
  refine cW_seq ?_
  refine cW_region ?_
  refine wS_pure 1 [(9, .slice A0 (l0).length cap0)] (by kernel_rfl) ?_
  obtain ⟨y2, hy3, hm⟩ := bindE hm
  refine wS_calls (d := 10) (f := 72) (vs := [.slice A0 (l0).length cap0]) (by kernel_rfl) ent72 (c_spec_l00From hy3 F0) ?_
  rintro _ w4 ⟨b6, rfl, F7, G8, hc5⟩
  replace F0 := F0.chg hc5 Dj.nil
  replace hB := hB.inS hc5 inNil
  replace G8 := Nat.le_trans hZ G8
  replace hZ := Nat.le_trans hZ hc5.size
  refine ⟨.pointer (some ⟨b6, 0, none⟩), rfl, ?_⟩
  refine wS_pure 1 [(5, .pointer (some ⟨b6, 0, none⟩))] (by kernel_rfl) ?_
  refine wS_end (by rfl) ?_
  refine eX_then ?_
  refine cW_seq ?_
  refine cW_region ?_
  refine wS_bs0 (α := Int × Int) (enc := encII) (d := 11) (t := 58) (T := 116) (by kernel_rfl) el58 ?_
  intro b10 w11 G12 F13 hc14
  have D16 : Dj [b6] [b10] := Dj.of (lt1 F7.lt) (low1 G12)
  replace F0 := F0.chg hc14 Dj.nil
  replace F7 := F7.chg hc14 notNil
  replace hB := hB.inS hc14 inNil
  replace G12 := Nat.le_trans hZ G12
  replace G12 := low1 G12
  replace hZ := Nat.le_trans hZ hc14.size
  refine wS_pure 1 [(6, .slice (some ⟨b10, 0, none⟩) (([] : List (Int × Int))).length 0)] (by kernel_rfl) ?_
  refine wS_end (by rfl) ?_
  refine eX_then ?_
  refine cW_seq ?_
  refine cW_seq ?_
  refine cW_region ?_
  refine wS_pure 3 [(14, .int .i64 (wr (p1 - 1))), (13, .int .i64 (p1)), (12, .pointer (some ⟨b6, 0, none⟩))] (by kernel_rfl) ?_
  obtain ⟨y17, hy18, hm⟩ := bindE hm
  refine wS_calls (d := 15) (f := 73) (vs := [.pointer (some ⟨b6, 0, none⟩), .int .i64 (wr (p1 - 1))]) (by kernel_rfl) ent73 (c_spec_l00Src_pick_bspecl00Src hy18 F0 F7 (Dj.of L0 (low1 G8)).symm) ?_
  rintro _ w19 ⟨rfl, F21, hc20⟩
  replace F0 := F0.chg hc20 (Dj.app (Dj.of L0 (low1 G8)) Dj.nil)
  replace F13 := F13.chg hc20 (Dj.app (D16).symm Dj.nil)
  replace hB := hB.inS hc20 (inApp (inLow (low1 G8)) inNil)
  replace hZ := Nat.le_trans hZ hc20.size
  clear F7
  refine ⟨.int .i64 (y17.1), rfl, ?_⟩
  refine wS_pure 2 [(7, .int .i64 (wr (2 + y17.1))), (16, .int .i64 (wr (2 + y17.1)))] (by kernel_rfl) ?_
  refine wS_end (by rfl) ?_
  refine eX_then ?_
  obtain ⟨r158, hr159, hm⟩ := bindE hm
  have hm160 := hm
  refine cW_cut (fun a' w' => ∃ l135 : List (Int × Int), ∃ A136 : Option Addr, ∃ cap137 : Nat, ∃ fp138 : List Nat, l135 = r158 ∧ Fr 32 [(6, .slice A136 (l135).length cap137)] a' ∧ Ow 2 encII 116 w' fp138 A136 cap137 l135 ∧ (∀ x ∈ fp138, w0.heap.size ≤ x) ∧ Chg [] w0 w' ∧ w0.heap.size ≤ w'.heap.size) ?_ ?_
  · refine cW_block ?_
    refine cW_loop _ (fun (s161 : (List (Int × Int)) × Int × Int × Int) a' w' => ∃ l144 : List (Int × Int), ∃ A145 : Option Addr, ∃ cap146 : Nat, ∃ fp147 : List Nat, ∃ x149 : Int, ∃ x150 : Int, ∃ x151 : Int, (l144, x149, x150, x151) = s161 ∧ Fr 32 [(5, .pointer (some ⟨b6, 0, none⟩)), (6, .slice A145 (l144).length cap146), (7, .int .i64 (x149))] a' ∧ Sl 1 encU w' fp0 A0 l0 ∧ Cl w' b6 142 [.slice A0 (l0).length cap0, .int .i64 (x150), .int .u64 (x151)] ∧ Ow 2 encII 116 w' fp147 A145 cap146 l144 ∧ (∀ x ∈ fp147, w0.heap.size ≤ x) ∧ Dj [b6] fp147 ∧ Chg [] w0 w' ∧ w0.heap.size ≤ w'.heap.size) hr159 (fun hst => ⟨([] : List (Int × Int)), (some ⟨b10, 0, none⟩), 0, [b10], wr (2 + y17.1), y17.2.1, y17.2.2, rfl, Fr.of hst (by kernel_rfl), F0, F21, F13, G12, D16, hB, hZ⟩) ?_
    rintro _ c162 a' w143 ⟨l144, A145, cap146, fp147, x149, x150, x151, rfl, hF152, F153, F154, F155, G156, D157, hB, hZ⟩ hx163
    refine Fr.goOn hF152 (by kernel_rfl) ?_
    have hm := hx163
    unfold m_spec_R8Pins_s1 at hm
    refine cW_seq ?_
    refine cW_seq ?_
    refine cW_region ?_
    refine wS_pure 2 [(18, .bool (decide (x149 > 0))), (17, .int .i64 (x149))] (by kernel_rfl) ?_
    refine wS_end (by rfl) ?_
    refine eX_then ?_
    refine cW_cond (t := decide (x149 > 0)) (by kernel_rfl) (fun hb164 => ?_) (fun hb164 => ?_)
    · have hm := condT hb164 hm
      refine cW_skip ?_
      refine eX_then ?_
      refine cW_seq ?_
      refine cW_block ?_
      refine cW_seq ?_
      refine cW_region ?_
      refine wS_pure 1 [(21, .pointer (some ⟨b6, 0, none⟩))] (by kernel_rfl) ?_
      obtain ⟨y165, hy166, hm⟩ := bindE hm
      refine wS_calls (d := 22) (f := 73) (vs := [.pointer (some ⟨b6, 0, none⟩), .int .i64 (12)]) (by kernel_rfl) ent73 (c_spec_l00Src_pick_bspecl00Src hy166 F153 F154 (Dj.of L0 (low1 G8)).symm) ?_
      rintro _ w167 ⟨rfl, F169, hc168⟩
      replace F153 := F153.chg hc168 (Dj.app (Dj.of L0 (low1 G8)) Dj.nil)
      replace F155 := F155.chg hc168 (Dj.app (D157).symm Dj.nil)
      replace hB := hB.inS hc168 (inApp (inLow (low1 G8)) inNil)
      replace hZ := Nat.le_trans hZ hc168.size
      clear F154
      refine ⟨.int .i64 (y165.1), rfl, ?_⟩
      refine wS_pure 1 [(23, .agg #[.int .i64 (y165.1), .int .i64 (0)])] (by kernel_rfl) ?_
      refine wS_alloc (d := 8) (T := 116) (z := .agg #[.int .i64 (0), .int .i64 (0)]) (by kernel_rfl) (by kernel_rfl) ?_
      intro b170 w171 G172 F173 hc174
      replace F173 : Cl w171 b170 116 [.int .i64 (0), .int .i64 (0)] := F173
      have D176 : Dj [b6] [b170] := Dj.of (lt1 F169.lt) (low1 G172)
      have D177 : Dj fp147 [b170] := Dj.of F155.low (low1 G172)
      replace F153 := F153.chg hc174 Dj.nil
      replace F169 := F169.chg hc174 notNil
      replace F155 := F155.chg hc174 Dj.nil
      replace hB := hB.inS hc174 inNil
      replace G172 := Nat.le_trans hZ G172
      replace hZ := Nat.le_trans hZ hc174.size
      refine wS_store (T := 116) (g := b170) (o := 0) (ad := ⟨b170, 0, none⟩) (v := .agg #[.int .i64 (y165.1), .int .i64 (0)]) (vs := [.int .i64 (y165.1), .int .i64 (0)]) (by kernel_rfl) (by rfl) sz116 (by rfl) (by rfl) F173 (by simp only [List.length_cons, List.length_nil]; omega) ?_
      intro w178 F179 hc180
      replace F153 := F153.chg hc180 (Dj.of L0 (low1 G172))
      replace F169 := F169.chg hc180 (dj1 D176)
      replace F155 := F155.chg hc180 D177
      replace hB := hB.inS hc180 (inLow (low1 G172))
      replace hZ := Nat.le_trans hZ hc180.size
      replace F179 : Cl w178 b170 116 [.int .i64 (y165.1), .int .i64 (0)] := F179
      clear F173
      refine wS_end (by rfl) ?_
      refine eX_then ?_
      refine cW_seq ?_
      refine cW_region ?_
      refine wS_pure 1 [(24, .pointer (some ⟨b6, 0, none⟩))] (by kernel_rfl) ?_
      obtain ⟨y181, hy182, hm⟩ := bindE hm
      refine wS_calls (d := 25) (f := 73) (vs := [.pointer (some ⟨b6, 0, none⟩), .int .i64 (12)]) (by kernel_rfl) ent73 (c_spec_l00Src_pick_bspecl00Src hy182 F153 F169 (Dj.of L0 (low1 G8)).symm) ?_
      rintro _ w183 ⟨rfl, F185, hc184⟩
      replace F153 := F153.chg hc184 (Dj.app (Dj.of L0 (low1 G8)) Dj.nil)
      replace F155 := F155.chg hc184 (Dj.app (D157).symm Dj.nil)
      replace F179 := F179.chg hc184 (dj1 (Dj.app (D176).symm Dj.nil))
      replace hB := hB.inS hc184 (inApp (inLow (low1 G8)) inNil)
      replace hZ := Nat.le_trans hZ hc184.size
      clear F169
      refine ⟨.int .i64 (y181.1), rfl, ?_⟩
      refine wS_pure 1 [(26, .pointer (some ⟨b170, 1, none⟩))] (by kernel_rfl) ?_
      refine wS_store (T := 2) (g := b170) (o := 1) (ad := ⟨b170, 1, none⟩) (v := .int .i64 (y181.1)) (vs := [.int .i64 (y181.1)]) (by kernel_rfl) (by rfl) sz2 (by rfl) (by rfl) F179 (by simp only [List.length_cons, List.length_nil]; omega) ?_
      intro w186 F187 hc188
      replace F153 := F153.chg hc188 (Dj.of L0 (low1 G172))
      replace F185 := F185.chg hc188 (dj1 D176)
      replace F155 := F155.chg hc188 D177
      replace hB := hB.inS hc188 (inLow (low1 G172))
      replace hZ := Nat.le_trans hZ hc188.size
      replace F187 : Cl w186 b170 116 [.int .i64 (y165.1), .int .i64 (y181.1)] := F187
      clear F179
      refine wS_end (by rfl) ?_
      refine eX_then ?_
      refine cW_region ?_
      refine wS_pure 1 [(27, .slice A145 (l144).length cap146)] (by kernel_rfl) ?_
      refine wS_loadA (d := 28) (T := 116) (ad := ⟨b170, 0, none⟩) (vs := [.int .i64 (y165.1), .int .i64 (y181.1)]) (by kernel_rfl) vt116 (fun i u hu => box_cells F187 0 hu (by rfl)) ?_
      refine wS_bs (enc := encII) ([(y165.1, y181.1)] : List (Int × Int)) [.int .i64 (y165.1), .int .i64 (y181.1)] (d := 29) (t := 58) (T := 116) (n := 1) (ps := [(0, .agg #[.int .i64 (y165.1), .int .i64 (y181.1)])]) (by kernel_rfl) el58 encII_ok (by rfl) (by omega) (by omega) (by kernel_rfl) (by rfl) ?_
      intro b189 w190 G191 F192 hc193
      have D195 : Dj [b6] [b189] := Dj.of (lt1 F185.lt) (low1 G191)
      have D196 : Dj fp147 [b189] := Dj.of F155.low (low1 G191)
      have D197 : Dj [b170] [b189] := Dj.of (lt1 F187.lt) (low1 G191)
      replace F153 := F153.chg hc193 Dj.nil
      replace F185 := F185.chg hc193 notNil
      replace F155 := F155.chg hc193 Dj.nil
      replace F187 := F187.chg hc193 notNil
      replace hB := hB.inS hc193 inNil
      replace G191 := Nat.le_trans hZ G191
      replace G191 := low1 G191
      replace hZ := Nat.le_trans hZ hc193.size
      obtain ⟨_, hk198, hm⟩ := bindE hm
      replace hk198 := apE hk198
      refine wS_append (enc := encII) (l := (l144 : List (Int × Int))) (l2 := (([(y165.1, y181.1)] : List (Int × Int)) : List (Int × Int))) (d := 30) (t := 58) (T := 116) (A := A145) (A2 := (some ⟨b189, 0, none⟩)) (cap := cap146) (cap2 := 1) (by kernel_rfl) el58 encII_ok F155 (F192.sl encII_ok) (by rfl) hk198 ?_
      intro w199 fp200 A201 cap202 F203 hc204 hp205
      have G207 := low_ap G156 hZ hp205
      have D208 : Dj [b6] fp200 := Dj.ap D157 (lt1 F185.lt) hp205
      have D209 : Dj [b170] fp200 := Dj.ap (D177).symm (lt1 F187.lt) hp205
      have D210 : Dj [b189] fp200 := Dj.ap (D196).symm F192.low hp205
      replace F153 := F153.chg hc204 (Dj.of L0 G156)
      replace F185 := F185.chg hc204 (dj1 D157)
      replace F187 := F187.chg hc204 (dj1 (D177).symm)
      replace F192 := F192.chg hc204 (D196).symm
      replace hB := hB.inS hc204 (inLow G156)
      replace hZ := Nat.le_trans hZ hc204.size
      refine wS_pure 1 [(6, .slice A201 (l144 ++ (([(y165.1, y181.1)] : List (Int × Int)))).length cap202)] (by kernel_rfl) ?_
      refine wS_end (by rfl) ?_
      refine eX_block ?_
      refine eX_then ?_
      refine cW_region ?_
      refine wS_pure 3 [(7, .int .i64 (wr (x149 - 1))), (20, .int .i64 (wr (x149 - 1))), (19, .int .i64 (x149))] (by kernel_rfl) ?_
      refine wS_end (by rfl) ?_
      have hq : (some (Ctl.next ((l144 ++ (([(y165.1, y181.1)] : List (Int × Int))), wr (x149 - 1), y181.2.1, y181.2.2))) : Option (Ctl ((List (Int × Int)) × Int × Int × Int) ((List (Int × Int))))) = some _ := hm
      replace hq := someE hq
      subst hq
      exact eX_next hx163 (fun hst => ⟨l144 ++ (([(y165.1, y181.1)] : List (Int × Int))), A201, cap202, fp200, wr (x149 - 1), y181.2.1, y181.2.2, rfl, Fr.of hst (by kernel_rfl), F153, F185, F203, G207, D208, hB, hZ⟩)
    · have hm := condF hb164 hm
      refine cW_exit ?_
      refine eX_then_exit ?_
      have hq : (some (Ctl.out l144) : Option (Ctl ((List (Int × Int)) × Int × Int × Int) ((List (Int × Int))))) = some _ := hm
      replace hq := someE hq
      subst hq
      refine eX_outX hx163 (fun hr211 => ?_)
      replace hr211 := hr211.symm
      subst hr211
      refine eX_block_hit ?_
      exact eX_J (fun hst => ⟨l144, A145, cap146, fp147, rfl, Fr.of hst (by kernel_rfl), F155, G156, hB, hZ⟩)
  · rintro a' w134 ⟨l135, A136, cap137, fp138, hJ, hF140, F141, G142, hB, hZ⟩
    subst hJ
    refine Fr.goX hF140 (by kernel_rfl) ?_
    refine eX_then ?_
    refine cW_seq ?_
    refine cW_region ?_
    refine wS_pure 2 [(4, .slice A136 (l135).length cap137), (31, .slice A136 (l135).length cap137)] (by kernel_rfl) ?_
    refine wS_end (by rfl) ?_
    refine eX_then ?_
    refine cW_ret ?_
    have hq : (some l135 : Option ((List (Int × Int)))) = some _ := hm
    replace hq := someE hq
    subst hq
    refine eX_ret (vs := [.slice A136 (l135).length cap137]) [.tmp 4] (by rfl) ⟨by (show lkE _ _ _ = _); kernel_rfl, trivial⟩ ?_
    exact ⟨A136, cap137, fp138, rfl, F141, G142, hB⟩

set_option maxRecDepth 100000 in
/-- spec.R8Joins -/
theorem c_spec_R8Joins {w0 : World} {l0 : List (Int)} {A0 : Option Addr} {cap0 : Nat} {fp0 : List Nat} {p1 : Int} {r : (List (List (Int)))} (hm : m_spec_R8Joins l0 p1 = some r) (F0 : Sl 1 encU w0 fp0 A0 l0) :
    Calls Try.prog 39 #[.slice A0 (l0).length cap0, .int .i64 (p1)] w0 fun e w' => ∃ A100 cap100 fp100 fr100, e = .returned (.slice A100 (r).length cap100) ∧ OwR 1 encI 38 2 w' fp100 fr100 A100 cap100 r ∧ (∀ x ∈ fp100 ++ fr100, w0.heap.size ≤ x) ∧ Chg [] w0 w' := by
  have L0 := F0.low
  have hB : Chg [] w0 w0 := Chg.refl _ _
  have hZ := Nat.le_refl w0.heap.size
  unfold m_spec_R8Joins at hm
  refine enterE (N := 87) Try.func39 (by rfl) Try.ntmps39 (by simp) [(0, .slice A0 (l0).length cap0), (1, .int .i64 (p1))] (by rfl) (by kernel_rfl) (fun a => ?_)
  refine cW_seq ?_
  refine cW_region ?_
  refine wS_pure 1 [(4, .slice none 0 0)] (by kernel_rfl) ?_
  refine wS_end (by rfl) ?_
  refine eX_then ?_
  refine cW_seq ?_
  refine cW_region ?_
  refine wS_pure 1 [(13, .slice A0 (l0).length cap0)] (by kernel_rfl) ?_
  obtain ⟨y2, hy3, hm⟩ := bindE hm
  refine wS_calls (d := 14) (f := 72) (vs := [.slice A0 (l0).length cap0]) (by kernel_rfl) ent72 (c_spec_l00From hy3 F0) ?_
  rintro _ w4 ⟨b6, rfl, F7, G8, hc5⟩
  replace F0 := F0.chg hc5 Dj.nil
  replace hB := hB.inS hc5 inNil
  replace G8 := Nat.le_trans hZ G8
  replace hZ := Nat.le_trans hZ hc5.size
  refine ⟨.pointer (some ⟨b6, 0, none⟩), rfl, ?_⟩
  refine wS_pure 1 [(5, .pointer (some ⟨b6, 0, none⟩))] (by kernel_rfl) ?_
  refine wS_end (by rfl) ?_
  refine eX_then ?_
  refine cW_seq ?_
  refine cW_region ?_
  refine wS_rows0 (k := 1) (enc := encI) (d := 15) (t := 37) (T := 38) (T2 := 2) (by kernel_rfl) el37 ?_
  intro b10 w11 G12 F13 hc14
  have D16 : Dj [b6] ([b10] ++ []) := Dj.of (lt1 F7.lt) (lowApp (low1 G12) lowNil)
  replace F0 := F0.chg hc14 Dj.nil
  replace F7 := F7.chg hc14 notNil
  replace hB := hB.inS hc14 inNil
  replace G12 := Nat.le_trans hZ G12
  replace G12 := low1 G12
  replace hZ := Nat.le_trans hZ hc14.size
  replace G12 := lowApp G12 lowNil
  refine wS_pure 1 [(6, .slice (some ⟨b10, 0, none⟩) (([] : List (List (Int)))).length 0)] (by kernel_rfl) ?_
  refine wS_end (by rfl) ?_
  refine eX_then ?_
  refine cW_seq ?_
  refine cW_region ?_
  refine wS_bs0 (α := Int) (enc := encI) (d := 16) (t := 38) (T := 2) (by kernel_rfl) el38 ?_
  intro b17 w18 G19 F20 hc21
  have D23 : Dj [b6] [b17] := Dj.of (lt1 F7.lt) (low1 G19)
  have D24 : Dj ([b10] ++ []) [b17] := Dj.of F13.low (low1 G19)
  replace F0 := F0.chg hc21 Dj.nil
  replace F7 := F7.chg hc21 notNil
  replace F13 := F13.chg hc21 Dj.nil
  replace hB := hB.inS hc21 inNil
  replace G19 := Nat.le_trans hZ G19
  replace G19 := low1 G19
  replace hZ := Nat.le_trans hZ hc21.size
  refine wS_pure 1 [(7, .slice (some ⟨b17, 0, none⟩) (([] : List (Int))).length 0)] (by kernel_rfl) ?_
  refine wS_end (by rfl) ?_
  refine eX_then ?_
  refine cW_seq ?_
  refine cW_seq ?_
  refine cW_region ?_
  refine wS_pure 1 [(8, .int .i64 (0))] (by kernel_rfl) ?_
  refine wS_end (by rfl) ?_
  refine eX_then ?_
  obtain ⟨r119, hr120, hm⟩ := bindE hm
  have hm121 := hm
  refine cW_cut (fun a' w' => ∃ l91 : List (Int), ∃ A92 : Option Addr, ∃ cap93 : Nat, ∃ fp94 : List Nat, l91 = r119 ∧ Fr 87 [(1, .int .i64 (p1)), (5, .pointer (some ⟨b6, 0, none⟩)), (6, .slice (some ⟨b10, 0, none⟩) (([] : List (List (Int)))).length 0), (7, .slice A92 (l91).length cap93)] a' ∧ Sl 1 encU w' fp0 A0 l0 ∧ Cl w' b6 142 [.slice A0 (l0).length cap0, .int .i64 (y2.1), .int .u64 (y2.2)] ∧ OwR 1 encI 38 2 w' [b10] [] (some ⟨b10, 0, none⟩) 0 (([] : List (List (Int)))) ∧ Ow 1 encI 2 w' fp94 A92 cap93 l91 ∧ (∀ x ∈ fp94, w0.heap.size ≤ x) ∧ Dj [b6] fp94 ∧ Dj ([b10] ++ []) fp94 ∧ Chg [] w0 w' ∧ w0.heap.size ≤ w'.heap.size) ?_ ?_
  · refine cW_block ?_
    refine cW_loop _ (fun (s122 : (List (Int)) × Int) a' w' => ∃ l105 : List (Int), ∃ A106 : Option Addr, ∃ cap107 : Nat, ∃ fp108 : List Nat, ∃ x110 : Int, (l105, x110) = s122 ∧ Fr 87 [(1, .int .i64 (p1)), (5, .pointer (some ⟨b6, 0, none⟩)), (6, .slice (some ⟨b10, 0, none⟩) (([] : List (List (Int)))).length 0), (7, .slice A106 (l105).length cap107), (8, .int .i64 (x110))] a' ∧ Sl 1 encU w' fp0 A0 l0 ∧ Cl w' b6 142 [.slice A0 (l0).length cap0, .int .i64 (y2.1), .int .u64 (y2.2)] ∧ OwR 1 encI 38 2 w' [b10] [] (some ⟨b10, 0, none⟩) 0 (([] : List (List (Int)))) ∧ Ow 1 encI 2 w' fp108 A106 cap107 l105 ∧ (∀ x ∈ fp108, w0.heap.size ≤ x) ∧ Dj [b6] fp108 ∧ Dj ([b10] ++ []) fp108 ∧ Chg [] w0 w' ∧ w0.heap.size ≤ w'.heap.size) hr120 (fun hst => ⟨([] : List (Int)), (some ⟨b17, 0, none⟩), 0, [b17], 0, rfl, Fr.of hst (by kernel_rfl), F0, F7, F13, F20, G19, D23, D24, hB, hZ⟩) ?_
    rintro _ c123 a' w104 ⟨l105, A106, cap107, fp108, x110, rfl, hF111, F112, F113, F114, F115, G116, D117, D118, hB, hZ⟩ hx124
    refine Fr.goOn hF111 (by kernel_rfl) ?_
    have hm := hx124
    unfold m_spec_R8Joins_s1 at hm
    refine cW_seq ?_
    refine cW_seq ?_
    refine cW_region ?_
    refine wS_pure 3 [(19, .bool (decide (x110 < p1))), (18, .int .i64 (p1)), (17, .int .i64 (x110))] (by kernel_rfl) ?_
    refine wS_end (by rfl) ?_
    refine eX_then ?_
    refine cW_cond (t := decide (x110 < p1)) (by kernel_rfl) (fun hb125 => ?_) (fun hb125 => ?_)
    · have hm := condT hb125 hm
      refine cW_skip ?_
      refine eX_then ?_
      refine cW_seq ?_
      refine cW_block ?_
      refine cW_region ?_
      refine wS_pure 2 [(23, .int .i64 (x110)), (22, .slice A106 (l105).length cap107)] (by kernel_rfl) ?_
      refine wS_bs (enc := encI) ([x110] : List (Int)) [.int .i64 (x110)] (d := 24) (t := 38) (T := 2) (n := 1) (ps := [(0, .int .i64 (x110))]) (by kernel_rfl) el38 encI_ok (by rfl) (by omega) (by omega) (by kernel_rfl) (by rfl) ?_
      intro b126 w127 G128 F129 hc130
      have D132 : Dj [b6] [b126] := Dj.of (lt1 F113.lt) (low1 G128)
      have D133 : Dj ([b10] ++ []) [b126] := Dj.of F114.low (low1 G128)
      have D134 : Dj fp108 [b126] := Dj.of F115.low (low1 G128)
      replace F112 := F112.chg hc130 Dj.nil
      replace F113 := F113.chg hc130 notNil
      replace F114 := F114.chg hc130 Dj.nil
      replace F115 := F115.chg hc130 Dj.nil
      replace hB := hB.inS hc130 inNil
      replace G128 := Nat.le_trans hZ G128
      replace G128 := low1 G128
      replace hZ := Nat.le_trans hZ hc130.size
      obtain ⟨_, hk135, hm⟩ := bindE hm
      replace hk135 := apE hk135
      refine wS_append (enc := encI) (l := (l105 : List (Int))) (l2 := (([x110] : List (Int)) : List (Int))) (d := 25) (t := 38) (T := 2) (A := A106) (A2 := (some ⟨b126, 0, none⟩)) (cap := cap107) (cap2 := 1) (by kernel_rfl) el38 encI_ok F115 (F129.sl encI_ok) (by rfl) hk135 ?_
      intro w136 fp137 A138 cap139 F140 hc141 hp142
      have G144 := low_ap G116 hZ hp142
      have D145 : Dj [b6] fp137 := Dj.ap D117 (lt1 F113.lt) hp142
      have D146 : Dj ([b10] ++ []) fp137 := Dj.ap D118 F114.low hp142
      have D147 : Dj [b126] fp137 := Dj.ap (D134).symm F129.low hp142
      replace F112 := F112.chg hc141 (Dj.of L0 G116)
      replace F113 := F113.chg hc141 (dj1 D117)
      replace F114 := F114.chg hc141 D118
      replace F129 := F129.chg hc141 (D134).symm
      replace hB := hB.inS hc141 (inLow G116)
      replace hZ := Nat.le_trans hZ hc141.size
      refine wS_pure 1 [(7, .slice A138 (l105 ++ (([x110] : List (Int)))).length cap139)] (by kernel_rfl) ?_
      refine wS_end (by rfl) ?_
      refine eX_block ?_
      refine eX_then ?_
      refine cW_region ?_
      refine wS_pure 3 [(8, .int .i64 (wr (x110 + 1))), (21, .int .i64 (wr (x110 + 1))), (20, .int .i64 (x110))] (by kernel_rfl) ?_
      refine wS_end (by rfl) ?_
      have hq : (some (Ctl.next ((l105 ++ (([x110] : List (Int))), wr (x110 + 1)))) : Option (Ctl ((List (Int)) × Int) ((List (Int))))) = some _ := hm
      replace hq := someE hq
      subst hq
      exact eX_next hx124 (fun hst => ⟨l105 ++ (([x110] : List (Int))), A138, cap139, fp137, wr (x110 + 1), rfl, Fr.of hst (by kernel_rfl), F112, F113, F114, F140, G144, D145, D146, hB, hZ⟩)
    · have hm := condF hb125 hm
      refine cW_exit ?_
      refine eX_then_exit ?_
      have hq : (some (Ctl.out l105) : Option (Ctl ((List (Int)) × Int) ((List (Int))))) = some _ := hm
      replace hq := someE hq
      subst hq
      refine eX_outX hx124 (fun hr148 => ?_)
      replace hr148 := hr148.symm
      subst hr148
      refine eX_block_hit ?_
      exact eX_J (fun hst => ⟨l105, A106, cap107, fp108, rfl, Fr.of hst (by kernel_rfl), F112, F113, F114, F115, G116, D117, D118, hB, hZ⟩)
  · rintro a' w90 ⟨l91, A92, cap93, fp94, hJ, hF96, F97, F98, F99, F100, G101, D102, D103, hB, hZ⟩
    subst hJ
    refine Fr.goX hF96 (by kernel_rfl) ?_
    refine eX_then ?_
    refine cW_seq ?_
    obtain ⟨r1073, hr1074, hm⟩ := bindE hm
    have hm1075 := hm
    refine cW_cut (fun a' w' => ∃ l1040 : List (List (Int)), ∃ A1041 : Option Addr, ∃ cap1042 : Nat, ∃ fp1043 : List Nat, ∃ fr1045 : List Nat, l1040 = r1073 ∧ Fr 87 [(6, .slice A1041 (l1040).length cap1042)] a' ∧ OwR 1 encI 38 2 w' fp1043 fr1045 A1041 cap1042 l1040 ∧ (∀ x ∈ (fp1043 ++ fr1045), w0.heap.size ≤ x) ∧ Chg [] w0 w' ∧ w0.heap.size ≤ w'.heap.size) ?_ ?_
    · refine cW_block ?_
      refine cW_loop _ (fun (s1076 : (List (List (Int))) × (List (Int)) × Int × Int) a' w' => ∃ l1050 : List (List (Int)), ∃ A1051 : Option Addr, ∃ cap1052 : Nat, ∃ fp1053 : List Nat, ∃ fr1055 : List Nat, ∃ l1056 : List (Int), ∃ A1057 : Option Addr, ∃ cap1058 : Nat, ∃ fp1059 : List Nat, ∃ x1061 : Int, ∃ x1062 : Int, (l1050, l1056, x1061, x1062) = s1076 ∧ Fr 87 [(1, .int .i64 (p1)), (5, .pointer (some ⟨b6, 0, none⟩)), (6, .slice A1051 (l1050).length cap1052), (7, .slice A1057 (l1056).length cap1058)] a' ∧ Sl 1 encU w' fp0 A0 l0 ∧ Cl w' b6 142 [.slice A0 (l0).length cap0, .int .i64 (x1061), .int .u64 (x1062)] ∧ OwR 1 encI 38 2 w' fp1053 fr1055 A1051 cap1052 l1050 ∧ Ow 1 encI 2 w' fp1059 A1057 cap1058 l1056 ∧ (∀ x ∈ (fp1053 ++ fr1055), w0.heap.size ≤ x) ∧ (∀ x ∈ fp1059, w0.heap.size ≤ x) ∧ Dj [b6] (fp1053 ++ fr1055) ∧ Dj fp1059 (fp1053 ++ fr1055) ∧ Dj [b6] fp1059 ∧ Chg [] w0 w' ∧ w0.heap.size ≤ w'.heap.size) hr1074 (fun hst => ⟨([] : List (List (Int))), (some ⟨b10, 0, none⟩), 0, [b10], [], l91, A92, cap93, fp94, y2.1, y2.2, rfl, Fr.of hst (by kernel_rfl), F97, F98, F99, F100, G12, G101, D16, (D103).symm, D102, hB, hZ⟩) ?_
      rintro _ c1077 a' w1049 ⟨l1050, A1051, cap1052, fp1053, fr1055, l1056, A1057, cap1058, fp1059, x1061, x1062, rfl, hF1063, F1064, F1065, F1066, F1067, G1068, G1069, D1070, D1071, D1072, hB, hZ⟩ hx1078
      refine Fr.goOn hF1063 (by kernel_rfl) ?_
      have hm := hx1078
      unfold m_spec_R8Joins_s4 at hm
      refine cW_seq ?_
      refine cW_seq ?_
      refine cW_region ?_
      refine wS_pure 3 [(28, .bool (decide ((((l1056).length : Int)) > 1))), (27, .int .i64 (((l1056).length : Int))), (26, .slice A1057 (l1056).length cap1058)] (by kernel_rfl) ?_
      refine wS_end (by rfl) ?_
      refine eX_then ?_
      refine cW_cond (t := decide ((((l1056).length : Int)) > 1)) (by kernel_rfl) (fun hb1079 => ?_) (fun hb1079 => ?_)
      · have hm := condT hb1079 hm
        refine cW_skip ?_
        refine eX_then ?_
        refine cW_block ?_
        refine cW_seq ?_
        refine cW_region ?_
        refine wS_pure 4 [(32, .int .i64 (wr ((((l1056).length : Int)) - 1))), (31, .int .i64 (((l1056).length : Int))), (30, .slice A1057 (l1056).length cap1058), (29, .pointer (some ⟨b6, 0, none⟩))] (by kernel_rfl) ?_
        obtain ⟨y1080, hy1081, hm⟩ := bindE hm
        refine wS_calls (d := 33) (f := 73) (vs := [.pointer (some ⟨b6, 0, none⟩), .int .i64 (wr ((((l1056).length : Int)) - 1))]) (by kernel_rfl) ent73 (c_spec_l00Src_pick_bspecl00Src hy1081 F1064 F1065 (Dj.of L0 (low1 G8)).symm) ?_
        rintro _ w1082 ⟨rfl, F1084, hc1083⟩
        replace F1064 := F1064.chg hc1083 (Dj.app (Dj.of L0 (low1 G8)) Dj.nil)
        replace F1066 := F1066.chg hc1083 (Dj.app (D1070).symm Dj.nil)
        replace F1067 := F1067.chg hc1083 (Dj.app (D1072).symm Dj.nil)
        replace hB := hB.inS hc1083 (inApp (inLow (low1 G8)) inNil)
        replace hZ := Nat.le_trans hZ hc1083.size
        clear F1065
        refine ⟨.int .i64 (y1080.1), rfl, ?_⟩
        refine wS_pure 1 [(9, .int .i64 (y1080.1))] (by kernel_rfl) ?_
        refine wS_end (by rfl) ?_
        refine eX_then ?_
        refine cW_seq ?_
        refine cW_region ?_
        refine wS_pure 8 [(41, .int .i64 (wr ((wr ((((l1056).length : Int)) - 1)) - y1080.1))), (40, .int .i64 (y1080.1)), (39, .int .i64 (wr ((((l1056).length : Int)) - 1))), (38, .int .i64 (((l1056).length : Int))), (37, .slice A1057 (l1056).length cap1058), (36, .pointer (some ⟨b6, 0, none⟩)), (35, .int .i64 (wr (y1080.1 + 1))), (34, .int .i64 (y1080.1))] (by kernel_rfl) ?_
        obtain ⟨y1085, hy1086, hm⟩ := bindE hm
        refine wS_calls (d := 42) (f := 73) (vs := [.pointer (some ⟨b6, 0, none⟩), .int .i64 (wr ((wr ((((l1056).length : Int)) - 1)) - y1080.1))]) (by kernel_rfl) ent73 (c_spec_l00Src_pick_bspecl00Src hy1086 F1064 F1084 (Dj.of L0 (low1 G8)).symm) ?_
        rintro _ w1087 ⟨rfl, F1089, hc1088⟩
        replace F1064 := F1064.chg hc1088 (Dj.app (Dj.of L0 (low1 G8)) Dj.nil)
        replace F1066 := F1066.chg hc1088 (Dj.app (D1070).symm Dj.nil)
        replace F1067 := F1067.chg hc1088 (Dj.app (D1072).symm Dj.nil)
        replace hB := hB.inS hc1088 (inApp (inLow (low1 G8)) inNil)
        replace hZ := Nat.le_trans hZ hc1088.size
        clear F1084
        refine ⟨.int .i64 (y1085.1), rfl, ?_⟩
        refine wS_pure 2 [(10, .int .i64 (wr ((wr (y1080.1 + 1)) + y1085.1))), (43, .int .i64 (wr ((wr (y1080.1 + 1)) + y1085.1)))] (by kernel_rfl) ?_
        refine wS_end (by rfl) ?_
        refine eX_then ?_
        refine cW_prune [(1, .int .i64 (p1)), (5, .pointer (some ⟨b6, 0, none⟩)), (6, .slice A1051 (l1050).length cap1052), (7, .slice A1057 (l1056).length cap1058), (9, .int .i64 (y1080.1)), (10, .int .i64 (wr ((wr (y1080.1 + 1)) + y1085.1)))] (by kernel_rfl) (by kernel_rfl) (fun a1090 => ?_)
        refine cW_seq ?_
        refine cW_region ?_
        refine wS_bs0 (α := Int) (enc := encI) (d := 44) (t := 38) (T := 2) (by kernel_rfl) el38 ?_
        intro b1091 w1092 G1093 F1094 hc1095
        have D1097 : Dj [b6] [b1091] := Dj.of (lt1 F1089.lt) (low1 G1093)
        have D1098 : Dj (fp1053 ++ fr1055) [b1091] := Dj.of F1066.low (low1 G1093)
        have D1099 : Dj fp1059 [b1091] := Dj.of F1067.low (low1 G1093)
        replace F1064 := F1064.chg hc1095 Dj.nil
        replace F1089 := F1089.chg hc1095 notNil
        replace F1066 := F1066.chg hc1095 Dj.nil
        replace F1067 := F1067.chg hc1095 Dj.nil
        replace hB := hB.inS hc1095 inNil
        replace G1093 := Nat.le_trans hZ G1093
        replace G1093 := low1 G1093
        replace hZ := Nat.le_trans hZ hc1095.size
        refine wS_pure 1 [(11, .slice (some ⟨b1091, 0, none⟩) (([] : List (Int))).length 0)] (by kernel_rfl) ?_
        refine wS_end (by rfl) ?_
        refine eX_then ?_
        refine cW_seq ?_
        refine cW_seq ?_
        refine cW_region ?_
        refine wS_pure 1 [(12, .int .i64 (0))] (by kernel_rfl) ?_
        refine wS_end (by rfl) ?_
        refine eX_then ?_
        obtain ⟨r1305, hr1306, hm⟩ := bindE hm
        have hm1307 := hm
        refine cW_cut (fun a' w' => ∃ l1273 : List (Int), ∃ A1274 : Option Addr, ∃ cap1275 : Nat, ∃ fp1276 : List Nat, l1273 = r1305 ∧ Fr 87 [(1, .int .i64 (p1)), (5, .pointer (some ⟨b6, 0, none⟩)), (6, .slice A1051 (l1050).length cap1052), (7, .slice A1057 (l1056).length cap1058), (9, .int .i64 (y1080.1)), (10, .int .i64 (wr ((wr (y1080.1 + 1)) + y1085.1))), (11, .slice A1274 (l1273).length cap1275)] a' ∧ Sl 1 encU w' fp0 A0 l0 ∧ Cl w' b6 142 [.slice A0 (l0).length cap0, .int .i64 (y1085.2.1), .int .u64 (y1085.2.2)] ∧ OwR 1 encI 38 2 w' fp1053 fr1055 A1051 cap1052 l1050 ∧ Ow 1 encI 2 w' fp1059 A1057 cap1058 l1056 ∧ Ow 1 encI 2 w' fp1276 A1274 cap1275 l1273 ∧ (∀ x ∈ fp1276, w0.heap.size ≤ x) ∧ Dj [b6] fp1276 ∧ Dj (fp1053 ++ fr1055) fp1276 ∧ Dj fp1059 fp1276 ∧ Chg [] w0 w' ∧ w0.heap.size ≤ w'.heap.size) ?_ ?_
        · refine cW_block ?_
          refine cW_loop _ (fun (s1308 : (List (Int)) × Int) a' w' => ∃ l1289 : List (Int), ∃ A1290 : Option Addr, ∃ cap1291 : Nat, ∃ fp1292 : List Nat, ∃ x1294 : Int, (l1289, x1294) = s1308 ∧ Fr 87 [(1, .int .i64 (p1)), (5, .pointer (some ⟨b6, 0, none⟩)), (6, .slice A1051 (l1050).length cap1052), (7, .slice A1057 (l1056).length cap1058), (9, .int .i64 (y1080.1)), (10, .int .i64 (wr ((wr (y1080.1 + 1)) + y1085.1))), (11, .slice A1290 (l1289).length cap1291), (12, .int .i64 (x1294))] a' ∧ Sl 1 encU w' fp0 A0 l0 ∧ Cl w' b6 142 [.slice A0 (l0).length cap0, .int .i64 (y1085.2.1), .int .u64 (y1085.2.2)] ∧ OwR 1 encI 38 2 w' fp1053 fr1055 A1051 cap1052 l1050 ∧ Ow 1 encI 2 w' fp1059 A1057 cap1058 l1056 ∧ Ow 1 encI 2 w' fp1292 A1290 cap1291 l1289 ∧ (∀ x ∈ fp1292, w0.heap.size ≤ x) ∧ Dj [b6] fp1292 ∧ Dj (fp1053 ++ fr1055) fp1292 ∧ Dj fp1059 fp1292 ∧ Chg [] w0 w' ∧ w0.heap.size ≤ w'.heap.size) hr1306 (fun hst => ⟨([] : List (Int)), (some ⟨b1091, 0, none⟩), 0, [b1091], 0, rfl, Fr.of hst (by kernel_rfl), F1064, F1089, F1066, F1067, F1094, G1093, D1097, D1098, D1099, hB, hZ⟩) ?_
          rintro _ c1309 a' w1288 ⟨l1289, A1290, cap1291, fp1292, x1294, rfl, hF1295, F1296, F1297, F1298, F1299, F1300, G1301, D1302, D1303, D1304, hB, hZ⟩ hx1310
          refine Fr.goOn hF1295 (by kernel_rfl) ?_
          have hm := hx1310
          unfold m_spec_R8Joins_s5 at hm
          refine cW_seq ?_
          refine cW_seq ?_
          refine cW_region ?_
          refine wS_pure 4 [(48, .bool (decide (x1294 < (((l1056).length : Int))))), (47, .int .i64 (((l1056).length : Int))), (46, .slice A1057 (l1056).length cap1058), (45, .int .i64 (x1294))] (by kernel_rfl) ?_
          refine wS_end (by rfl) ?_
          refine eX_then ?_
          refine cW_cond (t := decide (x1294 < (((l1056).length : Int)))) (by kernel_rfl) (fun hb1311 => ?_) (fun hb1311 => ?_)
          · have hm := condT hb1311 hm
            refine cW_skip ?_
            refine eX_then ?_
            refine cW_seq ?_
            refine cW_block ?_
            obtain ⟨s1356, hs1357, hm⟩ := bindE hm
            refine cW_cut (fun a' w' => ∃ l1341 : List (Int), ∃ A1342 : Option Addr, ∃ cap1343 : Nat, ∃ fp1344 : List Nat, l1341 = s1356 ∧ Fr 87 [(1, .int .i64 (p1)), (5, .pointer (some ⟨b6, 0, none⟩)), (6, .slice A1051 (l1050).length cap1052), (7, .slice A1057 (l1056).length cap1058), (9, .int .i64 (y1080.1)), (10, .int .i64 (wr ((wr (y1080.1 + 1)) + y1085.1))), (11, .slice A1342 (l1341).length cap1343), (12, .int .i64 (x1294))] a' ∧ Sl 1 encU w' fp0 A0 l0 ∧ Cl w' b6 142 [.slice A0 (l0).length cap0, .int .i64 (y1085.2.1), .int .u64 (y1085.2.2)] ∧ OwR 1 encI 38 2 w' fp1053 fr1055 A1051 cap1052 l1050 ∧ Ow 1 encI 2 w' fp1059 A1057 cap1058 l1056 ∧ Ow 1 encI 2 w' fp1344 A1342 cap1343 l1341 ∧ (∀ x ∈ fp1344, w0.heap.size ≤ x) ∧ Dj [b6] fp1344 ∧ Dj (fp1053 ++ fr1055) fp1344 ∧ Dj fp1059 fp1344 ∧ Chg [] w0 w' ∧ w0.heap.size ≤ w'.heap.size) ?_ ?_
            · have hm := hs1357
              refine cW_seq ?_
              refine cW_region ?_
              refine wS_pure 4 [(54, .bool (x1294 != y1080.1)), (53, .bool (x1294 != y1080.1)), (52, .int .i64 (y1080.1)), (51, .int .i64 (x1294))] (by kernel_rfl) ?_
              refine wS_bool (x1294 != y1080.1) (fun hb1358 => ?_) (fun hb1358 => ?_)
              · have hm := condT hb1358 hm
                rewrite [hb1358]
                refine wS_pure 4 [(58, .bool (x1294 != (wr ((wr (y1080.1 + 1)) + y1085.1)))), (57, .bool (x1294 != (wr ((wr (y1080.1 + 1)) + y1085.1)))), (56, .int .i64 (wr ((wr (y1080.1 + 1)) + y1085.1))), (55, .int .i64 (x1294))] (by kernel_rfl) ?_
                refine wS_end (by rfl) ?_
                refine eX_then ?_
                refine cW_cond (t := x1294 != (wr ((wr (y1080.1 + 1)) + y1085.1))) (by kernel_rfl) (fun hb1359 => ?_) (fun hb1359 => ?_)
                · have hm := condT hb1359 hm
                  refine cW_region ?_
                  refine wS_pure 3 [(61, .int .i64 (x1294)), (60, .slice A1057 (l1056).length cap1058), (59, .slice A1290 (l1289).length cap1291)] (by kernel_rfl) ?_
                  obtain ⟨x1360, hx1361, hm⟩ := bindE hm
                  refine wS_idx (d := 62) (T := 38) (A := A1057) (n := (l1056).length) (cap := cap1058) (kd := .i64) (m := x1294) (by kernel_rfl) sl38 ((F1299.sl encI_ok).is hx1361) ?_
                  refine wS_load1 (d := 63) (T := 2) (ad := (elA A1057 1 (x1294) 0)) (v := .int .i64 (x1360)) (by kernel_rfl) vt2 (Sl.cell (F1299.sl encI_ok) hx1361 0 (by rfl)) ?_
                  refine wS_bs (enc := encI) ([x1360] : List (Int)) [.int .i64 (x1360)] (d := 64) (t := 38) (T := 2) (n := 1) (ps := [(0, .int .i64 (x1360))]) (by kernel_rfl) el38 encI_ok (by rfl) (by omega) (by omega) (by kernel_rfl) (by rfl) ?_
                  intro b1362 w1363 G1364 F1365 hc1366
                  have D1368 : Dj [b6] [b1362] := Dj.of (lt1 F1297.lt) (low1 G1364)
                  have D1369 : Dj (fp1053 ++ fr1055) [b1362] := Dj.of F1298.low (low1 G1364)
                  have D1370 : Dj fp1059 [b1362] := Dj.of F1299.low (low1 G1364)
                  have D1371 : Dj fp1292 [b1362] := Dj.of F1300.low (low1 G1364)
                  replace F1296 := F1296.chg hc1366 Dj.nil
                  replace F1297 := F1297.chg hc1366 notNil
                  replace F1298 := F1298.chg hc1366 Dj.nil
                  replace F1299 := F1299.chg hc1366 Dj.nil
                  replace F1300 := F1300.chg hc1366 Dj.nil
                  replace hB := hB.inS hc1366 inNil
                  replace G1364 := Nat.le_trans hZ G1364
                  replace G1364 := low1 G1364
                  replace hZ := Nat.le_trans hZ hc1366.size
                  obtain ⟨_, hk1372, hm⟩ := bindE hm
                  replace hk1372 := apE hk1372
                  refine wS_append (enc := encI) (l := (l1289 : List (Int))) (l2 := (([x1360] : List (Int)) : List (Int))) (d := 65) (t := 38) (T := 2) (A := A1290) (A2 := (some ⟨b1362, 0, none⟩)) (cap := cap1291) (cap2 := 1) (by kernel_rfl) el38 encI_ok F1300 (F1365.sl encI_ok) (by rfl) hk1372 ?_
                  intro w1373 fp1374 A1375 cap1376 F1377 hc1378 hp1379
                  have G1381 := low_ap G1301 hZ hp1379
                  have D1382 : Dj [b6] fp1374 := Dj.ap D1302 (lt1 F1297.lt) hp1379
                  have D1383 : Dj (fp1053 ++ fr1055) fp1374 := Dj.ap D1303 F1298.low hp1379
                  have D1384 : Dj fp1059 fp1374 := Dj.ap D1304 F1299.low hp1379
                  have D1385 : Dj [b1362] fp1374 := Dj.ap (D1371).symm F1365.low hp1379
                  replace F1296 := F1296.chg hc1378 (Dj.of L0 G1301)
                  replace F1297 := F1297.chg hc1378 (dj1 D1302)
                  replace F1298 := F1298.chg hc1378 D1303
                  replace F1299 := F1299.chg hc1378 D1304
                  replace F1365 := F1365.chg hc1378 (D1371).symm
                  replace hB := hB.inS hc1378 (inLow G1301)
                  replace hZ := Nat.le_trans hZ hc1378.size
                  refine wS_pure 1 [(11, .slice A1375 (l1289 ++ (([x1360] : List (Int)))).length cap1376)] (by kernel_rfl) ?_
                  refine wS_end (by rfl) ?_
                  have hq : (some (l1289 ++ (([x1360] : List (Int)))) : Option ((List (Int)))) = some _ := hm
                  replace hq := someE hq
                  subst hq
                  exact eX_J (fun hst => ⟨l1289 ++ (([x1360] : List (Int))), A1375, cap1376, fp1374, rfl, Fr.of hst (by kernel_rfl), F1296, F1297, F1298, F1299, F1377, G1381, D1382, D1383, D1384, hB, hZ⟩)
                · have hm := condF hb1359 hm
                  refine cW_skip ?_
                  have hq : (some l1289 : Option ((List (Int)))) = some _ := hm
                  replace hq := someE hq
                  subst hq
                  exact eX_J (fun hst => ⟨l1289, A1290, cap1291, fp1292, rfl, Fr.of hst (by kernel_rfl), F1296, F1297, F1298, F1299, F1300, G1301, D1302, D1303, D1304, hB, hZ⟩)
              · have hm := condF hb1358 hm
                rewrite [hb1358]
                refine wS_pure 4 [(58, .bool (false)), (57, undef), (56, undef), (55, undef)] (by kernel_rfl) ?_
                refine wS_end (by rfl) ?_
                refine eX_then ?_
                refine cW_cond_f (by kernel_rfl) ?_
                refine cW_skip ?_
                have hq : (some l1289 : Option ((List (Int)))) = some _ := hm
                replace hq := someE hq
                subst hq
                exact eX_J (fun hst => ⟨l1289, A1290, cap1291, fp1292, rfl, Fr.of hst (by kernel_rfl), F1296, F1297, F1298, F1299, F1300, G1301, D1302, D1303, D1304, hB, hZ⟩)
            · rintro a' w1340 ⟨l1341, A1342, cap1343, fp1344, hJ, hF1346, F1347, F1348, F1349, F1350, F1351, G1352, D1353, D1354, D1355, hB, hZ⟩
              subst hJ
              refine Fr.goX hF1346 (by kernel_rfl) ?_
              refine eX_block ?_
              refine eX_then ?_
              refine cW_region ?_
              refine wS_pure 3 [(12, .int .i64 (wr (x1294 + 1))), (50, .int .i64 (wr (x1294 + 1))), (49, .int .i64 (x1294))] (by kernel_rfl) ?_
              refine wS_end (by rfl) ?_
              have hq : (some (Ctl.next ((l1341, wr (x1294 + 1)))) : Option (Ctl ((List (Int)) × Int) ((List (Int))))) = some _ := hm
              replace hq := someE hq
              subst hq
              exact eX_next hx1310 (fun hst => ⟨l1341, A1342, cap1343, fp1344, wr (x1294 + 1), rfl, Fr.of hst (by kernel_rfl), F1347, F1348, F1349, F1350, F1351, G1352, D1353, D1354, D1355, hB, hZ⟩)
          · have hm := condF hb1311 hm
            refine cW_exit ?_
            refine eX_then_exit ?_
            have hq : (some (Ctl.out l1289) : Option (Ctl ((List (Int)) × Int) ((List (Int))))) = some _ := hm
            replace hq := someE hq
            subst hq
            refine eX_outX hx1310 (fun hr1386 => ?_)
            replace hr1386 := hr1386.symm
            subst hr1386
            refine eX_block_hit ?_
            exact eX_J (fun hst => ⟨l1289, A1290, cap1291, fp1292, rfl, Fr.of hst (by kernel_rfl), F1296, F1297, F1298, F1299, F1300, G1301, D1302, D1303, D1304, hB, hZ⟩)
        · rintro a' w1272 ⟨l1273, A1274, cap1275, fp1276, hJ, hF1278, F1279, F1280, F1281, F1282, F1283, G1284, D1285, D1286, D1287, hB, hZ⟩
          subst hJ
          refine Fr.goX hF1278 (by kernel_rfl) ?_
          refine eX_then ?_
          refine cW_seq ?_
          refine cW_region ?_
          refine wS_pure 5 [(70, .int .i64 (wr (p1 + (((l1050).length : Int))))), (69, .int .i64 (((l1050).length : Int))), (68, .slice A1051 (l1050).length cap1052), (67, .int .i64 (p1)), (66, .slice A1274 (l1273).length cap1275)] (by kernel_rfl) ?_
          refine wS_bs (enc := encI) ([wr (p1 + (((l1050).length : Int)))] : List (Int)) [.int .i64 (wr (p1 + (((l1050).length : Int))))] (d := 71) (t := 38) (T := 2) (n := 1) (ps := [(0, .int .i64 (wr (p1 + (((l1050).length : Int)))))]) (by kernel_rfl) el38 encI_ok (by rfl) (by omega) (by omega) (by kernel_rfl) (by rfl) ?_
          intro b1387 w1388 G1389 F1390 hc1391
          have D1393 : Dj [b6] [b1387] := Dj.of (lt1 F1280.lt) (low1 G1389)
          have D1394 : Dj (fp1053 ++ fr1055) [b1387] := Dj.of F1281.low (low1 G1389)
          have D1395 : Dj fp1059 [b1387] := Dj.of F1282.low (low1 G1389)
          have D1396 : Dj fp1276 [b1387] := Dj.of F1283.low (low1 G1389)
          replace F1279 := F1279.chg hc1391 Dj.nil
          replace F1280 := F1280.chg hc1391 notNil
          replace F1281 := F1281.chg hc1391 Dj.nil
          replace F1282 := F1282.chg hc1391 Dj.nil
          replace F1283 := F1283.chg hc1391 Dj.nil
          replace hB := hB.inS hc1391 inNil
          replace G1389 := Nat.le_trans hZ G1389
          replace G1389 := low1 G1389
          replace hZ := Nat.le_trans hZ hc1391.size
          obtain ⟨_, hk1397, hm⟩ := bindE hm
          replace hk1397 := apE hk1397
          refine wS_append (enc := encI) (l := (l1273 : List (Int))) (l2 := (([wr (p1 + (((l1050).length : Int)))] : List (Int)) : List (Int))) (d := 72) (t := 38) (T := 2) (A := A1274) (A2 := (some ⟨b1387, 0, none⟩)) (cap := cap1275) (cap2 := 1) (by kernel_rfl) el38 encI_ok F1283 (F1390.sl encI_ok) (by rfl) hk1397 ?_
          intro w1398 fp1399 A1400 cap1401 F1402 hc1403 hp1404
          have G1406 := low_ap G1284 hZ hp1404
          have D1407 : Dj [b6] fp1399 := Dj.ap D1285 (lt1 F1280.lt) hp1404
          have D1408 : Dj (fp1053 ++ fr1055) fp1399 := Dj.ap D1286 F1281.low hp1404
          have D1409 : Dj fp1059 fp1399 := Dj.ap D1287 F1282.low hp1404
          have D1410 : Dj [b1387] fp1399 := Dj.ap (D1396).symm F1390.low hp1404
          replace F1279 := F1279.chg hc1403 (Dj.of L0 G1284)
          replace F1280 := F1280.chg hc1403 (dj1 D1285)
          replace F1281 := F1281.chg hc1403 D1286
          replace F1282 := F1282.chg hc1403 D1287
          replace F1390 := F1390.chg hc1403 (D1396).symm
          replace hB := hB.inS hc1403 (inLow G1284)
          replace hZ := Nat.le_trans hZ hc1403.size
          refine wS_pure 1 [(11, .slice A1400 (l1273 ++ (([wr (p1 + (((l1050).length : Int)))] : List (Int)))).length cap1401)] (by kernel_rfl) ?_
          refine wS_end (by rfl) ?_
          refine eX_then ?_
          refine cW_seq ?_
          refine cW_drawnTail [] 11 (by kernel_rfl) (by kernel_rfl) (fun w1460 hc1461 => ?_)
          replace F1279 := F1279.chg hc1461 Dj.nil
          replace F1280 := F1280.chg hc1461 notNil
          replace F1281 := F1281.chg hc1461 Dj.nil
          replace F1282 := F1282.chg hc1461 Dj.nil
          replace F1390 := F1390.chg hc1461 Dj.nil
          replace F1402 := F1402.chg hc1461 Dj.nil
          replace hB := hB.inS hc1461 inNil
          replace hZ := Nat.le_trans hZ hc1461.size
          have hS := Chg.refl [] w1460
          have Z1462 := F1279
          have Z1463 := F1280
          have Z1464 := F1281
          have Z1465 := F1282
          have Z1466 := F1390
          have Z1467 := F1402
          refine wH_take [0, 1, 2] [2, 1, 0] [(75, .int .i64 (y1080.1)), (74, .slice A1057 (l1056).length cap1058), (73, .slice A1051 (l1050).length cap1052)] (by kernel_rfl) (qT (qT (qB (qL (qB (qT (qT qZ))))))) (by kernel_rfl) ?_
          obtain ⟨x1468, hx1469, hm⟩ := bindE hm
          refine wH_idx (i := 3) (d := 76) (T := 38) (A := A1057) (n := (l1056).length) (cap := cap1058) (kd := .i64) (m := y1080.1) (by kernel_rfl) (qT (qT (qB (qL (qB (qT (qT qZ))))))) (by kernel_rfl) (by kernel_rfl) sl38 ((F1282.sl encI_ok).is hx1469) ?_
          refine wH_load1 (i := 4) (d := 77) (T := 2) (ad := (elA A1057 1 (y1080.1) 0)) (v := .int .i64 (x1468)) (by kernel_rfl) (qT (qT (qB (qL (qB (qT (qT qZ))))))) (by kernel_rfl) (by kernel_rfl) vt2 (fun W hW => Sl.cell ((Z1465.chg hW Dj.nil).sl encI_ok) hx1469 0 (by rfl)) ?_
          refine wH_take [5, 6] [6, 5, 4, 3, 2, 1, 0] [(79, .int .i64 (wr ((wr (y1080.1 + 1)) + y1085.1))), (78, .slice A1057 (l1056).length cap1058)] (by kernel_rfl) (qT (qT (qB (qL (qB (qT (qT qZ))))))) (by kernel_rfl) ?_
          obtain ⟨x1470, hx1471, hm⟩ := bindE hm
          refine wH_idx (i := 7) (d := 80) (T := 38) (A := A1057) (n := (l1056).length) (cap := cap1058) (kd := .i64) (m := wr ((wr (y1080.1 + 1)) + y1085.1)) (by kernel_rfl) (qT (qT (qB (qL (qB (qT (qT qZ))))))) (by kernel_rfl) (by kernel_rfl) sl38 ((F1282.sl encI_ok).is hx1471) ?_
          refine wH_load1 (i := 8) (d := 81) (T := 2) (ad := (elA A1057 1 (wr ((wr (y1080.1 + 1)) + y1085.1)) 0)) (v := .int .i64 (x1470)) (by kernel_rfl) (qT (qT (qB (qL (qB (qT (qT qZ))))))) (by kernel_rfl) (by kernel_rfl) vt2 (fun W hW => Sl.cell ((Z1465.chg hW Dj.nil).sl encI_ok) hx1471 0 (by rfl)) ?_
          refine wH_all [9] (by rfl) (by kernel_rfl) (by simp) ⟨⟨by kernel_rfl, ?_⟩, trivial⟩
          refine wS_bs (enc := encI) ([x1468, x1470] : List (Int)) [.int .i64 (x1468), .int .i64 (x1470)] (d := 82) (t := 38) (T := 2) (n := 2) (ps := [(0, .int .i64 (x1468)), (1, .int .i64 (x1470))]) (by kernel_rfl) el38 encI_ok (by rfl) (by omega) (by omega) (by kernel_rfl) (by rfl) ?_
          intro b1472 w1473 G1474 F1475 hc1476
          have D1478 : Dj [b6] [b1472] := Dj.of (lt1 F1280.lt) (low1 G1474)
          have D1479 : Dj (fp1053 ++ fr1055) [b1472] := Dj.of F1281.low (low1 G1474)
          have D1480 : Dj fp1059 [b1472] := Dj.of F1282.low (low1 G1474)
          have D1481 : Dj [b1387] [b1472] := Dj.of F1390.low (low1 G1474)
          have D1482 : Dj fp1399 [b1472] := Dj.of F1402.low (low1 G1474)
          replace F1279 := F1279.chg hc1476 Dj.nil
          replace F1280 := F1280.chg hc1476 notNil
          replace F1281 := F1281.chg hc1476 Dj.nil
          replace F1282 := F1282.chg hc1476 Dj.nil
          replace F1390 := F1390.chg hc1476 Dj.nil
          replace F1402 := F1402.chg hc1476 Dj.nil
          replace hB := hB.inS hc1476 inNil
          have hSz := hS
          replace hS := hS.inS hc1476 inNil
          have Gz1483 := low1 (Nat.le_trans hSz.size G1474)
          replace G1474 := Nat.le_trans hZ G1474
          replace G1474 := low1 G1474
          replace hZ := Nat.le_trans hZ hc1476.size
          refine wS_end (by kernel_rfl) ?_
          refine eX_KH hS ?_
          refine wH_all [10] (by rfl) (by kernel_rfl) (by simp) ⟨⟨by kernel_rfl, ?_⟩, trivial⟩
          refine wS_row1 (k := 1) (enc := encI) (l := ([x1468, x1470] : List (Int))) (d := 83) (t := 37) (T := 38) (B := (some ⟨b1472, 0, none⟩)) (c := 2) (by kernel_rfl) el37 F1475 ?_
          intro b1484 w1485 G1486 F1487 hc1488
          have D1490 : Dj [b6] ([b1484] ++ [b1472]) := Dj.app (Dj.of (lt1 F1280.lt) (low1 G1486)) D1478
          have D1491 : Dj (fp1053 ++ fr1055) ([b1484] ++ [b1472]) := Dj.app (Dj.of F1281.low (low1 G1486)) D1479
          have D1492 : Dj fp1059 ([b1484] ++ [b1472]) := Dj.app (Dj.of F1282.low (low1 G1486)) D1480
          have D1493 : Dj [b1387] ([b1484] ++ [b1472]) := Dj.app (Dj.of F1390.low (low1 G1486)) D1481
          have D1494 : Dj fp1399 ([b1484] ++ [b1472]) := Dj.app (Dj.of F1402.low (low1 G1486)) D1482
          replace F1279 := F1279.chg hc1488 Dj.nil
          replace F1280 := F1280.chg hc1488 notNil
          replace F1281 := F1281.chg hc1488 Dj.nil
          replace F1282 := F1282.chg hc1488 Dj.nil
          replace F1390 := F1390.chg hc1488 Dj.nil
          replace F1402 := F1402.chg hc1488 Dj.nil
          replace F1475 := F1475.chg hc1488 Dj.nil
          replace hB := hB.inS hc1488 inNil
          have hSz := hS
          replace hS := hS.inS hc1488 inNil
          replace G1486 := Nat.le_trans hZ G1486
          replace G1486 := lowApp (low1 G1486) G1474
          replace hZ := Nat.le_trans hZ hc1488.size
          replace F1475 := (F1475.sl encI_ok)
          refine wS_end (by kernel_rfl) ?_
          refine eX_KH hS ?_
          refine wH_done (by kernel_rfl) ?_
          refine eX_tail ?_
          obtain ⟨_, hk1495, hm⟩ := bindE hm
          replace hk1495 := apE hk1495
          refine wS_appendR (k := 1) (enc := encI) (ll := (l1050 : List (List (Int)))) (ll2 := (([([x1468, x1470] : List (Int))] : List (List (Int))) : List (List (Int)))) (d := 84) (t := 37) (T := 38) (A := A1051) (A2 := (some ⟨b1484, 0, none⟩)) (cap := cap1052) (cap2 := 1) (by kernel_rfl) el37 F1281 F1487 (by rfl) D1491 hk1495 ?_
          intro w1496 fp1497 A1498 cap1499 F1500 hc1501 hp1502
          have G1504 := lowApp (low_ap (low_inl G1068) hZ hp1502) (lowApp (low_inr G1068) (low_inr G1486))
          have D1505 : Dj [b6] (fp1497 ++ (fr1055 ++ [b1472])) := Dj.app (Dj.ap (Dj.inl D1070) (lt1 F1280.lt) hp1502) (Dj.app (Dj.inr D1070) (Dj.inr D1490))
          have D1506 : Dj fp1059 (fp1497 ++ (fr1055 ++ [b1472])) := Dj.app (Dj.ap (Dj.inl D1071) F1282.low hp1502) (Dj.app (Dj.inr D1071) (Dj.inr D1492))
          have D1507 : Dj [b1387] (fp1497 ++ (fr1055 ++ [b1472])) := Dj.app (Dj.ap (Dj.inl (D1394).symm) F1390.low hp1502) (Dj.app (Dj.inr (D1394).symm) (Dj.inr D1493))
          have D1508 : Dj fp1399 (fp1497 ++ (fr1055 ++ [b1472])) := Dj.app (Dj.ap (Dj.inl (D1408).symm) F1402.low hp1502) (Dj.app (Dj.inr (D1408).symm) (Dj.inr D1494))
          replace F1279 := F1279.chg hc1501 (Dj.inl (Dj.of L0 G1068))
          replace F1280 := F1280.chg hc1501 (dj1 (Dj.inl D1070))
          replace F1282 := F1282.chg hc1501 (Dj.inl D1071)
          replace F1390 := F1390.chg hc1501 (Dj.inl (D1394).symm)
          replace F1402 := F1402.chg hc1501 (Dj.inl (D1408).symm)
          replace hB := hB.inS hc1501 (memS_inl (inLow G1068))
          replace hZ := Nat.le_trans hZ hc1501.size
          refine wS_pure 1 [(6, .slice A1498 (l1050 ++ (([([x1468, x1470] : List (Int))] : List (List (Int))))).length cap1499)] (by kernel_rfl) ?_
          refine wS_end (by rfl) ?_
          refine eX_then ?_
          refine cW_prune [(1, .int .i64 (p1)), (5, .pointer (some ⟨b6, 0, none⟩)), (6, .slice A1498 (l1050 ++ (([([x1468, x1470] : List (Int))] : List (List (Int))))).length cap1499), (11, .slice A1400 (l1273 ++ (([wr (p1 + (((l1050).length : Int)))] : List (Int)))).length cap1401)] (by kernel_rfl) (by kernel_rfl) (fun a1509 => ?_)
          refine cW_region ?_
          refine wS_pure 2 [(7, .slice A1400 (l1273 ++ (([wr (p1 + (((l1050).length : Int)))] : List (Int)))).length cap1401), (85, .slice A1400 (l1273 ++ (([wr (p1 + (((l1050).length : Int)))] : List (Int)))).length cap1401)] (by kernel_rfl) ?_
          refine wS_end (by rfl) ?_
          refine eX_block ?_
          have hq : (some (Ctl.next ((l1050 ++ (([([x1468, x1470] : List (Int))] : List (List (Int)))), l1273 ++ (([wr (p1 + (((l1050).length : Int)))] : List (Int))), y1085.2.1, y1085.2.2))) : Option (Ctl ((List (List (Int))) × (List (Int)) × Int × Int) ((List (List (Int)))))) = some _ := hm
          replace hq := someE hq
          subst hq
          exact eX_next hx1078 (fun hst => ⟨l1050 ++ (([([x1468, x1470] : List (Int))] : List (List (Int)))), A1498, cap1499, fp1497, (fr1055 ++ [b1472]), l1273 ++ (([wr (p1 + (((l1050).length : Int)))] : List (Int))), A1400, cap1401, fp1399, y1085.2.1, y1085.2.2, rfl, Fr.of hst (by kernel_rfl), F1279, F1280, F1500, F1402, G1504, G1406, D1505, D1508, D1407, hB, hZ⟩)
      · have hm := condF hb1079 hm
        refine cW_exit ?_
        refine eX_then_exit ?_
        have hq : (some (Ctl.out l1050) : Option (Ctl ((List (List (Int))) × (List (Int)) × Int × Int) ((List (List (Int)))))) = some _ := hm
        replace hq := someE hq
        subst hq
        refine eX_outX hx1078 (fun hr1510 => ?_)
        replace hr1510 := hr1510.symm
        subst hr1510
        refine eX_block_hit ?_
        exact eX_J (fun hst => ⟨l1050, A1051, cap1052, fp1053, fr1055, rfl, Fr.of hst (by kernel_rfl), F1066, G1068, hB, hZ⟩)
    · rintro a' w1039 ⟨l1040, A1041, cap1042, fp1043, fr1045, hJ, hF1046, F1047, G1048, hB, hZ⟩
      subst hJ
      refine Fr.goX hF1046 (by kernel_rfl) ?_
      refine eX_then ?_
      refine cW_seq ?_
      refine cW_region ?_
      refine wS_pure 2 [(4, .slice A1041 (l1040).length cap1042), (86, .slice A1041 (l1040).length cap1042)] (by kernel_rfl) ?_
      refine wS_end (by rfl) ?_
      refine eX_then ?_
      refine cW_ret ?_
      have hq : (some l1040 : Option ((List (List (Int))))) = some _ := hm
      replace hq := someE hq
      subst hq
      refine eX_ret (vs := [.slice A1041 (l1040).length cap1042]) [.tmp 4] (by rfl) ⟨by (show lkE _ _ _ = _); kernel_rfl, trivial⟩ ?_
      exact ⟨A1041, cap1042, fp1043, fr1045, rfl, F1047, G1048, hB⟩

end Go.Proofs.Ytajnjbmniobjhaa
