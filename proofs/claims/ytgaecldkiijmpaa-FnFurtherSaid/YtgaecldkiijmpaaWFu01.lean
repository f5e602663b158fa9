/- Printed walks: spec.l00From, (*spec.l00Src).next, (*spec.l00Src).pick, impl.in, impl.IsPoint, impl.noPoint, impl.size, impl.far, slices.IndexFunc[[]impl.Point,impl.Point], slices.ContainsFunc[[]impl.Point,impl.Point], spec.l00In, spec.l01Index, spec.l01Point, spec.l05Is, spec.l00Max, spec.l01Abs, spec.l01Far, spec.l05Tree, spec.l03Less, spec.l05Pairs, spec.l05Pairs, impl.pinsOk, impl.spanning, laws.b10Long. -/
import Derived.Test.YtgaecldkiijmpaaProg
import Derived.Test.YtgaecldkiijmpaaMod
import Derived.Test.YtgaecldkiijmpaaEqs
import Derived.Test.YtgaecldkiijmpaaSrtC
import Derived.Test.YtgaecldkiijmpaaSrtR
import Derived.Test.YtgaecldkiijmpaaClp
import Derived.Test.YtgaecldkiijmpaaIds
import Derived.Test.YtgaecldkiijmpaaWSo01
set_option linter.unusedSimpArgs false
set_option linter.unusedVariables false
namespace Go.Proofs.Ytgaecldkiijmpaa
open Go.RowKit
attribute [local irreducible] wS cW eX wH

theorem ent71 : Ent Try.prog 71 := fun _ => by kernel_rfl
theorem ent79 : Ent Try.prog 79 := fun _ => by kernel_rfl
theorem ent84 : Ent Try.prog 84 := fun _ => by kernel_rfl
theorem ent85 : Ent Try.prog 85 := fun _ => by kernel_rfl
theorem ent132 : Ent Try.prog 132 := fun _ => by kernel_rfl
theorem ent136 : Ent Try.prog 136 := fun _ => by kernel_rfl
theorem ent137 : Ent Try.prog 137 := fun _ => by kernel_rfl
theorem ent143 : Ent Try.prog 143 := fun _ => by kernel_rfl
theorem ent147 : Ent Try.prog 147 := fun _ => by kernel_rfl
theorem ent153 : Ent Try.prog 153 := fun _ => by kernel_rfl
theorem ent154 : Ent Try.prog 154 := fun _ => by kernel_rfl
theorem ent156 : Ent Try.prog 156 := fun _ => by kernel_rfl
theorem ent165 : Ent Try.prog 165 := fun _ => by kernel_rfl
theorem ent167 : Ent Try.prog 167 := fun _ => by kernel_rfl
theorem ent175 : Ent Try.prog 175 := fun _ => by kernel_rfl
theorem ent184 : Ent Try.prog 184 := fun _ => by kernel_rfl
theorem ent192 : Ent Try.prog 192 := fun _ => by kernel_rfl
theorem vt4 : VarTy Try.prog 4 1 false := ⟨by kernel_rfl, by kernel_rfl⟩
theorem vt5 : VarTy Try.prog 5 1 false := ⟨by kernel_rfl, by kernel_rfl⟩
theorem vt22 : VarTy Try.prog 22 1 false := ⟨by kernel_rfl, by kernel_rfl⟩
theorem vt25 : VarTy Try.prog 25 1 false := ⟨by kernel_rfl, by kernel_rfl⟩
theorem vt145 : VarTy Try.prog 145 1 false := ⟨by kernel_rfl, by kernel_rfl⟩
theorem sl22 : SlTy Try.prog 22 5 1 := ⟨Try.underlying22, by kernel_rfl⟩
theorem sl40 : SlTy Try.prog 40 25 1 := ⟨Try.underlying40, by kernel_rfl⟩
theorem sl136 : SlTy Try.prog 136 4 1 := ⟨Try.underlying136, by kernel_rfl⟩
theorem el25 : ElTy Try.prog 25 2 1 (.int .i64 (0)) := ElTy.mk' Try.underlying25 (by kernel_rfl) (by rfl)
theorem el40 : ElTy Try.prog 40 25 1 (.slice none 0 0) := ElTy.mk' Try.underlying40 (by kernel_rfl) (by rfl)
theorem el136 : ElTy Try.prog 136 4 1 (.bool (false)) := ElTy.mk' Try.underlying136 (by kernel_rfl) (by rfl)
theorem sz3 : pureRun Try.prog (sizeOf 3) = some 1 := by kernel_rfl
theorem sz4 : pureRun Try.prog (sizeOf 4) = some 1 := by kernel_rfl
theorem sz145 : pureRun Try.prog (sizeOf 145) = some 1 := by kernel_rfl

set_option maxRecDepth 100000 in
/-- spec.l00From -/
theorem c_spec_l00From {w0 : World} {l0 : List (Int)} {A0 : Option Addr} {cap0 : Nat} {fp0 : List Nat} {r : (Int × Int)} (hm : m_spec_l00From l0 = some r) (F0 : Sl 1 encU w0 fp0 A0 l0) :
    Calls Try.prog 66 #[.slice A0 (l0).length cap0] w0 fun e w' => ∃ b100, e = .returned (.pointer (some ⟨b100, 0, none⟩)) ∧ Cl w' b100 147 [.slice A0 (l0).length cap0, .int .i64 (r.1), .int .u64 (r.2)] ∧ w0.heap.size ≤ b100 ∧ Chg [] w0 w' := by
  have L0 := F0.low
  have hB : Chg [] w0 w0 := Chg.refl _ _
  have hZ := Nat.le_refl w0.heap.size
  unfold m_spec_l00From at hm
  refine enterE (N := 6) Try.func66 (by rfl) Try.ntmps66 (by simp) [(0, .slice A0 (l0).length cap0)] (by rfl) (by kernel_rfl) (fun a => ?_)
  refine cW_seq ?_
  refine cW_region ?_
  refine wS_pure 1 [(2, .pointer none)] (by kernel_rfl) ?_
  refine wS_end (by rfl) ?_
  refine eX_then ?_
  refine cW_seq ?_
  refine cW_region ?_
  refine wS_pure 2 [(4, .agg #[.slice A0 (l0).length cap0, .int .i64 (0), .int .u64 (0)]), (3, .slice A0 (l0).length cap0)] (by kernel_rfl) ?_
  refine wS_box (d := 5) (T := 147) (x := .agg #[.slice A0 (l0).length cap0, .int .i64 (0), .int .u64 (0)]) (by kernel_rfl) ?_
  intro b2 w3 G4 F5 hc6
  replace F5 : Cl w3 b2 147 [.slice A0 (l0).length cap0, .int .i64 (0), .int .u64 (0)] := F5
  replace F0 := F0.chg hc6 Dj.nil
  replace hB := hB.inS hc6 inNil
  replace G4 := Nat.le_trans hZ G4
  replace hZ := Nat.le_trans hZ hc6.size
  refine wS_pure 1 [(2, .pointer (some ⟨b2, 0, none⟩))] (by kernel_rfl) ?_
  refine wS_end (by rfl) ?_
  refine eX_then ?_
  refine cW_ret ?_
  have hq : (some ((0, 0)) : Option ((Int × Int))) = some _ := hm
  replace hq := someE hq
  subst hq
  refine eX_ret (vs := [.pointer (some ⟨b2, 0, none⟩)]) [.tmp 2] (by rfl) ⟨by (show lkE _ _ _ = _); kernel_rfl, trivial⟩ ?_
  exact ⟨b2, rfl, F5, G4, hB⟩

set_option maxRecDepth 100000 in
/-- spec.l00Src).next -/
theorem c_spec_l00Src_next_bspecl00Src {w0 : World} {l0_0 : List (Int)} {A0_0 : Option Addr} {cap0_0 : Nat} {fp0_0 : List Nat} {q0_1 : Int} {q0_2 : Int} {b0 : Nat} {r : (Int) × (Int) × (Int)} (hm : m_spec_l00Src_next_bspecl00Src l0_0 q0_1 q0_2 = some r) (F0_0 : Sl 1 encU w0 fp0_0 A0_0 l0_0) (F0 : Cl w0 b0 147 [.slice A0_0 (l0_0).length cap0_0, .int .i64 (q0_1), .int .u64 (q0_2)]) (J0__0_0 : Dj [b0] fp0_0) :
    Calls Try.prog 132 #[.pointer (some ⟨b0, 0, none⟩)] w0 fun e w' => e = .returned (.int .i64 (r.1)) ∧ Cl w' b0 147 [.slice A0_0 (l0_0).length cap0_0, .int .i64 (r.2.1), .int .u64 (r.2.2)] ∧ Chg ([b0] ++ []) w0 w' := by
  have L0_0 := F0_0.low
  have L0 := lt1 F0.lt
  have hB : Chg ([b0] ++ []) w0 w0 := Chg.refl _ _
  have hZ := Nat.le_refl w0.heap.size
  unfold m_spec_l00Src_next_bspecl00Src at hm
  refine enterE (N := 62) Try.func132 (by rfl) Try.ntmps132 (by simp) [(0, .pointer (some ⟨b0, 0, none⟩))] (by rfl) (by kernel_rfl) (fun a => ?_)
  refine cW_seq ?_
  refine cW_region ?_
  refine wS_pure 1 [(2, .int .i64 (0))] (by kernel_rfl) ?_
  refine wS_end (by rfl) ?_
  refine eX_then ?_
  refine cW_seq ?_
  refine cW_region ?_
  refine wS_pure 1 [(3, .int .i64 (0))] (by kernel_rfl) ?_
  refine wS_end (by rfl) ?_
  refine eX_then ?_
  refine cW_seq ?_
  obtain ⟨s29, hs30, hm⟩ := bindE hm
  refine cW_cut (fun a' w' => ∃ x25 : Int, x25 = s29 ∧ Fr 62 [(0, .pointer (some ⟨b0, 0, none⟩)), (3, .int .i64 (x25))] a' ∧ Sl 1 encU w' fp0_0 A0_0 l0_0 ∧ Cl w' b0 147 [.slice A0_0 (l0_0).length cap0_0, .int .i64 (q0_1), .int .u64 (q0_2)] ∧ Chg ([b0] ++ []) w0 w' ∧ w0.heap.size ≤ w'.heap.size) ?_ ?_
  · have hm := hs30
    refine cW_seq ?_
    refine cW_drawnTail [] 9 (by kernel_rfl) (by kernel_rfl) (fun w35 hc36 => ?_)
    replace F0_0 := F0_0.chg hc36 Dj.nil
    replace F0 := F0.chg hc36 notNil
    replace hB := hB.inS hc36 inNil
    replace hZ := Nat.le_trans hZ hc36.size
    have hS := Chg.refl [] w35
    have Z37 := F0_0
    have Z38 := F0
    refine wH_take [0, 1, 2] [2, 1, 0] [(6, .pointer (some ⟨b0, 1, none⟩)), (5, .pointer (some ⟨b0, 0, none⟩)), (4, .pointer (some ⟨b0, 0, none⟩))] (by kernel_rfl) (qT (qT (qT (qT qZ)))) (by kernel_rfl) ?_
    refine wH_load1 (i := 3) (d := 7) (T := 3) (ad := ⟨b0, 1, none⟩) (v := .int .i64 (q0_1)) (by kernel_rfl) (qT (qT (qT (qT qZ)))) (by kernel_rfl) (by kernel_rfl) vt3 (fun W hW => (Z38.chg hW notNil).cell 1) ?_
    refine wH_take [4, 5, 6] [6, 5, 4, 3, 2, 1, 0] [(10, .pointer (some ⟨b0, 0, none⟩)), (9, .pointer (some ⟨b0, 0, none⟩)), (8, .pointer (some ⟨b0, 0, none⟩))] (by kernel_rfl) (qT (qT (qT (qT qZ)))) (by kernel_rfl) ?_
    refine wH_load1 (i := 7) (d := 11) (T := 22) (ad := ⟨b0, 0, none⟩) (v := .slice A0_0 (l0_0).length cap0_0) (by kernel_rfl) (qT (qT (qT (qT qZ)))) (by kernel_rfl) (by kernel_rfl) vt22 (fun W hW => (Z38.chg hW notNil).cell 0) ?_
    refine wH_take [8] [8, 7, 6, 5, 4, 3, 2, 1, 0] [(12, .int .i64 (((l0_0).length : Int)))] (by kernel_rfl) (qT (qT (qT (qT qZ)))) (by kernel_rfl) ?_
    refine wH_done (by kernel_rfl) ?_
    refine eX_tail ?_
    refine wS_pure 1 [(13, .bool (decide (q0_1 < (((l0_0).length : Int)))))] (by kernel_rfl) ?_
    refine wS_end (by rfl) ?_
    refine eX_then ?_
    refine cW_cond (t := decide (q0_1 < (((l0_0).length : Int)))) (by kernel_rfl) (fun hb39 => ?_) (fun hb39 => ?_)
    · have hm := condT hb39 hm
      refine cW_drawnTail [] 8 (by kernel_rfl) (by kernel_rfl) (fun w46 hc47 => ?_)
      replace F0_0 := F0_0.chg hc47 Dj.nil
      replace F0 := F0.chg hc47 notNil
      replace hB := hB.inS hc47 inNil
      replace hZ := Nat.le_trans hZ hc47.size
      have hS := Chg.refl [] w46
      have Z48 := F0_0
      have Z49 := F0
      refine wH_take [0, 1, 2] [2, 1, 0] [(16, .pointer (some ⟨b0, 0, none⟩)), (15, .pointer (some ⟨b0, 0, none⟩)), (14, .pointer (some ⟨b0, 0, none⟩))] (by kernel_rfl) (qT (qT (qT qZ))) (by kernel_rfl) ?_
      refine wH_load1 (i := 3) (d := 17) (T := 22) (ad := ⟨b0, 0, none⟩) (v := .slice A0_0 (l0_0).length cap0_0) (by kernel_rfl) (qT (qT (qT qZ))) (by kernel_rfl) (by kernel_rfl) vt22 (fun W hW => (Z49.chg hW notNil).cell 0) ?_
      refine wH_take [4, 5, 6] [6, 5, 4, 3, 2, 1, 0] [(20, .pointer (some ⟨b0, 1, none⟩)), (19, .pointer (some ⟨b0, 0, none⟩)), (18, .pointer (some ⟨b0, 0, none⟩))] (by kernel_rfl) (qT (qT (qT qZ))) (by kernel_rfl) ?_
      refine wH_load1 (i := 7) (d := 21) (T := 3) (ad := ⟨b0, 1, none⟩) (v := .int .i64 (q0_1)) (by kernel_rfl) (qT (qT (qT qZ))) (by kernel_rfl) (by kernel_rfl) vt3 (fun W hW => (Z49.chg hW notNil).cell 1) ?_
      refine wH_done (by kernel_rfl) ?_
      refine eX_tail ?_
      obtain ⟨x50, hx51, hm⟩ := bindE hm
      refine wS_idx (d := 22) (T := 22) (A := A0_0) (n := (l0_0).length) (cap := cap0_0) (kd := .i64) (m := q0_1) (by kernel_rfl) sl22 (F0_0.is hx51) ?_
      refine wS_load1 (d := 23) (T := 5) (ad := (elA A0_0 1 (q0_1) 0)) (v := .int .u8 (x50)) (by kernel_rfl) vt5 (Sl.cell F0_0 hx51 0 (by rfl)) ?_
      refine wS_pure 2 [(3, .int .i64 (wr x50)), (24, .int .i64 (wr x50))] (by kernel_rfl) ?_
      refine wS_end (by rfl) ?_
      have hq : (some (wr x50) : Option (Int)) = some _ := hm
      replace hq := someE hq
      subst hq
      exact eX_J (fun hst => ⟨wr x50, rfl, Fr.of hst (by kernel_rfl), F0_0, F0, hB, hZ⟩)
    · have hm := condF hb39 hm
      refine cW_skip ?_
      have hq : (some 0 : Option (Int)) = some _ := hm
      replace hq := someE hq
      subst hq
      exact eX_J (fun hst => ⟨0, rfl, Fr.of hst (by kernel_rfl), F0_0, F0, hB, hZ⟩)
  · rintro a' w24 ⟨x25, hJ, hF26, F27, F28, hB, hZ⟩
    subst hJ
    refine Fr.goX hF26 (by kernel_rfl) ?_
    refine eX_then ?_
    refine cW_seq ?_
    refine cW_region ?_
    refine wS_pure 3 [(27, .pointer (some ⟨b0, 1, none⟩)), (26, .pointer (some ⟨b0, 0, none⟩)), (25, .pointer (some ⟨b0, 0, none⟩))] (by kernel_rfl) ?_
    refine wS_load1 (d := 28) (T := 3) (ad := ⟨b0, 1, none⟩) (v := .int .i64 (q0_1)) (by kernel_rfl) vt3 ((F28).cell 1) ?_
    refine wS_pure 3 [(31, .pointer (some ⟨b0, 1, none⟩)), (30, .pointer (some ⟨b0, 0, none⟩)), (29, .int .i64 (wr (q0_1 + 1)))] (by kernel_rfl) ?_
    refine wS_store (T := 3) (g := b0) (o := 1) (ad := ⟨b0, 1, none⟩) (v := .int .i64 (wr (q0_1 + 1))) (vs := [.int .i64 (wr (q0_1 + 1))]) (by kernel_rfl) (by rfl) sz3 (by rfl) (by rfl) F28 (by simp only [List.length_cons, List.length_nil]; omega) ?_
    intro w52 F53 hc54
    replace F27 := F27.chg hc54 (J0__0_0).symm
    replace hB := hB.inS hc54 (inMem (fun x hx => (List.mem_append_left _ hx)))
    replace hZ := Nat.le_trans hZ hc54.size
    replace F53 : Cl w52 b0 147 [.slice A0_0 (l0_0).length cap0_0, .int .i64 (wr (q0_1 + 1)), .int .u64 (q0_2)] := F53
    clear F28
    refine wS_end (by rfl) ?_
    refine eX_then ?_
    refine cW_seq ?_
    refine cW_region ?_
    refine wS_pure 4 [(35, .pointer (some ⟨b0, 2, none⟩)), (34, .pointer (some ⟨b0, 0, none⟩)), (33, .pointer (some ⟨b0, 0, none⟩)), (32, .pointer (some ⟨b0, 0, none⟩))] (by kernel_rfl) ?_
    refine wS_load1 (d := 36) (T := 145) (ad := ⟨b0, 2, none⟩) (v := .int .u64 (q0_2)) (by kernel_rfl) vt145 ((F53).cell 2) ?_
    refine wS_pure 7 [(43, .pointer (some ⟨b0, 2, none⟩)), (42, .pointer (some ⟨b0, 0, none⟩)), (41, .int .u64 (wu ((wu ((wu (q0_2 * 6364136223846793005)) + (wu x25))) + 1442695040888963407))), (40, .int .u64 (wu ((wu (q0_2 * 6364136223846793005)) + (wu x25)))), (39, .int .u64 (wu x25)), (38, .int .i64 (x25)), (37, .int .u64 (wu (q0_2 * 6364136223846793005)))] (by kernel_rfl) ?_
    refine wS_store (T := 145) (g := b0) (o := 2) (ad := ⟨b0, 2, none⟩) (v := .int .u64 (wu ((wu ((wu (q0_2 * 6364136223846793005)) + (wu x25))) + 1442695040888963407))) (vs := [.int .u64 (wu ((wu ((wu (q0_2 * 6364136223846793005)) + (wu x25))) + 1442695040888963407))]) (by kernel_rfl) (by rfl) sz145 (by rfl) (by rfl) F53 (by simp only [List.length_cons, List.length_nil]; omega) ?_
    intro w55 F56 hc57
    replace F27 := F27.chg hc57 (J0__0_0).symm
    replace hB := hB.inS hc57 (inMem (fun x hx => (List.mem_append_left _ hx)))
    replace hZ := Nat.le_trans hZ hc57.size
    replace F56 : Cl w55 b0 147 [.slice A0_0 (l0_0).length cap0_0, .int .i64 (wr (q0_1 + 1)), .int .u64 (wu ((wu ((wu (q0_2 * 6364136223846793005)) + (wu x25))) + 1442695040888963407))] := F56
    clear F53
    refine wS_end (by rfl) ?_
    refine eX_then ?_
    refine cW_seq ?_
    refine cW_seq ?_
    refine cW_drawnTail [] 9 (by kernel_rfl) (by kernel_rfl) (fun w62 hc63 => ?_)
    replace F27 := F27.chg hc63 Dj.nil
    replace F56 := F56.chg hc63 notNil
    replace hB := hB.inS hc63 inNil
    replace hZ := Nat.le_trans hZ hc63.size
    have hS := Chg.refl [] w62
    have Z64 := F27
    have Z65 := F56
    refine wH_take [0, 1, 2] [2, 1, 0] [(46, .pointer (some ⟨b0, 1, none⟩)), (45, .pointer (some ⟨b0, 0, none⟩)), (44, .pointer (some ⟨b0, 0, none⟩))] (by kernel_rfl) (qT (qT (qT qZ))) (by kernel_rfl) ?_
    refine wH_load1 (i := 3) (d := 47) (T := 3) (ad := ⟨b0, 1, none⟩) (v := .int .i64 (wr (q0_1 + 1))) (by kernel_rfl) (qT (qT (qT qZ))) (by kernel_rfl) (by kernel_rfl) vt3 (fun W hW => (Z65.chg hW notNil).cell 1) ?_
    refine wH_take [4, 5, 6] [6, 5, 4, 3, 2, 1, 0] [(50, .pointer (some ⟨b0, 0, none⟩)), (49, .pointer (some ⟨b0, 0, none⟩)), (48, .pointer (some ⟨b0, 0, none⟩))] (by kernel_rfl) (qT (qT (qT qZ))) (by kernel_rfl) ?_
    refine wH_load1 (i := 7) (d := 51) (T := 22) (ad := ⟨b0, 0, none⟩) (v := .slice A0_0 (l0_0).length cap0_0) (by kernel_rfl) (qT (qT (qT qZ))) (by kernel_rfl) (by kernel_rfl) vt22 (fun W hW => (Z65.chg hW notNil).cell 0) ?_
    refine wH_take [8] [8, 7, 6, 5, 4, 3, 2, 1, 0] [(52, .int .i64 (((l0_0).length : Int)))] (by kernel_rfl) (qT (qT (qT qZ))) (by kernel_rfl) ?_
    refine wH_done (by kernel_rfl) ?_
    refine eX_tail ?_
    refine wS_pure 1 [(53, .bool (decide ((wr (q0_1 + 1)) ≤ (((l0_0).length : Int)))))] (by kernel_rfl) ?_
    refine wS_end (by rfl) ?_
    refine eX_then ?_
    refine cW_prune [(0, .pointer (some ⟨b0, 0, none⟩)), (3, .int .i64 (x25)), (53, .bool (decide ((wr (q0_1 + 1)) ≤ (((l0_0).length : Int)))))] (by kernel_rfl) (by kernel_rfl) (fun a66 => ?_)
    refine cW_cond (t := decide ((wr (q0_1 + 1)) ≤ (((l0_0).length : Int)))) (by kernel_rfl) (fun hb67 => ?_) (fun hb67 => ?_)
    · have hm := condT hb67 hm
      refine cW_seq ?_
      refine cW_region ?_
      refine wS_pure 2 [(2, .int .i64 (x25)), (54, .int .i64 (x25))] (by kernel_rfl) ?_
      refine wS_end (by rfl) ?_
      refine eX_then ?_
      refine cW_ret ?_
      refine eX_then_ret ?_
      have hq : (some ((x25, wr (q0_1 + 1), wu ((wu ((wu (q0_2 * 6364136223846793005)) + (wu x25))) + 1442695040888963407))) : Option ((Int) × (Int) × (Int))) = some _ := hm
      replace hq := someE hq
      subst hq
      refine eX_ret (vs := [.int .i64 (x25)]) [.tmp 2] (by rfl) ⟨by (show lkE _ _ _ = _); kernel_rfl, trivial⟩ ?_
      exact ⟨rfl, F56, hB⟩
    · have hm := condF hb67 hm
      refine cW_skip ?_
      refine eX_then ?_
      refine cW_seq ?_
      refine cW_region ?_
      refine wS_pure 3 [(57, .pointer (some ⟨b0, 2, none⟩)), (56, .pointer (some ⟨b0, 0, none⟩)), (55, .pointer (some ⟨b0, 0, none⟩))] (by kernel_rfl) ?_
      refine wS_load1 (d := 58) (T := 145) (ad := ⟨b0, 2, none⟩) (v := .int .u64 (wu ((wu ((wu (q0_2 * 6364136223846793005)) + (wu x25))) + 1442695040888963407))) (by kernel_rfl) vt145 ((F56).cell 2) ?_
      refine wS_pure 4 [(2, .int .i64 (wr (andU (shrU (wu ((wu ((wu (q0_2 * 6364136223846793005)) + (wu x25))) + 1442695040888963407)) 40) 255))), (61, .int .i64 (wr (andU (shrU (wu ((wu ((wu (q0_2 * 6364136223846793005)) + (wu x25))) + 1442695040888963407)) 40) 255))), (60, .int .u64 (andU (shrU (wu ((wu ((wu (q0_2 * 6364136223846793005)) + (wu x25))) + 1442695040888963407)) 40) 255)), (59, .int .u64 (shrU (wu ((wu ((wu (q0_2 * 6364136223846793005)) + (wu x25))) + 1442695040888963407)) 40))] (by kernel_rfl) ?_
      refine wS_end (by rfl) ?_
      refine eX_then ?_
      refine cW_ret ?_
      have hq : (some ((wr (andU (shrU (wu ((wu ((wu (q0_2 * 6364136223846793005)) + (wu x25))) + 1442695040888963407)) 40) 255), wr (q0_1 + 1), wu ((wu ((wu (q0_2 * 6364136223846793005)) + (wu x25))) + 1442695040888963407))) : Option ((Int) × (Int) × (Int))) = some _ := hm
      replace hq := someE hq
      subst hq
      refine eX_ret (vs := [.int .i64 (wr (andU (shrU (wu ((wu ((wu (q0_2 * 6364136223846793005)) + (wu x25))) + 1442695040888963407)) 40) 255))]) [.tmp 2] (by rfl) ⟨by (show lkE _ _ _ = _); kernel_rfl, trivial⟩ ?_
      exact ⟨rfl, F56, hB⟩

set_option maxRecDepth 100000 in
/-- spec.l00Src).pick -/
theorem c_spec_l00Src_pick_bspecl00Src {w0 : World} {l0_0 : List (Int)} {A0_0 : Option Addr} {cap0_0 : Nat} {fp0_0 : List Nat} {q0_1 : Int} {q0_2 : Int} {b0 : Nat} {p1 : Int} {r : (Int) × (Int) × (Int)} (hm : m_spec_l00Src_pick_bspecl00Src l0_0 q0_1 q0_2 p1 = some r) (F0_0 : Sl 1 encU w0 fp0_0 A0_0 l0_0) (F0 : Cl w0 b0 147 [.slice A0_0 (l0_0).length cap0_0, .int .i64 (q0_1), .int .u64 (q0_2)]) (J0__0_0 : Dj [b0] fp0_0) :
    Calls Try.prog 67 #[.pointer (some ⟨b0, 0, none⟩), .int .i64 (p1)] w0 fun e w' => e = .returned (.int .i64 (r.1)) ∧ Cl w' b0 147 [.slice A0_0 (l0_0).length cap0_0, .int .i64 (r.2.1), .int .u64 (r.2.2)] ∧ Chg ([b0] ++ []) w0 w' := by
  have L0_0 := F0_0.low
  have L0 := lt1 F0.lt
  have hB : Chg ([b0] ++ []) w0 w0 := Chg.refl _ _
  have hZ := Nat.le_refl w0.heap.size
  unfold m_spec_l00Src_pick_bspecl00Src at hm
  refine enterE (N := 20) Try.func67 (by rfl) Try.ntmps67 (by simp) [(0, .pointer (some ⟨b0, 0, none⟩)), (1, .int .i64 (p1))] (by rfl) (by kernel_rfl) (fun a => ?_)
  refine cW_seq ?_
  refine cW_region ?_
  refine wS_pure 1 [(4, .int .i64 (0))] (by kernel_rfl) ?_
  refine wS_end (by rfl) ?_
  refine eX_then ?_
  refine cW_seq ?_
  refine cW_seq ?_
  refine cW_region ?_
  refine wS_pure 2 [(7, .bool (decide (p1 ≤ 1))), (6, .int .i64 (p1))] (by kernel_rfl) ?_
  refine wS_end (by rfl) ?_
  refine eX_then ?_
  refine cW_cond (t := decide (p1 ≤ 1)) (by kernel_rfl) (fun hb3 => ?_) (fun hb3 => ?_)
  · have hm := condT hb3 hm
    refine cW_seq ?_
    refine cW_region ?_
    refine wS_pure 1 [(4, .int .i64 (0))] (by kernel_rfl) ?_
    refine wS_end (by rfl) ?_
    refine eX_then ?_
    refine cW_ret ?_
    refine eX_then_ret ?_
    have hq : (some ((0, q0_1, q0_2)) : Option ((Int) × (Int) × (Int))) = some _ := hm
    replace hq := someE hq
    subst hq
    refine eX_ret (vs := [.int .i64 (0)]) [.tmp 4] (by rfl) ⟨by (show lkE _ _ _ = _); kernel_rfl, trivial⟩ ?_
    exact ⟨rfl, F0, hB⟩
  · have hm := condF hb3 hm
    refine cW_skip ?_
    refine eX_then ?_
    refine cW_seq ?_
    refine cW_region ?_
    refine wS_pure 1 [(8, .pointer (some ⟨b0, 0, none⟩))] (by kernel_rfl) ?_
    obtain ⟨y4, hy5, hm⟩ := bindE hm
    refine wS_calls (d := 9) (f := 132) (vs := [.pointer (some ⟨b0, 0, none⟩)]) (by kernel_rfl) ent132 (c_spec_l00Src_next_bspecl00Src hy5 F0_0 F0 J0__0_0) ?_
    rintro _ w6 ⟨rfl, F8, hc7⟩
    replace F0_0 := F0_0.chg hc7 (Dj.app (J0__0_0).symm Dj.nil)
    replace hB := hB.inS hc7 (inApp (inMem (fun x hx => (List.mem_append_left _ hx))) inNil)
    replace hZ := Nat.le_trans hZ hc7.size
    clear F0
    refine ⟨.int .i64 (y4.1), rfl, ?_⟩
    refine wS_pure 1 [(5, .int .i64 (y4.1))] (by kernel_rfl) ?_
    refine wS_end (by rfl) ?_
    refine eX_then ?_
    refine cW_seq ?_
    obtain ⟨s22, hs23, hm⟩ := bindE hm
    refine cW_cut (fun a' w' => ∃ x16 : Int, ∃ x17 : Int, ∃ x18 : Int, (x16, x17, x18) = s22 ∧ Fr 20 [(1, .int .i64 (p1)), (5, .int .i64 (x16))] a' ∧ Sl 1 encU w' fp0_0 A0_0 l0_0 ∧ Cl w' b0 147 [.slice A0_0 (l0_0).length cap0_0, .int .i64 (x17), .int .u64 (x18)] ∧ Chg ([b0] ++ []) w0 w' ∧ w0.heap.size ≤ w'.heap.size) ?_ ?_
    · have hm := hs23
      refine cW_seq ?_
      refine cW_region ?_
      refine wS_pure 2 [(11, .bool (decide (p1 > 200))), (10, .int .i64 (p1))] (by kernel_rfl) ?_
      refine wS_end (by rfl) ?_
      refine eX_then ?_
      refine cW_cond (t := decide (p1 > 200)) (by kernel_rfl) (fun hb24 => ?_) (fun hb24 => ?_)
      · have hm := condT hb24 hm
        refine cW_region ?_
        refine wS_pure 3 [(14, .pointer (some ⟨b0, 0, none⟩)), (13, .int .i64 (wr (y4.1 * 256))), (12, .int .i64 (y4.1))] (by kernel_rfl) ?_
        obtain ⟨y25, hy26, hm⟩ := bindE hm
        refine wS_calls (d := 15) (f := 132) (vs := [.pointer (some ⟨b0, 0, none⟩)]) (by kernel_rfl) ent132 (c_spec_l00Src_next_bspecl00Src hy26 F0_0 F8 J0__0_0) ?_
        rintro _ w27 ⟨rfl, F29, hc28⟩
        replace F0_0 := F0_0.chg hc28 (Dj.app (J0__0_0).symm Dj.nil)
        replace hB := hB.inS hc28 (inApp (inMem (fun x hx => (List.mem_append_left _ hx))) inNil)
        replace hZ := Nat.le_trans hZ hc28.size
        clear F8
        refine ⟨.int .i64 (y25.1), rfl, ?_⟩
        refine wS_pure 2 [(5, .int .i64 (wr ((wr (y4.1 * 256)) + y25.1))), (16, .int .i64 (wr ((wr (y4.1 * 256)) + y25.1)))] (by kernel_rfl) ?_
        refine wS_end (by rfl) ?_
        have hq : (some ((wr ((wr (y4.1 * 256)) + y25.1), y25.2.1, y25.2.2)) : Option (Int × Int × Int)) = some _ := hm
        replace hq := someE hq
        subst hq
        exact eX_J (fun hst => ⟨wr ((wr (y4.1 * 256)) + y25.1), y25.2.1, y25.2.2, rfl, Fr.of hst (by kernel_rfl), F0_0, F29, hB, hZ⟩)
      · have hm := condF hb24 hm
        refine cW_skip ?_
        have hq : (some ((y4.1, y4.2.1, y4.2.2)) : Option (Int × Int × Int)) = some _ := hm
        replace hq := someE hq
        subst hq
        exact eX_J (fun hst => ⟨y4.1, y4.2.1, y4.2.2, rfl, Fr.of hst (by kernel_rfl), F0_0, F8, hB, hZ⟩)
    · rintro a' w15 ⟨x16, x17, x18, hJ, hF19, F20, F21, hB, hZ⟩
      subst hJ
      refine Fr.goX hF19 (by kernel_rfl) ?_
      refine eX_then ?_
      refine cW_seq ?_
      refine cW_region ?_
      refine wS_pure 2 [(18, .int .i64 (p1)), (17, .int .i64 (x16))] (by kernel_rfl) ?_
      obtain ⟨u30, hu31, hm⟩ := bindE hm
      refine wS_rem (d := 19) (x := x16) (y := p1) (by kernel_rfl) (nzE hu31) ?_
      refine wS_pure 1 [(4, .int .i64 (Int.tmod x16 p1))] (by kernel_rfl) ?_
      refine wS_end (by rfl) ?_
      refine eX_then ?_
      refine cW_ret ?_
      have hq : (some ((Int.tmod x16 p1, x17, x18)) : Option ((Int) × (Int) × (Int))) = some _ := hm
      replace hq := someE hq
      subst hq
      refine eX_ret (vs := [.int .i64 (Int.tmod x16 p1)]) [.tmp 4] (by rfl) ⟨by (show lkE _ _ _ = _); kernel_rfl, trivial⟩ ?_
      exact ⟨rfl, F21, hB⟩

set_option maxRecDepth 100000 in
/-- impl.in -/
theorem c_impl_in {w0 : World} {p0 : Int} {p1 : Int} {p2 : Int} {r : (Bool)} (hm : m_impl_in p0 p1 p2 = some r)  :
    Calls Try.prog 71 #[.int .i64 (p0), .int .i64 (p1), .int .i64 (p2)] w0 fun e w' => e = .returned (.bool (r)) ∧ Chg [] w0 w' := by
  have hB : Chg [] w0 w0 := Chg.refl _ _
  have hZ := Nat.le_refl w0.heap.size
  unfold m_impl_in at hm
  refine enterE (N := 15) Try.func71 (by rfl) Try.ntmps71 (by simp) [(0, .int .i64 (p0)), (1, .int .i64 (p1)), (2, .int .i64 (p2))] (by rfl) (by kernel_rfl) (fun a => ?_)
  refine cW_seq ?_
  refine cW_region ?_
  refine wS_pure 1 [(6, .bool (false))] (by kernel_rfl) ?_
  refine wS_end (by rfl) ?_
  refine eX_then ?_
  refine cW_seq ?_
  refine cW_region ?_
  refine wS_pure 4 [(10, .bool (decide (p0 ≥ p1))), (9, .bool (decide (p0 ≥ p1))), (8, .int .i64 (p1)), (7, .int .i64 (p0))] (by kernel_rfl) ?_
  refine wS_bool (decide (p0 ≥ p1)) (fun hb1 => ?_) (fun hb1 => ?_)
  · have hm := condT hb1 hm
    rewrite [hb1]
    refine wS_pure 5 [(6, .bool (decide (p0 ≤ p2))), (14, .bool (decide (p0 ≤ p2))), (13, .bool (decide (p0 ≤ p2))), (12, .int .i64 (p2)), (11, .int .i64 (p0))] (by kernel_rfl) ?_
    refine wS_end (by rfl) ?_
    refine eX_then ?_
    refine cW_ret ?_
    have hq : (some (decide (p0 ≤ p2)) : Option ((Bool))) = some _ := hm
    replace hq := someE hq
    subst hq
    refine eX_ret (vs := [.bool (decide (p0 ≤ p2))]) [.tmp 6] (by rfl) ⟨by (show lkE _ _ _ = _); kernel_rfl, trivial⟩ ?_
    exact ⟨rfl, hB⟩
  · have hm := condF hb1 hm
    rewrite [hb1]
    refine wS_pure 5 [(6, .bool (false)), (14, .bool (false)), (13, undef), (12, undef), (11, undef)] (by kernel_rfl) ?_
    refine wS_end (by rfl) ?_
    refine eX_then ?_
    refine cW_ret ?_
    have hq : (some false : Option ((Bool))) = some _ := hm
    replace hq := someE hq
    subst hq
    refine eX_ret (vs := [.bool (false)]) [.tmp 6] (by rfl) ⟨by (show lkE _ _ _ = _); kernel_rfl, trivial⟩ ?_
    exact ⟨rfl, hB⟩

set_option maxRecDepth 100000 in
/-- impl.IsPoint -/
theorem c_impl_IsPoint {w0 : World} {p0_0 : Int} {p0_1 : Int} {r : (Bool)} (hm : m_impl_IsPoint p0_0 p0_1 = some r)  :
    Calls Try.prog 84 #[.agg #[.int .i64 (p0_0), .int .i64 (p0_1)]] w0 fun e w' => e = .returned (.bool (r)) ∧ Chg [] w0 w' := by
  have hB : Chg [] w0 w0 := Chg.refl _ _
  have hZ := Nat.le_refl w0.heap.size
  unfold m_impl_IsPoint at hm
  refine enterE (N := 11) Try.func84 (by rfl) Try.ntmps84 (by simp) [(0, .agg #[.int .i64 (p0_0), .int .i64 (p0_1)])] (by rfl) (by kernel_rfl) (fun a => ?_)
  refine cW_seq ?_
  refine cW_region ?_
  refine wS_box (d := 1) (T := 37) (x := .agg #[.int .i64 (p0_0), .int .i64 (p0_1)]) (by kernel_rfl) ?_
  intro b1 w2 G3 F4 hc5
  replace F4 : Cl w2 b1 37 [.int .i64 (p0_0), .int .i64 (p0_1)] := F4
  replace hB := hB.inS hc5 inNil
  replace G3 := Nat.le_trans hZ G3
  replace hZ := Nat.le_trans hZ hc5.size
  refine wS_pure 1 [(2, .bool (false))] (by kernel_rfl) ?_
  refine wS_end (by rfl) ?_
  refine eX_then ?_
  refine cW_seq ?_
  refine cW_region ?_
  refine wS_pure 1 [(3, .pointer (some ⟨b1, 0, none⟩))] (by kernel_rfl) ?_
  refine wS_load1 (d := 4) (T := 2) (ad := ⟨b1, 0, none⟩) (v := .int .i64 (p0_0)) (by kernel_rfl) vt2 ((F4).cell 0) ?_
  obtain ⟨y7, hy8, hm⟩ := bindE hm
  refine wS_calls (d := 5) (f := 71) (vs := [.int .i64 (p0_0), .int .i64 (0), .int .i64 (99)]) (by kernel_rfl) ent71 (c_impl_in hy8) ?_
  rintro _ w9 ⟨rfl, hc10⟩
  replace F4 := F4.chg hc10 notNil
  replace hB := hB.inS hc10 inNil
  replace hZ := Nat.le_trans hZ hc10.size
  refine ⟨.bool (y7), rfl, ?_⟩
  refine wS_pure 1 [(6, .bool (y7))] (by kernel_rfl) ?_
  refine wS_bool y7 (fun hb11 => ?_) (fun hb11 => ?_)
  · have hm := condT hb11 hm
    rewrite [hb11]
    refine wS_pure 1 [(7, .pointer (some ⟨b1, 1, none⟩))] (by kernel_rfl) ?_
    refine wS_load1 (d := 8) (T := 2) (ad := ⟨b1, 1, none⟩) (v := .int .i64 (p0_1)) (by kernel_rfl) vt2 ((F4).cell 1) ?_
    obtain ⟨y12, hy13, hm⟩ := bindE hm
    refine wS_calls (d := 9) (f := 71) (vs := [.int .i64 (p0_1), .int .i64 (0), .int .i64 (99)]) (by kernel_rfl) ent71 (c_impl_in hy13) ?_
    rintro _ w14 ⟨rfl, hc15⟩
    replace F4 := F4.chg hc15 notNil
    replace hB := hB.inS hc15 inNil
    replace hZ := Nat.le_trans hZ hc15.size
    refine ⟨.bool (y12), rfl, ?_⟩
    refine wS_pure 2 [(2, .bool (y12)), (10, .bool (y12))] (by kernel_rfl) ?_
    refine wS_end (by rfl) ?_
    refine eX_then ?_
    refine cW_ret ?_
    have hq : (some y12 : Option ((Bool))) = some _ := hm
    replace hq := someE hq
    subst hq
    refine eX_ret (vs := [.bool (y12)]) [.tmp 2] (by rfl) ⟨by (show lkE _ _ _ = _); kernel_rfl, trivial⟩ ?_
    exact ⟨rfl, hB⟩
  · have hm := condF hb11 hm
    rewrite [hb11]
    refine wS_pure 5 [(2, .bool (false)), (10, .bool (false)), (9, undef), (8, undef), (7, undef)] (by kernel_rfl) ?_
    refine wS_end (by rfl) ?_
    refine eX_then ?_
    refine cW_ret ?_
    have hq : (some false : Option ((Bool))) = some _ := hm
    replace hq := someE hq
    subst hq
    refine eX_ret (vs := [.bool (false)]) [.tmp 2] (by rfl) ⟨by (show lkE _ _ _ = _); kernel_rfl, trivial⟩ ?_
    exact ⟨rfl, hB⟩

set_option maxRecDepth 100000 in
/-- impl.noPoint -/
theorem c_impl_noPoint {w0 : World} {p0_0 : Int} {p0_1 : Int} {r : (Bool)} (hm : m_impl_noPoint p0_0 p0_1 = some r)  :
    Calls Try.prog 137 #[.agg #[.int .i64 (p0_0), .int .i64 (p0_1)]] w0 fun e w' => e = .returned (.bool (r)) ∧ Chg [] w0 w' := by
  have hB : Chg [] w0 w0 := Chg.refl _ _
  have hZ := Nat.le_refl w0.heap.size
  unfold m_impl_noPoint at hm
  refine enterE (N := 6) Try.func137 (by rfl) Try.ntmps137 (by simp) [(0, .agg #[.int .i64 (p0_0), .int .i64 (p0_1)])] (by rfl) (by kernel_rfl) (fun a => ?_)
  refine cW_seq ?_
  refine cW_region ?_
  refine wS_box (d := 1) (T := 37) (x := .agg #[.int .i64 (p0_0), .int .i64 (p0_1)]) (by kernel_rfl) ?_
  intro b1 w2 G3 F4 hc5
  replace F4 : Cl w2 b1 37 [.int .i64 (p0_0), .int .i64 (p0_1)] := F4
  replace hB := hB.inS hc5 inNil
  replace G3 := Nat.le_trans hZ G3
  replace hZ := Nat.le_trans hZ hc5.size
  refine wS_pure 1 [(2, .bool (false))] (by kernel_rfl) ?_
  refine wS_end (by rfl) ?_
  refine eX_then ?_
  refine cW_seq ?_
  refine cW_region ?_
  refine wS_loadA (d := 3) (T := 37) (ad := ⟨b1, 0, none⟩) (vs := [.int .i64 (p0_0), .int .i64 (p0_1)]) (by kernel_rfl) vt37 (fun i u hu => box_cells F4 0 hu (by rfl)) ?_
  obtain ⟨y7, hy8, hm⟩ := bindE hm
  refine wS_calls (d := 4) (f := 84) (vs := [.agg #[.int .i64 (p0_0), .int .i64 (p0_1)]]) (by kernel_rfl) ent84 (c_impl_IsPoint hy8) ?_
  rintro _ w9 ⟨rfl, hc10⟩
  replace F4 := F4.chg hc10 notNil
  replace hB := hB.inS hc10 inNil
  replace hZ := Nat.le_trans hZ hc10.size
  refine ⟨.bool (y7), rfl, ?_⟩
  refine wS_pure 2 [(2, .bool (!y7)), (5, .bool (!y7))] (by kernel_rfl) ?_
  refine wS_end (by rfl) ?_
  refine eX_then ?_
  refine cW_ret ?_
  have hq : (some (!y7) : Option ((Bool))) = some _ := hm
  replace hq := someE hq
  subst hq
  refine eX_ret (vs := [.bool (!y7)]) [.tmp 2] (by rfl) ⟨by (show lkE _ _ _ = _); kernel_rfl, trivial⟩ ?_
  exact ⟨rfl, hB⟩

set_option maxRecDepth 100000 in
/-- impl.size -/
theorem c_impl_size {w0 : World} {p0 : Int} {r : (Int)} (hm : m_impl_size p0 = some r)  :
    Calls Try.prog 147 #[.int .i64 (p0)] w0 fun e w' => e = .returned (.int .i64 (r)) ∧ Chg [] w0 w' := by
  have hB : Chg [] w0 w0 := Chg.refl _ _
  have hZ := Nat.le_refl w0.heap.size
  unfold m_impl_size at hm
  refine enterE (N := 7) Try.func147 (by rfl) Try.ntmps147 (by simp) [(0, .int .i64 (p0))] (by rfl) (by kernel_rfl) (fun a => ?_)
  refine cW_seq ?_
  refine cW_region ?_
  refine wS_pure 1 [(2, .int .i64 (0))] (by kernel_rfl) ?_
  refine wS_end (by rfl) ?_
  refine eX_then ?_
  refine cW_seq ?_
  refine cW_region ?_
  refine wS_pure 5 [(2, .int .i64 (if (wr (0 - p0)) > p0 then (wr (0 - p0)) else p0)), (6, .int .i64 (if (wr (0 - p0)) > p0 then (wr (0 - p0)) else p0)), (5, .int .i64 (wr (0 - p0))), (4, .int .i64 (p0)), (3, .int .i64 (p0))] (by kernel_rfl) ?_
  refine wS_end (by rfl) ?_
  refine eX_then ?_
  refine cW_ret ?_
  have hq : (some (if (wr (0 - p0)) > p0 then (wr (0 - p0)) else p0) : Option ((Int))) = some _ := hm
  replace hq := someE hq
  subst hq
  refine eX_ret (vs := [.int .i64 (if (wr (0 - p0)) > p0 then (wr (0 - p0)) else p0)]) [.tmp 2] (by rfl) ⟨by (show lkE _ _ _ = _); kernel_rfl, trivial⟩ ?_
  exact ⟨rfl, hB⟩

set_option maxRecDepth 100000 in
/-- impl.far -/
theorem c_impl_far {w0 : World} {p0_0 : Int} {p0_1 : Int} {p1_0 : Int} {p1_1 : Int} {r : (Int)} (hm : m_impl_far p0_0 p0_1 p1_0 p1_1 = some r)  :
    Calls Try.prog 85 #[.agg #[.int .i64 (p0_0), .int .i64 (p0_1)], .agg #[.int .i64 (p1_0), .int .i64 (p1_1)]] w0 fun e w' => e = .returned (.int .i64 (r)) ∧ Chg [] w0 w' := by
  have hB : Chg [] w0 w0 := Chg.refl _ _
  have hZ := Nat.le_refl w0.heap.size
  unfold m_impl_far at hm
  refine enterE (N := 18) Try.func85 (by rfl) Try.ntmps85 (by simp) [(0, .agg #[.int .i64 (p0_0), .int .i64 (p0_1)]), (1, .agg #[.int .i64 (p1_0), .int .i64 (p1_1)])] (by rfl) (by kernel_rfl) (fun a => ?_)
  refine cW_seq ?_
  refine cW_region ?_
  refine wS_box (d := 2) (T := 37) (x := .agg #[.int .i64 (p0_0), .int .i64 (p0_1)]) (by kernel_rfl) ?_
  intro b1 w2 G3 F4 hc5
  replace F4 : Cl w2 b1 37 [.int .i64 (p0_0), .int .i64 (p0_1)] := F4
  replace hB := hB.inS hc5 inNil
  replace G3 := Nat.le_trans hZ G3
  replace hZ := Nat.le_trans hZ hc5.size
  refine wS_box (d := 3) (T := 37) (x := .agg #[.int .i64 (p1_0), .int .i64 (p1_1)]) (by kernel_rfl) ?_
  intro b7 w8 G9 F10 hc11
  replace F10 : Cl w8 b7 37 [.int .i64 (p1_0), .int .i64 (p1_1)] := F10
  have D13 : Dj [b1] [b7] := Dj.of (lt1 F4.lt) (low1 G9)
  replace F4 := F4.chg hc11 notNil
  replace hB := hB.inS hc11 inNil
  replace G9 := Nat.le_trans hZ G9
  replace hZ := Nat.le_trans hZ hc11.size
  refine wS_pure 1 [(4, .int .i64 (0))] (by kernel_rfl) ?_
  refine wS_end (by rfl) ?_
  refine eX_then ?_
  refine cW_seq ?_
  refine cW_drawnTail [] 11 (by kernel_rfl) (by kernel_rfl) (fun w26 hc27 => ?_)
  replace F4 := F4.chg hc27 notNil
  replace F10 := F10.chg hc27 notNil
  replace hB := hB.inS hc27 inNil
  replace hZ := Nat.le_trans hZ hc27.size
  have hS := Chg.refl [] w26
  have Z28 := F4
  have Z29 := F10
  refine wH_take [0] [0] [(5, .pointer (some ⟨b1, 0, none⟩))] (by kernel_rfl) (qT (qT qZ)) (by kernel_rfl) ?_
  refine wH_load1 (i := 1) (d := 6) (T := 2) (ad := ⟨b1, 0, none⟩) (v := .int .i64 (p0_0)) (by kernel_rfl) (qT (qT qZ)) (by kernel_rfl) (by kernel_rfl) vt2 (fun W hW => (Z28.chg hW notNil).cell 0) ?_
  refine wH_take [2] [2, 1, 0] [(7, .pointer (some ⟨b7, 0, none⟩))] (by kernel_rfl) (qT (qT qZ)) (by kernel_rfl) ?_
  refine wH_load1 (i := 3) (d := 8) (T := 2) (ad := ⟨b7, 0, none⟩) (v := .int .i64 (p1_0)) (by kernel_rfl) (qT (qT qZ)) (by kernel_rfl) (by kernel_rfl) vt2 (fun W hW => (Z29.chg hW notNil).cell 0) ?_
  refine wH_take [4, 6] [6, 4, 3, 2, 1, 0] [(11, .pointer (some ⟨b1, 1, none⟩)), (9, .int .i64 (wr (p0_0 - p1_0)))] (by kernel_rfl) (qT (qT qZ)) (by kernel_rfl) ?_
  refine wH_load1 (i := 7) (d := 12) (T := 2) (ad := ⟨b1, 1, none⟩) (v := .int .i64 (p0_1)) (by kernel_rfl) (qT (qT qZ)) (by kernel_rfl) (by kernel_rfl) vt2 (fun W hW => (Z28.chg hW notNil).cell 1) ?_
  refine wH_take [8] [8, 7, 6, 4, 3, 2, 1, 0] [(13, .pointer (some ⟨b7, 1, none⟩))] (by kernel_rfl) (qT (qT qZ)) (by kernel_rfl) ?_
  refine wH_load1 (i := 9) (d := 14) (T := 2) (ad := ⟨b7, 1, none⟩) (v := .int .i64 (p1_1)) (by kernel_rfl) (qT (qT qZ)) (by kernel_rfl) (by kernel_rfl) vt2 (fun W hW => (Z29.chg hW notNil).cell 1) ?_
  refine wH_take [10] [10, 9, 8, 7, 6, 4, 3, 2, 1, 0] [(15, .int .i64 (wr (p0_1 - p1_1)))] (by kernel_rfl) (qT (qT qZ)) (by kernel_rfl) ?_
  refine wH_all [5] (by rfl) (by kernel_rfl) (by simp) ⟨⟨by kernel_rfl, ?_⟩, trivial⟩
  obtain ⟨y30, hy31, hm⟩ := bindE hm
  refine wS_calls (d := 10) (f := 147) (vs := [.int .i64 (wr (p0_0 - p1_0))]) (by kernel_rfl) ent147 (c_impl_size hy31) ?_
  rintro _ w32 ⟨rfl, hc33⟩
  replace F4 := F4.chg hc33 notNil
  replace F10 := F10.chg hc33 notNil
  replace hB := hB.inS hc33 inNil
  have hSz := hS
  replace hS := hS.inS hc33 inNil
  replace hZ := Nat.le_trans hZ hc33.size
  refine ⟨.int .i64 (y30), rfl, ?_⟩
  refine wS_end (by kernel_rfl) ?_
  refine eX_KH hS ?_
  refine wH_done (by kernel_rfl) ?_
  refine eX_tail ?_
  obtain ⟨y34, hy35, hm⟩ := bindE hm
  refine wS_calls (d := 16) (f := 147) (vs := [.int .i64 (wr (p0_1 - p1_1))]) (by kernel_rfl) ent147 (c_impl_size hy35) ?_
  rintro _ w36 ⟨rfl, hc37⟩
  replace F4 := F4.chg hc37 notNil
  replace F10 := F10.chg hc37 notNil
  replace hB := hB.inS hc37 inNil
  replace hZ := Nat.le_trans hZ hc37.size
  refine ⟨.int .i64 (y34), rfl, ?_⟩
  refine wS_pure 2 [(4, .int .i64 (wr (y30 + y34))), (17, .int .i64 (wr (y30 + y34)))] (by kernel_rfl) ?_
  refine wS_end (by rfl) ?_
  refine eX_then ?_
  refine cW_ret ?_
  have hq : (some (wr (y30 + y34)) : Option ((Int))) = some _ := hm
  replace hq := someE hq
  subst hq
  refine eX_ret (vs := [.int .i64 (wr (y30 + y34))]) [.tmp 4] (by rfl) ⟨by (show lkE _ _ _ = _); kernel_rfl, trivial⟩ ?_
  exact ⟨rfl, hB⟩

set_option maxRecDepth 100000 in
/-- impl.Point] -/
theorem c_slices_IndexFunc_impl_Point_impl_Point_impl_noPoint {w0 : World} {l0 : List (Int × Int)} {A0 : Option Addr} {cap0 : Nat} {fp0 : List Nat} {r : (Int)} (hm : m_slices_IndexFunc_impl_Point_impl_Point_impl_noPoint l0 = some r) (F0 : Sl 2 encII w0 fp0 A0 l0) :
    Calls Try.prog 184 #[.slice A0 (l0).length cap0, .func (.func 137) #[] #[]] w0 fun e w' => e = .returned (.int .i64 (r)) ∧ Chg [] w0 w' := by
  have L0 := F0.low
  have hB : Chg [] w0 w0 := Chg.refl _ _
  have hZ := Nat.le_refl w0.heap.size
  unfold m_slices_IndexFunc_impl_Point_impl_Point_impl_noPoint at hm
  refine enterE (N := 19) Try.func184 (by rfl) Try.ntmps184 (by simp) [(0, .slice A0 (l0).length cap0), (1, .func (.func 137) #[] #[])] (by rfl) (by kernel_rfl) (fun a => ?_)
  refine cW_seq ?_
  refine cW_region ?_
  refine wS_pure 1 [(4, .int .i64 (0))] (by kernel_rfl) ?_
  refine wS_end (by rfl) ?_
  refine eX_then ?_
  refine cW_seq ?_
  refine cW_seq ?_
  refine cW_region ?_
  refine wS_pure 3 [(8, .int .i64 (0)), (7, .int .i64 (((l0).length : Int))), (6, .slice A0 (l0).length cap0)] (by kernel_rfl) ?_
  refine wS_end (by rfl) ?_
  refine eX_then ?_
  obtain ⟨r29, hr30, hm⟩ := bindE hm
  have hm31 := hm
  refine cW_cut (fun a' w' => Sum.inl (()) = r29 ∧ Fr 19 [] a' ∧ Chg [] w0 w' ∧ w0.heap.size ≤ w'.heap.size) ?_ ?_
  · refine cW_block ?_
    refine cW_loop _ (fun (s32 : Int) a' w' => ∃ x26 : Int, x26 = s32 ∧ Fr 19 [(0, .slice A0 (l0).length cap0), (1, .func (.func 137) #[] #[]), (7, .int .i64 (((l0).length : Int))), (8, .int .i64 (x26))] a' ∧ Sl 2 encII w' fp0 A0 l0 ∧ Chg [] w0 w' ∧ w0.heap.size ≤ w'.heap.size) hr30 (fun hst => ⟨0, rfl, Fr.of hst (by kernel_rfl), F0, hB, hZ⟩) ?_
    rintro _ c33 a' w25 ⟨x26, rfl, hF27, F28, hB, hZ⟩ hx34
    refine Fr.goOn hF27 (by kernel_rfl) ?_
    have hm := hx34
    unfold m_slices_IndexFunc_impl_Point_impl_Point_impl_noPoint_s1 at hm
    refine cW_seq ?_
    refine cW_region ?_
    refine wS_pure 1 [(9, .bool (decide (x26 < (((l0).length : Int)))))] (by kernel_rfl) ?_
    refine wS_end (by rfl) ?_
    refine eX_then ?_
    refine cW_seq ?_
    refine cW_cond (t := decide (x26 < (((l0).length : Int)))) (by kernel_rfl) (fun hb35 => ?_) (fun hb35 => ?_)
    · have hm := condT hb35 hm
      refine cW_skip ?_
      refine eX_then ?_
      refine cW_seq ?_
      refine cW_block ?_
      refine cW_seq ?_
      refine cW_region ?_
      refine wS_pure 2 [(5, .int .i64 (x26)), (10, .int .i64 (x26))] (by kernel_rfl) ?_
      refine wS_end (by rfl) ?_
      refine eX_then ?_
      refine cW_seq ?_
      refine cW_region ?_
      refine wS_pure 3 [(13, .int .i64 (x26)), (12, .slice A0 (l0).length cap0), (11, .func (.func 137) #[] #[])] (by kernel_rfl) ?_
      obtain ⟨x36, hx37, hm⟩ := bindE hm
      refine wS_idx (d := 14) (T := 32) (A := A0) (n := (l0).length) (cap := cap0) (kd := .i64) (m := x26) (by kernel_rfl) sl32 (F28.is hx37) ?_
      refine wS_loadA (d := 15) (T := 37) (ad := (elA A0 2 (x26) 0)) (vs := [.int .i64 (x36.1), .int .i64 (x36.2)]) (by kernel_rfl) vt37 (fun i u hu => Sl.cells_at F28 hx37 0 hu (by rfl)) ?_
      obtain ⟨y38, hy39, hm⟩ := bindE hm
      refine wS_calls (d := 16) (f := 137) (vs := [.agg #[.int .i64 (x36.1), .int .i64 (x36.2)]]) (by kernel_rfl) ent137 (c_impl_noPoint hy39) ?_
      rintro _ w40 ⟨rfl, hc41⟩
      replace F28 := F28.chg hc41 Dj.nil
      replace hB := hB.inS hc41 inNil
      replace hZ := Nat.le_trans hZ hc41.size
      refine ⟨.bool (y38), rfl, ?_⟩
      refine wS_end (by rfl) ?_
      refine eX_then ?_
      refine cW_cond (t := y38) (by kernel_rfl) (fun hb42 => ?_) (fun hb42 => ?_)
      · have hm := condT hb42 hm
        refine cW_seq ?_
        refine cW_region ?_
        refine wS_pure 2 [(4, .int .i64 (x26)), (17, .int .i64 (x26))] (by kernel_rfl) ?_
        refine wS_end (by rfl) ?_
        refine eX_then ?_
        refine cW_ret ?_
        refine eX_block_ret ?_
        refine eX_then_ret ?_
        have hq : (some (Ctl.out (Sum.inr x26)) : Option (Ctl (Int) (Sum (Unit) ((Int))))) = some _ := hm
        replace hq := someE hq
        subst hq
        refine eX_outR hx34 (fun hr => ?_)
        subst hr
        refine eX_block_ret ?_
        refine eX_then_ret ?_
        refine eX_then_ret ?_
        have hq : (some x26 : Option ((Int))) = some _ := hm31
        replace hq := someE hq
        subst hq
        refine eX_ret (vs := [.int .i64 (x26)]) [.tmp 4] (by rfl) ⟨by (show lkE _ _ _ = _); kernel_rfl, trivial⟩ ?_
        exact ⟨rfl, hB⟩
      · have hm := condF hb42 hm
        refine cW_skip ?_
        refine eX_block ?_
        refine eX_then ?_
        refine cW_region ?_
        refine wS_pure 2 [(8, .int .i64 (wr (x26 + 1))), (18, .int .i64 (wr (x26 + 1)))] (by kernel_rfl) ?_
        refine wS_end (by rfl) ?_
        have hq : (some (Ctl.next (wr (x26 + 1))) : Option (Ctl (Int) (Sum (Unit) ((Int))))) = some _ := hm
        replace hq := someE hq
        subst hq
        exact eX_next hx34 (fun hst => ⟨wr (x26 + 1), rfl, Fr.of hst (by kernel_rfl), F28, hB, hZ⟩)
    · have hm := condF hb35 hm
      refine cW_exit ?_
      refine eX_then_exit ?_
      have hq : (some (Ctl.out (Sum.inl (()))) : Option (Ctl (Int) (Sum (Unit) ((Int))))) = some _ := hm
      replace hq := someE hq
      subst hq
      refine eX_outX hx34 (fun hr43 => ?_)
      replace hr43 := hr43.symm
      subst hr43
      refine eX_block_hit ?_
      exact eX_J (fun hst => ⟨rfl, Fr.of hst (by kernel_rfl), hB, hZ⟩)
  · rintro a' w23 ⟨hJ, hF24, hB, hZ⟩
    subst hJ
    refine Fr.goX hF24 (by kernel_rfl) ?_
    refine eX_then ?_
    refine cW_seq ?_
    refine cW_region ?_
    refine wS_pure 1 [(4, .int .i64 ((-1)))] (by kernel_rfl) ?_
    refine wS_end (by rfl) ?_
    refine eX_then ?_
    refine cW_ret ?_
    have hq : (some ((-1)) : Option ((Int))) = some _ := hm
    replace hq := someE hq
    subst hq
    refine eX_ret (vs := [.int .i64 ((-1))]) [.tmp 4] (by rfl) ⟨by (show lkE _ _ _ = _); kernel_rfl, trivial⟩ ?_
    exact ⟨rfl, hB⟩

set_option maxRecDepth 100000 in
/-- impl.Point] -/
theorem c_slices_ContainsFunc_impl_Point_impl_Point_impl_noPoint {w0 : World} {l0 : List (Int × Int)} {A0 : Option Addr} {cap0 : Nat} {fp0 : List Nat} {r : (Bool)} (hm : m_slices_ContainsFunc_impl_Point_impl_Point_impl_noPoint l0 = some r) (F0 : Sl 2 encII w0 fp0 A0 l0) :
    Calls Try.prog 136 #[.slice A0 (l0).length cap0, .func (.func 137) #[] #[]] w0 fun e w' => e = .returned (.bool (r)) ∧ Chg [] w0 w' := by
  have L0 := F0.low
  have hB : Chg [] w0 w0 := Chg.refl _ _
  have hZ := Nat.le_refl w0.heap.size
  unfold m_slices_ContainsFunc_impl_Point_impl_Point_impl_noPoint at hm
  refine enterE (N := 9) Try.func136 (by rfl) Try.ntmps136 (by simp) [(0, .slice A0 (l0).length cap0), (1, .func (.func 137) #[] #[])] (by rfl) (by kernel_rfl) (fun a => ?_)
  refine cW_seq ?_
  refine cW_region ?_
  refine wS_pure 1 [(4, .bool (false))] (by kernel_rfl) ?_
  refine wS_end (by rfl) ?_
  refine eX_then ?_
  refine cW_seq ?_
  refine cW_region ?_
  refine wS_pure 2 [(6, .func (.func 137) #[] #[]), (5, .slice A0 (l0).length cap0)] (by kernel_rfl) ?_
  obtain ⟨y2, hy3, hm⟩ := bindE hm
  refine wS_calls (d := 7) (f := 184) (vs := [.slice A0 (l0).length cap0, .func (.func 137) #[] #[]]) (by kernel_rfl) ent184 (c_slices_IndexFunc_impl_Point_impl_Point_impl_noPoint hy3 F0) ?_
  rintro _ w4 ⟨rfl, hc5⟩
  replace F0 := F0.chg hc5 Dj.nil
  replace hB := hB.inS hc5 inNil
  replace hZ := Nat.le_trans hZ hc5.size
  refine ⟨.int .i64 (y2), rfl, ?_⟩
  refine wS_pure 2 [(4, .bool (decide (y2 ≥ 0))), (8, .bool (decide (y2 ≥ 0)))] (by kernel_rfl) ?_
  refine wS_end (by rfl) ?_
  refine eX_then ?_
  refine cW_ret ?_
  have hq : (some (decide (y2 ≥ 0)) : Option ((Bool))) = some _ := hm
  replace hq := someE hq
  subst hq
  refine eX_ret (vs := [.bool (decide (y2 ≥ 0))]) [.tmp 4] (by rfl) ⟨by (show lkE _ _ _ = _); kernel_rfl, trivial⟩ ?_
  exact ⟨rfl, hB⟩

set_option maxRecDepth 100000 in
/-- spec.l00In -/
theorem c_spec_l00In {w0 : World} {p0 : Int} {p1 : Int} {p2 : Int} {r : (Bool)} (hm : m_spec_l00In p0 p1 p2 = some r)  :
    Calls Try.prog 143 #[.int .i64 (p0), .int .i64 (p1), .int .i64 (p2)] w0 fun e w' => e = .returned (.bool (r)) ∧ Chg [] w0 w' := by
  have hB : Chg [] w0 w0 := Chg.refl _ _
  have hZ := Nat.le_refl w0.heap.size
  unfold m_spec_l00In at hm
  refine enterE (N := 15) Try.func143 (by rfl) Try.ntmps143 (by simp) [(0, .int .i64 (p0)), (1, .int .i64 (p1)), (2, .int .i64 (p2))] (by rfl) (by kernel_rfl) (fun a => ?_)
  refine cW_seq ?_
  refine cW_region ?_
  refine wS_pure 1 [(6, .bool (false))] (by kernel_rfl) ?_
  refine wS_end (by rfl) ?_
  refine eX_then ?_
  refine cW_seq ?_
  refine cW_region ?_
  refine wS_pure 4 [(10, .bool (decide (p0 ≥ p1))), (9, .bool (decide (p0 ≥ p1))), (8, .int .i64 (p1)), (7, .int .i64 (p0))] (by kernel_rfl) ?_
  refine wS_bool (decide (p0 ≥ p1)) (fun hb1 => ?_) (fun hb1 => ?_)
  · have hm := condT hb1 hm
    rewrite [hb1]
    refine wS_pure 5 [(6, .bool (decide (p0 ≤ p2))), (14, .bool (decide (p0 ≤ p2))), (13, .bool (decide (p0 ≤ p2))), (12, .int .i64 (p2)), (11, .int .i64 (p0))] (by kernel_rfl) ?_
    refine wS_end (by rfl) ?_
    refine eX_then ?_
    refine cW_ret ?_
    have hq : (some (decide (p0 ≤ p2)) : Option ((Bool))) = some _ := hm
    replace hq := someE hq
    subst hq
    refine eX_ret (vs := [.bool (decide (p0 ≤ p2))]) [.tmp 6] (by rfl) ⟨by (show lkE _ _ _ = _); kernel_rfl, trivial⟩ ?_
    exact ⟨rfl, hB⟩
  · have hm := condF hb1 hm
    rewrite [hb1]
    refine wS_pure 5 [(6, .bool (false)), (14, .bool (false)), (13, undef), (12, undef), (11, undef)] (by kernel_rfl) ?_
    refine wS_end (by rfl) ?_
    refine eX_then ?_
    refine cW_ret ?_
    have hq : (some false : Option ((Bool))) = some _ := hm
    replace hq := someE hq
    subst hq
    refine eX_ret (vs := [.bool (false)]) [.tmp 6] (by rfl) ⟨by (show lkE _ _ _ = _); kernel_rfl, trivial⟩ ?_
    exact ⟨rfl, hB⟩

set_option maxRecDepth 100000 in
/-- spec.l01Index -/
theorem c_spec_l01Index {w0 : World} {l0 : List (Int × Int)} {A0 : Option Addr} {cap0 : Nat} {fp0 : List Nat} {p1_0 : Int} {p1_1 : Int} {r : (Int)} (hm : m_spec_l01Index l0 p1_0 p1_1 = some r) (F0 : Sl 2 encII w0 fp0 A0 l0) :
    Calls Try.prog 165 #[.slice A0 (l0).length cap0, .agg #[.int .i64 (p1_0), .int .i64 (p1_1)]] w0 fun e w' => e = .returned (.int .i64 (r)) ∧ Chg [] w0 w' := by
  have L0 := F0.low
  have hB : Chg [] w0 w0 := Chg.refl _ _
  have hZ := Nat.le_refl w0.heap.size
  unfold m_spec_l01Index at hm
  refine enterE (N := 19) Try.func165 (by rfl) Try.ntmps165 (by simp) [(0, .slice A0 (l0).length cap0), (1, .agg #[.int .i64 (p1_0), .int .i64 (p1_1)])] (by rfl) (by kernel_rfl) (fun a => ?_)
  refine cW_seq ?_
  refine cW_region ?_
  refine wS_box (d := 3) (T := 37) (x := .agg #[.int .i64 (p1_0), .int .i64 (p1_1)]) (by kernel_rfl) ?_
  intro b2 w3 G4 F5 hc6
  replace F5 : Cl w3 b2 37 [.int .i64 (p1_0), .int .i64 (p1_1)] := F5
  replace F0 := F0.chg hc6 Dj.nil
  replace hB := hB.inS hc6 inNil
  replace G4 := Nat.le_trans hZ G4
  replace hZ := Nat.le_trans hZ hc6.size
  refine wS_pure 1 [(4, .int .i64 (0))] (by kernel_rfl) ?_
  refine wS_end (by rfl) ?_
  refine eX_then ?_
  refine cW_seq ?_
  refine cW_seq ?_
  refine cW_region ?_
  refine wS_pure 1 [(5, .int .i64 (0))] (by kernel_rfl) ?_
  refine wS_end (by rfl) ?_
  refine eX_then ?_
  obtain ⟨r50, hr51, hm⟩ := bindE hm
  have hm52 := hm
  refine cW_cut (fun a' w' => Sum.inl (()) = r50 ∧ Fr 19 [] a' ∧ Chg [] w0 w' ∧ w0.heap.size ≤ w'.heap.size) ?_ ?_
  · refine cW_block ?_
    refine cW_loop _ (fun (s53 : Int) a' w' => ∃ x46 : Int, x46 = s53 ∧ Fr 19 [(0, .slice A0 (l0).length cap0), (3, .pointer (some ⟨b2, 0, none⟩)), (5, .int .i64 (x46))] a' ∧ Sl 2 encII w' fp0 A0 l0 ∧ Cl w' b2 37 [.int .i64 (p1_0), .int .i64 (p1_1)] ∧ Chg [] w0 w' ∧ w0.heap.size ≤ w'.heap.size) hr51 (fun hst => ⟨0, rfl, Fr.of hst (by kernel_rfl), F0, F5, hB, hZ⟩) ?_
    rintro _ c54 a' w45 ⟨x46, rfl, hF47, F48, F49, hB, hZ⟩ hx55
    refine Fr.goOn hF47 (by kernel_rfl) ?_
    have hm := hx55
    unfold m_spec_l01Index_s1 at hm
    refine cW_seq ?_
    refine cW_seq ?_
    refine cW_region ?_
    refine wS_pure 4 [(9, .bool (decide (x46 < (((l0).length : Int))))), (8, .int .i64 (((l0).length : Int))), (7, .slice A0 (l0).length cap0), (6, .int .i64 (x46))] (by kernel_rfl) ?_
    refine wS_end (by rfl) ?_
    refine eX_then ?_
    refine cW_cond (t := decide (x46 < (((l0).length : Int)))) (by kernel_rfl) (fun hb56 => ?_) (fun hb56 => ?_)
    · have hm := condT hb56 hm
      refine cW_skip ?_
      refine eX_then ?_
      refine cW_seq ?_
      refine cW_block ?_
      refine cW_seq ?_
      refine cW_drawnTail [] 5 (by kernel_rfl) (by kernel_rfl) (fun w63 hc64 => ?_)
      replace F48 := F48.chg hc64 Dj.nil
      replace F49 := F49.chg hc64 notNil
      replace hB := hB.inS hc64 inNil
      replace hZ := Nat.le_trans hZ hc64.size
      have hS := Chg.refl [] w63
      have Z65 := F48
      have Z66 := F49
      refine wH_take [0, 1] [1, 0] [(13, .int .i64 (x46)), (12, .slice A0 (l0).length cap0)] (by kernel_rfl) (qT (qT (qB (qT (qL (qB (qT (qT qZ)))))))) (by kernel_rfl) ?_
      obtain ⟨x67, hx68, hm⟩ := bindE hm
      refine wH_idx (i := 2) (d := 14) (T := 32) (A := A0) (n := (l0).length) (cap := cap0) (kd := .i64) (m := x46) (by kernel_rfl) (qT (qT (qB (qT (qL (qB (qT (qT qZ)))))))) (by kernel_rfl) (by kernel_rfl) sl32 (F48.is hx68) ?_
      refine wH_loadA (i := 3) (d := 15) (T := 37) (ad := (elA A0 2 (x46) 0)) (vs := [.int .i64 (x67.1), .int .i64 (x67.2)]) (by kernel_rfl) (qT (qT (qB (qT (qL (qB (qT (qT qZ)))))))) (by kernel_rfl) (by kernel_rfl) vt37 (fun W hW i u hu => Sl.cells_at (Z65.chg hW Dj.nil) hx68 0 hu (by rfl)) ?_
      refine wH_loadA (i := 4) (d := 16) (T := 37) (ad := ⟨b2, 0, none⟩) (vs := [.int .i64 (p1_0), .int .i64 (p1_1)]) (by kernel_rfl) (qT (qT (qB (qT (qL (qB (qT (qT qZ)))))))) (by kernel_rfl) (by kernel_rfl) vt37 (fun W hW i u hu => box_cells (Z66.chg hW notNil) 0 hu (by rfl)) ?_
      refine wH_done (by kernel_rfl) ?_
      refine eX_tail ?_
      refine wS_eqS (d := 17) (T := 37) (x := x67.1) (y := x67.2) (x' := p1_0) (y' := p1_1) (by kernel_rfl) eq37 ?_
      refine wS_end (by rfl) ?_
      refine eX_then ?_
      refine cW_cond (t := x67.1 == p1_0 && x67.2 == p1_1) (by kernel_rfl) (fun hb69 => ?_) (fun hb69 => ?_)
      · have hm := condT hb69 hm
        refine cW_seq ?_
        refine cW_region ?_
        refine wS_pure 2 [(4, .int .i64 (x46)), (18, .int .i64 (x46))] (by kernel_rfl) ?_
        refine wS_end (by rfl) ?_
        refine eX_then ?_
        refine cW_ret ?_
        refine eX_block_ret ?_
        refine eX_then_ret ?_
        have hq : (some (Ctl.out (Sum.inr x46)) : Option (Ctl (Int) (Sum (Unit) ((Int))))) = some _ := hm
        replace hq := someE hq
        subst hq
        refine eX_outR hx55 (fun hr => ?_)
        subst hr
        refine eX_block_ret ?_
        refine eX_then_ret ?_
        refine eX_then_ret ?_
        have hq : (some x46 : Option ((Int))) = some _ := hm52
        replace hq := someE hq
        subst hq
        refine eX_ret (vs := [.int .i64 (x46)]) [.tmp 4] (by rfl) ⟨by (show lkE _ _ _ = _); kernel_rfl, trivial⟩ ?_
        exact ⟨rfl, hB⟩
      · have hm := condF hb69 hm
        refine cW_skip ?_
        refine eX_block ?_
        refine eX_then ?_
        refine cW_region ?_
        refine wS_pure 3 [(5, .int .i64 (wr (x46 + 1))), (11, .int .i64 (wr (x46 + 1))), (10, .int .i64 (x46))] (by kernel_rfl) ?_
        refine wS_end (by rfl) ?_
        have hq : (some (Ctl.next (wr (x46 + 1))) : Option (Ctl (Int) (Sum (Unit) ((Int))))) = some _ := hm
        replace hq := someE hq
        subst hq
        exact eX_next hx55 (fun hst => ⟨wr (x46 + 1), rfl, Fr.of hst (by kernel_rfl), F48, F49, hB, hZ⟩)
    · have hm := condF hb56 hm
      refine cW_exit ?_
      refine eX_then_exit ?_
      have hq : (some (Ctl.out (Sum.inl (()))) : Option (Ctl (Int) (Sum (Unit) ((Int))))) = some _ := hm
      replace hq := someE hq
      subst hq
      refine eX_outX hx55 (fun hr70 => ?_)
      replace hr70 := hr70.symm
      subst hr70
      refine eX_block_hit ?_
      exact eX_J (fun hst => ⟨rfl, Fr.of hst (by kernel_rfl), hB, hZ⟩)
  · rintro a' w43 ⟨hJ, hF44, hB, hZ⟩
    subst hJ
    refine Fr.goX hF44 (by kernel_rfl) ?_
    refine eX_then ?_
    refine cW_seq ?_
    refine cW_region ?_
    refine wS_pure 1 [(4, .int .i64 ((-1)))] (by kernel_rfl) ?_
    refine wS_end (by rfl) ?_
    refine eX_then ?_
    refine cW_ret ?_
    have hq : (some ((-1)) : Option ((Int))) = some _ := hm
    replace hq := someE hq
    subst hq
    refine eX_ret (vs := [.int .i64 ((-1))]) [.tmp 4] (by rfl) ⟨by (show lkE _ _ _ = _); kernel_rfl, trivial⟩ ?_
    exact ⟨rfl, hB⟩

set_option maxRecDepth 100000 in
/-- spec.l01Point -/
theorem c_spec_l01Point {w0 : World} {p0_0 : Int} {p0_1 : Int} {r : (Bool)} (hm : m_spec_l01Point p0_0 p0_1 = some r)  :
    Calls Try.prog 167 #[.agg #[.int .i64 (p0_0), .int .i64 (p0_1)]] w0 fun e w' => e = .returned (.bool (r)) ∧ Chg [] w0 w' := by
  have hB : Chg [] w0 w0 := Chg.refl _ _
  have hZ := Nat.le_refl w0.heap.size
  unfold m_spec_l01Point at hm
  refine enterE (N := 11) Try.func167 (by rfl) Try.ntmps167 (by simp) [(0, .agg #[.int .i64 (p0_0), .int .i64 (p0_1)])] (by rfl) (by kernel_rfl) (fun a => ?_)
  refine cW_seq ?_
  refine cW_region ?_
  refine wS_box (d := 1) (T := 37) (x := .agg #[.int .i64 (p0_0), .int .i64 (p0_1)]) (by kernel_rfl) ?_
  intro b1 w2 G3 F4 hc5
  replace F4 : Cl w2 b1 37 [.int .i64 (p0_0), .int .i64 (p0_1)] := F4
  replace hB := hB.inS hc5 inNil
  replace G3 := Nat.le_trans hZ G3
  replace hZ := Nat.le_trans hZ hc5.size
  refine wS_pure 1 [(2, .bool (false))] (by kernel_rfl) ?_
  refine wS_end (by rfl) ?_
  refine eX_then ?_
  refine cW_seq ?_
  refine cW_region ?_
  refine wS_pure 1 [(3, .pointer (some ⟨b1, 0, none⟩))] (by kernel_rfl) ?_
  refine wS_load1 (d := 4) (T := 2) (ad := ⟨b1, 0, none⟩) (v := .int .i64 (p0_0)) (by kernel_rfl) vt2 ((F4).cell 0) ?_
  obtain ⟨y7, hy8, hm⟩ := bindE hm
  refine wS_calls (d := 5) (f := 143) (vs := [.int .i64 (p0_0), .int .i64 (0), .int .i64 (99)]) (by kernel_rfl) ent143 (c_spec_l00In hy8) ?_
  rintro _ w9 ⟨rfl, hc10⟩
  replace F4 := F4.chg hc10 notNil
  replace hB := hB.inS hc10 inNil
  replace hZ := Nat.le_trans hZ hc10.size
  refine ⟨.bool (y7), rfl, ?_⟩
  refine wS_pure 1 [(6, .bool (y7))] (by kernel_rfl) ?_
  refine wS_bool y7 (fun hb11 => ?_) (fun hb11 => ?_)
  · have hm := condT hb11 hm
    rewrite [hb11]
    refine wS_pure 1 [(7, .pointer (some ⟨b1, 1, none⟩))] (by kernel_rfl) ?_
    refine wS_load1 (d := 8) (T := 2) (ad := ⟨b1, 1, none⟩) (v := .int .i64 (p0_1)) (by kernel_rfl) vt2 ((F4).cell 1) ?_
    obtain ⟨y12, hy13, hm⟩ := bindE hm
    refine wS_calls (d := 9) (f := 143) (vs := [.int .i64 (p0_1), .int .i64 (0), .int .i64 (99)]) (by kernel_rfl) ent143 (c_spec_l00In hy13) ?_
    rintro _ w14 ⟨rfl, hc15⟩
    replace F4 := F4.chg hc15 notNil
    replace hB := hB.inS hc15 inNil
    replace hZ := Nat.le_trans hZ hc15.size
    refine ⟨.bool (y12), rfl, ?_⟩
    refine wS_pure 2 [(2, .bool (y12)), (10, .bool (y12))] (by kernel_rfl) ?_
    refine wS_end (by rfl) ?_
    refine eX_then ?_
    refine cW_ret ?_
    have hq : (some y12 : Option ((Bool))) = some _ := hm
    replace hq := someE hq
    subst hq
    refine eX_ret (vs := [.bool (y12)]) [.tmp 2] (by rfl) ⟨by (show lkE _ _ _ = _); kernel_rfl, trivial⟩ ?_
    exact ⟨rfl, hB⟩
  · have hm := condF hb11 hm
    rewrite [hb11]
    refine wS_pure 5 [(2, .bool (false)), (10, .bool (false)), (9, undef), (8, undef), (7, undef)] (by kernel_rfl) ?_
    refine wS_end (by rfl) ?_
    refine eX_then ?_
    refine cW_ret ?_
    have hq : (some false : Option ((Bool))) = some _ := hm
    replace hq := someE hq
    subst hq
    refine eX_ret (vs := [.bool (false)]) [.tmp 2] (by rfl) ⟨by (show lkE _ _ _ = _); kernel_rfl, trivial⟩ ?_
    exact ⟨rfl, hB⟩

set_option maxRecDepth 100000 in
/-- spec.l05Is -/
theorem c_spec_l05Is {w0 : World} {l0 : List (Int × Int)} {A0 : Option Addr} {cap0 : Nat} {fp0 : List Nat} {r : (Bool)} (hm : m_spec_l05Is l0 = some r) (F0 : Sl 2 encII w0 fp0 A0 l0) (K0 : (l0).length ≤ cap0) :
    Calls Try.prog 107 #[.slice A0 (l0).length cap0] w0 fun e w' => e = .returned (.bool (r)) ∧ Chg [] w0 w' := by
  have L0 := F0.low
  have hB : Chg [] w0 w0 := Chg.refl _ _
  have hZ := Nat.le_refl w0.heap.size
  unfold m_spec_l05Is at hm
  refine enterE (N := 35) Try.func107 (by rfl) Try.ntmps107 (by simp) [(0, .slice A0 (l0).length cap0)] (by rfl) (by kernel_rfl) (fun a => ?_)
  refine cW_seq ?_
  refine cW_region ?_
  refine wS_pure 1 [(2, .bool (false))] (by kernel_rfl) ?_
  refine wS_end (by rfl) ?_
  refine eX_then ?_
  refine cW_seq ?_
  refine cW_seq ?_
  refine cW_region ?_
  refine wS_pure 4 [(7, .bool (decide ((((l0).length : Int)) < 1))), (6, .bool (decide ((((l0).length : Int)) < 1))), (5, .int .i64 (((l0).length : Int))), (4, .slice A0 (l0).length cap0)] (by kernel_rfl) ?_
  refine wS_bool (decide ((((l0).length : Int)) < 1)) (fun hb2 => ?_) (fun hb2 => ?_)
  · have hm := condT hb2 hm
    rewrite [hb2]
    refine wS_pure 4 [(11, .bool (true)), (10, undef), (9, undef), (8, undef)] (by kernel_rfl) ?_
    refine wS_end (by rfl) ?_
    refine eX_then ?_
    refine cW_cond_t (by kernel_rfl) ?_
    refine cW_seq ?_
    refine cW_region ?_
    refine wS_pure 1 [(2, .bool (false))] (by kernel_rfl) ?_
    refine wS_end (by rfl) ?_
    refine eX_then ?_
    refine cW_ret ?_
    refine eX_then_ret ?_
    have hq : (some false : Option ((Bool))) = some _ := hm
    replace hq := someE hq
    subst hq
    refine eX_ret (vs := [.bool (false)]) [.tmp 2] (by rfl) ⟨by (show lkE _ _ _ = _); kernel_rfl, trivial⟩ ?_
    exact ⟨rfl, hB⟩
  · have hm := condF hb2 hm
    rewrite [hb2]
    refine wS_pure 4 [(11, .bool (decide ((((l0).length : Int)) > 20))), (10, .bool (decide ((((l0).length : Int)) > 20))), (9, .int .i64 (((l0).length : Int))), (8, .slice A0 (l0).length cap0)] (by kernel_rfl) ?_
    refine wS_end (by rfl) ?_
    refine eX_then ?_
    refine cW_cond (t := decide ((((l0).length : Int)) > 20)) (by kernel_rfl) (fun hb3 => ?_) (fun hb3 => ?_)
    · have hm := condT hb3 hm
      refine cW_seq ?_
      refine cW_region ?_
      refine wS_pure 1 [(2, .bool (false))] (by kernel_rfl) ?_
      refine wS_end (by rfl) ?_
      refine eX_then ?_
      refine cW_ret ?_
      refine eX_then_ret ?_
      have hq : (some false : Option ((Bool))) = some _ := hm
      replace hq := someE hq
      subst hq
      refine eX_ret (vs := [.bool (false)]) [.tmp 2] (by rfl) ⟨by (show lkE _ _ _ = _); kernel_rfl, trivial⟩ ?_
      exact ⟨rfl, hB⟩
    · have hm := condF hb3 hm
      refine cW_skip ?_
      refine eX_then ?_
      refine cW_seq ?_
      refine cW_seq ?_
      refine cW_region ?_
      refine wS_pure 1 [(3, .int .i64 (0))] (by kernel_rfl) ?_
      refine wS_end (by rfl) ?_
      refine eX_then ?_
      obtain ⟨r123, hr124, hm⟩ := bindE hm
      have hm125 := hm
      refine cW_cut (fun a' w' => Sum.inl (()) = r123 ∧ Fr 35 [] a' ∧ Chg [] w0 w' ∧ w0.heap.size ≤ w'.heap.size) ?_ ?_
      · refine cW_block ?_
        refine cW_loop _ (fun (s126 : Int) a' w' => ∃ x120 : Int, x120 = s126 ∧ Fr 35 [(0, .slice A0 (l0).length cap0), (3, .int .i64 (x120))] a' ∧ Sl 2 encII w' fp0 A0 l0 ∧ Chg [] w0 w' ∧ w0.heap.size ≤ w'.heap.size) hr124 (fun hst => ⟨0, rfl, Fr.of hst (by kernel_rfl), F0, hB, hZ⟩) ?_
        rintro _ c127 a' w119 ⟨x120, rfl, hF121, F122, hB, hZ⟩ hx128
        refine Fr.goOn hF121 (by kernel_rfl) ?_
        have hm := hx128
        unfold m_spec_l05Is_s1 at hm
        refine cW_seq ?_
        refine cW_seq ?_
        refine cW_region ?_
        refine wS_pure 4 [(15, .bool (decide (x120 < (((l0).length : Int))))), (14, .int .i64 (((l0).length : Int))), (13, .slice A0 (l0).length cap0), (12, .int .i64 (x120))] (by kernel_rfl) ?_
        refine wS_end (by rfl) ?_
        refine eX_then ?_
        refine cW_cond (t := decide (x120 < (((l0).length : Int)))) (by kernel_rfl) (fun hb129 => ?_) (fun hb129 => ?_)
        · have hm := condT hb129 hm
          refine cW_skip ?_
          refine eX_then ?_
          refine cW_seq ?_
          refine cW_block ?_
          refine cW_seq ?_
          refine cW_drawnTail [] 14 (by kernel_rfl) (by kernel_rfl) (fun w155 hc156 => ?_)
          replace F122 := F122.chg hc156 Dj.nil
          replace hB := hB.inS hc156 inNil
          replace hZ := Nat.le_trans hZ hc156.size
          have hS := Chg.refl [] w155
          have Z157 := F122
          refine wH_take [0, 1] [1, 0] [(19, .int .i64 (x120)), (18, .slice A0 (l0).length cap0)] (by kernel_rfl) (qT (qT (qB (qT (qL (qB (qT (qT qZ)))))))) (by kernel_rfl) ?_
          obtain ⟨x158, hx159, hm⟩ := bindE hm
          refine wH_idx (i := 2) (d := 20) (T := 32) (A := A0) (n := (l0).length) (cap := cap0) (kd := .i64) (m := x120) (by kernel_rfl) (qT (qT (qB (qT (qL (qB (qT (qT qZ)))))))) (by kernel_rfl) (by kernel_rfl) sl32 (F122.is hx159) ?_
          refine wH_loadA (i := 3) (d := 21) (T := 37) (ad := (elA A0 2 (x120) 0)) (vs := [.int .i64 (x158.1), .int .i64 (x158.2)]) (by kernel_rfl) (qT (qT (qB (qT (qL (qB (qT (qT qZ)))))))) (by kernel_rfl) (by kernel_rfl) vt37 (fun W hW i u hu => Sl.cells_at (Z157.chg hW Dj.nil) hx159 0 hu (by rfl)) ?_
          refine wH_all [4] (by rfl) (by kernel_rfl) (by simp) ⟨⟨by kernel_rfl, ?_⟩, trivial⟩
          obtain ⟨y160, hy161, hm⟩ := bindE hm
          refine wS_calls (d := 22) (f := 167) (vs := [.agg #[.int .i64 (x158.1), .int .i64 (x158.2)]]) (by kernel_rfl) ent167 (c_spec_l01Point hy161) ?_
          rintro _ w162 ⟨rfl, hc163⟩
          replace F122 := F122.chg hc163 Dj.nil
          replace hB := hB.inS hc163 inNil
          have hSz := hS
          replace hS := hS.inS hc163 inNil
          replace hZ := Nat.le_trans hZ hc163.size
          refine ⟨.bool (y160), rfl, ?_⟩
          refine wS_end (by kernel_rfl) ?_
          refine eX_KH hS ?_
          refine wH_take [5, 6] [6, 5, 4, 3, 2, 1, 0] [(24, .bool (!y160)), (23, .bool (!y160))] (by kernel_rfl) (qT (qT (qB (qT (qL (qB (qT (qT qZ)))))))) (by kernel_rfl) ?_
          refine wH_bool (!y160) (fun hb164 => ?_) (fun hb164 => ?_)
          · have hm := condT hb164 hm
            rewrite [hb164]
            refine wH_take [7, 8, 9, 10, 11, 12, 13] [13, 12, 11, 10, 9, 8, 7, 6, 5, 4, 3, 2, 1, 0] [(31, undef), (30, undef), (29, undef), (28, undef), (27, undef), (26, undef), (25, undef)] (by kernel_rfl) (qT (qT (qB (qT (qL (qB (qT (qT qZ)))))))) (by kernel_rfl) ?_
            refine wH_done (by kernel_rfl) ?_
            refine eX_tail ?_
            refine wS_pure 3 [(34, .bool (true)), (33, undef), (32, undef)] (by kernel_rfl) ?_
            refine wS_end (by rfl) ?_
            refine eX_then ?_
            refine cW_cond_t (by kernel_rfl) ?_
            refine cW_seq ?_
            refine cW_region ?_
            refine wS_pure 1 [(2, .bool (false))] (by kernel_rfl) ?_
            refine wS_end (by rfl) ?_
            refine eX_then ?_
            refine cW_prune [(2, .bool (false))] (by kernel_rfl) (by kernel_rfl) (fun a165 => ?_)
            refine cW_ret ?_
            refine eX_block_ret ?_
            refine eX_then_ret ?_
            have hq : (some (Ctl.out (Sum.inr false)) : Option (Ctl (Int) (Sum (Unit) ((Bool))))) = some _ := hm
            replace hq := someE hq
            subst hq
            refine eX_outR hx128 (fun hr => ?_)
            subst hr
            refine eX_block_ret ?_
            refine eX_then_ret ?_
            refine eX_then_ret ?_
            have hq : (some false : Option ((Bool))) = some _ := hm125
            replace hq := someE hq
            subst hq
            refine eX_ret (vs := [.bool (false)]) [.tmp 2] (by rfl) ⟨by (show lkE _ _ _ = _); kernel_rfl, trivial⟩ ?_
            exact ⟨rfl, hB⟩
          · have hm := condF hb164 hm
            rewrite [hb164]
            refine wH_take [7, 8] [8, 7, 6, 5, 4, 3, 2, 1, 0] [(26, .int .i64 (x120)), (25, .slice A0 (l0).length cap0)] (by kernel_rfl) (qT (qT (qB (qT (qL (qB (qT (qT qZ)))))))) (by kernel_rfl) ?_
            obtain ⟨y166, hy167, hm⟩ := bindE hm
            refine wH_slice (k := 2) (enc := encII) (fp := fp0) (l := l0) (i := 9) (d := 27) (T := 32) (A := A0) (cap := cap0) (vlo := none) (vhi := some (.int .i64 (x120))) (lo := 0) (hi := x120) (n := 0) (by kernel_rfl) (qT (qT (qB (qT (qL (qB (qT (qT qZ)))))))) (by kernel_rfl) (by kernel_rfl) sl32 (Or.inr ⟨rfl, rfl⟩) (Or.inl rfl) K0 hy167 ?_
            intro A168 cap169 hcut170 hcap171
            have F172 := hcut170 _ F122
            have Fz173 := hcut170 _ Z157
            refine wH_take [10, 11] [11, 10, 9, 8, 7, 6, 5, 4, 3, 2, 1, 0] [(29, .int .i64 (x120)), (28, .slice A0 (l0).length cap0)] (by kernel_rfl) (qT (qT (qB (qT (qL (qB (qT (qT qZ)))))))) (by kernel_rfl) ?_
            obtain ⟨x175, hx176, hm⟩ := bindE hm
            refine wH_idx (i := 12) (d := 30) (T := 32) (A := A0) (n := (l0).length) (cap := cap0) (kd := .i64) (m := x120) (by kernel_rfl) (qT (qT (qB (qT (qL (qB (qT (qT qZ)))))))) (by kernel_rfl) (by kernel_rfl) sl32 (F122.is hx176) ?_
            refine wH_loadA (i := 13) (d := 31) (T := 37) (ad := (elA A0 2 (x120) 0)) (vs := [.int .i64 (x175.1), .int .i64 (x175.2)]) (by kernel_rfl) (qT (qT (qB (qT (qL (qB (qT (qT qZ)))))))) (by kernel_rfl) (by kernel_rfl) vt37 (fun W hW i u hu => Sl.cells_at (Z157.chg hW Dj.nil) hx176 0 hu (by rfl)) ?_
            refine wH_done (by kernel_rfl) ?_
            refine eX_tail ?_
            obtain ⟨y177, hy178, hm⟩ := bindE hm
            refine wS_calls (d := 32) (f := 165) (vs := [.slice A168 (y166).length cap169, .agg #[.int .i64 (x175.1), .int .i64 (x175.2)]]) (by kernel_rfl) ent165 (c_spec_l01Index hy178 F172) ?_
            rintro _ w179 ⟨rfl, hc180⟩
            replace F122 := F122.chg hc180 Dj.nil
            replace F172 := F172.chg hc180 Dj.nil
            replace hB := hB.inS hc180 inNil
            replace hZ := Nat.le_trans hZ hc180.size
            refine ⟨.int .i64 (y177), rfl, ?_⟩
            refine wS_pure 2 [(34, .bool (decide (y177 ≥ 0))), (33, .bool (decide (y177 ≥ 0)))] (by kernel_rfl) ?_
            refine wS_end (by rfl) ?_
            refine eX_then ?_
            refine cW_cond (t := decide (y177 ≥ 0)) (by kernel_rfl) (fun hb181 => ?_) (fun hb181 => ?_)
            · have hm := condT hb181 hm
              refine cW_seq ?_
              refine cW_region ?_
              refine wS_pure 1 [(2, .bool (false))] (by kernel_rfl) ?_
              refine wS_end (by rfl) ?_
              refine eX_then ?_
              refine cW_prune [(2, .bool (false))] (by kernel_rfl) (by kernel_rfl) (fun a182 => ?_)
              refine cW_ret ?_
              refine eX_block_ret ?_
              refine eX_then_ret ?_
              have hq : (some (Ctl.out (Sum.inr false)) : Option (Ctl (Int) (Sum (Unit) ((Bool))))) = some _ := hm
              replace hq := someE hq
              subst hq
              refine eX_outR hx128 (fun hr => ?_)
              subst hr
              refine eX_block_ret ?_
              refine eX_then_ret ?_
              refine eX_then_ret ?_
              have hq : (some false : Option ((Bool))) = some _ := hm125
              replace hq := someE hq
              subst hq
              refine eX_ret (vs := [.bool (false)]) [.tmp 2] (by rfl) ⟨by (show lkE _ _ _ = _); kernel_rfl, trivial⟩ ?_
              exact ⟨rfl, hB⟩
            · have hm := condF hb181 hm
              refine cW_skip ?_
              refine eX_block ?_
              refine eX_then ?_
              refine cW_region ?_
              refine wS_pure 3 [(3, .int .i64 (wr (x120 + 1))), (17, .int .i64 (wr (x120 + 1))), (16, .int .i64 (x120))] (by kernel_rfl) ?_
              refine wS_end (by rfl) ?_
              have hq : (some (Ctl.next (wr (x120 + 1))) : Option (Ctl (Int) (Sum (Unit) ((Bool))))) = some _ := hm
              replace hq := someE hq
              subst hq
              exact eX_next hx128 (fun hst => ⟨wr (x120 + 1), rfl, Fr.of hst (by kernel_rfl), F122, hB, hZ⟩)
        · have hm := condF hb129 hm
          refine cW_exit ?_
          refine eX_then_exit ?_
          have hq : (some (Ctl.out (Sum.inl (()))) : Option (Ctl (Int) (Sum (Unit) ((Bool))))) = some _ := hm
          replace hq := someE hq
          subst hq
          refine eX_outX hx128 (fun hr183 => ?_)
          replace hr183 := hr183.symm
          subst hr183
          refine eX_block_hit ?_
          exact eX_J (fun hst => ⟨rfl, Fr.of hst (by kernel_rfl), hB, hZ⟩)
      · rintro a' w117 ⟨hJ, hF118, hB, hZ⟩
        subst hJ
        refine Fr.goX hF118 (by kernel_rfl) ?_
        refine eX_then ?_
        refine cW_seq ?_
        refine cW_region ?_
        refine wS_pure 1 [(2, .bool (true))] (by kernel_rfl) ?_
        refine wS_end (by rfl) ?_
        refine eX_then ?_
        refine cW_ret ?_
        have hq : (some true : Option ((Bool))) = some _ := hm
        replace hq := someE hq
        subst hq
        refine eX_ret (vs := [.bool (true)]) [.tmp 2] (by rfl) ⟨by (show lkE _ _ _ = _); kernel_rfl, trivial⟩ ?_
        exact ⟨rfl, hB⟩

set_option maxRecDepth 100000 in
/-- spec.l00Max -/
theorem c_spec_l00Max {w0 : World} {p0 : Int} {p1 : Int} {r : (Int)} (hm : m_spec_l00Max p0 p1 = some r)  :
    Calls Try.prog 175 #[.int .i64 (p0), .int .i64 (p1)] w0 fun e w' => e = .returned (.int .i64 (r)) ∧ Chg [] w0 w' := by
  have hB : Chg [] w0 w0 := Chg.refl _ _
  have hZ := Nat.le_refl w0.heap.size
  unfold m_spec_l00Max at hm
  refine enterE (N := 10) Try.func175 (by rfl) Try.ntmps175 (by simp) [(0, .int .i64 (p0)), (1, .int .i64 (p1))] (by rfl) (by kernel_rfl) (fun a => ?_)
  refine cW_seq ?_
  refine cW_region ?_
  refine wS_pure 1 [(4, .int .i64 (0))] (by kernel_rfl) ?_
  refine wS_end (by rfl) ?_
  refine eX_then ?_
  refine cW_seq ?_
  refine cW_seq ?_
  refine cW_region ?_
  refine wS_pure 3 [(7, .bool (decide (p0 > p1))), (6, .int .i64 (p1)), (5, .int .i64 (p0))] (by kernel_rfl) ?_
  refine wS_end (by rfl) ?_
  refine eX_then ?_
  refine cW_cond (t := decide (p0 > p1)) (by kernel_rfl) (fun hb1 => ?_) (fun hb1 => ?_)
  · have hm := condT hb1 hm
    refine cW_seq ?_
    refine cW_region ?_
    refine wS_pure 2 [(4, .int .i64 (p0)), (8, .int .i64 (p0))] (by kernel_rfl) ?_
    refine wS_end (by rfl) ?_
    refine eX_then ?_
    refine cW_ret ?_
    refine eX_then_ret ?_
    have hq : (some p0 : Option ((Int))) = some _ := hm
    replace hq := someE hq
    subst hq
    refine eX_ret (vs := [.int .i64 (p0)]) [.tmp 4] (by rfl) ⟨by (show lkE _ _ _ = _); kernel_rfl, trivial⟩ ?_
    exact ⟨rfl, hB⟩
  · have hm := condF hb1 hm
    refine cW_skip ?_
    refine eX_then ?_
    refine cW_seq ?_
    refine cW_region ?_
    refine wS_pure 2 [(4, .int .i64 (p1)), (9, .int .i64 (p1))] (by kernel_rfl) ?_
    refine wS_end (by rfl) ?_
    refine eX_then ?_
    refine cW_ret ?_
    have hq : (some p1 : Option ((Int))) = some _ := hm
    replace hq := someE hq
    subst hq
    refine eX_ret (vs := [.int .i64 (p1)]) [.tmp 4] (by rfl) ⟨by (show lkE _ _ _ = _); kernel_rfl, trivial⟩ ?_
    exact ⟨rfl, hB⟩

set_option maxRecDepth 100000 in
/-- spec.l01Abs -/
theorem c_spec_l01Abs {w0 : World} {p0 : Int} {r : (Int)} (hm : m_spec_l01Abs p0 = some r)  :
    Calls Try.prog 192 #[.int .i64 (p0)] w0 fun e w' => e = .returned (.int .i64 (r)) ∧ Chg [] w0 w' := by
  have hB : Chg [] w0 w0 := Chg.refl _ _
  have hZ := Nat.le_refl w0.heap.size
  unfold m_spec_l01Abs at hm
  refine enterE (N := 7) Try.func192 (by rfl) Try.ntmps192 (by simp) [(0, .int .i64 (p0))] (by rfl) (by kernel_rfl) (fun a => ?_)
  refine cW_seq ?_
  refine cW_region ?_
  refine wS_pure 1 [(2, .int .i64 (0))] (by kernel_rfl) ?_
  refine wS_end (by rfl) ?_
  refine eX_then ?_
  refine cW_seq ?_
  refine cW_region ?_
  refine wS_pure 3 [(5, .int .i64 (wr (0 - p0))), (4, .int .i64 (p0)), (3, .int .i64 (p0))] (by kernel_rfl) ?_
  obtain ⟨y1, hy2, hm⟩ := bindE hm
  refine wS_calls (d := 6) (f := 175) (vs := [.int .i64 (p0), .int .i64 (wr (0 - p0))]) (by kernel_rfl) ent175 (c_spec_l00Max hy2) ?_
  rintro _ w3 ⟨rfl, hc4⟩
  replace hB := hB.inS hc4 inNil
  replace hZ := Nat.le_trans hZ hc4.size
  refine ⟨.int .i64 (y1), rfl, ?_⟩
  refine wS_pure 1 [(2, .int .i64 (y1))] (by kernel_rfl) ?_
  refine wS_end (by rfl) ?_
  refine eX_then ?_
  refine cW_ret ?_
  have hq : (some y1 : Option ((Int))) = some _ := hm
  replace hq := someE hq
  subst hq
  refine eX_ret (vs := [.int .i64 (y1)]) [.tmp 2] (by rfl) ⟨by (show lkE _ _ _ = _); kernel_rfl, trivial⟩ ?_
  exact ⟨rfl, hB⟩

set_option maxRecDepth 100000 in
/-- spec.l01Far -/
theorem c_spec_l01Far {w0 : World} {p0_0 : Int} {p0_1 : Int} {p1_0 : Int} {p1_1 : Int} {r : (Int)} (hm : m_spec_l01Far p0_0 p0_1 p1_0 p1_1 = some r)  :
    Calls Try.prog 153 #[.agg #[.int .i64 (p0_0), .int .i64 (p0_1)], .agg #[.int .i64 (p1_0), .int .i64 (p1_1)]] w0 fun e w' => e = .returned (.int .i64 (r)) ∧ Chg [] w0 w' := by
  have hB : Chg [] w0 w0 := Chg.refl _ _
  have hZ := Nat.le_refl w0.heap.size
  unfold m_spec_l01Far at hm
  refine enterE (N := 18) Try.func153 (by rfl) Try.ntmps153 (by simp) [(0, .agg #[.int .i64 (p0_0), .int .i64 (p0_1)]), (1, .agg #[.int .i64 (p1_0), .int .i64 (p1_1)])] (by rfl) (by kernel_rfl) (fun a => ?_)
  refine cW_seq ?_
  refine cW_region ?_
  refine wS_box (d := 2) (T := 37) (x := .agg #[.int .i64 (p0_0), .int .i64 (p0_1)]) (by kernel_rfl) ?_
  intro b1 w2 G3 F4 hc5
  replace F4 : Cl w2 b1 37 [.int .i64 (p0_0), .int .i64 (p0_1)] := F4
  replace hB := hB.inS hc5 inNil
  replace G3 := Nat.le_trans hZ G3
  replace hZ := Nat.le_trans hZ hc5.size
  refine wS_box (d := 3) (T := 37) (x := .agg #[.int .i64 (p1_0), .int .i64 (p1_1)]) (by kernel_rfl) ?_
  intro b7 w8 G9 F10 hc11
  replace F10 : Cl w8 b7 37 [.int .i64 (p1_0), .int .i64 (p1_1)] := F10
  have D13 : Dj [b1] [b7] := Dj.of (lt1 F4.lt) (low1 G9)
  replace F4 := F4.chg hc11 notNil
  replace hB := hB.inS hc11 inNil
  replace G9 := Nat.le_trans hZ G9
  replace hZ := Nat.le_trans hZ hc11.size
  refine wS_pure 1 [(4, .int .i64 (0))] (by kernel_rfl) ?_
  refine wS_end (by rfl) ?_
  refine eX_then ?_
  refine cW_seq ?_
  refine cW_drawnTail [] 11 (by kernel_rfl) (by kernel_rfl) (fun w26 hc27 => ?_)
  replace F4 := F4.chg hc27 notNil
  replace F10 := F10.chg hc27 notNil
  replace hB := hB.inS hc27 inNil
  replace hZ := Nat.le_trans hZ hc27.size
  have hS := Chg.refl [] w26
  have Z28 := F4
  have Z29 := F10
  refine wH_take [0] [0] [(5, .pointer (some ⟨b1, 0, none⟩))] (by kernel_rfl) (qT (qT qZ)) (by kernel_rfl) ?_
  refine wH_load1 (i := 1) (d := 6) (T := 2) (ad := ⟨b1, 0, none⟩) (v := .int .i64 (p0_0)) (by kernel_rfl) (qT (qT qZ)) (by kernel_rfl) (by kernel_rfl) vt2 (fun W hW => (Z28.chg hW notNil).cell 0) ?_
  refine wH_take [2] [2, 1, 0] [(7, .pointer (some ⟨b7, 0, none⟩))] (by kernel_rfl) (qT (qT qZ)) (by kernel_rfl) ?_
  refine wH_load1 (i := 3) (d := 8) (T := 2) (ad := ⟨b7, 0, none⟩) (v := .int .i64 (p1_0)) (by kernel_rfl) (qT (qT qZ)) (by kernel_rfl) (by kernel_rfl) vt2 (fun W hW => (Z29.chg hW notNil).cell 0) ?_
  refine wH_take [4, 6] [6, 4, 3, 2, 1, 0] [(11, .pointer (some ⟨b1, 1, none⟩)), (9, .int .i64 (wr (p0_0 - p1_0)))] (by kernel_rfl) (qT (qT qZ)) (by kernel_rfl) ?_
  refine wH_load1 (i := 7) (d := 12) (T := 2) (ad := ⟨b1, 1, none⟩) (v := .int .i64 (p0_1)) (by kernel_rfl) (qT (qT qZ)) (by kernel_rfl) (by kernel_rfl) vt2 (fun W hW => (Z28.chg hW notNil).cell 1) ?_
  refine wH_take [8] [8, 7, 6, 4, 3, 2, 1, 0] [(13, .pointer (some ⟨b7, 1, none⟩))] (by kernel_rfl) (qT (qT qZ)) (by kernel_rfl) ?_
  refine wH_load1 (i := 9) (d := 14) (T := 2) (ad := ⟨b7, 1, none⟩) (v := .int .i64 (p1_1)) (by kernel_rfl) (qT (qT qZ)) (by kernel_rfl) (by kernel_rfl) vt2 (fun W hW => (Z29.chg hW notNil).cell 1) ?_
  refine wH_take [10] [10, 9, 8, 7, 6, 4, 3, 2, 1, 0] [(15, .int .i64 (wr (p0_1 - p1_1)))] (by kernel_rfl) (qT (qT qZ)) (by kernel_rfl) ?_
  refine wH_all [5] (by rfl) (by kernel_rfl) (by simp) ⟨⟨by kernel_rfl, ?_⟩, trivial⟩
  obtain ⟨y30, hy31, hm⟩ := bindE hm
  refine wS_calls (d := 10) (f := 192) (vs := [.int .i64 (wr (p0_0 - p1_0))]) (by kernel_rfl) ent192 (c_spec_l01Abs hy31) ?_
  rintro _ w32 ⟨rfl, hc33⟩
  replace F4 := F4.chg hc33 notNil
  replace F10 := F10.chg hc33 notNil
  replace hB := hB.inS hc33 inNil
  have hSz := hS
  replace hS := hS.inS hc33 inNil
  replace hZ := Nat.le_trans hZ hc33.size
  refine ⟨.int .i64 (y30), rfl, ?_⟩
  refine wS_end (by kernel_rfl) ?_
  refine eX_KH hS ?_
  refine wH_done (by kernel_rfl) ?_
  refine eX_tail ?_
  obtain ⟨y34, hy35, hm⟩ := bindE hm
  refine wS_calls (d := 16) (f := 192) (vs := [.int .i64 (wr (p0_1 - p1_1))]) (by kernel_rfl) ent192 (c_spec_l01Abs hy35) ?_
  rintro _ w36 ⟨rfl, hc37⟩
  replace F4 := F4.chg hc37 notNil
  replace F10 := F10.chg hc37 notNil
  replace hB := hB.inS hc37 inNil
  replace hZ := Nat.le_trans hZ hc37.size
  refine ⟨.int .i64 (y34), rfl, ?_⟩
  refine wS_pure 2 [(4, .int .i64 (wr (y30 + y34))), (17, .int .i64 (wr (y30 + y34)))] (by kernel_rfl) ?_
  refine wS_end (by rfl) ?_
  refine eX_then ?_
  refine cW_ret ?_
  have hq : (some (wr (y30 + y34)) : Option ((Int))) = some _ := hm
  replace hq := someE hq
  subst hq
  refine eX_ret (vs := [.int .i64 (wr (y30 + y34))]) [.tmp 4] (by rfl) ⟨by (show lkE _ _ _ = _); kernel_rfl, trivial⟩ ?_
  exact ⟨rfl, hB⟩

set_option maxRecDepth 100000 in
/-- spec.l05Tree -/
theorem c_spec_l05Tree {w0 : World} {l0 : List (Int × Int)} {A0 : Option Addr} {cap0 : Nat} {fp0 : List Nat} {r : (List (List (Int))) × (Int)} (hm : m_spec_l05Tree l0 = some r) (F0 : Sl 2 encII w0 fp0 A0 l0) :
    Calls Try.prog 92 #[.slice A0 (l0).length cap0] w0 fun e w' => ∃ A100 cap100 fp100 fr100, e = .returned (.tuple #[.slice A100 (r.1).length cap100, .int .i64 (r.2)]) ∧ OwR 1 encI 25 2 w' fp100 fr100 A100 cap100 r.1 ∧ (∀ x ∈ fp100 ++ fr100, w0.heap.size ≤ x) ∧ Chg [] w0 w' := by
  have L0 := F0.low
  have hB : Chg [] w0 w0 := Chg.refl _ _
  have hZ := Nat.le_refl w0.heap.size
  unfold m_spec_l05Tree at hm
  refine enterE (N := 88) Try.func92 (by rfl) Try.ntmps92 (by simp) [(0, .slice A0 (l0).length cap0)] (by rfl) (by kernel_rfl) (fun a => ?_)
  refine cW_seq ?_
  refine cW_region ?_
  refine wS_pure 2 [(3, .int .i64 (0)), (2, .slice none 0 0)] (by kernel_rfl) ?_
  refine wS_end (by rfl) ?_
  refine eX_then ?_
  refine cW_seq ?_
  refine cW_region ?_
  refine wS_pure 3 [(4, .int .i64 (((l0).length : Int))), (14, .int .i64 (((l0).length : Int))), (13, .slice A0 (l0).length cap0)] (by kernel_rfl) ?_
  refine wS_end (by rfl) ?_
  refine eX_then ?_
  refine cW_seq ?_
  refine cW_region ?_
  refine wS_pure 1 [(15, .int .i64 (((l0).length : Int)))] (by kernel_rfl) ?_
  obtain ⟨_, hk2, hm⟩ := bindE hm
  replace hk2 := mkE hk2
  refine wS_make (enc := encB) (x0 := (false : Bool)) (d := 16) (t := 136) (T := 4) (k1 := .i64) (k2 := .i64) (m := ((l0).length : Int)) (by kernel_rfl) el136 encB_ok (by rfl) hk2.1 hk2.2 ?_
  intro b3 w4 G5 F6 hc7
  replace F0 := F0.chg hc7 Dj.nil
  replace hB := hB.inS hc7 inNil
  replace G5 := Nat.le_trans hZ G5
  replace G5 := low1 G5
  replace hZ := Nat.le_trans hZ hc7.size
  refine wS_pure 1 [(5, .slice (some ⟨b3, 0, none⟩) (List.replicate (Int.toNat (((l0).length : Int))) ((false : Bool))).length (Int.toNat (((l0).length : Int))))] (by kernel_rfl) ?_
  refine wS_end (by rfl) ?_
  refine eX_then ?_
  refine cW_seq ?_
  refine cW_region ?_
  refine wS_pure 1 [(17, .slice (some ⟨b3, 0, none⟩) (List.replicate (Int.toNat (((l0).length : Int))) ((false : Bool))).length (Int.toNat (((l0).length : Int))))] (by kernel_rfl) ?_
  obtain ⟨x9, hx10, hm⟩ := bindE hm
  refine wS_idx (d := 18) (T := 136) (A := (some ⟨b3, 0, none⟩)) (n := (List.replicate (Int.toNat (((l0).length : Int))) ((false : Bool))).length) (cap := (Int.toNat (((l0).length : Int)))) (kd := .i64) (m := 0) (by kernel_rfl) sl136 ((F6.sl encB_ok).is hx10) ?_
  refine wS_storeEl (x := x9) true (T := 4) (U := 4) (cap := (Int.toNat (((l0).length : Int)))) (j := 0) (A := (some ⟨b3, 0, none⟩)) (v := .bool (true)) (vs := [.bool (true)]) (m := 0) (by kernel_rfl) (by rfl) sz4 (by rfl) encB_ok F6 hx10 (by simp only [List.length_cons, List.length_nil]; omega) (by rfl) ?_
  intro w11 F12 hc13
  replace F0 := F0.chg hc13 (Dj.of L0 G5)
  replace hB := hB.inS hc13 (inLow G5)
  replace hZ := Nat.le_trans hZ hc13.size
  clear F6
  rewrite [show (List.replicate (Int.toNat (((l0).length : Int))) ((false : Bool))).length = ((List.replicate (Int.toNat (((l0).length : Int))) ((false : Bool))).set (Int.toNat 0) true).length from (List.length_set ..).symm]
  refine wS_end (by rfl) ?_
  refine eX_then ?_
  refine cW_seq ?_
  refine cW_region ?_
  refine wS_rows0 (k := 1) (enc := encI) (d := 19) (t := 40) (T := 25) (T2 := 2) (by kernel_rfl) el40 ?_
  intro b14 w15 G16 F17 hc18
  have D20 : Dj [b3] ([b14] ++ []) := Dj.of F12.low (lowApp (low1 G16) lowNil)
  replace F0 := F0.chg hc18 Dj.nil
  replace F12 := F12.chg hc18 Dj.nil
  replace hB := hB.inS hc18 inNil
  replace G16 := Nat.le_trans hZ G16
  replace G16 := low1 G16
  replace hZ := Nat.le_trans hZ hc18.size
  replace G16 := lowApp G16 lowNil
  refine wS_pure 1 [(6, .slice (some ⟨b14, 0, none⟩) (([] : List (List (Int)))).length 0)] (by kernel_rfl) ?_
  refine wS_end (by rfl) ?_
  refine eX_then ?_
  refine cW_seq ?_
  refine cW_region ?_
  refine wS_pure 1 [(7, .int .i64 (0))] (by kernel_rfl) ?_
  refine wS_end (by rfl) ?_
  refine eX_then ?_
  refine cW_seq ?_
  obtain ⟨r3607, hr3608, hm⟩ := bindE hm
  have hm3609 := hm
  refine cW_cut (fun a' w' => ∃ l3582 : List (List (Int)), ∃ A3583 : Option Addr, ∃ cap3584 : Nat, ∃ fp3585 : List Nat, ∃ fr3587 : List Nat, ∃ x3588 : Int, (l3582, x3588) = r3607 ∧ Fr 88 [(6, .slice A3583 (l3582).length cap3584), (7, .int .i64 (x3588))] a' ∧ OwR 1 encI 25 2 w' fp3585 fr3587 A3583 cap3584 l3582 ∧ (∀ x ∈ (fp3585 ++ fr3587), w0.heap.size ≤ x) ∧ Chg [] w0 w' ∧ w0.heap.size ≤ w'.heap.size) ?_ ?_
  · refine cW_block ?_
    refine cW_loop _ (fun (s3610 : (List (List (Int))) × Int × (List (Bool))) a' w' => ∃ l3593 : List (List (Int)), ∃ A3594 : Option Addr, ∃ cap3595 : Nat, ∃ fp3596 : List Nat, ∃ fr3598 : List Nat, ∃ x3599 : Int, ∃ l3600 : List (Bool), (l3593, x3599, l3600) = s3610 ∧ Fr 88 [(0, .slice A0 (l0).length cap0), (4, .int .i64 (((l0).length : Int))), (5, .slice (some ⟨b3, 0, none⟩) (l3600).length (Int.toNat (((l0).length : Int)))), (6, .slice A3594 (l3593).length cap3595), (7, .int .i64 (x3599))] a' ∧ Sl 2 encII w' fp0 A0 l0 ∧ Ow 1 encB 4 w' [b3] (some ⟨b3, 0, none⟩) (Int.toNat (((l0).length : Int))) l3600 ∧ OwR 1 encI 25 2 w' fp3596 fr3598 A3594 cap3595 l3593 ∧ (∀ x ∈ (fp3596 ++ fr3598), w0.heap.size ≤ x) ∧ Dj [b3] (fp3596 ++ fr3598) ∧ Chg [] w0 w' ∧ w0.heap.size ≤ w'.heap.size) hr3608 (fun hst => ⟨([] : List (List (Int))), (some ⟨b14, 0, none⟩), 0, [b14], [], 0, (List.replicate (Int.toNat (((l0).length : Int))) ((false : Bool))).set (Int.toNat 0) true, rfl, Fr.of hst (by kernel_rfl), F0, F12, F17, G16, D20, hB, hZ⟩) ?_
    rintro _ c3611 a' w3592 ⟨l3593, A3594, cap3595, fp3596, fr3598, x3599, l3600, rfl, hF3601, F3602, F3603, F3604, G3605, D3606, hB, hZ⟩ hx3612
    refine Fr.goOn hF3601 (by kernel_rfl) ?_
    have hm := hx3612
    unfold m_spec_l05Tree_s9 at hm
    refine cW_seq ?_
    refine cW_seq ?_
    refine cW_region ?_
    refine wS_pure 5 [(24, .bool (decide ((((l3593).length : Int)) < (wr ((((l0).length : Int)) - 1))))), (23, .int .i64 (wr ((((l0).length : Int)) - 1))), (22, .int .i64 (((l0).length : Int))), (21, .int .i64 (((l3593).length : Int))), (20, .slice A3594 (l3593).length cap3595)] (by kernel_rfl) ?_
    refine wS_end (by rfl) ?_
    refine eX_then ?_
    refine cW_cond (t := decide ((((l3593).length : Int)) < (wr ((((l0).length : Int)) - 1)))) (by kernel_rfl) (fun hb3613 => ?_) (fun hb3613 => ?_)
    · have hm := condT hb3613 hm
      refine cW_skip ?_
      refine eX_then ?_
      refine cW_block ?_
      refine cW_seq ?_
      refine cW_region ?_
      refine wS_bs0 (α := Int) (enc := encI) (d := 25) (t := 25) (T := 2) (by kernel_rfl) el25 ?_
      intro b3614 w3615 G3616 F3617 hc3618
      have D3620 : Dj [b3] [b3614] := Dj.of F3603.low (low1 G3616)
      have D3621 : Dj (fp3596 ++ fr3598) [b3614] := Dj.of F3604.low (low1 G3616)
      replace F3602 := F3602.chg hc3618 Dj.nil
      replace F3603 := F3603.chg hc3618 Dj.nil
      replace F3604 := F3604.chg hc3618 Dj.nil
      replace hB := hB.inS hc3618 inNil
      replace G3616 := Nat.le_trans hZ G3616
      replace G3616 := low1 G3616
      replace hZ := Nat.le_trans hZ hc3618.size
      refine wS_pure 1 [(8, .slice (some ⟨b3614, 0, none⟩) (([] : List (Int))).length 0)] (by kernel_rfl) ?_
      refine wS_end (by rfl) ?_
      refine eX_then ?_
      refine cW_seq ?_
      refine cW_region ?_
      refine wS_pure 1 [(9, .int .i64 ((-1)))] (by kernel_rfl) ?_
      refine wS_end (by rfl) ?_
      refine eX_then ?_
      refine cW_seq ?_
      refine cW_seq ?_
      refine cW_region ?_
      refine wS_pure 1 [(10, .int .i64 (0))] (by kernel_rfl) ?_
      refine wS_end (by rfl) ?_
      refine eX_then ?_
      obtain ⟨r4787, hr4788, hm⟩ := bindE hm
      have hm4789 := hm
      refine cW_cut (fun a' w' => ∃ l4757 : List (Int), ∃ A4758 : Option Addr, ∃ cap4759 : Nat, ∃ fp4760 : List Nat, ∃ x4762 : Int, (l4757, x4762) = r4787 ∧ Fr 88 [(0, .slice A0 (l0).length cap0), (4, .int .i64 (((l0).length : Int))), (5, .slice (some ⟨b3, 0, none⟩) (l3600).length (Int.toNat (((l0).length : Int)))), (6, .slice A3594 (l3593).length cap3595), (7, .int .i64 (x3599)), (8, .slice A4758 (l4757).length cap4759), (9, .int .i64 (x4762))] a' ∧ Sl 2 encII w' fp0 A0 l0 ∧ Ow 1 encB 4 w' [b3] (some ⟨b3, 0, none⟩) (Int.toNat (((l0).length : Int))) l3600 ∧ OwR 1 encI 25 2 w' fp3596 fr3598 A3594 cap3595 l3593 ∧ Ow 1 encI 2 w' fp4760 A4758 cap4759 l4757 ∧ (∀ x ∈ fp4760, w0.heap.size ≤ x) ∧ Dj [b3] fp4760 ∧ Dj (fp3596 ++ fr3598) fp4760 ∧ Chg [] w0 w' ∧ w0.heap.size ≤ w'.heap.size) ?_ ?_
      · refine cW_block ?_
        refine cW_loop _ (fun (s4790 : (List (Int)) × Int × Int) a' w' => ∃ l4772 : List (Int), ∃ A4773 : Option Addr, ∃ cap4774 : Nat, ∃ fp4775 : List Nat, ∃ x4777 : Int, ∃ x4778 : Int, (l4772, x4777, x4778) = s4790 ∧ Fr 88 [(0, .slice A0 (l0).length cap0), (4, .int .i64 (((l0).length : Int))), (5, .slice (some ⟨b3, 0, none⟩) (l3600).length (Int.toNat (((l0).length : Int)))), (6, .slice A3594 (l3593).length cap3595), (7, .int .i64 (x3599)), (8, .slice A4773 (l4772).length cap4774), (9, .int .i64 (x4777)), (10, .int .i64 (x4778))] a' ∧ Sl 2 encII w' fp0 A0 l0 ∧ Ow 1 encB 4 w' [b3] (some ⟨b3, 0, none⟩) (Int.toNat (((l0).length : Int))) l3600 ∧ OwR 1 encI 25 2 w' fp3596 fr3598 A3594 cap3595 l3593 ∧ Ow 1 encI 2 w' fp4775 A4773 cap4774 l4772 ∧ (∀ x ∈ fp4775, w0.heap.size ≤ x) ∧ Dj [b3] fp4775 ∧ Dj (fp3596 ++ fr3598) fp4775 ∧ Chg [] w0 w' ∧ w0.heap.size ≤ w'.heap.size) hr4788 (fun hst => ⟨([] : List (Int)), (some ⟨b3614, 0, none⟩), 0, [b3614], (-1), 0, rfl, Fr.of hst (by kernel_rfl), F3602, F3603, F3604, F3617, G3616, D3620, D3621, hB, hZ⟩) ?_
        rintro _ c4791 a' w4771 ⟨l4772, A4773, cap4774, fp4775, x4777, x4778, rfl, hF4779, F4780, F4781, F4782, F4783, G4784, D4785, D4786, hB, hZ⟩ hx4792
        refine Fr.goOn hF4779 (by kernel_rfl) ?_
        have hm := hx4792
        unfold m_spec_l05Tree_s12 at hm
        refine cW_seq ?_
        refine cW_seq ?_
        refine cW_region ?_
        refine wS_pure 3 [(28, .bool (decide (x4778 < (((l0).length : Int))))), (27, .int .i64 (((l0).length : Int))), (26, .int .i64 (x4778))] (by kernel_rfl) ?_
        refine wS_end (by rfl) ?_
        refine eX_then ?_
        refine cW_cond (t := decide (x4778 < (((l0).length : Int)))) (by kernel_rfl) (fun hb4793 => ?_) (fun hb4793 => ?_)
        · have hm := condT hb4793 hm
          refine cW_skip ?_
          refine eX_then ?_
          refine cW_seq ?_
          refine cW_block ?_
          refine cW_seq ?_
          refine cW_region ?_
          refine wS_pure 3 [(11, .int .i64 (wr (x4778 + 1))), (32, .int .i64 (wr (x4778 + 1))), (31, .int .i64 (x4778))] (by kernel_rfl) ?_
          refine wS_end (by rfl) ?_
          refine eX_then ?_
          obtain ⟨r5177, hr5178, hm⟩ := bindE hm
          have hm5179 := hm
          refine cW_cut (fun a' w' => ∃ l5147 : List (Int), ∃ A5148 : Option Addr, ∃ cap5149 : Nat, ∃ fp5150 : List Nat, ∃ x5152 : Int, (l5147, x5152) = r5177 ∧ Fr 88 [(0, .slice A0 (l0).length cap0), (4, .int .i64 (((l0).length : Int))), (5, .slice (some ⟨b3, 0, none⟩) (l3600).length (Int.toNat (((l0).length : Int)))), (6, .slice A3594 (l3593).length cap3595), (7, .int .i64 (x3599)), (8, .slice A5148 (l5147).length cap5149), (9, .int .i64 (x5152)), (10, .int .i64 (x4778))] a' ∧ Sl 2 encII w' fp0 A0 l0 ∧ Ow 1 encB 4 w' [b3] (some ⟨b3, 0, none⟩) (Int.toNat (((l0).length : Int))) l3600 ∧ OwR 1 encI 25 2 w' fp3596 fr3598 A3594 cap3595 l3593 ∧ Ow 1 encI 2 w' fp5150 A5148 cap5149 l5147 ∧ (∀ x ∈ fp5150, w0.heap.size ≤ x) ∧ Dj [b3] fp5150 ∧ Dj (fp3596 ++ fr3598) fp5150 ∧ Chg [] w0 w' ∧ w0.heap.size ≤ w'.heap.size) ?_ ?_
          · refine cW_block ?_
            refine cW_loop _ (fun (s5180 : (List (Int)) × Int × Int) a' w' => ∃ l5162 : List (Int), ∃ A5163 : Option Addr, ∃ cap5164 : Nat, ∃ fp5165 : List Nat, ∃ x5167 : Int, ∃ x5168 : Int, (l5162, x5167, x5168) = s5180 ∧ Fr 88 [(0, .slice A0 (l0).length cap0), (4, .int .i64 (((l0).length : Int))), (5, .slice (some ⟨b3, 0, none⟩) (l3600).length (Int.toNat (((l0).length : Int)))), (6, .slice A3594 (l3593).length cap3595), (7, .int .i64 (x3599)), (8, .slice A5163 (l5162).length cap5164), (9, .int .i64 (x5167)), (10, .int .i64 (x4778)), (11, .int .i64 (x5168))] a' ∧ Sl 2 encII w' fp0 A0 l0 ∧ Ow 1 encB 4 w' [b3] (some ⟨b3, 0, none⟩) (Int.toNat (((l0).length : Int))) l3600 ∧ OwR 1 encI 25 2 w' fp3596 fr3598 A3594 cap3595 l3593 ∧ Ow 1 encI 2 w' fp5165 A5163 cap5164 l5162 ∧ (∀ x ∈ fp5165, w0.heap.size ≤ x) ∧ Dj [b3] fp5165 ∧ Dj (fp3596 ++ fr3598) fp5165 ∧ Chg [] w0 w' ∧ w0.heap.size ≤ w'.heap.size) hr5178 (fun hst => ⟨l4772, A4773, cap4774, fp4775, x4777, wr (x4778 + 1), rfl, Fr.of hst (by kernel_rfl), F4780, F4781, F4782, F4783, G4784, D4785, D4786, hB, hZ⟩) ?_
            rintro _ c5181 a' w5161 ⟨l5162, A5163, cap5164, fp5165, x5167, x5168, rfl, hF5169, F5170, F5171, F5172, F5173, G5174, D5175, D5176, hB, hZ⟩ hx5182
            refine Fr.goOn hF5169 (by kernel_rfl) ?_
            have hm := hx5182
            unfold m_spec_l05Tree_s13 at hm
            refine cW_seq ?_
            refine cW_seq ?_
            refine cW_region ?_
            refine wS_pure 3 [(35, .bool (decide (x5168 < (((l0).length : Int))))), (34, .int .i64 (((l0).length : Int))), (33, .int .i64 (x5168))] (by kernel_rfl) ?_
            refine wS_end (by rfl) ?_
            refine eX_then ?_
            refine cW_cond (t := decide (x5168 < (((l0).length : Int)))) (by kernel_rfl) (fun hb5183 => ?_) (fun hb5183 => ?_)
            · have hm := condT hb5183 hm
              refine cW_skip ?_
              refine eX_then ?_
              refine cW_seq ?_
              refine cW_block ?_
              obtain ⟨s5273, hs5274, hm⟩ := bindE hm
              refine cW_cut (fun a' w' => ∃ l5259 : List (Int), ∃ A5260 : Option Addr, ∃ cap5261 : Nat, ∃ fp5262 : List Nat, ∃ x5264 : Int, (l5259, x5264) = s5273 ∧ Fr 88 [(0, .slice A0 (l0).length cap0), (4, .int .i64 (((l0).length : Int))), (5, .slice (some ⟨b3, 0, none⟩) (l3600).length (Int.toNat (((l0).length : Int)))), (6, .slice A3594 (l3593).length cap3595), (7, .int .i64 (x3599)), (8, .slice A5260 (l5259).length cap5261), (9, .int .i64 (x5264)), (10, .int .i64 (x4778)), (11, .int .i64 (x5168))] a' ∧ Sl 2 encII w' fp0 A0 l0 ∧ Ow 1 encB 4 w' [b3] (some ⟨b3, 0, none⟩) (Int.toNat (((l0).length : Int))) l3600 ∧ OwR 1 encI 25 2 w' fp3596 fr3598 A3594 cap3595 l3593 ∧ Ow 1 encI 2 w' fp5262 A5260 cap5261 l5259 ∧ (∀ x ∈ fp5262, w0.heap.size ≤ x) ∧ Dj [b3] fp5262 ∧ Dj (fp3596 ++ fr3598) fp5262 ∧ Chg [] w0 w' ∧ w0.heap.size ≤ w'.heap.size) ?_ ?_
              · have hm := hs5274
                refine cW_seq ?_
                refine cW_drawnTail [] 8 (by kernel_rfl) (by kernel_rfl) (fun w5289 hc5290 => ?_)
                replace F5170 := F5170.chg hc5290 Dj.nil
                replace F5171 := F5171.chg hc5290 Dj.nil
                replace F5172 := F5172.chg hc5290 Dj.nil
                replace F5173 := F5173.chg hc5290 Dj.nil
                replace hB := hB.inS hc5290 inNil
                replace hZ := Nat.le_trans hZ hc5290.size
                have hS := Chg.refl [] w5289
                have Z5291 := F5170
                have Z5292 := F5171
                have Z5293 := F5172
                have Z5294 := F5173
                refine wH_take [0, 1] [1, 0] [(39, .int .i64 (x4778)), (38, .slice A0 (l0).length cap0)] (by kernel_rfl) (qT (qT (qT (qB (qT (qL (qB (qT (qB (qT (qL (qB (qT (qT (qB (qL (qB (qT (qT qZ))))))))))))))))))) (by kernel_rfl) ?_
                obtain ⟨x5295, hx5296, hm⟩ := bindE hm
                refine wH_idx (i := 2) (d := 40) (T := 32) (A := A0) (n := (l0).length) (cap := cap0) (kd := .i64) (m := x4778) (by kernel_rfl) (qT (qT (qT (qB (qT (qL (qB (qT (qB (qT (qL (qB (qT (qT (qB (qL (qB (qT (qT qZ))))))))))))))))))) (by kernel_rfl) (by kernel_rfl) sl32 (F5170.is hx5296) ?_
                refine wH_loadA (i := 3) (d := 41) (T := 37) (ad := (elA A0 2 (x4778) 0)) (vs := [.int .i64 (x5295.1), .int .i64 (x5295.2)]) (by kernel_rfl) (qT (qT (qT (qB (qT (qL (qB (qT (qB (qT (qL (qB (qT (qT (qB (qL (qB (qT (qT qZ))))))))))))))))))) (by kernel_rfl) (by kernel_rfl) vt37 (fun W hW i u hu => Sl.cells_at (Z5291.chg hW Dj.nil) hx5296 0 hu (by rfl)) ?_
                refine wH_take [4, 5] [5, 4, 3, 2, 1, 0] [(43, .int .i64 (x5168)), (42, .slice A0 (l0).length cap0)] (by kernel_rfl) (qT (qT (qT (qB (qT (qL (qB (qT (qB (qT (qL (qB (qT (qT (qB (qL (qB (qT (qT qZ))))))))))))))))))) (by kernel_rfl) ?_
                obtain ⟨x5297, hx5298, hm⟩ := bindE hm
                refine wH_idx (i := 6) (d := 44) (T := 32) (A := A0) (n := (l0).length) (cap := cap0) (kd := .i64) (m := x5168) (by kernel_rfl) (qT (qT (qT (qB (qT (qL (qB (qT (qB (qT (qL (qB (qT (qT (qB (qL (qB (qT (qT qZ))))))))))))))))))) (by kernel_rfl) (by kernel_rfl) sl32 (F5170.is hx5298) ?_
                refine wH_loadA (i := 7) (d := 45) (T := 37) (ad := (elA A0 2 (x5168) 0)) (vs := [.int .i64 (x5297.1), .int .i64 (x5297.2)]) (by kernel_rfl) (qT (qT (qT (qB (qT (qL (qB (qT (qB (qT (qL (qB (qT (qT (qB (qL (qB (qT (qT qZ))))))))))))))))))) (by kernel_rfl) (by kernel_rfl) vt37 (fun W hW i u hu => Sl.cells_at (Z5291.chg hW Dj.nil) hx5298 0 hu (by rfl)) ?_
                refine wH_done (by kernel_rfl) ?_
                refine eX_tail ?_
                obtain ⟨y5299, hy5300, hm⟩ := bindE hm
                refine wS_calls (d := 46) (f := 153) (vs := [.agg #[.int .i64 (x5295.1), .int .i64 (x5295.2)], .agg #[.int .i64 (x5297.1), .int .i64 (x5297.2)]]) (by kernel_rfl) ent153 (c_spec_l01Far hy5300) ?_
                rintro _ w5301 ⟨rfl, hc5302⟩
                replace F5170 := F5170.chg hc5302 Dj.nil
                replace F5171 := F5171.chg hc5302 Dj.nil
                replace F5172 := F5172.chg hc5302 Dj.nil
                replace F5173 := F5173.chg hc5302 Dj.nil
                replace hB := hB.inS hc5302 inNil
                replace hZ := Nat.le_trans hZ hc5302.size
                refine ⟨.int .i64 (y5299), rfl, ?_⟩
                refine wS_pure 1 [(12, .int .i64 (y5299))] (by kernel_rfl) ?_
                refine wS_end (by rfl) ?_
                refine eX_then ?_
                refine cW_seq ?_
                refine cW_drawnTail [] 15 (by kernel_rfl) (by kernel_rfl) (fun w5315 hc5316 => ?_)
                replace F5170 := F5170.chg hc5316 Dj.nil
                replace F5171 := F5171.chg hc5316 Dj.nil
                replace F5172 := F5172.chg hc5316 Dj.nil
                replace F5173 := F5173.chg hc5316 Dj.nil
                replace hB := hB.inS hc5316 inNil
                replace hZ := Nat.le_trans hZ hc5316.size
                have hS := Chg.refl [] w5315
                have Z5317 := F5170
                have Z5318 := F5171
                have Z5319 := F5172
                have Z5320 := F5173
                refine wH_take [0, 1] [1, 0] [(48, .int .i64 (x4778)), (47, .slice (some ⟨b3, 0, none⟩) (l3600).length (Int.toNat (((l0).length : Int))))] (by kernel_rfl) (qT (qT (qT (qB (qT (qL (qB (qT (qB (qT (qL (qB (qT (qT (qB (qL (qB (qT (qT qZ))))))))))))))))))) (by kernel_rfl) ?_
                obtain ⟨x5321, hx5322, hm⟩ := bindE hm
                refine wH_idx (i := 2) (d := 49) (T := 136) (A := (some ⟨b3, 0, none⟩)) (n := (l3600).length) (cap := (Int.toNat (((l0).length : Int)))) (kd := .i64) (m := x4778) (by kernel_rfl) (qT (qT (qT (qB (qT (qL (qB (qT (qB (qT (qL (qB (qT (qT (qB (qL (qB (qT (qT qZ))))))))))))))))))) (by kernel_rfl) (by kernel_rfl) sl136 ((F5171.sl encB_ok).is hx5322) ?_
                refine wH_load1 (i := 3) (d := 50) (T := 4) (ad := (elA (some ⟨b3, 0, none⟩) 1 (x4778) 0)) (v := .bool (x5321)) (by kernel_rfl) (qT (qT (qT (qB (qT (qL (qB (qT (qB (qT (qL (qB (qT (qT (qB (qL (qB (qT (qT qZ))))))))))))))))))) (by kernel_rfl) (by kernel_rfl) vt4 (fun W hW => Sl.cell ((Z5318.chg hW Dj.nil).sl encB_ok) hx5322 0 (by rfl)) ?_
                refine wH_take [4, 5] [5, 4, 3, 2, 1, 0] [(52, .int .i64 (x5168)), (51, .slice (some ⟨b3, 0, none⟩) (l3600).length (Int.toNat (((l0).length : Int))))] (by kernel_rfl) (qT (qT (qT (qB (qT (qL (qB (qT (qB (qT (qL (qB (qT (qT (qB (qL (qB (qT (qT qZ))))))))))))))))))) (by kernel_rfl) ?_
                obtain ⟨x5323, hx5324, hm⟩ := bindE hm
                refine wH_idx (i := 6) (d := 53) (T := 136) (A := (some ⟨b3, 0, none⟩)) (n := (l3600).length) (cap := (Int.toNat (((l0).length : Int)))) (kd := .i64) (m := x5168) (by kernel_rfl) (qT (qT (qT (qB (qT (qL (qB (qT (qB (qT (qL (qB (qT (qT (qB (qL (qB (qT (qT qZ))))))))))))))))))) (by kernel_rfl) (by kernel_rfl) sl136 ((F5171.sl encB_ok).is hx5324) ?_
                refine wH_load1 (i := 7) (d := 54) (T := 4) (ad := (elA (some ⟨b3, 0, none⟩) 1 (x5168) 0)) (v := .bool (x5323)) (by kernel_rfl) (qT (qT (qT (qB (qT (qL (qB (qT (qB (qT (qL (qB (qT (qT (qB (qL (qB (qT (qT qZ))))))))))))))))))) (by kernel_rfl) (by kernel_rfl) vt4 (fun W hW => Sl.cell ((Z5318.chg hW Dj.nil).sl encB_ok) hx5324 0 (by rfl)) ?_
                refine wH_take [8, 9] [9, 8, 7, 6, 5, 4, 3, 2, 1, 0] [(56, .bool (!(x5321 == x5323))), (55, .bool (!(x5321 == x5323)))] (by kernel_rfl) (qT (qT (qT (qB (qT (qL (qB (qT (qB (qT (qL (qB (qT (qT (qB (qL (qB (qT (qT qZ))))))))))))))))))) (by kernel_rfl) ?_
                refine wH_bool (!(x5321 == x5323)) (fun hb5325 => ?_) (fun hb5325 => ?_)
                · have hm := condT hb5325 hm
                  rewrite [hb5325]
                  refine wH_take [10, 11, 12] [12, 11, 10, 9, 8, 7, 6, 5, 4, 3, 2, 1, 0] [(59, .bool (decide (x5167 < 0))), (58, .bool (decide (x5167 < 0))), (57, .int .i64 (x5167))] (by kernel_rfl) (qT (qT (qT (qB (qT (qL (qB (qT (qB (qT (qL (qB (qT (qT (qB (qL (qB (qT (qT qZ))))))))))))))))))) (by kernel_rfl) ?_
                  refine wH_bool (decide (x5167 < 0)) (fun hb5326 => ?_) (fun hb5326 => ?_)
                  · have hm := condT hb5326 hm
                    rewrite [hb5326]
                    refine wH_take [13, 14] [14, 13, 12, 11, 10, 9, 8, 7, 6, 5, 4, 3, 2, 1, 0] [(61, undef), (60, undef)] (by kernel_rfl) (qT (qT (qT (qB (qT (qL (qB (qT (qB (qT (qL (qB (qT (qT (qB (qL (qB (qT (qT qZ))))))))))))))))))) (by kernel_rfl) ?_
                    refine wH_done (by kernel_rfl) ?_
                    refine eX_tail ?_
                    refine wS_pure 3 [(64, .bool (true)), (63, .bool (true)), (62, undef)] (by kernel_rfl) ?_
                    refine wS_end (by rfl) ?_
                    refine eX_then ?_
                    refine cW_prune [(0, .slice A0 (l0).length cap0), (4, .int .i64 (((l0).length : Int))), (5, .slice (some ⟨b3, 0, none⟩) (l3600).length (Int.toNat (((l0).length : Int)))), (6, .slice A3594 (l3593).length cap3595), (7, .int .i64 (x3599)), (8, .slice A5163 (l5162).length cap5164), (9, .int .i64 (x5167)), (10, .int .i64 (x4778)), (11, .int .i64 (x5168)), (12, .int .i64 (y5299)), (64, .bool (true))] (by kernel_rfl) (by kernel_rfl) (fun a5327 => ?_)
                    refine cW_cond_t (by kernel_rfl) ?_
                    refine cW_seq ?_
                    refine cW_region ?_
                    refine wS_pure 2 [(66, .int .i64 (x5168)), (65, .int .i64 (x4778))] (by kernel_rfl) ?_
                    refine wS_bs (enc := encI) ([x4778, x5168] : List (Int)) [.int .i64 (x4778), .int .i64 (x5168)] (d := 67) (t := 25) (T := 2) (n := 2) (ps := [(0, .int .i64 (x4778)), (1, .int .i64 (x5168))]) (by kernel_rfl) el25 encI_ok (by rfl) (by omega) (by omega) (by kernel_rfl) (by rfl) ?_
                    intro b5328 w5329 G5330 F5331 hc5332
                    have D5334 : Dj [b3] [b5328] := Dj.of F5171.low (low1 G5330)
                    have D5335 : Dj (fp3596 ++ fr3598) [b5328] := Dj.of F5172.low (low1 G5330)
                    have D5336 : Dj fp5165 [b5328] := Dj.of F5173.low (low1 G5330)
                    replace F5170 := F5170.chg hc5332 Dj.nil
                    replace F5171 := F5171.chg hc5332 Dj.nil
                    replace F5172 := F5172.chg hc5332 Dj.nil
                    replace F5173 := F5173.chg hc5332 Dj.nil
                    replace hB := hB.inS hc5332 inNil
                    replace G5330 := Nat.le_trans hZ G5330
                    replace G5330 := low1 G5330
                    replace hZ := Nat.le_trans hZ hc5332.size
                    refine wS_pure 1 [(8, .slice (some ⟨b5328, 0, none⟩) (([x4778, x5168] : List (Int))).length 2)] (by kernel_rfl) ?_
                    refine wS_end (by rfl) ?_
                    refine eX_then ?_
                    refine cW_region ?_
                    refine wS_pure 2 [(9, .int .i64 (y5299)), (68, .int .i64 (y5299))] (by kernel_rfl) ?_
                    refine wS_end (by rfl) ?_
                    have hq : (some ((([x4778, x5168] : List (Int)), y5299)) : Option ((List (Int)) × Int)) = some _ := hm
                    replace hq := someE hq
                    subst hq
                    exact eX_J (fun hst => ⟨([x4778, x5168] : List (Int)), (some ⟨b5328, 0, none⟩), 2, [b5328], y5299, rfl, Fr.of hst (by kernel_rfl), F5170, F5171, F5172, F5331, G5330, D5334, D5335, hB, hZ⟩)
                  · have hm := condF hb5326 hm
                    rewrite [hb5326]
                    refine wH_take [13, 14] [14, 13, 12, 11, 10, 9, 8, 7, 6, 5, 4, 3, 2, 1, 0] [(61, .int .i64 (x5167)), (60, .int .i64 (y5299))] (by kernel_rfl) (qT (qT (qT (qB (qT (qL (qB (qT (qB (qT (qL (qB (qT (qT (qB (qL (qB (qT (qT qZ))))))))))))))))))) (by kernel_rfl) ?_
                    refine wH_done (by kernel_rfl) ?_
                    refine eX_tail ?_
                    refine wS_pure 3 [(64, .bool (decide (y5299 < x5167))), (63, .bool (decide (y5299 < x5167))), (62, .bool (decide (y5299 < x5167)))] (by kernel_rfl) ?_
                    refine wS_end (by rfl) ?_
                    refine eX_then ?_
                    refine cW_prune [(0, .slice A0 (l0).length cap0), (4, .int .i64 (((l0).length : Int))), (5, .slice (some ⟨b3, 0, none⟩) (l3600).length (Int.toNat (((l0).length : Int)))), (6, .slice A3594 (l3593).length cap3595), (7, .int .i64 (x3599)), (8, .slice A5163 (l5162).length cap5164), (9, .int .i64 (x5167)), (10, .int .i64 (x4778)), (11, .int .i64 (x5168)), (12, .int .i64 (y5299)), (64, .bool (decide (y5299 < x5167)))] (by kernel_rfl) (by kernel_rfl) (fun a5337 => ?_)
                    refine cW_cond (t := decide (y5299 < x5167)) (by kernel_rfl) (fun hb5338 => ?_) (fun hb5338 => ?_)
                    · have hm := condT hb5338 hm
                      refine cW_seq ?_
                      refine cW_region ?_
                      refine wS_pure 2 [(66, .int .i64 (x5168)), (65, .int .i64 (x4778))] (by kernel_rfl) ?_
                      refine wS_bs (enc := encI) ([x4778, x5168] : List (Int)) [.int .i64 (x4778), .int .i64 (x5168)] (d := 67) (t := 25) (T := 2) (n := 2) (ps := [(0, .int .i64 (x4778)), (1, .int .i64 (x5168))]) (by kernel_rfl) el25 encI_ok (by rfl) (by omega) (by omega) (by kernel_rfl) (by rfl) ?_
                      intro b5339 w5340 G5341 F5342 hc5343
                      have D5345 : Dj [b3] [b5339] := Dj.of F5171.low (low1 G5341)
                      have D5346 : Dj (fp3596 ++ fr3598) [b5339] := Dj.of F5172.low (low1 G5341)
                      have D5347 : Dj fp5165 [b5339] := Dj.of F5173.low (low1 G5341)
                      replace F5170 := F5170.chg hc5343 Dj.nil
                      replace F5171 := F5171.chg hc5343 Dj.nil
                      replace F5172 := F5172.chg hc5343 Dj.nil
                      replace F5173 := F5173.chg hc5343 Dj.nil
                      replace hB := hB.inS hc5343 inNil
                      replace G5341 := Nat.le_trans hZ G5341
                      replace G5341 := low1 G5341
                      replace hZ := Nat.le_trans hZ hc5343.size
                      refine wS_pure 1 [(8, .slice (some ⟨b5339, 0, none⟩) (([x4778, x5168] : List (Int))).length 2)] (by kernel_rfl) ?_
                      refine wS_end (by rfl) ?_
                      refine eX_then ?_
                      refine cW_region ?_
                      refine wS_pure 2 [(9, .int .i64 (y5299)), (68, .int .i64 (y5299))] (by kernel_rfl) ?_
                      refine wS_end (by rfl) ?_
                      have hq : (some ((([x4778, x5168] : List (Int)), y5299)) : Option ((List (Int)) × Int)) = some _ := hm
                      replace hq := someE hq
                      subst hq
                      exact eX_J (fun hst => ⟨([x4778, x5168] : List (Int)), (some ⟨b5339, 0, none⟩), 2, [b5339], y5299, rfl, Fr.of hst (by kernel_rfl), F5170, F5171, F5172, F5342, G5341, D5345, D5346, hB, hZ⟩)
                    · have hm := condF hb5338 hm
                      refine cW_skip ?_
                      have hq : (some ((l5162, x5167)) : Option ((List (Int)) × Int)) = some _ := hm
                      replace hq := someE hq
                      subst hq
                      exact eX_J (fun hst => ⟨l5162, A5163, cap5164, fp5165, x5167, rfl, Fr.of hst (by kernel_rfl), F5170, F5171, F5172, F5173, G5174, D5175, D5176, hB, hZ⟩)
                · have hm := condF hb5325 hm
                  rewrite [hb5325]
                  refine wH_take [10, 11, 12, 13, 14] [14, 13, 12, 11, 10, 9, 8, 7, 6, 5, 4, 3, 2, 1, 0] [(61, undef), (60, undef), (59, undef), (58, undef), (57, undef)] (by kernel_rfl) (qT (qT (qT (qB (qT (qL (qB (qT (qB (qT (qL (qB (qT (qT (qB (qL (qB (qT (qT qZ))))))))))))))))))) (by kernel_rfl) ?_
                  refine wH_done (by kernel_rfl) ?_
                  refine eX_tail ?_
                  refine wS_pure 3 [(64, .bool (false)), (63, undef), (62, undef)] (by kernel_rfl) ?_
                  refine wS_end (by rfl) ?_
                  refine eX_then ?_
                  refine cW_prune [(0, .slice A0 (l0).length cap0), (4, .int .i64 (((l0).length : Int))), (5, .slice (some ⟨b3, 0, none⟩) (l3600).length (Int.toNat (((l0).length : Int)))), (6, .slice A3594 (l3593).length cap3595), (7, .int .i64 (x3599)), (8, .slice A5163 (l5162).length cap5164), (9, .int .i64 (x5167)), (10, .int .i64 (x4778)), (11, .int .i64 (x5168)), (12, .int .i64 (y5299)), (64, .bool (false))] (by kernel_rfl) (by kernel_rfl) (fun a5348 => ?_)
                  refine cW_cond_f (by kernel_rfl) ?_
                  refine cW_skip ?_
                  have hq : (some ((l5162, x5167)) : Option ((List (Int)) × Int)) = some _ := hm
                  replace hq := someE hq
                  subst hq
                  exact eX_J (fun hst => ⟨l5162, A5163, cap5164, fp5165, x5167, rfl, Fr.of hst (by kernel_rfl), F5170, F5171, F5172, F5173, G5174, D5175, D5176, hB, hZ⟩)
              · rintro a' w5258 ⟨l5259, A5260, cap5261, fp5262, x5264, hJ, hF5265, F5266, F5267, F5268, F5269, G5270, D5271, D5272, hB, hZ⟩
                subst hJ
                refine Fr.goX hF5265 (by kernel_rfl) ?_
                refine eX_block ?_
                refine eX_then ?_
                refine cW_region ?_
                refine wS_pure 3 [(11, .int .i64 (wr (x5168 + 1))), (37, .int .i64 (wr (x5168 + 1))), (36, .int .i64 (x5168))] (by kernel_rfl) ?_
                refine wS_end (by rfl) ?_
                have hq : (some (Ctl.next ((l5259, x5264, wr (x5168 + 1)))) : Option (Ctl ((List (Int)) × Int × Int) ((List (Int)) × Int))) = some _ := hm
                replace hq := someE hq
                subst hq
                exact eX_next hx5182 (fun hst => ⟨l5259, A5260, cap5261, fp5262, x5264, wr (x5168 + 1), rfl, Fr.of hst (by kernel_rfl), F5266, F5267, F5268, F5269, G5270, D5271, D5272, hB, hZ⟩)
            · have hm := condF hb5183 hm
              refine cW_exit ?_
              refine eX_then_exit ?_
              have hq : (some (Ctl.out ((l5162, x5167))) : Option (Ctl ((List (Int)) × Int × Int) ((List (Int)) × Int))) = some _ := hm
              replace hq := someE hq
              subst hq
              refine eX_outX hx5182 (fun hr5349 => ?_)
              replace hr5349 := hr5349.symm
              subst hr5349
              refine eX_block_hit ?_
              exact eX_J (fun hst => ⟨l5162, A5163, cap5164, fp5165, x5167, rfl, Fr.of hst (by kernel_rfl), F5170, F5171, F5172, F5173, G5174, D5175, D5176, hB, hZ⟩)
          · rintro a' w5146 ⟨l5147, A5148, cap5149, fp5150, x5152, hJ, hF5153, F5154, F5155, F5156, F5157, G5158, D5159, D5160, hB, hZ⟩
            subst hJ
            refine Fr.goX hF5153 (by kernel_rfl) ?_
            refine eX_block ?_
            refine eX_then ?_
            refine cW_region ?_
            refine wS_pure 3 [(10, .int .i64 (wr (x4778 + 1))), (30, .int .i64 (wr (x4778 + 1))), (29, .int .i64 (x4778))] (by kernel_rfl) ?_
            refine wS_end (by rfl) ?_
            have hq : (some (Ctl.next ((l5147, x5152, wr (x4778 + 1)))) : Option (Ctl ((List (Int)) × Int × Int) ((List (Int)) × Int))) = some _ := hm
            replace hq := someE hq
            subst hq
            exact eX_next hx4792 (fun hst => ⟨l5147, A5148, cap5149, fp5150, x5152, wr (x4778 + 1), rfl, Fr.of hst (by kernel_rfl), F5154, F5155, F5156, F5157, G5158, D5159, D5160, hB, hZ⟩)
        · have hm := condF hb4793 hm
          refine cW_exit ?_
          refine eX_then_exit ?_
          have hq : (some (Ctl.out ((l4772, x4777))) : Option (Ctl ((List (Int)) × Int × Int) ((List (Int)) × Int))) = some _ := hm
          replace hq := someE hq
          subst hq
          refine eX_outX hx4792 (fun hr5350 => ?_)
          replace hr5350 := hr5350.symm
          subst hr5350
          refine eX_block_hit ?_
          exact eX_J (fun hst => ⟨l4772, A4773, cap4774, fp4775, x4777, rfl, Fr.of hst (by kernel_rfl), F4780, F4781, F4782, F4783, G4784, D4785, D4786, hB, hZ⟩)
      · rintro a' w4756 ⟨l4757, A4758, cap4759, fp4760, x4762, hJ, hF4763, F4764, F4765, F4766, F4767, G4768, D4769, D4770, hB, hZ⟩
        subst hJ
        refine Fr.goX hF4763 (by kernel_rfl) ?_
        refine eX_then ?_
        refine cW_seq ?_
        refine cW_region ?_
        refine wS_pure 2 [(70, .slice A4758 (l4757).length cap4759), (69, .slice (some ⟨b3, 0, none⟩) (l3600).length (Int.toNat (((l0).length : Int))))] (by kernel_rfl) ?_
        obtain ⟨x5351, hx5352, hm⟩ := bindE hm
        refine wS_idx (d := 71) (T := 25) (A := A4758) (n := (l4757).length) (cap := cap4759) (kd := .i64) (m := 0) (by kernel_rfl) sl25 ((F4767.sl encI_ok).is hx5352) ?_
        refine wS_load1 (d := 72) (T := 2) (ad := (elA A4758 1 (0) 0)) (v := .int .i64 (x5351)) (by kernel_rfl) vt2 (Sl.cell (F4767.sl encI_ok) hx5352 0 (by rfl)) ?_
        obtain ⟨x5353, hx5354, hm⟩ := bindE hm
        refine wS_idx (d := 73) (T := 136) (A := (some ⟨b3, 0, none⟩)) (n := (l3600).length) (cap := (Int.toNat (((l0).length : Int)))) (kd := .i64) (m := x5351) (by kernel_rfl) sl136 ((F4765.sl encB_ok).is hx5354) ?_
        refine wS_storeEl (x := x5353) true (T := 4) (U := 4) (cap := (Int.toNat (((l0).length : Int)))) (j := 0) (A := (some ⟨b3, 0, none⟩)) (v := .bool (true)) (vs := [.bool (true)]) (m := x5351) (by kernel_rfl) (by rfl) sz4 (by rfl) encB_ok F4765 hx5354 (by simp only [List.length_cons, List.length_nil]; omega) (by rfl) ?_
        intro w5355 F5356 hc5357
        replace F4764 := F4764.chg hc5357 (Dj.of L0 G5)
        replace F4766 := F4766.chg hc5357 (D3606).symm
        replace F4767 := F4767.chg hc5357 (D4769).symm
        replace hB := hB.inS hc5357 (inLow G5)
        replace hZ := Nat.le_trans hZ hc5357.size
        clear F4765
        rewrite [show (l3600).length = (l3600.set (Int.toNat x5351) true).length from (List.length_set ..).symm]
        refine wS_end (by rfl) ?_
        refine eX_then ?_
        refine cW_seq ?_
        refine cW_region ?_
        refine wS_pure 2 [(75, .slice A4758 (l4757).length cap4759), (74, .slice (some ⟨b3, 0, none⟩) (l3600.set (Int.toNat x5351) true).length (Int.toNat (((l0).length : Int))))] (by kernel_rfl) ?_
        obtain ⟨x5358, hx5359, hm⟩ := bindE hm
        refine wS_idx (d := 76) (T := 25) (A := A4758) (n := (l4757).length) (cap := cap4759) (kd := .i64) (m := 1) (by kernel_rfl) sl25 ((F4767.sl encI_ok).is hx5359) ?_
        refine wS_load1 (d := 77) (T := 2) (ad := (elA A4758 1 (1) 0)) (v := .int .i64 (x5358)) (by kernel_rfl) vt2 (Sl.cell (F4767.sl encI_ok) hx5359 0 (by rfl)) ?_
        obtain ⟨x5360, hx5361, hm⟩ := bindE hm
        refine wS_idx (d := 78) (T := 136) (A := (some ⟨b3, 0, none⟩)) (n := (l3600.set (Int.toNat x5351) true).length) (cap := (Int.toNat (((l0).length : Int)))) (kd := .i64) (m := x5358) (by kernel_rfl) sl136 ((F5356.sl encB_ok).is hx5361) ?_
        refine wS_storeEl (x := x5360) true (T := 4) (U := 4) (cap := (Int.toNat (((l0).length : Int)))) (j := 0) (A := (some ⟨b3, 0, none⟩)) (v := .bool (true)) (vs := [.bool (true)]) (m := x5358) (by kernel_rfl) (by rfl) sz4 (by rfl) encB_ok F5356 hx5361 (by simp only [List.length_cons, List.length_nil]; omega) (by rfl) ?_
        intro w5362 F5363 hc5364
        replace F4764 := F4764.chg hc5364 (Dj.of L0 G5)
        replace F4766 := F4766.chg hc5364 (D3606).symm
        replace F4767 := F4767.chg hc5364 (D4769).symm
        replace hB := hB.inS hc5364 (inLow G5)
        replace hZ := Nat.le_trans hZ hc5364.size
        clear F5356
        rewrite [show (l3600.set (Int.toNat x5351) true).length = ((l3600.set (Int.toNat x5351) true).set (Int.toNat x5358) true).length from (List.length_set ..).symm]
        refine wS_end (by rfl) ?_
        refine eX_then ?_
        refine cW_seq ?_
        refine cW_region ?_
        refine wS_pure 2 [(80, .slice A4758 (l4757).length cap4759), (79, .slice A3594 (l3593).length cap3595)] (by kernel_rfl) ?_
        refine wS_row1 (k := 1) (enc := encI) (l := l4757) (d := 81) (t := 40) (T := 25) (B := A4758) (c := cap4759) (by kernel_rfl) el40 F4767 ?_
        intro b5365 w5366 G5367 F5368 hc5369
        have D5371 : Dj [b3] ([b5365] ++ fp4760) := Dj.app (Dj.of F5363.low (low1 G5367)) D4769
        have D5372 : Dj (fp3596 ++ fr3598) ([b5365] ++ fp4760) := Dj.app (Dj.of F4766.low (low1 G5367)) D4770
        replace F4764 := F4764.chg hc5369 Dj.nil
        replace F5363 := F5363.chg hc5369 Dj.nil
        replace F4766 := F4766.chg hc5369 Dj.nil
        replace F4767 := F4767.chg hc5369 Dj.nil
        replace hB := hB.inS hc5369 inNil
        replace G5367 := Nat.le_trans hZ G5367
        replace G5367 := lowApp (low1 G5367) G4768
        replace hZ := Nat.le_trans hZ hc5369.size
        replace F4767 := (F4767.sl encI_ok)
        obtain ⟨_, hk5373, hm⟩ := bindE hm
        replace hk5373 := apE hk5373
        refine wS_appendR (k := 1) (enc := encI) (ll := (l3593 : List (List (Int)))) (ll2 := (([l4757] : List (List (Int))) : List (List (Int)))) (d := 82) (t := 40) (T := 25) (A := A3594) (A2 := (some ⟨b5365, 0, none⟩)) (cap := cap3595) (cap2 := 1) (by kernel_rfl) el40 F4766 F5368 (by rfl) D5372 hk5373 ?_
        intro w5374 fp5375 A5376 cap5377 F5378 hc5379 hp5380
        have G5382 := lowApp (low_ap (low_inl G3605) hZ hp5380) (lowApp (low_inr G3605) (low_inr G5367))
        have D5383 : Dj [b3] (fp5375 ++ (fr3598 ++ fp4760)) := Dj.app (Dj.ap (Dj.inl D3606) F5363.low hp5380) (Dj.app (Dj.inr D3606) (Dj.inr D5371))
        replace F4764 := F4764.chg hc5379 (Dj.inl (Dj.of L0 G3605))
        replace F5363 := F5363.chg hc5379 (Dj.inl D3606)
        replace hB := hB.inS hc5379 (memS_inl (inLow G3605))
        replace hZ := Nat.le_trans hZ hc5379.size
        refine wS_pure 1 [(6, .slice A5376 (l3593 ++ (([l4757] : List (List (Int))))).length cap5377)] (by kernel_rfl) ?_
        refine wS_end (by rfl) ?_
        refine eX_then ?_
        refine cW_region ?_
        refine wS_pure 4 [(7, .int .i64 (wr (x3599 + x4762))), (85, .int .i64 (wr (x3599 + x4762))), (84, .int .i64 (x4762)), (83, .int .i64 (x3599))] (by kernel_rfl) ?_
        refine wS_end (by rfl) ?_
        refine eX_block ?_
        have hq : (some (Ctl.next ((l3593 ++ (([l4757] : List (List (Int)))), wr (x3599 + x4762), (l3600.set (Int.toNat x5351) true).set (Int.toNat x5358) true))) : Option (Ctl ((List (List (Int))) × Int × (List (Bool))) ((List (List (Int))) × Int))) = some _ := hm
        replace hq := someE hq
        subst hq
        exact eX_next hx3612 (fun hst => ⟨l3593 ++ (([l4757] : List (List (Int)))), A5376, cap5377, fp5375, (fr3598 ++ fp4760), wr (x3599 + x4762), (l3600.set (Int.toNat x5351) true).set (Int.toNat x5358) true, rfl, Fr.of hst (by kernel_rfl), F4764, F5363, F5378, G5382, D5383, hB, hZ⟩)
    · have hm := condF hb3613 hm
      refine cW_exit ?_
      refine eX_then_exit ?_
      have hq : (some (Ctl.out ((l3593, x3599))) : Option (Ctl ((List (List (Int))) × Int × (List (Bool))) ((List (List (Int))) × Int))) = some _ := hm
      replace hq := someE hq
      subst hq
      refine eX_outX hx3612 (fun hr5384 => ?_)
      replace hr5384 := hr5384.symm
      subst hr5384
      refine eX_block_hit ?_
      exact eX_J (fun hst => ⟨l3593, A3594, cap3595, fp3596, fr3598, x3599, rfl, Fr.of hst (by kernel_rfl), F3604, G3605, hB, hZ⟩)
  · rintro a' w3581 ⟨l3582, A3583, cap3584, fp3585, fr3587, x3588, hJ, hF3589, F3590, G3591, hB, hZ⟩
    subst hJ
    refine Fr.goX hF3589 (by kernel_rfl) ?_
    refine eX_then ?_
    refine cW_seq ?_
    refine cW_region ?_
    refine wS_pure 4 [(3, .int .i64 (x3588)), (2, .slice A3583 (l3582).length cap3584), (87, .int .i64 (x3588)), (86, .slice A3583 (l3582).length cap3584)] (by kernel_rfl) ?_
    refine wS_end (by rfl) ?_
    refine eX_then ?_
    refine cW_ret ?_
    have hq : (some ((l3582, x3588)) : Option ((List (List (Int))) × (Int))) = some _ := hm
    replace hq := someE hq
    subst hq
    refine eX_ret (vs := [.slice A3583 (l3582).length cap3584, .int .i64 (x3588)]) [.tmp 2, .tmp 3] (by rfl) ⟨by (show lkE _ _ _ = _); kernel_rfl, ⟨by (show lkE _ _ _ = _); kernel_rfl, trivial⟩⟩ ?_
    exact ⟨A3583, cap3584, fp3585, fr3587, rfl, F3590, G3591, hB⟩

set_option maxRecDepth 100000 in
/-- spec.l03Less -/
theorem c_spec_l03Less {w0 : World} {l0 : List (Int)} {A0 : Option Addr} {cap0 : Nat} {fp0 : List Nat} {l1 : List (Int)} {A1 : Option Addr} {cap1 : Nat} {fp1 : List Nat} {r : (Bool)} (hm : m_spec_l03Less l0 l1 = some r) (F0 : Sl 1 encI w0 fp0 A0 l0) (F1 : Sl 1 encI w0 fp1 A1 l1) :
    Calls Try.prog 154 #[.slice A0 (l0).length cap0, .slice A1 (l1).length cap1] w0 fun e w' => e = .returned (.bool (r)) ∧ Chg [] w0 w' := by
  have L0 := F0.low
  have L1 := F1.low
  have hB : Chg [] w0 w0 := Chg.refl _ _
  have hZ := Nat.le_refl w0.heap.size
  unfold m_spec_l03Less at hm
  refine enterE (N := 41) Try.func154 (by rfl) Try.ntmps154 (by simp) [(0, .slice A0 (l0).length cap0), (1, .slice A1 (l1).length cap1)] (by rfl) (by kernel_rfl) (fun a => ?_)
  refine cW_seq ?_
  refine cW_region ?_
  refine wS_pure 1 [(4, .bool (false))] (by kernel_rfl) ?_
  refine wS_end (by rfl) ?_
  refine eX_then ?_
  refine cW_seq ?_
  refine cW_seq ?_
  refine cW_region ?_
  refine wS_pure 1 [(5, .int .i64 (0))] (by kernel_rfl) ?_
  refine wS_end (by rfl) ?_
  refine eX_then ?_
  obtain ⟨r91, hr92, hm⟩ := bindE hm
  have hm93 := hm
  refine cW_cut (fun a' w' => Sum.inl (()) = r91 ∧ Fr 41 [(0, .slice A0 (l0).length cap0), (1, .slice A1 (l1).length cap1)] a' ∧ Sl 1 encI w' fp0 A0 l0 ∧ Sl 1 encI w' fp1 A1 l1 ∧ Chg [] w0 w' ∧ w0.heap.size ≤ w'.heap.size) ?_ ?_
  · refine cW_block ?_
    refine cW_loop _ (fun (s94 : Int) a' w' => ∃ x87 : Int, x87 = s94 ∧ Fr 41 [(0, .slice A0 (l0).length cap0), (1, .slice A1 (l1).length cap1), (5, .int .i64 (x87))] a' ∧ Sl 1 encI w' fp0 A0 l0 ∧ Sl 1 encI w' fp1 A1 l1 ∧ Chg [] w0 w' ∧ w0.heap.size ≤ w'.heap.size) hr92 (fun hst => ⟨0, rfl, Fr.of hst (by kernel_rfl), F0, F1, hB, hZ⟩) ?_
    rintro _ c95 a' w86 ⟨x87, rfl, hF88, F89, F90, hB, hZ⟩ hx96
    refine Fr.goOn hF88 (by kernel_rfl) ?_
    have hm := hx96
    unfold m_spec_l03Less_s1 at hm
    refine cW_seq ?_
    refine cW_seq ?_
    refine cW_region ?_
    refine wS_pure 5 [(10, .bool (decide (x87 < (((l0).length : Int))))), (9, .bool (decide (x87 < (((l0).length : Int))))), (8, .int .i64 (((l0).length : Int))), (7, .slice A0 (l0).length cap0), (6, .int .i64 (x87))] (by kernel_rfl) ?_
    refine wS_bool (decide (x87 < (((l0).length : Int)))) (fun hb97 => ?_) (fun hb97 => ?_)
    · have hm := condT hb97 hm
      rewrite [hb97]
      refine wS_pure 5 [(15, .bool (decide (x87 < (((l1).length : Int))))), (14, .bool (decide (x87 < (((l1).length : Int))))), (13, .int .i64 (((l1).length : Int))), (12, .slice A1 (l1).length cap1), (11, .int .i64 (x87))] (by kernel_rfl) ?_
      refine wS_end (by rfl) ?_
      refine eX_then ?_
      refine cW_cond (t := decide (x87 < (((l1).length : Int)))) (by kernel_rfl) (fun hb98 => ?_) (fun hb98 => ?_)
      · have hm := condT hb98 hm
        refine cW_skip ?_
        refine eX_then ?_
        refine cW_seq ?_
        refine cW_block ?_
        refine cW_seq ?_
        refine cW_drawnTail [] 8 (by kernel_rfl) (by kernel_rfl) (fun w107 hc108 => ?_)
        replace F89 := F89.chg hc108 Dj.nil
        replace F90 := F90.chg hc108 Dj.nil
        replace hB := hB.inS hc108 inNil
        replace hZ := Nat.le_trans hZ hc108.size
        have hS := Chg.refl [] w107
        have Z109 := F89
        have Z110 := F90
        refine wH_take [0, 1] [1, 0] [(19, .int .i64 (x87)), (18, .slice A0 (l0).length cap0)] (by kernel_rfl) (qT (qT (qB (qT (qL (qB (qT (qT qZ)))))))) (by kernel_rfl) ?_
        obtain ⟨x111, hx112, hm⟩ := bindE hm
        refine wH_idx (i := 2) (d := 20) (T := 25) (A := A0) (n := (l0).length) (cap := cap0) (kd := .i64) (m := x87) (by kernel_rfl) (qT (qT (qB (qT (qL (qB (qT (qT qZ)))))))) (by kernel_rfl) (by kernel_rfl) sl25 (F89.is hx112) ?_
        refine wH_load1 (i := 3) (d := 21) (T := 2) (ad := (elA A0 1 (x87) 0)) (v := .int .i64 (x111)) (by kernel_rfl) (qT (qT (qB (qT (qL (qB (qT (qT qZ)))))))) (by kernel_rfl) (by kernel_rfl) vt2 (fun W hW => Sl.cell (Z109.chg hW Dj.nil) hx112 0 (by rfl)) ?_
        refine wH_take [4, 5] [5, 4, 3, 2, 1, 0] [(23, .int .i64 (x87)), (22, .slice A1 (l1).length cap1)] (by kernel_rfl) (qT (qT (qB (qT (qL (qB (qT (qT qZ)))))))) (by kernel_rfl) ?_
        obtain ⟨x113, hx114, hm⟩ := bindE hm
        refine wH_idx (i := 6) (d := 24) (T := 25) (A := A1) (n := (l1).length) (cap := cap1) (kd := .i64) (m := x87) (by kernel_rfl) (qT (qT (qB (qT (qL (qB (qT (qT qZ)))))))) (by kernel_rfl) (by kernel_rfl) sl25 (F90.is hx114) ?_
        refine wH_load1 (i := 7) (d := 25) (T := 2) (ad := (elA A1 1 (x87) 0)) (v := .int .i64 (x113)) (by kernel_rfl) (qT (qT (qB (qT (qL (qB (qT (qT qZ)))))))) (by kernel_rfl) (by kernel_rfl) vt2 (fun W hW => Sl.cell (Z110.chg hW Dj.nil) hx114 0 (by rfl)) ?_
        refine wH_done (by kernel_rfl) ?_
        refine eX_tail ?_
        refine wS_pure 1 [(26, .bool (x111 != x113))] (by kernel_rfl) ?_
        refine wS_end (by rfl) ?_
        refine eX_then ?_
        refine cW_cond (t := x111 != x113) (by kernel_rfl) (fun hb115 => ?_) (fun hb115 => ?_)
        · have hm := condT hb115 hm
          refine cW_seq ?_
          refine cW_drawnTail [] 8 (by kernel_rfl) (by kernel_rfl) (fun w124 hc125 => ?_)
          replace F89 := F89.chg hc125 Dj.nil
          replace F90 := F90.chg hc125 Dj.nil
          replace hB := hB.inS hc125 inNil
          replace hZ := Nat.le_trans hZ hc125.size
          have hS := Chg.refl [] w124
          have Z126 := F89
          have Z127 := F90
          refine wH_take [0, 1] [1, 0] [(28, .int .i64 (x87)), (27, .slice A0 (l0).length cap0)] (by kernel_rfl) (qT (qT (qB (qT (qL (qB (qT (qT qZ)))))))) (by kernel_rfl) ?_
          obtain ⟨x128, hx129, hm⟩ := bindE hm
          refine wH_idx (i := 2) (d := 29) (T := 25) (A := A0) (n := (l0).length) (cap := cap0) (kd := .i64) (m := x87) (by kernel_rfl) (qT (qT (qB (qT (qL (qB (qT (qT qZ)))))))) (by kernel_rfl) (by kernel_rfl) sl25 (F89.is hx129) ?_
          refine wH_load1 (i := 3) (d := 30) (T := 2) (ad := (elA A0 1 (x87) 0)) (v := .int .i64 (x128)) (by kernel_rfl) (qT (qT (qB (qT (qL (qB (qT (qT qZ)))))))) (by kernel_rfl) (by kernel_rfl) vt2 (fun W hW => Sl.cell (Z126.chg hW Dj.nil) hx129 0 (by rfl)) ?_
          refine wH_take [4, 5] [5, 4, 3, 2, 1, 0] [(32, .int .i64 (x87)), (31, .slice A1 (l1).length cap1)] (by kernel_rfl) (qT (qT (qB (qT (qL (qB (qT (qT qZ)))))))) (by kernel_rfl) ?_
          obtain ⟨x130, hx131, hm⟩ := bindE hm
          refine wH_idx (i := 6) (d := 33) (T := 25) (A := A1) (n := (l1).length) (cap := cap1) (kd := .i64) (m := x87) (by kernel_rfl) (qT (qT (qB (qT (qL (qB (qT (qT qZ)))))))) (by kernel_rfl) (by kernel_rfl) sl25 (F90.is hx131) ?_
          refine wH_load1 (i := 7) (d := 34) (T := 2) (ad := (elA A1 1 (x87) 0)) (v := .int .i64 (x130)) (by kernel_rfl) (qT (qT (qB (qT (qL (qB (qT (qT qZ)))))))) (by kernel_rfl) (by kernel_rfl) vt2 (fun W hW => Sl.cell (Z127.chg hW Dj.nil) hx131 0 (by rfl)) ?_
          refine wH_done (by kernel_rfl) ?_
          refine eX_tail ?_
          refine wS_pure 2 [(4, .bool (decide (x128 < x130))), (35, .bool (decide (x128 < x130)))] (by kernel_rfl) ?_
          refine wS_end (by rfl) ?_
          refine eX_then ?_
          refine cW_prune [(4, .bool (decide (x128 < x130)))] (by kernel_rfl) (by kernel_rfl) (fun a132 => ?_)
          refine cW_ret ?_
          refine eX_block_ret ?_
          refine eX_then_ret ?_
          have hq : (some (Ctl.out (Sum.inr (decide (x128 < x130)))) : Option (Ctl (Int) (Sum (Unit) ((Bool))))) = some _ := hm
          replace hq := someE hq
          subst hq
          refine eX_outR hx96 (fun hr => ?_)
          subst hr
          refine eX_block_ret ?_
          refine eX_then_ret ?_
          refine eX_then_ret ?_
          have hq : (some (decide (x128 < x130)) : Option ((Bool))) = some _ := hm93
          replace hq := someE hq
          subst hq
          refine eX_ret (vs := [.bool (decide (x128 < x130))]) [.tmp 4] (by rfl) ⟨by (show lkE _ _ _ = _); kernel_rfl, trivial⟩ ?_
          exact ⟨rfl, hB⟩
        · have hm := condF hb115 hm
          refine cW_skip ?_
          refine eX_block ?_
          refine eX_then ?_
          refine cW_region ?_
          refine wS_pure 3 [(5, .int .i64 (wr (x87 + 1))), (17, .int .i64 (wr (x87 + 1))), (16, .int .i64 (x87))] (by kernel_rfl) ?_
          refine wS_end (by rfl) ?_
          have hq : (some (Ctl.next (wr (x87 + 1))) : Option (Ctl (Int) (Sum (Unit) ((Bool))))) = some _ := hm
          replace hq := someE hq
          subst hq
          exact eX_next hx96 (fun hst => ⟨wr (x87 + 1), rfl, Fr.of hst (by kernel_rfl), F89, F90, hB, hZ⟩)
      · have hm := condF hb98 hm
        refine cW_exit ?_
        refine eX_then_exit ?_
        have hq : (some (Ctl.out (Sum.inl (()))) : Option (Ctl (Int) (Sum (Unit) ((Bool))))) = some _ := hm
        replace hq := someE hq
        subst hq
        refine eX_outX hx96 (fun hr133 => ?_)
        replace hr133 := hr133.symm
        subst hr133
        refine eX_block_hit ?_
        exact eX_J (fun hst => ⟨rfl, Fr.of hst (by kernel_rfl), F89, F90, hB, hZ⟩)
    · have hm := condF hb97 hm
      rewrite [hb97]
      refine wS_pure 5 [(15, .bool (false)), (14, undef), (13, undef), (12, undef), (11, undef)] (by kernel_rfl) ?_
      refine wS_end (by rfl) ?_
      refine eX_then ?_
      refine cW_cond_f (by kernel_rfl) ?_
      refine cW_exit ?_
      refine eX_then_exit ?_
      have hq : (some (Ctl.out (Sum.inl (()))) : Option (Ctl (Int) (Sum (Unit) ((Bool))))) = some _ := hm
      replace hq := someE hq
      subst hq
      refine eX_outX hx96 (fun hr134 => ?_)
      replace hr134 := hr134.symm
      subst hr134
      refine eX_block_hit ?_
      exact eX_J (fun hst => ⟨rfl, Fr.of hst (by kernel_rfl), F89, F90, hB, hZ⟩)
  · rintro a' w82 ⟨hJ, hF83, F84, F85, hB, hZ⟩
    subst hJ
    refine Fr.goX hF83 (by kernel_rfl) ?_
    refine eX_then ?_
    refine cW_seq ?_
    refine cW_region ?_
    refine wS_pure 6 [(4, .bool (decide ((((l0).length : Int)) < (((l1).length : Int))))), (40, .bool (decide ((((l0).length : Int)) < (((l1).length : Int))))), (39, .int .i64 (((l1).length : Int))), (38, .slice A1 (l1).length cap1), (37, .int .i64 (((l0).length : Int))), (36, .slice A0 (l0).length cap0)] (by kernel_rfl) ?_
    refine wS_end (by rfl) ?_
    refine eX_then ?_
    refine cW_ret ?_
    have hq : (some (decide ((((l0).length : Int)) < (((l1).length : Int)))) : Option ((Bool))) = some _ := hm
    replace hq := someE hq
    subst hq
    refine eX_ret (vs := [.bool (decide ((((l0).length : Int)) < (((l1).length : Int))))]) [.tmp 4] (by rfl) ⟨by (show lkE _ _ _ = _); kernel_rfl, trivial⟩ ?_
    exact ⟨rfl, hB⟩

set_option maxRecDepth 100000 in
/-- spec.l05Pairs -/
theorem c_spec_l05Pairs_ids {w0 : World} {ra : Nat → Option Addr} {rw : Nat → List Int} {rc : Nat → Nat} {fph : List Nat} {l0 : List (Nat)} {A0 : Option Addr} {cap0 : Nat} {fp0 : List Nat} {r : (List (Nat))} (hm : m_spec_l05Pairs_ids rw l0 = some r) (FH : HRows w0 fph ra rw) (F0 : Sl 1 (encN ra rw rc) w0 fp0 A0 l0) :
    Calls Try.prog 93 #[.slice A0 (l0).length cap0] w0 fun e w' => ∃ A100 cap100 fp100, e = .returned (.slice A100 (r).length cap100) ∧ Ow 1 (encN ra rw rc) 25 w' fp100 A100 cap100 r ∧ (∀ x ∈ fp100, w0.heap.size ≤ x) ∧ Chg [] w0 w' := by
  have Lh := FH.low
  have L0 := F0.low
  have hB : Chg [] w0 w0 := Chg.refl _ _
  have hZ := Nat.le_refl w0.heap.size
  unfold m_spec_l05Pairs_ids at hm
  refine enterE (N := 48) Try.func93 (by rfl) Try.ntmps93 (by simp) [(0, .slice A0 (l0).length cap0)] (by rfl) (by kernel_rfl) (fun a => ?_)
  refine cW_seq ?_
  refine cW_region ?_
  refine wS_pure 1 [(2, .slice none 0 0)] (by kernel_rfl) ?_
  refine wS_end (by rfl) ?_
  refine eX_then ?_
  refine cW_seq ?_
  refine cW_region ?_
  refine wS_bs0 (α := Nat) (enc := (encN ra rw rc)) (d := 7) (t := 40) (T := 25) (by kernel_rfl) el40 ?_
  intro b3 w4 G5 F6 hc7
  replace FH := FH.chg hc7 Dj.nil
  replace F0 := F0.chg hc7 Dj.nil
  replace hB := hB.inS hc7 inNil
  replace G5 := Nat.le_trans hZ G5
  replace G5 := low1 G5
  replace hZ := Nat.le_trans hZ hc7.size
  refine wS_pure 1 [(3, .slice (some ⟨b3, 0, none⟩) (([] : List (Nat))).length 0)] (by kernel_rfl) ?_
  refine wS_end (by rfl) ?_
  refine eX_then ?_
  refine cW_seq ?_
  refine cW_seq ?_
  refine cW_region ?_
  refine wS_pure 1 [(4, .int .i64 (0))] (by kernel_rfl) ?_
  refine wS_end (by rfl) ?_
  refine eX_then ?_
  obtain ⟨r528, hr529, hm⟩ := bindE hm
  have hm530 := hm
  refine cW_cut (fun a' w' => ∃ l507 : List (Nat), ∃ A508 : Option Addr, ∃ cap509 : Nat, ∃ fp510 : List Nat, l507 = r528 ∧ Fr 48 [(3, .slice A508 (l507).length cap509)] a' ∧ HRows w' fph ra rw ∧ Ow 1 (encN ra rw rc) 25 w' fp510 A508 cap509 l507 ∧ (∀ x ∈ fp510, w0.heap.size ≤ x) ∧ Chg [] w0 w' ∧ w0.heap.size ≤ w'.heap.size) ?_ ?_
  · refine cW_block ?_
    refine cW_loop _ (fun (s531 : (List (Nat)) × Int) a' w' => ∃ l517 : List (Nat), ∃ A518 : Option Addr, ∃ cap519 : Nat, ∃ fp520 : List Nat, ∃ x522 : Int, (l517, x522) = s531 ∧ Fr 48 [(0, .slice A0 (l0).length cap0), (3, .slice A518 (l517).length cap519), (4, .int .i64 (x522))] a' ∧ HRows w' fph ra rw ∧ Sl 1 (encN ra rw rc) w' fp0 A0 l0 ∧ Ow 1 (encN ra rw rc) 25 w' fp520 A518 cap519 l517 ∧ (∀ x ∈ fp520, w0.heap.size ≤ x) ∧ Chg [] w0 w' ∧ w0.heap.size ≤ w'.heap.size) hr529 (fun hst => ⟨([] : List (Nat)), (some ⟨b3, 0, none⟩), 0, [b3], 0, rfl, Fr.of hst (by kernel_rfl), FH, F0, F6, G5, hB, hZ⟩) ?_
    rintro _ c532 a' w516 ⟨l517, A518, cap519, fp520, x522, rfl, hF523, F524, F525, F526, G527, hB, hZ⟩ hx533
    refine Fr.goOn hF523 (by kernel_rfl) ?_
    have hm := hx533
    unfold m_spec_l05Pairs_ids_s3 at hm
    refine cW_seq ?_
    refine cW_seq ?_
    refine cW_region ?_
    refine wS_pure 4 [(11, .bool (decide (x522 < (((l0).length : Int))))), (10, .int .i64 (((l0).length : Int))), (9, .slice A0 (l0).length cap0), (8, .int .i64 (x522))] (by kernel_rfl) ?_
    refine wS_end (by rfl) ?_
    refine eX_then ?_
    refine cW_cond (t := decide (x522 < (((l0).length : Int)))) (by kernel_rfl) (fun hb534 => ?_) (fun hb534 => ?_)
    · have hm := condT hb534 hm
      refine cW_skip ?_
      refine eX_then ?_
      refine cW_seq ?_
      refine cW_block ?_
      refine cW_seq ?_
      refine cW_region ?_
      refine wS_pure 1 [(5, .int .i64 (0))] (by kernel_rfl) ?_
      refine wS_end (by rfl) ?_
      refine eX_then ?_
      refine cW_seq ?_
      obtain ⟨r614, hr615, hm⟩ := bindE hm
      have hm616 := hm
      refine cW_cut (fun a' w' => ∃ x603 : Int, x603 = r614 ∧ Fr 48 [(0, .slice A0 (l0).length cap0), (3, .slice A518 (l517).length cap519), (4, .int .i64 (x522)), (5, .int .i64 (x603))] a' ∧ HRows w' fph ra rw ∧ Sl 1 (encN ra rw rc) w' fp0 A0 l0 ∧ Ow 1 (encN ra rw rc) 25 w' fp520 A518 cap519 l517 ∧ Chg [] w0 w' ∧ w0.heap.size ≤ w'.heap.size) ?_ ?_
      · refine cW_block ?_
        refine cW_loop _ (fun (s617 : Int) a' w' => ∃ x609 : Int, x609 = s617 ∧ Fr 48 [(0, .slice A0 (l0).length cap0), (3, .slice A518 (l517).length cap519), (4, .int .i64 (x522)), (5, .int .i64 (x609))] a' ∧ HRows w' fph ra rw ∧ Sl 1 (encN ra rw rc) w' fp0 A0 l0 ∧ Ow 1 (encN ra rw rc) 25 w' fp520 A518 cap519 l517 ∧ Chg [] w0 w' ∧ w0.heap.size ≤ w'.heap.size) hr615 (fun hst => ⟨0, rfl, Fr.of hst (by kernel_rfl), F524, F525, F526, hB, hZ⟩) ?_
        rintro _ c618 a' w608 ⟨x609, rfl, hF610, F611, F612, F613, hB, hZ⟩ hx619
        refine Fr.goOn hF610 (by kernel_rfl) ?_
        have hm := hx619
        unfold m_spec_l05Pairs_ids_s4 at hm
        refine cW_seq ?_
        refine cW_seq ?_
        refine cW_drawnTail [] 13 (by kernel_rfl) (by kernel_rfl) (fun w634 hc635 => ?_)
        replace F611 := F611.chg hc635 Dj.nil
        replace F612 := F612.chg hc635 Dj.nil
        replace F613 := F613.chg hc635 Dj.nil
        replace hB := hB.inS hc635 inNil
        replace hZ := Nat.le_trans hZ hc635.size
        have hS := Chg.refl [] w634
        have Z636 := F611
        have Z637 := F612
        have Z638 := F613
        refine wH_take [0, 1, 2, 3, 4] [4, 3, 2, 1, 0] [(18, .bool (decide (x609 < (((l517).length : Int))))), (17, .bool (decide (x609 < (((l517).length : Int))))), (16, .int .i64 (((l517).length : Int))), (15, .slice A518 (l517).length cap519), (14, .int .i64 (x609))] (by kernel_rfl) (qT (qT (qT (qL (qB (qT (qT (qB (qT (qL (qB (qT (qT qZ))))))))))))) (by kernel_rfl) ?_
        refine wH_bool (decide (x609 < (((l517).length : Int)))) (fun hb639 => ?_) (fun hb639 => ?_)
        · have hm := condT hb639 hm
          rewrite [hb639]
          refine wH_take [5, 6] [6, 5, 4, 3, 2, 1, 0] [(20, .int .i64 (x609)), (19, .slice A518 (l517).length cap519)] (by kernel_rfl) (qT (qT (qT (qL (qB (qT (qT (qB (qT (qL (qB (qT (qT qZ))))))))))))) (by kernel_rfl) ?_
          obtain ⟨x640, hx641, hm⟩ := bindE hm
          refine wH_idx (i := 7) (d := 21) (T := 40) (A := A518) (n := (l517).length) (cap := cap519) (kd := .i64) (m := x609) (by kernel_rfl) (qT (qT (qT (qL (qB (qT (qT (qB (qT (qL (qB (qT (qT qZ))))))))))))) (by kernel_rfl) (by kernel_rfl) sl40 ((F613.sl encN_ok).is hx641) ?_
          refine wH_load1 (i := 8) (d := 22) (T := 25) (ad := (elA A518 1 (x609) 0)) (v := .slice (ra x640) (rw x640).length (rc x640)) (by kernel_rfl) (qT (qT (qT (qL (qB (qT (qT (qB (qT (qL (qB (qT (qT qZ))))))))))))) (by kernel_rfl) (by kernel_rfl) vt25 (fun W hW => Sl.cell ((Z638.chg hW Dj.nil).sl encN_ok) hx641 0 (by rfl)) ?_
          refine wH_take [9, 10] [10, 9, 8, 7, 6, 5, 4, 3, 2, 1, 0] [(24, .int .i64 (x522)), (23, .slice A0 (l0).length cap0)] (by kernel_rfl) (qT (qT (qT (qL (qB (qT (qT (qB (qT (qL (qB (qT (qT qZ))))))))))))) (by kernel_rfl) ?_
          obtain ⟨x642, hx643, hm⟩ := bindE hm
          refine wH_idx (i := 11) (d := 25) (T := 40) (A := A0) (n := (l0).length) (cap := cap0) (kd := .i64) (m := x522) (by kernel_rfl) (qT (qT (qT (qL (qB (qT (qT (qB (qT (qL (qB (qT (qT qZ))))))))))))) (by kernel_rfl) (by kernel_rfl) sl40 (F612.is hx643) ?_
          refine wH_load1 (i := 12) (d := 26) (T := 25) (ad := (elA A0 1 (x522) 0)) (v := .slice (ra x642) (rw x642).length (rc x642)) (by kernel_rfl) (qT (qT (qT (qL (qB (qT (qT (qB (qT (qL (qB (qT (qT qZ))))))))))))) (by kernel_rfl) (by kernel_rfl) vt25 (fun W hW => Sl.cell (Z637.chg hW Dj.nil) hx643 0 (by rfl)) ?_
          refine wH_done (by kernel_rfl) ?_
          refine eX_tail ?_
          obtain ⟨y644, hy645, hm⟩ := bindE hm
          refine wS_calls (d := 27) (f := 154) (vs := [.slice (ra x640) (rw x640).length (rc x640), .slice (ra x642) (rw x642).length (rc x642)]) (by kernel_rfl) ent154 (c_spec_l03Less hy645 (F611.row x640) (F611.row x642)) ?_
          rintro _ w646 ⟨rfl, hc647⟩
          replace F611 := F611.chg hc647 Dj.nil
          replace F612 := F612.chg hc647 Dj.nil
          replace F613 := F613.chg hc647 Dj.nil
          replace hB := hB.inS hc647 inNil
          replace hZ := Nat.le_trans hZ hc647.size
          refine ⟨.bool (y644), rfl, ?_⟩
          refine wS_pure 1 [(28, .bool (y644))] (by kernel_rfl) ?_
          refine wS_end (by rfl) ?_
          refine eX_then ?_
          refine cW_cond (t := y644) (by kernel_rfl) (fun hb648 => ?_) (fun hb648 => ?_)
          · have hm := condT hb648 hm
            refine cW_skip ?_
            refine eX_then ?_
            refine cW_block ?_
            refine cW_region ?_
            refine wS_pure 3 [(5, .int .i64 (wr (x609 + 1))), (30, .int .i64 (wr (x609 + 1))), (29, .int .i64 (x609))] (by kernel_rfl) ?_
            refine wS_end (by rfl) ?_
            refine eX_block ?_
            have hq : (some (Ctl.next (wr (x609 + 1))) : Option (Ctl (Int) (Int))) = some _ := hm
            replace hq := someE hq
            subst hq
            exact eX_next hx619 (fun hst => ⟨wr (x609 + 1), rfl, Fr.of hst (by kernel_rfl), F611, F612, F613, hB, hZ⟩)
          · have hm := condF hb648 hm
            refine cW_exit ?_
            refine eX_then_exit ?_
            have hq : (some (Ctl.out x609) : Option (Ctl (Int) (Int))) = some _ := hm
            replace hq := someE hq
            subst hq
            refine eX_outX hx619 (fun hr649 => ?_)
            replace hr649 := hr649.symm
            subst hr649
            refine eX_block_hit ?_
            exact eX_J (fun hst => ⟨x609, rfl, Fr.of hst (by kernel_rfl), F611, F612, F613, hB, hZ⟩)
        · have hm := condF hb639 hm
          rewrite [hb639]
          refine wH_take [5, 6, 7, 8, 9, 10, 11, 12] [12, 11, 10, 9, 8, 7, 6, 5, 4, 3, 2, 1, 0] [(26, undef), (25, undef), (24, undef), (23, undef), (22, undef), (21, undef), (20, undef), (19, undef)] (by kernel_rfl) (qT (qT (qT (qL (qB (qT (qT (qB (qT (qL (qB (qT (qT qZ))))))))))))) (by kernel_rfl) ?_
          refine wH_done (by kernel_rfl) ?_
          refine eX_tail ?_
          refine wS_pure 2 [(28, .bool (false)), (27, undef)] (by kernel_rfl) ?_
          refine wS_end (by rfl) ?_
          refine eX_then ?_
          refine cW_cond_f (by kernel_rfl) ?_
          refine cW_exit ?_
          refine eX_then_exit ?_
          have hq : (some (Ctl.out x609) : Option (Ctl (Int) (Int))) = some _ := hm
          replace hq := someE hq
          subst hq
          refine eX_outX hx619 (fun hr650 => ?_)
          replace hr650 := hr650.symm
          subst hr650
          refine eX_block_hit ?_
          exact eX_J (fun hst => ⟨x609, rfl, Fr.of hst (by kernel_rfl), F611, F612, F613, hB, hZ⟩)
      · rintro a' w602 ⟨x603, hJ, hF604, F605, F606, F607, hB, hZ⟩
        subst hJ
        refine Fr.goX hF604 (by kernel_rfl) ?_
        refine eX_then ?_
        refine cW_seq ?_
        refine cW_region ?_
        refine wS_bs0 (α := Nat) (enc := (encN ra rw rc)) (d := 31) (t := 40) (T := 25) (by kernel_rfl) el40 ?_
        intro b651 w652 G653 F654 hc655
        have D657 : Dj fp520 [b651] := Dj.of F607.low (low1 G653)
        replace F605 := F605.chg hc655 Dj.nil
        replace F606 := F606.chg hc655 Dj.nil
        replace F607 := F607.chg hc655 Dj.nil
        replace hB := hB.inS hc655 inNil
        replace G653 := Nat.le_trans hZ G653
        replace G653 := low1 G653
        replace hZ := Nat.le_trans hZ hc655.size
        refine wS_pure 2 [(33, .int .i64 (x603)), (32, .slice A518 (l517).length cap519)] (by kernel_rfl) ?_
        obtain ⟨y658, hy659, hm⟩ := bindE hm
        refine wS_cutA (enc := (encN ra rw rc)) (l := l517) (d := 34) (T := 40) (A := A518) (cap := cap519) (vlo := some (.int .i64 (x603))) (vhi := none) (lo := x603) (hi := ((l517).length : Int)) (n := 0) (by kernel_rfl) sl40 (Or.inl rfl) (Or.inr ⟨rfl, rfl⟩) (F607.sl encN_ok) F607.cap_le hy659 ?_
        intro A660 cap661 hA664 F662 hcap663
        obtain rfl := slci_slc hy659
        have hlv666 := Eq.refl (l517).length
        have hcz667 := F607.cap_le
        obtain ⟨_, hk668, hm⟩ := bindE hm
        replace hk668 := apE hk668
        refine wS_appendAny (enc := (encN ra rw rc)) (l := (([] : List (Nat)) : List (Nat))) (l2 := (slc l517 x603 (((l517).length : Int)) : List (Nat))) (d := 35) (t := 40) (T := 25) (A := (some ⟨b651, 0, none⟩)) (A2 := A660) (cap := 0) (cap2 := cap661) (by kernel_rfl) el40 encN_ok F654 F662 hk668 ?_
        intro w669 fp670 A671 cap672 F673 hc674 hp675
        have G677 := low_ap G653 hZ hp675
        have D678 : Dj fp520 fp670 := Dj.ap D657 F607.low hp675
        have D679 : Dj fp520 fp670 := Dj.ap D657 F662.low hp675
        replace F605 := F605.chg hc674 (Dj.of Lh G653)
        replace F606 := F606.chg hc674 (Dj.of L0 G653)
        replace F607 := F607.chg hc674 D657
        replace F662 := F662.chg hc674 D657
        replace hB := hB.inS hc674 (inLow G653)
        replace hZ := Nat.le_trans hZ hc674.size
        refine wS_pure 1 [(6, .slice A671 ((([] : List (Nat))) ++ (slc l517 x603 (((l517).length : Int)))).length cap672)] (by kernel_rfl) ?_
        refine wS_end (by rfl) ?_
        refine eX_then ?_
        refine cW_drawnTail fp520 10 (by kernel_rfl) (by kernel_rfl) (fun w727 hc728 => ?_)
        replace F605 := F605.chg hc728 Dj.nil
        replace F606 := F606.chg hc728 Dj.nil
        replace F607 := F607.chg hc728 Dj.nil
        replace F662 := F662.chg hc728 Dj.nil
        replace F673 := F673.chg hc728 Dj.nil
        replace hB := hB.inS hc728 inNil
        replace hZ := Nat.le_trans hZ hc728.size
        have hS := Chg.refl fp520 w727
        have Z729 := F605
        have Z730 := F606
        have Z731 := F607
        have Z732 := F662
        have Z733 := F673
        refine wH_take [0, 1] [1, 0] [(37, .int .i64 (x603)), (36, .slice A518 (l517).length cap519)] (by kernel_rfl) (qT (qB (qT (qL (qB (qT (qT qZ))))))) (by kernel_rfl) ?_
        obtain ⟨y734, hy735, hm⟩ := bindE hm
        refine wH_prefix (k := 1) (enc := (encN ra rw rc)) (l := l517) (i := 2) (d := 38) (T := 40) (A := A518) (cap := cap519) (hi := x603) (by kernel_rfl) (qT (qB (qT (qL (qB (qT (qT qZ))))))) (by kernel_rfl) (by kernel_rfl) sl40 encN_ok F607.cap_le hy735 ?_
        intro hpe hpf738
        subst hpe
        have F736 := hpf738 _ _ _ F607
        have Fz737 := hpf738 _ _ _ Z731
        refine wH_take [3, 4] [4, 3, 2, 1, 0] [(40, .int .i64 (x522)), (39, .slice A0 (l0).length cap0)] (by kernel_rfl) (qT (qB (qT (qL (qB (qT (qT qZ))))))) (by kernel_rfl) ?_
        obtain ⟨x739, hx740, hm⟩ := bindE hm
        refine wH_idx (i := 5) (d := 41) (T := 40) (A := A0) (n := (l0).length) (cap := cap0) (kd := .i64) (m := x522) (by kernel_rfl) (qT (qB (qT (qL (qB (qT (qT qZ))))))) (by kernel_rfl) (by kernel_rfl) sl40 (F606.is hx740) ?_
        refine wH_load1 (i := 6) (d := 42) (T := 25) (ad := (elA A0 1 (x522) 0)) (v := .slice (ra x739) (rw x739).length (rc x739)) (by kernel_rfl) (qT (qB (qT (qL (qB (qT (qT qZ))))))) (by kernel_rfl) (by kernel_rfl) vt25 (fun W hW => Sl.cell (Z730.chg hW (Dj.of L0 G527)) hx740 0 (by rfl)) ?_
        refine wH_take [9] [9, 6, 5, 4, 3, 2, 1, 0] [(45, .slice A671 ((([] : List (Nat))) ++ (slc l517 x603 (((l517).length : Int)))).length cap672)] (by kernel_rfl) (qT (qB (qT (qL (qB (qT (qT qZ))))))) (by kernel_rfl) ?_
        refine wH_all [7] (by rfl) (by kernel_rfl) (by simp) ⟨⟨by kernel_rfl, ?_⟩, trivial⟩
        refine wS_bs (enc := (encN ra rw rc)) ([x739] : List (Nat)) [.slice (ra x739) (rw x739).length (rc x739)] (d := 43) (t := 40) (T := 25) (n := 1) (ps := [(0, .slice (ra x739) (rw x739).length (rc x739))]) (by kernel_rfl) el40 encN_ok (by rfl) (by omega) (by omega) (by kernel_rfl) (by rfl) ?_
        intro b741 w742 G743 F744 hc745
        have D747 : Dj fp520 [b741] := Dj.of F736.low (low1 G743)
        have D748 : Dj fp670 [b741] := Dj.of F673.low (low1 G743)
        replace F605 := F605.chg hc745 Dj.nil
        replace F606 := F606.chg hc745 Dj.nil
        replace F736 := F736.chg hc745 Dj.nil
        replace F673 := F673.chg hc745 Dj.nil
        replace hB := hB.inS hc745 inNil
        have hSz := hS
        replace hS := hS.inS hc745 inNil
        have Gz749 := low1 (Nat.le_trans hSz.size G743)
        replace G743 := Nat.le_trans hZ G743
        replace G743 := low1 G743
        replace hZ := Nat.le_trans hZ hc745.size
        refine wS_end (by kernel_rfl) ?_
        refine eX_KH hS ?_
        refine wH_all [8] (by rfl) (by kernel_rfl) (by simp) ⟨⟨by kernel_rfl, ?_⟩, trivial⟩
        obtain ⟨_, hk750, hm⟩ := bindE hm
        replace hk750 := apE hk750
        refine wS_append (enc := (encN ra rw rc)) (l := (l517.take (Int.toNat x603) : List (Nat))) (l2 := (([x739] : List (Nat)) : List (Nat))) (d := 44) (t := 40) (T := 25) (A := A518) (A2 := (some ⟨b741, 0, none⟩)) (cap := cap519) (cap2 := 1) (by kernel_rfl) el40 encN_ok F736 (F744.sl encN_ok) (by rfl) hk750 ?_
        intro w751 fp752 A753 cap754 F755 hc756 hp757
        have G759 := low_ap G527 hZ hp757
        have D760 : Dj fp670 fp752 := Dj.ap (D678).symm F673.low hp757
        have D761 : Dj [b741] fp752 := Dj.ap (D747).symm F744.low hp757
        replace F605 := F605.chg hc756 (Dj.of Lh G527)
        replace F606 := F606.chg hc756 (Dj.of L0 G527)
        replace F673 := F673.chg hc756 (D678).symm
        replace F744 := F744.chg hc756 (D747).symm
        replace hB := hB.inS hc756 (inLow G527)
        have hSz := hS
        replace hS := hS.trans hc756
        have Sn762 := sin_ap (Sg := fp520) (inMem (fun x hx => hx)) hSz.size hp757
        replace hZ := Nat.le_trans hZ hc756.size
        refine wS_end (by kernel_rfl) ?_
        refine eX_KH hS ?_
        refine wH_done (by kernel_rfl) ?_
        refine eX_tail ?_
        obtain ⟨_, hk763, hm⟩ := bindE hm
        replace hk763 := apE hk763
        refine wS_appendAny (enc := (encN ra rw rc)) (l := ((l517.take (Int.toNat x603)) ++ (([x739] : List (Nat))) : List (Nat))) (l2 := ((([] : List (Nat))) ++ (slc l517 x603 (((l517).length : Int))) : List (Nat))) (d := 46) (t := 40) (T := 25) (A := A753) (A2 := A671) (cap := cap754) (cap2 := cap672) (by kernel_rfl) el40 encN_ok F755 (F673.sl encN_ok) hk763 ?_
        intro w764 fp765 A766 cap767 F768 hc769 hp770
        have G772 := low_ap G759 hZ hp770
        have D773 : Dj fp670 fp765 := Dj.ap D760 F673.low hp770
        have D774 : Dj [b741] fp765 := Dj.ap D761 F744.low hp770
        replace F605 := F605.chg hc769 (Dj.of Lh G759)
        replace F606 := F606.chg hc769 (Dj.of L0 G759)
        replace F673 := F673.chg hc769 D760
        replace F744 := F744.chg hc769 D761
        replace hB := hB.inS hc769 (inLow G759)
        replace hZ := Nat.le_trans hZ hc769.size
        refine wS_pure 1 [(3, .slice A766 (((l517.take (Int.toNat x603)) ++ (([x739] : List (Nat)))) ++ ((([] : List (Nat))) ++ (slc l517 x603 (((l517).length : Int))))).length cap767)] (by kernel_rfl) ?_
        refine wS_end (by rfl) ?_
        refine eX_block ?_
        refine eX_then ?_
        refine cW_region ?_
        refine wS_pure 3 [(4, .int .i64 (wr (x522 + 1))), (13, .int .i64 (wr (x522 + 1))), (12, .int .i64 (x522))] (by kernel_rfl) ?_
        refine wS_end (by rfl) ?_
        have hq : (some (Ctl.next ((((l517.take (Int.toNat x603)) ++ (([x739] : List (Nat)))) ++ ((([] : List (Nat))) ++ (slc l517 x603 (((l517).length : Int)))), wr (x522 + 1)))) : Option (Ctl ((List (Nat)) × Int) ((List (Nat))))) = some _ := hm
        replace hq := someE hq
        subst hq
        exact eX_next hx533 (fun hst => ⟨((l517.take (Int.toNat x603)) ++ (([x739] : List (Nat)))) ++ ((([] : List (Nat))) ++ (slc l517 x603 (((l517).length : Int)))), A766, cap767, fp765, wr (x522 + 1), rfl, Fr.of hst (by kernel_rfl), F605, F606, F768, G772, hB, hZ⟩)
    · have hm := condF hb534 hm
      refine cW_exit ?_
      refine eX_then_exit ?_
      have hq : (some (Ctl.out l517) : Option (Ctl ((List (Nat)) × Int) ((List (Nat))))) = some _ := hm
      replace hq := someE hq
      subst hq
      refine eX_outX hx533 (fun hr775 => ?_)
      replace hr775 := hr775.symm
      subst hr775
      refine eX_block_hit ?_
      exact eX_J (fun hst => ⟨l517, A518, cap519, fp520, rfl, Fr.of hst (by kernel_rfl), F524, F526, G527, hB, hZ⟩)
  · rintro a' w506 ⟨l507, A508, cap509, fp510, hJ, hF512, F513, F514, G515, hB, hZ⟩
    subst hJ
    refine Fr.goX hF512 (by kernel_rfl) ?_
    refine eX_then ?_
    refine cW_seq ?_
    refine cW_region ?_
    refine wS_pure 2 [(2, .slice A508 (l507).length cap509), (47, .slice A508 (l507).length cap509)] (by kernel_rfl) ?_
    refine wS_end (by rfl) ?_
    refine eX_then ?_
    refine cW_ret ?_
    have hq : (some l507 : Option ((List (Nat)))) = some _ := hm
    replace hq := someE hq
    subst hq
    refine eX_ret (vs := [.slice A508 (l507).length cap509]) [.tmp 2] (by rfl) ⟨by (show lkE _ _ _ = _); kernel_rfl, trivial⟩ ?_
    exact ⟨A508, cap509, fp510, rfl, F514, G515, hB⟩

theorem c_spec_l05Pairs {w0 : World} {l0 : List (List (Int))} {A0 : Option Addr} {cap0 : Nat} {fp0 fr0 : List Nat} {r : List (List (Int))} (hm : m_spec_l05Pairs l0 = some r) (F0 : OwR 1 encI 25 2 w0 fp0 fr0 A0 cap0 l0) :
    Calls Try.prog 93 #[.slice A0 (l0).length cap0] w0 fun e w' => ∃ A100 cap100 fp100, e = .returned (.slice A100 (r).length cap100) ∧ OwR 1 encI 25 2 w' fp100 fr0 A100 cap100 r ∧ (∀ x ∈ fp100, w0.heap.size ≤ x) ∧ Chg [] w0 w' := by
  unfold m_spec_l05Pairs at hm
  obtain ⟨q, hq, hm⟩ := bindE hm
  obtain ⟨_, hc, hm⟩ := bindE hm
  replace hc := of_decide_eq_true (chkE hc)
  replace hm := someE hm
  subst hm
  obtain ⟨ra, rc, h1, h2, h3⟩ := OwR.ids F0
  have h := c_spec_l05Pairs_ids (cap0 := cap0) hq h2 h1
  rw [List.length_range] at h
  refine h.mono ?_
  rintro e w' ⟨A, cap, fp, rfl, g1, g2, g3⟩
  exact ⟨A, cap, fp, by rw [List.length_map], h3 _ _ _ _ _ g3 g2 g1 hc, g2, g3⟩

set_option maxRecDepth 100000 in
/-- impl.pinsOk -/
theorem c_impl_pinsOk {w0 : World} {l0 : List (Int × Int)} {A0 : Option Addr} {cap0 : Nat} {fp0 : List Nat} {p1 : Int} {r : (Bool)} (hm : m_impl_pinsOk l0 p1 = some r) (F0 : Sl 2 encII w0 fp0 A0 l0) :
    Calls Try.prog 95 #[.slice A0 (l0).length cap0, .int .i64 (p1)] w0 fun e w' => e = .returned (.bool (r)) ∧ Chg [] w0 w' := by
  have L0 := F0.low
  have hB : Chg [] w0 w0 := Chg.refl _ _
  have hZ := Nat.le_refl w0.heap.size
  unfold m_impl_pinsOk at hm
  refine enterE (N := 27) Try.func95 (by rfl) Try.ntmps95 (by simp) [(0, .slice A0 (l0).length cap0), (1, .int .i64 (p1))] (by rfl) (by kernel_rfl) (fun a => ?_)
  refine cW_seq ?_
  refine cW_region ?_
  refine wS_pure 1 [(4, .bool (false))] (by kernel_rfl) ?_
  refine wS_end (by rfl) ?_
  refine eX_then ?_
  refine cW_seq ?_
  refine cW_region ?_
  refine wS_pure 4 [(8, .bool (decide ((((l0).length : Int)) ≥ 1))), (7, .bool (decide ((((l0).length : Int)) ≥ 1))), (6, .int .i64 (((l0).length : Int))), (5, .slice A0 (l0).length cap0)] (by kernel_rfl) ?_
  refine wS_bool (decide ((((l0).length : Int)) ≥ 1)) (fun hb2 => ?_) (fun hb2 => ?_)
  · have hm := condT hb2 hm
    rewrite [hb2]
    refine wS_pure 6 [(14, .bool (decide ((((l0).length : Int)) ≤ p1))), (13, .bool (decide ((((l0).length : Int)) ≤ p1))), (12, .bool (decide ((((l0).length : Int)) ≤ p1))), (11, .int .i64 (p1)), (10, .int .i64 (((l0).length : Int))), (9, .slice A0 (l0).length cap0)] (by kernel_rfl) ?_
    refine wS_bool (decide ((((l0).length : Int)) ≤ p1)) (fun hb3 => ?_) (fun hb3 => ?_)
    · have hm := condT hb3 hm
      rewrite [hb3]
      refine wS_pure 1 [(15, .slice A0 (l0).length cap0)] (by kernel_rfl) ?_
      obtain ⟨y4, hy5, hm⟩ := bindE hm
      refine wS_calls (d := 16) (f := 136) (vs := [.slice A0 (l0).length cap0, .func (.func 137) #[] #[]]) (by kernel_rfl) ent136 (c_slices_ContainsFunc_impl_Point_impl_Point_impl_noPoint hy5 F0) ?_
      rintro _ w6 ⟨rfl, hc7⟩
      replace F0 := F0.chg hc7 Dj.nil
      replace hB := hB.inS hc7 inNil
      replace hZ := Nat.le_trans hZ hc7.size
      refine ⟨.bool (y4), rfl, ?_⟩
      refine wS_pure 3 [(19, .bool (!y4)), (18, .bool (!y4)), (17, .bool (!y4))] (by kernel_rfl) ?_
      refine wS_bool (!y4) (fun hb8 => ?_) (fun hb8 => ?_)
      · have hm := condT hb8 hm
        rewrite [hb8]
        refine wS_pure 1 [(20, .slice A0 (l0).length cap0)] (by kernel_rfl) ?_
        obtain ⟨y9, hy10, hm⟩ := bindE hm
        refine wS_calls (d := 21) (f := 79) (vs := [.slice A0 (l0).length cap0]) (by kernel_rfl) ent79 (c_impl_sorted hy10 F0) ?_
        rintro _ w11 ⟨A13, cap14, fp15, rfl, F16, G17, hc12⟩
        replace F0 := F0.chg hc12 Dj.nil
        replace hB := hB.inS hc12 inNil
        replace G17 := low_le hZ G17
        replace hZ := Nat.le_trans hZ hc12.size
        refine ⟨.slice A13 (y9).length cap14, rfl, ?_⟩
        refine wS_pure 6 [(4, .bool ((((y9).length : Int)) == (((l0).length : Int)))), (26, .bool ((((y9).length : Int)) == (((l0).length : Int)))), (25, .bool ((((y9).length : Int)) == (((l0).length : Int)))), (24, .int .i64 (((l0).length : Int))), (23, .slice A0 (l0).length cap0), (22, .int .i64 (((y9).length : Int)))] (by kernel_rfl) ?_
        refine wS_end (by rfl) ?_
        refine eX_then ?_
        refine cW_prune [(4, .bool ((((y9).length : Int)) == (((l0).length : Int))))] (by kernel_rfl) (by kernel_rfl) (fun a20 => ?_)
        refine cW_ret ?_
        have hq : (some ((((y9).length : Int)) == (((l0).length : Int))) : Option ((Bool))) = some _ := hm
        replace hq := someE hq
        subst hq
        refine eX_ret (vs := [.bool ((((y9).length : Int)) == (((l0).length : Int)))]) [.tmp 4] (by rfl) ⟨by (show lkE _ _ _ = _); kernel_rfl, trivial⟩ ?_
        exact ⟨rfl, hB⟩
      · have hm := condF hb8 hm
        rewrite [hb8]
        refine wS_pure 8 [(4, .bool (false)), (26, .bool (false)), (25, undef), (24, undef), (23, undef), (22, undef), (21, undef), (20, undef)] (by kernel_rfl) ?_
        refine wS_end (by rfl) ?_
        refine eX_then ?_
        refine cW_prune [(4, .bool (false))] (by kernel_rfl) (by kernel_rfl) (fun a21 => ?_)
        refine cW_ret ?_
        have hq : (some false : Option ((Bool))) = some _ := hm
        replace hq := someE hq
        subst hq
        refine eX_ret (vs := [.bool (false)]) [.tmp 4] (by rfl) ⟨by (show lkE _ _ _ = _); kernel_rfl, trivial⟩ ?_
        exact ⟨rfl, hB⟩
    · have hm := condF hb3 hm
      rewrite [hb3]
      refine wS_pure 13 [(4, .bool (false)), (26, .bool (false)), (25, undef), (24, undef), (23, undef), (22, undef), (21, undef), (20, undef), (19, .bool (false)), (18, .bool (false)), (17, undef), (16, undef), (15, undef)] (by kernel_rfl) ?_
      refine wS_end (by rfl) ?_
      refine eX_then ?_
      refine cW_prune [(4, .bool (false))] (by kernel_rfl) (by kernel_rfl) (fun a22 => ?_)
      refine cW_ret ?_
      have hq : (some false : Option ((Bool))) = some _ := hm
      replace hq := someE hq
      subst hq
      refine eX_ret (vs := [.bool (false)]) [.tmp 4] (by rfl) ⟨by (show lkE _ _ _ = _); kernel_rfl, trivial⟩ ?_
      exact ⟨rfl, hB⟩
  · have hm := condF hb2 hm
    rewrite [hb2]
    refine wS_pure 19 [(4, .bool (false)), (26, .bool (false)), (25, undef), (24, undef), (23, undef), (22, undef), (21, undef), (20, undef), (19, .bool (false)), (18, .bool (false)), (17, undef), (16, undef), (15, undef), (14, .bool (false)), (13, .bool (false)), (12, undef), (11, undef), (10, undef), (9, undef)] (by kernel_rfl) ?_
    refine wS_end (by rfl) ?_
    refine eX_then ?_
    refine cW_prune [(4, .bool (false))] (by kernel_rfl) (by kernel_rfl) (fun a23 => ?_)
    refine cW_ret ?_
    have hq : (some false : Option ((Bool))) = some _ := hm
    replace hq := someE hq
    subst hq
    refine eX_ret (vs := [.bool (false)]) [.tmp 4] (by rfl) ⟨by (show lkE _ _ _ = _); kernel_rfl, trivial⟩ ?_
    exact ⟨rfl, hB⟩

set_option maxRecDepth 100000 in
/-- impl.spanning -/
theorem c_impl_spanning {w0 : World} {l0 : List (Int × Int)} {A0 : Option Addr} {cap0 : Nat} {fp0 : List Nat} {r : (List (List (Int))) × (Int)} (hm : m_impl_spanning l0 = some r) (F0 : Sl 2 encII w0 fp0 A0 l0) :
    Calls Try.prog 96 #[.slice A0 (l0).length cap0] w0 fun e w' => ∃ A100 cap100 fp100 fr100, e = .returned (.tuple #[.slice A100 (r.1).length cap100, .int .i64 (r.2)]) ∧ OwR 1 encI 25 2 w' fp100 fr100 A100 cap100 r.1 ∧ (∀ x ∈ fp100 ++ fr100, w0.heap.size ≤ x) ∧ Chg [] w0 w' := by
  have L0 := F0.low
  have hB : Chg [] w0 w0 := Chg.refl _ _
  have hZ := Nat.le_refl w0.heap.size
  unfold m_impl_spanning at hm
  refine enterE (N := 100) Try.func96 (by rfl) Try.ntmps96 (by simp) [(0, .slice A0 (l0).length cap0)] (by rfl) (by kernel_rfl) (fun a => ?_)
  refine cW_seq ?_
  refine cW_region ?_
  refine wS_pure 2 [(3, .int .i64 (0)), (2, .slice none 0 0)] (by kernel_rfl) ?_
  refine wS_end (by rfl) ?_
  refine eX_then ?_
  refine cW_seq ?_
  refine cW_region ?_
  refine wS_rows0 (k := 1) (enc := encI) (d := 11) (t := 40) (T := 25) (T2 := 2) (by kernel_rfl) el40 ?_
  intro b2 w3 G4 F5 hc6
  replace F0 := F0.chg hc6 Dj.nil
  replace hB := hB.inS hc6 inNil
  replace G4 := Nat.le_trans hZ G4
  replace G4 := low1 G4
  replace hZ := Nat.le_trans hZ hc6.size
  replace G4 := lowApp G4 lowNil
  refine wS_pure 2 [(5, .int .i64 (0)), (4, .slice (some ⟨b2, 0, none⟩) (([] : List (List (Int)))).length 0)] (by kernel_rfl) ?_
  refine wS_end (by rfl) ?_
  refine eX_then ?_
  refine cW_seq ?_
  refine cW_region ?_
  refine wS_pure 2 [(13, .int .i64 (((l0).length : Int))), (12, .slice A0 (l0).length cap0)] (by kernel_rfl) ?_
  obtain ⟨_, hk8, hm⟩ := bindE hm
  replace hk8 := mkE hk8
  refine wS_make (enc := encB) (x0 := (false : Bool)) (d := 14) (t := 136) (T := 4) (k1 := .i64) (k2 := .i64) (m := ((l0).length : Int)) (by kernel_rfl) el136 encB_ok (by rfl) hk8.1 hk8.2 ?_
  intro b9 w10 G11 F12 hc13
  have D15 : Dj ([b2] ++ []) [b9] := Dj.of F5.low (low1 G11)
  replace F0 := F0.chg hc13 Dj.nil
  replace F5 := F5.chg hc13 Dj.nil
  replace hB := hB.inS hc13 inNil
  replace G11 := Nat.le_trans hZ G11
  replace G11 := low1 G11
  replace hZ := Nat.le_trans hZ hc13.size
  refine wS_pure 1 [(6, .slice (some ⟨b9, 0, none⟩) (List.replicate (Int.toNat (((l0).length : Int))) ((false : Bool))).length (Int.toNat (((l0).length : Int))))] (by kernel_rfl) ?_
  refine wS_end (by rfl) ?_
  refine eX_then ?_
  refine cW_seq ?_
  refine cW_region ?_
  refine wS_pure 1 [(15, .slice (some ⟨b9, 0, none⟩) (List.replicate (Int.toNat (((l0).length : Int))) ((false : Bool))).length (Int.toNat (((l0).length : Int))))] (by kernel_rfl) ?_
  obtain ⟨x16, hx17, hm⟩ := bindE hm
  refine wS_idx (d := 16) (T := 136) (A := (some ⟨b9, 0, none⟩)) (n := (List.replicate (Int.toNat (((l0).length : Int))) ((false : Bool))).length) (cap := (Int.toNat (((l0).length : Int)))) (kd := .i64) (m := 0) (by kernel_rfl) sl136 ((F12.sl encB_ok).is hx17) ?_
  refine wS_storeEl (x := x16) true (T := 4) (U := 4) (cap := (Int.toNat (((l0).length : Int)))) (j := 0) (A := (some ⟨b9, 0, none⟩)) (v := .bool (true)) (vs := [.bool (true)]) (m := 0) (by kernel_rfl) (by rfl) sz4 (by rfl) encB_ok F12 hx17 (by simp only [List.length_cons, List.length_nil]; omega) (by rfl) ?_
  intro w18 F19 hc20
  replace F0 := F0.chg hc20 (Dj.of L0 G11)
  replace F5 := F5.chg hc20 D15
  replace hB := hB.inS hc20 (inLow G11)
  replace hZ := Nat.le_trans hZ hc20.size
  clear F12
  rewrite [show (List.replicate (Int.toNat (((l0).length : Int))) ((false : Bool))).length = ((List.replicate (Int.toNat (((l0).length : Int))) ((false : Bool))).set (Int.toNat 0) true).length from (List.length_set ..).symm]
  refine wS_end (by rfl) ?_
  refine eX_then ?_
  refine cW_seq ?_
  obtain ⟨r2789, hr2790, hm⟩ := bindE hm
  have hm2791 := hm
  refine cW_cut (fun a' w' => ∃ l2764 : List (List (Int)), ∃ A2765 : Option Addr, ∃ cap2766 : Nat, ∃ fp2767 : List Nat, ∃ fr2769 : List Nat, ∃ x2770 : Int, (l2764, x2770) = r2789 ∧ Fr 100 [(4, .slice A2765 (l2764).length cap2766), (5, .int .i64 (x2770))] a' ∧ OwR 1 encI 25 2 w' fp2767 fr2769 A2765 cap2766 l2764 ∧ (∀ x ∈ (fp2767 ++ fr2769), w0.heap.size ≤ x) ∧ Chg [] w0 w' ∧ w0.heap.size ≤ w'.heap.size) ?_ ?_
  · refine cW_block ?_
    refine cW_loop _ (fun (s2792 : (List (List (Int))) × Int × (List (Bool))) a' w' => ∃ l2775 : List (List (Int)), ∃ A2776 : Option Addr, ∃ cap2777 : Nat, ∃ fp2778 : List Nat, ∃ fr2780 : List Nat, ∃ x2781 : Int, ∃ l2782 : List (Bool), (l2775, x2781, l2782) = s2792 ∧ Fr 100 [(0, .slice A0 (l0).length cap0), (4, .slice A2776 (l2775).length cap2777), (5, .int .i64 (x2781)), (6, .slice (some ⟨b9, 0, none⟩) (l2782).length (Int.toNat (((l0).length : Int))))] a' ∧ Sl 2 encII w' fp0 A0 l0 ∧ Ow 1 encB 4 w' [b9] (some ⟨b9, 0, none⟩) (Int.toNat (((l0).length : Int))) l2782 ∧ OwR 1 encI 25 2 w' fp2778 fr2780 A2776 cap2777 l2775 ∧ (∀ x ∈ (fp2778 ++ fr2780), w0.heap.size ≤ x) ∧ Dj [b9] (fp2778 ++ fr2780) ∧ Chg [] w0 w' ∧ w0.heap.size ≤ w'.heap.size) hr2790 (fun hst => ⟨([] : List (List (Int))), (some ⟨b2, 0, none⟩), 0, [b2], [], 0, (List.replicate (Int.toNat (((l0).length : Int))) ((false : Bool))).set (Int.toNat 0) true, rfl, Fr.of hst (by kernel_rfl), F0, F19, F5, G4, (D15).symm, hB, hZ⟩) ?_
    rintro _ c2793 a' w2774 ⟨l2775, A2776, cap2777, fp2778, fr2780, x2781, l2782, rfl, hF2783, F2784, F2785, F2786, G2787, D2788, hB, hZ⟩ hx2794
    refine Fr.goOn hF2783 (by kernel_rfl) ?_
    have hm := hx2794
    unfold m_impl_spanning_s9 at hm
    refine cW_seq ?_
    refine cW_seq ?_
    refine cW_region ?_
    refine wS_pure 6 [(22, .bool (decide ((wr ((((l2775).length : Int)) + 1)) < (((l0).length : Int))))), (21, .int .i64 (((l0).length : Int))), (20, .slice A0 (l0).length cap0), (19, .int .i64 (wr ((((l2775).length : Int)) + 1))), (18, .int .i64 (((l2775).length : Int))), (17, .slice A2776 (l2775).length cap2777)] (by kernel_rfl) ?_
    refine wS_end (by rfl) ?_
    refine eX_then ?_
    refine cW_cond (t := decide ((wr ((((l2775).length : Int)) + 1)) < (((l0).length : Int)))) (by kernel_rfl) (fun hb2795 => ?_) (fun hb2795 => ?_)
    · have hm := condT hb2795 hm
      refine cW_skip ?_
      refine eX_then ?_
      refine cW_block ?_
      refine cW_seq ?_
      refine cW_region ?_
      refine wS_pure 2 [(8, .int .i64 ((-1))), (7, .int .i64 ((-1)))] (by kernel_rfl) ?_
      refine wS_end (by rfl) ?_
      refine eX_then ?_
      refine cW_seq ?_
      refine cW_seq ?_
      refine cW_region ?_
      refine wS_pure 3 [(25, .int .i64 (0)), (24, .int .i64 (((l0).length : Int))), (23, .slice A0 (l0).length cap0)] (by kernel_rfl) ?_
      refine wS_end (by rfl) ?_
      refine eX_then ?_
      obtain ⟨r3646, hr3647, hm⟩ := bindE hm
      have hm3648 := hm
      refine cW_cut (fun a' w' => ∃ x3632 : Int, ∃ x3633 : Int, (x3632, x3633) = r3646 ∧ Fr 100 [(0, .slice A0 (l0).length cap0), (4, .slice A2776 (l2775).length cap2777), (5, .int .i64 (x2781)), (6, .slice (some ⟨b9, 0, none⟩) (l2782).length (Int.toNat (((l0).length : Int)))), (7, .int .i64 (x3632)), (8, .int .i64 (x3633))] a' ∧ Sl 2 encII w' fp0 A0 l0 ∧ Ow 1 encB 4 w' [b9] (some ⟨b9, 0, none⟩) (Int.toNat (((l0).length : Int))) l2782 ∧ OwR 1 encI 25 2 w' fp2778 fr2780 A2776 cap2777 l2775 ∧ Chg [] w0 w' ∧ w0.heap.size ≤ w'.heap.size) ?_ ?_
      · refine cW_block ?_
        refine cW_loop _ (fun (s3649 : Int × Int × Int) a' w' => ∃ x3639 : Int, ∃ x3640 : Int, ∃ x3641 : Int, (x3639, x3640, x3641) = s3649 ∧ Fr 100 [(0, .slice A0 (l0).length cap0), (4, .slice A2776 (l2775).length cap2777), (5, .int .i64 (x2781)), (6, .slice (some ⟨b9, 0, none⟩) (l2782).length (Int.toNat (((l0).length : Int)))), (7, .int .i64 (x3639)), (8, .int .i64 (x3640)), (24, .int .i64 (((l0).length : Int))), (25, .int .i64 (x3641))] a' ∧ Sl 2 encII w' fp0 A0 l0 ∧ Ow 1 encB 4 w' [b9] (some ⟨b9, 0, none⟩) (Int.toNat (((l0).length : Int))) l2782 ∧ OwR 1 encI 25 2 w' fp2778 fr2780 A2776 cap2777 l2775 ∧ Chg [] w0 w' ∧ w0.heap.size ≤ w'.heap.size) hr3647 (fun hst => ⟨(-1), (-1), 0, rfl, Fr.of hst (by kernel_rfl), F2784, F2785, F2786, hB, hZ⟩) ?_
        rintro _ c3650 a' w3638 ⟨x3639, x3640, x3641, rfl, hF3642, F3643, F3644, F3645, hB, hZ⟩ hx3651
        refine Fr.goOn hF3642 (by kernel_rfl) ?_
        have hm := hx3651
        unfold m_impl_spanning_s12 at hm
        refine cW_seq ?_
        refine cW_region ?_
        refine wS_pure 1 [(26, .bool (decide (x3641 < (((l0).length : Int)))))] (by kernel_rfl) ?_
        refine wS_end (by rfl) ?_
        refine eX_then ?_
        refine cW_seq ?_
        refine cW_cond (t := decide (x3641 < (((l0).length : Int)))) (by kernel_rfl) (fun hb3652 => ?_) (fun hb3652 => ?_)
        · have hm := condT hb3652 hm
          refine cW_skip ?_
          refine eX_then ?_
          refine cW_seq ?_
          refine cW_block ?_
          refine cW_seq ?_
          refine cW_region ?_
          refine wS_pure 2 [(9, .int .i64 (x3641)), (27, .int .i64 (x3641))] (by kernel_rfl) ?_
          refine wS_end (by rfl) ?_
          refine eX_then ?_
          refine cW_seq ?_
          refine cW_region ?_
          refine wS_pure 3 [(10, .int .i64 (wr (x3641 + 1))), (29, .int .i64 (wr (x3641 + 1))), (28, .int .i64 (x3641))] (by kernel_rfl) ?_
          refine wS_end (by rfl) ?_
          refine eX_then ?_
          obtain ⟨r3931, hr3932, hm⟩ := bindE hm
          have hm3933 := hm
          refine cW_cut (fun a' w' => ∃ x3917 : Int, ∃ x3918 : Int, (x3917, x3918) = r3931 ∧ Fr 100 [(0, .slice A0 (l0).length cap0), (4, .slice A2776 (l2775).length cap2777), (5, .int .i64 (x2781)), (6, .slice (some ⟨b9, 0, none⟩) (l2782).length (Int.toNat (((l0).length : Int)))), (7, .int .i64 (x3917)), (8, .int .i64 (x3918)), (24, .int .i64 (((l0).length : Int))), (25, .int .i64 (x3641))] a' ∧ Sl 2 encII w' fp0 A0 l0 ∧ Ow 1 encB 4 w' [b9] (some ⟨b9, 0, none⟩) (Int.toNat (((l0).length : Int))) l2782 ∧ OwR 1 encI 25 2 w' fp2778 fr2780 A2776 cap2777 l2775 ∧ Chg [] w0 w' ∧ w0.heap.size ≤ w'.heap.size) ?_ ?_
          · refine cW_block ?_
            refine cW_loop _ (fun (s3934 : Int × Int × Int) a' w' => ∃ x3924 : Int, ∃ x3925 : Int, ∃ x3926 : Int, (x3924, x3925, x3926) = s3934 ∧ Fr 100 [(0, .slice A0 (l0).length cap0), (4, .slice A2776 (l2775).length cap2777), (5, .int .i64 (x2781)), (6, .slice (some ⟨b9, 0, none⟩) (l2782).length (Int.toNat (((l0).length : Int)))), (7, .int .i64 (x3924)), (8, .int .i64 (x3925)), (9, .int .i64 (x3641)), (10, .int .i64 (x3926)), (24, .int .i64 (((l0).length : Int))), (25, .int .i64 (x3641))] a' ∧ Sl 2 encII w' fp0 A0 l0 ∧ Ow 1 encB 4 w' [b9] (some ⟨b9, 0, none⟩) (Int.toNat (((l0).length : Int))) l2782 ∧ OwR 1 encI 25 2 w' fp2778 fr2780 A2776 cap2777 l2775 ∧ Chg [] w0 w' ∧ w0.heap.size ≤ w'.heap.size) hr3932 (fun hst => ⟨x3639, x3640, wr (x3641 + 1), rfl, Fr.of hst (by kernel_rfl), F3643, F3644, F3645, hB, hZ⟩) ?_
            rintro _ c3935 a' w3923 ⟨x3924, x3925, x3926, rfl, hF3927, F3928, F3929, F3930, hB, hZ⟩ hx3936
            refine Fr.goOn hF3927 (by kernel_rfl) ?_
            have hm := hx3936
            unfold m_impl_spanning_s13 at hm
            refine cW_seq ?_
            refine cW_seq ?_
            refine cW_region ?_
            refine wS_pure 4 [(33, .bool (decide (x3926 < (((l0).length : Int))))), (32, .int .i64 (((l0).length : Int))), (31, .slice A0 (l0).length cap0), (30, .int .i64 (x3926))] (by kernel_rfl) ?_
            refine wS_end (by rfl) ?_
            refine eX_then ?_
            refine cW_cond (t := decide (x3926 < (((l0).length : Int)))) (by kernel_rfl) (fun hb3937 => ?_) (fun hb3937 => ?_)
            · have hm := condT hb3937 hm
              refine cW_skip ?_
              refine eX_then ?_
              refine cW_seq ?_
              refine cW_block ?_
              obtain ⟨s4003, hs4004, hm⟩ := bindE hm
              refine cW_cut (fun a' w' => ∃ x3997 : Int, ∃ x3998 : Int, (x3997, x3998) = s4003 ∧ Fr 100 [(0, .slice A0 (l0).length cap0), (4, .slice A2776 (l2775).length cap2777), (5, .int .i64 (x2781)), (6, .slice (some ⟨b9, 0, none⟩) (l2782).length (Int.toNat (((l0).length : Int)))), (7, .int .i64 (x3997)), (8, .int .i64 (x3998)), (9, .int .i64 (x3641)), (10, .int .i64 (x3926)), (24, .int .i64 (((l0).length : Int))), (25, .int .i64 (x3641))] a' ∧ Sl 2 encII w' fp0 A0 l0 ∧ Ow 1 encB 4 w' [b9] (some ⟨b9, 0, none⟩) (Int.toNat (((l0).length : Int))) l2782 ∧ OwR 1 encI 25 2 w' fp2778 fr2780 A2776 cap2777 l2775 ∧ Chg [] w0 w' ∧ w0.heap.size ≤ w'.heap.size) ?_ ?_
              · have hm := hs4004
                refine cW_seq ?_
                refine cW_drawnTail [] 30 (by kernel_rfl) (by kernel_rfl) (fun w4032 hc4033 => ?_)
                replace F3928 := F3928.chg hc4033 Dj.nil
                replace F3929 := F3929.chg hc4033 Dj.nil
                replace F3930 := F3930.chg hc4033 Dj.nil
                replace hB := hB.inS hc4033 inNil
                replace hZ := Nat.le_trans hZ hc4033.size
                have hS := Chg.refl [] w4032
                have Z4034 := F3928
                have Z4035 := F3929
                have Z4036 := F3930
                refine wH_take [0, 1] [1, 0] [(37, .int .i64 (x3641)), (36, .slice (some ⟨b9, 0, none⟩) (l2782).length (Int.toNat (((l0).length : Int))))] (by kernel_rfl) (qT (qT (qT (qB (qT (qL (qB (qT (qB (qT (qL (qB (qT (qT (qB (qL (qB (qT (qT qZ))))))))))))))))))) (by kernel_rfl) ?_
                obtain ⟨x4037, hx4038, hm⟩ := bindE hm
                refine wH_idx (i := 2) (d := 38) (T := 136) (A := (some ⟨b9, 0, none⟩)) (n := (l2782).length) (cap := (Int.toNat (((l0).length : Int)))) (kd := .i64) (m := x3641) (by kernel_rfl) (qT (qT (qT (qB (qT (qL (qB (qT (qB (qT (qL (qB (qT (qT (qB (qL (qB (qT (qT qZ))))))))))))))))))) (by kernel_rfl) (by kernel_rfl) sl136 ((F3929.sl encB_ok).is hx4038) ?_
                refine wH_load1 (i := 3) (d := 39) (T := 4) (ad := (elA (some ⟨b9, 0, none⟩) 1 (x3641) 0)) (v := .bool (x4037)) (by kernel_rfl) (qT (qT (qT (qB (qT (qL (qB (qT (qB (qT (qL (qB (qT (qT (qB (qL (qB (qT (qT qZ))))))))))))))))))) (by kernel_rfl) (by kernel_rfl) vt4 (fun W hW => Sl.cell ((Z4035.chg hW Dj.nil).sl encB_ok) hx4038 0 (by rfl)) ?_
                refine wH_take [4, 5] [5, 4, 3, 2, 1, 0] [(41, .int .i64 (x3926)), (40, .slice (some ⟨b9, 0, none⟩) (l2782).length (Int.toNat (((l0).length : Int))))] (by kernel_rfl) (qT (qT (qT (qB (qT (qL (qB (qT (qB (qT (qL (qB (qT (qT (qB (qL (qB (qT (qT qZ))))))))))))))))))) (by kernel_rfl) ?_
                obtain ⟨x4039, hx4040, hm⟩ := bindE hm
                refine wH_idx (i := 6) (d := 42) (T := 136) (A := (some ⟨b9, 0, none⟩)) (n := (l2782).length) (cap := (Int.toNat (((l0).length : Int)))) (kd := .i64) (m := x3926) (by kernel_rfl) (qT (qT (qT (qB (qT (qL (qB (qT (qB (qT (qL (qB (qT (qT (qB (qL (qB (qT (qT qZ))))))))))))))))))) (by kernel_rfl) (by kernel_rfl) sl136 ((F3929.sl encB_ok).is hx4040) ?_
                refine wH_load1 (i := 7) (d := 43) (T := 4) (ad := (elA (some ⟨b9, 0, none⟩) 1 (x3926) 0)) (v := .bool (x4039)) (by kernel_rfl) (qT (qT (qT (qB (qT (qL (qB (qT (qB (qT (qL (qB (qT (qT (qB (qL (qB (qT (qT qZ))))))))))))))))))) (by kernel_rfl) (by kernel_rfl) vt4 (fun W hW => Sl.cell ((Z4035.chg hW Dj.nil).sl encB_ok) hx4040 0 (by rfl)) ?_
                refine wH_take [8, 9] [9, 8, 7, 6, 5, 4, 3, 2, 1, 0] [(45, .bool (!(x4037 == x4039))), (44, .bool (!(x4037 == x4039)))] (by kernel_rfl) (qT (qT (qT (qB (qT (qL (qB (qT (qB (qT (qL (qB (qT (qT (qB (qL (qB (qT (qT qZ))))))))))))))))))) (by kernel_rfl) ?_
                refine wH_bool (!(x4037 == x4039)) (fun hb4041 => ?_) (fun hb4041 => ?_)
                · have hm := condT hb4041 hm
                  rewrite [hb4041]
                  refine wH_take [10, 11, 12] [12, 11, 10, 9, 8, 7, 6, 5, 4, 3, 2, 1, 0] [(48, .bool (decide (x3924 < 0))), (47, .bool (decide (x3924 < 0))), (46, .int .i64 (x3924))] (by kernel_rfl) (qT (qT (qT (qB (qT (qL (qB (qT (qB (qT (qL (qB (qT (qT (qB (qL (qB (qT (qT qZ))))))))))))))))))) (by kernel_rfl) ?_
                  refine wH_bool (decide (x3924 < 0)) (fun hb4042 => ?_) (fun hb4042 => ?_)
                  · have hm := condT hb4042 hm
                    rewrite [hb4042]
                    refine wH_take [13, 14, 15, 16, 17, 18, 19, 20, 21, 22, 23, 24, 25, 26, 27, 28, 29] [29, 28, 27, 26, 25, 24, 23, 22, 21, 20, 19, 18, 17, 16, 15, 14, 13, 12, 11, 10, 9, 8, 7, 6, 5, 4, 3, 2, 1, 0] [(65, undef), (64, undef), (63, undef), (62, undef), (61, undef), (60, undef), (59, undef), (58, undef), (57, undef), (56, undef), (55, undef), (54, undef), (53, undef), (52, undef), (51, undef), (50, undef), (49, undef)] (by kernel_rfl) (qT (qT (qT (qB (qT (qL (qB (qT (qB (qT (qL (qB (qT (qT (qB (qL (qB (qT (qT qZ))))))))))))))))))) (by kernel_rfl) ?_
                    refine wH_done (by kernel_rfl) ?_
                    refine eX_tail ?_
                    refine wS_pure 4 [(69, .bool (true)), (68, .bool (true)), (67, undef), (66, undef)] (by kernel_rfl) ?_
                    refine wS_end (by rfl) ?_
                    refine eX_then ?_
                    refine cW_prune [(0, .slice A0 (l0).length cap0), (4, .slice A2776 (l2775).length cap2777), (5, .int .i64 (x2781)), (6, .slice (some ⟨b9, 0, none⟩) (l2782).length (Int.toNat (((l0).length : Int)))), (7, .int .i64 (x3924)), (8, .int .i64 (x3925)), (9, .int .i64 (x3641)), (10, .int .i64 (x3926)), (24, .int .i64 (((l0).length : Int))), (25, .int .i64 (x3641)), (69, .bool (true))] (by kernel_rfl) (by kernel_rfl) (fun a4043 => ?_)
                    refine cW_cond_t (by kernel_rfl) ?_
                    refine cW_region ?_
                    refine wS_pure 4 [(8, .int .i64 (x3926)), (7, .int .i64 (x3641)), (71, .int .i64 (x3926)), (70, .int .i64 (x3641))] (by kernel_rfl) ?_
                    refine wS_end (by rfl) ?_
                    have hq : (some ((x3641, x3926)) : Option (Int × Int)) = some _ := hm
                    replace hq := someE hq
                    subst hq
                    exact eX_J (fun hst => ⟨x3641, x3926, rfl, Fr.of hst (by kernel_rfl), F3928, F3929, F3930, hB, hZ⟩)
                  · have hm := condF hb4042 hm
                    rewrite [hb4042]
                    refine wH_take [13, 14] [14, 13, 12, 11, 10, 9, 8, 7, 6, 5, 4, 3, 2, 1, 0] [(50, .int .i64 (x3641)), (49, .slice A0 (l0).length cap0)] (by kernel_rfl) (qT (qT (qT (qB (qT (qL (qB (qT (qB (qT (qL (qB (qT (qT (qB (qL (qB (qT (qT qZ))))))))))))))))))) (by kernel_rfl) ?_
                    obtain ⟨x4044, hx4045, hm⟩ := bindE hm
                    refine wH_idx (i := 15) (d := 51) (T := 32) (A := A0) (n := (l0).length) (cap := cap0) (kd := .i64) (m := x3641) (by kernel_rfl) (qT (qT (qT (qB (qT (qL (qB (qT (qB (qT (qL (qB (qT (qT (qB (qL (qB (qT (qT qZ))))))))))))))))))) (by kernel_rfl) (by kernel_rfl) sl32 (F3928.is hx4045) ?_
                    refine wH_loadA (i := 16) (d := 52) (T := 37) (ad := (elA A0 2 (x3641) 0)) (vs := [.int .i64 (x4044.1), .int .i64 (x4044.2)]) (by kernel_rfl) (qT (qT (qT (qB (qT (qL (qB (qT (qB (qT (qL (qB (qT (qT (qB (qL (qB (qT (qT qZ))))))))))))))))))) (by kernel_rfl) (by kernel_rfl) vt37 (fun W hW i u hu => Sl.cells_at (Z4034.chg hW Dj.nil) hx4045 0 hu (by rfl)) ?_
                    refine wH_take [17, 18] [18, 17, 16, 15, 14, 13, 12, 11, 10, 9, 8, 7, 6, 5, 4, 3, 2, 1, 0] [(54, .int .i64 (x3926)), (53, .slice A0 (l0).length cap0)] (by kernel_rfl) (qT (qT (qT (qB (qT (qL (qB (qT (qB (qT (qL (qB (qT (qT (qB (qL (qB (qT (qT qZ))))))))))))))))))) (by kernel_rfl) ?_
                    obtain ⟨x4046, hx4047, hm⟩ := bindE hm
                    refine wH_idx (i := 19) (d := 55) (T := 32) (A := A0) (n := (l0).length) (cap := cap0) (kd := .i64) (m := x3926) (by kernel_rfl) (qT (qT (qT (qB (qT (qL (qB (qT (qB (qT (qL (qB (qT (qT (qB (qL (qB (qT (qT qZ))))))))))))))))))) (by kernel_rfl) (by kernel_rfl) sl32 (F3928.is hx4047) ?_
                    refine wH_loadA (i := 20) (d := 56) (T := 37) (ad := (elA A0 2 (x3926) 0)) (vs := [.int .i64 (x4046.1), .int .i64 (x4046.2)]) (by kernel_rfl) (qT (qT (qT (qB (qT (qL (qB (qT (qB (qT (qL (qB (qT (qT (qB (qL (qB (qT (qT qZ))))))))))))))))))) (by kernel_rfl) (by kernel_rfl) vt37 (fun W hW i u hu => Sl.cells_at (Z4034.chg hW Dj.nil) hx4047 0 hu (by rfl)) ?_
                    refine wH_take [22, 23] [23, 22, 20, 19, 18, 17, 16, 15, 14, 13, 12, 11, 10, 9, 8, 7, 6, 5, 4, 3, 2, 1, 0] [(59, .int .i64 (x3924)), (58, .slice A0 (l0).length cap0)] (by kernel_rfl) (qT (qT (qT (qB (qT (qL (qB (qT (qB (qT (qL (qB (qT (qT (qB (qL (qB (qT (qT qZ))))))))))))))))))) (by kernel_rfl) ?_
                    obtain ⟨x4048, hx4049, hm⟩ := bindE hm
                    refine wH_idx (i := 24) (d := 60) (T := 32) (A := A0) (n := (l0).length) (cap := cap0) (kd := .i64) (m := x3924) (by kernel_rfl) (qT (qT (qT (qB (qT (qL (qB (qT (qB (qT (qL (qB (qT (qT (qB (qL (qB (qT (qT qZ))))))))))))))))))) (by kernel_rfl) (by kernel_rfl) sl32 (F3928.is hx4049) ?_
                    refine wH_loadA (i := 25) (d := 61) (T := 37) (ad := (elA A0 2 (x3924) 0)) (vs := [.int .i64 (x4048.1), .int .i64 (x4048.2)]) (by kernel_rfl) (qT (qT (qT (qB (qT (qL (qB (qT (qB (qT (qL (qB (qT (qT (qB (qL (qB (qT (qT qZ))))))))))))))))))) (by kernel_rfl) (by kernel_rfl) vt37 (fun W hW i u hu => Sl.cells_at (Z4034.chg hW Dj.nil) hx4049 0 hu (by rfl)) ?_
                    refine wH_take [26, 27] [27, 26, 25, 24, 23, 22, 20, 19, 18, 17, 16, 15, 14, 13, 12, 11, 10, 9, 8, 7, 6, 5, 4, 3, 2, 1, 0] [(63, .int .i64 (x3925)), (62, .slice A0 (l0).length cap0)] (by kernel_rfl) (qT (qT (qT (qB (qT (qL (qB (qT (qB (qT (qL (qB (qT (qT (qB (qL (qB (qT (qT qZ))))))))))))))))))) (by kernel_rfl) ?_
                    obtain ⟨x4050, hx4051, hm⟩ := bindE hm
                    refine wH_idx (i := 28) (d := 64) (T := 32) (A := A0) (n := (l0).length) (cap := cap0) (kd := .i64) (m := x3925) (by kernel_rfl) (qT (qT (qT (qB (qT (qL (qB (qT (qB (qT (qL (qB (qT (qT (qB (qL (qB (qT (qT qZ))))))))))))))))))) (by kernel_rfl) (by kernel_rfl) sl32 (F3928.is hx4051) ?_
                    refine wH_loadA (i := 29) (d := 65) (T := 37) (ad := (elA A0 2 (x3925) 0)) (vs := [.int .i64 (x4050.1), .int .i64 (x4050.2)]) (by kernel_rfl) (qT (qT (qT (qB (qT (qL (qB (qT (qB (qT (qL (qB (qT (qT (qB (qL (qB (qT (qT qZ))))))))))))))))))) (by kernel_rfl) (by kernel_rfl) vt37 (fun W hW i u hu => Sl.cells_at (Z4034.chg hW Dj.nil) hx4051 0 hu (by rfl)) ?_
                    refine wH_all [21] (by rfl) (by kernel_rfl) (by simp) ⟨⟨by kernel_rfl, ?_⟩, trivial⟩
                    obtain ⟨y4052, hy4053, hm⟩ := bindE hm
                    refine wS_calls (d := 57) (f := 85) (vs := [.agg #[.int .i64 (x4044.1), .int .i64 (x4044.2)], .agg #[.int .i64 (x4046.1), .int .i64 (x4046.2)]]) (by kernel_rfl) ent85 (c_impl_far hy4053) ?_
                    rintro _ w4054 ⟨rfl, hc4055⟩
                    replace F3928 := F3928.chg hc4055 Dj.nil
                    replace F3929 := F3929.chg hc4055 Dj.nil
                    replace F3930 := F3930.chg hc4055 Dj.nil
                    replace hB := hB.inS hc4055 inNil
                    have hSz := hS
                    replace hS := hS.inS hc4055 inNil
                    replace hZ := Nat.le_trans hZ hc4055.size
                    refine ⟨.int .i64 (y4052), rfl, ?_⟩
                    refine wS_end (by kernel_rfl) ?_
                    refine eX_KH hS ?_
                    refine wH_done (by kernel_rfl) ?_
                    refine eX_tail ?_
                    obtain ⟨y4056, hy4057, hm⟩ := bindE hm
                    refine wS_calls (d := 66) (f := 85) (vs := [.agg #[.int .i64 (x4048.1), .int .i64 (x4048.2)], .agg #[.int .i64 (x4050.1), .int .i64 (x4050.2)]]) (by kernel_rfl) ent85 (c_impl_far hy4057) ?_
                    rintro _ w4058 ⟨rfl, hc4059⟩
                    replace F3928 := F3928.chg hc4059 Dj.nil
                    replace F3929 := F3929.chg hc4059 Dj.nil
                    replace F3930 := F3930.chg hc4059 Dj.nil
                    replace hB := hB.inS hc4059 inNil
                    replace hZ := Nat.le_trans hZ hc4059.size
                    refine ⟨.int .i64 (y4056), rfl, ?_⟩
                    refine wS_pure 3 [(69, .bool (decide (y4052 < y4056))), (68, .bool (decide (y4052 < y4056))), (67, .bool (decide (y4052 < y4056)))] (by kernel_rfl) ?_
                    refine wS_end (by rfl) ?_
                    refine eX_then ?_
                    refine cW_prune [(0, .slice A0 (l0).length cap0), (4, .slice A2776 (l2775).length cap2777), (5, .int .i64 (x2781)), (6, .slice (some ⟨b9, 0, none⟩) (l2782).length (Int.toNat (((l0).length : Int)))), (7, .int .i64 (x3924)), (8, .int .i64 (x3925)), (9, .int .i64 (x3641)), (10, .int .i64 (x3926)), (24, .int .i64 (((l0).length : Int))), (25, .int .i64 (x3641)), (69, .bool (decide (y4052 < y4056)))] (by kernel_rfl) (by kernel_rfl) (fun a4060 => ?_)
                    refine cW_cond (t := decide (y4052 < y4056)) (by kernel_rfl) (fun hb4061 => ?_) (fun hb4061 => ?_)
                    · have hm := condT hb4061 hm
                      refine cW_region ?_
                      refine wS_pure 4 [(8, .int .i64 (x3926)), (7, .int .i64 (x3641)), (71, .int .i64 (x3926)), (70, .int .i64 (x3641))] (by kernel_rfl) ?_
                      refine wS_end (by rfl) ?_
                      have hq : (some ((x3641, x3926)) : Option (Int × Int)) = some _ := hm
                      replace hq := someE hq
                      subst hq
                      exact eX_J (fun hst => ⟨x3641, x3926, rfl, Fr.of hst (by kernel_rfl), F3928, F3929, F3930, hB, hZ⟩)
                    · have hm := condF hb4061 hm
                      refine cW_skip ?_
                      have hq : (some ((x3924, x3925)) : Option (Int × Int)) = some _ := hm
                      replace hq := someE hq
                      subst hq
                      exact eX_J (fun hst => ⟨x3924, x3925, rfl, Fr.of hst (by kernel_rfl), F3928, F3929, F3930, hB, hZ⟩)
                · have hm := condF hb4041 hm
                  rewrite [hb4041]
                  refine wH_take [10, 11, 12, 13, 14, 15, 16, 17, 18, 19, 20, 21, 22, 23, 24, 25, 26, 27, 28, 29] [29, 28, 27, 26, 25, 24, 23, 22, 21, 20, 19, 18, 17, 16, 15, 14, 13, 12, 11, 10, 9, 8, 7, 6, 5, 4, 3, 2, 1, 0] [(65, undef), (64, undef), (63, undef), (62, undef), (61, undef), (60, undef), (59, undef), (58, undef), (57, undef), (56, undef), (55, undef), (54, undef), (53, undef), (52, undef), (51, undef), (50, undef), (49, undef), (48, undef), (47, undef), (46, undef)] (by kernel_rfl) (qT (qT (qT (qB (qT (qL (qB (qT (qB (qT (qL (qB (qT (qT (qB (qL (qB (qT (qT qZ))))))))))))))))))) (by kernel_rfl) ?_
                  refine wH_done (by kernel_rfl) ?_
                  refine eX_tail ?_
                  refine wS_pure 4 [(69, .bool (false)), (68, undef), (67, undef), (66, undef)] (by kernel_rfl) ?_
                  refine wS_end (by rfl) ?_
                  refine eX_then ?_
                  refine cW_prune [(0, .slice A0 (l0).length cap0), (4, .slice A2776 (l2775).length cap2777), (5, .int .i64 (x2781)), (6, .slice (some ⟨b9, 0, none⟩) (l2782).length (Int.toNat (((l0).length : Int)))), (7, .int .i64 (x3924)), (8, .int .i64 (x3925)), (9, .int .i64 (x3641)), (10, .int .i64 (x3926)), (24, .int .i64 (((l0).length : Int))), (25, .int .i64 (x3641)), (69, .bool (false))] (by kernel_rfl) (by kernel_rfl) (fun a4062 => ?_)
                  refine cW_cond_f (by kernel_rfl) ?_
                  refine cW_skip ?_
                  have hq : (some ((x3924, x3925)) : Option (Int × Int)) = some _ := hm
                  replace hq := someE hq
                  subst hq
                  exact eX_J (fun hst => ⟨x3924, x3925, rfl, Fr.of hst (by kernel_rfl), F3928, F3929, F3930, hB, hZ⟩)
              · rintro a' w3996 ⟨x3997, x3998, hJ, hF3999, F4000, F4001, F4002, hB, hZ⟩
                subst hJ
                refine Fr.goX hF3999 (by kernel_rfl) ?_
                refine eX_block ?_
                refine eX_then ?_
                refine cW_region ?_
                refine wS_pure 3 [(10, .int .i64 (wr (x3926 + 1))), (35, .int .i64 (wr (x3926 + 1))), (34, .int .i64 (x3926))] (by kernel_rfl) ?_
                refine wS_end (by rfl) ?_
                have hq : (some (Ctl.next ((x3997, x3998, wr (x3926 + 1)))) : Option (Ctl (Int × Int × Int) (Int × Int))) = some _ := hm
                replace hq := someE hq
                subst hq
                exact eX_next hx3936 (fun hst => ⟨x3997, x3998, wr (x3926 + 1), rfl, Fr.of hst (by kernel_rfl), F4000, F4001, F4002, hB, hZ⟩)
            · have hm := condF hb3937 hm
              refine cW_exit ?_
              refine eX_then_exit ?_
              have hq : (some (Ctl.out ((x3924, x3925))) : Option (Ctl (Int × Int × Int) (Int × Int))) = some _ := hm
              replace hq := someE hq
              subst hq
              refine eX_outX hx3936 (fun hr4063 => ?_)
              replace hr4063 := hr4063.symm
              subst hr4063
              refine eX_block_hit ?_
              exact eX_J (fun hst => ⟨x3924, x3925, rfl, Fr.of hst (by kernel_rfl), F3928, F3929, F3930, hB, hZ⟩)
          · rintro a' w3916 ⟨x3917, x3918, hJ, hF3919, F3920, F3921, F3922, hB, hZ⟩
            subst hJ
            refine Fr.goX hF3919 (by kernel_rfl) ?_
            refine eX_block ?_
            refine eX_then ?_
            refine cW_region ?_
            refine wS_pure 2 [(25, .int .i64 (wr (x3641 + 1))), (72, .int .i64 (wr (x3641 + 1)))] (by kernel_rfl) ?_
            refine wS_end (by rfl) ?_
            have hq : (some (Ctl.next ((x3917, x3918, wr (x3641 + 1)))) : Option (Ctl (Int × Int × Int) (Int × Int))) = some _ := hm
            replace hq := someE hq
            subst hq
            exact eX_next hx3651 (fun hst => ⟨x3917, x3918, wr (x3641 + 1), rfl, Fr.of hst (by kernel_rfl), F3920, F3921, F3922, hB, hZ⟩)
        · have hm := condF hb3652 hm
          refine cW_exit ?_
          refine eX_then_exit ?_
          have hq : (some (Ctl.out ((x3639, x3640))) : Option (Ctl (Int × Int × Int) (Int × Int))) = some _ := hm
          replace hq := someE hq
          subst hq
          refine eX_outX hx3651 (fun hr4064 => ?_)
          replace hr4064 := hr4064.symm
          subst hr4064
          refine eX_block_hit ?_
          exact eX_J (fun hst => ⟨x3639, x3640, rfl, Fr.of hst (by kernel_rfl), F3643, F3644, F3645, hB, hZ⟩)
      · rintro a' w3631 ⟨x3632, x3633, hJ, hF3634, F3635, F3636, F3637, hB, hZ⟩
        subst hJ
        refine Fr.goX hF3634 (by kernel_rfl) ?_
        refine eX_then ?_
        refine cW_seq ?_
        refine cW_region ?_
        refine wS_pure 4 [(76, .int .i64 (x3633)), (75, .slice (some ⟨b9, 0, none⟩) (l2782).length (Int.toNat (((l0).length : Int)))), (74, .int .i64 (x3632)), (73, .slice (some ⟨b9, 0, none⟩) (l2782).length (Int.toNat (((l0).length : Int))))] (by kernel_rfl) ?_
        obtain ⟨x4065, hx4066, hm⟩ := bindE hm
        refine wS_idx (d := 77) (T := 136) (A := (some ⟨b9, 0, none⟩)) (n := (l2782).length) (cap := (Int.toNat (((l0).length : Int)))) (kd := .i64) (m := x3632) (by kernel_rfl) sl136 ((F3636.sl encB_ok).is hx4066) ?_
        refine wS_storeEl (x := x4065) true (T := 4) (U := 4) (cap := (Int.toNat (((l0).length : Int)))) (j := 0) (A := (some ⟨b9, 0, none⟩)) (v := .bool (true)) (vs := [.bool (true)]) (m := x3632) (by kernel_rfl) (by rfl) sz4 (by rfl) encB_ok F3636 hx4066 (by simp only [List.length_cons, List.length_nil]; omega) (by rfl) ?_
        intro w4067 F4068 hc4069
        replace F3635 := F3635.chg hc4069 (Dj.of L0 G11)
        replace F3637 := F3637.chg hc4069 (D2788).symm
        replace hB := hB.inS hc4069 (inLow G11)
        replace hZ := Nat.le_trans hZ hc4069.size
        clear F3636
        rewrite [show (l2782).length = (l2782.set (Int.toNat x3632) true).length from (List.length_set ..).symm]
        obtain ⟨x4070, hx4071, hm⟩ := bindE hm
        refine wS_idx (d := 78) (T := 136) (A := (some ⟨b9, 0, none⟩)) (n := (l2782.set (Int.toNat x3632) true).length) (cap := (Int.toNat (((l0).length : Int)))) (kd := .i64) (m := x3633) (by kernel_rfl) sl136 ((F4068.sl encB_ok).is hx4071) ?_
        refine wS_storeEl (x := x4070) true (T := 4) (U := 4) (cap := (Int.toNat (((l0).length : Int)))) (j := 0) (A := (some ⟨b9, 0, none⟩)) (v := .bool (true)) (vs := [.bool (true)]) (m := x3633) (by kernel_rfl) (by rfl) sz4 (by rfl) encB_ok F4068 hx4071 (by simp only [List.length_cons, List.length_nil]; omega) (by rfl) ?_
        intro w4072 F4073 hc4074
        replace F3635 := F3635.chg hc4074 (Dj.of L0 G11)
        replace F3637 := F3637.chg hc4074 (D2788).symm
        replace hB := hB.inS hc4074 (inLow G11)
        replace hZ := Nat.le_trans hZ hc4074.size
        clear F4068
        rewrite [show (l2782.set (Int.toNat x3632) true).length = ((l2782.set (Int.toNat x3632) true).set (Int.toNat x3633) true).length from (List.length_set ..).symm]
        refine wS_end (by rfl) ?_
        refine eX_then ?_
        refine cW_drawnTail (fp2778 ++ fr2780) 18 (by kernel_rfl) (by kernel_rfl) (fun w4116 hc4117 => ?_)
        replace F3635 := F3635.chg hc4117 Dj.nil
        replace F4073 := F4073.chg hc4117 Dj.nil
        replace F3637 := F3637.chg hc4117 Dj.nil
        replace hB := hB.inS hc4117 inNil
        replace hZ := Nat.le_trans hZ hc4117.size
        have hS := Chg.refl (fp2778 ++ fr2780) w4116
        have Z4118 := F3635
        have Z4119 := F4073
        have Z4120 := F3637
        refine wH_take [0, 1, 2, 6, 7, 8] [8, 7, 6, 2, 1, 0] [(87, .int .i64 (x3632)), (86, .slice A0 (l0).length cap0), (85, .int .i64 (x2781)), (81, .int .i64 (x3633)), (80, .int .i64 (x3632)), (79, .slice A2776 (l2775).length cap2777)] (by kernel_rfl) (qT (qB (qL (qB (qT (qT qZ)))))) (by kernel_rfl) ?_
        obtain ⟨x4121, hx4122, hm⟩ := bindE hm
        refine wH_idx (i := 9) (d := 88) (T := 32) (A := A0) (n := (l0).length) (cap := cap0) (kd := .i64) (m := x3632) (by kernel_rfl) (qT (qB (qL (qB (qT (qT qZ)))))) (by kernel_rfl) (by kernel_rfl) sl32 (F3635.is hx4122) ?_
        refine wH_loadA (i := 10) (d := 89) (T := 37) (ad := (elA A0 2 (x3632) 0)) (vs := [.int .i64 (x4121.1), .int .i64 (x4121.2)]) (by kernel_rfl) (qT (qB (qL (qB (qT (qT qZ)))))) (by kernel_rfl) (by kernel_rfl) vt37 (fun W hW i u hu => Sl.cells_at (Z4118.chg hW (Dj.of L0 G2787)) hx4122 0 hu (by rfl)) ?_
        refine wH_take [11, 12] [12, 11, 10, 9, 8, 7, 6, 2, 1, 0] [(91, .int .i64 (x3633)), (90, .slice A0 (l0).length cap0)] (by kernel_rfl) (qT (qB (qL (qB (qT (qT qZ)))))) (by kernel_rfl) ?_
        obtain ⟨x4123, hx4124, hm⟩ := bindE hm
        refine wH_idx (i := 13) (d := 92) (T := 32) (A := A0) (n := (l0).length) (cap := cap0) (kd := .i64) (m := x3633) (by kernel_rfl) (qT (qB (qL (qB (qT (qT qZ)))))) (by kernel_rfl) (by kernel_rfl) sl32 (F3635.is hx4124) ?_
        refine wH_loadA (i := 14) (d := 93) (T := 37) (ad := (elA A0 2 (x3633) 0)) (vs := [.int .i64 (x4123.1), .int .i64 (x4123.2)]) (by kernel_rfl) (qT (qB (qL (qB (qT (qT qZ)))))) (by kernel_rfl) (by kernel_rfl) vt37 (fun W hW i u hu => Sl.cells_at (Z4118.chg hW (Dj.of L0 G2787)) hx4124 0 hu (by rfl)) ?_
        refine wH_all [3] (by rfl) (by kernel_rfl) (by simp) ⟨⟨by kernel_rfl, ?_⟩, trivial⟩
        refine wS_bs (enc := encI) ([x3632, x3633] : List (Int)) [.int .i64 (x3632), .int .i64 (x3633)] (d := 82) (t := 25) (T := 2) (n := 2) (ps := [(0, .int .i64 (x3632)), (1, .int .i64 (x3633))]) (by kernel_rfl) el25 encI_ok (by rfl) (by omega) (by omega) (by kernel_rfl) (by rfl) ?_
        intro b4125 w4126 G4127 F4128 hc4129
        have D4131 : Dj [b9] [b4125] := Dj.of F4073.low (low1 G4127)
        have D4132 : Dj (fp2778 ++ fr2780) [b4125] := Dj.of F3637.low (low1 G4127)
        replace F3635 := F3635.chg hc4129 Dj.nil
        replace F4073 := F4073.chg hc4129 Dj.nil
        replace F3637 := F3637.chg hc4129 Dj.nil
        replace hB := hB.inS hc4129 inNil
        have hSz := hS
        replace hS := hS.inS hc4129 inNil
        have Gz4133 := low1 (Nat.le_trans hSz.size G4127)
        replace G4127 := Nat.le_trans hZ G4127
        replace G4127 := low1 G4127
        replace hZ := Nat.le_trans hZ hc4129.size
        refine wS_end (by kernel_rfl) ?_
        refine eX_KH hS ?_
        refine wH_all [4] (by rfl) (by kernel_rfl) (by simp) ⟨⟨by kernel_rfl, ?_⟩, trivial⟩
        refine wS_row1 (k := 1) (enc := encI) (l := ([x3632, x3633] : List (Int))) (d := 83) (t := 40) (T := 25) (B := (some ⟨b4125, 0, none⟩)) (c := 2) (by kernel_rfl) el40 F4128 ?_
        intro b4134 w4135 G4136 F4137 hc4138
        have D4140 : Dj [b9] ([b4134] ++ [b4125]) := Dj.app (Dj.of F4073.low (low1 G4136)) D4131
        have D4141 : Dj (fp2778 ++ fr2780) ([b4134] ++ [b4125]) := Dj.app (Dj.of F3637.low (low1 G4136)) D4132
        replace F3635 := F3635.chg hc4138 Dj.nil
        replace F4073 := F4073.chg hc4138 Dj.nil
        replace F3637 := F3637.chg hc4138 Dj.nil
        replace F4128 := F4128.chg hc4138 Dj.nil
        replace hB := hB.inS hc4138 inNil
        have hSz := hS
        replace hS := hS.inS hc4138 inNil
        replace G4136 := Nat.le_trans hZ G4136
        replace G4136 := lowApp (low1 G4136) G4127
        replace hZ := Nat.le_trans hZ hc4138.size
        replace F4128 := (F4128.sl encI_ok)
        refine wS_end (by kernel_rfl) ?_
        refine eX_KH hS ?_
        refine wH_all [5] (by rfl) (by kernel_rfl) (by simp) ⟨⟨by kernel_rfl, ?_⟩, trivial⟩
        obtain ⟨_, hk4142, hm⟩ := bindE hm
        replace hk4142 := apE hk4142
        refine wS_appendR (k := 1) (enc := encI) (ll := (l2775 : List (List (Int)))) (ll2 := (([([x3632, x3633] : List (Int))] : List (List (Int))) : List (List (Int)))) (d := 84) (t := 40) (T := 25) (A := A2776) (A2 := (some ⟨b4134, 0, none⟩)) (cap := cap2777) (cap2 := 1) (by kernel_rfl) el40 F3637 F4137 (by rfl) D4141 hk4142 ?_
        intro w4143 fp4144 A4145 cap4146 F4147 hc4148 hp4149
        have G4151 := lowApp (low_ap (low_inl G2787) hZ hp4149) (lowApp (low_inr G2787) (low_inr G4136))
        have D4152 : Dj [b9] (fp4144 ++ (fr2780 ++ [b4125])) := Dj.app (Dj.ap (Dj.inl D2788) F4073.low hp4149) (Dj.app (Dj.inr D2788) (Dj.inr D4140))
        replace F3635 := F3635.chg hc4148 (Dj.inl (Dj.of L0 G2787))
        replace F4073 := F4073.chg hc4148 (Dj.inl D2788)
        replace hB := hB.inS hc4148 (memS_inl (inLow G2787))
        have hSz := hS
        replace hS := hS.trans (hc4148.more (fun x hx => List.mem_append_left _ hx))
        replace hZ := Nat.le_trans hZ hc4148.size
        refine wS_end (by kernel_rfl) ?_
        refine eX_KH hS ?_
        refine wH_all [15] (by rfl) (by kernel_rfl) (by simp) ⟨⟨by kernel_rfl, ?_⟩, trivial⟩
        obtain ⟨y4153, hy4154, hm⟩ := bindE hm
        refine wS_calls (d := 94) (f := 85) (vs := [.agg #[.int .i64 (x4121.1), .int .i64 (x4121.2)], .agg #[.int .i64 (x4123.1), .int .i64 (x4123.2)]]) (by kernel_rfl) ent85 (c_impl_far hy4154) ?_
        rintro _ w4155 ⟨rfl, hc4156⟩
        replace F3635 := F3635.chg hc4156 Dj.nil
        replace F4073 := F4073.chg hc4156 Dj.nil
        replace F4147 := F4147.chg hc4156 Dj.nil
        replace hB := hB.inS hc4156 inNil
        have hSz := hS
        replace hS := hS.inS hc4156 inNil
        replace hZ := Nat.le_trans hZ hc4156.size
        refine ⟨.int .i64 (y4153), rfl, ?_⟩
        refine wS_end (by kernel_rfl) ?_
        refine eX_KH hS ?_
        refine wH_take [16, 17] [17, 16, 15, 5, 4, 3, 14, 13, 12, 11, 10, 9, 8, 7, 6, 2, 1, 0] [(4, .slice A4145 (l2775 ++ (([([x3632, x3633] : List (Int))] : List (List (Int))))).length cap4146), (95, .int .i64 (wr (x2781 + y4153)))] (by kernel_rfl) (qT (qB (qL (qB (qT (qT qZ)))))) (by kernel_rfl) ?_
        refine wH_done (by kernel_rfl) ?_
        refine eX_tail ?_
        refine wS_pure 1 [(5, .int .i64 (wr (x2781 + y4153)))] (by kernel_rfl) ?_
        refine wS_end (by rfl) ?_
        refine eX_block ?_
        have hq : (some (Ctl.next ((l2775 ++ (([([x3632, x3633] : List (Int))] : List (List (Int)))), wr (x2781 + y4153), (l2782.set (Int.toNat x3632) true).set (Int.toNat x3633) true))) : Option (Ctl ((List (List (Int))) × Int × (List (Bool))) ((List (List (Int))) × Int))) = some _ := hm
        replace hq := someE hq
        subst hq
        exact eX_next hx2794 (fun hst => ⟨l2775 ++ (([([x3632, x3633] : List (Int))] : List (List (Int)))), A4145, cap4146, fp4144, (fr2780 ++ [b4125]), wr (x2781 + y4153), (l2782.set (Int.toNat x3632) true).set (Int.toNat x3633) true, rfl, Fr.of hst (by kernel_rfl), F3635, F4073, F4147, G4151, D4152, hB, hZ⟩)
    · have hm := condF hb2795 hm
      refine cW_exit ?_
      refine eX_then_exit ?_
      have hq : (some (Ctl.out ((l2775, x2781))) : Option (Ctl ((List (List (Int))) × Int × (List (Bool))) ((List (List (Int))) × Int))) = some _ := hm
      replace hq := someE hq
      subst hq
      refine eX_outX hx2794 (fun hr4157 => ?_)
      replace hr4157 := hr4157.symm
      subst hr4157
      refine eX_block_hit ?_
      exact eX_J (fun hst => ⟨l2775, A2776, cap2777, fp2778, fr2780, x2781, rfl, Fr.of hst (by kernel_rfl), F2786, G2787, hB, hZ⟩)
  · rintro a' w2763 ⟨l2764, A2765, cap2766, fp2767, fr2769, x2770, hJ, hF2771, F2772, G2773, hB, hZ⟩
    subst hJ
    refine Fr.goX hF2771 (by kernel_rfl) ?_
    refine eX_then ?_
    refine cW_seq ?_
    refine cW_region ?_
    refine wS_pure 1 [(96, .slice A2765 (l2764).length cap2766)] (by kernel_rfl) ?_
    obtain ⟨y4158, hy4159, hm⟩ := bindE hm
    refine wS_calls (d := 97) (f := 156) (vs := [.slice A2765 (l2764).length cap2766, .func (.func 157) #[] #[]]) (by kernel_rfl) ent156 (c_slices_SortFunc_int64_int64_slices_Compare_int64_int64 hy4159 F2772) ?_
    rintro _ w4160 ⟨rfl, F4162, hl4163, hc4161⟩
    replace hB := hB.inS hc4161 (inApp (inLow G2773) inNil)
    replace hZ := Nat.le_trans hZ hc4161.size
    clear F2772
    refine ⟨.tuple #[], rfl, ?_⟩
    rewrite [(show (l2764).length = (y4158).length from hl4163.symm)]
    refine wS_end (by rfl) ?_
    refine eX_then ?_
    refine cW_seq ?_
    refine cW_region ?_
    refine wS_pure 4 [(3, .int .i64 (x2770)), (2, .slice A2765 (y4158).length cap2766), (99, .int .i64 (x2770)), (98, .slice A2765 (y4158).length cap2766)] (by kernel_rfl) ?_
    refine wS_end (by rfl) ?_
    refine eX_then ?_
    refine cW_ret ?_
    have hq : (some ((y4158, x2770)) : Option ((List (List (Int))) × (Int))) = some _ := hm
    replace hq := someE hq
    subst hq
    refine eX_ret (vs := [.slice A2765 (y4158).length cap2766, .int .i64 (x2770)]) [.tmp 2, .tmp 3] (by rfl) ⟨by (show lkE _ _ _ = _); kernel_rfl, ⟨by (show lkE _ _ _ = _); kernel_rfl, trivial⟩⟩ ?_
    exact ⟨A2765, cap2766, fp2767, fr2769, rfl, F4162, G2773, hB⟩

set_option maxRecDepth 100000 in
/-- laws.b10Long -/
theorem c_laws_b10Long {w0 : World} {l0 : List (Int)} {A0 : Option Addr} {cap0 : Nat} {fp0 : List Nat} {l1 : List (Int)} {A1 : Option Addr} {cap1 : Nat} {fp1 : List Nat} {r : (Bool)} (hm : m_laws_b10Long l0 l1 = some r) (F0 : Sl 1 encU w0 fp0 A0 l0) (F1 : Sl 1 encU w0 fp1 A1 l1) :
    Calls Try.prog 39 #[.slice A0 (l0).length cap0, .slice A1 (l1).length cap1] w0 fun e w' => e = .returned (.bool (r)) ∧ Chg [] w0 w' := by
  have L0 := F0.low
  have L1 := F1.low
  have hB : Chg [] w0 w0 := Chg.refl _ _
  have hZ := Nat.le_refl w0.heap.size
  unfold m_laws_b10Long at hm
  refine enterE (N := 13) Try.func39 (by rfl) Try.ntmps39 (by simp) [(0, .slice A0 (l0).length cap0), (1, .slice A1 (l1).length cap1)] (by rfl) (by kernel_rfl) (fun a => ?_)
  refine cW_seq ?_
  refine cW_region ?_
  refine wS_pure 1 [(4, .bool (false))] (by kernel_rfl) ?_
  refine wS_end (by rfl) ?_
  refine eX_then ?_
  refine cW_seq ?_
  refine cW_region ?_
  refine wS_pure 4 [(8, .bool (decide ((((l0).length : Int)) > 1048576))), (7, .bool (decide ((((l0).length : Int)) > 1048576))), (6, .int .i64 (((l0).length : Int))), (5, .slice A0 (l0).length cap0)] (by kernel_rfl) ?_
  refine wS_bool (decide ((((l0).length : Int)) > 1048576)) (fun hb3 => ?_) (fun hb3 => ?_)
  · have hm := condT hb3 hm
    rewrite [hb3]
    refine wS_pure 5 [(4, .bool (true)), (12, .bool (true)), (11, undef), (10, undef), (9, undef)] (by kernel_rfl) ?_
    refine wS_end (by rfl) ?_
    refine eX_then ?_
    refine cW_ret ?_
    have hq : (some true : Option ((Bool))) = some _ := hm
    replace hq := someE hq
    subst hq
    refine eX_ret (vs := [.bool (true)]) [.tmp 4] (by rfl) ⟨by (show lkE _ _ _ = _); kernel_rfl, trivial⟩ ?_
    exact ⟨rfl, hB⟩
  · have hm := condF hb3 hm
    rewrite [hb3]
    refine wS_pure 5 [(4, .bool (decide ((((l1).length : Int)) > 1048576))), (12, .bool (decide ((((l1).length : Int)) > 1048576))), (11, .bool (decide ((((l1).length : Int)) > 1048576))), (10, .int .i64 (((l1).length : Int))), (9, .slice A1 (l1).length cap1)] (by kernel_rfl) ?_
    refine wS_end (by rfl) ?_
    refine eX_then ?_
    refine cW_ret ?_
    have hq : (some (decide ((((l1).length : Int)) > 1048576)) : Option ((Bool))) = some _ := hm
    replace hq := someE hq
    subst hq
    refine eX_ret (vs := [.bool (decide ((((l1).length : Int)) > 1048576))]) [.tmp 4] (by rfl) ⟨by (show lkE _ _ _ = _); kernel_rfl, trivial⟩ ?_
    exact ⟨rfl, hB⟩

end Go.Proofs.Ytgaecldkiijmpaa
