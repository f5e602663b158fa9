/- Printed walks: laws.r8Long, laws.r8At, spec.l00From, (*spec.l00Src).next, (*spec.l00Src).pick, spec.R8Row, impl.in, impl.rowOk, impl.ValidRiver, impl.tight, impl.fits, impl.LeastTracks, impl.tracksOk, impl.FitsRiver, impl.corners, impl.side, impl.line, impl.riverPath$1, impl.riverPath, impl.RiverWire, impl.IsPoint, impl.noPoint, impl.size, impl.far, slices.IndexFunc[[]impl.Point,impl.Point], slices.ContainsFunc[[]impl.Point,impl.Point], impl.IsPath, slices.Equal[[]impl.Point,impl.Point]. -/
import Derived.Test.YtgaecldkiijmpaaProg
import Derived.Test.YtgaecldkiijmpaaMod
import Derived.Test.YtgaecldkiijmpaaEqs
import Derived.Test.YtgaecldkiijmpaaSrtC
import Derived.Test.YtgaecldkiijmpaaSrtR
import Derived.Test.YtgaecldkiijmpaaWSo01
set_option linter.unusedSimpArgs false
set_option linter.unusedVariables false
namespace Go.Proofs.Ytgaecldkiijmpaa
open Go.RowKit
attribute [local irreducible] wS cW eX wH

theorem ent15 : Ent Try.prog 15 := fun _ => by kernel_rfl
theorem ent16 : Ent Try.prog 16 := fun _ => by kernel_rfl
theorem ent66 : Ent Try.prog 66 := fun _ => by kernel_rfl
theorem ent67 : Ent Try.prog 67 := fun _ => by kernel_rfl
theorem ent68 : Ent Try.prog 68 := fun _ => by kernel_rfl
theorem ent69 : Ent Try.prog 69 := fun _ => by kernel_rfl
theorem ent70 : Ent Try.prog 70 := fun _ => by kernel_rfl
theorem ent71 : Ent Try.prog 71 := fun _ => by kernel_rfl
theorem ent72 : Ent Try.prog 72 := fun _ => by kernel_rfl
theorem ent73 : Ent Try.prog 73 := fun _ => by kernel_rfl
theorem ent79 : Ent Try.prog 79 := fun _ => by kernel_rfl
theorem ent84 : Ent Try.prog 84 := fun _ => by kernel_rfl
theorem ent85 : Ent Try.prog 85 := fun _ => by kernel_rfl
theorem ent132 : Ent Try.prog 132 := fun _ => by kernel_rfl
theorem ent133 : Ent Try.prog 133 := fun _ => by kernel_rfl
theorem ent134 : Ent Try.prog 134 := fun _ => by kernel_rfl
theorem ent135 : Ent Try.prog 135 := fun _ => by kernel_rfl
theorem ent136 : Ent Try.prog 136 := fun _ => by kernel_rfl
theorem ent137 : Ent Try.prog 137 := fun _ => by kernel_rfl
theorem ent147 : Ent Try.prog 147 := fun _ => by kernel_rfl
theorem ent183 : Ent Try.prog 183 := fun _ => by kernel_rfl
theorem ent184 : Ent Try.prog 184 := fun _ => by kernel_rfl
theorem vt5 : VarTy Try.prog 5 1 false := ⟨by kernel_rfl, by kernel_rfl⟩
theorem vt22 : VarTy Try.prog 22 1 false := ⟨by kernel_rfl, by kernel_rfl⟩
theorem vt32 : VarTy Try.prog 32 1 false := ⟨by kernel_rfl, by kernel_rfl⟩
theorem vt145 : VarTy Try.prog 145 1 false := ⟨by kernel_rfl, by kernel_rfl⟩
theorem sl22 : SlTy Try.prog 22 5 1 := ⟨Try.underlying22, by kernel_rfl⟩
theorem el25 : ElTy Try.prog 25 2 1 (.int .i64 (0)) := ElTy.mk' Try.underlying25 (by kernel_rfl) (by rfl)
theorem sz3 : pureRun Try.prog (sizeOf 3) = some 1 := by kernel_rfl
theorem sz32 : pureRun Try.prog (sizeOf 32) = some 1 := by kernel_rfl
theorem sz145 : pureRun Try.prog (sizeOf 145) = some 1 := by kernel_rfl

set_option maxRecDepth 100000 in
/-- laws.r8Long -/
theorem c_laws_r8Long {w0 : World} {l0 : List (Int)} {A0 : Option Addr} {cap0 : Nat} {fp0 : List Nat} {l1 : List (Int)} {A1 : Option Addr} {cap1 : Nat} {fp1 : List Nat} {r : (Bool)} (hm : m_laws_r8Long l0 l1 = some r) (F0 : Sl 1 encU w0 fp0 A0 l0) (F1 : Sl 1 encU w0 fp1 A1 l1) :
    Calls Try.prog 11 #[.slice A0 (l0).length cap0, .slice A1 (l1).length cap1] w0 fun e w' => e = .returned (.bool (r)) ∧ Chg [] w0 w' := by
  have L0 := F0.low
  have L1 := F1.low
  have hB : Chg [] w0 w0 := Chg.refl _ _
  have hZ := Nat.le_refl w0.heap.size
  unfold m_laws_r8Long at hm
  refine enterE (N := 13) Try.func11 (by rfl) Try.ntmps11 (by simp) [(0, .slice A0 (l0).length cap0), (1, .slice A1 (l1).length cap1)] (by rfl) (by kernel_rfl) (fun a => ?_)
  refine cW_seq ?_
  refine cW_region ?_
  refine wS_pure 1 [(4, .bool (false))] (by kernel_rfl) ?_
  refine wS_end (by rfl) ?_
  refine eX_then ?_
  refine cW_seq ?_
  refine cW_region ?_
  refine wS_pure 4 [(8, .bool (decide ((((l0).length : Int)) > 48))), (7, .bool (decide ((((l0).length : Int)) > 48))), (6, .int .i64 (((l0).length : Int))), (5, .slice A0 (l0).length cap0)] (by kernel_rfl) ?_
  refine wS_bool (decide ((((l0).length : Int)) > 48)) (fun hb3 => ?_) (fun hb3 => ?_)
  · have hm := condT hb3 hm
    rewrite [hb3]
    refine wS_pure 5 [(4, .bool (true)), (12, .bool (true)), (11, undef), (10, undef), (9, undef)] (by kernel_rfl) ?_
    refine wS_end (by rfl) ?_
    refine eX_then ?_
    refine cW_ret ?_
    have hq : (some true : Option ((Bool))) = some _ := hm
    replace hq := someE hq
    subst hq
    refine eX_ret (vs := [.bool (true)]) [.tmp 4] (by rfl) ⟨by (show lkE _ _ _ = _); kernel_rfl, trivial⟩ ?_
    exact ⟨rfl, hB⟩
  · have hm := condF hb3 hm
    rewrite [hb3]
    refine wS_pure 5 [(4, .bool (decide ((((l1).length : Int)) > 48))), (12, .bool (decide ((((l1).length : Int)) > 48))), (11, .bool (decide ((((l1).length : Int)) > 48))), (10, .int .i64 (((l1).length : Int))), (9, .slice A1 (l1).length cap1)] (by kernel_rfl) ?_
    refine wS_end (by rfl) ?_
    refine eX_then ?_
    refine cW_ret ?_
    have hq : (some (decide ((((l1).length : Int)) > 48)) : Option ((Bool))) = some _ := hm
    replace hq := someE hq
    subst hq
    refine eX_ret (vs := [.bool (decide ((((l1).length : Int)) > 48))]) [.tmp 4] (by rfl) ⟨by (show lkE _ _ _ = _); kernel_rfl, trivial⟩ ?_
    exact ⟨rfl, hB⟩

set_option maxRecDepth 100000 in
/-- laws.r8At -/
theorem c_laws_r8At {w0 : World} {l0 : List (Int)} {A0 : Option Addr} {cap0 : Nat} {fp0 : List Nat} {p1 : Int} {p2 : Int} {r : (Int)} (hm : m_laws_r8At l0 p1 p2 = some r) (F0 : Sl 1 encU w0 fp0 A0 l0) :
    Calls Try.prog 12 #[.slice A0 (l0).length cap0, .int .i64 (p1), .int .i64 (p2)] w0 fun e w' => e = .returned (.int .i64 (r)) ∧ Chg [] w0 w' := by
  have L0 := F0.low
  have hB : Chg [] w0 w0 := Chg.refl _ _
  have hZ := Nat.le_refl w0.heap.size
  unfold m_laws_r8At at hm
  refine enterE (N := 22) Try.func12 (by rfl) Try.ntmps12 (by simp) [(0, .slice A0 (l0).length cap0), (1, .int .i64 (p1)), (2, .int .i64 (p2))] (by rfl) (by kernel_rfl) (fun a => ?_)
  refine cW_seq ?_
  refine cW_region ?_
  refine wS_pure 1 [(6, .int .i64 (0))] (by kernel_rfl) ?_
  refine wS_end (by rfl) ?_
  refine eX_then ?_
  refine cW_seq ?_
  refine cW_seq ?_
  refine cW_region ?_
  refine wS_pure 3 [(9, .bool (decide (p2 ≤ 1))), (8, .bool (decide (p2 ≤ 1))), (7, .int .i64 (p2))] (by kernel_rfl) ?_
  refine wS_bool (decide (p2 ≤ 1)) (fun hb2 => ?_) (fun hb2 => ?_)
  · have hm := condT hb2 hm
    rewrite [hb2]
    refine wS_pure 5 [(14, .bool (true)), (13, undef), (12, undef), (11, undef), (10, undef)] (by kernel_rfl) ?_
    refine wS_end (by rfl) ?_
    refine eX_then ?_
    refine cW_cond_t (by kernel_rfl) ?_
    refine cW_seq ?_
    refine cW_region ?_
    refine wS_pure 1 [(6, .int .i64 (0))] (by kernel_rfl) ?_
    refine wS_end (by rfl) ?_
    refine eX_then ?_
    refine cW_ret ?_
    refine eX_then_ret ?_
    have hq : (some 0 : Option ((Int))) = some _ := hm
    replace hq := someE hq
    subst hq
    refine eX_ret (vs := [.int .i64 (0)]) [.tmp 6] (by rfl) ⟨by (show lkE _ _ _ = _); kernel_rfl, trivial⟩ ?_
    exact ⟨rfl, hB⟩
  · have hm := condF hb2 hm
    rewrite [hb2]
    refine wS_pure 5 [(14, .bool (decide (p1 ≥ (((l0).length : Int))))), (13, .bool (decide (p1 ≥ (((l0).length : Int))))), (12, .int .i64 (((l0).length : Int))), (11, .slice A0 (l0).length cap0), (10, .int .i64 (p1))] (by kernel_rfl) ?_
    refine wS_end (by rfl) ?_
    refine eX_then ?_
    refine cW_cond (t := decide (p1 ≥ (((l0).length : Int)))) (by kernel_rfl) (fun hb3 => ?_) (fun hb3 => ?_)
    · have hm := condT hb3 hm
      refine cW_seq ?_
      refine cW_region ?_
      refine wS_pure 1 [(6, .int .i64 (0))] (by kernel_rfl) ?_
      refine wS_end (by rfl) ?_
      refine eX_then ?_
      refine cW_ret ?_
      refine eX_then_ret ?_
      have hq : (some 0 : Option ((Int))) = some _ := hm
      replace hq := someE hq
      subst hq
      refine eX_ret (vs := [.int .i64 (0)]) [.tmp 6] (by rfl) ⟨by (show lkE _ _ _ = _); kernel_rfl, trivial⟩ ?_
      exact ⟨rfl, hB⟩
    · have hm := condF hb3 hm
      refine cW_skip ?_
      refine eX_then ?_
      refine cW_seq ?_
      refine cW_region ?_
      refine wS_pure 2 [(16, .int .i64 (p1)), (15, .slice A0 (l0).length cap0)] (by kernel_rfl) ?_
      obtain ⟨x4, hx5, hm⟩ := bindE hm
      refine wS_idx (d := 17) (T := 22) (A := A0) (n := (l0).length) (cap := cap0) (kd := .i64) (m := p1) (by kernel_rfl) sl22 (F0.is hx5) ?_
      refine wS_load1 (d := 18) (T := 5) (ad := (elA A0 1 (p1) 0)) (v := .int .u8 (x4)) (by kernel_rfl) vt5 (Sl.cell F0 hx5 0 (by rfl)) ?_
      refine wS_pure 2 [(20, .int .i64 (p2)), (19, .int .i64 (wr x4))] (by kernel_rfl) ?_
      obtain ⟨u6, hu7, hm⟩ := bindE hm
      refine wS_rem (d := 21) (x := wr x4) (y := p2) (by kernel_rfl) (nzE hu7) ?_
      refine wS_pure 1 [(6, .int .i64 (Int.tmod (wr x4) p2))] (by kernel_rfl) ?_
      refine wS_end (by rfl) ?_
      refine eX_then ?_
      refine cW_ret ?_
      have hq : (some (Int.tmod (wr x4) p2) : Option ((Int))) = some _ := hm
      replace hq := someE hq
      subst hq
      refine eX_ret (vs := [.int .i64 (Int.tmod (wr x4) p2)]) [.tmp 6] (by rfl) ⟨by (show lkE _ _ _ = _); kernel_rfl, trivial⟩ ?_
      exact ⟨rfl, hB⟩

set_option maxRecDepth 100000 in
/-- spec.l00From -/
theorem c_spec_l00From {w0 : World} {l0 : List (Int)} {A0 : Option Addr} {cap0 : Nat} {fp0 : List Nat} {r : (Int × Int)} (hm : m_spec_l00From l0 = some r) (F0 : Sl 1 encU w0 fp0 A0 l0) :
    Calls Try.prog 66 #[.slice A0 (l0).length cap0] w0 fun e w' => ∃ b100, e = .returned (.pointer (some ⟨b100, 0, none⟩)) ∧ Cl w' b100 147 [.slice A0 (l0).length cap0, .int .i64 (r.1), .int .u64 (r.2)] ∧ w0.heap.size ≤ b100 ∧ Chg [] w0 w' := by
  have L0 := F0.low
  have hB : Chg [] w0 w0 := Chg.refl _ _
  have hZ := Nat.le_refl w0.heap.size
  unfold m_spec_l00From at hm
  refine enterE (N := 6) Try.func66 (by rfl) Try.ntmps66 (by simp) [(0, .slice A0 (l0).length cap0)] (by rfl) (by kernel_rfl) (fun a => ?_)
  refine cW_seq ?_
  refine cW_region ?_
  refine wS_pure 1 [(2, .pointer none)] (by kernel_rfl) ?_
  refine wS_end (by rfl) ?_
  refine eX_then ?_
  refine cW_seq ?_
  refine cW_region ?_
  refine wS_pure 2 [(4, .agg #[.slice A0 (l0).length cap0, .int .i64 (0), .int .u64 (0)]), (3, .slice A0 (l0).length cap0)] (by kernel_rfl) ?_
  refine wS_box (d := 5) (T := 147) (x := .agg #[.slice A0 (l0).length cap0, .int .i64 (0), .int .u64 (0)]) (by kernel_rfl) ?_
  intro b2 w3 G4 F5 hc6
  replace F5 : Cl w3 b2 147 [.slice A0 (l0).length cap0, .int .i64 (0), .int .u64 (0)] := F5
  replace F0 := F0.chg hc6 Dj.nil
  replace hB := hB.inS hc6 inNil
  replace G4 := Nat.le_trans hZ G4
  replace hZ := Nat.le_trans hZ hc6.size
  refine wS_pure 1 [(2, .pointer (some ⟨b2, 0, none⟩))] (by kernel_rfl) ?_
  refine wS_end (by rfl) ?_
  refine eX_then ?_
  refine cW_ret ?_
  have hq : (some ((0, 0)) : Option ((Int × Int))) = some _ := hm
  replace hq := someE hq
  subst hq
  refine eX_ret (vs := [.pointer (some ⟨b2, 0, none⟩)]) [.tmp 2] (by rfl) ⟨by (show lkE _ _ _ = _); kernel_rfl, trivial⟩ ?_
  exact ⟨b2, rfl, F5, G4, hB⟩

set_option maxRecDepth 100000 in
/-- spec.l00Src).next -/
theorem c_spec_l00Src_next_bspecl00Src {w0 : World} {l0_0 : List (Int)} {A0_0 : Option Addr} {cap0_0 : Nat} {fp0_0 : List Nat} {q0_1 : Int} {q0_2 : Int} {b0 : Nat} {r : (Int) × (Int) × (Int)} (hm : m_spec_l00Src_next_bspecl00Src l0_0 q0_1 q0_2 = some r) (F0_0 : Sl 1 encU w0 fp0_0 A0_0 l0_0) (F0 : Cl w0 b0 147 [.slice A0_0 (l0_0).length cap0_0, .int .i64 (q0_1), .int .u64 (q0_2)]) (J0__0_0 : Dj [b0] fp0_0) :
    Calls Try.prog 132 #[.pointer (some ⟨b0, 0, none⟩)] w0 fun e w' => e = .returned (.int .i64 (r.1)) ∧ Cl w' b0 147 [.slice A0_0 (l0_0).length cap0_0, .int .i64 (r.2.1), .int .u64 (r.2.2)] ∧ Chg ([b0] ++ []) w0 w' := by
  have L0_0 := F0_0.low
  have L0 := lt1 F0.lt
  have hB : Chg ([b0] ++ []) w0 w0 := Chg.refl _ _
  have hZ := Nat.le_refl w0.heap.size
  unfold m_spec_l00Src_next_bspecl00Src at hm
  refine enterE (N := 62) Try.func132 (by rfl) Try.ntmps132 (by simp) [(0, .pointer (some ⟨b0, 0, none⟩))] (by rfl) (by kernel_rfl) (fun a => ?_)
  refine cW_seq ?_
  refine cW_region ?_
  refine wS_pure 1 [(2, .int .i64 (0))] (by kernel_rfl) ?_
  refine wS_end (by rfl) ?_
  refine eX_then ?_
  refine cW_seq ?_
  refine cW_region ?_
  refine wS_pure 1 [(3, .int .i64 (0))] (by kernel_rfl) ?_
  refine wS_end (by rfl) ?_
  refine eX_then ?_
  refine cW_seq ?_
  obtain ⟨s29, hs30, hm⟩ := bindE hm
  refine cW_cut (fun a' w' => ∃ x25 : Int, x25 = s29 ∧ Fr 62 [(0, .pointer (some ⟨b0, 0, none⟩)), (3, .int .i64 (x25))] a' ∧ Sl 1 encU w' fp0_0 A0_0 l0_0 ∧ Cl w' b0 147 [.slice A0_0 (l0_0).length cap0_0, .int .i64 (q0_1), .int .u64 (q0_2)] ∧ Chg ([b0] ++ []) w0 w' ∧ w0.heap.size ≤ w'.heap.size) ?_ ?_
  · have hm := hs30
    refine cW_seq ?_
    refine cW_drawnTail [] 9 (by kernel_rfl) (by kernel_rfl) (fun w35 hc36 => ?_)
    replace F0_0 := F0_0.chg hc36 Dj.nil
    replace F0 := F0.chg hc36 notNil
    replace hB := hB.inS hc36 inNil
    replace hZ := Nat.le_trans hZ hc36.size
    have hS := Chg.refl [] w35
    have Z37 := F0_0
    have Z38 := F0
    refine wH_take [0, 1, 2] [2, 1, 0] [(6, .pointer (some ⟨b0, 1, none⟩)), (5, .pointer (some ⟨b0, 0, none⟩)), (4, .pointer (some ⟨b0, 0, none⟩))] (by kernel_rfl) (qT (qT (qT (qT qZ)))) (by kernel_rfl) ?_
    refine wH_load1 (i := 3) (d := 7) (T := 3) (ad := ⟨b0, 1, none⟩) (v := .int .i64 (q0_1)) (by kernel_rfl) (qT (qT (qT (qT qZ)))) (by kernel_rfl) (by kernel_rfl) vt3 (fun W hW => (Z38.chg hW notNil).cell 1) ?_
    refine wH_take [4, 5, 6] [6, 5, 4, 3, 2, 1, 0] [(10, .pointer (some ⟨b0, 0, none⟩)), (9, .pointer (some ⟨b0, 0, none⟩)), (8, .pointer (some ⟨b0, 0, none⟩))] (by kernel_rfl) (qT (qT (qT (qT qZ)))) (by kernel_rfl) ?_
    refine wH_load1 (i := 7) (d := 11) (T := 22) (ad := ⟨b0, 0, none⟩) (v := .slice A0_0 (l0_0).length cap0_0) (by kernel_rfl) (qT (qT (qT (qT qZ)))) (by kernel_rfl) (by kernel_rfl) vt22 (fun W hW => (Z38.chg hW notNil).cell 0) ?_
    refine wH_take [8] [8, 7, 6, 5, 4, 3, 2, 1, 0] [(12, .int .i64 (((l0_0).length : Int)))] (by kernel_rfl) (qT (qT (qT (qT qZ)))) (by kernel_rfl) ?_
    refine wH_done (by kernel_rfl) ?_
    refine eX_tail ?_
    refine wS_pure 1 [(13, .bool (decide (q0_1 < (((l0_0).length : Int)))))] (by kernel_rfl) ?_
    refine wS_end (by rfl) ?_
    refine eX_then ?_
    refine cW_cond (t := decide (q0_1 < (((l0_0).length : Int)))) (by kernel_rfl) (fun hb39 => ?_) (fun hb39 => ?_)
    · have hm := condT hb39 hm
      refine cW_drawnTail [] 8 (by kernel_rfl) (by kernel_rfl) (fun w46 hc47 => ?_)
      replace F0_0 := F0_0.chg hc47 Dj.nil
      replace F0 := F0.chg hc47 notNil
      replace hB := hB.inS hc47 inNil
      replace hZ := Nat.le_trans hZ hc47.size
      have hS := Chg.refl [] w46
      have Z48 := F0_0
      have Z49 := F0
      refine wH_take [0, 1, 2] [2, 1, 0] [(16, .pointer (some ⟨b0, 0, none⟩)), (15, .pointer (some ⟨b0, 0, none⟩)), (14, .pointer (some ⟨b0, 0, none⟩))] (by kernel_rfl) (qT (qT (qT qZ))) (by kernel_rfl) ?_
      refine wH_load1 (i := 3) (d := 17) (T := 22) (ad := ⟨b0, 0, none⟩) (v := .slice A0_0 (l0_0).length cap0_0) (by kernel_rfl) (qT (qT (qT qZ))) (by kernel_rfl) (by kernel_rfl) vt22 (fun W hW => (Z49.chg hW notNil).cell 0) ?_
      refine wH_take [4, 5, 6] [6, 5, 4, 3, 2, 1, 0] [(20, .pointer (some ⟨b0, 1, none⟩)), (19, .pointer (some ⟨b0, 0, none⟩)), (18, .pointer (some ⟨b0, 0, none⟩))] (by kernel_rfl) (qT (qT (qT qZ))) (by kernel_rfl) ?_
      refine wH_load1 (i := 7) (d := 21) (T := 3) (ad := ⟨b0, 1, none⟩) (v := .int .i64 (q0_1)) (by kernel_rfl) (qT (qT (qT qZ))) (by kernel_rfl) (by kernel_rfl) vt3 (fun W hW => (Z49.chg hW notNil).cell 1) ?_
      refine wH_done (by kernel_rfl) ?_
      refine eX_tail ?_
      obtain ⟨x50, hx51, hm⟩ := bindE hm
      refine wS_idx (d := 22) (T := 22) (A := A0_0) (n := (l0_0).length) (cap := cap0_0) (kd := .i64) (m := q0_1) (by kernel_rfl) sl22 (F0_0.is hx51) ?_
      refine wS_load1 (d := 23) (T := 5) (ad := (elA A0_0 1 (q0_1) 0)) (v := .int .u8 (x50)) (by kernel_rfl) vt5 (Sl.cell F0_0 hx51 0 (by rfl)) ?_
      refine wS_pure 2 [(3, .int .i64 (wr x50)), (24, .int .i64 (wr x50))] (by kernel_rfl) ?_
      refine wS_end (by rfl) ?_
      have hq : (some (wr x50) : Option (Int)) = some _ := hm
      replace hq := someE hq
      subst hq
      exact eX_J (fun hst => ⟨wr x50, rfl, Fr.of hst (by kernel_rfl), F0_0, F0, hB, hZ⟩)
    · have hm := condF hb39 hm
      refine cW_skip ?_
      have hq : (some 0 : Option (Int)) = some _ := hm
      replace hq := someE hq
      subst hq
      exact eX_J (fun hst => ⟨0, rfl, Fr.of hst (by kernel_rfl), F0_0, F0, hB, hZ⟩)
  · rintro a' w24 ⟨x25, hJ, hF26, F27, F28, hB, hZ⟩
    subst hJ
    refine Fr.goX hF26 (by kernel_rfl) ?_
    refine eX_then ?_
    refine cW_seq ?_
    refine cW_region ?_
    refine wS_pure 3 [(27, .pointer (some ⟨b0, 1, none⟩)), (26, .pointer (some ⟨b0, 0, none⟩)), (25, .pointer (some ⟨b0, 0, none⟩))] (by kernel_rfl) ?_
    refine wS_load1 (d := 28) (T := 3) (ad := ⟨b0, 1, none⟩) (v := .int .i64 (q0_1)) (by kernel_rfl) vt3 ((F28).cell 1) ?_
    refine wS_pure 3 [(31, .pointer (some ⟨b0, 1, none⟩)), (30, .pointer (some ⟨b0, 0, none⟩)), (29, .int .i64 (wr (q0_1 + 1)))] (by kernel_rfl) ?_
    refine wS_store (T := 3) (g := b0) (o := 1) (ad := ⟨b0, 1, none⟩) (v := .int .i64 (wr (q0_1 + 1))) (vs := [.int .i64 (wr (q0_1 + 1))]) (by kernel_rfl) (by rfl) sz3 (by rfl) (by rfl) F28 (by simp only [List.length_cons, List.length_nil]; omega) ?_
    intro w52 F53 hc54
    replace F27 := F27.chg hc54 (J0__0_0).symm
    replace hB := hB.inS hc54 (inMem (fun x hx => (List.mem_append_left _ hx)))
    replace hZ := Nat.le_trans hZ hc54.size
    replace F53 : Cl w52 b0 147 [.slice A0_0 (l0_0).length cap0_0, .int .i64 (wr (q0_1 + 1)), .int .u64 (q0_2)] := F53
    clear F28
    refine wS_end (by rfl) ?_
    refine eX_then ?_
    refine cW_seq ?_
    refine cW_region ?_
    refine wS_pure 4 [(35, .pointer (some ⟨b0, 2, none⟩)), (34, .pointer (some ⟨b0, 0, none⟩)), (33, .pointer (some ⟨b0, 0, none⟩)), (32, .pointer (some ⟨b0, 0, none⟩))] (by kernel_rfl) ?_
    refine wS_load1 (d := 36) (T := 145) (ad := ⟨b0, 2, none⟩) (v := .int .u64 (q0_2)) (by kernel_rfl) vt145 ((F53).cell 2) ?_
    refine wS_pure 7 [(43, .pointer (some ⟨b0, 2, none⟩)), (42, .pointer (some ⟨b0, 0, none⟩)), (41, .int .u64 (wu ((wu ((wu (q0_2 * 6364136223846793005)) + (wu x25))) + 1442695040888963407))), (40, .int .u64 (wu ((wu (q0_2 * 6364136223846793005)) + (wu x25)))), (39, .int .u64 (wu x25)), (38, .int .i64 (x25)), (37, .int .u64 (wu (q0_2 * 6364136223846793005)))] (by kernel_rfl) ?_
    refine wS_store (T := 145) (g := b0) (o := 2) (ad := ⟨b0, 2, none⟩) (v := .int .u64 (wu ((wu ((wu (q0_2 * 6364136223846793005)) + (wu x25))) + 1442695040888963407))) (vs := [.int .u64 (wu ((wu ((wu (q0_2 * 6364136223846793005)) + (wu x25))) + 1442695040888963407))]) (by kernel_rfl) (by rfl) sz145 (by rfl) (by rfl) F53 (by simp only [List.length_cons, List.length_nil]; omega) ?_
    intro w55 F56 hc57
    replace F27 := F27.chg hc57 (J0__0_0).symm
    replace hB := hB.inS hc57 (inMem (fun x hx => (List.mem_append_left _ hx)))
    replace hZ := Nat.le_trans hZ hc57.size
    replace F56 : Cl w55 b0 147 [.slice A0_0 (l0_0).length cap0_0, .int .i64 (wr (q0_1 + 1)), .int .u64 (wu ((wu ((wu (q0_2 * 6364136223846793005)) + (wu x25))) + 1442695040888963407))] := F56
    clear F53
    refine wS_end (by rfl) ?_
    refine eX_then ?_
    refine cW_seq ?_
    refine cW_seq ?_
    refine cW_drawnTail [] 9 (by kernel_rfl) (by kernel_rfl) (fun w62 hc63 => ?_)
    replace F27 := F27.chg hc63 Dj.nil
    replace F56 := F56.chg hc63 notNil
    replace hB := hB.inS hc63 inNil
    replace hZ := Nat.le_trans hZ hc63.size
    have hS := Chg.refl [] w62
    have Z64 := F27
    have Z65 := F56
    refine wH_take [0, 1, 2] [2, 1, 0] [(46, .pointer (some ⟨b0, 1, none⟩)), (45, .pointer (some ⟨b0, 0, none⟩)), (44, .pointer (some ⟨b0, 0, none⟩))] (by kernel_rfl) (qT (qT (qT qZ))) (by kernel_rfl) ?_
    refine wH_load1 (i := 3) (d := 47) (T := 3) (ad := ⟨b0, 1, none⟩) (v := .int .i64 (wr (q0_1 + 1))) (by kernel_rfl) (qT (qT (qT qZ))) (by kernel_rfl) (by kernel_rfl) vt3 (fun W hW => (Z65.chg hW notNil).cell 1) ?_
    refine wH_take [4, 5, 6] [6, 5, 4, 3, 2, 1, 0] [(50, .pointer (some ⟨b0, 0, none⟩)), (49, .pointer (some ⟨b0, 0, none⟩)), (48, .pointer (some ⟨b0, 0, none⟩))] (by kernel_rfl) (qT (qT (qT qZ))) (by kernel_rfl) ?_
    refine wH_load1 (i := 7) (d := 51) (T := 22) (ad := ⟨b0, 0, none⟩) (v := .slice A0_0 (l0_0).length cap0_0) (by kernel_rfl) (qT (qT (qT qZ))) (by kernel_rfl) (by kernel_rfl) vt22 (fun W hW => (Z65.chg hW notNil).cell 0) ?_
    refine wH_take [8] [8, 7, 6, 5, 4, 3, 2, 1, 0] [(52, .int .i64 (((l0_0).length : Int)))] (by kernel_rfl) (qT (qT (qT qZ))) (by kernel_rfl) ?_
    refine wH_done (by kernel_rfl) ?_
    refine eX_tail ?_
    refine wS_pure 1 [(53, .bool (decide ((wr (q0_1 + 1)) ≤ (((l0_0).length : Int)))))] (by kernel_rfl) ?_
    refine wS_end (by rfl) ?_
    refine eX_then ?_
    refine cW_prune [(0, .pointer (some ⟨b0, 0, none⟩)), (3, .int .i64 (x25)), (53, .bool (decide ((wr (q0_1 + 1)) ≤ (((l0_0).length : Int)))))] (by kernel_rfl) (by kernel_rfl) (fun a66 => ?_)
    refine cW_cond (t := decide ((wr (q0_1 + 1)) ≤ (((l0_0).length : Int)))) (by kernel_rfl) (fun hb67 => ?_) (fun hb67 => ?_)
    · have hm := condT hb67 hm
      refine cW_seq ?_
      refine cW_region ?_
      refine wS_pure 2 [(2, .int .i64 (x25)), (54, .int .i64 (x25))] (by kernel_rfl) ?_
      refine wS_end (by rfl) ?_
      refine eX_then ?_
      refine cW_ret ?_
      refine eX_then_ret ?_
      have hq : (some ((x25, wr (q0_1 + 1), wu ((wu ((wu (q0_2 * 6364136223846793005)) + (wu x25))) + 1442695040888963407))) : Option ((Int) × (Int) × (Int))) = some _ := hm
      replace hq := someE hq
      subst hq
      refine eX_ret (vs := [.int .i64 (x25)]) [.tmp 2] (by rfl) ⟨by (show lkE _ _ _ = _); kernel_rfl, trivial⟩ ?_
      exact ⟨rfl, F56, hB⟩
    · have hm := condF hb67 hm
      refine cW_skip ?_
      refine eX_then ?_
      refine cW_seq ?_
      refine cW_region ?_
      refine wS_pure 3 [(57, .pointer (some ⟨b0, 2, none⟩)), (56, .pointer (some ⟨b0, 0, none⟩)), (55, .pointer (some ⟨b0, 0, none⟩))] (by kernel_rfl) ?_
      refine wS_load1 (d := 58) (T := 145) (ad := ⟨b0, 2, none⟩) (v := .int .u64 (wu ((wu ((wu (q0_2 * 6364136223846793005)) + (wu x25))) + 1442695040888963407))) (by kernel_rfl) vt145 ((F56).cell 2) ?_
      refine wS_pure 4 [(2, .int .i64 (wr (andU (shrU (wu ((wu ((wu (q0_2 * 6364136223846793005)) + (wu x25))) + 1442695040888963407)) 40) 255))), (61, .int .i64 (wr (andU (shrU (wu ((wu ((wu (q0_2 * 6364136223846793005)) + (wu x25))) + 1442695040888963407)) 40) 255))), (60, .int .u64 (andU (shrU (wu ((wu ((wu (q0_2 * 6364136223846793005)) + (wu x25))) + 1442695040888963407)) 40) 255)), (59, .int .u64 (shrU (wu ((wu ((wu (q0_2 * 6364136223846793005)) + (wu x25))) + 1442695040888963407)) 40))] (by kernel_rfl) ?_
      refine wS_end (by rfl) ?_
      refine eX_then ?_
      refine cW_ret ?_
      have hq : (some ((wr (andU (shrU (wu ((wu ((wu (q0_2 * 6364136223846793005)) + (wu x25))) + 1442695040888963407)) 40) 255), wr (q0_1 + 1), wu ((wu ((wu (q0_2 * 6364136223846793005)) + (wu x25))) + 1442695040888963407))) : Option ((Int) × (Int) × (Int))) = some _ := hm
      replace hq := someE hq
      subst hq
      refine eX_ret (vs := [.int .i64 (wr (andU (shrU (wu ((wu ((wu (q0_2 * 6364136223846793005)) + (wu x25))) + 1442695040888963407)) 40) 255))]) [.tmp 2] (by rfl) ⟨by (show lkE _ _ _ = _); kernel_rfl, trivial⟩ ?_
      exact ⟨rfl, F56, hB⟩

set_option maxRecDepth 100000 in
/-- spec.l00Src).pick -/
theorem c_spec_l00Src_pick_bspecl00Src {w0 : World} {l0_0 : List (Int)} {A0_0 : Option Addr} {cap0_0 : Nat} {fp0_0 : List Nat} {q0_1 : Int} {q0_2 : Int} {b0 : Nat} {p1 : Int} {r : (Int) × (Int) × (Int)} (hm : m_spec_l00Src_pick_bspecl00Src l0_0 q0_1 q0_2 p1 = some r) (F0_0 : Sl 1 encU w0 fp0_0 A0_0 l0_0) (F0 : Cl w0 b0 147 [.slice A0_0 (l0_0).length cap0_0, .int .i64 (q0_1), .int .u64 (q0_2)]) (J0__0_0 : Dj [b0] fp0_0) :
    Calls Try.prog 67 #[.pointer (some ⟨b0, 0, none⟩), .int .i64 (p1)] w0 fun e w' => e = .returned (.int .i64 (r.1)) ∧ Cl w' b0 147 [.slice A0_0 (l0_0).length cap0_0, .int .i64 (r.2.1), .int .u64 (r.2.2)] ∧ Chg ([b0] ++ []) w0 w' := by
  have L0_0 := F0_0.low
  have L0 := lt1 F0.lt
  have hB : Chg ([b0] ++ []) w0 w0 := Chg.refl _ _
  have hZ := Nat.le_refl w0.heap.size
  unfold m_spec_l00Src_pick_bspecl00Src at hm
  refine enterE (N := 20) Try.func67 (by rfl) Try.ntmps67 (by simp) [(0, .pointer (some ⟨b0, 0, none⟩)), (1, .int .i64 (p1))] (by rfl) (by kernel_rfl) (fun a => ?_)
  refine cW_seq ?_
  refine cW_region ?_
  refine wS_pure 1 [(4, .int .i64 (0))] (by kernel_rfl) ?_
  refine wS_end (by rfl) ?_
  refine eX_then ?_
  refine cW_seq ?_
  refine cW_seq ?_
  refine cW_region ?_
  refine wS_pure 2 [(7, .bool (decide (p1 ≤ 1))), (6, .int .i64 (p1))] (by kernel_rfl) ?_
  refine wS_end (by rfl) ?_
  refine eX_then ?_
  refine cW_cond (t := decide (p1 ≤ 1)) (by kernel_rfl) (fun hb3 => ?_) (fun hb3 => ?_)
  · have hm := condT hb3 hm
    refine cW_seq ?_
    refine cW_region ?_
    refine wS_pure 1 [(4, .int .i64 (0))] (by kernel_rfl) ?_
    refine wS_end (by rfl) ?_
    refine eX_then ?_
    refine cW_ret ?_
    refine eX_then_ret ?_
    have hq : (some ((0, q0_1, q0_2)) : Option ((Int) × (Int) × (Int))) = some _ := hm
    replace hq := someE hq
    subst hq
    refine eX_ret (vs := [.int .i64 (0)]) [.tmp 4] (by rfl) ⟨by (show lkE _ _ _ = _); kernel_rfl, trivial⟩ ?_
    exact ⟨rfl, F0, hB⟩
  · have hm := condF hb3 hm
    refine cW_skip ?_
    refine eX_then ?_
    refine cW_seq ?_
    refine cW_region ?_
    refine wS_pure 1 [(8, .pointer (some ⟨b0, 0, none⟩))] (by kernel_rfl) ?_
    obtain ⟨y4, hy5, hm⟩ := bindE hm
    refine wS_calls (d := 9) (f := 132) (vs := [.pointer (some ⟨b0, 0, none⟩)]) (by kernel_rfl) ent132 (c_spec_l00Src_next_bspecl00Src hy5 F0_0 F0 J0__0_0) ?_
    rintro _ w6 ⟨rfl, F8, hc7⟩
    replace F0_0 := F0_0.chg hc7 (Dj.app (J0__0_0).symm Dj.nil)
    replace hB := hB.inS hc7 (inApp (inMem (fun x hx => (List.mem_append_left _ hx))) inNil)
    replace hZ := Nat.le_trans hZ hc7.size
    clear F0
    refine ⟨.int .i64 (y4.1), rfl, ?_⟩
    refine wS_pure 1 [(5, .int .i64 (y4.1))] (by kernel_rfl) ?_
    refine wS_end (by rfl) ?_
    refine eX_then ?_
    refine cW_seq ?_
    obtain ⟨s22, hs23, hm⟩ := bindE hm
    refine cW_cut (fun a' w' => ∃ x16 : Int, ∃ x17 : Int, ∃ x18 : Int, (x16, x17, x18) = s22 ∧ Fr 20 [(1, .int .i64 (p1)), (5, .int .i64 (x16))] a' ∧ Sl 1 encU w' fp0_0 A0_0 l0_0 ∧ Cl w' b0 147 [.slice A0_0 (l0_0).length cap0_0, .int .i64 (x17), .int .u64 (x18)] ∧ Chg ([b0] ++ []) w0 w' ∧ w0.heap.size ≤ w'.heap.size) ?_ ?_
    · have hm := hs23
      refine cW_seq ?_
      refine cW_region ?_
      refine wS_pure 2 [(11, .bool (decide (p1 > 200))), (10, .int .i64 (p1))] (by kernel_rfl) ?_
      refine wS_end (by rfl) ?_
      refine eX_then ?_
      refine cW_cond (t := decide (p1 > 200)) (by kernel_rfl) (fun hb24 => ?_) (fun hb24 => ?_)
      · have hm := condT hb24 hm
        refine cW_region ?_
        refine wS_pure 3 [(14, .pointer (some ⟨b0, 0, none⟩)), (13, .int .i64 (wr (y4.1 * 256))), (12, .int .i64 (y4.1))] (by kernel_rfl) ?_
        obtain ⟨y25, hy26, hm⟩ := bindE hm
        refine wS_calls (d := 15) (f := 132) (vs := [.pointer (some ⟨b0, 0, none⟩)]) (by kernel_rfl) ent132 (c_spec_l00Src_next_bspecl00Src hy26 F0_0 F8 J0__0_0) ?_
        rintro _ w27 ⟨rfl, F29, hc28⟩
        replace F0_0 := F0_0.chg hc28 (Dj.app (J0__0_0).symm Dj.nil)
        replace hB := hB.inS hc28 (inApp (inMem (fun x hx => (List.mem_append_left _ hx))) inNil)
        replace hZ := Nat.le_trans hZ hc28.size
        clear F8
        refine ⟨.int .i64 (y25.1), rfl, ?_⟩
        refine wS_pure 2 [(5, .int .i64 (wr ((wr (y4.1 * 256)) + y25.1))), (16, .int .i64 (wr ((wr (y4.1 * 256)) + y25.1)))] (by kernel_rfl) ?_
        refine wS_end (by rfl) ?_
        have hq : (some ((wr ((wr (y4.1 * 256)) + y25.1), y25.2.1, y25.2.2)) : Option (Int × Int × Int)) = some _ := hm
        replace hq := someE hq
        subst hq
        exact eX_J (fun hst => ⟨wr ((wr (y4.1 * 256)) + y25.1), y25.2.1, y25.2.2, rfl, Fr.of hst (by kernel_rfl), F0_0, F29, hB, hZ⟩)
      · have hm := condF hb24 hm
        refine cW_skip ?_
        have hq : (some ((y4.1, y4.2.1, y4.2.2)) : Option (Int × Int × Int)) = some _ := hm
        replace hq := someE hq
        subst hq
        exact eX_J (fun hst => ⟨y4.1, y4.2.1, y4.2.2, rfl, Fr.of hst (by kernel_rfl), F0_0, F8, hB, hZ⟩)
    · rintro a' w15 ⟨x16, x17, x18, hJ, hF19, F20, F21, hB, hZ⟩
      subst hJ
      refine Fr.goX hF19 (by kernel_rfl) ?_
      refine eX_then ?_
      refine cW_seq ?_
      refine cW_region ?_
      refine wS_pure 2 [(18, .int .i64 (p1)), (17, .int .i64 (x16))] (by kernel_rfl) ?_
      obtain ⟨u30, hu31, hm⟩ := bindE hm
      refine wS_rem (d := 19) (x := x16) (y := p1) (by kernel_rfl) (nzE hu31) ?_
      refine wS_pure 1 [(4, .int .i64 (Int.tmod x16 p1))] (by kernel_rfl) ?_
      refine wS_end (by rfl) ?_
      refine eX_then ?_
      refine cW_ret ?_
      have hq : (some ((Int.tmod x16 p1, x17, x18)) : Option ((Int) × (Int) × (Int))) = some _ := hm
      replace hq := someE hq
      subst hq
      refine eX_ret (vs := [.int .i64 (Int.tmod x16 p1)]) [.tmp 4] (by rfl) ⟨by (show lkE _ _ _ = _); kernel_rfl, trivial⟩ ?_
      exact ⟨rfl, F21, hB⟩

set_option maxRecDepth 100000 in
/-- spec.R8Row -/
theorem c_spec_R8Row {w0 : World} {l0 : List (Int)} {A0 : Option Addr} {cap0 : Nat} {fp0 : List Nat} {p1 : Int} {r : (List (Int))} (hm : m_spec_R8Row l0 p1 = some r) (F0 : Sl 1 encU w0 fp0 A0 l0) :
    Calls Try.prog 13 #[.slice A0 (l0).length cap0, .int .i64 (p1)] w0 fun e w' => ∃ A100 cap100 fp100, e = .returned (.slice A100 (r).length cap100) ∧ Ow 1 encI 2 w' fp100 A100 cap100 r ∧ (∀ x ∈ fp100, w0.heap.size ≤ x) ∧ Chg [] w0 w' := by
  have L0 := F0.low
  have hB : Chg [] w0 w0 := Chg.refl _ _
  have hZ := Nat.le_refl w0.heap.size
  unfold m_spec_R8Row at hm
  refine enterE (N := 29) Try.func13 (by rfl) Try.ntmps13 (by simp) [(0, .slice A0 (l0).length cap0), (1, .int .i64 (p1))] (by rfl) (by kernel_rfl) (fun a => ?_)
  refine cW_seq ?_
  refine cW_region ?_
  refine wS_pure 1 [(4, .slice none 0 0)] (by kernel_rfl) ?_
  refine wS_end (by rfl) ?_
  refine eX_then ?_
  refine cW_seq ?_
  refine cW_region ?_
  refine wS_pure 1 [(9, .slice A0 (l0).length cap0)] (by kernel_rfl) ?_
  obtain ⟨y2, hy3, hm⟩ := bindE hm
  refine wS_calls (d := 10) (f := 66) (vs := [.slice A0 (l0).length cap0]) (by kernel_rfl) ent66 (c_spec_l00From hy3 F0) ?_
  rintro _ w4 ⟨b6, rfl, F7, G8, hc5⟩
  replace F0 := F0.chg hc5 Dj.nil
  replace hB := hB.inS hc5 inNil
  replace G8 := Nat.le_trans hZ G8
  replace hZ := Nat.le_trans hZ hc5.size
  refine ⟨.pointer (some ⟨b6, 0, none⟩), rfl, ?_⟩
  refine wS_pure 1 [(5, .pointer (some ⟨b6, 0, none⟩))] (by kernel_rfl) ?_
  refine wS_end (by rfl) ?_
  refine eX_then ?_
  refine cW_seq ?_
  refine cW_region ?_
  refine wS_bs0 (α := Int) (enc := encI) (d := 11) (t := 25) (T := 2) (by kernel_rfl) el25 ?_
  intro b10 w11 G12 F13 hc14
  have D16 : Dj [b6] [b10] := Dj.of (lt1 F7.lt) (low1 G12)
  replace F0 := F0.chg hc14 Dj.nil
  replace F7 := F7.chg hc14 notNil
  replace hB := hB.inS hc14 inNil
  replace G12 := Nat.le_trans hZ G12
  replace G12 := low1 G12
  replace hZ := Nat.le_trans hZ hc14.size
  refine wS_pure 1 [(6, .slice (some ⟨b10, 0, none⟩) (([] : List (Int))).length 0)] (by kernel_rfl) ?_
  refine wS_end (by rfl) ?_
  refine eX_then ?_
  refine cW_seq ?_
  refine cW_region ?_
  refine wS_pure 1 [(12, .pointer (some ⟨b6, 0, none⟩))] (by kernel_rfl) ?_
  obtain ⟨y17, hy18, hm⟩ := bindE hm
  refine wS_calls (d := 13) (f := 67) (vs := [.pointer (some ⟨b6, 0, none⟩), .int .i64 (5)]) (by kernel_rfl) ent67 (c_spec_l00Src_pick_bspecl00Src hy18 F0 F7 (Dj.of L0 (low1 G8)).symm) ?_
  rintro _ w19 ⟨rfl, F21, hc20⟩
  replace F0 := F0.chg hc20 (Dj.app (Dj.of L0 (low1 G8)) Dj.nil)
  replace F13 := F13.chg hc20 (Dj.app (D16).symm Dj.nil)
  replace hB := hB.inS hc20 (inApp (inLow (low1 G8)) inNil)
  replace hZ := Nat.le_trans hZ hc20.size
  clear F7
  refine ⟨.int .i64 (y17.1), rfl, ?_⟩
  refine wS_pure 1 [(7, .int .i64 (y17.1))] (by kernel_rfl) ?_
  refine wS_end (by rfl) ?_
  refine eX_then ?_
  refine cW_seq ?_
  refine cW_seq ?_
  refine cW_region ?_
  refine wS_pure 1 [(8, .int .i64 (0))] (by kernel_rfl) ?_
  refine wS_end (by rfl) ?_
  refine eX_then ?_
  obtain ⟨r118, hr119, hm⟩ := bindE hm
  have hm120 := hm
  refine cW_cut (fun a' w' => ∃ l94 : List (Int), ∃ A95 : Option Addr, ∃ cap96 : Nat, ∃ fp97 : List Nat, l94 = r118 ∧ Fr 29 [(6, .slice A95 (l94).length cap96)] a' ∧ Ow 1 encI 2 w' fp97 A95 cap96 l94 ∧ (∀ x ∈ fp97, w0.heap.size ≤ x) ∧ Chg [] w0 w' ∧ w0.heap.size ≤ w'.heap.size) ?_ ?_
  · refine cW_block ?_
    refine cW_loop _ (fun (s121 : (List (Int)) × Int × Int × Int × Int) a' w' => ∃ l103 : List (Int), ∃ A104 : Option Addr, ∃ cap105 : Nat, ∃ fp106 : List Nat, ∃ x108 : Int, ∃ x109 : Int, ∃ x110 : Int, ∃ x111 : Int, (l103, x108, x109, x110, x111) = s121 ∧ Fr 29 [(1, .int .i64 (p1)), (5, .pointer (some ⟨b6, 0, none⟩)), (6, .slice A104 (l103).length cap105), (7, .int .i64 (x108)), (8, .int .i64 (x109))] a' ∧ Sl 1 encU w' fp0 A0 l0 ∧ Cl w' b6 147 [.slice A0 (l0).length cap0, .int .i64 (x110), .int .u64 (x111)] ∧ Ow 1 encI 2 w' fp106 A104 cap105 l103 ∧ (∀ x ∈ fp106, w0.heap.size ≤ x) ∧ Dj [b6] fp106 ∧ Chg [] w0 w' ∧ w0.heap.size ≤ w'.heap.size) hr119 (fun hst => ⟨([] : List (Int)), (some ⟨b10, 0, none⟩), 0, [b10], y17.1, 0, y17.2.1, y17.2.2, rfl, Fr.of hst (by kernel_rfl), F0, F21, F13, G12, D16, hB, hZ⟩) ?_
    rintro _ c122 a' w102 ⟨l103, A104, cap105, fp106, x108, x109, x110, x111, rfl, hF112, F113, F114, F115, G116, D117, hB, hZ⟩ hx123
    refine Fr.goOn hF112 (by kernel_rfl) ?_
    have hm := hx123
    unfold m_spec_R8Row_s1 at hm
    refine cW_seq ?_
    refine cW_seq ?_
    refine cW_region ?_
    refine wS_pure 3 [(16, .bool (decide (x109 < p1))), (15, .int .i64 (p1)), (14, .int .i64 (x109))] (by kernel_rfl) ?_
    refine wS_end (by rfl) ?_
    refine eX_then ?_
    refine cW_cond (t := decide (x109 < p1)) (by kernel_rfl) (fun hb124 => ?_) (fun hb124 => ?_)
    · have hm := condT hb124 hm
      refine cW_skip ?_
      refine eX_then ?_
      refine cW_seq ?_
      refine cW_block ?_
      refine cW_seq ?_
      refine cW_region ?_
      refine wS_pure 2 [(20, .int .i64 (x108)), (19, .slice A104 (l103).length cap105)] (by kernel_rfl) ?_
      refine wS_bs (enc := encI) ([x108] : List (Int)) [.int .i64 (x108)] (d := 21) (t := 25) (T := 2) (n := 1) (ps := [(0, .int .i64 (x108))]) (by kernel_rfl) el25 encI_ok (by rfl) (by omega) (by omega) (by kernel_rfl) (by rfl) ?_
      intro b125 w126 G127 F128 hc129
      have D131 : Dj [b6] [b125] := Dj.of (lt1 F114.lt) (low1 G127)
      have D132 : Dj fp106 [b125] := Dj.of F115.low (low1 G127)
      replace F113 := F113.chg hc129 Dj.nil
      replace F114 := F114.chg hc129 notNil
      replace F115 := F115.chg hc129 Dj.nil
      replace hB := hB.inS hc129 inNil
      replace G127 := Nat.le_trans hZ G127
      replace G127 := low1 G127
      replace hZ := Nat.le_trans hZ hc129.size
      obtain ⟨_, hk133, hm⟩ := bindE hm
      replace hk133 := apE hk133
      refine wS_append (enc := encI) (l := (l103 : List (Int))) (l2 := (([x108] : List (Int)) : List (Int))) (d := 22) (t := 25) (T := 2) (A := A104) (A2 := (some ⟨b125, 0, none⟩)) (cap := cap105) (cap2 := 1) (by kernel_rfl) el25 encI_ok F115 (F128.sl encI_ok) (by rfl) hk133 ?_
      intro w134 fp135 A136 cap137 F138 hc139 hp140
      have G142 := low_ap G116 hZ hp140
      have D143 : Dj [b6] fp135 := Dj.ap D117 (lt1 F114.lt) hp140
      have D144 : Dj [b125] fp135 := Dj.ap (D132).symm F128.low hp140
      replace F113 := F113.chg hc139 (Dj.of L0 G116)
      replace F114 := F114.chg hc139 (dj1 D117)
      replace F128 := F128.chg hc139 (D132).symm
      replace hB := hB.inS hc139 (inLow G116)
      replace hZ := Nat.le_trans hZ hc139.size
      refine wS_pure 1 [(6, .slice A136 (l103 ++ (([x108] : List (Int)))).length cap137)] (by kernel_rfl) ?_
      refine wS_end (by rfl) ?_
      refine eX_then ?_
      refine cW_region ?_
      refine wS_pure 2 [(24, .pointer (some ⟨b6, 0, none⟩)), (23, .int .i64 (x108))] (by kernel_rfl) ?_
      obtain ⟨y145, hy146, hm⟩ := bindE hm
      refine wS_calls (d := 25) (f := 67) (vs := [.pointer (some ⟨b6, 0, none⟩), .int .i64 (4)]) (by kernel_rfl) ent67 (c_spec_l00Src_pick_bspecl00Src hy146 F113 F114 (Dj.of L0 (low1 G8)).symm) ?_
      rintro _ w147 ⟨rfl, F149, hc148⟩
      replace F113 := F113.chg hc148 (Dj.app (Dj.of L0 (low1 G8)) Dj.nil)
      replace F128 := F128.chg hc148 (Dj.app (D131).symm Dj.nil)
      replace F138 := F138.chg hc148 (Dj.app (D143).symm Dj.nil)
      replace hB := hB.inS hc148 (inApp (inLow (low1 G8)) inNil)
      replace hZ := Nat.le_trans hZ hc148.size
      clear F114
      refine ⟨.int .i64 (y145.1), rfl, ?_⟩
      refine wS_pure 3 [(7, .int .i64 (wr (x108 + (wr (1 + y145.1))))), (27, .int .i64 (wr (x108 + (wr (1 + y145.1))))), (26, .int .i64 (wr (1 + y145.1)))] (by kernel_rfl) ?_
      refine wS_end (by rfl) ?_
      refine eX_block ?_
      refine eX_then ?_
      refine cW_region ?_
      refine wS_pure 3 [(8, .int .i64 (wr (x109 + 1))), (18, .int .i64 (wr (x109 + 1))), (17, .int .i64 (x109))] (by kernel_rfl) ?_
      refine wS_end (by rfl) ?_
      have hq : (some (Ctl.next ((l103 ++ (([x108] : List (Int))), wr (x108 + (wr (1 + y145.1))), wr (x109 + 1), y145.2.1, y145.2.2))) : Option (Ctl ((List (Int)) × Int × Int × Int × Int) ((List (Int))))) = some _ := hm
      replace hq := someE hq
      subst hq
      exact eX_next hx123 (fun hst => ⟨l103 ++ (([x108] : List (Int))), A136, cap137, fp135, wr (x108 + (wr (1 + y145.1))), wr (x109 + 1), y145.2.1, y145.2.2, rfl, Fr.of hst (by kernel_rfl), F113, F149, F138, G142, D143, hB, hZ⟩)
    · have hm := condF hb124 hm
      refine cW_exit ?_
      refine eX_then_exit ?_
      have hq : (some (Ctl.out l103) : Option (Ctl ((List (Int)) × Int × Int × Int × Int) ((List (Int))))) = some _ := hm
      replace hq := someE hq
      subst hq
      refine eX_outX hx123 (fun hr150 => ?_)
      replace hr150 := hr150.symm
      subst hr150
      refine eX_block_hit ?_
      exact eX_J (fun hst => ⟨l103, A104, cap105, fp106, rfl, Fr.of hst (by kernel_rfl), F115, G116, hB, hZ⟩)
  · rintro a' w93 ⟨l94, A95, cap96, fp97, hJ, hF99, F100, G101, hB, hZ⟩
    subst hJ
    refine Fr.goX hF99 (by kernel_rfl) ?_
    refine eX_then ?_
    refine cW_seq ?_
    refine cW_region ?_
    refine wS_pure 2 [(4, .slice A95 (l94).length cap96), (28, .slice A95 (l94).length cap96)] (by kernel_rfl) ?_
    refine wS_end (by rfl) ?_
    refine eX_then ?_
    refine cW_ret ?_
    have hq : (some l94 : Option ((List (Int)))) = some _ := hm
    replace hq := someE hq
    subst hq
    refine eX_ret (vs := [.slice A95 (l94).length cap96]) [.tmp 4] (by rfl) ⟨by (show lkE _ _ _ = _); kernel_rfl, trivial⟩ ?_
    exact ⟨A95, cap96, fp97, rfl, F100, G101, hB⟩

set_option maxRecDepth 100000 in
/-- impl.in -/
theorem c_impl_in {w0 : World} {p0 : Int} {p1 : Int} {p2 : Int} {r : (Bool)} (hm : m_impl_in p0 p1 p2 = some r)  :
    Calls Try.prog 71 #[.int .i64 (p0), .int .i64 (p1), .int .i64 (p2)] w0 fun e w' => e = .returned (.bool (r)) ∧ Chg [] w0 w' := by
  have hB : Chg [] w0 w0 := Chg.refl _ _
  have hZ := Nat.le_refl w0.heap.size
  unfold m_impl_in at hm
  refine enterE (N := 15) Try.func71 (by rfl) Try.ntmps71 (by simp) [(0, .int .i64 (p0)), (1, .int .i64 (p1)), (2, .int .i64 (p2))] (by rfl) (by kernel_rfl) (fun a => ?_)
  refine cW_seq ?_
  refine cW_region ?_
  refine wS_pure 1 [(6, .bool (false))] (by kernel_rfl) ?_
  refine wS_end (by rfl) ?_
  refine eX_then ?_
  refine cW_seq ?_
  refine cW_region ?_
  refine wS_pure 4 [(10, .bool (decide (p0 ≥ p1))), (9, .bool (decide (p0 ≥ p1))), (8, .int .i64 (p1)), (7, .int .i64 (p0))] (by kernel_rfl) ?_
  refine wS_bool (decide (p0 ≥ p1)) (fun hb1 => ?_) (fun hb1 => ?_)
  · have hm := condT hb1 hm
    rewrite [hb1]
    refine wS_pure 5 [(6, .bool (decide (p0 ≤ p2))), (14, .bool (decide (p0 ≤ p2))), (13, .bool (decide (p0 ≤ p2))), (12, .int .i64 (p2)), (11, .int .i64 (p0))] (by kernel_rfl) ?_
    refine wS_end (by rfl) ?_
    refine eX_then ?_
    refine cW_ret ?_
    have hq : (some (decide (p0 ≤ p2)) : Option ((Bool))) = some _ := hm
    replace hq := someE hq
    subst hq
    refine eX_ret (vs := [.bool (decide (p0 ≤ p2))]) [.tmp 6] (by rfl) ⟨by (show lkE _ _ _ = _); kernel_rfl, trivial⟩ ?_
    exact ⟨rfl, hB⟩
  · have hm := condF hb1 hm
    rewrite [hb1]
    refine wS_pure 5 [(6, .bool (false)), (14, .bool (false)), (13, undef), (12, undef), (11, undef)] (by kernel_rfl) ?_
    refine wS_end (by rfl) ?_
    refine eX_then ?_
    refine cW_ret ?_
    have hq : (some false : Option ((Bool))) = some _ := hm
    replace hq := someE hq
    subst hq
    refine eX_ret (vs := [.bool (false)]) [.tmp 6] (by rfl) ⟨by (show lkE _ _ _ = _); kernel_rfl, trivial⟩ ?_
    exact ⟨rfl, hB⟩

set_option maxRecDepth 100000 in
/-- impl.rowOk -/
theorem c_impl_rowOk {w0 : World} {l0 : List (Int)} {A0 : Option Addr} {cap0 : Nat} {fp0 : List Nat} {r : (Bool)} (hm : m_impl_rowOk l0 = some r) (F0 : Sl 1 encI w0 fp0 A0 l0) :
    Calls Try.prog 69 #[.slice A0 (l0).length cap0] w0 fun e w' => e = .returned (.bool (r)) ∧ Chg [] w0 w' := by
  have L0 := F0.low
  have hB : Chg [] w0 w0 := Chg.refl _ _
  have hZ := Nat.le_refl w0.heap.size
  unfold m_impl_rowOk at hm
  refine enterE (N := 32) Try.func69 (by rfl) Try.ntmps69 (by simp) [(0, .slice A0 (l0).length cap0)] (by rfl) (by kernel_rfl) (fun a => ?_)
  refine cW_seq ?_
  refine cW_region ?_
  refine wS_pure 1 [(2, .bool (false))] (by kernel_rfl) ?_
  refine wS_end (by rfl) ?_
  refine eX_then ?_
  refine cW_seq ?_
  refine cW_seq ?_
  refine cW_region ?_
  refine wS_pure 3 [(7, .int .i64 (0)), (6, .int .i64 (((l0).length : Int))), (5, .slice A0 (l0).length cap0)] (by kernel_rfl) ?_
  refine wS_end (by rfl) ?_
  refine eX_then ?_
  obtain ⟨r44, hr45, hm⟩ := bindE hm
  have hm46 := hm
  refine cW_cut (fun a' w' => Sum.inl (()) = r44 ∧ Fr 32 [(0, .slice A0 (l0).length cap0)] a' ∧ Sl 1 encI w' fp0 A0 l0 ∧ Chg [] w0 w' ∧ w0.heap.size ≤ w'.heap.size) ?_ ?_
  · refine cW_block ?_
    refine cW_loop _ (fun (s47 : Int) a' w' => ∃ x41 : Int, x41 = s47 ∧ Fr 32 [(0, .slice A0 (l0).length cap0), (5, .slice A0 (l0).length cap0), (6, .int .i64 (((l0).length : Int))), (7, .int .i64 (x41))] a' ∧ Sl 1 encI w' fp0 A0 l0 ∧ Chg [] w0 w' ∧ w0.heap.size ≤ w'.heap.size) hr45 (fun hst => ⟨0, rfl, Fr.of hst (by kernel_rfl), F0, hB, hZ⟩) ?_
    rintro _ c48 a' w40 ⟨x41, rfl, hF42, F43, hB, hZ⟩ hx49
    refine Fr.goOn hF42 (by kernel_rfl) ?_
    have hm := hx49
    unfold m_impl_rowOk_s1 at hm
    refine cW_seq ?_
    refine cW_region ?_
    refine wS_pure 1 [(8, .bool (decide (x41 < (((l0).length : Int)))))] (by kernel_rfl) ?_
    refine wS_end (by rfl) ?_
    refine eX_then ?_
    refine cW_seq ?_
    refine cW_cond (t := decide (x41 < (((l0).length : Int)))) (by kernel_rfl) (fun hb50 => ?_) (fun hb50 => ?_)
    · have hm := condT hb50 hm
      refine cW_skip ?_
      refine eX_then ?_
      refine cW_seq ?_
      refine cW_block ?_
      refine cW_seq ?_
      refine cW_region ?_
      refine wS_pure 1 [(9, .int .i64 (x41))] (by kernel_rfl) ?_
      obtain ⟨x51, hx52, hm⟩ := bindE hm
      refine wS_idx (d := 10) (T := 25) (A := A0) (n := (l0).length) (cap := cap0) (kd := .i64) (m := x41) (by kernel_rfl) sl25 (F43.is hx52) ?_
      refine wS_load1 (d := 11) (T := 2) (ad := (elA A0 1 (x41) 0)) (v := .int .i64 (x51)) (by kernel_rfl) vt2 (Sl.cell F43 hx52 0 (by rfl)) ?_
      refine wS_pure 2 [(4, .int .i64 (x51)), (3, .int .i64 (x41))] (by kernel_rfl) ?_
      refine wS_end (by rfl) ?_
      refine eX_then ?_
      refine cW_seq ?_
      refine cW_region ?_
      refine wS_pure 1 [(12, .int .i64 (x51))] (by kernel_rfl) ?_
      obtain ⟨y53, hy54, hm⟩ := bindE hm
      refine wS_calls (d := 13) (f := 71) (vs := [.int .i64 (x51), .int .i64 (0), .int .i64 (99)]) (by kernel_rfl) ent71 (c_impl_in hy54) ?_
      rintro _ w55 ⟨rfl, hc56⟩
      replace F43 := F43.chg hc56 Dj.nil
      replace hB := hB.inS hc56 inNil
      replace hZ := Nat.le_trans hZ hc56.size
      refine ⟨.bool (y53), rfl, ?_⟩
      refine wS_pure 2 [(15, .bool (!y53)), (14, .bool (!y53))] (by kernel_rfl) ?_
      refine wS_bool (!y53) (fun hb57 => ?_) (fun hb57 => ?_)
      · have hm := condT hb57 hm
        rewrite [hb57]
        refine wS_pure 12 [(27, .bool (true)), (26, undef), (25, undef), (24, undef), (23, undef), (22, undef), (21, undef), (20, undef), (19, undef), (18, undef), (17, undef), (16, undef)] (by kernel_rfl) ?_
        refine wS_end (by rfl) ?_
        refine eX_then ?_
        refine cW_prune [(0, .slice A0 (l0).length cap0), (5, .slice A0 (l0).length cap0), (6, .int .i64 (((l0).length : Int))), (7, .int .i64 (x41)), (27, .bool (true))] (by kernel_rfl) (by kernel_rfl) (fun a58 => ?_)
        refine cW_cond_t (by kernel_rfl) ?_
        refine cW_seq ?_
        refine cW_region ?_
        refine wS_pure 1 [(2, .bool (false))] (by kernel_rfl) ?_
        refine wS_end (by rfl) ?_
        refine eX_then ?_
        refine cW_ret ?_
        refine eX_block_ret ?_
        refine eX_then_ret ?_
        have hq : (some (Ctl.out (Sum.inr false)) : Option (Ctl (Int) (Sum (Unit) ((Bool))))) = some _ := hm
        replace hq := someE hq
        subst hq
        refine eX_outR hx49 (fun hr => ?_)
        subst hr
        refine eX_block_ret ?_
        refine eX_then_ret ?_
        refine eX_then_ret ?_
        have hq : (some false : Option ((Bool))) = some _ := hm46
        replace hq := someE hq
        subst hq
        refine eX_ret (vs := [.bool (false)]) [.tmp 2] (by rfl) ⟨by (show lkE _ _ _ = _); kernel_rfl, trivial⟩ ?_
        exact ⟨rfl, hB⟩
      · have hm := condF hb57 hm
        rewrite [hb57]
        refine wS_pure 3 [(18, .bool (decide (x41 > 0))), (17, .bool (decide (x41 > 0))), (16, .int .i64 (x41))] (by kernel_rfl) ?_
        refine wS_bool (decide (x41 > 0)) (fun hb59 => ?_) (fun hb59 => ?_)
        · have hm := condT hb59 hm
          rewrite [hb59]
          refine wS_pure 3 [(21, .int .i64 (wr (x41 - 1))), (20, .int .i64 (x41)), (19, .slice A0 (l0).length cap0)] (by kernel_rfl) ?_
          obtain ⟨x60, hx61, hm⟩ := bindE hm
          refine wS_idx (d := 22) (T := 25) (A := A0) (n := (l0).length) (cap := cap0) (kd := .i64) (m := wr (x41 - 1)) (by kernel_rfl) sl25 (F43.is hx61) ?_
          refine wS_load1 (d := 23) (T := 2) (ad := (elA A0 1 (wr (x41 - 1)) 0)) (v := .int .i64 (x60)) (by kernel_rfl) vt2 (Sl.cell F43 hx61 0 (by rfl)) ?_
          refine wS_pure 4 [(27, .bool (decide (x60 ≥ x51))), (26, .bool (decide (x60 ≥ x51))), (25, .bool (decide (x60 ≥ x51))), (24, .int .i64 (x51))] (by kernel_rfl) ?_
          refine wS_end (by rfl) ?_
          refine eX_then ?_
          refine cW_prune [(0, .slice A0 (l0).length cap0), (5, .slice A0 (l0).length cap0), (6, .int .i64 (((l0).length : Int))), (7, .int .i64 (x41)), (27, .bool (decide (x60 ≥ x51)))] (by kernel_rfl) (by kernel_rfl) (fun a62 => ?_)
          refine cW_cond (t := decide (x60 ≥ x51)) (by kernel_rfl) (fun hb63 => ?_) (fun hb63 => ?_)
          · have hm := condT hb63 hm
            refine cW_seq ?_
            refine cW_region ?_
            refine wS_pure 1 [(2, .bool (false))] (by kernel_rfl) ?_
            refine wS_end (by rfl) ?_
            refine eX_then ?_
            refine cW_ret ?_
            refine eX_block_ret ?_
            refine eX_then_ret ?_
            have hq : (some (Ctl.out (Sum.inr false)) : Option (Ctl (Int) (Sum (Unit) ((Bool))))) = some _ := hm
            replace hq := someE hq
            subst hq
            refine eX_outR hx49 (fun hr => ?_)
            subst hr
            refine eX_block_ret ?_
            refine eX_then_ret ?_
            refine eX_then_ret ?_
            have hq : (some false : Option ((Bool))) = some _ := hm46
            replace hq := someE hq
            subst hq
            refine eX_ret (vs := [.bool (false)]) [.tmp 2] (by rfl) ⟨by (show lkE _ _ _ = _); kernel_rfl, trivial⟩ ?_
            exact ⟨rfl, hB⟩
          · have hm := condF hb63 hm
            refine cW_skip ?_
            refine eX_block ?_
            refine eX_then ?_
            refine cW_region ?_
            refine wS_pure 2 [(7, .int .i64 (wr (x41 + 1))), (28, .int .i64 (wr (x41 + 1)))] (by kernel_rfl) ?_
            refine wS_end (by rfl) ?_
            have hq : (some (Ctl.next (wr (x41 + 1))) : Option (Ctl (Int) (Sum (Unit) ((Bool))))) = some _ := hm
            replace hq := someE hq
            subst hq
            exact eX_next hx49 (fun hst => ⟨wr (x41 + 1), rfl, Fr.of hst (by kernel_rfl), F43, hB, hZ⟩)
        · have hm := condF hb59 hm
          rewrite [hb59]
          refine wS_pure 9 [(27, .bool (false)), (26, .bool (false)), (25, undef), (24, undef), (23, undef), (22, undef), (21, undef), (20, undef), (19, undef)] (by kernel_rfl) ?_
          refine wS_end (by rfl) ?_
          refine eX_then ?_
          refine cW_prune [(0, .slice A0 (l0).length cap0), (5, .slice A0 (l0).length cap0), (6, .int .i64 (((l0).length : Int))), (7, .int .i64 (x41)), (27, .bool (false))] (by kernel_rfl) (by kernel_rfl) (fun a64 => ?_)
          refine cW_cond_f (by kernel_rfl) ?_
          refine cW_skip ?_
          refine eX_block ?_
          refine eX_then ?_
          refine cW_region ?_
          refine wS_pure 2 [(7, .int .i64 (wr (x41 + 1))), (28, .int .i64 (wr (x41 + 1)))] (by kernel_rfl) ?_
          refine wS_end (by rfl) ?_
          have hq : (some (Ctl.next (wr (x41 + 1))) : Option (Ctl (Int) (Sum (Unit) ((Bool))))) = some _ := hm
          replace hq := someE hq
          subst hq
          exact eX_next hx49 (fun hst => ⟨wr (x41 + 1), rfl, Fr.of hst (by kernel_rfl), F43, hB, hZ⟩)
    · have hm := condF hb50 hm
      refine cW_exit ?_
      refine eX_then_exit ?_
      have hq : (some (Ctl.out (Sum.inl (()))) : Option (Ctl (Int) (Sum (Unit) ((Bool))))) = some _ := hm
      replace hq := someE hq
      subst hq
      refine eX_outX hx49 (fun hr65 => ?_)
      replace hr65 := hr65.symm
      subst hr65
      refine eX_block_hit ?_
      exact eX_J (fun hst => ⟨rfl, Fr.of hst (by kernel_rfl), F43, hB, hZ⟩)
  · rintro a' w37 ⟨hJ, hF38, F39, hB, hZ⟩
    subst hJ
    refine Fr.goX hF38 (by kernel_rfl) ?_
    refine eX_then ?_
    refine cW_seq ?_
    refine cW_region ?_
    refine wS_pure 2 [(30, .int .i64 (((l0).length : Int))), (29, .slice A0 (l0).length cap0)] (by kernel_rfl) ?_
    obtain ⟨y66, hy67, hm⟩ := bindE hm
    refine wS_calls (d := 31) (f := 71) (vs := [.int .i64 (((l0).length : Int)), .int .i64 (1), .int .i64 (20)]) (by kernel_rfl) ent71 (c_impl_in hy67) ?_
    rintro _ w68 ⟨rfl, hc69⟩
    replace F39 := F39.chg hc69 Dj.nil
    replace hB := hB.inS hc69 inNil
    replace hZ := Nat.le_trans hZ hc69.size
    refine ⟨.bool (y66), rfl, ?_⟩
    refine wS_pure 1 [(2, .bool (y66))] (by kernel_rfl) ?_
    refine wS_end (by rfl) ?_
    refine eX_then ?_
    refine cW_ret ?_
    have hq : (some y66 : Option ((Bool))) = some _ := hm
    replace hq := someE hq
    subst hq
    refine eX_ret (vs := [.bool (y66)]) [.tmp 2] (by rfl) ⟨by (show lkE _ _ _ = _); kernel_rfl, trivial⟩ ?_
    exact ⟨rfl, hB⟩

set_option maxRecDepth 100000 in
/-- impl.ValidRiver -/
theorem c_impl_ValidRiver {w0 : World} {l0 : List (Int)} {A0 : Option Addr} {cap0 : Nat} {fp0 : List Nat} {l1 : List (Int)} {A1 : Option Addr} {cap1 : Nat} {fp1 : List Nat} {r : (Bool)} (hm : m_impl_ValidRiver l0 l1 = some r) (F0 : Sl 1 encI w0 fp0 A0 l0) (F1 : Sl 1 encI w0 fp1 A1 l1) :
    Calls Try.prog 15 #[.slice A0 (l0).length cap0, .slice A1 (l1).length cap1] w0 fun e w' => e = .returned (.bool (r)) ∧ Chg [] w0 w' := by
  have L0 := F0.low
  have L1 := F1.low
  have hB : Chg [] w0 w0 := Chg.refl _ _
  have hZ := Nat.le_refl w0.heap.size
  unfold m_impl_ValidRiver at hm
  refine enterE (N := 18) Try.func15 (by rfl) Try.ntmps15 (by simp) [(0, .slice A0 (l0).length cap0), (1, .slice A1 (l1).length cap1)] (by rfl) (by kernel_rfl) (fun a => ?_)
  refine cW_seq ?_
  refine cW_region ?_
  refine wS_pure 1 [(4, .bool (false))] (by kernel_rfl) ?_
  refine wS_end (by rfl) ?_
  refine eX_then ?_
  refine cW_seq ?_
  refine cW_region ?_
  refine wS_pure 1 [(5, .slice A0 (l0).length cap0)] (by kernel_rfl) ?_
  obtain ⟨y3, hy4, hm⟩ := bindE hm
  refine wS_calls (d := 6) (f := 69) (vs := [.slice A0 (l0).length cap0]) (by kernel_rfl) ent69 (c_impl_rowOk hy4 F0) ?_
  rintro _ w5 ⟨rfl, hc6⟩
  replace F0 := F0.chg hc6 Dj.nil
  replace F1 := F1.chg hc6 Dj.nil
  replace hB := hB.inS hc6 inNil
  replace hZ := Nat.le_trans hZ hc6.size
  refine ⟨.bool (y3), rfl, ?_⟩
  refine wS_pure 1 [(7, .bool (y3))] (by kernel_rfl) ?_
  refine wS_bool y3 (fun hb7 => ?_) (fun hb7 => ?_)
  · have hm := condT hb7 hm
    rewrite [hb7]
    refine wS_pure 1 [(8, .slice A1 (l1).length cap1)] (by kernel_rfl) ?_
    obtain ⟨y8, hy9, hm⟩ := bindE hm
    refine wS_calls (d := 9) (f := 69) (vs := [.slice A1 (l1).length cap1]) (by kernel_rfl) ent69 (c_impl_rowOk hy9 F1) ?_
    rintro _ w10 ⟨rfl, hc11⟩
    replace F0 := F0.chg hc11 Dj.nil
    replace F1 := F1.chg hc11 Dj.nil
    replace hB := hB.inS hc11 inNil
    replace hZ := Nat.le_trans hZ hc11.size
    refine ⟨.bool (y8), rfl, ?_⟩
    refine wS_pure 2 [(11, .bool (y8)), (10, .bool (y8))] (by kernel_rfl) ?_
    refine wS_bool y8 (fun hb12 => ?_) (fun hb12 => ?_)
    · have hm := condT hb12 hm
      rewrite [hb12]
      refine wS_pure 7 [(4, .bool ((((l0).length : Int)) == (((l1).length : Int)))), (17, .bool ((((l0).length : Int)) == (((l1).length : Int)))), (16, .bool ((((l0).length : Int)) == (((l1).length : Int)))), (15, .int .i64 (((l1).length : Int))), (14, .slice A1 (l1).length cap1), (13, .int .i64 (((l0).length : Int))), (12, .slice A0 (l0).length cap0)] (by kernel_rfl) ?_
      refine wS_end (by rfl) ?_
      refine eX_then ?_
      refine cW_ret ?_
      have hq : (some ((((l0).length : Int)) == (((l1).length : Int))) : Option ((Bool))) = some _ := hm
      replace hq := someE hq
      subst hq
      refine eX_ret (vs := [.bool ((((l0).length : Int)) == (((l1).length : Int)))]) [.tmp 4] (by rfl) ⟨by (show lkE _ _ _ = _); kernel_rfl, trivial⟩ ?_
      exact ⟨rfl, hB⟩
    · have hm := condF hb12 hm
      rewrite [hb12]
      refine wS_pure 7 [(4, .bool (false)), (17, .bool (false)), (16, undef), (15, undef), (14, undef), (13, undef), (12, undef)] (by kernel_rfl) ?_
      refine wS_end (by rfl) ?_
      refine eX_then ?_
      refine cW_ret ?_
      have hq : (some false : Option ((Bool))) = some _ := hm
      replace hq := someE hq
      subst hq
      refine eX_ret (vs := [.bool (false)]) [.tmp 4] (by rfl) ⟨by (show lkE _ _ _ = _); kernel_rfl, trivial⟩ ?_
      exact ⟨rfl, hB⟩
  · have hm := condF hb7 hm
    rewrite [hb7]
    refine wS_pure 11 [(4, .bool (false)), (17, .bool (false)), (16, undef), (15, undef), (14, undef), (13, undef), (12, undef), (11, .bool (false)), (10, .bool (false)), (9, undef), (8, undef)] (by kernel_rfl) ?_
    refine wS_end (by rfl) ?_
    refine eX_then ?_
    refine cW_ret ?_
    have hq : (some false : Option ((Bool))) = some _ := hm
    replace hq := someE hq
    subst hq
    refine eX_ret (vs := [.bool (false)]) [.tmp 4] (by rfl) ⟨by (show lkE _ _ _ = _); kernel_rfl, trivial⟩ ?_
    exact ⟨rfl, hB⟩

set_option maxRecDepth 100000 in
/-- impl.tight -/
theorem c_impl_tight {w0 : World} {l0 : List (Int)} {A0 : Option Addr} {cap0 : Nat} {fp0 : List Nat} {l1 : List (Int)} {A1 : Option Addr} {cap1 : Nat} {fp1 : List Nat} {p2 : Int} {r : (Int) × (Int)} (hm : m_impl_tight l0 l1 p2 = some r) (F0 : Sl 1 encI w0 fp0 A0 l0) (F1 : Sl 1 encI w0 fp1 A1 l1) :
    Calls Try.prog 133 #[.slice A0 (l0).length cap0, .slice A1 (l1).length cap1, .int .i64 (p2)] w0 fun e w' => e = .returned (.tuple #[.int .i64 (r.1), .int .i64 (r.2)]) ∧ Chg [] w0 w' := by
  have L0 := F0.low
  have L1 := F1.low
  have hB : Chg [] w0 w0 := Chg.refl _ _
  have hZ := Nat.le_refl w0.heap.size
  unfold m_impl_tight at hm
  refine enterE (N := 47) Try.func133 (by rfl) Try.ntmps133 (by simp) [(0, .slice A0 (l0).length cap0), (1, .slice A1 (l1).length cap1), (2, .int .i64 (p2))] (by rfl) (by kernel_rfl) (fun a => ?_)
  refine cW_seq ?_
  refine cW_region ?_
  refine wS_pure 2 [(7, .int .i64 (0)), (6, .int .i64 (0))] (by kernel_rfl) ?_
  refine wS_end (by rfl) ?_
  refine eX_then ?_
  refine cW_seq ?_
  refine cW_seq ?_
  refine cW_region ?_
  refine wS_pure 1 [(8, .int .i64 (0))] (by kernel_rfl) ?_
  refine wS_end (by rfl) ?_
  refine eX_then ?_
  obtain ⟨r89, hr90, hm⟩ := bindE hm
  have hm91 := hm
  refine cW_cut (fun a' w' => Sum.inl (()) = r89 ∧ Fr 47 [] a' ∧ Chg [] w0 w' ∧ w0.heap.size ≤ w'.heap.size) ?_ ?_
  · refine cW_block ?_
    refine cW_loop _ (fun (s92 : Int) a' w' => ∃ x85 : Int, x85 = s92 ∧ Fr 47 [(0, .slice A0 (l0).length cap0), (1, .slice A1 (l1).length cap1), (2, .int .i64 (p2)), (8, .int .i64 (x85))] a' ∧ Sl 1 encI w' fp0 A0 l0 ∧ Sl 1 encI w' fp1 A1 l1 ∧ Chg [] w0 w' ∧ w0.heap.size ≤ w'.heap.size) hr90 (fun hst => ⟨0, rfl, Fr.of hst (by kernel_rfl), F0, F1, hB, hZ⟩) ?_
    rintro _ c93 a' w84 ⟨x85, rfl, hF86, F87, F88, hB, hZ⟩ hx94
    refine Fr.goOn hF86 (by kernel_rfl) ?_
    have hm := hx94
    unfold m_impl_tight_s1 at hm
    refine cW_seq ?_
    refine cW_seq ?_
    refine cW_region ?_
    refine wS_pure 6 [(15, .bool (decide ((wr (x85 + p2)) < (((l0).length : Int))))), (14, .int .i64 (((l0).length : Int))), (13, .slice A0 (l0).length cap0), (12, .int .i64 (wr (x85 + p2))), (11, .int .i64 (p2)), (10, .int .i64 (x85))] (by kernel_rfl) ?_
    refine wS_end (by rfl) ?_
    refine eX_then ?_
    refine cW_cond (t := decide ((wr (x85 + p2)) < (((l0).length : Int)))) (by kernel_rfl) (fun hb95 => ?_) (fun hb95 => ?_)
    · have hm := condT hb95 hm
      refine cW_skip ?_
      refine eX_then ?_
      refine cW_seq ?_
      refine cW_block ?_
      refine cW_seq ?_
      refine cW_region ?_
      refine wS_pure 4 [(9, .int .i64 (wr (x85 + p2))), (20, .int .i64 (wr (x85 + p2))), (19, .int .i64 (p2)), (18, .int .i64 (x85))] (by kernel_rfl) ?_
      refine wS_end (by rfl) ?_
      refine eX_then ?_
      refine cW_block ?_
      refine cW_seq ?_
      refine cW_drawnTail [] 10 (by kernel_rfl) (by kernel_rfl) (fun w104 hc105 => ?_)
      replace F87 := F87.chg hc105 Dj.nil
      replace F88 := F88.chg hc105 Dj.nil
      replace hB := hB.inS hc105 inNil
      replace hZ := Nat.le_trans hZ hc105.size
      have hS := Chg.refl [] w104
      have Z106 := F87
      have Z107 := F88
      refine wH_take [0, 1] [1, 0] [(23, .int .i64 (wr (x85 + p2))), (22, .slice A1 (l1).length cap1)] (by kernel_rfl) (qT (qT (qB (qB (qT (qL (qB (qT (qT qZ))))))))) (by kernel_rfl) ?_
      obtain ⟨x108, hx109, hm⟩ := bindE hm
      refine wH_idx (i := 2) (d := 24) (T := 25) (A := A1) (n := (l1).length) (cap := cap1) (kd := .i64) (m := wr (x85 + p2)) (by kernel_rfl) (qT (qT (qB (qB (qT (qL (qB (qT (qT qZ))))))))) (by kernel_rfl) (by kernel_rfl) sl25 (F88.is hx109) ?_
      refine wH_load1 (i := 3) (d := 25) (T := 2) (ad := (elA A1 1 (wr (x85 + p2)) 0)) (v := .int .i64 (x108)) (by kernel_rfl) (qT (qT (qB (qB (qT (qL (qB (qT (qT qZ))))))))) (by kernel_rfl) (by kernel_rfl) vt2 (fun W hW => Sl.cell (Z107.chg hW Dj.nil) hx109 0 (by rfl)) ?_
      refine wH_take [4, 5] [5, 4, 3, 2, 1, 0] [(27, .int .i64 (x85)), (26, .slice A0 (l0).length cap0)] (by kernel_rfl) (qT (qT (qB (qB (qT (qL (qB (qT (qT qZ))))))))) (by kernel_rfl) ?_
      obtain ⟨x110, hx111, hm⟩ := bindE hm
      refine wH_idx (i := 6) (d := 28) (T := 25) (A := A0) (n := (l0).length) (cap := cap0) (kd := .i64) (m := x85) (by kernel_rfl) (qT (qT (qB (qB (qT (qL (qB (qT (qT qZ))))))))) (by kernel_rfl) (by kernel_rfl) sl25 (F87.is hx111) ?_
      refine wH_load1 (i := 7) (d := 29) (T := 2) (ad := (elA A0 1 (x85) 0)) (v := .int .i64 (x110)) (by kernel_rfl) (qT (qT (qB (qB (qT (qL (qB (qT (qT qZ))))))))) (by kernel_rfl) (by kernel_rfl) vt2 (fun W hW => Sl.cell (Z106.chg hW Dj.nil) hx111 0 (by rfl)) ?_
      refine wH_take [8, 9] [9, 8, 7, 6, 5, 4, 3, 2, 1, 0] [(31, .int .i64 (p2)), (30, .int .i64 (wr (x108 - x110)))] (by kernel_rfl) (qT (qT (qB (qB (qT (qL (qB (qT (qT qZ))))))))) (by kernel_rfl) ?_
      refine wH_done (by kernel_rfl) ?_
      refine eX_tail ?_
      refine wS_pure 2 [(21, .bool (decide ((wr (x108 - x110)) < p2))), (32, .bool (decide ((wr (x108 - x110)) < p2)))] (by kernel_rfl) ?_
      refine wS_end (by rfl) ?_
      refine eX_then ?_
      refine cW_prune [(0, .slice A0 (l0).length cap0), (1, .slice A1 (l1).length cap1), (2, .int .i64 (p2)), (8, .int .i64 (x85)), (9, .int .i64 (wr (x85 + p2))), (21, .bool (decide ((wr (x108 - x110)) < p2)))] (by kernel_rfl) (by kernel_rfl) (fun a112 => ?_)
      refine cW_cond (t := decide ((wr (x108 - x110)) < p2)) (by kernel_rfl) (fun hb113 => ?_) (fun hb113 => ?_)
      · have hm := condT hb113 hm
        refine cW_seq ?_
        refine cW_region ?_
        refine wS_pure 3 [(7, .int .i64 (0)), (6, .int .i64 (x85)), (33, .int .i64 (x85))] (by kernel_rfl) ?_
        refine wS_end (by rfl) ?_
        refine eX_then ?_
        refine cW_ret ?_
        refine eX_block_ret ?_
        refine eX_block_ret ?_
        refine eX_then_ret ?_
        have hq : (some (Ctl.out (Sum.inr ((x85, 0)))) : Option (Ctl (Int) (Sum (Unit) ((Int) × (Int))))) = some _ := hm
        replace hq := someE hq
        subst hq
        refine eX_outR hx94 (fun hr => ?_)
        subst hr
        refine eX_block_ret ?_
        refine eX_then_ret ?_
        refine eX_then_ret ?_
        have hq : (some ((x85, 0)) : Option ((Int) × (Int))) = some _ := hm91
        replace hq := someE hq
        subst hq
        refine eX_ret (vs := [.int .i64 (x85), .int .i64 (0)]) [.tmp 6, .tmp 7] (by rfl) ⟨by (show lkE _ _ _ = _); kernel_rfl, ⟨by (show lkE _ _ _ = _); kernel_rfl, trivial⟩⟩ ?_
        exact ⟨rfl, hB⟩
      · have hm := condF hb113 hm
        refine cW_seq ?_
        refine cW_drawnTail [] 10 (by kernel_rfl) (by kernel_rfl) (fun w122 hc123 => ?_)
        replace F87 := F87.chg hc123 Dj.nil
        replace F88 := F88.chg hc123 Dj.nil
        replace hB := hB.inS hc123 inNil
        replace hZ := Nat.le_trans hZ hc123.size
        have hS := Chg.refl [] w122
        have Z124 := F87
        have Z125 := F88
        refine wH_take [0, 1] [1, 0] [(36, .int .i64 (wr (x85 + p2))), (35, .slice A0 (l0).length cap0)] (by kernel_rfl) (qT (qT (qB (qB (qT (qL (qB (qT (qT qZ))))))))) (by kernel_rfl) ?_
        obtain ⟨x126, hx127, hm⟩ := bindE hm
        refine wH_idx (i := 2) (d := 37) (T := 25) (A := A0) (n := (l0).length) (cap := cap0) (kd := .i64) (m := wr (x85 + p2)) (by kernel_rfl) (qT (qT (qB (qB (qT (qL (qB (qT (qT qZ))))))))) (by kernel_rfl) (by kernel_rfl) sl25 (F87.is hx127) ?_
        refine wH_load1 (i := 3) (d := 38) (T := 2) (ad := (elA A0 1 (wr (x85 + p2)) 0)) (v := .int .i64 (x126)) (by kernel_rfl) (qT (qT (qB (qB (qT (qL (qB (qT (qT qZ))))))))) (by kernel_rfl) (by kernel_rfl) vt2 (fun W hW => Sl.cell (Z124.chg hW Dj.nil) hx127 0 (by rfl)) ?_
        refine wH_take [4, 5] [5, 4, 3, 2, 1, 0] [(40, .int .i64 (x85)), (39, .slice A1 (l1).length cap1)] (by kernel_rfl) (qT (qT (qB (qB (qT (qL (qB (qT (qT qZ))))))))) (by kernel_rfl) ?_
        obtain ⟨x128, hx129, hm⟩ := bindE hm
        refine wH_idx (i := 6) (d := 41) (T := 25) (A := A1) (n := (l1).length) (cap := cap1) (kd := .i64) (m := x85) (by kernel_rfl) (qT (qT (qB (qB (qT (qL (qB (qT (qT qZ))))))))) (by kernel_rfl) (by kernel_rfl) sl25 (F88.is hx129) ?_
        refine wH_load1 (i := 7) (d := 42) (T := 2) (ad := (elA A1 1 (x85) 0)) (v := .int .i64 (x128)) (by kernel_rfl) (qT (qT (qB (qB (qT (qL (qB (qT (qT qZ))))))))) (by kernel_rfl) (by kernel_rfl) vt2 (fun W hW => Sl.cell (Z125.chg hW Dj.nil) hx129 0 (by rfl)) ?_
        refine wH_take [8, 9] [9, 8, 7, 6, 5, 4, 3, 2, 1, 0] [(44, .int .i64 (p2)), (43, .int .i64 (wr (x126 - x128)))] (by kernel_rfl) (qT (qT (qB (qB (qT (qL (qB (qT (qT qZ))))))))) (by kernel_rfl) ?_
        refine wH_done (by kernel_rfl) ?_
        refine eX_tail ?_
        refine wS_pure 2 [(34, .bool (decide ((wr (x126 - x128)) < p2))), (45, .bool (decide ((wr (x126 - x128)) < p2)))] (by kernel_rfl) ?_
        refine wS_end (by rfl) ?_
        refine eX_then ?_
        refine cW_cond (t := decide ((wr (x126 - x128)) < p2)) (by kernel_rfl) (fun hb130 => ?_) (fun hb130 => ?_)
        · have hm := condT hb130 hm
          refine cW_seq ?_
          refine cW_region ?_
          refine wS_pure 3 [(7, .int .i64 (1)), (6, .int .i64 (x85)), (46, .int .i64 (x85))] (by kernel_rfl) ?_
          refine wS_end (by rfl) ?_
          refine eX_then ?_
          refine cW_ret ?_
          refine eX_block_ret ?_
          refine eX_block_ret ?_
          refine eX_then_ret ?_
          have hq : (some (Ctl.out (Sum.inr ((x85, 1)))) : Option (Ctl (Int) (Sum (Unit) ((Int) × (Int))))) = some _ := hm
          replace hq := someE hq
          subst hq
          refine eX_outR hx94 (fun hr => ?_)
          subst hr
          refine eX_block_ret ?_
          refine eX_then_ret ?_
          refine eX_then_ret ?_
          have hq : (some ((x85, 1)) : Option ((Int) × (Int))) = some _ := hm91
          replace hq := someE hq
          subst hq
          refine eX_ret (vs := [.int .i64 (x85), .int .i64 (1)]) [.tmp 6, .tmp 7] (by rfl) ⟨by (show lkE _ _ _ = _); kernel_rfl, ⟨by (show lkE _ _ _ = _); kernel_rfl, trivial⟩⟩ ?_
          exact ⟨rfl, hB⟩
        · have hm := condF hb130 hm
          refine cW_skip ?_
          refine eX_block ?_
          refine eX_block ?_
          refine eX_then ?_
          refine cW_region ?_
          refine wS_pure 3 [(8, .int .i64 (wr (x85 + 1))), (17, .int .i64 (wr (x85 + 1))), (16, .int .i64 (x85))] (by kernel_rfl) ?_
          refine wS_end (by rfl) ?_
          have hq : (some (Ctl.next (wr (x85 + 1))) : Option (Ctl (Int) (Sum (Unit) ((Int) × (Int))))) = some _ := hm
          replace hq := someE hq
          subst hq
          exact eX_next hx94 (fun hst => ⟨wr (x85 + 1), rfl, Fr.of hst (by kernel_rfl), F87, F88, hB, hZ⟩)
    · have hm := condF hb95 hm
      refine cW_exit ?_
      refine eX_then_exit ?_
      have hq : (some (Ctl.out (Sum.inl (()))) : Option (Ctl (Int) (Sum (Unit) ((Int) × (Int))))) = some _ := hm
      replace hq := someE hq
      subst hq
      refine eX_outX hx94 (fun hr131 => ?_)
      replace hr131 := hr131.symm
      subst hr131
      refine eX_block_hit ?_
      exact eX_J (fun hst => ⟨rfl, Fr.of hst (by kernel_rfl), hB, hZ⟩)
  · rintro a' w82 ⟨hJ, hF83, hB, hZ⟩
    subst hJ
    refine Fr.goX hF83 (by kernel_rfl) ?_
    refine eX_then ?_
    refine cW_seq ?_
    refine cW_region ?_
    refine wS_pure 2 [(7, .int .i64 (0)), (6, .int .i64 ((-1)))] (by kernel_rfl) ?_
    refine wS_end (by rfl) ?_
    refine eX_then ?_
    refine cW_ret ?_
    have hq : (some (((-1), 0)) : Option ((Int) × (Int))) = some _ := hm
    replace hq := someE hq
    subst hq
    refine eX_ret (vs := [.int .i64 ((-1)), .int .i64 (0)]) [.tmp 6, .tmp 7] (by rfl) ⟨by (show lkE _ _ _ = _); kernel_rfl, ⟨by (show lkE _ _ _ = _); kernel_rfl, trivial⟩⟩ ?_
    exact ⟨rfl, hB⟩

set_option maxRecDepth 100000 in
/-- impl.fits -/
theorem c_impl_fits {w0 : World} {l0 : List (Int)} {A0 : Option Addr} {cap0 : Nat} {fp0 : List Nat} {l1 : List (Int)} {A1 : Option Addr} {cap1 : Nat} {fp1 : List Nat} {p2 : Int} {r : (Bool)} (hm : m_impl_fits l0 l1 p2 = some r) (F0 : Sl 1 encI w0 fp0 A0 l0) (F1 : Sl 1 encI w0 fp1 A1 l1) :
    Calls Try.prog 68 #[.slice A0 (l0).length cap0, .slice A1 (l1).length cap1, .int .i64 (p2)] w0 fun e w' => e = .returned (.bool (r)) ∧ Chg [] w0 w' := by
  have L0 := F0.low
  have L1 := F1.low
  have hB : Chg [] w0 w0 := Chg.refl _ _
  have hZ := Nat.le_refl w0.heap.size
  unfold m_impl_fits at hm
  refine enterE (N := 18) Try.func68 (by rfl) Try.ntmps68 (by simp) [(0, .slice A0 (l0).length cap0), (1, .slice A1 (l1).length cap1), (2, .int .i64 (p2))] (by rfl) (by kernel_rfl) (fun a => ?_)
  refine cW_seq ?_
  refine cW_region ?_
  refine wS_pure 1 [(6, .bool (false))] (by kernel_rfl) ?_
  refine wS_end (by rfl) ?_
  refine eX_then ?_
  refine cW_seq ?_
  refine cW_region ?_
  refine wS_pure 3 [(12, .int .i64 (p2)), (11, .slice A1 (l1).length cap1), (10, .slice A0 (l0).length cap0)] (by kernel_rfl) ?_
  obtain ⟨y3, hy4, hm⟩ := bindE hm
  refine wS_calls (d := 13) (f := 133) (vs := [.slice A0 (l0).length cap0, .slice A1 (l1).length cap1, .int .i64 (p2)]) (by kernel_rfl) ent133 (c_impl_tight hy4 F0 F1) ?_
  rintro _ w5 ⟨rfl, hc6⟩
  replace F0 := F0.chg hc6 Dj.nil
  replace F1 := F1.chg hc6 Dj.nil
  replace hB := hB.inS hc6 inNil
  replace hZ := Nat.le_trans hZ hc6.size
  refine ⟨.tuple #[.int .i64 (y3.1), .int .i64 (y3.2)], rfl, ?_⟩
  refine wS_pure 5 [(8, .int .i64 (y3.2)), (7, .int .i64 (y3.1)), (15, .int .i64 (y3.2)), (14, .int .i64 (y3.1)), (9, .tuple #[.int .i64 (y3.1), .int .i64 (y3.2)])] (by kernel_rfl) ?_
  refine wS_end (by rfl) ?_
  refine eX_then ?_
  refine cW_seq ?_
  refine cW_region ?_
  refine wS_pure 3 [(6, .bool (decide (y3.1 < 0))), (17, .bool (decide (y3.1 < 0))), (16, .int .i64 (y3.1))] (by kernel_rfl) ?_
  refine wS_end (by rfl) ?_
  refine eX_then ?_
  refine cW_ret ?_
  have hq : (some (decide (y3.1 < 0)) : Option ((Bool))) = some _ := hm
  replace hq := someE hq
  subst hq
  refine eX_ret (vs := [.bool (decide (y3.1 < 0))]) [.tmp 6] (by rfl) ⟨by (show lkE _ _ _ = _); kernel_rfl, trivial⟩ ?_
  exact ⟨rfl, hB⟩

set_option maxRecDepth 100000 in
/-- impl.LeastTracks -/
theorem c_impl_LeastTracks {w0 : World} {l0 : List (Int)} {A0 : Option Addr} {cap0 : Nat} {fp0 : List Nat} {l1 : List (Int)} {A1 : Option Addr} {cap1 : Nat} {fp1 : List Nat} {r : (Int) × (Bool)} (hm : m_impl_LeastTracks l0 l1 = some r) (F0 : Sl 1 encI w0 fp0 A0 l0) (F1 : Sl 1 encI w0 fp1 A1 l1) :
    Calls Try.prog 14 #[.slice A0 (l0).length cap0, .slice A1 (l1).length cap1] w0 fun e w' => e = .returned (.tuple #[.int .i64 (r.1), .bool (r.2)]) ∧ Chg [] w0 w' := by
  have L0 := F0.low
  have L1 := F1.low
  have hB : Chg [] w0 w0 := Chg.refl _ _
  have hZ := Nat.le_refl w0.heap.size
  unfold m_impl_LeastTracks at hm
  refine enterE (N := 19) Try.func14 (by rfl) Try.ntmps14 (by simp) [(0, .slice A0 (l0).length cap0), (1, .slice A1 (l1).length cap1)] (by rfl) (by kernel_rfl) (fun a => ?_)
  refine cW_seq ?_
  refine cW_region ?_
  refine wS_pure 2 [(5, .bool (false)), (4, .int .i64 (0))] (by kernel_rfl) ?_
  refine wS_end (by rfl) ?_
  refine eX_then ?_
  refine cW_seq ?_
  refine cW_seq ?_
  refine cW_region ?_
  refine wS_pure 2 [(8, .slice A1 (l1).length cap1), (7, .slice A0 (l0).length cap0)] (by kernel_rfl) ?_
  obtain ⟨y3, hy4, hm⟩ := bindE hm
  refine wS_calls (d := 9) (f := 15) (vs := [.slice A0 (l0).length cap0, .slice A1 (l1).length cap1]) (by kernel_rfl) ent15 (c_impl_ValidRiver hy4 F0 F1) ?_
  rintro _ w5 ⟨rfl, hc6⟩
  replace F0 := F0.chg hc6 Dj.nil
  replace F1 := F1.chg hc6 Dj.nil
  replace hB := hB.inS hc6 inNil
  replace hZ := Nat.le_trans hZ hc6.size
  refine ⟨.bool (y3), rfl, ?_⟩
  refine wS_pure 1 [(10, .bool (!y3))] (by kernel_rfl) ?_
  refine wS_end (by rfl) ?_
  refine eX_then ?_
  refine cW_cond (t := !y3) (by kernel_rfl) (fun hb7 => ?_) (fun hb7 => ?_)
  · have hm := condT hb7 hm
    refine cW_seq ?_
    refine cW_region ?_
    refine wS_pure 2 [(5, .bool (false)), (4, .int .i64 (0))] (by kernel_rfl) ?_
    refine wS_end (by rfl) ?_
    refine eX_then ?_
    refine cW_ret ?_
    refine eX_then_ret ?_
    have hq : (some ((0, false)) : Option ((Int) × (Bool))) = some _ := hm
    replace hq := someE hq
    subst hq
    refine eX_ret (vs := [.int .i64 (0), .bool (false)]) [.tmp 4, .tmp 5] (by rfl) ⟨by (show lkE _ _ _ = _); kernel_rfl, ⟨by (show lkE _ _ _ = _); kernel_rfl, trivial⟩⟩ ?_
    exact ⟨rfl, hB⟩
  · have hm := condF hb7 hm
    refine cW_skip ?_
    refine eX_then ?_
    refine cW_seq ?_
    refine cW_region ?_
    refine wS_pure 1 [(6, .int .i64 (0))] (by kernel_rfl) ?_
    refine wS_end (by rfl) ?_
    refine eX_then ?_
    refine cW_seq ?_
    obtain ⟨r33, hr34, hm⟩ := bindE hm
    have hm35 := hm
    refine cW_cut (fun a' w' => ∃ x26 : Int, x26 = r33 ∧ Fr 19 [(6, .int .i64 (x26))] a' ∧ Chg [] w0 w' ∧ w0.heap.size ≤ w'.heap.size) ?_ ?_
    · refine cW_block ?_
      refine cW_loop _ (fun (s36 : Int) a' w' => ∃ x29 : Int, x29 = s36 ∧ Fr 19 [(0, .slice A0 (l0).length cap0), (1, .slice A1 (l1).length cap1), (6, .int .i64 (x29))] a' ∧ Sl 1 encI w' fp0 A0 l0 ∧ Sl 1 encI w' fp1 A1 l1 ∧ Chg [] w0 w' ∧ w0.heap.size ≤ w'.heap.size) hr34 (fun hst => ⟨0, rfl, Fr.of hst (by kernel_rfl), F0, F1, hB, hZ⟩) ?_
      rintro _ c37 a' w28 ⟨x29, rfl, hF30, F31, F32, hB, hZ⟩ hx38
      refine Fr.goOn hF30 (by kernel_rfl) ?_
      have hm := hx38
      unfold m_impl_LeastTracks_s1 at hm
      refine cW_seq ?_
      refine cW_seq ?_
      refine cW_region ?_
      refine wS_pure 3 [(13, .int .i64 (x29)), (12, .slice A1 (l1).length cap1), (11, .slice A0 (l0).length cap0)] (by kernel_rfl) ?_
      obtain ⟨y39, hy40, hm⟩ := bindE hm
      refine wS_calls (d := 14) (f := 68) (vs := [.slice A0 (l0).length cap0, .slice A1 (l1).length cap1, .int .i64 (x29)]) (by kernel_rfl) ent68 (c_impl_fits hy40 F31 F32) ?_
      rintro _ w41 ⟨rfl, hc42⟩
      replace F31 := F31.chg hc42 Dj.nil
      replace F32 := F32.chg hc42 Dj.nil
      replace hB := hB.inS hc42 inNil
      replace hZ := Nat.le_trans hZ hc42.size
      refine ⟨.bool (y39), rfl, ?_⟩
      refine wS_pure 1 [(15, .bool (!y39))] (by kernel_rfl) ?_
      refine wS_end (by rfl) ?_
      refine eX_then ?_
      refine cW_cond (t := !y39) (by kernel_rfl) (fun hb43 => ?_) (fun hb43 => ?_)
      · have hm := condT hb43 hm
        refine cW_skip ?_
        refine eX_then ?_
        refine cW_block ?_
        refine cW_region ?_
        refine wS_pure 3 [(6, .int .i64 (wr (x29 + 1))), (17, .int .i64 (wr (x29 + 1))), (16, .int .i64 (x29))] (by kernel_rfl) ?_
        refine wS_end (by rfl) ?_
        refine eX_block ?_
        have hq : (some (Ctl.next (wr (x29 + 1))) : Option (Ctl (Int) (Int))) = some _ := hm
        replace hq := someE hq
        subst hq
        exact eX_next hx38 (fun hst => ⟨wr (x29 + 1), rfl, Fr.of hst (by kernel_rfl), F31, F32, hB, hZ⟩)
      · have hm := condF hb43 hm
        refine cW_exit ?_
        refine eX_then_exit ?_
        have hq : (some (Ctl.out x29) : Option (Ctl (Int) (Int))) = some _ := hm
        replace hq := someE hq
        subst hq
        refine eX_outX hx38 (fun hr44 => ?_)
        replace hr44 := hr44.symm
        subst hr44
        refine eX_block_hit ?_
        exact eX_J (fun hst => ⟨x29, rfl, Fr.of hst (by kernel_rfl), hB, hZ⟩)
    · rintro a' w25 ⟨x26, hJ, hF27, hB, hZ⟩
      subst hJ
      refine Fr.goX hF27 (by kernel_rfl) ?_
      refine eX_then ?_
      refine cW_seq ?_
      refine cW_region ?_
      refine wS_pure 3 [(5, .bool (true)), (4, .int .i64 (x26)), (18, .int .i64 (x26))] (by kernel_rfl) ?_
      refine wS_end (by rfl) ?_
      refine eX_then ?_
      refine cW_ret ?_
      have hq : (some ((x26, true)) : Option ((Int) × (Bool))) = some _ := hm
      replace hq := someE hq
      subst hq
      refine eX_ret (vs := [.int .i64 (x26), .bool (true)]) [.tmp 4, .tmp 5] (by rfl) ⟨by (show lkE _ _ _ = _); kernel_rfl, ⟨by (show lkE _ _ _ = _); kernel_rfl, trivial⟩⟩ ?_
      exact ⟨rfl, hB⟩

set_option maxRecDepth 100000 in
/-- impl.tracksOk -/
theorem c_impl_tracksOk {w0 : World} {l0 : List (Int)} {A0 : Option Addr} {cap0 : Nat} {fp0 : List Nat} {l1 : List (Int)} {A1 : Option Addr} {cap1 : Nat} {fp1 : List Nat} {p2 : Int} {r : (Bool)} (hm : m_impl_tracksOk l0 l1 p2 = some r) (F0 : Sl 1 encI w0 fp0 A0 l0) (F1 : Sl 1 encI w0 fp1 A1 l1) :
    Calls Try.prog 70 #[.slice A0 (l0).length cap0, .slice A1 (l1).length cap1, .int .i64 (p2)] w0 fun e w' => e = .returned (.bool (r)) ∧ Chg [] w0 w' := by
  have L0 := F0.low
  have L1 := F1.low
  have hB : Chg [] w0 w0 := Chg.refl _ _
  have hZ := Nat.le_refl w0.heap.size
  unfold m_impl_tracksOk at hm
  refine enterE (N := 14) Try.func70 (by rfl) Try.ntmps70 (by simp) [(0, .slice A0 (l0).length cap0), (1, .slice A1 (l1).length cap1), (2, .int .i64 (p2))] (by rfl) (by kernel_rfl) (fun a => ?_)
  refine cW_seq ?_
  refine cW_region ?_
  refine wS_pure 1 [(6, .bool (false))] (by kernel_rfl) ?_
  refine wS_end (by rfl) ?_
  refine eX_then ?_
  refine cW_seq ?_
  refine cW_region ?_
  refine wS_pure 2 [(8, .slice A1 (l1).length cap1), (7, .slice A0 (l0).length cap0)] (by kernel_rfl) ?_
  obtain ⟨y3, hy4, hm⟩ := bindE hm
  refine wS_calls (d := 9) (f := 15) (vs := [.slice A0 (l0).length cap0, .slice A1 (l1).length cap1]) (by kernel_rfl) ent15 (c_impl_ValidRiver hy4 F0 F1) ?_
  rintro _ w5 ⟨rfl, hc6⟩
  replace F0 := F0.chg hc6 Dj.nil
  replace F1 := F1.chg hc6 Dj.nil
  replace hB := hB.inS hc6 inNil
  replace hZ := Nat.le_trans hZ hc6.size
  refine ⟨.bool (y3), rfl, ?_⟩
  refine wS_pure 1 [(10, .bool (y3))] (by kernel_rfl) ?_
  refine wS_bool y3 (fun hb7 => ?_) (fun hb7 => ?_)
  · have hm := condT hb7 hm
    rewrite [hb7]
    refine wS_pure 1 [(11, .int .i64 (p2))] (by kernel_rfl) ?_
    obtain ⟨y8, hy9, hm⟩ := bindE hm
    refine wS_calls (d := 12) (f := 71) (vs := [.int .i64 (p2), .int .i64 (0), .int .i64 (20)]) (by kernel_rfl) ent71 (c_impl_in hy9) ?_
    rintro _ w10 ⟨rfl, hc11⟩
    replace F0 := F0.chg hc11 Dj.nil
    replace F1 := F1.chg hc11 Dj.nil
    replace hB := hB.inS hc11 inNil
    replace hZ := Nat.le_trans hZ hc11.size
    refine ⟨.bool (y8), rfl, ?_⟩
    refine wS_pure 2 [(6, .bool (y8)), (13, .bool (y8))] (by kernel_rfl) ?_
    refine wS_end (by rfl) ?_
    refine eX_then ?_
    refine cW_ret ?_
    have hq : (some y8 : Option ((Bool))) = some _ := hm
    replace hq := someE hq
    subst hq
    refine eX_ret (vs := [.bool (y8)]) [.tmp 6] (by rfl) ⟨by (show lkE _ _ _ = _); kernel_rfl, trivial⟩ ?_
    exact ⟨rfl, hB⟩
  · have hm := condF hb7 hm
    rewrite [hb7]
    refine wS_pure 4 [(6, .bool (false)), (13, .bool (false)), (12, undef), (11, undef)] (by kernel_rfl) ?_
    refine wS_end (by rfl) ?_
    refine eX_then ?_
    refine cW_ret ?_
    have hq : (some false : Option ((Bool))) = some _ := hm
    replace hq := someE hq
    subst hq
    refine eX_ret (vs := [.bool (false)]) [.tmp 6] (by rfl) ⟨by (show lkE _ _ _ = _); kernel_rfl, trivial⟩ ?_
    exact ⟨rfl, hB⟩

set_option maxRecDepth 100000 in
/-- impl.FitsRiver -/
theorem c_impl_FitsRiver {w0 : World} {l0 : List (Int)} {A0 : Option Addr} {cap0 : Nat} {fp0 : List Nat} {l1 : List (Int)} {A1 : Option Addr} {cap1 : Nat} {fp1 : List Nat} {p2 : Int} {r : (Bool)} (hm : m_impl_FitsRiver l0 l1 p2 = some r) (F0 : Sl 1 encI w0 fp0 A0 l0) (F1 : Sl 1 encI w0 fp1 A1 l1) :
    Calls Try.prog 16 #[.slice A0 (l0).length cap0, .slice A1 (l1).length cap1, .int .i64 (p2)] w0 fun e w' => e = .returned (.bool (r)) ∧ Chg [] w0 w' := by
  have L0 := F0.low
  have L1 := F1.low
  have hB : Chg [] w0 w0 := Chg.refl _ _
  have hZ := Nat.le_refl w0.heap.size
  unfold m_impl_FitsRiver at hm
  refine enterE (N := 17) Try.func16 (by rfl) Try.ntmps16 (by simp) [(0, .slice A0 (l0).length cap0), (1, .slice A1 (l1).length cap1), (2, .int .i64 (p2))] (by rfl) (by kernel_rfl) (fun a => ?_)
  refine cW_seq ?_
  refine cW_region ?_
  refine wS_pure 1 [(6, .bool (false))] (by kernel_rfl) ?_
  refine wS_end (by rfl) ?_
  refine eX_then ?_
  refine cW_seq ?_
  refine cW_region ?_
  refine wS_pure 3 [(9, .int .i64 (p2)), (8, .slice A1 (l1).length cap1), (7, .slice A0 (l0).length cap0)] (by kernel_rfl) ?_
  obtain ⟨y3, hy4, hm⟩ := bindE hm
  refine wS_calls (d := 10) (f := 70) (vs := [.slice A0 (l0).length cap0, .slice A1 (l1).length cap1, .int .i64 (p2)]) (by kernel_rfl) ent70 (c_impl_tracksOk hy4 F0 F1) ?_
  rintro _ w5 ⟨rfl, hc6⟩
  replace F0 := F0.chg hc6 Dj.nil
  replace F1 := F1.chg hc6 Dj.nil
  replace hB := hB.inS hc6 inNil
  replace hZ := Nat.le_trans hZ hc6.size
  refine ⟨.bool (y3), rfl, ?_⟩
  refine wS_pure 1 [(11, .bool (y3))] (by kernel_rfl) ?_
  refine wS_bool y3 (fun hb7 => ?_) (fun hb7 => ?_)
  · have hm := condT hb7 hm
    rewrite [hb7]
    refine wS_pure 3 [(14, .int .i64 (p2)), (13, .slice A1 (l1).length cap1), (12, .slice A0 (l0).length cap0)] (by kernel_rfl) ?_
    obtain ⟨y8, hy9, hm⟩ := bindE hm
    refine wS_calls (d := 15) (f := 68) (vs := [.slice A0 (l0).length cap0, .slice A1 (l1).length cap1, .int .i64 (p2)]) (by kernel_rfl) ent68 (c_impl_fits hy9 F0 F1) ?_
    rintro _ w10 ⟨rfl, hc11⟩
    replace F0 := F0.chg hc11 Dj.nil
    replace F1 := F1.chg hc11 Dj.nil
    replace hB := hB.inS hc11 inNil
    replace hZ := Nat.le_trans hZ hc11.size
    refine ⟨.bool (y8), rfl, ?_⟩
    refine wS_pure 2 [(6, .bool (y8)), (16, .bool (y8))] (by kernel_rfl) ?_
    refine wS_end (by rfl) ?_
    refine eX_then ?_
    refine cW_ret ?_
    have hq : (some y8 : Option ((Bool))) = some _ := hm
    replace hq := someE hq
    subst hq
    refine eX_ret (vs := [.bool (y8)]) [.tmp 6] (by rfl) ⟨by (show lkE _ _ _ = _); kernel_rfl, trivial⟩ ?_
    exact ⟨rfl, hB⟩
  · have hm := condF hb7 hm
    rewrite [hb7]
    refine wS_pure 6 [(6, .bool (false)), (16, .bool (false)), (15, undef), (14, undef), (13, undef), (12, undef)] (by kernel_rfl) ?_
    refine wS_end (by rfl) ?_
    refine eX_then ?_
    refine cW_ret ?_
    have hq : (some false : Option ((Bool))) = some _ := hm
    replace hq := someE hq
    subst hq
    refine eX_ret (vs := [.bool (false)]) [.tmp 6] (by rfl) ⟨by (show lkE _ _ _ = _); kernel_rfl, trivial⟩ ?_
    exact ⟨rfl, hB⟩

set_option maxRecDepth 100000 in
/-- impl.corners -/
theorem c_impl_corners {w0 : World} {l0 : List (Int × Int)} {A0 : Option Addr} {cap0 : Nat} {fp0 : List Nat} {r : (List (Int × Int))} (hm : m_impl_corners l0 = some r) (F0 : Sl 2 encII w0 fp0 A0 l0) :
    Calls Try.prog 72 #[.slice A0 (l0).length cap0] w0 fun e w' => ∃ A100 cap100 fp100, e = .returned (.slice A100 (r).length cap100) ∧ Ow 2 encII 37 w' fp100 A100 cap100 r ∧ (∀ x ∈ fp100, w0.heap.size ≤ x) ∧ Chg [] w0 w' := by
  have L0 := F0.low
  have hB : Chg [] w0 w0 := Chg.refl _ _
  have hZ := Nat.le_refl w0.heap.size
  unfold m_impl_corners at hm
  refine enterE (N := 59) Try.func72 (by rfl) Try.ntmps72 (by simp) [(0, .slice A0 (l0).length cap0)] (by rfl) (by kernel_rfl) (fun a => ?_)
  refine cW_seq ?_
  refine cW_region ?_
  refine wS_pure 1 [(2, .slice none 0 0)] (by kernel_rfl) ?_
  refine wS_end (by rfl) ?_
  refine eX_then ?_
  refine cW_seq ?_
  refine cW_region ?_
  refine wS_bs0 (α := Int × Int) (enc := encII) (d := 6) (t := 32) (T := 37) (by kernel_rfl) el32 ?_
  intro b2 w3 G4 F5 hc6
  replace F0 := F0.chg hc6 Dj.nil
  replace hB := hB.inS hc6 inNil
  replace G4 := Nat.le_trans hZ G4
  replace G4 := low1 G4
  replace hZ := Nat.le_trans hZ hc6.size
  refine wS_pure 1 [(3, .slice (some ⟨b2, 0, none⟩) (([] : List (Int × Int))).length 0)] (by kernel_rfl) ?_
  refine wS_end (by rfl) ?_
  refine eX_then ?_
  refine cW_seq ?_
  refine cW_seq ?_
  refine cW_region ?_
  refine wS_pure 3 [(9, .int .i64 (0)), (8, .int .i64 (((l0).length : Int))), (7, .slice A0 (l0).length cap0)] (by kernel_rfl) ?_
  refine wS_end (by rfl) ?_
  refine eX_then ?_
  obtain ⟨r503, hr504, hm⟩ := bindE hm
  have hm505 := hm
  refine cW_cut (fun a' w' => ∃ l484 : List (Int × Int), ∃ A485 : Option Addr, ∃ cap486 : Nat, ∃ fp487 : List Nat, l484 = r503 ∧ Fr 59 [(3, .slice A485 (l484).length cap486)] a' ∧ Ow 2 encII 37 w' fp487 A485 cap486 l484 ∧ (∀ x ∈ fp487, w0.heap.size ≤ x) ∧ Chg [] w0 w' ∧ w0.heap.size ≤ w'.heap.size) ?_ ?_
  · refine cW_block ?_
    refine cW_loop _ (fun (s506 : (List (Int × Int)) × Int) a' w' => ∃ l493 : List (Int × Int), ∃ A494 : Option Addr, ∃ cap495 : Nat, ∃ fp496 : List Nat, ∃ x498 : Int, (l493, x498) = s506 ∧ Fr 59 [(0, .slice A0 (l0).length cap0), (3, .slice A494 (l493).length cap495), (7, .slice A0 (l0).length cap0), (8, .int .i64 (((l0).length : Int))), (9, .int .i64 (x498))] a' ∧ Sl 2 encII w' fp0 A0 l0 ∧ Ow 2 encII 37 w' fp496 A494 cap495 l493 ∧ (∀ x ∈ fp496, w0.heap.size ≤ x) ∧ Chg [] w0 w' ∧ w0.heap.size ≤ w'.heap.size) hr504 (fun hst => ⟨([] : List (Int × Int)), (some ⟨b2, 0, none⟩), 0, [b2], 0, rfl, Fr.of hst (by kernel_rfl), F0, F5, G4, hB, hZ⟩) ?_
    rintro _ c507 a' w492 ⟨l493, A494, cap495, fp496, x498, rfl, hF499, F500, F501, G502, hB, hZ⟩ hx508
    refine Fr.goOn hF499 (by kernel_rfl) ?_
    have hm := hx508
    unfold m_impl_corners_s1 at hm
    refine cW_seq ?_
    refine cW_region ?_
    refine wS_pure 1 [(10, .bool (decide (x498 < (((l0).length : Int)))))] (by kernel_rfl) ?_
    refine wS_end (by rfl) ?_
    refine eX_then ?_
    refine cW_seq ?_
    refine cW_cond (t := decide (x498 < (((l0).length : Int)))) (by kernel_rfl) (fun hb509 => ?_) (fun hb509 => ?_)
    · have hm := condT hb509 hm
      refine cW_skip ?_
      refine eX_then ?_
      refine cW_seq ?_
      refine cW_block ?_
      obtain ⟨s629, hs630, hm⟩ := bindE hm
      refine cW_cut (fun a' w' => ∃ l620 : List (Int × Int), ∃ A621 : Option Addr, ∃ cap622 : Nat, ∃ fp623 : List Nat, l620 = s629 ∧ Fr 59 [(0, .slice A0 (l0).length cap0), (3, .slice A621 (l620).length cap622), (7, .slice A0 (l0).length cap0), (8, .int .i64 (((l0).length : Int))), (9, .int .i64 (x498))] a' ∧ Sl 2 encII w' fp0 A0 l0 ∧ Ow 2 encII 37 w' fp623 A621 cap622 l620 ∧ (∀ x ∈ fp623, w0.heap.size ≤ x) ∧ Chg [] w0 w' ∧ w0.heap.size ≤ w'.heap.size) ?_ ?_
      · have hm := hs630
        refine cW_seq ?_
        refine cW_region ?_
        refine wS_pure 1 [(11, .int .i64 (x498))] (by kernel_rfl) ?_
        obtain ⟨x631, hx632, hm⟩ := bindE hm
        refine wS_idx (d := 12) (T := 32) (A := A0) (n := (l0).length) (cap := cap0) (kd := .i64) (m := x498) (by kernel_rfl) sl32 (F500.is hx632) ?_
        refine wS_loadA (d := 13) (T := 37) (ad := (elA A0 2 (x498) 0)) (vs := [.int .i64 (x631.1), .int .i64 (x631.2)]) (by kernel_rfl) vt37 (fun i u hu => Sl.cells_at F500 hx632 0 hu (by rfl)) ?_
        refine wS_alloc (d := 5) (T := 37) (z := .agg #[.int .i64 (0), .int .i64 (0)]) (by kernel_rfl) (by kernel_rfl) ?_
        intro b633 w634 G635 F636 hc637
        replace F636 : Cl w634 b633 37 [.int .i64 (0), .int .i64 (0)] := F636
        have D639 : Dj fp496 [b633] := Dj.of F501.low (low1 G635)
        replace F500 := F500.chg hc637 Dj.nil
        replace F501 := F501.chg hc637 Dj.nil
        replace hB := hB.inS hc637 inNil
        replace G635 := Nat.le_trans hZ G635
        replace hZ := Nat.le_trans hZ hc637.size
        refine wS_pure 1 [(4, .int .i64 (x498))] (by kernel_rfl) ?_
        refine wS_store (T := 37) (g := b633) (o := 0) (ad := ⟨b633, 0, none⟩) (v := .agg #[.int .i64 (x631.1), .int .i64 (x631.2)]) (vs := [.int .i64 (x631.1), .int .i64 (x631.2)]) (by kernel_rfl) (by rfl) sz37 (by rfl) (by rfl) F636 (by simp only [List.length_cons, List.length_nil]; omega) ?_
        intro w640 F641 hc642
        replace F500 := F500.chg hc642 (Dj.of L0 (low1 G635))
        replace F501 := F501.chg hc642 D639
        replace hB := hB.inS hc642 (inLow (low1 G635))
        replace hZ := Nat.le_trans hZ hc642.size
        replace F641 : Cl w640 b633 37 [.int .i64 (x631.1), .int .i64 (x631.2)] := F641
        clear F636
        refine wS_end (by rfl) ?_
        refine eX_then ?_
        refine cW_seq ?_
        refine cW_drawnTail [] 36 (by kernel_rfl) (by kernel_rfl) (fun w659 hc660 => ?_)
        replace F500 := F500.chg hc660 Dj.nil
        replace F501 := F501.chg hc660 Dj.nil
        replace F641 := F641.chg hc660 notNil
        replace hB := hB.inS hc660 inNil
        replace hZ := Nat.le_trans hZ hc660.size
        have hS := Chg.refl [] w659
        have Z661 := F500
        have Z662 := F501
        have Z663 := F641
        refine wH_take [0, 1, 2] [2, 1, 0] [(16, .bool (x498 == 0)), (15, .bool (x498 == 0)), (14, .int .i64 (x498))] (by kernel_rfl) (qT (qT (qT (qB (qT (qL (qB (qT (qT qZ))))))))) (by kernel_rfl) ?_
        refine wH_bool (x498 == 0) (fun hb664 => ?_) (fun hb664 => ?_)
        · have hm := condT hb664 hm
          rewrite [hb664]
          refine wH_take [3, 4, 5, 6, 7, 8, 9, 10, 11, 12, 13, 14, 15, 16, 17, 18, 19, 20, 21, 22, 23, 24, 25, 26, 27, 28, 29, 30, 31, 32, 33, 34, 35] [35, 34, 33, 32, 31, 30, 29, 28, 27, 26, 25, 24, 23, 22, 21, 20, 19, 18, 17, 16, 15, 14, 13, 12, 11, 10, 9, 8, 7, 6, 5, 4, 3, 2, 1, 0] [(49, undef), (48, undef), (47, undef), (46, undef), (45, undef), (44, undef), (43, undef), (42, undef), (41, undef), (40, undef), (39, undef), (38, undef), (37, undef), (36, undef), (35, undef), (34, undef), (33, undef), (32, undef), (31, undef), (30, undef), (29, undef), (28, undef), (27, undef), (26, undef), (25, undef), (24, undef), (23, .bool (true)), (22, .bool (true)), (21, undef), (20, undef), (19, undef), (18, undef), (17, undef)] (by kernel_rfl) (qT (qT (qT (qB (qT (qL (qB (qT (qT qZ))))))))) (by kernel_rfl) ?_
          refine wH_done (by kernel_rfl) ?_
          refine eX_tail ?_
          refine wS_pure 3 [(52, .bool (true)), (51, undef), (50, undef)] (by kernel_rfl) ?_
          refine wS_end (by rfl) ?_
          refine eX_then ?_
          refine cW_prune [(0, .slice A0 (l0).length cap0), (3, .slice A494 (l493).length cap495), (5, .pointer (some ⟨b633, 0, none⟩)), (7, .slice A0 (l0).length cap0), (8, .int .i64 (((l0).length : Int))), (9, .int .i64 (x498)), (52, .bool (true))] (by kernel_rfl) (by kernel_rfl) (fun a665 => ?_)
          refine cW_cond_t (by kernel_rfl) ?_
          refine cW_region ?_
          refine wS_pure 1 [(53, .slice A494 (l493).length cap495)] (by kernel_rfl) ?_
          refine wS_loadA (d := 54) (T := 37) (ad := ⟨b633, 0, none⟩) (vs := [.int .i64 (x631.1), .int .i64 (x631.2)]) (by kernel_rfl) vt37 (fun i u hu => box_cells F641 0 hu (by rfl)) ?_
          refine wS_bs (enc := encII) ([(x631.1, x631.2)] : List (Int × Int)) [.int .i64 (x631.1), .int .i64 (x631.2)] (d := 55) (t := 32) (T := 37) (n := 1) (ps := [(0, .agg #[.int .i64 (x631.1), .int .i64 (x631.2)])]) (by kernel_rfl) el32 encII_ok (by rfl) (by omega) (by omega) (by kernel_rfl) (by rfl) ?_
          intro b666 w667 G668 F669 hc670
          have D672 : Dj fp496 [b666] := Dj.of F501.low (low1 G668)
          have D673 : Dj [b633] [b666] := Dj.of (lt1 F641.lt) (low1 G668)
          replace F500 := F500.chg hc670 Dj.nil
          replace F501 := F501.chg hc670 Dj.nil
          replace F641 := F641.chg hc670 notNil
          replace hB := hB.inS hc670 inNil
          replace G668 := Nat.le_trans hZ G668
          replace G668 := low1 G668
          replace hZ := Nat.le_trans hZ hc670.size
          obtain ⟨_, hk674, hm⟩ := bindE hm
          replace hk674 := apE hk674
          refine wS_append (enc := encII) (l := (l493 : List (Int × Int))) (l2 := (([(x631.1, x631.2)] : List (Int × Int)) : List (Int × Int))) (d := 56) (t := 32) (T := 37) (A := A494) (A2 := (some ⟨b666, 0, none⟩)) (cap := cap495) (cap2 := 1) (by kernel_rfl) el32 encII_ok F501 (F669.sl encII_ok) (by rfl) hk674 ?_
          intro w675 fp676 A677 cap678 F679 hc680 hp681
          have G683 := low_ap G502 hZ hp681
          have D684 : Dj [b633] fp676 := Dj.ap (D639).symm (lt1 F641.lt) hp681
          have D685 : Dj [b666] fp676 := Dj.ap (D672).symm F669.low hp681
          replace F500 := F500.chg hc680 (Dj.of L0 G502)
          replace F641 := F641.chg hc680 (dj1 (D639).symm)
          replace F669 := F669.chg hc680 (D672).symm
          replace hB := hB.inS hc680 (inLow G502)
          replace hZ := Nat.le_trans hZ hc680.size
          refine wS_pure 1 [(3, .slice A677 (l493 ++ (([(x631.1, x631.2)] : List (Int × Int)))).length cap678)] (by kernel_rfl) ?_
          refine wS_end (by rfl) ?_
          have hq : (some (l493 ++ (([(x631.1, x631.2)] : List (Int × Int)))) : Option ((List (Int × Int)))) = some _ := hm
          replace hq := someE hq
          subst hq
          exact eX_J (fun hst => ⟨l493 ++ (([(x631.1, x631.2)] : List (Int × Int))), A677, cap678, fp676, rfl, Fr.of hst (by kernel_rfl), F500, F679, G683, hB, hZ⟩)
        · have hm := condF hb664 hm
          rewrite [hb664]
          refine wH_take [3, 4, 5, 6, 7, 8, 9] [9, 8, 7, 6, 5, 4, 3, 2, 1, 0] [(23, .bool (x498 == (wr ((((l0).length : Int)) - 1)))), (22, .bool (x498 == (wr ((((l0).length : Int)) - 1)))), (21, .bool (x498 == (wr ((((l0).length : Int)) - 1)))), (20, .int .i64 (wr ((((l0).length : Int)) - 1))), (19, .int .i64 (((l0).length : Int))), (18, .slice A0 (l0).length cap0), (17, .int .i64 (x498))] (by kernel_rfl) (qT (qT (qT (qB (qT (qL (qB (qT (qT qZ))))))))) (by kernel_rfl) ?_
          refine wH_bool (x498 == (wr ((((l0).length : Int)) - 1))) (fun hb686 => ?_) (fun hb686 => ?_)
          · have hm := condT hb686 hm
            rewrite [hb686]
            refine wH_take [10, 11, 12, 13, 14, 15, 16, 17, 18, 19, 20, 21, 22, 23, 24, 25, 26, 27, 28, 29, 30, 31, 32, 33, 34, 35] [35, 34, 33, 32, 31, 30, 29, 28, 27, 26, 25, 24, 23, 22, 21, 20, 19, 18, 17, 16, 15, 14, 13, 12, 11, 10, 9, 8, 7, 6, 5, 4, 3, 2, 1, 0] [(49, undef), (48, undef), (47, undef), (46, undef), (45, undef), (44, undef), (43, undef), (42, undef), (41, undef), (40, undef), (39, undef), (38, undef), (37, undef), (36, undef), (35, undef), (34, undef), (33, undef), (32, undef), (31, undef), (30, undef), (29, undef), (28, undef), (27, undef), (26, undef), (25, undef), (24, undef)] (by kernel_rfl) (qT (qT (qT (qB (qT (qL (qB (qT (qT qZ))))))))) (by kernel_rfl) ?_
            refine wH_done (by kernel_rfl) ?_
            refine eX_tail ?_
            refine wS_pure 3 [(52, .bool (true)), (51, undef), (50, undef)] (by kernel_rfl) ?_
            refine wS_end (by rfl) ?_
            refine eX_then ?_
            refine cW_prune [(0, .slice A0 (l0).length cap0), (3, .slice A494 (l493).length cap495), (5, .pointer (some ⟨b633, 0, none⟩)), (7, .slice A0 (l0).length cap0), (8, .int .i64 (((l0).length : Int))), (9, .int .i64 (x498)), (52, .bool (true))] (by kernel_rfl) (by kernel_rfl) (fun a687 => ?_)
            refine cW_cond_t (by kernel_rfl) ?_
            refine cW_region ?_
            refine wS_pure 1 [(53, .slice A494 (l493).length cap495)] (by kernel_rfl) ?_
            refine wS_loadA (d := 54) (T := 37) (ad := ⟨b633, 0, none⟩) (vs := [.int .i64 (x631.1), .int .i64 (x631.2)]) (by kernel_rfl) vt37 (fun i u hu => box_cells F641 0 hu (by rfl)) ?_
            refine wS_bs (enc := encII) ([(x631.1, x631.2)] : List (Int × Int)) [.int .i64 (x631.1), .int .i64 (x631.2)] (d := 55) (t := 32) (T := 37) (n := 1) (ps := [(0, .agg #[.int .i64 (x631.1), .int .i64 (x631.2)])]) (by kernel_rfl) el32 encII_ok (by rfl) (by omega) (by omega) (by kernel_rfl) (by rfl) ?_
            intro b688 w689 G690 F691 hc692
            have D694 : Dj fp496 [b688] := Dj.of F501.low (low1 G690)
            have D695 : Dj [b633] [b688] := Dj.of (lt1 F641.lt) (low1 G690)
            replace F500 := F500.chg hc692 Dj.nil
            replace F501 := F501.chg hc692 Dj.nil
            replace F641 := F641.chg hc692 notNil
            replace hB := hB.inS hc692 inNil
            replace G690 := Nat.le_trans hZ G690
            replace G690 := low1 G690
            replace hZ := Nat.le_trans hZ hc692.size
            obtain ⟨_, hk696, hm⟩ := bindE hm
            replace hk696 := apE hk696
            refine wS_append (enc := encII) (l := (l493 : List (Int × Int))) (l2 := (([(x631.1, x631.2)] : List (Int × Int)) : List (Int × Int))) (d := 56) (t := 32) (T := 37) (A := A494) (A2 := (some ⟨b688, 0, none⟩)) (cap := cap495) (cap2 := 1) (by kernel_rfl) el32 encII_ok F501 (F691.sl encII_ok) (by rfl) hk696 ?_
            intro w697 fp698 A699 cap700 F701 hc702 hp703
            have G705 := low_ap G502 hZ hp703
            have D706 : Dj [b633] fp698 := Dj.ap (D639).symm (lt1 F641.lt) hp703
            have D707 : Dj [b688] fp698 := Dj.ap (D694).symm F691.low hp703
            replace F500 := F500.chg hc702 (Dj.of L0 G502)
            replace F641 := F641.chg hc702 (dj1 (D639).symm)
            replace F691 := F691.chg hc702 (D694).symm
            replace hB := hB.inS hc702 (inLow G502)
            replace hZ := Nat.le_trans hZ hc702.size
            refine wS_pure 1 [(3, .slice A699 (l493 ++ (([(x631.1, x631.2)] : List (Int × Int)))).length cap700)] (by kernel_rfl) ?_
            refine wS_end (by rfl) ?_
            have hq : (some (l493 ++ (([(x631.1, x631.2)] : List (Int × Int)))) : Option ((List (Int × Int)))) = some _ := hm
            replace hq := someE hq
            subst hq
            exact eX_J (fun hst => ⟨l493 ++ (([(x631.1, x631.2)] : List (Int × Int))), A699, cap700, fp698, rfl, Fr.of hst (by kernel_rfl), F500, F701, G705, hB, hZ⟩)
          · have hm := condF hb686 hm
            rewrite [hb686]
            refine wH_take [10, 11, 12] [12, 11, 10, 9, 8, 7, 6, 5, 4, 3, 2, 1, 0] [(26, .int .i64 (wr (x498 - 1))), (25, .int .i64 (x498)), (24, .slice A0 (l0).length cap0)] (by kernel_rfl) (qT (qT (qT (qB (qT (qL (qB (qT (qT qZ))))))))) (by kernel_rfl) ?_
            obtain ⟨x708, hx709, hm⟩ := bindE hm
            refine wH_idx (i := 13) (d := 27) (T := 32) (A := A0) (n := (l0).length) (cap := cap0) (kd := .i64) (m := wr (x498 - 1)) (by kernel_rfl) (qT (qT (qT (qB (qT (qL (qB (qT (qT qZ))))))))) (by kernel_rfl) (by kernel_rfl) sl32 (F500.is hx709) ?_
            refine wH_take [14] [14, 13, 12, 11, 10, 9, 8, 7, 6, 5, 4, 3, 2, 1, 0] [(28, .pointer (some (elA A0 2 (wr (x498 - 1)) 0)))] (by kernel_rfl) (qT (qT (qT (qB (qT (qL (qB (qT (qT qZ))))))))) (by kernel_rfl) ?_
            refine wH_load1 (i := 15) (d := 29) (T := 2) (ad := (elA A0 2 (wr (x498 - 1)) 0)) (v := .int .i64 (x708.1)) (by kernel_rfl) (qT (qT (qT (qB (qT (qL (qB (qT (qT qZ))))))))) (by kernel_rfl) (by kernel_rfl) vt2 (fun W hW => Sl.cell (Z661.chg hW Dj.nil) hx709 0 (by rfl)) ?_
            refine wH_take [16, 17, 18] [18, 17, 16, 15, 14, 13, 12, 11, 10, 9, 8, 7, 6, 5, 4, 3, 2, 1, 0] [(32, .int .i64 (wr (x498 + 1))), (31, .int .i64 (x498)), (30, .slice A0 (l0).length cap0)] (by kernel_rfl) (qT (qT (qT (qB (qT (qL (qB (qT (qT qZ))))))))) (by kernel_rfl) ?_
            obtain ⟨x710, hx711, hm⟩ := bindE hm
            refine wH_idx (i := 19) (d := 33) (T := 32) (A := A0) (n := (l0).length) (cap := cap0) (kd := .i64) (m := wr (x498 + 1)) (by kernel_rfl) (qT (qT (qT (qB (qT (qL (qB (qT (qT qZ))))))))) (by kernel_rfl) (by kernel_rfl) sl32 (F500.is hx711) ?_
            refine wH_take [20] [20, 19, 18, 17, 16, 15, 14, 13, 12, 11, 10, 9, 8, 7, 6, 5, 4, 3, 2, 1, 0] [(34, .pointer (some (elA A0 2 (wr (x498 + 1)) 0)))] (by kernel_rfl) (qT (qT (qT (qB (qT (qL (qB (qT (qT qZ))))))))) (by kernel_rfl) ?_
            refine wH_load1 (i := 21) (d := 35) (T := 2) (ad := (elA A0 2 (wr (x498 + 1)) 0)) (v := .int .i64 (x710.1)) (by kernel_rfl) (qT (qT (qT (qB (qT (qL (qB (qT (qT qZ))))))))) (by kernel_rfl) (by kernel_rfl) vt2 (fun W hW => Sl.cell (Z661.chg hW Dj.nil) hx711 0 (by rfl)) ?_
            refine wH_take [22, 23] [23, 22, 21, 20, 19, 18, 17, 16, 15, 14, 13, 12, 11, 10, 9, 8, 7, 6, 5, 4, 3, 2, 1, 0] [(37, .bool (x708.1 != x710.1)), (36, .bool (x708.1 != x710.1))] (by kernel_rfl) (qT (qT (qT (qB (qT (qL (qB (qT (qT qZ))))))))) (by kernel_rfl) ?_
            refine wH_bool (x708.1 != x710.1) (fun hb712 => ?_) (fun hb712 => ?_)
            · have hm := condT hb712 hm
              rewrite [hb712]
              refine wH_take [24, 25, 26] [26, 25, 24, 23, 22, 21, 20, 19, 18, 17, 16, 15, 14, 13, 12, 11, 10, 9, 8, 7, 6, 5, 4, 3, 2, 1, 0] [(40, .int .i64 (wr (x498 - 1))), (39, .int .i64 (x498)), (38, .slice A0 (l0).length cap0)] (by kernel_rfl) (qT (qT (qT (qB (qT (qL (qB (qT (qT qZ))))))))) (by kernel_rfl) ?_
              obtain ⟨x713, hx714, hm⟩ := bindE hm
              refine wH_idx (i := 27) (d := 41) (T := 32) (A := A0) (n := (l0).length) (cap := cap0) (kd := .i64) (m := wr (x498 - 1)) (by kernel_rfl) (qT (qT (qT (qB (qT (qL (qB (qT (qT qZ))))))))) (by kernel_rfl) (by kernel_rfl) sl32 (F500.is hx714) ?_
              refine wH_take [28] [28, 27, 26, 25, 24, 23, 22, 21, 20, 19, 18, 17, 16, 15, 14, 13, 12, 11, 10, 9, 8, 7, 6, 5, 4, 3, 2, 1, 0] [(42, .pointer (some (elA A0 2 (wr (x498 - 1)) 1)))] (by kernel_rfl) (qT (qT (qT (qB (qT (qL (qB (qT (qT qZ))))))))) (by kernel_rfl) ?_
              refine wH_load1 (i := 29) (d := 43) (T := 2) (ad := (elA A0 2 (wr (x498 - 1)) 1)) (v := .int .i64 (x713.2)) (by kernel_rfl) (qT (qT (qT (qB (qT (qL (qB (qT (qT qZ))))))))) (by kernel_rfl) (by kernel_rfl) vt2 (fun W hW => Sl.cell (Z661.chg hW Dj.nil) hx714 1 (by rfl)) ?_
              refine wH_take [30, 31, 32] [32, 31, 30, 29, 28, 27, 26, 25, 24, 23, 22, 21, 20, 19, 18, 17, 16, 15, 14, 13, 12, 11, 10, 9, 8, 7, 6, 5, 4, 3, 2, 1, 0] [(46, .int .i64 (wr (x498 + 1))), (45, .int .i64 (x498)), (44, .slice A0 (l0).length cap0)] (by kernel_rfl) (qT (qT (qT (qB (qT (qL (qB (qT (qT qZ))))))))) (by kernel_rfl) ?_
              obtain ⟨x715, hx716, hm⟩ := bindE hm
              refine wH_idx (i := 33) (d := 47) (T := 32) (A := A0) (n := (l0).length) (cap := cap0) (kd := .i64) (m := wr (x498 + 1)) (by kernel_rfl) (qT (qT (qT (qB (qT (qL (qB (qT (qT qZ))))))))) (by kernel_rfl) (by kernel_rfl) sl32 (F500.is hx716) ?_
              refine wH_take [34] [34, 33, 32, 31, 30, 29, 28, 27, 26, 25, 24, 23, 22, 21, 20, 19, 18, 17, 16, 15, 14, 13, 12, 11, 10, 9, 8, 7, 6, 5, 4, 3, 2, 1, 0] [(48, .pointer (some (elA A0 2 (wr (x498 + 1)) 1)))] (by kernel_rfl) (qT (qT (qT (qB (qT (qL (qB (qT (qT qZ))))))))) (by kernel_rfl) ?_
              refine wH_load1 (i := 35) (d := 49) (T := 2) (ad := (elA A0 2 (wr (x498 + 1)) 1)) (v := .int .i64 (x715.2)) (by kernel_rfl) (qT (qT (qT (qB (qT (qL (qB (qT (qT qZ))))))))) (by kernel_rfl) (by kernel_rfl) vt2 (fun W hW => Sl.cell (Z661.chg hW Dj.nil) hx716 1 (by rfl)) ?_
              refine wH_done (by kernel_rfl) ?_
              refine eX_tail ?_
              refine wS_pure 3 [(52, .bool (x713.2 != x715.2)), (51, .bool (x713.2 != x715.2)), (50, .bool (x713.2 != x715.2))] (by kernel_rfl) ?_
              refine wS_end (by rfl) ?_
              refine eX_then ?_
              refine cW_prune [(0, .slice A0 (l0).length cap0), (3, .slice A494 (l493).length cap495), (5, .pointer (some ⟨b633, 0, none⟩)), (7, .slice A0 (l0).length cap0), (8, .int .i64 (((l0).length : Int))), (9, .int .i64 (x498)), (52, .bool (x713.2 != x715.2))] (by kernel_rfl) (by kernel_rfl) (fun a717 => ?_)
              refine cW_cond (t := x713.2 != x715.2) (by kernel_rfl) (fun hb718 => ?_) (fun hb718 => ?_)
              · have hm := condT hb718 hm
                refine cW_region ?_
                refine wS_pure 1 [(53, .slice A494 (l493).length cap495)] (by kernel_rfl) ?_
                refine wS_loadA (d := 54) (T := 37) (ad := ⟨b633, 0, none⟩) (vs := [.int .i64 (x631.1), .int .i64 (x631.2)]) (by kernel_rfl) vt37 (fun i u hu => box_cells F641 0 hu (by rfl)) ?_
                refine wS_bs (enc := encII) ([(x631.1, x631.2)] : List (Int × Int)) [.int .i64 (x631.1), .int .i64 (x631.2)] (d := 55) (t := 32) (T := 37) (n := 1) (ps := [(0, .agg #[.int .i64 (x631.1), .int .i64 (x631.2)])]) (by kernel_rfl) el32 encII_ok (by rfl) (by omega) (by omega) (by kernel_rfl) (by rfl) ?_
                intro b719 w720 G721 F722 hc723
                have D725 : Dj fp496 [b719] := Dj.of F501.low (low1 G721)
                have D726 : Dj [b633] [b719] := Dj.of (lt1 F641.lt) (low1 G721)
                replace F500 := F500.chg hc723 Dj.nil
                replace F501 := F501.chg hc723 Dj.nil
                replace F641 := F641.chg hc723 notNil
                replace hB := hB.inS hc723 inNil
                replace G721 := Nat.le_trans hZ G721
                replace G721 := low1 G721
                replace hZ := Nat.le_trans hZ hc723.size
                obtain ⟨_, hk727, hm⟩ := bindE hm
                replace hk727 := apE hk727
                refine wS_append (enc := encII) (l := (l493 : List (Int × Int))) (l2 := (([(x631.1, x631.2)] : List (Int × Int)) : List (Int × Int))) (d := 56) (t := 32) (T := 37) (A := A494) (A2 := (some ⟨b719, 0, none⟩)) (cap := cap495) (cap2 := 1) (by kernel_rfl) el32 encII_ok F501 (F722.sl encII_ok) (by rfl) hk727 ?_
                intro w728 fp729 A730 cap731 F732 hc733 hp734
                have G736 := low_ap G502 hZ hp734
                have D737 : Dj [b633] fp729 := Dj.ap (D639).symm (lt1 F641.lt) hp734
                have D738 : Dj [b719] fp729 := Dj.ap (D725).symm F722.low hp734
                replace F500 := F500.chg hc733 (Dj.of L0 G502)
                replace F641 := F641.chg hc733 (dj1 (D639).symm)
                replace F722 := F722.chg hc733 (D725).symm
                replace hB := hB.inS hc733 (inLow G502)
                replace hZ := Nat.le_trans hZ hc733.size
                refine wS_pure 1 [(3, .slice A730 (l493 ++ (([(x631.1, x631.2)] : List (Int × Int)))).length cap731)] (by kernel_rfl) ?_
                refine wS_end (by rfl) ?_
                have hq : (some (l493 ++ (([(x631.1, x631.2)] : List (Int × Int)))) : Option ((List (Int × Int)))) = some _ := hm
                replace hq := someE hq
                subst hq
                exact eX_J (fun hst => ⟨l493 ++ (([(x631.1, x631.2)] : List (Int × Int))), A730, cap731, fp729, rfl, Fr.of hst (by kernel_rfl), F500, F732, G736, hB, hZ⟩)
              · have hm := condF hb718 hm
                refine cW_skip ?_
                have hq : (some l493 : Option ((List (Int × Int)))) = some _ := hm
                replace hq := someE hq
                subst hq
                exact eX_J (fun hst => ⟨l493, A494, cap495, fp496, rfl, Fr.of hst (by kernel_rfl), F500, F501, G502, hB, hZ⟩)
            · have hm := condF hb712 hm
              rewrite [hb712]
              refine wH_take [24, 25, 26, 27, 28, 29, 30, 31, 32, 33, 34, 35] [35, 34, 33, 32, 31, 30, 29, 28, 27, 26, 25, 24, 23, 22, 21, 20, 19, 18, 17, 16, 15, 14, 13, 12, 11, 10, 9, 8, 7, 6, 5, 4, 3, 2, 1, 0] [(49, undef), (48, undef), (47, undef), (46, undef), (45, undef), (44, undef), (43, undef), (42, undef), (41, undef), (40, undef), (39, undef), (38, undef)] (by kernel_rfl) (qT (qT (qT (qB (qT (qL (qB (qT (qT qZ))))))))) (by kernel_rfl) ?_
              refine wH_done (by kernel_rfl) ?_
              refine eX_tail ?_
              refine wS_pure 3 [(52, .bool (false)), (51, .bool (false)), (50, undef)] (by kernel_rfl) ?_
              refine wS_end (by rfl) ?_
              refine eX_then ?_
              refine cW_prune [(0, .slice A0 (l0).length cap0), (3, .slice A494 (l493).length cap495), (5, .pointer (some ⟨b633, 0, none⟩)), (7, .slice A0 (l0).length cap0), (8, .int .i64 (((l0).length : Int))), (9, .int .i64 (x498)), (52, .bool (false))] (by kernel_rfl) (by kernel_rfl) (fun a739 => ?_)
              refine cW_cond_f (by kernel_rfl) ?_
              refine cW_skip ?_
              have hq : (some l493 : Option ((List (Int × Int)))) = some _ := hm
              replace hq := someE hq
              subst hq
              exact eX_J (fun hst => ⟨l493, A494, cap495, fp496, rfl, Fr.of hst (by kernel_rfl), F500, F501, G502, hB, hZ⟩)
      · rintro a' w619 ⟨l620, A621, cap622, fp623, hJ, hF625, F626, F627, G628, hB, hZ⟩
        subst hJ
        refine Fr.goX hF625 (by kernel_rfl) ?_
        refine eX_block ?_
        refine eX_then ?_
        refine cW_region ?_
        refine wS_pure 2 [(9, .int .i64 (wr (x498 + 1))), (57, .int .i64 (wr (x498 + 1)))] (by kernel_rfl) ?_
        refine wS_end (by rfl) ?_
        have hq : (some (Ctl.next ((l620, wr (x498 + 1)))) : Option (Ctl ((List (Int × Int)) × Int) ((List (Int × Int))))) = some _ := hm
        replace hq := someE hq
        subst hq
        exact eX_next hx508 (fun hst => ⟨l620, A621, cap622, fp623, wr (x498 + 1), rfl, Fr.of hst (by kernel_rfl), F626, F627, G628, hB, hZ⟩)
    · have hm := condF hb509 hm
      refine cW_exit ?_
      refine eX_then_exit ?_
      have hq : (some (Ctl.out l493) : Option (Ctl ((List (Int × Int)) × Int) ((List (Int × Int))))) = some _ := hm
      replace hq := someE hq
      subst hq
      refine eX_outX hx508 (fun hr740 => ?_)
      replace hr740 := hr740.symm
      subst hr740
      refine eX_block_hit ?_
      exact eX_J (fun hst => ⟨l493, A494, cap495, fp496, rfl, Fr.of hst (by kernel_rfl), F501, G502, hB, hZ⟩)
  · rintro a' w483 ⟨l484, A485, cap486, fp487, hJ, hF489, F490, G491, hB, hZ⟩
    subst hJ
    refine Fr.goX hF489 (by kernel_rfl) ?_
    refine eX_then ?_
    refine cW_seq ?_
    refine cW_region ?_
    refine wS_pure 2 [(2, .slice A485 (l484).length cap486), (58, .slice A485 (l484).length cap486)] (by kernel_rfl) ?_
    refine wS_end (by rfl) ?_
    refine eX_then ?_
    refine cW_ret ?_
    have hq : (some l484 : Option ((List (Int × Int)))) = some _ := hm
    replace hq := someE hq
    subst hq
    refine eX_ret (vs := [.slice A485 (l484).length cap486]) [.tmp 2] (by rfl) ⟨by (show lkE _ _ _ = _); kernel_rfl, trivial⟩ ?_
    exact ⟨A485, cap486, fp487, rfl, F490, G491, hB⟩

set_option maxRecDepth 100000 in
/-- impl.side -/
theorem c_impl_side {w0 : World} {p0 : Int} {r : (Int)} (hm : m_impl_side p0 = some r)  :
    Calls Try.prog 183 #[.int .i64 (p0)] w0 fun e w' => e = .returned (.int .i64 (r)) ∧ Chg [] w0 w' := by
  have hB : Chg [] w0 w0 := Chg.refl _ _
  have hZ := Nat.le_refl w0.heap.size
  unfold m_impl_side at hm
  refine enterE (N := 5) Try.func183 (by rfl) Try.ntmps183 (by simp) [(0, .int .i64 (p0))] (by rfl) (by kernel_rfl) (fun a => ?_)
  refine cW_seq ?_
  refine cW_region ?_
  refine wS_pure 1 [(2, .int .i64 (0))] (by kernel_rfl) ?_
  refine wS_end (by rfl) ?_
  refine eX_then ?_
  refine cW_seq ?_
  refine cW_region ?_
  refine wS_pure 1 [(3, .int .i64 (p0))] (by kernel_rfl) ?_
  obtain ⟨y1, hy2, hm⟩ := bindE hm
  refine wS_calls (d := 4) (f := 188) (vs := [.int .i64 (p0), .int .i64 (0)]) (by kernel_rfl) ent188 (c_cmp_Compare_int64 hy2) ?_
  rintro _ w3 ⟨rfl, hc4⟩
  replace hB := hB.inS hc4 inNil
  replace hZ := Nat.le_trans hZ hc4.size
  refine ⟨.int .i64 (y1), rfl, ?_⟩
  refine wS_pure 1 [(2, .int .i64 (y1))] (by kernel_rfl) ?_
  refine wS_end (by rfl) ?_
  refine eX_then ?_
  refine cW_ret ?_
  have hq : (some y1 : Option ((Int))) = some _ := hm
  replace hq := someE hq
  subst hq
  refine eX_ret (vs := [.int .i64 (y1)]) [.tmp 2] (by rfl) ⟨by (show lkE _ _ _ = _); kernel_rfl, trivial⟩ ?_
  exact ⟨rfl, hB⟩

set_option maxRecDepth 100000 in
/-- impl.line -/
theorem c_impl_line {w0 : World} {p0_0 : Int} {p0_1 : Int} {p1_0 : Int} {p1_1 : Int} {r : (List (Int × Int))} (hm : m_impl_line p0_0 p0_1 p1_0 p1_1 = some r)  :
    Calls Try.prog 135 #[.agg #[.int .i64 (p0_0), .int .i64 (p0_1)], .agg #[.int .i64 (p1_0), .int .i64 (p1_1)]] w0 fun e w' => ∃ A100 cap100 fp100, e = .returned (.slice A100 (r).length cap100) ∧ Ow 2 encII 37 w' fp100 A100 cap100 r ∧ (∀ x ∈ fp100, w0.heap.size ≤ x) ∧ Chg [] w0 w' := by
  have hB : Chg [] w0 w0 := Chg.refl _ _
  have hZ := Nat.le_refl w0.heap.size
  unfold m_impl_line at hm
  refine enterE (N := 34) Try.func135 (by rfl) Try.ntmps135 (by simp) [(0, .agg #[.int .i64 (p0_0), .int .i64 (p0_1)]), (1, .agg #[.int .i64 (p1_0), .int .i64 (p1_1)])] (by rfl) (by kernel_rfl) (fun a => ?_)
  refine cW_seq ?_
  refine cW_region ?_
  refine wS_box (d := 2) (T := 37) (x := .agg #[.int .i64 (p0_0), .int .i64 (p0_1)]) (by kernel_rfl) ?_
  intro b1 w2 G3 F4 hc5
  replace F4 : Cl w2 b1 37 [.int .i64 (p0_0), .int .i64 (p0_1)] := F4
  replace hB := hB.inS hc5 inNil
  replace G3 := Nat.le_trans hZ G3
  replace hZ := Nat.le_trans hZ hc5.size
  refine wS_box (d := 3) (T := 37) (x := .agg #[.int .i64 (p1_0), .int .i64 (p1_1)]) (by kernel_rfl) ?_
  intro b7 w8 G9 F10 hc11
  replace F10 : Cl w8 b7 37 [.int .i64 (p1_0), .int .i64 (p1_1)] := F10
  have D13 : Dj [b1] [b7] := Dj.of (lt1 F4.lt) (low1 G9)
  replace F4 := F4.chg hc11 notNil
  replace hB := hB.inS hc11 inNil
  replace G9 := Nat.le_trans hZ G9
  replace hZ := Nat.le_trans hZ hc11.size
  refine wS_pure 1 [(4, .slice none 0 0)] (by kernel_rfl) ?_
  refine wS_end (by rfl) ?_
  refine eX_then ?_
  refine cW_seq ?_
  refine cW_region ?_
  refine wS_bs0 (α := Int × Int) (enc := encII) (d := 6) (t := 32) (T := 37) (by kernel_rfl) el32 ?_
  intro b14 w15 G16 F17 hc18
  have D20 : Dj [b1] [b14] := Dj.of (lt1 F4.lt) (low1 G16)
  have D21 : Dj [b7] [b14] := Dj.of (lt1 F10.lt) (low1 G16)
  replace F4 := F4.chg hc18 notNil
  replace F10 := F10.chg hc18 notNil
  replace hB := hB.inS hc18 inNil
  replace G16 := Nat.le_trans hZ G16
  replace G16 := low1 G16
  replace hZ := Nat.le_trans hZ hc18.size
  refine wS_pure 1 [(5, .slice (some ⟨b14, 0, none⟩) (([] : List (Int × Int))).length 0)] (by kernel_rfl) ?_
  refine wS_end (by rfl) ?_
  refine eX_then ?_
  refine cW_seq ?_
  obtain ⟨r176, hr177, hm⟩ := bindE hm
  have hm178 := hm
  refine cW_cut (fun a' w' => ∃ l153 : List (Int × Int), ∃ A154 : Option Addr, ∃ cap155 : Nat, ∃ fp156 : List Nat, l153 = r176 ∧ Fr 34 [(5, .slice A154 (l153).length cap155)] a' ∧ Ow 2 encII 37 w' fp156 A154 cap155 l153 ∧ (∀ x ∈ fp156, w0.heap.size ≤ x) ∧ Chg [] w0 w' ∧ w0.heap.size ≤ w'.heap.size) ?_ ?_
  · refine cW_block ?_
    refine cW_loop _ (fun (s179 : (List (Int × Int)) × Int × Int) a' w' => ∃ l162 : List (Int × Int), ∃ A163 : Option Addr, ∃ cap164 : Nat, ∃ fp165 : List Nat, ∃ x167 : Int, ∃ x168 : Int, (l162, x167, x168) = s179 ∧ Fr 34 [(2, .pointer (some ⟨b1, 0, none⟩)), (3, .pointer (some ⟨b7, 0, none⟩)), (5, .slice A163 (l162).length cap164)] a' ∧ Cl w' b1 37 [.int .i64 (x167), .int .i64 (x168)] ∧ Cl w' b7 37 [.int .i64 (p1_0), .int .i64 (p1_1)] ∧ Ow 2 encII 37 w' fp165 A163 cap164 l162 ∧ (∀ x ∈ fp165, w0.heap.size ≤ x) ∧ Dj [b1] fp165 ∧ Dj [b7] fp165 ∧ Chg [] w0 w' ∧ w0.heap.size ≤ w'.heap.size) hr177 (fun hst => ⟨([] : List (Int × Int)), (some ⟨b14, 0, none⟩), 0, [b14], p0_0, p0_1, rfl, Fr.of hst (by kernel_rfl), F4, F10, F17, G16, D20, D21, hB, hZ⟩) ?_
    rintro _ c180 a' w161 ⟨l162, A163, cap164, fp165, x167, x168, rfl, hF169, F170, F171, F172, G173, D174, D175, hB, hZ⟩ hx181
    refine Fr.goOn hF169 (by kernel_rfl) ?_
    have hm := hx181
    unfold m_impl_line_s1 at hm
    refine cW_seq ?_
    refine cW_seq ?_
    refine cW_region ?_
    refine wS_loadA (d := 7) (T := 37) (ad := ⟨b1, 0, none⟩) (vs := [.int .i64 (x167), .int .i64 (x168)]) (by kernel_rfl) vt37 (fun i u hu => box_cells F170 0 hu (by rfl)) ?_
    refine wS_loadA (d := 8) (T := 37) (ad := ⟨b7, 0, none⟩) (vs := [.int .i64 (p1_0), .int .i64 (p1_1)]) (by kernel_rfl) vt37 (fun i u hu => box_cells F171 0 hu (by rfl)) ?_
    refine wS_neS (d := 9) (T := 37) (x := x167) (y := x168) (x' := p1_0) (y' := p1_1) (by kernel_rfl) eq37 ?_
    refine wS_end (by rfl) ?_
    refine eX_then ?_
    refine cW_cond (t := !(x167 == p1_0 && x168 == p1_1)) (by kernel_rfl) (fun hb182 => ?_) (fun hb182 => ?_)
    · have hm := condT hb182 hm
      refine cW_skip ?_
      refine eX_then ?_
      refine cW_block ?_
      refine cW_seq ?_
      refine cW_drawnTail [] 18 (by kernel_rfl) (by kernel_rfl) (fun w199 hc200 => ?_)
      replace F170 := F170.chg hc200 notNil
      replace F171 := F171.chg hc200 notNil
      replace F172 := F172.chg hc200 Dj.nil
      replace hB := hB.inS hc200 inNil
      replace hZ := Nat.le_trans hZ hc200.size
      have hS := Chg.refl [] w199
      have Z201 := F170
      have Z202 := F171
      have Z203 := F172
      refine wH_take [0] [0] [(10, .pointer (some ⟨b1, 0, none⟩))] (by kernel_rfl) (qT (qT (qB (qL (qB (qT (qT qZ))))))) (by kernel_rfl) ?_
      refine wH_load1 (i := 1) (d := 11) (T := 2) (ad := ⟨b1, 0, none⟩) (v := .int .i64 (x167)) (by kernel_rfl) (qT (qT (qB (qL (qB (qT (qT qZ))))))) (by kernel_rfl) (by kernel_rfl) vt2 (fun W hW => (Z201.chg hW notNil).cell 0) ?_
      refine wH_take [2] [2, 1, 0] [(12, .pointer (some ⟨b7, 0, none⟩))] (by kernel_rfl) (qT (qT (qB (qL (qB (qT (qT qZ))))))) (by kernel_rfl) ?_
      refine wH_load1 (i := 3) (d := 13) (T := 2) (ad := ⟨b7, 0, none⟩) (v := .int .i64 (p1_0)) (by kernel_rfl) (qT (qT (qB (qL (qB (qT (qT qZ))))))) (by kernel_rfl) (by kernel_rfl) vt2 (fun W hW => (Z202.chg hW notNil).cell 0) ?_
      refine wH_take [4] [4, 3, 2, 1, 0] [(14, .pointer (some ⟨b1, 0, none⟩))] (by kernel_rfl) (qT (qT (qB (qL (qB (qT (qT qZ))))))) (by kernel_rfl) ?_
      refine wH_load1 (i := 5) (d := 15) (T := 2) (ad := ⟨b1, 0, none⟩) (v := .int .i64 (x167)) (by kernel_rfl) (qT (qT (qB (qL (qB (qT (qT qZ))))))) (by kernel_rfl) (by kernel_rfl) vt2 (fun W hW => (Z201.chg hW notNil).cell 0) ?_
      refine wH_take [6, 9] [9, 6, 5, 4, 3, 2, 1, 0] [(19, .pointer (some ⟨b1, 1, none⟩)), (16, .int .i64 (wr (p1_0 - x167)))] (by kernel_rfl) (qT (qT (qB (qL (qB (qT (qT qZ))))))) (by kernel_rfl) ?_
      refine wH_load1 (i := 10) (d := 20) (T := 2) (ad := ⟨b1, 1, none⟩) (v := .int .i64 (x168)) (by kernel_rfl) (qT (qT (qB (qL (qB (qT (qT qZ))))))) (by kernel_rfl) (by kernel_rfl) vt2 (fun W hW => (Z201.chg hW notNil).cell 1) ?_
      refine wH_take [11] [11, 10, 9, 6, 5, 4, 3, 2, 1, 0] [(21, .pointer (some ⟨b7, 1, none⟩))] (by kernel_rfl) (qT (qT (qB (qL (qB (qT (qT qZ))))))) (by kernel_rfl) ?_
      refine wH_load1 (i := 12) (d := 22) (T := 2) (ad := ⟨b7, 1, none⟩) (v := .int .i64 (p1_1)) (by kernel_rfl) (qT (qT (qB (qL (qB (qT (qT qZ))))))) (by kernel_rfl) (by kernel_rfl) vt2 (fun W hW => (Z202.chg hW notNil).cell 1) ?_
      refine wH_take [13] [13, 12, 11, 10, 9, 6, 5, 4, 3, 2, 1, 0] [(23, .pointer (some ⟨b1, 1, none⟩))] (by kernel_rfl) (qT (qT (qB (qL (qB (qT (qT qZ))))))) (by kernel_rfl) ?_
      refine wH_load1 (i := 14) (d := 24) (T := 2) (ad := ⟨b1, 1, none⟩) (v := .int .i64 (x168)) (by kernel_rfl) (qT (qT (qB (qL (qB (qT (qT qZ))))))) (by kernel_rfl) (by kernel_rfl) vt2 (fun W hW => (Z201.chg hW notNil).cell 1) ?_
      refine wH_take [15] [15, 14, 13, 12, 11, 10, 9, 6, 5, 4, 3, 2, 1, 0] [(25, .int .i64 (wr (p1_1 - x168)))] (by kernel_rfl) (qT (qT (qB (qL (qB (qT (qT qZ))))))) (by kernel_rfl) ?_
      refine wH_all [7] (by rfl) (by kernel_rfl) (by simp) ⟨⟨by kernel_rfl, ?_⟩, trivial⟩
      obtain ⟨y204, hy205, hm⟩ := bindE hm
      refine wS_calls (d := 17) (f := 183) (vs := [.int .i64 (wr (p1_0 - x167))]) (by kernel_rfl) ent183 (c_impl_side hy205) ?_
      rintro _ w206 ⟨rfl, hc207⟩
      replace F170 := F170.chg hc207 notNil
      replace F171 := F171.chg hc207 notNil
      replace F172 := F172.chg hc207 Dj.nil
      replace hB := hB.inS hc207 inNil
      have hSz := hS
      replace hS := hS.inS hc207 inNil
      replace hZ := Nat.le_trans hZ hc207.size
      refine ⟨.int .i64 (y204), rfl, ?_⟩
      refine wS_end (by kernel_rfl) ?_
      refine eX_KH hS ?_
      refine wH_take [8] [8, 7, 15, 14, 13, 12, 11, 10, 9, 6, 5, 4, 3, 2, 1, 0] [(18, .int .i64 (wr (x167 + y204)))] (by kernel_rfl) (qT (qT (qB (qL (qB (qT (qT qZ))))))) (by kernel_rfl) ?_
      refine wH_all [16] (by rfl) (by kernel_rfl) (by simp) ⟨⟨by kernel_rfl, ?_⟩, trivial⟩
      obtain ⟨y208, hy209, hm⟩ := bindE hm
      refine wS_calls (d := 26) (f := 183) (vs := [.int .i64 (wr (p1_1 - x168))]) (by kernel_rfl) ent183 (c_impl_side hy209) ?_
      rintro _ w210 ⟨rfl, hc211⟩
      replace F170 := F170.chg hc211 notNil
      replace F171 := F171.chg hc211 notNil
      replace F172 := F172.chg hc211 Dj.nil
      replace hB := hB.inS hc211 inNil
      have hSz := hS
      replace hS := hS.inS hc211 inNil
      replace hZ := Nat.le_trans hZ hc211.size
      refine ⟨.int .i64 (y208), rfl, ?_⟩
      refine wS_end (by kernel_rfl) ?_
      refine eX_KH hS ?_
      refine wH_take [17] [17, 16, 8, 7, 15, 14, 13, 12, 11, 10, 9, 6, 5, 4, 3, 2, 1, 0] [(27, .int .i64 (wr (x168 + y208)))] (by kernel_rfl) (qT (qT (qB (qL (qB (qT (qT qZ))))))) (by kernel_rfl) ?_
      refine wH_done (by kernel_rfl) ?_
      refine eX_tail ?_
      refine wS_pure 1 [(28, .agg #[.int .i64 (wr (x167 + y204)), .int .i64 (wr (x168 + y208))])] (by kernel_rfl) ?_
      refine wS_store (T := 37) (g := b1) (o := 0) (ad := ⟨b1, 0, none⟩) (v := .agg #[.int .i64 (wr (x167 + y204)), .int .i64 (wr (x168 + y208))]) (vs := [.int .i64 (wr (x167 + y204)), .int .i64 (wr (x168 + y208))]) (by kernel_rfl) (by rfl) sz37 (by rfl) (by rfl) F170 (by simp only [List.length_cons, List.length_nil]; omega) ?_
      intro w212 F213 hc214
      replace F171 := F171.chg hc214 (dj1 (D13).symm)
      replace F172 := F172.chg hc214 (D174).symm
      replace hB := hB.inS hc214 (inLow (low1 G3))
      replace hZ := Nat.le_trans hZ hc214.size
      replace F213 : Cl w212 b1 37 [.int .i64 (wr (x167 + y204)), .int .i64 (wr (x168 + y208))] := F213
      clear F170
      refine wS_end (by rfl) ?_
      refine eX_then ?_
      refine cW_prune [(2, .pointer (some ⟨b1, 0, none⟩)), (3, .pointer (some ⟨b7, 0, none⟩)), (5, .slice A163 (l162).length cap164)] (by kernel_rfl) (by kernel_rfl) (fun a215 => ?_)
      refine cW_region ?_
      refine wS_pure 1 [(29, .slice A163 (l162).length cap164)] (by kernel_rfl) ?_
      refine wS_loadA (d := 30) (T := 37) (ad := ⟨b1, 0, none⟩) (vs := [.int .i64 (wr (x167 + y204)), .int .i64 (wr (x168 + y208))]) (by kernel_rfl) vt37 (fun i u hu => box_cells F213 0 hu (by rfl)) ?_
      refine wS_bs (enc := encII) ([(wr (x167 + y204), wr (x168 + y208))] : List (Int × Int)) [.int .i64 (wr (x167 + y204)), .int .i64 (wr (x168 + y208))] (d := 31) (t := 32) (T := 37) (n := 1) (ps := [(0, .agg #[.int .i64 (wr (x167 + y204)), .int .i64 (wr (x168 + y208))])]) (by kernel_rfl) el32 encII_ok (by rfl) (by omega) (by omega) (by kernel_rfl) (by rfl) ?_
      intro b216 w217 G218 F219 hc220
      have D222 : Dj [b1] [b216] := Dj.of (lt1 F213.lt) (low1 G218)
      have D223 : Dj [b7] [b216] := Dj.of (lt1 F171.lt) (low1 G218)
      have D224 : Dj fp165 [b216] := Dj.of F172.low (low1 G218)
      replace F213 := F213.chg hc220 notNil
      replace F171 := F171.chg hc220 notNil
      replace F172 := F172.chg hc220 Dj.nil
      replace hB := hB.inS hc220 inNil
      replace G218 := Nat.le_trans hZ G218
      replace G218 := low1 G218
      replace hZ := Nat.le_trans hZ hc220.size
      obtain ⟨_, hk225, hm⟩ := bindE hm
      replace hk225 := apE hk225
      refine wS_append (enc := encII) (l := (l162 : List (Int × Int))) (l2 := (([(wr (x167 + y204), wr (x168 + y208))] : List (Int × Int)) : List (Int × Int))) (d := 32) (t := 32) (T := 37) (A := A163) (A2 := (some ⟨b216, 0, none⟩)) (cap := cap164) (cap2 := 1) (by kernel_rfl) el32 encII_ok F172 (F219.sl encII_ok) (by rfl) hk225 ?_
      intro w226 fp227 A228 cap229 F230 hc231 hp232
      have G234 := low_ap G173 hZ hp232
      have D235 : Dj [b1] fp227 := Dj.ap D174 (lt1 F213.lt) hp232
      have D236 : Dj [b7] fp227 := Dj.ap D175 (lt1 F171.lt) hp232
      have D237 : Dj [b216] fp227 := Dj.ap (D224).symm F219.low hp232
      replace F213 := F213.chg hc231 (dj1 D174)
      replace F171 := F171.chg hc231 (dj1 D175)
      replace F219 := F219.chg hc231 (D224).symm
      replace hB := hB.inS hc231 (inLow G173)
      replace hZ := Nat.le_trans hZ hc231.size
      refine wS_pure 1 [(5, .slice A228 (l162 ++ (([(wr (x167 + y204), wr (x168 + y208))] : List (Int × Int)))).length cap229)] (by kernel_rfl) ?_
      refine wS_end (by rfl) ?_
      refine eX_block ?_
      have hq : (some (Ctl.next ((l162 ++ (([(wr (x167 + y204), wr (x168 + y208))] : List (Int × Int))), wr (x167 + y204), wr (x168 + y208)))) : Option (Ctl ((List (Int × Int)) × Int × Int) ((List (Int × Int))))) = some _ := hm
      replace hq := someE hq
      subst hq
      exact eX_next hx181 (fun hst => ⟨l162 ++ (([(wr (x167 + y204), wr (x168 + y208))] : List (Int × Int))), A228, cap229, fp227, wr (x167 + y204), wr (x168 + y208), rfl, Fr.of hst (by kernel_rfl), F213, F171, F230, G234, D235, D236, hB, hZ⟩)
    · have hm := condF hb182 hm
      refine cW_exit ?_
      refine eX_then_exit ?_
      have hq : (some (Ctl.out l162) : Option (Ctl ((List (Int × Int)) × Int × Int) ((List (Int × Int))))) = some _ := hm
      replace hq := someE hq
      subst hq
      refine eX_outX hx181 (fun hr238 => ?_)
      replace hr238 := hr238.symm
      subst hr238
      refine eX_block_hit ?_
      exact eX_J (fun hst => ⟨l162, A163, cap164, fp165, rfl, Fr.of hst (by kernel_rfl), F172, G173, hB, hZ⟩)
  · rintro a' w152 ⟨l153, A154, cap155, fp156, hJ, hF158, F159, G160, hB, hZ⟩
    subst hJ
    refine Fr.goX hF158 (by kernel_rfl) ?_
    refine eX_then ?_
    refine cW_seq ?_
    refine cW_region ?_
    refine wS_pure 2 [(4, .slice A154 (l153).length cap155), (33, .slice A154 (l153).length cap155)] (by kernel_rfl) ?_
    refine wS_end (by rfl) ?_
    refine eX_then ?_
    refine cW_ret ?_
    have hq : (some l153 : Option ((List (Int × Int)))) = some _ := hm
    replace hq := someE hq
    subst hq
    refine eX_ret (vs := [.slice A154 (l153).length cap155]) [.tmp 4] (by rfl) ⟨by (show lkE _ _ _ = _); kernel_rfl, trivial⟩ ?_
    exact ⟨A154, cap155, fp156, rfl, F159, G160, hB⟩

set_option maxRecDepth 100000 in
/-- impl.riverPath$1 -/
theorem c_impl_riverPath_1_bimplPoint_bimplPoint {w0 : World} {p0_0 : Int} {p0_1 : Int} {l1_0 : List (Int × Int)} {A1_0 : Option Addr} {cap1_0 : Nat} {fp1_0 : List Nat} {b1 : Nat} {q2_0 : Int} {q2_1 : Int} {b2 : Nat} {r : (Int) × (Int) × (List (Int × Int))} (hm : m_impl_riverPath_1_bimplPoint_bimplPoint p0_0 p0_1 l1_0 q2_0 q2_1 = some r) (F1_0 : Ow 2 encII 37 w0 fp1_0 A1_0 cap1_0 l1_0) (F1 : Cl w0 b1 32 [.slice A1_0 (l1_0).length cap1_0]) (F2 : Cl w0 b2 37 [.int .i64 (q2_0), .int .i64 (q2_1)]) (J1__1_0 : Dj [b1] fp1_0) (J1__2 : Dj [b1] [b2]) (J2__1_0 : Dj [b2] fp1_0) :
    Calls Try.prog 134 #[.agg #[.int .i64 (p0_0), .int .i64 (p0_1)], .pointer (some ⟨b1, 0, none⟩), .pointer (some ⟨b2, 0, none⟩)] w0 fun e w' => ∃ At1_0 capt1_0 fpt1_0, e = .returned (.tuple #[]) ∧ Cl w' b1 32 [.slice At1_0 (r.2.2).length capt1_0] ∧ Cl w' b2 37 [.int .i64 (r.1), .int .i64 (r.2.1)] ∧ Ow 2 encII 37 w' fpt1_0 At1_0 capt1_0 r.2.2 ∧ Rt w0.heap.size fp1_0 fpt1_0 ∧ Chg ([b1] ++ ([b2] ++ (fp1_0 ++ []))) w0 w' := by
  have L1 := lt1 F1.lt
  have L2 := lt1 F2.lt
  have hB : Chg ([b1] ++ ([b2] ++ (fp1_0 ++ []))) w0 w0 := Chg.refl _ _
  have hZ := Nat.le_refl w0.heap.size
  unfold m_impl_riverPath_1_bimplPoint_bimplPoint at hm
  refine enterE (N := 10) Try.func134 (by rfl) Try.ntmps134 (by simp) [(0, .agg #[.int .i64 (p0_0), .int .i64 (p0_1)]), (1, .pointer (some ⟨b1, 0, none⟩)), (2, .pointer (some ⟨b2, 0, none⟩))] (by rfl) (by kernel_rfl) (fun a => ?_)
  refine cW_seq ?_
  refine cW_region ?_
  refine wS_box (d := 3) (T := 37) (x := .agg #[.int .i64 (p0_0), .int .i64 (p0_1)]) (by kernel_rfl) ?_
  intro b4 w5 G6 F7 hc8
  replace F7 : Cl w5 b4 37 [.int .i64 (p0_0), .int .i64 (p0_1)] := F7
  have D10 : Dj fp1_0 [b4] := Dj.of F1_0.low (low1 G6)
  replace F1_0 := F1_0.chg hc8 Dj.nil
  replace F1 := F1.chg hc8 notNil
  replace F2 := F2.chg hc8 notNil
  replace hB := hB.inS hc8 inNil
  replace G6 := Nat.le_trans hZ G6
  replace hZ := Nat.le_trans hZ hc8.size
  refine wS_end (by rfl) ?_
  refine eX_then ?_
  refine cW_seq ?_
  refine cW_drawnTail [] 4 (by kernel_rfl) (by kernel_rfl) (fun w48 hc49 => ?_)
  replace F1_0 := F1_0.chg hc49 Dj.nil
  replace F1 := F1.chg hc49 notNil
  replace F2 := F2.chg hc49 notNil
  replace F7 := F7.chg hc49 notNil
  replace hB := hB.inS hc49 inNil
  replace hZ := Nat.le_trans hZ hc49.size
  have hS := Chg.refl [] w48
  have Z50 := F1_0
  have Z51 := F1
  have Z52 := F2
  have Z53 := F7
  refine wH_load1 (i := 0) (d := 4) (T := 32) (ad := ⟨b1, 0, none⟩) (v := .slice A1_0 (l1_0).length cap1_0) (by kernel_rfl) (qT (qT qZ)) (by kernel_rfl) (by kernel_rfl) vt32 (fun W hW => (Z51.chg hW notNil).cell 0) ?_
  refine wH_loadA (i := 1) (d := 5) (T := 37) (ad := ⟨b2, 0, none⟩) (vs := [.int .i64 (q2_0), .int .i64 (q2_1)]) (by kernel_rfl) (qT (qT qZ)) (by kernel_rfl) (by kernel_rfl) vt37 (fun W hW i u hu => box_cells (Z52.chg hW notNil) 0 hu (by rfl)) ?_
  refine wH_loadA (i := 2) (d := 6) (T := 37) (ad := ⟨b4, 0, none⟩) (vs := [.int .i64 (p0_0), .int .i64 (p0_1)]) (by kernel_rfl) (qT (qT qZ)) (by kernel_rfl) (by kernel_rfl) vt37 (fun W hW i u hu => box_cells (Z53.chg hW notNil) 0 hu (by rfl)) ?_
  refine wH_all [3] (by rfl) (by kernel_rfl) (by simp) ⟨⟨by kernel_rfl, ?_⟩, trivial⟩
  obtain ⟨y54, hy55, hm⟩ := bindE hm
  refine wS_calls (d := 7) (f := 135) (vs := [.agg #[.int .i64 (q2_0), .int .i64 (q2_1)], .agg #[.int .i64 (p0_0), .int .i64 (p0_1)]]) (by kernel_rfl) ent135 (c_impl_line hy55) ?_
  rintro _ w56 ⟨A58, cap59, fp60, rfl, F61, G62, hc57⟩
  have D65 : Dj fp1_0 fp60 := Dj.of F1_0.low G62
  have D66 : Dj [b4] fp60 := Dj.of (lt1 F7.lt) G62
  replace F1_0 := F1_0.chg hc57 Dj.nil
  replace F1 := F1.chg hc57 notNil
  replace F2 := F2.chg hc57 notNil
  replace F7 := F7.chg hc57 notNil
  replace hB := hB.inS hc57 inNil
  have hSz := hS
  replace hS := hS.inS hc57 inNil
  replace G62 := low_le hZ G62
  replace hZ := Nat.le_trans hZ hc57.size
  refine ⟨.slice A58 (y54).length cap59, rfl, ?_⟩
  refine wS_end (by kernel_rfl) ?_
  refine eX_KH hS ?_
  refine wH_done (by kernel_rfl) ?_
  refine eX_tail ?_
  obtain ⟨_, hk67, hm⟩ := bindE hm
  replace hk67 := apE hk67
  refine wS_appendAny (enc := encII) (l := (l1_0 : List (Int × Int))) (l2 := (y54 : List (Int × Int))) (d := 8) (t := 32) (T := 37) (A := A1_0) (A2 := A58) (cap := cap1_0) (cap2 := cap59) (by kernel_rfl) el32 encII_ok F1_0 (F61.sl encII_ok) hk67 ?_
  intro w68 fp69 A70 cap71 F72 hc73 hp74
  have hap77 := Rt.of hp74 hZ Rt.refl
  have D78 : Dj [b1] fp69 := Dj.ap J1__1_0 (lt1 F1.lt) hp74
  have D79 : Dj [b2] fp69 := Dj.ap J2__1_0 (lt1 F2.lt) hp74
  have D80 : Dj [b4] fp69 := Dj.ap (D10).symm (lt1 F7.lt) hp74
  have D81 : Dj fp60 fp69 := Dj.ap (D65).symm F61.low hp74
  replace F1 := F1.chg hc73 (dj1 J1__1_0)
  replace F2 := F2.chg hc73 (dj1 J2__1_0)
  replace F7 := F7.chg hc73 (dj1 (D10).symm)
  replace F61 := F61.chg hc73 (D65).symm
  replace hB := hB.inS hc73 (inRt Rt.refl (fun x hx => (List.mem_append_right _ (List.mem_append_right _ (List.mem_append_left _ hx)))))
  replace hZ := Nat.le_trans hZ hc73.size
  refine wS_store (T := 32) (g := b1) (o := 0) (ad := ⟨b1, 0, none⟩) (v := .slice A70 (l1_0 ++ y54).length cap71) (vs := [.slice A70 (l1_0 ++ y54).length cap71]) (by kernel_rfl) (by rfl) sz32 (by rfl) (by rfl) F1 (by simp only [List.length_cons, List.length_nil]; omega) ?_
  intro w82 F83 hc84
  replace F2 := F2.chg hc84 (dj1 (J1__2).symm)
  replace F7 := F7.chg hc84 (dj1 (Dj.of L1 (low1 G6)).symm)
  replace F61 := F61.chg hc84 (Dj.of L1 G62).symm
  replace F72 := F72.chg hc84 (D78).symm
  replace hB := hB.inS hc84 (inMem (fun x hx => (List.mem_append_left _ hx)))
  replace hZ := Nat.le_trans hZ hc84.size
  replace F83 : Cl w82 b1 32 [.slice A70 (l1_0 ++ y54).length cap71] := F83
  clear F1
  refine wS_end (by rfl) ?_
  refine eX_then ?_
  refine cW_region ?_
  refine wS_loadA (d := 9) (T := 37) (ad := ⟨b4, 0, none⟩) (vs := [.int .i64 (p0_0), .int .i64 (p0_1)]) (by kernel_rfl) vt37 (fun i u hu => box_cells F7 0 hu (by rfl)) ?_
  refine wS_store (T := 37) (g := b2) (o := 0) (ad := ⟨b2, 0, none⟩) (v := .agg #[.int .i64 (p0_0), .int .i64 (p0_1)]) (vs := [.int .i64 (p0_0), .int .i64 (p0_1)]) (by kernel_rfl) (by rfl) sz37 (by rfl) (by rfl) F2 (by simp only [List.length_cons, List.length_nil]; omega) ?_
  intro w85 F86 hc87
  replace F83 := F83.chg hc87 (dj1 J1__2)
  replace F7 := F7.chg hc87 (dj1 (Dj.of L2 (low1 G6)).symm)
  replace F61 := F61.chg hc87 (Dj.of L2 G62).symm
  replace F72 := F72.chg hc87 (D79).symm
  replace hB := hB.inS hc87 (inMem (fun x hx => (List.mem_append_right _ (List.mem_append_left _ hx))))
  replace hZ := Nat.le_trans hZ hc87.size
  replace F86 : Cl w85 b2 37 [.int .i64 (p0_0), .int .i64 (p0_1)] := F86
  clear F2
  refine wS_end (by rfl) ?_
  have hq : (some ((p0_0, p0_1, l1_0 ++ y54)) : Option ((Int) × (Int) × (List (Int × Int)))) = some _ := hm
  replace hq := someE hq
  subst hq
  refine eX_fall (vs := []) [] (by rfl) trivial ?_
  exact ⟨A70, cap71, fp69, rfl, F83, F86, F72, hap77, hB⟩

set_option maxRecDepth 100000 in
/-- impl.riverPath -/
theorem c_impl_riverPath {w0 : World} {l0 : List (Int)} {A0 : Option Addr} {cap0 : Nat} {fp0 : List Nat} {l1 : List (Int)} {A1 : Option Addr} {cap1 : Nat} {fp1 : List Nat} {p2 : Int} {p3 : Int} {r : (List (Int × Int))} (hm : m_impl_riverPath l0 l1 p2 p3 = some r) (F0 : Sl 1 encI w0 fp0 A0 l0) (F1 : Sl 1 encI w0 fp1 A1 l1) :
    Calls Try.prog 73 #[.slice A0 (l0).length cap0, .slice A1 (l1).length cap1, .int .i64 (p2), .int .i64 (p3)] w0 fun e w' => ∃ A100 cap100 fp100, e = .returned (.slice A100 (r).length cap100) ∧ Ow 2 encII 37 w' fp100 A100 cap100 r ∧ (∀ x ∈ fp100, w0.heap.size ≤ x) ∧ Chg [] w0 w' := by
  have L0 := F0.low
  have L1 := F1.low
  have hB : Chg [] w0 w0 := Chg.refl _ _
  have hZ := Nat.le_refl w0.heap.size
  unfold m_impl_riverPath at hm
  refine enterE (N := 102) Try.func73 (by rfl) Try.ntmps73 (by simp) [(0, .slice A0 (l0).length cap0), (1, .slice A1 (l1).length cap1), (2, .int .i64 (p2)), (3, .int .i64 (p3))] (by rfl) (by kernel_rfl) (fun a => ?_)
  refine cW_seq ?_
  refine cW_region ?_
  refine wS_pure 1 [(8, .slice none 0 0)] (by kernel_rfl) ?_
  refine wS_end (by rfl) ?_
  refine eX_then ?_
  refine cW_seq ?_
  refine cW_region ?_
  refine wS_pure 2 [(17, .int .i64 (p3)), (16, .slice A1 (l1).length cap1)] (by kernel_rfl) ?_
  obtain ⟨x3, hx4, hm⟩ := bindE hm
  refine wS_idx (d := 18) (T := 25) (A := A1) (n := (l1).length) (cap := cap1) (kd := .i64) (m := p3) (by kernel_rfl) sl25 (F1.is hx4) ?_
  refine wS_load1 (d := 19) (T := 2) (ad := (elA A1 1 (p3) 0)) (v := .int .i64 (x3)) (by kernel_rfl) vt2 (Sl.cell F1 hx4 0 (by rfl)) ?_
  refine wS_pure 1 [(20, .agg #[.int .i64 (x3), .int .i64 (0)])] (by kernel_rfl) ?_
  refine wS_alloc (d := 9) (T := 37) (z := .agg #[.int .i64 (0), .int .i64 (0)]) (by kernel_rfl) (by kernel_rfl) ?_
  intro b5 w6 G7 F8 hc9
  replace F8 : Cl w6 b5 37 [.int .i64 (0), .int .i64 (0)] := F8
  replace F0 := F0.chg hc9 Dj.nil
  replace F1 := F1.chg hc9 Dj.nil
  replace hB := hB.inS hc9 inNil
  replace G7 := Nat.le_trans hZ G7
  replace hZ := Nat.le_trans hZ hc9.size
  refine wS_store (T := 37) (g := b5) (o := 0) (ad := ⟨b5, 0, none⟩) (v := .agg #[.int .i64 (x3), .int .i64 (0)]) (vs := [.int .i64 (x3), .int .i64 (0)]) (by kernel_rfl) (by rfl) sz37 (by rfl) (by rfl) F8 (by simp only [List.length_cons, List.length_nil]; omega) ?_
  intro w11 F12 hc13
  replace F0 := F0.chg hc13 (Dj.of L0 (low1 G7))
  replace F1 := F1.chg hc13 (Dj.of L1 (low1 G7))
  replace hB := hB.inS hc13 (inLow (low1 G7))
  replace hZ := Nat.le_trans hZ hc13.size
  replace F12 : Cl w11 b5 37 [.int .i64 (x3), .int .i64 (0)] := F12
  clear F8
  refine wS_end (by rfl) ?_
  refine eX_then ?_
  refine cW_seq ?_
  refine cW_region ?_
  refine wS_loadA (d := 21) (T := 37) (ad := ⟨b5, 0, none⟩) (vs := [.int .i64 (x3), .int .i64 (0)]) (by kernel_rfl) vt37 (fun i u hu => box_cells F12 0 hu (by rfl)) ?_
  refine wS_bs (enc := encII) ([(x3, 0)] : List (Int × Int)) [.int .i64 (x3), .int .i64 (0)] (d := 22) (t := 32) (T := 37) (n := 1) (ps := [(0, .agg #[.int .i64 (x3), .int .i64 (0)])]) (by kernel_rfl) el32 encII_ok (by rfl) (by omega) (by omega) (by kernel_rfl) (by rfl) ?_
  intro b14 w15 G16 F17 hc18
  have D20 : Dj [b5] [b14] := Dj.of (lt1 F12.lt) (low1 G16)
  replace F0 := F0.chg hc18 Dj.nil
  replace F1 := F1.chg hc18 Dj.nil
  replace F12 := F12.chg hc18 notNil
  replace hB := hB.inS hc18 inNil
  replace G16 := Nat.le_trans hZ G16
  replace G16 := low1 G16
  replace hZ := Nat.le_trans hZ hc18.size
  refine wS_alloc (d := 10) (T := 32) (z := .slice none 0 0) (by kernel_rfl) (by kernel_rfl) ?_
  intro b21 w22 G23 F24 hc25
  replace F24 : Cl w22 b21 32 [.slice none 0 0] := F24
  have D27 : Dj [b5] [b21] := Dj.of (lt1 F12.lt) (low1 G23)
  have D28 : Dj [b14] [b21] := Dj.of F17.low (low1 G23)
  replace F0 := F0.chg hc25 Dj.nil
  replace F1 := F1.chg hc25 Dj.nil
  replace F12 := F12.chg hc25 notNil
  replace F17 := F17.chg hc25 Dj.nil
  replace hB := hB.inS hc25 inNil
  replace G23 := Nat.le_trans hZ G23
  replace hZ := Nat.le_trans hZ hc25.size
  refine wS_store (T := 32) (g := b21) (o := 0) (ad := ⟨b21, 0, none⟩) (v := .slice (some ⟨b14, 0, none⟩) (([(x3, 0)] : List (Int × Int))).length 1) (vs := [.slice (some ⟨b14, 0, none⟩) (([(x3, 0)] : List (Int × Int))).length 1]) (by kernel_rfl) (by rfl) sz32 (by rfl) (by rfl) F24 (by simp only [List.length_cons, List.length_nil]; omega) ?_
  intro w29 F30 hc31
  replace F0 := F0.chg hc31 (Dj.of L0 (low1 G23))
  replace F1 := F1.chg hc31 (Dj.of L1 (low1 G23))
  replace F12 := F12.chg hc31 (dj1 D27)
  replace F17 := F17.chg hc31 D28
  replace hB := hB.inS hc31 (inLow (low1 G23))
  replace hZ := Nat.le_trans hZ hc31.size
  replace F30 : Cl w29 b21 32 [.slice (some ⟨b14, 0, none⟩) (([(x3, 0)] : List (Int × Int))).length 1] := F30
  clear F24
  refine wS_end (by rfl) ?_
  refine eX_then ?_
  refine cW_seq ?_
  refine cW_region ?_
  refine wS_pure 2 [(11, .func (.func 134) #[] #[.pointer (some ⟨b21, 0, none⟩), .pointer (some ⟨b5, 0, none⟩)]), (23, .func (.func 134) #[] #[.pointer (some ⟨b21, 0, none⟩), .pointer (some ⟨b5, 0, none⟩)])] (by kernel_rfl) ?_
  refine wS_end (by rfl) ?_
  refine eX_then ?_
  refine cW_seq ?_
  refine cW_seq ?_
  refine cW_region ?_
  refine wS_pure 1 [(12, .int .i64 (1))] (by kernel_rfl) ?_
  refine wS_end (by rfl) ?_
  refine eX_then ?_
  obtain ⟨r808, hr809, hm⟩ := bindE hm
  have hm810 := hm
  refine cW_cut (fun a' w' => ∃ x776 : Int, ∃ x777 : Int, ∃ l778 : List (Int × Int), ∃ A779 : Option Addr, ∃ cap780 : Nat, ∃ fp781 : List Nat, (x776, x777, l778) = r808 ∧ Fr 102 [(2, .int .i64 (p2)), (9, .pointer (some ⟨b5, 0, none⟩)), (10, .pointer (some ⟨b21, 0, none⟩)), (11, .func (.func 134) #[] #[.pointer (some ⟨b21, 0, none⟩), .pointer (some ⟨b5, 0, none⟩)])] a' ∧ Cl w' b5 37 [.int .i64 (x776), .int .i64 (x777)] ∧ Cl w' b21 32 [.slice A779 (l778).length cap780] ∧ Ow 2 encII 37 w' fp781 A779 cap780 l778 ∧ (∀ x ∈ fp781, w0.heap.size ≤ x) ∧ Dj [b5] fp781 ∧ Dj [b21] fp781 ∧ Chg [] w0 w' ∧ w0.heap.size ≤ w'.heap.size) ?_ ?_
  · refine cW_block ?_
    refine cW_loop _ (fun (s811 : Int × Int × Int × (List (Int × Int))) a' w' => ∃ x791 : Int, ∃ x792 : Int, ∃ x793 : Int, ∃ l794 : List (Int × Int), ∃ A795 : Option Addr, ∃ cap796 : Nat, ∃ fp797 : List Nat, (x791, x792, x793, l794) = s811 ∧ Fr 102 [(0, .slice A0 (l0).length cap0), (1, .slice A1 (l1).length cap1), (2, .int .i64 (p2)), (3, .int .i64 (p3)), (9, .pointer (some ⟨b5, 0, none⟩)), (10, .pointer (some ⟨b21, 0, none⟩)), (11, .func (.func 134) #[] #[.pointer (some ⟨b21, 0, none⟩), .pointer (some ⟨b5, 0, none⟩)]), (12, .int .i64 (x791))] a' ∧ Sl 1 encI w' fp0 A0 l0 ∧ Sl 1 encI w' fp1 A1 l1 ∧ Cl w' b5 37 [.int .i64 (x792), .int .i64 (x793)] ∧ Cl w' b21 32 [.slice A795 (l794).length cap796] ∧ Ow 2 encII 37 w' fp797 A795 cap796 l794 ∧ (∀ x ∈ fp797, w0.heap.size ≤ x) ∧ Dj [b5] fp797 ∧ Dj [b21] fp797 ∧ Chg [] w0 w' ∧ w0.heap.size ≤ w'.heap.size) hr809 (fun hst => ⟨1, x3, 0, ([(x3, 0)] : List (Int × Int)), (some ⟨b14, 0, none⟩), 1, [b14], rfl, Fr.of hst (by kernel_rfl), F0, F1, F12, F30, F17, G16, D20, (D28).symm, hB, hZ⟩) ?_
    rintro _ c812 a' w790 ⟨x791, x792, x793, l794, A795, cap796, fp797, rfl, hF799, F800, F801, F802, F803, F804, G805, D806, D807, hB, hZ⟩ hx813
    refine Fr.goOn hF799 (by kernel_rfl) ?_
    have hm := hx813
    unfold m_impl_riverPath_s1 at hm
    refine cW_seq ?_
    refine cW_seq ?_
    refine cW_region ?_
    refine wS_pure 3 [(26, .bool (decide (x791 ≤ p2))), (25, .int .i64 (p2)), (24, .int .i64 (x791))] (by kernel_rfl) ?_
    refine wS_end (by rfl) ?_
    refine eX_then ?_
    refine cW_cond (t := decide (x791 ≤ p2)) (by kernel_rfl) (fun hb814 => ?_) (fun hb814 => ?_)
    · have hm := condT hb814 hm
      refine cW_skip ?_
      refine eX_then ?_
      refine cW_seq ?_
      refine cW_block ?_
      obtain ⟨s1002, hs1003, hm⟩ := bindE hm
      refine cW_cut (fun a' w' => ∃ x986 : Int, ∃ x987 : Int, ∃ l988 : List (Int × Int), ∃ A989 : Option Addr, ∃ cap990 : Nat, ∃ fp991 : List Nat, (x986, x987, l988) = s1002 ∧ Fr 102 [(0, .slice A0 (l0).length cap0), (1, .slice A1 (l1).length cap1), (2, .int .i64 (p2)), (3, .int .i64 (p3)), (9, .pointer (some ⟨b5, 0, none⟩)), (10, .pointer (some ⟨b21, 0, none⟩)), (11, .func (.func 134) #[] #[.pointer (some ⟨b21, 0, none⟩), .pointer (some ⟨b5, 0, none⟩)]), (12, .int .i64 (x791))] a' ∧ Sl 1 encI w' fp0 A0 l0 ∧ Sl 1 encI w' fp1 A1 l1 ∧ Cl w' b5 37 [.int .i64 (x986), .int .i64 (x987)] ∧ Cl w' b21 32 [.slice A989 (l988).length cap990] ∧ Ow 2 encII 37 w' fp991 A989 cap990 l988 ∧ (∀ x ∈ fp991, w0.heap.size ≤ x) ∧ Dj [b5] fp991 ∧ Dj [b21] fp991 ∧ Chg [] w0 w' ∧ w0.heap.size ≤ w'.heap.size) ?_ ?_
      · have hm := hs1003
        refine cW_seq ?_
        refine cW_region ?_
        refine wS_pure 2 [(30, .pointer (some ⟨b5, 0, none⟩)), (29, .func (.func 134) #[] #[.pointer (some ⟨b21, 0, none⟩), .pointer (some ⟨b5, 0, none⟩)])] (by kernel_rfl) ?_
        refine wS_load1 (d := 31) (T := 2) (ad := ⟨b5, 0, none⟩) (v := .int .i64 (x792)) (by kernel_rfl) vt2 ((F802).cell 0) ?_
        refine wS_pure 2 [(33, .agg #[.int .i64 (x792), .int .i64 (x791)]), (32, .int .i64 (x791))] (by kernel_rfl) ?_
        obtain ⟨y1004, hy1005, hm⟩ := bindE hm
        refine wS_calls (d := 34) (f := 134) (vs := [.agg #[.int .i64 (x792), .int .i64 (x791)], .pointer (some ⟨b21, 0, none⟩), .pointer (some ⟨b5, 0, none⟩)]) (by kernel_rfl) ent134 (c_impl_riverPath_1_bimplPoint_bimplPoint hy1005 F804 F803 F802 D807 (D27).symm D806) ?_
        rintro _ w1006 ⟨A1008, cap1009, fp1010, rfl, F1013, F1014, F1011, hap1012, hc1007⟩
        have G1016 := Rt.lowof hap1012 hZ G805
        have D1017 : Dj [b5] fp1010 := Dj.ap D806 (lt1 F802.lt) hap1012
        have D1018 : Dj [b21] fp1010 := Dj.ap D807 (lt1 F803.lt) hap1012
        replace F800 := F800.chg hc1007 (Dj.app (Dj.of L0 (low1 G23)) (Dj.app (Dj.of L0 (low1 G7)) (Dj.app (Dj.of L0 G805) Dj.nil)))
        replace F801 := F801.chg hc1007 (Dj.app (Dj.of L1 (low1 G23)) (Dj.app (Dj.of L1 (low1 G7)) (Dj.app (Dj.of L1 G805) Dj.nil)))
        replace hB := hB.inS hc1007 (inApp (inLow (low1 G23)) (inApp (inLow (low1 G7)) (inApp (inLow G805) inNil)))
        replace hZ := Nat.le_trans hZ hc1007.size
        clear F803
        clear F802
        refine ⟨.tuple #[], rfl, ?_⟩
        refine wS_end (by rfl) ?_
        refine eX_then ?_
        refine cW_seq ?_
        refine cW_region ?_
        refine wS_pure 2 [(36, .int .i64 (p3)), (35, .slice A0 (l0).length cap0)] (by kernel_rfl) ?_
        obtain ⟨x1019, hx1020, hm⟩ := bindE hm
        refine wS_idx (d := 37) (T := 25) (A := A0) (n := (l0).length) (cap := cap0) (kd := .i64) (m := p3) (by kernel_rfl) sl25 (F800.is hx1020) ?_
        refine wS_load1 (d := 38) (T := 2) (ad := (elA A0 1 (p3) 0)) (v := .int .i64 (x1019)) (by kernel_rfl) vt2 (Sl.cell F800 hx1020 0 (by rfl)) ?_
        refine wS_pure 1 [(13, .int .i64 (x1019))] (by kernel_rfl) ?_
        refine wS_end (by rfl) ?_
        refine eX_then ?_
        refine cW_seq ?_
        obtain ⟨s1059, hs1060, hm⟩ := bindE hm
        refine cW_cut (fun a' w' => ∃ x1052 : Int, x1052 = s1059 ∧ Fr 102 [(0, .slice A0 (l0).length cap0), (1, .slice A1 (l1).length cap1), (2, .int .i64 (p2)), (3, .int .i64 (p3)), (9, .pointer (some ⟨b5, 0, none⟩)), (10, .pointer (some ⟨b21, 0, none⟩)), (11, .func (.func 134) #[] #[.pointer (some ⟨b21, 0, none⟩), .pointer (some ⟨b5, 0, none⟩)]), (12, .int .i64 (x791)), (13, .int .i64 (x1052))] a' ∧ Sl 1 encI w' fp0 A0 l0 ∧ Sl 1 encI w' fp1 A1 l1 ∧ Cl w' b5 37 [.int .i64 (y1004.1), .int .i64 (y1004.2.1)] ∧ Cl w' b21 32 [.slice A1008 (y1004.2.2).length cap1009] ∧ Ow 2 encII 37 w' fp1010 A1008 cap1009 y1004.2.2 ∧ Chg [] w0 w' ∧ w0.heap.size ≤ w'.heap.size) ?_ ?_
        · have hm := hs1060
          refine cW_seq ?_
          refine cW_region ?_
          refine wS_pure 4 [(14, .int .i64 (wr (p3 + x791))), (41, .int .i64 (wr (p3 + x791))), (40, .int .i64 (x791)), (39, .int .i64 (p3))] (by kernel_rfl) ?_
          refine wS_end (by rfl) ?_
          refine eX_then ?_
          refine cW_prune [(0, .slice A0 (l0).length cap0), (1, .slice A1 (l1).length cap1), (2, .int .i64 (p2)), (3, .int .i64 (p3)), (9, .pointer (some ⟨b5, 0, none⟩)), (10, .pointer (some ⟨b21, 0, none⟩)), (11, .func (.func 134) #[] #[.pointer (some ⟨b21, 0, none⟩), .pointer (some ⟨b5, 0, none⟩)]), (12, .int .i64 (x791)), (13, .int .i64 (x1019)), (14, .int .i64 (wr (p3 + x791)))] (by kernel_rfl) (by kernel_rfl) (fun a1061 => ?_)
          refine cW_seq ?_
          refine cW_drawnTail [] 13 (by kernel_rfl) (by kernel_rfl) (fun w1074 hc1075 => ?_)
          replace F800 := F800.chg hc1075 Dj.nil
          replace F801 := F801.chg hc1075 Dj.nil
          replace F1014 := F1014.chg hc1075 notNil
          replace F1013 := F1013.chg hc1075 notNil
          replace F1011 := F1011.chg hc1075 Dj.nil
          replace hB := hB.inS hc1075 inNil
          replace hZ := Nat.le_trans hZ hc1075.size
          have hS := Chg.refl [] w1074
          have Z1076 := F800
          have Z1077 := F801
          have Z1078 := F1014
          have Z1079 := F1013
          have Z1080 := F1011
          refine wH_take [0, 1] [1, 0] [(43, .int .i64 (p3)), (42, .slice A0 (l0).length cap0)] (by kernel_rfl) (qT (qT (qT (qT (qT (qB (qT (qL (qB (qT (qT qZ))))))))))) (by kernel_rfl) ?_
          obtain ⟨x1081, hx1082, hm⟩ := bindE hm
          refine wH_idx (i := 2) (d := 44) (T := 25) (A := A0) (n := (l0).length) (cap := cap0) (kd := .i64) (m := p3) (by kernel_rfl) (qT (qT (qT (qT (qT (qB (qT (qL (qB (qT (qT qZ))))))))))) (by kernel_rfl) (by kernel_rfl) sl25 (F800.is hx1082) ?_
          refine wH_load1 (i := 3) (d := 45) (T := 2) (ad := (elA A0 1 (p3) 0)) (v := .int .i64 (x1081)) (by kernel_rfl) (qT (qT (qT (qT (qT (qB (qT (qL (qB (qT (qT qZ))))))))))) (by kernel_rfl) (by kernel_rfl) vt2 (fun W hW => Sl.cell (Z1076.chg hW Dj.nil) hx1082 0 (by rfl)) ?_
          refine wH_take [4, 5] [5, 4, 3, 2, 1, 0] [(47, .int .i64 (p3)), (46, .slice A1 (l1).length cap1)] (by kernel_rfl) (qT (qT (qT (qT (qT (qB (qT (qL (qB (qT (qT qZ))))))))))) (by kernel_rfl) ?_
          obtain ⟨x1083, hx1084, hm⟩ := bindE hm
          refine wH_idx (i := 6) (d := 48) (T := 25) (A := A1) (n := (l1).length) (cap := cap1) (kd := .i64) (m := p3) (by kernel_rfl) (qT (qT (qT (qT (qT (qB (qT (qL (qB (qT (qT qZ))))))))))) (by kernel_rfl) (by kernel_rfl) sl25 (F801.is hx1084) ?_
          refine wH_load1 (i := 7) (d := 49) (T := 2) (ad := (elA A1 1 (p3) 0)) (v := .int .i64 (x1083)) (by kernel_rfl) (qT (qT (qT (qT (qT (qB (qT (qL (qB (qT (qT qZ))))))))))) (by kernel_rfl) (by kernel_rfl) vt2 (fun W hW => Sl.cell (Z1077.chg hW Dj.nil) hx1084 0 (by rfl)) ?_
          refine wH_take [8, 9] [9, 8, 7, 6, 5, 4, 3, 2, 1, 0] [(51, .bool (decide (x1081 > x1083))), (50, .bool (decide (x1081 > x1083)))] (by kernel_rfl) (qT (qT (qT (qT (qT (qB (qT (qL (qB (qT (qT qZ))))))))))) (by kernel_rfl) ?_
          refine wH_bool (decide (x1081 > x1083)) (fun hb1085 => ?_) (fun hb1085 => ?_)
          · have hm := condT hb1085 hm
            rewrite [hb1085]
            refine wH_take [10, 11, 12] [12, 11, 10, 9, 8, 7, 6, 5, 4, 3, 2, 1, 0] [(54, .int .i64 (((l1).length : Int))), (53, .slice A1 (l1).length cap1), (52, .int .i64 (wr (p3 + x791)))] (by kernel_rfl) (qT (qT (qT (qT (qT (qB (qT (qL (qB (qT (qT qZ))))))))))) (by kernel_rfl) ?_
            refine wH_done (by kernel_rfl) ?_
            refine eX_tail ?_
            refine wS_pure 2 [(56, .bool (decide ((wr (p3 + x791)) < (((l1).length : Int))))), (55, .bool (decide ((wr (p3 + x791)) < (((l1).length : Int)))))] (by kernel_rfl) ?_
            refine wS_end (by rfl) ?_
            refine eX_then ?_
            refine cW_prune [(0, .slice A0 (l0).length cap0), (1, .slice A1 (l1).length cap1), (2, .int .i64 (p2)), (3, .int .i64 (p3)), (9, .pointer (some ⟨b5, 0, none⟩)), (10, .pointer (some ⟨b21, 0, none⟩)), (11, .func (.func 134) #[] #[.pointer (some ⟨b21, 0, none⟩), .pointer (some ⟨b5, 0, none⟩)]), (12, .int .i64 (x791)), (13, .int .i64 (x1019)), (14, .int .i64 (wr (p3 + x791))), (56, .bool (decide ((wr (p3 + x791)) < (((l1).length : Int)))))] (by kernel_rfl) (by kernel_rfl) (fun a1086 => ?_)
            refine cW_cond (t := decide ((wr (p3 + x791)) < (((l1).length : Int)))) (by kernel_rfl) (fun hb1087 => ?_) (fun hb1087 => ?_)
            · have hm := condT hb1087 hm
              refine cW_region ?_
              refine wS_pure 3 [(59, .int .i64 (wr (p3 + x791))), (58, .slice A1 (l1).length cap1), (57, .int .i64 (x1019))] (by kernel_rfl) ?_
              obtain ⟨x1088, hx1089, hm⟩ := bindE hm
              refine wS_idx (d := 60) (T := 25) (A := A1) (n := (l1).length) (cap := cap1) (kd := .i64) (m := wr (p3 + x791)) (by kernel_rfl) sl25 (F801.is hx1089) ?_
              refine wS_load1 (d := 61) (T := 2) (ad := (elA A1 1 (wr (p3 + x791)) 0)) (v := .int .i64 (x1088)) (by kernel_rfl) vt2 (Sl.cell F801 hx1089 0 (by rfl)) ?_
              refine wS_pure 4 [(13, .int .i64 (if (wr (x1088 - x791)) < x1019 then (wr (x1088 - x791)) else x1019)), (64, .int .i64 (if (wr (x1088 - x791)) < x1019 then (wr (x1088 - x791)) else x1019)), (63, .int .i64 (wr (x1088 - x791))), (62, .int .i64 (x791))] (by kernel_rfl) ?_
              refine wS_end (by rfl) ?_
              have hq : (some (if (wr (x1088 - x791)) < x1019 then (wr (x1088 - x791)) else x1019) : Option (Int)) = some _ := hm
              replace hq := someE hq
              subst hq
              exact eX_J (fun hst => ⟨if (wr (x1088 - x791)) < x1019 then (wr (x1088 - x791)) else x1019, rfl, Fr.of hst (by kernel_rfl), F800, F801, F1014, F1013, F1011, hB, hZ⟩)
            · have hm := condF hb1087 hm
              refine cW_skip ?_
              have hq : (some x1019 : Option (Int)) = some _ := hm
              replace hq := someE hq
              subst hq
              exact eX_J (fun hst => ⟨x1019, rfl, Fr.of hst (by kernel_rfl), F800, F801, F1014, F1013, F1011, hB, hZ⟩)
          · have hm := condF hb1085 hm
            rewrite [hb1085]
            refine wH_take [10, 11, 12] [12, 11, 10, 9, 8, 7, 6, 5, 4, 3, 2, 1, 0] [(54, undef), (53, undef), (52, undef)] (by kernel_rfl) (qT (qT (qT (qT (qT (qB (qT (qL (qB (qT (qT qZ))))))))))) (by kernel_rfl) ?_
            refine wH_done (by kernel_rfl) ?_
            refine eX_tail ?_
            refine wS_pure 2 [(56, .bool (false)), (55, undef)] (by kernel_rfl) ?_
            refine wS_end (by rfl) ?_
            refine eX_then ?_
            refine cW_prune [(0, .slice A0 (l0).length cap0), (1, .slice A1 (l1).length cap1), (2, .int .i64 (p2)), (3, .int .i64 (p3)), (9, .pointer (some ⟨b5, 0, none⟩)), (10, .pointer (some ⟨b21, 0, none⟩)), (11, .func (.func 134) #[] #[.pointer (some ⟨b21, 0, none⟩), .pointer (some ⟨b5, 0, none⟩)]), (12, .int .i64 (x791)), (13, .int .i64 (x1019)), (14, .int .i64 (wr (p3 + x791))), (56, .bool (false))] (by kernel_rfl) (by kernel_rfl) (fun a1090 => ?_)
            refine cW_cond_f (by kernel_rfl) ?_
            refine cW_skip ?_
            have hq : (some x1019 : Option (Int)) = some _ := hm
            replace hq := someE hq
            subst hq
            exact eX_J (fun hst => ⟨x1019, rfl, Fr.of hst (by kernel_rfl), F800, F801, F1014, F1013, F1011, hB, hZ⟩)
        · rintro a' w1051 ⟨x1052, hJ, hF1053, F1054, F1055, F1056, F1057, F1058, hB, hZ⟩
          subst hJ
          refine Fr.goX hF1053 (by kernel_rfl) ?_
          refine eX_then ?_
          refine cW_seq ?_
          obtain ⟨s1128, hs1129, hm⟩ := bindE hm
          refine cW_cut (fun a' w' => ∃ x1121 : Int, x1121 = s1128 ∧ Fr 102 [(0, .slice A0 (l0).length cap0), (1, .slice A1 (l1).length cap1), (2, .int .i64 (p2)), (3, .int .i64 (p3)), (9, .pointer (some ⟨b5, 0, none⟩)), (10, .pointer (some ⟨b21, 0, none⟩)), (11, .func (.func 134) #[] #[.pointer (some ⟨b21, 0, none⟩), .pointer (some ⟨b5, 0, none⟩)]), (12, .int .i64 (x791)), (13, .int .i64 (x1121))] a' ∧ Sl 1 encI w' fp0 A0 l0 ∧ Sl 1 encI w' fp1 A1 l1 ∧ Cl w' b5 37 [.int .i64 (y1004.1), .int .i64 (y1004.2.1)] ∧ Cl w' b21 32 [.slice A1008 (y1004.2.2).length cap1009] ∧ Ow 2 encII 37 w' fp1010 A1008 cap1009 y1004.2.2 ∧ Chg [] w0 w' ∧ w0.heap.size ≤ w'.heap.size) ?_ ?_
          · have hm := hs1129
            refine cW_seq ?_
            refine cW_region ?_
            refine wS_pure 4 [(15, .int .i64 (wr (p3 - x791))), (67, .int .i64 (wr (p3 - x791))), (66, .int .i64 (x791)), (65, .int .i64 (p3))] (by kernel_rfl) ?_
            refine wS_end (by rfl) ?_
            refine eX_then ?_
            refine cW_seq ?_
            refine cW_drawnTail [] 8 (by kernel_rfl) (by kernel_rfl) (fun w1142 hc1143 => ?_)
            replace F1054 := F1054.chg hc1143 Dj.nil
            replace F1055 := F1055.chg hc1143 Dj.nil
            replace F1056 := F1056.chg hc1143 notNil
            replace F1057 := F1057.chg hc1143 notNil
            replace F1058 := F1058.chg hc1143 Dj.nil
            replace hB := hB.inS hc1143 inNil
            replace hZ := Nat.le_trans hZ hc1143.size
            have hS := Chg.refl [] w1142
            have Z1144 := F1054
            have Z1145 := F1055
            have Z1146 := F1056
            have Z1147 := F1057
            have Z1148 := F1058
            refine wH_take [0, 1] [1, 0] [(69, .int .i64 (p3)), (68, .slice A0 (l0).length cap0)] (by kernel_rfl) (qT (qT (qT (qT (qT (qB (qT (qL (qB (qT (qT qZ))))))))))) (by kernel_rfl) ?_
            obtain ⟨x1149, hx1150, hm⟩ := bindE hm
            refine wH_idx (i := 2) (d := 70) (T := 25) (A := A0) (n := (l0).length) (cap := cap0) (kd := .i64) (m := p3) (by kernel_rfl) (qT (qT (qT (qT (qT (qB (qT (qL (qB (qT (qT qZ))))))))))) (by kernel_rfl) (by kernel_rfl) sl25 (F1054.is hx1150) ?_
            refine wH_load1 (i := 3) (d := 71) (T := 2) (ad := (elA A0 1 (p3) 0)) (v := .int .i64 (x1149)) (by kernel_rfl) (qT (qT (qT (qT (qT (qB (qT (qL (qB (qT (qT qZ))))))))))) (by kernel_rfl) (by kernel_rfl) vt2 (fun W hW => Sl.cell (Z1144.chg hW Dj.nil) hx1150 0 (by rfl)) ?_
            refine wH_take [4, 5] [5, 4, 3, 2, 1, 0] [(73, .int .i64 (p3)), (72, .slice A1 (l1).length cap1)] (by kernel_rfl) (qT (qT (qT (qT (qT (qB (qT (qL (qB (qT (qT qZ))))))))))) (by kernel_rfl) ?_
            obtain ⟨x1151, hx1152, hm⟩ := bindE hm
            refine wH_idx (i := 6) (d := 74) (T := 25) (A := A1) (n := (l1).length) (cap := cap1) (kd := .i64) (m := p3) (by kernel_rfl) (qT (qT (qT (qT (qT (qB (qT (qL (qB (qT (qT qZ))))))))))) (by kernel_rfl) (by kernel_rfl) sl25 (F1055.is hx1152) ?_
            refine wH_load1 (i := 7) (d := 75) (T := 2) (ad := (elA A1 1 (p3) 0)) (v := .int .i64 (x1151)) (by kernel_rfl) (qT (qT (qT (qT (qT (qB (qT (qL (qB (qT (qT qZ))))))))))) (by kernel_rfl) (by kernel_rfl) vt2 (fun W hW => Sl.cell (Z1145.chg hW Dj.nil) hx1152 0 (by rfl)) ?_
            refine wH_done (by kernel_rfl) ?_
            refine eX_tail ?_
            refine wS_pure 2 [(77, .bool (decide (x1149 < x1151))), (76, .bool (decide (x1149 < x1151)))] (by kernel_rfl) ?_
            refine wS_bool (decide (x1149 < x1151)) (fun hb1153 => ?_) (fun hb1153 => ?_)
            · have hm := condT hb1153 hm
              rewrite [hb1153]
              refine wS_pure 3 [(80, .bool (decide ((wr (p3 - x791)) ≥ 0))), (79, .bool (decide ((wr (p3 - x791)) ≥ 0))), (78, .int .i64 (wr (p3 - x791)))] (by kernel_rfl) ?_
              refine wS_end (by rfl) ?_
              refine eX_then ?_
              refine cW_prune [(0, .slice A0 (l0).length cap0), (1, .slice A1 (l1).length cap1), (2, .int .i64 (p2)), (3, .int .i64 (p3)), (9, .pointer (some ⟨b5, 0, none⟩)), (10, .pointer (some ⟨b21, 0, none⟩)), (11, .func (.func 134) #[] #[.pointer (some ⟨b21, 0, none⟩), .pointer (some ⟨b5, 0, none⟩)]), (12, .int .i64 (x791)), (13, .int .i64 (x1052)), (15, .int .i64 (wr (p3 - x791))), (80, .bool (decide ((wr (p3 - x791)) ≥ 0)))] (by kernel_rfl) (by kernel_rfl) (fun a1154 => ?_)
              refine cW_cond (t := decide ((wr (p3 - x791)) ≥ 0)) (by kernel_rfl) (fun hb1155 => ?_) (fun hb1155 => ?_)
              · have hm := condT hb1155 hm
                refine cW_region ?_
                refine wS_pure 3 [(83, .int .i64 (wr (p3 - x791))), (82, .slice A1 (l1).length cap1), (81, .int .i64 (x1052))] (by kernel_rfl) ?_
                obtain ⟨x1156, hx1157, hm⟩ := bindE hm
                refine wS_idx (d := 84) (T := 25) (A := A1) (n := (l1).length) (cap := cap1) (kd := .i64) (m := wr (p3 - x791)) (by kernel_rfl) sl25 (F1055.is hx1157) ?_
                refine wS_load1 (d := 85) (T := 2) (ad := (elA A1 1 (wr (p3 - x791)) 0)) (v := .int .i64 (x1156)) (by kernel_rfl) vt2 (Sl.cell F1055 hx1157 0 (by rfl)) ?_
                refine wS_pure 4 [(13, .int .i64 (if (wr (x1156 + x791)) > x1052 then (wr (x1156 + x791)) else x1052)), (88, .int .i64 (if (wr (x1156 + x791)) > x1052 then (wr (x1156 + x791)) else x1052)), (87, .int .i64 (wr (x1156 + x791))), (86, .int .i64 (x791))] (by kernel_rfl) ?_
                refine wS_end (by rfl) ?_
                have hq : (some (if (wr (x1156 + x791)) > x1052 then (wr (x1156 + x791)) else x1052) : Option (Int)) = some _ := hm
                replace hq := someE hq
                subst hq
                exact eX_J (fun hst => ⟨if (wr (x1156 + x791)) > x1052 then (wr (x1156 + x791)) else x1052, rfl, Fr.of hst (by kernel_rfl), F1054, F1055, F1056, F1057, F1058, hB, hZ⟩)
              · have hm := condF hb1155 hm
                refine cW_skip ?_
                have hq : (some x1052 : Option (Int)) = some _ := hm
                replace hq := someE hq
                subst hq
                exact eX_J (fun hst => ⟨x1052, rfl, Fr.of hst (by kernel_rfl), F1054, F1055, F1056, F1057, F1058, hB, hZ⟩)
            · have hm := condF hb1153 hm
              rewrite [hb1153]
              refine wS_pure 3 [(80, .bool (false)), (79, undef), (78, undef)] (by kernel_rfl) ?_
              refine wS_end (by rfl) ?_
              refine eX_then ?_
              refine cW_prune [(0, .slice A0 (l0).length cap0), (1, .slice A1 (l1).length cap1), (2, .int .i64 (p2)), (3, .int .i64 (p3)), (9, .pointer (some ⟨b5, 0, none⟩)), (10, .pointer (some ⟨b21, 0, none⟩)), (11, .func (.func 134) #[] #[.pointer (some ⟨b21, 0, none⟩), .pointer (some ⟨b5, 0, none⟩)]), (12, .int .i64 (x791)), (13, .int .i64 (x1052)), (15, .int .i64 (wr (p3 - x791))), (80, .bool (false))] (by kernel_rfl) (by kernel_rfl) (fun a1158 => ?_)
              refine cW_cond_f (by kernel_rfl) ?_
              refine cW_skip ?_
              have hq : (some x1052 : Option (Int)) = some _ := hm
              replace hq := someE hq
              subst hq
              exact eX_J (fun hst => ⟨x1052, rfl, Fr.of hst (by kernel_rfl), F1054, F1055, F1056, F1057, F1058, hB, hZ⟩)
          · rintro a' w1120 ⟨x1121, hJ, hF1122, F1123, F1124, F1125, F1126, F1127, hB, hZ⟩
            subst hJ
            refine Fr.goX hF1122 (by kernel_rfl) ?_
            refine eX_then ?_
            refine cW_region ?_
            refine wS_pure 4 [(92, .agg #[.int .i64 (x1121), .int .i64 (x791)]), (91, .int .i64 (x791)), (90, .int .i64 (x1121)), (89, .func (.func 134) #[] #[.pointer (some ⟨b21, 0, none⟩), .pointer (some ⟨b5, 0, none⟩)])] (by kernel_rfl) ?_
            obtain ⟨y1159, hy1160, hm⟩ := bindE hm
            refine wS_calls (d := 93) (f := 134) (vs := [.agg #[.int .i64 (x1121), .int .i64 (x791)], .pointer (some ⟨b21, 0, none⟩), .pointer (some ⟨b5, 0, none⟩)]) (by kernel_rfl) ent134 (c_impl_riverPath_1_bimplPoint_bimplPoint hy1160 F1127 F1126 F1125 D1018 (D27).symm D1017) ?_
            rintro _ w1161 ⟨A1163, cap1164, fp1165, rfl, F1168, F1169, F1166, hap1167, hc1162⟩
            have G1171 := Rt.lowof hap1167 hZ G1016
            have D1172 : Dj [b5] fp1165 := Dj.ap D1017 (lt1 F1125.lt) hap1167
            have D1173 : Dj [b21] fp1165 := Dj.ap D1018 (lt1 F1126.lt) hap1167
            replace F1123 := F1123.chg hc1162 (Dj.app (Dj.of L0 (low1 G23)) (Dj.app (Dj.of L0 (low1 G7)) (Dj.app (Dj.of L0 G1016) Dj.nil)))
            replace F1124 := F1124.chg hc1162 (Dj.app (Dj.of L1 (low1 G23)) (Dj.app (Dj.of L1 (low1 G7)) (Dj.app (Dj.of L1 G1016) Dj.nil)))
            replace hB := hB.inS hc1162 (inApp (inLow (low1 G23)) (inApp (inLow (low1 G7)) (inApp (inLow G1016) inNil)))
            replace hZ := Nat.le_trans hZ hc1162.size
            clear F1126
            clear F1125
            refine ⟨.tuple #[], rfl, ?_⟩
            refine wS_end (by rfl) ?_
            have hq : (some ((y1159.1, y1159.2.1, y1159.2.2)) : Option (Int × Int × (List (Int × Int)))) = some _ := hm
            replace hq := someE hq
            subst hq
            exact eX_J (fun hst => ⟨y1159.1, y1159.2.1, y1159.2.2, A1163, cap1164, fp1165, rfl, Fr.of hst (by kernel_rfl), F1123, F1124, F1169, F1168, F1166, G1171, D1172, D1173, hB, hZ⟩)
      · rintro a' w985 ⟨x986, x987, l988, A989, cap990, fp991, hJ, hF993, F994, F995, F996, F997, F998, G999, D1000, D1001, hB, hZ⟩
        subst hJ
        refine Fr.goX hF993 (by kernel_rfl) ?_
        refine eX_block ?_
        refine eX_then ?_
        refine cW_region ?_
        refine wS_pure 3 [(12, .int .i64 (wr (x791 + 1))), (28, .int .i64 (wr (x791 + 1))), (27, .int .i64 (x791))] (by kernel_rfl) ?_
        refine wS_end (by rfl) ?_
        have hq : (some (Ctl.next ((wr (x791 + 1), x986, x987, l988))) : Option (Ctl (Int × Int × Int × (List (Int × Int))) (Int × Int × (List (Int × Int))))) = some _ := hm
        replace hq := someE hq
        subst hq
        exact eX_next hx813 (fun hst => ⟨wr (x791 + 1), x986, x987, l988, A989, cap990, fp991, rfl, Fr.of hst (by kernel_rfl), F994, F995, F996, F997, F998, G999, D1000, D1001, hB, hZ⟩)
    · have hm := condF hb814 hm
      refine cW_exit ?_
      refine eX_then_exit ?_
      have hq : (some (Ctl.out ((x792, x793, l794))) : Option (Ctl (Int × Int × Int × (List (Int × Int))) (Int × Int × (List (Int × Int))))) = some _ := hm
      replace hq := someE hq
      subst hq
      refine eX_outX hx813 (fun hr1174 => ?_)
      replace hr1174 := hr1174.symm
      subst hr1174
      refine eX_block_hit ?_
      exact eX_J (fun hst => ⟨x792, x793, l794, A795, cap796, fp797, rfl, Fr.of hst (by kernel_rfl), F802, F803, F804, G805, D806, D807, hB, hZ⟩)
  · rintro a' w775 ⟨x776, x777, l778, A779, cap780, fp781, hJ, hF783, F784, F785, F786, G787, D788, D789, hB, hZ⟩
    subst hJ
    refine Fr.goX hF783 (by kernel_rfl) ?_
    refine eX_then ?_
    refine cW_seq ?_
    refine cW_region ?_
    refine wS_pure 2 [(95, .pointer (some ⟨b5, 0, none⟩)), (94, .func (.func 134) #[] #[.pointer (some ⟨b21, 0, none⟩), .pointer (some ⟨b5, 0, none⟩)])] (by kernel_rfl) ?_
    refine wS_load1 (d := 96) (T := 2) (ad := ⟨b5, 0, none⟩) (v := .int .i64 (x776)) (by kernel_rfl) vt2 ((F784).cell 0) ?_
    refine wS_pure 3 [(99, .agg #[.int .i64 (x776), .int .i64 (wr (p2 + 1))]), (98, .int .i64 (wr (p2 + 1))), (97, .int .i64 (p2))] (by kernel_rfl) ?_
    obtain ⟨y1175, hy1176, hm⟩ := bindE hm
    refine wS_calls (d := 100) (f := 134) (vs := [.agg #[.int .i64 (x776), .int .i64 (wr (p2 + 1))], .pointer (some ⟨b21, 0, none⟩), .pointer (some ⟨b5, 0, none⟩)]) (by kernel_rfl) ent134 (c_impl_riverPath_1_bimplPoint_bimplPoint hy1176 F786 F785 F784 D789 (D27).symm D788) ?_
    rintro _ w1177 ⟨A1179, cap1180, fp1181, rfl, F1184, F1185, F1182, hap1183, hc1178⟩
    have G1187 := Rt.lowof hap1183 hZ G787
    have D1188 : Dj [b5] fp1181 := Dj.ap D788 (lt1 F784.lt) hap1183
    have D1189 : Dj [b21] fp1181 := Dj.ap D789 (lt1 F785.lt) hap1183
    replace hB := hB.inS hc1178 (inApp (inLow (low1 G23)) (inApp (inLow (low1 G7)) (inApp (inLow G787) inNil)))
    replace hZ := Nat.le_trans hZ hc1178.size
    clear F785
    clear F784
    refine ⟨.tuple #[], rfl, ?_⟩
    refine wS_end (by rfl) ?_
    refine eX_then ?_
    refine cW_seq ?_
    refine cW_region ?_
    refine wS_load1 (d := 101) (T := 32) (ad := ⟨b21, 0, none⟩) (v := .slice A1179 (y1175.2.2).length cap1180) (by kernel_rfl) vt32 ((F1184).cell 0) ?_
    refine wS_pure 1 [(8, .slice A1179 (y1175.2.2).length cap1180)] (by kernel_rfl) ?_
    refine wS_end (by rfl) ?_
    refine eX_then ?_
    refine cW_ret ?_
    have hq : (some y1175.2.2 : Option ((List (Int × Int)))) = some _ := hm
    replace hq := someE hq
    subst hq
    refine eX_ret (vs := [.slice A1179 (y1175.2.2).length cap1180]) [.tmp 8] (by rfl) ⟨by (show lkE _ _ _ = _); kernel_rfl, trivial⟩ ?_
    exact ⟨A1179, cap1180, fp1181, rfl, F1182, G1187, hB⟩

set_option maxRecDepth 100000 in
/-- impl.RiverWire -/
theorem c_impl_RiverWire {w0 : World} {l0 : List (Int)} {A0 : Option Addr} {cap0 : Nat} {fp0 : List Nat} {l1 : List (Int)} {A1 : Option Addr} {cap1 : Nat} {fp1 : List Nat} {p2 : Int} {p3 : Int} {r : (List (Int × Int)) × (Bool)} (hm : m_impl_RiverWire l0 l1 p2 p3 = some r) (F0 : Sl 1 encI w0 fp0 A0 l0) (F1 : Sl 1 encI w0 fp1 A1 l1) :
    Calls Try.prog 17 #[.slice A0 (l0).length cap0, .slice A1 (l1).length cap1, .int .i64 (p2), .int .i64 (p3)] w0 fun e w' => ∃ A100 cap100 fp100, e = .returned (.tuple #[.slice A100 (r.1).length cap100, .bool (r.2)]) ∧ Ow 2 encII 37 w' fp100 A100 cap100 r.1 ∧ (∀ x ∈ fp100, w0.heap.size ≤ x) ∧ Chg [] w0 w' := by
  have L0 := F0.low
  have L1 := F1.low
  have hB : Chg [] w0 w0 := Chg.refl _ _
  have hZ := Nat.le_refl w0.heap.size
  unfold m_impl_RiverWire at hm
  refine enterE (N := 29) Try.func17 (by rfl) Try.ntmps17 (by simp) [(0, .slice A0 (l0).length cap0), (1, .slice A1 (l1).length cap1), (2, .int .i64 (p2)), (3, .int .i64 (p3))] (by rfl) (by kernel_rfl) (fun a => ?_)
  refine cW_seq ?_
  refine cW_region ?_
  refine wS_pure 2 [(9, .bool (false)), (8, .slice none 0 0)] (by kernel_rfl) ?_
  refine wS_end (by rfl) ?_
  refine eX_then ?_
  refine cW_seq ?_
  refine cW_seq ?_
  refine cW_region ?_
  refine wS_pure 3 [(12, .int .i64 (p2)), (11, .slice A1 (l1).length cap1), (10, .slice A0 (l0).length cap0)] (by kernel_rfl) ?_
  obtain ⟨y3, hy4, hm⟩ := bindE hm
  refine wS_calls (d := 13) (f := 16) (vs := [.slice A0 (l0).length cap0, .slice A1 (l1).length cap1, .int .i64 (p2)]) (by kernel_rfl) ent16 (c_impl_FitsRiver hy4 F0 F1) ?_
  rintro _ w5 ⟨rfl, hc6⟩
  replace F0 := F0.chg hc6 Dj.nil
  replace F1 := F1.chg hc6 Dj.nil
  replace hB := hB.inS hc6 inNil
  replace hZ := Nat.le_trans hZ hc6.size
  refine ⟨.bool (y3), rfl, ?_⟩
  refine wS_pure 2 [(15, .bool (!y3)), (14, .bool (!y3))] (by kernel_rfl) ?_
  refine wS_bool (!y3) (fun hb7 => ?_) (fun hb7 => ?_)
  · have hm := condT hb7 hm
    rewrite [hb7]
    refine wS_pure 7 [(22, .bool (true)), (21, undef), (20, undef), (19, undef), (18, undef), (17, undef), (16, undef)] (by kernel_rfl) ?_
    refine wS_end (by rfl) ?_
    refine eX_then ?_
    refine cW_cond_t (by kernel_rfl) ?_
    refine cW_seq ?_
    refine cW_region ?_
    refine wS_pure 2 [(9, .bool (false)), (8, .slice none 0 0)] (by kernel_rfl) ?_
    refine wS_end (by rfl) ?_
    refine eX_then ?_
    refine cW_ret ?_
    refine eX_then_ret ?_
    have hq : (some (([], false)) : Option ((List (Int × Int)) × (Bool))) = some _ := hm
    replace hq := someE hq
    subst hq
    refine eX_ret (vs := [.slice none 0 0, .bool (false)]) [.tmp 8, .tmp 9] (by rfl) ⟨by (show lkE _ _ _ = _); kernel_rfl, ⟨by (show lkE _ _ _ = _); kernel_rfl, trivial⟩⟩ ?_
    exact ⟨none, 0, [], rfl, Ow.nil _, lowNil, hB⟩
  · have hm := condF hb7 hm
    rewrite [hb7]
    refine wS_pure 4 [(19, .int .i64 (wr ((((l0).length : Int)) - 1))), (18, .int .i64 (((l0).length : Int))), (17, .slice A0 (l0).length cap0), (16, .int .i64 (p3))] (by kernel_rfl) ?_
    obtain ⟨y8, hy9, hm⟩ := bindE hm
    refine wS_calls (d := 20) (f := 71) (vs := [.int .i64 (p3), .int .i64 (0), .int .i64 (wr ((((l0).length : Int)) - 1))]) (by kernel_rfl) ent71 (c_impl_in hy9) ?_
    rintro _ w10 ⟨rfl, hc11⟩
    replace F0 := F0.chg hc11 Dj.nil
    replace F1 := F1.chg hc11 Dj.nil
    replace hB := hB.inS hc11 inNil
    replace hZ := Nat.le_trans hZ hc11.size
    refine ⟨.bool (y8), rfl, ?_⟩
    refine wS_pure 2 [(22, .bool (!y8)), (21, .bool (!y8))] (by kernel_rfl) ?_
    refine wS_end (by rfl) ?_
    refine eX_then ?_
    refine cW_cond (t := !y8) (by kernel_rfl) (fun hb12 => ?_) (fun hb12 => ?_)
    · have hm := condT hb12 hm
      refine cW_seq ?_
      refine cW_region ?_
      refine wS_pure 2 [(9, .bool (false)), (8, .slice none 0 0)] (by kernel_rfl) ?_
      refine wS_end (by rfl) ?_
      refine eX_then ?_
      refine cW_ret ?_
      refine eX_then_ret ?_
      have hq : (some (([], false)) : Option ((List (Int × Int)) × (Bool))) = some _ := hm
      replace hq := someE hq
      subst hq
      refine eX_ret (vs := [.slice none 0 0, .bool (false)]) [.tmp 8, .tmp 9] (by rfl) ⟨by (show lkE _ _ _ = _); kernel_rfl, ⟨by (show lkE _ _ _ = _); kernel_rfl, trivial⟩⟩ ?_
      exact ⟨none, 0, [], rfl, Ow.nil _, lowNil, hB⟩
    · have hm := condF hb12 hm
      refine cW_skip ?_
      refine eX_then ?_
      refine cW_seq ?_
      refine cW_region ?_
      refine wS_pure 4 [(26, .int .i64 (p3)), (25, .int .i64 (p2)), (24, .slice A1 (l1).length cap1), (23, .slice A0 (l0).length cap0)] (by kernel_rfl) ?_
      obtain ⟨y13, hy14, hm⟩ := bindE hm
      refine wS_calls (d := 27) (f := 73) (vs := [.slice A0 (l0).length cap0, .slice A1 (l1).length cap1, .int .i64 (p2), .int .i64 (p3)]) (by kernel_rfl) ent73 (c_impl_riverPath hy14 F0 F1) ?_
      rintro _ w15 ⟨A17, cap18, fp19, rfl, F20, G21, hc16⟩
      replace F0 := F0.chg hc16 Dj.nil
      replace F1 := F1.chg hc16 Dj.nil
      replace hB := hB.inS hc16 inNil
      replace G21 := low_le hZ G21
      replace hZ := Nat.le_trans hZ hc16.size
      refine ⟨.slice A17 (y13).length cap18, rfl, ?_⟩
      obtain ⟨y24, hy25, hm⟩ := bindE hm
      refine wS_calls (d := 28) (f := 72) (vs := [.slice A17 (y13).length cap18]) (by kernel_rfl) ent72 (c_impl_corners hy25 (F20.sl encII_ok)) ?_
      rintro _ w26 ⟨A28, cap29, fp30, rfl, F31, G32, hc27⟩
      have D35 : Dj fp19 fp30 := Dj.of F20.low G32
      replace F0 := F0.chg hc27 Dj.nil
      replace F1 := F1.chg hc27 Dj.nil
      replace F20 := F20.chg hc27 Dj.nil
      replace hB := hB.inS hc27 inNil
      replace G32 := low_le hZ G32
      replace hZ := Nat.le_trans hZ hc27.size
      refine ⟨.slice A28 (y24).length cap29, rfl, ?_⟩
      refine wS_pure 2 [(9, .bool (true)), (8, .slice A28 (y24).length cap29)] (by kernel_rfl) ?_
      refine wS_end (by rfl) ?_
      refine eX_then ?_
      refine cW_prune [(8, .slice A28 (y24).length cap29), (9, .bool (true))] (by kernel_rfl) (by kernel_rfl) (fun a36 => ?_)
      refine cW_ret ?_
      have hq : (some ((y24, true)) : Option ((List (Int × Int)) × (Bool))) = some _ := hm
      replace hq := someE hq
      subst hq
      refine eX_ret (vs := [.slice A28 (y24).length cap29, .bool (true)]) [.tmp 8, .tmp 9] (by rfl) ⟨by (show lkE _ _ _ = _); kernel_rfl, ⟨by (show lkE _ _ _ = _); kernel_rfl, trivial⟩⟩ ?_
      exact ⟨A28, cap29, fp30, rfl, F31, G32, hB⟩

set_option maxRecDepth 100000 in
/-- impl.IsPoint -/
theorem c_impl_IsPoint {w0 : World} {p0_0 : Int} {p0_1 : Int} {r : (Bool)} (hm : m_impl_IsPoint p0_0 p0_1 = some r)  :
    Calls Try.prog 84 #[.agg #[.int .i64 (p0_0), .int .i64 (p0_1)]] w0 fun e w' => e = .returned (.bool (r)) ∧ Chg [] w0 w' := by
  have hB : Chg [] w0 w0 := Chg.refl _ _
  have hZ := Nat.le_refl w0.heap.size
  unfold m_impl_IsPoint at hm
  refine enterE (N := 11) Try.func84 (by rfl) Try.ntmps84 (by simp) [(0, .agg #[.int .i64 (p0_0), .int .i64 (p0_1)])] (by rfl) (by kernel_rfl) (fun a => ?_)
  refine cW_seq ?_
  refine cW_region ?_
  refine wS_box (d := 1) (T := 37) (x := .agg #[.int .i64 (p0_0), .int .i64 (p0_1)]) (by kernel_rfl) ?_
  intro b1 w2 G3 F4 hc5
  replace F4 : Cl w2 b1 37 [.int .i64 (p0_0), .int .i64 (p0_1)] := F4
  replace hB := hB.inS hc5 inNil
  replace G3 := Nat.le_trans hZ G3
  replace hZ := Nat.le_trans hZ hc5.size
  refine wS_pure 1 [(2, .bool (false))] (by kernel_rfl) ?_
  refine wS_end (by rfl) ?_
  refine eX_then ?_
  refine cW_seq ?_
  refine cW_region ?_
  refine wS_pure 1 [(3, .pointer (some ⟨b1, 0, none⟩))] (by kernel_rfl) ?_
  refine wS_load1 (d := 4) (T := 2) (ad := ⟨b1, 0, none⟩) (v := .int .i64 (p0_0)) (by kernel_rfl) vt2 ((F4).cell 0) ?_
  obtain ⟨y7, hy8, hm⟩ := bindE hm
  refine wS_calls (d := 5) (f := 71) (vs := [.int .i64 (p0_0), .int .i64 (0), .int .i64 (99)]) (by kernel_rfl) ent71 (c_impl_in hy8) ?_
  rintro _ w9 ⟨rfl, hc10⟩
  replace F4 := F4.chg hc10 notNil
  replace hB := hB.inS hc10 inNil
  replace hZ := Nat.le_trans hZ hc10.size
  refine ⟨.bool (y7), rfl, ?_⟩
  refine wS_pure 1 [(6, .bool (y7))] (by kernel_rfl) ?_
  refine wS_bool y7 (fun hb11 => ?_) (fun hb11 => ?_)
  · have hm := condT hb11 hm
    rewrite [hb11]
    refine wS_pure 1 [(7, .pointer (some ⟨b1, 1, none⟩))] (by kernel_rfl) ?_
    refine wS_load1 (d := 8) (T := 2) (ad := ⟨b1, 1, none⟩) (v := .int .i64 (p0_1)) (by kernel_rfl) vt2 ((F4).cell 1) ?_
    obtain ⟨y12, hy13, hm⟩ := bindE hm
    refine wS_calls (d := 9) (f := 71) (vs := [.int .i64 (p0_1), .int .i64 (0), .int .i64 (99)]) (by kernel_rfl) ent71 (c_impl_in hy13) ?_
    rintro _ w14 ⟨rfl, hc15⟩
    replace F4 := F4.chg hc15 notNil
    replace hB := hB.inS hc15 inNil
    replace hZ := Nat.le_trans hZ hc15.size
    refine ⟨.bool (y12), rfl, ?_⟩
    refine wS_pure 2 [(2, .bool (y12)), (10, .bool (y12))] (by kernel_rfl) ?_
    refine wS_end (by rfl) ?_
    refine eX_then ?_
    refine cW_ret ?_
    have hq : (some y12 : Option ((Bool))) = some _ := hm
    replace hq := someE hq
    subst hq
    refine eX_ret (vs := [.bool (y12)]) [.tmp 2] (by rfl) ⟨by (show lkE _ _ _ = _); kernel_rfl, trivial⟩ ?_
    exact ⟨rfl, hB⟩
  · have hm := condF hb11 hm
    rewrite [hb11]
    refine wS_pure 5 [(2, .bool (false)), (10, .bool (false)), (9, undef), (8, undef), (7, undef)] (by kernel_rfl) ?_
    refine wS_end (by rfl) ?_
    refine eX_then ?_
    refine cW_ret ?_
    have hq : (some false : Option ((Bool))) = some _ := hm
    replace hq := someE hq
    subst hq
    refine eX_ret (vs := [.bool (false)]) [.tmp 2] (by rfl) ⟨by (show lkE _ _ _ = _); kernel_rfl, trivial⟩ ?_
    exact ⟨rfl, hB⟩

set_option maxRecDepth 100000 in
/-- impl.noPoint -/
theorem c_impl_noPoint {w0 : World} {p0_0 : Int} {p0_1 : Int} {r : (Bool)} (hm : m_impl_noPoint p0_0 p0_1 = some r)  :
    Calls Try.prog 137 #[.agg #[.int .i64 (p0_0), .int .i64 (p0_1)]] w0 fun e w' => e = .returned (.bool (r)) ∧ Chg [] w0 w' := by
  have hB : Chg [] w0 w0 := Chg.refl _ _
  have hZ := Nat.le_refl w0.heap.size
  unfold m_impl_noPoint at hm
  refine enterE (N := 6) Try.func137 (by rfl) Try.ntmps137 (by simp) [(0, .agg #[.int .i64 (p0_0), .int .i64 (p0_1)])] (by rfl) (by kernel_rfl) (fun a => ?_)
  refine cW_seq ?_
  refine cW_region ?_
  refine wS_box (d := 1) (T := 37) (x := .agg #[.int .i64 (p0_0), .int .i64 (p0_1)]) (by kernel_rfl) ?_
  intro b1 w2 G3 F4 hc5
  replace F4 : Cl w2 b1 37 [.int .i64 (p0_0), .int .i64 (p0_1)] := F4
  replace hB := hB.inS hc5 inNil
  replace G3 := Nat.le_trans hZ G3
  replace hZ := Nat.le_trans hZ hc5.size
  refine wS_pure 1 [(2, .bool (false))] (by kernel_rfl) ?_
  refine wS_end (by rfl) ?_
  refine eX_then ?_
  refine cW_seq ?_
  refine cW_region ?_
  refine wS_loadA (d := 3) (T := 37) (ad := ⟨b1, 0, none⟩) (vs := [.int .i64 (p0_0), .int .i64 (p0_1)]) (by kernel_rfl) vt37 (fun i u hu => box_cells F4 0 hu (by rfl)) ?_
  obtain ⟨y7, hy8, hm⟩ := bindE hm
  refine wS_calls (d := 4) (f := 84) (vs := [.agg #[.int .i64 (p0_0), .int .i64 (p0_1)]]) (by kernel_rfl) ent84 (c_impl_IsPoint hy8) ?_
  rintro _ w9 ⟨rfl, hc10⟩
  replace F4 := F4.chg hc10 notNil
  replace hB := hB.inS hc10 inNil
  replace hZ := Nat.le_trans hZ hc10.size
  refine ⟨.bool (y7), rfl, ?_⟩
  refine wS_pure 2 [(2, .bool (!y7)), (5, .bool (!y7))] (by kernel_rfl) ?_
  refine wS_end (by rfl) ?_
  refine eX_then ?_
  refine cW_ret ?_
  have hq : (some (!y7) : Option ((Bool))) = some _ := hm
  replace hq := someE hq
  subst hq
  refine eX_ret (vs := [.bool (!y7)]) [.tmp 2] (by rfl) ⟨by (show lkE _ _ _ = _); kernel_rfl, trivial⟩ ?_
  exact ⟨rfl, hB⟩

set_option maxRecDepth 100000 in
/-- impl.size -/
theorem c_impl_size {w0 : World} {p0 : Int} {r : (Int)} (hm : m_impl_size p0 = some r)  :
    Calls Try.prog 147 #[.int .i64 (p0)] w0 fun e w' => e = .returned (.int .i64 (r)) ∧ Chg [] w0 w' := by
  have hB : Chg [] w0 w0 := Chg.refl _ _
  have hZ := Nat.le_refl w0.heap.size
  unfold m_impl_size at hm
  refine enterE (N := 7) Try.func147 (by rfl) Try.ntmps147 (by simp) [(0, .int .i64 (p0))] (by rfl) (by kernel_rfl) (fun a => ?_)
  refine cW_seq ?_
  refine cW_region ?_
  refine wS_pure 1 [(2, .int .i64 (0))] (by kernel_rfl) ?_
  refine wS_end (by rfl) ?_
  refine eX_then ?_
  refine cW_seq ?_
  refine cW_region ?_
  refine wS_pure 5 [(2, .int .i64 (if (wr (0 - p0)) > p0 then (wr (0 - p0)) else p0)), (6, .int .i64 (if (wr (0 - p0)) > p0 then (wr (0 - p0)) else p0)), (5, .int .i64 (wr (0 - p0))), (4, .int .i64 (p0)), (3, .int .i64 (p0))] (by kernel_rfl) ?_
  refine wS_end (by rfl) ?_
  refine eX_then ?_
  refine cW_ret ?_
  have hq : (some (if (wr (0 - p0)) > p0 then (wr (0 - p0)) else p0) : Option ((Int))) = some _ := hm
  replace hq := someE hq
  subst hq
  refine eX_ret (vs := [.int .i64 (if (wr (0 - p0)) > p0 then (wr (0 - p0)) else p0)]) [.tmp 2] (by rfl) ⟨by (show lkE _ _ _ = _); kernel_rfl, trivial⟩ ?_
  exact ⟨rfl, hB⟩

set_option maxRecDepth 100000 in
/-- impl.far -/
theorem c_impl_far {w0 : World} {p0_0 : Int} {p0_1 : Int} {p1_0 : Int} {p1_1 : Int} {r : (Int)} (hm : m_impl_far p0_0 p0_1 p1_0 p1_1 = some r)  :
    Calls Try.prog 85 #[.agg #[.int .i64 (p0_0), .int .i64 (p0_1)], .agg #[.int .i64 (p1_0), .int .i64 (p1_1)]] w0 fun e w' => e = .returned (.int .i64 (r)) ∧ Chg [] w0 w' := by
  have hB : Chg [] w0 w0 := Chg.refl _ _
  have hZ := Nat.le_refl w0.heap.size
  unfold m_impl_far at hm
  refine enterE (N := 18) Try.func85 (by rfl) Try.ntmps85 (by simp) [(0, .agg #[.int .i64 (p0_0), .int .i64 (p0_1)]), (1, .agg #[.int .i64 (p1_0), .int .i64 (p1_1)])] (by rfl) (by kernel_rfl) (fun a => ?_)
  refine cW_seq ?_
  refine cW_region ?_
  refine wS_box (d := 2) (T := 37) (x := .agg #[.int .i64 (p0_0), .int .i64 (p0_1)]) (by kernel_rfl) ?_
  intro b1 w2 G3 F4 hc5
  replace F4 : Cl w2 b1 37 [.int .i64 (p0_0), .int .i64 (p0_1)] := F4
  replace hB := hB.inS hc5 inNil
  replace G3 := Nat.le_trans hZ G3
  replace hZ := Nat.le_trans hZ hc5.size
  refine wS_box (d := 3) (T := 37) (x := .agg #[.int .i64 (p1_0), .int .i64 (p1_1)]) (by kernel_rfl) ?_
  intro b7 w8 G9 F10 hc11
  replace F10 : Cl w8 b7 37 [.int .i64 (p1_0), .int .i64 (p1_1)] := F10
  have D13 : Dj [b1] [b7] := Dj.of (lt1 F4.lt) (low1 G9)
  replace F4 := F4.chg hc11 notNil
  replace hB := hB.inS hc11 inNil
  replace G9 := Nat.le_trans hZ G9
  replace hZ := Nat.le_trans hZ hc11.size
  refine wS_pure 1 [(4, .int .i64 (0))] (by kernel_rfl) ?_
  refine wS_end (by rfl) ?_
  refine eX_then ?_
  refine cW_seq ?_
  refine cW_drawnTail [] 11 (by kernel_rfl) (by kernel_rfl) (fun w26 hc27 => ?_)
  replace F4 := F4.chg hc27 notNil
  replace F10 := F10.chg hc27 notNil
  replace hB := hB.inS hc27 inNil
  replace hZ := Nat.le_trans hZ hc27.size
  have hS := Chg.refl [] w26
  have Z28 := F4
  have Z29 := F10
  refine wH_take [0] [0] [(5, .pointer (some ⟨b1, 0, none⟩))] (by kernel_rfl) (qT (qT qZ)) (by kernel_rfl) ?_
  refine wH_load1 (i := 1) (d := 6) (T := 2) (ad := ⟨b1, 0, none⟩) (v := .int .i64 (p0_0)) (by kernel_rfl) (qT (qT qZ)) (by kernel_rfl) (by kernel_rfl) vt2 (fun W hW => (Z28.chg hW notNil).cell 0) ?_
  refine wH_take [2] [2, 1, 0] [(7, .pointer (some ⟨b7, 0, none⟩))] (by kernel_rfl) (qT (qT qZ)) (by kernel_rfl) ?_
  refine wH_load1 (i := 3) (d := 8) (T := 2) (ad := ⟨b7, 0, none⟩) (v := .int .i64 (p1_0)) (by kernel_rfl) (qT (qT qZ)) (by kernel_rfl) (by kernel_rfl) vt2 (fun W hW => (Z29.chg hW notNil).cell 0) ?_
  refine wH_take [4, 6] [6, 4, 3, 2, 1, 0] [(11, .pointer (some ⟨b1, 1, none⟩)), (9, .int .i64 (wr (p0_0 - p1_0)))] (by kernel_rfl) (qT (qT qZ)) (by kernel_rfl) ?_
  refine wH_load1 (i := 7) (d := 12) (T := 2) (ad := ⟨b1, 1, none⟩) (v := .int .i64 (p0_1)) (by kernel_rfl) (qT (qT qZ)) (by kernel_rfl) (by kernel_rfl) vt2 (fun W hW => (Z28.chg hW notNil).cell 1) ?_
  refine wH_take [8] [8, 7, 6, 4, 3, 2, 1, 0] [(13, .pointer (some ⟨b7, 1, none⟩))] (by kernel_rfl) (qT (qT qZ)) (by kernel_rfl) ?_
  refine wH_load1 (i := 9) (d := 14) (T := 2) (ad := ⟨b7, 1, none⟩) (v := .int .i64 (p1_1)) (by kernel_rfl) (qT (qT qZ)) (by kernel_rfl) (by kernel_rfl) vt2 (fun W hW => (Z29.chg hW notNil).cell 1) ?_
  refine wH_take [10] [10, 9, 8, 7, 6, 4, 3, 2, 1, 0] [(15, .int .i64 (wr (p0_1 - p1_1)))] (by kernel_rfl) (qT (qT qZ)) (by kernel_rfl) ?_
  refine wH_all [5] (by rfl) (by kernel_rfl) (by simp) ⟨⟨by kernel_rfl, ?_⟩, trivial⟩
  obtain ⟨y30, hy31, hm⟩ := bindE hm
  refine wS_calls (d := 10) (f := 147) (vs := [.int .i64 (wr (p0_0 - p1_0))]) (by kernel_rfl) ent147 (c_impl_size hy31) ?_
  rintro _ w32 ⟨rfl, hc33⟩
  replace F4 := F4.chg hc33 notNil
  replace F10 := F10.chg hc33 notNil
  replace hB := hB.inS hc33 inNil
  have hSz := hS
  replace hS := hS.inS hc33 inNil
  replace hZ := Nat.le_trans hZ hc33.size
  refine ⟨.int .i64 (y30), rfl, ?_⟩
  refine wS_end (by kernel_rfl) ?_
  refine eX_KH hS ?_
  refine wH_done (by kernel_rfl) ?_
  refine eX_tail ?_
  obtain ⟨y34, hy35, hm⟩ := bindE hm
  refine wS_calls (d := 16) (f := 147) (vs := [.int .i64 (wr (p0_1 - p1_1))]) (by kernel_rfl) ent147 (c_impl_size hy35) ?_
  rintro _ w36 ⟨rfl, hc37⟩
  replace F4 := F4.chg hc37 notNil
  replace F10 := F10.chg hc37 notNil
  replace hB := hB.inS hc37 inNil
  replace hZ := Nat.le_trans hZ hc37.size
  refine ⟨.int .i64 (y34), rfl, ?_⟩
  refine wS_pure 2 [(4, .int .i64 (wr (y30 + y34))), (17, .int .i64 (wr (y30 + y34)))] (by kernel_rfl) ?_
  refine wS_end (by rfl) ?_
  refine eX_then ?_
  refine cW_ret ?_
  have hq : (some (wr (y30 + y34)) : Option ((Int))) = some _ := hm
  replace hq := someE hq
  subst hq
  refine eX_ret (vs := [.int .i64 (wr (y30 + y34))]) [.tmp 4] (by rfl) ⟨by (show lkE _ _ _ = _); kernel_rfl, trivial⟩ ?_
  exact ⟨rfl, hB⟩

set_option maxRecDepth 100000 in
/-- impl.Point] -/
theorem c_slices_IndexFunc_impl_Point_impl_Point_impl_noPoint {w0 : World} {l0 : List (Int × Int)} {A0 : Option Addr} {cap0 : Nat} {fp0 : List Nat} {r : (Int)} (hm : m_slices_IndexFunc_impl_Point_impl_Point_impl_noPoint l0 = some r) (F0 : Sl 2 encII w0 fp0 A0 l0) :
    Calls Try.prog 184 #[.slice A0 (l0).length cap0, .func (.func 137) #[] #[]] w0 fun e w' => e = .returned (.int .i64 (r)) ∧ Chg [] w0 w' := by
  have L0 := F0.low
  have hB : Chg [] w0 w0 := Chg.refl _ _
  have hZ := Nat.le_refl w0.heap.size
  unfold m_slices_IndexFunc_impl_Point_impl_Point_impl_noPoint at hm
  refine enterE (N := 19) Try.func184 (by rfl) Try.ntmps184 (by simp) [(0, .slice A0 (l0).length cap0), (1, .func (.func 137) #[] #[])] (by rfl) (by kernel_rfl) (fun a => ?_)
  refine cW_seq ?_
  refine cW_region ?_
  refine wS_pure 1 [(4, .int .i64 (0))] (by kernel_rfl) ?_
  refine wS_end (by rfl) ?_
  refine eX_then ?_
  refine cW_seq ?_
  refine cW_seq ?_
  refine cW_region ?_
  refine wS_pure 3 [(8, .int .i64 (0)), (7, .int .i64 (((l0).length : Int))), (6, .slice A0 (l0).length cap0)] (by kernel_rfl) ?_
  refine wS_end (by rfl) ?_
  refine eX_then ?_
  obtain ⟨r29, hr30, hm⟩ := bindE hm
  have hm31 := hm
  refine cW_cut (fun a' w' => Sum.inl (()) = r29 ∧ Fr 19 [] a' ∧ Chg [] w0 w' ∧ w0.heap.size ≤ w'.heap.size) ?_ ?_
  · refine cW_block ?_
    refine cW_loop _ (fun (s32 : Int) a' w' => ∃ x26 : Int, x26 = s32 ∧ Fr 19 [(0, .slice A0 (l0).length cap0), (1, .func (.func 137) #[] #[]), (7, .int .i64 (((l0).length : Int))), (8, .int .i64 (x26))] a' ∧ Sl 2 encII w' fp0 A0 l0 ∧ Chg [] w0 w' ∧ w0.heap.size ≤ w'.heap.size) hr30 (fun hst => ⟨0, rfl, Fr.of hst (by kernel_rfl), F0, hB, hZ⟩) ?_
    rintro _ c33 a' w25 ⟨x26, rfl, hF27, F28, hB, hZ⟩ hx34
    refine Fr.goOn hF27 (by kernel_rfl) ?_
    have hm := hx34
    unfold m_slices_IndexFunc_impl_Point_impl_Point_impl_noPoint_s1 at hm
    refine cW_seq ?_
    refine cW_region ?_
    refine wS_pure 1 [(9, .bool (decide (x26 < (((l0).length : Int)))))] (by kernel_rfl) ?_
    refine wS_end (by rfl) ?_
    refine eX_then ?_
    refine cW_seq ?_
    refine cW_cond (t := decide (x26 < (((l0).length : Int)))) (by kernel_rfl) (fun hb35 => ?_) (fun hb35 => ?_)
    · have hm := condT hb35 hm
      refine cW_skip ?_
      refine eX_then ?_
      refine cW_seq ?_
      refine cW_block ?_
      refine cW_seq ?_
      refine cW_region ?_
      refine wS_pure 2 [(5, .int .i64 (x26)), (10, .int .i64 (x26))] (by kernel_rfl) ?_
      refine wS_end (by rfl) ?_
      refine eX_then ?_
      refine cW_seq ?_
      refine cW_region ?_
      refine wS_pure 3 [(13, .int .i64 (x26)), (12, .slice A0 (l0).length cap0), (11, .func (.func 137) #[] #[])] (by kernel_rfl) ?_
      obtain ⟨x36, hx37, hm⟩ := bindE hm
      refine wS_idx (d := 14) (T := 32) (A := A0) (n := (l0).length) (cap := cap0) (kd := .i64) (m := x26) (by kernel_rfl) sl32 (F28.is hx37) ?_
      refine wS_loadA (d := 15) (T := 37) (ad := (elA A0 2 (x26) 0)) (vs := [.int .i64 (x36.1), .int .i64 (x36.2)]) (by kernel_rfl) vt37 (fun i u hu => Sl.cells_at F28 hx37 0 hu (by rfl)) ?_
      obtain ⟨y38, hy39, hm⟩ := bindE hm
      refine wS_calls (d := 16) (f := 137) (vs := [.agg #[.int .i64 (x36.1), .int .i64 (x36.2)]]) (by kernel_rfl) ent137 (c_impl_noPoint hy39) ?_
      rintro _ w40 ⟨rfl, hc41⟩
      replace F28 := F28.chg hc41 Dj.nil
      replace hB := hB.inS hc41 inNil
      replace hZ := Nat.le_trans hZ hc41.size
      refine ⟨.bool (y38), rfl, ?_⟩
      refine wS_end (by rfl) ?_
      refine eX_then ?_
      refine cW_cond (t := y38) (by kernel_rfl) (fun hb42 => ?_) (fun hb42 => ?_)
      · have hm := condT hb42 hm
        refine cW_seq ?_
        refine cW_region ?_
        refine wS_pure 2 [(4, .int .i64 (x26)), (17, .int .i64 (x26))] (by kernel_rfl) ?_
        refine wS_end (by rfl) ?_
        refine eX_then ?_
        refine cW_ret ?_
        refine eX_block_ret ?_
        refine eX_then_ret ?_
        have hq : (some (Ctl.out (Sum.inr x26)) : Option (Ctl (Int) (Sum (Unit) ((Int))))) = some _ := hm
        replace hq := someE hq
        subst hq
        refine eX_outR hx34 (fun hr => ?_)
        subst hr
        refine eX_block_ret ?_
        refine eX_then_ret ?_
        refine eX_then_ret ?_
        have hq : (some x26 : Option ((Int))) = some _ := hm31
        replace hq := someE hq
        subst hq
        refine eX_ret (vs := [.int .i64 (x26)]) [.tmp 4] (by rfl) ⟨by (show lkE _ _ _ = _); kernel_rfl, trivial⟩ ?_
        exact ⟨rfl, hB⟩
      · have hm := condF hb42 hm
        refine cW_skip ?_
        refine eX_block ?_
        refine eX_then ?_
        refine cW_region ?_
        refine wS_pure 2 [(8, .int .i64 (wr (x26 + 1))), (18, .int .i64 (wr (x26 + 1)))] (by kernel_rfl) ?_
        refine wS_end (by rfl) ?_
        have hq : (some (Ctl.next (wr (x26 + 1))) : Option (Ctl (Int) (Sum (Unit) ((Int))))) = some _ := hm
        replace hq := someE hq
        subst hq
        exact eX_next hx34 (fun hst => ⟨wr (x26 + 1), rfl, Fr.of hst (by kernel_rfl), F28, hB, hZ⟩)
    · have hm := condF hb35 hm
      refine cW_exit ?_
      refine eX_then_exit ?_
      have hq : (some (Ctl.out (Sum.inl (()))) : Option (Ctl (Int) (Sum (Unit) ((Int))))) = some _ := hm
      replace hq := someE hq
      subst hq
      refine eX_outX hx34 (fun hr43 => ?_)
      replace hr43 := hr43.symm
      subst hr43
      refine eX_block_hit ?_
      exact eX_J (fun hst => ⟨rfl, Fr.of hst (by kernel_rfl), hB, hZ⟩)
  · rintro a' w23 ⟨hJ, hF24, hB, hZ⟩
    subst hJ
    refine Fr.goX hF24 (by kernel_rfl) ?_
    refine eX_then ?_
    refine cW_seq ?_
    refine cW_region ?_
    refine wS_pure 1 [(4, .int .i64 ((-1)))] (by kernel_rfl) ?_
    refine wS_end (by rfl) ?_
    refine eX_then ?_
    refine cW_ret ?_
    have hq : (some ((-1)) : Option ((Int))) = some _ := hm
    replace hq := someE hq
    subst hq
    refine eX_ret (vs := [.int .i64 ((-1))]) [.tmp 4] (by rfl) ⟨by (show lkE _ _ _ = _); kernel_rfl, trivial⟩ ?_
    exact ⟨rfl, hB⟩

set_option maxRecDepth 100000 in
/-- impl.Point] -/
theorem c_slices_ContainsFunc_impl_Point_impl_Point_impl_noPoint {w0 : World} {l0 : List (Int × Int)} {A0 : Option Addr} {cap0 : Nat} {fp0 : List Nat} {r : (Bool)} (hm : m_slices_ContainsFunc_impl_Point_impl_Point_impl_noPoint l0 = some r) (F0 : Sl 2 encII w0 fp0 A0 l0) :
    Calls Try.prog 136 #[.slice A0 (l0).length cap0, .func (.func 137) #[] #[]] w0 fun e w' => e = .returned (.bool (r)) ∧ Chg [] w0 w' := by
  have L0 := F0.low
  have hB : Chg [] w0 w0 := Chg.refl _ _
  have hZ := Nat.le_refl w0.heap.size
  unfold m_slices_ContainsFunc_impl_Point_impl_Point_impl_noPoint at hm
  refine enterE (N := 9) Try.func136 (by rfl) Try.ntmps136 (by simp) [(0, .slice A0 (l0).length cap0), (1, .func (.func 137) #[] #[])] (by rfl) (by kernel_rfl) (fun a => ?_)
  refine cW_seq ?_
  refine cW_region ?_
  refine wS_pure 1 [(4, .bool (false))] (by kernel_rfl) ?_
  refine wS_end (by rfl) ?_
  refine eX_then ?_
  refine cW_seq ?_
  refine cW_region ?_
  refine wS_pure 2 [(6, .func (.func 137) #[] #[]), (5, .slice A0 (l0).length cap0)] (by kernel_rfl) ?_
  obtain ⟨y2, hy3, hm⟩ := bindE hm
  refine wS_calls (d := 7) (f := 184) (vs := [.slice A0 (l0).length cap0, .func (.func 137) #[] #[]]) (by kernel_rfl) ent184 (c_slices_IndexFunc_impl_Point_impl_Point_impl_noPoint hy3 F0) ?_
  rintro _ w4 ⟨rfl, hc5⟩
  replace F0 := F0.chg hc5 Dj.nil
  replace hB := hB.inS hc5 inNil
  replace hZ := Nat.le_trans hZ hc5.size
  refine ⟨.int .i64 (y2), rfl, ?_⟩
  refine wS_pure 2 [(4, .bool (decide (y2 ≥ 0))), (8, .bool (decide (y2 ≥ 0)))] (by kernel_rfl) ?_
  refine wS_end (by rfl) ?_
  refine eX_then ?_
  refine cW_ret ?_
  have hq : (some (decide (y2 ≥ 0)) : Option ((Bool))) = some _ := hm
  replace hq := someE hq
  subst hq
  refine eX_ret (vs := [.bool (decide (y2 ≥ 0))]) [.tmp 4] (by rfl) ⟨by (show lkE _ _ _ = _); kernel_rfl, trivial⟩ ?_
  exact ⟨rfl, hB⟩

set_option maxRecDepth 100000 in
/-- impl.IsPath -/
theorem c_impl_IsPath {w0 : World} {l0 : List (Int × Int)} {A0 : Option Addr} {cap0 : Nat} {fp0 : List Nat} {r : (Bool)} (hm : m_impl_IsPath l0 = some r) (F0 : Sl 2 encII w0 fp0 A0 l0) :
    Calls Try.prog 138 #[.slice A0 (l0).length cap0] w0 fun e w' => e = .returned (.bool (r)) ∧ Chg [] w0 w' := by
  have L0 := F0.low
  have hB : Chg [] w0 w0 := Chg.refl _ _
  have hZ := Nat.le_refl w0.heap.size
  unfold m_impl_IsPath at hm
  refine enterE (N := 39) Try.func138 (by rfl) Try.ntmps138 (by simp) [(0, .slice A0 (l0).length cap0)] (by rfl) (by kernel_rfl) (fun a => ?_)
  refine cW_seq ?_
  refine cW_region ?_
  refine wS_pure 1 [(2, .bool (false))] (by kernel_rfl) ?_
  refine wS_end (by rfl) ?_
  refine eX_then ?_
  refine cW_seq ?_
  refine cW_seq ?_
  refine cW_region ?_
  refine wS_pure 4 [(7, .bool (decide ((((l0).length : Int)) < 1))), (6, .bool (decide ((((l0).length : Int)) < 1))), (5, .int .i64 (((l0).length : Int))), (4, .slice A0 (l0).length cap0)] (by kernel_rfl) ?_
  refine wS_bool (decide ((((l0).length : Int)) < 1)) (fun hb2 => ?_) (fun hb2 => ?_)
  · have hm := condT hb2 hm
    rewrite [hb2]
    refine wS_pure 8 [(15, .bool (true)), (14, undef), (13, undef), (12, .bool (true)), (11, .bool (true)), (10, undef), (9, undef), (8, undef)] (by kernel_rfl) ?_
    refine wS_end (by rfl) ?_
    refine eX_then ?_
    refine cW_cond_t (by kernel_rfl) ?_
    refine cW_seq ?_
    refine cW_region ?_
    refine wS_pure 1 [(2, .bool (false))] (by kernel_rfl) ?_
    refine wS_end (by rfl) ?_
    refine eX_then ?_
    refine cW_ret ?_
    refine eX_then_ret ?_
    have hq : (some false : Option ((Bool))) = some _ := hm
    replace hq := someE hq
    subst hq
    refine eX_ret (vs := [.bool (false)]) [.tmp 2] (by rfl) ⟨by (show lkE _ _ _ = _); kernel_rfl, trivial⟩ ?_
    exact ⟨rfl, hB⟩
  · have hm := condF hb2 hm
    rewrite [hb2]
    refine wS_pure 5 [(12, .bool (decide ((((l0).length : Int)) > 576))), (11, .bool (decide ((((l0).length : Int)) > 576))), (10, .bool (decide ((((l0).length : Int)) > 576))), (9, .int .i64 (((l0).length : Int))), (8, .slice A0 (l0).length cap0)] (by kernel_rfl) ?_
    refine wS_bool (decide ((((l0).length : Int)) > 576)) (fun hb3 => ?_) (fun hb3 => ?_)
    · have hm := condT hb3 hm
      rewrite [hb3]
      refine wS_pure 3 [(15, .bool (true)), (14, undef), (13, undef)] (by kernel_rfl) ?_
      refine wS_end (by rfl) ?_
      refine eX_then ?_
      refine cW_cond_t (by kernel_rfl) ?_
      refine cW_seq ?_
      refine cW_region ?_
      refine wS_pure 1 [(2, .bool (false))] (by kernel_rfl) ?_
      refine wS_end (by rfl) ?_
      refine eX_then ?_
      refine cW_ret ?_
      refine eX_then_ret ?_
      have hq : (some false : Option ((Bool))) = some _ := hm
      replace hq := someE hq
      subst hq
      refine eX_ret (vs := [.bool (false)]) [.tmp 2] (by rfl) ⟨by (show lkE _ _ _ = _); kernel_rfl, trivial⟩ ?_
      exact ⟨rfl, hB⟩
    · have hm := condF hb3 hm
      rewrite [hb3]
      refine wS_pure 1 [(13, .slice A0 (l0).length cap0)] (by kernel_rfl) ?_
      obtain ⟨y4, hy5, hm⟩ := bindE hm
      refine wS_calls (d := 14) (f := 136) (vs := [.slice A0 (l0).length cap0, .func (.func 137) #[] #[]]) (by kernel_rfl) ent136 (c_slices_ContainsFunc_impl_Point_impl_Point_impl_noPoint hy5 F0) ?_
      rintro _ w6 ⟨rfl, hc7⟩
      replace F0 := F0.chg hc7 Dj.nil
      replace hB := hB.inS hc7 inNil
      replace hZ := Nat.le_trans hZ hc7.size
      refine ⟨.bool (y4), rfl, ?_⟩
      refine wS_pure 1 [(15, .bool (y4))] (by kernel_rfl) ?_
      refine wS_end (by rfl) ?_
      refine eX_then ?_
      refine cW_cond (t := y4) (by kernel_rfl) (fun hb8 => ?_) (fun hb8 => ?_)
      · have hm := condT hb8 hm
        refine cW_seq ?_
        refine cW_region ?_
        refine wS_pure 1 [(2, .bool (false))] (by kernel_rfl) ?_
        refine wS_end (by rfl) ?_
        refine eX_then ?_
        refine cW_ret ?_
        refine eX_then_ret ?_
        have hq : (some false : Option ((Bool))) = some _ := hm
        replace hq := someE hq
        subst hq
        refine eX_ret (vs := [.bool (false)]) [.tmp 2] (by rfl) ⟨by (show lkE _ _ _ = _); kernel_rfl, trivial⟩ ?_
        exact ⟨rfl, hB⟩
      · have hm := condF hb8 hm
        refine cW_skip ?_
        refine eX_then ?_
        refine cW_seq ?_
        refine cW_seq ?_
        refine cW_region ?_
        refine wS_pure 1 [(3, .int .i64 (1))] (by kernel_rfl) ?_
        refine wS_end (by rfl) ?_
        refine eX_then ?_
        obtain ⟨r69, hr70, hm⟩ := bindE hm
        have hm71 := hm
        refine cW_cut (fun a' w' => Sum.inl (()) = r69 ∧ Fr 39 [(0, .slice A0 (l0).length cap0)] a' ∧ Sl 2 encII w' fp0 A0 l0 ∧ Chg [] w0 w' ∧ w0.heap.size ≤ w'.heap.size) ?_ ?_
        · refine cW_block ?_
          refine cW_loop _ (fun (s72 : Int) a' w' => ∃ x66 : Int, x66 = s72 ∧ Fr 39 [(0, .slice A0 (l0).length cap0), (3, .int .i64 (x66))] a' ∧ Sl 2 encII w' fp0 A0 l0 ∧ Chg [] w0 w' ∧ w0.heap.size ≤ w'.heap.size) hr70 (fun hst => ⟨1, rfl, Fr.of hst (by kernel_rfl), F0, hB, hZ⟩) ?_
          rintro _ c73 a' w65 ⟨x66, rfl, hF67, F68, hB, hZ⟩ hx74
          refine Fr.goOn hF67 (by kernel_rfl) ?_
          have hm := hx74
          unfold m_impl_IsPath_s1 at hm
          refine cW_seq ?_
          refine cW_seq ?_
          refine cW_region ?_
          refine wS_pure 4 [(19, .bool (decide (x66 < (((l0).length : Int))))), (18, .int .i64 (((l0).length : Int))), (17, .slice A0 (l0).length cap0), (16, .int .i64 (x66))] (by kernel_rfl) ?_
          refine wS_end (by rfl) ?_
          refine eX_then ?_
          refine cW_cond (t := decide (x66 < (((l0).length : Int)))) (by kernel_rfl) (fun hb75 => ?_) (fun hb75 => ?_)
          · have hm := condT hb75 hm
            refine cW_skip ?_
            refine eX_then ?_
            refine cW_seq ?_
            refine cW_block ?_
            refine cW_seq ?_
            refine cW_drawnTail [] 9 (by kernel_rfl) (by kernel_rfl) (fun w87 hc88 => ?_)
            replace F68 := F68.chg hc88 Dj.nil
            replace hB := hB.inS hc88 inNil
            replace hZ := Nat.le_trans hZ hc88.size
            have hS := Chg.refl [] w87
            have Z89 := F68
            refine wH_take [0, 1, 2] [2, 1, 0] [(24, .int .i64 (wr (x66 - 1))), (23, .int .i64 (x66)), (22, .slice A0 (l0).length cap0)] (by kernel_rfl) (qT (qT (qB (qT (qL (qB (qT (qT qZ)))))))) (by kernel_rfl) ?_
            obtain ⟨x90, hx91, hm⟩ := bindE hm
            refine wH_idx (i := 3) (d := 25) (T := 32) (A := A0) (n := (l0).length) (cap := cap0) (kd := .i64) (m := wr (x66 - 1)) (by kernel_rfl) (qT (qT (qB (qT (qL (qB (qT (qT qZ)))))))) (by kernel_rfl) (by kernel_rfl) sl32 (F68.is hx91) ?_
            refine wH_loadA (i := 4) (d := 26) (T := 37) (ad := (elA A0 2 (wr (x66 - 1)) 0)) (vs := [.int .i64 (x90.1), .int .i64 (x90.2)]) (by kernel_rfl) (qT (qT (qB (qT (qL (qB (qT (qT qZ)))))))) (by kernel_rfl) (by kernel_rfl) vt37 (fun W hW i u hu => Sl.cells_at (Z89.chg hW Dj.nil) hx91 0 hu (by rfl)) ?_
            refine wH_take [5, 6] [6, 5, 4, 3, 2, 1, 0] [(28, .int .i64 (x66)), (27, .slice A0 (l0).length cap0)] (by kernel_rfl) (qT (qT (qB (qT (qL (qB (qT (qT qZ)))))))) (by kernel_rfl) ?_
            obtain ⟨x92, hx93, hm⟩ := bindE hm
            refine wH_idx (i := 7) (d := 29) (T := 32) (A := A0) (n := (l0).length) (cap := cap0) (kd := .i64) (m := x66) (by kernel_rfl) (qT (qT (qB (qT (qL (qB (qT (qT qZ)))))))) (by kernel_rfl) (by kernel_rfl) sl32 (F68.is hx93) ?_
            refine wH_loadA (i := 8) (d := 30) (T := 37) (ad := (elA A0 2 (x66) 0)) (vs := [.int .i64 (x92.1), .int .i64 (x92.2)]) (by kernel_rfl) (qT (qT (qB (qT (qL (qB (qT (qT qZ)))))))) (by kernel_rfl) (by kernel_rfl) vt37 (fun W hW i u hu => Sl.cells_at (Z89.chg hW Dj.nil) hx93 0 hu (by rfl)) ?_
            refine wH_done (by kernel_rfl) ?_
            refine eX_tail ?_
            obtain ⟨y94, hy95, hm⟩ := bindE hm
            refine wS_calls (d := 31) (f := 85) (vs := [.agg #[.int .i64 (x90.1), .int .i64 (x90.2)], .agg #[.int .i64 (x92.1), .int .i64 (x92.2)]]) (by kernel_rfl) ent85 (c_impl_far hy95) ?_
            rintro _ w96 ⟨rfl, hc97⟩
            replace F68 := F68.chg hc97 Dj.nil
            replace hB := hB.inS hc97 inNil
            replace hZ := Nat.le_trans hZ hc97.size
            refine ⟨.int .i64 (y94), rfl, ?_⟩
            refine wS_pure 1 [(32, .bool (y94 != 1))] (by kernel_rfl) ?_
            refine wS_end (by rfl) ?_
            refine eX_then ?_
            refine cW_cond (t := y94 != 1) (by kernel_rfl) (fun hb98 => ?_) (fun hb98 => ?_)
            · have hm := condT hb98 hm
              refine cW_seq ?_
              refine cW_region ?_
              refine wS_pure 1 [(2, .bool (false))] (by kernel_rfl) ?_
              refine wS_end (by rfl) ?_
              refine eX_then ?_
              refine cW_ret ?_
              refine eX_block_ret ?_
              refine eX_then_ret ?_
              have hq : (some (Ctl.out (Sum.inr false)) : Option (Ctl (Int) (Sum (Unit) ((Bool))))) = some _ := hm
              replace hq := someE hq
              subst hq
              refine eX_outR hx74 (fun hr => ?_)
              subst hr
              refine eX_block_ret ?_
              refine eX_then_ret ?_
              refine eX_then_ret ?_
              have hq : (some false : Option ((Bool))) = some _ := hm71
              replace hq := someE hq
              subst hq
              refine eX_ret (vs := [.bool (false)]) [.tmp 2] (by rfl) ⟨by (show lkE _ _ _ = _); kernel_rfl, trivial⟩ ?_
              exact ⟨rfl, hB⟩
            · have hm := condF hb98 hm
              refine cW_skip ?_
              refine eX_block ?_
              refine eX_then ?_
              refine cW_region ?_
              refine wS_pure 3 [(3, .int .i64 (wr (x66 + 1))), (21, .int .i64 (wr (x66 + 1))), (20, .int .i64 (x66))] (by kernel_rfl) ?_
              refine wS_end (by rfl) ?_
              have hq : (some (Ctl.next (wr (x66 + 1))) : Option (Ctl (Int) (Sum (Unit) ((Bool))))) = some _ := hm
              replace hq := someE hq
              subst hq
              exact eX_next hx74 (fun hst => ⟨wr (x66 + 1), rfl, Fr.of hst (by kernel_rfl), F68, hB, hZ⟩)
          · have hm := condF hb75 hm
            refine cW_exit ?_
            refine eX_then_exit ?_
            have hq : (some (Ctl.out (Sum.inl (()))) : Option (Ctl (Int) (Sum (Unit) ((Bool))))) = some _ := hm
            replace hq := someE hq
            subst hq
            refine eX_outX hx74 (fun hr99 => ?_)
            replace hr99 := hr99.symm
            subst hr99
            refine eX_block_hit ?_
            exact eX_J (fun hst => ⟨rfl, Fr.of hst (by kernel_rfl), F68, hB, hZ⟩)
        · rintro a' w62 ⟨hJ, hF63, F64, hB, hZ⟩
          subst hJ
          refine Fr.goX hF63 (by kernel_rfl) ?_
          refine eX_then ?_
          refine cW_seq ?_
          refine cW_region ?_
          refine wS_pure 1 [(33, .slice A0 (l0).length cap0)] (by kernel_rfl) ?_
          obtain ⟨y100, hy101, hm⟩ := bindE hm
          refine wS_calls (d := 34) (f := 79) (vs := [.slice A0 (l0).length cap0]) (by kernel_rfl) ent79 (c_impl_sorted hy101 F64) ?_
          rintro _ w102 ⟨A104, cap105, fp106, rfl, F107, G108, hc103⟩
          replace F64 := F64.chg hc103 Dj.nil
          replace hB := hB.inS hc103 inNil
          replace G108 := low_le hZ G108
          replace hZ := Nat.le_trans hZ hc103.size
          refine ⟨.slice A104 (y100).length cap105, rfl, ?_⟩
          refine wS_pure 5 [(2, .bool ((((y100).length : Int)) == (((l0).length : Int)))), (38, .bool ((((y100).length : Int)) == (((l0).length : Int)))), (37, .int .i64 (((l0).length : Int))), (36, .slice A0 (l0).length cap0), (35, .int .i64 (((y100).length : Int)))] (by kernel_rfl) ?_
          refine wS_end (by rfl) ?_
          refine eX_then ?_
          refine cW_ret ?_
          have hq : (some ((((y100).length : Int)) == (((l0).length : Int))) : Option ((Bool))) = some _ := hm
          replace hq := someE hq
          subst hq
          refine eX_ret (vs := [.bool ((((y100).length : Int)) == (((l0).length : Int)))]) [.tmp 2] (by rfl) ⟨by (show lkE _ _ _ = _); kernel_rfl, trivial⟩ ?_
          exact ⟨rfl, hB⟩

set_option maxRecDepth 100000 in
/-- impl.Point] -/
theorem c_slices_Equal_impl_Point_impl_Point {w0 : World} {l0 : List (Int × Int)} {A0 : Option Addr} {cap0 : Nat} {fp0 : List Nat} {l1 : List (Int × Int)} {A1 : Option Addr} {cap1 : Nat} {fp1 : List Nat} {r : (Bool)} (hm : m_slices_Equal_impl_Point_impl_Point l0 l1 = some r) (F0 : Sl 2 encII w0 fp0 A0 l0) (F1 : Sl 2 encII w0 fp1 A1 l1) :
    Calls Try.prog 139 #[.slice A0 (l0).length cap0, .slice A1 (l1).length cap1] w0 fun e w' => e = .returned (.bool (r)) ∧ Chg [] w0 w' := by
  have L0 := F0.low
  have L1 := F1.low
  have hB : Chg [] w0 w0 := Chg.refl _ _
  have hZ := Nat.le_refl w0.heap.size
  unfold m_slices_Equal_impl_Point_impl_Point at hm
  refine enterE (N := 26) Try.func139 (by rfl) Try.ntmps139 (by simp) [(0, .slice A0 (l0).length cap0), (1, .slice A1 (l1).length cap1)] (by rfl) (by kernel_rfl) (fun a => ?_)
  refine cW_seq ?_
  refine cW_region ?_
  refine wS_pure 1 [(4, .bool (false))] (by kernel_rfl) ?_
  refine wS_end (by rfl) ?_
  refine eX_then ?_
  refine cW_seq ?_
  refine cW_seq ?_
  refine cW_region ?_
  refine wS_pure 5 [(10, .bool ((((l0).length : Int)) != (((l1).length : Int)))), (9, .int .i64 (((l1).length : Int))), (8, .slice A1 (l1).length cap1), (7, .int .i64 (((l0).length : Int))), (6, .slice A0 (l0).length cap0)] (by kernel_rfl) ?_
  refine wS_end (by rfl) ?_
  refine eX_then ?_
  refine cW_cond (t := (((l0).length : Int)) != (((l1).length : Int))) (by kernel_rfl) (fun hb3 => ?_) (fun hb3 => ?_)
  · have hm := condT hb3 hm
    refine cW_seq ?_
    refine cW_region ?_
    refine wS_pure 1 [(4, .bool (false))] (by kernel_rfl) ?_
    refine wS_end (by rfl) ?_
    refine eX_then ?_
    refine cW_ret ?_
    refine eX_then_ret ?_
    have hq : (some false : Option ((Bool))) = some _ := hm
    replace hq := someE hq
    subst hq
    refine eX_ret (vs := [.bool (false)]) [.tmp 4] (by rfl) ⟨by (show lkE _ _ _ = _); kernel_rfl, trivial⟩ ?_
    exact ⟨rfl, hB⟩
  · have hm := condF hb3 hm
    refine cW_skip ?_
    refine eX_then ?_
    refine cW_seq ?_
    refine cW_seq ?_
    refine cW_region ?_
    refine wS_pure 3 [(13, .int .i64 (0)), (12, .int .i64 (((l0).length : Int))), (11, .slice A0 (l0).length cap0)] (by kernel_rfl) ?_
    refine wS_end (by rfl) ?_
    refine eX_then ?_
    obtain ⟨r54, hr55, hm⟩ := bindE hm
    have hm56 := hm
    refine cW_cut (fun a' w' => Sum.inl (()) = r54 ∧ Fr 26 [] a' ∧ Chg [] w0 w' ∧ w0.heap.size ≤ w'.heap.size) ?_ ?_
    · refine cW_block ?_
      refine cW_loop _ (fun (s57 : Int) a' w' => ∃ x50 : Int, x50 = s57 ∧ Fr 26 [(0, .slice A0 (l0).length cap0), (1, .slice A1 (l1).length cap1), (12, .int .i64 (((l0).length : Int))), (13, .int .i64 (x50))] a' ∧ Sl 2 encII w' fp0 A0 l0 ∧ Sl 2 encII w' fp1 A1 l1 ∧ Chg [] w0 w' ∧ w0.heap.size ≤ w'.heap.size) hr55 (fun hst => ⟨0, rfl, Fr.of hst (by kernel_rfl), F0, F1, hB, hZ⟩) ?_
      rintro _ c58 a' w49 ⟨x50, rfl, hF51, F52, F53, hB, hZ⟩ hx59
      refine Fr.goOn hF51 (by kernel_rfl) ?_
      have hm := hx59
      unfold m_slices_Equal_impl_Point_impl_Point_s1 at hm
      refine cW_seq ?_
      refine cW_region ?_
      refine wS_pure 1 [(14, .bool (decide (x50 < (((l0).length : Int)))))] (by kernel_rfl) ?_
      refine wS_end (by rfl) ?_
      refine eX_then ?_
      refine cW_seq ?_
      refine cW_cond (t := decide (x50 < (((l0).length : Int)))) (by kernel_rfl) (fun hb60 => ?_) (fun hb60 => ?_)
      · have hm := condT hb60 hm
        refine cW_skip ?_
        refine eX_then ?_
        refine cW_seq ?_
        refine cW_block ?_
        refine cW_seq ?_
        refine cW_region ?_
        refine wS_pure 2 [(5, .int .i64 (x50)), (15, .int .i64 (x50))] (by kernel_rfl) ?_
        refine wS_end (by rfl) ?_
        refine eX_then ?_
        refine cW_seq ?_
        refine cW_drawnTail [] 8 (by kernel_rfl) (by kernel_rfl) (fun w69 hc70 => ?_)
        replace F52 := F52.chg hc70 Dj.nil
        replace F53 := F53.chg hc70 Dj.nil
        replace hB := hB.inS hc70 inNil
        replace hZ := Nat.le_trans hZ hc70.size
        have hS := Chg.refl [] w69
        have Z71 := F52
        have Z72 := F53
        refine wH_take [0, 1] [1, 0] [(17, .int .i64 (x50)), (16, .slice A0 (l0).length cap0)] (by kernel_rfl) (qT (qT (qB (qT (qL (qB (qT (qT qZ)))))))) (by kernel_rfl) ?_
        obtain ⟨x73, hx74, hm⟩ := bindE hm
        refine wH_idx (i := 2) (d := 18) (T := 32) (A := A0) (n := (l0).length) (cap := cap0) (kd := .i64) (m := x50) (by kernel_rfl) (qT (qT (qB (qT (qL (qB (qT (qT qZ)))))))) (by kernel_rfl) (by kernel_rfl) sl32 (F52.is hx74) ?_
        refine wH_loadA (i := 3) (d := 19) (T := 37) (ad := (elA A0 2 (x50) 0)) (vs := [.int .i64 (x73.1), .int .i64 (x73.2)]) (by kernel_rfl) (qT (qT (qB (qT (qL (qB (qT (qT qZ)))))))) (by kernel_rfl) (by kernel_rfl) vt37 (fun W hW i u hu => Sl.cells_at (Z71.chg hW Dj.nil) hx74 0 hu (by rfl)) ?_
        refine wH_take [4, 5] [5, 4, 3, 2, 1, 0] [(21, .int .i64 (x50)), (20, .slice A1 (l1).length cap1)] (by kernel_rfl) (qT (qT (qB (qT (qL (qB (qT (qT qZ)))))))) (by kernel_rfl) ?_
        obtain ⟨x75, hx76, hm⟩ := bindE hm
        refine wH_idx (i := 6) (d := 22) (T := 32) (A := A1) (n := (l1).length) (cap := cap1) (kd := .i64) (m := x50) (by kernel_rfl) (qT (qT (qB (qT (qL (qB (qT (qT qZ)))))))) (by kernel_rfl) (by kernel_rfl) sl32 (F53.is hx76) ?_
        refine wH_loadA (i := 7) (d := 23) (T := 37) (ad := (elA A1 2 (x50) 0)) (vs := [.int .i64 (x75.1), .int .i64 (x75.2)]) (by kernel_rfl) (qT (qT (qB (qT (qL (qB (qT (qT qZ)))))))) (by kernel_rfl) (by kernel_rfl) vt37 (fun W hW i u hu => Sl.cells_at (Z72.chg hW Dj.nil) hx76 0 hu (by rfl)) ?_
        refine wH_done (by kernel_rfl) ?_
        refine eX_tail ?_
        refine wS_neS (d := 24) (T := 37) (x := x73.1) (y := x73.2) (x' := x75.1) (y' := x75.2) (by kernel_rfl) eq37 ?_
        refine wS_end (by rfl) ?_
        refine eX_then ?_
        refine cW_cond (t := !(x73.1 == x75.1 && x73.2 == x75.2)) (by kernel_rfl) (fun hb77 => ?_) (fun hb77 => ?_)
        · have hm := condT hb77 hm
          refine cW_seq ?_
          refine cW_region ?_
          refine wS_pure 1 [(4, .bool (false))] (by kernel_rfl) ?_
          refine wS_end (by rfl) ?_
          refine eX_then ?_
          refine cW_ret ?_
          refine eX_block_ret ?_
          refine eX_then_ret ?_
          have hq : (some (Ctl.out (Sum.inr false)) : Option (Ctl (Int) (Sum (Unit) ((Bool))))) = some _ := hm
          replace hq := someE hq
          subst hq
          refine eX_outR hx59 (fun hr => ?_)
          subst hr
          refine eX_block_ret ?_
          refine eX_then_ret ?_
          refine eX_then_ret ?_
          have hq : (some false : Option ((Bool))) = some _ := hm56
          replace hq := someE hq
          subst hq
          refine eX_ret (vs := [.bool (false)]) [.tmp 4] (by rfl) ⟨by (show lkE _ _ _ = _); kernel_rfl, trivial⟩ ?_
          exact ⟨rfl, hB⟩
        · have hm := condF hb77 hm
          refine cW_skip ?_
          refine eX_block ?_
          refine eX_then ?_
          refine cW_region ?_
          refine wS_pure 2 [(13, .int .i64 (wr (x50 + 1))), (25, .int .i64 (wr (x50 + 1)))] (by kernel_rfl) ?_
          refine wS_end (by rfl) ?_
          have hq : (some (Ctl.next (wr (x50 + 1))) : Option (Ctl (Int) (Sum (Unit) ((Bool))))) = some _ := hm
          replace hq := someE hq
          subst hq
          exact eX_next hx59 (fun hst => ⟨wr (x50 + 1), rfl, Fr.of hst (by kernel_rfl), F52, F53, hB, hZ⟩)
      · have hm := condF hb60 hm
        refine cW_exit ?_
        refine eX_then_exit ?_
        have hq : (some (Ctl.out (Sum.inl (()))) : Option (Ctl (Int) (Sum (Unit) ((Bool))))) = some _ := hm
        replace hq := someE hq
        subst hq
        refine eX_outX hx59 (fun hr78 => ?_)
        replace hr78 := hr78.symm
        subst hr78
        refine eX_block_hit ?_
        exact eX_J (fun hst => ⟨rfl, Fr.of hst (by kernel_rfl), hB, hZ⟩)
    · rintro a' w47 ⟨hJ, hF48, hB, hZ⟩
      subst hJ
      refine Fr.goX hF48 (by kernel_rfl) ?_
      refine eX_then ?_
      refine cW_seq ?_
      refine cW_region ?_
      refine wS_pure 1 [(4, .bool (true))] (by kernel_rfl) ?_
      refine wS_end (by rfl) ?_
      refine eX_then ?_
      refine cW_ret ?_
      have hq : (some true : Option ((Bool))) = some _ := hm
      replace hq := someE hq
      subst hq
      refine eX_ret (vs := [.bool (true)]) [.tmp 4] (by rfl) ⟨by (show lkE _ _ _ = _); kernel_rfl, trivial⟩ ?_
      exact ⟨rfl, hB⟩

end Go.Proofs.Ytgaecldkiijmpaa
