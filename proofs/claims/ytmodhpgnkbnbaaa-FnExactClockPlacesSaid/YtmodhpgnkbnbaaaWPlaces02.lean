/- Printed walks: impl.merge, laws.szPointS, spec.l01Points, laws.toPointS, impl.noPoint, slices.IndexFunc[[]impl.Point,impl.Point], slices.ContainsFunc[[]impl.Point,impl.Point], laws.eqPoint, laws.eqPointS, spec.l06Pair, impl.clockPins, impl.tree. -/
import Derived.Test.YtmodhpgnkbnbaaaProg
import Derived.Test.YtmodhpgnkbnbaaaWPlaces01
set_option linter.unusedSimpArgs false
set_option linter.unusedVariables false
namespace Go.Proofs.Ytmodhpgnkbnbaaa
open Go.RowKit
attribute [local irreducible] wS cW eX wH

theorem ent25 : Ent Try.prog 25 := fun _ => by kernel_rfl
theorem ent39 : Ent Try.prog 39 := fun _ => by kernel_rfl
theorem ent80 : Ent Try.prog 80 := fun _ => by kernel_rfl
theorem ent82 : Ent Try.prog 82 := fun _ => by kernel_rfl
theorem ent84 : Ent Try.prog 84 := fun _ => by kernel_rfl
theorem ent85 : Ent Try.prog 85 := fun _ => by kernel_rfl
theorem ent87 : Ent Try.prog 87 := fun _ => by kernel_rfl
theorem ent89 : Ent Try.prog 89 := fun _ => by kernel_rfl
theorem ent90 : Ent Try.prog 90 := fun _ => by kernel_rfl
theorem ent91 : Ent Try.prog 91 := fun _ => by kernel_rfl
theorem ent92 : Ent Try.prog 92 := fun _ => by kernel_rfl
theorem ent97 : Ent Try.prog 97 := fun _ => by kernel_rfl
theorem ent98 : Ent Try.prog 98 := fun _ => by kernel_rfl
theorem ent101 : Ent Try.prog 101 := fun _ => by kernel_rfl
theorem ent112 : Ent Try.prog 112 := fun _ => by kernel_rfl
theorem ent123 : Ent Try.prog 123 := fun _ => by kernel_rfl
theorem ent125 : Ent Try.prog 125 := fun _ => by kernel_rfl
theorem ent126 : Ent Try.prog 126 := fun _ => by kernel_rfl
theorem ent134 : Ent Try.prog 134 := fun _ => by kernel_rfl
theorem vt29 : VarTy Try.prog 29 2 true := ⟨by kernel_rfl, by kernel_rfl⟩
theorem vt52 : VarTy Try.prog 52 5 true := ⟨by kernel_rfl, by kernel_rfl⟩
theorem sl56 : SlTy Try.prog 56 29 2 := ⟨Try.underlying56, by kernel_rfl⟩
theorem sl59 : SlTy Try.prog 59 32 2 := ⟨Try.underlying59, by kernel_rfl⟩
theorem sl75 : SlTy Try.prog 75 52 5 := ⟨Try.underlying75, by kernel_rfl⟩
theorem el59 : ElTy Try.prog 59 32 2 (.agg #[.int .i64 (0), .int .i64 (0)]) := ElTy.mk' Try.underlying59 (by kernel_rfl) (by rfl)
theorem el75 : ElTy Try.prog 75 52 5 (.agg #[.int .i64 (0), .int .i64 (0), .int .i64 (0), .int .i64 (0), .int .i64 (0)]) := ElTy.mk' Try.underlying75 (by kernel_rfl) (by rfl)
theorem sz52 : pureRun Try.prog (sizeOf 52) = some 5 := by kernel_rfl

set_option maxRecDepth 100000 in
/-- impl.merge -/
theorem c_impl_merge {w0 : World} {p0_0 : Int} {p0_1 : Int} {p0_2 : Int} {p0_3 : Int} {p0_4 : Int} {p1_0 : Int} {p1_1 : Int} {p1_2 : Int} {p1_3 : Int} {p1_4 : Int} {r : (Int × Int × Int × Int × Int) × (Int) × (Int) × (Bool)} (hm : m_impl_merge p0_0 p0_1 p0_2 p0_3 p0_4 p1_0 p1_1 p1_2 p1_3 p1_4 = some r)  :
    Calls Try.prog 98 #[.agg #[.int .i64 (p0_0), .int .i64 (p0_1), .int .i64 (p0_2), .int .i64 (p0_3), .int .i64 (p0_4)], .agg #[.int .i64 (p1_0), .int .i64 (p1_1), .int .i64 (p1_2), .int .i64 (p1_3), .int .i64 (p1_4)]] w0 fun e w' => e = .returned (.tuple #[.agg #[.int .i64 (r.1.1), .int .i64 (r.1.2.1), .int .i64 (r.1.2.2.1), .int .i64 (r.1.2.2.2.1), .int .i64 (r.1.2.2.2.2)], .int .i64 (r.2.1), .int .i64 (r.2.2.1), .bool (r.2.2.2)]) ∧ Chg [] w0 w' := by
  have hB : Chg [] w0 w0 := Chg.refl _ _
  have hZ := Nat.le_refl w0.heap.size
  unfold m_impl_merge at hm
  refine enterE (N := 86) Try.func98 (by rfl) Try.ntmps98 (by simp) [(0, .agg #[.int .i64 (p0_0), .int .i64 (p0_1), .int .i64 (p0_2), .int .i64 (p0_3), .int .i64 (p0_4)]), (1, .agg #[.int .i64 (p1_0), .int .i64 (p1_1), .int .i64 (p1_2), .int .i64 (p1_3), .int .i64 (p1_4)])] (by rfl) (by kernel_rfl) (fun a => ?_)
  refine cW_seq ?_
  refine cW_region ?_
  refine wS_box (d := 2) (T := 52) (x := .agg #[.int .i64 (p0_0), .int .i64 (p0_1), .int .i64 (p0_2), .int .i64 (p0_3), .int .i64 (p0_4)]) (by kernel_rfl) ?_
  intro b1 w2 G3 F4 hc5
  replace F4 : Cl w2 b1 52 [.int .i64 (p0_0), .int .i64 (p0_1), .int .i64 (p0_2), .int .i64 (p0_3), .int .i64 (p0_4)] := F4
  replace hB := hB.inS hc5 inNil
  replace G3 := Nat.le_trans hZ G3
  replace hZ := Nat.le_trans hZ hc5.size
  refine wS_box (d := 3) (T := 52) (x := .agg #[.int .i64 (p1_0), .int .i64 (p1_1), .int .i64 (p1_2), .int .i64 (p1_3), .int .i64 (p1_4)]) (by kernel_rfl) ?_
  intro b7 w8 G9 F10 hc11
  replace F10 : Cl w8 b7 52 [.int .i64 (p1_0), .int .i64 (p1_1), .int .i64 (p1_2), .int .i64 (p1_3), .int .i64 (p1_4)] := F10
  have D13 : Dj [b1] [b7] := Dj.of (lt1 F4.lt) (low1 G9)
  replace F4 := F4.chg hc11 notNil
  replace hB := hB.inS hc11 inNil
  replace G9 := Nat.le_trans hZ G9
  replace hZ := Nat.le_trans hZ hc11.size
  refine wS_alloc (d := 4) (T := 52) (z := .agg #[.int .i64 (0), .int .i64 (0), .int .i64 (0), .int .i64 (0), .int .i64 (0)]) (by kernel_rfl) (by kernel_rfl) ?_
  intro b14 w15 G16 F17 hc18
  replace F17 : Cl w15 b14 52 [.int .i64 (0), .int .i64 (0), .int .i64 (0), .int .i64 (0), .int .i64 (0)] := F17
  have D20 : Dj [b1] [b14] := Dj.of (lt1 F4.lt) (low1 G16)
  have D21 : Dj [b7] [b14] := Dj.of (lt1 F10.lt) (low1 G16)
  replace F4 := F4.chg hc18 notNil
  replace F10 := F10.chg hc18 notNil
  replace hB := hB.inS hc18 inNil
  replace G16 := Nat.le_trans hZ G16
  replace hZ := Nat.le_trans hZ hc18.size
  refine wS_pure 3 [(7, .bool (false)), (6, .int .i64 (0)), (5, .int .i64 (0))] (by kernel_rfl) ?_
  refine wS_end (by rfl) ?_
  refine eX_then ?_
  refine cW_seq ?_
  refine cW_region ?_
  refine wS_pure 1 [(15, .pointer (some ⟨b1, 0, none⟩))] (by kernel_rfl) ?_
  refine wS_loadA (d := 16) (T := 25) (ad := ⟨b1, 0, none⟩) (vs := [.int .i64 (p0_0), .int .i64 (p0_1), .int .i64 (p0_2), .int .i64 (p0_3)]) (by kernel_rfl) vt25 (fun i u hu => box_cells F4 0 hu (by rfl)) ?_
  refine wS_pure 1 [(17, .pointer (some ⟨b7, 0, none⟩))] (by kernel_rfl) ?_
  refine wS_loadA (d := 18) (T := 25) (ad := ⟨b7, 0, none⟩) (vs := [.int .i64 (p1_0), .int .i64 (p1_1), .int .i64 (p1_2), .int .i64 (p1_3)]) (by kernel_rfl) vt25 (fun i u hu => box_cells F10 0 hu (by rfl)) ?_
  obtain ⟨y22, hy23, hm⟩ := bindE hm
  refine wS_calls (d := 19) (f := 85) (vs := [.agg #[.int .i64 (p0_0), .int .i64 (p0_1), .int .i64 (p0_2), .int .i64 (p0_3)], .agg #[.int .i64 (p1_0), .int .i64 (p1_1), .int .i64 (p1_2), .int .i64 (p1_3)]]) (by kernel_rfl) ent85 (c_impl_Region_far hy23) ?_
  rintro _ w24 ⟨rfl, hc25⟩
  replace F4 := F4.chg hc25 notNil
  replace F10 := F10.chg hc25 notNil
  replace F17 := F17.chg hc25 notNil
  replace hB := hB.inS hc25 inNil
  replace hZ := Nat.le_trans hZ hc25.size
  refine ⟨.int .i64 (y22), rfl, ?_⟩
  refine wS_pure 1 [(8, .int .i64 (y22))] (by kernel_rfl) ?_
  refine wS_end (by rfl) ?_
  refine eX_then ?_
  refine cW_seq ?_
  refine cW_drawnTail [] 13 (by kernel_rfl) (by kernel_rfl) (fun w31 hc32 => ?_)
  replace F4 := F4.chg hc32 notNil
  replace F10 := F10.chg hc32 notNil
  replace F17 := F17.chg hc32 notNil
  replace hB := hB.inS hc32 inNil
  replace hZ := Nat.le_trans hZ hc32.size
  have hS := Chg.refl [] w31
  have Z33 := F4
  have Z34 := F10
  have Z35 := F17
  refine wH_take [0] [0] [(20, .pointer (some ⟨b7, 4, none⟩))] (by kernel_rfl) (qT (qT qZ)) (by kernel_rfl) ?_
  refine wH_load1 (i := 1) (d := 21) (T := 2) (ad := ⟨b7, 4, none⟩) (v := .int .i64 (p1_4)) (by kernel_rfl) (qT (qT qZ)) (by kernel_rfl) (by kernel_rfl) vt2 (fun W hW => (Z34.chg hW notNil).cell 4) ?_
  refine wH_take [2] [2, 1, 0] [(22, .pointer (some ⟨b1, 4, none⟩))] (by kernel_rfl) (qT (qT qZ)) (by kernel_rfl) ?_
  refine wH_load1 (i := 3) (d := 23) (T := 2) (ad := ⟨b1, 4, none⟩) (v := .int .i64 (p0_4)) (by kernel_rfl) (qT (qT qZ)) (by kernel_rfl) (by kernel_rfl) vt2 (fun W hW => (Z33.chg hW notNil).cell 4) ?_
  refine wH_take [4, 5, 6] [6, 5, 4, 3, 2, 1, 0] [(26, .pointer (some ⟨b1, 4, none⟩)), (25, .int .i64 (if 0 > (wr (p1_4 - p0_4)) then 0 else (wr (p1_4 - p0_4)))), (24, .int .i64 (wr (p1_4 - p0_4)))] (by kernel_rfl) (qT (qT qZ)) (by kernel_rfl) ?_
  refine wH_load1 (i := 7) (d := 27) (T := 2) (ad := ⟨b1, 4, none⟩) (v := .int .i64 (p0_4)) (by kernel_rfl) (qT (qT qZ)) (by kernel_rfl) (by kernel_rfl) vt2 (fun W hW => (Z33.chg hW notNil).cell 4) ?_
  refine wH_take [8] [8, 7, 6, 5, 4, 3, 2, 1, 0] [(28, .pointer (some ⟨b7, 4, none⟩))] (by kernel_rfl) (qT (qT qZ)) (by kernel_rfl) ?_
  refine wH_load1 (i := 9) (d := 29) (T := 2) (ad := ⟨b7, 4, none⟩) (v := .int .i64 (p1_4)) (by kernel_rfl) (qT (qT qZ)) (by kernel_rfl) (by kernel_rfl) vt2 (fun W hW => (Z34.chg hW notNil).cell 4) ?_
  refine wH_take [10, 11, 12] [12, 11, 10, 9, 8, 7, 6, 5, 4, 3, 2, 1, 0] [(9, .int .i64 (if 0 > (wr (p1_4 - p0_4)) then 0 else (wr (p1_4 - p0_4)))), (31, .int .i64 (if 0 > (wr (p0_4 - p1_4)) then 0 else (wr (p0_4 - p1_4)))), (30, .int .i64 (wr (p0_4 - p1_4)))] (by kernel_rfl) (qT (qT qZ)) (by kernel_rfl) ?_
  refine wH_done (by kernel_rfl) ?_
  refine eX_tail ?_
  refine wS_pure 1 [(10, .int .i64 (if 0 > (wr (p0_4 - p1_4)) then 0 else (wr (p0_4 - p1_4))))] (by kernel_rfl) ?_
  refine wS_end (by rfl) ?_
  refine eX_then ?_
  refine cW_prune [(2, .pointer (some ⟨b1, 0, none⟩)), (3, .pointer (some ⟨b7, 0, none⟩)), (4, .pointer (some ⟨b14, 0, none⟩)), (8, .int .i64 (y22)), (9, .int .i64 (if 0 > (wr (p1_4 - p0_4)) then 0 else (wr (p1_4 - p0_4)))), (10, .int .i64 (if 0 > (wr (p0_4 - p1_4)) then 0 else (wr (p0_4 - p1_4))))] (by kernel_rfl) (by kernel_rfl) (fun a36 => ?_)
  refine cW_seq ?_
  refine cW_seq ?_
  refine cW_region ?_
  refine wS_pure 1 [(32, .pointer (some ⟨b1, 4, none⟩))] (by kernel_rfl) ?_
  refine wS_load1 (d := 33) (T := 2) (ad := ⟨b1, 4, none⟩) (v := .int .i64 (p0_4)) (by kernel_rfl) vt2 ((F4).cell 4) ?_
  refine wS_pure 1 [(34, .pointer (some ⟨b7, 4, none⟩))] (by kernel_rfl) ?_
  refine wS_load1 (d := 35) (T := 2) (ad := ⟨b7, 4, none⟩) (v := .int .i64 (p1_4)) (by kernel_rfl) vt2 ((F10).cell 4) ?_
  refine wS_pure 1 [(36, .int .i64 (wr (p0_4 - p1_4)))] (by kernel_rfl) ?_
  obtain ⟨y37, hy38, hm⟩ := bindE hm
  refine wS_calls (d := 37) (f := 123) (vs := [.int .i64 (wr (p0_4 - p1_4))]) (by kernel_rfl) ent123 (c_impl_size hy38) ?_
  rintro _ w39 ⟨rfl, hc40⟩
  replace F4 := F4.chg hc40 notNil
  replace F10 := F10.chg hc40 notNil
  replace F17 := F17.chg hc40 notNil
  replace hB := hB.inS hc40 inNil
  replace hZ := Nat.le_trans hZ hc40.size
  refine ⟨.int .i64 (y37), rfl, ?_⟩
  refine wS_pure 2 [(39, .bool (decide (y37 ≤ y22))), (38, .int .i64 (y22))] (by kernel_rfl) ?_
  refine wS_end (by rfl) ?_
  refine eX_then ?_
  refine cW_cond (t := decide (y37 ≤ y22)) (by kernel_rfl) (fun hb41 => ?_) (fun hb41 => ?_)
  · have hm := condT hb41 hm
    refine cW_seq ?_
    refine cW_region ?_
    refine wS_pure 2 [(41, .pointer (some ⟨b7, 4, none⟩)), (40, .int .i64 (y22))] (by kernel_rfl) ?_
    refine wS_load1 (d := 42) (T := 2) (ad := ⟨b7, 4, none⟩) (v := .int .i64 (p1_4)) (by kernel_rfl) vt2 ((F10).cell 4) ?_
    refine wS_pure 2 [(44, .pointer (some ⟨b1, 4, none⟩)), (43, .int .i64 (wr (y22 + p1_4)))] (by kernel_rfl) ?_
    refine wS_load1 (d := 45) (T := 2) (ad := ⟨b1, 4, none⟩) (v := .int .i64 (p0_4)) (by kernel_rfl) vt2 ((F4).cell 4) ?_
    refine wS_pure 2 [(11, .int .i64 (wr ((wr (y22 + p1_4)) - p0_4))), (46, .int .i64 (wr ((wr (y22 + p1_4)) - p0_4)))] (by kernel_rfl) ?_
    refine wS_end (by rfl) ?_
    refine eX_then ?_
    refine cW_seq ?_
    refine cW_seq ?_
    refine cW_region ?_
    refine wS_pure 3 [(49, .bool ((Int.tmod (wr ((wr (y22 + p1_4)) - p0_4)) 2) != 0)), (48, .int .i64 (Int.tmod (wr ((wr (y22 + p1_4)) - p0_4)) 2)), (47, .int .i64 (wr ((wr (y22 + p1_4)) - p0_4)))] (by kernel_rfl) ?_
    refine wS_end (by rfl) ?_
    refine eX_then ?_
    refine cW_prune [(2, .pointer (some ⟨b1, 0, none⟩)), (3, .pointer (some ⟨b7, 0, none⟩)), (4, .pointer (some ⟨b14, 0, none⟩)), (8, .int .i64 (y22)), (11, .int .i64 (wr ((wr (y22 + p1_4)) - p0_4))), (49, .bool ((Int.tmod (wr ((wr (y22 + p1_4)) - p0_4)) 2) != 0))] (by kernel_rfl) (by kernel_rfl) (fun a42 => ?_)
    refine cW_cond (t := (Int.tmod (wr ((wr (y22 + p1_4)) - p0_4)) 2) != 0) (by kernel_rfl) (fun hb43 => ?_) (fun hb43 => ?_)
    · have hm := condT hb43 hm
      refine cW_seq ?_
      refine cW_region ?_
      refine wS_pure 1 [(50, .agg #[.int .i64 (0), .int .i64 (0), .int .i64 (0), .int .i64 (0), .int .i64 (0)])] (by kernel_rfl) ?_
      refine wS_store (T := 52) (g := b14) (o := 0) (ad := ⟨b14, 0, none⟩) (v := .agg #[.int .i64 (0), .int .i64 (0), .int .i64 (0), .int .i64 (0), .int .i64 (0)]) (vs := [.int .i64 (0), .int .i64 (0), .int .i64 (0), .int .i64 (0), .int .i64 (0)]) (by kernel_rfl) (by rfl) sz52 (by rfl) (by rfl) F17 (by simp only [List.length_cons, List.length_nil]; omega) ?_
      intro w44 F45 hc46
      replace F4 := F4.chg hc46 (dj1 D20)
      replace F10 := F10.chg hc46 (dj1 D21)
      replace hB := hB.inS hc46 (inLow (low1 G16))
      replace hZ := Nat.le_trans hZ hc46.size
      replace F45 : Cl w44 b14 52 [.int .i64 (0), .int .i64 (0), .int .i64 (0), .int .i64 (0), .int .i64 (0)] := F45
      clear F17
      refine wS_pure 3 [(7, .bool (false)), (6, .int .i64 (0)), (5, .int .i64 (0))] (by kernel_rfl) ?_
      refine wS_end (by rfl) ?_
      refine eX_then ?_
      refine cW_ret ?_
      refine eX_then_ret ?_
      refine eX_then_ret ?_
      have hq : (some (((0, 0, 0, 0, 0), 0, 0, false)) : Option ((Int × Int × Int × Int × Int) × (Int) × (Int) × (Bool))) = some _ := hm
      replace hq := someE hq
      subst hq
      refine eX_ret (vs := [.agg #[.int .i64 (0), .int .i64 (0), .int .i64 (0), .int .i64 (0), .int .i64 (0)], .int .i64 (0), .int .i64 (0), .bool (false)]) [.cell 4 52, .tmp 5, .tmp 6, .tmp 7] (by rfl) ⟨⟨⟨b14, 0, none⟩, by kernel_rfl, run_loadVarA (vs := [.int .i64 (0), .int .i64 (0), .int .i64 (0), .int .i64 (0), .int .i64 (0)]) vt52 (fun i u hu => by exact box_cells F45 0 hu (by rfl))⟩, ⟨by (show lkE _ _ _ = _); kernel_rfl, ⟨by (show lkE _ _ _ = _); kernel_rfl, ⟨by (show lkE _ _ _ = _); kernel_rfl, trivial⟩⟩⟩⟩ ?_
      exact ⟨rfl, hB⟩
    · have hm := condF hb43 hm
      refine cW_skip ?_
      refine eX_then ?_
      refine cW_region ?_
      refine wS_pure 8 [(10, .int .i64 (wr (y22 - (wr (Int.tdiv (wr ((wr (y22 + p1_4)) - p0_4)) 2))))), (9, .int .i64 (wr (Int.tdiv (wr ((wr (y22 + p1_4)) - p0_4)) 2))), (56, .int .i64 (wr (y22 - (wr (Int.tdiv (wr ((wr (y22 + p1_4)) - p0_4)) 2))))), (55, .int .i64 (wr (Int.tdiv (wr ((wr (y22 + p1_4)) - p0_4)) 2))), (54, .int .i64 (wr ((wr (y22 + p1_4)) - p0_4))), (53, .int .i64 (y22)), (52, .int .i64 (wr (Int.tdiv (wr ((wr (y22 + p1_4)) - p0_4)) 2))), (51, .int .i64 (wr ((wr (y22 + p1_4)) - p0_4)))] (by kernel_rfl) ?_
      refine wS_end (by rfl) ?_
      refine eX_then ?_
      refine cW_seq ?_
      obtain ⟨s248, hs249, hm⟩ := bindE hm
      refine cW_cut (fun a' w' => ∃ b234 : Nat, ∃ x235 : Int, ∃ x236 : Int, ∃ x237 : Int, ∃ x238 : Int, ∃ x240 : Bool, (x235, x236, x237, x238, x240) = s248 ∧ Fr 86 [(2, .pointer (some ⟨b1, 0, none⟩)), (4, .pointer (some ⟨b14, 0, none⟩)), (9, .int .i64 (wr (Int.tdiv (wr ((wr (y22 + p1_4)) - p0_4)) 2))), (10, .int .i64 (wr (y22 - (wr (Int.tdiv (wr ((wr (y22 + p1_4)) - p0_4)) 2))))), (12, .pointer (some ⟨b234, 0, none⟩)), (13, .bool (x240))] a' ∧ Cl w' b1 52 [.int .i64 (p0_0), .int .i64 (p0_1), .int .i64 (p0_2), .int .i64 (p0_3), .int .i64 (p0_4)] ∧ Cl w' b14 52 [.int .i64 (0), .int .i64 (0), .int .i64 (0), .int .i64 (0), .int .i64 (0)] ∧ Cl w' b234 25 [.int .i64 (x235), .int .i64 (x236), .int .i64 (x237), .int .i64 (x238)] ∧ w0.heap.size ≤ b234 ∧ Dj [b1] [b234] ∧ Dj [b14] [b234] ∧ Chg [] w0 w' ∧ w0.heap.size ≤ w'.heap.size) ?_ ?_
      · have hm := hs249
        refine cW_drawnTail [] 14 (by kernel_rfl) (by kernel_rfl) (fun w250 hc251 => ?_)
        replace F4 := F4.chg hc251 notNil
        replace F10 := F10.chg hc251 notNil
        replace F17 := F17.chg hc251 notNil
        replace hB := hB.inS hc251 inNil
        replace hZ := Nat.le_trans hZ hc251.size
        have hS := Chg.refl [] w250
        have Z252 := F4
        have Z253 := F10
        have Z254 := F17
        refine wH_take [0] [0] [(58, .pointer (some ⟨b1, 0, none⟩))] (by kernel_rfl) (qT (qT (qT qZ))) (by kernel_rfl) ?_
        refine wH_loadA (i := 1) (d := 59) (T := 25) (ad := ⟨b1, 0, none⟩) (vs := [.int .i64 (p0_0), .int .i64 (p0_1), .int .i64 (p0_2), .int .i64 (p0_3)]) (by kernel_rfl) (qT (qT (qT qZ))) (by kernel_rfl) (by kernel_rfl) vt25 (fun W hW i u hu => box_cells (Z252.chg hW notNil) 0 hu (by rfl)) ?_
        refine wH_take [2, 4] [4, 2, 1, 0] [(62, .pointer (some ⟨b7, 0, none⟩)), (60, .int .i64 (wr (Int.tdiv (wr ((wr (y22 + p1_4)) - p0_4)) 2)))] (by kernel_rfl) (qT (qT (qT qZ))) (by kernel_rfl) ?_
        refine wH_loadA (i := 5) (d := 63) (T := 25) (ad := ⟨b7, 0, none⟩) (vs := [.int .i64 (p1_0), .int .i64 (p1_1), .int .i64 (p1_2), .int .i64 (p1_3)]) (by kernel_rfl) (qT (qT (qT qZ))) (by kernel_rfl) (by kernel_rfl) vt25 (fun W hW i u hu => box_cells (Z253.chg hW notNil) 0 hu (by rfl)) ?_
        refine wH_take [6] [6, 5, 4, 2, 1, 0] [(64, .int .i64 (wr (y22 - (wr (Int.tdiv (wr ((wr (y22 + p1_4)) - p0_4)) 2)))))] (by kernel_rfl) (qT (qT (qT qZ))) (by kernel_rfl) ?_
        refine wH_all [3, 12] (by rfl) (by kernel_rfl) (by simp) ⟨⟨by kernel_rfl, ?_⟩, ⟨by kernel_rfl, ?_⟩, trivial⟩
        · skip
          obtain ⟨y255, hy256, hm⟩ := bindE hm
          refine wS_calls (d := 61) (f := 90) (vs := [.agg #[.int .i64 (p0_0), .int .i64 (p0_1), .int .i64 (p0_2), .int .i64 (p0_3)], .int .i64 (wr (Int.tdiv (wr ((wr (y22 + p1_4)) - p0_4)) 2))]) (by kernel_rfl) ent90 (c_impl_Region_grown hy256) ?_
          rintro _ w257 ⟨rfl, hc258⟩
          replace F4 := F4.chg hc258 notNil
          replace F10 := F10.chg hc258 notNil
          replace F17 := F17.chg hc258 notNil
          replace hB := hB.inS hc258 inNil
          have hSz := hS
          replace hS := hS.inS hc258 inNil
          replace hZ := Nat.le_trans hZ hc258.size
          refine ⟨.agg #[.int .i64 (y255.1), .int .i64 (y255.2.1), .int .i64 (y255.2.2.1), .int .i64 (y255.2.2.2)], rfl, ?_⟩
          refine wS_end (by kernel_rfl) ?_
          refine eX_KH hS ?_
          refine wH_all [7, 12] (by rfl) (by kernel_rfl) (by simp) ⟨⟨by kernel_rfl, ?_⟩, ⟨by kernel_rfl, ?_⟩, trivial⟩
          · skip
            obtain ⟨y259, hy260, hm⟩ := bindE hm
            refine wS_calls (d := 65) (f := 90) (vs := [.agg #[.int .i64 (p1_0), .int .i64 (p1_1), .int .i64 (p1_2), .int .i64 (p1_3)], .int .i64 (wr (y22 - (wr (Int.tdiv (wr ((wr (y22 + p1_4)) - p0_4)) 2))))]) (by kernel_rfl) ent90 (c_impl_Region_grown hy260) ?_
            rintro _ w261 ⟨rfl, hc262⟩
            replace F4 := F4.chg hc262 notNil
            replace F10 := F10.chg hc262 notNil
            replace F17 := F17.chg hc262 notNil
            replace hB := hB.inS hc262 inNil
            have hSz := hS
            replace hS := hS.inS hc262 inNil
            replace hZ := Nat.le_trans hZ hc262.size
            refine ⟨.agg #[.int .i64 (y259.1), .int .i64 (y259.2.1), .int .i64 (y259.2.2.1), .int .i64 (y259.2.2.2)], rfl, ?_⟩
            refine wS_end (by kernel_rfl) ?_
            refine eX_KH hS ?_
            refine wH_all [8, 12] (by rfl) (by kernel_rfl) (by simp) ⟨⟨by kernel_rfl, ?_⟩, ⟨by kernel_rfl, ?_⟩, trivial⟩
            · skip
              obtain ⟨y263, hy264, hm⟩ := bindE hm
              refine wS_calls (d := 66) (f := 92) (vs := [.agg #[.int .i64 (y255.1), .int .i64 (y255.2.1), .int .i64 (y255.2.2.1), .int .i64 (y255.2.2.2)], .agg #[.int .i64 (y259.1), .int .i64 (y259.2.1), .int .i64 (y259.2.2.1), .int .i64 (y259.2.2.2)]]) (by kernel_rfl) ent92 (c_impl_Region_meet hy264) ?_
              rintro _ w265 ⟨rfl, hc266⟩
              replace F4 := F4.chg hc266 notNil
              replace F10 := F10.chg hc266 notNil
              replace F17 := F17.chg hc266 notNil
              replace hB := hB.inS hc266 inNil
              have hSz := hS
              replace hS := hS.inS hc266 inNil
              replace hZ := Nat.le_trans hZ hc266.size
              refine ⟨.tuple #[.agg #[.int .i64 (y263.1.1), .int .i64 (y263.1.2.1), .int .i64 (y263.1.2.2.1), .int .i64 (y263.1.2.2.2)], .bool (y263.2)], rfl, ?_⟩
              refine wS_end (by kernel_rfl) ?_
              refine eX_KH hS ?_
              refine wH_take [9, 10, 11] [11, 10, 9, 8, 7, 3, 6, 5, 4, 2, 1, 0] [(68, .bool (y263.2)), (67, .agg #[.int .i64 (y263.1.1), .int .i64 (y263.1.2.1), .int .i64 (y263.1.2.2.1), .int .i64 (y263.1.2.2.2)]), (57, .tuple #[.agg #[.int .i64 (y263.1.1), .int .i64 (y263.1.2.1), .int .i64 (y263.1.2.2.1), .int .i64 (y263.1.2.2.2)], .bool (y263.2)])] (by kernel_rfl) (qT (qT (qT qZ))) (by kernel_rfl) ?_
              refine wH_all [12] (by rfl) (by kernel_rfl) (by simp) ⟨⟨by kernel_rfl, ?_⟩, trivial⟩
              refine wS_alloc (d := 12) (T := 25) (z := .agg #[.int .i64 (0), .int .i64 (0), .int .i64 (0), .int .i64 (0)]) (by kernel_rfl) (by kernel_rfl) ?_
              intro b267 w268 G269 F270 hc271
              replace F270 : Cl w268 b267 25 [.int .i64 (0), .int .i64 (0), .int .i64 (0), .int .i64 (0)] := F270
              have D273 : Dj [b1] [b267] := Dj.of (lt1 F4.lt) (low1 G269)
              have D274 : Dj [b7] [b267] := Dj.of (lt1 F10.lt) (low1 G269)
              have D275 : Dj [b14] [b267] := Dj.of (lt1 F17.lt) (low1 G269)
              replace F4 := F4.chg hc271 notNil
              replace F10 := F10.chg hc271 notNil
              replace F17 := F17.chg hc271 notNil
              replace hB := hB.inS hc271 inNil
              have hSz := hS
              replace hS := hS.inS hc271 inNil
              have Gz276 := low1 (Nat.le_trans hSz.size G269)
              replace G269 := Nat.le_trans hZ G269
              replace hZ := Nat.le_trans hZ hc271.size
              refine wS_end (by kernel_rfl) ?_
              refine eX_KH hS ?_
              refine wH_all [13] (by rfl) (by kernel_rfl) (by simp) ⟨⟨by kernel_rfl, ?_⟩, trivial⟩
              refine wS_store (T := 25) (g := b267) (o := 0) (ad := ⟨b267, 0, none⟩) (v := .agg #[.int .i64 (y263.1.1), .int .i64 (y263.1.2.1), .int .i64 (y263.1.2.2.1), .int .i64 (y263.1.2.2.2)]) (vs := [.int .i64 (y263.1.1), .int .i64 (y263.1.2.1), .int .i64 (y263.1.2.2.1), .int .i64 (y263.1.2.2.2)]) (by kernel_rfl) (by rfl) sz25 (by rfl) (by rfl) F270 (by simp only [List.length_cons, List.length_nil]; omega) ?_
              intro w277 F278 hc279
              replace F4 := F4.chg hc279 (dj1 D273)
              replace F10 := F10.chg hc279 (dj1 D274)
              replace F17 := F17.chg hc279 (dj1 D275)
              replace hB := hB.inS hc279 (inLow (low1 G269))
              have hSz := hS
              replace hS := hS.inS hc279 (inLow Gz276)
              replace hZ := Nat.le_trans hZ hc279.size
              replace F278 : Cl w277 b267 25 [.int .i64 (y263.1.1), .int .i64 (y263.1.2.1), .int .i64 (y263.1.2.2.1), .int .i64 (y263.1.2.2.2)] := F278
              clear F270
              refine wS_end (by kernel_rfl) ?_
              refine eX_KH hS ?_
              refine wH_done (by kernel_rfl) ?_
              refine eX_tail ?_
              refine wS_pure 1 [(13, .bool (y263.2))] (by kernel_rfl) ?_
              refine wS_end (by rfl) ?_
              have hq : (some ((y263.1.1, y263.1.2.1, y263.1.2.2.1, y263.1.2.2.2, y263.2)) : Option (Int × Int × Int × Int × Bool)) = some _ := hm
              replace hq := someE hq
              subst hq
              exact eX_J (fun hst => ⟨b267, y263.1.1, y263.1.2.1, y263.1.2.2.1, y263.1.2.2.2, y263.2, rfl, Fr.of hst (by kernel_rfl), F4, F17, F278, G269, D273, D275, hB, hZ⟩)
            · skip
              refine wS_alloc (d := 12) (T := 25) (z := .agg #[.int .i64 (0), .int .i64 (0), .int .i64 (0), .int .i64 (0)]) (by kernel_rfl) (by kernel_rfl) ?_
              intro b280 w281 G282 F283 hc284
              replace F283 : Cl w281 b280 25 [.int .i64 (0), .int .i64 (0), .int .i64 (0), .int .i64 (0)] := F283
              have D286 : Dj [b1] [b280] := Dj.of (lt1 F4.lt) (low1 G282)
              have D287 : Dj [b7] [b280] := Dj.of (lt1 F10.lt) (low1 G282)
              have D288 : Dj [b14] [b280] := Dj.of (lt1 F17.lt) (low1 G282)
              replace F4 := F4.chg hc284 notNil
              replace F10 := F10.chg hc284 notNil
              replace F17 := F17.chg hc284 notNil
              replace hB := hB.inS hc284 inNil
              have hSz := hS
              replace hS := hS.inS hc284 inNil
              have Gz289 := low1 (Nat.le_trans hSz.size G282)
              replace G282 := Nat.le_trans hZ G282
              replace hZ := Nat.le_trans hZ hc284.size
              refine wS_end (by kernel_rfl) ?_
              refine eX_KH hS ?_
              refine wH_all [8] (by rfl) (by kernel_rfl) (by simp) ⟨⟨by kernel_rfl, ?_⟩, trivial⟩
              obtain ⟨y290, hy291, hm⟩ := bindE hm
              refine wS_calls (d := 66) (f := 92) (vs := [.agg #[.int .i64 (y255.1), .int .i64 (y255.2.1), .int .i64 (y255.2.2.1), .int .i64 (y255.2.2.2)], .agg #[.int .i64 (y259.1), .int .i64 (y259.2.1), .int .i64 (y259.2.2.1), .int .i64 (y259.2.2.2)]]) (by kernel_rfl) ent92 (c_impl_Region_meet hy291) ?_
              rintro _ w292 ⟨rfl, hc293⟩
              replace F4 := F4.chg hc293 notNil
              replace F10 := F10.chg hc293 notNil
              replace F17 := F17.chg hc293 notNil
              replace F283 := F283.chg hc293 notNil
              replace hB := hB.inS hc293 inNil
              have hSz := hS
              replace hS := hS.inS hc293 inNil
              replace hZ := Nat.le_trans hZ hc293.size
              refine ⟨.tuple #[.agg #[.int .i64 (y290.1.1), .int .i64 (y290.1.2.1), .int .i64 (y290.1.2.2.1), .int .i64 (y290.1.2.2.2)], .bool (y290.2)], rfl, ?_⟩
              refine wS_end (by kernel_rfl) ?_
              refine eX_KH hS ?_
              refine wH_take [9, 10, 11] [11, 10, 9, 8, 12, 7, 3, 6, 5, 4, 2, 1, 0] [(68, .bool (y290.2)), (67, .agg #[.int .i64 (y290.1.1), .int .i64 (y290.1.2.1), .int .i64 (y290.1.2.2.1), .int .i64 (y290.1.2.2.2)]), (57, .tuple #[.agg #[.int .i64 (y290.1.1), .int .i64 (y290.1.2.1), .int .i64 (y290.1.2.2.1), .int .i64 (y290.1.2.2.2)], .bool (y290.2)])] (by kernel_rfl) (qT (qT (qT qZ))) (by kernel_rfl) ?_
              refine wH_all [13] (by rfl) (by kernel_rfl) (by simp) ⟨⟨by kernel_rfl, ?_⟩, trivial⟩
              refine wS_store (T := 25) (g := b280) (o := 0) (ad := ⟨b280, 0, none⟩) (v := .agg #[.int .i64 (y290.1.1), .int .i64 (y290.1.2.1), .int .i64 (y290.1.2.2.1), .int .i64 (y290.1.2.2.2)]) (vs := [.int .i64 (y290.1.1), .int .i64 (y290.1.2.1), .int .i64 (y290.1.2.2.1), .int .i64 (y290.1.2.2.2)]) (by kernel_rfl) (by rfl) sz25 (by rfl) (by rfl) F283 (by simp only [List.length_cons, List.length_nil]; omega) ?_
              intro w294 F295 hc296
              replace F4 := F4.chg hc296 (dj1 D286)
              replace F10 := F10.chg hc296 (dj1 D287)
              replace F17 := F17.chg hc296 (dj1 D288)
              replace hB := hB.inS hc296 (inLow (low1 G282))
              have hSz := hS
              replace hS := hS.inS hc296 (inLow Gz289)
              replace hZ := Nat.le_trans hZ hc296.size
              replace F295 : Cl w294 b280 25 [.int .i64 (y290.1.1), .int .i64 (y290.1.2.1), .int .i64 (y290.1.2.2.1), .int .i64 (y290.1.2.2.2)] := F295
              clear F283
              refine wS_end (by kernel_rfl) ?_
              refine eX_KH hS ?_
              refine wH_done (by kernel_rfl) ?_
              refine eX_tail ?_
              refine wS_pure 1 [(13, .bool (y290.2))] (by kernel_rfl) ?_
              refine wS_end (by rfl) ?_
              have hq : (some ((y290.1.1, y290.1.2.1, y290.1.2.2.1, y290.1.2.2.2, y290.2)) : Option (Int × Int × Int × Int × Bool)) = some _ := hm
              replace hq := someE hq
              subst hq
              exact eX_J (fun hst => ⟨b280, y290.1.1, y290.1.2.1, y290.1.2.2.1, y290.1.2.2.2, y290.2, rfl, Fr.of hst (by kernel_rfl), F4, F17, F295, G282, D286, D288, hB, hZ⟩)
          · skip
            refine wS_alloc (d := 12) (T := 25) (z := .agg #[.int .i64 (0), .int .i64 (0), .int .i64 (0), .int .i64 (0)]) (by kernel_rfl) (by kernel_rfl) ?_
            intro b297 w298 G299 F300 hc301
            replace F300 : Cl w298 b297 25 [.int .i64 (0), .int .i64 (0), .int .i64 (0), .int .i64 (0)] := F300
            have D303 : Dj [b1] [b297] := Dj.of (lt1 F4.lt) (low1 G299)
            have D304 : Dj [b7] [b297] := Dj.of (lt1 F10.lt) (low1 G299)
            have D305 : Dj [b14] [b297] := Dj.of (lt1 F17.lt) (low1 G299)
            replace F4 := F4.chg hc301 notNil
            replace F10 := F10.chg hc301 notNil
            replace F17 := F17.chg hc301 notNil
            replace hB := hB.inS hc301 inNil
            have hSz := hS
            replace hS := hS.inS hc301 inNil
            have Gz306 := low1 (Nat.le_trans hSz.size G299)
            replace G299 := Nat.le_trans hZ G299
            replace hZ := Nat.le_trans hZ hc301.size
            refine wS_end (by kernel_rfl) ?_
            refine eX_KH hS ?_
            refine wH_all [7] (by rfl) (by kernel_rfl) (by simp) ⟨⟨by kernel_rfl, ?_⟩, trivial⟩
            obtain ⟨y307, hy308, hm⟩ := bindE hm
            refine wS_calls (d := 65) (f := 90) (vs := [.agg #[.int .i64 (p1_0), .int .i64 (p1_1), .int .i64 (p1_2), .int .i64 (p1_3)], .int .i64 (wr (y22 - (wr (Int.tdiv (wr ((wr (y22 + p1_4)) - p0_4)) 2))))]) (by kernel_rfl) ent90 (c_impl_Region_grown hy308) ?_
            rintro _ w309 ⟨rfl, hc310⟩
            replace F4 := F4.chg hc310 notNil
            replace F10 := F10.chg hc310 notNil
            replace F17 := F17.chg hc310 notNil
            replace F300 := F300.chg hc310 notNil
            replace hB := hB.inS hc310 inNil
            have hSz := hS
            replace hS := hS.inS hc310 inNil
            replace hZ := Nat.le_trans hZ hc310.size
            refine ⟨.agg #[.int .i64 (y307.1), .int .i64 (y307.2.1), .int .i64 (y307.2.2.1), .int .i64 (y307.2.2.2)], rfl, ?_⟩
            refine wS_end (by kernel_rfl) ?_
            refine eX_KH hS ?_
            refine wH_all [8] (by rfl) (by kernel_rfl) (by simp) ⟨⟨by kernel_rfl, ?_⟩, trivial⟩
            obtain ⟨y311, hy312, hm⟩ := bindE hm
            refine wS_calls (d := 66) (f := 92) (vs := [.agg #[.int .i64 (y255.1), .int .i64 (y255.2.1), .int .i64 (y255.2.2.1), .int .i64 (y255.2.2.2)], .agg #[.int .i64 (y307.1), .int .i64 (y307.2.1), .int .i64 (y307.2.2.1), .int .i64 (y307.2.2.2)]]) (by kernel_rfl) ent92 (c_impl_Region_meet hy312) ?_
            rintro _ w313 ⟨rfl, hc314⟩
            replace F4 := F4.chg hc314 notNil
            replace F10 := F10.chg hc314 notNil
            replace F17 := F17.chg hc314 notNil
            replace F300 := F300.chg hc314 notNil
            replace hB := hB.inS hc314 inNil
            have hSz := hS
            replace hS := hS.inS hc314 inNil
            replace hZ := Nat.le_trans hZ hc314.size
            refine ⟨.tuple #[.agg #[.int .i64 (y311.1.1), .int .i64 (y311.1.2.1), .int .i64 (y311.1.2.2.1), .int .i64 (y311.1.2.2.2)], .bool (y311.2)], rfl, ?_⟩
            refine wS_end (by kernel_rfl) ?_
            refine eX_KH hS ?_
            refine wH_take [9, 10, 11] [11, 10, 9, 8, 7, 12, 3, 6, 5, 4, 2, 1, 0] [(68, .bool (y311.2)), (67, .agg #[.int .i64 (y311.1.1), .int .i64 (y311.1.2.1), .int .i64 (y311.1.2.2.1), .int .i64 (y311.1.2.2.2)]), (57, .tuple #[.agg #[.int .i64 (y311.1.1), .int .i64 (y311.1.2.1), .int .i64 (y311.1.2.2.1), .int .i64 (y311.1.2.2.2)], .bool (y311.2)])] (by kernel_rfl) (qT (qT (qT qZ))) (by kernel_rfl) ?_
            refine wH_all [13] (by rfl) (by kernel_rfl) (by simp) ⟨⟨by kernel_rfl, ?_⟩, trivial⟩
            refine wS_store (T := 25) (g := b297) (o := 0) (ad := ⟨b297, 0, none⟩) (v := .agg #[.int .i64 (y311.1.1), .int .i64 (y311.1.2.1), .int .i64 (y311.1.2.2.1), .int .i64 (y311.1.2.2.2)]) (vs := [.int .i64 (y311.1.1), .int .i64 (y311.1.2.1), .int .i64 (y311.1.2.2.1), .int .i64 (y311.1.2.2.2)]) (by kernel_rfl) (by rfl) sz25 (by rfl) (by rfl) F300 (by simp only [List.length_cons, List.length_nil]; omega) ?_
            intro w315 F316 hc317
            replace F4 := F4.chg hc317 (dj1 D303)
            replace F10 := F10.chg hc317 (dj1 D304)
            replace F17 := F17.chg hc317 (dj1 D305)
            replace hB := hB.inS hc317 (inLow (low1 G299))
            have hSz := hS
            replace hS := hS.inS hc317 (inLow Gz306)
            replace hZ := Nat.le_trans hZ hc317.size
            replace F316 : Cl w315 b297 25 [.int .i64 (y311.1.1), .int .i64 (y311.1.2.1), .int .i64 (y311.1.2.2.1), .int .i64 (y311.1.2.2.2)] := F316
            clear F300
            refine wS_end (by kernel_rfl) ?_
            refine eX_KH hS ?_
            refine wH_done (by kernel_rfl) ?_
            refine eX_tail ?_
            refine wS_pure 1 [(13, .bool (y311.2))] (by kernel_rfl) ?_
            refine wS_end (by rfl) ?_
            have hq : (some ((y311.1.1, y311.1.2.1, y311.1.2.2.1, y311.1.2.2.2, y311.2)) : Option (Int × Int × Int × Int × Bool)) = some _ := hm
            replace hq := someE hq
            subst hq
            exact eX_J (fun hst => ⟨b297, y311.1.1, y311.1.2.1, y311.1.2.2.1, y311.1.2.2.2, y311.2, rfl, Fr.of hst (by kernel_rfl), F4, F17, F316, G299, D303, D305, hB, hZ⟩)
        · skip
          refine wS_alloc (d := 12) (T := 25) (z := .agg #[.int .i64 (0), .int .i64 (0), .int .i64 (0), .int .i64 (0)]) (by kernel_rfl) (by kernel_rfl) ?_
          intro b318 w319 G320 F321 hc322
          replace F321 : Cl w319 b318 25 [.int .i64 (0), .int .i64 (0), .int .i64 (0), .int .i64 (0)] := F321
          have D324 : Dj [b1] [b318] := Dj.of (lt1 F4.lt) (low1 G320)
          have D325 : Dj [b7] [b318] := Dj.of (lt1 F10.lt) (low1 G320)
          have D326 : Dj [b14] [b318] := Dj.of (lt1 F17.lt) (low1 G320)
          replace F4 := F4.chg hc322 notNil
          replace F10 := F10.chg hc322 notNil
          replace F17 := F17.chg hc322 notNil
          replace hB := hB.inS hc322 inNil
          have hSz := hS
          replace hS := hS.inS hc322 inNil
          have Gz327 := low1 (Nat.le_trans hSz.size G320)
          replace G320 := Nat.le_trans hZ G320
          replace hZ := Nat.le_trans hZ hc322.size
          refine wS_end (by kernel_rfl) ?_
          refine eX_KH hS ?_
          refine wH_all [3] (by rfl) (by kernel_rfl) (by simp) ⟨⟨by kernel_rfl, ?_⟩, trivial⟩
          obtain ⟨y328, hy329, hm⟩ := bindE hm
          refine wS_calls (d := 61) (f := 90) (vs := [.agg #[.int .i64 (p0_0), .int .i64 (p0_1), .int .i64 (p0_2), .int .i64 (p0_3)], .int .i64 (wr (Int.tdiv (wr ((wr (y22 + p1_4)) - p0_4)) 2))]) (by kernel_rfl) ent90 (c_impl_Region_grown hy329) ?_
          rintro _ w330 ⟨rfl, hc331⟩
          replace F4 := F4.chg hc331 notNil
          replace F10 := F10.chg hc331 notNil
          replace F17 := F17.chg hc331 notNil
          replace F321 := F321.chg hc331 notNil
          replace hB := hB.inS hc331 inNil
          have hSz := hS
          replace hS := hS.inS hc331 inNil
          replace hZ := Nat.le_trans hZ hc331.size
          refine ⟨.agg #[.int .i64 (y328.1), .int .i64 (y328.2.1), .int .i64 (y328.2.2.1), .int .i64 (y328.2.2.2)], rfl, ?_⟩
          refine wS_end (by kernel_rfl) ?_
          refine eX_KH hS ?_
          refine wH_all [7] (by rfl) (by kernel_rfl) (by simp) ⟨⟨by kernel_rfl, ?_⟩, trivial⟩
          obtain ⟨y332, hy333, hm⟩ := bindE hm
          refine wS_calls (d := 65) (f := 90) (vs := [.agg #[.int .i64 (p1_0), .int .i64 (p1_1), .int .i64 (p1_2), .int .i64 (p1_3)], .int .i64 (wr (y22 - (wr (Int.tdiv (wr ((wr (y22 + p1_4)) - p0_4)) 2))))]) (by kernel_rfl) ent90 (c_impl_Region_grown hy333) ?_
          rintro _ w334 ⟨rfl, hc335⟩
          replace F4 := F4.chg hc335 notNil
          replace F10 := F10.chg hc335 notNil
          replace F17 := F17.chg hc335 notNil
          replace F321 := F321.chg hc335 notNil
          replace hB := hB.inS hc335 inNil
          have hSz := hS
          replace hS := hS.inS hc335 inNil
          replace hZ := Nat.le_trans hZ hc335.size
          refine ⟨.agg #[.int .i64 (y332.1), .int .i64 (y332.2.1), .int .i64 (y332.2.2.1), .int .i64 (y332.2.2.2)], rfl, ?_⟩
          refine wS_end (by kernel_rfl) ?_
          refine eX_KH hS ?_
          refine wH_all [8] (by rfl) (by kernel_rfl) (by simp) ⟨⟨by kernel_rfl, ?_⟩, trivial⟩
          obtain ⟨y336, hy337, hm⟩ := bindE hm
          refine wS_calls (d := 66) (f := 92) (vs := [.agg #[.int .i64 (y328.1), .int .i64 (y328.2.1), .int .i64 (y328.2.2.1), .int .i64 (y328.2.2.2)], .agg #[.int .i64 (y332.1), .int .i64 (y332.2.1), .int .i64 (y332.2.2.1), .int .i64 (y332.2.2.2)]]) (by kernel_rfl) ent92 (c_impl_Region_meet hy337) ?_
          rintro _ w338 ⟨rfl, hc339⟩
          replace F4 := F4.chg hc339 notNil
          replace F10 := F10.chg hc339 notNil
          replace F17 := F17.chg hc339 notNil
          replace F321 := F321.chg hc339 notNil
          replace hB := hB.inS hc339 inNil
          have hSz := hS
          replace hS := hS.inS hc339 inNil
          replace hZ := Nat.le_trans hZ hc339.size
          refine ⟨.tuple #[.agg #[.int .i64 (y336.1.1), .int .i64 (y336.1.2.1), .int .i64 (y336.1.2.2.1), .int .i64 (y336.1.2.2.2)], .bool (y336.2)], rfl, ?_⟩
          refine wS_end (by kernel_rfl) ?_
          refine eX_KH hS ?_
          refine wH_take [9, 10, 11] [11, 10, 9, 8, 7, 3, 12, 6, 5, 4, 2, 1, 0] [(68, .bool (y336.2)), (67, .agg #[.int .i64 (y336.1.1), .int .i64 (y336.1.2.1), .int .i64 (y336.1.2.2.1), .int .i64 (y336.1.2.2.2)]), (57, .tuple #[.agg #[.int .i64 (y336.1.1), .int .i64 (y336.1.2.1), .int .i64 (y336.1.2.2.1), .int .i64 (y336.1.2.2.2)], .bool (y336.2)])] (by kernel_rfl) (qT (qT (qT qZ))) (by kernel_rfl) ?_
          refine wH_all [13] (by rfl) (by kernel_rfl) (by simp) ⟨⟨by kernel_rfl, ?_⟩, trivial⟩
          refine wS_store (T := 25) (g := b318) (o := 0) (ad := ⟨b318, 0, none⟩) (v := .agg #[.int .i64 (y336.1.1), .int .i64 (y336.1.2.1), .int .i64 (y336.1.2.2.1), .int .i64 (y336.1.2.2.2)]) (vs := [.int .i64 (y336.1.1), .int .i64 (y336.1.2.1), .int .i64 (y336.1.2.2.1), .int .i64 (y336.1.2.2.2)]) (by kernel_rfl) (by rfl) sz25 (by rfl) (by rfl) F321 (by simp only [List.length_cons, List.length_nil]; omega) ?_
          intro w340 F341 hc342
          replace F4 := F4.chg hc342 (dj1 D324)
          replace F10 := F10.chg hc342 (dj1 D325)
          replace F17 := F17.chg hc342 (dj1 D326)
          replace hB := hB.inS hc342 (inLow (low1 G320))
          have hSz := hS
          replace hS := hS.inS hc342 (inLow Gz327)
          replace hZ := Nat.le_trans hZ hc342.size
          replace F341 : Cl w340 b318 25 [.int .i64 (y336.1.1), .int .i64 (y336.1.2.1), .int .i64 (y336.1.2.2.1), .int .i64 (y336.1.2.2.2)] := F341
          clear F321
          refine wS_end (by kernel_rfl) ?_
          refine eX_KH hS ?_
          refine wH_done (by kernel_rfl) ?_
          refine eX_tail ?_
          refine wS_pure 1 [(13, .bool (y336.2))] (by kernel_rfl) ?_
          refine wS_end (by rfl) ?_
          have hq : (some ((y336.1.1, y336.1.2.1, y336.1.2.2.1, y336.1.2.2.2, y336.2)) : Option (Int × Int × Int × Int × Bool)) = some _ := hm
          replace hq := someE hq
          subst hq
          exact eX_J (fun hst => ⟨b318, y336.1.1, y336.1.2.1, y336.1.2.2.1, y336.1.2.2.2, y336.2, rfl, Fr.of hst (by kernel_rfl), F4, F17, F341, G320, D324, D326, hB, hZ⟩)
      · rintro a' w233 ⟨b234, x235, x236, x237, x238, x240, hJ, hF241, F242, F243, F244, G245, D246, D247, hB, hZ⟩
        subst hJ
        refine Fr.goX hF241 (by kernel_rfl) ?_
        refine eX_then ?_
        refine cW_seq ?_
        refine cW_region ?_
        refine wS_loadA (d := 69) (T := 25) (ad := ⟨b234, 0, none⟩) (vs := [.int .i64 (x235), .int .i64 (x236), .int .i64 (x237), .int .i64 (x238)]) (by kernel_rfl) vt25 (fun i u hu => box_cells F244 0 hu (by rfl)) ?_
        refine wS_pure 1 [(70, .pointer (some ⟨b1, 4, none⟩))] (by kernel_rfl) ?_
        refine wS_load1 (d := 71) (T := 2) (ad := ⟨b1, 4, none⟩) (v := .int .i64 (p0_4)) (by kernel_rfl) vt2 ((F242).cell 4) ?_
        refine wS_pure 3 [(74, .agg #[.int .i64 (x235), .int .i64 (x236), .int .i64 (x237), .int .i64 (x238), .int .i64 (wr (p0_4 + (wr (Int.tdiv (wr ((wr (y22 + p1_4)) - p0_4)) 2))))]), (73, .int .i64 (wr (p0_4 + (wr (Int.tdiv (wr ((wr (y22 + p1_4)) - p0_4)) 2))))), (72, .int .i64 (wr (Int.tdiv (wr ((wr (y22 + p1_4)) - p0_4)) 2)))] (by kernel_rfl) ?_
        refine wS_alloc (d := 14) (T := 52) (z := .agg #[.int .i64 (0), .int .i64 (0), .int .i64 (0), .int .i64 (0), .int .i64 (0)]) (by kernel_rfl) (by kernel_rfl) ?_
        intro b343 w344 G345 F346 hc347
        replace F346 : Cl w344 b343 52 [.int .i64 (0), .int .i64 (0), .int .i64 (0), .int .i64 (0), .int .i64 (0)] := F346
        have D349 : Dj [b1] [b343] := Dj.of (lt1 F242.lt) (low1 G345)
        have D350 : Dj [b14] [b343] := Dj.of (lt1 F243.lt) (low1 G345)
        have D351 : Dj [b234] [b343] := Dj.of (lt1 F244.lt) (low1 G345)
        replace F242 := F242.chg hc347 notNil
        replace F243 := F243.chg hc347 notNil
        replace F244 := F244.chg hc347 notNil
        replace hB := hB.inS hc347 inNil
        replace G345 := Nat.le_trans hZ G345
        replace hZ := Nat.le_trans hZ hc347.size
        refine wS_store (T := 52) (g := b343) (o := 0) (ad := ⟨b343, 0, none⟩) (v := .agg #[.int .i64 (x235), .int .i64 (x236), .int .i64 (x237), .int .i64 (x238), .int .i64 (wr (p0_4 + (wr (Int.tdiv (wr ((wr (y22 + p1_4)) - p0_4)) 2))))]) (vs := [.int .i64 (x235), .int .i64 (x236), .int .i64 (x237), .int .i64 (x238), .int .i64 (wr (p0_4 + (wr (Int.tdiv (wr ((wr (y22 + p1_4)) - p0_4)) 2))))]) (by kernel_rfl) (by rfl) sz52 (by rfl) (by rfl) F346 (by simp only [List.length_cons, List.length_nil]; omega) ?_
        intro w352 F353 hc354
        replace F242 := F242.chg hc354 (dj1 D349)
        replace F243 := F243.chg hc354 (dj1 D350)
        replace F244 := F244.chg hc354 (dj1 D351)
        replace hB := hB.inS hc354 (inLow (low1 G345))
        replace hZ := Nat.le_trans hZ hc354.size
        replace F353 : Cl w352 b343 52 [.int .i64 (x235), .int .i64 (x236), .int .i64 (x237), .int .i64 (x238), .int .i64 (wr (p0_4 + (wr (Int.tdiv (wr ((wr (y22 + p1_4)) - p0_4)) 2))))] := F353
        clear F346
        refine wS_end (by rfl) ?_
        refine eX_then ?_
        refine cW_seq ?_
        refine cW_seq ?_
        refine cW_region ?_
        refine wS_pure 3 [(77, .bool (!x240)), (76, .bool (!x240)), (75, .bool (x240))] (by kernel_rfl) ?_
        refine wS_bool (!x240) (fun hb355 => ?_) (fun hb355 => ?_)
        · have hm := condT hb355 hm
          rewrite [hb355]
          refine wS_pure 4 [(81, .bool (true)), (80, undef), (79, undef), (78, undef)] (by kernel_rfl) ?_
          refine wS_end (by rfl) ?_
          refine eX_then ?_
          refine cW_cond_t (by kernel_rfl) ?_
          refine cW_seq ?_
          refine cW_region ?_
          refine wS_pure 1 [(82, .agg #[.int .i64 (0), .int .i64 (0), .int .i64 (0), .int .i64 (0), .int .i64 (0)])] (by kernel_rfl) ?_
          refine wS_store (T := 52) (g := b14) (o := 0) (ad := ⟨b14, 0, none⟩) (v := .agg #[.int .i64 (0), .int .i64 (0), .int .i64 (0), .int .i64 (0), .int .i64 (0)]) (vs := [.int .i64 (0), .int .i64 (0), .int .i64 (0), .int .i64 (0), .int .i64 (0)]) (by kernel_rfl) (by rfl) sz52 (by rfl) (by rfl) F243 (by simp only [List.length_cons, List.length_nil]; omega) ?_
          intro w356 F357 hc358
          replace F242 := F242.chg hc358 (dj1 D20)
          replace F244 := F244.chg hc358 (dj1 (D247).symm)
          replace F353 := F353.chg hc358 (dj1 (D350).symm)
          replace hB := hB.inS hc358 (inLow (low1 G16))
          replace hZ := Nat.le_trans hZ hc358.size
          replace F357 : Cl w356 b14 52 [.int .i64 (0), .int .i64 (0), .int .i64 (0), .int .i64 (0), .int .i64 (0)] := F357
          clear F243
          refine wS_pure 3 [(7, .bool (false)), (6, .int .i64 (0)), (5, .int .i64 (0))] (by kernel_rfl) ?_
          refine wS_end (by rfl) ?_
          refine eX_then ?_
          refine cW_prune [(4, .pointer (some ⟨b14, 0, none⟩)), (5, .int .i64 (0)), (6, .int .i64 (0)), (7, .bool (false))] (by kernel_rfl) (by kernel_rfl) (fun a359 => ?_)
          refine cW_ret ?_
          refine eX_then_ret ?_
          have hq : (some (((0, 0, 0, 0, 0), 0, 0, false)) : Option ((Int × Int × Int × Int × Int) × (Int) × (Int) × (Bool))) = some _ := hm
          replace hq := someE hq
          subst hq
          refine eX_ret (vs := [.agg #[.int .i64 (0), .int .i64 (0), .int .i64 (0), .int .i64 (0), .int .i64 (0)], .int .i64 (0), .int .i64 (0), .bool (false)]) [.cell 4 52, .tmp 5, .tmp 6, .tmp 7] (by rfl) ⟨⟨⟨b14, 0, none⟩, by kernel_rfl, run_loadVarA (vs := [.int .i64 (0), .int .i64 (0), .int .i64 (0), .int .i64 (0), .int .i64 (0)]) vt52 (fun i u hu => by exact box_cells F357 0 hu (by rfl))⟩, ⟨by (show lkE _ _ _ = _); kernel_rfl, ⟨by (show lkE _ _ _ = _); kernel_rfl, ⟨by (show lkE _ _ _ = _); kernel_rfl, trivial⟩⟩⟩⟩ ?_
          exact ⟨rfl, hB⟩
        · have hm := condF hb355 hm
          rewrite [hb355]
          refine wS_loadA (d := 78) (T := 52) (ad := ⟨b343, 0, none⟩) (vs := [.int .i64 (x235), .int .i64 (x236), .int .i64 (x237), .int .i64 (x238), .int .i64 (wr (p0_4 + (wr (Int.tdiv (wr ((wr (y22 + p1_4)) - p0_4)) 2))))]) (by kernel_rfl) vt52 (fun i u hu => box_cells F353 0 hu (by rfl)) ?_
          obtain ⟨y360, hy361, hm⟩ := bindE hm
          refine wS_calls (d := 79) (f := 97) (vs := [.agg #[.int .i64 (x235), .int .i64 (x236), .int .i64 (x237), .int .i64 (x238), .int .i64 (wr (p0_4 + (wr (Int.tdiv (wr ((wr (y22 + p1_4)) - p0_4)) 2))))]]) (by kernel_rfl) ent97 (c_impl_mergeOk hy361) ?_
          rintro _ w362 ⟨rfl, hc363⟩
          replace F242 := F242.chg hc363 notNil
          replace F243 := F243.chg hc363 notNil
          replace F244 := F244.chg hc363 notNil
          replace F353 := F353.chg hc363 notNil
          replace hB := hB.inS hc363 inNil
          replace hZ := Nat.le_trans hZ hc363.size
          refine ⟨.bool (y360), rfl, ?_⟩
          refine wS_pure 2 [(81, .bool (!y360)), (80, .bool (!y360))] (by kernel_rfl) ?_
          refine wS_end (by rfl) ?_
          refine eX_then ?_
          refine cW_cond (t := !y360) (by kernel_rfl) (fun hb364 => ?_) (fun hb364 => ?_)
          · have hm := condT hb364 hm
            refine cW_seq ?_
            refine cW_region ?_
            refine wS_pure 1 [(82, .agg #[.int .i64 (0), .int .i64 (0), .int .i64 (0), .int .i64 (0), .int .i64 (0)])] (by kernel_rfl) ?_
            refine wS_store (T := 52) (g := b14) (o := 0) (ad := ⟨b14, 0, none⟩) (v := .agg #[.int .i64 (0), .int .i64 (0), .int .i64 (0), .int .i64 (0), .int .i64 (0)]) (vs := [.int .i64 (0), .int .i64 (0), .int .i64 (0), .int .i64 (0), .int .i64 (0)]) (by kernel_rfl) (by rfl) sz52 (by rfl) (by rfl) F243 (by simp only [List.length_cons, List.length_nil]; omega) ?_
            intro w365 F366 hc367
            replace F242 := F242.chg hc367 (dj1 D20)
            replace F244 := F244.chg hc367 (dj1 (D247).symm)
            replace F353 := F353.chg hc367 (dj1 (D350).symm)
            replace hB := hB.inS hc367 (inLow (low1 G16))
            replace hZ := Nat.le_trans hZ hc367.size
            replace F366 : Cl w365 b14 52 [.int .i64 (0), .int .i64 (0), .int .i64 (0), .int .i64 (0), .int .i64 (0)] := F366
            clear F243
            refine wS_pure 3 [(7, .bool (false)), (6, .int .i64 (0)), (5, .int .i64 (0))] (by kernel_rfl) ?_
            refine wS_end (by rfl) ?_
            refine eX_then ?_
            refine cW_prune [(4, .pointer (some ⟨b14, 0, none⟩)), (5, .int .i64 (0)), (6, .int .i64 (0)), (7, .bool (false))] (by kernel_rfl) (by kernel_rfl) (fun a368 => ?_)
            refine cW_ret ?_
            refine eX_then_ret ?_
            have hq : (some (((0, 0, 0, 0, 0), 0, 0, false)) : Option ((Int × Int × Int × Int × Int) × (Int) × (Int) × (Bool))) = some _ := hm
            replace hq := someE hq
            subst hq
            refine eX_ret (vs := [.agg #[.int .i64 (0), .int .i64 (0), .int .i64 (0), .int .i64 (0), .int .i64 (0)], .int .i64 (0), .int .i64 (0), .bool (false)]) [.cell 4 52, .tmp 5, .tmp 6, .tmp 7] (by rfl) ⟨⟨⟨b14, 0, none⟩, by kernel_rfl, run_loadVarA (vs := [.int .i64 (0), .int .i64 (0), .int .i64 (0), .int .i64 (0), .int .i64 (0)]) vt52 (fun i u hu => by exact box_cells F366 0 hu (by rfl))⟩, ⟨by (show lkE _ _ _ = _); kernel_rfl, ⟨by (show lkE _ _ _ = _); kernel_rfl, ⟨by (show lkE _ _ _ = _); kernel_rfl, trivial⟩⟩⟩⟩ ?_
            exact ⟨rfl, hB⟩
          · have hm := condF hb364 hm
            refine cW_skip ?_
            refine eX_then ?_
            refine cW_seq ?_
            refine cW_region ?_
            refine wS_loadA (d := 83) (T := 52) (ad := ⟨b343, 0, none⟩) (vs := [.int .i64 (x235), .int .i64 (x236), .int .i64 (x237), .int .i64 (x238), .int .i64 (wr (p0_4 + (wr (Int.tdiv (wr ((wr (y22 + p1_4)) - p0_4)) 2))))]) (by kernel_rfl) vt52 (fun i u hu => box_cells F353 0 hu (by rfl)) ?_
            refine wS_pure 2 [(85, .int .i64 (wr (y22 - (wr (Int.tdiv (wr ((wr (y22 + p1_4)) - p0_4)) 2))))), (84, .int .i64 (wr (Int.tdiv (wr ((wr (y22 + p1_4)) - p0_4)) 2)))] (by kernel_rfl) ?_
            refine wS_store (T := 52) (g := b14) (o := 0) (ad := ⟨b14, 0, none⟩) (v := .agg #[.int .i64 (x235), .int .i64 (x236), .int .i64 (x237), .int .i64 (x238), .int .i64 (wr (p0_4 + (wr (Int.tdiv (wr ((wr (y22 + p1_4)) - p0_4)) 2))))]) (vs := [.int .i64 (x235), .int .i64 (x236), .int .i64 (x237), .int .i64 (x238), .int .i64 (wr (p0_4 + (wr (Int.tdiv (wr ((wr (y22 + p1_4)) - p0_4)) 2))))]) (by kernel_rfl) (by rfl) sz52 (by rfl) (by rfl) F243 (by simp only [List.length_cons, List.length_nil]; omega) ?_
            intro w369 F370 hc371
            replace F242 := F242.chg hc371 (dj1 D20)
            replace F244 := F244.chg hc371 (dj1 (D247).symm)
            replace F353 := F353.chg hc371 (dj1 (D350).symm)
            replace hB := hB.inS hc371 (inLow (low1 G16))
            replace hZ := Nat.le_trans hZ hc371.size
            replace F370 : Cl w369 b14 52 [.int .i64 (x235), .int .i64 (x236), .int .i64 (x237), .int .i64 (x238), .int .i64 (wr (p0_4 + (wr (Int.tdiv (wr ((wr (y22 + p1_4)) - p0_4)) 2))))] := F370
            clear F243
            refine wS_pure 3 [(7, .bool (true)), (6, .int .i64 (wr (y22 - (wr (Int.tdiv (wr ((wr (y22 + p1_4)) - p0_4)) 2))))), (5, .int .i64 (wr (Int.tdiv (wr ((wr (y22 + p1_4)) - p0_4)) 2)))] (by kernel_rfl) ?_
            refine wS_end (by rfl) ?_
            refine eX_then ?_
            refine cW_prune [(4, .pointer (some ⟨b14, 0, none⟩)), (5, .int .i64 (wr (Int.tdiv (wr ((wr (y22 + p1_4)) - p0_4)) 2))), (6, .int .i64 (wr (y22 - (wr (Int.tdiv (wr ((wr (y22 + p1_4)) - p0_4)) 2))))), (7, .bool (true))] (by kernel_rfl) (by kernel_rfl) (fun a372 => ?_)
            refine cW_ret ?_
            have hq : (some (((x235, x236, x237, x238, wr (p0_4 + (wr (Int.tdiv (wr ((wr (y22 + p1_4)) - p0_4)) 2)))), wr (Int.tdiv (wr ((wr (y22 + p1_4)) - p0_4)) 2), wr (y22 - (wr (Int.tdiv (wr ((wr (y22 + p1_4)) - p0_4)) 2))), true)) : Option ((Int × Int × Int × Int × Int) × (Int) × (Int) × (Bool))) = some _ := hm
            replace hq := someE hq
            subst hq
            refine eX_ret (vs := [.agg #[.int .i64 (x235), .int .i64 (x236), .int .i64 (x237), .int .i64 (x238), .int .i64 (wr (p0_4 + (wr (Int.tdiv (wr ((wr (y22 + p1_4)) - p0_4)) 2))))], .int .i64 (wr (Int.tdiv (wr ((wr (y22 + p1_4)) - p0_4)) 2)), .int .i64 (wr (y22 - (wr (Int.tdiv (wr ((wr (y22 + p1_4)) - p0_4)) 2)))), .bool (true)]) [.cell 4 52, .tmp 5, .tmp 6, .tmp 7] (by rfl) ⟨⟨⟨b14, 0, none⟩, by kernel_rfl, run_loadVarA (vs := [.int .i64 (x235), .int .i64 (x236), .int .i64 (x237), .int .i64 (x238), .int .i64 (wr (p0_4 + (wr (Int.tdiv (wr ((wr (y22 + p1_4)) - p0_4)) 2))))]) vt52 (fun i u hu => by exact box_cells F370 0 hu (by rfl))⟩, ⟨by (show lkE _ _ _ = _); kernel_rfl, ⟨by (show lkE _ _ _ = _); kernel_rfl, ⟨by (show lkE _ _ _ = _); kernel_rfl, trivial⟩⟩⟩⟩ ?_
            exact ⟨rfl, hB⟩
  · have hm := condF hb41 hm
    refine cW_skip ?_
    refine eX_then ?_
    refine cW_seq ?_
    obtain ⟨s574, hs575, hm⟩ := bindE hm
    refine cW_cut (fun a' w' => ∃ b560 : Nat, ∃ x561 : Int, ∃ x562 : Int, ∃ x563 : Int, ∃ x564 : Int, ∃ x566 : Bool, (x561, x562, x563, x564, x566) = s574 ∧ Fr 86 [(2, .pointer (some ⟨b1, 0, none⟩)), (4, .pointer (some ⟨b14, 0, none⟩)), (9, .int .i64 (if 0 > (wr (p1_4 - p0_4)) then 0 else (wr (p1_4 - p0_4)))), (10, .int .i64 (if 0 > (wr (p0_4 - p1_4)) then 0 else (wr (p0_4 - p1_4)))), (12, .pointer (some ⟨b560, 0, none⟩)), (13, .bool (x566))] a' ∧ Cl w' b1 52 [.int .i64 (p0_0), .int .i64 (p0_1), .int .i64 (p0_2), .int .i64 (p0_3), .int .i64 (p0_4)] ∧ Cl w' b14 52 [.int .i64 (0), .int .i64 (0), .int .i64 (0), .int .i64 (0), .int .i64 (0)] ∧ Cl w' b560 25 [.int .i64 (x561), .int .i64 (x562), .int .i64 (x563), .int .i64 (x564)] ∧ w0.heap.size ≤ b560 ∧ Dj [b1] [b560] ∧ Dj [b14] [b560] ∧ Chg [] w0 w' ∧ w0.heap.size ≤ w'.heap.size) ?_ ?_
    · have hm := hs575
      refine cW_drawnTail [] 14 (by kernel_rfl) (by kernel_rfl) (fun w576 hc577 => ?_)
      replace F4 := F4.chg hc577 notNil
      replace F10 := F10.chg hc577 notNil
      replace F17 := F17.chg hc577 notNil
      replace hB := hB.inS hc577 inNil
      replace hZ := Nat.le_trans hZ hc577.size
      have hS := Chg.refl [] w576
      have Z578 := F4
      have Z579 := F10
      have Z580 := F17
      refine wH_take [0] [0] [(58, .pointer (some ⟨b1, 0, none⟩))] (by kernel_rfl) (qT (qT (qT qZ))) (by kernel_rfl) ?_
      refine wH_loadA (i := 1) (d := 59) (T := 25) (ad := ⟨b1, 0, none⟩) (vs := [.int .i64 (p0_0), .int .i64 (p0_1), .int .i64 (p0_2), .int .i64 (p0_3)]) (by kernel_rfl) (qT (qT (qT qZ))) (by kernel_rfl) (by kernel_rfl) vt25 (fun W hW i u hu => box_cells (Z578.chg hW notNil) 0 hu (by rfl)) ?_
      refine wH_take [2, 4] [4, 2, 1, 0] [(62, .pointer (some ⟨b7, 0, none⟩)), (60, .int .i64 (if 0 > (wr (p1_4 - p0_4)) then 0 else (wr (p1_4 - p0_4))))] (by kernel_rfl) (qT (qT (qT qZ))) (by kernel_rfl) ?_
      refine wH_loadA (i := 5) (d := 63) (T := 25) (ad := ⟨b7, 0, none⟩) (vs := [.int .i64 (p1_0), .int .i64 (p1_1), .int .i64 (p1_2), .int .i64 (p1_3)]) (by kernel_rfl) (qT (qT (qT qZ))) (by kernel_rfl) (by kernel_rfl) vt25 (fun W hW i u hu => box_cells (Z579.chg hW notNil) 0 hu (by rfl)) ?_
      refine wH_take [6] [6, 5, 4, 2, 1, 0] [(64, .int .i64 (if 0 > (wr (p0_4 - p1_4)) then 0 else (wr (p0_4 - p1_4))))] (by kernel_rfl) (qT (qT (qT qZ))) (by kernel_rfl) ?_
      refine wH_all [3, 12] (by rfl) (by kernel_rfl) (by simp) ⟨⟨by kernel_rfl, ?_⟩, ⟨by kernel_rfl, ?_⟩, trivial⟩
      · skip
        obtain ⟨y581, hy582, hm⟩ := bindE hm
        refine wS_calls (d := 61) (f := 90) (vs := [.agg #[.int .i64 (p0_0), .int .i64 (p0_1), .int .i64 (p0_2), .int .i64 (p0_3)], .int .i64 (if 0 > (wr (p1_4 - p0_4)) then 0 else (wr (p1_4 - p0_4)))]) (by kernel_rfl) ent90 (c_impl_Region_grown hy582) ?_
        rintro _ w583 ⟨rfl, hc584⟩
        replace F4 := F4.chg hc584 notNil
        replace F10 := F10.chg hc584 notNil
        replace F17 := F17.chg hc584 notNil
        replace hB := hB.inS hc584 inNil
        have hSz := hS
        replace hS := hS.inS hc584 inNil
        replace hZ := Nat.le_trans hZ hc584.size
        refine ⟨.agg #[.int .i64 (y581.1), .int .i64 (y581.2.1), .int .i64 (y581.2.2.1), .int .i64 (y581.2.2.2)], rfl, ?_⟩
        refine wS_end (by kernel_rfl) ?_
        refine eX_KH hS ?_
        refine wH_all [7, 12] (by rfl) (by kernel_rfl) (by simp) ⟨⟨by kernel_rfl, ?_⟩, ⟨by kernel_rfl, ?_⟩, trivial⟩
        · skip
          obtain ⟨y585, hy586, hm⟩ := bindE hm
          refine wS_calls (d := 65) (f := 90) (vs := [.agg #[.int .i64 (p1_0), .int .i64 (p1_1), .int .i64 (p1_2), .int .i64 (p1_3)], .int .i64 (if 0 > (wr (p0_4 - p1_4)) then 0 else (wr (p0_4 - p1_4)))]) (by kernel_rfl) ent90 (c_impl_Region_grown hy586) ?_
          rintro _ w587 ⟨rfl, hc588⟩
          replace F4 := F4.chg hc588 notNil
          replace F10 := F10.chg hc588 notNil
          replace F17 := F17.chg hc588 notNil
          replace hB := hB.inS hc588 inNil
          have hSz := hS
          replace hS := hS.inS hc588 inNil
          replace hZ := Nat.le_trans hZ hc588.size
          refine ⟨.agg #[.int .i64 (y585.1), .int .i64 (y585.2.1), .int .i64 (y585.2.2.1), .int .i64 (y585.2.2.2)], rfl, ?_⟩
          refine wS_end (by kernel_rfl) ?_
          refine eX_KH hS ?_
          refine wH_all [8, 12] (by rfl) (by kernel_rfl) (by simp) ⟨⟨by kernel_rfl, ?_⟩, ⟨by kernel_rfl, ?_⟩, trivial⟩
          · skip
            obtain ⟨y589, hy590, hm⟩ := bindE hm
            refine wS_calls (d := 66) (f := 92) (vs := [.agg #[.int .i64 (y581.1), .int .i64 (y581.2.1), .int .i64 (y581.2.2.1), .int .i64 (y581.2.2.2)], .agg #[.int .i64 (y585.1), .int .i64 (y585.2.1), .int .i64 (y585.2.2.1), .int .i64 (y585.2.2.2)]]) (by kernel_rfl) ent92 (c_impl_Region_meet hy590) ?_
            rintro _ w591 ⟨rfl, hc592⟩
            replace F4 := F4.chg hc592 notNil
            replace F10 := F10.chg hc592 notNil
            replace F17 := F17.chg hc592 notNil
            replace hB := hB.inS hc592 inNil
            have hSz := hS
            replace hS := hS.inS hc592 inNil
            replace hZ := Nat.le_trans hZ hc592.size
            refine ⟨.tuple #[.agg #[.int .i64 (y589.1.1), .int .i64 (y589.1.2.1), .int .i64 (y589.1.2.2.1), .int .i64 (y589.1.2.2.2)], .bool (y589.2)], rfl, ?_⟩
            refine wS_end (by kernel_rfl) ?_
            refine eX_KH hS ?_
            refine wH_take [9, 10, 11] [11, 10, 9, 8, 7, 3, 6, 5, 4, 2, 1, 0] [(68, .bool (y589.2)), (67, .agg #[.int .i64 (y589.1.1), .int .i64 (y589.1.2.1), .int .i64 (y589.1.2.2.1), .int .i64 (y589.1.2.2.2)]), (57, .tuple #[.agg #[.int .i64 (y589.1.1), .int .i64 (y589.1.2.1), .int .i64 (y589.1.2.2.1), .int .i64 (y589.1.2.2.2)], .bool (y589.2)])] (by kernel_rfl) (qT (qT (qT qZ))) (by kernel_rfl) ?_
            refine wH_all [12] (by rfl) (by kernel_rfl) (by simp) ⟨⟨by kernel_rfl, ?_⟩, trivial⟩
            refine wS_alloc (d := 12) (T := 25) (z := .agg #[.int .i64 (0), .int .i64 (0), .int .i64 (0), .int .i64 (0)]) (by kernel_rfl) (by kernel_rfl) ?_
            intro b593 w594 G595 F596 hc597
            replace F596 : Cl w594 b593 25 [.int .i64 (0), .int .i64 (0), .int .i64 (0), .int .i64 (0)] := F596
            have D599 : Dj [b1] [b593] := Dj.of (lt1 F4.lt) (low1 G595)
            have D600 : Dj [b7] [b593] := Dj.of (lt1 F10.lt) (low1 G595)
            have D601 : Dj [b14] [b593] := Dj.of (lt1 F17.lt) (low1 G595)
            replace F4 := F4.chg hc597 notNil
            replace F10 := F10.chg hc597 notNil
            replace F17 := F17.chg hc597 notNil
            replace hB := hB.inS hc597 inNil
            have hSz := hS
            replace hS := hS.inS hc597 inNil
            have Gz602 := low1 (Nat.le_trans hSz.size G595)
            replace G595 := Nat.le_trans hZ G595
            replace hZ := Nat.le_trans hZ hc597.size
            refine wS_end (by kernel_rfl) ?_
            refine eX_KH hS ?_
            refine wH_all [13] (by rfl) (by kernel_rfl) (by simp) ⟨⟨by kernel_rfl, ?_⟩, trivial⟩
            refine wS_store (T := 25) (g := b593) (o := 0) (ad := ⟨b593, 0, none⟩) (v := .agg #[.int .i64 (y589.1.1), .int .i64 (y589.1.2.1), .int .i64 (y589.1.2.2.1), .int .i64 (y589.1.2.2.2)]) (vs := [.int .i64 (y589.1.1), .int .i64 (y589.1.2.1), .int .i64 (y589.1.2.2.1), .int .i64 (y589.1.2.2.2)]) (by kernel_rfl) (by rfl) sz25 (by rfl) (by rfl) F596 (by simp only [List.length_cons, List.length_nil]; omega) ?_
            intro w603 F604 hc605
            replace F4 := F4.chg hc605 (dj1 D599)
            replace F10 := F10.chg hc605 (dj1 D600)
            replace F17 := F17.chg hc605 (dj1 D601)
            replace hB := hB.inS hc605 (inLow (low1 G595))
            have hSz := hS
            replace hS := hS.inS hc605 (inLow Gz602)
            replace hZ := Nat.le_trans hZ hc605.size
            replace F604 : Cl w603 b593 25 [.int .i64 (y589.1.1), .int .i64 (y589.1.2.1), .int .i64 (y589.1.2.2.1), .int .i64 (y589.1.2.2.2)] := F604
            clear F596
            refine wS_end (by kernel_rfl) ?_
            refine eX_KH hS ?_
            refine wH_done (by kernel_rfl) ?_
            refine eX_tail ?_
            refine wS_pure 1 [(13, .bool (y589.2))] (by kernel_rfl) ?_
            refine wS_end (by rfl) ?_
            have hq : (some ((y589.1.1, y589.1.2.1, y589.1.2.2.1, y589.1.2.2.2, y589.2)) : Option (Int × Int × Int × Int × Bool)) = some _ := hm
            replace hq := someE hq
            subst hq
            exact eX_J (fun hst => ⟨b593, y589.1.1, y589.1.2.1, y589.1.2.2.1, y589.1.2.2.2, y589.2, rfl, Fr.of hst (by kernel_rfl), F4, F17, F604, G595, D599, D601, hB, hZ⟩)
          · skip
            refine wS_alloc (d := 12) (T := 25) (z := .agg #[.int .i64 (0), .int .i64 (0), .int .i64 (0), .int .i64 (0)]) (by kernel_rfl) (by kernel_rfl) ?_
            intro b606 w607 G608 F609 hc610
            replace F609 : Cl w607 b606 25 [.int .i64 (0), .int .i64 (0), .int .i64 (0), .int .i64 (0)] := F609
            have D612 : Dj [b1] [b606] := Dj.of (lt1 F4.lt) (low1 G608)
            have D613 : Dj [b7] [b606] := Dj.of (lt1 F10.lt) (low1 G608)
            have D614 : Dj [b14] [b606] := Dj.of (lt1 F17.lt) (low1 G608)
            replace F4 := F4.chg hc610 notNil
            replace F10 := F10.chg hc610 notNil
            replace F17 := F17.chg hc610 notNil
            replace hB := hB.inS hc610 inNil
            have hSz := hS
            replace hS := hS.inS hc610 inNil
            have Gz615 := low1 (Nat.le_trans hSz.size G608)
            replace G608 := Nat.le_trans hZ G608
            replace hZ := Nat.le_trans hZ hc610.size
            refine wS_end (by kernel_rfl) ?_
            refine eX_KH hS ?_
            refine wH_all [8] (by rfl) (by kernel_rfl) (by simp) ⟨⟨by kernel_rfl, ?_⟩, trivial⟩
            obtain ⟨y616, hy617, hm⟩ := bindE hm
            refine wS_calls (d := 66) (f := 92) (vs := [.agg #[.int .i64 (y581.1), .int .i64 (y581.2.1), .int .i64 (y581.2.2.1), .int .i64 (y581.2.2.2)], .agg #[.int .i64 (y585.1), .int .i64 (y585.2.1), .int .i64 (y585.2.2.1), .int .i64 (y585.2.2.2)]]) (by kernel_rfl) ent92 (c_impl_Region_meet hy617) ?_
            rintro _ w618 ⟨rfl, hc619⟩
            replace F4 := F4.chg hc619 notNil
            replace F10 := F10.chg hc619 notNil
            replace F17 := F17.chg hc619 notNil
            replace F609 := F609.chg hc619 notNil
            replace hB := hB.inS hc619 inNil
            have hSz := hS
            replace hS := hS.inS hc619 inNil
            replace hZ := Nat.le_trans hZ hc619.size
            refine ⟨.tuple #[.agg #[.int .i64 (y616.1.1), .int .i64 (y616.1.2.1), .int .i64 (y616.1.2.2.1), .int .i64 (y616.1.2.2.2)], .bool (y616.2)], rfl, ?_⟩
            refine wS_end (by kernel_rfl) ?_
            refine eX_KH hS ?_
            refine wH_take [9, 10, 11] [11, 10, 9, 8, 12, 7, 3, 6, 5, 4, 2, 1, 0] [(68, .bool (y616.2)), (67, .agg #[.int .i64 (y616.1.1), .int .i64 (y616.1.2.1), .int .i64 (y616.1.2.2.1), .int .i64 (y616.1.2.2.2)]), (57, .tuple #[.agg #[.int .i64 (y616.1.1), .int .i64 (y616.1.2.1), .int .i64 (y616.1.2.2.1), .int .i64 (y616.1.2.2.2)], .bool (y616.2)])] (by kernel_rfl) (qT (qT (qT qZ))) (by kernel_rfl) ?_
            refine wH_all [13] (by rfl) (by kernel_rfl) (by simp) ⟨⟨by kernel_rfl, ?_⟩, trivial⟩
            refine wS_store (T := 25) (g := b606) (o := 0) (ad := ⟨b606, 0, none⟩) (v := .agg #[.int .i64 (y616.1.1), .int .i64 (y616.1.2.1), .int .i64 (y616.1.2.2.1), .int .i64 (y616.1.2.2.2)]) (vs := [.int .i64 (y616.1.1), .int .i64 (y616.1.2.1), .int .i64 (y616.1.2.2.1), .int .i64 (y616.1.2.2.2)]) (by kernel_rfl) (by rfl) sz25 (by rfl) (by rfl) F609 (by simp only [List.length_cons, List.length_nil]; omega) ?_
            intro w620 F621 hc622
            replace F4 := F4.chg hc622 (dj1 D612)
            replace F10 := F10.chg hc622 (dj1 D613)
            replace F17 := F17.chg hc622 (dj1 D614)
            replace hB := hB.inS hc622 (inLow (low1 G608))
            have hSz := hS
            replace hS := hS.inS hc622 (inLow Gz615)
            replace hZ := Nat.le_trans hZ hc622.size
            replace F621 : Cl w620 b606 25 [.int .i64 (y616.1.1), .int .i64 (y616.1.2.1), .int .i64 (y616.1.2.2.1), .int .i64 (y616.1.2.2.2)] := F621
            clear F609
            refine wS_end (by kernel_rfl) ?_
            refine eX_KH hS ?_
            refine wH_done (by kernel_rfl) ?_
            refine eX_tail ?_
            refine wS_pure 1 [(13, .bool (y616.2))] (by kernel_rfl) ?_
            refine wS_end (by rfl) ?_
            have hq : (some ((y616.1.1, y616.1.2.1, y616.1.2.2.1, y616.1.2.2.2, y616.2)) : Option (Int × Int × Int × Int × Bool)) = some _ := hm
            replace hq := someE hq
            subst hq
            exact eX_J (fun hst => ⟨b606, y616.1.1, y616.1.2.1, y616.1.2.2.1, y616.1.2.2.2, y616.2, rfl, Fr.of hst (by kernel_rfl), F4, F17, F621, G608, D612, D614, hB, hZ⟩)
        · skip
          refine wS_alloc (d := 12) (T := 25) (z := .agg #[.int .i64 (0), .int .i64 (0), .int .i64 (0), .int .i64 (0)]) (by kernel_rfl) (by kernel_rfl) ?_
          intro b623 w624 G625 F626 hc627
          replace F626 : Cl w624 b623 25 [.int .i64 (0), .int .i64 (0), .int .i64 (0), .int .i64 (0)] := F626
          have D629 : Dj [b1] [b623] := Dj.of (lt1 F4.lt) (low1 G625)
          have D630 : Dj [b7] [b623] := Dj.of (lt1 F10.lt) (low1 G625)
          have D631 : Dj [b14] [b623] := Dj.of (lt1 F17.lt) (low1 G625)
          replace F4 := F4.chg hc627 notNil
          replace F10 := F10.chg hc627 notNil
          replace F17 := F17.chg hc627 notNil
          replace hB := hB.inS hc627 inNil
          have hSz := hS
          replace hS := hS.inS hc627 inNil
          have Gz632 := low1 (Nat.le_trans hSz.size G625)
          replace G625 := Nat.le_trans hZ G625
          replace hZ := Nat.le_trans hZ hc627.size
          refine wS_end (by kernel_rfl) ?_
          refine eX_KH hS ?_
          refine wH_all [7] (by rfl) (by kernel_rfl) (by simp) ⟨⟨by kernel_rfl, ?_⟩, trivial⟩
          obtain ⟨y633, hy634, hm⟩ := bindE hm
          refine wS_calls (d := 65) (f := 90) (vs := [.agg #[.int .i64 (p1_0), .int .i64 (p1_1), .int .i64 (p1_2), .int .i64 (p1_3)], .int .i64 (if 0 > (wr (p0_4 - p1_4)) then 0 else (wr (p0_4 - p1_4)))]) (by kernel_rfl) ent90 (c_impl_Region_grown hy634) ?_
          rintro _ w635 ⟨rfl, hc636⟩
          replace F4 := F4.chg hc636 notNil
          replace F10 := F10.chg hc636 notNil
          replace F17 := F17.chg hc636 notNil
          replace F626 := F626.chg hc636 notNil
          replace hB := hB.inS hc636 inNil
          have hSz := hS
          replace hS := hS.inS hc636 inNil
          replace hZ := Nat.le_trans hZ hc636.size
          refine ⟨.agg #[.int .i64 (y633.1), .int .i64 (y633.2.1), .int .i64 (y633.2.2.1), .int .i64 (y633.2.2.2)], rfl, ?_⟩
          refine wS_end (by kernel_rfl) ?_
          refine eX_KH hS ?_
          refine wH_all [8] (by rfl) (by kernel_rfl) (by simp) ⟨⟨by kernel_rfl, ?_⟩, trivial⟩
          obtain ⟨y637, hy638, hm⟩ := bindE hm
          refine wS_calls (d := 66) (f := 92) (vs := [.agg #[.int .i64 (y581.1), .int .i64 (y581.2.1), .int .i64 (y581.2.2.1), .int .i64 (y581.2.2.2)], .agg #[.int .i64 (y633.1), .int .i64 (y633.2.1), .int .i64 (y633.2.2.1), .int .i64 (y633.2.2.2)]]) (by kernel_rfl) ent92 (c_impl_Region_meet hy638) ?_
          rintro _ w639 ⟨rfl, hc640⟩
          replace F4 := F4.chg hc640 notNil
          replace F10 := F10.chg hc640 notNil
          replace F17 := F17.chg hc640 notNil
          replace F626 := F626.chg hc640 notNil
          replace hB := hB.inS hc640 inNil
          have hSz := hS
          replace hS := hS.inS hc640 inNil
          replace hZ := Nat.le_trans hZ hc640.size
          refine ⟨.tuple #[.agg #[.int .i64 (y637.1.1), .int .i64 (y637.1.2.1), .int .i64 (y637.1.2.2.1), .int .i64 (y637.1.2.2.2)], .bool (y637.2)], rfl, ?_⟩
          refine wS_end (by kernel_rfl) ?_
          refine eX_KH hS ?_
          refine wH_take [9, 10, 11] [11, 10, 9, 8, 7, 12, 3, 6, 5, 4, 2, 1, 0] [(68, .bool (y637.2)), (67, .agg #[.int .i64 (y637.1.1), .int .i64 (y637.1.2.1), .int .i64 (y637.1.2.2.1), .int .i64 (y637.1.2.2.2)]), (57, .tuple #[.agg #[.int .i64 (y637.1.1), .int .i64 (y637.1.2.1), .int .i64 (y637.1.2.2.1), .int .i64 (y637.1.2.2.2)], .bool (y637.2)])] (by kernel_rfl) (qT (qT (qT qZ))) (by kernel_rfl) ?_
          refine wH_all [13] (by rfl) (by kernel_rfl) (by simp) ⟨⟨by kernel_rfl, ?_⟩, trivial⟩
          refine wS_store (T := 25) (g := b623) (o := 0) (ad := ⟨b623, 0, none⟩) (v := .agg #[.int .i64 (y637.1.1), .int .i64 (y637.1.2.1), .int .i64 (y637.1.2.2.1), .int .i64 (y637.1.2.2.2)]) (vs := [.int .i64 (y637.1.1), .int .i64 (y637.1.2.1), .int .i64 (y637.1.2.2.1), .int .i64 (y637.1.2.2.2)]) (by kernel_rfl) (by rfl) sz25 (by rfl) (by rfl) F626 (by simp only [List.length_cons, List.length_nil]; omega) ?_
          intro w641 F642 hc643
          replace F4 := F4.chg hc643 (dj1 D629)
          replace F10 := F10.chg hc643 (dj1 D630)
          replace F17 := F17.chg hc643 (dj1 D631)
          replace hB := hB.inS hc643 (inLow (low1 G625))
          have hSz := hS
          replace hS := hS.inS hc643 (inLow Gz632)
          replace hZ := Nat.le_trans hZ hc643.size
          replace F642 : Cl w641 b623 25 [.int .i64 (y637.1.1), .int .i64 (y637.1.2.1), .int .i64 (y637.1.2.2.1), .int .i64 (y637.1.2.2.2)] := F642
          clear F626
          refine wS_end (by kernel_rfl) ?_
          refine eX_KH hS ?_
          refine wH_done (by kernel_rfl) ?_
          refine eX_tail ?_
          refine wS_pure 1 [(13, .bool (y637.2))] (by kernel_rfl) ?_
          refine wS_end (by rfl) ?_
          have hq : (some ((y637.1.1, y637.1.2.1, y637.1.2.2.1, y637.1.2.2.2, y637.2)) : Option (Int × Int × Int × Int × Bool)) = some _ := hm
          replace hq := someE hq
          subst hq
          exact eX_J (fun hst => ⟨b623, y637.1.1, y637.1.2.1, y637.1.2.2.1, y637.1.2.2.2, y637.2, rfl, Fr.of hst (by kernel_rfl), F4, F17, F642, G625, D629, D631, hB, hZ⟩)
      · skip
        refine wS_alloc (d := 12) (T := 25) (z := .agg #[.int .i64 (0), .int .i64 (0), .int .i64 (0), .int .i64 (0)]) (by kernel_rfl) (by kernel_rfl) ?_
        intro b644 w645 G646 F647 hc648
        replace F647 : Cl w645 b644 25 [.int .i64 (0), .int .i64 (0), .int .i64 (0), .int .i64 (0)] := F647
        have D650 : Dj [b1] [b644] := Dj.of (lt1 F4.lt) (low1 G646)
        have D651 : Dj [b7] [b644] := Dj.of (lt1 F10.lt) (low1 G646)
        have D652 : Dj [b14] [b644] := Dj.of (lt1 F17.lt) (low1 G646)
        replace F4 := F4.chg hc648 notNil
        replace F10 := F10.chg hc648 notNil
        replace F17 := F17.chg hc648 notNil
        replace hB := hB.inS hc648 inNil
        have hSz := hS
        replace hS := hS.inS hc648 inNil
        have Gz653 := low1 (Nat.le_trans hSz.size G646)
        replace G646 := Nat.le_trans hZ G646
        replace hZ := Nat.le_trans hZ hc648.size
        refine wS_end (by kernel_rfl) ?_
        refine eX_KH hS ?_
        refine wH_all [3] (by rfl) (by kernel_rfl) (by simp) ⟨⟨by kernel_rfl, ?_⟩, trivial⟩
        obtain ⟨y654, hy655, hm⟩ := bindE hm
        refine wS_calls (d := 61) (f := 90) (vs := [.agg #[.int .i64 (p0_0), .int .i64 (p0_1), .int .i64 (p0_2), .int .i64 (p0_3)], .int .i64 (if 0 > (wr (p1_4 - p0_4)) then 0 else (wr (p1_4 - p0_4)))]) (by kernel_rfl) ent90 (c_impl_Region_grown hy655) ?_
        rintro _ w656 ⟨rfl, hc657⟩
        replace F4 := F4.chg hc657 notNil
        replace F10 := F10.chg hc657 notNil
        replace F17 := F17.chg hc657 notNil
        replace F647 := F647.chg hc657 notNil
        replace hB := hB.inS hc657 inNil
        have hSz := hS
        replace hS := hS.inS hc657 inNil
        replace hZ := Nat.le_trans hZ hc657.size
        refine ⟨.agg #[.int .i64 (y654.1), .int .i64 (y654.2.1), .int .i64 (y654.2.2.1), .int .i64 (y654.2.2.2)], rfl, ?_⟩
        refine wS_end (by kernel_rfl) ?_
        refine eX_KH hS ?_
        refine wH_all [7] (by rfl) (by kernel_rfl) (by simp) ⟨⟨by kernel_rfl, ?_⟩, trivial⟩
        obtain ⟨y658, hy659, hm⟩ := bindE hm
        refine wS_calls (d := 65) (f := 90) (vs := [.agg #[.int .i64 (p1_0), .int .i64 (p1_1), .int .i64 (p1_2), .int .i64 (p1_3)], .int .i64 (if 0 > (wr (p0_4 - p1_4)) then 0 else (wr (p0_4 - p1_4)))]) (by kernel_rfl) ent90 (c_impl_Region_grown hy659) ?_
        rintro _ w660 ⟨rfl, hc661⟩
        replace F4 := F4.chg hc661 notNil
        replace F10 := F10.chg hc661 notNil
        replace F17 := F17.chg hc661 notNil
        replace F647 := F647.chg hc661 notNil
        replace hB := hB.inS hc661 inNil
        have hSz := hS
        replace hS := hS.inS hc661 inNil
        replace hZ := Nat.le_trans hZ hc661.size
        refine ⟨.agg #[.int .i64 (y658.1), .int .i64 (y658.2.1), .int .i64 (y658.2.2.1), .int .i64 (y658.2.2.2)], rfl, ?_⟩
        refine wS_end (by kernel_rfl) ?_
        refine eX_KH hS ?_
        refine wH_all [8] (by rfl) (by kernel_rfl) (by simp) ⟨⟨by kernel_rfl, ?_⟩, trivial⟩
        obtain ⟨y662, hy663, hm⟩ := bindE hm
        refine wS_calls (d := 66) (f := 92) (vs := [.agg #[.int .i64 (y654.1), .int .i64 (y654.2.1), .int .i64 (y654.2.2.1), .int .i64 (y654.2.2.2)], .agg #[.int .i64 (y658.1), .int .i64 (y658.2.1), .int .i64 (y658.2.2.1), .int .i64 (y658.2.2.2)]]) (by kernel_rfl) ent92 (c_impl_Region_meet hy663) ?_
        rintro _ w664 ⟨rfl, hc665⟩
        replace F4 := F4.chg hc665 notNil
        replace F10 := F10.chg hc665 notNil
        replace F17 := F17.chg hc665 notNil
        replace F647 := F647.chg hc665 notNil
        replace hB := hB.inS hc665 inNil
        have hSz := hS
        replace hS := hS.inS hc665 inNil
        replace hZ := Nat.le_trans hZ hc665.size
        refine ⟨.tuple #[.agg #[.int .i64 (y662.1.1), .int .i64 (y662.1.2.1), .int .i64 (y662.1.2.2.1), .int .i64 (y662.1.2.2.2)], .bool (y662.2)], rfl, ?_⟩
        refine wS_end (by kernel_rfl) ?_
        refine eX_KH hS ?_
        refine wH_take [9, 10, 11] [11, 10, 9, 8, 7, 3, 12, 6, 5, 4, 2, 1, 0] [(68, .bool (y662.2)), (67, .agg #[.int .i64 (y662.1.1), .int .i64 (y662.1.2.1), .int .i64 (y662.1.2.2.1), .int .i64 (y662.1.2.2.2)]), (57, .tuple #[.agg #[.int .i64 (y662.1.1), .int .i64 (y662.1.2.1), .int .i64 (y662.1.2.2.1), .int .i64 (y662.1.2.2.2)], .bool (y662.2)])] (by kernel_rfl) (qT (qT (qT qZ))) (by kernel_rfl) ?_
        refine wH_all [13] (by rfl) (by kernel_rfl) (by simp) ⟨⟨by kernel_rfl, ?_⟩, trivial⟩
        refine wS_store (T := 25) (g := b644) (o := 0) (ad := ⟨b644, 0, none⟩) (v := .agg #[.int .i64 (y662.1.1), .int .i64 (y662.1.2.1), .int .i64 (y662.1.2.2.1), .int .i64 (y662.1.2.2.2)]) (vs := [.int .i64 (y662.1.1), .int .i64 (y662.1.2.1), .int .i64 (y662.1.2.2.1), .int .i64 (y662.1.2.2.2)]) (by kernel_rfl) (by rfl) sz25 (by rfl) (by rfl) F647 (by simp only [List.length_cons, List.length_nil]; omega) ?_
        intro w666 F667 hc668
        replace F4 := F4.chg hc668 (dj1 D650)
        replace F10 := F10.chg hc668 (dj1 D651)
        replace F17 := F17.chg hc668 (dj1 D652)
        replace hB := hB.inS hc668 (inLow (low1 G646))
        have hSz := hS
        replace hS := hS.inS hc668 (inLow Gz653)
        replace hZ := Nat.le_trans hZ hc668.size
        replace F667 : Cl w666 b644 25 [.int .i64 (y662.1.1), .int .i64 (y662.1.2.1), .int .i64 (y662.1.2.2.1), .int .i64 (y662.1.2.2.2)] := F667
        clear F647
        refine wS_end (by kernel_rfl) ?_
        refine eX_KH hS ?_
        refine wH_done (by kernel_rfl) ?_
        refine eX_tail ?_
        refine wS_pure 1 [(13, .bool (y662.2))] (by kernel_rfl) ?_
        refine wS_end (by rfl) ?_
        have hq : (some ((y662.1.1, y662.1.2.1, y662.1.2.2.1, y662.1.2.2.2, y662.2)) : Option (Int × Int × Int × Int × Bool)) = some _ := hm
        replace hq := someE hq
        subst hq
        exact eX_J (fun hst => ⟨b644, y662.1.1, y662.1.2.1, y662.1.2.2.1, y662.1.2.2.2, y662.2, rfl, Fr.of hst (by kernel_rfl), F4, F17, F667, G646, D650, D652, hB, hZ⟩)
    · rintro a' w559 ⟨b560, x561, x562, x563, x564, x566, hJ, hF567, F568, F569, F570, G571, D572, D573, hB, hZ⟩
      subst hJ
      refine Fr.goX hF567 (by kernel_rfl) ?_
      refine eX_then ?_
      refine cW_seq ?_
      refine cW_region ?_
      refine wS_loadA (d := 69) (T := 25) (ad := ⟨b560, 0, none⟩) (vs := [.int .i64 (x561), .int .i64 (x562), .int .i64 (x563), .int .i64 (x564)]) (by kernel_rfl) vt25 (fun i u hu => box_cells F570 0 hu (by rfl)) ?_
      refine wS_pure 1 [(70, .pointer (some ⟨b1, 4, none⟩))] (by kernel_rfl) ?_
      refine wS_load1 (d := 71) (T := 2) (ad := ⟨b1, 4, none⟩) (v := .int .i64 (p0_4)) (by kernel_rfl) vt2 ((F568).cell 4) ?_
      refine wS_pure 3 [(74, .agg #[.int .i64 (x561), .int .i64 (x562), .int .i64 (x563), .int .i64 (x564), .int .i64 (wr (p0_4 + (if 0 > (wr (p1_4 - p0_4)) then 0 else (wr (p1_4 - p0_4)))))]), (73, .int .i64 (wr (p0_4 + (if 0 > (wr (p1_4 - p0_4)) then 0 else (wr (p1_4 - p0_4)))))), (72, .int .i64 (if 0 > (wr (p1_4 - p0_4)) then 0 else (wr (p1_4 - p0_4))))] (by kernel_rfl) ?_
      refine wS_alloc (d := 14) (T := 52) (z := .agg #[.int .i64 (0), .int .i64 (0), .int .i64 (0), .int .i64 (0), .int .i64 (0)]) (by kernel_rfl) (by kernel_rfl) ?_
      intro b669 w670 G671 F672 hc673
      replace F672 : Cl w670 b669 52 [.int .i64 (0), .int .i64 (0), .int .i64 (0), .int .i64 (0), .int .i64 (0)] := F672
      have D675 : Dj [b1] [b669] := Dj.of (lt1 F568.lt) (low1 G671)
      have D676 : Dj [b14] [b669] := Dj.of (lt1 F569.lt) (low1 G671)
      have D677 : Dj [b560] [b669] := Dj.of (lt1 F570.lt) (low1 G671)
      replace F568 := F568.chg hc673 notNil
      replace F569 := F569.chg hc673 notNil
      replace F570 := F570.chg hc673 notNil
      replace hB := hB.inS hc673 inNil
      replace G671 := Nat.le_trans hZ G671
      replace hZ := Nat.le_trans hZ hc673.size
      refine wS_store (T := 52) (g := b669) (o := 0) (ad := ⟨b669, 0, none⟩) (v := .agg #[.int .i64 (x561), .int .i64 (x562), .int .i64 (x563), .int .i64 (x564), .int .i64 (wr (p0_4 + (if 0 > (wr (p1_4 - p0_4)) then 0 else (wr (p1_4 - p0_4)))))]) (vs := [.int .i64 (x561), .int .i64 (x562), .int .i64 (x563), .int .i64 (x564), .int .i64 (wr (p0_4 + (if 0 > (wr (p1_4 - p0_4)) then 0 else (wr (p1_4 - p0_4)))))]) (by kernel_rfl) (by rfl) sz52 (by rfl) (by rfl) F672 (by simp only [List.length_cons, List.length_nil]; omega) ?_
      intro w678 F679 hc680
      replace F568 := F568.chg hc680 (dj1 D675)
      replace F569 := F569.chg hc680 (dj1 D676)
      replace F570 := F570.chg hc680 (dj1 D677)
      replace hB := hB.inS hc680 (inLow (low1 G671))
      replace hZ := Nat.le_trans hZ hc680.size
      replace F679 : Cl w678 b669 52 [.int .i64 (x561), .int .i64 (x562), .int .i64 (x563), .int .i64 (x564), .int .i64 (wr (p0_4 + (if 0 > (wr (p1_4 - p0_4)) then 0 else (wr (p1_4 - p0_4)))))] := F679
      clear F672
      refine wS_end (by rfl) ?_
      refine eX_then ?_
      refine cW_seq ?_
      refine cW_seq ?_
      refine cW_region ?_
      refine wS_pure 3 [(77, .bool (!x566)), (76, .bool (!x566)), (75, .bool (x566))] (by kernel_rfl) ?_
      refine wS_bool (!x566) (fun hb681 => ?_) (fun hb681 => ?_)
      · have hm := condT hb681 hm
        rewrite [hb681]
        refine wS_pure 4 [(81, .bool (true)), (80, undef), (79, undef), (78, undef)] (by kernel_rfl) ?_
        refine wS_end (by rfl) ?_
        refine eX_then ?_
        refine cW_cond_t (by kernel_rfl) ?_
        refine cW_seq ?_
        refine cW_region ?_
        refine wS_pure 1 [(82, .agg #[.int .i64 (0), .int .i64 (0), .int .i64 (0), .int .i64 (0), .int .i64 (0)])] (by kernel_rfl) ?_
        refine wS_store (T := 52) (g := b14) (o := 0) (ad := ⟨b14, 0, none⟩) (v := .agg #[.int .i64 (0), .int .i64 (0), .int .i64 (0), .int .i64 (0), .int .i64 (0)]) (vs := [.int .i64 (0), .int .i64 (0), .int .i64 (0), .int .i64 (0), .int .i64 (0)]) (by kernel_rfl) (by rfl) sz52 (by rfl) (by rfl) F569 (by simp only [List.length_cons, List.length_nil]; omega) ?_
        intro w682 F683 hc684
        replace F568 := F568.chg hc684 (dj1 D20)
        replace F570 := F570.chg hc684 (dj1 (D573).symm)
        replace F679 := F679.chg hc684 (dj1 (D676).symm)
        replace hB := hB.inS hc684 (inLow (low1 G16))
        replace hZ := Nat.le_trans hZ hc684.size
        replace F683 : Cl w682 b14 52 [.int .i64 (0), .int .i64 (0), .int .i64 (0), .int .i64 (0), .int .i64 (0)] := F683
        clear F569
        refine wS_pure 3 [(7, .bool (false)), (6, .int .i64 (0)), (5, .int .i64 (0))] (by kernel_rfl) ?_
        refine wS_end (by rfl) ?_
        refine eX_then ?_
        refine cW_prune [(4, .pointer (some ⟨b14, 0, none⟩)), (5, .int .i64 (0)), (6, .int .i64 (0)), (7, .bool (false))] (by kernel_rfl) (by kernel_rfl) (fun a685 => ?_)
        refine cW_ret ?_
        refine eX_then_ret ?_
        have hq : (some (((0, 0, 0, 0, 0), 0, 0, false)) : Option ((Int × Int × Int × Int × Int) × (Int) × (Int) × (Bool))) = some _ := hm
        replace hq := someE hq
        subst hq
        refine eX_ret (vs := [.agg #[.int .i64 (0), .int .i64 (0), .int .i64 (0), .int .i64 (0), .int .i64 (0)], .int .i64 (0), .int .i64 (0), .bool (false)]) [.cell 4 52, .tmp 5, .tmp 6, .tmp 7] (by rfl) ⟨⟨⟨b14, 0, none⟩, by kernel_rfl, run_loadVarA (vs := [.int .i64 (0), .int .i64 (0), .int .i64 (0), .int .i64 (0), .int .i64 (0)]) vt52 (fun i u hu => by exact box_cells F683 0 hu (by rfl))⟩, ⟨by (show lkE _ _ _ = _); kernel_rfl, ⟨by (show lkE _ _ _ = _); kernel_rfl, ⟨by (show lkE _ _ _ = _); kernel_rfl, trivial⟩⟩⟩⟩ ?_
        exact ⟨rfl, hB⟩
      · have hm := condF hb681 hm
        rewrite [hb681]
        refine wS_loadA (d := 78) (T := 52) (ad := ⟨b669, 0, none⟩) (vs := [.int .i64 (x561), .int .i64 (x562), .int .i64 (x563), .int .i64 (x564), .int .i64 (wr (p0_4 + (if 0 > (wr (p1_4 - p0_4)) then 0 else (wr (p1_4 - p0_4)))))]) (by kernel_rfl) vt52 (fun i u hu => box_cells F679 0 hu (by rfl)) ?_
        obtain ⟨y686, hy687, hm⟩ := bindE hm
        refine wS_calls (d := 79) (f := 97) (vs := [.agg #[.int .i64 (x561), .int .i64 (x562), .int .i64 (x563), .int .i64 (x564), .int .i64 (wr (p0_4 + (if 0 > (wr (p1_4 - p0_4)) then 0 else (wr (p1_4 - p0_4)))))]]) (by kernel_rfl) ent97 (c_impl_mergeOk hy687) ?_
        rintro _ w688 ⟨rfl, hc689⟩
        replace F568 := F568.chg hc689 notNil
        replace F569 := F569.chg hc689 notNil
        replace F570 := F570.chg hc689 notNil
        replace F679 := F679.chg hc689 notNil
        replace hB := hB.inS hc689 inNil
        replace hZ := Nat.le_trans hZ hc689.size
        refine ⟨.bool (y686), rfl, ?_⟩
        refine wS_pure 2 [(81, .bool (!y686)), (80, .bool (!y686))] (by kernel_rfl) ?_
        refine wS_end (by rfl) ?_
        refine eX_then ?_
        refine cW_cond (t := !y686) (by kernel_rfl) (fun hb690 => ?_) (fun hb690 => ?_)
        · have hm := condT hb690 hm
          refine cW_seq ?_
          refine cW_region ?_
          refine wS_pure 1 [(82, .agg #[.int .i64 (0), .int .i64 (0), .int .i64 (0), .int .i64 (0), .int .i64 (0)])] (by kernel_rfl) ?_
          refine wS_store (T := 52) (g := b14) (o := 0) (ad := ⟨b14, 0, none⟩) (v := .agg #[.int .i64 (0), .int .i64 (0), .int .i64 (0), .int .i64 (0), .int .i64 (0)]) (vs := [.int .i64 (0), .int .i64 (0), .int .i64 (0), .int .i64 (0), .int .i64 (0)]) (by kernel_rfl) (by rfl) sz52 (by rfl) (by rfl) F569 (by simp only [List.length_cons, List.length_nil]; omega) ?_
          intro w691 F692 hc693
          replace F568 := F568.chg hc693 (dj1 D20)
          replace F570 := F570.chg hc693 (dj1 (D573).symm)
          replace F679 := F679.chg hc693 (dj1 (D676).symm)
          replace hB := hB.inS hc693 (inLow (low1 G16))
          replace hZ := Nat.le_trans hZ hc693.size
          replace F692 : Cl w691 b14 52 [.int .i64 (0), .int .i64 (0), .int .i64 (0), .int .i64 (0), .int .i64 (0)] := F692
          clear F569
          refine wS_pure 3 [(7, .bool (false)), (6, .int .i64 (0)), (5, .int .i64 (0))] (by kernel_rfl) ?_
          refine wS_end (by rfl) ?_
          refine eX_then ?_
          refine cW_prune [(4, .pointer (some ⟨b14, 0, none⟩)), (5, .int .i64 (0)), (6, .int .i64 (0)), (7, .bool (false))] (by kernel_rfl) (by kernel_rfl) (fun a694 => ?_)
          refine cW_ret ?_
          refine eX_then_ret ?_
          have hq : (some (((0, 0, 0, 0, 0), 0, 0, false)) : Option ((Int × Int × Int × Int × Int) × (Int) × (Int) × (Bool))) = some _ := hm
          replace hq := someE hq
          subst hq
          refine eX_ret (vs := [.agg #[.int .i64 (0), .int .i64 (0), .int .i64 (0), .int .i64 (0), .int .i64 (0)], .int .i64 (0), .int .i64 (0), .bool (false)]) [.cell 4 52, .tmp 5, .tmp 6, .tmp 7] (by rfl) ⟨⟨⟨b14, 0, none⟩, by kernel_rfl, run_loadVarA (vs := [.int .i64 (0), .int .i64 (0), .int .i64 (0), .int .i64 (0), .int .i64 (0)]) vt52 (fun i u hu => by exact box_cells F692 0 hu (by rfl))⟩, ⟨by (show lkE _ _ _ = _); kernel_rfl, ⟨by (show lkE _ _ _ = _); kernel_rfl, ⟨by (show lkE _ _ _ = _); kernel_rfl, trivial⟩⟩⟩⟩ ?_
          exact ⟨rfl, hB⟩
        · have hm := condF hb690 hm
          refine cW_skip ?_
          refine eX_then ?_
          refine cW_seq ?_
          refine cW_region ?_
          refine wS_loadA (d := 83) (T := 52) (ad := ⟨b669, 0, none⟩) (vs := [.int .i64 (x561), .int .i64 (x562), .int .i64 (x563), .int .i64 (x564), .int .i64 (wr (p0_4 + (if 0 > (wr (p1_4 - p0_4)) then 0 else (wr (p1_4 - p0_4)))))]) (by kernel_rfl) vt52 (fun i u hu => box_cells F679 0 hu (by rfl)) ?_
          refine wS_pure 2 [(85, .int .i64 (if 0 > (wr (p0_4 - p1_4)) then 0 else (wr (p0_4 - p1_4)))), (84, .int .i64 (if 0 > (wr (p1_4 - p0_4)) then 0 else (wr (p1_4 - p0_4))))] (by kernel_rfl) ?_
          refine wS_store (T := 52) (g := b14) (o := 0) (ad := ⟨b14, 0, none⟩) (v := .agg #[.int .i64 (x561), .int .i64 (x562), .int .i64 (x563), .int .i64 (x564), .int .i64 (wr (p0_4 + (if 0 > (wr (p1_4 - p0_4)) then 0 else (wr (p1_4 - p0_4)))))]) (vs := [.int .i64 (x561), .int .i64 (x562), .int .i64 (x563), .int .i64 (x564), .int .i64 (wr (p0_4 + (if 0 > (wr (p1_4 - p0_4)) then 0 else (wr (p1_4 - p0_4)))))]) (by kernel_rfl) (by rfl) sz52 (by rfl) (by rfl) F569 (by simp only [List.length_cons, List.length_nil]; omega) ?_
          intro w695 F696 hc697
          replace F568 := F568.chg hc697 (dj1 D20)
          replace F570 := F570.chg hc697 (dj1 (D573).symm)
          replace F679 := F679.chg hc697 (dj1 (D676).symm)
          replace hB := hB.inS hc697 (inLow (low1 G16))
          replace hZ := Nat.le_trans hZ hc697.size
          replace F696 : Cl w695 b14 52 [.int .i64 (x561), .int .i64 (x562), .int .i64 (x563), .int .i64 (x564), .int .i64 (wr (p0_4 + (if 0 > (wr (p1_4 - p0_4)) then 0 else (wr (p1_4 - p0_4)))))] := F696
          clear F569
          refine wS_pure 3 [(7, .bool (true)), (6, .int .i64 (if 0 > (wr (p0_4 - p1_4)) then 0 else (wr (p0_4 - p1_4)))), (5, .int .i64 (if 0 > (wr (p1_4 - p0_4)) then 0 else (wr (p1_4 - p0_4))))] (by kernel_rfl) ?_
          refine wS_end (by rfl) ?_
          refine eX_then ?_
          refine cW_prune [(4, .pointer (some ⟨b14, 0, none⟩)), (5, .int .i64 (if 0 > (wr (p1_4 - p0_4)) then 0 else (wr (p1_4 - p0_4)))), (6, .int .i64 (if 0 > (wr (p0_4 - p1_4)) then 0 else (wr (p0_4 - p1_4)))), (7, .bool (true))] (by kernel_rfl) (by kernel_rfl) (fun a698 => ?_)
          refine cW_ret ?_
          have hq : (some (((x561, x562, x563, x564, wr (p0_4 + (if 0 > (wr (p1_4 - p0_4)) then 0 else (wr (p1_4 - p0_4))))), if 0 > (wr (p1_4 - p0_4)) then 0 else (wr (p1_4 - p0_4)), if 0 > (wr (p0_4 - p1_4)) then 0 else (wr (p0_4 - p1_4)), true)) : Option ((Int × Int × Int × Int × Int) × (Int) × (Int) × (Bool))) = some _ := hm
          replace hq := someE hq
          subst hq
          refine eX_ret (vs := [.agg #[.int .i64 (x561), .int .i64 (x562), .int .i64 (x563), .int .i64 (x564), .int .i64 (wr (p0_4 + (if 0 > (wr (p1_4 - p0_4)) then 0 else (wr (p1_4 - p0_4)))))], .int .i64 (if 0 > (wr (p1_4 - p0_4)) then 0 else (wr (p1_4 - p0_4))), .int .i64 (if 0 > (wr (p0_4 - p1_4)) then 0 else (wr (p0_4 - p1_4))), .bool (true)]) [.cell 4 52, .tmp 5, .tmp 6, .tmp 7] (by rfl) ⟨⟨⟨b14, 0, none⟩, by kernel_rfl, run_loadVarA (vs := [.int .i64 (x561), .int .i64 (x562), .int .i64 (x563), .int .i64 (x564), .int .i64 (wr (p0_4 + (if 0 > (wr (p1_4 - p0_4)) then 0 else (wr (p1_4 - p0_4)))))]) vt52 (fun i u hu => by exact box_cells F696 0 hu (by rfl))⟩, ⟨by (show lkE _ _ _ = _); kernel_rfl, ⟨by (show lkE _ _ _ = _); kernel_rfl, ⟨by (show lkE _ _ _ = _); kernel_rfl, trivial⟩⟩⟩⟩ ?_
          exact ⟨rfl, hB⟩

set_option maxRecDepth 100000 in
/-- laws.szPointS -/
theorem c_laws_szPointS {w0 : World} {l0 : List (Int × Int)} {A0 : Option Addr} {cap0 : Nat} {fp0 : List Nat} {p1 : Int} {r : (Int)} (hm : m_laws_szPointS l0 p1 = some r) (F0 : Sl 2 encII w0 fp0 A0 l0) :
    Calls Try.prog 44 #[.slice A0 (l0).length cap0, .int .i64 (p1)] w0 fun e w' => e = .returned (.int .i64 (r)) ∧ Chg [] w0 w' := by
  have L0 := F0.low
  have hB : Chg [] w0 w0 := Chg.refl _ _
  have hZ := Nat.le_refl w0.heap.size
  unfold m_laws_szPointS at hm
  refine enterE (N := 12) Try.func44 (by rfl) Try.ntmps44 (by simp) [(0, .slice A0 (l0).length cap0), (1, .int .i64 (p1))] (by rfl) (by kernel_rfl) (fun a => ?_)
  refine cW_seq ?_
  refine cW_region ?_
  refine wS_pure 1 [(4, .int .i64 (0))] (by kernel_rfl) ?_
  refine wS_end (by rfl) ?_
  refine eX_then ?_
  refine cW_seq ?_
  refine cW_region ?_
  refine wS_pure 5 [(1, .int .i64 (wr (p1 - (((l0).length : Int))))), (8, .int .i64 (wr (p1 - (((l0).length : Int))))), (7, .int .i64 (((l0).length : Int))), (6, .slice A0 (l0).length cap0), (5, .int .i64 (p1))] (by kernel_rfl) ?_
  refine wS_end (by rfl) ?_
  refine eX_then ?_
  refine cW_seq ?_
  refine cW_seq ?_
  refine cW_region ?_
  refine wS_pure 2 [(10, .bool (decide ((wr (p1 - (((l0).length : Int)))) < 0))), (9, .int .i64 (wr (p1 - (((l0).length : Int)))))] (by kernel_rfl) ?_
  refine wS_end (by rfl) ?_
  refine eX_then ?_
  refine cW_cond (t := decide ((wr (p1 - (((l0).length : Int)))) < 0)) (by kernel_rfl) (fun hb2 => ?_) (fun hb2 => ?_)
  · have hm := condT hb2 hm
    refine cW_seq ?_
    refine cW_region ?_
    refine wS_pure 1 [(4, .int .i64 ((-1)))] (by kernel_rfl) ?_
    refine wS_end (by rfl) ?_
    refine eX_then ?_
    refine cW_ret ?_
    refine eX_then_ret ?_
    have hq : (some ((-1)) : Option ((Int))) = some _ := hm
    replace hq := someE hq
    subst hq
    refine eX_ret (vs := [.int .i64 ((-1))]) [.tmp 4] (by rfl) ⟨by (show lkE _ _ _ = _); kernel_rfl, trivial⟩ ?_
    exact ⟨rfl, hB⟩
  · have hm := condF hb2 hm
    refine cW_skip ?_
    refine eX_then ?_
    refine cW_seq ?_
    refine cW_region ?_
    refine wS_pure 2 [(4, .int .i64 (wr (p1 - (((l0).length : Int))))), (11, .int .i64 (wr (p1 - (((l0).length : Int)))))] (by kernel_rfl) ?_
    refine wS_end (by rfl) ?_
    refine eX_then ?_
    refine cW_ret ?_
    have hq : (some (wr (p1 - (((l0).length : Int)))) : Option ((Int))) = some _ := hm
    replace hq := someE hq
    subst hq
    refine eX_ret (vs := [.int .i64 (wr (p1 - (((l0).length : Int))))]) [.tmp 4] (by rfl) ⟨by (show lkE _ _ _ = _); kernel_rfl, trivial⟩ ?_
    exact ⟨rfl, hB⟩

set_option maxRecDepth 100000 in
/-- spec.l01Points -/
theorem c_spec_l01Points {w0 : World} {l0 : List (Int × Int)} {A0 : Option Addr} {cap0 : Nat} {fp0 : List Nat} {r : (Bool)} (hm : m_spec_l01Points l0 = some r) (F0 : Sl 2 encII w0 fp0 A0 l0) :
    Calls Try.prog 99 #[.slice A0 (l0).length cap0] w0 fun e w' => e = .returned (.bool (r)) ∧ Chg [] w0 w' := by
  have L0 := F0.low
  have hB : Chg [] w0 w0 := Chg.refl _ _
  have hZ := Nat.le_refl w0.heap.size
  unfold m_spec_l01Points at hm
  refine enterE (N := 19) Try.func99 (by rfl) Try.ntmps99 (by simp) [(0, .slice A0 (l0).length cap0)] (by rfl) (by kernel_rfl) (fun a => ?_)
  refine cW_seq ?_
  refine cW_region ?_
  refine wS_pure 1 [(2, .bool (false))] (by kernel_rfl) ?_
  refine wS_end (by rfl) ?_
  refine eX_then ?_
  refine cW_seq ?_
  refine cW_seq ?_
  refine cW_region ?_
  refine wS_pure 1 [(3, .int .i64 (0))] (by kernel_rfl) ?_
  refine wS_end (by rfl) ?_
  refine eX_then ?_
  obtain ⟨r30, hr31, hm⟩ := bindE hm
  have hm32 := hm
  refine cW_cut (fun a' w' => Sum.inl (()) = r30 ∧ Fr 19 [(0, .slice A0 (l0).length cap0)] a' ∧ Sl 2 encII w' fp0 A0 l0 ∧ Chg [] w0 w' ∧ w0.heap.size ≤ w'.heap.size) ?_ ?_
  · refine cW_block ?_
    refine cW_loop _ (fun (s33 : Int) a' w' => ∃ x27 : Int, x27 = s33 ∧ Fr 19 [(0, .slice A0 (l0).length cap0), (3, .int .i64 (x27))] a' ∧ Sl 2 encII w' fp0 A0 l0 ∧ Chg [] w0 w' ∧ w0.heap.size ≤ w'.heap.size) hr31 (fun hst => ⟨0, rfl, Fr.of hst (by kernel_rfl), F0, hB, hZ⟩) ?_
    rintro _ c34 a' w26 ⟨x27, rfl, hF28, F29, hB, hZ⟩ hx35
    refine Fr.goOn hF28 (by kernel_rfl) ?_
    have hm := hx35
    unfold m_spec_l01Points_s1 at hm
    refine cW_seq ?_
    refine cW_seq ?_
    refine cW_region ?_
    refine wS_pure 4 [(7, .bool (decide (x27 < (((l0).length : Int))))), (6, .int .i64 (((l0).length : Int))), (5, .slice A0 (l0).length cap0), (4, .int .i64 (x27))] (by kernel_rfl) ?_
    refine wS_end (by rfl) ?_
    refine eX_then ?_
    refine cW_cond (t := decide (x27 < (((l0).length : Int)))) (by kernel_rfl) (fun hb36 => ?_) (fun hb36 => ?_)
    · have hm := condT hb36 hm
      refine cW_skip ?_
      refine eX_then ?_
      refine cW_seq ?_
      refine cW_block ?_
      refine cW_seq ?_
      refine cW_region ?_
      refine wS_pure 2 [(11, .int .i64 (x27)), (10, .slice A0 (l0).length cap0)] (by kernel_rfl) ?_
      obtain ⟨x37, hx38, hm⟩ := bindE hm
      refine wS_idx (d := 12) (T := 59) (A := A0) (n := (l0).length) (cap := cap0) (kd := .i64) (m := x27) (by kernel_rfl) sl59 (F29.is hx38) ?_
      refine wS_loadA (d := 13) (T := 32) (ad := (elA A0 2 (x27) 0)) (vs := [.int .i64 (x37.1), .int .i64 (x37.2)]) (by kernel_rfl) vt32 (fun i u hu => Sl.cells_at F29 hx38 0 hu (by rfl)) ?_
      obtain ⟨y39, hy40, hm⟩ := bindE hm
      refine wS_calls (d := 14) (f := 80) (vs := [.agg #[.int .i64 (x37.1), .int .i64 (x37.2)]]) (by kernel_rfl) ent80 (c_spec_l01Point hy40) ?_
      rintro _ w41 ⟨rfl, hc42⟩
      replace F29 := F29.chg hc42 Dj.nil
      replace hB := hB.inS hc42 inNil
      replace hZ := Nat.le_trans hZ hc42.size
      refine ⟨.bool (y39), rfl, ?_⟩
      refine wS_pure 1 [(15, .bool (!y39))] (by kernel_rfl) ?_
      refine wS_end (by rfl) ?_
      refine eX_then ?_
      refine cW_cond (t := !y39) (by kernel_rfl) (fun hb43 => ?_) (fun hb43 => ?_)
      · have hm := condT hb43 hm
        refine cW_seq ?_
        refine cW_region ?_
        refine wS_pure 1 [(2, .bool (false))] (by kernel_rfl) ?_
        refine wS_end (by rfl) ?_
        refine eX_then ?_
        refine cW_ret ?_
        refine eX_block_ret ?_
        refine eX_then_ret ?_
        have hq : (some (Ctl.out (Sum.inr false)) : Option (Ctl (Int) (Sum (Unit) ((Bool))))) = some _ := hm
        replace hq := someE hq
        subst hq
        refine eX_outR hx35 (fun hr => ?_)
        subst hr
        refine eX_block_ret ?_
        refine eX_then_ret ?_
        refine eX_then_ret ?_
        have hq : (some false : Option ((Bool))) = some _ := hm32
        replace hq := someE hq
        subst hq
        refine eX_ret (vs := [.bool (false)]) [.tmp 2] (by rfl) ⟨by (show lkE _ _ _ = _); kernel_rfl, trivial⟩ ?_
        exact ⟨rfl, hB⟩
      · have hm := condF hb43 hm
        refine cW_skip ?_
        refine eX_block ?_
        refine eX_then ?_
        refine cW_region ?_
        refine wS_pure 3 [(3, .int .i64 (wr (x27 + 1))), (9, .int .i64 (wr (x27 + 1))), (8, .int .i64 (x27))] (by kernel_rfl) ?_
        refine wS_end (by rfl) ?_
        have hq : (some (Ctl.next (wr (x27 + 1))) : Option (Ctl (Int) (Sum (Unit) ((Bool))))) = some _ := hm
        replace hq := someE hq
        subst hq
        exact eX_next hx35 (fun hst => ⟨wr (x27 + 1), rfl, Fr.of hst (by kernel_rfl), F29, hB, hZ⟩)
    · have hm := condF hb36 hm
      refine cW_exit ?_
      refine eX_then_exit ?_
      have hq : (some (Ctl.out (Sum.inl (()))) : Option (Ctl (Int) (Sum (Unit) ((Bool))))) = some _ := hm
      replace hq := someE hq
      subst hq
      refine eX_outX hx35 (fun hr44 => ?_)
      replace hr44 := hr44.symm
      subst hr44
      refine eX_block_hit ?_
      exact eX_J (fun hst => ⟨rfl, Fr.of hst (by kernel_rfl), F29, hB, hZ⟩)
  · rintro a' w23 ⟨hJ, hF24, F25, hB, hZ⟩
    subst hJ
    refine Fr.goX hF24 (by kernel_rfl) ?_
    refine eX_then ?_
    refine cW_seq ?_
    refine cW_region ?_
    refine wS_pure 4 [(2, .bool (decide ((((l0).length : Int)) ≤ 24))), (18, .bool (decide ((((l0).length : Int)) ≤ 24))), (17, .int .i64 (((l0).length : Int))), (16, .slice A0 (l0).length cap0)] (by kernel_rfl) ?_
    refine wS_end (by rfl) ?_
    refine eX_then ?_
    refine cW_ret ?_
    have hq : (some (decide ((((l0).length : Int)) ≤ 24)) : Option ((Bool))) = some _ := hm
    replace hq := someE hq
    subst hq
    refine eX_ret (vs := [.bool (decide ((((l0).length : Int)) ≤ 24))]) [.tmp 2] (by rfl) ⟨by (show lkE _ _ _ = _); kernel_rfl, trivial⟩ ?_
    exact ⟨rfl, hB⟩

set_option maxRecDepth 100000 in
/-- laws.toPointS -/
theorem c_laws_toPointS {w0 : World} {l0 : List (Int × Int)} {A0 : Option Addr} {cap0 : Nat} {fp0 : List Nat} {r : (List (Int × Int))} (hm : m_laws_toPointS l0 = some r) (F0 : Sl 2 encII w0 fp0 A0 l0) :
    Calls Try.prog 46 #[.slice A0 (l0).length cap0] w0 fun e w' => ∃ A100 cap100 fp100, e = .returned (.slice A100 (r).length cap100) ∧ Ow 2 encII 32 w' fp100 A100 cap100 r ∧ (∀ x ∈ fp100, w0.heap.size ≤ x) ∧ Chg [] w0 w' := by
  have L0 := F0.low
  have hB : Chg [] w0 w0 := Chg.refl _ _
  have hZ := Nat.le_refl w0.heap.size
  unfold m_laws_toPointS at hm
  refine enterE (N := 23) Try.func46 (by rfl) Try.ntmps46 (by simp) [(0, .slice A0 (l0).length cap0)] (by rfl) (by kernel_rfl) (fun a => ?_)
  refine cW_seq ?_
  refine cW_region ?_
  refine wS_pure 1 [(2, .slice none 0 0)] (by kernel_rfl) ?_
  refine wS_end (by rfl) ?_
  refine eX_then ?_
  refine cW_seq ?_
  refine cW_region ?_
  refine wS_pure 2 [(6, .int .i64 (((l0).length : Int))), (5, .slice A0 (l0).length cap0)] (by kernel_rfl) ?_
  obtain ⟨_, hk2, hm⟩ := bindE hm
  replace hk2 := mkE hk2
  refine wS_make (enc := encII) (x0 := ((0, 0) : Int × Int)) (d := 7) (t := 59) (T := 32) (k1 := .i64) (k2 := .i64) (m := ((l0).length : Int)) (by kernel_rfl) el59 encII_ok (by rfl) hk2.1 hk2.2 ?_
  intro b3 w4 G5 F6 hc7
  replace F0 := F0.chg hc7 Dj.nil
  replace hB := hB.inS hc7 inNil
  replace G5 := Nat.le_trans hZ G5
  replace G5 := low1 G5
  replace hZ := Nat.le_trans hZ hc7.size
  refine wS_pure 1 [(3, .slice (some ⟨b3, 0, none⟩) (List.replicate (Int.toNat (((l0).length : Int))) (((0, 0) : Int × Int))).length (Int.toNat (((l0).length : Int))))] (by kernel_rfl) ?_
  refine wS_end (by rfl) ?_
  refine eX_then ?_
  refine cW_seq ?_
  refine cW_seq ?_
  refine cW_region ?_
  refine wS_pure 1 [(4, .int .i64 (0))] (by kernel_rfl) ?_
  refine wS_end (by rfl) ?_
  refine eX_then ?_
  obtain ⟨r51, hr52, hm⟩ := bindE hm
  have hm53 := hm
  refine cW_cut (fun a' w' => ∃ l42 : List (Int × Int), l42 = r51 ∧ Fr 23 [(3, .slice (some ⟨b3, 0, none⟩) (l42).length (Int.toNat (((l0).length : Int))))] a' ∧ Ow 2 encII 32 w' [b3] (some ⟨b3, 0, none⟩) (Int.toNat (((l0).length : Int))) l42 ∧ Chg [] w0 w' ∧ w0.heap.size ≤ w'.heap.size) ?_ ?_
  · refine cW_block ?_
    refine cW_loop _ (fun (s54 : Int × (List (Int × Int))) a' w' => ∃ x46 : Int, ∃ l47 : List (Int × Int), (x46, l47) = s54 ∧ Fr 23 [(0, .slice A0 (l0).length cap0), (3, .slice (some ⟨b3, 0, none⟩) (l47).length (Int.toNat (((l0).length : Int)))), (4, .int .i64 (x46))] a' ∧ Sl 2 encII w' fp0 A0 l0 ∧ Ow 2 encII 32 w' [b3] (some ⟨b3, 0, none⟩) (Int.toNat (((l0).length : Int))) l47 ∧ Chg [] w0 w' ∧ w0.heap.size ≤ w'.heap.size) hr52 (fun hst => ⟨0, List.replicate (Int.toNat (((l0).length : Int))) (((0, 0) : Int × Int)), rfl, Fr.of hst (by kernel_rfl), F0, F6, hB, hZ⟩) ?_
    rintro _ c55 a' w45 ⟨x46, l47, rfl, hF48, F49, F50, hB, hZ⟩ hx56
    refine Fr.goOn hF48 (by kernel_rfl) ?_
    have hm := hx56
    unfold m_laws_toPointS_s1 at hm
    refine cW_seq ?_
    refine cW_seq ?_
    refine cW_region ?_
    refine wS_pure 4 [(11, .bool (decide (x46 < (((l0).length : Int))))), (10, .int .i64 (((l0).length : Int))), (9, .slice A0 (l0).length cap0), (8, .int .i64 (x46))] (by kernel_rfl) ?_
    refine wS_end (by rfl) ?_
    refine eX_then ?_
    refine cW_cond (t := decide (x46 < (((l0).length : Int)))) (by kernel_rfl) (fun hb57 => ?_) (fun hb57 => ?_)
    · have hm := condT hb57 hm
      refine cW_skip ?_
      refine eX_then ?_
      refine cW_seq ?_
      refine cW_block ?_
      refine cW_region ?_
      refine wS_pure 4 [(17, .int .i64 (x46)), (16, .slice A0 (l0).length cap0), (15, .int .i64 (x46)), (14, .slice (some ⟨b3, 0, none⟩) (l47).length (Int.toNat (((l0).length : Int))))] (by kernel_rfl) ?_
      obtain ⟨x58, hx59, hm⟩ := bindE hm
      refine wS_idx (d := 18) (T := 56) (A := A0) (n := (l0).length) (cap := cap0) (kd := .i64) (m := x46) (by kernel_rfl) sl56 (F49.is hx59) ?_
      refine wS_loadA (d := 19) (T := 29) (ad := (elA A0 2 (x46) 0)) (vs := [.int .i64 (x58.1), .int .i64 (x58.2)]) (by kernel_rfl) vt29 (fun i u hu => Sl.cells_at F49 hx59 0 hu (by rfl)) ?_
      obtain ⟨y60, hy61, hm⟩ := bindE hm
      refine wS_calls (d := 20) (f := 25) (vs := [.agg #[.int .i64 (x58.1), .int .i64 (x58.2)]]) (by kernel_rfl) ent25 (c_laws_toPoint hy61) ?_
      rintro _ w62 ⟨rfl, hc63⟩
      replace F49 := F49.chg hc63 Dj.nil
      replace F50 := F50.chg hc63 Dj.nil
      replace hB := hB.inS hc63 inNil
      replace hZ := Nat.le_trans hZ hc63.size
      refine ⟨.agg #[.int .i64 (y60.1), .int .i64 (y60.2)], rfl, ?_⟩
      obtain ⟨x64, hx65, hm⟩ := bindE hm
      refine wS_idx (d := 21) (T := 59) (A := (some ⟨b3, 0, none⟩)) (n := (l47).length) (cap := (Int.toNat (((l0).length : Int)))) (kd := .i64) (m := x46) (by kernel_rfl) sl59 ((F50.sl encII_ok).is hx65) ?_
      refine wS_storeEl (x := x64) ((y60.1, y60.2)) (T := 32) (U := 32) (cap := (Int.toNat (((l0).length : Int)))) (j := 0) (A := (some ⟨b3, 0, none⟩)) (v := .agg #[.int .i64 (y60.1), .int .i64 (y60.2)]) (vs := [.int .i64 (y60.1), .int .i64 (y60.2)]) (m := x46) (by kernel_rfl) (by rfl) sz32 (by rfl) encII_ok F50 hx65 (by simp only [List.length_cons, List.length_nil]; omega) (by rfl) ?_
      intro w66 F67 hc68
      replace F49 := F49.chg hc68 (Dj.of L0 G5)
      replace hB := hB.inS hc68 (inLow G5)
      replace hZ := Nat.le_trans hZ hc68.size
      clear F50
      rewrite [show (l47).length = (l47.set (Int.toNat x46) ((y60.1, y60.2))).length from (List.length_set ..).symm]
      refine wS_end (by rfl) ?_
      refine eX_block ?_
      refine eX_then ?_
      refine cW_region ?_
      refine wS_pure 3 [(4, .int .i64 (wr (x46 + 1))), (13, .int .i64 (wr (x46 + 1))), (12, .int .i64 (x46))] (by kernel_rfl) ?_
      refine wS_end (by rfl) ?_
      have hq : (some (Ctl.next ((wr (x46 + 1), l47.set (Int.toNat x46) ((y60.1, y60.2))))) : Option (Ctl (Int × (List (Int × Int))) ((List (Int × Int))))) = some _ := hm
      replace hq := someE hq
      subst hq
      exact eX_next hx56 (fun hst => ⟨wr (x46 + 1), l47.set (Int.toNat x46) ((y60.1, y60.2)), rfl, Fr.of hst (by kernel_rfl), F49, F67, hB, hZ⟩)
    · have hm := condF hb57 hm
      refine cW_exit ?_
      refine eX_then_exit ?_
      have hq : (some (Ctl.out l47) : Option (Ctl (Int × (List (Int × Int))) ((List (Int × Int))))) = some _ := hm
      replace hq := someE hq
      subst hq
      refine eX_outX hx56 (fun hr69 => ?_)
      replace hr69 := hr69.symm
      subst hr69
      refine eX_block_hit ?_
      exact eX_J (fun hst => ⟨l47, rfl, Fr.of hst (by kernel_rfl), F50, hB, hZ⟩)
  · rintro a' w41 ⟨l42, hJ, hF43, F44, hB, hZ⟩
    subst hJ
    refine Fr.goX hF43 (by kernel_rfl) ?_
    refine eX_then ?_
    refine cW_seq ?_
    refine cW_region ?_
    refine wS_pure 2 [(2, .slice (some ⟨b3, 0, none⟩) (l42).length (Int.toNat (((l0).length : Int)))), (22, .slice (some ⟨b3, 0, none⟩) (l42).length (Int.toNat (((l0).length : Int))))] (by kernel_rfl) ?_
    refine wS_end (by rfl) ?_
    refine eX_then ?_
    refine cW_ret ?_
    have hq : (some l42 : Option ((List (Int × Int)))) = some _ := hm
    replace hq := someE hq
    subst hq
    refine eX_ret (vs := [.slice (some ⟨b3, 0, none⟩) (l42).length (Int.toNat (((l0).length : Int)))]) [.tmp 2] (by rfl) ⟨by (show lkE _ _ _ = _); kernel_rfl, trivial⟩ ?_
    exact ⟨(some ⟨b3, 0, none⟩), (Int.toNat (((l0).length : Int))), [b3], rfl, F44, G5, hB⟩

set_option maxRecDepth 100000 in
/-- impl.noPoint -/
theorem c_impl_noPoint {w0 : World} {p0_0 : Int} {p0_1 : Int} {r : (Bool)} (hm : m_impl_noPoint p0_0 p0_1 = some r)  :
    Calls Try.prog 126 #[.agg #[.int .i64 (p0_0), .int .i64 (p0_1)]] w0 fun e w' => e = .returned (.bool (r)) ∧ Chg [] w0 w' := by
  have hB : Chg [] w0 w0 := Chg.refl _ _
  have hZ := Nat.le_refl w0.heap.size
  unfold m_impl_noPoint at hm
  refine enterE (N := 6) Try.func126 (by rfl) Try.ntmps126 (by simp) [(0, .agg #[.int .i64 (p0_0), .int .i64 (p0_1)])] (by rfl) (by kernel_rfl) (fun a => ?_)
  refine cW_seq ?_
  refine cW_region ?_
  refine wS_box (d := 1) (T := 32) (x := .agg #[.int .i64 (p0_0), .int .i64 (p0_1)]) (by kernel_rfl) ?_
  intro b1 w2 G3 F4 hc5
  replace F4 : Cl w2 b1 32 [.int .i64 (p0_0), .int .i64 (p0_1)] := F4
  replace hB := hB.inS hc5 inNil
  replace G3 := Nat.le_trans hZ G3
  replace hZ := Nat.le_trans hZ hc5.size
  refine wS_pure 1 [(2, .bool (false))] (by kernel_rfl) ?_
  refine wS_end (by rfl) ?_
  refine eX_then ?_
  refine cW_seq ?_
  refine cW_region ?_
  refine wS_loadA (d := 3) (T := 32) (ad := ⟨b1, 0, none⟩) (vs := [.int .i64 (p0_0), .int .i64 (p0_1)]) (by kernel_rfl) vt32 (fun i u hu => box_cells F4 0 hu (by rfl)) ?_
  obtain ⟨y7, hy8, hm⟩ := bindE hm
  refine wS_calls (d := 4) (f := 82) (vs := [.agg #[.int .i64 (p0_0), .int .i64 (p0_1)]]) (by kernel_rfl) ent82 (c_impl_IsPoint hy8) ?_
  rintro _ w9 ⟨rfl, hc10⟩
  replace F4 := F4.chg hc10 notNil
  replace hB := hB.inS hc10 inNil
  replace hZ := Nat.le_trans hZ hc10.size
  refine ⟨.bool (y7), rfl, ?_⟩
  refine wS_pure 2 [(2, .bool (!y7)), (5, .bool (!y7))] (by kernel_rfl) ?_
  refine wS_end (by rfl) ?_
  refine eX_then ?_
  refine cW_ret ?_
  have hq : (some (!y7) : Option ((Bool))) = some _ := hm
  replace hq := someE hq
  subst hq
  refine eX_ret (vs := [.bool (!y7)]) [.tmp 2] (by rfl) ⟨by (show lkE _ _ _ = _); kernel_rfl, trivial⟩ ?_
  exact ⟨rfl, hB⟩

set_option maxRecDepth 100000 in
/-- impl.Point] -/
theorem c_slices_IndexFunc_impl_Point_impl_Point_impl_noPoint {w0 : World} {l0 : List (Int × Int)} {A0 : Option Addr} {cap0 : Nat} {fp0 : List Nat} {r : (Int)} (hm : m_slices_IndexFunc_impl_Point_impl_Point_impl_noPoint l0 = some r) (F0 : Sl 2 encII w0 fp0 A0 l0) :
    Calls Try.prog 134 #[.slice A0 (l0).length cap0, .func (.func 126) #[] #[]] w0 fun e w' => e = .returned (.int .i64 (r)) ∧ Chg [] w0 w' := by
  have L0 := F0.low
  have hB : Chg [] w0 w0 := Chg.refl _ _
  have hZ := Nat.le_refl w0.heap.size
  unfold m_slices_IndexFunc_impl_Point_impl_Point_impl_noPoint at hm
  refine enterE (N := 19) Try.func134 (by rfl) Try.ntmps134 (by simp) [(0, .slice A0 (l0).length cap0), (1, .func (.func 126) #[] #[])] (by rfl) (by kernel_rfl) (fun a => ?_)
  refine cW_seq ?_
  refine cW_region ?_
  refine wS_pure 1 [(4, .int .i64 (0))] (by kernel_rfl) ?_
  refine wS_end (by rfl) ?_
  refine eX_then ?_
  refine cW_seq ?_
  refine cW_seq ?_
  refine cW_region ?_
  refine wS_pure 3 [(8, .int .i64 (0)), (7, .int .i64 (((l0).length : Int))), (6, .slice A0 (l0).length cap0)] (by kernel_rfl) ?_
  refine wS_end (by rfl) ?_
  refine eX_then ?_
  obtain ⟨r29, hr30, hm⟩ := bindE hm
  have hm31 := hm
  refine cW_cut (fun a' w' => Sum.inl (()) = r29 ∧ Fr 19 [] a' ∧ Chg [] w0 w' ∧ w0.heap.size ≤ w'.heap.size) ?_ ?_
  · refine cW_block ?_
    refine cW_loop _ (fun (s32 : Int) a' w' => ∃ x26 : Int, x26 = s32 ∧ Fr 19 [(0, .slice A0 (l0).length cap0), (1, .func (.func 126) #[] #[]), (7, .int .i64 (((l0).length : Int))), (8, .int .i64 (x26))] a' ∧ Sl 2 encII w' fp0 A0 l0 ∧ Chg [] w0 w' ∧ w0.heap.size ≤ w'.heap.size) hr30 (fun hst => ⟨0, rfl, Fr.of hst (by kernel_rfl), F0, hB, hZ⟩) ?_
    rintro _ c33 a' w25 ⟨x26, rfl, hF27, F28, hB, hZ⟩ hx34
    refine Fr.goOn hF27 (by kernel_rfl) ?_
    have hm := hx34
    unfold m_slices_IndexFunc_impl_Point_impl_Point_impl_noPoint_s1 at hm
    refine cW_seq ?_
    refine cW_region ?_
    refine wS_pure 1 [(9, .bool (decide (x26 < (((l0).length : Int)))))] (by kernel_rfl) ?_
    refine wS_end (by rfl) ?_
    refine eX_then ?_
    refine cW_seq ?_
    refine cW_cond (t := decide (x26 < (((l0).length : Int)))) (by kernel_rfl) (fun hb35 => ?_) (fun hb35 => ?_)
    · have hm := condT hb35 hm
      refine cW_skip ?_
      refine eX_then ?_
      refine cW_seq ?_
      refine cW_block ?_
      refine cW_seq ?_
      refine cW_region ?_
      refine wS_pure 2 [(5, .int .i64 (x26)), (10, .int .i64 (x26))] (by kernel_rfl) ?_
      refine wS_end (by rfl) ?_
      refine eX_then ?_
      refine cW_seq ?_
      refine cW_region ?_
      refine wS_pure 3 [(13, .int .i64 (x26)), (12, .slice A0 (l0).length cap0), (11, .func (.func 126) #[] #[])] (by kernel_rfl) ?_
      obtain ⟨x36, hx37, hm⟩ := bindE hm
      refine wS_idx (d := 14) (T := 59) (A := A0) (n := (l0).length) (cap := cap0) (kd := .i64) (m := x26) (by kernel_rfl) sl59 (F28.is hx37) ?_
      refine wS_loadA (d := 15) (T := 32) (ad := (elA A0 2 (x26) 0)) (vs := [.int .i64 (x36.1), .int .i64 (x36.2)]) (by kernel_rfl) vt32 (fun i u hu => Sl.cells_at F28 hx37 0 hu (by rfl)) ?_
      obtain ⟨y38, hy39, hm⟩ := bindE hm
      refine wS_calls (d := 16) (f := 126) (vs := [.agg #[.int .i64 (x36.1), .int .i64 (x36.2)]]) (by kernel_rfl) ent126 (c_impl_noPoint hy39) ?_
      rintro _ w40 ⟨rfl, hc41⟩
      replace F28 := F28.chg hc41 Dj.nil
      replace hB := hB.inS hc41 inNil
      replace hZ := Nat.le_trans hZ hc41.size
      refine ⟨.bool (y38), rfl, ?_⟩
      refine wS_end (by rfl) ?_
      refine eX_then ?_
      refine cW_cond (t := y38) (by kernel_rfl) (fun hb42 => ?_) (fun hb42 => ?_)
      · have hm := condT hb42 hm
        refine cW_seq ?_
        refine cW_region ?_
        refine wS_pure 2 [(4, .int .i64 (x26)), (17, .int .i64 (x26))] (by kernel_rfl) ?_
        refine wS_end (by rfl) ?_
        refine eX_then ?_
        refine cW_ret ?_
        refine eX_block_ret ?_
        refine eX_then_ret ?_
        have hq : (some (Ctl.out (Sum.inr x26)) : Option (Ctl (Int) (Sum (Unit) ((Int))))) = some _ := hm
        replace hq := someE hq
        subst hq
        refine eX_outR hx34 (fun hr => ?_)
        subst hr
        refine eX_block_ret ?_
        refine eX_then_ret ?_
        refine eX_then_ret ?_
        have hq : (some x26 : Option ((Int))) = some _ := hm31
        replace hq := someE hq
        subst hq
        refine eX_ret (vs := [.int .i64 (x26)]) [.tmp 4] (by rfl) ⟨by (show lkE _ _ _ = _); kernel_rfl, trivial⟩ ?_
        exact ⟨rfl, hB⟩
      · have hm := condF hb42 hm
        refine cW_skip ?_
        refine eX_block ?_
        refine eX_then ?_
        refine cW_region ?_
        refine wS_pure 2 [(8, .int .i64 (wr (x26 + 1))), (18, .int .i64 (wr (x26 + 1)))] (by kernel_rfl) ?_
        refine wS_end (by rfl) ?_
        have hq : (some (Ctl.next (wr (x26 + 1))) : Option (Ctl (Int) (Sum (Unit) ((Int))))) = some _ := hm
        replace hq := someE hq
        subst hq
        exact eX_next hx34 (fun hst => ⟨wr (x26 + 1), rfl, Fr.of hst (by kernel_rfl), F28, hB, hZ⟩)
    · have hm := condF hb35 hm
      refine cW_exit ?_
      refine eX_then_exit ?_
      have hq : (some (Ctl.out (Sum.inl (()))) : Option (Ctl (Int) (Sum (Unit) ((Int))))) = some _ := hm
      replace hq := someE hq
      subst hq
      refine eX_outX hx34 (fun hr43 => ?_)
      replace hr43 := hr43.symm
      subst hr43
      refine eX_block_hit ?_
      exact eX_J (fun hst => ⟨rfl, Fr.of hst (by kernel_rfl), hB, hZ⟩)
  · rintro a' w23 ⟨hJ, hF24, hB, hZ⟩
    subst hJ
    refine Fr.goX hF24 (by kernel_rfl) ?_
    refine eX_then ?_
    refine cW_seq ?_
    refine cW_region ?_
    refine wS_pure 1 [(4, .int .i64 ((-1)))] (by kernel_rfl) ?_
    refine wS_end (by rfl) ?_
    refine eX_then ?_
    refine cW_ret ?_
    have hq : (some ((-1)) : Option ((Int))) = some _ := hm
    replace hq := someE hq
    subst hq
    refine eX_ret (vs := [.int .i64 ((-1))]) [.tmp 4] (by rfl) ⟨by (show lkE _ _ _ = _); kernel_rfl, trivial⟩ ?_
    exact ⟨rfl, hB⟩

set_option maxRecDepth 100000 in
/-- impl.Point] -/
theorem c_slices_ContainsFunc_impl_Point_impl_Point_impl_noPoint {w0 : World} {l0 : List (Int × Int)} {A0 : Option Addr} {cap0 : Nat} {fp0 : List Nat} {r : (Bool)} (hm : m_slices_ContainsFunc_impl_Point_impl_Point_impl_noPoint l0 = some r) (F0 : Sl 2 encII w0 fp0 A0 l0) :
    Calls Try.prog 125 #[.slice A0 (l0).length cap0, .func (.func 126) #[] #[]] w0 fun e w' => e = .returned (.bool (r)) ∧ Chg [] w0 w' := by
  have L0 := F0.low
  have hB : Chg [] w0 w0 := Chg.refl _ _
  have hZ := Nat.le_refl w0.heap.size
  unfold m_slices_ContainsFunc_impl_Point_impl_Point_impl_noPoint at hm
  refine enterE (N := 9) Try.func125 (by rfl) Try.ntmps125 (by simp) [(0, .slice A0 (l0).length cap0), (1, .func (.func 126) #[] #[])] (by rfl) (by kernel_rfl) (fun a => ?_)
  refine cW_seq ?_
  refine cW_region ?_
  refine wS_pure 1 [(4, .bool (false))] (by kernel_rfl) ?_
  refine wS_end (by rfl) ?_
  refine eX_then ?_
  refine cW_seq ?_
  refine cW_region ?_
  refine wS_pure 2 [(6, .func (.func 126) #[] #[]), (5, .slice A0 (l0).length cap0)] (by kernel_rfl) ?_
  obtain ⟨y2, hy3, hm⟩ := bindE hm
  refine wS_calls (d := 7) (f := 134) (vs := [.slice A0 (l0).length cap0, .func (.func 126) #[] #[]]) (by kernel_rfl) ent134 (c_slices_IndexFunc_impl_Point_impl_Point_impl_noPoint hy3 F0) ?_
  rintro _ w4 ⟨rfl, hc5⟩
  replace F0 := F0.chg hc5 Dj.nil
  replace hB := hB.inS hc5 inNil
  replace hZ := Nat.le_trans hZ hc5.size
  refine ⟨.int .i64 (y2), rfl, ?_⟩
  refine wS_pure 2 [(4, .bool (decide (y2 ≥ 0))), (8, .bool (decide (y2 ≥ 0)))] (by kernel_rfl) ?_
  refine wS_end (by rfl) ?_
  refine eX_then ?_
  refine cW_ret ?_
  have hq : (some (decide (y2 ≥ 0)) : Option ((Bool))) = some _ := hm
  replace hq := someE hq
  subst hq
  refine eX_ret (vs := [.bool (decide (y2 ≥ 0))]) [.tmp 4] (by rfl) ⟨by (show lkE _ _ _ = _); kernel_rfl, trivial⟩ ?_
  exact ⟨rfl, hB⟩

set_option maxRecDepth 100000 in
/-- laws.eqPoint -/
theorem c_laws_eqPoint {w0 : World} {p0_0 : Int} {p0_1 : Int} {p1_0 : Int} {p1_1 : Int} {r : (Bool)} (hm : m_laws_eqPoint p0_0 p0_1 p1_0 p1_1 = some r)  :
    Calls Try.prog 101 #[.agg #[.int .i64 (p0_0), .int .i64 (p0_1)], .agg #[.int .i64 (p1_0), .int .i64 (p1_1)]] w0 fun e w' => e = .returned (.bool (r)) ∧ Chg [] w0 w' := by
  have hB : Chg [] w0 w0 := Chg.refl _ _
  have hZ := Nat.le_refl w0.heap.size
  unfold m_laws_eqPoint at hm
  refine enterE (N := 15) Try.func101 (by rfl) Try.ntmps101 (by simp) [(0, .agg #[.int .i64 (p0_0), .int .i64 (p0_1)]), (1, .agg #[.int .i64 (p1_0), .int .i64 (p1_1)])] (by rfl) (by kernel_rfl) (fun a => ?_)
  refine cW_seq ?_
  refine cW_region ?_
  refine wS_box (d := 2) (T := 32) (x := .agg #[.int .i64 (p0_0), .int .i64 (p0_1)]) (by kernel_rfl) ?_
  intro b1 w2 G3 F4 hc5
  replace F4 : Cl w2 b1 32 [.int .i64 (p0_0), .int .i64 (p0_1)] := F4
  replace hB := hB.inS hc5 inNil
  replace G3 := Nat.le_trans hZ G3
  replace hZ := Nat.le_trans hZ hc5.size
  refine wS_box (d := 3) (T := 32) (x := .agg #[.int .i64 (p1_0), .int .i64 (p1_1)]) (by kernel_rfl) ?_
  intro b7 w8 G9 F10 hc11
  replace F10 : Cl w8 b7 32 [.int .i64 (p1_0), .int .i64 (p1_1)] := F10
  have D13 : Dj [b1] [b7] := Dj.of (lt1 F4.lt) (low1 G9)
  replace F4 := F4.chg hc11 notNil
  replace hB := hB.inS hc11 inNil
  replace G9 := Nat.le_trans hZ G9
  replace hZ := Nat.le_trans hZ hc11.size
  refine wS_pure 1 [(4, .bool (false))] (by kernel_rfl) ?_
  refine wS_end (by rfl) ?_
  refine eX_then ?_
  refine cW_seq ?_
  refine cW_seq ?_
  refine cW_region ?_
  refine wS_pure 1 [(5, .pointer (some ⟨b1, 0, none⟩))] (by kernel_rfl) ?_
  refine wS_load1 (d := 6) (T := 2) (ad := ⟨b1, 0, none⟩) (v := .int .i64 (p0_0)) (by kernel_rfl) vt2 ((F4).cell 0) ?_
  refine wS_pure 1 [(7, .pointer (some ⟨b7, 0, none⟩))] (by kernel_rfl) ?_
  refine wS_load1 (d := 8) (T := 2) (ad := ⟨b7, 0, none⟩) (v := .int .i64 (p1_0)) (by kernel_rfl) vt2 ((F10).cell 0) ?_
  refine wS_pure 1 [(9, .bool (p0_0 != p1_0))] (by kernel_rfl) ?_
  refine wS_end (by rfl) ?_
  refine eX_then ?_
  refine cW_cond (t := p0_0 != p1_0) (by kernel_rfl) (fun hb14 => ?_) (fun hb14 => ?_)
  · have hm := condT hb14 hm
    refine cW_seq ?_
    refine cW_region ?_
    refine wS_pure 1 [(4, .bool (false))] (by kernel_rfl) ?_
    refine wS_end (by rfl) ?_
    refine eX_then ?_
    refine cW_ret ?_
    refine eX_then_ret ?_
    have hq : (some false : Option ((Bool))) = some _ := hm
    replace hq := someE hq
    subst hq
    refine eX_ret (vs := [.bool (false)]) [.tmp 4] (by rfl) ⟨by (show lkE _ _ _ = _); kernel_rfl, trivial⟩ ?_
    exact ⟨rfl, hB⟩
  · have hm := condF hb14 hm
    refine cW_skip ?_
    refine eX_then ?_
    refine cW_seq ?_
    refine cW_seq ?_
    refine cW_region ?_
    refine wS_pure 1 [(10, .pointer (some ⟨b1, 1, none⟩))] (by kernel_rfl) ?_
    refine wS_load1 (d := 11) (T := 2) (ad := ⟨b1, 1, none⟩) (v := .int .i64 (p0_1)) (by kernel_rfl) vt2 ((F4).cell 1) ?_
    refine wS_pure 1 [(12, .pointer (some ⟨b7, 1, none⟩))] (by kernel_rfl) ?_
    refine wS_load1 (d := 13) (T := 2) (ad := ⟨b7, 1, none⟩) (v := .int .i64 (p1_1)) (by kernel_rfl) vt2 ((F10).cell 1) ?_
    refine wS_pure 1 [(14, .bool (p0_1 != p1_1))] (by kernel_rfl) ?_
    refine wS_end (by rfl) ?_
    refine eX_then ?_
    refine cW_cond (t := p0_1 != p1_1) (by kernel_rfl) (fun hb15 => ?_) (fun hb15 => ?_)
    · have hm := condT hb15 hm
      refine cW_seq ?_
      refine cW_region ?_
      refine wS_pure 1 [(4, .bool (false))] (by kernel_rfl) ?_
      refine wS_end (by rfl) ?_
      refine eX_then ?_
      refine cW_ret ?_
      refine eX_then_ret ?_
      have hq : (some false : Option ((Bool))) = some _ := hm
      replace hq := someE hq
      subst hq
      refine eX_ret (vs := [.bool (false)]) [.tmp 4] (by rfl) ⟨by (show lkE _ _ _ = _); kernel_rfl, trivial⟩ ?_
      exact ⟨rfl, hB⟩
    · have hm := condF hb15 hm
      refine cW_skip ?_
      refine eX_then ?_
      refine cW_seq ?_
      refine cW_region ?_
      refine wS_pure 1 [(4, .bool (true))] (by kernel_rfl) ?_
      refine wS_end (by rfl) ?_
      refine eX_then ?_
      refine cW_ret ?_
      have hq : (some true : Option ((Bool))) = some _ := hm
      replace hq := someE hq
      subst hq
      refine eX_ret (vs := [.bool (true)]) [.tmp 4] (by rfl) ⟨by (show lkE _ _ _ = _); kernel_rfl, trivial⟩ ?_
      exact ⟨rfl, hB⟩

set_option maxRecDepth 100000 in
/-- laws.eqPointS -/
theorem c_laws_eqPointS {w0 : World} {l0 : List (Int × Int)} {A0 : Option Addr} {cap0 : Nat} {fp0 : List Nat} {l1 : List (Int × Int)} {A1 : Option Addr} {cap1 : Nat} {fp1 : List Nat} {r : (Bool)} (hm : m_laws_eqPointS l0 l1 = some r) (F0 : Sl 2 encII w0 fp0 A0 l0) (F1 : Sl 2 encII w0 fp1 A1 l1) :
    Calls Try.prog 48 #[.slice A0 (l0).length cap0, .slice A1 (l1).length cap1] w0 fun e w' => e = .returned (.bool (r)) ∧ Chg [] w0 w' := by
  have L0 := F0.low
  have L1 := F1.low
  have hB : Chg [] w0 w0 := Chg.refl _ _
  have hZ := Nat.le_refl w0.heap.size
  unfold m_laws_eqPointS at hm
  refine enterE (N := 27) Try.func48 (by rfl) Try.ntmps48 (by simp) [(0, .slice A0 (l0).length cap0), (1, .slice A1 (l1).length cap1)] (by rfl) (by kernel_rfl) (fun a => ?_)
  refine cW_seq ?_
  refine cW_region ?_
  refine wS_pure 1 [(4, .bool (false))] (by kernel_rfl) ?_
  refine wS_end (by rfl) ?_
  refine eX_then ?_
  refine cW_seq ?_
  refine cW_seq ?_
  refine cW_region ?_
  refine wS_pure 5 [(10, .bool ((((l0).length : Int)) != (((l1).length : Int)))), (9, .int .i64 (((l1).length : Int))), (8, .slice A1 (l1).length cap1), (7, .int .i64 (((l0).length : Int))), (6, .slice A0 (l0).length cap0)] (by kernel_rfl) ?_
  refine wS_end (by rfl) ?_
  refine eX_then ?_
  refine cW_cond (t := (((l0).length : Int)) != (((l1).length : Int))) (by kernel_rfl) (fun hb3 => ?_) (fun hb3 => ?_)
  · have hm := condT hb3 hm
    refine cW_seq ?_
    refine cW_region ?_
    refine wS_pure 1 [(4, .bool (false))] (by kernel_rfl) ?_
    refine wS_end (by rfl) ?_
    refine eX_then ?_
    refine cW_ret ?_
    refine eX_then_ret ?_
    have hq : (some false : Option ((Bool))) = some _ := hm
    replace hq := someE hq
    subst hq
    refine eX_ret (vs := [.bool (false)]) [.tmp 4] (by rfl) ⟨by (show lkE _ _ _ = _); kernel_rfl, trivial⟩ ?_
    exact ⟨rfl, hB⟩
  · have hm := condF hb3 hm
    refine cW_skip ?_
    refine eX_then ?_
    refine cW_seq ?_
    refine cW_seq ?_
    refine cW_region ?_
    refine wS_pure 1 [(5, .int .i64 (0))] (by kernel_rfl) ?_
    refine wS_end (by rfl) ?_
    refine eX_then ?_
    obtain ⟨r70, hr71, hm⟩ := bindE hm
    have hm72 := hm
    refine cW_cut (fun a' w' => Sum.inl (()) = r70 ∧ Fr 27 [] a' ∧ Chg [] w0 w' ∧ w0.heap.size ≤ w'.heap.size) ?_ ?_
    · refine cW_block ?_
      refine cW_loop _ (fun (s73 : Int) a' w' => ∃ x66 : Int, x66 = s73 ∧ Fr 27 [(0, .slice A0 (l0).length cap0), (1, .slice A1 (l1).length cap1), (5, .int .i64 (x66))] a' ∧ Sl 2 encII w' fp0 A0 l0 ∧ Sl 2 encII w' fp1 A1 l1 ∧ Chg [] w0 w' ∧ w0.heap.size ≤ w'.heap.size) hr71 (fun hst => ⟨0, rfl, Fr.of hst (by kernel_rfl), F0, F1, hB, hZ⟩) ?_
      rintro _ c74 a' w65 ⟨x66, rfl, hF67, F68, F69, hB, hZ⟩ hx75
      refine Fr.goOn hF67 (by kernel_rfl) ?_
      have hm := hx75
      unfold m_laws_eqPointS_s1 at hm
      refine cW_seq ?_
      refine cW_seq ?_
      refine cW_region ?_
      refine wS_pure 4 [(14, .bool (decide (x66 < (((l0).length : Int))))), (13, .int .i64 (((l0).length : Int))), (12, .slice A0 (l0).length cap0), (11, .int .i64 (x66))] (by kernel_rfl) ?_
      refine wS_end (by rfl) ?_
      refine eX_then ?_
      refine cW_cond (t := decide (x66 < (((l0).length : Int)))) (by kernel_rfl) (fun hb76 => ?_) (fun hb76 => ?_)
      · have hm := condT hb76 hm
        refine cW_skip ?_
        refine eX_then ?_
        refine cW_seq ?_
        refine cW_block ?_
        refine cW_seq ?_
        refine cW_drawnTail [] 8 (by kernel_rfl) (by kernel_rfl) (fun w89 hc90 => ?_)
        replace F68 := F68.chg hc90 Dj.nil
        replace F69 := F69.chg hc90 Dj.nil
        replace hB := hB.inS hc90 inNil
        replace hZ := Nat.le_trans hZ hc90.size
        have hS := Chg.refl [] w89
        have Z91 := F68
        have Z92 := F69
        refine wH_take [0, 1] [1, 0] [(18, .int .i64 (x66)), (17, .slice A0 (l0).length cap0)] (by kernel_rfl) (qT (qT (qB (qT (qL (qB (qT (qT qZ)))))))) (by kernel_rfl) ?_
        obtain ⟨x93, hx94, hm⟩ := bindE hm
        refine wH_idx (i := 2) (d := 19) (T := 59) (A := A0) (n := (l0).length) (cap := cap0) (kd := .i64) (m := x66) (by kernel_rfl) (qT (qT (qB (qT (qL (qB (qT (qT qZ)))))))) (by kernel_rfl) (by kernel_rfl) sl59 (F68.is hx94) ?_
        refine wH_loadA (i := 3) (d := 20) (T := 32) (ad := (elA A0 2 (x66) 0)) (vs := [.int .i64 (x93.1), .int .i64 (x93.2)]) (by kernel_rfl) (qT (qT (qB (qT (qL (qB (qT (qT qZ)))))))) (by kernel_rfl) (by kernel_rfl) vt32 (fun W hW i u hu => Sl.cells_at (Z91.chg hW Dj.nil) hx94 0 hu (by rfl)) ?_
        refine wH_take [4, 5] [5, 4, 3, 2, 1, 0] [(22, .int .i64 (x66)), (21, .slice A1 (l1).length cap1)] (by kernel_rfl) (qT (qT (qB (qT (qL (qB (qT (qT qZ)))))))) (by kernel_rfl) ?_
        obtain ⟨x95, hx96, hm⟩ := bindE hm
        refine wH_idx (i := 6) (d := 23) (T := 59) (A := A1) (n := (l1).length) (cap := cap1) (kd := .i64) (m := x66) (by kernel_rfl) (qT (qT (qB (qT (qL (qB (qT (qT qZ)))))))) (by kernel_rfl) (by kernel_rfl) sl59 (F69.is hx96) ?_
        refine wH_loadA (i := 7) (d := 24) (T := 32) (ad := (elA A1 2 (x66) 0)) (vs := [.int .i64 (x95.1), .int .i64 (x95.2)]) (by kernel_rfl) (qT (qT (qB (qT (qL (qB (qT (qT qZ)))))))) (by kernel_rfl) (by kernel_rfl) vt32 (fun W hW i u hu => Sl.cells_at (Z92.chg hW Dj.nil) hx96 0 hu (by rfl)) ?_
        refine wH_done (by kernel_rfl) ?_
        refine eX_tail ?_
        obtain ⟨y97, hy98, hm⟩ := bindE hm
        refine wS_calls (d := 25) (f := 101) (vs := [.agg #[.int .i64 (x93.1), .int .i64 (x93.2)], .agg #[.int .i64 (x95.1), .int .i64 (x95.2)]]) (by kernel_rfl) ent101 (c_laws_eqPoint hy98) ?_
        rintro _ w99 ⟨rfl, hc100⟩
        replace F68 := F68.chg hc100 Dj.nil
        replace F69 := F69.chg hc100 Dj.nil
        replace hB := hB.inS hc100 inNil
        replace hZ := Nat.le_trans hZ hc100.size
        refine ⟨.bool (y97), rfl, ?_⟩
        refine wS_pure 1 [(26, .bool (!y97))] (by kernel_rfl) ?_
        refine wS_end (by rfl) ?_
        refine eX_then ?_
        refine cW_cond (t := !y97) (by kernel_rfl) (fun hb101 => ?_) (fun hb101 => ?_)
        · have hm := condT hb101 hm
          refine cW_seq ?_
          refine cW_region ?_
          refine wS_pure 1 [(4, .bool (false))] (by kernel_rfl) ?_
          refine wS_end (by rfl) ?_
          refine eX_then ?_
          refine cW_ret ?_
          refine eX_block_ret ?_
          refine eX_then_ret ?_
          have hq : (some (Ctl.out (Sum.inr false)) : Option (Ctl (Int) (Sum (Unit) ((Bool))))) = some _ := hm
          replace hq := someE hq
          subst hq
          refine eX_outR hx75 (fun hr => ?_)
          subst hr
          refine eX_block_ret ?_
          refine eX_then_ret ?_
          refine eX_then_ret ?_
          have hq : (some false : Option ((Bool))) = some _ := hm72
          replace hq := someE hq
          subst hq
          refine eX_ret (vs := [.bool (false)]) [.tmp 4] (by rfl) ⟨by (show lkE _ _ _ = _); kernel_rfl, trivial⟩ ?_
          exact ⟨rfl, hB⟩
        · have hm := condF hb101 hm
          refine cW_skip ?_
          refine eX_block ?_
          refine eX_then ?_
          refine cW_region ?_
          refine wS_pure 3 [(5, .int .i64 (wr (x66 + 1))), (16, .int .i64 (wr (x66 + 1))), (15, .int .i64 (x66))] (by kernel_rfl) ?_
          refine wS_end (by rfl) ?_
          have hq : (some (Ctl.next (wr (x66 + 1))) : Option (Ctl (Int) (Sum (Unit) ((Bool))))) = some _ := hm
          replace hq := someE hq
          subst hq
          exact eX_next hx75 (fun hst => ⟨wr (x66 + 1), rfl, Fr.of hst (by kernel_rfl), F68, F69, hB, hZ⟩)
      · have hm := condF hb76 hm
        refine cW_exit ?_
        refine eX_then_exit ?_
        have hq : (some (Ctl.out (Sum.inl (()))) : Option (Ctl (Int) (Sum (Unit) ((Bool))))) = some _ := hm
        replace hq := someE hq
        subst hq
        refine eX_outX hx75 (fun hr102 => ?_)
        replace hr102 := hr102.symm
        subst hr102
        refine eX_block_hit ?_
        exact eX_J (fun hst => ⟨rfl, Fr.of hst (by kernel_rfl), hB, hZ⟩)
    · rintro a' w63 ⟨hJ, hF64, hB, hZ⟩
      subst hJ
      refine Fr.goX hF64 (by kernel_rfl) ?_
      refine eX_then ?_
      refine cW_seq ?_
      refine cW_region ?_
      refine wS_pure 1 [(4, .bool (true))] (by kernel_rfl) ?_
      refine wS_end (by rfl) ?_
      refine eX_then ?_
      refine cW_ret ?_
      have hq : (some true : Option ((Bool))) = some _ := hm
      replace hq := someE hq
      subst hq
      refine eX_ret (vs := [.bool (true)]) [.tmp 4] (by rfl) ⟨by (show lkE _ _ _ = _); kernel_rfl, trivial⟩ ?_
      exact ⟨rfl, hB⟩

set_option maxRecDepth 100000 in
/-- spec.l06Pair -/
theorem c_spec_l06Pair {w0 : World} {p0_0 : Int} {p0_1 : Int} {p0_2 : Int} {p0_3 : Int} {p0_4 : Int} {p1_0 : Int} {p1_1 : Int} {p1_2 : Int} {p1_3 : Int} {p1_4 : Int} {r : (Int × Int × Int × Int × Int) × (Int) × (Int)} (hm : m_spec_l06Pair p0_0 p0_1 p0_2 p0_3 p0_4 p1_0 p1_1 p1_2 p1_3 p1_4 = some r)  :
    Calls Try.prog 103 #[.agg #[.int .i64 (p0_0), .int .i64 (p0_1), .int .i64 (p0_2), .int .i64 (p0_3), .int .i64 (p0_4)], .agg #[.int .i64 (p1_0), .int .i64 (p1_1), .int .i64 (p1_2), .int .i64 (p1_3), .int .i64 (p1_4)]] w0 fun e w' => e = .returned (.tuple #[.agg #[.int .i64 (r.1.1), .int .i64 (r.1.2.1), .int .i64 (r.1.2.2.1), .int .i64 (r.1.2.2.2.1), .int .i64 (r.1.2.2.2.2)], .int .i64 (r.2.1), .int .i64 (r.2.2)]) ∧ Chg [] w0 w' := by
  have hB : Chg [] w0 w0 := Chg.refl _ _
  have hZ := Nat.le_refl w0.heap.size
  unfold m_spec_l06Pair at hm
  refine enterE (N := 56) Try.func103 (by rfl) Try.ntmps103 (by simp) [(0, .agg #[.int .i64 (p0_0), .int .i64 (p0_1), .int .i64 (p0_2), .int .i64 (p0_3), .int .i64 (p0_4)]), (1, .agg #[.int .i64 (p1_0), .int .i64 (p1_1), .int .i64 (p1_2), .int .i64 (p1_3), .int .i64 (p1_4)])] (by rfl) (by kernel_rfl) (fun a => ?_)
  refine cW_seq ?_
  refine cW_region ?_
  refine wS_box (d := 2) (T := 52) (x := .agg #[.int .i64 (p0_0), .int .i64 (p0_1), .int .i64 (p0_2), .int .i64 (p0_3), .int .i64 (p0_4)]) (by kernel_rfl) ?_
  intro b1 w2 G3 F4 hc5
  replace F4 : Cl w2 b1 52 [.int .i64 (p0_0), .int .i64 (p0_1), .int .i64 (p0_2), .int .i64 (p0_3), .int .i64 (p0_4)] := F4
  replace hB := hB.inS hc5 inNil
  replace G3 := Nat.le_trans hZ G3
  replace hZ := Nat.le_trans hZ hc5.size
  refine wS_box (d := 3) (T := 52) (x := .agg #[.int .i64 (p1_0), .int .i64 (p1_1), .int .i64 (p1_2), .int .i64 (p1_3), .int .i64 (p1_4)]) (by kernel_rfl) ?_
  intro b7 w8 G9 F10 hc11
  replace F10 : Cl w8 b7 52 [.int .i64 (p1_0), .int .i64 (p1_1), .int .i64 (p1_2), .int .i64 (p1_3), .int .i64 (p1_4)] := F10
  have D13 : Dj [b1] [b7] := Dj.of (lt1 F4.lt) (low1 G9)
  replace F4 := F4.chg hc11 notNil
  replace hB := hB.inS hc11 inNil
  replace G9 := Nat.le_trans hZ G9
  replace hZ := Nat.le_trans hZ hc11.size
  refine wS_alloc (d := 4) (T := 52) (z := .agg #[.int .i64 (0), .int .i64 (0), .int .i64 (0), .int .i64 (0), .int .i64 (0)]) (by kernel_rfl) (by kernel_rfl) ?_
  intro b14 w15 G16 F17 hc18
  replace F17 : Cl w15 b14 52 [.int .i64 (0), .int .i64 (0), .int .i64 (0), .int .i64 (0), .int .i64 (0)] := F17
  have D20 : Dj [b1] [b14] := Dj.of (lt1 F4.lt) (low1 G16)
  have D21 : Dj [b7] [b14] := Dj.of (lt1 F10.lt) (low1 G16)
  replace F4 := F4.chg hc18 notNil
  replace F10 := F10.chg hc18 notNil
  replace hB := hB.inS hc18 inNil
  replace G16 := Nat.le_trans hZ G16
  replace hZ := Nat.le_trans hZ hc18.size
  refine wS_pure 2 [(6, .int .i64 (0)), (5, .int .i64 (0))] (by kernel_rfl) ?_
  refine wS_end (by rfl) ?_
  refine eX_then ?_
  refine cW_seq ?_
  refine cW_region ?_
  refine wS_pure 1 [(12, .pointer (some ⟨b1, 0, none⟩))] (by kernel_rfl) ?_
  refine wS_loadA (d := 13) (T := 25) (ad := ⟨b1, 0, none⟩) (vs := [.int .i64 (p0_0), .int .i64 (p0_1), .int .i64 (p0_2), .int .i64 (p0_3)]) (by kernel_rfl) vt25 (fun i u hu => box_cells F4 0 hu (by rfl)) ?_
  refine wS_pure 1 [(14, .pointer (some ⟨b7, 0, none⟩))] (by kernel_rfl) ?_
  refine wS_loadA (d := 15) (T := 25) (ad := ⟨b7, 0, none⟩) (vs := [.int .i64 (p1_0), .int .i64 (p1_1), .int .i64 (p1_2), .int .i64 (p1_3)]) (by kernel_rfl) vt25 (fun i u hu => box_cells F10 0 hu (by rfl)) ?_
  obtain ⟨y22, hy23, hm⟩ := bindE hm
  refine wS_calls (d := 16) (f := 84) (vs := [.agg #[.int .i64 (p0_0), .int .i64 (p0_1), .int .i64 (p0_2), .int .i64 (p0_3)], .agg #[.int .i64 (p1_0), .int .i64 (p1_1), .int .i64 (p1_2), .int .i64 (p1_3)]]) (by kernel_rfl) ent84 (c_spec_l06Far hy23) ?_
  rintro _ w24 ⟨rfl, hc25⟩
  replace F4 := F4.chg hc25 notNil
  replace F10 := F10.chg hc25 notNil
  replace F17 := F17.chg hc25 notNil
  replace hB := hB.inS hc25 inNil
  replace hZ := Nat.le_trans hZ hc25.size
  refine ⟨.int .i64 (y22), rfl, ?_⟩
  refine wS_pure 1 [(7, .int .i64 (y22))] (by kernel_rfl) ?_
  refine wS_end (by rfl) ?_
  refine eX_then ?_
  refine cW_seq ?_
  refine cW_region ?_
  refine wS_pure 1 [(17, .pointer (some ⟨b7, 4, none⟩))] (by kernel_rfl) ?_
  refine wS_load1 (d := 18) (T := 2) (ad := ⟨b7, 4, none⟩) (v := .int .i64 (p1_4)) (by kernel_rfl) vt2 ((F10).cell 4) ?_
  refine wS_pure 1 [(19, .pointer (some ⟨b1, 4, none⟩))] (by kernel_rfl) ?_
  refine wS_load1 (d := 20) (T := 2) (ad := ⟨b1, 4, none⟩) (v := .int .i64 (p0_4)) (by kernel_rfl) vt2 ((F4).cell 4) ?_
  refine wS_pure 2 [(8, .int .i64 (wr (p1_4 - p0_4))), (21, .int .i64 (wr (p1_4 - p0_4)))] (by kernel_rfl) ?_
  refine wS_end (by rfl) ?_
  refine eX_then ?_
  refine cW_seq ?_
  refine cW_region ?_
  refine wS_pure 1 [(9, .int .i64 (0))] (by kernel_rfl) ?_
  refine wS_end (by rfl) ?_
  refine eX_then ?_
  refine cW_seq ?_
  refine cW_region ?_
  refine wS_pure 1 [(10, .int .i64 (0))] (by kernel_rfl) ?_
  refine wS_end (by rfl) ?_
  refine eX_then ?_
  refine cW_seq ?_
  obtain ⟨s36, hs37, hm⟩ := bindE hm
  refine cW_cut (fun a' w' => ∃ x30 : Int, ∃ x31 : Int, (x30, x31) = s36 ∧ Fr 56 [(2, .pointer (some ⟨b1, 0, none⟩)), (3, .pointer (some ⟨b7, 0, none⟩)), (4, .pointer (some ⟨b14, 0, none⟩)), (9, .int .i64 (x30)), (10, .int .i64 (x31))] a' ∧ Cl w' b1 52 [.int .i64 (p0_0), .int .i64 (p0_1), .int .i64 (p0_2), .int .i64 (p0_3), .int .i64 (p0_4)] ∧ Cl w' b7 52 [.int .i64 (p1_0), .int .i64 (p1_1), .int .i64 (p1_2), .int .i64 (p1_3), .int .i64 (p1_4)] ∧ Cl w' b14 52 [.int .i64 (0), .int .i64 (0), .int .i64 (0), .int .i64 (0), .int .i64 (0)] ∧ Chg [] w0 w' ∧ w0.heap.size ≤ w'.heap.size) ?_ ?_
  · have hm := hs37
    refine cW_seq ?_
    refine cW_region ?_
    refine wS_pure 3 [(24, .bool (decide ((wr (p1_4 - p0_4)) > y22))), (23, .int .i64 (y22)), (22, .int .i64 (wr (p1_4 - p0_4)))] (by kernel_rfl) ?_
    refine wS_end (by rfl) ?_
    refine eX_then ?_
    refine cW_prune [(2, .pointer (some ⟨b1, 0, none⟩)), (3, .pointer (some ⟨b7, 0, none⟩)), (4, .pointer (some ⟨b14, 0, none⟩)), (7, .int .i64 (y22)), (8, .int .i64 (wr (p1_4 - p0_4))), (9, .int .i64 (0)), (10, .int .i64 (0)), (24, .bool (decide ((wr (p1_4 - p0_4)) > y22)))] (by kernel_rfl) (by kernel_rfl) (fun a38 => ?_)
    refine cW_cond (t := decide ((wr (p1_4 - p0_4)) > y22)) (by kernel_rfl) (fun hb39 => ?_) (fun hb39 => ?_)
    · have hm := condT hb39 hm
      refine cW_region ?_
      refine wS_pure 2 [(9, .int .i64 (wr (p1_4 - p0_4))), (25, .int .i64 (wr (p1_4 - p0_4)))] (by kernel_rfl) ?_
      refine wS_end (by rfl) ?_
      have hq : (some ((wr (p1_4 - p0_4), 0)) : Option (Int × Int)) = some _ := hm
      replace hq := someE hq
      subst hq
      exact eX_J (fun hst => ⟨wr (p1_4 - p0_4), 0, rfl, Fr.of hst (by kernel_rfl), F4, F10, F17, hB, hZ⟩)
    · have hm := condF hb39 hm
      refine cW_seq ?_
      refine cW_region ?_
      refine wS_pure 4 [(29, .bool (decide ((wr (p1_4 - p0_4)) < (wr (0 - y22))))), (28, .int .i64 (wr (0 - y22))), (27, .int .i64 (y22)), (26, .int .i64 (wr (p1_4 - p0_4)))] (by kernel_rfl) ?_
      refine wS_end (by rfl) ?_
      refine eX_then ?_
      refine cW_cond (t := decide ((wr (p1_4 - p0_4)) < (wr (0 - y22)))) (by kernel_rfl) (fun hb40 => ?_) (fun hb40 => ?_)
      · have hm := condT hb40 hm
        refine cW_region ?_
        refine wS_pure 3 [(10, .int .i64 (wr (0 - (wr (p1_4 - p0_4))))), (31, .int .i64 (wr (0 - (wr (p1_4 - p0_4))))), (30, .int .i64 (wr (p1_4 - p0_4)))] (by kernel_rfl) ?_
        refine wS_end (by rfl) ?_
        have hq : (some ((0, wr (0 - (wr (p1_4 - p0_4))))) : Option (Int × Int)) = some _ := hm
        replace hq := someE hq
        subst hq
        exact eX_J (fun hst => ⟨0, wr (0 - (wr (p1_4 - p0_4))), rfl, Fr.of hst (by kernel_rfl), F4, F10, F17, hB, hZ⟩)
      · have hm := condF hb40 hm
        refine cW_seq ?_
        refine cW_region ?_
        refine wS_pure 5 [(9, .int .i64 (wr (Int.tdiv (wr (y22 + (wr (p1_4 - p0_4)))) 2))), (35, .int .i64 (wr (Int.tdiv (wr (y22 + (wr (p1_4 - p0_4)))) 2))), (34, .int .i64 (wr (y22 + (wr (p1_4 - p0_4))))), (33, .int .i64 (wr (p1_4 - p0_4))), (32, .int .i64 (y22))] (by kernel_rfl) ?_
        refine wS_end (by rfl) ?_
        refine eX_then ?_
        refine cW_region ?_
        refine wS_pure 4 [(10, .int .i64 (wr (y22 - (wr (Int.tdiv (wr (y22 + (wr (p1_4 - p0_4)))) 2))))), (38, .int .i64 (wr (y22 - (wr (Int.tdiv (wr (y22 + (wr (p1_4 - p0_4)))) 2))))), (37, .int .i64 (wr (Int.tdiv (wr (y22 + (wr (p1_4 - p0_4)))) 2))), (36, .int .i64 (y22))] (by kernel_rfl) ?_
        refine wS_end (by rfl) ?_
        have hq : (some ((wr (Int.tdiv (wr (y22 + (wr (p1_4 - p0_4)))) 2), wr (y22 - (wr (Int.tdiv (wr (y22 + (wr (p1_4 - p0_4)))) 2))))) : Option (Int × Int)) = some _ := hm
        replace hq := someE hq
        subst hq
        exact eX_J (fun hst => ⟨wr (Int.tdiv (wr (y22 + (wr (p1_4 - p0_4)))) 2), wr (y22 - (wr (Int.tdiv (wr (y22 + (wr (p1_4 - p0_4)))) 2))), rfl, Fr.of hst (by kernel_rfl), F4, F10, F17, hB, hZ⟩)
  · rintro a' w29 ⟨x30, x31, hJ, hF32, F33, F34, F35, hB, hZ⟩
    subst hJ
    refine Fr.goX hF32 (by kernel_rfl) ?_
    refine eX_then ?_
    refine cW_seq ?_
    obtain ⟨s241, hs242, hm⟩ := bindE hm
    refine cW_cut (fun a' w' => ∃ b228 : Nat, ∃ x229 : Int, ∃ x230 : Int, ∃ x231 : Int, ∃ x232 : Int, (x229, x230, x231, x232) = s241 ∧ Fr 56 [(2, .pointer (some ⟨b1, 0, none⟩)), (4, .pointer (some ⟨b14, 0, none⟩)), (9, .int .i64 (x30)), (10, .int .i64 (x31)), (11, .pointer (some ⟨b228, 0, none⟩))] a' ∧ Cl w' b1 52 [.int .i64 (p0_0), .int .i64 (p0_1), .int .i64 (p0_2), .int .i64 (p0_3), .int .i64 (p0_4)] ∧ Cl w' b14 52 [.int .i64 (0), .int .i64 (0), .int .i64 (0), .int .i64 (0), .int .i64 (0)] ∧ Cl w' b228 25 [.int .i64 (x229), .int .i64 (x230), .int .i64 (x231), .int .i64 (x232)] ∧ w0.heap.size ≤ b228 ∧ Dj [b1] [b228] ∧ Dj [b14] [b228] ∧ Chg [] w0 w' ∧ w0.heap.size ≤ w'.heap.size) ?_ ?_
    · have hm := hs242
      refine cW_drawnTail [] 10 (by kernel_rfl) (by kernel_rfl) (fun w243 hc244 => ?_)
      replace F33 := F33.chg hc244 notNil
      replace F34 := F34.chg hc244 notNil
      replace F35 := F35.chg hc244 notNil
      replace hB := hB.inS hc244 inNil
      replace hZ := Nat.le_trans hZ hc244.size
      have hS := Chg.refl [] w243
      have Z245 := F33
      have Z246 := F34
      have Z247 := F35
      refine wH_take [0] [0] [(39, .pointer (some ⟨b1, 0, none⟩))] (by kernel_rfl) (qT (qT (qT qZ))) (by kernel_rfl) ?_
      refine wH_loadA (i := 1) (d := 40) (T := 25) (ad := ⟨b1, 0, none⟩) (vs := [.int .i64 (p0_0), .int .i64 (p0_1), .int .i64 (p0_2), .int .i64 (p0_3)]) (by kernel_rfl) (qT (qT (qT qZ))) (by kernel_rfl) (by kernel_rfl) vt25 (fun W hW i u hu => box_cells (Z245.chg hW notNil) 0 hu (by rfl)) ?_
      refine wH_take [2, 4] [4, 2, 1, 0] [(43, .pointer (some ⟨b7, 0, none⟩)), (41, .int .i64 (x30))] (by kernel_rfl) (qT (qT (qT qZ))) (by kernel_rfl) ?_
      refine wH_loadA (i := 5) (d := 44) (T := 25) (ad := ⟨b7, 0, none⟩) (vs := [.int .i64 (p1_0), .int .i64 (p1_1), .int .i64 (p1_2), .int .i64 (p1_3)]) (by kernel_rfl) (qT (qT (qT qZ))) (by kernel_rfl) (by kernel_rfl) vt25 (fun W hW i u hu => box_cells (Z246.chg hW notNil) 0 hu (by rfl)) ?_
      refine wH_take [6] [6, 5, 4, 2, 1, 0] [(45, .int .i64 (x31))] (by kernel_rfl) (qT (qT (qT qZ))) (by kernel_rfl) ?_
      refine wH_all [3, 9] (by rfl) (by kernel_rfl) (by simp) ⟨⟨by kernel_rfl, ?_⟩, ⟨by kernel_rfl, ?_⟩, trivial⟩
      · skip
        obtain ⟨y248, hy249, hm⟩ := bindE hm
        refine wS_calls (d := 42) (f := 89) (vs := [.agg #[.int .i64 (p0_0), .int .i64 (p0_1), .int .i64 (p0_2), .int .i64 (p0_3)], .int .i64 (x30)]) (by kernel_rfl) ent89 (c_spec_l06Grow hy249) ?_
        rintro _ w250 ⟨rfl, hc251⟩
        replace F33 := F33.chg hc251 notNil
        replace F34 := F34.chg hc251 notNil
        replace F35 := F35.chg hc251 notNil
        replace hB := hB.inS hc251 inNil
        have hSz := hS
        replace hS := hS.inS hc251 inNil
        replace hZ := Nat.le_trans hZ hc251.size
        refine ⟨.agg #[.int .i64 (y248.1), .int .i64 (y248.2.1), .int .i64 (y248.2.2.1), .int .i64 (y248.2.2.2)], rfl, ?_⟩
        refine wS_end (by kernel_rfl) ?_
        refine eX_KH hS ?_
        refine wH_all [7, 9] (by rfl) (by kernel_rfl) (by simp) ⟨⟨by kernel_rfl, ?_⟩, ⟨by kernel_rfl, ?_⟩, trivial⟩
        · skip
          obtain ⟨y252, hy253, hm⟩ := bindE hm
          refine wS_calls (d := 46) (f := 89) (vs := [.agg #[.int .i64 (p1_0), .int .i64 (p1_1), .int .i64 (p1_2), .int .i64 (p1_3)], .int .i64 (x31)]) (by kernel_rfl) ent89 (c_spec_l06Grow hy253) ?_
          rintro _ w254 ⟨rfl, hc255⟩
          replace F33 := F33.chg hc255 notNil
          replace F34 := F34.chg hc255 notNil
          replace F35 := F35.chg hc255 notNil
          replace hB := hB.inS hc255 inNil
          have hSz := hS
          replace hS := hS.inS hc255 inNil
          replace hZ := Nat.le_trans hZ hc255.size
          refine ⟨.agg #[.int .i64 (y252.1), .int .i64 (y252.2.1), .int .i64 (y252.2.2.1), .int .i64 (y252.2.2.2)], rfl, ?_⟩
          refine wS_end (by kernel_rfl) ?_
          refine eX_KH hS ?_
          refine wH_all [8, 9] (by rfl) (by kernel_rfl) (by simp) ⟨⟨by kernel_rfl, ?_⟩, ⟨by kernel_rfl, ?_⟩, trivial⟩
          · skip
            obtain ⟨y256, hy257, hm⟩ := bindE hm
            refine wS_calls (d := 47) (f := 91) (vs := [.agg #[.int .i64 (y248.1), .int .i64 (y248.2.1), .int .i64 (y248.2.2.1), .int .i64 (y248.2.2.2)], .agg #[.int .i64 (y252.1), .int .i64 (y252.2.1), .int .i64 (y252.2.2.1), .int .i64 (y252.2.2.2)]]) (by kernel_rfl) ent91 (c_spec_l06Meet hy257) ?_
            rintro _ w258 ⟨rfl, hc259⟩
            replace F33 := F33.chg hc259 notNil
            replace F34 := F34.chg hc259 notNil
            replace F35 := F35.chg hc259 notNil
            replace hB := hB.inS hc259 inNil
            have hSz := hS
            replace hS := hS.inS hc259 inNil
            replace hZ := Nat.le_trans hZ hc259.size
            refine ⟨.agg #[.int .i64 (y256.1), .int .i64 (y256.2.1), .int .i64 (y256.2.2.1), .int .i64 (y256.2.2.2)], rfl, ?_⟩
            refine wS_end (by kernel_rfl) ?_
            refine eX_KH hS ?_
            refine wH_all [9] (by rfl) (by kernel_rfl) (by simp) ⟨⟨by kernel_rfl, ?_⟩, trivial⟩
            refine wS_alloc (d := 11) (T := 25) (z := .agg #[.int .i64 (0), .int .i64 (0), .int .i64 (0), .int .i64 (0)]) (by kernel_rfl) (by kernel_rfl) ?_
            intro b260 w261 G262 F263 hc264
            replace F263 : Cl w261 b260 25 [.int .i64 (0), .int .i64 (0), .int .i64 (0), .int .i64 (0)] := F263
            have D266 : Dj [b1] [b260] := Dj.of (lt1 F33.lt) (low1 G262)
            have D267 : Dj [b7] [b260] := Dj.of (lt1 F34.lt) (low1 G262)
            have D268 : Dj [b14] [b260] := Dj.of (lt1 F35.lt) (low1 G262)
            replace F33 := F33.chg hc264 notNil
            replace F34 := F34.chg hc264 notNil
            replace F35 := F35.chg hc264 notNil
            replace hB := hB.inS hc264 inNil
            have hSz := hS
            replace hS := hS.inS hc264 inNil
            have Gz269 := low1 (Nat.le_trans hSz.size G262)
            replace G262 := Nat.le_trans hZ G262
            replace hZ := Nat.le_trans hZ hc264.size
            refine wS_end (by kernel_rfl) ?_
            refine eX_KH hS ?_
            refine wH_done (by kernel_rfl) ?_
            refine eX_tail ?_
            refine wS_store (T := 25) (g := b260) (o := 0) (ad := ⟨b260, 0, none⟩) (v := .agg #[.int .i64 (y256.1), .int .i64 (y256.2.1), .int .i64 (y256.2.2.1), .int .i64 (y256.2.2.2)]) (vs := [.int .i64 (y256.1), .int .i64 (y256.2.1), .int .i64 (y256.2.2.1), .int .i64 (y256.2.2.2)]) (by kernel_rfl) (by rfl) sz25 (by rfl) (by rfl) F263 (by simp only [List.length_cons, List.length_nil]; omega) ?_
            intro w270 F271 hc272
            replace F33 := F33.chg hc272 (dj1 D266)
            replace F34 := F34.chg hc272 (dj1 D267)
            replace F35 := F35.chg hc272 (dj1 D268)
            replace hB := hB.inS hc272 (inLow (low1 G262))
            replace hZ := Nat.le_trans hZ hc272.size
            replace F271 : Cl w270 b260 25 [.int .i64 (y256.1), .int .i64 (y256.2.1), .int .i64 (y256.2.2.1), .int .i64 (y256.2.2.2)] := F271
            clear F263
            refine wS_end (by rfl) ?_
            have hq : (some ((y256.1, y256.2.1, y256.2.2.1, y256.2.2.2)) : Option (Int × Int × Int × Int)) = some _ := hm
            replace hq := someE hq
            subst hq
            exact eX_J (fun hst => ⟨b260, y256.1, y256.2.1, y256.2.2.1, y256.2.2.2, rfl, Fr.of hst (by kernel_rfl), F33, F35, F271, G262, D266, D268, hB, hZ⟩)
          · skip
            refine wS_alloc (d := 11) (T := 25) (z := .agg #[.int .i64 (0), .int .i64 (0), .int .i64 (0), .int .i64 (0)]) (by kernel_rfl) (by kernel_rfl) ?_
            intro b273 w274 G275 F276 hc277
            replace F276 : Cl w274 b273 25 [.int .i64 (0), .int .i64 (0), .int .i64 (0), .int .i64 (0)] := F276
            have D279 : Dj [b1] [b273] := Dj.of (lt1 F33.lt) (low1 G275)
            have D280 : Dj [b7] [b273] := Dj.of (lt1 F34.lt) (low1 G275)
            have D281 : Dj [b14] [b273] := Dj.of (lt1 F35.lt) (low1 G275)
            replace F33 := F33.chg hc277 notNil
            replace F34 := F34.chg hc277 notNil
            replace F35 := F35.chg hc277 notNil
            replace hB := hB.inS hc277 inNil
            have hSz := hS
            replace hS := hS.inS hc277 inNil
            have Gz282 := low1 (Nat.le_trans hSz.size G275)
            replace G275 := Nat.le_trans hZ G275
            replace hZ := Nat.le_trans hZ hc277.size
            refine wS_end (by kernel_rfl) ?_
            refine eX_KH hS ?_
            refine wH_all [8] (by rfl) (by kernel_rfl) (by simp) ⟨⟨by kernel_rfl, ?_⟩, trivial⟩
            obtain ⟨y283, hy284, hm⟩ := bindE hm
            refine wS_calls (d := 47) (f := 91) (vs := [.agg #[.int .i64 (y248.1), .int .i64 (y248.2.1), .int .i64 (y248.2.2.1), .int .i64 (y248.2.2.2)], .agg #[.int .i64 (y252.1), .int .i64 (y252.2.1), .int .i64 (y252.2.2.1), .int .i64 (y252.2.2.2)]]) (by kernel_rfl) ent91 (c_spec_l06Meet hy284) ?_
            rintro _ w285 ⟨rfl, hc286⟩
            replace F33 := F33.chg hc286 notNil
            replace F34 := F34.chg hc286 notNil
            replace F35 := F35.chg hc286 notNil
            replace F276 := F276.chg hc286 notNil
            replace hB := hB.inS hc286 inNil
            have hSz := hS
            replace hS := hS.inS hc286 inNil
            replace hZ := Nat.le_trans hZ hc286.size
            refine ⟨.agg #[.int .i64 (y283.1), .int .i64 (y283.2.1), .int .i64 (y283.2.2.1), .int .i64 (y283.2.2.2)], rfl, ?_⟩
            refine wS_end (by kernel_rfl) ?_
            refine eX_KH hS ?_
            refine wH_done (by kernel_rfl) ?_
            refine eX_tail ?_
            refine wS_store (T := 25) (g := b273) (o := 0) (ad := ⟨b273, 0, none⟩) (v := .agg #[.int .i64 (y283.1), .int .i64 (y283.2.1), .int .i64 (y283.2.2.1), .int .i64 (y283.2.2.2)]) (vs := [.int .i64 (y283.1), .int .i64 (y283.2.1), .int .i64 (y283.2.2.1), .int .i64 (y283.2.2.2)]) (by kernel_rfl) (by rfl) sz25 (by rfl) (by rfl) F276 (by simp only [List.length_cons, List.length_nil]; omega) ?_
            intro w287 F288 hc289
            replace F33 := F33.chg hc289 (dj1 D279)
            replace F34 := F34.chg hc289 (dj1 D280)
            replace F35 := F35.chg hc289 (dj1 D281)
            replace hB := hB.inS hc289 (inLow (low1 G275))
            replace hZ := Nat.le_trans hZ hc289.size
            replace F288 : Cl w287 b273 25 [.int .i64 (y283.1), .int .i64 (y283.2.1), .int .i64 (y283.2.2.1), .int .i64 (y283.2.2.2)] := F288
            clear F276
            refine wS_end (by rfl) ?_
            have hq : (some ((y283.1, y283.2.1, y283.2.2.1, y283.2.2.2)) : Option (Int × Int × Int × Int)) = some _ := hm
            replace hq := someE hq
            subst hq
            exact eX_J (fun hst => ⟨b273, y283.1, y283.2.1, y283.2.2.1, y283.2.2.2, rfl, Fr.of hst (by kernel_rfl), F33, F35, F288, G275, D279, D281, hB, hZ⟩)
        · skip
          refine wS_alloc (d := 11) (T := 25) (z := .agg #[.int .i64 (0), .int .i64 (0), .int .i64 (0), .int .i64 (0)]) (by kernel_rfl) (by kernel_rfl) ?_
          intro b290 w291 G292 F293 hc294
          replace F293 : Cl w291 b290 25 [.int .i64 (0), .int .i64 (0), .int .i64 (0), .int .i64 (0)] := F293
          have D296 : Dj [b1] [b290] := Dj.of (lt1 F33.lt) (low1 G292)
          have D297 : Dj [b7] [b290] := Dj.of (lt1 F34.lt) (low1 G292)
          have D298 : Dj [b14] [b290] := Dj.of (lt1 F35.lt) (low1 G292)
          replace F33 := F33.chg hc294 notNil
          replace F34 := F34.chg hc294 notNil
          replace F35 := F35.chg hc294 notNil
          replace hB := hB.inS hc294 inNil
          have hSz := hS
          replace hS := hS.inS hc294 inNil
          have Gz299 := low1 (Nat.le_trans hSz.size G292)
          replace G292 := Nat.le_trans hZ G292
          replace hZ := Nat.le_trans hZ hc294.size
          refine wS_end (by kernel_rfl) ?_
          refine eX_KH hS ?_
          refine wH_all [7] (by rfl) (by kernel_rfl) (by simp) ⟨⟨by kernel_rfl, ?_⟩, trivial⟩
          obtain ⟨y300, hy301, hm⟩ := bindE hm
          refine wS_calls (d := 46) (f := 89) (vs := [.agg #[.int .i64 (p1_0), .int .i64 (p1_1), .int .i64 (p1_2), .int .i64 (p1_3)], .int .i64 (x31)]) (by kernel_rfl) ent89 (c_spec_l06Grow hy301) ?_
          rintro _ w302 ⟨rfl, hc303⟩
          replace F33 := F33.chg hc303 notNil
          replace F34 := F34.chg hc303 notNil
          replace F35 := F35.chg hc303 notNil
          replace F293 := F293.chg hc303 notNil
          replace hB := hB.inS hc303 inNil
          have hSz := hS
          replace hS := hS.inS hc303 inNil
          replace hZ := Nat.le_trans hZ hc303.size
          refine ⟨.agg #[.int .i64 (y300.1), .int .i64 (y300.2.1), .int .i64 (y300.2.2.1), .int .i64 (y300.2.2.2)], rfl, ?_⟩
          refine wS_end (by kernel_rfl) ?_
          refine eX_KH hS ?_
          refine wH_all [8] (by rfl) (by kernel_rfl) (by simp) ⟨⟨by kernel_rfl, ?_⟩, trivial⟩
          obtain ⟨y304, hy305, hm⟩ := bindE hm
          refine wS_calls (d := 47) (f := 91) (vs := [.agg #[.int .i64 (y248.1), .int .i64 (y248.2.1), .int .i64 (y248.2.2.1), .int .i64 (y248.2.2.2)], .agg #[.int .i64 (y300.1), .int .i64 (y300.2.1), .int .i64 (y300.2.2.1), .int .i64 (y300.2.2.2)]]) (by kernel_rfl) ent91 (c_spec_l06Meet hy305) ?_
          rintro _ w306 ⟨rfl, hc307⟩
          replace F33 := F33.chg hc307 notNil
          replace F34 := F34.chg hc307 notNil
          replace F35 := F35.chg hc307 notNil
          replace F293 := F293.chg hc307 notNil
          replace hB := hB.inS hc307 inNil
          have hSz := hS
          replace hS := hS.inS hc307 inNil
          replace hZ := Nat.le_trans hZ hc307.size
          refine ⟨.agg #[.int .i64 (y304.1), .int .i64 (y304.2.1), .int .i64 (y304.2.2.1), .int .i64 (y304.2.2.2)], rfl, ?_⟩
          refine wS_end (by kernel_rfl) ?_
          refine eX_KH hS ?_
          refine wH_done (by kernel_rfl) ?_
          refine eX_tail ?_
          refine wS_store (T := 25) (g := b290) (o := 0) (ad := ⟨b290, 0, none⟩) (v := .agg #[.int .i64 (y304.1), .int .i64 (y304.2.1), .int .i64 (y304.2.2.1), .int .i64 (y304.2.2.2)]) (vs := [.int .i64 (y304.1), .int .i64 (y304.2.1), .int .i64 (y304.2.2.1), .int .i64 (y304.2.2.2)]) (by kernel_rfl) (by rfl) sz25 (by rfl) (by rfl) F293 (by simp only [List.length_cons, List.length_nil]; omega) ?_
          intro w308 F309 hc310
          replace F33 := F33.chg hc310 (dj1 D296)
          replace F34 := F34.chg hc310 (dj1 D297)
          replace F35 := F35.chg hc310 (dj1 D298)
          replace hB := hB.inS hc310 (inLow (low1 G292))
          replace hZ := Nat.le_trans hZ hc310.size
          replace F309 : Cl w308 b290 25 [.int .i64 (y304.1), .int .i64 (y304.2.1), .int .i64 (y304.2.2.1), .int .i64 (y304.2.2.2)] := F309
          clear F293
          refine wS_end (by rfl) ?_
          have hq : (some ((y304.1, y304.2.1, y304.2.2.1, y304.2.2.2)) : Option (Int × Int × Int × Int)) = some _ := hm
          replace hq := someE hq
          subst hq
          exact eX_J (fun hst => ⟨b290, y304.1, y304.2.1, y304.2.2.1, y304.2.2.2, rfl, Fr.of hst (by kernel_rfl), F33, F35, F309, G292, D296, D298, hB, hZ⟩)
      · skip
        refine wS_alloc (d := 11) (T := 25) (z := .agg #[.int .i64 (0), .int .i64 (0), .int .i64 (0), .int .i64 (0)]) (by kernel_rfl) (by kernel_rfl) ?_
        intro b311 w312 G313 F314 hc315
        replace F314 : Cl w312 b311 25 [.int .i64 (0), .int .i64 (0), .int .i64 (0), .int .i64 (0)] := F314
        have D317 : Dj [b1] [b311] := Dj.of (lt1 F33.lt) (low1 G313)
        have D318 : Dj [b7] [b311] := Dj.of (lt1 F34.lt) (low1 G313)
        have D319 : Dj [b14] [b311] := Dj.of (lt1 F35.lt) (low1 G313)
        replace F33 := F33.chg hc315 notNil
        replace F34 := F34.chg hc315 notNil
        replace F35 := F35.chg hc315 notNil
        replace hB := hB.inS hc315 inNil
        have hSz := hS
        replace hS := hS.inS hc315 inNil
        have Gz320 := low1 (Nat.le_trans hSz.size G313)
        replace G313 := Nat.le_trans hZ G313
        replace hZ := Nat.le_trans hZ hc315.size
        refine wS_end (by kernel_rfl) ?_
        refine eX_KH hS ?_
        refine wH_all [3] (by rfl) (by kernel_rfl) (by simp) ⟨⟨by kernel_rfl, ?_⟩, trivial⟩
        obtain ⟨y321, hy322, hm⟩ := bindE hm
        refine wS_calls (d := 42) (f := 89) (vs := [.agg #[.int .i64 (p0_0), .int .i64 (p0_1), .int .i64 (p0_2), .int .i64 (p0_3)], .int .i64 (x30)]) (by kernel_rfl) ent89 (c_spec_l06Grow hy322) ?_
        rintro _ w323 ⟨rfl, hc324⟩
        replace F33 := F33.chg hc324 notNil
        replace F34 := F34.chg hc324 notNil
        replace F35 := F35.chg hc324 notNil
        replace F314 := F314.chg hc324 notNil
        replace hB := hB.inS hc324 inNil
        have hSz := hS
        replace hS := hS.inS hc324 inNil
        replace hZ := Nat.le_trans hZ hc324.size
        refine ⟨.agg #[.int .i64 (y321.1), .int .i64 (y321.2.1), .int .i64 (y321.2.2.1), .int .i64 (y321.2.2.2)], rfl, ?_⟩
        refine wS_end (by kernel_rfl) ?_
        refine eX_KH hS ?_
        refine wH_all [7] (by rfl) (by kernel_rfl) (by simp) ⟨⟨by kernel_rfl, ?_⟩, trivial⟩
        obtain ⟨y325, hy326, hm⟩ := bindE hm
        refine wS_calls (d := 46) (f := 89) (vs := [.agg #[.int .i64 (p1_0), .int .i64 (p1_1), .int .i64 (p1_2), .int .i64 (p1_3)], .int .i64 (x31)]) (by kernel_rfl) ent89 (c_spec_l06Grow hy326) ?_
        rintro _ w327 ⟨rfl, hc328⟩
        replace F33 := F33.chg hc328 notNil
        replace F34 := F34.chg hc328 notNil
        replace F35 := F35.chg hc328 notNil
        replace F314 := F314.chg hc328 notNil
        replace hB := hB.inS hc328 inNil
        have hSz := hS
        replace hS := hS.inS hc328 inNil
        replace hZ := Nat.le_trans hZ hc328.size
        refine ⟨.agg #[.int .i64 (y325.1), .int .i64 (y325.2.1), .int .i64 (y325.2.2.1), .int .i64 (y325.2.2.2)], rfl, ?_⟩
        refine wS_end (by kernel_rfl) ?_
        refine eX_KH hS ?_
        refine wH_all [8] (by rfl) (by kernel_rfl) (by simp) ⟨⟨by kernel_rfl, ?_⟩, trivial⟩
        obtain ⟨y329, hy330, hm⟩ := bindE hm
        refine wS_calls (d := 47) (f := 91) (vs := [.agg #[.int .i64 (y321.1), .int .i64 (y321.2.1), .int .i64 (y321.2.2.1), .int .i64 (y321.2.2.2)], .agg #[.int .i64 (y325.1), .int .i64 (y325.2.1), .int .i64 (y325.2.2.1), .int .i64 (y325.2.2.2)]]) (by kernel_rfl) ent91 (c_spec_l06Meet hy330) ?_
        rintro _ w331 ⟨rfl, hc332⟩
        replace F33 := F33.chg hc332 notNil
        replace F34 := F34.chg hc332 notNil
        replace F35 := F35.chg hc332 notNil
        replace F314 := F314.chg hc332 notNil
        replace hB := hB.inS hc332 inNil
        have hSz := hS
        replace hS := hS.inS hc332 inNil
        replace hZ := Nat.le_trans hZ hc332.size
        refine ⟨.agg #[.int .i64 (y329.1), .int .i64 (y329.2.1), .int .i64 (y329.2.2.1), .int .i64 (y329.2.2.2)], rfl, ?_⟩
        refine wS_end (by kernel_rfl) ?_
        refine eX_KH hS ?_
        refine wH_done (by kernel_rfl) ?_
        refine eX_tail ?_
        refine wS_store (T := 25) (g := b311) (o := 0) (ad := ⟨b311, 0, none⟩) (v := .agg #[.int .i64 (y329.1), .int .i64 (y329.2.1), .int .i64 (y329.2.2.1), .int .i64 (y329.2.2.2)]) (vs := [.int .i64 (y329.1), .int .i64 (y329.2.1), .int .i64 (y329.2.2.1), .int .i64 (y329.2.2.2)]) (by kernel_rfl) (by rfl) sz25 (by rfl) (by rfl) F314 (by simp only [List.length_cons, List.length_nil]; omega) ?_
        intro w333 F334 hc335
        replace F33 := F33.chg hc335 (dj1 D317)
        replace F34 := F34.chg hc335 (dj1 D318)
        replace F35 := F35.chg hc335 (dj1 D319)
        replace hB := hB.inS hc335 (inLow (low1 G313))
        replace hZ := Nat.le_trans hZ hc335.size
        replace F334 : Cl w333 b311 25 [.int .i64 (y329.1), .int .i64 (y329.2.1), .int .i64 (y329.2.2.1), .int .i64 (y329.2.2.2)] := F334
        clear F314
        refine wS_end (by rfl) ?_
        have hq : (some ((y329.1, y329.2.1, y329.2.2.1, y329.2.2.2)) : Option (Int × Int × Int × Int)) = some _ := hm
        replace hq := someE hq
        subst hq
        exact eX_J (fun hst => ⟨b311, y329.1, y329.2.1, y329.2.2.1, y329.2.2.2, rfl, Fr.of hst (by kernel_rfl), F33, F35, F334, G313, D317, D319, hB, hZ⟩)
    · rintro a' w227 ⟨b228, x229, x230, x231, x232, hJ, hF234, F235, F236, F237, G238, D239, D240, hB, hZ⟩
      subst hJ
      refine Fr.goX hF234 (by kernel_rfl) ?_
      refine eX_then ?_
      refine cW_seq ?_
      refine cW_region ?_
      refine wS_loadA (d := 48) (T := 25) (ad := ⟨b228, 0, none⟩) (vs := [.int .i64 (x229), .int .i64 (x230), .int .i64 (x231), .int .i64 (x232)]) (by kernel_rfl) vt25 (fun i u hu => box_cells F237 0 hu (by rfl)) ?_
      refine wS_pure 1 [(49, .pointer (some ⟨b1, 4, none⟩))] (by kernel_rfl) ?_
      refine wS_load1 (d := 50) (T := 2) (ad := ⟨b1, 4, none⟩) (v := .int .i64 (p0_4)) (by kernel_rfl) vt2 ((F235).cell 4) ?_
      refine wS_pure 5 [(55, .int .i64 (x31)), (54, .int .i64 (x30)), (53, .agg #[.int .i64 (x229), .int .i64 (x230), .int .i64 (x231), .int .i64 (x232), .int .i64 (wr (p0_4 + x30))]), (52, .int .i64 (wr (p0_4 + x30))), (51, .int .i64 (x30))] (by kernel_rfl) ?_
      refine wS_store (T := 52) (g := b14) (o := 0) (ad := ⟨b14, 0, none⟩) (v := .agg #[.int .i64 (x229), .int .i64 (x230), .int .i64 (x231), .int .i64 (x232), .int .i64 (wr (p0_4 + x30))]) (vs := [.int .i64 (x229), .int .i64 (x230), .int .i64 (x231), .int .i64 (x232), .int .i64 (wr (p0_4 + x30))]) (by kernel_rfl) (by rfl) sz52 (by rfl) (by rfl) F236 (by simp only [List.length_cons, List.length_nil]; omega) ?_
      intro w336 F337 hc338
      replace F235 := F235.chg hc338 (dj1 D20)
      replace F237 := F237.chg hc338 (dj1 (D240).symm)
      replace hB := hB.inS hc338 (inLow (low1 G16))
      replace hZ := Nat.le_trans hZ hc338.size
      replace F337 : Cl w336 b14 52 [.int .i64 (x229), .int .i64 (x230), .int .i64 (x231), .int .i64 (x232), .int .i64 (wr (p0_4 + x30))] := F337
      clear F236
      refine wS_pure 2 [(6, .int .i64 (x31)), (5, .int .i64 (x30))] (by kernel_rfl) ?_
      refine wS_end (by rfl) ?_
      refine eX_then ?_
      refine cW_ret ?_
      have hq : (some (((x229, x230, x231, x232, wr (p0_4 + x30)), x30, x31)) : Option ((Int × Int × Int × Int × Int) × (Int) × (Int))) = some _ := hm
      replace hq := someE hq
      subst hq
      refine eX_ret (vs := [.agg #[.int .i64 (x229), .int .i64 (x230), .int .i64 (x231), .int .i64 (x232), .int .i64 (wr (p0_4 + x30))], .int .i64 (x30), .int .i64 (x31)]) [.cell 4 52, .tmp 5, .tmp 6] (by rfl) ⟨⟨⟨b14, 0, none⟩, by kernel_rfl, run_loadVarA (vs := [.int .i64 (x229), .int .i64 (x230), .int .i64 (x231), .int .i64 (x232), .int .i64 (wr (p0_4 + x30))]) vt52 (fun i u hu => by exact box_cells F337 0 hu (by rfl))⟩, ⟨by (show lkE _ _ _ = _); kernel_rfl, ⟨by (show lkE _ _ _ = _); kernel_rfl, trivial⟩⟩⟩ ?_
      exact ⟨rfl, hB⟩

set_option maxRecDepth 100000 in
/-- impl.clockPins -/
theorem c_impl_clockPins {w0 : World} {l0 : List (Int × Int)} {A0 : Option Addr} {cap0 : Nat} {fp0 : List Nat} {r : (Bool)} (hm : m_impl_clockPins l0 = some r) (F0 : Sl 2 encII w0 fp0 A0 l0) :
    Calls Try.prog 112 #[.slice A0 (l0).length cap0] w0 fun e w' => e = .returned (.bool (r)) ∧ Chg [] w0 w' := by
  have L0 := F0.low
  have hB : Chg [] w0 w0 := Chg.refl _ _
  have hZ := Nat.le_refl w0.heap.size
  unfold m_impl_clockPins at hm
  refine enterE (N := 11) Try.func112 (by rfl) Try.ntmps112 (by simp) [(0, .slice A0 (l0).length cap0)] (by rfl) (by kernel_rfl) (fun a => ?_)
  refine cW_seq ?_
  refine cW_region ?_
  refine wS_pure 1 [(2, .bool (false))] (by kernel_rfl) ?_
  refine wS_end (by rfl) ?_
  refine eX_then ?_
  refine cW_seq ?_
  refine cW_region ?_
  refine wS_pure 2 [(4, .int .i64 (((l0).length : Int))), (3, .slice A0 (l0).length cap0)] (by kernel_rfl) ?_
  obtain ⟨y2, hy3, hm⟩ := bindE hm
  refine wS_calls (d := 5) (f := 79) (vs := [.int .i64 (((l0).length : Int)), .int .i64 (2), .int .i64 (12)]) (by kernel_rfl) ent79 (c_impl_in hy3) ?_
  rintro _ w4 ⟨rfl, hc5⟩
  replace F0 := F0.chg hc5 Dj.nil
  replace hB := hB.inS hc5 inNil
  replace hZ := Nat.le_trans hZ hc5.size
  refine ⟨.bool (y2), rfl, ?_⟩
  refine wS_pure 1 [(6, .bool (y2))] (by kernel_rfl) ?_
  refine wS_bool y2 (fun hb6 => ?_) (fun hb6 => ?_)
  · have hm := condT hb6 hm
    rewrite [hb6]
    refine wS_pure 1 [(7, .slice A0 (l0).length cap0)] (by kernel_rfl) ?_
    obtain ⟨y7, hy8, hm⟩ := bindE hm
    refine wS_calls (d := 8) (f := 125) (vs := [.slice A0 (l0).length cap0, .func (.func 126) #[] #[]]) (by kernel_rfl) ent125 (c_slices_ContainsFunc_impl_Point_impl_Point_impl_noPoint hy8 F0) ?_
    rintro _ w9 ⟨rfl, hc10⟩
    replace F0 := F0.chg hc10 Dj.nil
    replace hB := hB.inS hc10 inNil
    replace hZ := Nat.le_trans hZ hc10.size
    refine ⟨.bool (y7), rfl, ?_⟩
    refine wS_pure 3 [(2, .bool (!y7)), (10, .bool (!y7)), (9, .bool (!y7))] (by kernel_rfl) ?_
    refine wS_end (by rfl) ?_
    refine eX_then ?_
    refine cW_ret ?_
    have hq : (some (!y7) : Option ((Bool))) = some _ := hm
    replace hq := someE hq
    subst hq
    refine eX_ret (vs := [.bool (!y7)]) [.tmp 2] (by rfl) ⟨by (show lkE _ _ _ = _); kernel_rfl, trivial⟩ ?_
    exact ⟨rfl, hB⟩
  · have hm := condF hb6 hm
    rewrite [hb6]
    refine wS_pure 5 [(2, .bool (false)), (10, .bool (false)), (9, undef), (8, undef), (7, undef)] (by kernel_rfl) ?_
    refine wS_end (by rfl) ?_
    refine eX_then ?_
    refine cW_ret ?_
    have hq : (some false : Option ((Bool))) = some _ := hm
    replace hq := someE hq
    subst hq
    refine eX_ret (vs := [.bool (false)]) [.tmp 2] (by rfl) ⟨by (show lkE _ _ _ = _); kernel_rfl, trivial⟩ ?_
    exact ⟨rfl, hB⟩

set_option maxRecDepth 100000 in
/-- impl.tree -/
theorem c_impl_tree {w0 : World} {l0 : List (Int × Int)} {A0 : Option Addr} {cap0 : Nat} {fp0 : List Nat} {l1 : List (List (Int))} {A1 : Option Addr} {cap1 : Nat} {fp1 : List Nat} {r : (List (Int × Int × Int × Int × Int)) × (List (Int)) × (Bool)} (hm : m_impl_tree l0 l1 = some r) (F0 : Sl 2 encII w0 fp0 A0 l0) (F1 : SlR 1 encI w0 fp1 A1 l1) :
    Calls Try.prog 110 #[.slice A0 (l0).length cap0, .slice A1 (l1).length cap1] w0 fun e w' => ∃ A100 cap100 fp100, ∃ A101 cap101 fp101, e = .returned (.tuple #[.slice A100 (r.1).length cap100, .slice A101 (r.2.1).length cap101, .bool (r.2.2)]) ∧ Ow 5 encIIIII 52 w' fp100 A100 cap100 r.1 ∧ (∀ x ∈ fp100, w0.heap.size ≤ x) ∧ Ow 1 encI 2 w' fp101 A101 cap101 r.2.1 ∧ (∀ x ∈ fp101, w0.heap.size ≤ x) ∧ Dj fp100 fp101 ∧ Chg [] w0 w' := by
  have L0 := F0.low
  have L1 := F1.low
  have hB : Chg [] w0 w0 := Chg.refl _ _
  have hZ := Nat.le_refl w0.heap.size
  unfold m_impl_tree at hm
  refine enterE (N := 91) Try.func110 (by rfl) Try.ntmps110 (by simp) [(0, .slice A0 (l0).length cap0), (1, .slice A1 (l1).length cap1)] (by rfl) (by kernel_rfl) (fun a => ?_)
  refine cW_seq ?_
  refine cW_region ?_
  refine wS_pure 3 [(6, .bool (false)), (5, .slice none 0 0), (4, .slice none 0 0)] (by kernel_rfl) ?_
  refine wS_end (by rfl) ?_
  refine eX_then ?_
  refine cW_seq ?_
  refine cW_seq ?_
  refine cW_region ?_
  refine wS_pure 1 [(17, .slice A0 (l0).length cap0)] (by kernel_rfl) ?_
  obtain ⟨y3, hy4, hm⟩ := bindE hm
  refine wS_calls (d := 18) (f := 112) (vs := [.slice A0 (l0).length cap0]) (by kernel_rfl) ent112 (c_impl_clockPins hy4 F0) ?_
  rintro _ w5 ⟨rfl, hc6⟩
  replace F0 := F0.chg hc6 Dj.nil
  replace F1 := F1.chg hc6 Dj.nil
  replace hB := hB.inS hc6 inNil
  replace hZ := Nat.le_trans hZ hc6.size
  refine ⟨.bool (y3), rfl, ?_⟩
  refine wS_pure 2 [(20, .bool (!y3)), (19, .bool (!y3))] (by kernel_rfl) ?_
  refine wS_bool (!y3) (fun hb7 => ?_) (fun hb7 => ?_)
  · have hm := condT hb7 hm
    rewrite [hb7]
    refine wS_pure 6 [(26, .bool (true)), (25, undef), (24, undef), (23, undef), (22, undef), (21, undef)] (by kernel_rfl) ?_
    refine wS_end (by rfl) ?_
    refine eX_then ?_
    refine cW_cond_t (by kernel_rfl) ?_
    refine cW_seq ?_
    refine cW_region ?_
    refine wS_pure 3 [(6, .bool (false)), (5, .slice none 0 0), (4, .slice none 0 0)] (by kernel_rfl) ?_
    refine wS_end (by rfl) ?_
    refine eX_then ?_
    refine cW_ret ?_
    refine eX_then_ret ?_
    have hq : (some (([], [], false)) : Option ((List (Int × Int × Int × Int × Int)) × (List (Int)) × (Bool))) = some _ := hm
    replace hq := someE hq
    subst hq
    refine eX_ret (vs := [.slice none 0 0, .slice none 0 0, .bool (false)]) [.tmp 4, .tmp 5, .tmp 6] (by rfl) ⟨by (show lkE _ _ _ = _); kernel_rfl, ⟨by (show lkE _ _ _ = _); kernel_rfl, ⟨by (show lkE _ _ _ = _); kernel_rfl, trivial⟩⟩⟩ ?_
    exact ⟨none, 0, [], none, 0, [], rfl, Ow.nil _, lowNil, Ow.nil _, lowNil, Dj.nil, hB⟩
  · have hm := condF hb7 hm
    rewrite [hb7]
    refine wS_pure 3 [(23, .slice A1 (l1).length cap1), (22, .int .i64 (((l0).length : Int))), (21, .slice A0 (l0).length cap0)] (by kernel_rfl) ?_
    obtain ⟨y8, hy9, hm⟩ := bindE hm
    refine wS_calls (d := 24) (f := 39) (vs := [.int .i64 (((l0).length : Int)), .slice A1 (l1).length cap1]) (by kernel_rfl) ent39 (c_impl_IsJoins hy9 F1) ?_
    rintro _ w10 ⟨rfl, hc11⟩
    replace F0 := F0.chg hc11 Dj.nil
    replace F1 := F1.chg hc11 Dj.nil
    replace hB := hB.inS hc11 inNil
    replace hZ := Nat.le_trans hZ hc11.size
    refine ⟨.bool (y8), rfl, ?_⟩
    refine wS_pure 2 [(26, .bool (!y8)), (25, .bool (!y8))] (by kernel_rfl) ?_
    refine wS_end (by rfl) ?_
    refine eX_then ?_
    refine cW_cond (t := !y8) (by kernel_rfl) (fun hb12 => ?_) (fun hb12 => ?_)
    · have hm := condT hb12 hm
      refine cW_seq ?_
      refine cW_region ?_
      refine wS_pure 3 [(6, .bool (false)), (5, .slice none 0 0), (4, .slice none 0 0)] (by kernel_rfl) ?_
      refine wS_end (by rfl) ?_
      refine eX_then ?_
      refine cW_ret ?_
      refine eX_then_ret ?_
      have hq : (some (([], [], false)) : Option ((List (Int × Int × Int × Int × Int)) × (List (Int)) × (Bool))) = some _ := hm
      replace hq := someE hq
      subst hq
      refine eX_ret (vs := [.slice none 0 0, .slice none 0 0, .bool (false)]) [.tmp 4, .tmp 5, .tmp 6] (by rfl) ⟨by (show lkE _ _ _ = _); kernel_rfl, ⟨by (show lkE _ _ _ = _); kernel_rfl, ⟨by (show lkE _ _ _ = _); kernel_rfl, trivial⟩⟩⟩ ?_
      exact ⟨none, 0, [], none, 0, [], rfl, Ow.nil _, lowNil, Ow.nil _, lowNil, Dj.nil, hB⟩
    · have hm := condF hb12 hm
      refine cW_skip ?_
      refine eX_then ?_
      refine cW_seq ?_
      obtain ⟨s104, hs105, hm⟩ := bindE hm
      refine cW_cut (fun a' w' => ∃ l86 : List (Int × Int × Int × Int × Int), ∃ A87 : Option Addr, ∃ cap88 : Nat, ∃ fp89 : List Nat, ∃ l91 : List (Int), ∃ A92 : Option Addr, ∃ cap93 : Nat, ∃ fp94 : List Nat, (l86, l91) = s104 ∧ Fr 91 [(0, .slice A0 (l0).length cap0), (1, .slice A1 (l1).length cap1), (7, .slice A87 (l86).length cap88), (8, .slice A92 (l91).length cap93)] a' ∧ Sl 2 encII w' fp0 A0 l0 ∧ SlR 1 encI w' fp1 A1 l1 ∧ Ow 5 encIIIII 52 w' fp89 A87 cap88 l86 ∧ Ow 1 encI 2 w' fp94 A92 cap93 l91 ∧ (∀ x ∈ fp89, w0.heap.size ≤ x) ∧ (∀ x ∈ fp94, w0.heap.size ≤ x) ∧ Dj fp94 fp89 ∧ Chg [] w0 w' ∧ w0.heap.size ≤ w'.heap.size) ?_ ?_
      · have hm := hs105
        refine cW_drawnTail [] 7 (by kernel_rfl) (by kernel_rfl) (fun w106 hc107 => ?_)
        replace F0 := F0.chg hc107 Dj.nil
        replace F1 := F1.chg hc107 Dj.nil
        replace hB := hB.inS hc107 inNil
        replace hZ := Nat.le_trans hZ hc107.size
        have hS := Chg.refl [] w106
        have Z108 := F0
        have Z109 := F1
        refine wH_take [1, 2, 3, 4] [4, 3, 2, 1] [(31, .int .i64 (wr ((wr (2 * (((l0).length : Int)))) - 1))), (30, .int .i64 (wr (2 * (((l0).length : Int))))), (29, .int .i64 (((l0).length : Int))), (28, .slice A0 (l0).length cap0)] (by kernel_rfl) (qT (qT (qT qZ))) (by kernel_rfl) ?_
        refine wH_all [0, 5] (by rfl) (by kernel_rfl) (by simp) ⟨⟨by kernel_rfl, ?_⟩, ⟨by kernel_rfl, ?_⟩, trivial⟩
        · skip
          refine wS_bs0 (α := Int × Int × Int × Int × Int) (enc := encIIIII) (d := 27) (t := 75) (T := 52) (by kernel_rfl) el75 ?_
          intro b110 w111 G112 F113 hc114
          replace F0 := F0.chg hc114 Dj.nil
          replace F1 := F1.chg hc114 Dj.nil
          replace hB := hB.inS hc114 inNil
          have hSz := hS
          replace hS := hS.inS hc114 inNil
          have Gz116 := low1 (Nat.le_trans hSz.size G112)
          replace G112 := Nat.le_trans hZ G112
          replace G112 := low1 G112
          replace hZ := Nat.le_trans hZ hc114.size
          refine wS_end (by kernel_rfl) ?_
          refine eX_KH hS ?_
          refine wH_take [6] [6, 0, 4, 3, 2, 1] [(7, .slice (some ⟨b110, 0, none⟩) (([] : List (Int × Int × Int × Int × Int))).length 0)] (by kernel_rfl) (qT (qT (qT qZ))) (by kernel_rfl) ?_
          refine wH_all [5] (by rfl) (by kernel_rfl) (by simp) ⟨⟨by kernel_rfl, ?_⟩, trivial⟩
          obtain ⟨_, hk117, hm⟩ := bindE hm
          replace hk117 := mkE hk117
          refine wS_make (enc := encI) (x0 := (0 : Int)) (d := 32) (t := 68) (T := 2) (k1 := .i64) (k2 := .i64) (m := wr ((wr (2 * (((l0).length : Int)))) - 1)) (by kernel_rfl) el68 encI_ok (by rfl) hk117.1 hk117.2 ?_
          intro b118 w119 G120 F121 hc122
          have D124 : Dj [b110] [b118] := Dj.of F113.low (low1 G120)
          replace F0 := F0.chg hc122 Dj.nil
          replace F1 := F1.chg hc122 Dj.nil
          replace F113 := F113.chg hc122 Dj.nil
          replace hB := hB.inS hc122 inNil
          have hSz := hS
          replace hS := hS.inS hc122 inNil
          have Gz125 := low1 (Nat.le_trans hSz.size G120)
          replace G120 := Nat.le_trans hZ G120
          replace G120 := low1 G120
          replace hZ := Nat.le_trans hZ hc122.size
          refine wS_end (by kernel_rfl) ?_
          refine eX_KH hS ?_
          refine wH_done (by kernel_rfl) ?_
          refine eX_tail ?_
          refine wS_pure 1 [(8, .slice (some ⟨b118, 0, none⟩) (List.replicate (Int.toNat (wr ((wr (2 * (((l0).length : Int)))) - 1))) ((0 : Int))).length (Int.toNat (wr ((wr (2 * (((l0).length : Int)))) - 1))))] (by kernel_rfl) ?_
          refine wS_end (by rfl) ?_
          have hq : (some ((([] : List (Int × Int × Int × Int × Int)), List.replicate (Int.toNat (wr ((wr (2 * (((l0).length : Int)))) - 1))) ((0 : Int)))) : Option ((List (Int × Int × Int × Int × Int)) × (List (Int)))) = some _ := hm
          replace hq := someE hq
          subst hq
          exact eX_J (fun hst => ⟨([] : List (Int × Int × Int × Int × Int)), (some ⟨b110, 0, none⟩), 0, [b110], List.replicate (Int.toNat (wr ((wr (2 * (((l0).length : Int)))) - 1))) ((0 : Int)), (some ⟨b118, 0, none⟩), (Int.toNat (wr ((wr (2 * (((l0).length : Int)))) - 1))), [b118], rfl, Fr.of hst (by kernel_rfl), F0, F1, F113, F121, G112, G120, (D124).symm, hB, hZ⟩)
        · skip
          obtain ⟨_, hk126, hm⟩ := bindE hm
          replace hk126 := mkE hk126
          refine wS_make (enc := encI) (x0 := (0 : Int)) (d := 32) (t := 68) (T := 2) (k1 := .i64) (k2 := .i64) (m := wr ((wr (2 * (((l0).length : Int)))) - 1)) (by kernel_rfl) el68 encI_ok (by rfl) hk126.1 hk126.2 ?_
          intro b127 w128 G129 F130 hc131
          replace F0 := F0.chg hc131 Dj.nil
          replace F1 := F1.chg hc131 Dj.nil
          replace hB := hB.inS hc131 inNil
          have hSz := hS
          replace hS := hS.inS hc131 inNil
          have Gz133 := low1 (Nat.le_trans hSz.size G129)
          replace G129 := Nat.le_trans hZ G129
          replace G129 := low1 G129
          replace hZ := Nat.le_trans hZ hc131.size
          refine wS_end (by kernel_rfl) ?_
          refine eX_KH hS ?_
          refine wH_all [0] (by rfl) (by kernel_rfl) (by simp) ⟨⟨by kernel_rfl, ?_⟩, trivial⟩
          refine wS_bs0 (α := Int × Int × Int × Int × Int) (enc := encIIIII) (d := 27) (t := 75) (T := 52) (by kernel_rfl) el75 ?_
          intro b134 w135 G136 F137 hc138
          have D140 : Dj [b127] [b134] := Dj.of F130.low (low1 G136)
          replace F0 := F0.chg hc138 Dj.nil
          replace F1 := F1.chg hc138 Dj.nil
          replace F130 := F130.chg hc138 Dj.nil
          replace hB := hB.inS hc138 inNil
          have hSz := hS
          replace hS := hS.inS hc138 inNil
          have Gz141 := low1 (Nat.le_trans hSz.size G136)
          replace G136 := Nat.le_trans hZ G136
          replace G136 := low1 G136
          replace hZ := Nat.le_trans hZ hc138.size
          refine wS_end (by kernel_rfl) ?_
          refine eX_KH hS ?_
          refine wH_take [6] [6, 0, 5, 4, 3, 2, 1] [(7, .slice (some ⟨b134, 0, none⟩) (([] : List (Int × Int × Int × Int × Int))).length 0)] (by kernel_rfl) (qT (qT (qT qZ))) (by kernel_rfl) ?_
          refine wH_done (by kernel_rfl) ?_
          refine eX_tail ?_
          refine wS_pure 1 [(8, .slice (some ⟨b127, 0, none⟩) (List.replicate (Int.toNat (wr ((wr (2 * (((l0).length : Int)))) - 1))) ((0 : Int))).length (Int.toNat (wr ((wr (2 * (((l0).length : Int)))) - 1))))] (by kernel_rfl) ?_
          refine wS_end (by rfl) ?_
          have hq : (some ((([] : List (Int × Int × Int × Int × Int)), List.replicate (Int.toNat (wr ((wr (2 * (((l0).length : Int)))) - 1))) ((0 : Int)))) : Option ((List (Int × Int × Int × Int × Int)) × (List (Int)))) = some _ := hm
          replace hq := someE hq
          subst hq
          exact eX_J (fun hst => ⟨([] : List (Int × Int × Int × Int × Int)), (some ⟨b134, 0, none⟩), 0, [b134], List.replicate (Int.toNat (wr ((wr (2 * (((l0).length : Int)))) - 1))) ((0 : Int)), (some ⟨b127, 0, none⟩), (Int.toNat (wr ((wr (2 * (((l0).length : Int)))) - 1))), [b127], rfl, Fr.of hst (by kernel_rfl), F0, F1, F137, F130, G136, G129, D140, hB, hZ⟩)
      · rintro a' w85 ⟨l86, A87, cap88, fp89, l91, A92, cap93, fp94, hJ, hF96, F97, F98, F99, F100, G101, G102, D103, hB, hZ⟩
        subst hJ
        refine Fr.goX hF96 (by kernel_rfl) ?_
        refine eX_then ?_
        refine cW_seq ?_
        refine cW_seq ?_
        refine cW_region ?_
        refine wS_pure 3 [(35, .int .i64 (0)), (34, .int .i64 (((l0).length : Int))), (33, .slice A0 (l0).length cap0)] (by kernel_rfl) ?_
        refine wS_end (by rfl) ?_
        refine eX_then ?_
        obtain ⟨r266, hr267, hm⟩ := bindE hm
        have hm268 := hm
        refine cW_cut (fun a' w' => ∃ l241 : List (Int × Int × Int × Int × Int), ∃ A242 : Option Addr, ∃ cap243 : Nat, ∃ fp244 : List Nat, l241 = r266 ∧ Fr 91 [(1, .slice A1 (l1).length cap1), (7, .slice A242 (l241).length cap243), (8, .slice A92 (l91).length cap93)] a' ∧ SlR 1 encI w' fp1 A1 l1 ∧ Ow 1 encI 2 w' fp94 A92 cap93 l91 ∧ Ow 5 encIIIII 52 w' fp244 A242 cap243 l241 ∧ (∀ x ∈ fp244, w0.heap.size ≤ x) ∧ Dj fp94 fp244 ∧ Chg [] w0 w' ∧ w0.heap.size ≤ w'.heap.size) ?_ ?_
        · refine cW_block ?_
          refine cW_loop _ (fun (s269 : (List (Int × Int × Int × Int × Int)) × Int) a' w' => ∃ l253 : List (Int × Int × Int × Int × Int), ∃ A254 : Option Addr, ∃ cap255 : Nat, ∃ fp256 : List Nat, ∃ x258 : Int, (l253, x258) = s269 ∧ Fr 91 [(1, .slice A1 (l1).length cap1), (7, .slice A254 (l253).length cap255), (8, .slice A92 (l91).length cap93), (33, .slice A0 (l0).length cap0), (34, .int .i64 (((l0).length : Int))), (35, .int .i64 (x258))] a' ∧ Sl 2 encII w' fp0 A0 l0 ∧ SlR 1 encI w' fp1 A1 l1 ∧ Ow 1 encI 2 w' fp94 A92 cap93 l91 ∧ Ow 5 encIIIII 52 w' fp256 A254 cap255 l253 ∧ (∀ x ∈ fp256, w0.heap.size ≤ x) ∧ Dj fp94 fp256 ∧ Chg [] w0 w' ∧ w0.heap.size ≤ w'.heap.size) hr267 (fun hst => ⟨l86, A87, cap88, fp89, 0, rfl, Fr.of hst (by kernel_rfl), F97, F98, F100, F99, G101, D103, hB, hZ⟩) ?_
          rintro _ c270 a' w252 ⟨l253, A254, cap255, fp256, x258, rfl, hF259, F260, F261, F262, F263, G264, D265, hB, hZ⟩ hx271
          refine Fr.goOn hF259 (by kernel_rfl) ?_
          have hm := hx271
          unfold m_impl_tree_s1 at hm
          refine cW_seq ?_
          refine cW_region ?_
          refine wS_pure 1 [(36, .bool (decide (x258 < (((l0).length : Int)))))] (by kernel_rfl) ?_
          refine wS_end (by rfl) ?_
          refine eX_then ?_
          refine cW_seq ?_
          refine cW_cond (t := decide (x258 < (((l0).length : Int)))) (by kernel_rfl) (fun hb272 => ?_) (fun hb272 => ?_)
          · have hm := condT hb272 hm
            refine cW_skip ?_
            refine eX_then ?_
            refine cW_seq ?_
            refine cW_block ?_
            refine cW_seq ?_
            refine cW_region ?_
            obtain ⟨x273, hx274, hm⟩ := bindE hm
            refine wS_idx (d := 37) (T := 59) (A := A0) (n := (l0).length) (cap := cap0) (kd := .i64) (m := x258) (by kernel_rfl) sl59 (F260.is hx274) ?_
            refine wS_loadA (d := 38) (T := 32) (ad := (elA A0 2 (x258) 0)) (vs := [.int .i64 (x273.1), .int .i64 (x273.2)]) (by kernel_rfl) vt32 (fun i u hu => Sl.cells_at F260 hx274 0 hu (by rfl)) ?_
            refine wS_alloc (d := 10) (T := 32) (z := .agg #[.int .i64 (0), .int .i64 (0)]) (by kernel_rfl) (by kernel_rfl) ?_
            intro b275 w276 G277 F278 hc279
            replace F278 : Cl w276 b275 32 [.int .i64 (0), .int .i64 (0)] := F278
            have D281 : Dj fp94 [b275] := Dj.of F262.low (low1 G277)
            have D282 : Dj fp256 [b275] := Dj.of F263.low (low1 G277)
            replace F260 := F260.chg hc279 Dj.nil
            replace F261 := F261.chg hc279 Dj.nil
            replace F262 := F262.chg hc279 Dj.nil
            replace F263 := F263.chg hc279 Dj.nil
            replace hB := hB.inS hc279 inNil
            replace G277 := Nat.le_trans hZ G277
            replace hZ := Nat.le_trans hZ hc279.size
            refine wS_store (T := 32) (g := b275) (o := 0) (ad := ⟨b275, 0, none⟩) (v := .agg #[.int .i64 (x273.1), .int .i64 (x273.2)]) (vs := [.int .i64 (x273.1), .int .i64 (x273.2)]) (by kernel_rfl) (by rfl) sz32 (by rfl) (by rfl) F278 (by simp only [List.length_cons, List.length_nil]; omega) ?_
            intro w283 F284 hc285
            replace F260 := F260.chg hc285 (Dj.of L0 (low1 G277))
            replace F261 := F261.chg hc285 (Dj.of L1 (low1 G277))
            replace F262 := F262.chg hc285 D281
            replace F263 := F263.chg hc285 D282
            replace hB := hB.inS hc285 (inLow (low1 G277))
            replace hZ := Nat.le_trans hZ hc285.size
            replace F284 : Cl w283 b275 32 [.int .i64 (x273.1), .int .i64 (x273.2)] := F284
            clear F278
            refine wS_end (by rfl) ?_
            refine eX_then ?_
            refine cW_region ?_
            refine wS_pure 1 [(39, .slice A254 (l253).length cap255)] (by kernel_rfl) ?_
            refine wS_loadA (d := 40) (T := 32) (ad := ⟨b275, 0, none⟩) (vs := [.int .i64 (x273.1), .int .i64 (x273.2)]) (by kernel_rfl) vt32 (fun i u hu => box_cells F284 0 hu (by rfl)) ?_
            obtain ⟨y286, hy287, hm⟩ := bindE hm
            refine wS_calls (d := 41) (f := 87) (vs := [.agg #[.int .i64 (x273.1), .int .i64 (x273.2)]]) (by kernel_rfl) ent87 (c_impl_leaf hy287) ?_
            rintro _ w288 ⟨rfl, hc289⟩
            replace F260 := F260.chg hc289 Dj.nil
            replace F261 := F261.chg hc289 Dj.nil
            replace F262 := F262.chg hc289 Dj.nil
            replace F263 := F263.chg hc289 Dj.nil
            replace F284 := F284.chg hc289 notNil
            replace hB := hB.inS hc289 inNil
            replace hZ := Nat.le_trans hZ hc289.size
            refine ⟨.agg #[.int .i64 (y286.1), .int .i64 (y286.2.1), .int .i64 (y286.2.2.1), .int .i64 (y286.2.2.2)], rfl, ?_⟩
            refine wS_pure 1 [(42, .agg #[.int .i64 (y286.1), .int .i64 (y286.2.1), .int .i64 (y286.2.2.1), .int .i64 (y286.2.2.2), .int .i64 (0)])] (by kernel_rfl) ?_
            refine wS_bs (enc := encIIIII) ([(y286.1, y286.2.1, y286.2.2.1, y286.2.2.2, 0)] : List (Int × Int × Int × Int × Int)) [.int .i64 (y286.1), .int .i64 (y286.2.1), .int .i64 (y286.2.2.1), .int .i64 (y286.2.2.2), .int .i64 (0)] (d := 43) (t := 75) (T := 52) (n := 1) (ps := [(0, .agg #[.int .i64 (y286.1), .int .i64 (y286.2.1), .int .i64 (y286.2.2.1), .int .i64 (y286.2.2.2), .int .i64 (0)])]) (by kernel_rfl) el75 encIIIII_ok (by rfl) (by omega) (by omega) (by kernel_rfl) (by rfl) ?_
            intro b290 w291 G292 F293 hc294
            have D296 : Dj fp94 [b290] := Dj.of F262.low (low1 G292)
            have D297 : Dj fp256 [b290] := Dj.of F263.low (low1 G292)
            have D298 : Dj [b275] [b290] := Dj.of (lt1 F284.lt) (low1 G292)
            replace F260 := F260.chg hc294 Dj.nil
            replace F261 := F261.chg hc294 Dj.nil
            replace F262 := F262.chg hc294 Dj.nil
            replace F263 := F263.chg hc294 Dj.nil
            replace F284 := F284.chg hc294 notNil
            replace hB := hB.inS hc294 inNil
            replace G292 := Nat.le_trans hZ G292
            replace G292 := low1 G292
            replace hZ := Nat.le_trans hZ hc294.size
            obtain ⟨_, hk299, hm⟩ := bindE hm
            replace hk299 := apE hk299
            refine wS_append (enc := encIIIII) (l := (l253 : List (Int × Int × Int × Int × Int))) (l2 := (([(y286.1, y286.2.1, y286.2.2.1, y286.2.2.2, 0)] : List (Int × Int × Int × Int × Int)) : List (Int × Int × Int × Int × Int))) (d := 44) (t := 75) (T := 52) (A := A254) (A2 := (some ⟨b290, 0, none⟩)) (cap := cap255) (cap2 := 1) (by kernel_rfl) el75 encIIIII_ok F263 (F293.sl encIIIII_ok) (by rfl) hk299 ?_
            intro w300 fp301 A302 cap303 F304 hc305 hp306
            have G308 := low_ap G264 hZ hp306
            have D309 : Dj fp94 fp301 := Dj.ap D265 F262.low hp306
            have D310 : Dj [b275] fp301 := Dj.ap (D282).symm (lt1 F284.lt) hp306
            have D311 : Dj [b290] fp301 := Dj.ap (D297).symm F293.low hp306
            replace F260 := F260.chg hc305 (Dj.of L0 G264)
            replace F261 := F261.chg hc305 (Dj.of L1 G264)
            replace F262 := F262.chg hc305 D265
            replace F284 := F284.chg hc305 (dj1 (D282).symm)
            replace F293 := F293.chg hc305 (D297).symm
            replace hB := hB.inS hc305 (inLow G264)
            replace hZ := Nat.le_trans hZ hc305.size
            refine wS_pure 1 [(7, .slice A302 (l253 ++ (([(y286.1, y286.2.1, y286.2.2.1, y286.2.2.2, 0)] : List (Int × Int × Int × Int × Int)))).length cap303)] (by kernel_rfl) ?_
            refine wS_end (by rfl) ?_
            refine eX_block ?_
            refine eX_then ?_
            refine cW_region ?_
            refine wS_pure 2 [(35, .int .i64 (wr (x258 + 1))), (45, .int .i64 (wr (x258 + 1)))] (by kernel_rfl) ?_
            refine wS_end (by rfl) ?_
            have hq : (some (Ctl.next ((l253 ++ (([(y286.1, y286.2.1, y286.2.2.1, y286.2.2.2, 0)] : List (Int × Int × Int × Int × Int))), wr (x258 + 1)))) : Option (Ctl ((List (Int × Int × Int × Int × Int)) × Int) ((List (Int × Int × Int × Int × Int))))) = some _ := hm
            replace hq := someE hq
            subst hq
            exact eX_next hx271 (fun hst => ⟨l253 ++ (([(y286.1, y286.2.1, y286.2.2.1, y286.2.2.2, 0)] : List (Int × Int × Int × Int × Int))), A302, cap303, fp301, wr (x258 + 1), rfl, Fr.of hst (by kernel_rfl), F260, F261, F262, F304, G308, D309, hB, hZ⟩)
          · have hm := condF hb272 hm
            refine cW_exit ?_
            refine eX_then_exit ?_
            have hq : (some (Ctl.out l253) : Option (Ctl ((List (Int × Int × Int × Int × Int)) × Int) ((List (Int × Int × Int × Int × Int))))) = some _ := hm
            replace hq := someE hq
            subst hq
            refine eX_outX hx271 (fun hr312 => ?_)
            replace hr312 := hr312.symm
            subst hr312
            refine eX_block_hit ?_
            exact eX_J (fun hst => ⟨l253, A254, cap255, fp256, rfl, Fr.of hst (by kernel_rfl), F261, F262, F263, G264, D265, hB, hZ⟩)
        · rintro a' w240 ⟨l241, A242, cap243, fp244, hJ, hF246, F247, F248, F249, G250, D251, hB, hZ⟩
          subst hJ
          refine Fr.goX hF246 (by kernel_rfl) ?_
          refine eX_then ?_
          refine cW_seq ?_
          refine cW_seq ?_
          refine cW_region ?_
          refine wS_pure 3 [(48, .int .i64 (0)), (47, .int .i64 (((l1).length : Int))), (46, .slice A1 (l1).length cap1)] (by kernel_rfl) ?_
          refine wS_end (by rfl) ?_
          refine eX_then ?_
          obtain ⟨r828, hr829, hm⟩ := bindE hm
          have hm830 := hm
          refine cW_cut (fun a' w' => ∃ l803 : List (Int × Int × Int × Int × Int), ∃ A804 : Option Addr, ∃ cap805 : Nat, ∃ fp806 : List Nat, ∃ l808 : List (Int), Sum.inl ((l803, l808)) = r828 ∧ Fr 91 [(7, .slice A804 (l803).length cap805), (8, .slice A92 (l808).length cap93)] a' ∧ Ow 1 encI 2 w' fp94 A92 cap93 l808 ∧ Ow 5 encIIIII 52 w' fp806 A804 cap805 l803 ∧ (∀ x ∈ fp806, w0.heap.size ≤ x) ∧ Dj fp94 fp806 ∧ Chg [] w0 w' ∧ w0.heap.size ≤ w'.heap.size) ?_ ?_
          · refine cW_block ?_
            refine cW_loop _ (fun (s831 : (List (Int × Int × Int × Int × Int)) × Int × (List (Int))) a' w' => ∃ l815 : List (Int × Int × Int × Int × Int), ∃ A816 : Option Addr, ∃ cap817 : Nat, ∃ fp818 : List Nat, ∃ x820 : Int, ∃ l821 : List (Int), (l815, x820, l821) = s831 ∧ Fr 91 [(7, .slice A816 (l815).length cap817), (8, .slice A92 (l821).length cap93), (46, .slice A1 (l1).length cap1), (47, .int .i64 (((l1).length : Int))), (48, .int .i64 (x820))] a' ∧ SlR 1 encI w' fp1 A1 l1 ∧ Ow 1 encI 2 w' fp94 A92 cap93 l821 ∧ Ow 5 encIIIII 52 w' fp818 A816 cap817 l815 ∧ (∀ x ∈ fp818, w0.heap.size ≤ x) ∧ Dj fp94 fp818 ∧ Chg [] w0 w' ∧ w0.heap.size ≤ w'.heap.size) hr829 (fun hst => ⟨l241, A242, cap243, fp244, 0, l91, rfl, Fr.of hst (by kernel_rfl), F247, F248, F249, G250, D251, hB, hZ⟩) ?_
            rintro _ c832 a' w814 ⟨l815, A816, cap817, fp818, x820, l821, rfl, hF822, F823, F824, F825, G826, D827, hB, hZ⟩ hx833
            refine Fr.goOn hF822 (by kernel_rfl) ?_
            have hm := hx833
            unfold m_impl_tree_s2 at hm
            refine cW_seq ?_
            refine cW_region ?_
            refine wS_pure 1 [(49, .bool (decide (x820 < (((l1).length : Int)))))] (by kernel_rfl) ?_
            refine wS_end (by rfl) ?_
            refine eX_then ?_
            refine cW_seq ?_
            refine cW_cond (t := decide (x820 < (((l1).length : Int)))) (by kernel_rfl) (fun hb834 => ?_) (fun hb834 => ?_)
            · have hm := condT hb834 hm
              refine cW_skip ?_
              refine eX_then ?_
              refine cW_seq ?_
              refine cW_block ?_
              refine cW_seq ?_
              refine cW_region ?_
              obtain ⟨x835, hx836, hm⟩ := bindE hm
              refine wS_idx (d := 50) (T := 44) (A := A1) (n := (l1).length) (cap := cap1) (kd := .i64) (m := x820) (by kernel_rfl) sl44 (F823.is hx836) ?_
              obtain ⟨A837, cap838, hc840, F839⟩ := SlR.row F823 hx836
              refine wS_load1 (d := 51) (T := 68) (ad := (elA A1 1 (x820) 0)) (v := .slice A837 (x835).length cap838) (by kernel_rfl) vt68 hc840 ?_
              refine wS_pure 1 [(12, .slice A837 (x835).length cap838)] (by kernel_rfl) ?_
              refine wS_end (by rfl) ?_
              refine eX_then ?_
              refine cW_seq ?_
              obtain ⟨s954, hs955, hm⟩ := bindE hm
              refine cW_cut (fun a' w' => ∃ b935 : Nat, ∃ x936 : Int, ∃ x937 : Int, ∃ x938 : Int, ∃ x939 : Int, ∃ x940 : Int, ∃ x942 : Int, ∃ x943 : Int, ∃ x944 : Bool, (x936, x937, x938, x939, x940, x942, x943, x944) = s954 ∧ Fr 91 [(7, .slice A816 (l815).length cap817), (8, .slice A92 (l821).length cap93), (12, .slice A837 (x835).length cap838), (13, .pointer (some ⟨b935, 0, none⟩)), (14, .int .i64 (x942)), (15, .int .i64 (x943)), (16, .bool (x944)), (46, .slice A1 (l1).length cap1), (47, .int .i64 (((l1).length : Int))), (48, .int .i64 (x820))] a' ∧ SlR 1 encI w' fp1 A1 l1 ∧ Ow 1 encI 2 w' fp94 A92 cap93 l821 ∧ Ow 5 encIIIII 52 w' fp818 A816 cap817 l815 ∧ Sl 1 encI w' fp1 A837 x835 ∧ Cl w' b935 52 [.int .i64 (x936), .int .i64 (x937), .int .i64 (x938), .int .i64 (x939), .int .i64 (x940)] ∧ w0.heap.size ≤ b935 ∧ Dj fp94 [b935] ∧ Dj fp818 [b935] ∧ Chg [] w0 w' ∧ w0.heap.size ≤ w'.heap.size) ?_ ?_
              · have hm := hs955
                refine cW_drawnTail [] 22 (by kernel_rfl) (by kernel_rfl) (fun w956 hc957 => ?_)
                replace F823 := F823.chg hc957 Dj.nil
                replace F824 := F824.chg hc957 Dj.nil
                replace F825 := F825.chg hc957 Dj.nil
                replace F839 := F839.chg hc957 Dj.nil
                replace hB := hB.inS hc957 inNil
                replace hZ := Nat.le_trans hZ hc957.size
                have hS := Chg.refl [] w956
                have Z958 := F823
                have Z959 := F824
                have Z960 := F825
                have Z961 := F839
                refine wH_take [0, 1] [1, 0] [(54, .slice A837 (x835).length cap838), (53, .slice A816 (l815).length cap817)] (by kernel_rfl) (qT (qT (qT (qB (qT (qL (qB (qT (qT qZ))))))))) (by kernel_rfl) ?_
                obtain ⟨x962, hx963, hm⟩ := bindE hm
                refine wH_idx (i := 2) (d := 55) (T := 68) (A := A837) (n := (x835).length) (cap := cap838) (kd := .i64) (m := 0) (by kernel_rfl) (qT (qT (qT (qB (qT (qL (qB (qT (qT qZ))))))))) (by kernel_rfl) (by kernel_rfl) sl68 (F839.is hx963) ?_
                refine wH_load1 (i := 3) (d := 56) (T := 2) (ad := (elA A837 1 (0) 0)) (v := .int .i64 (x962)) (by kernel_rfl) (qT (qT (qT (qB (qT (qL (qB (qT (qT qZ))))))))) (by kernel_rfl) (by kernel_rfl) vt2 (fun W hW => Sl.cell (Z961.chg hW Dj.nil) hx963 0 (by rfl)) ?_
                obtain ⟨x964, hx965, hm⟩ := bindE hm
                refine wH_idx (i := 4) (d := 57) (T := 75) (A := A816) (n := (l815).length) (cap := cap817) (kd := .i64) (m := x962) (by kernel_rfl) (qT (qT (qT (qB (qT (qL (qB (qT (qT qZ))))))))) (by kernel_rfl) (by kernel_rfl) sl75 ((F825.sl encIIIII_ok).is hx965) ?_
                refine wH_loadA (i := 5) (d := 58) (T := 52) (ad := (elA A816 5 (x962) 0)) (vs := [.int .i64 (x964.1), .int .i64 (x964.2.1), .int .i64 (x964.2.2.1), .int .i64 (x964.2.2.2.1), .int .i64 (x964.2.2.2.2)]) (by kernel_rfl) (qT (qT (qT (qB (qT (qL (qB (qT (qT qZ))))))))) (by kernel_rfl) (by kernel_rfl) vt52 (fun W hW i u hu => Sl.cells_at ((Z960.chg hW Dj.nil).sl encIIIII_ok) hx965 0 hu (by rfl)) ?_
                refine wH_take [6, 7] [7, 6, 5, 4, 3, 2, 1, 0] [(60, .slice A837 (x835).length cap838), (59, .slice A816 (l815).length cap817)] (by kernel_rfl) (qT (qT (qT (qB (qT (qL (qB (qT (qT qZ))))))))) (by kernel_rfl) ?_
                obtain ⟨x966, hx967, hm⟩ := bindE hm
                refine wH_idx (i := 8) (d := 61) (T := 68) (A := A837) (n := (x835).length) (cap := cap838) (kd := .i64) (m := 1) (by kernel_rfl) (qT (qT (qT (qB (qT (qL (qB (qT (qT qZ))))))))) (by kernel_rfl) (by kernel_rfl) sl68 (F839.is hx967) ?_
                refine wH_load1 (i := 9) (d := 62) (T := 2) (ad := (elA A837 1 (1) 0)) (v := .int .i64 (x966)) (by kernel_rfl) (qT (qT (qT (qB (qT (qL (qB (qT (qT qZ))))))))) (by kernel_rfl) (by kernel_rfl) vt2 (fun W hW => Sl.cell (Z961.chg hW Dj.nil) hx967 0 (by rfl)) ?_
                obtain ⟨x968, hx969, hm⟩ := bindE hm
                refine wH_idx (i := 10) (d := 63) (T := 75) (A := A816) (n := (l815).length) (cap := cap817) (kd := .i64) (m := x966) (by kernel_rfl) (qT (qT (qT (qB (qT (qL (qB (qT (qT qZ))))))))) (by kernel_rfl) (by kernel_rfl) sl75 ((F825.sl encIIIII_ok).is hx969) ?_
                refine wH_loadA (i := 11) (d := 64) (T := 52) (ad := (elA A816 5 (x966) 0)) (vs := [.int .i64 (x968.1), .int .i64 (x968.2.1), .int .i64 (x968.2.2.1), .int .i64 (x968.2.2.2.1), .int .i64 (x968.2.2.2.2)]) (by kernel_rfl) (qT (qT (qT (qB (qT (qL (qB (qT (qT qZ))))))))) (by kernel_rfl) (by kernel_rfl) vt52 (fun W hW i u hu => Sl.cells_at ((Z960.chg hW Dj.nil).sl encIIIII_ok) hx969 0 hu (by rfl)) ?_
                refine wH_all [12, 18] (by rfl) (by kernel_rfl) (by simp) ⟨⟨by kernel_rfl, ?_⟩, ⟨by kernel_rfl, ?_⟩, trivial⟩
                · skip
                  obtain ⟨y970, hy971, hm⟩ := bindE hm
                  refine wS_calls (d := 65) (f := 98) (vs := [.agg #[.int .i64 (x964.1), .int .i64 (x964.2.1), .int .i64 (x964.2.2.1), .int .i64 (x964.2.2.2.1), .int .i64 (x964.2.2.2.2)], .agg #[.int .i64 (x968.1), .int .i64 (x968.2.1), .int .i64 (x968.2.2.1), .int .i64 (x968.2.2.2.1), .int .i64 (x968.2.2.2.2)]]) (by kernel_rfl) ent98 (c_impl_merge hy971) ?_
                  rintro _ w972 ⟨rfl, hc973⟩
                  replace F823 := F823.chg hc973 Dj.nil
                  replace F824 := F824.chg hc973 Dj.nil
                  replace F825 := F825.chg hc973 Dj.nil
                  replace F839 := F839.chg hc973 Dj.nil
                  replace hB := hB.inS hc973 inNil
                  have hSz := hS
                  replace hS := hS.inS hc973 inNil
                  replace hZ := Nat.le_trans hZ hc973.size
                  refine ⟨.tuple #[.agg #[.int .i64 (y970.1.1), .int .i64 (y970.1.2.1), .int .i64 (y970.1.2.2.1), .int .i64 (y970.1.2.2.2.1), .int .i64 (y970.1.2.2.2.2)], .int .i64 (y970.2.1), .int .i64 (y970.2.2.1), .bool (y970.2.2.2)], rfl, ?_⟩
                  refine wS_end (by kernel_rfl) ?_
                  refine eX_KH hS ?_
                  refine wH_take [13, 14, 15, 16, 17] [17, 16, 15, 14, 13, 12, 11, 10, 9, 8, 7, 6, 5, 4, 3, 2, 1, 0] [(69, .bool (y970.2.2.2)), (68, .int .i64 (y970.2.2.1)), (67, .int .i64 (y970.2.1)), (66, .agg #[.int .i64 (y970.1.1), .int .i64 (y970.1.2.1), .int .i64 (y970.1.2.2.1), .int .i64 (y970.1.2.2.2.1), .int .i64 (y970.1.2.2.2.2)]), (52, .tuple #[.agg #[.int .i64 (y970.1.1), .int .i64 (y970.1.2.1), .int .i64 (y970.1.2.2.1), .int .i64 (y970.1.2.2.2.1), .int .i64 (y970.1.2.2.2.2)], .int .i64 (y970.2.1), .int .i64 (y970.2.2.1), .bool (y970.2.2.2)])] (by kernel_rfl) (qT (qT (qT (qB (qT (qL (qB (qT (qT qZ))))))))) (by kernel_rfl) ?_
                  refine wH_all [18] (by rfl) (by kernel_rfl) (by simp) ⟨⟨by kernel_rfl, ?_⟩, trivial⟩
                  refine wS_alloc (d := 13) (T := 52) (z := .agg #[.int .i64 (0), .int .i64 (0), .int .i64 (0), .int .i64 (0), .int .i64 (0)]) (by kernel_rfl) (by kernel_rfl) ?_
                  intro b974 w975 G976 F977 hc978
                  replace F977 : Cl w975 b974 52 [.int .i64 (0), .int .i64 (0), .int .i64 (0), .int .i64 (0), .int .i64 (0)] := F977
                  have D980 : Dj fp94 [b974] := Dj.of F824.low (low1 G976)
                  have D981 : Dj fp818 [b974] := Dj.of F825.low (low1 G976)
                  replace F823 := F823.chg hc978 Dj.nil
                  replace F824 := F824.chg hc978 Dj.nil
                  replace F825 := F825.chg hc978 Dj.nil
                  replace F839 := F839.chg hc978 Dj.nil
                  replace hB := hB.inS hc978 inNil
                  have hSz := hS
                  replace hS := hS.inS hc978 inNil
                  have Gz982 := low1 (Nat.le_trans hSz.size G976)
                  replace G976 := Nat.le_trans hZ G976
                  replace hZ := Nat.le_trans hZ hc978.size
                  refine wS_end (by kernel_rfl) ?_
                  refine eX_KH hS ?_
                  refine wH_all [19] (by rfl) (by kernel_rfl) (by simp) ⟨⟨by kernel_rfl, ?_⟩, trivial⟩
                  refine wS_store (T := 52) (g := b974) (o := 0) (ad := ⟨b974, 0, none⟩) (v := .agg #[.int .i64 (y970.1.1), .int .i64 (y970.1.2.1), .int .i64 (y970.1.2.2.1), .int .i64 (y970.1.2.2.2.1), .int .i64 (y970.1.2.2.2.2)]) (vs := [.int .i64 (y970.1.1), .int .i64 (y970.1.2.1), .int .i64 (y970.1.2.2.1), .int .i64 (y970.1.2.2.2.1), .int .i64 (y970.1.2.2.2.2)]) (by kernel_rfl) (by rfl) sz52 (by rfl) (by rfl) F977 (by simp only [List.length_cons, List.length_nil]; omega) ?_
                  intro w983 F984 hc985
                  replace F823 := F823.chg hc985 (Dj.of L1 (low1 G976))
                  replace F824 := F824.chg hc985 D980
                  replace F825 := F825.chg hc985 D981
                  replace F839 := F839.chg hc985 (Dj.of L1 (low1 G976))
                  replace hB := hB.inS hc985 (inLow (low1 G976))
                  have hSz := hS
                  replace hS := hS.inS hc985 (inLow Gz982)
                  replace hZ := Nat.le_trans hZ hc985.size
                  replace F984 : Cl w983 b974 52 [.int .i64 (y970.1.1), .int .i64 (y970.1.2.1), .int .i64 (y970.1.2.2.1), .int .i64 (y970.1.2.2.2.1), .int .i64 (y970.1.2.2.2.2)] := F984
                  clear F977
                  refine wS_end (by kernel_rfl) ?_
                  refine eX_KH hS ?_
                  refine wH_take [20, 21] [21, 20, 19, 18, 17, 16, 15, 14, 13, 12, 11, 10, 9, 8, 7, 6, 5, 4, 3, 2, 1, 0] [(15, .int .i64 (y970.2.2.1)), (14, .int .i64 (y970.2.1))] (by kernel_rfl) (qT (qT (qT (qB (qT (qL (qB (qT (qT qZ))))))))) (by kernel_rfl) ?_
                  refine wH_done (by kernel_rfl) ?_
                  refine eX_tail ?_
                  refine wS_pure 1 [(16, .bool (y970.2.2.2))] (by kernel_rfl) ?_
                  refine wS_end (by rfl) ?_
                  have hq : (some ((y970.1.1, y970.1.2.1, y970.1.2.2.1, y970.1.2.2.2.1, y970.1.2.2.2.2, y970.2.1, y970.2.2.1, y970.2.2.2)) : Option (Int × Int × Int × Int × Int × Int × Int × Bool)) = some _ := hm
                  replace hq := someE hq
                  subst hq
                  exact eX_J (fun hst => ⟨b974, y970.1.1, y970.1.2.1, y970.1.2.2.1, y970.1.2.2.2.1, y970.1.2.2.2.2, y970.2.1, y970.2.2.1, y970.2.2.2, rfl, Fr.of hst (by kernel_rfl), F823, F824, F825, F839, F984, G976, D980, D981, hB, hZ⟩)
                · skip
                  refine wS_alloc (d := 13) (T := 52) (z := .agg #[.int .i64 (0), .int .i64 (0), .int .i64 (0), .int .i64 (0), .int .i64 (0)]) (by kernel_rfl) (by kernel_rfl) ?_
                  intro b986 w987 G988 F989 hc990
                  replace F989 : Cl w987 b986 52 [.int .i64 (0), .int .i64 (0), .int .i64 (0), .int .i64 (0), .int .i64 (0)] := F989
                  have D992 : Dj fp94 [b986] := Dj.of F824.low (low1 G988)
                  have D993 : Dj fp818 [b986] := Dj.of F825.low (low1 G988)
                  replace F823 := F823.chg hc990 Dj.nil
                  replace F824 := F824.chg hc990 Dj.nil
                  replace F825 := F825.chg hc990 Dj.nil
                  replace F839 := F839.chg hc990 Dj.nil
                  replace hB := hB.inS hc990 inNil
                  have hSz := hS
                  replace hS := hS.inS hc990 inNil
                  have Gz994 := low1 (Nat.le_trans hSz.size G988)
                  replace G988 := Nat.le_trans hZ G988
                  replace hZ := Nat.le_trans hZ hc990.size
                  refine wS_end (by kernel_rfl) ?_
                  refine eX_KH hS ?_
                  refine wH_all [12] (by rfl) (by kernel_rfl) (by simp) ⟨⟨by kernel_rfl, ?_⟩, trivial⟩
                  obtain ⟨y995, hy996, hm⟩ := bindE hm
                  refine wS_calls (d := 65) (f := 98) (vs := [.agg #[.int .i64 (x964.1), .int .i64 (x964.2.1), .int .i64 (x964.2.2.1), .int .i64 (x964.2.2.2.1), .int .i64 (x964.2.2.2.2)], .agg #[.int .i64 (x968.1), .int .i64 (x968.2.1), .int .i64 (x968.2.2.1), .int .i64 (x968.2.2.2.1), .int .i64 (x968.2.2.2.2)]]) (by kernel_rfl) ent98 (c_impl_merge hy996) ?_
                  rintro _ w997 ⟨rfl, hc998⟩
                  replace F823 := F823.chg hc998 Dj.nil
                  replace F824 := F824.chg hc998 Dj.nil
                  replace F825 := F825.chg hc998 Dj.nil
                  replace F839 := F839.chg hc998 Dj.nil
                  replace F989 := F989.chg hc998 notNil
                  replace hB := hB.inS hc998 inNil
                  have hSz := hS
                  replace hS := hS.inS hc998 inNil
                  replace hZ := Nat.le_trans hZ hc998.size
                  refine ⟨.tuple #[.agg #[.int .i64 (y995.1.1), .int .i64 (y995.1.2.1), .int .i64 (y995.1.2.2.1), .int .i64 (y995.1.2.2.2.1), .int .i64 (y995.1.2.2.2.2)], .int .i64 (y995.2.1), .int .i64 (y995.2.2.1), .bool (y995.2.2.2)], rfl, ?_⟩
                  refine wS_end (by kernel_rfl) ?_
                  refine eX_KH hS ?_
                  refine wH_take [13, 14, 15, 16, 17] [17, 16, 15, 14, 13, 12, 18, 11, 10, 9, 8, 7, 6, 5, 4, 3, 2, 1, 0] [(69, .bool (y995.2.2.2)), (68, .int .i64 (y995.2.2.1)), (67, .int .i64 (y995.2.1)), (66, .agg #[.int .i64 (y995.1.1), .int .i64 (y995.1.2.1), .int .i64 (y995.1.2.2.1), .int .i64 (y995.1.2.2.2.1), .int .i64 (y995.1.2.2.2.2)]), (52, .tuple #[.agg #[.int .i64 (y995.1.1), .int .i64 (y995.1.2.1), .int .i64 (y995.1.2.2.1), .int .i64 (y995.1.2.2.2.1), .int .i64 (y995.1.2.2.2.2)], .int .i64 (y995.2.1), .int .i64 (y995.2.2.1), .bool (y995.2.2.2)])] (by kernel_rfl) (qT (qT (qT (qB (qT (qL (qB (qT (qT qZ))))))))) (by kernel_rfl) ?_
                  refine wH_all [19] (by rfl) (by kernel_rfl) (by simp) ⟨⟨by kernel_rfl, ?_⟩, trivial⟩
                  refine wS_store (T := 52) (g := b986) (o := 0) (ad := ⟨b986, 0, none⟩) (v := .agg #[.int .i64 (y995.1.1), .int .i64 (y995.1.2.1), .int .i64 (y995.1.2.2.1), .int .i64 (y995.1.2.2.2.1), .int .i64 (y995.1.2.2.2.2)]) (vs := [.int .i64 (y995.1.1), .int .i64 (y995.1.2.1), .int .i64 (y995.1.2.2.1), .int .i64 (y995.1.2.2.2.1), .int .i64 (y995.1.2.2.2.2)]) (by kernel_rfl) (by rfl) sz52 (by rfl) (by rfl) F989 (by simp only [List.length_cons, List.length_nil]; omega) ?_
                  intro w999 F1000 hc1001
                  replace F823 := F823.chg hc1001 (Dj.of L1 (low1 G988))
                  replace F824 := F824.chg hc1001 D992
                  replace F825 := F825.chg hc1001 D993
                  replace F839 := F839.chg hc1001 (Dj.of L1 (low1 G988))
                  replace hB := hB.inS hc1001 (inLow (low1 G988))
                  have hSz := hS
                  replace hS := hS.inS hc1001 (inLow Gz994)
                  replace hZ := Nat.le_trans hZ hc1001.size
                  replace F1000 : Cl w999 b986 52 [.int .i64 (y995.1.1), .int .i64 (y995.1.2.1), .int .i64 (y995.1.2.2.1), .int .i64 (y995.1.2.2.2.1), .int .i64 (y995.1.2.2.2.2)] := F1000
                  clear F989
                  refine wS_end (by kernel_rfl) ?_
                  refine eX_KH hS ?_
                  refine wH_take [20, 21] [21, 20, 19, 17, 16, 15, 14, 13, 12, 18, 11, 10, 9, 8, 7, 6, 5, 4, 3, 2, 1, 0] [(15, .int .i64 (y995.2.2.1)), (14, .int .i64 (y995.2.1))] (by kernel_rfl) (qT (qT (qT (qB (qT (qL (qB (qT (qT qZ))))))))) (by kernel_rfl) ?_
                  refine wH_done (by kernel_rfl) ?_
                  refine eX_tail ?_
                  refine wS_pure 1 [(16, .bool (y995.2.2.2))] (by kernel_rfl) ?_
                  refine wS_end (by rfl) ?_
                  have hq : (some ((y995.1.1, y995.1.2.1, y995.1.2.2.1, y995.1.2.2.2.1, y995.1.2.2.2.2, y995.2.1, y995.2.2.1, y995.2.2.2)) : Option (Int × Int × Int × Int × Int × Int × Int × Bool)) = some _ := hm
                  replace hq := someE hq
                  subst hq
                  exact eX_J (fun hst => ⟨b986, y995.1.1, y995.1.2.1, y995.1.2.2.1, y995.1.2.2.2.1, y995.1.2.2.2.2, y995.2.1, y995.2.2.1, y995.2.2.2, rfl, Fr.of hst (by kernel_rfl), F823, F824, F825, F839, F1000, G988, D992, D993, hB, hZ⟩)
              · rintro a' w934 ⟨b935, x936, x937, x938, x939, x940, x942, x943, x944, hJ, hF945, F946, F947, F948, F949, F950, G951, D952, D953, hB, hZ⟩
                subst hJ
                refine Fr.goX hF945 (by kernel_rfl) ?_
                refine eX_then ?_
                refine cW_seq ?_
                refine cW_seq ?_
                refine cW_region ?_
                refine wS_pure 2 [(71, .bool (!x944)), (70, .bool (x944))] (by kernel_rfl) ?_
                refine wS_end (by rfl) ?_
                refine eX_then ?_
                refine cW_cond (t := !x944) (by kernel_rfl) (fun hb1002 => ?_) (fun hb1002 => ?_)
                · have hm := condT hb1002 hm
                  refine cW_seq ?_
                  refine cW_region ?_
                  refine wS_pure 3 [(6, .bool (false)), (5, .slice none 0 0), (4, .slice none 0 0)] (by kernel_rfl) ?_
                  refine wS_end (by rfl) ?_
                  refine eX_then ?_
                  refine cW_ret ?_
                  refine eX_then_ret ?_
                  refine eX_block_ret ?_
                  refine eX_then_ret ?_
                  have hq : (some (Ctl.out (Sum.inr (([], [], false)))) : Option (Ctl ((List (Int × Int × Int × Int × Int)) × Int × (List (Int))) (Sum ((List (Int × Int × Int × Int × Int)) × (List (Int))) ((List (Int × Int × Int × Int × Int)) × (List (Int)) × (Bool))))) = some _ := hm
                  replace hq := someE hq
                  subst hq
                  refine eX_outR hx833 (fun hr => ?_)
                  subst hr
                  refine eX_block_ret ?_
                  refine eX_then_ret ?_
                  refine eX_then_ret ?_
                  have hq : (some (([], [], false)) : Option ((List (Int × Int × Int × Int × Int)) × (List (Int)) × (Bool))) = some _ := hm830
                  replace hq := someE hq
                  subst hq
                  refine eX_ret (vs := [.slice none 0 0, .slice none 0 0, .bool (false)]) [.tmp 4, .tmp 5, .tmp 6] (by rfl) ⟨by (show lkE _ _ _ = _); kernel_rfl, ⟨by (show lkE _ _ _ = _); kernel_rfl, ⟨by (show lkE _ _ _ = _); kernel_rfl, trivial⟩⟩⟩ ?_
                  exact ⟨none, 0, [], none, 0, [], rfl, Ow.nil _, lowNil, Ow.nil _, lowNil, Dj.nil, hB⟩
                · have hm := condF hb1002 hm
                  refine cW_skip ?_
                  refine eX_then ?_
                  refine cW_seq ?_
                  refine cW_region ?_
                  refine wS_pure 1 [(72, .slice A816 (l815).length cap817)] (by kernel_rfl) ?_
                  refine wS_loadA (d := 73) (T := 52) (ad := ⟨b935, 0, none⟩) (vs := [.int .i64 (x936), .int .i64 (x937), .int .i64 (x938), .int .i64 (x939), .int .i64 (x940)]) (by kernel_rfl) vt52 (fun i u hu => box_cells F950 0 hu (by rfl)) ?_
                  refine wS_bs (enc := encIIIII) ([(x936, x937, x938, x939, x940)] : List (Int × Int × Int × Int × Int)) [.int .i64 (x936), .int .i64 (x937), .int .i64 (x938), .int .i64 (x939), .int .i64 (x940)] (d := 74) (t := 75) (T := 52) (n := 1) (ps := [(0, .agg #[.int .i64 (x936), .int .i64 (x937), .int .i64 (x938), .int .i64 (x939), .int .i64 (x940)])]) (by kernel_rfl) el75 encIIIII_ok (by rfl) (by omega) (by omega) (by kernel_rfl) (by rfl) ?_
                  intro b1003 w1004 G1005 F1006 hc1007
                  have D1009 : Dj fp94 [b1003] := Dj.of F947.low (low1 G1005)
                  have D1010 : Dj fp818 [b1003] := Dj.of F948.low (low1 G1005)
                  have D1011 : Dj [b935] [b1003] := Dj.of (lt1 F950.lt) (low1 G1005)
                  replace F946 := F946.chg hc1007 Dj.nil
                  replace F947 := F947.chg hc1007 Dj.nil
                  replace F948 := F948.chg hc1007 Dj.nil
                  replace F949 := F949.chg hc1007 Dj.nil
                  replace F950 := F950.chg hc1007 notNil
                  replace hB := hB.inS hc1007 inNil
                  replace G1005 := Nat.le_trans hZ G1005
                  replace G1005 := low1 G1005
                  replace hZ := Nat.le_trans hZ hc1007.size
                  obtain ⟨_, hk1012, hm⟩ := bindE hm
                  replace hk1012 := apE hk1012
                  refine wS_append (enc := encIIIII) (l := (l815 : List (Int × Int × Int × Int × Int))) (l2 := (([(x936, x937, x938, x939, x940)] : List (Int × Int × Int × Int × Int)) : List (Int × Int × Int × Int × Int))) (d := 75) (t := 75) (T := 52) (A := A816) (A2 := (some ⟨b1003, 0, none⟩)) (cap := cap817) (cap2 := 1) (by kernel_rfl) el75 encIIIII_ok F948 (F1006.sl encIIIII_ok) (by rfl) hk1012 ?_
                  intro w1013 fp1014 A1015 cap1016 F1017 hc1018 hp1019
                  have G1021 := low_ap G826 hZ hp1019
                  have D1022 : Dj fp94 fp1014 := Dj.ap D827 F947.low hp1019
                  have D1023 : Dj [b935] fp1014 := Dj.ap (D953).symm (lt1 F950.lt) hp1019
                  have D1024 : Dj [b1003] fp1014 := Dj.ap (D1010).symm F1006.low hp1019
                  replace F946 := F946.chg hc1018 (Dj.of L1 G826)
                  replace F947 := F947.chg hc1018 D827
                  replace F949 := F949.chg hc1018 (Dj.of L1 G826)
                  replace F950 := F950.chg hc1018 (dj1 (D953).symm)
                  replace F1006 := F1006.chg hc1018 (D1010).symm
                  replace hB := hB.inS hc1018 (inLow G826)
                  replace hZ := Nat.le_trans hZ hc1018.size
                  refine wS_pure 1 [(7, .slice A1015 (l815 ++ (([(x936, x937, x938, x939, x940)] : List (Int × Int × Int × Int × Int)))).length cap1016)] (by kernel_rfl) ?_
                  refine wS_end (by rfl) ?_
                  refine eX_then ?_
                  refine cW_drawnTail fp94 12 (by kernel_rfl) (by kernel_rfl) (fun w1047 hc1048 => ?_)
                  replace F946 := F946.chg hc1048 Dj.nil
                  replace F947 := F947.chg hc1048 Dj.nil
                  replace F949 := F949.chg hc1048 Dj.nil
                  replace F950 := F950.chg hc1048 notNil
                  replace F1006 := F1006.chg hc1048 Dj.nil
                  replace F1017 := F1017.chg hc1048 Dj.nil
                  replace hB := hB.inS hc1048 inNil
                  replace hZ := Nat.le_trans hZ hc1048.size
                  have hS := Chg.refl fp94 w1047
                  have Z1049 := F946
                  have Z1050 := F947
                  have Z1051 := F949
                  have Z1052 := F950
                  have Z1053 := F1006
                  have Z1054 := F1017
                  refine wH_take [0, 1] [1, 0] [(77, .slice A837 (x835).length cap838), (76, .slice A92 (l821).length cap93)] (by kernel_rfl) (qT (qB (qT (qL (qB (qT (qT qZ))))))) (by kernel_rfl) ?_
                  obtain ⟨x1055, hx1056, hm⟩ := bindE hm
                  refine wH_idx (i := 2) (d := 78) (T := 68) (A := A837) (n := (x835).length) (cap := cap838) (kd := .i64) (m := 0) (by kernel_rfl) (qT (qB (qT (qL (qB (qT (qT qZ))))))) (by kernel_rfl) (by kernel_rfl) sl68 (F949.is hx1056) ?_
                  refine wH_load1 (i := 3) (d := 79) (T := 2) (ad := (elA A837 1 (0) 0)) (v := .int .i64 (x1055)) (by kernel_rfl) (qT (qB (qT (qL (qB (qT (qT qZ))))))) (by kernel_rfl) (by kernel_rfl) vt2 (fun W hW => Sl.cell (Z1051.chg hW (Dj.of L1 G102)) hx1056 0 (by rfl)) ?_
                  refine wH_take [4, 5] [5, 4, 3, 2, 1, 0] [(81, .slice A837 (x835).length cap838), (80, .slice A92 (l821).length cap93)] (by kernel_rfl) (qT (qB (qT (qL (qB (qT (qT qZ))))))) (by kernel_rfl) ?_
                  obtain ⟨x1057, hx1058, hm⟩ := bindE hm
                  refine wH_idx (i := 6) (d := 82) (T := 68) (A := A837) (n := (x835).length) (cap := cap838) (kd := .i64) (m := 1) (by kernel_rfl) (qT (qB (qT (qL (qB (qT (qT qZ))))))) (by kernel_rfl) (by kernel_rfl) sl68 (F949.is hx1058) ?_
                  refine wH_load1 (i := 7) (d := 83) (T := 2) (ad := (elA A837 1 (1) 0)) (v := .int .i64 (x1057)) (by kernel_rfl) (qT (qB (qT (qL (qB (qT (qT qZ))))))) (by kernel_rfl) (by kernel_rfl) vt2 (fun W hW => Sl.cell (Z1051.chg hW (Dj.of L1 G102)) hx1058 0 (by rfl)) ?_
                  refine wH_take [8, 9] [9, 8, 7, 6, 5, 4, 3, 2, 1, 0] [(85, .int .i64 (x943)), (84, .int .i64 (x942))] (by kernel_rfl) (qT (qB (qT (qL (qB (qT (qT qZ))))))) (by kernel_rfl) ?_
                  obtain ⟨x1059, hx1060, hm⟩ := bindE hm
                  refine wH_idx (i := 10) (d := 86) (T := 68) (A := A92) (n := (l821).length) (cap := cap93) (kd := .i64) (m := x1055) (by kernel_rfl) (qT (qB (qT (qL (qB (qT (qT qZ))))))) (by kernel_rfl) (by kernel_rfl) sl68 ((F947.sl encI_ok).is hx1060) ?_
                  refine wH_all [11] (by rfl) (by kernel_rfl) (by simp) ⟨⟨by kernel_rfl, ?_⟩, trivial⟩
                  refine wS_storeEl (x := x1059) x942 (T := 2) (U := 2) (cap := cap93) (j := 0) (A := A92) (v := .int .i64 (x942)) (vs := [.int .i64 (x942)]) (m := x1055) (by kernel_rfl) (by rfl) sz2 (by rfl) encI_ok F947 hx1060 (by simp only [List.length_cons, List.length_nil]; omega) (by rfl) ?_
                  intro w1061 F1062 hc1063
                  replace F946 := F946.chg hc1063 (Dj.of L1 G102)
                  replace F949 := F949.chg hc1063 (Dj.of L1 G102)
                  replace F950 := F950.chg hc1063 (dj1 (D952).symm)
                  replace F1006 := F1006.chg hc1063 (D1009).symm
                  replace F1017 := F1017.chg hc1063 (D1022).symm
                  replace hB := hB.inS hc1063 (inLow G102)
                  have hSz := hS
                  replace hS := hS.trans hc1063
                  replace hZ := Nat.le_trans hZ hc1063.size
                  clear F947
                  rewrite [show (l821).length = (l821.set (Int.toNat x1055) x942).length from (List.length_set ..).symm]
                  refine wS_end (by kernel_rfl) ?_
                  refine eX_KH hS ?_
                  refine wH_done (by kernel_rfl) ?_
                  refine eX_tail ?_
                  obtain ⟨x1064, hx1065, hm⟩ := bindE hm
                  refine wS_idx (d := 87) (T := 68) (A := A92) (n := (l821.set (Int.toNat x1055) x942).length) (cap := cap93) (kd := .i64) (m := x1057) (by kernel_rfl) sl68 ((F1062.sl encI_ok).is hx1065) ?_
                  refine wS_storeEl (x := x1064) x943 (T := 2) (U := 2) (cap := cap93) (j := 0) (A := A92) (v := .int .i64 (x943)) (vs := [.int .i64 (x943)]) (m := x1057) (by kernel_rfl) (by rfl) sz2 (by rfl) encI_ok F1062 hx1065 (by simp only [List.length_cons, List.length_nil]; omega) (by rfl) ?_
                  intro w1066 F1067 hc1068
                  replace F946 := F946.chg hc1068 (Dj.of L1 G102)
                  replace F949 := F949.chg hc1068 (Dj.of L1 G102)
                  replace F950 := F950.chg hc1068 (dj1 (D952).symm)
                  replace F1006 := F1006.chg hc1068 (D1009).symm
                  replace F1017 := F1017.chg hc1068 (D1022).symm
                  replace hB := hB.inS hc1068 (inLow G102)
                  replace hZ := Nat.le_trans hZ hc1068.size
                  clear F1062
                  rewrite [show (l821.set (Int.toNat x1055) x942).length = ((l821.set (Int.toNat x1055) x942).set (Int.toNat x1057) x943).length from (List.length_set ..).symm]
                  refine wS_end (by rfl) ?_
                  refine eX_block ?_
                  refine eX_then ?_
                  refine cW_prune [(7, .slice A1015 (l815 ++ (([(x936, x937, x938, x939, x940)] : List (Int × Int × Int × Int × Int)))).length cap1016), (8, .slice A92 ((l821.set (Int.toNat x1055) x942).set (Int.toNat x1057) x943).length cap93), (46, .slice A1 (l1).length cap1), (47, .int .i64 (((l1).length : Int))), (48, .int .i64 (x820))] (by kernel_rfl) (by kernel_rfl) (fun a1069 => ?_)
                  refine cW_region ?_
                  refine wS_pure 2 [(48, .int .i64 (wr (x820 + 1))), (88, .int .i64 (wr (x820 + 1)))] (by kernel_rfl) ?_
                  refine wS_end (by rfl) ?_
                  have hq : (some (Ctl.next ((l815 ++ (([(x936, x937, x938, x939, x940)] : List (Int × Int × Int × Int × Int))), wr (x820 + 1), (l821.set (Int.toNat x1055) x942).set (Int.toNat x1057) x943))) : Option (Ctl ((List (Int × Int × Int × Int × Int)) × Int × (List (Int))) (Sum ((List (Int × Int × Int × Int × Int)) × (List (Int))) ((List (Int × Int × Int × Int × Int)) × (List (Int)) × (Bool))))) = some _ := hm
                  replace hq := someE hq
                  subst hq
                  exact eX_next hx833 (fun hst => ⟨l815 ++ (([(x936, x937, x938, x939, x940)] : List (Int × Int × Int × Int × Int))), A1015, cap1016, fp1014, wr (x820 + 1), (l821.set (Int.toNat x1055) x942).set (Int.toNat x1057) x943, rfl, Fr.of hst (by kernel_rfl), F946, F1067, F1017, G1021, D1022, hB, hZ⟩)
            · have hm := condF hb834 hm
              refine cW_exit ?_
              refine eX_then_exit ?_
              have hq : (some (Ctl.out (Sum.inl ((l815, l821)))) : Option (Ctl ((List (Int × Int × Int × Int × Int)) × Int × (List (Int))) (Sum ((List (Int × Int × Int × Int × Int)) × (List (Int))) ((List (Int × Int × Int × Int × Int)) × (List (Int)) × (Bool))))) = some _ := hm
              replace hq := someE hq
              subst hq
              refine eX_outX hx833 (fun hr1070 => ?_)
              replace hr1070 := hr1070.symm
              subst hr1070
              refine eX_block_hit ?_
              exact eX_J (fun hst => ⟨l815, A816, cap817, fp818, l821, rfl, Fr.of hst (by kernel_rfl), F824, F825, G826, D827, hB, hZ⟩)
          · rintro a' w802 ⟨l803, A804, cap805, fp806, l808, hJ, hF809, F810, F811, G812, D813, hB, hZ⟩
            subst hJ
            refine Fr.goX hF809 (by kernel_rfl) ?_
            refine eX_then ?_
            refine cW_seq ?_
            refine cW_region ?_
            refine wS_pure 5 [(6, .bool (true)), (5, .slice A92 (l808).length cap93), (4, .slice A804 (l803).length cap805), (90, .slice A92 (l808).length cap93), (89, .slice A804 (l803).length cap805)] (by kernel_rfl) ?_
            refine wS_end (by rfl) ?_
            refine eX_then ?_
            refine cW_ret ?_
            have hq : (some ((l803, l808, true)) : Option ((List (Int × Int × Int × Int × Int)) × (List (Int)) × (Bool))) = some _ := hm
            replace hq := someE hq
            subst hq
            refine eX_ret (vs := [.slice A804 (l803).length cap805, .slice A92 (l808).length cap93, .bool (true)]) [.tmp 4, .tmp 5, .tmp 6] (by rfl) ⟨by (show lkE _ _ _ = _); kernel_rfl, ⟨by (show lkE _ _ _ = _); kernel_rfl, ⟨by (show lkE _ _ _ = _); kernel_rfl, trivial⟩⟩⟩ ?_
            exact ⟨A804, cap805, fp806, A92, cap93, fp94, rfl, F811, G812, F810, G102, (D813).symm, hB⟩

end Go.Proofs.Ytmodhpgnkbnbaaa
