/- Printed walks: laws.eqWiring, laws.FnExactValidWiring, spec.l07Layering, spec.l07Cost, spec.CostOf, impl.IsLayering$1, slices.IndexFunc[[][]int64,[]int64], slices.ContainsFunc[[][]int64,[]int64], impl.IsLayering, spec.IsLayering, laws.FnExactIsLayering, (*impl.Wiring).cost, impl.CostOf, laws.FnExactCostOf. -/
import Derived.Test.YtajnjbmniobjhaaProg
import Derived.Test.YtajnjbmniobjhaaWVa01
set_option linter.unusedSimpArgs false
set_option linter.unusedVariables false
namespace Go.Proofs.Ytajnjbmniobjhaa
open Go.RowKit
attribute [local irreducible] wS cW eX wH

theorem ent24 : Ent Try.prog 24 := fun _ => by kernel_rfl
theorem ent25 : Ent Try.prog 25 := fun _ => by kernel_rfl
theorem ent26 : Ent Try.prog 26 := fun _ => by kernel_rfl
theorem ent27 : Ent Try.prog 27 := fun _ => by kernel_rfl
theorem ent28 : Ent Try.prog 28 := fun _ => by kernel_rfl
theorem ent34 : Ent Try.prog 34 := fun _ => by kernel_rfl
theorem ent35 : Ent Try.prog 35 := fun _ => by kernel_rfl
theorem ent46 : Ent Try.prog 46 := fun _ => by kernel_rfl
theorem ent52 : Ent Try.prog 52 := fun _ => by kernel_rfl
theorem ent56 : Ent Try.prog 56 := fun _ => by kernel_rfl
theorem ent93 : Ent Try.prog 93 := fun _ => by kernel_rfl
theorem ent94 : Ent Try.prog 94 := fun _ => by kernel_rfl
theorem ent95 : Ent Try.prog 95 := fun _ => by kernel_rfl
theorem ent106 : Ent Try.prog 106 := fun _ => by kernel_rfl
theorem vt40 : VarTy Try.prog 40 4 true := ⟨by kernel_rfl, by kernel_rfl⟩

set_option maxRecDepth 100000 in
/-- laws.eqWiring -/
theorem c_laws_eqWiring {w0 : World} {p0_0 : Int} {l0_1 : List (List (Int))} {A0_1 : Option Addr} {cap0_1 : Nat} {fp0_1 : List Nat} {l0_2 : List (List (Int))} {A0_2 : Option Addr} {cap0_2 : Nat} {fp0_2 : List Nat} {l0_3 : List (Int)} {A0_3 : Option Addr} {cap0_3 : Nat} {fp0_3 : List Nat} {p1_0 : Int} {l1_1 : List (List (Int))} {A1_1 : Option Addr} {cap1_1 : Nat} {fp1_1 : List Nat} {l1_2 : List (List (Int))} {A1_2 : Option Addr} {cap1_2 : Nat} {fp1_2 : List Nat} {l1_3 : List (Int)} {A1_3 : Option Addr} {cap1_3 : Nat} {fp1_3 : List Nat} {r : (Bool)} (hm : m_laws_eqWiring p0_0 l0_1 l0_2 l0_3 p1_0 l1_1 l1_2 l1_3 = some r) (F0_1 : SlR 1 encI w0 fp0_1 A0_1 l0_1) (F0_2 : SlR 1 encI w0 fp0_2 A0_2 l0_2) (F0_3 : Sl 1 encI w0 fp0_3 A0_3 l0_3) (F1_1 : SlR 1 encI w0 fp1_1 A1_1 l1_1) (F1_2 : SlR 1 encI w0 fp1_2 A1_2 l1_2) (F1_3 : Sl 1 encI w0 fp1_3 A1_3 l1_3) :
    Calls Try.prog 28 #[.agg #[.int .i64 (p0_0), .slice A0_1 (l0_1).length cap0_1, .slice A0_2 (l0_2).length cap0_2, .slice A0_3 (l0_3).length cap0_3], .agg #[.int .i64 (p1_0), .slice A1_1 (l1_1).length cap1_1, .slice A1_2 (l1_2).length cap1_2, .slice A1_3 (l1_3).length cap1_3]] w0 fun e w' => e = .returned (.bool (r)) ∧ Chg [] w0 w' := by
  have L0_1 := F0_1.low
  have L0_2 := F0_2.low
  have L0_3 := F0_3.low
  have L1_1 := F1_1.low
  have L1_2 := F1_2.low
  have L1_3 := F1_3.low
  have hB : Chg [] w0 w0 := Chg.refl _ _
  have hZ := Nat.le_refl w0.heap.size
  unfold m_laws_eqWiring at hm
  refine enterE (N := 28) Try.func28 (by rfl) Try.ntmps28 (by simp) [(0, .agg #[.int .i64 (p0_0), .slice A0_1 (l0_1).length cap0_1, .slice A0_2 (l0_2).length cap0_2, .slice A0_3 (l0_3).length cap0_3]), (1, .agg #[.int .i64 (p1_0), .slice A1_1 (l1_1).length cap1_1, .slice A1_2 (l1_2).length cap1_2, .slice A1_3 (l1_3).length cap1_3])] (by rfl) (by kernel_rfl) (fun a => ?_)
  refine cW_seq ?_
  refine cW_region ?_
  refine wS_box (d := 2) (T := 43) (x := .agg #[.int .i64 (p0_0), .slice A0_1 (l0_1).length cap0_1, .slice A0_2 (l0_2).length cap0_2, .slice A0_3 (l0_3).length cap0_3]) (by kernel_rfl) ?_
  intro b7 w8 G9 F10 hc11
  replace F10 : Cl w8 b7 43 [.int .i64 (p0_0), .slice A0_1 (l0_1).length cap0_1, .slice A0_2 (l0_2).length cap0_2, .slice A0_3 (l0_3).length cap0_3] := F10
  replace F0_1 := F0_1.chg hc11 Dj.nil
  replace F0_2 := F0_2.chg hc11 Dj.nil
  replace F0_3 := F0_3.chg hc11 Dj.nil
  replace F1_1 := F1_1.chg hc11 Dj.nil
  replace F1_2 := F1_2.chg hc11 Dj.nil
  replace F1_3 := F1_3.chg hc11 Dj.nil
  replace hB := hB.inS hc11 inNil
  replace G9 := Nat.le_trans hZ G9
  replace hZ := Nat.le_trans hZ hc11.size
  refine wS_box (d := 3) (T := 43) (x := .agg #[.int .i64 (p1_0), .slice A1_1 (l1_1).length cap1_1, .slice A1_2 (l1_2).length cap1_2, .slice A1_3 (l1_3).length cap1_3]) (by kernel_rfl) ?_
  intro b13 w14 G15 F16 hc17
  replace F16 : Cl w14 b13 43 [.int .i64 (p1_0), .slice A1_1 (l1_1).length cap1_1, .slice A1_2 (l1_2).length cap1_2, .slice A1_3 (l1_3).length cap1_3] := F16
  have D19 : Dj [b7] [b13] := Dj.of (lt1 F10.lt) (low1 G15)
  replace F0_1 := F0_1.chg hc17 Dj.nil
  replace F0_2 := F0_2.chg hc17 Dj.nil
  replace F0_3 := F0_3.chg hc17 Dj.nil
  replace F1_1 := F1_1.chg hc17 Dj.nil
  replace F1_2 := F1_2.chg hc17 Dj.nil
  replace F1_3 := F1_3.chg hc17 Dj.nil
  replace F10 := F10.chg hc17 notNil
  replace hB := hB.inS hc17 inNil
  replace G15 := Nat.le_trans hZ G15
  replace hZ := Nat.le_trans hZ hc17.size
  refine wS_pure 1 [(4, .bool (false))] (by kernel_rfl) ?_
  refine wS_end (by rfl) ?_
  refine eX_then ?_
  refine cW_seq ?_
  refine cW_seq ?_
  refine cW_region ?_
  refine wS_pure 1 [(5, .pointer (some ⟨b7, 0, none⟩))] (by kernel_rfl) ?_
  refine wS_load1 (d := 6) (T := 2) (ad := ⟨b7, 0, none⟩) (v := .int .i64 (p0_0)) (by kernel_rfl) vt2 ((F10).cell 0) ?_
  refine wS_pure 1 [(7, .pointer (some ⟨b13, 0, none⟩))] (by kernel_rfl) ?_
  refine wS_load1 (d := 8) (T := 2) (ad := ⟨b13, 0, none⟩) (v := .int .i64 (p1_0)) (by kernel_rfl) vt2 ((F16).cell 0) ?_
  refine wS_pure 1 [(9, .bool (p0_0 != p1_0))] (by kernel_rfl) ?_
  refine wS_end (by rfl) ?_
  refine eX_then ?_
  refine cW_cond (t := p0_0 != p1_0) (by kernel_rfl) (fun hb20 => ?_) (fun hb20 => ?_)
  · have hm := condT hb20 hm
    refine cW_seq ?_
    refine cW_region ?_
    refine wS_pure 1 [(4, .bool (false))] (by kernel_rfl) ?_
    refine wS_end (by rfl) ?_
    refine eX_then ?_
    refine cW_ret ?_
    refine eX_then_ret ?_
    have hq : (some false : Option ((Bool))) = some _ := hm
    replace hq := someE hq
    subst hq
    refine eX_ret (vs := [.bool (false)]) [.tmp 4] (by rfl) ⟨by (show lkE _ _ _ = _); kernel_rfl, trivial⟩ ?_
    exact ⟨rfl, hB⟩
  · have hm := condF hb20 hm
    refine cW_skip ?_
    refine eX_then ?_
    refine cW_seq ?_
    refine cW_seq ?_
    refine cW_region ?_
    refine wS_pure 1 [(10, .pointer (some ⟨b7, 1, none⟩))] (by kernel_rfl) ?_
    refine wS_load1 (d := 11) (T := 37) (ad := ⟨b7, 1, none⟩) (v := .slice A0_1 (l0_1).length cap0_1) (by kernel_rfl) vt37 ((F10).cell 1) ?_
    refine wS_pure 1 [(12, .pointer (some ⟨b13, 1, none⟩))] (by kernel_rfl) ?_
    refine wS_load1 (d := 13) (T := 37) (ad := ⟨b13, 1, none⟩) (v := .slice A1_1 (l1_1).length cap1_1) (by kernel_rfl) vt37 ((F16).cell 1) ?_
    obtain ⟨y21, hy22, hm⟩ := bindE hm
    refine wS_calls (d := 14) (f := 56) (vs := [.slice A0_1 (l0_1).length cap0_1, .slice A1_1 (l1_1).length cap1_1]) (by kernel_rfl) ent56 (c_laws_eqInt64SS hy22 F0_1 F1_1) ?_
    rintro _ w23 ⟨rfl, hc24⟩
    replace F0_1 := F0_1.chg hc24 Dj.nil
    replace F0_2 := F0_2.chg hc24 Dj.nil
    replace F0_3 := F0_3.chg hc24 Dj.nil
    replace F1_1 := F1_1.chg hc24 Dj.nil
    replace F1_2 := F1_2.chg hc24 Dj.nil
    replace F1_3 := F1_3.chg hc24 Dj.nil
    replace F10 := F10.chg hc24 notNil
    replace F16 := F16.chg hc24 notNil
    replace hB := hB.inS hc24 inNil
    replace hZ := Nat.le_trans hZ hc24.size
    refine ⟨.bool (y21), rfl, ?_⟩
    refine wS_pure 1 [(15, .bool (!y21))] (by kernel_rfl) ?_
    refine wS_end (by rfl) ?_
    refine eX_then ?_
    refine cW_cond (t := !y21) (by kernel_rfl) (fun hb25 => ?_) (fun hb25 => ?_)
    · have hm := condT hb25 hm
      refine cW_seq ?_
      refine cW_region ?_
      refine wS_pure 1 [(4, .bool (false))] (by kernel_rfl) ?_
      refine wS_end (by rfl) ?_
      refine eX_then ?_
      refine cW_ret ?_
      refine eX_then_ret ?_
      have hq : (some false : Option ((Bool))) = some _ := hm
      replace hq := someE hq
      subst hq
      refine eX_ret (vs := [.bool (false)]) [.tmp 4] (by rfl) ⟨by (show lkE _ _ _ = _); kernel_rfl, trivial⟩ ?_
      exact ⟨rfl, hB⟩
    · have hm := condF hb25 hm
      refine cW_skip ?_
      refine eX_then ?_
      refine cW_seq ?_
      refine cW_seq ?_
      refine cW_region ?_
      refine wS_pure 1 [(16, .pointer (some ⟨b7, 2, none⟩))] (by kernel_rfl) ?_
      refine wS_load1 (d := 17) (T := 37) (ad := ⟨b7, 2, none⟩) (v := .slice A0_2 (l0_2).length cap0_2) (by kernel_rfl) vt37 ((F10).cell 2) ?_
      refine wS_pure 1 [(18, .pointer (some ⟨b13, 2, none⟩))] (by kernel_rfl) ?_
      refine wS_load1 (d := 19) (T := 37) (ad := ⟨b13, 2, none⟩) (v := .slice A1_2 (l1_2).length cap1_2) (by kernel_rfl) vt37 ((F16).cell 2) ?_
      obtain ⟨y26, hy27, hm⟩ := bindE hm
      refine wS_calls (d := 20) (f := 56) (vs := [.slice A0_2 (l0_2).length cap0_2, .slice A1_2 (l1_2).length cap1_2]) (by kernel_rfl) ent56 (c_laws_eqInt64SS hy27 F0_2 F1_2) ?_
      rintro _ w28 ⟨rfl, hc29⟩
      replace F0_1 := F0_1.chg hc29 Dj.nil
      replace F0_2 := F0_2.chg hc29 Dj.nil
      replace F0_3 := F0_3.chg hc29 Dj.nil
      replace F1_1 := F1_1.chg hc29 Dj.nil
      replace F1_2 := F1_2.chg hc29 Dj.nil
      replace F1_3 := F1_3.chg hc29 Dj.nil
      replace F10 := F10.chg hc29 notNil
      replace F16 := F16.chg hc29 notNil
      replace hB := hB.inS hc29 inNil
      replace hZ := Nat.le_trans hZ hc29.size
      refine ⟨.bool (y26), rfl, ?_⟩
      refine wS_pure 1 [(21, .bool (!y26))] (by kernel_rfl) ?_
      refine wS_end (by rfl) ?_
      refine eX_then ?_
      refine cW_cond (t := !y26) (by kernel_rfl) (fun hb30 => ?_) (fun hb30 => ?_)
      · have hm := condT hb30 hm
        refine cW_seq ?_
        refine cW_region ?_
        refine wS_pure 1 [(4, .bool (false))] (by kernel_rfl) ?_
        refine wS_end (by rfl) ?_
        refine eX_then ?_
        refine cW_ret ?_
        refine eX_then_ret ?_
        have hq : (some false : Option ((Bool))) = some _ := hm
        replace hq := someE hq
        subst hq
        refine eX_ret (vs := [.bool (false)]) [.tmp 4] (by rfl) ⟨by (show lkE _ _ _ = _); kernel_rfl, trivial⟩ ?_
        exact ⟨rfl, hB⟩
      · have hm := condF hb30 hm
        refine cW_skip ?_
        refine eX_then ?_
        refine cW_seq ?_
        refine cW_seq ?_
        refine cW_region ?_
        refine wS_pure 1 [(22, .pointer (some ⟨b7, 3, none⟩))] (by kernel_rfl) ?_
        refine wS_load1 (d := 23) (T := 38) (ad := ⟨b7, 3, none⟩) (v := .slice A0_3 (l0_3).length cap0_3) (by kernel_rfl) vt38 ((F10).cell 3) ?_
        refine wS_pure 1 [(24, .pointer (some ⟨b13, 3, none⟩))] (by kernel_rfl) ?_
        refine wS_load1 (d := 25) (T := 38) (ad := ⟨b13, 3, none⟩) (v := .slice A1_3 (l1_3).length cap1_3) (by kernel_rfl) vt38 ((F16).cell 3) ?_
        obtain ⟨y31, hy32, hm⟩ := bindE hm
        refine wS_calls (d := 26) (f := 48) (vs := [.slice A0_3 (l0_3).length cap0_3, .slice A1_3 (l1_3).length cap1_3]) (by kernel_rfl) ent48 (c_laws_eqInt64S hy32 F0_3 F1_3) ?_
        rintro _ w33 ⟨rfl, hc34⟩
        replace F0_1 := F0_1.chg hc34 Dj.nil
        replace F0_2 := F0_2.chg hc34 Dj.nil
        replace F0_3 := F0_3.chg hc34 Dj.nil
        replace F1_1 := F1_1.chg hc34 Dj.nil
        replace F1_2 := F1_2.chg hc34 Dj.nil
        replace F1_3 := F1_3.chg hc34 Dj.nil
        replace F10 := F10.chg hc34 notNil
        replace F16 := F16.chg hc34 notNil
        replace hB := hB.inS hc34 inNil
        replace hZ := Nat.le_trans hZ hc34.size
        refine ⟨.bool (y31), rfl, ?_⟩
        refine wS_pure 1 [(27, .bool (!y31))] (by kernel_rfl) ?_
        refine wS_end (by rfl) ?_
        refine eX_then ?_
        refine cW_prune [(27, .bool (!y31))] (by kernel_rfl) (by kernel_rfl) (fun a35 => ?_)
        refine cW_cond (t := !y31) (by kernel_rfl) (fun hb36 => ?_) (fun hb36 => ?_)
        · have hm := condT hb36 hm
          refine cW_seq ?_
          refine cW_region ?_
          refine wS_pure 1 [(4, .bool (false))] (by kernel_rfl) ?_
          refine wS_end (by rfl) ?_
          refine eX_then ?_
          refine cW_ret ?_
          refine eX_then_ret ?_
          have hq : (some false : Option ((Bool))) = some _ := hm
          replace hq := someE hq
          subst hq
          refine eX_ret (vs := [.bool (false)]) [.tmp 4] (by rfl) ⟨by (show lkE _ _ _ = _); kernel_rfl, trivial⟩ ?_
          exact ⟨rfl, hB⟩
        · have hm := condF hb36 hm
          refine cW_skip ?_
          refine eX_then ?_
          refine cW_seq ?_
          refine cW_region ?_
          refine wS_pure 1 [(4, .bool (true))] (by kernel_rfl) ?_
          refine wS_end (by rfl) ?_
          refine eX_then ?_
          refine cW_ret ?_
          have hq : (some true : Option ((Bool))) = some _ := hm
          replace hq := someE hq
          subst hq
          refine eX_ret (vs := [.bool (true)]) [.tmp 4] (by rfl) ⟨by (show lkE _ _ _ = _); kernel_rfl, trivial⟩ ?_
          exact ⟨rfl, hB⟩

set_option maxRecDepth 100000 in
/-- laws.FnExactValidWiring -/
theorem c_laws_FnExactValidWiring {w0 : World} {p0_0 : Int} {l0_1 : List (List (Int))} {A0_1 : Option Addr} {cap0_1 : Nat} {fp0_1 : List Nat} {l0_2 : List (List (Int))} {A0_2 : Option Addr} {cap0_2 : Nat} {fp0_2 : List Nat} {l0_3 : List (Int)} {A0_3 : Option Addr} {cap0_3 : Nat} {fp0_3 : List Nat} {r : (Bool)} (hm : m_laws_FnExactValidWiring p0_0 l0_1 l0_2 l0_3 = some r) (F0_1 : SlR 1 encI w0 fp0_1 A0_1 l0_1) (F0_2 : SlR 1 encI w0 fp0_2 A0_2 l0_2) (F0_3 : Sl 1 encI w0 fp0_3 A0_3 l0_3) :
    Calls Try.prog 4 #[.agg #[.int .i64 (p0_0), .slice A0_1 (l0_1).length cap0_1, .slice A0_2 (l0_2).length cap0_2, .slice A0_3 (l0_3).length cap0_3]] w0 fun e w' => e = .returned (.bool (r)) ∧ Chg [] w0 w' := by
  have L0_1 := F0_1.low
  have L0_2 := F0_2.low
  have L0_3 := F0_3.low
  have hB : Chg [] w0 w0 := Chg.refl _ _
  have hZ := Nat.le_refl w0.heap.size
  unfold m_laws_FnExactValidWiring at hm
  refine enterE (N := 27) Try.func4 (by rfl) Try.ntmps4 (by simp) [(0, .agg #[.int .i64 (p0_0), .slice A0_1 (l0_1).length cap0_1, .slice A0_2 (l0_2).length cap0_2, .slice A0_3 (l0_3).length cap0_3])] (by rfl) (by kernel_rfl) (fun a => ?_)
  refine cW_seq ?_
  refine cW_region ?_
  refine wS_box (d := 1) (T := 40) (x := .agg #[.int .i64 (p0_0), .slice A0_1 (l0_1).length cap0_1, .slice A0_2 (l0_2).length cap0_2, .slice A0_3 (l0_3).length cap0_3]) (by kernel_rfl) ?_
  intro b4 w5 G6 F7 hc8
  replace F7 : Cl w5 b4 40 [.int .i64 (p0_0), .slice A0_1 (l0_1).length cap0_1, .slice A0_2 (l0_2).length cap0_2, .slice A0_3 (l0_3).length cap0_3] := F7
  replace F0_1 := F0_1.chg hc8 Dj.nil
  replace F0_2 := F0_2.chg hc8 Dj.nil
  replace F0_3 := F0_3.chg hc8 Dj.nil
  replace hB := hB.inS hc8 inNil
  replace G6 := Nat.le_trans hZ G6
  replace hZ := Nat.le_trans hZ hc8.size
  refine wS_pure 1 [(2, .bool (false))] (by kernel_rfl) ?_
  refine wS_end (by rfl) ?_
  refine eX_then ?_
  refine cW_seq ?_
  refine cW_region ?_
  refine wS_pure 1 [(3, .int .i64 (1048576))] (by kernel_rfl) ?_
  refine wS_end (by rfl) ?_
  refine eX_then ?_
  refine cW_seq ?_
  refine cW_region ?_
  refine wS_loadA (d := 7) (T := 40) (ad := ⟨b4, 0, none⟩) (vs := [.int .i64 (p0_0), .slice A0_1 (l0_1).length cap0_1, .slice A0_2 (l0_2).length cap0_2, .slice A0_3 (l0_3).length cap0_3]) (by kernel_rfl) vt40 (fun i u hu => box_cells F7 0 hu (by rfl)) ?_
  refine wS_pure 1 [(8, .int .i64 (1048576))] (by kernel_rfl) ?_
  obtain ⟨y10, hy11, hm⟩ := bindE hm
  refine wS_calls (d := 9) (f := 24) (vs := [.agg #[.int .i64 (p0_0), .slice A0_1 (l0_1).length cap0_1, .slice A0_2 (l0_2).length cap0_2, .slice A0_3 (l0_3).length cap0_3], .int .i64 (1048576)]) (by kernel_rfl) ent24 (c_laws_szWiring hy11 F0_1 F0_2 F0_3) ?_
  rintro _ w12 ⟨rfl, hc13⟩
  replace F0_1 := F0_1.chg hc13 Dj.nil
  replace F0_2 := F0_2.chg hc13 Dj.nil
  replace F0_3 := F0_3.chg hc13 Dj.nil
  replace F7 := F7.chg hc13 notNil
  replace hB := hB.inS hc13 inNil
  replace hZ := Nat.le_trans hZ hc13.size
  refine ⟨.int .i64 (y10), rfl, ?_⟩
  refine wS_pure 1 [(3, .int .i64 (y10))] (by kernel_rfl) ?_
  refine wS_end (by rfl) ?_
  refine eX_then ?_
  refine cW_seq ?_
  refine cW_seq ?_
  refine cW_region ?_
  refine wS_pure 2 [(11, .bool (decide (y10 < 0))), (10, .int .i64 (y10))] (by kernel_rfl) ?_
  refine wS_end (by rfl) ?_
  refine eX_then ?_
  refine cW_cond (t := decide (y10 < 0)) (by kernel_rfl) (fun hb14 => ?_) (fun hb14 => ?_)
  · have hm := condT hb14 hm
    refine cW_seq ?_
    refine cW_region ?_
    refine wS_pure 1 [(2, .bool (true))] (by kernel_rfl) ?_
    refine wS_end (by rfl) ?_
    refine eX_then ?_
    refine cW_ret ?_
    refine eX_then_ret ?_
    have hq : (some true : Option ((Bool))) = some _ := hm
    replace hq := someE hq
    subst hq
    refine eX_ret (vs := [.bool (true)]) [.tmp 2] (by rfl) ⟨by (show lkE _ _ _ = _); kernel_rfl, trivial⟩ ?_
    exact ⟨rfl, hB⟩
  · have hm := condF hb14 hm
    refine cW_skip ?_
    refine eX_then ?_
    refine cW_seq ?_
    refine cW_region ?_
    refine wS_loadA (d := 12) (T := 40) (ad := ⟨b4, 0, none⟩) (vs := [.int .i64 (p0_0), .slice A0_1 (l0_1).length cap0_1, .slice A0_2 (l0_2).length cap0_2, .slice A0_3 (l0_3).length cap0_3]) (by kernel_rfl) vt40 (fun i u hu => box_cells F7 0 hu (by rfl)) ?_
    obtain ⟨y15, hy16, hm⟩ := bindE hm
    refine wS_calls (d := 13) (f := 26) (vs := [.agg #[.int .i64 (p0_0), .slice A0_1 (l0_1).length cap0_1, .slice A0_2 (l0_2).length cap0_2, .slice A0_3 (l0_3).length cap0_3]]) (by kernel_rfl) ent26 (c_laws_toWiring hy16 F0_1 F0_2 F0_3) ?_
    rintro _ w17 ⟨A19, cap20, fp21, fr24, A25, cap26, fp27, fr30, A31, cap32, fp33, rfl, F22, G23, F28, G29, F34, G35, D37, D38, D39, hc18⟩
    have D41 : Dj [b4] (fp21 ++ fr24) := Dj.of (lt1 F7.lt) G23
    have D43 : Dj [b4] (fp27 ++ fr30) := Dj.of (lt1 F7.lt) G29
    have D45 : Dj [b4] fp33 := Dj.of (lt1 F7.lt) G35
    replace F0_1 := F0_1.chg hc18 Dj.nil
    replace F0_2 := F0_2.chg hc18 Dj.nil
    replace F0_3 := F0_3.chg hc18 Dj.nil
    replace F7 := F7.chg hc18 notNil
    replace hB := hB.inS hc18 inNil
    replace G23 := low_le hZ G23
    replace G29 := low_le hZ G29
    replace G35 := low_le hZ G35
    replace hZ := Nat.le_trans hZ hc18.size
    refine ⟨.agg #[.int .i64 (y15.1), .slice A19 (y15.2.1).length cap20, .slice A25 (y15.2.2.1).length cap26, .slice A31 (y15.2.2.2).length cap32], rfl, ?_⟩
    obtain ⟨y46, hy47, hm⟩ := bindE hm
    refine wS_calls (d := 14) (f := 25) (vs := [.agg #[.int .i64 (y15.1), .slice A19 (y15.2.1).length cap20, .slice A25 (y15.2.2.1).length cap26, .slice A31 (y15.2.2.2).length cap32]]) (by kernel_rfl) ent25 (c_spec_ValidWiring hy47 (F22.slr encI_ok) (F28.slr encI_ok) (F34.sl encI_ok)) ?_
    rintro _ w48 ⟨rfl, hc49⟩
    replace F0_1 := F0_1.chg hc49 Dj.nil
    replace F0_2 := F0_2.chg hc49 Dj.nil
    replace F0_3 := F0_3.chg hc49 Dj.nil
    replace F7 := F7.chg hc49 notNil
    replace F22 := F22.chg hc49 Dj.nil
    replace F28 := F28.chg hc49 Dj.nil
    replace F34 := F34.chg hc49 Dj.nil
    replace hB := hB.inS hc49 inNil
    replace hZ := Nat.le_trans hZ hc49.size
    refine ⟨.bool (y46), rfl, ?_⟩
    refine wS_pure 1 [(4, .bool (y46))] (by kernel_rfl) ?_
    refine wS_end (by rfl) ?_
    refine eX_then ?_
    refine cW_seq ?_
    refine cW_region ?_
    refine wS_loadA (d := 15) (T := 40) (ad := ⟨b4, 0, none⟩) (vs := [.int .i64 (p0_0), .slice A0_1 (l0_1).length cap0_1, .slice A0_2 (l0_2).length cap0_2, .slice A0_3 (l0_3).length cap0_3]) (by kernel_rfl) vt40 (fun i u hu => box_cells F7 0 hu (by rfl)) ?_
    obtain ⟨y50, hy51, hm⟩ := bindE hm
    refine wS_calls (d := 16) (f := 26) (vs := [.agg #[.int .i64 (p0_0), .slice A0_1 (l0_1).length cap0_1, .slice A0_2 (l0_2).length cap0_2, .slice A0_3 (l0_3).length cap0_3]]) (by kernel_rfl) ent26 (c_laws_toWiring hy51 F0_1 F0_2 F0_3) ?_
    rintro _ w52 ⟨A54, cap55, fp56, fr59, A60, cap61, fp62, fr65, A66, cap67, fp68, rfl, F57, G58, F63, G64, F69, G70, D72, D73, D74, hc53⟩
    have D76 : Dj [b4] (fp56 ++ fr59) := Dj.of (lt1 F7.lt) G58
    have D77 : Dj (fp21 ++ fr24) (fp56 ++ fr59) := Dj.of F22.low G58
    have D78 : Dj (fp27 ++ fr30) (fp56 ++ fr59) := Dj.of F28.low G58
    have D79 : Dj fp33 (fp56 ++ fr59) := Dj.of F34.low G58
    have D81 : Dj [b4] (fp62 ++ fr65) := Dj.of (lt1 F7.lt) G64
    have D82 : Dj (fp21 ++ fr24) (fp62 ++ fr65) := Dj.of F22.low G64
    have D83 : Dj (fp27 ++ fr30) (fp62 ++ fr65) := Dj.of F28.low G64
    have D84 : Dj fp33 (fp62 ++ fr65) := Dj.of F34.low G64
    have D86 : Dj [b4] fp68 := Dj.of (lt1 F7.lt) G70
    have D87 : Dj (fp21 ++ fr24) fp68 := Dj.of F22.low G70
    have D88 : Dj (fp27 ++ fr30) fp68 := Dj.of F28.low G70
    have D89 : Dj fp33 fp68 := Dj.of F34.low G70
    replace F0_1 := F0_1.chg hc53 Dj.nil
    replace F0_2 := F0_2.chg hc53 Dj.nil
    replace F0_3 := F0_3.chg hc53 Dj.nil
    replace F7 := F7.chg hc53 notNil
    replace F22 := F22.chg hc53 Dj.nil
    replace F28 := F28.chg hc53 Dj.nil
    replace F34 := F34.chg hc53 Dj.nil
    replace hB := hB.inS hc53 inNil
    replace G58 := low_le hZ G58
    replace G64 := low_le hZ G64
    replace G70 := low_le hZ G70
    replace hZ := Nat.le_trans hZ hc53.size
    refine ⟨.agg #[.int .i64 (y50.1), .slice A54 (y50.2.1).length cap55, .slice A60 (y50.2.2.1).length cap61, .slice A66 (y50.2.2.2).length cap67], rfl, ?_⟩
    refine wS_alloc (d := 5) (T := 43) (z := .agg #[.int .i64 (0), .slice none 0 0, .slice none 0 0, .slice none 0 0]) (by kernel_rfl) (by kernel_rfl) ?_
    intro b90 w91 G92 F93 hc94
    replace F93 : Cl w91 b90 43 [.int .i64 (0), .slice none 0 0, .slice none 0 0, .slice none 0 0] := F93
    have D96 : Dj [b4] [b90] := Dj.of (lt1 F7.lt) (low1 G92)
    have D97 : Dj (fp21 ++ fr24) [b90] := Dj.of F22.low (low1 G92)
    have D98 : Dj (fp27 ++ fr30) [b90] := Dj.of F28.low (low1 G92)
    have D99 : Dj fp33 [b90] := Dj.of F34.low (low1 G92)
    have D100 : Dj (fp56 ++ fr59) [b90] := Dj.of F57.low (low1 G92)
    have D101 : Dj (fp62 ++ fr65) [b90] := Dj.of F63.low (low1 G92)
    have D102 : Dj fp68 [b90] := Dj.of F69.low (low1 G92)
    replace F0_1 := F0_1.chg hc94 Dj.nil
    replace F0_2 := F0_2.chg hc94 Dj.nil
    replace F0_3 := F0_3.chg hc94 Dj.nil
    replace F7 := F7.chg hc94 notNil
    replace F22 := F22.chg hc94 Dj.nil
    replace F28 := F28.chg hc94 Dj.nil
    replace F34 := F34.chg hc94 Dj.nil
    replace F57 := F57.chg hc94 Dj.nil
    replace F63 := F63.chg hc94 Dj.nil
    replace F69 := F69.chg hc94 Dj.nil
    replace hB := hB.inS hc94 inNil
    replace G92 := Nat.le_trans hZ G92
    replace hZ := Nat.le_trans hZ hc94.size
    refine wS_store (T := 43) (g := b90) (o := 0) (ad := ⟨b90, 0, none⟩) (v := .agg #[.int .i64 (y50.1), .slice A54 (y50.2.1).length cap55, .slice A60 (y50.2.2.1).length cap61, .slice A66 (y50.2.2.2).length cap67]) (vs := [.int .i64 (y50.1), .slice A54 (y50.2.1).length cap55, .slice A60 (y50.2.2.1).length cap61, .slice A66 (y50.2.2.2).length cap67]) (by kernel_rfl) (by rfl) sz43 (by rfl) (by rfl) F93 (by simp only [List.length_cons, List.length_nil]; omega) ?_
    intro w103 F104 hc105
    replace F0_1 := F0_1.chg hc105 (Dj.of L0_1 (low1 G92))
    replace F0_2 := F0_2.chg hc105 (Dj.of L0_2 (low1 G92))
    replace F0_3 := F0_3.chg hc105 (Dj.of L0_3 (low1 G92))
    replace F7 := F7.chg hc105 (dj1 D96)
    replace F22 := F22.chg hc105 D97
    replace F28 := F28.chg hc105 D98
    replace F34 := F34.chg hc105 D99
    replace F57 := F57.chg hc105 D100
    replace F63 := F63.chg hc105 D101
    replace F69 := F69.chg hc105 D102
    replace hB := hB.inS hc105 (inLow (low1 G92))
    replace hZ := Nat.le_trans hZ hc105.size
    replace F104 : Cl w103 b90 43 [.int .i64 (y50.1), .slice A54 (y50.2.1).length cap55, .slice A60 (y50.2.2.1).length cap61, .slice A66 (y50.2.2.2).length cap67] := F104
    clear F93
    refine wS_end (by rfl) ?_
    refine eX_then ?_
    refine cW_seq ?_
    refine cW_region ?_
    refine wS_loadA (d := 17) (T := 43) (ad := ⟨b90, 0, none⟩) (vs := [.int .i64 (y50.1), .slice A54 (y50.2.1).length cap55, .slice A60 (y50.2.2.1).length cap61, .slice A66 (y50.2.2.2).length cap67]) (by kernel_rfl) vt43 (fun i u hu => box_cells F104 0 hu (by rfl)) ?_
    obtain ⟨y106, hy107, hm⟩ := bindE hm
    refine wS_calls (d := 18) (f := 27) (vs := [.agg #[.int .i64 (y50.1), .slice A54 (y50.2.1).length cap55, .slice A60 (y50.2.2.1).length cap61, .slice A66 (y50.2.2.2).length cap67]]) (by kernel_rfl) ent27 (c_impl_ValidWiring hy107 (F57.slr encI_ok) (F63.slr encI_ok) (F69.sl encI_ok)) ?_
    rintro _ w108 ⟨rfl, hc109⟩
    replace F0_1 := F0_1.chg hc109 Dj.nil
    replace F0_2 := F0_2.chg hc109 Dj.nil
    replace F0_3 := F0_3.chg hc109 Dj.nil
    replace F7 := F7.chg hc109 notNil
    replace F22 := F22.chg hc109 Dj.nil
    replace F28 := F28.chg hc109 Dj.nil
    replace F34 := F34.chg hc109 Dj.nil
    replace F57 := F57.chg hc109 Dj.nil
    replace F63 := F63.chg hc109 Dj.nil
    replace F69 := F69.chg hc109 Dj.nil
    replace F104 := F104.chg hc109 notNil
    replace hB := hB.inS hc109 inNil
    replace hZ := Nat.le_trans hZ hc109.size
    refine ⟨.bool (y106), rfl, ?_⟩
    refine wS_pure 1 [(6, .bool (y106))] (by kernel_rfl) ?_
    refine wS_end (by rfl) ?_
    refine eX_then ?_
    refine cW_seq ?_
    refine cW_seq ?_
    refine cW_region ?_
    refine wS_pure 3 [(21, .bool (!(y106 == y46))), (20, .bool (y46)), (19, .bool (y106))] (by kernel_rfl) ?_
    refine wS_end (by rfl) ?_
    refine eX_then ?_
    refine cW_cond (t := !(y106 == y46)) (by kernel_rfl) (fun hb110 => ?_) (fun hb110 => ?_)
    · have hm := condT hb110 hm
      refine cW_seq ?_
      refine cW_region ?_
      refine wS_pure 1 [(2, .bool (false))] (by kernel_rfl) ?_
      refine wS_end (by rfl) ?_
      refine eX_then ?_
      refine cW_ret ?_
      refine eX_then_ret ?_
      have hq : (some false : Option ((Bool))) = some _ := hm
      replace hq := someE hq
      subst hq
      refine eX_ret (vs := [.bool (false)]) [.tmp 2] (by rfl) ⟨by (show lkE _ _ _ = _); kernel_rfl, trivial⟩ ?_
      exact ⟨rfl, hB⟩
    · have hm := condF hb110 hm
      refine cW_skip ?_
      refine eX_then ?_
      refine cW_seq ?_
      refine cW_seq ?_
      refine cW_drawnTail [] 3 (by kernel_rfl) (by kernel_rfl) (fun w180 hc181 => ?_)
      replace F0_1 := F0_1.chg hc181 Dj.nil
      replace F0_2 := F0_2.chg hc181 Dj.nil
      replace F0_3 := F0_3.chg hc181 Dj.nil
      replace F7 := F7.chg hc181 notNil
      replace F22 := F22.chg hc181 Dj.nil
      replace F28 := F28.chg hc181 Dj.nil
      replace F34 := F34.chg hc181 Dj.nil
      replace F57 := F57.chg hc181 Dj.nil
      replace F63 := F63.chg hc181 Dj.nil
      replace F69 := F69.chg hc181 Dj.nil
      replace F104 := F104.chg hc181 notNil
      replace hB := hB.inS hc181 inNil
      replace hZ := Nat.le_trans hZ hc181.size
      have hS := Chg.refl [] w180
      have Z182 := F0_1
      have Z183 := F0_2
      have Z184 := F0_3
      have Z185 := F7
      have Z186 := F22
      have Z187 := F28
      have Z188 := F34
      have Z189 := F57
      have Z190 := F63
      have Z191 := F69
      have Z192 := F104
      refine wH_loadA (i := 0) (d := 22) (T := 43) (ad := ⟨b90, 0, none⟩) (vs := [.int .i64 (y50.1), .slice A54 (y50.2.1).length cap55, .slice A60 (y50.2.2.1).length cap61, .slice A66 (y50.2.2.2).length cap67]) (by kernel_rfl) (qT (qT (qT qZ))) (by kernel_rfl) (by kernel_rfl) vt43 (fun W hW i u hu => box_cells (Z192.chg hW notNil) 0 hu (by rfl)) ?_
      refine wH_loadA (i := 1) (d := 23) (T := 40) (ad := ⟨b4, 0, none⟩) (vs := [.int .i64 (p0_0), .slice A0_1 (l0_1).length cap0_1, .slice A0_2 (l0_2).length cap0_2, .slice A0_3 (l0_3).length cap0_3]) (by kernel_rfl) (qT (qT (qT qZ))) (by kernel_rfl) (by kernel_rfl) vt40 (fun W hW i u hu => box_cells (Z185.chg hW notNil) 0 hu (by rfl)) ?_
      refine wH_all [2] (by rfl) (by kernel_rfl) (by simp) ⟨⟨by kernel_rfl, ?_⟩, trivial⟩
      obtain ⟨y193, hy194, hm⟩ := bindE hm
      refine wS_calls (d := 24) (f := 26) (vs := [.agg #[.int .i64 (p0_0), .slice A0_1 (l0_1).length cap0_1, .slice A0_2 (l0_2).length cap0_2, .slice A0_3 (l0_3).length cap0_3]]) (by kernel_rfl) ent26 (c_laws_toWiring hy194 F0_1 F0_2 F0_3) ?_
      rintro _ w195 ⟨A197, cap198, fp199, fr202, A203, cap204, fp205, fr208, A209, cap210, fp211, rfl, F200, G201, F206, G207, F212, G213, D215, D216, D217, hc196⟩
      have D219 : Dj [b4] (fp199 ++ fr202) := Dj.of (lt1 F7.lt) G201
      have D220 : Dj (fp21 ++ fr24) (fp199 ++ fr202) := Dj.of F22.low G201
      have D221 : Dj (fp27 ++ fr30) (fp199 ++ fr202) := Dj.of F28.low G201
      have D222 : Dj fp33 (fp199 ++ fr202) := Dj.of F34.low G201
      have D223 : Dj (fp56 ++ fr59) (fp199 ++ fr202) := Dj.of F57.low G201
      have D224 : Dj (fp62 ++ fr65) (fp199 ++ fr202) := Dj.of F63.low G201
      have D225 : Dj fp68 (fp199 ++ fr202) := Dj.of F69.low G201
      have D226 : Dj [b90] (fp199 ++ fr202) := Dj.of (lt1 F104.lt) G201
      have D228 : Dj [b4] (fp205 ++ fr208) := Dj.of (lt1 F7.lt) G207
      have D229 : Dj (fp21 ++ fr24) (fp205 ++ fr208) := Dj.of F22.low G207
      have D230 : Dj (fp27 ++ fr30) (fp205 ++ fr208) := Dj.of F28.low G207
      have D231 : Dj fp33 (fp205 ++ fr208) := Dj.of F34.low G207
      have D232 : Dj (fp56 ++ fr59) (fp205 ++ fr208) := Dj.of F57.low G207
      have D233 : Dj (fp62 ++ fr65) (fp205 ++ fr208) := Dj.of F63.low G207
      have D234 : Dj fp68 (fp205 ++ fr208) := Dj.of F69.low G207
      have D235 : Dj [b90] (fp205 ++ fr208) := Dj.of (lt1 F104.lt) G207
      have D237 : Dj [b4] fp211 := Dj.of (lt1 F7.lt) G213
      have D238 : Dj (fp21 ++ fr24) fp211 := Dj.of F22.low G213
      have D239 : Dj (fp27 ++ fr30) fp211 := Dj.of F28.low G213
      have D240 : Dj fp33 fp211 := Dj.of F34.low G213
      have D241 : Dj (fp56 ++ fr59) fp211 := Dj.of F57.low G213
      have D242 : Dj (fp62 ++ fr65) fp211 := Dj.of F63.low G213
      have D243 : Dj fp68 fp211 := Dj.of F69.low G213
      have D244 : Dj [b90] fp211 := Dj.of (lt1 F104.lt) G213
      replace F0_1 := F0_1.chg hc196 Dj.nil
      replace F0_2 := F0_2.chg hc196 Dj.nil
      replace F0_3 := F0_3.chg hc196 Dj.nil
      replace F7 := F7.chg hc196 notNil
      replace F22 := F22.chg hc196 Dj.nil
      replace F28 := F28.chg hc196 Dj.nil
      replace F34 := F34.chg hc196 Dj.nil
      replace F57 := F57.chg hc196 Dj.nil
      replace F63 := F63.chg hc196 Dj.nil
      replace F69 := F69.chg hc196 Dj.nil
      replace F104 := F104.chg hc196 notNil
      replace hB := hB.inS hc196 inNil
      have hSz := hS
      replace hS := hS.inS hc196 inNil
      replace G201 := low_le hZ G201
      replace G207 := low_le hZ G207
      replace G213 := low_le hZ G213
      replace hZ := Nat.le_trans hZ hc196.size
      refine ⟨.agg #[.int .i64 (y193.1), .slice A197 (y193.2.1).length cap198, .slice A203 (y193.2.2.1).length cap204, .slice A209 (y193.2.2.2).length cap210], rfl, ?_⟩
      refine wS_end (by kernel_rfl) ?_
      refine eX_KH hS ?_
      refine wH_done (by kernel_rfl) ?_
      refine eX_tail ?_
      obtain ⟨y245, hy246, hm⟩ := bindE hm
      refine wS_calls (d := 25) (f := 28) (vs := [.agg #[.int .i64 (y50.1), .slice A54 (y50.2.1).length cap55, .slice A60 (y50.2.2.1).length cap61, .slice A66 (y50.2.2.2).length cap67], .agg #[.int .i64 (y193.1), .slice A197 (y193.2.1).length cap198, .slice A203 (y193.2.2.1).length cap204, .slice A209 (y193.2.2.2).length cap210]]) (by kernel_rfl) ent28 (c_laws_eqWiring hy246 (F57.slr encI_ok) (F63.slr encI_ok) (F69.sl encI_ok) (F200.slr encI_ok) (F206.slr encI_ok) (F212.sl encI_ok)) ?_
      rintro _ w247 ⟨rfl, hc248⟩
      replace F0_1 := F0_1.chg hc248 Dj.nil
      replace F0_2 := F0_2.chg hc248 Dj.nil
      replace F0_3 := F0_3.chg hc248 Dj.nil
      replace F7 := F7.chg hc248 notNil
      replace F22 := F22.chg hc248 Dj.nil
      replace F28 := F28.chg hc248 Dj.nil
      replace F34 := F34.chg hc248 Dj.nil
      replace F57 := F57.chg hc248 Dj.nil
      replace F63 := F63.chg hc248 Dj.nil
      replace F69 := F69.chg hc248 Dj.nil
      replace F104 := F104.chg hc248 notNil
      replace F200 := F200.chg hc248 Dj.nil
      replace F206 := F206.chg hc248 Dj.nil
      replace F212 := F212.chg hc248 Dj.nil
      replace hB := hB.inS hc248 inNil
      replace hZ := Nat.le_trans hZ hc248.size
      refine ⟨.bool (y245), rfl, ?_⟩
      refine wS_pure 1 [(26, .bool (!y245))] (by kernel_rfl) ?_
      refine wS_end (by rfl) ?_
      refine eX_then ?_
      refine cW_prune [(26, .bool (!y245))] (by kernel_rfl) (by kernel_rfl) (fun a249 => ?_)
      refine cW_cond (t := !y245) (by kernel_rfl) (fun hb250 => ?_) (fun hb250 => ?_)
      · have hm := condT hb250 hm
        refine cW_seq ?_
        refine cW_region ?_
        refine wS_pure 1 [(2, .bool (false))] (by kernel_rfl) ?_
        refine wS_end (by rfl) ?_
        refine eX_then ?_
        refine cW_ret ?_
        refine eX_then_ret ?_
        have hq : (some false : Option ((Bool))) = some _ := hm
        replace hq := someE hq
        subst hq
        refine eX_ret (vs := [.bool (false)]) [.tmp 2] (by rfl) ⟨by (show lkE _ _ _ = _); kernel_rfl, trivial⟩ ?_
        exact ⟨rfl, hB⟩
      · have hm := condF hb250 hm
        refine cW_skip ?_
        refine eX_then ?_
        refine cW_seq ?_
        refine cW_region ?_
        refine wS_pure 1 [(2, .bool (true))] (by kernel_rfl) ?_
        refine wS_end (by rfl) ?_
        refine eX_then ?_
        refine cW_ret ?_
        have hq : (some true : Option ((Bool))) = some _ := hm
        replace hq := someE hq
        subst hq
        refine eX_ret (vs := [.bool (true)]) [.tmp 2] (by rfl) ⟨by (show lkE _ _ _ = _); kernel_rfl, trivial⟩ ?_
        exact ⟨rfl, hB⟩

set_option maxRecDepth 100000 in
/-- spec.l07Layering -/
theorem c_spec_l07Layering_bimplWiring {w0 : World} {q0_0 : Int} {l0_1 : List (List (Int))} {A0_1 : Option Addr} {cap0_1 : Nat} {fp0_1 : List Nat} {l0_2 : List (List (Int))} {A0_2 : Option Addr} {cap0_2 : Nat} {fp0_2 : List Nat} {l0_3 : List (Int)} {A0_3 : Option Addr} {cap0_3 : Nat} {fp0_3 : List Nat} {b0 : Nat} {l1 : List (Int)} {A1 : Option Addr} {cap1 : Nat} {fp1 : List Nat} {r : (Bool)} (hm : m_spec_l07Layering_bimplWiring q0_0 l0_1 l0_2 l0_3 l1 = some r) (F0_1 : SlR 1 encI w0 fp0_1 A0_1 l0_1) (F0_2 : SlR 1 encI w0 fp0_2 A0_2 l0_2) (F0_3 : Sl 1 encI w0 fp0_3 A0_3 l0_3) (F0 : Cl w0 b0 43 [.int .i64 (q0_0), .slice A0_1 (l0_1).length cap0_1, .slice A0_2 (l0_2).length cap0_2, .slice A0_3 (l0_3).length cap0_3]) (F1 : Sl 1 encI w0 fp1 A1 l1) :
    Calls Try.prog 93 #[.pointer (some ⟨b0, 0, none⟩), .slice A1 (l1).length cap1] w0 fun e w' => e = .returned (.bool (r)) ∧ Chg [] w0 w' := by
  have L0_1 := F0_1.low
  have L0_2 := F0_2.low
  have L0_3 := F0_3.low
  have L0 := lt1 F0.lt
  have L1 := F1.low
  have hB : Chg [] w0 w0 := Chg.refl _ _
  have hZ := Nat.le_refl w0.heap.size
  unfold m_spec_l07Layering_bimplWiring at hm
  refine enterE (N := 84) Try.func93 (by rfl) Try.ntmps93 (by simp) [(0, .pointer (some ⟨b0, 0, none⟩)), (1, .slice A1 (l1).length cap1)] (by rfl) (by kernel_rfl) (fun a => ?_)
  refine cW_seq ?_
  refine cW_region ?_
  refine wS_pure 1 [(4, .bool (false))] (by kernel_rfl) ?_
  refine wS_end (by rfl) ?_
  refine eX_then ?_
  refine cW_seq ?_
  refine cW_seq ?_
  refine cW_region ?_
  refine wS_pure 5 [(11, .pointer (some ⟨b0, 0, none⟩)), (10, .pointer (some ⟨b0, 0, none⟩)), (9, .pointer (some ⟨b0, 0, none⟩)), (8, .int .i64 (((l1).length : Int))), (7, .slice A1 (l1).length cap1)] (by kernel_rfl) ?_
  refine wS_load1 (d := 12) (T := 2) (ad := ⟨b0, 0, none⟩) (v := .int .i64 (q0_0)) (by kernel_rfl) vt2 ((F0).cell 0) ?_
  refine wS_pure 1 [(13, .bool ((((l1).length : Int)) != q0_0))] (by kernel_rfl) ?_
  refine wS_end (by rfl) ?_
  refine eX_then ?_
  refine cW_cond (t := (((l1).length : Int)) != q0_0) (by kernel_rfl) (fun hb6 => ?_) (fun hb6 => ?_)
  · have hm := condT hb6 hm
    refine cW_seq ?_
    refine cW_region ?_
    refine wS_pure 1 [(4, .bool (false))] (by kernel_rfl) ?_
    refine wS_end (by rfl) ?_
    refine eX_then ?_
    refine cW_ret ?_
    refine eX_then_ret ?_
    have hq : (some false : Option ((Bool))) = some _ := hm
    replace hq := someE hq
    subst hq
    refine eX_ret (vs := [.bool (false)]) [.tmp 4] (by rfl) ⟨by (show lkE _ _ _ = _); kernel_rfl, trivial⟩ ?_
    exact ⟨rfl, hB⟩
  · have hm := condF hb6 hm
    refine cW_skip ?_
    refine eX_then ?_
    refine cW_seq ?_
    refine cW_seq ?_
    refine cW_region ?_
    refine wS_pure 1 [(5, .int .i64 (0))] (by kernel_rfl) ?_
    refine wS_end (by rfl) ?_
    refine eX_then ?_
    obtain ⟨r129, hr130, hm⟩ := bindE hm
    have hm131 := hm
    refine cW_cut (fun a' w' => Sum.inl (()) = r129 ∧ Fr 84 [(0, .pointer (some ⟨b0, 0, none⟩)), (1, .slice A1 (l1).length cap1)] a' ∧ SlR 1 encI w' fp0_1 A0_1 l0_1 ∧ SlR 1 encI w' fp0_2 A0_2 l0_2 ∧ Sl 1 encI w' fp0_3 A0_3 l0_3 ∧ Cl w' b0 43 [.int .i64 (q0_0), .slice A0_1 (l0_1).length cap0_1, .slice A0_2 (l0_2).length cap0_2, .slice A0_3 (l0_3).length cap0_3] ∧ Sl 1 encI w' fp1 A1 l1 ∧ Chg [] w0 w' ∧ w0.heap.size ≤ w'.heap.size) ?_ ?_
    · refine cW_block ?_
      refine cW_loop _ (fun (s132 : Int) a' w' => ∃ x122 : Int, x122 = s132 ∧ Fr 84 [(0, .pointer (some ⟨b0, 0, none⟩)), (1, .slice A1 (l1).length cap1), (5, .int .i64 (x122))] a' ∧ SlR 1 encI w' fp0_1 A0_1 l0_1 ∧ SlR 1 encI w' fp0_2 A0_2 l0_2 ∧ Sl 1 encI w' fp0_3 A0_3 l0_3 ∧ Cl w' b0 43 [.int .i64 (q0_0), .slice A0_1 (l0_1).length cap0_1, .slice A0_2 (l0_2).length cap0_2, .slice A0_3 (l0_3).length cap0_3] ∧ Sl 1 encI w' fp1 A1 l1 ∧ Chg [] w0 w' ∧ w0.heap.size ≤ w'.heap.size) hr130 (fun hst => ⟨0, rfl, Fr.of hst (by kernel_rfl), F0_1, F0_2, F0_3, F0, F1, hB, hZ⟩) ?_
      rintro _ c133 a' w121 ⟨x122, rfl, hF123, F124, F125, F126, F127, F128, hB, hZ⟩ hx134
      refine Fr.goOn hF123 (by kernel_rfl) ?_
      have hm := hx134
      unfold m_spec_l07Layering_bimplWiring_s1 at hm
      refine cW_seq ?_
      refine cW_seq ?_
      refine cW_region ?_
      refine wS_pure 4 [(17, .bool (decide (x122 < (((l1).length : Int))))), (16, .int .i64 (((l1).length : Int))), (15, .slice A1 (l1).length cap1), (14, .int .i64 (x122))] (by kernel_rfl) ?_
      refine wS_end (by rfl) ?_
      refine eX_then ?_
      refine cW_cond (t := decide (x122 < (((l1).length : Int)))) (by kernel_rfl) (fun hb135 => ?_) (fun hb135 => ?_)
      · have hm := condT hb135 hm
        refine cW_skip ?_
        refine eX_then ?_
        refine cW_seq ?_
        refine cW_block ?_
        refine cW_seq ?_
        refine cW_drawnTail [] 27 (by kernel_rfl) (by kernel_rfl) (fun w157 hc158 => ?_)
        replace F124 := F124.chg hc158 Dj.nil
        replace F125 := F125.chg hc158 Dj.nil
        replace F126 := F126.chg hc158 Dj.nil
        replace F127 := F127.chg hc158 notNil
        replace F128 := F128.chg hc158 Dj.nil
        replace hB := hB.inS hc158 inNil
        replace hZ := Nat.le_trans hZ hc158.size
        have hS := Chg.refl [] w157
        have Z159 := F124
        have Z160 := F125
        have Z161 := F126
        have Z162 := F127
        have Z163 := F128
        refine wH_take [0, 1] [1, 0] [(21, .int .i64 (x122)), (20, .slice A1 (l1).length cap1)] (by kernel_rfl) (qT (qT (qB (qT (qL (qB (qT (qT qZ)))))))) (by kernel_rfl) ?_
        obtain ⟨x164, hx165, hm⟩ := bindE hm
        refine wH_idx (i := 2) (d := 22) (T := 38) (A := A1) (n := (l1).length) (cap := cap1) (kd := .i64) (m := x122) (by kernel_rfl) (qT (qT (qB (qT (qL (qB (qT (qT qZ)))))))) (by kernel_rfl) (by kernel_rfl) sl38 (F128.is hx165) ?_
        refine wH_load1 (i := 3) (d := 23) (T := 2) (ad := (elA A1 1 (x122) 0)) (v := .int .i64 (x164)) (by kernel_rfl) (qT (qT (qB (qT (qL (qB (qT (qT qZ)))))))) (by kernel_rfl) (by kernel_rfl) vt2 (fun W hW => Sl.cell (Z163.chg hW Dj.nil) hx165 0 (by rfl)) ?_
        refine wH_all [4] (by rfl) (by kernel_rfl) (by simp) ⟨⟨by kernel_rfl, ?_⟩, trivial⟩
        obtain ⟨y166, hy167, hm⟩ := bindE hm
        refine wS_calls (d := 24) (f := 118) (vs := [.int .i64 (x164), .int .i64 (0), .int .i64 (1)]) (by kernel_rfl) ent118 (c_spec_l00In hy167) ?_
        rintro _ w168 ⟨rfl, hc169⟩
        replace F124 := F124.chg hc169 Dj.nil
        replace F125 := F125.chg hc169 Dj.nil
        replace F126 := F126.chg hc169 Dj.nil
        replace F127 := F127.chg hc169 notNil
        replace F128 := F128.chg hc169 Dj.nil
        replace hB := hB.inS hc169 inNil
        have hSz := hS
        replace hS := hS.inS hc169 inNil
        replace hZ := Nat.le_trans hZ hc169.size
        refine ⟨.bool (y166), rfl, ?_⟩
        refine wS_end (by kernel_rfl) ?_
        refine eX_KH hS ?_
        refine wH_take [5, 6] [6, 5, 4, 3, 2, 1, 0] [(26, .bool (!y166)), (25, .bool (!y166))] (by kernel_rfl) (qT (qT (qB (qT (qL (qB (qT (qT qZ)))))))) (by kernel_rfl) ?_
        refine wH_bool (!y166) (fun hb170 => ?_) (fun hb170 => ?_)
        · have hm := condT hb170 hm
          rewrite [hb170]
          refine wH_take [7, 8, 9, 10, 11, 12, 13, 14, 15, 16, 17, 18, 19, 20, 21, 22, 23, 24, 25, 26] [26, 25, 24, 23, 22, 21, 20, 19, 18, 17, 16, 15, 14, 13, 12, 11, 10, 9, 8, 7, 6, 5, 4, 3, 2, 1, 0] [(46, undef), (45, undef), (44, undef), (43, undef), (42, undef), (41, undef), (40, undef), (39, undef), (38, undef), (37, undef), (36, undef), (35, undef), (34, undef), (33, undef), (32, undef), (31, undef), (30, undef), (29, undef), (28, undef), (27, undef)] (by kernel_rfl) (qT (qT (qB (qT (qL (qB (qT (qT qZ)))))))) (by kernel_rfl) ?_
          refine wH_done (by kernel_rfl) ?_
          refine eX_tail ?_
          refine wS_pure 3 [(49, .bool (true)), (48, undef), (47, undef)] (by kernel_rfl) ?_
          refine wS_end (by rfl) ?_
          refine eX_then ?_
          refine cW_prune [(0, .pointer (some ⟨b0, 0, none⟩)), (1, .slice A1 (l1).length cap1), (5, .int .i64 (x122)), (49, .bool (true))] (by kernel_rfl) (by kernel_rfl) (fun a171 => ?_)
          refine cW_cond_t (by kernel_rfl) ?_
          refine cW_seq ?_
          refine cW_region ?_
          refine wS_pure 1 [(4, .bool (false))] (by kernel_rfl) ?_
          refine wS_end (by rfl) ?_
          refine eX_then ?_
          refine cW_ret ?_
          refine eX_block_ret ?_
          refine eX_then_ret ?_
          have hq : (some (Ctl.out (Sum.inr false)) : Option (Ctl (Int) (Sum (Unit) ((Bool))))) = some _ := hm
          replace hq := someE hq
          subst hq
          refine eX_outR hx134 (fun hr => ?_)
          subst hr
          refine eX_block_ret ?_
          refine eX_then_ret ?_
          refine eX_then_ret ?_
          have hq : (some false : Option ((Bool))) = some _ := hm131
          replace hq := someE hq
          subst hq
          refine eX_ret (vs := [.bool (false)]) [.tmp 4] (by rfl) ⟨by (show lkE _ _ _ = _); kernel_rfl, trivial⟩ ?_
          exact ⟨rfl, hB⟩
        · have hm := condF hb170 hm
          rewrite [hb170]
          refine wH_take [7, 8, 9] [9, 8, 7, 6, 5, 4, 3, 2, 1, 0] [(29, .pointer (some ⟨b0, 3, none⟩)), (28, .pointer (some ⟨b0, 0, none⟩)), (27, .pointer (some ⟨b0, 0, none⟩))] (by kernel_rfl) (qT (qT (qB (qT (qL (qB (qT (qT qZ)))))))) (by kernel_rfl) ?_
          refine wH_load1 (i := 10) (d := 30) (T := 38) (ad := ⟨b0, 3, none⟩) (v := .slice A0_3 (l0_3).length cap0_3) (by kernel_rfl) (qT (qT (qB (qT (qL (qB (qT (qT qZ)))))))) (by kernel_rfl) (by kernel_rfl) vt38 (fun W hW => (Z162.chg hW notNil).cell 3) ?_
          refine wH_take [11] [11, 10, 9, 8, 7, 6, 5, 4, 3, 2, 1, 0] [(31, .int .i64 (x122))] (by kernel_rfl) (qT (qT (qB (qT (qL (qB (qT (qT qZ)))))))) (by kernel_rfl) ?_
          obtain ⟨x172, hx173, hm⟩ := bindE hm
          refine wH_idx (i := 12) (d := 32) (T := 38) (A := A0_3) (n := (l0_3).length) (cap := cap0_3) (kd := .i64) (m := x122) (by kernel_rfl) (qT (qT (qB (qT (qL (qB (qT (qT qZ)))))))) (by kernel_rfl) (by kernel_rfl) sl38 (F126.is hx173) ?_
          refine wH_load1 (i := 13) (d := 33) (T := 2) (ad := (elA A0_3 1 (x122) 0)) (v := .int .i64 (x172)) (by kernel_rfl) (qT (qT (qB (qT (qL (qB (qT (qT qZ)))))))) (by kernel_rfl) (by kernel_rfl) vt2 (fun W hW => Sl.cell (Z161.chg hW Dj.nil) hx173 0 (by rfl)) ?_
          refine wH_take [14, 15] [15, 14, 13, 12, 11, 10, 9, 8, 7, 6, 5, 4, 3, 2, 1, 0] [(35, .bool (decide (x172 ≥ 0))), (34, .bool (decide (x172 ≥ 0)))] (by kernel_rfl) (qT (qT (qB (qT (qL (qB (qT (qT qZ)))))))) (by kernel_rfl) ?_
          refine wH_bool (decide (x172 ≥ 0)) (fun hb174 => ?_) (fun hb174 => ?_)
          · have hm := condT hb174 hm
            rewrite [hb174]
            refine wH_take [16, 17, 18] [18, 17, 16, 15, 14, 13, 12, 11, 10, 9, 8, 7, 6, 5, 4, 3, 2, 1, 0] [(38, .pointer (some ⟨b0, 3, none⟩)), (37, .pointer (some ⟨b0, 0, none⟩)), (36, .pointer (some ⟨b0, 0, none⟩))] (by kernel_rfl) (qT (qT (qB (qT (qL (qB (qT (qT qZ)))))))) (by kernel_rfl) ?_
            refine wH_load1 (i := 19) (d := 39) (T := 38) (ad := ⟨b0, 3, none⟩) (v := .slice A0_3 (l0_3).length cap0_3) (by kernel_rfl) (qT (qT (qB (qT (qL (qB (qT (qT qZ)))))))) (by kernel_rfl) (by kernel_rfl) vt38 (fun W hW => (Z162.chg hW notNil).cell 3) ?_
            refine wH_take [20] [20, 19, 18, 17, 16, 15, 14, 13, 12, 11, 10, 9, 8, 7, 6, 5, 4, 3, 2, 1, 0] [(40, .int .i64 (x122))] (by kernel_rfl) (qT (qT (qB (qT (qL (qB (qT (qT qZ)))))))) (by kernel_rfl) ?_
            obtain ⟨x175, hx176, hm⟩ := bindE hm
            refine wH_idx (i := 21) (d := 41) (T := 38) (A := A0_3) (n := (l0_3).length) (cap := cap0_3) (kd := .i64) (m := x122) (by kernel_rfl) (qT (qT (qB (qT (qL (qB (qT (qT qZ)))))))) (by kernel_rfl) (by kernel_rfl) sl38 (F126.is hx176) ?_
            refine wH_load1 (i := 22) (d := 42) (T := 2) (ad := (elA A0_3 1 (x122) 0)) (v := .int .i64 (x175)) (by kernel_rfl) (qT (qT (qB (qT (qL (qB (qT (qT qZ)))))))) (by kernel_rfl) (by kernel_rfl) vt2 (fun W hW => Sl.cell (Z161.chg hW Dj.nil) hx176 0 (by rfl)) ?_
            refine wH_take [23, 24] [24, 23, 22, 21, 20, 19, 18, 17, 16, 15, 14, 13, 12, 11, 10, 9, 8, 7, 6, 5, 4, 3, 2, 1, 0] [(44, .int .i64 (x122)), (43, .slice A1 (l1).length cap1)] (by kernel_rfl) (qT (qT (qB (qT (qL (qB (qT (qT qZ)))))))) (by kernel_rfl) ?_
            obtain ⟨x177, hx178, hm⟩ := bindE hm
            refine wH_idx (i := 25) (d := 45) (T := 38) (A := A1) (n := (l1).length) (cap := cap1) (kd := .i64) (m := x122) (by kernel_rfl) (qT (qT (qB (qT (qL (qB (qT (qT qZ)))))))) (by kernel_rfl) (by kernel_rfl) sl38 (F128.is hx178) ?_
            refine wH_load1 (i := 26) (d := 46) (T := 2) (ad := (elA A1 1 (x122) 0)) (v := .int .i64 (x177)) (by kernel_rfl) (qT (qT (qB (qT (qL (qB (qT (qT qZ)))))))) (by kernel_rfl) (by kernel_rfl) vt2 (fun W hW => Sl.cell (Z163.chg hW Dj.nil) hx178 0 (by rfl)) ?_
            refine wH_done (by kernel_rfl) ?_
            refine eX_tail ?_
            refine wS_pure 3 [(49, .bool (x175 != x177)), (48, .bool (x175 != x177)), (47, .bool (x175 != x177))] (by kernel_rfl) ?_
            refine wS_end (by rfl) ?_
            refine eX_then ?_
            refine cW_prune [(0, .pointer (some ⟨b0, 0, none⟩)), (1, .slice A1 (l1).length cap1), (5, .int .i64 (x122)), (49, .bool (x175 != x177))] (by kernel_rfl) (by kernel_rfl) (fun a179 => ?_)
            refine cW_cond (t := x175 != x177) (by kernel_rfl) (fun hb180 => ?_) (fun hb180 => ?_)
            · have hm := condT hb180 hm
              refine cW_seq ?_
              refine cW_region ?_
              refine wS_pure 1 [(4, .bool (false))] (by kernel_rfl) ?_
              refine wS_end (by rfl) ?_
              refine eX_then ?_
              refine cW_ret ?_
              refine eX_block_ret ?_
              refine eX_then_ret ?_
              have hq : (some (Ctl.out (Sum.inr false)) : Option (Ctl (Int) (Sum (Unit) ((Bool))))) = some _ := hm
              replace hq := someE hq
              subst hq
              refine eX_outR hx134 (fun hr => ?_)
              subst hr
              refine eX_block_ret ?_
              refine eX_then_ret ?_
              refine eX_then_ret ?_
              have hq : (some false : Option ((Bool))) = some _ := hm131
              replace hq := someE hq
              subst hq
              refine eX_ret (vs := [.bool (false)]) [.tmp 4] (by rfl) ⟨by (show lkE _ _ _ = _); kernel_rfl, trivial⟩ ?_
              exact ⟨rfl, hB⟩
            · have hm := condF hb180 hm
              refine cW_skip ?_
              refine eX_block ?_
              refine eX_then ?_
              refine cW_region ?_
              refine wS_pure 3 [(5, .int .i64 (wr (x122 + 1))), (19, .int .i64 (wr (x122 + 1))), (18, .int .i64 (x122))] (by kernel_rfl) ?_
              refine wS_end (by rfl) ?_
              have hq : (some (Ctl.next (wr (x122 + 1))) : Option (Ctl (Int) (Sum (Unit) ((Bool))))) = some _ := hm
              replace hq := someE hq
              subst hq
              exact eX_next hx134 (fun hst => ⟨wr (x122 + 1), rfl, Fr.of hst (by kernel_rfl), F124, F125, F126, F127, F128, hB, hZ⟩)
          · have hm := condF hb174 hm
            rewrite [hb174]
            refine wH_take [16, 17, 18, 19, 20, 21, 22, 23, 24, 25, 26] [26, 25, 24, 23, 22, 21, 20, 19, 18, 17, 16, 15, 14, 13, 12, 11, 10, 9, 8, 7, 6, 5, 4, 3, 2, 1, 0] [(46, undef), (45, undef), (44, undef), (43, undef), (42, undef), (41, undef), (40, undef), (39, undef), (38, undef), (37, undef), (36, undef)] (by kernel_rfl) (qT (qT (qB (qT (qL (qB (qT (qT qZ)))))))) (by kernel_rfl) ?_
            refine wH_done (by kernel_rfl) ?_
            refine eX_tail ?_
            refine wS_pure 3 [(49, .bool (false)), (48, .bool (false)), (47, undef)] (by kernel_rfl) ?_
            refine wS_end (by rfl) ?_
            refine eX_then ?_
            refine cW_prune [(0, .pointer (some ⟨b0, 0, none⟩)), (1, .slice A1 (l1).length cap1), (5, .int .i64 (x122)), (49, .bool (false))] (by kernel_rfl) (by kernel_rfl) (fun a181 => ?_)
            refine cW_cond_f (by kernel_rfl) ?_
            refine cW_skip ?_
            refine eX_block ?_
            refine eX_then ?_
            refine cW_region ?_
            refine wS_pure 3 [(5, .int .i64 (wr (x122 + 1))), (19, .int .i64 (wr (x122 + 1))), (18, .int .i64 (x122))] (by kernel_rfl) ?_
            refine wS_end (by rfl) ?_
            have hq : (some (Ctl.next (wr (x122 + 1))) : Option (Ctl (Int) (Sum (Unit) ((Bool))))) = some _ := hm
            replace hq := someE hq
            subst hq
            exact eX_next hx134 (fun hst => ⟨wr (x122 + 1), rfl, Fr.of hst (by kernel_rfl), F124, F125, F126, F127, F128, hB, hZ⟩)
      · have hm := condF hb135 hm
        refine cW_exit ?_
        refine eX_then_exit ?_
        have hq : (some (Ctl.out (Sum.inl (()))) : Option (Ctl (Int) (Sum (Unit) ((Bool))))) = some _ := hm
        replace hq := someE hq
        subst hq
        refine eX_outX hx134 (fun hr182 => ?_)
        replace hr182 := hr182.symm
        subst hr182
        refine eX_block_hit ?_
        exact eX_J (fun hst => ⟨rfl, Fr.of hst (by kernel_rfl), F124, F125, F126, F127, F128, hB, hZ⟩)
    · rintro a' w114 ⟨hJ, hF115, F116, F117, F118, F119, F120, hB, hZ⟩
      subst hJ
      refine Fr.goX hF115 (by kernel_rfl) ?_
      refine eX_then ?_
      refine cW_seq ?_
      refine cW_seq ?_
      refine cW_region ?_
      refine wS_pure 1 [(6, .int .i64 (0))] (by kernel_rfl) ?_
      refine wS_end (by rfl) ?_
      refine eX_then ?_
      obtain ⟨r336, hr337, hm⟩ := bindE hm
      have hm338 := hm
      refine cW_cut (fun a' w' => Sum.inl (()) = r336 ∧ Fr 84 [] a' ∧ Chg [] w0 w' ∧ w0.heap.size ≤ w'.heap.size) ?_ ?_
      · refine cW_block ?_
        refine cW_loop _ (fun (s339 : Int) a' w' => ∃ x329 : Int, x329 = s339 ∧ Fr 84 [(0, .pointer (some ⟨b0, 0, none⟩)), (1, .slice A1 (l1).length cap1), (6, .int .i64 (x329))] a' ∧ SlR 1 encI w' fp0_1 A0_1 l0_1 ∧ SlR 1 encI w' fp0_2 A0_2 l0_2 ∧ Sl 1 encI w' fp0_3 A0_3 l0_3 ∧ Cl w' b0 43 [.int .i64 (q0_0), .slice A0_1 (l0_1).length cap0_1, .slice A0_2 (l0_2).length cap0_2, .slice A0_3 (l0_3).length cap0_3] ∧ Sl 1 encI w' fp1 A1 l1 ∧ Chg [] w0 w' ∧ w0.heap.size ≤ w'.heap.size) hr337 (fun hst => ⟨0, rfl, Fr.of hst (by kernel_rfl), F116, F117, F118, F119, F120, hB, hZ⟩) ?_
        rintro _ c340 a' w328 ⟨x329, rfl, hF330, F331, F332, F333, F334, F335, hB, hZ⟩ hx341
        refine Fr.goOn hF330 (by kernel_rfl) ?_
        have hm := hx341
        unfold m_spec_l07Layering_bimplWiring_s2 at hm
        refine cW_seq ?_
        refine cW_seq ?_
        refine cW_region ?_
        refine wS_pure 4 [(53, .pointer (some ⟨b0, 1, none⟩)), (52, .pointer (some ⟨b0, 0, none⟩)), (51, .pointer (some ⟨b0, 0, none⟩)), (50, .int .i64 (x329))] (by kernel_rfl) ?_
        refine wS_load1 (d := 54) (T := 37) (ad := ⟨b0, 1, none⟩) (v := .slice A0_1 (l0_1).length cap0_1) (by kernel_rfl) vt37 ((F334).cell 1) ?_
        refine wS_pure 2 [(56, .bool (decide (x329 < (((l0_1).length : Int))))), (55, .int .i64 (((l0_1).length : Int)))] (by kernel_rfl) ?_
        refine wS_end (by rfl) ?_
        refine eX_then ?_
        refine cW_cond (t := decide (x329 < (((l0_1).length : Int)))) (by kernel_rfl) (fun hb342 => ?_) (fun hb342 => ?_)
        · have hm := condT hb342 hm
          refine cW_skip ?_
          refine eX_then ?_
          refine cW_seq ?_
          refine cW_block ?_
          refine cW_seq ?_
          refine cW_drawnTail [] 24 (by kernel_rfl) (by kernel_rfl) (fun w374 hc375 => ?_)
          replace F331 := F331.chg hc375 Dj.nil
          replace F332 := F332.chg hc375 Dj.nil
          replace F333 := F333.chg hc375 Dj.nil
          replace F334 := F334.chg hc375 notNil
          replace F335 := F335.chg hc375 Dj.nil
          replace hB := hB.inS hc375 inNil
          replace hZ := Nat.le_trans hZ hc375.size
          have hS := Chg.refl [] w374
          have Z376 := F331
          have Z377 := F332
          have Z378 := F333
          have Z379 := F334
          have Z380 := F335
          refine wH_take [0, 1, 2, 3] [3, 2, 1, 0] [(62, .pointer (some ⟨b0, 1, none⟩)), (61, .pointer (some ⟨b0, 0, none⟩)), (60, .pointer (some ⟨b0, 0, none⟩)), (59, .slice A1 (l1).length cap1)] (by kernel_rfl) (qT (qT (qB (qT (qL (qB (qT (qT qZ)))))))) (by kernel_rfl) ?_
          refine wH_load1 (i := 4) (d := 63) (T := 37) (ad := ⟨b0, 1, none⟩) (v := .slice A0_1 (l0_1).length cap0_1) (by kernel_rfl) (qT (qT (qB (qT (qL (qB (qT (qT qZ)))))))) (by kernel_rfl) (by kernel_rfl) vt37 (fun W hW => (Z379.chg hW notNil).cell 1) ?_
          refine wH_take [5] [5, 4, 3, 2, 1, 0] [(64, .int .i64 (x329))] (by kernel_rfl) (qT (qT (qB (qT (qL (qB (qT (qT qZ)))))))) (by kernel_rfl) ?_
          obtain ⟨x381, hx382, hm⟩ := bindE hm
          refine wH_idx (i := 6) (d := 65) (T := 37) (A := A0_1) (n := (l0_1).length) (cap := cap0_1) (kd := .i64) (m := x329) (by kernel_rfl) (qT (qT (qB (qT (qL (qB (qT (qT qZ)))))))) (by kernel_rfl) (by kernel_rfl) sl37 (F331.is hx382) ?_
          obtain ⟨A383, cap384, hc386, F385, K387⟩ := SlR.row Z376 hx382
          refine wH_load1 (i := 7) (d := 66) (T := 38) (ad := (elA A0_1 1 (x329) 0)) (v := .slice A383 (x381).length cap384) (by kernel_rfl) (qT (qT (qB (qT (qL (qB (qT (qT qZ)))))))) (by kernel_rfl) (by kernel_rfl) vt38 (fun W hW => hW.keep hc386) ?_
          obtain ⟨x389, hx390, hm⟩ := bindE hm
          refine wH_idx (i := 8) (d := 67) (T := 38) (A := A383) (n := (x381).length) (cap := cap384) (kd := .i64) (m := 0) (by kernel_rfl) (qT (qT (qB (qT (qL (qB (qT (qT qZ)))))))) (by kernel_rfl) (by kernel_rfl) sl38 (F385.is hx390) ?_
          refine wH_load1 (i := 9) (d := 68) (T := 2) (ad := (elA A383 1 (0) 0)) (v := .int .i64 (x389)) (by kernel_rfl) (qT (qT (qB (qT (qL (qB (qT (qT qZ)))))))) (by kernel_rfl) (by kernel_rfl) vt2 (fun W hW => Sl.cell (F385.chg hW Dj.nil) hx390 0 (by rfl)) ?_
          obtain ⟨x391, hx392, hm⟩ := bindE hm
          refine wH_idx (i := 10) (d := 69) (T := 38) (A := A1) (n := (l1).length) (cap := cap1) (kd := .i64) (m := x389) (by kernel_rfl) (qT (qT (qB (qT (qL (qB (qT (qT qZ)))))))) (by kernel_rfl) (by kernel_rfl) sl38 (F335.is hx392) ?_
          refine wH_load1 (i := 11) (d := 70) (T := 2) (ad := (elA A1 1 (x389) 0)) (v := .int .i64 (x391)) (by kernel_rfl) (qT (qT (qB (qT (qL (qB (qT (qT qZ)))))))) (by kernel_rfl) (by kernel_rfl) vt2 (fun W hW => Sl.cell (Z380.chg hW Dj.nil) hx392 0 (by rfl)) ?_
          refine wH_take [12, 13, 14, 15] [15, 14, 13, 12, 11, 10, 9, 8, 7, 6, 5, 4, 3, 2, 1, 0] [(74, .pointer (some ⟨b0, 1, none⟩)), (73, .pointer (some ⟨b0, 0, none⟩)), (72, .pointer (some ⟨b0, 0, none⟩)), (71, .slice A1 (l1).length cap1)] (by kernel_rfl) (qT (qT (qB (qT (qL (qB (qT (qT qZ)))))))) (by kernel_rfl) ?_
          refine wH_load1 (i := 16) (d := 75) (T := 37) (ad := ⟨b0, 1, none⟩) (v := .slice A0_1 (l0_1).length cap0_1) (by kernel_rfl) (qT (qT (qB (qT (qL (qB (qT (qT qZ)))))))) (by kernel_rfl) (by kernel_rfl) vt37 (fun W hW => (Z379.chg hW notNil).cell 1) ?_
          refine wH_take [17] [17, 16, 15, 14, 13, 12, 11, 10, 9, 8, 7, 6, 5, 4, 3, 2, 1, 0] [(76, .int .i64 (x329))] (by kernel_rfl) (qT (qT (qB (qT (qL (qB (qT (qT qZ)))))))) (by kernel_rfl) ?_
          obtain ⟨x393, hx394, hm⟩ := bindE hm
          refine wH_idx (i := 18) (d := 77) (T := 37) (A := A0_1) (n := (l0_1).length) (cap := cap0_1) (kd := .i64) (m := x329) (by kernel_rfl) (qT (qT (qB (qT (qL (qB (qT (qT qZ)))))))) (by kernel_rfl) (by kernel_rfl) sl37 (F331.is hx394) ?_
          obtain ⟨A395, cap396, hc398, F397, K399⟩ := SlR.row Z376 hx394
          refine wH_load1 (i := 19) (d := 78) (T := 38) (ad := (elA A0_1 1 (x329) 0)) (v := .slice A395 (x393).length cap396) (by kernel_rfl) (qT (qT (qB (qT (qL (qB (qT (qT qZ)))))))) (by kernel_rfl) (by kernel_rfl) vt38 (fun W hW => hW.keep hc398) ?_
          obtain ⟨x401, hx402, hm⟩ := bindE hm
          refine wH_idx (i := 20) (d := 79) (T := 38) (A := A395) (n := (x393).length) (cap := cap396) (kd := .i64) (m := 1) (by kernel_rfl) (qT (qT (qB (qT (qL (qB (qT (qT qZ)))))))) (by kernel_rfl) (by kernel_rfl) sl38 (F397.is hx402) ?_
          refine wH_load1 (i := 21) (d := 80) (T := 2) (ad := (elA A395 1 (1) 0)) (v := .int .i64 (x401)) (by kernel_rfl) (qT (qT (qB (qT (qL (qB (qT (qT qZ)))))))) (by kernel_rfl) (by kernel_rfl) vt2 (fun W hW => Sl.cell (F397.chg hW Dj.nil) hx402 0 (by rfl)) ?_
          obtain ⟨x403, hx404, hm⟩ := bindE hm
          refine wH_idx (i := 22) (d := 81) (T := 38) (A := A1) (n := (l1).length) (cap := cap1) (kd := .i64) (m := x401) (by kernel_rfl) (qT (qT (qB (qT (qL (qB (qT (qT qZ)))))))) (by kernel_rfl) (by kernel_rfl) sl38 (F335.is hx404) ?_
          refine wH_load1 (i := 23) (d := 82) (T := 2) (ad := (elA A1 1 (x401) 0)) (v := .int .i64 (x403)) (by kernel_rfl) (qT (qT (qB (qT (qL (qB (qT (qT qZ)))))))) (by kernel_rfl) (by kernel_rfl) vt2 (fun W hW => Sl.cell (Z380.chg hW Dj.nil) hx404 0 (by rfl)) ?_
          refine wH_done (by kernel_rfl) ?_
          refine eX_tail ?_
          refine wS_pure 1 [(83, .bool (x391 == x403))] (by kernel_rfl) ?_
          refine wS_end (by rfl) ?_
          refine eX_then ?_
          refine cW_prune [(0, .pointer (some ⟨b0, 0, none⟩)), (1, .slice A1 (l1).length cap1), (6, .int .i64 (x329)), (83, .bool (x391 == x403))] (by kernel_rfl) (by kernel_rfl) (fun a405 => ?_)
          refine cW_cond (t := x391 == x403) (by kernel_rfl) (fun hb406 => ?_) (fun hb406 => ?_)
          · have hm := condT hb406 hm
            refine cW_seq ?_
            refine cW_region ?_
            refine wS_pure 1 [(4, .bool (false))] (by kernel_rfl) ?_
            refine wS_end (by rfl) ?_
            refine eX_then ?_
            refine cW_ret ?_
            refine eX_block_ret ?_
            refine eX_then_ret ?_
            have hq : (some (Ctl.out (Sum.inr false)) : Option (Ctl (Int) (Sum (Unit) ((Bool))))) = some _ := hm
            replace hq := someE hq
            subst hq
            refine eX_outR hx341 (fun hr => ?_)
            subst hr
            refine eX_block_ret ?_
            refine eX_then_ret ?_
            refine eX_then_ret ?_
            have hq : (some false : Option ((Bool))) = some _ := hm338
            replace hq := someE hq
            subst hq
            refine eX_ret (vs := [.bool (false)]) [.tmp 4] (by rfl) ⟨by (show lkE _ _ _ = _); kernel_rfl, trivial⟩ ?_
            exact ⟨rfl, hB⟩
          · have hm := condF hb406 hm
            refine cW_skip ?_
            refine eX_block ?_
            refine eX_then ?_
            refine cW_region ?_
            refine wS_pure 3 [(6, .int .i64 (wr (x329 + 1))), (58, .int .i64 (wr (x329 + 1))), (57, .int .i64 (x329))] (by kernel_rfl) ?_
            refine wS_end (by rfl) ?_
            have hq : (some (Ctl.next (wr (x329 + 1))) : Option (Ctl (Int) (Sum (Unit) ((Bool))))) = some _ := hm
            replace hq := someE hq
            subst hq
            exact eX_next hx341 (fun hst => ⟨wr (x329 + 1), rfl, Fr.of hst (by kernel_rfl), F331, F332, F333, F334, F335, hB, hZ⟩)
        · have hm := condF hb342 hm
          refine cW_exit ?_
          refine eX_then_exit ?_
          have hq : (some (Ctl.out (Sum.inl (()))) : Option (Ctl (Int) (Sum (Unit) ((Bool))))) = some _ := hm
          replace hq := someE hq
          subst hq
          refine eX_outX hx341 (fun hr407 => ?_)
          replace hr407 := hr407.symm
          subst hr407
          refine eX_block_hit ?_
          exact eX_J (fun hst => ⟨rfl, Fr.of hst (by kernel_rfl), hB, hZ⟩)
      · rintro a' w326 ⟨hJ, hF327, hB, hZ⟩
        subst hJ
        refine Fr.goX hF327 (by kernel_rfl) ?_
        refine eX_then ?_
        refine cW_seq ?_
        refine cW_region ?_
        refine wS_pure 1 [(4, .bool (true))] (by kernel_rfl) ?_
        refine wS_end (by rfl) ?_
        refine eX_then ?_
        refine cW_ret ?_
        have hq : (some true : Option ((Bool))) = some _ := hm
        replace hq := someE hq
        subst hq
        refine eX_ret (vs := [.bool (true)]) [.tmp 4] (by rfl) ⟨by (show lkE _ _ _ = _); kernel_rfl, trivial⟩ ?_
        exact ⟨rfl, hB⟩

set_option maxRecDepth 100000 in
/-- spec.l07Cost -/
theorem c_spec_l07Cost_bimplWiring {w0 : World} {q0_0 : Int} {l0_1 : List (List (Int))} {A0_1 : Option Addr} {cap0_1 : Nat} {fp0_1 : List Nat} {l0_2 : List (List (Int))} {A0_2 : Option Addr} {cap0_2 : Nat} {fp0_2 : List Nat} {l0_3 : List (Int)} {A0_3 : Option Addr} {cap0_3 : Nat} {fp0_3 : List Nat} {b0 : Nat} {l1 : List (Int)} {A1 : Option Addr} {cap1 : Nat} {fp1 : List Nat} {r : (Int)} (hm : m_spec_l07Cost_bimplWiring q0_0 l0_1 l0_2 l0_3 l1 = some r) (F0_1 : SlR 1 encI w0 fp0_1 A0_1 l0_1) (F0_2 : SlR 1 encI w0 fp0_2 A0_2 l0_2) (F0_3 : Sl 1 encI w0 fp0_3 A0_3 l0_3) (F0 : Cl w0 b0 43 [.int .i64 (q0_0), .slice A0_1 (l0_1).length cap0_1, .slice A0_2 (l0_2).length cap0_2, .slice A0_3 (l0_3).length cap0_3]) (F1 : Sl 1 encI w0 fp1 A1 l1) :
    Calls Try.prog 94 #[.pointer (some ⟨b0, 0, none⟩), .slice A1 (l1).length cap1] w0 fun e w' => e = .returned (.int .i64 (r)) ∧ Chg [] w0 w' := by
  have L0_1 := F0_1.low
  have L0_2 := F0_2.low
  have L0_3 := F0_3.low
  have L0 := lt1 F0.lt
  have L1 := F1.low
  have hB : Chg [] w0 w0 := Chg.refl _ _
  have hZ := Nat.le_refl w0.heap.size
  unfold m_spec_l07Cost_bimplWiring at hm
  refine enterE (N := 53) Try.func94 (by rfl) Try.ntmps94 (by simp) [(0, .pointer (some ⟨b0, 0, none⟩)), (1, .slice A1 (l1).length cap1)] (by rfl) (by kernel_rfl) (fun a => ?_)
  refine cW_seq ?_
  refine cW_region ?_
  refine wS_pure 1 [(4, .int .i64 (0))] (by kernel_rfl) ?_
  refine wS_end (by rfl) ?_
  refine eX_then ?_
  refine cW_seq ?_
  refine cW_region ?_
  refine wS_pure 1 [(5, .int .i64 (0))] (by kernel_rfl) ?_
  refine wS_end (by rfl) ?_
  refine eX_then ?_
  refine cW_seq ?_
  refine cW_seq ?_
  refine cW_region ?_
  refine wS_pure 1 [(6, .int .i64 (0))] (by kernel_rfl) ?_
  refine wS_end (by rfl) ?_
  refine eX_then ?_
  obtain ⟨r350, hr351, hm⟩ := bindE hm
  have hm352 := hm
  refine cW_cut (fun a' w' => ∃ x339 : Int, x339 = r350 ∧ Fr 53 [(5, .int .i64 (x339))] a' ∧ Chg [] w0 w' ∧ w0.heap.size ≤ w'.heap.size) ?_ ?_
  · refine cW_block ?_
    refine cW_loop _ (fun (s353 : Int × Int) a' w' => ∃ x342 : Int, ∃ x343 : Int, (x342, x343) = s353 ∧ Fr 53 [(0, .pointer (some ⟨b0, 0, none⟩)), (1, .slice A1 (l1).length cap1), (5, .int .i64 (x342)), (6, .int .i64 (x343))] a' ∧ SlR 1 encI w' fp0_1 A0_1 l0_1 ∧ SlR 1 encI w' fp0_2 A0_2 l0_2 ∧ Sl 1 encI w' fp0_3 A0_3 l0_3 ∧ Cl w' b0 43 [.int .i64 (q0_0), .slice A0_1 (l0_1).length cap0_1, .slice A0_2 (l0_2).length cap0_2, .slice A0_3 (l0_3).length cap0_3] ∧ Sl 1 encI w' fp1 A1 l1 ∧ Chg [] w0 w' ∧ w0.heap.size ≤ w'.heap.size) hr351 (fun hst => ⟨0, 0, rfl, Fr.of hst (by kernel_rfl), F0_1, F0_2, F0_3, F0, F1, hB, hZ⟩) ?_
    rintro _ c354 a' w341 ⟨x342, x343, rfl, hF344, F345, F346, F347, F348, F349, hB, hZ⟩ hx355
    refine Fr.goOn hF344 (by kernel_rfl) ?_
    have hm := hx355
    unfold m_spec_l07Cost_bimplWiring_s1 at hm
    refine cW_seq ?_
    refine cW_seq ?_
    refine cW_region ?_
    refine wS_pure 4 [(10, .pointer (some ⟨b0, 2, none⟩)), (9, .pointer (some ⟨b0, 0, none⟩)), (8, .pointer (some ⟨b0, 0, none⟩)), (7, .int .i64 (x343))] (by kernel_rfl) ?_
    refine wS_load1 (d := 11) (T := 37) (ad := ⟨b0, 2, none⟩) (v := .slice A0_2 (l0_2).length cap0_2) (by kernel_rfl) vt37 ((F348).cell 2) ?_
    refine wS_pure 2 [(13, .bool (decide (x343 < (((l0_2).length : Int))))), (12, .int .i64 (((l0_2).length : Int)))] (by kernel_rfl) ?_
    refine wS_end (by rfl) ?_
    refine eX_then ?_
    refine cW_cond (t := decide (x343 < (((l0_2).length : Int)))) (by kernel_rfl) (fun hb356 => ?_) (fun hb356 => ?_)
    · have hm := condT hb356 hm
      refine cW_skip ?_
      refine eX_then ?_
      refine cW_seq ?_
      refine cW_block ?_
      obtain ⟨s439, hs440, hm⟩ := bindE hm
      refine cW_cut (fun a' w' => ∃ x432 : Int, x432 = s439 ∧ Fr 53 [(0, .pointer (some ⟨b0, 0, none⟩)), (1, .slice A1 (l1).length cap1), (5, .int .i64 (x432)), (6, .int .i64 (x343))] a' ∧ SlR 1 encI w' fp0_1 A0_1 l0_1 ∧ SlR 1 encI w' fp0_2 A0_2 l0_2 ∧ Sl 1 encI w' fp0_3 A0_3 l0_3 ∧ Cl w' b0 43 [.int .i64 (q0_0), .slice A0_1 (l0_1).length cap0_1, .slice A0_2 (l0_2).length cap0_2, .slice A0_3 (l0_3).length cap0_3] ∧ Sl 1 encI w' fp1 A1 l1 ∧ Chg [] w0 w' ∧ w0.heap.size ≤ w'.heap.size) ?_ ?_
      · have hm := hs440
        refine cW_seq ?_
        refine cW_drawnTail [] 24 (by kernel_rfl) (by kernel_rfl) (fun w472 hc473 => ?_)
        replace F345 := F345.chg hc473 Dj.nil
        replace F346 := F346.chg hc473 Dj.nil
        replace F347 := F347.chg hc473 Dj.nil
        replace F348 := F348.chg hc473 notNil
        replace F349 := F349.chg hc473 Dj.nil
        replace hB := hB.inS hc473 inNil
        replace hZ := Nat.le_trans hZ hc473.size
        have hS := Chg.refl [] w472
        have Z474 := F345
        have Z475 := F346
        have Z476 := F347
        have Z477 := F348
        have Z478 := F349
        refine wH_take [0, 1, 2, 3] [3, 2, 1, 0] [(19, .pointer (some ⟨b0, 2, none⟩)), (18, .pointer (some ⟨b0, 0, none⟩)), (17, .pointer (some ⟨b0, 0, none⟩)), (16, .slice A1 (l1).length cap1)] (by kernel_rfl) (qT (qT (qT (qB (qT (qL (qB (qT (qT qZ))))))))) (by kernel_rfl) ?_
        refine wH_load1 (i := 4) (d := 20) (T := 37) (ad := ⟨b0, 2, none⟩) (v := .slice A0_2 (l0_2).length cap0_2) (by kernel_rfl) (qT (qT (qT (qB (qT (qL (qB (qT (qT qZ))))))))) (by kernel_rfl) (by kernel_rfl) vt37 (fun W hW => (Z477.chg hW notNil).cell 2) ?_
        refine wH_take [5] [5, 4, 3, 2, 1, 0] [(21, .int .i64 (x343))] (by kernel_rfl) (qT (qT (qT (qB (qT (qL (qB (qT (qT qZ))))))))) (by kernel_rfl) ?_
        obtain ⟨x479, hx480, hm⟩ := bindE hm
        refine wH_idx (i := 6) (d := 22) (T := 37) (A := A0_2) (n := (l0_2).length) (cap := cap0_2) (kd := .i64) (m := x343) (by kernel_rfl) (qT (qT (qT (qB (qT (qL (qB (qT (qT qZ))))))))) (by kernel_rfl) (by kernel_rfl) sl37 (F346.is hx480) ?_
        obtain ⟨A481, cap482, hc484, F483, K485⟩ := SlR.row Z475 hx480
        refine wH_load1 (i := 7) (d := 23) (T := 38) (ad := (elA A0_2 1 (x343) 0)) (v := .slice A481 (x479).length cap482) (by kernel_rfl) (qT (qT (qT (qB (qT (qL (qB (qT (qT qZ))))))))) (by kernel_rfl) (by kernel_rfl) vt38 (fun W hW => hW.keep hc484) ?_
        obtain ⟨x487, hx488, hm⟩ := bindE hm
        refine wH_idx (i := 8) (d := 24) (T := 38) (A := A481) (n := (x479).length) (cap := cap482) (kd := .i64) (m := 0) (by kernel_rfl) (qT (qT (qT (qB (qT (qL (qB (qT (qT qZ))))))))) (by kernel_rfl) (by kernel_rfl) sl38 (F483.is hx488) ?_
        refine wH_load1 (i := 9) (d := 25) (T := 2) (ad := (elA A481 1 (0) 0)) (v := .int .i64 (x487)) (by kernel_rfl) (qT (qT (qT (qB (qT (qL (qB (qT (qT qZ))))))))) (by kernel_rfl) (by kernel_rfl) vt2 (fun W hW => Sl.cell (F483.chg hW Dj.nil) hx488 0 (by rfl)) ?_
        obtain ⟨x489, hx490, hm⟩ := bindE hm
        refine wH_idx (i := 10) (d := 26) (T := 38) (A := A1) (n := (l1).length) (cap := cap1) (kd := .i64) (m := x487) (by kernel_rfl) (qT (qT (qT (qB (qT (qL (qB (qT (qT qZ))))))))) (by kernel_rfl) (by kernel_rfl) sl38 (F349.is hx490) ?_
        refine wH_load1 (i := 11) (d := 27) (T := 2) (ad := (elA A1 1 (x487) 0)) (v := .int .i64 (x489)) (by kernel_rfl) (qT (qT (qT (qB (qT (qL (qB (qT (qT qZ))))))))) (by kernel_rfl) (by kernel_rfl) vt2 (fun W hW => Sl.cell (Z478.chg hW Dj.nil) hx490 0 (by rfl)) ?_
        refine wH_take [12, 13, 14, 15] [15, 14, 13, 12, 11, 10, 9, 8, 7, 6, 5, 4, 3, 2, 1, 0] [(31, .pointer (some ⟨b0, 2, none⟩)), (30, .pointer (some ⟨b0, 0, none⟩)), (29, .pointer (some ⟨b0, 0, none⟩)), (28, .slice A1 (l1).length cap1)] (by kernel_rfl) (qT (qT (qT (qB (qT (qL (qB (qT (qT qZ))))))))) (by kernel_rfl) ?_
        refine wH_load1 (i := 16) (d := 32) (T := 37) (ad := ⟨b0, 2, none⟩) (v := .slice A0_2 (l0_2).length cap0_2) (by kernel_rfl) (qT (qT (qT (qB (qT (qL (qB (qT (qT qZ))))))))) (by kernel_rfl) (by kernel_rfl) vt37 (fun W hW => (Z477.chg hW notNil).cell 2) ?_
        refine wH_take [17] [17, 16, 15, 14, 13, 12, 11, 10, 9, 8, 7, 6, 5, 4, 3, 2, 1, 0] [(33, .int .i64 (x343))] (by kernel_rfl) (qT (qT (qT (qB (qT (qL (qB (qT (qT qZ))))))))) (by kernel_rfl) ?_
        obtain ⟨x491, hx492, hm⟩ := bindE hm
        refine wH_idx (i := 18) (d := 34) (T := 37) (A := A0_2) (n := (l0_2).length) (cap := cap0_2) (kd := .i64) (m := x343) (by kernel_rfl) (qT (qT (qT (qB (qT (qL (qB (qT (qT qZ))))))))) (by kernel_rfl) (by kernel_rfl) sl37 (F346.is hx492) ?_
        obtain ⟨A493, cap494, hc496, F495, K497⟩ := SlR.row Z475 hx492
        refine wH_load1 (i := 19) (d := 35) (T := 38) (ad := (elA A0_2 1 (x343) 0)) (v := .slice A493 (x491).length cap494) (by kernel_rfl) (qT (qT (qT (qB (qT (qL (qB (qT (qT qZ))))))))) (by kernel_rfl) (by kernel_rfl) vt38 (fun W hW => hW.keep hc496) ?_
        obtain ⟨x499, hx500, hm⟩ := bindE hm
        refine wH_idx (i := 20) (d := 36) (T := 38) (A := A493) (n := (x491).length) (cap := cap494) (kd := .i64) (m := 1) (by kernel_rfl) (qT (qT (qT (qB (qT (qL (qB (qT (qT qZ))))))))) (by kernel_rfl) (by kernel_rfl) sl38 (F495.is hx500) ?_
        refine wH_load1 (i := 21) (d := 37) (T := 2) (ad := (elA A493 1 (1) 0)) (v := .int .i64 (x499)) (by kernel_rfl) (qT (qT (qT (qB (qT (qL (qB (qT (qT qZ))))))))) (by kernel_rfl) (by kernel_rfl) vt2 (fun W hW => Sl.cell (F495.chg hW Dj.nil) hx500 0 (by rfl)) ?_
        obtain ⟨x501, hx502, hm⟩ := bindE hm
        refine wH_idx (i := 22) (d := 38) (T := 38) (A := A1) (n := (l1).length) (cap := cap1) (kd := .i64) (m := x499) (by kernel_rfl) (qT (qT (qT (qB (qT (qL (qB (qT (qT qZ))))))))) (by kernel_rfl) (by kernel_rfl) sl38 (F349.is hx502) ?_
        refine wH_load1 (i := 23) (d := 39) (T := 2) (ad := (elA A1 1 (x499) 0)) (v := .int .i64 (x501)) (by kernel_rfl) (qT (qT (qT (qB (qT (qL (qB (qT (qT qZ))))))))) (by kernel_rfl) (by kernel_rfl) vt2 (fun W hW => Sl.cell (Z478.chg hW Dj.nil) hx502 0 (by rfl)) ?_
        refine wH_done (by kernel_rfl) ?_
        refine eX_tail ?_
        refine wS_pure 1 [(40, .bool (x489 != x501))] (by kernel_rfl) ?_
        refine wS_end (by rfl) ?_
        refine eX_then ?_
        refine cW_prune [(0, .pointer (some ⟨b0, 0, none⟩)), (1, .slice A1 (l1).length cap1), (5, .int .i64 (x342)), (6, .int .i64 (x343)), (40, .bool (x489 != x501))] (by kernel_rfl) (by kernel_rfl) (fun a503 => ?_)
        refine cW_cond (t := x489 != x501) (by kernel_rfl) (fun hb504 => ?_) (fun hb504 => ?_)
        · have hm := condT hb504 hm
          refine cW_region ?_
          refine wS_pure 4 [(44, .pointer (some ⟨b0, 2, none⟩)), (43, .pointer (some ⟨b0, 0, none⟩)), (42, .pointer (some ⟨b0, 0, none⟩)), (41, .int .i64 (x342))] (by kernel_rfl) ?_
          refine wS_load1 (d := 45) (T := 37) (ad := ⟨b0, 2, none⟩) (v := .slice A0_2 (l0_2).length cap0_2) (by kernel_rfl) vt37 ((F348).cell 2) ?_
          refine wS_pure 1 [(46, .int .i64 (x343))] (by kernel_rfl) ?_
          obtain ⟨x505, hx506, hm⟩ := bindE hm
          refine wS_idx (d := 47) (T := 37) (A := A0_2) (n := (l0_2).length) (cap := cap0_2) (kd := .i64) (m := x343) (by kernel_rfl) sl37 (F346.is hx506) ?_
          obtain ⟨A507, cap508, hc510, F509, K511⟩ := SlR.row F346 hx506
          refine wS_load1 (d := 48) (T := 38) (ad := (elA A0_2 1 (x343) 0)) (v := .slice A507 (x505).length cap508) (by kernel_rfl) vt38 hc510 ?_
          obtain ⟨x513, hx514, hm⟩ := bindE hm
          refine wS_idx (d := 49) (T := 38) (A := A507) (n := (x505).length) (cap := cap508) (kd := .i64) (m := 2) (by kernel_rfl) sl38 (F509.is hx514) ?_
          refine wS_load1 (d := 50) (T := 2) (ad := (elA A507 1 (2) 0)) (v := .int .i64 (x513)) (by kernel_rfl) vt2 (Sl.cell F509 hx514 0 (by rfl)) ?_
          refine wS_pure 2 [(5, .int .i64 (wr (x342 + x513))), (51, .int .i64 (wr (x342 + x513)))] (by kernel_rfl) ?_
          refine wS_end (by rfl) ?_
          have hq : (some (wr (x342 + x513)) : Option (Int)) = some _ := hm
          replace hq := someE hq
          subst hq
          exact eX_J (fun hst => ⟨wr (x342 + x513), rfl, Fr.of hst (by kernel_rfl), F345, F346, F347, F348, F349, hB, hZ⟩)
        · have hm := condF hb504 hm
          refine cW_skip ?_
          have hq : (some x342 : Option (Int)) = some _ := hm
          replace hq := someE hq
          subst hq
          exact eX_J (fun hst => ⟨x342, rfl, Fr.of hst (by kernel_rfl), F345, F346, F347, F348, F349, hB, hZ⟩)
      · rintro a' w431 ⟨x432, hJ, hF433, F434, F435, F436, F437, F438, hB, hZ⟩
        subst hJ
        refine Fr.goX hF433 (by kernel_rfl) ?_
        refine eX_block ?_
        refine eX_then ?_
        refine cW_region ?_
        refine wS_pure 3 [(6, .int .i64 (wr (x343 + 1))), (15, .int .i64 (wr (x343 + 1))), (14, .int .i64 (x343))] (by kernel_rfl) ?_
        refine wS_end (by rfl) ?_
        have hq : (some (Ctl.next ((x432, wr (x343 + 1)))) : Option (Ctl (Int × Int) (Int))) = some _ := hm
        replace hq := someE hq
        subst hq
        exact eX_next hx355 (fun hst => ⟨x432, wr (x343 + 1), rfl, Fr.of hst (by kernel_rfl), F434, F435, F436, F437, F438, hB, hZ⟩)
    · have hm := condF hb356 hm
      refine cW_exit ?_
      refine eX_then_exit ?_
      have hq : (some (Ctl.out x342) : Option (Ctl (Int × Int) (Int))) = some _ := hm
      replace hq := someE hq
      subst hq
      refine eX_outX hx355 (fun hr515 => ?_)
      replace hr515 := hr515.symm
      subst hr515
      refine eX_block_hit ?_
      exact eX_J (fun hst => ⟨x342, rfl, Fr.of hst (by kernel_rfl), hB, hZ⟩)
  · rintro a' w338 ⟨x339, hJ, hF340, hB, hZ⟩
    subst hJ
    refine Fr.goX hF340 (by kernel_rfl) ?_
    refine eX_then ?_
    refine cW_seq ?_
    refine cW_region ?_
    refine wS_pure 2 [(4, .int .i64 (x339)), (52, .int .i64 (x339))] (by kernel_rfl) ?_
    refine wS_end (by rfl) ?_
    refine eX_then ?_
    refine cW_ret ?_
    have hq : (some x339 : Option ((Int))) = some _ := hm
    replace hq := someE hq
    subst hq
    refine eX_ret (vs := [.int .i64 (x339)]) [.tmp 4] (by rfl) ⟨by (show lkE _ _ _ = _); kernel_rfl, trivial⟩ ?_
    exact ⟨rfl, hB⟩

set_option maxRecDepth 100000 in
/-- spec.CostOf -/
theorem c_spec_CostOf {w0 : World} {p0_0 : Int} {l0_1 : List (List (Int))} {A0_1 : Option Addr} {cap0_1 : Nat} {fp0_1 : List Nat} {l0_2 : List (List (Int))} {A0_2 : Option Addr} {cap0_2 : Nat} {fp0_2 : List Nat} {l0_3 : List (Int)} {A0_3 : Option Addr} {cap0_3 : Nat} {fp0_3 : List Nat} {l1 : List (Int)} {A1 : Option Addr} {cap1 : Nat} {fp1 : List Nat} {r : (Int) × (Bool)} (hm : m_spec_CostOf p0_0 l0_1 l0_2 l0_3 l1 = some r) (F0_1 : SlR 1 encI w0 fp0_1 A0_1 l0_1) (F0_2 : SlR 1 encI w0 fp0_2 A0_2 l0_2) (F0_3 : Sl 1 encI w0 fp0_3 A0_3 l0_3) (F1 : Sl 1 encI w0 fp1 A1 l1) :
    Calls Try.prog 34 #[.agg #[.int .i64 (p0_0), .slice A0_1 (l0_1).length cap0_1, .slice A0_2 (l0_2).length cap0_2, .slice A0_3 (l0_3).length cap0_3], .slice A1 (l1).length cap1] w0 fun e w' => e = .returned (.tuple #[.int .i64 (r.1), .bool (r.2)]) ∧ Chg [] w0 w' := by
  have L0_1 := F0_1.low
  have L0_2 := F0_2.low
  have L0_3 := F0_3.low
  have L1 := F1.low
  have hB : Chg [] w0 w0 := Chg.refl _ _
  have hZ := Nat.le_refl w0.heap.size
  unfold m_spec_CostOf at hm
  refine enterE (N := 15) Try.func34 (by rfl) Try.ntmps34 (by simp) [(0, .agg #[.int .i64 (p0_0), .slice A0_1 (l0_1).length cap0_1, .slice A0_2 (l0_2).length cap0_2, .slice A0_3 (l0_3).length cap0_3]), (1, .slice A1 (l1).length cap1)] (by rfl) (by kernel_rfl) (fun a => ?_)
  refine cW_seq ?_
  refine cW_region ?_
  refine wS_box (d := 2) (T := 43) (x := .agg #[.int .i64 (p0_0), .slice A0_1 (l0_1).length cap0_1, .slice A0_2 (l0_2).length cap0_2, .slice A0_3 (l0_3).length cap0_3]) (by kernel_rfl) ?_
  intro b5 w6 G7 F8 hc9
  replace F8 : Cl w6 b5 43 [.int .i64 (p0_0), .slice A0_1 (l0_1).length cap0_1, .slice A0_2 (l0_2).length cap0_2, .slice A0_3 (l0_3).length cap0_3] := F8
  replace F0_1 := F0_1.chg hc9 Dj.nil
  replace F0_2 := F0_2.chg hc9 Dj.nil
  replace F0_3 := F0_3.chg hc9 Dj.nil
  replace F1 := F1.chg hc9 Dj.nil
  replace hB := hB.inS hc9 inNil
  replace G7 := Nat.le_trans hZ G7
  replace hZ := Nat.le_trans hZ hc9.size
  refine wS_pure 2 [(5, .bool (false)), (4, .int .i64 (0))] (by kernel_rfl) ?_
  refine wS_end (by rfl) ?_
  refine eX_then ?_
  refine cW_seq ?_
  refine cW_seq ?_
  refine cW_region ?_
  obtain ⟨y11, hy12, hm⟩ := bindE hm
  refine wS_calls (d := 6) (f := 82) (vs := [.pointer (some ⟨b5, 0, none⟩)]) (by kernel_rfl) ent82 (c_spec_l07Is_bimplWiring hy12 F0_1 F0_2 F0_3 F8) ?_
  rintro _ w13 ⟨rfl, hc14⟩
  replace F0_1 := F0_1.chg hc14 Dj.nil
  replace F0_2 := F0_2.chg hc14 Dj.nil
  replace F0_3 := F0_3.chg hc14 Dj.nil
  replace F1 := F1.chg hc14 Dj.nil
  replace F8 := F8.chg hc14 notNil
  replace hB := hB.inS hc14 inNil
  replace hZ := Nat.le_trans hZ hc14.size
  refine ⟨.bool (y11), rfl, ?_⟩
  refine wS_pure 2 [(8, .bool (!y11)), (7, .bool (!y11))] (by kernel_rfl) ?_
  refine wS_bool (!y11) (fun hb15 => ?_) (fun hb15 => ?_)
  · have hm := condT hb15 hm
    rewrite [hb15]
    refine wS_pure 4 [(12, .bool (true)), (11, undef), (10, undef), (9, undef)] (by kernel_rfl) ?_
    refine wS_end (by rfl) ?_
    refine eX_then ?_
    refine cW_cond_t (by kernel_rfl) ?_
    refine cW_seq ?_
    refine cW_region ?_
    refine wS_pure 2 [(5, .bool (false)), (4, .int .i64 (0))] (by kernel_rfl) ?_
    refine wS_end (by rfl) ?_
    refine eX_then ?_
    refine cW_ret ?_
    refine eX_then_ret ?_
    have hq : (some ((0, false)) : Option ((Int) × (Bool))) = some _ := hm
    replace hq := someE hq
    subst hq
    refine eX_ret (vs := [.int .i64 (0), .bool (false)]) [.tmp 4, .tmp 5] (by rfl) ⟨by (show lkE _ _ _ = _); kernel_rfl, ⟨by (show lkE _ _ _ = _); kernel_rfl, trivial⟩⟩ ?_
    exact ⟨rfl, hB⟩
  · have hm := condF hb15 hm
    rewrite [hb15]
    refine wS_pure 1 [(9, .slice A1 (l1).length cap1)] (by kernel_rfl) ?_
    obtain ⟨y16, hy17, hm⟩ := bindE hm
    refine wS_calls (d := 10) (f := 93) (vs := [.pointer (some ⟨b5, 0, none⟩), .slice A1 (l1).length cap1]) (by kernel_rfl) ent93 (c_spec_l07Layering_bimplWiring hy17 F0_1 F0_2 F0_3 F8 F1) ?_
    rintro _ w18 ⟨rfl, hc19⟩
    replace F0_1 := F0_1.chg hc19 Dj.nil
    replace F0_2 := F0_2.chg hc19 Dj.nil
    replace F0_3 := F0_3.chg hc19 Dj.nil
    replace F1 := F1.chg hc19 Dj.nil
    replace F8 := F8.chg hc19 notNil
    replace hB := hB.inS hc19 inNil
    replace hZ := Nat.le_trans hZ hc19.size
    refine ⟨.bool (y16), rfl, ?_⟩
    refine wS_pure 2 [(12, .bool (!y16)), (11, .bool (!y16))] (by kernel_rfl) ?_
    refine wS_end (by rfl) ?_
    refine eX_then ?_
    refine cW_cond (t := !y16) (by kernel_rfl) (fun hb20 => ?_) (fun hb20 => ?_)
    · have hm := condT hb20 hm
      refine cW_seq ?_
      refine cW_region ?_
      refine wS_pure 2 [(5, .bool (false)), (4, .int .i64 (0))] (by kernel_rfl) ?_
      refine wS_end (by rfl) ?_
      refine eX_then ?_
      refine cW_ret ?_
      refine eX_then_ret ?_
      have hq : (some ((0, false)) : Option ((Int) × (Bool))) = some _ := hm
      replace hq := someE hq
      subst hq
      refine eX_ret (vs := [.int .i64 (0), .bool (false)]) [.tmp 4, .tmp 5] (by rfl) ⟨by (show lkE _ _ _ = _); kernel_rfl, ⟨by (show lkE _ _ _ = _); kernel_rfl, trivial⟩⟩ ?_
      exact ⟨rfl, hB⟩
    · have hm := condF hb20 hm
      refine cW_skip ?_
      refine eX_then ?_
      refine cW_seq ?_
      refine cW_region ?_
      refine wS_pure 1 [(13, .slice A1 (l1).length cap1)] (by kernel_rfl) ?_
      obtain ⟨y21, hy22, hm⟩ := bindE hm
      refine wS_calls (d := 14) (f := 94) (vs := [.pointer (some ⟨b5, 0, none⟩), .slice A1 (l1).length cap1]) (by kernel_rfl) ent94 (c_spec_l07Cost_bimplWiring hy22 F0_1 F0_2 F0_3 F8 F1) ?_
      rintro _ w23 ⟨rfl, hc24⟩
      replace F0_1 := F0_1.chg hc24 Dj.nil
      replace F0_2 := F0_2.chg hc24 Dj.nil
      replace F0_3 := F0_3.chg hc24 Dj.nil
      replace F1 := F1.chg hc24 Dj.nil
      replace F8 := F8.chg hc24 notNil
      replace hB := hB.inS hc24 inNil
      replace hZ := Nat.le_trans hZ hc24.size
      refine ⟨.int .i64 (y21), rfl, ?_⟩
      refine wS_pure 2 [(5, .bool (true)), (4, .int .i64 (y21))] (by kernel_rfl) ?_
      refine wS_end (by rfl) ?_
      refine eX_then ?_
      refine cW_ret ?_
      have hq : (some ((y21, true)) : Option ((Int) × (Bool))) = some _ := hm
      replace hq := someE hq
      subst hq
      refine eX_ret (vs := [.int .i64 (y21), .bool (true)]) [.tmp 4, .tmp 5] (by rfl) ⟨by (show lkE _ _ _ = _); kernel_rfl, ⟨by (show lkE _ _ _ = _); kernel_rfl, trivial⟩⟩ ?_
      exact ⟨rfl, hB⟩

set_option maxRecDepth 100000 in
/-- impl.IsLayering$1 -/
theorem c_impl_IsLayering_1_bint64 {w0 : World} {l0 : List (Int)} {A0 : Option Addr} {cap0 : Nat} {fp0 : List Nat} {l1_0 : List (Int)} {A1_0 : Option Addr} {cap1_0 : Nat} {fp1_0 : List Nat} {b1 : Nat} {r : (Bool)} (hm : m_impl_IsLayering_1_bint64 l0 l1_0 = some r) (F0 : Sl 1 encI w0 fp0 A0 l0) (F1_0 : Sl 1 encI w0 fp1_0 A1_0 l1_0) (F1 : Cl w0 b1 38 [.slice A1_0 (l1_0).length cap1_0]) :
    Calls Try.prog 95 #[.slice A0 (l0).length cap0, .pointer (some ⟨b1, 0, none⟩)] w0 fun e w' => e = .returned (.bool (r)) ∧ Chg [] w0 w' := by
  have L0 := F0.low
  have L1_0 := F1_0.low
  have L1 := lt1 F1.lt
  have hB : Chg [] w0 w0 := Chg.refl _ _
  have hZ := Nat.le_refl w0.heap.size
  unfold m_impl_IsLayering_1_bint64 at hm
  refine enterE (N := 17) Try.func95 (by rfl) Try.ntmps95 (by simp) [(0, .slice A0 (l0).length cap0), (1, .pointer (some ⟨b1, 0, none⟩))] (by rfl) (by kernel_rfl) (fun a => ?_)
  refine cW_seq ?_
  refine cW_region ?_
  refine wS_pure 1 [(3, .bool (false))] (by kernel_rfl) ?_
  refine wS_end (by rfl) ?_
  refine eX_then ?_
  refine cW_seq ?_
  refine cW_drawnTail [] 12 (by kernel_rfl) (by kernel_rfl) (fun w17 hc18 => ?_)
  replace F0 := F0.chg hc18 Dj.nil
  replace F1_0 := F1_0.chg hc18 Dj.nil
  replace F1 := F1.chg hc18 notNil
  replace hB := hB.inS hc18 inNil
  replace hZ := Nat.le_trans hZ hc18.size
  have hS := Chg.refl [] w17
  have Z19 := F0
  have Z20 := F1_0
  have Z21 := F1
  refine wH_load1 (i := 0) (d := 4) (T := 38) (ad := ⟨b1, 0, none⟩) (v := .slice A1_0 (l1_0).length cap1_0) (by kernel_rfl) (qT (qT qZ)) (by kernel_rfl) (by kernel_rfl) vt38 (fun W hW => (Z21.chg hW notNil).cell 0) ?_
  refine wH_take [1] [1, 0] [(5, .slice A0 (l0).length cap0)] (by kernel_rfl) (qT (qT qZ)) (by kernel_rfl) ?_
  obtain ⟨x22, hx23, hm⟩ := bindE hm
  refine wH_idx (i := 2) (d := 6) (T := 38) (A := A0) (n := (l0).length) (cap := cap0) (kd := .i64) (m := 0) (by kernel_rfl) (qT (qT qZ)) (by kernel_rfl) (by kernel_rfl) sl38 (F0.is hx23) ?_
  refine wH_load1 (i := 3) (d := 7) (T := 2) (ad := (elA A0 1 (0) 0)) (v := .int .i64 (x22)) (by kernel_rfl) (qT (qT qZ)) (by kernel_rfl) (by kernel_rfl) vt2 (fun W hW => Sl.cell (Z19.chg hW Dj.nil) hx23 0 (by rfl)) ?_
  obtain ⟨x24, hx25, hm⟩ := bindE hm
  refine wH_idx (i := 4) (d := 8) (T := 38) (A := A1_0) (n := (l1_0).length) (cap := cap1_0) (kd := .i64) (m := x22) (by kernel_rfl) (qT (qT qZ)) (by kernel_rfl) (by kernel_rfl) sl38 (F1_0.is hx25) ?_
  refine wH_load1 (i := 5) (d := 9) (T := 2) (ad := (elA A1_0 1 (x22) 0)) (v := .int .i64 (x24)) (by kernel_rfl) (qT (qT qZ)) (by kernel_rfl) (by kernel_rfl) vt2 (fun W hW => Sl.cell (Z20.chg hW Dj.nil) hx25 0 (by rfl)) ?_
  refine wH_load1 (i := 6) (d := 10) (T := 38) (ad := ⟨b1, 0, none⟩) (v := .slice A1_0 (l1_0).length cap1_0) (by kernel_rfl) (qT (qT qZ)) (by kernel_rfl) (by kernel_rfl) vt38 (fun W hW => (Z21.chg hW notNil).cell 0) ?_
  refine wH_take [7] [7, 6, 5, 4, 3, 2, 1, 0] [(11, .slice A0 (l0).length cap0)] (by kernel_rfl) (qT (qT qZ)) (by kernel_rfl) ?_
  obtain ⟨x26, hx27, hm⟩ := bindE hm
  refine wH_idx (i := 8) (d := 12) (T := 38) (A := A0) (n := (l0).length) (cap := cap0) (kd := .i64) (m := 1) (by kernel_rfl) (qT (qT qZ)) (by kernel_rfl) (by kernel_rfl) sl38 (F0.is hx27) ?_
  refine wH_load1 (i := 9) (d := 13) (T := 2) (ad := (elA A0 1 (1) 0)) (v := .int .i64 (x26)) (by kernel_rfl) (qT (qT qZ)) (by kernel_rfl) (by kernel_rfl) vt2 (fun W hW => Sl.cell (Z19.chg hW Dj.nil) hx27 0 (by rfl)) ?_
  obtain ⟨x28, hx29, hm⟩ := bindE hm
  refine wH_idx (i := 10) (d := 14) (T := 38) (A := A1_0) (n := (l1_0).length) (cap := cap1_0) (kd := .i64) (m := x26) (by kernel_rfl) (qT (qT qZ)) (by kernel_rfl) (by kernel_rfl) sl38 (F1_0.is hx29) ?_
  refine wH_load1 (i := 11) (d := 15) (T := 2) (ad := (elA A1_0 1 (x26) 0)) (v := .int .i64 (x28)) (by kernel_rfl) (qT (qT qZ)) (by kernel_rfl) (by kernel_rfl) vt2 (fun W hW => Sl.cell (Z20.chg hW Dj.nil) hx29 0 (by rfl)) ?_
  refine wH_done (by kernel_rfl) ?_
  refine eX_tail ?_
  refine wS_pure 2 [(3, .bool (x24 == x28)), (16, .bool (x24 == x28))] (by kernel_rfl) ?_
  refine wS_end (by rfl) ?_
  refine eX_then ?_
  refine cW_ret ?_
  have hq : (some (x24 == x28) : Option ((Bool))) = some _ := hm
  replace hq := someE hq
  subst hq
  refine eX_ret (vs := [.bool (x24 == x28)]) [.tmp 3] (by rfl) ⟨by (show lkE _ _ _ = _); kernel_rfl, trivial⟩ ?_
  exact ⟨rfl, hB⟩

set_option maxRecDepth 100000 in
/-- slices.IndexFunc[[][]int64,[]int64] -/
theorem c_slices_IndexFunc_int64_int64_impl_IsLayering_1_bint64 {w0 : World} {l0 : List (List (Int))} {A0 : Option Addr} {cap0 : Nat} {fp0 : List Nat} {l1_0_0 : List (Int)} {A1_0_0 : Option Addr} {cap1_0_0 : Nat} {fp1_0_0 : List Nat} {b1_0 : Nat} {r : (Int)} (hm : m_slices_IndexFunc_int64_int64_impl_IsLayering_1_bint64 l0 l1_0_0 = some r) (F0 : SlR 1 encI w0 fp0 A0 l0) (F1_0_0 : Sl 1 encI w0 fp1_0_0 A1_0_0 l1_0_0) (F1_0 : Cl w0 b1_0 38 [.slice A1_0_0 (l1_0_0).length cap1_0_0]) :
    Calls Try.prog 125 #[.slice A0 (l0).length cap0, .func (.func 95) #[] #[.pointer (some ⟨b1_0, 0, none⟩)]] w0 fun e w' => e = .returned (.int .i64 (r)) ∧ Chg [] w0 w' := by
  have L0 := F0.low
  have L1_0_0 := F1_0_0.low
  have L1_0 := lt1 F1_0.lt
  have hB : Chg [] w0 w0 := Chg.refl _ _
  have hZ := Nat.le_refl w0.heap.size
  unfold m_slices_IndexFunc_int64_int64_impl_IsLayering_1_bint64 at hm
  refine enterE (N := 19) Try.func125 (by rfl) Try.ntmps125 (by simp) [(0, .slice A0 (l0).length cap0), (1, .func (.func 95) #[] #[.pointer (some ⟨b1_0, 0, none⟩)])] (by rfl) (by kernel_rfl) (fun a => ?_)
  refine cW_seq ?_
  refine cW_region ?_
  refine wS_pure 1 [(4, .int .i64 (0))] (by kernel_rfl) ?_
  refine wS_end (by rfl) ?_
  refine eX_then ?_
  refine cW_seq ?_
  refine cW_seq ?_
  refine cW_region ?_
  refine wS_pure 3 [(8, .int .i64 (0)), (7, .int .i64 (((l0).length : Int))), (6, .slice A0 (l0).length cap0)] (by kernel_rfl) ?_
  refine wS_end (by rfl) ?_
  refine eX_then ?_
  obtain ⟨r49, hr50, hm⟩ := bindE hm
  have hm51 := hm
  refine cW_cut (fun a' w' => Sum.inl (()) = r49 ∧ Fr 19 [] a' ∧ Chg [] w0 w' ∧ w0.heap.size ≤ w'.heap.size) ?_ ?_
  · refine cW_block ?_
    refine cW_loop _ (fun (s52 : Int) a' w' => ∃ x44 : Int, x44 = s52 ∧ Fr 19 [(0, .slice A0 (l0).length cap0), (1, .func (.func 95) #[] #[.pointer (some ⟨b1_0, 0, none⟩)]), (7, .int .i64 (((l0).length : Int))), (8, .int .i64 (x44))] a' ∧ SlR 1 encI w' fp0 A0 l0 ∧ Sl 1 encI w' fp1_0_0 A1_0_0 l1_0_0 ∧ Cl w' b1_0 38 [.slice A1_0_0 (l1_0_0).length cap1_0_0] ∧ Chg [] w0 w' ∧ w0.heap.size ≤ w'.heap.size) hr50 (fun hst => ⟨0, rfl, Fr.of hst (by kernel_rfl), F0, F1_0_0, F1_0, hB, hZ⟩) ?_
    rintro _ c53 a' w43 ⟨x44, rfl, hF45, F46, F47, F48, hB, hZ⟩ hx54
    refine Fr.goOn hF45 (by kernel_rfl) ?_
    have hm := hx54
    unfold m_slices_IndexFunc_int64_int64_impl_IsLayering_1_bint64_s1 at hm
    refine cW_seq ?_
    refine cW_region ?_
    refine wS_pure 1 [(9, .bool (decide (x44 < (((l0).length : Int)))))] (by kernel_rfl) ?_
    refine wS_end (by rfl) ?_
    refine eX_then ?_
    refine cW_seq ?_
    refine cW_cond (t := decide (x44 < (((l0).length : Int)))) (by kernel_rfl) (fun hb55 => ?_) (fun hb55 => ?_)
    · have hm := condT hb55 hm
      refine cW_skip ?_
      refine eX_then ?_
      refine cW_seq ?_
      refine cW_block ?_
      refine cW_seq ?_
      refine cW_region ?_
      refine wS_pure 2 [(5, .int .i64 (x44)), (10, .int .i64 (x44))] (by kernel_rfl) ?_
      refine wS_end (by rfl) ?_
      refine eX_then ?_
      refine cW_seq ?_
      refine cW_region ?_
      refine wS_pure 3 [(13, .int .i64 (x44)), (12, .slice A0 (l0).length cap0), (11, .func (.func 95) #[] #[.pointer (some ⟨b1_0, 0, none⟩)])] (by kernel_rfl) ?_
      obtain ⟨x56, hx57, hm⟩ := bindE hm
      refine wS_idx (d := 14) (T := 37) (A := A0) (n := (l0).length) (cap := cap0) (kd := .i64) (m := x44) (by kernel_rfl) sl37 (F46.is hx57) ?_
      obtain ⟨A58, cap59, hc61, F60, K62⟩ := SlR.row F46 hx57
      refine wS_load1 (d := 15) (T := 38) (ad := (elA A0 1 (x44) 0)) (v := .slice A58 (x56).length cap59) (by kernel_rfl) vt38 hc61 ?_
      obtain ⟨y64, hy65, hm⟩ := bindE hm
      refine wS_calls (d := 16) (f := 95) (vs := [.slice A58 (x56).length cap59, .pointer (some ⟨b1_0, 0, none⟩)]) (by kernel_rfl) ent95 (c_impl_IsLayering_1_bint64 hy65 F60 F47 F48) ?_
      rintro _ w66 ⟨rfl, hc67⟩
      replace F46 := F46.chg hc67 Dj.nil
      replace F47 := F47.chg hc67 Dj.nil
      replace F48 := F48.chg hc67 notNil
      replace F60 := F60.chg hc67 Dj.nil
      replace hB := hB.inS hc67 inNil
      replace hZ := Nat.le_trans hZ hc67.size
      refine ⟨.bool (y64), rfl, ?_⟩
      refine wS_end (by rfl) ?_
      refine eX_then ?_
      refine cW_cond (t := y64) (by kernel_rfl) (fun hb68 => ?_) (fun hb68 => ?_)
      · have hm := condT hb68 hm
        refine cW_seq ?_
        refine cW_region ?_
        refine wS_pure 2 [(4, .int .i64 (x44)), (17, .int .i64 (x44))] (by kernel_rfl) ?_
        refine wS_end (by rfl) ?_
        refine eX_then ?_
        refine cW_ret ?_
        refine eX_block_ret ?_
        refine eX_then_ret ?_
        have hq : (some (Ctl.out (Sum.inr x44)) : Option (Ctl (Int) (Sum (Unit) ((Int))))) = some _ := hm
        replace hq := someE hq
        subst hq
        refine eX_outR hx54 (fun hr => ?_)
        subst hr
        refine eX_block_ret ?_
        refine eX_then_ret ?_
        refine eX_then_ret ?_
        have hq : (some x44 : Option ((Int))) = some _ := hm51
        replace hq := someE hq
        subst hq
        refine eX_ret (vs := [.int .i64 (x44)]) [.tmp 4] (by rfl) ⟨by (show lkE _ _ _ = _); kernel_rfl, trivial⟩ ?_
        exact ⟨rfl, hB⟩
      · have hm := condF hb68 hm
        refine cW_skip ?_
        refine eX_block ?_
        refine eX_then ?_
        refine cW_region ?_
        refine wS_pure 2 [(8, .int .i64 (wr (x44 + 1))), (18, .int .i64 (wr (x44 + 1)))] (by kernel_rfl) ?_
        refine wS_end (by rfl) ?_
        have hq : (some (Ctl.next (wr (x44 + 1))) : Option (Ctl (Int) (Sum (Unit) ((Int))))) = some _ := hm
        replace hq := someE hq
        subst hq
        exact eX_next hx54 (fun hst => ⟨wr (x44 + 1), rfl, Fr.of hst (by kernel_rfl), F46, F47, F48, hB, hZ⟩)
    · have hm := condF hb55 hm
      refine cW_exit ?_
      refine eX_then_exit ?_
      have hq : (some (Ctl.out (Sum.inl (()))) : Option (Ctl (Int) (Sum (Unit) ((Int))))) = some _ := hm
      replace hq := someE hq
      subst hq
      refine eX_outX hx54 (fun hr69 => ?_)
      replace hr69 := hr69.symm
      subst hr69
      refine eX_block_hit ?_
      exact eX_J (fun hst => ⟨rfl, Fr.of hst (by kernel_rfl), hB, hZ⟩)
  · rintro a' w41 ⟨hJ, hF42, hB, hZ⟩
    subst hJ
    refine Fr.goX hF42 (by kernel_rfl) ?_
    refine eX_then ?_
    refine cW_seq ?_
    refine cW_region ?_
    refine wS_pure 1 [(4, .int .i64 ((-1)))] (by kernel_rfl) ?_
    refine wS_end (by rfl) ?_
    refine eX_then ?_
    refine cW_ret ?_
    have hq : (some ((-1)) : Option ((Int))) = some _ := hm
    replace hq := someE hq
    subst hq
    refine eX_ret (vs := [.int .i64 ((-1))]) [.tmp 4] (by rfl) ⟨by (show lkE _ _ _ = _); kernel_rfl, trivial⟩ ?_
    exact ⟨rfl, hB⟩

set_option maxRecDepth 100000 in
/-- slices.ContainsFunc[[][]int64,[]int64] -/
theorem c_slices_ContainsFunc_int64_int64_impl_IsLayering_1_bint64 {w0 : World} {l0 : List (List (Int))} {A0 : Option Addr} {cap0 : Nat} {fp0 : List Nat} {l1_0_0 : List (Int)} {A1_0_0 : Option Addr} {cap1_0_0 : Nat} {fp1_0_0 : List Nat} {b1_0 : Nat} {r : (Bool)} (hm : m_slices_ContainsFunc_int64_int64_impl_IsLayering_1_bint64 l0 l1_0_0 = some r) (F0 : SlR 1 encI w0 fp0 A0 l0) (F1_0_0 : Sl 1 encI w0 fp1_0_0 A1_0_0 l1_0_0) (F1_0 : Cl w0 b1_0 38 [.slice A1_0_0 (l1_0_0).length cap1_0_0]) :
    Calls Try.prog 85 #[.slice A0 (l0).length cap0, .func (.func 95) #[] #[.pointer (some ⟨b1_0, 0, none⟩)]] w0 fun e w' => e = .returned (.bool (r)) ∧ Chg [] w0 w' := by
  have L0 := F0.low
  have L1_0_0 := F1_0_0.low
  have L1_0 := lt1 F1_0.lt
  have hB : Chg [] w0 w0 := Chg.refl _ _
  have hZ := Nat.le_refl w0.heap.size
  unfold m_slices_ContainsFunc_int64_int64_impl_IsLayering_1_bint64 at hm
  refine enterE (N := 9) Try.func85 (by rfl) Try.ntmps85 (by simp) [(0, .slice A0 (l0).length cap0), (1, .func (.func 95) #[] #[.pointer (some ⟨b1_0, 0, none⟩)])] (by rfl) (by kernel_rfl) (fun a => ?_)
  refine cW_seq ?_
  refine cW_region ?_
  refine wS_pure 1 [(4, .bool (false))] (by kernel_rfl) ?_
  refine wS_end (by rfl) ?_
  refine eX_then ?_
  refine cW_seq ?_
  refine cW_region ?_
  refine wS_pure 2 [(6, .func (.func 95) #[] #[.pointer (some ⟨b1_0, 0, none⟩)]), (5, .slice A0 (l0).length cap0)] (by kernel_rfl) ?_
  obtain ⟨y4, hy5, hm⟩ := bindE hm
  refine wS_calls (d := 7) (f := 125) (vs := [.slice A0 (l0).length cap0, .func (.func 95) #[] #[.pointer (some ⟨b1_0, 0, none⟩)]]) (by kernel_rfl) ent125 (c_slices_IndexFunc_int64_int64_impl_IsLayering_1_bint64 hy5 F0 F1_0_0 F1_0) ?_
  rintro _ w6 ⟨rfl, hc7⟩
  replace F0 := F0.chg hc7 Dj.nil
  replace F1_0_0 := F1_0_0.chg hc7 Dj.nil
  replace F1_0 := F1_0.chg hc7 notNil
  replace hB := hB.inS hc7 inNil
  replace hZ := Nat.le_trans hZ hc7.size
  refine ⟨.int .i64 (y4), rfl, ?_⟩
  refine wS_pure 2 [(4, .bool (decide (y4 ≥ 0))), (8, .bool (decide (y4 ≥ 0)))] (by kernel_rfl) ?_
  refine wS_end (by rfl) ?_
  refine eX_then ?_
  refine cW_ret ?_
  have hq : (some (decide (y4 ≥ 0)) : Option ((Bool))) = some _ := hm
  replace hq := someE hq
  subst hq
  refine eX_ret (vs := [.bool (decide (y4 ≥ 0))]) [.tmp 4] (by rfl) ⟨by (show lkE _ _ _ = _); kernel_rfl, trivial⟩ ?_
  exact ⟨rfl, hB⟩

set_option maxRecDepth 100000 in
/-- impl.IsLayering -/
theorem c_impl_IsLayering {w0 : World} {p0_0 : Int} {l0_1 : List (List (Int))} {A0_1 : Option Addr} {cap0_1 : Nat} {fp0_1 : List Nat} {l0_2 : List (List (Int))} {A0_2 : Option Addr} {cap0_2 : Nat} {fp0_2 : List Nat} {l0_3 : List (Int)} {A0_3 : Option Addr} {cap0_3 : Nat} {fp0_3 : List Nat} {l1 : List (Int)} {A1 : Option Addr} {cap1 : Nat} {fp1 : List Nat} {r : (Bool)} (hm : m_impl_IsLayering p0_0 l0_1 l0_2 l0_3 l1 = some r) (F0_1 : SlR 1 encI w0 fp0_1 A0_1 l0_1) (F0_2 : SlR 1 encI w0 fp0_2 A0_2 l0_2) (F0_3 : Sl 1 encI w0 fp0_3 A0_3 l0_3) (F1 : Sl 1 encI w0 fp1 A1 l1) :
    Calls Try.prog 35 #[.agg #[.int .i64 (p0_0), .slice A0_1 (l0_1).length cap0_1, .slice A0_2 (l0_2).length cap0_2, .slice A0_3 (l0_3).length cap0_3], .slice A1 (l1).length cap1] w0 fun e w' => e = .returned (.bool (r)) ∧ Chg [] w0 w' := by
  have L0_1 := F0_1.low
  have L0_2 := F0_2.low
  have L0_3 := F0_3.low
  have L1 := F1.low
  have hB : Chg [] w0 w0 := Chg.refl _ _
  have hZ := Nat.le_refl w0.heap.size
  unfold m_impl_IsLayering at hm
  refine enterE (N := 50) Try.func35 (by rfl) Try.ntmps35 (by simp) [(0, .agg #[.int .i64 (p0_0), .slice A0_1 (l0_1).length cap0_1, .slice A0_2 (l0_2).length cap0_2, .slice A0_3 (l0_3).length cap0_3]), (1, .slice A1 (l1).length cap1)] (by rfl) (by kernel_rfl) (fun a => ?_)
  refine cW_seq ?_
  refine cW_region ?_
  refine wS_box (d := 2) (T := 43) (x := .agg #[.int .i64 (p0_0), .slice A0_1 (l0_1).length cap0_1, .slice A0_2 (l0_2).length cap0_2, .slice A0_3 (l0_3).length cap0_3]) (by kernel_rfl) ?_
  intro b5 w6 G7 F8 hc9
  replace F8 : Cl w6 b5 43 [.int .i64 (p0_0), .slice A0_1 (l0_1).length cap0_1, .slice A0_2 (l0_2).length cap0_2, .slice A0_3 (l0_3).length cap0_3] := F8
  replace F0_1 := F0_1.chg hc9 Dj.nil
  replace F0_2 := F0_2.chg hc9 Dj.nil
  replace F0_3 := F0_3.chg hc9 Dj.nil
  replace F1 := F1.chg hc9 Dj.nil
  replace hB := hB.inS hc9 inNil
  replace G7 := Nat.le_trans hZ G7
  replace hZ := Nat.le_trans hZ hc9.size
  refine wS_box (d := 3) (T := 38) (x := .slice A1 (l1).length cap1) (by kernel_rfl) ?_
  intro b11 w12 G13 F14 hc15
  replace F14 : Cl w12 b11 38 [.slice A1 (l1).length cap1] := F14
  have D17 : Dj [b5] [b11] := Dj.of (lt1 F8.lt) (low1 G13)
  replace F0_1 := F0_1.chg hc15 Dj.nil
  replace F0_2 := F0_2.chg hc15 Dj.nil
  replace F0_3 := F0_3.chg hc15 Dj.nil
  replace F1 := F1.chg hc15 Dj.nil
  replace F8 := F8.chg hc15 notNil
  replace hB := hB.inS hc15 inNil
  replace G13 := Nat.le_trans hZ G13
  replace hZ := Nat.le_trans hZ hc15.size
  refine wS_pure 1 [(4, .bool (false))] (by kernel_rfl) ?_
  refine wS_end (by rfl) ?_
  refine eX_then ?_
  refine cW_seq ?_
  refine cW_seq ?_
  refine cW_region ?_
  refine wS_loadA (d := 7) (T := 43) (ad := ⟨b5, 0, none⟩) (vs := [.int .i64 (p0_0), .slice A0_1 (l0_1).length cap0_1, .slice A0_2 (l0_2).length cap0_2, .slice A0_3 (l0_3).length cap0_3]) (by kernel_rfl) vt43 (fun i u hu => box_cells F8 0 hu (by rfl)) ?_
  obtain ⟨y18, hy19, hm⟩ := bindE hm
  refine wS_calls (d := 8) (f := 27) (vs := [.agg #[.int .i64 (p0_0), .slice A0_1 (l0_1).length cap0_1, .slice A0_2 (l0_2).length cap0_2, .slice A0_3 (l0_3).length cap0_3]]) (by kernel_rfl) ent27 (c_impl_ValidWiring hy19 F0_1 F0_2 F0_3) ?_
  rintro _ w20 ⟨rfl, hc21⟩
  replace F0_1 := F0_1.chg hc21 Dj.nil
  replace F0_2 := F0_2.chg hc21 Dj.nil
  replace F0_3 := F0_3.chg hc21 Dj.nil
  replace F1 := F1.chg hc21 Dj.nil
  replace F8 := F8.chg hc21 notNil
  replace F14 := F14.chg hc21 notNil
  replace hB := hB.inS hc21 inNil
  replace hZ := Nat.le_trans hZ hc21.size
  refine ⟨.bool (y18), rfl, ?_⟩
  refine wS_pure 2 [(10, .bool (!y18)), (9, .bool (!y18))] (by kernel_rfl) ?_
  refine wS_bool (!y18) (fun hb22 => ?_) (fun hb22 => ?_)
  · have hm := condT hb22 hm
    rewrite [hb22]
    refine wS_pure 6 [(16, .bool (true)), (15, undef), (14, undef), (13, undef), (12, undef), (11, undef)] (by kernel_rfl) ?_
    refine wS_end (by rfl) ?_
    refine eX_then ?_
    refine cW_cond_t (by kernel_rfl) ?_
    refine cW_seq ?_
    refine cW_region ?_
    refine wS_pure 1 [(4, .bool (false))] (by kernel_rfl) ?_
    refine wS_end (by rfl) ?_
    refine eX_then ?_
    refine cW_ret ?_
    refine eX_then_ret ?_
    have hq : (some false : Option ((Bool))) = some _ := hm
    replace hq := someE hq
    subst hq
    refine eX_ret (vs := [.bool (false)]) [.tmp 4] (by rfl) ⟨by (show lkE _ _ _ = _); kernel_rfl, trivial⟩ ?_
    exact ⟨rfl, hB⟩
  · have hm := condF hb22 hm
    rewrite [hb22]
    refine wS_load1 (d := 11) (T := 38) (ad := ⟨b11, 0, none⟩) (v := .slice A1 (l1).length cap1) (by kernel_rfl) vt38 ((F14).cell 0) ?_
    refine wS_pure 2 [(13, .pointer (some ⟨b5, 0, none⟩)), (12, .int .i64 (((l1).length : Int)))] (by kernel_rfl) ?_
    refine wS_load1 (d := 14) (T := 2) (ad := ⟨b5, 0, none⟩) (v := .int .i64 (p0_0)) (by kernel_rfl) vt2 ((F8).cell 0) ?_
    refine wS_pure 2 [(16, .bool ((((l1).length : Int)) != p0_0)), (15, .bool ((((l1).length : Int)) != p0_0))] (by kernel_rfl) ?_
    refine wS_end (by rfl) ?_
    refine eX_then ?_
    refine cW_cond (t := (((l1).length : Int)) != p0_0) (by kernel_rfl) (fun hb23 => ?_) (fun hb23 => ?_)
    · have hm := condT hb23 hm
      refine cW_seq ?_
      refine cW_region ?_
      refine wS_pure 1 [(4, .bool (false))] (by kernel_rfl) ?_
      refine wS_end (by rfl) ?_
      refine eX_then ?_
      refine cW_ret ?_
      refine eX_then_ret ?_
      have hq : (some false : Option ((Bool))) = some _ := hm
      replace hq := someE hq
      subst hq
      refine eX_ret (vs := [.bool (false)]) [.tmp 4] (by rfl) ⟨by (show lkE _ _ _ = _); kernel_rfl, trivial⟩ ?_
      exact ⟨rfl, hB⟩
    · have hm := condF hb23 hm
      refine cW_skip ?_
      refine eX_then ?_
      refine cW_seq ?_
      refine cW_seq ?_
      refine cW_region ?_
      refine wS_load1 (d := 17) (T := 38) (ad := ⟨b11, 0, none⟩) (v := .slice A1 (l1).length cap1) (by kernel_rfl) vt38 ((F14).cell 0) ?_
      refine wS_pure 2 [(19, .int .i64 (0)), (18, .int .i64 (((l1).length : Int)))] (by kernel_rfl) ?_
      refine wS_end (by rfl) ?_
      refine eX_then ?_
      obtain ⟨r90, hr91, hm⟩ := bindE hm
      have hm92 := hm
      refine cW_cut (fun a' w' => Sum.inl (()) = r90 ∧ Fr 50 [(2, .pointer (some ⟨b5, 0, none⟩)), (3, .pointer (some ⟨b11, 0, none⟩))] a' ∧ SlR 1 encI w' fp0_1 A0_1 l0_1 ∧ SlR 1 encI w' fp0_2 A0_2 l0_2 ∧ Sl 1 encI w' fp0_3 A0_3 l0_3 ∧ Sl 1 encI w' fp1 A1 l1 ∧ Cl w' b5 43 [.int .i64 (p0_0), .slice A0_1 (l0_1).length cap0_1, .slice A0_2 (l0_2).length cap0_2, .slice A0_3 (l0_3).length cap0_3] ∧ Cl w' b11 38 [.slice A1 (l1).length cap1] ∧ Chg [] w0 w' ∧ w0.heap.size ≤ w'.heap.size) ?_ ?_
      · refine cW_block ?_
        refine cW_loop _ (fun (s93 : Int) a' w' => ∃ x82 : Int, x82 = s93 ∧ Fr 50 [(2, .pointer (some ⟨b5, 0, none⟩)), (3, .pointer (some ⟨b11, 0, none⟩)), (17, .slice A1 (l1).length cap1), (18, .int .i64 (((l1).length : Int))), (19, .int .i64 (x82))] a' ∧ SlR 1 encI w' fp0_1 A0_1 l0_1 ∧ SlR 1 encI w' fp0_2 A0_2 l0_2 ∧ Sl 1 encI w' fp0_3 A0_3 l0_3 ∧ Sl 1 encI w' fp1 A1 l1 ∧ Cl w' b5 43 [.int .i64 (p0_0), .slice A0_1 (l0_1).length cap0_1, .slice A0_2 (l0_2).length cap0_2, .slice A0_3 (l0_3).length cap0_3] ∧ Cl w' b11 38 [.slice A1 (l1).length cap1] ∧ Chg [] w0 w' ∧ w0.heap.size ≤ w'.heap.size) hr91 (fun hst => ⟨0, rfl, Fr.of hst (by kernel_rfl), F0_1, F0_2, F0_3, F1, F8, F14, hB, hZ⟩) ?_
        rintro _ c94 a' w81 ⟨x82, rfl, hF83, F84, F85, F86, F87, F88, F89, hB, hZ⟩ hx95
        refine Fr.goOn hF83 (by kernel_rfl) ?_
        have hm := hx95
        unfold m_impl_IsLayering_s1 at hm
        refine cW_seq ?_
        refine cW_region ?_
        refine wS_pure 1 [(20, .bool (decide (x82 < (((l1).length : Int)))))] (by kernel_rfl) ?_
        refine wS_end (by rfl) ?_
        refine eX_then ?_
        refine cW_seq ?_
        refine cW_cond (t := decide (x82 < (((l1).length : Int)))) (by kernel_rfl) (fun hb96 => ?_) (fun hb96 => ?_)
        · have hm := condT hb96 hm
          refine cW_skip ?_
          refine eX_then ?_
          refine cW_seq ?_
          refine cW_block ?_
          refine cW_seq ?_
          refine cW_region ?_
          refine wS_pure 1 [(21, .int .i64 (x82))] (by kernel_rfl) ?_
          obtain ⟨x97, hx98, hm⟩ := bindE hm
          refine wS_idx (d := 22) (T := 38) (A := A1) (n := (l1).length) (cap := cap1) (kd := .i64) (m := x82) (by kernel_rfl) sl38 (F87.is hx98) ?_
          refine wS_load1 (d := 23) (T := 2) (ad := (elA A1 1 (x82) 0)) (v := .int .i64 (x97)) (by kernel_rfl) vt2 (Sl.cell F87 hx98 0 (by rfl)) ?_
          refine wS_pure 2 [(6, .int .i64 (x97)), (5, .int .i64 (x82))] (by kernel_rfl) ?_
          refine wS_end (by rfl) ?_
          refine eX_then ?_
          refine cW_seq ?_
          refine cW_region ?_
          refine wS_pure 1 [(24, .int .i64 (x97))] (by kernel_rfl) ?_
          obtain ⟨y99, hy100, hm⟩ := bindE hm
          refine wS_calls (d := 25) (f := 77) (vs := [.int .i64 (x97), .int .i64 (0), .int .i64 (1)]) (by kernel_rfl) ent77 (c_impl_in hy100) ?_
          rintro _ w101 ⟨rfl, hc102⟩
          replace F84 := F84.chg hc102 Dj.nil
          replace F85 := F85.chg hc102 Dj.nil
          replace F86 := F86.chg hc102 Dj.nil
          replace F87 := F87.chg hc102 Dj.nil
          replace F88 := F88.chg hc102 notNil
          replace F89 := F89.chg hc102 notNil
          replace hB := hB.inS hc102 inNil
          replace hZ := Nat.le_trans hZ hc102.size
          refine ⟨.bool (y99), rfl, ?_⟩
          refine wS_pure 2 [(27, .bool (!y99)), (26, .bool (!y99))] (by kernel_rfl) ?_
          refine wS_bool (!y99) (fun hb103 => ?_) (fun hb103 => ?_)
          · have hm := condT hb103 hm
            rewrite [hb103]
            refine wS_pure 16 [(43, .bool (true)), (42, undef), (41, undef), (40, undef), (39, undef), (38, undef), (37, undef), (36, undef), (35, undef), (34, undef), (33, undef), (32, undef), (31, undef), (30, undef), (29, undef), (28, undef)] (by kernel_rfl) ?_
            refine wS_end (by rfl) ?_
            refine eX_then ?_
            refine cW_prune [(2, .pointer (some ⟨b5, 0, none⟩)), (3, .pointer (some ⟨b11, 0, none⟩)), (17, .slice A1 (l1).length cap1), (18, .int .i64 (((l1).length : Int))), (19, .int .i64 (x82)), (43, .bool (true))] (by kernel_rfl) (by kernel_rfl) (fun a104 => ?_)
            refine cW_cond_t (by kernel_rfl) ?_
            refine cW_seq ?_
            refine cW_region ?_
            refine wS_pure 1 [(4, .bool (false))] (by kernel_rfl) ?_
            refine wS_end (by rfl) ?_
            refine eX_then ?_
            refine cW_ret ?_
            refine eX_block_ret ?_
            refine eX_then_ret ?_
            have hq : (some (Ctl.out (Sum.inr false)) : Option (Ctl (Int) (Sum (Unit) ((Bool))))) = some _ := hm
            replace hq := someE hq
            subst hq
            refine eX_outR hx95 (fun hr => ?_)
            subst hr
            refine eX_block_ret ?_
            refine eX_then_ret ?_
            refine eX_then_ret ?_
            have hq : (some false : Option ((Bool))) = some _ := hm92
            replace hq := someE hq
            subst hq
            refine eX_ret (vs := [.bool (false)]) [.tmp 4] (by rfl) ⟨by (show lkE _ _ _ = _); kernel_rfl, trivial⟩ ?_
            exact ⟨rfl, hB⟩
          · have hm := condF hb103 hm
            rewrite [hb103]
            refine wS_pure 1 [(28, .pointer (some ⟨b5, 3, none⟩))] (by kernel_rfl) ?_
            refine wS_load1 (d := 29) (T := 38) (ad := ⟨b5, 3, none⟩) (v := .slice A0_3 (l0_3).length cap0_3) (by kernel_rfl) vt38 ((F88).cell 3) ?_
            refine wS_pure 1 [(30, .int .i64 (x82))] (by kernel_rfl) ?_
            obtain ⟨x105, hx106, hm⟩ := bindE hm
            refine wS_idx (d := 31) (T := 38) (A := A0_3) (n := (l0_3).length) (cap := cap0_3) (kd := .i64) (m := x82) (by kernel_rfl) sl38 (F86.is hx106) ?_
            refine wS_load1 (d := 32) (T := 2) (ad := (elA A0_3 1 (x82) 0)) (v := .int .i64 (x105)) (by kernel_rfl) vt2 (Sl.cell F86 hx106 0 (by rfl)) ?_
            refine wS_pure 2 [(34, .bool (decide (x105 ≥ 0))), (33, .bool (decide (x105 ≥ 0)))] (by kernel_rfl) ?_
            refine wS_bool (decide (x105 ≥ 0)) (fun hb107 => ?_) (fun hb107 => ?_)
            · have hm := condT hb107 hm
              rewrite [hb107]
              refine wS_pure 1 [(35, .pointer (some ⟨b5, 3, none⟩))] (by kernel_rfl) ?_
              refine wS_load1 (d := 36) (T := 38) (ad := ⟨b5, 3, none⟩) (v := .slice A0_3 (l0_3).length cap0_3) (by kernel_rfl) vt38 ((F88).cell 3) ?_
              refine wS_pure 1 [(37, .int .i64 (x82))] (by kernel_rfl) ?_
              obtain ⟨x108, hx109, hm⟩ := bindE hm
              refine wS_idx (d := 38) (T := 38) (A := A0_3) (n := (l0_3).length) (cap := cap0_3) (kd := .i64) (m := x82) (by kernel_rfl) sl38 (F86.is hx109) ?_
              refine wS_load1 (d := 39) (T := 2) (ad := (elA A0_3 1 (x82) 0)) (v := .int .i64 (x108)) (by kernel_rfl) vt2 (Sl.cell F86 hx109 0 (by rfl)) ?_
              refine wS_pure 4 [(43, .bool (x108 != x97)), (42, .bool (x108 != x97)), (41, .bool (x108 != x97)), (40, .int .i64 (x97))] (by kernel_rfl) ?_
              refine wS_end (by rfl) ?_
              refine eX_then ?_
              refine cW_prune [(2, .pointer (some ⟨b5, 0, none⟩)), (3, .pointer (some ⟨b11, 0, none⟩)), (17, .slice A1 (l1).length cap1), (18, .int .i64 (((l1).length : Int))), (19, .int .i64 (x82)), (43, .bool (x108 != x97))] (by kernel_rfl) (by kernel_rfl) (fun a110 => ?_)
              refine cW_cond (t := x108 != x97) (by kernel_rfl) (fun hb111 => ?_) (fun hb111 => ?_)
              · have hm := condT hb111 hm
                refine cW_seq ?_
                refine cW_region ?_
                refine wS_pure 1 [(4, .bool (false))] (by kernel_rfl) ?_
                refine wS_end (by rfl) ?_
                refine eX_then ?_
                refine cW_ret ?_
                refine eX_block_ret ?_
                refine eX_then_ret ?_
                have hq : (some (Ctl.out (Sum.inr false)) : Option (Ctl (Int) (Sum (Unit) ((Bool))))) = some _ := hm
                replace hq := someE hq
                subst hq
                refine eX_outR hx95 (fun hr => ?_)
                subst hr
                refine eX_block_ret ?_
                refine eX_then_ret ?_
                refine eX_then_ret ?_
                have hq : (some false : Option ((Bool))) = some _ := hm92
                replace hq := someE hq
                subst hq
                refine eX_ret (vs := [.bool (false)]) [.tmp 4] (by rfl) ⟨by (show lkE _ _ _ = _); kernel_rfl, trivial⟩ ?_
                exact ⟨rfl, hB⟩
              · have hm := condF hb111 hm
                refine cW_skip ?_
                refine eX_block ?_
                refine eX_then ?_
                refine cW_region ?_
                refine wS_pure 2 [(19, .int .i64 (wr (x82 + 1))), (44, .int .i64 (wr (x82 + 1)))] (by kernel_rfl) ?_
                refine wS_end (by rfl) ?_
                have hq : (some (Ctl.next (wr (x82 + 1))) : Option (Ctl (Int) (Sum (Unit) ((Bool))))) = some _ := hm
                replace hq := someE hq
                subst hq
                exact eX_next hx95 (fun hst => ⟨wr (x82 + 1), rfl, Fr.of hst (by kernel_rfl), F84, F85, F86, F87, F88, F89, hB, hZ⟩)
            · have hm := condF hb107 hm
              rewrite [hb107]
              refine wS_pure 9 [(43, .bool (false)), (42, .bool (false)), (41, undef), (40, undef), (39, undef), (38, undef), (37, undef), (36, undef), (35, undef)] (by kernel_rfl) ?_
              refine wS_end (by rfl) ?_
              refine eX_then ?_
              refine cW_prune [(2, .pointer (some ⟨b5, 0, none⟩)), (3, .pointer (some ⟨b11, 0, none⟩)), (17, .slice A1 (l1).length cap1), (18, .int .i64 (((l1).length : Int))), (19, .int .i64 (x82)), (43, .bool (false))] (by kernel_rfl) (by kernel_rfl) (fun a112 => ?_)
              refine cW_cond_f (by kernel_rfl) ?_
              refine cW_skip ?_
              refine eX_block ?_
              refine eX_then ?_
              refine cW_region ?_
              refine wS_pure 2 [(19, .int .i64 (wr (x82 + 1))), (44, .int .i64 (wr (x82 + 1)))] (by kernel_rfl) ?_
              refine wS_end (by rfl) ?_
              have hq : (some (Ctl.next (wr (x82 + 1))) : Option (Ctl (Int) (Sum (Unit) ((Bool))))) = some _ := hm
              replace hq := someE hq
              subst hq
              exact eX_next hx95 (fun hst => ⟨wr (x82 + 1), rfl, Fr.of hst (by kernel_rfl), F84, F85, F86, F87, F88, F89, hB, hZ⟩)
        · have hm := condF hb96 hm
          refine cW_exit ?_
          refine eX_then_exit ?_
          have hq : (some (Ctl.out (Sum.inl (()))) : Option (Ctl (Int) (Sum (Unit) ((Bool))))) = some _ := hm
          replace hq := someE hq
          subst hq
          refine eX_outX hx95 (fun hr113 => ?_)
          replace hr113 := hr113.symm
          subst hr113
          refine eX_block_hit ?_
          exact eX_J (fun hst => ⟨rfl, Fr.of hst (by kernel_rfl), F84, F85, F86, F87, F88, F89, hB, hZ⟩)
      · rintro a' w73 ⟨hJ, hF74, F75, F76, F77, F78, F79, F80, hB, hZ⟩
        subst hJ
        refine Fr.goX hF74 (by kernel_rfl) ?_
        refine eX_then ?_
        refine cW_seq ?_
        refine cW_region ?_
        refine wS_pure 1 [(45, .pointer (some ⟨b5, 1, none⟩))] (by kernel_rfl) ?_
        refine wS_load1 (d := 46) (T := 37) (ad := ⟨b5, 1, none⟩) (v := .slice A0_1 (l0_1).length cap0_1) (by kernel_rfl) vt37 ((F79).cell 1) ?_
        refine wS_pure 1 [(47, .func (.func 95) #[] #[.pointer (some ⟨b11, 0, none⟩)])] (by kernel_rfl) ?_
        obtain ⟨y114, hy115, hm⟩ := bindE hm
        refine wS_calls (d := 48) (f := 85) (vs := [.slice A0_1 (l0_1).length cap0_1, .func (.func 95) #[] #[.pointer (some ⟨b11, 0, none⟩)]]) (by kernel_rfl) ent85 (c_slices_ContainsFunc_int64_int64_impl_IsLayering_1_bint64 hy115 F75 F78 F80) ?_
        rintro _ w116 ⟨rfl, hc117⟩
        replace F75 := F75.chg hc117 Dj.nil
        replace F76 := F76.chg hc117 Dj.nil
        replace F77 := F77.chg hc117 Dj.nil
        replace F78 := F78.chg hc117 Dj.nil
        replace F79 := F79.chg hc117 notNil
        replace F80 := F80.chg hc117 notNil
        replace hB := hB.inS hc117 inNil
        replace hZ := Nat.le_trans hZ hc117.size
        refine ⟨.bool (y114), rfl, ?_⟩
        refine wS_pure 2 [(4, .bool (!y114)), (49, .bool (!y114))] (by kernel_rfl) ?_
        refine wS_end (by rfl) ?_
        refine eX_then ?_
        refine cW_ret ?_
        have hq : (some (!y114) : Option ((Bool))) = some _ := hm
        replace hq := someE hq
        subst hq
        refine eX_ret (vs := [.bool (!y114)]) [.tmp 4] (by rfl) ⟨by (show lkE _ _ _ = _); kernel_rfl, trivial⟩ ?_
        exact ⟨rfl, hB⟩

set_option maxRecDepth 100000 in
/-- spec.IsLayering -/
theorem c_spec_IsLayering {w0 : World} {p0_0 : Int} {l0_1 : List (List (Int))} {A0_1 : Option Addr} {cap0_1 : Nat} {fp0_1 : List Nat} {l0_2 : List (List (Int))} {A0_2 : Option Addr} {cap0_2 : Nat} {fp0_2 : List Nat} {l0_3 : List (Int)} {A0_3 : Option Addr} {cap0_3 : Nat} {fp0_3 : List Nat} {l1 : List (Int)} {A1 : Option Addr} {cap1 : Nat} {fp1 : List Nat} {r : (Bool)} (hm : m_spec_IsLayering p0_0 l0_1 l0_2 l0_3 l1 = some r) (F0_1 : SlR 1 encI w0 fp0_1 A0_1 l0_1) (F0_2 : SlR 1 encI w0 fp0_2 A0_2 l0_2) (F0_3 : Sl 1 encI w0 fp0_3 A0_3 l0_3) (F1 : Sl 1 encI w0 fp1 A1 l1) :
    Calls Try.prog 46 #[.agg #[.int .i64 (p0_0), .slice A0_1 (l0_1).length cap0_1, .slice A0_2 (l0_2).length cap0_2, .slice A0_3 (l0_3).length cap0_3], .slice A1 (l1).length cap1] w0 fun e w' => e = .returned (.bool (r)) ∧ Chg [] w0 w' := by
  have L0_1 := F0_1.low
  have L0_2 := F0_2.low
  have L0_3 := F0_3.low
  have L1 := F1.low
  have hB : Chg [] w0 w0 := Chg.refl _ _
  have hZ := Nat.le_refl w0.heap.size
  unfold m_spec_IsLayering at hm
  refine enterE (N := 10) Try.func46 (by rfl) Try.ntmps46 (by simp) [(0, .agg #[.int .i64 (p0_0), .slice A0_1 (l0_1).length cap0_1, .slice A0_2 (l0_2).length cap0_2, .slice A0_3 (l0_3).length cap0_3]), (1, .slice A1 (l1).length cap1)] (by rfl) (by kernel_rfl) (fun a => ?_)
  refine cW_seq ?_
  refine cW_region ?_
  refine wS_box (d := 2) (T := 43) (x := .agg #[.int .i64 (p0_0), .slice A0_1 (l0_1).length cap0_1, .slice A0_2 (l0_2).length cap0_2, .slice A0_3 (l0_3).length cap0_3]) (by kernel_rfl) ?_
  intro b5 w6 G7 F8 hc9
  replace F8 : Cl w6 b5 43 [.int .i64 (p0_0), .slice A0_1 (l0_1).length cap0_1, .slice A0_2 (l0_2).length cap0_2, .slice A0_3 (l0_3).length cap0_3] := F8
  replace F0_1 := F0_1.chg hc9 Dj.nil
  replace F0_2 := F0_2.chg hc9 Dj.nil
  replace F0_3 := F0_3.chg hc9 Dj.nil
  replace F1 := F1.chg hc9 Dj.nil
  replace hB := hB.inS hc9 inNil
  replace G7 := Nat.le_trans hZ G7
  replace hZ := Nat.le_trans hZ hc9.size
  refine wS_pure 1 [(4, .bool (false))] (by kernel_rfl) ?_
  refine wS_end (by rfl) ?_
  refine eX_then ?_
  refine cW_seq ?_
  refine cW_region ?_
  obtain ⟨y11, hy12, hm⟩ := bindE hm
  refine wS_calls (d := 5) (f := 82) (vs := [.pointer (some ⟨b5, 0, none⟩)]) (by kernel_rfl) ent82 (c_spec_l07Is_bimplWiring hy12 F0_1 F0_2 F0_3 F8) ?_
  rintro _ w13 ⟨rfl, hc14⟩
  replace F0_1 := F0_1.chg hc14 Dj.nil
  replace F0_2 := F0_2.chg hc14 Dj.nil
  replace F0_3 := F0_3.chg hc14 Dj.nil
  replace F1 := F1.chg hc14 Dj.nil
  replace F8 := F8.chg hc14 notNil
  replace hB := hB.inS hc14 inNil
  replace hZ := Nat.le_trans hZ hc14.size
  refine ⟨.bool (y11), rfl, ?_⟩
  refine wS_pure 1 [(6, .bool (y11))] (by kernel_rfl) ?_
  refine wS_bool y11 (fun hb15 => ?_) (fun hb15 => ?_)
  · have hm := condT hb15 hm
    rewrite [hb15]
    refine wS_pure 1 [(7, .slice A1 (l1).length cap1)] (by kernel_rfl) ?_
    obtain ⟨y16, hy17, hm⟩ := bindE hm
    refine wS_calls (d := 8) (f := 93) (vs := [.pointer (some ⟨b5, 0, none⟩), .slice A1 (l1).length cap1]) (by kernel_rfl) ent93 (c_spec_l07Layering_bimplWiring hy17 F0_1 F0_2 F0_3 F8 F1) ?_
    rintro _ w18 ⟨rfl, hc19⟩
    replace F0_1 := F0_1.chg hc19 Dj.nil
    replace F0_2 := F0_2.chg hc19 Dj.nil
    replace F0_3 := F0_3.chg hc19 Dj.nil
    replace F1 := F1.chg hc19 Dj.nil
    replace F8 := F8.chg hc19 notNil
    replace hB := hB.inS hc19 inNil
    replace hZ := Nat.le_trans hZ hc19.size
    refine ⟨.bool (y16), rfl, ?_⟩
    refine wS_pure 2 [(4, .bool (y16)), (9, .bool (y16))] (by kernel_rfl) ?_
    refine wS_end (by rfl) ?_
    refine eX_then ?_
    refine cW_ret ?_
    have hq : (some y16 : Option ((Bool))) = some _ := hm
    replace hq := someE hq
    subst hq
    refine eX_ret (vs := [.bool (y16)]) [.tmp 4] (by rfl) ⟨by (show lkE _ _ _ = _); kernel_rfl, trivial⟩ ?_
    exact ⟨rfl, hB⟩
  · have hm := condF hb15 hm
    rewrite [hb15]
    refine wS_pure 4 [(4, .bool (false)), (9, .bool (false)), (8, undef), (7, undef)] (by kernel_rfl) ?_
    refine wS_end (by rfl) ?_
    refine eX_then ?_
    refine cW_ret ?_
    have hq : (some false : Option ((Bool))) = some _ := hm
    replace hq := someE hq
    subst hq
    refine eX_ret (vs := [.bool (false)]) [.tmp 4] (by rfl) ⟨by (show lkE _ _ _ = _); kernel_rfl, trivial⟩ ?_
    exact ⟨rfl, hB⟩

set_option maxRecDepth 100000 in
/-- laws.FnExactIsLayering -/
theorem c_laws_FnExactIsLayering {w0 : World} {p0_0 : Int} {l0_1 : List (List (Int))} {A0_1 : Option Addr} {cap0_1 : Nat} {fp0_1 : List Nat} {l0_2 : List (List (Int))} {A0_2 : Option Addr} {cap0_2 : Nat} {fp0_2 : List Nat} {l0_3 : List (Int)} {A0_3 : Option Addr} {cap0_3 : Nat} {fp0_3 : List Nat} {l1 : List (Int)} {A1 : Option Addr} {cap1 : Nat} {fp1 : List Nat} {r : (Bool)} (hm : m_laws_FnExactIsLayering p0_0 l0_1 l0_2 l0_3 l1 = some r) (F0_1 : SlR 1 encI w0 fp0_1 A0_1 l0_1) (F0_2 : SlR 1 encI w0 fp0_2 A0_2 l0_2) (F0_3 : Sl 1 encI w0 fp0_3 A0_3 l0_3) (F1 : Sl 1 encI w0 fp1 A1 l1) :
    Calls Try.prog 7 #[.agg #[.int .i64 (p0_0), .slice A0_1 (l0_1).length cap0_1, .slice A0_2 (l0_2).length cap0_2, .slice A0_3 (l0_3).length cap0_3], .slice A1 (l1).length cap1] w0 fun e w' => e = .returned (.bool (r)) ∧ Chg [] w0 w' := by
  have L0_1 := F0_1.low
  have L0_2 := F0_2.low
  have L0_3 := F0_3.low
  have L1 := F1.low
  have hB : Chg [] w0 w0 := Chg.refl _ _
  have hZ := Nat.le_refl w0.heap.size
  unfold m_laws_FnExactIsLayering at hm
  refine enterE (N := 43) Try.func7 (by rfl) Try.ntmps7 (by simp) [(0, .agg #[.int .i64 (p0_0), .slice A0_1 (l0_1).length cap0_1, .slice A0_2 (l0_2).length cap0_2, .slice A0_3 (l0_3).length cap0_3]), (1, .slice A1 (l1).length cap1)] (by rfl) (by kernel_rfl) (fun a => ?_)
  refine cW_seq ?_
  refine cW_region ?_
  refine wS_box (d := 2) (T := 40) (x := .agg #[.int .i64 (p0_0), .slice A0_1 (l0_1).length cap0_1, .slice A0_2 (l0_2).length cap0_2, .slice A0_3 (l0_3).length cap0_3]) (by kernel_rfl) ?_
  intro b5 w6 G7 F8 hc9
  replace F8 : Cl w6 b5 40 [.int .i64 (p0_0), .slice A0_1 (l0_1).length cap0_1, .slice A0_2 (l0_2).length cap0_2, .slice A0_3 (l0_3).length cap0_3] := F8
  replace F0_1 := F0_1.chg hc9 Dj.nil
  replace F0_2 := F0_2.chg hc9 Dj.nil
  replace F0_3 := F0_3.chg hc9 Dj.nil
  replace F1 := F1.chg hc9 Dj.nil
  replace hB := hB.inS hc9 inNil
  replace G7 := Nat.le_trans hZ G7
  replace hZ := Nat.le_trans hZ hc9.size
  refine wS_pure 1 [(4, .bool (false))] (by kernel_rfl) ?_
  refine wS_end (by rfl) ?_
  refine eX_then ?_
  refine cW_seq ?_
  refine cW_seq ?_
  refine cW_region ?_
  refine wS_pure 3 [(12, .bool (decide ((((l1).length : Int)) > 1048576))), (11, .int .i64 (((l1).length : Int))), (10, .slice A1 (l1).length cap1)] (by kernel_rfl) ?_
  refine wS_end (by rfl) ?_
  refine eX_then ?_
  refine cW_cond (t := decide ((((l1).length : Int)) > 1048576)) (by kernel_rfl) (fun hb11 => ?_) (fun hb11 => ?_)
  · have hm := condT hb11 hm
    refine cW_seq ?_
    refine cW_region ?_
    refine wS_pure 1 [(4, .bool (true))] (by kernel_rfl) ?_
    refine wS_end (by rfl) ?_
    refine eX_then ?_
    refine cW_ret ?_
    refine eX_then_ret ?_
    have hq : (some true : Option ((Bool))) = some _ := hm
    replace hq := someE hq
    subst hq
    refine eX_ret (vs := [.bool (true)]) [.tmp 4] (by rfl) ⟨by (show lkE _ _ _ = _); kernel_rfl, trivial⟩ ?_
    exact ⟨rfl, hB⟩
  · have hm := condF hb11 hm
    refine cW_skip ?_
    refine eX_then ?_
    refine cW_seq ?_
    refine cW_region ?_
    refine wS_pure 1 [(5, .int .i64 (1048576))] (by kernel_rfl) ?_
    refine wS_end (by rfl) ?_
    refine eX_then ?_
    refine cW_seq ?_
    refine cW_region ?_
    refine wS_loadA (d := 13) (T := 40) (ad := ⟨b5, 0, none⟩) (vs := [.int .i64 (p0_0), .slice A0_1 (l0_1).length cap0_1, .slice A0_2 (l0_2).length cap0_2, .slice A0_3 (l0_3).length cap0_3]) (by kernel_rfl) vt40 (fun i u hu => box_cells F8 0 hu (by rfl)) ?_
    refine wS_pure 1 [(14, .int .i64 (1048576))] (by kernel_rfl) ?_
    obtain ⟨y12, hy13, hm⟩ := bindE hm
    refine wS_calls (d := 15) (f := 24) (vs := [.agg #[.int .i64 (p0_0), .slice A0_1 (l0_1).length cap0_1, .slice A0_2 (l0_2).length cap0_2, .slice A0_3 (l0_3).length cap0_3], .int .i64 (1048576)]) (by kernel_rfl) ent24 (c_laws_szWiring hy13 F0_1 F0_2 F0_3) ?_
    rintro _ w14 ⟨rfl, hc15⟩
    replace F0_1 := F0_1.chg hc15 Dj.nil
    replace F0_2 := F0_2.chg hc15 Dj.nil
    replace F0_3 := F0_3.chg hc15 Dj.nil
    replace F1 := F1.chg hc15 Dj.nil
    replace F8 := F8.chg hc15 notNil
    replace hB := hB.inS hc15 inNil
    replace hZ := Nat.le_trans hZ hc15.size
    refine ⟨.int .i64 (y12), rfl, ?_⟩
    refine wS_pure 1 [(5, .int .i64 (y12))] (by kernel_rfl) ?_
    refine wS_end (by rfl) ?_
    refine eX_then ?_
    refine cW_seq ?_
    refine cW_seq ?_
    refine cW_region ?_
    refine wS_pure 2 [(17, .bool (decide (y12 < 0))), (16, .int .i64 (y12))] (by kernel_rfl) ?_
    refine wS_end (by rfl) ?_
    refine eX_then ?_
    refine cW_cond (t := decide (y12 < 0)) (by kernel_rfl) (fun hb16 => ?_) (fun hb16 => ?_)
    · have hm := condT hb16 hm
      refine cW_seq ?_
      refine cW_region ?_
      refine wS_pure 1 [(4, .bool (true))] (by kernel_rfl) ?_
      refine wS_end (by rfl) ?_
      refine eX_then ?_
      refine cW_ret ?_
      refine eX_then_ret ?_
      have hq : (some true : Option ((Bool))) = some _ := hm
      replace hq := someE hq
      subst hq
      refine eX_ret (vs := [.bool (true)]) [.tmp 4] (by rfl) ⟨by (show lkE _ _ _ = _); kernel_rfl, trivial⟩ ?_
      exact ⟨rfl, hB⟩
    · have hm := condF hb16 hm
      refine cW_skip ?_
      refine eX_then ?_
      refine cW_seq ?_
      refine cW_region ?_
      refine wS_loadA (d := 18) (T := 40) (ad := ⟨b5, 0, none⟩) (vs := [.int .i64 (p0_0), .slice A0_1 (l0_1).length cap0_1, .slice A0_2 (l0_2).length cap0_2, .slice A0_3 (l0_3).length cap0_3]) (by kernel_rfl) vt40 (fun i u hu => box_cells F8 0 hu (by rfl)) ?_
      obtain ⟨y17, hy18, hm⟩ := bindE hm
      refine wS_calls (d := 19) (f := 26) (vs := [.agg #[.int .i64 (p0_0), .slice A0_1 (l0_1).length cap0_1, .slice A0_2 (l0_2).length cap0_2, .slice A0_3 (l0_3).length cap0_3]]) (by kernel_rfl) ent26 (c_laws_toWiring hy18 F0_1 F0_2 F0_3) ?_
      rintro _ w19 ⟨A21, cap22, fp23, fr26, A27, cap28, fp29, fr32, A33, cap34, fp35, rfl, F24, G25, F30, G31, F36, G37, D39, D40, D41, hc20⟩
      have D43 : Dj [b5] (fp23 ++ fr26) := Dj.of (lt1 F8.lt) G25
      have D45 : Dj [b5] (fp29 ++ fr32) := Dj.of (lt1 F8.lt) G31
      have D47 : Dj [b5] fp35 := Dj.of (lt1 F8.lt) G37
      replace F0_1 := F0_1.chg hc20 Dj.nil
      replace F0_2 := F0_2.chg hc20 Dj.nil
      replace F0_3 := F0_3.chg hc20 Dj.nil
      replace F1 := F1.chg hc20 Dj.nil
      replace F8 := F8.chg hc20 notNil
      replace hB := hB.inS hc20 inNil
      replace G25 := low_le hZ G25
      replace G31 := low_le hZ G31
      replace G37 := low_le hZ G37
      replace hZ := Nat.le_trans hZ hc20.size
      refine ⟨.agg #[.int .i64 (y17.1), .slice A21 (y17.2.1).length cap22, .slice A27 (y17.2.2.1).length cap28, .slice A33 (y17.2.2.2).length cap34], rfl, ?_⟩
      refine wS_pure 1 [(20, .slice A1 (l1).length cap1)] (by kernel_rfl) ?_
      obtain ⟨y48, hy49, hm⟩ := bindE hm
      refine wS_calls (d := 21) (f := 47) (vs := [.slice A1 (l1).length cap1]) (by kernel_rfl) ent47 (c_laws_toInt64S hy49 F1) ?_
      rintro _ w50 ⟨A52, cap53, fp54, rfl, F55, G56, hc51⟩
      have D59 : Dj [b5] fp54 := Dj.of (lt1 F8.lt) G56
      have D60 : Dj (fp23 ++ fr26) fp54 := Dj.of F24.low G56
      have D61 : Dj (fp29 ++ fr32) fp54 := Dj.of F30.low G56
      have D62 : Dj fp35 fp54 := Dj.of F36.low G56
      replace F0_1 := F0_1.chg hc51 Dj.nil
      replace F0_2 := F0_2.chg hc51 Dj.nil
      replace F0_3 := F0_3.chg hc51 Dj.nil
      replace F1 := F1.chg hc51 Dj.nil
      replace F8 := F8.chg hc51 notNil
      replace F24 := F24.chg hc51 Dj.nil
      replace F30 := F30.chg hc51 Dj.nil
      replace F36 := F36.chg hc51 Dj.nil
      replace hB := hB.inS hc51 inNil
      replace G56 := low_le hZ G56
      replace hZ := Nat.le_trans hZ hc51.size
      refine ⟨.slice A52 (y48).length cap53, rfl, ?_⟩
      obtain ⟨y63, hy64, hm⟩ := bindE hm
      refine wS_calls (d := 22) (f := 46) (vs := [.agg #[.int .i64 (y17.1), .slice A21 (y17.2.1).length cap22, .slice A27 (y17.2.2.1).length cap28, .slice A33 (y17.2.2.2).length cap34], .slice A52 (y48).length cap53]) (by kernel_rfl) ent46 (c_spec_IsLayering hy64 (F24.slr encI_ok) (F30.slr encI_ok) (F36.sl encI_ok) (F55.sl encI_ok)) ?_
      rintro _ w65 ⟨rfl, hc66⟩
      replace F0_1 := F0_1.chg hc66 Dj.nil
      replace F0_2 := F0_2.chg hc66 Dj.nil
      replace F0_3 := F0_3.chg hc66 Dj.nil
      replace F1 := F1.chg hc66 Dj.nil
      replace F8 := F8.chg hc66 notNil
      replace F24 := F24.chg hc66 Dj.nil
      replace F30 := F30.chg hc66 Dj.nil
      replace F36 := F36.chg hc66 Dj.nil
      replace F55 := F55.chg hc66 Dj.nil
      replace hB := hB.inS hc66 inNil
      replace hZ := Nat.le_trans hZ hc66.size
      refine ⟨.bool (y63), rfl, ?_⟩
      refine wS_pure 1 [(6, .bool (y63))] (by kernel_rfl) ?_
      refine wS_end (by rfl) ?_
      refine eX_then ?_
      refine cW_seq ?_
      refine cW_region ?_
      refine wS_loadA (d := 23) (T := 40) (ad := ⟨b5, 0, none⟩) (vs := [.int .i64 (p0_0), .slice A0_1 (l0_1).length cap0_1, .slice A0_2 (l0_2).length cap0_2, .slice A0_3 (l0_3).length cap0_3]) (by kernel_rfl) vt40 (fun i u hu => box_cells F8 0 hu (by rfl)) ?_
      obtain ⟨y67, hy68, hm⟩ := bindE hm
      refine wS_calls (d := 24) (f := 26) (vs := [.agg #[.int .i64 (p0_0), .slice A0_1 (l0_1).length cap0_1, .slice A0_2 (l0_2).length cap0_2, .slice A0_3 (l0_3).length cap0_3]]) (by kernel_rfl) ent26 (c_laws_toWiring hy68 F0_1 F0_2 F0_3) ?_
      rintro _ w69 ⟨A71, cap72, fp73, fr76, A77, cap78, fp79, fr82, A83, cap84, fp85, rfl, F74, G75, F80, G81, F86, G87, D89, D90, D91, hc70⟩
      have D93 : Dj [b5] (fp73 ++ fr76) := Dj.of (lt1 F8.lt) G75
      have D94 : Dj (fp23 ++ fr26) (fp73 ++ fr76) := Dj.of F24.low G75
      have D95 : Dj (fp29 ++ fr32) (fp73 ++ fr76) := Dj.of F30.low G75
      have D96 : Dj fp35 (fp73 ++ fr76) := Dj.of F36.low G75
      have D97 : Dj fp54 (fp73 ++ fr76) := Dj.of F55.low G75
      have D99 : Dj [b5] (fp79 ++ fr82) := Dj.of (lt1 F8.lt) G81
      have D100 : Dj (fp23 ++ fr26) (fp79 ++ fr82) := Dj.of F24.low G81
      have D101 : Dj (fp29 ++ fr32) (fp79 ++ fr82) := Dj.of F30.low G81
      have D102 : Dj fp35 (fp79 ++ fr82) := Dj.of F36.low G81
      have D103 : Dj fp54 (fp79 ++ fr82) := Dj.of F55.low G81
      have D105 : Dj [b5] fp85 := Dj.of (lt1 F8.lt) G87
      have D106 : Dj (fp23 ++ fr26) fp85 := Dj.of F24.low G87
      have D107 : Dj (fp29 ++ fr32) fp85 := Dj.of F30.low G87
      have D108 : Dj fp35 fp85 := Dj.of F36.low G87
      have D109 : Dj fp54 fp85 := Dj.of F55.low G87
      replace F0_1 := F0_1.chg hc70 Dj.nil
      replace F0_2 := F0_2.chg hc70 Dj.nil
      replace F0_3 := F0_3.chg hc70 Dj.nil
      replace F1 := F1.chg hc70 Dj.nil
      replace F8 := F8.chg hc70 notNil
      replace F24 := F24.chg hc70 Dj.nil
      replace F30 := F30.chg hc70 Dj.nil
      replace F36 := F36.chg hc70 Dj.nil
      replace F55 := F55.chg hc70 Dj.nil
      replace hB := hB.inS hc70 inNil
      replace G75 := low_le hZ G75
      replace G81 := low_le hZ G81
      replace G87 := low_le hZ G87
      replace hZ := Nat.le_trans hZ hc70.size
      refine ⟨.agg #[.int .i64 (y67.1), .slice A71 (y67.2.1).length cap72, .slice A77 (y67.2.2.1).length cap78, .slice A83 (y67.2.2.2).length cap84], rfl, ?_⟩
      refine wS_alloc (d := 7) (T := 43) (z := .agg #[.int .i64 (0), .slice none 0 0, .slice none 0 0, .slice none 0 0]) (by kernel_rfl) (by kernel_rfl) ?_
      intro b110 w111 G112 F113 hc114
      replace F113 : Cl w111 b110 43 [.int .i64 (0), .slice none 0 0, .slice none 0 0, .slice none 0 0] := F113
      have D116 : Dj [b5] [b110] := Dj.of (lt1 F8.lt) (low1 G112)
      have D117 : Dj (fp23 ++ fr26) [b110] := Dj.of F24.low (low1 G112)
      have D118 : Dj (fp29 ++ fr32) [b110] := Dj.of F30.low (low1 G112)
      have D119 : Dj fp35 [b110] := Dj.of F36.low (low1 G112)
      have D120 : Dj fp54 [b110] := Dj.of F55.low (low1 G112)
      have D121 : Dj (fp73 ++ fr76) [b110] := Dj.of F74.low (low1 G112)
      have D122 : Dj (fp79 ++ fr82) [b110] := Dj.of F80.low (low1 G112)
      have D123 : Dj fp85 [b110] := Dj.of F86.low (low1 G112)
      replace F0_1 := F0_1.chg hc114 Dj.nil
      replace F0_2 := F0_2.chg hc114 Dj.nil
      replace F0_3 := F0_3.chg hc114 Dj.nil
      replace F1 := F1.chg hc114 Dj.nil
      replace F8 := F8.chg hc114 notNil
      replace F24 := F24.chg hc114 Dj.nil
      replace F30 := F30.chg hc114 Dj.nil
      replace F36 := F36.chg hc114 Dj.nil
      replace F55 := F55.chg hc114 Dj.nil
      replace F74 := F74.chg hc114 Dj.nil
      replace F80 := F80.chg hc114 Dj.nil
      replace F86 := F86.chg hc114 Dj.nil
      replace hB := hB.inS hc114 inNil
      replace G112 := Nat.le_trans hZ G112
      replace hZ := Nat.le_trans hZ hc114.size
      refine wS_store (T := 43) (g := b110) (o := 0) (ad := ⟨b110, 0, none⟩) (v := .agg #[.int .i64 (y67.1), .slice A71 (y67.2.1).length cap72, .slice A77 (y67.2.2.1).length cap78, .slice A83 (y67.2.2.2).length cap84]) (vs := [.int .i64 (y67.1), .slice A71 (y67.2.1).length cap72, .slice A77 (y67.2.2.1).length cap78, .slice A83 (y67.2.2.2).length cap84]) (by kernel_rfl) (by rfl) sz43 (by rfl) (by rfl) F113 (by simp only [List.length_cons, List.length_nil]; omega) ?_
      intro w124 F125 hc126
      replace F0_1 := F0_1.chg hc126 (Dj.of L0_1 (low1 G112))
      replace F0_2 := F0_2.chg hc126 (Dj.of L0_2 (low1 G112))
      replace F0_3 := F0_3.chg hc126 (Dj.of L0_3 (low1 G112))
      replace F1 := F1.chg hc126 (Dj.of L1 (low1 G112))
      replace F8 := F8.chg hc126 (dj1 D116)
      replace F24 := F24.chg hc126 D117
      replace F30 := F30.chg hc126 D118
      replace F36 := F36.chg hc126 D119
      replace F55 := F55.chg hc126 D120
      replace F74 := F74.chg hc126 D121
      replace F80 := F80.chg hc126 D122
      replace F86 := F86.chg hc126 D123
      replace hB := hB.inS hc126 (inLow (low1 G112))
      replace hZ := Nat.le_trans hZ hc126.size
      replace F125 : Cl w124 b110 43 [.int .i64 (y67.1), .slice A71 (y67.2.1).length cap72, .slice A77 (y67.2.2.1).length cap78, .slice A83 (y67.2.2.2).length cap84] := F125
      clear F113
      refine wS_end (by rfl) ?_
      refine eX_then ?_
      refine cW_seq ?_
      refine cW_region ?_
      refine wS_pure 1 [(25, .slice A1 (l1).length cap1)] (by kernel_rfl) ?_
      obtain ⟨y127, hy128, hm⟩ := bindE hm
      refine wS_calls (d := 26) (f := 47) (vs := [.slice A1 (l1).length cap1]) (by kernel_rfl) ent47 (c_laws_toInt64S hy128 F1) ?_
      rintro _ w129 ⟨A131, cap132, fp133, rfl, F134, G135, hc130⟩
      have D138 : Dj [b5] fp133 := Dj.of (lt1 F8.lt) G135
      have D139 : Dj (fp23 ++ fr26) fp133 := Dj.of F24.low G135
      have D140 : Dj (fp29 ++ fr32) fp133 := Dj.of F30.low G135
      have D141 : Dj fp35 fp133 := Dj.of F36.low G135
      have D142 : Dj fp54 fp133 := Dj.of F55.low G135
      have D143 : Dj (fp73 ++ fr76) fp133 := Dj.of F74.low G135
      have D144 : Dj (fp79 ++ fr82) fp133 := Dj.of F80.low G135
      have D145 : Dj fp85 fp133 := Dj.of F86.low G135
      have D146 : Dj [b110] fp133 := Dj.of (lt1 F125.lt) G135
      replace F0_1 := F0_1.chg hc130 Dj.nil
      replace F0_2 := F0_2.chg hc130 Dj.nil
      replace F0_3 := F0_3.chg hc130 Dj.nil
      replace F1 := F1.chg hc130 Dj.nil
      replace F8 := F8.chg hc130 notNil
      replace F24 := F24.chg hc130 Dj.nil
      replace F30 := F30.chg hc130 Dj.nil
      replace F36 := F36.chg hc130 Dj.nil
      replace F55 := F55.chg hc130 Dj.nil
      replace F74 := F74.chg hc130 Dj.nil
      replace F80 := F80.chg hc130 Dj.nil
      replace F86 := F86.chg hc130 Dj.nil
      replace F125 := F125.chg hc130 notNil
      replace hB := hB.inS hc130 inNil
      replace G135 := low_le hZ G135
      replace hZ := Nat.le_trans hZ hc130.size
      refine ⟨.slice A131 (y127).length cap132, rfl, ?_⟩
      refine wS_pure 1 [(8, .slice A131 (y127).length cap132)] (by kernel_rfl) ?_
      refine wS_end (by rfl) ?_
      refine eX_then ?_
      refine cW_prune [(1, .slice A1 (l1).length cap1), (2, .pointer (some ⟨b5, 0, none⟩)), (6, .bool (y63)), (7, .pointer (some ⟨b110, 0, none⟩)), (8, .slice A131 (y127).length cap132)] (by kernel_rfl) (by kernel_rfl) (fun a147 => ?_)
      refine cW_seq ?_
      refine cW_region ?_
      refine wS_loadA (d := 27) (T := 43) (ad := ⟨b110, 0, none⟩) (vs := [.int .i64 (y67.1), .slice A71 (y67.2.1).length cap72, .slice A77 (y67.2.2.1).length cap78, .slice A83 (y67.2.2.2).length cap84]) (by kernel_rfl) vt43 (fun i u hu => box_cells F125 0 hu (by rfl)) ?_
      refine wS_pure 1 [(28, .slice A131 (y127).length cap132)] (by kernel_rfl) ?_
      obtain ⟨y148, hy149, hm⟩ := bindE hm
      refine wS_calls (d := 29) (f := 35) (vs := [.agg #[.int .i64 (y67.1), .slice A71 (y67.2.1).length cap72, .slice A77 (y67.2.2.1).length cap78, .slice A83 (y67.2.2.2).length cap84], .slice A131 (y127).length cap132]) (by kernel_rfl) ent35 (c_impl_IsLayering hy149 (F74.slr encI_ok) (F80.slr encI_ok) (F86.sl encI_ok) (F134.sl encI_ok)) ?_
      rintro _ w150 ⟨rfl, hc151⟩
      replace F0_1 := F0_1.chg hc151 Dj.nil
      replace F0_2 := F0_2.chg hc151 Dj.nil
      replace F0_3 := F0_3.chg hc151 Dj.nil
      replace F1 := F1.chg hc151 Dj.nil
      replace F8 := F8.chg hc151 notNil
      replace F24 := F24.chg hc151 Dj.nil
      replace F30 := F30.chg hc151 Dj.nil
      replace F36 := F36.chg hc151 Dj.nil
      replace F55 := F55.chg hc151 Dj.nil
      replace F74 := F74.chg hc151 Dj.nil
      replace F80 := F80.chg hc151 Dj.nil
      replace F86 := F86.chg hc151 Dj.nil
      replace F125 := F125.chg hc151 notNil
      replace F134 := F134.chg hc151 Dj.nil
      replace hB := hB.inS hc151 inNil
      replace hZ := Nat.le_trans hZ hc151.size
      refine ⟨.bool (y148), rfl, ?_⟩
      refine wS_pure 1 [(9, .bool (y148))] (by kernel_rfl) ?_
      refine wS_end (by rfl) ?_
      refine eX_then ?_
      refine cW_seq ?_
      refine cW_seq ?_
      refine cW_region ?_
      refine wS_pure 3 [(32, .bool (!(y148 == y63))), (31, .bool (y63)), (30, .bool (y148))] (by kernel_rfl) ?_
      refine wS_end (by rfl) ?_
      refine eX_then ?_
      refine cW_cond (t := !(y148 == y63)) (by kernel_rfl) (fun hb152 => ?_) (fun hb152 => ?_)
      · have hm := condT hb152 hm
        refine cW_seq ?_
        refine cW_region ?_
        refine wS_pure 1 [(4, .bool (false))] (by kernel_rfl) ?_
        refine wS_end (by rfl) ?_
        refine eX_then ?_
        refine cW_ret ?_
        refine eX_then_ret ?_
        have hq : (some false : Option ((Bool))) = some _ := hm
        replace hq := someE hq
        subst hq
        refine eX_ret (vs := [.bool (false)]) [.tmp 4] (by rfl) ⟨by (show lkE _ _ _ = _); kernel_rfl, trivial⟩ ?_
        exact ⟨rfl, hB⟩
      · have hm := condF hb152 hm
        refine cW_skip ?_
        refine eX_then ?_
        refine cW_seq ?_
        refine cW_seq ?_
        refine cW_drawnTail [] 3 (by kernel_rfl) (by kernel_rfl) (fun w231 hc232 => ?_)
        replace F0_1 := F0_1.chg hc232 Dj.nil
        replace F0_2 := F0_2.chg hc232 Dj.nil
        replace F0_3 := F0_3.chg hc232 Dj.nil
        replace F1 := F1.chg hc232 Dj.nil
        replace F8 := F8.chg hc232 notNil
        replace F24 := F24.chg hc232 Dj.nil
        replace F30 := F30.chg hc232 Dj.nil
        replace F36 := F36.chg hc232 Dj.nil
        replace F55 := F55.chg hc232 Dj.nil
        replace F74 := F74.chg hc232 Dj.nil
        replace F80 := F80.chg hc232 Dj.nil
        replace F86 := F86.chg hc232 Dj.nil
        replace F125 := F125.chg hc232 notNil
        replace F134 := F134.chg hc232 Dj.nil
        replace hB := hB.inS hc232 inNil
        replace hZ := Nat.le_trans hZ hc232.size
        have hS := Chg.refl [] w231
        have Z233 := F0_1
        have Z234 := F0_2
        have Z235 := F0_3
        have Z236 := F1
        have Z237 := F8
        have Z238 := F24
        have Z239 := F30
        have Z240 := F36
        have Z241 := F55
        have Z242 := F74
        have Z243 := F80
        have Z244 := F86
        have Z245 := F125
        have Z246 := F134
        refine wH_loadA (i := 0) (d := 33) (T := 43) (ad := ⟨b110, 0, none⟩) (vs := [.int .i64 (y67.1), .slice A71 (y67.2.1).length cap72, .slice A77 (y67.2.2.1).length cap78, .slice A83 (y67.2.2.2).length cap84]) (by kernel_rfl) (qT (qT (qT qZ))) (by kernel_rfl) (by kernel_rfl) vt43 (fun W hW i u hu => box_cells (Z245.chg hW notNil) 0 hu (by rfl)) ?_
        refine wH_loadA (i := 1) (d := 34) (T := 40) (ad := ⟨b5, 0, none⟩) (vs := [.int .i64 (p0_0), .slice A0_1 (l0_1).length cap0_1, .slice A0_2 (l0_2).length cap0_2, .slice A0_3 (l0_3).length cap0_3]) (by kernel_rfl) (qT (qT (qT qZ))) (by kernel_rfl) (by kernel_rfl) vt40 (fun W hW i u hu => box_cells (Z237.chg hW notNil) 0 hu (by rfl)) ?_
        refine wH_all [2] (by rfl) (by kernel_rfl) (by simp) ⟨⟨by kernel_rfl, ?_⟩, trivial⟩
        obtain ⟨y247, hy248, hm⟩ := bindE hm
        refine wS_calls (d := 35) (f := 26) (vs := [.agg #[.int .i64 (p0_0), .slice A0_1 (l0_1).length cap0_1, .slice A0_2 (l0_2).length cap0_2, .slice A0_3 (l0_3).length cap0_3]]) (by kernel_rfl) ent26 (c_laws_toWiring hy248 F0_1 F0_2 F0_3) ?_
        rintro _ w249 ⟨A251, cap252, fp253, fr256, A257, cap258, fp259, fr262, A263, cap264, fp265, rfl, F254, G255, F260, G261, F266, G267, D269, D270, D271, hc250⟩
        have D273 : Dj [b5] (fp253 ++ fr256) := Dj.of (lt1 F8.lt) G255
        have D274 : Dj (fp23 ++ fr26) (fp253 ++ fr256) := Dj.of F24.low G255
        have D275 : Dj (fp29 ++ fr32) (fp253 ++ fr256) := Dj.of F30.low G255
        have D276 : Dj fp35 (fp253 ++ fr256) := Dj.of F36.low G255
        have D277 : Dj fp54 (fp253 ++ fr256) := Dj.of F55.low G255
        have D278 : Dj (fp73 ++ fr76) (fp253 ++ fr256) := Dj.of F74.low G255
        have D279 : Dj (fp79 ++ fr82) (fp253 ++ fr256) := Dj.of F80.low G255
        have D280 : Dj fp85 (fp253 ++ fr256) := Dj.of F86.low G255
        have D281 : Dj [b110] (fp253 ++ fr256) := Dj.of (lt1 F125.lt) G255
        have D282 : Dj fp133 (fp253 ++ fr256) := Dj.of F134.low G255
        have D284 : Dj [b5] (fp259 ++ fr262) := Dj.of (lt1 F8.lt) G261
        have D285 : Dj (fp23 ++ fr26) (fp259 ++ fr262) := Dj.of F24.low G261
        have D286 : Dj (fp29 ++ fr32) (fp259 ++ fr262) := Dj.of F30.low G261
        have D287 : Dj fp35 (fp259 ++ fr262) := Dj.of F36.low G261
        have D288 : Dj fp54 (fp259 ++ fr262) := Dj.of F55.low G261
        have D289 : Dj (fp73 ++ fr76) (fp259 ++ fr262) := Dj.of F74.low G261
        have D290 : Dj (fp79 ++ fr82) (fp259 ++ fr262) := Dj.of F80.low G261
        have D291 : Dj fp85 (fp259 ++ fr262) := Dj.of F86.low G261
        have D292 : Dj [b110] (fp259 ++ fr262) := Dj.of (lt1 F125.lt) G261
        have D293 : Dj fp133 (fp259 ++ fr262) := Dj.of F134.low G261
        have D295 : Dj [b5] fp265 := Dj.of (lt1 F8.lt) G267
        have D296 : Dj (fp23 ++ fr26) fp265 := Dj.of F24.low G267
        have D297 : Dj (fp29 ++ fr32) fp265 := Dj.of F30.low G267
        have D298 : Dj fp35 fp265 := Dj.of F36.low G267
        have D299 : Dj fp54 fp265 := Dj.of F55.low G267
        have D300 : Dj (fp73 ++ fr76) fp265 := Dj.of F74.low G267
        have D301 : Dj (fp79 ++ fr82) fp265 := Dj.of F80.low G267
        have D302 : Dj fp85 fp265 := Dj.of F86.low G267
        have D303 : Dj [b110] fp265 := Dj.of (lt1 F125.lt) G267
        have D304 : Dj fp133 fp265 := Dj.of F134.low G267
        replace F0_1 := F0_1.chg hc250 Dj.nil
        replace F0_2 := F0_2.chg hc250 Dj.nil
        replace F0_3 := F0_3.chg hc250 Dj.nil
        replace F1 := F1.chg hc250 Dj.nil
        replace F8 := F8.chg hc250 notNil
        replace F24 := F24.chg hc250 Dj.nil
        replace F30 := F30.chg hc250 Dj.nil
        replace F36 := F36.chg hc250 Dj.nil
        replace F55 := F55.chg hc250 Dj.nil
        replace F74 := F74.chg hc250 Dj.nil
        replace F80 := F80.chg hc250 Dj.nil
        replace F86 := F86.chg hc250 Dj.nil
        replace F125 := F125.chg hc250 notNil
        replace F134 := F134.chg hc250 Dj.nil
        replace hB := hB.inS hc250 inNil
        have hSz := hS
        replace hS := hS.inS hc250 inNil
        replace G255 := low_le hZ G255
        replace G261 := low_le hZ G261
        replace G267 := low_le hZ G267
        replace hZ := Nat.le_trans hZ hc250.size
        refine ⟨.agg #[.int .i64 (y247.1), .slice A251 (y247.2.1).length cap252, .slice A257 (y247.2.2.1).length cap258, .slice A263 (y247.2.2.2).length cap264], rfl, ?_⟩
        refine wS_end (by kernel_rfl) ?_
        refine eX_KH hS ?_
        refine wH_done (by kernel_rfl) ?_
        refine eX_tail ?_
        obtain ⟨y305, hy306, hm⟩ := bindE hm
        refine wS_calls (d := 36) (f := 28) (vs := [.agg #[.int .i64 (y67.1), .slice A71 (y67.2.1).length cap72, .slice A77 (y67.2.2.1).length cap78, .slice A83 (y67.2.2.2).length cap84], .agg #[.int .i64 (y247.1), .slice A251 (y247.2.1).length cap252, .slice A257 (y247.2.2.1).length cap258, .slice A263 (y247.2.2.2).length cap264]]) (by kernel_rfl) ent28 (c_laws_eqWiring hy306 (F74.slr encI_ok) (F80.slr encI_ok) (F86.sl encI_ok) (F254.slr encI_ok) (F260.slr encI_ok) (F266.sl encI_ok)) ?_
        rintro _ w307 ⟨rfl, hc308⟩
        replace F0_1 := F0_1.chg hc308 Dj.nil
        replace F0_2 := F0_2.chg hc308 Dj.nil
        replace F0_3 := F0_3.chg hc308 Dj.nil
        replace F1 := F1.chg hc308 Dj.nil
        replace F8 := F8.chg hc308 notNil
        replace F24 := F24.chg hc308 Dj.nil
        replace F30 := F30.chg hc308 Dj.nil
        replace F36 := F36.chg hc308 Dj.nil
        replace F55 := F55.chg hc308 Dj.nil
        replace F74 := F74.chg hc308 Dj.nil
        replace F80 := F80.chg hc308 Dj.nil
        replace F86 := F86.chg hc308 Dj.nil
        replace F125 := F125.chg hc308 notNil
        replace F134 := F134.chg hc308 Dj.nil
        replace F254 := F254.chg hc308 Dj.nil
        replace F260 := F260.chg hc308 Dj.nil
        replace F266 := F266.chg hc308 Dj.nil
        replace hB := hB.inS hc308 inNil
        replace hZ := Nat.le_trans hZ hc308.size
        refine ⟨.bool (y305), rfl, ?_⟩
        refine wS_pure 1 [(37, .bool (!y305))] (by kernel_rfl) ?_
        refine wS_end (by rfl) ?_
        refine eX_then ?_
        refine cW_cond (t := !y305) (by kernel_rfl) (fun hb309 => ?_) (fun hb309 => ?_)
        · have hm := condT hb309 hm
          refine cW_seq ?_
          refine cW_region ?_
          refine wS_pure 1 [(4, .bool (false))] (by kernel_rfl) ?_
          refine wS_end (by rfl) ?_
          refine eX_then ?_
          refine cW_ret ?_
          refine eX_then_ret ?_
          have hq : (some false : Option ((Bool))) = some _ := hm
          replace hq := someE hq
          subst hq
          refine eX_ret (vs := [.bool (false)]) [.tmp 4] (by rfl) ⟨by (show lkE _ _ _ = _); kernel_rfl, trivial⟩ ?_
          exact ⟨rfl, hB⟩
        · have hm := condF hb309 hm
          refine cW_skip ?_
          refine eX_then ?_
          refine cW_seq ?_
          refine cW_seq ?_
          refine cW_region ?_
          refine wS_pure 2 [(39, .slice A1 (l1).length cap1), (38, .slice A131 (y127).length cap132)] (by kernel_rfl) ?_
          obtain ⟨y310, hy311, hm⟩ := bindE hm
          refine wS_calls (d := 40) (f := 47) (vs := [.slice A1 (l1).length cap1]) (by kernel_rfl) ent47 (c_laws_toInt64S hy311 F1) ?_
          rintro _ w312 ⟨A314, cap315, fp316, rfl, F317, G318, hc313⟩
          have D321 : Dj [b5] fp316 := Dj.of (lt1 F8.lt) G318
          have D322 : Dj (fp23 ++ fr26) fp316 := Dj.of F24.low G318
          have D323 : Dj (fp29 ++ fr32) fp316 := Dj.of F30.low G318
          have D324 : Dj fp35 fp316 := Dj.of F36.low G318
          have D325 : Dj fp54 fp316 := Dj.of F55.low G318
          have D326 : Dj (fp73 ++ fr76) fp316 := Dj.of F74.low G318
          have D327 : Dj (fp79 ++ fr82) fp316 := Dj.of F80.low G318
          have D328 : Dj fp85 fp316 := Dj.of F86.low G318
          have D329 : Dj [b110] fp316 := Dj.of (lt1 F125.lt) G318
          have D330 : Dj fp133 fp316 := Dj.of F134.low G318
          have D331 : Dj (fp253 ++ fr256) fp316 := Dj.of F254.low G318
          have D332 : Dj (fp259 ++ fr262) fp316 := Dj.of F260.low G318
          have D333 : Dj fp265 fp316 := Dj.of F266.low G318
          replace F0_1 := F0_1.chg hc313 Dj.nil
          replace F0_2 := F0_2.chg hc313 Dj.nil
          replace F0_3 := F0_3.chg hc313 Dj.nil
          replace F1 := F1.chg hc313 Dj.nil
          replace F8 := F8.chg hc313 notNil
          replace F24 := F24.chg hc313 Dj.nil
          replace F30 := F30.chg hc313 Dj.nil
          replace F36 := F36.chg hc313 Dj.nil
          replace F55 := F55.chg hc313 Dj.nil
          replace F74 := F74.chg hc313 Dj.nil
          replace F80 := F80.chg hc313 Dj.nil
          replace F86 := F86.chg hc313 Dj.nil
          replace F125 := F125.chg hc313 notNil
          replace F134 := F134.chg hc313 Dj.nil
          replace F254 := F254.chg hc313 Dj.nil
          replace F260 := F260.chg hc313 Dj.nil
          replace F266 := F266.chg hc313 Dj.nil
          replace hB := hB.inS hc313 inNil
          replace G318 := low_le hZ G318
          replace hZ := Nat.le_trans hZ hc313.size
          refine ⟨.slice A314 (y310).length cap315, rfl, ?_⟩
          obtain ⟨y334, hy335, hm⟩ := bindE hm
          refine wS_calls (d := 41) (f := 48) (vs := [.slice A131 (y127).length cap132, .slice A314 (y310).length cap315]) (by kernel_rfl) ent48 (c_laws_eqInt64S hy335 (F134.sl encI_ok) (F317.sl encI_ok)) ?_
          rintro _ w336 ⟨rfl, hc337⟩
          replace F0_1 := F0_1.chg hc337 Dj.nil
          replace F0_2 := F0_2.chg hc337 Dj.nil
          replace F0_3 := F0_3.chg hc337 Dj.nil
          replace F1 := F1.chg hc337 Dj.nil
          replace F8 := F8.chg hc337 notNil
          replace F24 := F24.chg hc337 Dj.nil
          replace F30 := F30.chg hc337 Dj.nil
          replace F36 := F36.chg hc337 Dj.nil
          replace F55 := F55.chg hc337 Dj.nil
          replace F74 := F74.chg hc337 Dj.nil
          replace F80 := F80.chg hc337 Dj.nil
          replace F86 := F86.chg hc337 Dj.nil
          replace F125 := F125.chg hc337 notNil
          replace F134 := F134.chg hc337 Dj.nil
          replace F254 := F254.chg hc337 Dj.nil
          replace F260 := F260.chg hc337 Dj.nil
          replace F266 := F266.chg hc337 Dj.nil
          replace F317 := F317.chg hc337 Dj.nil
          replace hB := hB.inS hc337 inNil
          replace hZ := Nat.le_trans hZ hc337.size
          refine ⟨.bool (y334), rfl, ?_⟩
          refine wS_pure 1 [(42, .bool (!y334))] (by kernel_rfl) ?_
          refine wS_end (by rfl) ?_
          refine eX_then ?_
          refine cW_cond (t := !y334) (by kernel_rfl) (fun hb338 => ?_) (fun hb338 => ?_)
          · have hm := condT hb338 hm
            refine cW_seq ?_
            refine cW_region ?_
            refine wS_pure 1 [(4, .bool (false))] (by kernel_rfl) ?_
            refine wS_end (by rfl) ?_
            refine eX_then ?_
            refine cW_ret ?_
            refine eX_then_ret ?_
            have hq : (some false : Option ((Bool))) = some _ := hm
            replace hq := someE hq
            subst hq
            refine eX_ret (vs := [.bool (false)]) [.tmp 4] (by rfl) ⟨by (show lkE _ _ _ = _); kernel_rfl, trivial⟩ ?_
            exact ⟨rfl, hB⟩
          · have hm := condF hb338 hm
            refine cW_skip ?_
            refine eX_then ?_
            refine cW_seq ?_
            refine cW_region ?_
            refine wS_pure 1 [(4, .bool (true))] (by kernel_rfl) ?_
            refine wS_end (by rfl) ?_
            refine eX_then ?_
            refine cW_ret ?_
            have hq : (some true : Option ((Bool))) = some _ := hm
            replace hq := someE hq
            subst hq
            refine eX_ret (vs := [.bool (true)]) [.tmp 4] (by rfl) ⟨by (show lkE _ _ _ = _); kernel_rfl, trivial⟩ ?_
            exact ⟨rfl, hB⟩

set_option maxRecDepth 100000 in
/-- impl.Wiring).cost -/
theorem c_impl_Wiring_cost_bimplWiring {w0 : World} {q0_0 : Int} {l0_1 : List (List (Int))} {A0_1 : Option Addr} {cap0_1 : Nat} {fp0_1 : List Nat} {l0_2 : List (List (Int))} {A0_2 : Option Addr} {cap0_2 : Nat} {fp0_2 : List Nat} {l0_3 : List (Int)} {A0_3 : Option Addr} {cap0_3 : Nat} {fp0_3 : List Nat} {b0 : Nat} {l1 : List (Int)} {A1 : Option Addr} {cap1 : Nat} {fp1 : List Nat} {r : (Int)} (hm : m_impl_Wiring_cost_bimplWiring q0_0 l0_1 l0_2 l0_3 l1 = some r) (F0_1 : SlR 1 encI w0 fp0_1 A0_1 l0_1) (F0_2 : SlR 1 encI w0 fp0_2 A0_2 l0_2) (F0_3 : Sl 1 encI w0 fp0_3 A0_3 l0_3) (F0 : Cl w0 b0 43 [.int .i64 (q0_0), .slice A0_1 (l0_1).length cap0_1, .slice A0_2 (l0_2).length cap0_2, .slice A0_3 (l0_3).length cap0_3]) (F1 : Sl 1 encI w0 fp1 A1 l1) :
    Calls Try.prog 106 #[.pointer (some ⟨b0, 0, none⟩), .slice A1 (l1).length cap1] w0 fun e w' => e = .returned (.int .i64 (r)) ∧ Chg [] w0 w' := by
  have L0_1 := F0_1.low
  have L0_2 := F0_2.low
  have L0_3 := F0_3.low
  have L0 := lt1 F0.lt
  have L1 := F1.low
  have hB : Chg [] w0 w0 := Chg.refl _ _
  have hZ := Nat.le_refl w0.heap.size
  unfold m_impl_Wiring_cost_bimplWiring at hm
  refine enterE (N := 37) Try.func106 (by rfl) Try.ntmps106 (by simp) [(0, .pointer (some ⟨b0, 0, none⟩)), (1, .slice A1 (l1).length cap1)] (by rfl) (by kernel_rfl) (fun a => ?_)
  refine cW_seq ?_
  refine cW_region ?_
  refine wS_pure 1 [(4, .int .i64 (0))] (by kernel_rfl) ?_
  refine wS_end (by rfl) ?_
  refine eX_then ?_
  refine cW_seq ?_
  refine cW_region ?_
  refine wS_pure 1 [(5, .int .i64 (0))] (by kernel_rfl) ?_
  refine wS_end (by rfl) ?_
  refine eX_then ?_
  refine cW_seq ?_
  refine cW_seq ?_
  refine cW_region ?_
  refine wS_pure 3 [(10, .pointer (some ⟨b0, 2, none⟩)), (9, .pointer (some ⟨b0, 0, none⟩)), (8, .pointer (some ⟨b0, 0, none⟩))] (by kernel_rfl) ?_
  refine wS_load1 (d := 11) (T := 37) (ad := ⟨b0, 2, none⟩) (v := .slice A0_2 (l0_2).length cap0_2) (by kernel_rfl) vt37 ((F0).cell 2) ?_
  refine wS_pure 2 [(13, .int .i64 (0)), (12, .int .i64 (((l0_2).length : Int)))] (by kernel_rfl) ?_
  refine wS_end (by rfl) ?_
  refine eX_then ?_
  obtain ⟨r187, hr188, hm⟩ := bindE hm
  have hm189 := hm
  refine cW_cut (fun a' w' => ∃ x179 : Int, x179 = r187 ∧ Fr 37 [(5, .int .i64 (x179))] a' ∧ Chg [] w0 w' ∧ w0.heap.size ≤ w'.heap.size) ?_ ?_
  · refine cW_block ?_
    refine cW_loop _ (fun (s190 : Int × Int) a' w' => ∃ x182 : Int, ∃ x183 : Int, (x182, x183) = s190 ∧ Fr 37 [(1, .slice A1 (l1).length cap1), (5, .int .i64 (x182)), (11, .slice A0_2 (l0_2).length cap0_2), (12, .int .i64 (((l0_2).length : Int))), (13, .int .i64 (x183))] a' ∧ SlR 1 encI w' fp0_2 A0_2 l0_2 ∧ Sl 1 encI w' fp1 A1 l1 ∧ Chg [] w0 w' ∧ w0.heap.size ≤ w'.heap.size) hr188 (fun hst => ⟨0, 0, rfl, Fr.of hst (by kernel_rfl), F0_2, F1, hB, hZ⟩) ?_
    rintro _ c191 a' w181 ⟨x182, x183, rfl, hF184, F185, F186, hB, hZ⟩ hx192
    refine Fr.goOn hF184 (by kernel_rfl) ?_
    have hm := hx192
    unfold m_impl_Wiring_cost_bimplWiring_s1 at hm
    refine cW_seq ?_
    refine cW_region ?_
    refine wS_pure 1 [(14, .bool (decide (x183 < (((l0_2).length : Int)))))] (by kernel_rfl) ?_
    refine wS_end (by rfl) ?_
    refine eX_then ?_
    refine cW_seq ?_
    refine cW_cond (t := decide (x183 < (((l0_2).length : Int)))) (by kernel_rfl) (fun hb193 => ?_) (fun hb193 => ?_)
    · have hm := condT hb193 hm
      refine cW_skip ?_
      refine eX_then ?_
      refine cW_seq ?_
      refine cW_block ?_
      obtain ⟨s236, hs237, hm⟩ := bindE hm
      refine cW_cut (fun a' w' => ∃ x232 : Int, x232 = s236 ∧ Fr 37 [(1, .slice A1 (l1).length cap1), (5, .int .i64 (x232)), (11, .slice A0_2 (l0_2).length cap0_2), (12, .int .i64 (((l0_2).length : Int))), (13, .int .i64 (x183))] a' ∧ SlR 1 encI w' fp0_2 A0_2 l0_2 ∧ Sl 1 encI w' fp1 A1 l1 ∧ Chg [] w0 w' ∧ w0.heap.size ≤ w'.heap.size) ?_ ?_
      · have hm := hs237
        refine cW_seq ?_
        refine cW_region ?_
        obtain ⟨x238, hx239, hm⟩ := bindE hm
        refine wS_idx (d := 15) (T := 37) (A := A0_2) (n := (l0_2).length) (cap := cap0_2) (kd := .i64) (m := x183) (by kernel_rfl) sl37 (F185.is hx239) ?_
        obtain ⟨A240, cap241, hc243, F242, K244⟩ := SlR.row F185 hx239
        refine wS_load1 (d := 16) (T := 38) (ad := (elA A0_2 1 (x183) 0)) (v := .slice A240 (x238).length cap241) (by kernel_rfl) vt38 hc243 ?_
        refine wS_pure 1 [(7, .slice A240 (x238).length cap241)] (by kernel_rfl) ?_
        refine wS_end (by rfl) ?_
        refine eX_then ?_
        refine cW_seq ?_
        refine cW_drawnTail [] 12 (by kernel_rfl) (by kernel_rfl) (fun w259 hc260 => ?_)
        replace F185 := F185.chg hc260 Dj.nil
        replace F186 := F186.chg hc260 Dj.nil
        replace F242 := F242.chg hc260 Dj.nil
        replace hB := hB.inS hc260 inNil
        replace hZ := Nat.le_trans hZ hc260.size
        have hS := Chg.refl [] w259
        have Z261 := F185
        have Z262 := F186
        have Z263 := F242
        refine wH_take [0, 1] [1, 0] [(18, .slice A240 (x238).length cap241), (17, .slice A1 (l1).length cap1)] (by kernel_rfl) (qT (qT (qT (qB (qT (qL (qB (qT (qT qZ))))))))) (by kernel_rfl) ?_
        obtain ⟨x264, hx265, hm⟩ := bindE hm
        refine wH_idx (i := 2) (d := 19) (T := 38) (A := A240) (n := (x238).length) (cap := cap241) (kd := .i64) (m := 0) (by kernel_rfl) (qT (qT (qT (qB (qT (qL (qB (qT (qT qZ))))))))) (by kernel_rfl) (by kernel_rfl) sl38 (F242.is hx265) ?_
        refine wH_load1 (i := 3) (d := 20) (T := 2) (ad := (elA A240 1 (0) 0)) (v := .int .i64 (x264)) (by kernel_rfl) (qT (qT (qT (qB (qT (qL (qB (qT (qT qZ))))))))) (by kernel_rfl) (by kernel_rfl) vt2 (fun W hW => Sl.cell (Z263.chg hW Dj.nil) hx265 0 (by rfl)) ?_
        obtain ⟨x266, hx267, hm⟩ := bindE hm
        refine wH_idx (i := 4) (d := 21) (T := 38) (A := A1) (n := (l1).length) (cap := cap1) (kd := .i64) (m := x264) (by kernel_rfl) (qT (qT (qT (qB (qT (qL (qB (qT (qT qZ))))))))) (by kernel_rfl) (by kernel_rfl) sl38 (F186.is hx267) ?_
        refine wH_load1 (i := 5) (d := 22) (T := 2) (ad := (elA A1 1 (x264) 0)) (v := .int .i64 (x266)) (by kernel_rfl) (qT (qT (qT (qB (qT (qL (qB (qT (qT qZ))))))))) (by kernel_rfl) (by kernel_rfl) vt2 (fun W hW => Sl.cell (Z262.chg hW Dj.nil) hx267 0 (by rfl)) ?_
        refine wH_take [6, 7] [7, 6, 5, 4, 3, 2, 1, 0] [(24, .slice A240 (x238).length cap241), (23, .slice A1 (l1).length cap1)] (by kernel_rfl) (qT (qT (qT (qB (qT (qL (qB (qT (qT qZ))))))))) (by kernel_rfl) ?_
        obtain ⟨x268, hx269, hm⟩ := bindE hm
        refine wH_idx (i := 8) (d := 25) (T := 38) (A := A240) (n := (x238).length) (cap := cap241) (kd := .i64) (m := 1) (by kernel_rfl) (qT (qT (qT (qB (qT (qL (qB (qT (qT qZ))))))))) (by kernel_rfl) (by kernel_rfl) sl38 (F242.is hx269) ?_
        refine wH_load1 (i := 9) (d := 26) (T := 2) (ad := (elA A240 1 (1) 0)) (v := .int .i64 (x268)) (by kernel_rfl) (qT (qT (qT (qB (qT (qL (qB (qT (qT qZ))))))))) (by kernel_rfl) (by kernel_rfl) vt2 (fun W hW => Sl.cell (Z263.chg hW Dj.nil) hx269 0 (by rfl)) ?_
        obtain ⟨x270, hx271, hm⟩ := bindE hm
        refine wH_idx (i := 10) (d := 27) (T := 38) (A := A1) (n := (l1).length) (cap := cap1) (kd := .i64) (m := x268) (by kernel_rfl) (qT (qT (qT (qB (qT (qL (qB (qT (qT qZ))))))))) (by kernel_rfl) (by kernel_rfl) sl38 (F186.is hx271) ?_
        refine wH_load1 (i := 11) (d := 28) (T := 2) (ad := (elA A1 1 (x268) 0)) (v := .int .i64 (x270)) (by kernel_rfl) (qT (qT (qT (qB (qT (qL (qB (qT (qT qZ))))))))) (by kernel_rfl) (by kernel_rfl) vt2 (fun W hW => Sl.cell (Z262.chg hW Dj.nil) hx271 0 (by rfl)) ?_
        refine wH_done (by kernel_rfl) ?_
        refine eX_tail ?_
        refine wS_pure 1 [(29, .bool (x266 != x270))] (by kernel_rfl) ?_
        refine wS_end (by rfl) ?_
        refine eX_then ?_
        refine cW_cond (t := x266 != x270) (by kernel_rfl) (fun hb272 => ?_) (fun hb272 => ?_)
        · have hm := condT hb272 hm
          refine cW_region ?_
          refine wS_pure 2 [(31, .slice A240 (x238).length cap241), (30, .int .i64 (x182))] (by kernel_rfl) ?_
          obtain ⟨x273, hx274, hm⟩ := bindE hm
          refine wS_idx (d := 32) (T := 38) (A := A240) (n := (x238).length) (cap := cap241) (kd := .i64) (m := 2) (by kernel_rfl) sl38 (F242.is hx274) ?_
          refine wS_load1 (d := 33) (T := 2) (ad := (elA A240 1 (2) 0)) (v := .int .i64 (x273)) (by kernel_rfl) vt2 (Sl.cell F242 hx274 0 (by rfl)) ?_
          refine wS_pure 2 [(5, .int .i64 (wr (x182 + x273))), (34, .int .i64 (wr (x182 + x273)))] (by kernel_rfl) ?_
          refine wS_end (by rfl) ?_
          have hq : (some (wr (x182 + x273)) : Option (Int)) = some _ := hm
          replace hq := someE hq
          subst hq
          exact eX_J (fun hst => ⟨wr (x182 + x273), rfl, Fr.of hst (by kernel_rfl), F185, F186, hB, hZ⟩)
        · have hm := condF hb272 hm
          refine cW_skip ?_
          have hq : (some x182 : Option (Int)) = some _ := hm
          replace hq := someE hq
          subst hq
          exact eX_J (fun hst => ⟨x182, rfl, Fr.of hst (by kernel_rfl), F185, F186, hB, hZ⟩)
      · rintro a' w231 ⟨x232, hJ, hF233, F234, F235, hB, hZ⟩
        subst hJ
        refine Fr.goX hF233 (by kernel_rfl) ?_
        refine eX_block ?_
        refine eX_then ?_
        refine cW_region ?_
        refine wS_pure 2 [(13, .int .i64 (wr (x183 + 1))), (35, .int .i64 (wr (x183 + 1)))] (by kernel_rfl) ?_
        refine wS_end (by rfl) ?_
        have hq : (some (Ctl.next ((x232, wr (x183 + 1)))) : Option (Ctl (Int × Int) (Int))) = some _ := hm
        replace hq := someE hq
        subst hq
        exact eX_next hx192 (fun hst => ⟨x232, wr (x183 + 1), rfl, Fr.of hst (by kernel_rfl), F234, F235, hB, hZ⟩)
    · have hm := condF hb193 hm
      refine cW_exit ?_
      refine eX_then_exit ?_
      have hq : (some (Ctl.out x182) : Option (Ctl (Int × Int) (Int))) = some _ := hm
      replace hq := someE hq
      subst hq
      refine eX_outX hx192 (fun hr275 => ?_)
      replace hr275 := hr275.symm
      subst hr275
      refine eX_block_hit ?_
      exact eX_J (fun hst => ⟨x182, rfl, Fr.of hst (by kernel_rfl), hB, hZ⟩)
  · rintro a' w178 ⟨x179, hJ, hF180, hB, hZ⟩
    subst hJ
    refine Fr.goX hF180 (by kernel_rfl) ?_
    refine eX_then ?_
    refine cW_seq ?_
    refine cW_region ?_
    refine wS_pure 2 [(4, .int .i64 (x179)), (36, .int .i64 (x179))] (by kernel_rfl) ?_
    refine wS_end (by rfl) ?_
    refine eX_then ?_
    refine cW_ret ?_
    have hq : (some x179 : Option ((Int))) = some _ := hm
    replace hq := someE hq
    subst hq
    refine eX_ret (vs := [.int .i64 (x179)]) [.tmp 4] (by rfl) ⟨by (show lkE _ _ _ = _); kernel_rfl, trivial⟩ ?_
    exact ⟨rfl, hB⟩

set_option maxRecDepth 100000 in
/-- impl.CostOf -/
theorem c_impl_CostOf {w0 : World} {p0_0 : Int} {l0_1 : List (List (Int))} {A0_1 : Option Addr} {cap0_1 : Nat} {fp0_1 : List Nat} {l0_2 : List (List (Int))} {A0_2 : Option Addr} {cap0_2 : Nat} {fp0_2 : List Nat} {l0_3 : List (Int)} {A0_3 : Option Addr} {cap0_3 : Nat} {fp0_3 : List Nat} {l1 : List (Int)} {A1 : Option Addr} {cap1 : Nat} {fp1 : List Nat} {r : (Int) × (Bool)} (hm : m_impl_CostOf p0_0 l0_1 l0_2 l0_3 l1 = some r) (F0_1 : SlR 1 encI w0 fp0_1 A0_1 l0_1) (F0_2 : SlR 1 encI w0 fp0_2 A0_2 l0_2) (F0_3 : Sl 1 encI w0 fp0_3 A0_3 l0_3) (F1 : Sl 1 encI w0 fp1 A1 l1) :
    Calls Try.prog 52 #[.agg #[.int .i64 (p0_0), .slice A0_1 (l0_1).length cap0_1, .slice A0_2 (l0_2).length cap0_2, .slice A0_3 (l0_3).length cap0_3], .slice A1 (l1).length cap1] w0 fun e w' => e = .returned (.tuple #[.int .i64 (r.1), .bool (r.2)]) ∧ Chg [] w0 w' := by
  have L0_1 := F0_1.low
  have L0_2 := F0_2.low
  have L0_3 := F0_3.low
  have L1 := F1.low
  have hB : Chg [] w0 w0 := Chg.refl _ _
  have hZ := Nat.le_refl w0.heap.size
  unfold m_impl_CostOf at hm
  refine enterE (N := 12) Try.func52 (by rfl) Try.ntmps52 (by simp) [(0, .agg #[.int .i64 (p0_0), .slice A0_1 (l0_1).length cap0_1, .slice A0_2 (l0_2).length cap0_2, .slice A0_3 (l0_3).length cap0_3]), (1, .slice A1 (l1).length cap1)] (by rfl) (by kernel_rfl) (fun a => ?_)
  refine cW_seq ?_
  refine cW_region ?_
  refine wS_box (d := 2) (T := 43) (x := .agg #[.int .i64 (p0_0), .slice A0_1 (l0_1).length cap0_1, .slice A0_2 (l0_2).length cap0_2, .slice A0_3 (l0_3).length cap0_3]) (by kernel_rfl) ?_
  intro b5 w6 G7 F8 hc9
  replace F8 : Cl w6 b5 43 [.int .i64 (p0_0), .slice A0_1 (l0_1).length cap0_1, .slice A0_2 (l0_2).length cap0_2, .slice A0_3 (l0_3).length cap0_3] := F8
  replace F0_1 := F0_1.chg hc9 Dj.nil
  replace F0_2 := F0_2.chg hc9 Dj.nil
  replace F0_3 := F0_3.chg hc9 Dj.nil
  replace F1 := F1.chg hc9 Dj.nil
  replace hB := hB.inS hc9 inNil
  replace G7 := Nat.le_trans hZ G7
  replace hZ := Nat.le_trans hZ hc9.size
  refine wS_pure 2 [(5, .bool (false)), (4, .int .i64 (0))] (by kernel_rfl) ?_
  refine wS_end (by rfl) ?_
  refine eX_then ?_
  refine cW_seq ?_
  refine cW_seq ?_
  refine cW_region ?_
  refine wS_loadA (d := 6) (T := 43) (ad := ⟨b5, 0, none⟩) (vs := [.int .i64 (p0_0), .slice A0_1 (l0_1).length cap0_1, .slice A0_2 (l0_2).length cap0_2, .slice A0_3 (l0_3).length cap0_3]) (by kernel_rfl) vt43 (fun i u hu => box_cells F8 0 hu (by rfl)) ?_
  refine wS_pure 1 [(7, .slice A1 (l1).length cap1)] (by kernel_rfl) ?_
  obtain ⟨y11, hy12, hm⟩ := bindE hm
  refine wS_calls (d := 8) (f := 35) (vs := [.agg #[.int .i64 (p0_0), .slice A0_1 (l0_1).length cap0_1, .slice A0_2 (l0_2).length cap0_2, .slice A0_3 (l0_3).length cap0_3], .slice A1 (l1).length cap1]) (by kernel_rfl) ent35 (c_impl_IsLayering hy12 F0_1 F0_2 F0_3 F1) ?_
  rintro _ w13 ⟨rfl, hc14⟩
  replace F0_1 := F0_1.chg hc14 Dj.nil
  replace F0_2 := F0_2.chg hc14 Dj.nil
  replace F0_3 := F0_3.chg hc14 Dj.nil
  replace F1 := F1.chg hc14 Dj.nil
  replace F8 := F8.chg hc14 notNil
  replace hB := hB.inS hc14 inNil
  replace hZ := Nat.le_trans hZ hc14.size
  refine ⟨.bool (y11), rfl, ?_⟩
  refine wS_pure 1 [(9, .bool (!y11))] (by kernel_rfl) ?_
  refine wS_end (by rfl) ?_
  refine eX_then ?_
  refine cW_cond (t := !y11) (by kernel_rfl) (fun hb15 => ?_) (fun hb15 => ?_)
  · have hm := condT hb15 hm
    refine cW_seq ?_
    refine cW_region ?_
    refine wS_pure 2 [(5, .bool (false)), (4, .int .i64 (0))] (by kernel_rfl) ?_
    refine wS_end (by rfl) ?_
    refine eX_then ?_
    refine cW_ret ?_
    refine eX_then_ret ?_
    have hq : (some ((0, false)) : Option ((Int) × (Bool))) = some _ := hm
    replace hq := someE hq
    subst hq
    refine eX_ret (vs := [.int .i64 (0), .bool (false)]) [.tmp 4, .tmp 5] (by rfl) ⟨by (show lkE _ _ _ = _); kernel_rfl, ⟨by (show lkE _ _ _ = _); kernel_rfl, trivial⟩⟩ ?_
    exact ⟨rfl, hB⟩
  · have hm := condF hb15 hm
    refine cW_skip ?_
    refine eX_then ?_
    refine cW_seq ?_
    refine cW_region ?_
    refine wS_pure 1 [(10, .slice A1 (l1).length cap1)] (by kernel_rfl) ?_
    obtain ⟨y16, hy17, hm⟩ := bindE hm
    refine wS_calls (d := 11) (f := 106) (vs := [.pointer (some ⟨b5, 0, none⟩), .slice A1 (l1).length cap1]) (by kernel_rfl) ent106 (c_impl_Wiring_cost_bimplWiring hy17 F0_1 F0_2 F0_3 F8 F1) ?_
    rintro _ w18 ⟨rfl, hc19⟩
    replace F0_1 := F0_1.chg hc19 Dj.nil
    replace F0_2 := F0_2.chg hc19 Dj.nil
    replace F0_3 := F0_3.chg hc19 Dj.nil
    replace F1 := F1.chg hc19 Dj.nil
    replace F8 := F8.chg hc19 notNil
    replace hB := hB.inS hc19 inNil
    replace hZ := Nat.le_trans hZ hc19.size
    refine ⟨.int .i64 (y16), rfl, ?_⟩
    refine wS_pure 2 [(5, .bool (true)), (4, .int .i64 (y16))] (by kernel_rfl) ?_
    refine wS_end (by rfl) ?_
    refine eX_then ?_
    refine cW_ret ?_
    have hq : (some ((y16, true)) : Option ((Int) × (Bool))) = some _ := hm
    replace hq := someE hq
    subst hq
    refine eX_ret (vs := [.int .i64 (y16), .bool (true)]) [.tmp 4, .tmp 5] (by rfl) ⟨by (show lkE _ _ _ = _); kernel_rfl, ⟨by (show lkE _ _ _ = _); kernel_rfl, trivial⟩⟩ ?_
    exact ⟨rfl, hB⟩

set_option maxRecDepth 100000 in
/-- laws.FnExactCostOf -/
theorem c_laws_FnExactCostOf {w0 : World} {p0_0 : Int} {l0_1 : List (List (Int))} {A0_1 : Option Addr} {cap0_1 : Nat} {fp0_1 : List Nat} {l0_2 : List (List (Int))} {A0_2 : Option Addr} {cap0_2 : Nat} {fp0_2 : List Nat} {l0_3 : List (Int)} {A0_3 : Option Addr} {cap0_3 : Nat} {fp0_3 : List Nat} {l1 : List (Int)} {A1 : Option Addr} {cap1 : Nat} {fp1 : List Nat} {r : (Bool)} (hm : m_laws_FnExactCostOf p0_0 l0_1 l0_2 l0_3 l1 = some r) (F0_1 : SlR 1 encI w0 fp0_1 A0_1 l0_1) (F0_2 : SlR 1 encI w0 fp0_2 A0_2 l0_2) (F0_3 : Sl 1 encI w0 fp0_3 A0_3 l0_3) (F1 : Sl 1 encI w0 fp1 A1 l1) :
    Calls Try.prog 9 #[.agg #[.int .i64 (p0_0), .slice A0_1 (l0_1).length cap0_1, .slice A0_2 (l0_2).length cap0_2, .slice A0_3 (l0_3).length cap0_3], .slice A1 (l1).length cap1] w0 fun e w' => e = .returned (.bool (r)) ∧ Chg [] w0 w' := by
  have L0_1 := F0_1.low
  have L0_2 := F0_2.low
  have L0_3 := F0_3.low
  have L1 := F1.low
  have hB : Chg [] w0 w0 := Chg.refl _ _
  have hZ := Nat.le_refl w0.heap.size
  unfold m_laws_FnExactCostOf at hm
  refine enterE (N := 56) Try.func9 (by rfl) Try.ntmps9 (by simp) [(0, .agg #[.int .i64 (p0_0), .slice A0_1 (l0_1).length cap0_1, .slice A0_2 (l0_2).length cap0_2, .slice A0_3 (l0_3).length cap0_3]), (1, .slice A1 (l1).length cap1)] (by rfl) (by kernel_rfl) (fun a => ?_)
  refine cW_seq ?_
  refine cW_region ?_
  refine wS_box (d := 2) (T := 40) (x := .agg #[.int .i64 (p0_0), .slice A0_1 (l0_1).length cap0_1, .slice A0_2 (l0_2).length cap0_2, .slice A0_3 (l0_3).length cap0_3]) (by kernel_rfl) ?_
  intro b5 w6 G7 F8 hc9
  replace F8 : Cl w6 b5 40 [.int .i64 (p0_0), .slice A0_1 (l0_1).length cap0_1, .slice A0_2 (l0_2).length cap0_2, .slice A0_3 (l0_3).length cap0_3] := F8
  replace F0_1 := F0_1.chg hc9 Dj.nil
  replace F0_2 := F0_2.chg hc9 Dj.nil
  replace F0_3 := F0_3.chg hc9 Dj.nil
  replace F1 := F1.chg hc9 Dj.nil
  replace hB := hB.inS hc9 inNil
  replace G7 := Nat.le_trans hZ G7
  replace hZ := Nat.le_trans hZ hc9.size
  refine wS_pure 1 [(4, .bool (false))] (by kernel_rfl) ?_
  refine wS_end (by rfl) ?_
  refine eX_then ?_
  refine cW_seq ?_
  refine cW_seq ?_
  refine cW_region ?_
  refine wS_pure 3 [(14, .bool (decide ((((l1).length : Int)) > 1048576))), (13, .int .i64 (((l1).length : Int))), (12, .slice A1 (l1).length cap1)] (by kernel_rfl) ?_
  refine wS_end (by rfl) ?_
  refine eX_then ?_
  refine cW_cond (t := decide ((((l1).length : Int)) > 1048576)) (by kernel_rfl) (fun hb11 => ?_) (fun hb11 => ?_)
  · have hm := condT hb11 hm
    refine cW_seq ?_
    refine cW_region ?_
    refine wS_pure 1 [(4, .bool (true))] (by kernel_rfl) ?_
    refine wS_end (by rfl) ?_
    refine eX_then ?_
    refine cW_ret ?_
    refine eX_then_ret ?_
    have hq : (some true : Option ((Bool))) = some _ := hm
    replace hq := someE hq
    subst hq
    refine eX_ret (vs := [.bool (true)]) [.tmp 4] (by rfl) ⟨by (show lkE _ _ _ = _); kernel_rfl, trivial⟩ ?_
    exact ⟨rfl, hB⟩
  · have hm := condF hb11 hm
    refine cW_skip ?_
    refine eX_then ?_
    refine cW_seq ?_
    refine cW_region ?_
    refine wS_pure 1 [(5, .int .i64 (1048576))] (by kernel_rfl) ?_
    refine wS_end (by rfl) ?_
    refine eX_then ?_
    refine cW_seq ?_
    refine cW_region ?_
    refine wS_loadA (d := 15) (T := 40) (ad := ⟨b5, 0, none⟩) (vs := [.int .i64 (p0_0), .slice A0_1 (l0_1).length cap0_1, .slice A0_2 (l0_2).length cap0_2, .slice A0_3 (l0_3).length cap0_3]) (by kernel_rfl) vt40 (fun i u hu => box_cells F8 0 hu (by rfl)) ?_
    refine wS_pure 1 [(16, .int .i64 (1048576))] (by kernel_rfl) ?_
    obtain ⟨y12, hy13, hm⟩ := bindE hm
    refine wS_calls (d := 17) (f := 24) (vs := [.agg #[.int .i64 (p0_0), .slice A0_1 (l0_1).length cap0_1, .slice A0_2 (l0_2).length cap0_2, .slice A0_3 (l0_3).length cap0_3], .int .i64 (1048576)]) (by kernel_rfl) ent24 (c_laws_szWiring hy13 F0_1 F0_2 F0_3) ?_
    rintro _ w14 ⟨rfl, hc15⟩
    replace F0_1 := F0_1.chg hc15 Dj.nil
    replace F0_2 := F0_2.chg hc15 Dj.nil
    replace F0_3 := F0_3.chg hc15 Dj.nil
    replace F1 := F1.chg hc15 Dj.nil
    replace F8 := F8.chg hc15 notNil
    replace hB := hB.inS hc15 inNil
    replace hZ := Nat.le_trans hZ hc15.size
    refine ⟨.int .i64 (y12), rfl, ?_⟩
    refine wS_pure 1 [(5, .int .i64 (y12))] (by kernel_rfl) ?_
    refine wS_end (by rfl) ?_
    refine eX_then ?_
    refine cW_seq ?_
    refine cW_seq ?_
    refine cW_region ?_
    refine wS_pure 2 [(19, .bool (decide (y12 < 0))), (18, .int .i64 (y12))] (by kernel_rfl) ?_
    refine wS_end (by rfl) ?_
    refine eX_then ?_
    refine cW_cond (t := decide (y12 < 0)) (by kernel_rfl) (fun hb16 => ?_) (fun hb16 => ?_)
    · have hm := condT hb16 hm
      refine cW_seq ?_
      refine cW_region ?_
      refine wS_pure 1 [(4, .bool (true))] (by kernel_rfl) ?_
      refine wS_end (by rfl) ?_
      refine eX_then ?_
      refine cW_ret ?_
      refine eX_then_ret ?_
      have hq : (some true : Option ((Bool))) = some _ := hm
      replace hq := someE hq
      subst hq
      refine eX_ret (vs := [.bool (true)]) [.tmp 4] (by rfl) ⟨by (show lkE _ _ _ = _); kernel_rfl, trivial⟩ ?_
      exact ⟨rfl, hB⟩
    · have hm := condF hb16 hm
      refine cW_skip ?_
      refine eX_then ?_
      refine cW_seq ?_
      refine cW_region ?_
      refine wS_loadA (d := 21) (T := 40) (ad := ⟨b5, 0, none⟩) (vs := [.int .i64 (p0_0), .slice A0_1 (l0_1).length cap0_1, .slice A0_2 (l0_2).length cap0_2, .slice A0_3 (l0_3).length cap0_3]) (by kernel_rfl) vt40 (fun i u hu => box_cells F8 0 hu (by rfl)) ?_
      obtain ⟨y17, hy18, hm⟩ := bindE hm
      refine wS_calls (d := 22) (f := 26) (vs := [.agg #[.int .i64 (p0_0), .slice A0_1 (l0_1).length cap0_1, .slice A0_2 (l0_2).length cap0_2, .slice A0_3 (l0_3).length cap0_3]]) (by kernel_rfl) ent26 (c_laws_toWiring hy18 F0_1 F0_2 F0_3) ?_
      rintro _ w19 ⟨A21, cap22, fp23, fr26, A27, cap28, fp29, fr32, A33, cap34, fp35, rfl, F24, G25, F30, G31, F36, G37, D39, D40, D41, hc20⟩
      have D43 : Dj [b5] (fp23 ++ fr26) := Dj.of (lt1 F8.lt) G25
      have D45 : Dj [b5] (fp29 ++ fr32) := Dj.of (lt1 F8.lt) G31
      have D47 : Dj [b5] fp35 := Dj.of (lt1 F8.lt) G37
      replace F0_1 := F0_1.chg hc20 Dj.nil
      replace F0_2 := F0_2.chg hc20 Dj.nil
      replace F0_3 := F0_3.chg hc20 Dj.nil
      replace F1 := F1.chg hc20 Dj.nil
      replace F8 := F8.chg hc20 notNil
      replace hB := hB.inS hc20 inNil
      replace G25 := low_le hZ G25
      replace G31 := low_le hZ G31
      replace G37 := low_le hZ G37
      replace hZ := Nat.le_trans hZ hc20.size
      refine ⟨.agg #[.int .i64 (y17.1), .slice A21 (y17.2.1).length cap22, .slice A27 (y17.2.2.1).length cap28, .slice A33 (y17.2.2.2).length cap34], rfl, ?_⟩
      refine wS_pure 1 [(23, .slice A1 (l1).length cap1)] (by kernel_rfl) ?_
      obtain ⟨y48, hy49, hm⟩ := bindE hm
      refine wS_calls (d := 24) (f := 47) (vs := [.slice A1 (l1).length cap1]) (by kernel_rfl) ent47 (c_laws_toInt64S hy49 F1) ?_
      rintro _ w50 ⟨A52, cap53, fp54, rfl, F55, G56, hc51⟩
      have D59 : Dj [b5] fp54 := Dj.of (lt1 F8.lt) G56
      have D60 : Dj (fp23 ++ fr26) fp54 := Dj.of F24.low G56
      have D61 : Dj (fp29 ++ fr32) fp54 := Dj.of F30.low G56
      have D62 : Dj fp35 fp54 := Dj.of F36.low G56
      replace F0_1 := F0_1.chg hc51 Dj.nil
      replace F0_2 := F0_2.chg hc51 Dj.nil
      replace F0_3 := F0_3.chg hc51 Dj.nil
      replace F1 := F1.chg hc51 Dj.nil
      replace F8 := F8.chg hc51 notNil
      replace F24 := F24.chg hc51 Dj.nil
      replace F30 := F30.chg hc51 Dj.nil
      replace F36 := F36.chg hc51 Dj.nil
      replace hB := hB.inS hc51 inNil
      replace G56 := low_le hZ G56
      replace hZ := Nat.le_trans hZ hc51.size
      refine ⟨.slice A52 (y48).length cap53, rfl, ?_⟩
      obtain ⟨y63, hy64, hm⟩ := bindE hm
      refine wS_calls (d := 25) (f := 34) (vs := [.agg #[.int .i64 (y17.1), .slice A21 (y17.2.1).length cap22, .slice A27 (y17.2.2.1).length cap28, .slice A33 (y17.2.2.2).length cap34], .slice A52 (y48).length cap53]) (by kernel_rfl) ent34 (c_spec_CostOf hy64 (F24.slr encI_ok) (F30.slr encI_ok) (F36.sl encI_ok) (F55.sl encI_ok)) ?_
      rintro _ w65 ⟨rfl, hc66⟩
      replace F0_1 := F0_1.chg hc66 Dj.nil
      replace F0_2 := F0_2.chg hc66 Dj.nil
      replace F0_3 := F0_3.chg hc66 Dj.nil
      replace F1 := F1.chg hc66 Dj.nil
      replace F8 := F8.chg hc66 notNil
      replace F24 := F24.chg hc66 Dj.nil
      replace F30 := F30.chg hc66 Dj.nil
      replace F36 := F36.chg hc66 Dj.nil
      replace F55 := F55.chg hc66 Dj.nil
      replace hB := hB.inS hc66 inNil
      replace hZ := Nat.le_trans hZ hc66.size
      refine ⟨.tuple #[.int .i64 (y63.1), .bool (y63.2)], rfl, ?_⟩
      refine wS_pure 5 [(7, .bool (y63.2)), (6, .int .i64 (y63.1)), (27, .bool (y63.2)), (26, .int .i64 (y63.1)), (20, .tuple #[.int .i64 (y63.1), .bool (y63.2)])] (by kernel_rfl) ?_
      refine wS_end (by rfl) ?_
      refine eX_then ?_
      refine cW_seq ?_
      refine cW_region ?_
      refine wS_loadA (d := 28) (T := 40) (ad := ⟨b5, 0, none⟩) (vs := [.int .i64 (p0_0), .slice A0_1 (l0_1).length cap0_1, .slice A0_2 (l0_2).length cap0_2, .slice A0_3 (l0_3).length cap0_3]) (by kernel_rfl) vt40 (fun i u hu => box_cells F8 0 hu (by rfl)) ?_
      obtain ⟨y67, hy68, hm⟩ := bindE hm
      refine wS_calls (d := 29) (f := 26) (vs := [.agg #[.int .i64 (p0_0), .slice A0_1 (l0_1).length cap0_1, .slice A0_2 (l0_2).length cap0_2, .slice A0_3 (l0_3).length cap0_3]]) (by kernel_rfl) ent26 (c_laws_toWiring hy68 F0_1 F0_2 F0_3) ?_
      rintro _ w69 ⟨A71, cap72, fp73, fr76, A77, cap78, fp79, fr82, A83, cap84, fp85, rfl, F74, G75, F80, G81, F86, G87, D89, D90, D91, hc70⟩
      have D93 : Dj [b5] (fp73 ++ fr76) := Dj.of (lt1 F8.lt) G75
      have D94 : Dj (fp23 ++ fr26) (fp73 ++ fr76) := Dj.of F24.low G75
      have D95 : Dj (fp29 ++ fr32) (fp73 ++ fr76) := Dj.of F30.low G75
      have D96 : Dj fp35 (fp73 ++ fr76) := Dj.of F36.low G75
      have D97 : Dj fp54 (fp73 ++ fr76) := Dj.of F55.low G75
      have D99 : Dj [b5] (fp79 ++ fr82) := Dj.of (lt1 F8.lt) G81
      have D100 : Dj (fp23 ++ fr26) (fp79 ++ fr82) := Dj.of F24.low G81
      have D101 : Dj (fp29 ++ fr32) (fp79 ++ fr82) := Dj.of F30.low G81
      have D102 : Dj fp35 (fp79 ++ fr82) := Dj.of F36.low G81
      have D103 : Dj fp54 (fp79 ++ fr82) := Dj.of F55.low G81
      have D105 : Dj [b5] fp85 := Dj.of (lt1 F8.lt) G87
      have D106 : Dj (fp23 ++ fr26) fp85 := Dj.of F24.low G87
      have D107 : Dj (fp29 ++ fr32) fp85 := Dj.of F30.low G87
      have D108 : Dj fp35 fp85 := Dj.of F36.low G87
      have D109 : Dj fp54 fp85 := Dj.of F55.low G87
      replace F0_1 := F0_1.chg hc70 Dj.nil
      replace F0_2 := F0_2.chg hc70 Dj.nil
      replace F0_3 := F0_3.chg hc70 Dj.nil
      replace F1 := F1.chg hc70 Dj.nil
      replace F8 := F8.chg hc70 notNil
      replace F24 := F24.chg hc70 Dj.nil
      replace F30 := F30.chg hc70 Dj.nil
      replace F36 := F36.chg hc70 Dj.nil
      replace F55 := F55.chg hc70 Dj.nil
      replace hB := hB.inS hc70 inNil
      replace G75 := low_le hZ G75
      replace G81 := low_le hZ G81
      replace G87 := low_le hZ G87
      replace hZ := Nat.le_trans hZ hc70.size
      refine ⟨.agg #[.int .i64 (y67.1), .slice A71 (y67.2.1).length cap72, .slice A77 (y67.2.2.1).length cap78, .slice A83 (y67.2.2.2).length cap84], rfl, ?_⟩
      refine wS_alloc (d := 8) (T := 43) (z := .agg #[.int .i64 (0), .slice none 0 0, .slice none 0 0, .slice none 0 0]) (by kernel_rfl) (by kernel_rfl) ?_
      intro b110 w111 G112 F113 hc114
      replace F113 : Cl w111 b110 43 [.int .i64 (0), .slice none 0 0, .slice none 0 0, .slice none 0 0] := F113
      have D116 : Dj [b5] [b110] := Dj.of (lt1 F8.lt) (low1 G112)
      have D117 : Dj (fp23 ++ fr26) [b110] := Dj.of F24.low (low1 G112)
      have D118 : Dj (fp29 ++ fr32) [b110] := Dj.of F30.low (low1 G112)
      have D119 : Dj fp35 [b110] := Dj.of F36.low (low1 G112)
      have D120 : Dj fp54 [b110] := Dj.of F55.low (low1 G112)
      have D121 : Dj (fp73 ++ fr76) [b110] := Dj.of F74.low (low1 G112)
      have D122 : Dj (fp79 ++ fr82) [b110] := Dj.of F80.low (low1 G112)
      have D123 : Dj fp85 [b110] := Dj.of F86.low (low1 G112)
      replace F0_1 := F0_1.chg hc114 Dj.nil
      replace F0_2 := F0_2.chg hc114 Dj.nil
      replace F0_3 := F0_3.chg hc114 Dj.nil
      replace F1 := F1.chg hc114 Dj.nil
      replace F8 := F8.chg hc114 notNil
      replace F24 := F24.chg hc114 Dj.nil
      replace F30 := F30.chg hc114 Dj.nil
      replace F36 := F36.chg hc114 Dj.nil
      replace F55 := F55.chg hc114 Dj.nil
      replace F74 := F74.chg hc114 Dj.nil
      replace F80 := F80.chg hc114 Dj.nil
      replace F86 := F86.chg hc114 Dj.nil
      replace hB := hB.inS hc114 inNil
      replace G112 := Nat.le_trans hZ G112
      replace hZ := Nat.le_trans hZ hc114.size
      refine wS_store (T := 43) (g := b110) (o := 0) (ad := ⟨b110, 0, none⟩) (v := .agg #[.int .i64 (y67.1), .slice A71 (y67.2.1).length cap72, .slice A77 (y67.2.2.1).length cap78, .slice A83 (y67.2.2.2).length cap84]) (vs := [.int .i64 (y67.1), .slice A71 (y67.2.1).length cap72, .slice A77 (y67.2.2.1).length cap78, .slice A83 (y67.2.2.2).length cap84]) (by kernel_rfl) (by rfl) sz43 (by rfl) (by rfl) F113 (by simp only [List.length_cons, List.length_nil]; omega) ?_
      intro w124 F125 hc126
      replace F0_1 := F0_1.chg hc126 (Dj.of L0_1 (low1 G112))
      replace F0_2 := F0_2.chg hc126 (Dj.of L0_2 (low1 G112))
      replace F0_3 := F0_3.chg hc126 (Dj.of L0_3 (low1 G112))
      replace F1 := F1.chg hc126 (Dj.of L1 (low1 G112))
      replace F8 := F8.chg hc126 (dj1 D116)
      replace F24 := F24.chg hc126 D117
      replace F30 := F30.chg hc126 D118
      replace F36 := F36.chg hc126 D119
      replace F55 := F55.chg hc126 D120
      replace F74 := F74.chg hc126 D121
      replace F80 := F80.chg hc126 D122
      replace F86 := F86.chg hc126 D123
      replace hB := hB.inS hc126 (inLow (low1 G112))
      replace hZ := Nat.le_trans hZ hc126.size
      replace F125 : Cl w124 b110 43 [.int .i64 (y67.1), .slice A71 (y67.2.1).length cap72, .slice A77 (y67.2.2.1).length cap78, .slice A83 (y67.2.2.2).length cap84] := F125
      clear F113
      refine wS_end (by rfl) ?_
      refine eX_then ?_
      refine cW_prune [(1, .slice A1 (l1).length cap1), (2, .pointer (some ⟨b5, 0, none⟩)), (6, .int .i64 (y63.1)), (7, .bool (y63.2)), (8, .pointer (some ⟨b110, 0, none⟩))] (by kernel_rfl) (by kernel_rfl) (fun a127 => ?_)
      refine cW_seq ?_
      refine cW_region ?_
      refine wS_pure 1 [(30, .slice A1 (l1).length cap1)] (by kernel_rfl) ?_
      obtain ⟨y128, hy129, hm⟩ := bindE hm
      refine wS_calls (d := 31) (f := 47) (vs := [.slice A1 (l1).length cap1]) (by kernel_rfl) ent47 (c_laws_toInt64S hy129 F1) ?_
      rintro _ w130 ⟨A132, cap133, fp134, rfl, F135, G136, hc131⟩
      have D139 : Dj [b5] fp134 := Dj.of (lt1 F8.lt) G136
      have D140 : Dj (fp23 ++ fr26) fp134 := Dj.of F24.low G136
      have D141 : Dj (fp29 ++ fr32) fp134 := Dj.of F30.low G136
      have D142 : Dj fp35 fp134 := Dj.of F36.low G136
      have D143 : Dj fp54 fp134 := Dj.of F55.low G136
      have D144 : Dj (fp73 ++ fr76) fp134 := Dj.of F74.low G136
      have D145 : Dj (fp79 ++ fr82) fp134 := Dj.of F80.low G136
      have D146 : Dj fp85 fp134 := Dj.of F86.low G136
      have D147 : Dj [b110] fp134 := Dj.of (lt1 F125.lt) G136
      replace F0_1 := F0_1.chg hc131 Dj.nil
      replace F0_2 := F0_2.chg hc131 Dj.nil
      replace F0_3 := F0_3.chg hc131 Dj.nil
      replace F1 := F1.chg hc131 Dj.nil
      replace F8 := F8.chg hc131 notNil
      replace F24 := F24.chg hc131 Dj.nil
      replace F30 := F30.chg hc131 Dj.nil
      replace F36 := F36.chg hc131 Dj.nil
      replace F55 := F55.chg hc131 Dj.nil
      replace F74 := F74.chg hc131 Dj.nil
      replace F80 := F80.chg hc131 Dj.nil
      replace F86 := F86.chg hc131 Dj.nil
      replace F125 := F125.chg hc131 notNil
      replace hB := hB.inS hc131 inNil
      replace G136 := low_le hZ G136
      replace hZ := Nat.le_trans hZ hc131.size
      refine ⟨.slice A132 (y128).length cap133, rfl, ?_⟩
      refine wS_pure 1 [(9, .slice A132 (y128).length cap133)] (by kernel_rfl) ?_
      refine wS_end (by rfl) ?_
      refine eX_then ?_
      refine cW_seq ?_
      refine cW_region ?_
      refine wS_loadA (d := 33) (T := 43) (ad := ⟨b110, 0, none⟩) (vs := [.int .i64 (y67.1), .slice A71 (y67.2.1).length cap72, .slice A77 (y67.2.2.1).length cap78, .slice A83 (y67.2.2.2).length cap84]) (by kernel_rfl) vt43 (fun i u hu => box_cells F125 0 hu (by rfl)) ?_
      refine wS_pure 1 [(34, .slice A132 (y128).length cap133)] (by kernel_rfl) ?_
      obtain ⟨y148, hy149, hm⟩ := bindE hm
      refine wS_calls (d := 35) (f := 52) (vs := [.agg #[.int .i64 (y67.1), .slice A71 (y67.2.1).length cap72, .slice A77 (y67.2.2.1).length cap78, .slice A83 (y67.2.2.2).length cap84], .slice A132 (y128).length cap133]) (by kernel_rfl) ent52 (c_impl_CostOf hy149 (F74.slr encI_ok) (F80.slr encI_ok) (F86.sl encI_ok) (F135.sl encI_ok)) ?_
      rintro _ w150 ⟨rfl, hc151⟩
      replace F0_1 := F0_1.chg hc151 Dj.nil
      replace F0_2 := F0_2.chg hc151 Dj.nil
      replace F0_3 := F0_3.chg hc151 Dj.nil
      replace F1 := F1.chg hc151 Dj.nil
      replace F8 := F8.chg hc151 notNil
      replace F24 := F24.chg hc151 Dj.nil
      replace F30 := F30.chg hc151 Dj.nil
      replace F36 := F36.chg hc151 Dj.nil
      replace F55 := F55.chg hc151 Dj.nil
      replace F74 := F74.chg hc151 Dj.nil
      replace F80 := F80.chg hc151 Dj.nil
      replace F86 := F86.chg hc151 Dj.nil
      replace F125 := F125.chg hc151 notNil
      replace F135 := F135.chg hc151 Dj.nil
      replace hB := hB.inS hc151 inNil
      replace hZ := Nat.le_trans hZ hc151.size
      refine ⟨.tuple #[.int .i64 (y148.1), .bool (y148.2)], rfl, ?_⟩
      refine wS_pure 5 [(11, .bool (y148.2)), (10, .int .i64 (y148.1)), (37, .bool (y148.2)), (36, .int .i64 (y148.1)), (32, .tuple #[.int .i64 (y148.1), .bool (y148.2)])] (by kernel_rfl) ?_
      refine wS_end (by rfl) ?_
      refine eX_then ?_
      refine cW_seq ?_
      refine cW_seq ?_
      refine cW_region ?_
      refine wS_pure 4 [(41, .bool (y148.1 != y63.1)), (40, .bool (y148.1 != y63.1)), (39, .int .i64 (y63.1)), (38, .int .i64 (y148.1))] (by kernel_rfl) ?_
      refine wS_bool (y148.1 != y63.1) (fun hb152 => ?_) (fun hb152 => ?_)
      · have hm := condT hb152 hm
        rewrite [hb152]
        refine wS_pure 4 [(45, .bool (true)), (44, undef), (43, undef), (42, undef)] (by kernel_rfl) ?_
        refine wS_end (by rfl) ?_
        refine eX_then ?_
        refine cW_prune [(1, .slice A1 (l1).length cap1), (2, .pointer (some ⟨b5, 0, none⟩)), (8, .pointer (some ⟨b110, 0, none⟩)), (9, .slice A132 (y128).length cap133), (45, .bool (true))] (by kernel_rfl) (by kernel_rfl) (fun a153 => ?_)
        refine cW_cond_t (by kernel_rfl) ?_
        refine cW_seq ?_
        refine cW_region ?_
        refine wS_pure 1 [(4, .bool (false))] (by kernel_rfl) ?_
        refine wS_end (by rfl) ?_
        refine eX_then ?_
        refine cW_ret ?_
        refine eX_then_ret ?_
        have hq : (some false : Option ((Bool))) = some _ := hm
        replace hq := someE hq
        subst hq
        refine eX_ret (vs := [.bool (false)]) [.tmp 4] (by rfl) ⟨by (show lkE _ _ _ = _); kernel_rfl, trivial⟩ ?_
        exact ⟨rfl, hB⟩
      · have hm := condF hb152 hm
        rewrite [hb152]
        refine wS_pure 4 [(45, .bool (!(y148.2 == y63.2))), (44, .bool (!(y148.2 == y63.2))), (43, .bool (y63.2)), (42, .bool (y148.2))] (by kernel_rfl) ?_
        refine wS_end (by rfl) ?_
        refine eX_then ?_
        refine cW_prune [(1, .slice A1 (l1).length cap1), (2, .pointer (some ⟨b5, 0, none⟩)), (8, .pointer (some ⟨b110, 0, none⟩)), (9, .slice A132 (y128).length cap133), (45, .bool (!(y148.2 == y63.2)))] (by kernel_rfl) (by kernel_rfl) (fun a154 => ?_)
        refine cW_cond (t := !(y148.2 == y63.2)) (by kernel_rfl) (fun hb155 => ?_) (fun hb155 => ?_)
        · have hm := condT hb155 hm
          refine cW_seq ?_
          refine cW_region ?_
          refine wS_pure 1 [(4, .bool (false))] (by kernel_rfl) ?_
          refine wS_end (by rfl) ?_
          refine eX_then ?_
          refine cW_ret ?_
          refine eX_then_ret ?_
          have hq : (some false : Option ((Bool))) = some _ := hm
          replace hq := someE hq
          subst hq
          refine eX_ret (vs := [.bool (false)]) [.tmp 4] (by rfl) ⟨by (show lkE _ _ _ = _); kernel_rfl, trivial⟩ ?_
          exact ⟨rfl, hB⟩
        · have hm := condF hb155 hm
          refine cW_skip ?_
          refine eX_then ?_
          refine cW_seq ?_
          refine cW_seq ?_
          refine cW_drawnTail [] 3 (by kernel_rfl) (by kernel_rfl) (fun w234 hc235 => ?_)
          replace F0_1 := F0_1.chg hc235 Dj.nil
          replace F0_2 := F0_2.chg hc235 Dj.nil
          replace F0_3 := F0_3.chg hc235 Dj.nil
          replace F1 := F1.chg hc235 Dj.nil
          replace F8 := F8.chg hc235 notNil
          replace F24 := F24.chg hc235 Dj.nil
          replace F30 := F30.chg hc235 Dj.nil
          replace F36 := F36.chg hc235 Dj.nil
          replace F55 := F55.chg hc235 Dj.nil
          replace F74 := F74.chg hc235 Dj.nil
          replace F80 := F80.chg hc235 Dj.nil
          replace F86 := F86.chg hc235 Dj.nil
          replace F125 := F125.chg hc235 notNil
          replace F135 := F135.chg hc235 Dj.nil
          replace hB := hB.inS hc235 inNil
          replace hZ := Nat.le_trans hZ hc235.size
          have hS := Chg.refl [] w234
          have Z236 := F0_1
          have Z237 := F0_2
          have Z238 := F0_3
          have Z239 := F1
          have Z240 := F8
          have Z241 := F24
          have Z242 := F30
          have Z243 := F36
          have Z244 := F55
          have Z245 := F74
          have Z246 := F80
          have Z247 := F86
          have Z248 := F125
          have Z249 := F135
          refine wH_loadA (i := 0) (d := 46) (T := 43) (ad := ⟨b110, 0, none⟩) (vs := [.int .i64 (y67.1), .slice A71 (y67.2.1).length cap72, .slice A77 (y67.2.2.1).length cap78, .slice A83 (y67.2.2.2).length cap84]) (by kernel_rfl) (qT (qT (qT qZ))) (by kernel_rfl) (by kernel_rfl) vt43 (fun W hW i u hu => box_cells (Z248.chg hW notNil) 0 hu (by rfl)) ?_
          refine wH_loadA (i := 1) (d := 47) (T := 40) (ad := ⟨b5, 0, none⟩) (vs := [.int .i64 (p0_0), .slice A0_1 (l0_1).length cap0_1, .slice A0_2 (l0_2).length cap0_2, .slice A0_3 (l0_3).length cap0_3]) (by kernel_rfl) (qT (qT (qT qZ))) (by kernel_rfl) (by kernel_rfl) vt40 (fun W hW i u hu => box_cells (Z240.chg hW notNil) 0 hu (by rfl)) ?_
          refine wH_all [2] (by rfl) (by kernel_rfl) (by simp) ⟨⟨by kernel_rfl, ?_⟩, trivial⟩
          obtain ⟨y250, hy251, hm⟩ := bindE hm
          refine wS_calls (d := 48) (f := 26) (vs := [.agg #[.int .i64 (p0_0), .slice A0_1 (l0_1).length cap0_1, .slice A0_2 (l0_2).length cap0_2, .slice A0_3 (l0_3).length cap0_3]]) (by kernel_rfl) ent26 (c_laws_toWiring hy251 F0_1 F0_2 F0_3) ?_
          rintro _ w252 ⟨A254, cap255, fp256, fr259, A260, cap261, fp262, fr265, A266, cap267, fp268, rfl, F257, G258, F263, G264, F269, G270, D272, D273, D274, hc253⟩
          have D276 : Dj [b5] (fp256 ++ fr259) := Dj.of (lt1 F8.lt) G258
          have D277 : Dj (fp23 ++ fr26) (fp256 ++ fr259) := Dj.of F24.low G258
          have D278 : Dj (fp29 ++ fr32) (fp256 ++ fr259) := Dj.of F30.low G258
          have D279 : Dj fp35 (fp256 ++ fr259) := Dj.of F36.low G258
          have D280 : Dj fp54 (fp256 ++ fr259) := Dj.of F55.low G258
          have D281 : Dj (fp73 ++ fr76) (fp256 ++ fr259) := Dj.of F74.low G258
          have D282 : Dj (fp79 ++ fr82) (fp256 ++ fr259) := Dj.of F80.low G258
          have D283 : Dj fp85 (fp256 ++ fr259) := Dj.of F86.low G258
          have D284 : Dj [b110] (fp256 ++ fr259) := Dj.of (lt1 F125.lt) G258
          have D285 : Dj fp134 (fp256 ++ fr259) := Dj.of F135.low G258
          have D287 : Dj [b5] (fp262 ++ fr265) := Dj.of (lt1 F8.lt) G264
          have D288 : Dj (fp23 ++ fr26) (fp262 ++ fr265) := Dj.of F24.low G264
          have D289 : Dj (fp29 ++ fr32) (fp262 ++ fr265) := Dj.of F30.low G264
          have D290 : Dj fp35 (fp262 ++ fr265) := Dj.of F36.low G264
          have D291 : Dj fp54 (fp262 ++ fr265) := Dj.of F55.low G264
          have D292 : Dj (fp73 ++ fr76) (fp262 ++ fr265) := Dj.of F74.low G264
          have D293 : Dj (fp79 ++ fr82) (fp262 ++ fr265) := Dj.of F80.low G264
          have D294 : Dj fp85 (fp262 ++ fr265) := Dj.of F86.low G264
          have D295 : Dj [b110] (fp262 ++ fr265) := Dj.of (lt1 F125.lt) G264
          have D296 : Dj fp134 (fp262 ++ fr265) := Dj.of F135.low G264
          have D298 : Dj [b5] fp268 := Dj.of (lt1 F8.lt) G270
          have D299 : Dj (fp23 ++ fr26) fp268 := Dj.of F24.low G270
          have D300 : Dj (fp29 ++ fr32) fp268 := Dj.of F30.low G270
          have D301 : Dj fp35 fp268 := Dj.of F36.low G270
          have D302 : Dj fp54 fp268 := Dj.of F55.low G270
          have D303 : Dj (fp73 ++ fr76) fp268 := Dj.of F74.low G270
          have D304 : Dj (fp79 ++ fr82) fp268 := Dj.of F80.low G270
          have D305 : Dj fp85 fp268 := Dj.of F86.low G270
          have D306 : Dj [b110] fp268 := Dj.of (lt1 F125.lt) G270
          have D307 : Dj fp134 fp268 := Dj.of F135.low G270
          replace F0_1 := F0_1.chg hc253 Dj.nil
          replace F0_2 := F0_2.chg hc253 Dj.nil
          replace F0_3 := F0_3.chg hc253 Dj.nil
          replace F1 := F1.chg hc253 Dj.nil
          replace F8 := F8.chg hc253 notNil
          replace F24 := F24.chg hc253 Dj.nil
          replace F30 := F30.chg hc253 Dj.nil
          replace F36 := F36.chg hc253 Dj.nil
          replace F55 := F55.chg hc253 Dj.nil
          replace F74 := F74.chg hc253 Dj.nil
          replace F80 := F80.chg hc253 Dj.nil
          replace F86 := F86.chg hc253 Dj.nil
          replace F125 := F125.chg hc253 notNil
          replace F135 := F135.chg hc253 Dj.nil
          replace hB := hB.inS hc253 inNil
          have hSz := hS
          replace hS := hS.inS hc253 inNil
          replace G258 := low_le hZ G258
          replace G264 := low_le hZ G264
          replace G270 := low_le hZ G270
          replace hZ := Nat.le_trans hZ hc253.size
          refine ⟨.agg #[.int .i64 (y250.1), .slice A254 (y250.2.1).length cap255, .slice A260 (y250.2.2.1).length cap261, .slice A266 (y250.2.2.2).length cap267], rfl, ?_⟩
          refine wS_end (by kernel_rfl) ?_
          refine eX_KH hS ?_
          refine wH_done (by kernel_rfl) ?_
          refine eX_tail ?_
          obtain ⟨y308, hy309, hm⟩ := bindE hm
          refine wS_calls (d := 49) (f := 28) (vs := [.agg #[.int .i64 (y67.1), .slice A71 (y67.2.1).length cap72, .slice A77 (y67.2.2.1).length cap78, .slice A83 (y67.2.2.2).length cap84], .agg #[.int .i64 (y250.1), .slice A254 (y250.2.1).length cap255, .slice A260 (y250.2.2.1).length cap261, .slice A266 (y250.2.2.2).length cap267]]) (by kernel_rfl) ent28 (c_laws_eqWiring hy309 (F74.slr encI_ok) (F80.slr encI_ok) (F86.sl encI_ok) (F257.slr encI_ok) (F263.slr encI_ok) (F269.sl encI_ok)) ?_
          rintro _ w310 ⟨rfl, hc311⟩
          replace F0_1 := F0_1.chg hc311 Dj.nil
          replace F0_2 := F0_2.chg hc311 Dj.nil
          replace F0_3 := F0_3.chg hc311 Dj.nil
          replace F1 := F1.chg hc311 Dj.nil
          replace F8 := F8.chg hc311 notNil
          replace F24 := F24.chg hc311 Dj.nil
          replace F30 := F30.chg hc311 Dj.nil
          replace F36 := F36.chg hc311 Dj.nil
          replace F55 := F55.chg hc311 Dj.nil
          replace F74 := F74.chg hc311 Dj.nil
          replace F80 := F80.chg hc311 Dj.nil
          replace F86 := F86.chg hc311 Dj.nil
          replace F125 := F125.chg hc311 notNil
          replace F135 := F135.chg hc311 Dj.nil
          replace F257 := F257.chg hc311 Dj.nil
          replace F263 := F263.chg hc311 Dj.nil
          replace F269 := F269.chg hc311 Dj.nil
          replace hB := hB.inS hc311 inNil
          replace hZ := Nat.le_trans hZ hc311.size
          refine ⟨.bool (y308), rfl, ?_⟩
          refine wS_pure 1 [(50, .bool (!y308))] (by kernel_rfl) ?_
          refine wS_end (by rfl) ?_
          refine eX_then ?_
          refine cW_cond (t := !y308) (by kernel_rfl) (fun hb312 => ?_) (fun hb312 => ?_)
          · have hm := condT hb312 hm
            refine cW_seq ?_
            refine cW_region ?_
            refine wS_pure 1 [(4, .bool (false))] (by kernel_rfl) ?_
            refine wS_end (by rfl) ?_
            refine eX_then ?_
            refine cW_ret ?_
            refine eX_then_ret ?_
            have hq : (some false : Option ((Bool))) = some _ := hm
            replace hq := someE hq
            subst hq
            refine eX_ret (vs := [.bool (false)]) [.tmp 4] (by rfl) ⟨by (show lkE _ _ _ = _); kernel_rfl, trivial⟩ ?_
            exact ⟨rfl, hB⟩
          · have hm := condF hb312 hm
            refine cW_skip ?_
            refine eX_then ?_
            refine cW_seq ?_
            refine cW_seq ?_
            refine cW_region ?_
            refine wS_pure 2 [(52, .slice A1 (l1).length cap1), (51, .slice A132 (y128).length cap133)] (by kernel_rfl) ?_
            obtain ⟨y313, hy314, hm⟩ := bindE hm
            refine wS_calls (d := 53) (f := 47) (vs := [.slice A1 (l1).length cap1]) (by kernel_rfl) ent47 (c_laws_toInt64S hy314 F1) ?_
            rintro _ w315 ⟨A317, cap318, fp319, rfl, F320, G321, hc316⟩
            have D324 : Dj [b5] fp319 := Dj.of (lt1 F8.lt) G321
            have D325 : Dj (fp23 ++ fr26) fp319 := Dj.of F24.low G321
            have D326 : Dj (fp29 ++ fr32) fp319 := Dj.of F30.low G321
            have D327 : Dj fp35 fp319 := Dj.of F36.low G321
            have D328 : Dj fp54 fp319 := Dj.of F55.low G321
            have D329 : Dj (fp73 ++ fr76) fp319 := Dj.of F74.low G321
            have D330 : Dj (fp79 ++ fr82) fp319 := Dj.of F80.low G321
            have D331 : Dj fp85 fp319 := Dj.of F86.low G321
            have D332 : Dj [b110] fp319 := Dj.of (lt1 F125.lt) G321
            have D333 : Dj fp134 fp319 := Dj.of F135.low G321
            have D334 : Dj (fp256 ++ fr259) fp319 := Dj.of F257.low G321
            have D335 : Dj (fp262 ++ fr265) fp319 := Dj.of F263.low G321
            have D336 : Dj fp268 fp319 := Dj.of F269.low G321
            replace F0_1 := F0_1.chg hc316 Dj.nil
            replace F0_2 := F0_2.chg hc316 Dj.nil
            replace F0_3 := F0_3.chg hc316 Dj.nil
            replace F1 := F1.chg hc316 Dj.nil
            replace F8 := F8.chg hc316 notNil
            replace F24 := F24.chg hc316 Dj.nil
            replace F30 := F30.chg hc316 Dj.nil
            replace F36 := F36.chg hc316 Dj.nil
            replace F55 := F55.chg hc316 Dj.nil
            replace F74 := F74.chg hc316 Dj.nil
            replace F80 := F80.chg hc316 Dj.nil
            replace F86 := F86.chg hc316 Dj.nil
            replace F125 := F125.chg hc316 notNil
            replace F135 := F135.chg hc316 Dj.nil
            replace F257 := F257.chg hc316 Dj.nil
            replace F263 := F263.chg hc316 Dj.nil
            replace F269 := F269.chg hc316 Dj.nil
            replace hB := hB.inS hc316 inNil
            replace G321 := low_le hZ G321
            replace hZ := Nat.le_trans hZ hc316.size
            refine ⟨.slice A317 (y313).length cap318, rfl, ?_⟩
            obtain ⟨y337, hy338, hm⟩ := bindE hm
            refine wS_calls (d := 54) (f := 48) (vs := [.slice A132 (y128).length cap133, .slice A317 (y313).length cap318]) (by kernel_rfl) ent48 (c_laws_eqInt64S hy338 (F135.sl encI_ok) (F320.sl encI_ok)) ?_
            rintro _ w339 ⟨rfl, hc340⟩
            replace F0_1 := F0_1.chg hc340 Dj.nil
            replace F0_2 := F0_2.chg hc340 Dj.nil
            replace F0_3 := F0_3.chg hc340 Dj.nil
            replace F1 := F1.chg hc340 Dj.nil
            replace F8 := F8.chg hc340 notNil
            replace F24 := F24.chg hc340 Dj.nil
            replace F30 := F30.chg hc340 Dj.nil
            replace F36 := F36.chg hc340 Dj.nil
            replace F55 := F55.chg hc340 Dj.nil
            replace F74 := F74.chg hc340 Dj.nil
            replace F80 := F80.chg hc340 Dj.nil
            replace F86 := F86.chg hc340 Dj.nil
            replace F125 := F125.chg hc340 notNil
            replace F135 := F135.chg hc340 Dj.nil
            replace F257 := F257.chg hc340 Dj.nil
            replace F263 := F263.chg hc340 Dj.nil
            replace F269 := F269.chg hc340 Dj.nil
            replace F320 := F320.chg hc340 Dj.nil
            replace hB := hB.inS hc340 inNil
            replace hZ := Nat.le_trans hZ hc340.size
            refine ⟨.bool (y337), rfl, ?_⟩
            refine wS_pure 1 [(55, .bool (!y337))] (by kernel_rfl) ?_
            refine wS_end (by rfl) ?_
            refine eX_then ?_
            refine cW_cond (t := !y337) (by kernel_rfl) (fun hb341 => ?_) (fun hb341 => ?_)
            · have hm := condT hb341 hm
              refine cW_seq ?_
              refine cW_region ?_
              refine wS_pure 1 [(4, .bool (false))] (by kernel_rfl) ?_
              refine wS_end (by rfl) ?_
              refine eX_then ?_
              refine cW_ret ?_
              refine eX_then_ret ?_
              have hq : (some false : Option ((Bool))) = some _ := hm
              replace hq := someE hq
              subst hq
              refine eX_ret (vs := [.bool (false)]) [.tmp 4] (by rfl) ⟨by (show lkE _ _ _ = _); kernel_rfl, trivial⟩ ?_
              exact ⟨rfl, hB⟩
            · have hm := condF hb341 hm
              refine cW_skip ?_
              refine eX_then ?_
              refine cW_seq ?_
              refine cW_region ?_
              refine wS_pure 1 [(4, .bool (true))] (by kernel_rfl) ?_
              refine wS_end (by rfl) ?_
              refine eX_then ?_
              refine cW_ret ?_
              have hq : (some true : Option ((Bool))) = some _ := hm
              replace hq := someE hq
              subst hq
              refine eX_ret (vs := [.bool (true)]) [.tmp 4] (by rfl) ⟨by (show lkE _ _ _ = _); kernel_rfl, trivial⟩ ?_
              exact ⟨rfl, hB⟩

end Go.Proofs.Ytajnjbmniobjhaa
