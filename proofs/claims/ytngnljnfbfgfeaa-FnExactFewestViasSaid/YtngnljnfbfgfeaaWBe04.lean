/- Printed walks: laws.eqWiring, laws.FnExactCountBest, spec.FewestVias, laws.markWiring, laws.FnExactFewestVias. -/
import Derived.Test.YtngnljnfbfgfeaaProg
import Derived.Test.YtngnljnfbfgfeaaWBe03
set_option linter.unusedSimpArgs false
set_option linter.unusedVariables false
namespace Go.Proofs.Ytngnljnfbfgfeaa
open Go.RowKit
attribute [local irreducible] wS cW eX wH

theorem ent13 : Ent Try.prog 13 := fun _ => by kernel_rfl
theorem ent15 : Ent Try.prog 15 := fun _ => by kernel_rfl
theorem ent32 : Ent Try.prog 32 := fun _ => by kernel_rfl
theorem ent35 : Ent Try.prog 35 := fun _ => by kernel_rfl
theorem ent37 : Ent Try.prog 37 := fun _ => by kernel_rfl
theorem ent38 : Ent Try.prog 38 := fun _ => by kernel_rfl
theorem ent39 : Ent Try.prog 39 := fun _ => by kernel_rfl
theorem ent40 : Ent Try.prog 40 := fun _ => by kernel_rfl
theorem ent41 : Ent Try.prog 41 := fun _ => by kernel_rfl
theorem ent43 : Ent Try.prog 43 := fun _ => by kernel_rfl
theorem ent45 : Ent Try.prog 45 := fun _ => by kernel_rfl
theorem vt59 : VarTy Try.prog 59 4 true := ⟨by kernel_rfl, by kernel_rfl⟩

set_option maxRecDepth 100000 in
/-- laws.eqWiring -/
theorem c_laws_eqWiring {w0 : World} {p0_0 : Int} {l0_1 : List (List (Int))} {A0_1 : Option Addr} {cap0_1 : Nat} {fp0_1 : List Nat} {l0_2 : List (List (Int))} {A0_2 : Option Addr} {cap0_2 : Nat} {fp0_2 : List Nat} {l0_3 : List (Int)} {A0_3 : Option Addr} {cap0_3 : Nat} {fp0_3 : List Nat} {p1_0 : Int} {l1_1 : List (List (Int))} {A1_1 : Option Addr} {cap1_1 : Nat} {fp1_1 : List Nat} {l1_2 : List (List (Int))} {A1_2 : Option Addr} {cap1_2 : Nat} {fp1_2 : List Nat} {l1_3 : List (Int)} {A1_3 : Option Addr} {cap1_3 : Nat} {fp1_3 : List Nat} {r : (Bool)} (hm : m_laws_eqWiring p0_0 l0_1 l0_2 l0_3 p1_0 l1_1 l1_2 l1_3 = some r) (F0_1 : SlR 1 encI w0 fp0_1 A0_1 l0_1) (F0_2 : SlR 1 encI w0 fp0_2 A0_2 l0_2) (F0_3 : Sl 1 encI w0 fp0_3 A0_3 l0_3) (F1_1 : SlR 1 encI w0 fp1_1 A1_1 l1_1) (F1_2 : SlR 1 encI w0 fp1_2 A1_2 l1_2) (F1_3 : Sl 1 encI w0 fp1_3 A1_3 l1_3) :
    Calls Try.prog 40 #[.agg #[.int .i64 (p0_0), .slice A0_1 (l0_1).length cap0_1, .slice A0_2 (l0_2).length cap0_2, .slice A0_3 (l0_3).length cap0_3], .agg #[.int .i64 (p1_0), .slice A1_1 (l1_1).length cap1_1, .slice A1_2 (l1_2).length cap1_2, .slice A1_3 (l1_3).length cap1_3]] w0 fun e w' => e = .returned (.bool (r)) ∧ Chg [] w0 w' := by
  have L0_1 := F0_1.low
  have L0_2 := F0_2.low
  have L0_3 := F0_3.low
  have L1_1 := F1_1.low
  have L1_2 := F1_2.low
  have L1_3 := F1_3.low
  have hB : Chg [] w0 w0 := Chg.refl _ _
  have hZ := Nat.le_refl w0.heap.size
  unfold m_laws_eqWiring at hm
  refine enterE (N := 28) Try.func40 (by rfl) Try.ntmps40 (by simp) [(0, .agg #[.int .i64 (p0_0), .slice A0_1 (l0_1).length cap0_1, .slice A0_2 (l0_2).length cap0_2, .slice A0_3 (l0_3).length cap0_3]), (1, .agg #[.int .i64 (p1_0), .slice A1_1 (l1_1).length cap1_1, .slice A1_2 (l1_2).length cap1_2, .slice A1_3 (l1_3).length cap1_3])] (by rfl) (by kernel_rfl) (fun a => ?_)
  refine cW_seq ?_
  refine cW_region ?_
  refine wS_box (d := 2) (T := 27) (x := .agg #[.int .i64 (p0_0), .slice A0_1 (l0_1).length cap0_1, .slice A0_2 (l0_2).length cap0_2, .slice A0_3 (l0_3).length cap0_3]) (by kernel_rfl) ?_
  intro b7 w8 G9 F10 hc11
  replace F10 : Cl w8 b7 27 [.int .i64 (p0_0), .slice A0_1 (l0_1).length cap0_1, .slice A0_2 (l0_2).length cap0_2, .slice A0_3 (l0_3).length cap0_3] := F10
  replace F0_1 := F0_1.chg hc11 Dj.nil
  replace F0_2 := F0_2.chg hc11 Dj.nil
  replace F0_3 := F0_3.chg hc11 Dj.nil
  replace F1_1 := F1_1.chg hc11 Dj.nil
  replace F1_2 := F1_2.chg hc11 Dj.nil
  replace F1_3 := F1_3.chg hc11 Dj.nil
  replace hB := hB.inS hc11 inNil
  replace G9 := Nat.le_trans hZ G9
  replace hZ := Nat.le_trans hZ hc11.size
  refine wS_box (d := 3) (T := 27) (x := .agg #[.int .i64 (p1_0), .slice A1_1 (l1_1).length cap1_1, .slice A1_2 (l1_2).length cap1_2, .slice A1_3 (l1_3).length cap1_3]) (by kernel_rfl) ?_
  intro b13 w14 G15 F16 hc17
  replace F16 : Cl w14 b13 27 [.int .i64 (p1_0), .slice A1_1 (l1_1).length cap1_1, .slice A1_2 (l1_2).length cap1_2, .slice A1_3 (l1_3).length cap1_3] := F16
  have D19 : Dj [b7] [b13] := Dj.of (lt1 F10.lt) (low1 G15)
  replace F0_1 := F0_1.chg hc17 Dj.nil
  replace F0_2 := F0_2.chg hc17 Dj.nil
  replace F0_3 := F0_3.chg hc17 Dj.nil
  replace F1_1 := F1_1.chg hc17 Dj.nil
  replace F1_2 := F1_2.chg hc17 Dj.nil
  replace F1_3 := F1_3.chg hc17 Dj.nil
  replace F10 := F10.chg hc17 notNil
  replace hB := hB.inS hc17 inNil
  replace G15 := Nat.le_trans hZ G15
  replace hZ := Nat.le_trans hZ hc17.size
  refine wS_pure 1 [(4, .bool (false))] (by kernel_rfl) ?_
  refine wS_end (by rfl) ?_
  refine eX_then ?_
  refine cW_seq ?_
  refine cW_seq ?_
  refine cW_region ?_
  refine wS_pure 1 [(5, .pointer (some ⟨b7, 0, none⟩))] (by kernel_rfl) ?_
  refine wS_load1 (d := 6) (T := 2) (ad := ⟨b7, 0, none⟩) (v := .int .i64 (p0_0)) (by kernel_rfl) vt2 ((F10).cell 0) ?_
  refine wS_pure 1 [(7, .pointer (some ⟨b13, 0, none⟩))] (by kernel_rfl) ?_
  refine wS_load1 (d := 8) (T := 2) (ad := ⟨b13, 0, none⟩) (v := .int .i64 (p1_0)) (by kernel_rfl) vt2 ((F16).cell 0) ?_
  refine wS_pure 1 [(9, .bool (p0_0 != p1_0))] (by kernel_rfl) ?_
  refine wS_end (by rfl) ?_
  refine eX_then ?_
  refine cW_cond (t := p0_0 != p1_0) (by kernel_rfl) (fun hb20 => ?_) (fun hb20 => ?_)
  · have hm := condT hb20 hm
    refine cW_seq ?_
    refine cW_region ?_
    refine wS_pure 1 [(4, .bool (false))] (by kernel_rfl) ?_
    refine wS_end (by rfl) ?_
    refine eX_then ?_
    refine cW_ret ?_
    refine eX_then_ret ?_
    have hq : (some false : Option ((Bool))) = some _ := hm
    replace hq := someE hq
    subst hq
    refine eX_ret (vs := [.bool (false)]) [.tmp 4] (by rfl) ⟨by (show lkE _ _ _ = _); kernel_rfl, trivial⟩ ?_
    exact ⟨rfl, hB⟩
  · have hm := condF hb20 hm
    refine cW_skip ?_
    refine eX_then ?_
    refine cW_seq ?_
    refine cW_seq ?_
    refine cW_region ?_
    refine wS_pure 1 [(10, .pointer (some ⟨b7, 1, none⟩))] (by kernel_rfl) ?_
    refine wS_load1 (d := 11) (T := 24) (ad := ⟨b7, 1, none⟩) (v := .slice A0_1 (l0_1).length cap0_1) (by kernel_rfl) vt24 ((F10).cell 1) ?_
    refine wS_pure 1 [(12, .pointer (some ⟨b13, 1, none⟩))] (by kernel_rfl) ?_
    refine wS_load1 (d := 13) (T := 24) (ad := ⟨b13, 1, none⟩) (v := .slice A1_1 (l1_1).length cap1_1) (by kernel_rfl) vt24 ((F16).cell 1) ?_
    obtain ⟨y21, hy22, hm⟩ := bindE hm
    refine wS_calls (d := 14) (f := 32) (vs := [.slice A0_1 (l0_1).length cap0_1, .slice A1_1 (l1_1).length cap1_1]) (by kernel_rfl) ent32 (c_laws_eqInt64SS hy22 F0_1 F1_1) ?_
    rintro _ w23 ⟨rfl, hc24⟩
    replace F0_1 := F0_1.chg hc24 Dj.nil
    replace F0_2 := F0_2.chg hc24 Dj.nil
    replace F0_3 := F0_3.chg hc24 Dj.nil
    replace F1_1 := F1_1.chg hc24 Dj.nil
    replace F1_2 := F1_2.chg hc24 Dj.nil
    replace F1_3 := F1_3.chg hc24 Dj.nil
    replace F10 := F10.chg hc24 notNil
    replace F16 := F16.chg hc24 notNil
    replace hB := hB.inS hc24 inNil
    replace hZ := Nat.le_trans hZ hc24.size
    refine ⟨.bool (y21), rfl, ?_⟩
    refine wS_pure 1 [(15, .bool (!y21))] (by kernel_rfl) ?_
    refine wS_end (by rfl) ?_
    refine eX_then ?_
    refine cW_cond (t := !y21) (by kernel_rfl) (fun hb25 => ?_) (fun hb25 => ?_)
    · have hm := condT hb25 hm
      refine cW_seq ?_
      refine cW_region ?_
      refine wS_pure 1 [(4, .bool (false))] (by kernel_rfl) ?_
      refine wS_end (by rfl) ?_
      refine eX_then ?_
      refine cW_ret ?_
      refine eX_then_ret ?_
      have hq : (some false : Option ((Bool))) = some _ := hm
      replace hq := someE hq
      subst hq
      refine eX_ret (vs := [.bool (false)]) [.tmp 4] (by rfl) ⟨by (show lkE _ _ _ = _); kernel_rfl, trivial⟩ ?_
      exact ⟨rfl, hB⟩
    · have hm := condF hb25 hm
      refine cW_skip ?_
      refine eX_then ?_
      refine cW_seq ?_
      refine cW_seq ?_
      refine cW_region ?_
      refine wS_pure 1 [(16, .pointer (some ⟨b7, 2, none⟩))] (by kernel_rfl) ?_
      refine wS_load1 (d := 17) (T := 24) (ad := ⟨b7, 2, none⟩) (v := .slice A0_2 (l0_2).length cap0_2) (by kernel_rfl) vt24 ((F10).cell 2) ?_
      refine wS_pure 1 [(18, .pointer (some ⟨b13, 2, none⟩))] (by kernel_rfl) ?_
      refine wS_load1 (d := 19) (T := 24) (ad := ⟨b13, 2, none⟩) (v := .slice A1_2 (l1_2).length cap1_2) (by kernel_rfl) vt24 ((F16).cell 2) ?_
      obtain ⟨y26, hy27, hm⟩ := bindE hm
      refine wS_calls (d := 20) (f := 32) (vs := [.slice A0_2 (l0_2).length cap0_2, .slice A1_2 (l1_2).length cap1_2]) (by kernel_rfl) ent32 (c_laws_eqInt64SS hy27 F0_2 F1_2) ?_
      rintro _ w28 ⟨rfl, hc29⟩
      replace F0_1 := F0_1.chg hc29 Dj.nil
      replace F0_2 := F0_2.chg hc29 Dj.nil
      replace F0_3 := F0_3.chg hc29 Dj.nil
      replace F1_1 := F1_1.chg hc29 Dj.nil
      replace F1_2 := F1_2.chg hc29 Dj.nil
      replace F1_3 := F1_3.chg hc29 Dj.nil
      replace F10 := F10.chg hc29 notNil
      replace F16 := F16.chg hc29 notNil
      replace hB := hB.inS hc29 inNil
      replace hZ := Nat.le_trans hZ hc29.size
      refine ⟨.bool (y26), rfl, ?_⟩
      refine wS_pure 1 [(21, .bool (!y26))] (by kernel_rfl) ?_
      refine wS_end (by rfl) ?_
      refine eX_then ?_
      refine cW_cond (t := !y26) (by kernel_rfl) (fun hb30 => ?_) (fun hb30 => ?_)
      · have hm := condT hb30 hm
        refine cW_seq ?_
        refine cW_region ?_
        refine wS_pure 1 [(4, .bool (false))] (by kernel_rfl) ?_
        refine wS_end (by rfl) ?_
        refine eX_then ?_
        refine cW_ret ?_
        refine eX_then_ret ?_
        have hq : (some false : Option ((Bool))) = some _ := hm
        replace hq := someE hq
        subst hq
        refine eX_ret (vs := [.bool (false)]) [.tmp 4] (by rfl) ⟨by (show lkE _ _ _ = _); kernel_rfl, trivial⟩ ?_
        exact ⟨rfl, hB⟩
      · have hm := condF hb30 hm
        refine cW_skip ?_
        refine eX_then ?_
        refine cW_seq ?_
        refine cW_seq ?_
        refine cW_region ?_
        refine wS_pure 1 [(22, .pointer (some ⟨b7, 3, none⟩))] (by kernel_rfl) ?_
        refine wS_load1 (d := 23) (T := 25) (ad := ⟨b7, 3, none⟩) (v := .slice A0_3 (l0_3).length cap0_3) (by kernel_rfl) vt25 ((F10).cell 3) ?_
        refine wS_pure 1 [(24, .pointer (some ⟨b13, 3, none⟩))] (by kernel_rfl) ?_
        refine wS_load1 (d := 25) (T := 25) (ad := ⟨b13, 3, none⟩) (v := .slice A1_3 (l1_3).length cap1_3) (by kernel_rfl) vt25 ((F16).cell 3) ?_
        obtain ⟨y31, hy32, hm⟩ := bindE hm
        refine wS_calls (d := 26) (f := 42) (vs := [.slice A0_3 (l0_3).length cap0_3, .slice A1_3 (l1_3).length cap1_3]) (by kernel_rfl) ent42 (c_laws_eqInt64S hy32 F0_3 F1_3) ?_
        rintro _ w33 ⟨rfl, hc34⟩
        replace F0_1 := F0_1.chg hc34 Dj.nil
        replace F0_2 := F0_2.chg hc34 Dj.nil
        replace F0_3 := F0_3.chg hc34 Dj.nil
        replace F1_1 := F1_1.chg hc34 Dj.nil
        replace F1_2 := F1_2.chg hc34 Dj.nil
        replace F1_3 := F1_3.chg hc34 Dj.nil
        replace F10 := F10.chg hc34 notNil
        replace F16 := F16.chg hc34 notNil
        replace hB := hB.inS hc34 inNil
        replace hZ := Nat.le_trans hZ hc34.size
        refine ⟨.bool (y31), rfl, ?_⟩
        refine wS_pure 1 [(27, .bool (!y31))] (by kernel_rfl) ?_
        refine wS_end (by rfl) ?_
        refine eX_then ?_
        refine cW_prune [(27, .bool (!y31))] (by kernel_rfl) (by kernel_rfl) (fun a35 => ?_)
        refine cW_cond (t := !y31) (by kernel_rfl) (fun hb36 => ?_) (fun hb36 => ?_)
        · have hm := condT hb36 hm
          refine cW_seq ?_
          refine cW_region ?_
          refine wS_pure 1 [(4, .bool (false))] (by kernel_rfl) ?_
          refine wS_end (by rfl) ?_
          refine eX_then ?_
          refine cW_ret ?_
          refine eX_then_ret ?_
          have hq : (some false : Option ((Bool))) = some _ := hm
          replace hq := someE hq
          subst hq
          refine eX_ret (vs := [.bool (false)]) [.tmp 4] (by rfl) ⟨by (show lkE _ _ _ = _); kernel_rfl, trivial⟩ ?_
          exact ⟨rfl, hB⟩
        · have hm := condF hb36 hm
          refine cW_skip ?_
          refine eX_then ?_
          refine cW_seq ?_
          refine cW_region ?_
          refine wS_pure 1 [(4, .bool (true))] (by kernel_rfl) ?_
          refine wS_end (by rfl) ?_
          refine eX_then ?_
          refine cW_ret ?_
          have hq : (some true : Option ((Bool))) = some _ := hm
          replace hq := someE hq
          subst hq
          refine eX_ret (vs := [.bool (true)]) [.tmp 4] (by rfl) ⟨by (show lkE _ _ _ = _); kernel_rfl, trivial⟩ ?_
          exact ⟨rfl, hB⟩

set_option maxRecDepth 100000 in
/-- laws.FnExactCountBest -/
theorem c_laws_FnExactCountBest {w0 : World} {p0_0 : Int} {l0_1 : List (List (Int))} {A0_1 : Option Addr} {cap0_1 : Nat} {fp0_1 : List Nat} {l0_2 : List (List (Int))} {A0_2 : Option Addr} {cap0_2 : Nat} {fp0_2 : List Nat} {l0_3 : List (Int)} {A0_3 : Option Addr} {cap0_3 : Nat} {fp0_3 : List Nat} {r : (Bool)} (hm : m_laws_FnExactCountBest p0_0 l0_1 l0_2 l0_3 = some r) (F0_1 : SlR 1 encI w0 fp0_1 A0_1 l0_1) (F0_2 : SlR 1 encI w0 fp0_2 A0_2 l0_2) (F0_3 : Sl 1 encI w0 fp0_3 A0_3 l0_3) :
    Calls Try.prog 6 #[.agg #[.int .i64 (p0_0), .slice A0_1 (l0_1).length cap0_1, .slice A0_2 (l0_2).length cap0_2, .slice A0_3 (l0_3).length cap0_3]] w0 fun e w' => e = .returned (.bool (r)) ∧ Chg [] w0 w' := by
  have L0_1 := F0_1.low
  have L0_2 := F0_2.low
  have L0_3 := F0_3.low
  have hB : Chg [] w0 w0 := Chg.refl _ _
  have hZ := Nat.le_refl w0.heap.size
  unfold m_laws_FnExactCountBest at hm
  refine enterE (N := 40) Try.func6 (by rfl) Try.ntmps6 (by simp) [(0, .agg #[.int .i64 (p0_0), .slice A0_1 (l0_1).length cap0_1, .slice A0_2 (l0_2).length cap0_2, .slice A0_3 (l0_3).length cap0_3])] (by rfl) (by kernel_rfl) (fun a => ?_)
  refine cW_seq ?_
  refine cW_region ?_
  refine wS_box (d := 1) (T := 59) (x := .agg #[.int .i64 (p0_0), .slice A0_1 (l0_1).length cap0_1, .slice A0_2 (l0_2).length cap0_2, .slice A0_3 (l0_3).length cap0_3]) (by kernel_rfl) ?_
  intro b4 w5 G6 F7 hc8
  replace F7 : Cl w5 b4 59 [.int .i64 (p0_0), .slice A0_1 (l0_1).length cap0_1, .slice A0_2 (l0_2).length cap0_2, .slice A0_3 (l0_3).length cap0_3] := F7
  replace F0_1 := F0_1.chg hc8 Dj.nil
  replace F0_2 := F0_2.chg hc8 Dj.nil
  replace F0_3 := F0_3.chg hc8 Dj.nil
  replace hB := hB.inS hc8 inNil
  replace G6 := Nat.le_trans hZ G6
  replace hZ := Nat.le_trans hZ hc8.size
  refine wS_pure 1 [(2, .bool (false))] (by kernel_rfl) ?_
  refine wS_end (by rfl) ?_
  refine eX_then ?_
  refine cW_seq ?_
  refine cW_region ?_
  refine wS_pure 1 [(3, .int .i64 (1048576))] (by kernel_rfl) ?_
  refine wS_end (by rfl) ?_
  refine eX_then ?_
  refine cW_seq ?_
  refine cW_region ?_
  refine wS_loadA (d := 9) (T := 59) (ad := ⟨b4, 0, none⟩) (vs := [.int .i64 (p0_0), .slice A0_1 (l0_1).length cap0_1, .slice A0_2 (l0_2).length cap0_2, .slice A0_3 (l0_3).length cap0_3]) (by kernel_rfl) vt59 (fun i u hu => box_cells F7 0 hu (by rfl)) ?_
  refine wS_pure 1 [(10, .int .i64 (1048576))] (by kernel_rfl) ?_
  obtain ⟨y10, hy11, hm⟩ := bindE hm
  refine wS_calls (d := 11) (f := 37) (vs := [.agg #[.int .i64 (p0_0), .slice A0_1 (l0_1).length cap0_1, .slice A0_2 (l0_2).length cap0_2, .slice A0_3 (l0_3).length cap0_3], .int .i64 (1048576)]) (by kernel_rfl) ent37 (c_laws_szWiring hy11 F0_1 F0_2 F0_3) ?_
  rintro _ w12 ⟨rfl, hc13⟩
  replace F0_1 := F0_1.chg hc13 Dj.nil
  replace F0_2 := F0_2.chg hc13 Dj.nil
  replace F0_3 := F0_3.chg hc13 Dj.nil
  replace F7 := F7.chg hc13 notNil
  replace hB := hB.inS hc13 inNil
  replace hZ := Nat.le_trans hZ hc13.size
  refine ⟨.int .i64 (y10), rfl, ?_⟩
  refine wS_pure 1 [(3, .int .i64 (y10))] (by kernel_rfl) ?_
  refine wS_end (by rfl) ?_
  refine eX_then ?_
  refine cW_seq ?_
  refine cW_seq ?_
  refine cW_region ?_
  refine wS_pure 2 [(13, .bool (decide (y10 < 0))), (12, .int .i64 (y10))] (by kernel_rfl) ?_
  refine wS_end (by rfl) ?_
  refine eX_then ?_
  refine cW_cond (t := decide (y10 < 0)) (by kernel_rfl) (fun hb14 => ?_) (fun hb14 => ?_)
  · have hm := condT hb14 hm
    refine cW_seq ?_
    refine cW_region ?_
    refine wS_pure 1 [(2, .bool (true))] (by kernel_rfl) ?_
    refine wS_end (by rfl) ?_
    refine eX_then ?_
    refine cW_ret ?_
    refine eX_then_ret ?_
    have hq : (some true : Option ((Bool))) = some _ := hm
    replace hq := someE hq
    subst hq
    refine eX_ret (vs := [.bool (true)]) [.tmp 2] (by rfl) ⟨by (show lkE _ _ _ = _); kernel_rfl, trivial⟩ ?_
    exact ⟨rfl, hB⟩
  · have hm := condF hb14 hm
    refine cW_skip ?_
    refine eX_then ?_
    refine cW_seq ?_
    refine cW_region ?_
    refine wS_loadA (d := 15) (T := 59) (ad := ⟨b4, 0, none⟩) (vs := [.int .i64 (p0_0), .slice A0_1 (l0_1).length cap0_1, .slice A0_2 (l0_2).length cap0_2, .slice A0_3 (l0_3).length cap0_3]) (by kernel_rfl) vt59 (fun i u hu => box_cells F7 0 hu (by rfl)) ?_
    obtain ⟨y15, hy16, hm⟩ := bindE hm
    refine wS_calls (d := 16) (f := 39) (vs := [.agg #[.int .i64 (p0_0), .slice A0_1 (l0_1).length cap0_1, .slice A0_2 (l0_2).length cap0_2, .slice A0_3 (l0_3).length cap0_3]]) (by kernel_rfl) ent39 (c_laws_toWiring hy16 F0_1 F0_2 F0_3) ?_
    rintro _ w17 ⟨A19, cap20, fp21, fr24, A25, cap26, fp27, fr30, A31, cap32, fp33, rfl, F22, G23, F28, G29, F34, G35, D37, D38, D39, hc18⟩
    have D41 : Dj [b4] (fp21 ++ fr24) := Dj.of (lt1 F7.lt) G23
    have D43 : Dj [b4] (fp27 ++ fr30) := Dj.of (lt1 F7.lt) G29
    have D45 : Dj [b4] fp33 := Dj.of (lt1 F7.lt) G35
    replace F0_1 := F0_1.chg hc18 Dj.nil
    replace F0_2 := F0_2.chg hc18 Dj.nil
    replace F0_3 := F0_3.chg hc18 Dj.nil
    replace F7 := F7.chg hc18 notNil
    replace hB := hB.inS hc18 inNil
    replace G23 := low_le hZ G23
    replace G29 := low_le hZ G29
    replace G35 := low_le hZ G35
    replace hZ := Nat.le_trans hZ hc18.size
    refine ⟨.agg #[.int .i64 (y15.1), .slice A19 (y15.2.1).length cap20, .slice A25 (y15.2.2.1).length cap26, .slice A31 (y15.2.2.2).length cap32], rfl, ?_⟩
    obtain ⟨y46, hy47, hm⟩ := bindE hm
    refine wS_calls (d := 17) (f := 38) (vs := [.agg #[.int .i64 (y15.1), .slice A19 (y15.2.1).length cap20, .slice A25 (y15.2.2.1).length cap26, .slice A31 (y15.2.2.2).length cap32]]) (by kernel_rfl) ent38 (c_spec_CountBest hy47 (F22.slr encI_ok) (F28.slr encI_ok) (F34.sl encI_ok)) ?_
    rintro _ w48 ⟨rfl, hc49⟩
    replace F0_1 := F0_1.chg hc49 Dj.nil
    replace F0_2 := F0_2.chg hc49 Dj.nil
    replace F0_3 := F0_3.chg hc49 Dj.nil
    replace F7 := F7.chg hc49 notNil
    replace F22 := F22.chg hc49 Dj.nil
    replace F28 := F28.chg hc49 Dj.nil
    replace F34 := F34.chg hc49 Dj.nil
    replace hB := hB.inS hc49 inNil
    replace hZ := Nat.le_trans hZ hc49.size
    refine ⟨.tuple #[.int .i64 (y46.1), .bool (y46.2)], rfl, ?_⟩
    refine wS_pure 5 [(5, .bool (y46.2)), (4, .int .i64 (y46.1)), (19, .bool (y46.2)), (18, .int .i64 (y46.1)), (14, .tuple #[.int .i64 (y46.1), .bool (y46.2)])] (by kernel_rfl) ?_
    refine wS_end (by rfl) ?_
    refine eX_then ?_
    refine cW_seq ?_
    refine cW_region ?_
    refine wS_loadA (d := 20) (T := 59) (ad := ⟨b4, 0, none⟩) (vs := [.int .i64 (p0_0), .slice A0_1 (l0_1).length cap0_1, .slice A0_2 (l0_2).length cap0_2, .slice A0_3 (l0_3).length cap0_3]) (by kernel_rfl) vt59 (fun i u hu => box_cells F7 0 hu (by rfl)) ?_
    obtain ⟨y50, hy51, hm⟩ := bindE hm
    refine wS_calls (d := 21) (f := 39) (vs := [.agg #[.int .i64 (p0_0), .slice A0_1 (l0_1).length cap0_1, .slice A0_2 (l0_2).length cap0_2, .slice A0_3 (l0_3).length cap0_3]]) (by kernel_rfl) ent39 (c_laws_toWiring hy51 F0_1 F0_2 F0_3) ?_
    rintro _ w52 ⟨A54, cap55, fp56, fr59, A60, cap61, fp62, fr65, A66, cap67, fp68, rfl, F57, G58, F63, G64, F69, G70, D72, D73, D74, hc53⟩
    have D76 : Dj [b4] (fp56 ++ fr59) := Dj.of (lt1 F7.lt) G58
    have D77 : Dj (fp21 ++ fr24) (fp56 ++ fr59) := Dj.of F22.low G58
    have D78 : Dj (fp27 ++ fr30) (fp56 ++ fr59) := Dj.of F28.low G58
    have D79 : Dj fp33 (fp56 ++ fr59) := Dj.of F34.low G58
    have D81 : Dj [b4] (fp62 ++ fr65) := Dj.of (lt1 F7.lt) G64
    have D82 : Dj (fp21 ++ fr24) (fp62 ++ fr65) := Dj.of F22.low G64
    have D83 : Dj (fp27 ++ fr30) (fp62 ++ fr65) := Dj.of F28.low G64
    have D84 : Dj fp33 (fp62 ++ fr65) := Dj.of F34.low G64
    have D86 : Dj [b4] fp68 := Dj.of (lt1 F7.lt) G70
    have D87 : Dj (fp21 ++ fr24) fp68 := Dj.of F22.low G70
    have D88 : Dj (fp27 ++ fr30) fp68 := Dj.of F28.low G70
    have D89 : Dj fp33 fp68 := Dj.of F34.low G70
    replace F0_1 := F0_1.chg hc53 Dj.nil
    replace F0_2 := F0_2.chg hc53 Dj.nil
    replace F0_3 := F0_3.chg hc53 Dj.nil
    replace F7 := F7.chg hc53 notNil
    replace F22 := F22.chg hc53 Dj.nil
    replace F28 := F28.chg hc53 Dj.nil
    replace F34 := F34.chg hc53 Dj.nil
    replace hB := hB.inS hc53 inNil
    replace G58 := low_le hZ G58
    replace G64 := low_le hZ G64
    replace G70 := low_le hZ G70
    replace hZ := Nat.le_trans hZ hc53.size
    refine ⟨.agg #[.int .i64 (y50.1), .slice A54 (y50.2.1).length cap55, .slice A60 (y50.2.2.1).length cap61, .slice A66 (y50.2.2.2).length cap67], rfl, ?_⟩
    refine wS_alloc (d := 6) (T := 27) (z := .agg #[.int .i64 (0), .slice none 0 0, .slice none 0 0, .slice none 0 0]) (by kernel_rfl) (by kernel_rfl) ?_
    intro b90 w91 G92 F93 hc94
    replace F93 : Cl w91 b90 27 [.int .i64 (0), .slice none 0 0, .slice none 0 0, .slice none 0 0] := F93
    have D96 : Dj [b4] [b90] := Dj.of (lt1 F7.lt) (low1 G92)
    have D97 : Dj (fp21 ++ fr24) [b90] := Dj.of F22.low (low1 G92)
    have D98 : Dj (fp27 ++ fr30) [b90] := Dj.of F28.low (low1 G92)
    have D99 : Dj fp33 [b90] := Dj.of F34.low (low1 G92)
    have D100 : Dj (fp56 ++ fr59) [b90] := Dj.of F57.low (low1 G92)
    have D101 : Dj (fp62 ++ fr65) [b90] := Dj.of F63.low (low1 G92)
    have D102 : Dj fp68 [b90] := Dj.of F69.low (low1 G92)
    replace F0_1 := F0_1.chg hc94 Dj.nil
    replace F0_2 := F0_2.chg hc94 Dj.nil
    replace F0_3 := F0_3.chg hc94 Dj.nil
    replace F7 := F7.chg hc94 notNil
    replace F22 := F22.chg hc94 Dj.nil
    replace F28 := F28.chg hc94 Dj.nil
    replace F34 := F34.chg hc94 Dj.nil
    replace F57 := F57.chg hc94 Dj.nil
    replace F63 := F63.chg hc94 Dj.nil
    replace F69 := F69.chg hc94 Dj.nil
    replace hB := hB.inS hc94 inNil
    replace G92 := Nat.le_trans hZ G92
    replace hZ := Nat.le_trans hZ hc94.size
    refine wS_store (T := 27) (g := b90) (o := 0) (ad := ⟨b90, 0, none⟩) (v := .agg #[.int .i64 (y50.1), .slice A54 (y50.2.1).length cap55, .slice A60 (y50.2.2.1).length cap61, .slice A66 (y50.2.2.2).length cap67]) (vs := [.int .i64 (y50.1), .slice A54 (y50.2.1).length cap55, .slice A60 (y50.2.2.1).length cap61, .slice A66 (y50.2.2.2).length cap67]) (by kernel_rfl) (by rfl) sz27 (by rfl) (by rfl) F93 (by simp only [List.length_cons, List.length_nil]; omega) ?_
    intro w103 F104 hc105
    replace F0_1 := F0_1.chg hc105 (Dj.of L0_1 (low1 G92))
    replace F0_2 := F0_2.chg hc105 (Dj.of L0_2 (low1 G92))
    replace F0_3 := F0_3.chg hc105 (Dj.of L0_3 (low1 G92))
    replace F7 := F7.chg hc105 (dj1 D96)
    replace F22 := F22.chg hc105 D97
    replace F28 := F28.chg hc105 D98
    replace F34 := F34.chg hc105 D99
    replace F57 := F57.chg hc105 D100
    replace F63 := F63.chg hc105 D101
    replace F69 := F69.chg hc105 D102
    replace hB := hB.inS hc105 (inLow (low1 G92))
    replace hZ := Nat.le_trans hZ hc105.size
    replace F104 : Cl w103 b90 27 [.int .i64 (y50.1), .slice A54 (y50.2.1).length cap55, .slice A60 (y50.2.2.1).length cap61, .slice A66 (y50.2.2.2).length cap67] := F104
    clear F93
    refine wS_end (by rfl) ?_
    refine eX_then ?_
    refine cW_seq ?_
    refine cW_region ?_
    refine wS_loadA (d := 23) (T := 27) (ad := ⟨b90, 0, none⟩) (vs := [.int .i64 (y50.1), .slice A54 (y50.2.1).length cap55, .slice A60 (y50.2.2.1).length cap61, .slice A66 (y50.2.2.2).length cap67]) (by kernel_rfl) vt27 (fun i u hu => box_cells F104 0 hu (by rfl)) ?_
    obtain ⟨y106, hy107, hm⟩ := bindE hm
    refine wS_calls (d := 24) (f := 15) (vs := [.agg #[.int .i64 (y50.1), .slice A54 (y50.2.1).length cap55, .slice A60 (y50.2.2.1).length cap61, .slice A66 (y50.2.2.2).length cap67]]) (by kernel_rfl) ent15 (c_impl_CountBest hy107 (F57.slr encI_ok) (F63.slr encI_ok) (F69.sl encI_ok)) ?_
    rintro _ w108 ⟨rfl, hc109⟩
    replace F0_1 := F0_1.chg hc109 Dj.nil
    replace F0_2 := F0_2.chg hc109 Dj.nil
    replace F0_3 := F0_3.chg hc109 Dj.nil
    replace F7 := F7.chg hc109 notNil
    replace F22 := F22.chg hc109 Dj.nil
    replace F28 := F28.chg hc109 Dj.nil
    replace F34 := F34.chg hc109 Dj.nil
    replace F57 := F57.chg hc109 Dj.nil
    replace F63 := F63.chg hc109 Dj.nil
    replace F69 := F69.chg hc109 Dj.nil
    replace F104 := F104.chg hc109 notNil
    replace hB := hB.inS hc109 inNil
    replace hZ := Nat.le_trans hZ hc109.size
    refine ⟨.tuple #[.int .i64 (y106.1), .bool (y106.2)], rfl, ?_⟩
    refine wS_pure 5 [(8, .bool (y106.2)), (7, .int .i64 (y106.1)), (26, .bool (y106.2)), (25, .int .i64 (y106.1)), (22, .tuple #[.int .i64 (y106.1), .bool (y106.2)])] (by kernel_rfl) ?_
    refine wS_end (by rfl) ?_
    refine eX_then ?_
    refine cW_prune [(1, .pointer (some ⟨b4, 0, none⟩)), (4, .int .i64 (y46.1)), (5, .bool (y46.2)), (6, .pointer (some ⟨b90, 0, none⟩)), (7, .int .i64 (y106.1)), (8, .bool (y106.2))] (by kernel_rfl) (by kernel_rfl) (fun a110 => ?_)
    refine cW_seq ?_
    refine cW_seq ?_
    refine cW_region ?_
    refine wS_pure 4 [(30, .bool (y106.1 != y46.1)), (29, .bool (y106.1 != y46.1)), (28, .int .i64 (y46.1)), (27, .int .i64 (y106.1))] (by kernel_rfl) ?_
    refine wS_bool (y106.1 != y46.1) (fun hb111 => ?_) (fun hb111 => ?_)
    · have hm := condT hb111 hm
      rewrite [hb111]
      refine wS_pure 4 [(34, .bool (true)), (33, undef), (32, undef), (31, undef)] (by kernel_rfl) ?_
      refine wS_end (by rfl) ?_
      refine eX_then ?_
      refine cW_cond_t (by kernel_rfl) ?_
      refine cW_seq ?_
      refine cW_region ?_
      refine wS_pure 1 [(2, .bool (false))] (by kernel_rfl) ?_
      refine wS_end (by rfl) ?_
      refine eX_then ?_
      refine cW_ret ?_
      refine eX_then_ret ?_
      have hq : (some false : Option ((Bool))) = some _ := hm
      replace hq := someE hq
      subst hq
      refine eX_ret (vs := [.bool (false)]) [.tmp 2] (by rfl) ⟨by (show lkE _ _ _ = _); kernel_rfl, trivial⟩ ?_
      exact ⟨rfl, hB⟩
    · have hm := condF hb111 hm
      rewrite [hb111]
      refine wS_pure 4 [(34, .bool (!(y106.2 == y46.2))), (33, .bool (!(y106.2 == y46.2))), (32, .bool (y46.2)), (31, .bool (y106.2))] (by kernel_rfl) ?_
      refine wS_end (by rfl) ?_
      refine eX_then ?_
      refine cW_cond (t := !(y106.2 == y46.2)) (by kernel_rfl) (fun hb112 => ?_) (fun hb112 => ?_)
      · have hm := condT hb112 hm
        refine cW_seq ?_
        refine cW_region ?_
        refine wS_pure 1 [(2, .bool (false))] (by kernel_rfl) ?_
        refine wS_end (by rfl) ?_
        refine eX_then ?_
        refine cW_ret ?_
        refine eX_then_ret ?_
        have hq : (some false : Option ((Bool))) = some _ := hm
        replace hq := someE hq
        subst hq
        refine eX_ret (vs := [.bool (false)]) [.tmp 2] (by rfl) ⟨by (show lkE _ _ _ = _); kernel_rfl, trivial⟩ ?_
        exact ⟨rfl, hB⟩
      · have hm := condF hb112 hm
        refine cW_skip ?_
        refine eX_then ?_
        refine cW_seq ?_
        refine cW_seq ?_
        refine cW_drawnTail [] 3 (by kernel_rfl) (by kernel_rfl) (fun w182 hc183 => ?_)
        replace F0_1 := F0_1.chg hc183 Dj.nil
        replace F0_2 := F0_2.chg hc183 Dj.nil
        replace F0_3 := F0_3.chg hc183 Dj.nil
        replace F7 := F7.chg hc183 notNil
        replace F22 := F22.chg hc183 Dj.nil
        replace F28 := F28.chg hc183 Dj.nil
        replace F34 := F34.chg hc183 Dj.nil
        replace F57 := F57.chg hc183 Dj.nil
        replace F63 := F63.chg hc183 Dj.nil
        replace F69 := F69.chg hc183 Dj.nil
        replace F104 := F104.chg hc183 notNil
        replace hB := hB.inS hc183 inNil
        replace hZ := Nat.le_trans hZ hc183.size
        have hS := Chg.refl [] w182
        have Z184 := F0_1
        have Z185 := F0_2
        have Z186 := F0_3
        have Z187 := F7
        have Z188 := F22
        have Z189 := F28
        have Z190 := F34
        have Z191 := F57
        have Z192 := F63
        have Z193 := F69
        have Z194 := F104
        refine wH_loadA (i := 0) (d := 35) (T := 27) (ad := ⟨b90, 0, none⟩) (vs := [.int .i64 (y50.1), .slice A54 (y50.2.1).length cap55, .slice A60 (y50.2.2.1).length cap61, .slice A66 (y50.2.2.2).length cap67]) (by kernel_rfl) (qT (qT (qT qZ))) (by kernel_rfl) (by kernel_rfl) vt27 (fun W hW i u hu => box_cells (Z194.chg hW notNil) 0 hu (by rfl)) ?_
        refine wH_loadA (i := 1) (d := 36) (T := 59) (ad := ⟨b4, 0, none⟩) (vs := [.int .i64 (p0_0), .slice A0_1 (l0_1).length cap0_1, .slice A0_2 (l0_2).length cap0_2, .slice A0_3 (l0_3).length cap0_3]) (by kernel_rfl) (qT (qT (qT qZ))) (by kernel_rfl) (by kernel_rfl) vt59 (fun W hW i u hu => box_cells (Z187.chg hW notNil) 0 hu (by rfl)) ?_
        refine wH_all [2] (by rfl) (by kernel_rfl) (by simp) ⟨⟨by kernel_rfl, ?_⟩, trivial⟩
        obtain ⟨y195, hy196, hm⟩ := bindE hm
        refine wS_calls (d := 37) (f := 39) (vs := [.agg #[.int .i64 (p0_0), .slice A0_1 (l0_1).length cap0_1, .slice A0_2 (l0_2).length cap0_2, .slice A0_3 (l0_3).length cap0_3]]) (by kernel_rfl) ent39 (c_laws_toWiring hy196 F0_1 F0_2 F0_3) ?_
        rintro _ w197 ⟨A199, cap200, fp201, fr204, A205, cap206, fp207, fr210, A211, cap212, fp213, rfl, F202, G203, F208, G209, F214, G215, D217, D218, D219, hc198⟩
        have D221 : Dj [b4] (fp201 ++ fr204) := Dj.of (lt1 F7.lt) G203
        have D222 : Dj (fp21 ++ fr24) (fp201 ++ fr204) := Dj.of F22.low G203
        have D223 : Dj (fp27 ++ fr30) (fp201 ++ fr204) := Dj.of F28.low G203
        have D224 : Dj fp33 (fp201 ++ fr204) := Dj.of F34.low G203
        have D225 : Dj (fp56 ++ fr59) (fp201 ++ fr204) := Dj.of F57.low G203
        have D226 : Dj (fp62 ++ fr65) (fp201 ++ fr204) := Dj.of F63.low G203
        have D227 : Dj fp68 (fp201 ++ fr204) := Dj.of F69.low G203
        have D228 : Dj [b90] (fp201 ++ fr204) := Dj.of (lt1 F104.lt) G203
        have D230 : Dj [b4] (fp207 ++ fr210) := Dj.of (lt1 F7.lt) G209
        have D231 : Dj (fp21 ++ fr24) (fp207 ++ fr210) := Dj.of F22.low G209
        have D232 : Dj (fp27 ++ fr30) (fp207 ++ fr210) := Dj.of F28.low G209
        have D233 : Dj fp33 (fp207 ++ fr210) := Dj.of F34.low G209
        have D234 : Dj (fp56 ++ fr59) (fp207 ++ fr210) := Dj.of F57.low G209
        have D235 : Dj (fp62 ++ fr65) (fp207 ++ fr210) := Dj.of F63.low G209
        have D236 : Dj fp68 (fp207 ++ fr210) := Dj.of F69.low G209
        have D237 : Dj [b90] (fp207 ++ fr210) := Dj.of (lt1 F104.lt) G209
        have D239 : Dj [b4] fp213 := Dj.of (lt1 F7.lt) G215
        have D240 : Dj (fp21 ++ fr24) fp213 := Dj.of F22.low G215
        have D241 : Dj (fp27 ++ fr30) fp213 := Dj.of F28.low G215
        have D242 : Dj fp33 fp213 := Dj.of F34.low G215
        have D243 : Dj (fp56 ++ fr59) fp213 := Dj.of F57.low G215
        have D244 : Dj (fp62 ++ fr65) fp213 := Dj.of F63.low G215
        have D245 : Dj fp68 fp213 := Dj.of F69.low G215
        have D246 : Dj [b90] fp213 := Dj.of (lt1 F104.lt) G215
        replace F0_1 := F0_1.chg hc198 Dj.nil
        replace F0_2 := F0_2.chg hc198 Dj.nil
        replace F0_3 := F0_3.chg hc198 Dj.nil
        replace F7 := F7.chg hc198 notNil
        replace F22 := F22.chg hc198 Dj.nil
        replace F28 := F28.chg hc198 Dj.nil
        replace F34 := F34.chg hc198 Dj.nil
        replace F57 := F57.chg hc198 Dj.nil
        replace F63 := F63.chg hc198 Dj.nil
        replace F69 := F69.chg hc198 Dj.nil
        replace F104 := F104.chg hc198 notNil
        replace hB := hB.inS hc198 inNil
        have hSz := hS
        replace hS := hS.inS hc198 inNil
        replace G203 := low_le hZ G203
        replace G209 := low_le hZ G209
        replace G215 := low_le hZ G215
        replace hZ := Nat.le_trans hZ hc198.size
        refine ⟨.agg #[.int .i64 (y195.1), .slice A199 (y195.2.1).length cap200, .slice A205 (y195.2.2.1).length cap206, .slice A211 (y195.2.2.2).length cap212], rfl, ?_⟩
        refine wS_end (by kernel_rfl) ?_
        refine eX_KH hS ?_
        refine wH_done (by kernel_rfl) ?_
        refine eX_tail ?_
        obtain ⟨y247, hy248, hm⟩ := bindE hm
        refine wS_calls (d := 38) (f := 40) (vs := [.agg #[.int .i64 (y50.1), .slice A54 (y50.2.1).length cap55, .slice A60 (y50.2.2.1).length cap61, .slice A66 (y50.2.2.2).length cap67], .agg #[.int .i64 (y195.1), .slice A199 (y195.2.1).length cap200, .slice A205 (y195.2.2.1).length cap206, .slice A211 (y195.2.2.2).length cap212]]) (by kernel_rfl) ent40 (c_laws_eqWiring hy248 (F57.slr encI_ok) (F63.slr encI_ok) (F69.sl encI_ok) (F202.slr encI_ok) (F208.slr encI_ok) (F214.sl encI_ok)) ?_
        rintro _ w249 ⟨rfl, hc250⟩
        replace F0_1 := F0_1.chg hc250 Dj.nil
        replace F0_2 := F0_2.chg hc250 Dj.nil
        replace F0_3 := F0_3.chg hc250 Dj.nil
        replace F7 := F7.chg hc250 notNil
        replace F22 := F22.chg hc250 Dj.nil
        replace F28 := F28.chg hc250 Dj.nil
        replace F34 := F34.chg hc250 Dj.nil
        replace F57 := F57.chg hc250 Dj.nil
        replace F63 := F63.chg hc250 Dj.nil
        replace F69 := F69.chg hc250 Dj.nil
        replace F104 := F104.chg hc250 notNil
        replace F202 := F202.chg hc250 Dj.nil
        replace F208 := F208.chg hc250 Dj.nil
        replace F214 := F214.chg hc250 Dj.nil
        replace hB := hB.inS hc250 inNil
        replace hZ := Nat.le_trans hZ hc250.size
        refine ⟨.bool (y247), rfl, ?_⟩
        refine wS_pure 1 [(39, .bool (!y247))] (by kernel_rfl) ?_
        refine wS_end (by rfl) ?_
        refine eX_then ?_
        refine cW_cond (t := !y247) (by kernel_rfl) (fun hb251 => ?_) (fun hb251 => ?_)
        · have hm := condT hb251 hm
          refine cW_seq ?_
          refine cW_region ?_
          refine wS_pure 1 [(2, .bool (false))] (by kernel_rfl) ?_
          refine wS_end (by rfl) ?_
          refine eX_then ?_
          refine cW_ret ?_
          refine eX_then_ret ?_
          have hq : (some false : Option ((Bool))) = some _ := hm
          replace hq := someE hq
          subst hq
          refine eX_ret (vs := [.bool (false)]) [.tmp 2] (by rfl) ⟨by (show lkE _ _ _ = _); kernel_rfl, trivial⟩ ?_
          exact ⟨rfl, hB⟩
        · have hm := condF hb251 hm
          refine cW_skip ?_
          refine eX_then ?_
          refine cW_seq ?_
          refine cW_region ?_
          refine wS_pure 1 [(2, .bool (true))] (by kernel_rfl) ?_
          refine wS_end (by rfl) ?_
          refine eX_then ?_
          refine cW_ret ?_
          have hq : (some true : Option ((Bool))) = some _ := hm
          replace hq := someE hq
          subst hq
          refine eX_ret (vs := [.bool (true)]) [.tmp 2] (by rfl) ⟨by (show lkE _ _ _ = _); kernel_rfl, trivial⟩ ?_
          exact ⟨rfl, hB⟩

set_option maxRecDepth 100000 in
/-- spec.FewestVias -/
theorem c_spec_FewestVias {w0 : World} {p0_0 : Int} {l0_1 : List (List (Int))} {A0_1 : Option Addr} {cap0_1 : Nat} {fp0_1 : List Nat} {l0_2 : List (List (Int))} {A0_2 : Option Addr} {cap0_2 : Nat} {fp0_2 : List Nat} {l0_3 : List (Int)} {A0_3 : Option Addr} {cap0_3 : Nat} {fp0_3 : List Nat} {r : (List (Int)) × (Int) × (Bool)} (hm : m_spec_FewestVias p0_0 l0_1 l0_2 l0_3 = some r) (F0_1 : SlR 1 encI w0 fp0_1 A0_1 l0_1) (F0_2 : SlR 1 encI w0 fp0_2 A0_2 l0_2) (F0_3 : Sl 1 encI w0 fp0_3 A0_3 l0_3) :
    Calls Try.prog 41 #[.agg #[.int .i64 (p0_0), .slice A0_1 (l0_1).length cap0_1, .slice A0_2 (l0_2).length cap0_2, .slice A0_3 (l0_3).length cap0_3]] w0 fun e w' => ∃ A100 cap100 fp100, e = .returned (.tuple #[.slice A100 (r.1).length cap100, .int .i64 (r.2.1), .bool (r.2.2)]) ∧ Sl 1 encI w' fp100 A100 r.1 ∧ Rt w0.heap.size (fp0_1 ++ (fp0_2 ++ (fp0_3 ++ []))) fp100 ∧ (r.1).length ≤ cap100 ∧ Chg [] w0 w' := by
  have L0_1 := F0_1.low
  have L0_2 := F0_2.low
  have L0_3 := F0_3.low
  have hB : Chg [] w0 w0 := Chg.refl _ _
  have hZ := Nat.le_refl w0.heap.size
  unfold m_spec_FewestVias at hm
  refine enterE (N := 19) Try.func41 (by rfl) Try.ntmps41 (by simp) [(0, .agg #[.int .i64 (p0_0), .slice A0_1 (l0_1).length cap0_1, .slice A0_2 (l0_2).length cap0_2, .slice A0_3 (l0_3).length cap0_3])] (by rfl) (by kernel_rfl) (fun a => ?_)
  refine cW_seq ?_
  refine cW_region ?_
  refine wS_box (d := 1) (T := 27) (x := .agg #[.int .i64 (p0_0), .slice A0_1 (l0_1).length cap0_1, .slice A0_2 (l0_2).length cap0_2, .slice A0_3 (l0_3).length cap0_3]) (by kernel_rfl) ?_
  intro b4 w5 G6 F7 hc8
  replace F7 : Cl w5 b4 27 [.int .i64 (p0_0), .slice A0_1 (l0_1).length cap0_1, .slice A0_2 (l0_2).length cap0_2, .slice A0_3 (l0_3).length cap0_3] := F7
  replace F0_1 := F0_1.chg hc8 Dj.nil
  replace F0_2 := F0_2.chg hc8 Dj.nil
  replace F0_3 := F0_3.chg hc8 Dj.nil
  replace hB := hB.inS hc8 inNil
  replace G6 := Nat.le_trans hZ G6
  replace hZ := Nat.le_trans hZ hc8.size
  refine wS_pure 3 [(4, .bool (false)), (3, .int .i64 (0)), (2, .slice none 0 0)] (by kernel_rfl) ?_
  refine wS_end (by rfl) ?_
  refine eX_then ?_
  refine cW_seq ?_
  refine cW_seq ?_
  refine cW_region ?_
  obtain ⟨y10, hy11, hm⟩ := bindE hm
  refine wS_calls (d := 8) (f := 63) (vs := [.pointer (some ⟨b4, 0, none⟩)]) (by kernel_rfl) ent63 (c_spec_l07Is_bimplWiring hy11 F0_1 F0_2 F0_3 F7) ?_
  rintro _ w12 ⟨rfl, hc13⟩
  replace F0_1 := F0_1.chg hc13 Dj.nil
  replace F0_2 := F0_2.chg hc13 Dj.nil
  replace F0_3 := F0_3.chg hc13 Dj.nil
  replace F7 := F7.chg hc13 notNil
  replace hB := hB.inS hc13 inNil
  replace hZ := Nat.le_trans hZ hc13.size
  refine ⟨.bool (y10), rfl, ?_⟩
  refine wS_pure 1 [(9, .bool (!y10))] (by kernel_rfl) ?_
  refine wS_end (by rfl) ?_
  refine eX_then ?_
  refine cW_cond (t := !y10) (by kernel_rfl) (fun hb14 => ?_) (fun hb14 => ?_)
  · have hm := condT hb14 hm
    refine cW_seq ?_
    refine cW_region ?_
    refine wS_pure 3 [(4, .bool (false)), (3, .int .i64 (0)), (2, .slice none 0 0)] (by kernel_rfl) ?_
    refine wS_end (by rfl) ?_
    refine eX_then ?_
    refine cW_ret ?_
    refine eX_then_ret ?_
    have hq : (some (([], 0, false)) : Option ((List (Int)) × (Int) × (Bool))) = some _ := hm
    replace hq := someE hq
    subst hq
    refine eX_ret (vs := [.slice none 0 0, .int .i64 (0), .bool (false)]) [.tmp 2, .tmp 3, .tmp 4] (by rfl) ⟨by (show lkE _ _ _ = _); kernel_rfl, ⟨by (show lkE _ _ _ = _); kernel_rfl, ⟨by (show lkE _ _ _ = _); kernel_rfl, trivial⟩⟩⟩ ?_
    exact ⟨none, 0, [], rfl, (Ow.nil (k := 1) (enc := encI) (T := 0) _).sl encI_ok, Rt.nil, (Nat.le_refl _), hB⟩
  · have hm := condF hb14 hm
    refine cW_skip ?_
    refine eX_then ?_
    refine cW_seq ?_
    refine cW_region ?_
    obtain ⟨y15, hy16, hm⟩ := bindE hm
    refine wS_calls (d := 11) (f := 82) (vs := [.pointer (some ⟨b4, 0, none⟩)]) (by kernel_rfl) ent82 (c_spec_l07Best_bimplWiring hy16 F0_1 F0_2 F0_3 F7) ?_
    rintro _ w17 ⟨A19, cap20, fp21, rfl, F22, G23, K24, hc18⟩
    have Rt26 : Rt w0.heap.size (fp0_1 ++ (fp0_2 ++ (fp0_3 ++ []))) fp21 := Rt.of G23 hZ (Rt.app (Rt.mem (fun x hx => (List.mem_append_left _ hx))) (Rt.app (Rt.mem (fun x hx => (List.mem_append_right _ (List.mem_append_left _ hx)))) (Rt.app (Rt.mem (fun x hx => (List.mem_append_right _ (List.mem_append_right _ (List.mem_append_left _ hx))))) Rt.nil)))
    have D27 : Dj [b4] fp21 := Rt.dj G23 (lt1 F7.lt) (Dj.app (Dj.of L0_1 (low1 G6)).symm (Dj.app (Dj.of L0_2 (low1 G6)).symm (Dj.app (Dj.of L0_3 (low1 G6)).symm Dj.nil)))
    replace F0_1 := F0_1.chg hc18 Dj.nil
    replace F0_2 := F0_2.chg hc18 Dj.nil
    replace F0_3 := F0_3.chg hc18 Dj.nil
    replace F7 := F7.chg hc18 notNil
    replace hB := hB.inS hc18 inNil
    replace hZ := Nat.le_trans hZ hc18.size
    refine ⟨.tuple #[.slice A19 (y15.1).length cap20, .int .i64 (y15.2.1), .int .i64 (y15.2.2)], rfl, ?_⟩
    refine wS_pure 7 [(7, .int .i64 (y15.2.2)), (6, .int .i64 (y15.2.1)), (5, .slice A19 (y15.1).length cap20), (14, .int .i64 (y15.2.2)), (13, .int .i64 (y15.2.1)), (12, .slice A19 (y15.1).length cap20), (10, .tuple #[.slice A19 (y15.1).length cap20, .int .i64 (y15.2.1), .int .i64 (y15.2.2)])] (by kernel_rfl) ?_
    refine wS_end (by rfl) ?_
    refine eX_then ?_
    refine cW_seq ?_
    refine cW_seq ?_
    refine cW_region ?_
    refine wS_pure 2 [(16, .bool (decide (y15.2.1 < 0))), (15, .int .i64 (y15.2.1))] (by kernel_rfl) ?_
    refine wS_end (by rfl) ?_
    refine eX_then ?_
    refine cW_cond (t := decide (y15.2.1 < 0)) (by kernel_rfl) (fun hb28 => ?_) (fun hb28 => ?_)
    · have hm := condT hb28 hm
      refine cW_seq ?_
      refine cW_region ?_
      refine wS_pure 3 [(4, .bool (false)), (3, .int .i64 (0)), (2, .slice none 0 0)] (by kernel_rfl) ?_
      refine wS_end (by rfl) ?_
      refine eX_then ?_
      refine cW_ret ?_
      refine eX_then_ret ?_
      have hq : (some (([], 0, false)) : Option ((List (Int)) × (Int) × (Bool))) = some _ := hm
      replace hq := someE hq
      subst hq
      refine eX_ret (vs := [.slice none 0 0, .int .i64 (0), .bool (false)]) [.tmp 2, .tmp 3, .tmp 4] (by rfl) ⟨by (show lkE _ _ _ = _); kernel_rfl, ⟨by (show lkE _ _ _ = _); kernel_rfl, ⟨by (show lkE _ _ _ = _); kernel_rfl, trivial⟩⟩⟩ ?_
      exact ⟨none, 0, [], rfl, (Ow.nil (k := 1) (enc := encI) (T := 0) _).sl encI_ok, Rt.nil, (Nat.le_refl _), hB⟩
    · have hm := condF hb28 hm
      refine cW_skip ?_
      refine eX_then ?_
      refine cW_seq ?_
      refine cW_region ?_
      refine wS_pure 5 [(4, .bool (true)), (3, .int .i64 (y15.2.1)), (2, .slice A19 (y15.1).length cap20), (18, .int .i64 (y15.2.1)), (17, .slice A19 (y15.1).length cap20)] (by kernel_rfl) ?_
      refine wS_end (by rfl) ?_
      refine eX_then ?_
      refine cW_ret ?_
      have hq : (some ((y15.1, y15.2.1, true)) : Option ((List (Int)) × (Int) × (Bool))) = some _ := hm
      replace hq := someE hq
      subst hq
      refine eX_ret (vs := [.slice A19 (y15.1).length cap20, .int .i64 (y15.2.1), .bool (true)]) [.tmp 2, .tmp 3, .tmp 4] (by rfl) ⟨by (show lkE _ _ _ = _); kernel_rfl, ⟨by (show lkE _ _ _ = _); kernel_rfl, ⟨by (show lkE _ _ _ = _); kernel_rfl, trivial⟩⟩⟩ ?_
      exact ⟨A19, cap20, fp21, rfl, F22, Rt26, K24, hB⟩

set_option maxRecDepth 100000 in
/-- laws.markWiring -/
theorem c_laws_markWiring {w0 : World} {p0_0 : Int} {l0_1 : List (List (Int))} {A0_1 : Option Addr} {cap0_1 : Nat} {fp0_1 fr0_1 : List Nat} {l0_2 : List (List (Int))} {A0_2 : Option Addr} {cap0_2 : Nat} {fp0_2 fr0_2 : List Nat} {l0_3 : List (Int)} {A0_3 : Option Addr} {cap0_3 : Nat} {fp0_3 : List Nat} {p1 : Int} {r : (Int) × (List (List (Int))) × (List (List (Int))) × (List (Int))} (hm : m_laws_markWiring p0_0 l0_1 l0_2 l0_3 p1 = some r) (F0_1 : OwR 1 encI 25 2 w0 fp0_1 fr0_1 A0_1 cap0_1 l0_1) (F0_2 : OwR 1 encI 25 2 w0 fp0_2 fr0_2 A0_2 cap0_2 l0_2) (F0_3 : Ow 1 encI 2 w0 fp0_3 A0_3 cap0_3 l0_3) (J0_1__0_2 : Dj (fp0_1 ++ fr0_1) (fp0_2 ++ fr0_2)) (J0_1__0_3 : Dj (fp0_1 ++ fr0_1) fp0_3) (J0_2__0_3 : Dj (fp0_2 ++ fr0_2) fp0_3) :
    Calls Try.prog 43 #[.agg #[.int .i64 (p0_0), .slice A0_1 (l0_1).length cap0_1, .slice A0_2 (l0_2).length cap0_2, .slice A0_3 (l0_3).length cap0_3], .int .i64 (p1)] w0 fun e w' => e = .returned (.int .i64 (r.1)) ∧ OwR 1 encI 25 2 w' fp0_1 fr0_1 A0_1 cap0_1 r.2.1 ∧ (r.2.1).length = (l0_1).length ∧ OwR 1 encI 25 2 w' fp0_2 fr0_2 A0_2 cap0_2 r.2.2.1 ∧ (r.2.2.1).length = (l0_2).length ∧ Ow 1 encI 2 w' fp0_3 A0_3 cap0_3 r.2.2.2 ∧ (r.2.2.2).length = (l0_3).length ∧ Chg ((fp0_1 ++ fr0_1) ++ ((fp0_2 ++ fr0_2) ++ (fp0_3 ++ []))) w0 w' := by
  have L0_1 := F0_1.low
  have L0_2 := F0_2.low
  have L0_3 := F0_3.low
  have hB : Chg ((fp0_1 ++ fr0_1) ++ ((fp0_2 ++ fr0_2) ++ (fp0_3 ++ []))) w0 w0 := Chg.refl _ _
  have hZ := Nat.le_refl w0.heap.size
  unfold m_laws_markWiring at hm
  refine enterE (N := 18) Try.func43 (by rfl) Try.ntmps43 (by simp) [(0, .agg #[.int .i64 (p0_0), .slice A0_1 (l0_1).length cap0_1, .slice A0_2 (l0_2).length cap0_2, .slice A0_3 (l0_3).length cap0_3]), (1, .int .i64 (p1))] (by rfl) (by kernel_rfl) (fun a => ?_)
  refine cW_seq ?_
  refine cW_region ?_
  refine wS_box (d := 2) (T := 27) (x := .agg #[.int .i64 (p0_0), .slice A0_1 (l0_1).length cap0_1, .slice A0_2 (l0_2).length cap0_2, .slice A0_3 (l0_3).length cap0_3]) (by kernel_rfl) ?_
  intro b4 w5 G6 F7 hc8
  replace F7 : Cl w5 b4 27 [.int .i64 (p0_0), .slice A0_1 (l0_1).length cap0_1, .slice A0_2 (l0_2).length cap0_2, .slice A0_3 (l0_3).length cap0_3] := F7
  replace F0_1 := F0_1.chg hc8 Dj.nil
  replace F0_2 := F0_2.chg hc8 Dj.nil
  replace F0_3 := F0_3.chg hc8 Dj.nil
  replace hB := hB.inS hc8 inNil
  replace G6 := Nat.le_trans hZ G6
  replace hZ := Nat.le_trans hZ hc8.size
  refine wS_pure 1 [(4, .int .i64 (0))] (by kernel_rfl) ?_
  refine wS_end (by rfl) ?_
  refine eX_then ?_
  refine cW_seq ?_
  refine cW_region ?_
  refine wS_pure 1 [(5, .pointer (some ⟨b4, 1, none⟩))] (by kernel_rfl) ?_
  refine wS_load1 (d := 6) (T := 24) (ad := ⟨b4, 1, none⟩) (v := .slice A0_1 (l0_1).length cap0_1) (by kernel_rfl) vt24 ((F7).cell 1) ?_
  refine wS_pure 1 [(7, .int .i64 (p1))] (by kernel_rfl) ?_
  obtain ⟨y10, hy11, hm⟩ := bindE hm
  refine wS_calls (d := 8) (f := 35) (vs := [.slice A0_1 (l0_1).length cap0_1, .int .i64 (p1)]) (by kernel_rfl) ent35 (c_laws_markInt64SS hy11 F0_1) ?_
  rintro _ w12 ⟨rfl, F14, hl15, hc13⟩
  replace F0_2 := F0_2.chg hc13 (Dj.app (J0_1__0_2).symm Dj.nil)
  replace F0_3 := F0_3.chg hc13 (Dj.app (J0_1__0_3).symm Dj.nil)
  replace F7 := F7.chg hc13 (dj1 (Dj.app (Dj.of L0_1 (low1 G6)).symm Dj.nil))
  replace hB := hB.inS hc13 (inApp (inMem (fun x hx => (List.mem_append_left _ hx))) inNil)
  replace hZ := Nat.le_trans hZ hc13.size
  clear F0_1
  have hl16 := hl15.trans (Eq.refl (l0_1).length)
  refine ⟨.int .i64 (y10.1), rfl, ?_⟩
  rewrite [(show (l0_1).length = (y10.2).length from hl15.symm)]
  refine wS_pure 1 [(1, .int .i64 (y10.1))] (by kernel_rfl) ?_
  refine wS_end (by rfl) ?_
  refine eX_then ?_
  refine cW_seq ?_
  refine cW_region ?_
  refine wS_pure 1 [(9, .pointer (some ⟨b4, 2, none⟩))] (by kernel_rfl) ?_
  refine wS_load1 (d := 10) (T := 24) (ad := ⟨b4, 2, none⟩) (v := .slice A0_2 (l0_2).length cap0_2) (by kernel_rfl) vt24 ((F7).cell 2) ?_
  refine wS_pure 1 [(11, .int .i64 (y10.1))] (by kernel_rfl) ?_
  obtain ⟨y17, hy18, hm⟩ := bindE hm
  refine wS_calls (d := 12) (f := 35) (vs := [.slice A0_2 (l0_2).length cap0_2, .int .i64 (y10.1)]) (by kernel_rfl) ent35 (c_laws_markInt64SS hy18 F0_2) ?_
  rintro _ w19 ⟨rfl, F21, hl22, hc20⟩
  replace F14 := F14.chg hc20 (Dj.app J0_1__0_2 Dj.nil)
  replace F0_3 := F0_3.chg hc20 (Dj.app (J0_2__0_3).symm Dj.nil)
  replace F7 := F7.chg hc20 (dj1 (Dj.app (Dj.of L0_2 (low1 G6)).symm Dj.nil))
  replace hB := hB.inS hc20 (inApp (inMem (fun x hx => (List.mem_append_right _ (List.mem_append_left _ hx)))) inNil)
  replace hZ := Nat.le_trans hZ hc20.size
  clear F0_2
  have hl23 := hl22.trans (Eq.refl (l0_2).length)
  refine ⟨.int .i64 (y17.1), rfl, ?_⟩
  rewrite [(show (l0_2).length = (y17.2).length from hl22.symm)]
  refine wS_pure 1 [(1, .int .i64 (y17.1))] (by kernel_rfl) ?_
  refine wS_end (by rfl) ?_
  refine eX_then ?_
  refine cW_seq ?_
  refine cW_region ?_
  refine wS_pure 1 [(13, .pointer (some ⟨b4, 3, none⟩))] (by kernel_rfl) ?_
  refine wS_load1 (d := 14) (T := 25) (ad := ⟨b4, 3, none⟩) (v := .slice A0_3 (l0_3).length cap0_3) (by kernel_rfl) vt25 ((F7).cell 3) ?_
  refine wS_pure 1 [(15, .int .i64 (y17.1))] (by kernel_rfl) ?_
  obtain ⟨y24, hy25, hm⟩ := bindE hm
  refine wS_calls (d := 16) (f := 44) (vs := [.slice A0_3 (l0_3).length cap0_3, .int .i64 (y17.1)]) (by kernel_rfl) ent44 (c_laws_markInt64S hy25 F0_3) ?_
  rintro _ w26 ⟨rfl, F28, hl29, hc27⟩
  replace F14 := F14.chg hc27 (Dj.app J0_1__0_3 Dj.nil)
  replace F21 := F21.chg hc27 (Dj.app J0_2__0_3 Dj.nil)
  replace F7 := F7.chg hc27 (dj1 (Dj.app (Dj.of L0_3 (low1 G6)).symm Dj.nil))
  replace hB := hB.inS hc27 (inApp (inMem (fun x hx => (List.mem_append_right _ (List.mem_append_right _ (List.mem_append_left _ hx))))) inNil)
  replace hZ := Nat.le_trans hZ hc27.size
  clear F0_3
  have hl30 := hl29.trans (Eq.refl (l0_3).length)
  refine ⟨.int .i64 (y24.1), rfl, ?_⟩
  rewrite [(show (l0_3).length = (y24.2).length from hl29.symm)]
  refine wS_pure 1 [(1, .int .i64 (y24.1))] (by kernel_rfl) ?_
  refine wS_end (by rfl) ?_
  refine eX_then ?_
  refine cW_seq ?_
  refine cW_region ?_
  refine wS_pure 2 [(4, .int .i64 (y24.1)), (17, .int .i64 (y24.1))] (by kernel_rfl) ?_
  refine wS_end (by rfl) ?_
  refine eX_then ?_
  refine cW_ret ?_
  have hq : (some ((y24.1, y10.2, y17.2, y24.2)) : Option ((Int) × (List (List (Int))) × (List (List (Int))) × (List (Int)))) = some _ := hm
  replace hq := someE hq
  subst hq
  refine eX_ret (vs := [.int .i64 (y24.1)]) [.tmp 4] (by rfl) ⟨by (show lkE _ _ _ = _); kernel_rfl, trivial⟩ ?_
  exact ⟨rfl, F14, (by first | exact hl16 | rfl), F21, (by first | exact hl23 | rfl), F28, (by first | exact hl30 | rfl), hB⟩

set_option maxRecDepth 100000 in
/-- laws.FnExactFewestVias -/
theorem c_laws_FnExactFewestVias {w0 : World} {p0_0 : Int} {l0_1 : List (List (Int))} {A0_1 : Option Addr} {cap0_1 : Nat} {fp0_1 : List Nat} {l0_2 : List (List (Int))} {A0_2 : Option Addr} {cap0_2 : Nat} {fp0_2 : List Nat} {l0_3 : List (Int)} {A0_3 : Option Addr} {cap0_3 : Nat} {fp0_3 : List Nat} {r : (Bool)} (hm : m_laws_FnExactFewestVias p0_0 l0_1 l0_2 l0_3 = some r) (F0_1 : SlR 1 encI w0 fp0_1 A0_1 l0_1) (F0_2 : SlR 1 encI w0 fp0_2 A0_2 l0_2) (F0_3 : Sl 1 encI w0 fp0_3 A0_3 l0_3) :
    Calls Try.prog 7 #[.agg #[.int .i64 (p0_0), .slice A0_1 (l0_1).length cap0_1, .slice A0_2 (l0_2).length cap0_2, .slice A0_3 (l0_3).length cap0_3]] w0 fun e w' => e = .returned (.bool (r)) ∧ Chg [] w0 w' := by
  have L0_1 := F0_1.low
  have L0_2 := F0_2.low
  have L0_3 := F0_3.low
  have hB : Chg [] w0 w0 := Chg.refl _ _
  have hZ := Nat.le_refl w0.heap.size
  unfold m_laws_FnExactFewestVias at hm
  refine enterE (N := 117) Try.func7 (by rfl) Try.ntmps7 (by simp) [(0, .agg #[.int .i64 (p0_0), .slice A0_1 (l0_1).length cap0_1, .slice A0_2 (l0_2).length cap0_2, .slice A0_3 (l0_3).length cap0_3])] (by rfl) (by kernel_rfl) (fun a => ?_)
  refine cW_seq ?_
  refine cW_region ?_
  refine wS_box (d := 1) (T := 59) (x := .agg #[.int .i64 (p0_0), .slice A0_1 (l0_1).length cap0_1, .slice A0_2 (l0_2).length cap0_2, .slice A0_3 (l0_3).length cap0_3]) (by kernel_rfl) ?_
  intro b4 w5 G6 F7 hc8
  replace F7 : Cl w5 b4 59 [.int .i64 (p0_0), .slice A0_1 (l0_1).length cap0_1, .slice A0_2 (l0_2).length cap0_2, .slice A0_3 (l0_3).length cap0_3] := F7
  replace F0_1 := F0_1.chg hc8 Dj.nil
  replace F0_2 := F0_2.chg hc8 Dj.nil
  replace F0_3 := F0_3.chg hc8 Dj.nil
  replace hB := hB.inS hc8 inNil
  replace G6 := Nat.le_trans hZ G6
  replace hZ := Nat.le_trans hZ hc8.size
  refine wS_pure 1 [(2, .bool (false))] (by kernel_rfl) ?_
  refine wS_end (by rfl) ?_
  refine eX_then ?_
  refine cW_seq ?_
  refine cW_region ?_
  refine wS_pure 1 [(3, .int .i64 (1048576))] (by kernel_rfl) ?_
  refine wS_end (by rfl) ?_
  refine eX_then ?_
  refine cW_seq ?_
  refine cW_region ?_
  refine wS_loadA (d := 17) (T := 59) (ad := ⟨b4, 0, none⟩) (vs := [.int .i64 (p0_0), .slice A0_1 (l0_1).length cap0_1, .slice A0_2 (l0_2).length cap0_2, .slice A0_3 (l0_3).length cap0_3]) (by kernel_rfl) vt59 (fun i u hu => box_cells F7 0 hu (by rfl)) ?_
  refine wS_pure 1 [(18, .int .i64 (1048576))] (by kernel_rfl) ?_
  obtain ⟨y10, hy11, hm⟩ := bindE hm
  refine wS_calls (d := 19) (f := 37) (vs := [.agg #[.int .i64 (p0_0), .slice A0_1 (l0_1).length cap0_1, .slice A0_2 (l0_2).length cap0_2, .slice A0_3 (l0_3).length cap0_3], .int .i64 (1048576)]) (by kernel_rfl) ent37 (c_laws_szWiring hy11 F0_1 F0_2 F0_3) ?_
  rintro _ w12 ⟨rfl, hc13⟩
  replace F0_1 := F0_1.chg hc13 Dj.nil
  replace F0_2 := F0_2.chg hc13 Dj.nil
  replace F0_3 := F0_3.chg hc13 Dj.nil
  replace F7 := F7.chg hc13 notNil
  replace hB := hB.inS hc13 inNil
  replace hZ := Nat.le_trans hZ hc13.size
  refine ⟨.int .i64 (y10), rfl, ?_⟩
  refine wS_pure 1 [(3, .int .i64 (y10))] (by kernel_rfl) ?_
  refine wS_end (by rfl) ?_
  refine eX_then ?_
  refine cW_seq ?_
  refine cW_seq ?_
  refine cW_region ?_
  refine wS_pure 2 [(21, .bool (decide (y10 < 0))), (20, .int .i64 (y10))] (by kernel_rfl) ?_
  refine wS_end (by rfl) ?_
  refine eX_then ?_
  refine cW_cond (t := decide (y10 < 0)) (by kernel_rfl) (fun hb14 => ?_) (fun hb14 => ?_)
  · have hm := condT hb14 hm
    refine cW_seq ?_
    refine cW_region ?_
    refine wS_pure 1 [(2, .bool (true))] (by kernel_rfl) ?_
    refine wS_end (by rfl) ?_
    refine eX_then ?_
    refine cW_ret ?_
    refine eX_then_ret ?_
    have hq : (some true : Option ((Bool))) = some _ := hm
    replace hq := someE hq
    subst hq
    refine eX_ret (vs := [.bool (true)]) [.tmp 2] (by rfl) ⟨by (show lkE _ _ _ = _); kernel_rfl, trivial⟩ ?_
    exact ⟨rfl, hB⟩
  · have hm := condF hb14 hm
    refine cW_skip ?_
    refine eX_then ?_
    refine cW_seq ?_
    refine cW_region ?_
    refine wS_loadA (d := 23) (T := 59) (ad := ⟨b4, 0, none⟩) (vs := [.int .i64 (p0_0), .slice A0_1 (l0_1).length cap0_1, .slice A0_2 (l0_2).length cap0_2, .slice A0_3 (l0_3).length cap0_3]) (by kernel_rfl) vt59 (fun i u hu => box_cells F7 0 hu (by rfl)) ?_
    obtain ⟨y15, hy16, hm⟩ := bindE hm
    refine wS_calls (d := 24) (f := 39) (vs := [.agg #[.int .i64 (p0_0), .slice A0_1 (l0_1).length cap0_1, .slice A0_2 (l0_2).length cap0_2, .slice A0_3 (l0_3).length cap0_3]]) (by kernel_rfl) ent39 (c_laws_toWiring hy16 F0_1 F0_2 F0_3) ?_
    rintro _ w17 ⟨A19, cap20, fp21, fr24, A25, cap26, fp27, fr30, A31, cap32, fp33, rfl, F22, G23, F28, G29, F34, G35, D37, D38, D39, hc18⟩
    have D41 : Dj [b4] (fp21 ++ fr24) := Dj.of (lt1 F7.lt) G23
    have D43 : Dj [b4] (fp27 ++ fr30) := Dj.of (lt1 F7.lt) G29
    have D45 : Dj [b4] fp33 := Dj.of (lt1 F7.lt) G35
    replace F0_1 := F0_1.chg hc18 Dj.nil
    replace F0_2 := F0_2.chg hc18 Dj.nil
    replace F0_3 := F0_3.chg hc18 Dj.nil
    replace F7 := F7.chg hc18 notNil
    replace hB := hB.inS hc18 inNil
    replace G23 := low_le hZ G23
    replace G29 := low_le hZ G29
    replace G35 := low_le hZ G35
    replace hZ := Nat.le_trans hZ hc18.size
    refine ⟨.agg #[.int .i64 (y15.1), .slice A19 (y15.2.1).length cap20, .slice A25 (y15.2.2.1).length cap26, .slice A31 (y15.2.2.2).length cap32], rfl, ?_⟩
    obtain ⟨y46, hy47, hm⟩ := bindE hm
    refine wS_calls (d := 25) (f := 41) (vs := [.agg #[.int .i64 (y15.1), .slice A19 (y15.2.1).length cap20, .slice A25 (y15.2.2.1).length cap26, .slice A31 (y15.2.2.2).length cap32]]) (by kernel_rfl) ent41 (c_spec_FewestVias hy47 (F22.slr encI_ok) (F28.slr encI_ok) (F34.sl encI_ok)) ?_
    rintro _ w48 ⟨A50, cap51, fp52, rfl, F53, G54, K55, hc49⟩
    have Rt57 : Rt w0.heap.size (fp0_1 ++ (fp0_2 ++ (fp0_3 ++ []))) fp52 := Rt.of G54 hZ (Rt.app (Rt.low G23) (Rt.app (Rt.low G29) (Rt.app (Rt.low G35) Rt.nil)))
    have G58 := Rt.lowof G54 hZ (lowApp G23 (lowApp G29 (lowApp G35 lowNil)))
    have D59 : Dj [b4] fp52 := Rt.dj G54 (lt1 F7.lt) (Dj.app D41 (Dj.app D43 (Dj.app D45 Dj.nil)))
    replace F0_1 := F0_1.chg hc49 Dj.nil
    replace F0_2 := F0_2.chg hc49 Dj.nil
    replace F0_3 := F0_3.chg hc49 Dj.nil
    replace F7 := F7.chg hc49 notNil
    replace F22 := F22.chg hc49 Dj.nil
    replace F28 := F28.chg hc49 Dj.nil
    replace F34 := F34.chg hc49 Dj.nil
    replace hB := hB.inS hc49 inNil
    replace hZ := Nat.le_trans hZ hc49.size
    refine ⟨.tuple #[.slice A50 (y46.1).length cap51, .int .i64 (y46.2.1), .bool (y46.2.2)], rfl, ?_⟩
    refine wS_pure 7 [(6, .bool (y46.2.2)), (5, .int .i64 (y46.2.1)), (4, .slice A50 (y46.1).length cap51), (28, .bool (y46.2.2)), (27, .int .i64 (y46.2.1)), (26, .slice A50 (y46.1).length cap51), (22, .tuple #[.slice A50 (y46.1).length cap51, .int .i64 (y46.2.1), .bool (y46.2.2)])] (by kernel_rfl) ?_
    refine wS_end (by rfl) ?_
    refine eX_then ?_
    refine cW_seq ?_
    refine cW_region ?_
    refine wS_loadA (d := 29) (T := 59) (ad := ⟨b4, 0, none⟩) (vs := [.int .i64 (p0_0), .slice A0_1 (l0_1).length cap0_1, .slice A0_2 (l0_2).length cap0_2, .slice A0_3 (l0_3).length cap0_3]) (by kernel_rfl) vt59 (fun i u hu => box_cells F7 0 hu (by rfl)) ?_
    obtain ⟨y60, hy61, hm⟩ := bindE hm
    refine wS_calls (d := 30) (f := 39) (vs := [.agg #[.int .i64 (p0_0), .slice A0_1 (l0_1).length cap0_1, .slice A0_2 (l0_2).length cap0_2, .slice A0_3 (l0_3).length cap0_3]]) (by kernel_rfl) ent39 (c_laws_toWiring hy61 F0_1 F0_2 F0_3) ?_
    rintro _ w62 ⟨A64, cap65, fp66, fr69, A70, cap71, fp72, fr75, A76, cap77, fp78, rfl, F67, G68, F73, G74, F79, G80, D82, D83, D84, hc63⟩
    have D86 : Dj [b4] (fp66 ++ fr69) := Dj.of (lt1 F7.lt) G68
    have D87 : Dj (fp21 ++ fr24) (fp66 ++ fr69) := Dj.of F22.low G68
    have D88 : Dj (fp27 ++ fr30) (fp66 ++ fr69) := Dj.of F28.low G68
    have D89 : Dj fp33 (fp66 ++ fr69) := Dj.of F34.low G68
    have D90 : Dj fp52 (fp66 ++ fr69) := Dj.of F53.low G68
    have D92 : Dj [b4] (fp72 ++ fr75) := Dj.of (lt1 F7.lt) G74
    have D93 : Dj (fp21 ++ fr24) (fp72 ++ fr75) := Dj.of F22.low G74
    have D94 : Dj (fp27 ++ fr30) (fp72 ++ fr75) := Dj.of F28.low G74
    have D95 : Dj fp33 (fp72 ++ fr75) := Dj.of F34.low G74
    have D96 : Dj fp52 (fp72 ++ fr75) := Dj.of F53.low G74
    have D98 : Dj [b4] fp78 := Dj.of (lt1 F7.lt) G80
    have D99 : Dj (fp21 ++ fr24) fp78 := Dj.of F22.low G80
    have D100 : Dj (fp27 ++ fr30) fp78 := Dj.of F28.low G80
    have D101 : Dj fp33 fp78 := Dj.of F34.low G80
    have D102 : Dj fp52 fp78 := Dj.of F53.low G80
    replace F0_1 := F0_1.chg hc63 Dj.nil
    replace F0_2 := F0_2.chg hc63 Dj.nil
    replace F0_3 := F0_3.chg hc63 Dj.nil
    replace F7 := F7.chg hc63 notNil
    replace F22 := F22.chg hc63 Dj.nil
    replace F28 := F28.chg hc63 Dj.nil
    replace F34 := F34.chg hc63 Dj.nil
    replace F53 := F53.chg hc63 Dj.nil
    replace hB := hB.inS hc63 inNil
    replace G68 := low_le hZ G68
    replace G74 := low_le hZ G74
    replace G80 := low_le hZ G80
    replace hZ := Nat.le_trans hZ hc63.size
    refine ⟨.agg #[.int .i64 (y60.1), .slice A64 (y60.2.1).length cap65, .slice A70 (y60.2.2.1).length cap71, .slice A76 (y60.2.2.2).length cap77], rfl, ?_⟩
    refine wS_alloc (d := 7) (T := 27) (z := .agg #[.int .i64 (0), .slice none 0 0, .slice none 0 0, .slice none 0 0]) (by kernel_rfl) (by kernel_rfl) ?_
    intro b103 w104 G105 F106 hc107
    replace F106 : Cl w104 b103 27 [.int .i64 (0), .slice none 0 0, .slice none 0 0, .slice none 0 0] := F106
    have D109 : Dj [b4] [b103] := Dj.of (lt1 F7.lt) (low1 G105)
    have D110 : Dj (fp21 ++ fr24) [b103] := Dj.of F22.low (low1 G105)
    have D111 : Dj (fp27 ++ fr30) [b103] := Dj.of F28.low (low1 G105)
    have D112 : Dj fp33 [b103] := Dj.of F34.low (low1 G105)
    have D113 : Dj fp52 [b103] := Dj.of F53.low (low1 G105)
    have D114 : Dj (fp66 ++ fr69) [b103] := Dj.of F67.low (low1 G105)
    have D115 : Dj (fp72 ++ fr75) [b103] := Dj.of F73.low (low1 G105)
    have D116 : Dj fp78 [b103] := Dj.of F79.low (low1 G105)
    replace F0_1 := F0_1.chg hc107 Dj.nil
    replace F0_2 := F0_2.chg hc107 Dj.nil
    replace F0_3 := F0_3.chg hc107 Dj.nil
    replace F7 := F7.chg hc107 notNil
    replace F22 := F22.chg hc107 Dj.nil
    replace F28 := F28.chg hc107 Dj.nil
    replace F34 := F34.chg hc107 Dj.nil
    replace F53 := F53.chg hc107 Dj.nil
    replace F67 := F67.chg hc107 Dj.nil
    replace F73 := F73.chg hc107 Dj.nil
    replace F79 := F79.chg hc107 Dj.nil
    replace hB := hB.inS hc107 inNil
    replace G105 := Nat.le_trans hZ G105
    replace hZ := Nat.le_trans hZ hc107.size
    refine wS_store (T := 27) (g := b103) (o := 0) (ad := ⟨b103, 0, none⟩) (v := .agg #[.int .i64 (y60.1), .slice A64 (y60.2.1).length cap65, .slice A70 (y60.2.2.1).length cap71, .slice A76 (y60.2.2.2).length cap77]) (vs := [.int .i64 (y60.1), .slice A64 (y60.2.1).length cap65, .slice A70 (y60.2.2.1).length cap71, .slice A76 (y60.2.2.2).length cap77]) (by kernel_rfl) (by rfl) sz27 (by rfl) (by rfl) F106 (by simp only [List.length_cons, List.length_nil]; omega) ?_
    intro w117 F118 hc119
    replace F0_1 := F0_1.chg hc119 (Dj.of L0_1 (low1 G105))
    replace F0_2 := F0_2.chg hc119 (Dj.of L0_2 (low1 G105))
    replace F0_3 := F0_3.chg hc119 (Dj.of L0_3 (low1 G105))
    replace F7 := F7.chg hc119 (dj1 D109)
    replace F22 := F22.chg hc119 D110
    replace F28 := F28.chg hc119 D111
    replace F34 := F34.chg hc119 D112
    replace F53 := F53.chg hc119 D113
    replace F67 := F67.chg hc119 D114
    replace F73 := F73.chg hc119 D115
    replace F79 := F79.chg hc119 D116
    replace hB := hB.inS hc119 (inLow (low1 G105))
    replace hZ := Nat.le_trans hZ hc119.size
    replace F118 : Cl w117 b103 27 [.int .i64 (y60.1), .slice A64 (y60.2.1).length cap65, .slice A70 (y60.2.2.1).length cap71, .slice A76 (y60.2.2.2).length cap77] := F118
    clear F106
    refine wS_end (by rfl) ?_
    refine eX_then ?_
    refine cW_seq ?_
    refine cW_region ?_
    refine wS_loadA (d := 32) (T := 27) (ad := ⟨b103, 0, none⟩) (vs := [.int .i64 (y60.1), .slice A64 (y60.2.1).length cap65, .slice A70 (y60.2.2.1).length cap71, .slice A76 (y60.2.2.2).length cap77]) (by kernel_rfl) vt27 (fun i u hu => box_cells F118 0 hu (by rfl)) ?_
    obtain ⟨y120, hy121, hm⟩ := bindE hm
    refine wS_calls (d := 33) (f := 13) (vs := [.agg #[.int .i64 (y60.1), .slice A64 (y60.2.1).length cap65, .slice A70 (y60.2.2.1).length cap71, .slice A76 (y60.2.2.2).length cap77]]) (by kernel_rfl) ent13 (c_impl_FewestVias hy121 (F67.slr encI_ok) (F73.slr encI_ok) (F79.sl encI_ok)) ?_
    rintro _ w122 ⟨A124, cap125, fp126, rfl, F127, G128, hc123⟩
    have D131 : Dj [b4] fp126 := Dj.of (lt1 F7.lt) G128
    have D132 : Dj (fp21 ++ fr24) fp126 := Dj.of F22.low G128
    have D133 : Dj (fp27 ++ fr30) fp126 := Dj.of F28.low G128
    have D134 : Dj fp33 fp126 := Dj.of F34.low G128
    have D135 : Dj fp52 fp126 := Dj.of F53.low G128
    have D136 : Dj (fp66 ++ fr69) fp126 := Dj.of F67.low G128
    have D137 : Dj (fp72 ++ fr75) fp126 := Dj.of F73.low G128
    have D138 : Dj fp78 fp126 := Dj.of F79.low G128
    have D139 : Dj [b103] fp126 := Dj.of (lt1 F118.lt) G128
    replace F0_1 := F0_1.chg hc123 Dj.nil
    replace F0_2 := F0_2.chg hc123 Dj.nil
    replace F0_3 := F0_3.chg hc123 Dj.nil
    replace F7 := F7.chg hc123 notNil
    replace F22 := F22.chg hc123 Dj.nil
    replace F28 := F28.chg hc123 Dj.nil
    replace F34 := F34.chg hc123 Dj.nil
    replace F53 := F53.chg hc123 Dj.nil
    replace F67 := F67.chg hc123 Dj.nil
    replace F73 := F73.chg hc123 Dj.nil
    replace F79 := F79.chg hc123 Dj.nil
    replace F118 := F118.chg hc123 notNil
    replace hB := hB.inS hc123 inNil
    replace G128 := low_le hZ G128
    replace hZ := Nat.le_trans hZ hc123.size
    refine ⟨.tuple #[.slice A124 (y120.1).length cap125, .int .i64 (y120.2.1), .bool (y120.2.2)], rfl, ?_⟩
    refine wS_pure 7 [(10, .bool (y120.2.2)), (9, .int .i64 (y120.2.1)), (8, .slice A124 (y120.1).length cap125), (36, .bool (y120.2.2)), (35, .int .i64 (y120.2.1)), (34, .slice A124 (y120.1).length cap125), (31, .tuple #[.slice A124 (y120.1).length cap125, .int .i64 (y120.2.1), .bool (y120.2.2)])] (by kernel_rfl) ?_
    refine wS_end (by rfl) ?_
    refine eX_then ?_
    refine cW_prune [(1, .pointer (some ⟨b4, 0, none⟩)), (4, .slice A50 (y46.1).length cap51), (5, .int .i64 (y46.2.1)), (6, .bool (y46.2.2)), (7, .pointer (some ⟨b103, 0, none⟩)), (8, .slice A124 (y120.1).length cap125), (9, .int .i64 (y120.2.1)), (10, .bool (y120.2.2))] (by kernel_rfl) (by kernel_rfl) (fun a140 => ?_)
    refine cW_seq ?_
    refine cW_seq ?_
    refine cW_region ?_
    refine wS_pure 2 [(38, .slice A50 (y46.1).length cap51), (37, .slice A124 (y120.1).length cap125)] (by kernel_rfl) ?_
    obtain ⟨y141, hy142, hm⟩ := bindE hm
    refine wS_calls (d := 39) (f := 42) (vs := [.slice A124 (y120.1).length cap125, .slice A50 (y46.1).length cap51]) (by kernel_rfl) ent42 (c_laws_eqInt64S hy142 (F127.sl encI_ok) F53) ?_
    rintro _ w143 ⟨rfl, hc144⟩
    replace F0_1 := F0_1.chg hc144 Dj.nil
    replace F0_2 := F0_2.chg hc144 Dj.nil
    replace F0_3 := F0_3.chg hc144 Dj.nil
    replace F7 := F7.chg hc144 notNil
    replace F22 := F22.chg hc144 Dj.nil
    replace F28 := F28.chg hc144 Dj.nil
    replace F34 := F34.chg hc144 Dj.nil
    replace F53 := F53.chg hc144 Dj.nil
    replace F67 := F67.chg hc144 Dj.nil
    replace F73 := F73.chg hc144 Dj.nil
    replace F79 := F79.chg hc144 Dj.nil
    replace F118 := F118.chg hc144 notNil
    replace F127 := F127.chg hc144 Dj.nil
    replace hB := hB.inS hc144 inNil
    replace hZ := Nat.le_trans hZ hc144.size
    refine ⟨.bool (y141), rfl, ?_⟩
    refine wS_pure 2 [(41, .bool (!y141)), (40, .bool (!y141))] (by kernel_rfl) ?_
    refine wS_bool (!y141) (fun hb145 => ?_) (fun hb145 => ?_)
    · have hm := condT hb145 hm
      rewrite [hb145]
      refine wS_pure 9 [(50, .bool (true)), (49, undef), (48, undef), (47, undef), (46, .bool (true)), (45, .bool (true)), (44, undef), (43, undef), (42, undef)] (by kernel_rfl) ?_
      refine wS_end (by rfl) ?_
      refine eX_then ?_
      refine cW_cond_t (by kernel_rfl) ?_
      refine cW_seq ?_
      refine cW_region ?_
      refine wS_pure 1 [(2, .bool (false))] (by kernel_rfl) ?_
      refine wS_end (by rfl) ?_
      refine eX_then ?_
      refine cW_ret ?_
      refine eX_then_ret ?_
      have hq : (some false : Option ((Bool))) = some _ := hm
      replace hq := someE hq
      subst hq
      refine eX_ret (vs := [.bool (false)]) [.tmp 2] (by rfl) ⟨by (show lkE _ _ _ = _); kernel_rfl, trivial⟩ ?_
      exact ⟨rfl, hB⟩
    · have hm := condF hb145 hm
      rewrite [hb145]
      refine wS_pure 5 [(46, .bool (y120.2.1 != y46.2.1)), (45, .bool (y120.2.1 != y46.2.1)), (44, .bool (y120.2.1 != y46.2.1)), (43, .int .i64 (y46.2.1)), (42, .int .i64 (y120.2.1))] (by kernel_rfl) ?_
      refine wS_bool (y120.2.1 != y46.2.1) (fun hb146 => ?_) (fun hb146 => ?_)
      · have hm := condT hb146 hm
        rewrite [hb146]
        refine wS_pure 4 [(50, .bool (true)), (49, undef), (48, undef), (47, undef)] (by kernel_rfl) ?_
        refine wS_end (by rfl) ?_
        refine eX_then ?_
        refine cW_cond_t (by kernel_rfl) ?_
        refine cW_seq ?_
        refine cW_region ?_
        refine wS_pure 1 [(2, .bool (false))] (by kernel_rfl) ?_
        refine wS_end (by rfl) ?_
        refine eX_then ?_
        refine cW_ret ?_
        refine eX_then_ret ?_
        have hq : (some false : Option ((Bool))) = some _ := hm
        replace hq := someE hq
        subst hq
        refine eX_ret (vs := [.bool (false)]) [.tmp 2] (by rfl) ⟨by (show lkE _ _ _ = _); kernel_rfl, trivial⟩ ?_
        exact ⟨rfl, hB⟩
      · have hm := condF hb146 hm
        rewrite [hb146]
        refine wS_pure 4 [(50, .bool (!(y120.2.2 == y46.2.2))), (49, .bool (!(y120.2.2 == y46.2.2))), (48, .bool (y46.2.2)), (47, .bool (y120.2.2))] (by kernel_rfl) ?_
        refine wS_end (by rfl) ?_
        refine eX_then ?_
        refine cW_cond (t := !(y120.2.2 == y46.2.2)) (by kernel_rfl) (fun hb147 => ?_) (fun hb147 => ?_)
        · have hm := condT hb147 hm
          refine cW_seq ?_
          refine cW_region ?_
          refine wS_pure 1 [(2, .bool (false))] (by kernel_rfl) ?_
          refine wS_end (by rfl) ?_
          refine eX_then ?_
          refine cW_ret ?_
          refine eX_then_ret ?_
          have hq : (some false : Option ((Bool))) = some _ := hm
          replace hq := someE hq
          subst hq
          refine eX_ret (vs := [.bool (false)]) [.tmp 2] (by rfl) ⟨by (show lkE _ _ _ = _); kernel_rfl, trivial⟩ ?_
          exact ⟨rfl, hB⟩
        · have hm := condF hb147 hm
          refine cW_skip ?_
          refine eX_then ?_
          refine cW_seq ?_
          refine cW_seq ?_
          refine cW_drawnTail [] 3 (by kernel_rfl) (by kernel_rfl) (fun w225 hc226 => ?_)
          replace F0_1 := F0_1.chg hc226 Dj.nil
          replace F0_2 := F0_2.chg hc226 Dj.nil
          replace F0_3 := F0_3.chg hc226 Dj.nil
          replace F7 := F7.chg hc226 notNil
          replace F22 := F22.chg hc226 Dj.nil
          replace F28 := F28.chg hc226 Dj.nil
          replace F34 := F34.chg hc226 Dj.nil
          replace F53 := F53.chg hc226 Dj.nil
          replace F67 := F67.chg hc226 Dj.nil
          replace F73 := F73.chg hc226 Dj.nil
          replace F79 := F79.chg hc226 Dj.nil
          replace F118 := F118.chg hc226 notNil
          replace F127 := F127.chg hc226 Dj.nil
          replace hB := hB.inS hc226 inNil
          replace hZ := Nat.le_trans hZ hc226.size
          have hS := Chg.refl [] w225
          have Z227 := F0_1
          have Z228 := F0_2
          have Z229 := F0_3
          have Z230 := F7
          have Z231 := F22
          have Z232 := F28
          have Z233 := F34
          have Z234 := F53
          have Z235 := F67
          have Z236 := F73
          have Z237 := F79
          have Z238 := F118
          have Z239 := F127
          refine wH_loadA (i := 0) (d := 51) (T := 27) (ad := ⟨b103, 0, none⟩) (vs := [.int .i64 (y60.1), .slice A64 (y60.2.1).length cap65, .slice A70 (y60.2.2.1).length cap71, .slice A76 (y60.2.2.2).length cap77]) (by kernel_rfl) (qT (qT (qT qZ))) (by kernel_rfl) (by kernel_rfl) vt27 (fun W hW i u hu => box_cells (Z238.chg hW notNil) 0 hu (by rfl)) ?_
          refine wH_loadA (i := 1) (d := 52) (T := 59) (ad := ⟨b4, 0, none⟩) (vs := [.int .i64 (p0_0), .slice A0_1 (l0_1).length cap0_1, .slice A0_2 (l0_2).length cap0_2, .slice A0_3 (l0_3).length cap0_3]) (by kernel_rfl) (qT (qT (qT qZ))) (by kernel_rfl) (by kernel_rfl) vt59 (fun W hW i u hu => box_cells (Z230.chg hW notNil) 0 hu (by rfl)) ?_
          refine wH_all [2] (by rfl) (by kernel_rfl) (by simp) ⟨⟨by kernel_rfl, ?_⟩, trivial⟩
          obtain ⟨y240, hy241, hm⟩ := bindE hm
          refine wS_calls (d := 53) (f := 39) (vs := [.agg #[.int .i64 (p0_0), .slice A0_1 (l0_1).length cap0_1, .slice A0_2 (l0_2).length cap0_2, .slice A0_3 (l0_3).length cap0_3]]) (by kernel_rfl) ent39 (c_laws_toWiring hy241 F0_1 F0_2 F0_3) ?_
          rintro _ w242 ⟨A244, cap245, fp246, fr249, A250, cap251, fp252, fr255, A256, cap257, fp258, rfl, F247, G248, F253, G254, F259, G260, D262, D263, D264, hc243⟩
          have D266 : Dj [b4] (fp246 ++ fr249) := Dj.of (lt1 F7.lt) G248
          have D267 : Dj (fp21 ++ fr24) (fp246 ++ fr249) := Dj.of F22.low G248
          have D268 : Dj (fp27 ++ fr30) (fp246 ++ fr249) := Dj.of F28.low G248
          have D269 : Dj fp33 (fp246 ++ fr249) := Dj.of F34.low G248
          have D270 : Dj fp52 (fp246 ++ fr249) := Dj.of F53.low G248
          have D271 : Dj (fp66 ++ fr69) (fp246 ++ fr249) := Dj.of F67.low G248
          have D272 : Dj (fp72 ++ fr75) (fp246 ++ fr249) := Dj.of F73.low G248
          have D273 : Dj fp78 (fp246 ++ fr249) := Dj.of F79.low G248
          have D274 : Dj [b103] (fp246 ++ fr249) := Dj.of (lt1 F118.lt) G248
          have D275 : Dj fp126 (fp246 ++ fr249) := Dj.of F127.low G248
          have D277 : Dj [b4] (fp252 ++ fr255) := Dj.of (lt1 F7.lt) G254
          have D278 : Dj (fp21 ++ fr24) (fp252 ++ fr255) := Dj.of F22.low G254
          have D279 : Dj (fp27 ++ fr30) (fp252 ++ fr255) := Dj.of F28.low G254
          have D280 : Dj fp33 (fp252 ++ fr255) := Dj.of F34.low G254
          have D281 : Dj fp52 (fp252 ++ fr255) := Dj.of F53.low G254
          have D282 : Dj (fp66 ++ fr69) (fp252 ++ fr255) := Dj.of F67.low G254
          have D283 : Dj (fp72 ++ fr75) (fp252 ++ fr255) := Dj.of F73.low G254
          have D284 : Dj fp78 (fp252 ++ fr255) := Dj.of F79.low G254
          have D285 : Dj [b103] (fp252 ++ fr255) := Dj.of (lt1 F118.lt) G254
          have D286 : Dj fp126 (fp252 ++ fr255) := Dj.of F127.low G254
          have D288 : Dj [b4] fp258 := Dj.of (lt1 F7.lt) G260
          have D289 : Dj (fp21 ++ fr24) fp258 := Dj.of F22.low G260
          have D290 : Dj (fp27 ++ fr30) fp258 := Dj.of F28.low G260
          have D291 : Dj fp33 fp258 := Dj.of F34.low G260
          have D292 : Dj fp52 fp258 := Dj.of F53.low G260
          have D293 : Dj (fp66 ++ fr69) fp258 := Dj.of F67.low G260
          have D294 : Dj (fp72 ++ fr75) fp258 := Dj.of F73.low G260
          have D295 : Dj fp78 fp258 := Dj.of F79.low G260
          have D296 : Dj [b103] fp258 := Dj.of (lt1 F118.lt) G260
          have D297 : Dj fp126 fp258 := Dj.of F127.low G260
          replace F0_1 := F0_1.chg hc243 Dj.nil
          replace F0_2 := F0_2.chg hc243 Dj.nil
          replace F0_3 := F0_3.chg hc243 Dj.nil
          replace F7 := F7.chg hc243 notNil
          replace F22 := F22.chg hc243 Dj.nil
          replace F28 := F28.chg hc243 Dj.nil
          replace F34 := F34.chg hc243 Dj.nil
          replace F53 := F53.chg hc243 Dj.nil
          replace F67 := F67.chg hc243 Dj.nil
          replace F73 := F73.chg hc243 Dj.nil
          replace F79 := F79.chg hc243 Dj.nil
          replace F118 := F118.chg hc243 notNil
          replace F127 := F127.chg hc243 Dj.nil
          replace hB := hB.inS hc243 inNil
          have hSz := hS
          replace hS := hS.inS hc243 inNil
          replace G248 := low_le hZ G248
          replace G254 := low_le hZ G254
          replace G260 := low_le hZ G260
          replace hZ := Nat.le_trans hZ hc243.size
          refine ⟨.agg #[.int .i64 (y240.1), .slice A244 (y240.2.1).length cap245, .slice A250 (y240.2.2.1).length cap251, .slice A256 (y240.2.2.2).length cap257], rfl, ?_⟩
          refine wS_end (by kernel_rfl) ?_
          refine eX_KH hS ?_
          refine wH_done (by kernel_rfl) ?_
          refine eX_tail ?_
          obtain ⟨y298, hy299, hm⟩ := bindE hm
          refine wS_calls (d := 54) (f := 40) (vs := [.agg #[.int .i64 (y60.1), .slice A64 (y60.2.1).length cap65, .slice A70 (y60.2.2.1).length cap71, .slice A76 (y60.2.2.2).length cap77], .agg #[.int .i64 (y240.1), .slice A244 (y240.2.1).length cap245, .slice A250 (y240.2.2.1).length cap251, .slice A256 (y240.2.2.2).length cap257]]) (by kernel_rfl) ent40 (c_laws_eqWiring hy299 (F67.slr encI_ok) (F73.slr encI_ok) (F79.sl encI_ok) (F247.slr encI_ok) (F253.slr encI_ok) (F259.sl encI_ok)) ?_
          rintro _ w300 ⟨rfl, hc301⟩
          replace F0_1 := F0_1.chg hc301 Dj.nil
          replace F0_2 := F0_2.chg hc301 Dj.nil
          replace F0_3 := F0_3.chg hc301 Dj.nil
          replace F7 := F7.chg hc301 notNil
          replace F22 := F22.chg hc301 Dj.nil
          replace F28 := F28.chg hc301 Dj.nil
          replace F34 := F34.chg hc301 Dj.nil
          replace F53 := F53.chg hc301 Dj.nil
          replace F67 := F67.chg hc301 Dj.nil
          replace F73 := F73.chg hc301 Dj.nil
          replace F79 := F79.chg hc301 Dj.nil
          replace F118 := F118.chg hc301 notNil
          replace F127 := F127.chg hc301 Dj.nil
          replace F247 := F247.chg hc301 Dj.nil
          replace F253 := F253.chg hc301 Dj.nil
          replace F259 := F259.chg hc301 Dj.nil
          replace hB := hB.inS hc301 inNil
          replace hZ := Nat.le_trans hZ hc301.size
          refine ⟨.bool (y298), rfl, ?_⟩
          refine wS_pure 1 [(55, .bool (!y298))] (by kernel_rfl) ?_
          refine wS_end (by rfl) ?_
          refine eX_then ?_
          refine cW_prune [(1, .pointer (some ⟨b4, 0, none⟩)), (4, .slice A50 (y46.1).length cap51), (5, .int .i64 (y46.2.1)), (6, .bool (y46.2.2)), (7, .pointer (some ⟨b103, 0, none⟩)), (8, .slice A124 (y120.1).length cap125), (9, .int .i64 (y120.2.1)), (10, .bool (y120.2.2)), (55, .bool (!y298))] (by kernel_rfl) (by kernel_rfl) (fun a302 => ?_)
          refine cW_cond (t := !y298) (by kernel_rfl) (fun hb303 => ?_) (fun hb303 => ?_)
          · have hm := condT hb303 hm
            refine cW_seq ?_
            refine cW_region ?_
            refine wS_pure 1 [(2, .bool (false))] (by kernel_rfl) ?_
            refine wS_end (by rfl) ?_
            refine eX_then ?_
            refine cW_ret ?_
            refine eX_then_ret ?_
            have hq : (some false : Option ((Bool))) = some _ := hm
            replace hq := someE hq
            subst hq
            refine eX_ret (vs := [.bool (false)]) [.tmp 2] (by rfl) ⟨by (show lkE _ _ _ = _); kernel_rfl, trivial⟩ ?_
            exact ⟨rfl, hB⟩
          · have hm := condF hb303 hm
            refine cW_skip ?_
            refine eX_then ?_
            refine cW_seq ?_
            refine cW_region ?_
            refine wS_pure 1 [(11, .int .i64 (1))] (by kernel_rfl) ?_
            refine wS_end (by rfl) ?_
            refine eX_then ?_
            refine cW_seq ?_
            refine cW_region ?_
            refine wS_loadA (d := 56) (T := 27) (ad := ⟨b103, 0, none⟩) (vs := [.int .i64 (y60.1), .slice A64 (y60.2.1).length cap65, .slice A70 (y60.2.2.1).length cap71, .slice A76 (y60.2.2.2).length cap77]) (by kernel_rfl) vt27 (fun i u hu => box_cells F118 0 hu (by rfl)) ?_
            refine wS_pure 1 [(57, .int .i64 (1))] (by kernel_rfl) ?_
            obtain ⟨y304, hy305, hm⟩ := bindE hm
            refine wS_calls (d := 58) (f := 43) (vs := [.agg #[.int .i64 (y60.1), .slice A64 (y60.2.1).length cap65, .slice A70 (y60.2.2.1).length cap71, .slice A76 (y60.2.2.2).length cap77], .int .i64 (1)]) (by kernel_rfl) ent43 (c_laws_markWiring hy305 F67 F73 F79 D82 D83 D84) ?_
            rintro _ w306 ⟨rfl, F308, hl309, F310, hl311, F312, hl313, hc307⟩
            replace F0_1 := F0_1.chg hc307 (Dj.app (Dj.of L0_1 G68) (Dj.app (Dj.of L0_1 G74) (Dj.app (Dj.of L0_1 G80) Dj.nil)))
            replace F0_2 := F0_2.chg hc307 (Dj.app (Dj.of L0_2 G68) (Dj.app (Dj.of L0_2 G74) (Dj.app (Dj.of L0_2 G80) Dj.nil)))
            replace F0_3 := F0_3.chg hc307 (Dj.app (Dj.of L0_3 G68) (Dj.app (Dj.of L0_3 G74) (Dj.app (Dj.of L0_3 G80) Dj.nil)))
            replace F7 := F7.chg hc307 (dj1 (Dj.app D86 (Dj.app D92 (Dj.app D98 Dj.nil))))
            replace F22 := F22.chg hc307 (Dj.app D87 (Dj.app D93 (Dj.app D99 Dj.nil)))
            replace F28 := F28.chg hc307 (Dj.app D88 (Dj.app D94 (Dj.app D100 Dj.nil)))
            replace F34 := F34.chg hc307 (Dj.app D89 (Dj.app D95 (Dj.app D101 Dj.nil)))
            replace F53 := F53.chg hc307 (Dj.app D90 (Dj.app D96 (Dj.app D102 Dj.nil)))
            replace F118 := F118.chg hc307 (dj1 (Dj.app (D114).symm (Dj.app (D115).symm (Dj.app (D116).symm Dj.nil))))
            replace F127 := F127.chg hc307 (Dj.app (D136).symm (Dj.app (D137).symm (Dj.app (D138).symm Dj.nil)))
            replace F247 := F247.chg hc307 (Dj.app (D271).symm (Dj.app (D272).symm (Dj.app (D273).symm Dj.nil)))
            replace F253 := F253.chg hc307 (Dj.app (D282).symm (Dj.app (D283).symm (Dj.app (D284).symm Dj.nil)))
            replace F259 := F259.chg hc307 (Dj.app (D293).symm (Dj.app (D294).symm (Dj.app (D295).symm Dj.nil)))
            replace hB := hB.inS hc307 (inApp (inLow G68) (inApp (inLow G74) (inApp (inLow G80) inNil)))
            replace hZ := Nat.le_trans hZ hc307.size
            clear F67
            clear F73
            clear F79
            refine ⟨.int .i64 (y304.1), rfl, ?_⟩
            rewrite [(show (y60.2.1).length = (y304.2.1).length from hl309.symm)]
            rewrite [(show (y60.2.2.1).length = (y304.2.2.1).length from hl311.symm)]
            rewrite [(show (y60.2.2.2).length = (y304.2.2.2).length from hl313.symm)]
            refine wS_pure 1 [(11, .int .i64 (y304.1))] (by kernel_rfl) ?_
            refine wS_end (by rfl) ?_
            refine eX_then ?_
            refine cW_seq ?_
            refine cW_seq ?_
            refine cW_region ?_
            refine wS_pure 3 [(61, .bool (decide (y304.1 < 0))), (60, .bool (decide (y304.1 < 0))), (59, .int .i64 (y304.1))] (by kernel_rfl) ?_
            refine wS_bool (decide (y304.1 < 0)) (fun hb314 => ?_) (fun hb314 => ?_)
            · have hm := condT hb314 hm
              rewrite [hb314]
              refine wS_pure 15 [(76, .bool (true)), (75, undef), (74, undef), (73, undef), (72, .bool (true)), (71, .bool (true)), (70, undef), (69, undef), (68, undef), (67, .bool (true)), (66, .bool (true)), (65, undef), (64, undef), (63, undef), (62, undef)] (by kernel_rfl) ?_
              refine wS_end (by rfl) ?_
              refine eX_then ?_
              refine cW_prune [(1, .pointer (some ⟨b4, 0, none⟩)), (4, .slice A50 (y46.1).length cap51), (5, .int .i64 (y46.2.1)), (6, .bool (y46.2.2)), (8, .slice A124 (y120.1).length cap125), (76, .bool (true))] (by kernel_rfl) (by kernel_rfl) (fun a315 => ?_)
              refine cW_cond_t (by kernel_rfl) ?_
              refine cW_seq ?_
              refine cW_region ?_
              refine wS_pure 1 [(2, .bool (false))] (by kernel_rfl) ?_
              refine wS_end (by rfl) ?_
              refine eX_then ?_
              refine cW_ret ?_
              refine eX_then_ret ?_
              have hq : (some false : Option ((Bool))) = some _ := hm
              replace hq := someE hq
              subst hq
              refine eX_ret (vs := [.bool (false)]) [.tmp 2] (by rfl) ⟨by (show lkE _ _ _ = _); kernel_rfl, trivial⟩ ?_
              exact ⟨rfl, hB⟩
            · have hm := condF hb314 hm
              rewrite [hb314]
              refine wS_pure 2 [(63, .slice A50 (y46.1).length cap51), (62, .slice A124 (y120.1).length cap125)] (by kernel_rfl) ?_
              obtain ⟨y316, hy317, hm⟩ := bindE hm
              refine wS_calls (d := 64) (f := 42) (vs := [.slice A124 (y120.1).length cap125, .slice A50 (y46.1).length cap51]) (by kernel_rfl) ent42 (c_laws_eqInt64S hy317 (F127.sl encI_ok) F53) ?_
              rintro _ w318 ⟨rfl, hc319⟩
              replace F0_1 := F0_1.chg hc319 Dj.nil
              replace F0_2 := F0_2.chg hc319 Dj.nil
              replace F0_3 := F0_3.chg hc319 Dj.nil
              replace F7 := F7.chg hc319 notNil
              replace F22 := F22.chg hc319 Dj.nil
              replace F28 := F28.chg hc319 Dj.nil
              replace F34 := F34.chg hc319 Dj.nil
              replace F53 := F53.chg hc319 Dj.nil
              replace F308 := F308.chg hc319 Dj.nil
              replace F310 := F310.chg hc319 Dj.nil
              replace F312 := F312.chg hc319 Dj.nil
              replace F118 := F118.chg hc319 notNil
              replace F127 := F127.chg hc319 Dj.nil
              replace F247 := F247.chg hc319 Dj.nil
              replace F253 := F253.chg hc319 Dj.nil
              replace F259 := F259.chg hc319 Dj.nil
              replace hB := hB.inS hc319 inNil
              replace hZ := Nat.le_trans hZ hc319.size
              refine ⟨.bool (y316), rfl, ?_⟩
              refine wS_pure 3 [(67, .bool (!y316)), (66, .bool (!y316)), (65, .bool (!y316))] (by kernel_rfl) ?_
              refine wS_bool (!y316) (fun hb320 => ?_) (fun hb320 => ?_)
              · have hm := condT hb320 hm
                rewrite [hb320]
                refine wS_pure 9 [(76, .bool (true)), (75, undef), (74, undef), (73, undef), (72, .bool (true)), (71, .bool (true)), (70, undef), (69, undef), (68, undef)] (by kernel_rfl) ?_
                refine wS_end (by rfl) ?_
                refine eX_then ?_
                refine cW_prune [(1, .pointer (some ⟨b4, 0, none⟩)), (4, .slice A50 (y46.1).length cap51), (5, .int .i64 (y46.2.1)), (6, .bool (y46.2.2)), (8, .slice A124 (y120.1).length cap125), (76, .bool (true))] (by kernel_rfl) (by kernel_rfl) (fun a321 => ?_)
                refine cW_cond_t (by kernel_rfl) ?_
                refine cW_seq ?_
                refine cW_region ?_
                refine wS_pure 1 [(2, .bool (false))] (by kernel_rfl) ?_
                refine wS_end (by rfl) ?_
                refine eX_then ?_
                refine cW_ret ?_
                refine eX_then_ret ?_
                have hq : (some false : Option ((Bool))) = some _ := hm
                replace hq := someE hq
                subst hq
                refine eX_ret (vs := [.bool (false)]) [.tmp 2] (by rfl) ⟨by (show lkE _ _ _ = _); kernel_rfl, trivial⟩ ?_
                exact ⟨rfl, hB⟩
              · have hm := condF hb320 hm
                rewrite [hb320]
                refine wS_pure 5 [(72, .bool (y120.2.1 != y46.2.1)), (71, .bool (y120.2.1 != y46.2.1)), (70, .bool (y120.2.1 != y46.2.1)), (69, .int .i64 (y46.2.1)), (68, .int .i64 (y120.2.1))] (by kernel_rfl) ?_
                refine wS_bool (y120.2.1 != y46.2.1) (fun hb322 => ?_) (fun hb322 => ?_)
                · have hm := condT hb322 hm
                  rewrite [hb322]
                  refine wS_pure 4 [(76, .bool (true)), (75, undef), (74, undef), (73, undef)] (by kernel_rfl) ?_
                  refine wS_end (by rfl) ?_
                  refine eX_then ?_
                  refine cW_prune [(1, .pointer (some ⟨b4, 0, none⟩)), (4, .slice A50 (y46.1).length cap51), (5, .int .i64 (y46.2.1)), (6, .bool (y46.2.2)), (8, .slice A124 (y120.1).length cap125), (76, .bool (true))] (by kernel_rfl) (by kernel_rfl) (fun a323 => ?_)
                  refine cW_cond_t (by kernel_rfl) ?_
                  refine cW_seq ?_
                  refine cW_region ?_
                  refine wS_pure 1 [(2, .bool (false))] (by kernel_rfl) ?_
                  refine wS_end (by rfl) ?_
                  refine eX_then ?_
                  refine cW_ret ?_
                  refine eX_then_ret ?_
                  have hq : (some false : Option ((Bool))) = some _ := hm
                  replace hq := someE hq
                  subst hq
                  refine eX_ret (vs := [.bool (false)]) [.tmp 2] (by rfl) ⟨by (show lkE _ _ _ = _); kernel_rfl, trivial⟩ ?_
                  exact ⟨rfl, hB⟩
                · have hm := condF hb322 hm
                  rewrite [hb322]
                  refine wS_pure 4 [(76, .bool (!(y120.2.2 == y46.2.2))), (75, .bool (!(y120.2.2 == y46.2.2))), (74, .bool (y46.2.2)), (73, .bool (y120.2.2))] (by kernel_rfl) ?_
                  refine wS_end (by rfl) ?_
                  refine eX_then ?_
                  refine cW_prune [(1, .pointer (some ⟨b4, 0, none⟩)), (4, .slice A50 (y46.1).length cap51), (5, .int .i64 (y46.2.1)), (6, .bool (y46.2.2)), (8, .slice A124 (y120.1).length cap125), (76, .bool (!(y120.2.2 == y46.2.2)))] (by kernel_rfl) (by kernel_rfl) (fun a324 => ?_)
                  refine cW_cond (t := !(y120.2.2 == y46.2.2)) (by kernel_rfl) (fun hb325 => ?_) (fun hb325 => ?_)
                  · have hm := condT hb325 hm
                    refine cW_seq ?_
                    refine cW_region ?_
                    refine wS_pure 1 [(2, .bool (false))] (by kernel_rfl) ?_
                    refine wS_end (by rfl) ?_
                    refine eX_then ?_
                    refine cW_ret ?_
                    refine eX_then_ret ?_
                    have hq : (some false : Option ((Bool))) = some _ := hm
                    replace hq := someE hq
                    subst hq
                    refine eX_ret (vs := [.bool (false)]) [.tmp 2] (by rfl) ⟨by (show lkE _ _ _ = _); kernel_rfl, trivial⟩ ?_
                    exact ⟨rfl, hB⟩
                  · have hm := condF hb325 hm
                    refine cW_skip ?_
                    refine eX_then ?_
                    refine cW_seq ?_
                    refine cW_region ?_
                    refine wS_pure 1 [(12, .int .i64 (1))] (by kernel_rfl) ?_
                    refine wS_end (by rfl) ?_
                    refine eX_then ?_
                    refine cW_seq ?_
                    refine cW_region ?_
                    refine wS_pure 2 [(78, .int .i64 (1)), (77, .slice A124 (y120.1).length cap125)] (by kernel_rfl) ?_
                    obtain ⟨y326, hy327, hm⟩ := bindE hm
                    refine wS_calls (d := 79) (f := 44) (vs := [.slice A124 (y120.1).length cap125, .int .i64 (1)]) (by kernel_rfl) ent44 (c_laws_markInt64S hy327 F127) ?_
                    rintro _ w328 ⟨rfl, F330, hl331, hc329⟩
                    replace F0_1 := F0_1.chg hc329 (Dj.app (Dj.of L0_1 G128) Dj.nil)
                    replace F0_2 := F0_2.chg hc329 (Dj.app (Dj.of L0_2 G128) Dj.nil)
                    replace F0_3 := F0_3.chg hc329 (Dj.app (Dj.of L0_3 G128) Dj.nil)
                    replace F7 := F7.chg hc329 (dj1 (Dj.app D131 Dj.nil))
                    replace F22 := F22.chg hc329 (Dj.app D132 Dj.nil)
                    replace F28 := F28.chg hc329 (Dj.app D133 Dj.nil)
                    replace F34 := F34.chg hc329 (Dj.app D134 Dj.nil)
                    replace F53 := F53.chg hc329 (Dj.app D135 Dj.nil)
                    replace F308 := F308.chg hc329 (Dj.app D136 Dj.nil)
                    replace F310 := F310.chg hc329 (Dj.app D137 Dj.nil)
                    replace F312 := F312.chg hc329 (Dj.app D138 Dj.nil)
                    replace F118 := F118.chg hc329 (dj1 (Dj.app D139 Dj.nil))
                    replace F247 := F247.chg hc329 (Dj.app (D275).symm Dj.nil)
                    replace F253 := F253.chg hc329 (Dj.app (D286).symm Dj.nil)
                    replace F259 := F259.chg hc329 (Dj.app (D297).symm Dj.nil)
                    replace hB := hB.inS hc329 (inApp (inLow G128) inNil)
                    replace hZ := Nat.le_trans hZ hc329.size
                    clear F127
                    refine ⟨.int .i64 (y326.1), rfl, ?_⟩
                    rewrite [(show (y120.1).length = (y326.2).length from hl331.symm)]
                    refine wS_pure 1 [(12, .int .i64 (y326.1))] (by kernel_rfl) ?_
                    refine wS_end (by rfl) ?_
                    refine eX_then ?_
                    refine cW_seq ?_
                    refine cW_region ?_
                    refine wS_pure 1 [(13, .int .i64 (1))] (by kernel_rfl) ?_
                    refine wS_end (by rfl) ?_
                    refine eX_then ?_
                    refine cW_seq ?_
                    refine cW_region ?_
                    refine wS_pure 2 [(81, .int .i64 (1)), (80, .slice A124 (y326.2).length cap125)] (by kernel_rfl) ?_
                    obtain ⟨y332, hy333, hm⟩ := bindE hm
                    refine wS_calls (d := 82) (f := 45) (vs := [.slice A124 (y326.2).length cap125, .int .i64 (1)]) (by kernel_rfl) ent45 (c_laws_heldInt64S hy333 (F330.sl encI_ok)) ?_
                    rintro _ w334 ⟨rfl, hc335⟩
                    replace F0_1 := F0_1.chg hc335 Dj.nil
                    replace F0_2 := F0_2.chg hc335 Dj.nil
                    replace F0_3 := F0_3.chg hc335 Dj.nil
                    replace F7 := F7.chg hc335 notNil
                    replace F22 := F22.chg hc335 Dj.nil
                    replace F28 := F28.chg hc335 Dj.nil
                    replace F34 := F34.chg hc335 Dj.nil
                    replace F53 := F53.chg hc335 Dj.nil
                    replace F308 := F308.chg hc335 Dj.nil
                    replace F310 := F310.chg hc335 Dj.nil
                    replace F312 := F312.chg hc335 Dj.nil
                    replace F118 := F118.chg hc335 notNil
                    replace F330 := F330.chg hc335 Dj.nil
                    replace F247 := F247.chg hc335 Dj.nil
                    replace F253 := F253.chg hc335 Dj.nil
                    replace F259 := F259.chg hc335 Dj.nil
                    replace hB := hB.inS hc335 inNil
                    replace hZ := Nat.le_trans hZ hc335.size
                    refine ⟨.int .i64 (y332), rfl, ?_⟩
                    refine wS_pure 1 [(13, .int .i64 (y332))] (by kernel_rfl) ?_
                    refine wS_end (by rfl) ?_
                    refine eX_then ?_
                    refine cW_seq ?_
                    refine cW_seq ?_
                    refine cW_region ?_
                    refine wS_pure 2 [(84, .bool (decide (y332 < 0))), (83, .int .i64 (y332))] (by kernel_rfl) ?_
                    refine wS_end (by rfl) ?_
                    refine eX_then ?_
                    refine cW_cond (t := decide (y332 < 0)) (by kernel_rfl) (fun hb336 => ?_) (fun hb336 => ?_)
                    · have hm := condT hb336 hm
                      refine cW_seq ?_
                      refine cW_region ?_
                      refine wS_pure 1 [(2, .bool (false))] (by kernel_rfl) ?_
                      refine wS_end (by rfl) ?_
                      refine eX_then ?_
                      refine cW_ret ?_
                      refine eX_then_ret ?_
                      have hq : (some false : Option ((Bool))) = some _ := hm
                      replace hq := someE hq
                      subst hq
                      refine eX_ret (vs := [.bool (false)]) [.tmp 2] (by rfl) ⟨by (show lkE _ _ _ = _); kernel_rfl, trivial⟩ ?_
                      exact ⟨rfl, hB⟩
                    · have hm := condF hb336 hm
                      refine cW_skip ?_
                      refine eX_then ?_
                      refine cW_seq ?_
                      refine cW_seq ?_
                      refine cW_region ?_
                      refine wS_pure 3 [(87, .bool (y332 != y326.1)), (86, .int .i64 (y326.1)), (85, .int .i64 (y332))] (by kernel_rfl) ?_
                      refine wS_end (by rfl) ?_
                      refine eX_then ?_
                      refine cW_cond (t := y332 != y326.1) (by kernel_rfl) (fun hb337 => ?_) (fun hb337 => ?_)
                      · have hm := condT hb337 hm
                        refine cW_seq ?_
                        refine cW_region ?_
                        refine wS_pure 1 [(2, .bool (false))] (by kernel_rfl) ?_
                        refine wS_end (by rfl) ?_
                        refine eX_then ?_
                        refine cW_ret ?_
                        refine eX_then_ret ?_
                        have hq : (some false : Option ((Bool))) = some _ := hm
                        replace hq := someE hq
                        subst hq
                        refine eX_ret (vs := [.bool (false)]) [.tmp 2] (by rfl) ⟨by (show lkE _ _ _ = _); kernel_rfl, trivial⟩ ?_
                        exact ⟨rfl, hB⟩
                      · have hm := condF hb337 hm
                        refine cW_skip ?_
                        refine eX_then ?_
                        refine cW_seq ?_
                        refine cW_region ?_
                        refine wS_loadA (d := 89) (T := 59) (ad := ⟨b4, 0, none⟩) (vs := [.int .i64 (p0_0), .slice A0_1 (l0_1).length cap0_1, .slice A0_2 (l0_2).length cap0_2, .slice A0_3 (l0_3).length cap0_3]) (by kernel_rfl) vt59 (fun i u hu => box_cells F7 0 hu (by rfl)) ?_
                        obtain ⟨y338, hy339, hm⟩ := bindE hm
                        refine wS_calls (d := 90) (f := 39) (vs := [.agg #[.int .i64 (p0_0), .slice A0_1 (l0_1).length cap0_1, .slice A0_2 (l0_2).length cap0_2, .slice A0_3 (l0_3).length cap0_3]]) (by kernel_rfl) ent39 (c_laws_toWiring hy339 F0_1 F0_2 F0_3) ?_
                        rintro _ w340 ⟨A342, cap343, fp344, fr347, A348, cap349, fp350, fr353, A354, cap355, fp356, rfl, F345, G346, F351, G352, F357, G358, D360, D361, D362, hc341⟩
                        have D364 : Dj [b4] (fp344 ++ fr347) := Dj.of (lt1 F7.lt) G346
                        have D365 : Dj (fp21 ++ fr24) (fp344 ++ fr347) := Dj.of F22.low G346
                        have D366 : Dj (fp27 ++ fr30) (fp344 ++ fr347) := Dj.of F28.low G346
                        have D367 : Dj fp33 (fp344 ++ fr347) := Dj.of F34.low G346
                        have D368 : Dj fp52 (fp344 ++ fr347) := Dj.of F53.low G346
                        have D369 : Dj (fp66 ++ fr69) (fp344 ++ fr347) := Dj.of F308.low G346
                        have D370 : Dj (fp72 ++ fr75) (fp344 ++ fr347) := Dj.of F310.low G346
                        have D371 : Dj fp78 (fp344 ++ fr347) := Dj.of F312.low G346
                        have D372 : Dj [b103] (fp344 ++ fr347) := Dj.of (lt1 F118.lt) G346
                        have D373 : Dj fp126 (fp344 ++ fr347) := Dj.of F330.low G346
                        have D374 : Dj (fp246 ++ fr249) (fp344 ++ fr347) := Dj.of F247.low G346
                        have D375 : Dj (fp252 ++ fr255) (fp344 ++ fr347) := Dj.of F253.low G346
                        have D376 : Dj fp258 (fp344 ++ fr347) := Dj.of F259.low G346
                        have D378 : Dj [b4] (fp350 ++ fr353) := Dj.of (lt1 F7.lt) G352
                        have D379 : Dj (fp21 ++ fr24) (fp350 ++ fr353) := Dj.of F22.low G352
                        have D380 : Dj (fp27 ++ fr30) (fp350 ++ fr353) := Dj.of F28.low G352
                        have D381 : Dj fp33 (fp350 ++ fr353) := Dj.of F34.low G352
                        have D382 : Dj fp52 (fp350 ++ fr353) := Dj.of F53.low G352
                        have D383 : Dj (fp66 ++ fr69) (fp350 ++ fr353) := Dj.of F308.low G352
                        have D384 : Dj (fp72 ++ fr75) (fp350 ++ fr353) := Dj.of F310.low G352
                        have D385 : Dj fp78 (fp350 ++ fr353) := Dj.of F312.low G352
                        have D386 : Dj [b103] (fp350 ++ fr353) := Dj.of (lt1 F118.lt) G352
                        have D387 : Dj fp126 (fp350 ++ fr353) := Dj.of F330.low G352
                        have D388 : Dj (fp246 ++ fr249) (fp350 ++ fr353) := Dj.of F247.low G352
                        have D389 : Dj (fp252 ++ fr255) (fp350 ++ fr353) := Dj.of F253.low G352
                        have D390 : Dj fp258 (fp350 ++ fr353) := Dj.of F259.low G352
                        have D392 : Dj [b4] fp356 := Dj.of (lt1 F7.lt) G358
                        have D393 : Dj (fp21 ++ fr24) fp356 := Dj.of F22.low G358
                        have D394 : Dj (fp27 ++ fr30) fp356 := Dj.of F28.low G358
                        have D395 : Dj fp33 fp356 := Dj.of F34.low G358
                        have D396 : Dj fp52 fp356 := Dj.of F53.low G358
                        have D397 : Dj (fp66 ++ fr69) fp356 := Dj.of F308.low G358
                        have D398 : Dj (fp72 ++ fr75) fp356 := Dj.of F310.low G358
                        have D399 : Dj fp78 fp356 := Dj.of F312.low G358
                        have D400 : Dj [b103] fp356 := Dj.of (lt1 F118.lt) G358
                        have D401 : Dj fp126 fp356 := Dj.of F330.low G358
                        have D402 : Dj (fp246 ++ fr249) fp356 := Dj.of F247.low G358
                        have D403 : Dj (fp252 ++ fr255) fp356 := Dj.of F253.low G358
                        have D404 : Dj fp258 fp356 := Dj.of F259.low G358
                        replace F0_1 := F0_1.chg hc341 Dj.nil
                        replace F0_2 := F0_2.chg hc341 Dj.nil
                        replace F0_3 := F0_3.chg hc341 Dj.nil
                        replace F7 := F7.chg hc341 notNil
                        replace F22 := F22.chg hc341 Dj.nil
                        replace F28 := F28.chg hc341 Dj.nil
                        replace F34 := F34.chg hc341 Dj.nil
                        replace F53 := F53.chg hc341 Dj.nil
                        replace F308 := F308.chg hc341 Dj.nil
                        replace F310 := F310.chg hc341 Dj.nil
                        replace F312 := F312.chg hc341 Dj.nil
                        replace F118 := F118.chg hc341 notNil
                        replace F330 := F330.chg hc341 Dj.nil
                        replace F247 := F247.chg hc341 Dj.nil
                        replace F253 := F253.chg hc341 Dj.nil
                        replace F259 := F259.chg hc341 Dj.nil
                        replace hB := hB.inS hc341 inNil
                        replace G346 := low_le hZ G346
                        replace G352 := low_le hZ G352
                        replace G358 := low_le hZ G358
                        replace hZ := Nat.le_trans hZ hc341.size
                        refine ⟨.agg #[.int .i64 (y338.1), .slice A342 (y338.2.1).length cap343, .slice A348 (y338.2.2.1).length cap349, .slice A354 (y338.2.2.2).length cap355], rfl, ?_⟩
                        obtain ⟨y405, hy406, hm⟩ := bindE hm
                        refine wS_calls (d := 91) (f := 13) (vs := [.agg #[.int .i64 (y338.1), .slice A342 (y338.2.1).length cap343, .slice A348 (y338.2.2.1).length cap349, .slice A354 (y338.2.2.2).length cap355]]) (by kernel_rfl) ent13 (c_impl_FewestVias hy406 (F345.slr encI_ok) (F351.slr encI_ok) (F357.sl encI_ok)) ?_
                        rintro _ w407 ⟨A409, cap410, fp411, rfl, F412, G413, hc408⟩
                        have D416 : Dj [b4] fp411 := Dj.of (lt1 F7.lt) G413
                        have D417 : Dj (fp21 ++ fr24) fp411 := Dj.of F22.low G413
                        have D418 : Dj (fp27 ++ fr30) fp411 := Dj.of F28.low G413
                        have D419 : Dj fp33 fp411 := Dj.of F34.low G413
                        have D420 : Dj fp52 fp411 := Dj.of F53.low G413
                        have D421 : Dj (fp66 ++ fr69) fp411 := Dj.of F308.low G413
                        have D422 : Dj (fp72 ++ fr75) fp411 := Dj.of F310.low G413
                        have D423 : Dj fp78 fp411 := Dj.of F312.low G413
                        have D424 : Dj [b103] fp411 := Dj.of (lt1 F118.lt) G413
                        have D425 : Dj fp126 fp411 := Dj.of F330.low G413
                        have D426 : Dj (fp246 ++ fr249) fp411 := Dj.of F247.low G413
                        have D427 : Dj (fp252 ++ fr255) fp411 := Dj.of F253.low G413
                        have D428 : Dj fp258 fp411 := Dj.of F259.low G413
                        have D429 : Dj (fp344 ++ fr347) fp411 := Dj.of F345.low G413
                        have D430 : Dj (fp350 ++ fr353) fp411 := Dj.of F351.low G413
                        have D431 : Dj fp356 fp411 := Dj.of F357.low G413
                        replace F0_1 := F0_1.chg hc408 Dj.nil
                        replace F0_2 := F0_2.chg hc408 Dj.nil
                        replace F0_3 := F0_3.chg hc408 Dj.nil
                        replace F7 := F7.chg hc408 notNil
                        replace F22 := F22.chg hc408 Dj.nil
                        replace F28 := F28.chg hc408 Dj.nil
                        replace F34 := F34.chg hc408 Dj.nil
                        replace F53 := F53.chg hc408 Dj.nil
                        replace F308 := F308.chg hc408 Dj.nil
                        replace F310 := F310.chg hc408 Dj.nil
                        replace F312 := F312.chg hc408 Dj.nil
                        replace F118 := F118.chg hc408 notNil
                        replace F330 := F330.chg hc408 Dj.nil
                        replace F247 := F247.chg hc408 Dj.nil
                        replace F253 := F253.chg hc408 Dj.nil
                        replace F259 := F259.chg hc408 Dj.nil
                        replace F345 := F345.chg hc408 Dj.nil
                        replace F351 := F351.chg hc408 Dj.nil
                        replace F357 := F357.chg hc408 Dj.nil
                        replace hB := hB.inS hc408 inNil
                        replace G413 := low_le hZ G413
                        replace hZ := Nat.le_trans hZ hc408.size
                        refine ⟨.tuple #[.slice A409 (y405.1).length cap410, .int .i64 (y405.2.1), .bool (y405.2.2)], rfl, ?_⟩
                        refine wS_pure 7 [(16, .bool (y405.2.2)), (15, .int .i64 (y405.2.1)), (14, .slice A409 (y405.1).length cap410), (94, .bool (y405.2.2)), (93, .int .i64 (y405.2.1)), (92, .slice A409 (y405.1).length cap410), (88, .tuple #[.slice A409 (y405.1).length cap410, .int .i64 (y405.2.1), .bool (y405.2.2)])] (by kernel_rfl) ?_
                        refine wS_end (by rfl) ?_
                        refine eX_then ?_
                        refine cW_prune [(4, .slice A50 (y46.1).length cap51), (5, .int .i64 (y46.2.1)), (6, .bool (y46.2.2)), (8, .slice A124 (y326.2).length cap125), (12, .int .i64 (y326.1)), (14, .slice A409 (y405.1).length cap410), (15, .int .i64 (y405.2.1)), (16, .bool (y405.2.2))] (by kernel_rfl) (by kernel_rfl) (fun a432 => ?_)
                        refine cW_seq ?_
                        refine cW_seq ?_
                        refine cW_region ?_
                        refine wS_pure 2 [(96, .slice A50 (y46.1).length cap51), (95, .slice A409 (y405.1).length cap410)] (by kernel_rfl) ?_
                        obtain ⟨y433, hy434, hm⟩ := bindE hm
                        refine wS_calls (d := 97) (f := 42) (vs := [.slice A409 (y405.1).length cap410, .slice A50 (y46.1).length cap51]) (by kernel_rfl) ent42 (c_laws_eqInt64S hy434 (F412.sl encI_ok) F53) ?_
                        rintro _ w435 ⟨rfl, hc436⟩
                        replace F0_1 := F0_1.chg hc436 Dj.nil
                        replace F0_2 := F0_2.chg hc436 Dj.nil
                        replace F0_3 := F0_3.chg hc436 Dj.nil
                        replace F7 := F7.chg hc436 notNil
                        replace F22 := F22.chg hc436 Dj.nil
                        replace F28 := F28.chg hc436 Dj.nil
                        replace F34 := F34.chg hc436 Dj.nil
                        replace F53 := F53.chg hc436 Dj.nil
                        replace F308 := F308.chg hc436 Dj.nil
                        replace F310 := F310.chg hc436 Dj.nil
                        replace F312 := F312.chg hc436 Dj.nil
                        replace F118 := F118.chg hc436 notNil
                        replace F330 := F330.chg hc436 Dj.nil
                        replace F247 := F247.chg hc436 Dj.nil
                        replace F253 := F253.chg hc436 Dj.nil
                        replace F259 := F259.chg hc436 Dj.nil
                        replace F345 := F345.chg hc436 Dj.nil
                        replace F351 := F351.chg hc436 Dj.nil
                        replace F357 := F357.chg hc436 Dj.nil
                        replace F412 := F412.chg hc436 Dj.nil
                        replace hB := hB.inS hc436 inNil
                        replace hZ := Nat.le_trans hZ hc436.size
                        refine ⟨.bool (y433), rfl, ?_⟩
                        refine wS_pure 2 [(99, .bool (!y433)), (98, .bool (!y433))] (by kernel_rfl) ?_
                        refine wS_bool (!y433) (fun hb437 => ?_) (fun hb437 => ?_)
                        · have hm := condT hb437 hm
                          rewrite [hb437]
                          refine wS_pure 9 [(108, .bool (true)), (107, undef), (106, undef), (105, undef), (104, .bool (true)), (103, .bool (true)), (102, undef), (101, undef), (100, undef)] (by kernel_rfl) ?_
                          refine wS_end (by rfl) ?_
                          refine eX_then ?_
                          refine cW_cond_t (by kernel_rfl) ?_
                          refine cW_seq ?_
                          refine cW_region ?_
                          refine wS_pure 1 [(2, .bool (false))] (by kernel_rfl) ?_
                          refine wS_end (by rfl) ?_
                          refine eX_then ?_
                          refine cW_ret ?_
                          refine eX_then_ret ?_
                          have hq : (some false : Option ((Bool))) = some _ := hm
                          replace hq := someE hq
                          subst hq
                          refine eX_ret (vs := [.bool (false)]) [.tmp 2] (by rfl) ⟨by (show lkE _ _ _ = _); kernel_rfl, trivial⟩ ?_
                          exact ⟨rfl, hB⟩
                        · have hm := condF hb437 hm
                          rewrite [hb437]
                          refine wS_pure 5 [(104, .bool (y405.2.1 != y46.2.1)), (103, .bool (y405.2.1 != y46.2.1)), (102, .bool (y405.2.1 != y46.2.1)), (101, .int .i64 (y46.2.1)), (100, .int .i64 (y405.2.1))] (by kernel_rfl) ?_
                          refine wS_bool (y405.2.1 != y46.2.1) (fun hb438 => ?_) (fun hb438 => ?_)
                          · have hm := condT hb438 hm
                            rewrite [hb438]
                            refine wS_pure 4 [(108, .bool (true)), (107, undef), (106, undef), (105, undef)] (by kernel_rfl) ?_
                            refine wS_end (by rfl) ?_
                            refine eX_then ?_
                            refine cW_cond_t (by kernel_rfl) ?_
                            refine cW_seq ?_
                            refine cW_region ?_
                            refine wS_pure 1 [(2, .bool (false))] (by kernel_rfl) ?_
                            refine wS_end (by rfl) ?_
                            refine eX_then ?_
                            refine cW_ret ?_
                            refine eX_then_ret ?_
                            have hq : (some false : Option ((Bool))) = some _ := hm
                            replace hq := someE hq
                            subst hq
                            refine eX_ret (vs := [.bool (false)]) [.tmp 2] (by rfl) ⟨by (show lkE _ _ _ = _); kernel_rfl, trivial⟩ ?_
                            exact ⟨rfl, hB⟩
                          · have hm := condF hb438 hm
                            rewrite [hb438]
                            refine wS_pure 4 [(108, .bool (!(y405.2.2 == y46.2.2))), (107, .bool (!(y405.2.2 == y46.2.2))), (106, .bool (y46.2.2)), (105, .bool (y405.2.2))] (by kernel_rfl) ?_
                            refine wS_end (by rfl) ?_
                            refine eX_then ?_
                            refine cW_cond (t := !(y405.2.2 == y46.2.2)) (by kernel_rfl) (fun hb439 => ?_) (fun hb439 => ?_)
                            · have hm := condT hb439 hm
                              refine cW_seq ?_
                              refine cW_region ?_
                              refine wS_pure 1 [(2, .bool (false))] (by kernel_rfl) ?_
                              refine wS_end (by rfl) ?_
                              refine eX_then ?_
                              refine cW_ret ?_
                              refine eX_then_ret ?_
                              have hq : (some false : Option ((Bool))) = some _ := hm
                              replace hq := someE hq
                              subst hq
                              refine eX_ret (vs := [.bool (false)]) [.tmp 2] (by rfl) ⟨by (show lkE _ _ _ = _); kernel_rfl, trivial⟩ ?_
                              exact ⟨rfl, hB⟩
                            · have hm := condF hb439 hm
                              refine cW_skip ?_
                              refine eX_then ?_
                              refine cW_seq ?_
                              refine cW_region ?_
                              refine wS_pure 1 [(13, .int .i64 (1))] (by kernel_rfl) ?_
                              refine wS_end (by rfl) ?_
                              refine eX_then ?_
                              refine cW_seq ?_
                              refine cW_region ?_
                              refine wS_pure 2 [(110, .int .i64 (1)), (109, .slice A124 (y326.2).length cap125)] (by kernel_rfl) ?_
                              obtain ⟨y440, hy441, hm⟩ := bindE hm
                              refine wS_calls (d := 111) (f := 45) (vs := [.slice A124 (y326.2).length cap125, .int .i64 (1)]) (by kernel_rfl) ent45 (c_laws_heldInt64S hy441 (F330.sl encI_ok)) ?_
                              rintro _ w442 ⟨rfl, hc443⟩
                              replace F0_1 := F0_1.chg hc443 Dj.nil
                              replace F0_2 := F0_2.chg hc443 Dj.nil
                              replace F0_3 := F0_3.chg hc443 Dj.nil
                              replace F7 := F7.chg hc443 notNil
                              replace F22 := F22.chg hc443 Dj.nil
                              replace F28 := F28.chg hc443 Dj.nil
                              replace F34 := F34.chg hc443 Dj.nil
                              replace F53 := F53.chg hc443 Dj.nil
                              replace F308 := F308.chg hc443 Dj.nil
                              replace F310 := F310.chg hc443 Dj.nil
                              replace F312 := F312.chg hc443 Dj.nil
                              replace F118 := F118.chg hc443 notNil
                              replace F330 := F330.chg hc443 Dj.nil
                              replace F247 := F247.chg hc443 Dj.nil
                              replace F253 := F253.chg hc443 Dj.nil
                              replace F259 := F259.chg hc443 Dj.nil
                              replace F345 := F345.chg hc443 Dj.nil
                              replace F351 := F351.chg hc443 Dj.nil
                              replace F357 := F357.chg hc443 Dj.nil
                              replace F412 := F412.chg hc443 Dj.nil
                              replace hB := hB.inS hc443 inNil
                              replace hZ := Nat.le_trans hZ hc443.size
                              refine ⟨.int .i64 (y440), rfl, ?_⟩
                              refine wS_pure 1 [(13, .int .i64 (y440))] (by kernel_rfl) ?_
                              refine wS_end (by rfl) ?_
                              refine eX_then ?_
                              refine cW_prune [(12, .int .i64 (y326.1)), (13, .int .i64 (y440))] (by kernel_rfl) (by kernel_rfl) (fun a444 => ?_)
                              refine cW_seq ?_
                              refine cW_seq ?_
                              refine cW_region ?_
                              refine wS_pure 2 [(113, .bool (decide (y440 < 0))), (112, .int .i64 (y440))] (by kernel_rfl) ?_
                              refine wS_end (by rfl) ?_
                              refine eX_then ?_
                              refine cW_cond (t := decide (y440 < 0)) (by kernel_rfl) (fun hb445 => ?_) (fun hb445 => ?_)
                              · have hm := condT hb445 hm
                                refine cW_seq ?_
                                refine cW_region ?_
                                refine wS_pure 1 [(2, .bool (false))] (by kernel_rfl) ?_
                                refine wS_end (by rfl) ?_
                                refine eX_then ?_
                                refine cW_ret ?_
                                refine eX_then_ret ?_
                                have hq : (some false : Option ((Bool))) = some _ := hm
                                replace hq := someE hq
                                subst hq
                                refine eX_ret (vs := [.bool (false)]) [.tmp 2] (by rfl) ⟨by (show lkE _ _ _ = _); kernel_rfl, trivial⟩ ?_
                                exact ⟨rfl, hB⟩
                              · have hm := condF hb445 hm
                                refine cW_skip ?_
                                refine eX_then ?_
                                refine cW_seq ?_
                                refine cW_seq ?_
                                refine cW_region ?_
                                refine wS_pure 3 [(116, .bool (y440 != y326.1)), (115, .int .i64 (y326.1)), (114, .int .i64 (y440))] (by kernel_rfl) ?_
                                refine wS_end (by rfl) ?_
                                refine eX_then ?_
                                refine cW_cond (t := y440 != y326.1) (by kernel_rfl) (fun hb446 => ?_) (fun hb446 => ?_)
                                · have hm := condT hb446 hm
                                  refine cW_seq ?_
                                  refine cW_region ?_
                                  refine wS_pure 1 [(2, .bool (false))] (by kernel_rfl) ?_
                                  refine wS_end (by rfl) ?_
                                  refine eX_then ?_
                                  refine cW_ret ?_
                                  refine eX_then_ret ?_
                                  have hq : (some false : Option ((Bool))) = some _ := hm
                                  replace hq := someE hq
                                  subst hq
                                  refine eX_ret (vs := [.bool (false)]) [.tmp 2] (by rfl) ⟨by (show lkE _ _ _ = _); kernel_rfl, trivial⟩ ?_
                                  exact ⟨rfl, hB⟩
                                · have hm := condF hb446 hm
                                  refine cW_skip ?_
                                  refine eX_then ?_
                                  refine cW_seq ?_
                                  refine cW_region ?_
                                  refine wS_pure 1 [(2, .bool (true))] (by kernel_rfl) ?_
                                  refine wS_end (by rfl) ?_
                                  refine eX_then ?_
                                  refine cW_ret ?_
                                  have hq : (some true : Option ((Bool))) = some _ := hm
                                  replace hq := someE hq
                                  subst hq
                                  refine eX_ret (vs := [.bool (true)]) [.tmp 2] (by rfl) ⟨by (show lkE _ _ _ = _); kernel_rfl, trivial⟩ ?_
                                  exact ⟨rfl, hB⟩

end Go.Proofs.Ytngnljnfbfgfeaa
