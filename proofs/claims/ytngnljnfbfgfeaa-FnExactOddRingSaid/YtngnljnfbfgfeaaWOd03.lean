/- Printed walks: spec.l07Cross, spec.l07All, laws.toInt64S, laws.toInt64SS, laws.toWiring, laws.eqWiring, laws.markWiring, spec.l00Has, spec.l07Ring, spec.l07Odd, spec.OddRing. -/
import Derived.Test.YtngnljnfbfgfeaaProg
import Derived.Test.YtngnljnfbfgfeaaWOd02
set_option linter.unusedSimpArgs false
set_option linter.unusedVariables false
namespace Go.Proofs.Ytngnljnfbfgfeaa
open Go.RowKit
attribute [local irreducible] wS cW eX wH

theorem ent32 : Ent Try.prog 32 := fun _ => by kernel_rfl
theorem ent35 : Ent Try.prog 35 := fun _ => by kernel_rfl
theorem ent50 : Ent Try.prog 50 := fun _ => by kernel_rfl
theorem ent63 : Ent Try.prog 63 := fun _ => by kernel_rfl
theorem ent83 : Ent Try.prog 83 := fun _ => by kernel_rfl
theorem ent86 : Ent Try.prog 86 := fun _ => by kernel_rfl
theorem ent88 : Ent Try.prog 88 := fun _ => by kernel_rfl
theorem ent118 : Ent Try.prog 118 := fun _ => by kernel_rfl
theorem ent119 : Ent Try.prog 119 := fun _ => by kernel_rfl
theorem ent120 : Ent Try.prog 120 := fun _ => by kernel_rfl
theorem ent122 : Ent Try.prog 122 := fun _ => by kernel_rfl
theorem el24 : ElTy Try.prog 24 25 1 (.slice none 0 0) := ElTy.mk' Try.underlying24 (by kernel_rfl) (by rfl)
theorem sz24 : pureRun Try.prog (sizeOf 24) = some 1 := by kernel_rfl
theorem sz25 : pureRun Try.prog (sizeOf 25) = some 1 := by kernel_rfl
theorem sz27 : pureRun Try.prog (sizeOf 27) = some 4 := by kernel_rfl

set_option maxRecDepth 100000 in
/-- spec.l07Cross -/
theorem c_spec_l07Cross_bimplWiring {w0 : World} {q0_0 : Int} {l0_1 : List (List (Int))} {A0_1 : Option Addr} {cap0_1 : Nat} {fp0_1 : List Nat} {l0_2 : List (List (Int))} {A0_2 : Option Addr} {cap0_2 : Nat} {fp0_2 : List Nat} {l0_3 : List (Int)} {A0_3 : Option Addr} {cap0_3 : Nat} {fp0_3 : List Nat} {b0 : Nat} {p1 : Int} {p2 : Int} {r : (Bool)} (hm : m_spec_l07Cross_bimplWiring q0_0 l0_1 l0_2 l0_3 p1 p2 = some r) (F0_1 : SlR 1 encI w0 fp0_1 A0_1 l0_1) (F0_2 : SlR 1 encI w0 fp0_2 A0_2 l0_2) (F0_3 : Sl 1 encI w0 fp0_3 A0_3 l0_3) (F0 : Cl w0 b0 27 [.int .i64 (q0_0), .slice A0_1 (l0_1).length cap0_1, .slice A0_2 (l0_2).length cap0_2, .slice A0_3 (l0_3).length cap0_3]) :
    Calls Try.prog 120 #[.pointer (some ⟨b0, 0, none⟩), .int .i64 (p1), .int .i64 (p2)] w0 fun e w' => e = .returned (.bool (r)) ∧ Chg [] w0 w' := by
  have L0_1 := F0_1.low
  have L0_2 := F0_2.low
  have L0_3 := F0_3.low
  have L0 := lt1 F0.lt
  have hB : Chg [] w0 w0 := Chg.refl _ _
  have hZ := Nat.le_refl w0.heap.size
  unfold m_spec_l07Cross_bimplWiring at hm
  refine enterE (N := 51) Try.func120 (by rfl) Try.ntmps120 (by simp) [(0, .pointer (some ⟨b0, 0, none⟩)), (1, .int .i64 (p1)), (2, .int .i64 (p2))] (by rfl) (by kernel_rfl) (fun a => ?_)
  refine cW_seq ?_
  refine cW_region ?_
  refine wS_pure 1 [(6, .bool (false))] (by kernel_rfl) ?_
  refine wS_end (by rfl) ?_
  refine eX_then ?_
  refine cW_seq ?_
  refine cW_seq ?_
  refine cW_region ?_
  refine wS_pure 1 [(7, .int .i64 (0))] (by kernel_rfl) ?_
  refine wS_end (by rfl) ?_
  refine eX_then ?_
  obtain ⟨r89, hr90, hm⟩ := bindE hm
  have hm91 := hm
  refine cW_cut (fun a' w' => Sum.inl (()) = r89 ∧ Fr 51 [] a' ∧ Chg [] w0 w' ∧ w0.heap.size ≤ w'.heap.size) ?_ ?_
  · refine cW_block ?_
    refine cW_loop _ (fun (s92 : Int) a' w' => ∃ x83 : Int, x83 = s92 ∧ Fr 51 [(0, .pointer (some ⟨b0, 0, none⟩)), (1, .int .i64 (p1)), (2, .int .i64 (p2)), (7, .int .i64 (x83))] a' ∧ SlR 1 encI w' fp0_1 A0_1 l0_1 ∧ SlR 1 encI w' fp0_2 A0_2 l0_2 ∧ Sl 1 encI w' fp0_3 A0_3 l0_3 ∧ Cl w' b0 27 [.int .i64 (q0_0), .slice A0_1 (l0_1).length cap0_1, .slice A0_2 (l0_2).length cap0_2, .slice A0_3 (l0_3).length cap0_3] ∧ Chg [] w0 w' ∧ w0.heap.size ≤ w'.heap.size) hr90 (fun hst => ⟨0, rfl, Fr.of hst (by kernel_rfl), F0_1, F0_2, F0_3, F0, hB, hZ⟩) ?_
    rintro _ c93 a' w82 ⟨x83, rfl, hF84, F85, F86, F87, F88, hB, hZ⟩ hx94
    refine Fr.goOn hF84 (by kernel_rfl) ?_
    have hm := hx94
    unfold m_spec_l07Cross_bimplWiring_s1 at hm
    refine cW_seq ?_
    refine cW_seq ?_
    refine cW_region ?_
    refine wS_pure 4 [(12, .pointer (some ⟨b0, 1, none⟩)), (11, .pointer (some ⟨b0, 0, none⟩)), (10, .pointer (some ⟨b0, 0, none⟩)), (9, .int .i64 (x83))] (by kernel_rfl) ?_
    refine wS_load1 (d := 13) (T := 24) (ad := ⟨b0, 1, none⟩) (v := .slice A0_1 (l0_1).length cap0_1) (by kernel_rfl) vt24 ((F88).cell 1) ?_
    refine wS_pure 2 [(15, .bool (decide (x83 < (((l0_1).length : Int))))), (14, .int .i64 (((l0_1).length : Int)))] (by kernel_rfl) ?_
    refine wS_end (by rfl) ?_
    refine eX_then ?_
    refine cW_cond (t := decide (x83 < (((l0_1).length : Int)))) (by kernel_rfl) (fun hb95 => ?_) (fun hb95 => ?_)
    · have hm := condT hb95 hm
      refine cW_skip ?_
      refine eX_then ?_
      refine cW_seq ?_
      refine cW_block ?_
      refine cW_seq ?_
      refine cW_region ?_
      refine wS_pure 3 [(20, .pointer (some ⟨b0, 1, none⟩)), (19, .pointer (some ⟨b0, 0, none⟩)), (18, .pointer (some ⟨b0, 0, none⟩))] (by kernel_rfl) ?_
      refine wS_load1 (d := 21) (T := 24) (ad := ⟨b0, 1, none⟩) (v := .slice A0_1 (l0_1).length cap0_1) (by kernel_rfl) vt24 ((F88).cell 1) ?_
      refine wS_pure 1 [(22, .int .i64 (x83))] (by kernel_rfl) ?_
      obtain ⟨x96, hx97, hm⟩ := bindE hm
      refine wS_idx (d := 23) (T := 24) (A := A0_1) (n := (l0_1).length) (cap := cap0_1) (kd := .i64) (m := x83) (by kernel_rfl) sl24 (F85.is hx97) ?_
      obtain ⟨A98, cap99, hc101, F100, K102⟩ := SlR.row F85 hx97
      refine wS_load1 (d := 24) (T := 25) (ad := (elA A0_1 1 (x83) 0)) (v := .slice A98 (x96).length cap99) (by kernel_rfl) vt25 hc101 ?_
      refine wS_pure 1 [(8, .slice A98 (x96).length cap99)] (by kernel_rfl) ?_
      refine wS_end (by rfl) ?_
      refine eX_then ?_
      refine cW_seq ?_
      refine cW_region ?_
      refine wS_pure 1 [(25, .slice A98 (x96).length cap99)] (by kernel_rfl) ?_
      obtain ⟨x104, hx105, hm⟩ := bindE hm
      refine wS_idx (d := 26) (T := 25) (A := A98) (n := (x96).length) (cap := cap99) (kd := .i64) (m := 0) (by kernel_rfl) sl25 (F100.is hx105) ?_
      refine wS_load1 (d := 27) (T := 2) (ad := (elA A98 1 (0) 0)) (v := .int .i64 (x104)) (by kernel_rfl) vt2 (Sl.cell F100 hx105 0 (by rfl)) ?_
      refine wS_pure 3 [(30, .bool (x104 == p1)), (29, .bool (x104 == p1)), (28, .int .i64 (p1))] (by kernel_rfl) ?_
      refine wS_bool (x104 == p1) (fun hb106 => ?_) (fun hb106 => ?_)
      · have hm := condT hb106 hm
        rewrite [hb106]
        refine wS_pure 1 [(31, .slice A98 (x96).length cap99)] (by kernel_rfl) ?_
        obtain ⟨x107, hx108, hm⟩ := bindE hm
        refine wS_idx (d := 32) (T := 25) (A := A98) (n := (x96).length) (cap := cap99) (kd := .i64) (m := 1) (by kernel_rfl) sl25 (F100.is hx108) ?_
        refine wS_load1 (d := 33) (T := 2) (ad := (elA A98 1 (1) 0)) (v := .int .i64 (x107)) (by kernel_rfl) vt2 (Sl.cell F100 hx108 0 (by rfl)) ?_
        refine wS_pure 4 [(37, .bool (x107 == p2)), (36, .bool (x107 == p2)), (35, .bool (x107 == p2)), (34, .int .i64 (p2))] (by kernel_rfl) ?_
        refine wS_bool (x107 == p2) (fun hb109 => ?_) (fun hb109 => ?_)
        · have hm := condT hb109 hm
          rewrite [hb109]
          refine wS_pure 13 [(50, .bool (true)), (49, undef), (48, undef), (47, undef), (46, undef), (45, undef), (44, undef), (43, undef), (42, undef), (41, undef), (40, undef), (39, undef), (38, undef)] (by kernel_rfl) ?_
          refine wS_end (by rfl) ?_
          refine eX_then ?_
          refine cW_prune [(0, .pointer (some ⟨b0, 0, none⟩)), (1, .int .i64 (p1)), (2, .int .i64 (p2)), (7, .int .i64 (x83)), (50, .bool (true))] (by kernel_rfl) (by kernel_rfl) (fun a110 => ?_)
          refine cW_cond_t (by kernel_rfl) ?_
          refine cW_seq ?_
          refine cW_region ?_
          refine wS_pure 1 [(6, .bool (true))] (by kernel_rfl) ?_
          refine wS_end (by rfl) ?_
          refine eX_then ?_
          refine cW_ret ?_
          refine eX_block_ret ?_
          refine eX_then_ret ?_
          have hq : (some (Ctl.out (Sum.inr true)) : Option (Ctl (Int) (Sum (Unit) ((Bool))))) = some _ := hm
          replace hq := someE hq
          subst hq
          refine eX_outR hx94 (fun hr => ?_)
          subst hr
          refine eX_block_ret ?_
          refine eX_then_ret ?_
          refine eX_then_ret ?_
          have hq : (some true : Option ((Bool))) = some _ := hm91
          replace hq := someE hq
          subst hq
          refine eX_ret (vs := [.bool (true)]) [.tmp 6] (by rfl) ⟨by (show lkE _ _ _ = _); kernel_rfl, trivial⟩ ?_
          exact ⟨rfl, hB⟩
        · have hm := condF hb109 hm
          rewrite [hb109]
          refine wS_pure 1 [(38, .slice A98 (x96).length cap99)] (by kernel_rfl) ?_
          obtain ⟨x111, hx112, hm⟩ := bindE hm
          refine wS_idx (d := 39) (T := 25) (A := A98) (n := (x96).length) (cap := cap99) (kd := .i64) (m := 0) (by kernel_rfl) sl25 (F100.is hx112) ?_
          refine wS_load1 (d := 40) (T := 2) (ad := (elA A98 1 (0) 0)) (v := .int .i64 (x111)) (by kernel_rfl) vt2 (Sl.cell F100 hx112 0 (by rfl)) ?_
          refine wS_pure 3 [(43, .bool (x111 == p2)), (42, .bool (x111 == p2)), (41, .int .i64 (p2))] (by kernel_rfl) ?_
          refine wS_bool (x111 == p2) (fun hb113 => ?_) (fun hb113 => ?_)
          · have hm := condT hb113 hm
            rewrite [hb113]
            refine wS_pure 1 [(44, .slice A98 (x96).length cap99)] (by kernel_rfl) ?_
            obtain ⟨x114, hx115, hm⟩ := bindE hm
            refine wS_idx (d := 45) (T := 25) (A := A98) (n := (x96).length) (cap := cap99) (kd := .i64) (m := 1) (by kernel_rfl) sl25 (F100.is hx115) ?_
            refine wS_load1 (d := 46) (T := 2) (ad := (elA A98 1 (1) 0)) (v := .int .i64 (x114)) (by kernel_rfl) vt2 (Sl.cell F100 hx115 0 (by rfl)) ?_
            refine wS_pure 4 [(50, .bool (x114 == p1)), (49, .bool (x114 == p1)), (48, .bool (x114 == p1)), (47, .int .i64 (p1))] (by kernel_rfl) ?_
            refine wS_end (by rfl) ?_
            refine eX_then ?_
            refine cW_prune [(0, .pointer (some ⟨b0, 0, none⟩)), (1, .int .i64 (p1)), (2, .int .i64 (p2)), (7, .int .i64 (x83)), (50, .bool (x114 == p1))] (by kernel_rfl) (by kernel_rfl) (fun a116 => ?_)
            refine cW_cond (t := x114 == p1) (by kernel_rfl) (fun hb117 => ?_) (fun hb117 => ?_)
            · have hm := condT hb117 hm
              refine cW_seq ?_
              refine cW_region ?_
              refine wS_pure 1 [(6, .bool (true))] (by kernel_rfl) ?_
              refine wS_end (by rfl) ?_
              refine eX_then ?_
              refine cW_ret ?_
              refine eX_block_ret ?_
              refine eX_then_ret ?_
              have hq : (some (Ctl.out (Sum.inr true)) : Option (Ctl (Int) (Sum (Unit) ((Bool))))) = some _ := hm
              replace hq := someE hq
              subst hq
              refine eX_outR hx94 (fun hr => ?_)
              subst hr
              refine eX_block_ret ?_
              refine eX_then_ret ?_
              refine eX_then_ret ?_
              have hq : (some true : Option ((Bool))) = some _ := hm91
              replace hq := someE hq
              subst hq
              refine eX_ret (vs := [.bool (true)]) [.tmp 6] (by rfl) ⟨by (show lkE _ _ _ = _); kernel_rfl, trivial⟩ ?_
              exact ⟨rfl, hB⟩
            · have hm := condF hb117 hm
              refine cW_skip ?_
              refine eX_block ?_
              refine eX_then ?_
              refine cW_region ?_
              refine wS_pure 3 [(7, .int .i64 (wr (x83 + 1))), (17, .int .i64 (wr (x83 + 1))), (16, .int .i64 (x83))] (by kernel_rfl) ?_
              refine wS_end (by rfl) ?_
              have hq : (some (Ctl.next (wr (x83 + 1))) : Option (Ctl (Int) (Sum (Unit) ((Bool))))) = some _ := hm
              replace hq := someE hq
              subst hq
              exact eX_next hx94 (fun hst => ⟨wr (x83 + 1), rfl, Fr.of hst (by kernel_rfl), F85, F86, F87, F88, hB, hZ⟩)
          · have hm := condF hb113 hm
            rewrite [hb113]
            refine wS_pure 7 [(50, .bool (false)), (49, .bool (false)), (48, undef), (47, undef), (46, undef), (45, undef), (44, undef)] (by kernel_rfl) ?_
            refine wS_end (by rfl) ?_
            refine eX_then ?_
            refine cW_prune [(0, .pointer (some ⟨b0, 0, none⟩)), (1, .int .i64 (p1)), (2, .int .i64 (p2)), (7, .int .i64 (x83)), (50, .bool (false))] (by kernel_rfl) (by kernel_rfl) (fun a118 => ?_)
            refine cW_cond_f (by kernel_rfl) ?_
            refine cW_skip ?_
            refine eX_block ?_
            refine eX_then ?_
            refine cW_region ?_
            refine wS_pure 3 [(7, .int .i64 (wr (x83 + 1))), (17, .int .i64 (wr (x83 + 1))), (16, .int .i64 (x83))] (by kernel_rfl) ?_
            refine wS_end (by rfl) ?_
            have hq : (some (Ctl.next (wr (x83 + 1))) : Option (Ctl (Int) (Sum (Unit) ((Bool))))) = some _ := hm
            replace hq := someE hq
            subst hq
            exact eX_next hx94 (fun hst => ⟨wr (x83 + 1), rfl, Fr.of hst (by kernel_rfl), F85, F86, F87, F88, hB, hZ⟩)
      · have hm := condF hb106 hm
        rewrite [hb106]
        refine wS_pure 8 [(38, .slice A98 (x96).length cap99), (37, .bool (false)), (36, .bool (false)), (35, undef), (34, undef), (33, undef), (32, undef), (31, undef)] (by kernel_rfl) ?_
        obtain ⟨x119, hx120, hm⟩ := bindE hm
        refine wS_idx (d := 39) (T := 25) (A := A98) (n := (x96).length) (cap := cap99) (kd := .i64) (m := 0) (by kernel_rfl) sl25 (F100.is hx120) ?_
        refine wS_load1 (d := 40) (T := 2) (ad := (elA A98 1 (0) 0)) (v := .int .i64 (x119)) (by kernel_rfl) vt2 (Sl.cell F100 hx120 0 (by rfl)) ?_
        refine wS_pure 3 [(43, .bool (x119 == p2)), (42, .bool (x119 == p2)), (41, .int .i64 (p2))] (by kernel_rfl) ?_
        refine wS_bool (x119 == p2) (fun hb121 => ?_) (fun hb121 => ?_)
        · have hm := condT hb121 hm
          rewrite [hb121]
          refine wS_pure 1 [(44, .slice A98 (x96).length cap99)] (by kernel_rfl) ?_
          obtain ⟨x122, hx123, hm⟩ := bindE hm
          refine wS_idx (d := 45) (T := 25) (A := A98) (n := (x96).length) (cap := cap99) (kd := .i64) (m := 1) (by kernel_rfl) sl25 (F100.is hx123) ?_
          refine wS_load1 (d := 46) (T := 2) (ad := (elA A98 1 (1) 0)) (v := .int .i64 (x122)) (by kernel_rfl) vt2 (Sl.cell F100 hx123 0 (by rfl)) ?_
          refine wS_pure 4 [(50, .bool (x122 == p1)), (49, .bool (x122 == p1)), (48, .bool (x122 == p1)), (47, .int .i64 (p1))] (by kernel_rfl) ?_
          refine wS_end (by rfl) ?_
          refine eX_then ?_
          refine cW_prune [(0, .pointer (some ⟨b0, 0, none⟩)), (1, .int .i64 (p1)), (2, .int .i64 (p2)), (7, .int .i64 (x83)), (50, .bool (x122 == p1))] (by kernel_rfl) (by kernel_rfl) (fun a124 => ?_)
          refine cW_cond (t := x122 == p1) (by kernel_rfl) (fun hb125 => ?_) (fun hb125 => ?_)
          · have hm := condT hb125 hm
            refine cW_seq ?_
            refine cW_region ?_
            refine wS_pure 1 [(6, .bool (true))] (by kernel_rfl) ?_
            refine wS_end (by rfl) ?_
            refine eX_then ?_
            refine cW_ret ?_
            refine eX_block_ret ?_
            refine eX_then_ret ?_
            have hq : (some (Ctl.out (Sum.inr true)) : Option (Ctl (Int) (Sum (Unit) ((Bool))))) = some _ := hm
            replace hq := someE hq
            subst hq
            refine eX_outR hx94 (fun hr => ?_)
            subst hr
            refine eX_block_ret ?_
            refine eX_then_ret ?_
            refine eX_then_ret ?_
            have hq : (some true : Option ((Bool))) = some _ := hm91
            replace hq := someE hq
            subst hq
            refine eX_ret (vs := [.bool (true)]) [.tmp 6] (by rfl) ⟨by (show lkE _ _ _ = _); kernel_rfl, trivial⟩ ?_
            exact ⟨rfl, hB⟩
          · have hm := condF hb125 hm
            refine cW_skip ?_
            refine eX_block ?_
            refine eX_then ?_
            refine cW_region ?_
            refine wS_pure 3 [(7, .int .i64 (wr (x83 + 1))), (17, .int .i64 (wr (x83 + 1))), (16, .int .i64 (x83))] (by kernel_rfl) ?_
            refine wS_end (by rfl) ?_
            have hq : (some (Ctl.next (wr (x83 + 1))) : Option (Ctl (Int) (Sum (Unit) ((Bool))))) = some _ := hm
            replace hq := someE hq
            subst hq
            exact eX_next hx94 (fun hst => ⟨wr (x83 + 1), rfl, Fr.of hst (by kernel_rfl), F85, F86, F87, F88, hB, hZ⟩)
        · have hm := condF hb121 hm
          rewrite [hb121]
          refine wS_pure 7 [(50, .bool (false)), (49, .bool (false)), (48, undef), (47, undef), (46, undef), (45, undef), (44, undef)] (by kernel_rfl) ?_
          refine wS_end (by rfl) ?_
          refine eX_then ?_
          refine cW_prune [(0, .pointer (some ⟨b0, 0, none⟩)), (1, .int .i64 (p1)), (2, .int .i64 (p2)), (7, .int .i64 (x83)), (50, .bool (false))] (by kernel_rfl) (by kernel_rfl) (fun a126 => ?_)
          refine cW_cond_f (by kernel_rfl) ?_
          refine cW_skip ?_
          refine eX_block ?_
          refine eX_then ?_
          refine cW_region ?_
          refine wS_pure 3 [(7, .int .i64 (wr (x83 + 1))), (17, .int .i64 (wr (x83 + 1))), (16, .int .i64 (x83))] (by kernel_rfl) ?_
          refine wS_end (by rfl) ?_
          have hq : (some (Ctl.next (wr (x83 + 1))) : Option (Ctl (Int) (Sum (Unit) ((Bool))))) = some _ := hm
          replace hq := someE hq
          subst hq
          exact eX_next hx94 (fun hst => ⟨wr (x83 + 1), rfl, Fr.of hst (by kernel_rfl), F85, F86, F87, F88, hB, hZ⟩)
    · have hm := condF hb95 hm
      refine cW_exit ?_
      refine eX_then_exit ?_
      have hq : (some (Ctl.out (Sum.inl (()))) : Option (Ctl (Int) (Sum (Unit) ((Bool))))) = some _ := hm
      replace hq := someE hq
      subst hq
      refine eX_outX hx94 (fun hr127 => ?_)
      replace hr127 := hr127.symm
      subst hr127
      refine eX_block_hit ?_
      exact eX_J (fun hst => ⟨rfl, Fr.of hst (by kernel_rfl), hB, hZ⟩)
  · rintro a' w80 ⟨hJ, hF81, hB, hZ⟩
    subst hJ
    refine Fr.goX hF81 (by kernel_rfl) ?_
    refine eX_then ?_
    refine cW_seq ?_
    refine cW_region ?_
    refine wS_pure 1 [(6, .bool (false))] (by kernel_rfl) ?_
    refine wS_end (by rfl) ?_
    refine eX_then ?_
    refine cW_ret ?_
    have hq : (some false : Option ((Bool))) = some _ := hm
    replace hq := someE hq
    subst hq
    refine eX_ret (vs := [.bool (false)]) [.tmp 6] (by rfl) ⟨by (show lkE _ _ _ = _); kernel_rfl, trivial⟩ ?_
    exact ⟨rfl, hB⟩

set_option maxRecDepth 100000 in
/-- spec.l07All -/
theorem c_spec_l07All_bimplWiring {w0 : World} {q0_0 : Int} {l0_1 : List (List (Int))} {A0_1 : Option Addr} {cap0_1 : Nat} {fp0_1 : List Nat} {l0_2 : List (List (Int))} {A0_2 : Option Addr} {cap0_2 : Nat} {fp0_2 : List Nat} {l0_3 : List (Int)} {A0_3 : Option Addr} {cap0_3 : Nat} {fp0_3 : List Nat} {b0 : Nat} {r : (List (List (Int)))} (hm : m_spec_l07All_bimplWiring q0_0 l0_1 l0_2 l0_3 = some r) (F0_1 : SlR 1 encI w0 fp0_1 A0_1 l0_1) (F0_2 : SlR 1 encI w0 fp0_2 A0_2 l0_2) (F0_3 : Sl 1 encI w0 fp0_3 A0_3 l0_3) (F0 : Cl w0 b0 27 [.int .i64 (q0_0), .slice A0_1 (l0_1).length cap0_1, .slice A0_2 (l0_2).length cap0_2, .slice A0_3 (l0_3).length cap0_3]) :
    Calls Try.prog 118 #[.pointer (some ⟨b0, 0, none⟩)] w0 fun e w' => ∃ A100 cap100 fp100 fr100, e = .returned (.slice A100 (r).length cap100) ∧ OwR 1 encI 25 2 w' fp100 fr100 A100 cap100 r ∧ (∀ x ∈ fp100 ++ fr100, w0.heap.size ≤ x) ∧ Chg [] w0 w' := by
  have L0_1 := F0_1.low
  have L0_2 := F0_2.low
  have L0_3 := F0_3.low
  have L0 := lt1 F0.lt
  have hB : Chg [] w0 w0 := Chg.refl _ _
  have hZ := Nat.le_refl w0.heap.size
  unfold m_spec_l07All_bimplWiring at hm
  refine enterE (N := 88) Try.func118 (by rfl) Try.ntmps118 (by simp) [(0, .pointer (some ⟨b0, 0, none⟩))] (by rfl) (by kernel_rfl) (fun a => ?_)
  refine cW_seq ?_
  refine cW_region ?_
  refine wS_pure 1 [(2, .slice none 0 0)] (by kernel_rfl) ?_
  refine wS_end (by rfl) ?_
  refine eX_then ?_
  refine cW_seq ?_
  refine cW_region ?_
  refine wS_bs0 (α := Int) (enc := encI) (d := 10) (t := 25) (T := 2) (by kernel_rfl) el25 ?_
  intro b5 w6 G7 F8 hc9
  replace F0_1 := F0_1.chg hc9 Dj.nil
  replace F0_2 := F0_2.chg hc9 Dj.nil
  replace F0_3 := F0_3.chg hc9 Dj.nil
  replace F0 := F0.chg hc9 notNil
  replace hB := hB.inS hc9 inNil
  replace G7 := Nat.le_trans hZ G7
  replace G7 := low1 G7
  replace hZ := Nat.le_trans hZ hc9.size
  refine wS_row1 (k := 1) (enc := encI) (l := ([] : List (Int))) (d := 11) (t := 24) (T := 25) (B := (some ⟨b5, 0, none⟩)) (c := 0) (by kernel_rfl) el24 F8 ?_
  intro b11 w12 G13 F14 hc15
  replace F0_1 := F0_1.chg hc15 Dj.nil
  replace F0_2 := F0_2.chg hc15 Dj.nil
  replace F0_3 := F0_3.chg hc15 Dj.nil
  replace F0 := F0.chg hc15 notNil
  replace F8 := F8.chg hc15 Dj.nil
  replace hB := hB.inS hc15 inNil
  replace G13 := Nat.le_trans hZ G13
  replace G13 := lowApp (low1 G13) G7
  replace hZ := Nat.le_trans hZ hc15.size
  replace F8 := (F8.sl encI_ok)
  refine wS_pure 1 [(3, .slice (some ⟨b11, 0, none⟩) (([([] : List (Int))] : List (List (Int)))).length 1)] (by kernel_rfl) ?_
  refine wS_end (by rfl) ?_
  refine eX_then ?_
  refine cW_seq ?_
  refine cW_seq ?_
  refine cW_region ?_
  refine wS_pure 1 [(4, .int .i64 (0))] (by kernel_rfl) ?_
  refine wS_end (by rfl) ?_
  refine eX_then ?_
  obtain ⟨r14066, hr14067, hm⟩ := bindE hm
  have hm14068 := hm
  refine cW_cut (fun a' w' => ∃ l14042 : List (List (Int)), ∃ A14043 : Option Addr, ∃ cap14044 : Nat, ∃ fp14045 : List Nat, ∃ fr14047 : List Nat, l14042 = r14066 ∧ Fr 88 [(3, .slice A14043 (l14042).length cap14044)] a' ∧ OwR 1 encI 25 2 w' fp14045 fr14047 A14043 cap14044 l14042 ∧ (∀ x ∈ (fp14045 ++ fr14047), w0.heap.size ≤ x) ∧ Chg [] w0 w' ∧ w0.heap.size ≤ w'.heap.size) ?_ ?_
  · refine cW_block ?_
    refine cW_loop _ (fun (s14069 : (List (List (Int))) × Int) a' w' => ∃ l14052 : List (List (Int)), ∃ A14053 : Option Addr, ∃ cap14054 : Nat, ∃ fp14055 : List Nat, ∃ fr14057 : List Nat, ∃ x14058 : Int, (l14052, x14058) = s14069 ∧ Fr 88 [(0, .pointer (some ⟨b0, 0, none⟩)), (3, .slice A14053 (l14052).length cap14054), (4, .int .i64 (x14058))] a' ∧ SlR 1 encI w' fp0_1 A0_1 l0_1 ∧ SlR 1 encI w' fp0_2 A0_2 l0_2 ∧ Sl 1 encI w' fp0_3 A0_3 l0_3 ∧ Cl w' b0 27 [.int .i64 (q0_0), .slice A0_1 (l0_1).length cap0_1, .slice A0_2 (l0_2).length cap0_2, .slice A0_3 (l0_3).length cap0_3] ∧ OwR 1 encI 25 2 w' fp14055 fr14057 A14053 cap14054 l14052 ∧ (∀ x ∈ (fp14055 ++ fr14057), w0.heap.size ≤ x) ∧ Chg [] w0 w' ∧ w0.heap.size ≤ w'.heap.size) hr14067 (fun hst => ⟨([([] : List (Int))] : List (List (Int))), (some ⟨b11, 0, none⟩), 1, [b11], [b5], 0, rfl, Fr.of hst (by kernel_rfl), F0_1, F0_2, F0_3, F0, F14, G13, hB, hZ⟩) ?_
    rintro _ c14070 a' w14051 ⟨l14052, A14053, cap14054, fp14055, fr14057, x14058, rfl, hF14059, F14060, F14061, F14062, F14063, F14064, G14065, hB, hZ⟩ hx14071
    refine Fr.goOn hF14059 (by kernel_rfl) ?_
    have hm := hx14071
    unfold m_spec_l07All_bimplWiring_s81 at hm
    refine cW_seq ?_
    refine cW_seq ?_
    refine cW_region ?_
    refine wS_pure 4 [(15, .pointer (some ⟨b0, 0, none⟩)), (14, .pointer (some ⟨b0, 0, none⟩)), (13, .pointer (some ⟨b0, 0, none⟩)), (12, .int .i64 (x14058))] (by kernel_rfl) ?_
    refine wS_load1 (d := 16) (T := 2) (ad := ⟨b0, 0, none⟩) (v := .int .i64 (q0_0)) (by kernel_rfl) vt2 ((F14063).cell 0) ?_
    refine wS_pure 1 [(17, .bool (decide (x14058 < q0_0)))] (by kernel_rfl) ?_
    refine wS_end (by rfl) ?_
    refine eX_then ?_
    refine cW_cond (t := decide (x14058 < q0_0)) (by kernel_rfl) (fun hb14072 => ?_) (fun hb14072 => ?_)
    · have hm := condT hb14072 hm
      refine cW_skip ?_
      refine eX_then ?_
      refine cW_seq ?_
      refine cW_block ?_
      refine cW_seq ?_
      refine cW_region ?_
      refine wS_rows0 (k := 1) (enc := encI) (d := 20) (t := 24) (T := 25) (T2 := 2) (by kernel_rfl) el24 ?_
      intro b14073 w14074 G14075 F14076 hc14077
      have D14079 : Dj (fp14055 ++ fr14057) ([b14073] ++ []) := Dj.of F14064.low (lowApp (low1 G14075) lowNil)
      replace F14060 := F14060.chg hc14077 Dj.nil
      replace F14061 := F14061.chg hc14077 Dj.nil
      replace F14062 := F14062.chg hc14077 Dj.nil
      replace F14063 := F14063.chg hc14077 notNil
      replace F14064 := F14064.chg hc14077 Dj.nil
      replace hB := hB.inS hc14077 inNil
      replace G14075 := Nat.le_trans hZ G14075
      replace G14075 := low1 G14075
      replace hZ := Nat.le_trans hZ hc14077.size
      replace G14075 := lowApp G14075 lowNil
      refine wS_pure 1 [(5, .slice (some ⟨b14073, 0, none⟩) (([] : List (List (Int)))).length 0)] (by kernel_rfl) ?_
      refine wS_end (by rfl) ?_
      refine eX_then ?_
      refine cW_seq ?_
      refine cW_seq ?_
      refine cW_region ?_
      refine wS_pure 1 [(6, .int .i64 (0))] (by kernel_rfl) ?_
      refine wS_end (by rfl) ?_
      refine eX_then ?_
      obtain ⟨r18756, hr18757, hm⟩ := bindE hm
      have hm18758 := hm
      refine cW_cut (fun a' w' => ∃ l18726 : List (List (Int)), ∃ A18727 : Option Addr, ∃ cap18728 : Nat, ∃ fp18729 : List Nat, ∃ fr18731 : List Nat, l18726 = r18756 ∧ Fr 88 [(0, .pointer (some ⟨b0, 0, none⟩)), (4, .int .i64 (x14058)), (5, .slice A18727 (l18726).length cap18728)] a' ∧ SlR 1 encI w' fp0_1 A0_1 l0_1 ∧ SlR 1 encI w' fp0_2 A0_2 l0_2 ∧ Sl 1 encI w' fp0_3 A0_3 l0_3 ∧ Cl w' b0 27 [.int .i64 (q0_0), .slice A0_1 (l0_1).length cap0_1, .slice A0_2 (l0_2).length cap0_2, .slice A0_3 (l0_3).length cap0_3] ∧ OwR 1 encI 25 2 w' fp18729 fr18731 A18727 cap18728 l18726 ∧ (∀ x ∈ (fp18729 ++ fr18731), w0.heap.size ≤ x) ∧ Chg [] w0 w' ∧ w0.heap.size ≤ w'.heap.size) ?_ ?_
      · refine cW_block ?_
        refine cW_loop _ (fun (s18759 : (List (List (Int))) × Int) a' w' => ∃ l18740 : List (List (Int)), ∃ A18741 : Option Addr, ∃ cap18742 : Nat, ∃ fp18743 : List Nat, ∃ fr18745 : List Nat, ∃ x18746 : Int, (l18740, x18746) = s18759 ∧ Fr 88 [(0, .pointer (some ⟨b0, 0, none⟩)), (3, .slice A14053 (l14052).length cap14054), (4, .int .i64 (x14058)), (5, .slice A18741 (l18740).length cap18742), (6, .int .i64 (x18746))] a' ∧ SlR 1 encI w' fp0_1 A0_1 l0_1 ∧ SlR 1 encI w' fp0_2 A0_2 l0_2 ∧ Sl 1 encI w' fp0_3 A0_3 l0_3 ∧ Cl w' b0 27 [.int .i64 (q0_0), .slice A0_1 (l0_1).length cap0_1, .slice A0_2 (l0_2).length cap0_2, .slice A0_3 (l0_3).length cap0_3] ∧ OwR 1 encI 25 2 w' fp14055 fr14057 A14053 cap14054 l14052 ∧ OwR 1 encI 25 2 w' fp18743 fr18745 A18741 cap18742 l18740 ∧ (∀ x ∈ (fp18743 ++ fr18745), w0.heap.size ≤ x) ∧ Dj (fp14055 ++ fr14057) (fp18743 ++ fr18745) ∧ Chg [] w0 w' ∧ w0.heap.size ≤ w'.heap.size) hr18757 (fun hst => ⟨([] : List (List (Int))), (some ⟨b14073, 0, none⟩), 0, [b14073], [], 0, rfl, Fr.of hst (by kernel_rfl), F14060, F14061, F14062, F14063, F14064, F14076, G14075, D14079, hB, hZ⟩) ?_
        rintro _ c18760 a' w18739 ⟨l18740, A18741, cap18742, fp18743, fr18745, x18746, rfl, hF18747, F18748, F18749, F18750, F18751, F18752, F18753, G18754, D18755, hB, hZ⟩ hx18761
        refine Fr.goOn hF18747 (by kernel_rfl) ?_
        have hm := hx18761
        unfold m_spec_l07All_bimplWiring_s108 at hm
        refine cW_seq ?_
        refine cW_seq ?_
        refine cW_region ?_
        refine wS_pure 4 [(24, .bool (decide (x18746 < (((l14052).length : Int))))), (23, .int .i64 (((l14052).length : Int))), (22, .slice A14053 (l14052).length cap14054), (21, .int .i64 (x18746))] (by kernel_rfl) ?_
        refine wS_end (by rfl) ?_
        refine eX_then ?_
        refine cW_cond (t := decide (x18746 < (((l14052).length : Int)))) (by kernel_rfl) (fun hb18762 => ?_) (fun hb18762 => ?_)
        · have hm := condT hb18762 hm
          refine cW_skip ?_
          refine eX_then ?_
          refine cW_seq ?_
          refine cW_block ?_
          refine cW_seq ?_
          refine cW_region ?_
          refine wS_pure 1 [(7, .int .i64 (0))] (by kernel_rfl) ?_
          refine wS_end (by rfl) ?_
          refine eX_then ?_
          obtain ⟨r20317, hr20318, hm⟩ := bindE hm
          have hm20319 := hm
          refine cW_cut (fun a' w' => ∃ l20285 : List (List (Int)), ∃ A20286 : Option Addr, ∃ cap20287 : Nat, ∃ fp20288 : List Nat, ∃ fr20290 : List Nat, l20285 = r20317 ∧ Fr 88 [(0, .pointer (some ⟨b0, 0, none⟩)), (3, .slice A14053 (l14052).length cap14054), (4, .int .i64 (x14058)), (5, .slice A20286 (l20285).length cap20287), (6, .int .i64 (x18746))] a' ∧ SlR 1 encI w' fp0_1 A0_1 l0_1 ∧ SlR 1 encI w' fp0_2 A0_2 l0_2 ∧ Sl 1 encI w' fp0_3 A0_3 l0_3 ∧ Cl w' b0 27 [.int .i64 (q0_0), .slice A0_1 (l0_1).length cap0_1, .slice A0_2 (l0_2).length cap0_2, .slice A0_3 (l0_3).length cap0_3] ∧ OwR 1 encI 25 2 w' fp14055 fr14057 A14053 cap14054 l14052 ∧ OwR 1 encI 25 2 w' fp20288 fr20290 A20286 cap20287 l20285 ∧ (∀ x ∈ (fp20288 ++ fr20290), w0.heap.size ≤ x) ∧ Dj (fp14055 ++ fr14057) (fp20288 ++ fr20290) ∧ Chg [] w0 w' ∧ w0.heap.size ≤ w'.heap.size) ?_ ?_
          · refine cW_block ?_
            refine cW_loop _ (fun (s20320 : (List (List (Int))) × Int) a' w' => ∃ l20301 : List (List (Int)), ∃ A20302 : Option Addr, ∃ cap20303 : Nat, ∃ fp20304 : List Nat, ∃ fr20306 : List Nat, ∃ x20307 : Int, (l20301, x20307) = s20320 ∧ Fr 88 [(0, .pointer (some ⟨b0, 0, none⟩)), (3, .slice A14053 (l14052).length cap14054), (4, .int .i64 (x14058)), (5, .slice A20302 (l20301).length cap20303), (6, .int .i64 (x18746)), (7, .int .i64 (x20307))] a' ∧ SlR 1 encI w' fp0_1 A0_1 l0_1 ∧ SlR 1 encI w' fp0_2 A0_2 l0_2 ∧ Sl 1 encI w' fp0_3 A0_3 l0_3 ∧ Cl w' b0 27 [.int .i64 (q0_0), .slice A0_1 (l0_1).length cap0_1, .slice A0_2 (l0_2).length cap0_2, .slice A0_3 (l0_3).length cap0_3] ∧ OwR 1 encI 25 2 w' fp14055 fr14057 A14053 cap14054 l14052 ∧ OwR 1 encI 25 2 w' fp20304 fr20306 A20302 cap20303 l20301 ∧ (∀ x ∈ (fp20304 ++ fr20306), w0.heap.size ≤ x) ∧ Dj (fp14055 ++ fr14057) (fp20304 ++ fr20306) ∧ Chg [] w0 w' ∧ w0.heap.size ≤ w'.heap.size) hr20318 (fun hst => ⟨l18740, A18741, cap18742, fp18743, fr18745, 0, rfl, Fr.of hst (by kernel_rfl), F18748, F18749, F18750, F18751, F18752, F18753, G18754, D18755, hB, hZ⟩) ?_
            rintro _ c20321 a' w20300 ⟨l20301, A20302, cap20303, fp20304, fr20306, x20307, rfl, hF20308, F20309, F20310, F20311, F20312, F20313, F20314, G20315, D20316, hB, hZ⟩ hx20322
            refine Fr.goOn hF20308 (by kernel_rfl) ?_
            have hm := hx20322
            unfold m_spec_l07All_bimplWiring_s117 at hm
            refine cW_seq ?_
            refine cW_seq ?_
            refine cW_region ?_
            refine wS_pure 2 [(28, .bool (decide (x20307 < 2))), (27, .int .i64 (x20307))] (by kernel_rfl) ?_
            refine wS_end (by rfl) ?_
            refine eX_then ?_
            refine cW_cond (t := decide (x20307 < 2)) (by kernel_rfl) (fun hb20323 => ?_) (fun hb20323 => ?_)
            · have hm := condT hb20323 hm
              refine cW_skip ?_
              refine eX_then ?_
              refine cW_seq ?_
              refine cW_block ?_
              obtain ⟨s20705, hs20706, hm⟩ := bindE hm
              refine cW_cut (fun a' w' => ∃ l20690 : List (List (Int)), ∃ A20691 : Option Addr, ∃ cap20692 : Nat, ∃ fp20693 : List Nat, ∃ fr20695 : List Nat, l20690 = s20705 ∧ Fr 88 [(0, .pointer (some ⟨b0, 0, none⟩)), (3, .slice A14053 (l14052).length cap14054), (4, .int .i64 (x14058)), (5, .slice A20691 (l20690).length cap20692), (6, .int .i64 (x18746)), (7, .int .i64 (x20307))] a' ∧ SlR 1 encI w' fp0_1 A0_1 l0_1 ∧ SlR 1 encI w' fp0_2 A0_2 l0_2 ∧ Sl 1 encI w' fp0_3 A0_3 l0_3 ∧ Cl w' b0 27 [.int .i64 (q0_0), .slice A0_1 (l0_1).length cap0_1, .slice A0_2 (l0_2).length cap0_2, .slice A0_3 (l0_3).length cap0_3] ∧ OwR 1 encI 25 2 w' fp14055 fr14057 A14053 cap14054 l14052 ∧ OwR 1 encI 25 2 w' fp20693 fr20695 A20691 cap20692 l20690 ∧ (∀ x ∈ (fp20693 ++ fr20695), w0.heap.size ≤ x) ∧ Dj (fp14055 ++ fr14057) (fp20693 ++ fr20695) ∧ Chg [] w0 w' ∧ w0.heap.size ≤ w'.heap.size) ?_ ?_
              · have hm := hs20706
                refine cW_seq ?_
                refine cW_region ?_
                refine wS_pure 3 [(33, .pointer (some ⟨b0, 3, none⟩)), (32, .pointer (some ⟨b0, 0, none⟩)), (31, .pointer (some ⟨b0, 0, none⟩))] (by kernel_rfl) ?_
                refine wS_load1 (d := 34) (T := 25) (ad := ⟨b0, 3, none⟩) (v := .slice A0_3 (l0_3).length cap0_3) (by kernel_rfl) vt25 ((F20312).cell 3) ?_
                refine wS_pure 1 [(35, .int .i64 (x14058))] (by kernel_rfl) ?_
                obtain ⟨x20707, hx20708, hm⟩ := bindE hm
                refine wS_idx (d := 36) (T := 25) (A := A0_3) (n := (l0_3).length) (cap := cap0_3) (kd := .i64) (m := x14058) (by kernel_rfl) sl25 (F20311.is hx20708) ?_
                refine wS_load1 (d := 37) (T := 2) (ad := (elA A0_3 1 (x14058) 0)) (v := .int .i64 (x20707)) (by kernel_rfl) vt2 (Sl.cell F20311 hx20708 0 (by rfl)) ?_
                refine wS_pure 2 [(39, .bool (decide (x20707 < 0))), (38, .bool (decide (x20707 < 0)))] (by kernel_rfl) ?_
                refine wS_bool (decide (x20707 < 0)) (fun hb20709 => ?_) (fun hb20709 => ?_)
                · have hm := condT hb20709 hm
                  rewrite [hb20709]
                  refine wS_pure 11 [(8, .bool (true)), (49, .bool (true)), (48, undef), (47, undef), (46, undef), (45, undef), (44, undef), (43, undef), (42, undef), (41, undef), (40, undef)] (by kernel_rfl) ?_
                  refine wS_end (by rfl) ?_
                  refine eX_then ?_
                  refine cW_prune [(0, .pointer (some ⟨b0, 0, none⟩)), (3, .slice A14053 (l14052).length cap14054), (4, .int .i64 (x14058)), (5, .slice A20302 (l20301).length cap20303), (6, .int .i64 (x18746)), (7, .int .i64 (x20307)), (8, .bool (true))] (by kernel_rfl) (by kernel_rfl) (fun a20710 => ?_)
                  refine cW_seq ?_
                  refine cW_seq ?_
                  refine cW_region ?_
                  refine wS_pure 1 [(9, .int .i64 (0))] (by kernel_rfl) ?_
                  refine wS_end (by rfl) ?_
                  refine eX_then ?_
                  obtain ⟨r20788, hr20789, hm⟩ := bindE hm
                  have hm20790 := hm
                  refine cW_cut (fun a' w' => ∃ x20770 : Bool, x20770 = r20788 ∧ Fr 88 [(0, .pointer (some ⟨b0, 0, none⟩)), (3, .slice A14053 (l14052).length cap14054), (4, .int .i64 (x14058)), (5, .slice A20302 (l20301).length cap20303), (6, .int .i64 (x18746)), (7, .int .i64 (x20307)), (8, .bool (x20770))] a' ∧ SlR 1 encI w' fp0_1 A0_1 l0_1 ∧ SlR 1 encI w' fp0_2 A0_2 l0_2 ∧ Sl 1 encI w' fp0_3 A0_3 l0_3 ∧ Cl w' b0 27 [.int .i64 (q0_0), .slice A0_1 (l0_1).length cap0_1, .slice A0_2 (l0_2).length cap0_2, .slice A0_3 (l0_3).length cap0_3] ∧ OwR 1 encI 25 2 w' fp14055 fr14057 A14053 cap14054 l14052 ∧ OwR 1 encI 25 2 w' fp20304 fr20306 A20302 cap20303 l20301 ∧ Chg [] w0 w' ∧ w0.heap.size ≤ w'.heap.size) ?_ ?_
                  · refine cW_block ?_
                    refine cW_loop _ (fun (s20791 : Bool × Int) a' w' => ∃ x20779 : Bool, ∃ x20780 : Int, (x20779, x20780) = s20791 ∧ Fr 88 [(0, .pointer (some ⟨b0, 0, none⟩)), (3, .slice A14053 (l14052).length cap14054), (4, .int .i64 (x14058)), (5, .slice A20302 (l20301).length cap20303), (6, .int .i64 (x18746)), (7, .int .i64 (x20307)), (8, .bool (x20779)), (9, .int .i64 (x20780))] a' ∧ SlR 1 encI w' fp0_1 A0_1 l0_1 ∧ SlR 1 encI w' fp0_2 A0_2 l0_2 ∧ Sl 1 encI w' fp0_3 A0_3 l0_3 ∧ Cl w' b0 27 [.int .i64 (q0_0), .slice A0_1 (l0_1).length cap0_1, .slice A0_2 (l0_2).length cap0_2, .slice A0_3 (l0_3).length cap0_3] ∧ OwR 1 encI 25 2 w' fp14055 fr14057 A14053 cap14054 l14052 ∧ OwR 1 encI 25 2 w' fp20304 fr20306 A20302 cap20303 l20301 ∧ Chg [] w0 w' ∧ w0.heap.size ≤ w'.heap.size) hr20789 (fun hst => ⟨true, 0, rfl, Fr.of hst (by kernel_rfl), F20309, F20310, F20311, F20312, F20313, F20314, hB, hZ⟩) ?_
                    rintro _ c20792 a' w20778 ⟨x20779, x20780, rfl, hF20781, F20782, F20783, F20784, F20785, F20786, F20787, hB, hZ⟩ hx20793
                    refine Fr.goOn hF20781 (by kernel_rfl) ?_
                    have hm := hx20793
                    unfold m_spec_l07All_bimplWiring_s120 at hm
                    refine cW_seq ?_
                    refine cW_seq ?_
                    refine cW_region ?_
                    refine wS_pure 3 [(52, .bool (decide (x20780 < x14058))), (51, .int .i64 (x14058)), (50, .int .i64 (x20780))] (by kernel_rfl) ?_
                    refine wS_end (by rfl) ?_
                    refine eX_then ?_
                    refine cW_cond (t := decide (x20780 < x14058)) (by kernel_rfl) (fun hb20794 => ?_) (fun hb20794 => ?_)
                    · have hm := condT hb20794 hm
                      refine cW_skip ?_
                      refine eX_then ?_
                      refine cW_seq ?_
                      refine cW_block ?_
                      refine cW_region ?_
                      refine wS_pure 2 [(56, .bool (x20779)), (55, .bool (x20779))] (by kernel_rfl) ?_
                      refine wS_bool x20779 (fun hb20795 => ?_) (fun hb20795 => ?_)
                      · have hm := condT hb20795 hm
                        subst hb20795
                        refine wS_pure 2 [(58, .int .i64 (x18746)), (57, .slice A14053 (l14052).length cap14054)] (by kernel_rfl) ?_
                        obtain ⟨x20796, hx20797, hm⟩ := bindE hm
                        refine wS_idx (d := 59) (T := 24) (A := A14053) (n := (l14052).length) (cap := cap14054) (kd := .i64) (m := x18746) (by kernel_rfl) sl24 ((F20786.slr encI_ok).is hx20797) ?_
                        obtain ⟨A20798, cap20799, hc20801, F20800, K20802⟩ := OwR.row F20786 encI_ok hx20797
                        have G20804 := low_inr G14065
                        have Dm20805 := (F20786.dj).symm
                        refine wS_load1 (d := 60) (T := 25) (ad := (elA A14053 1 (x18746) 0)) (v := .slice A20798 (x20796).length cap20799) (by kernel_rfl) vt25 hc20801 ?_
                        refine wS_pure 1 [(61, .int .i64 (x20780))] (by kernel_rfl) ?_
                        obtain ⟨x20806, hx20807, hm⟩ := bindE hm
                        refine wS_idx (d := 62) (T := 25) (A := A20798) (n := (x20796).length) (cap := cap20799) (kd := .i64) (m := x20780) (by kernel_rfl) sl25 (F20800.is hx20807) ?_
                        refine wS_load1 (d := 63) (T := 2) (ad := (elA A20798 1 (x20780) 0)) (v := .int .i64 (x20806)) (by kernel_rfl) vt2 (Sl.cell F20800 hx20807 0 (by rfl)) ?_
                        refine wS_pure 3 [(66, .bool (x20806 != x20307)), (65, .bool (x20806 != x20307)), (64, .int .i64 (x20307))] (by kernel_rfl) ?_
                        refine wS_bool (x20806 != x20307) (fun hb20808 => ?_) (fun hb20808 => ?_)
                        · have hm := condT hb20808 hm
                          rewrite [hb20808]
                          refine wS_pure 8 [(8, .bool (true)), (73, .bool (true)), (72, .bool (true)), (71, undef), (70, undef), (69, undef), (68, undef), (67, undef)] (by kernel_rfl) ?_
                          refine wS_end (by rfl) ?_
                          refine eX_block ?_
                          refine eX_then ?_
                          refine cW_prune [(0, .pointer (some ⟨b0, 0, none⟩)), (3, .slice A14053 (l14052).length cap14054), (4, .int .i64 (x14058)), (5, .slice A20302 (l20301).length cap20303), (6, .int .i64 (x18746)), (7, .int .i64 (x20307)), (8, .bool (true)), (9, .int .i64 (x20780))] (by kernel_rfl) (by kernel_rfl) (fun a20809 => ?_)
                          refine cW_region ?_
                          refine wS_pure 3 [(9, .int .i64 (wr (x20780 + 1))), (54, .int .i64 (wr (x20780 + 1))), (53, .int .i64 (x20780))] (by kernel_rfl) ?_
                          refine wS_end (by rfl) ?_
                          have hq : (some (Ctl.next ((true, wr (x20780 + 1)))) : Option (Ctl (Bool × Int) (Bool))) = some _ := hm
                          replace hq := someE hq
                          subst hq
                          exact eX_next hx20793 (fun hst => ⟨true, wr (x20780 + 1), rfl, Fr.of hst (by kernel_rfl), F20782, F20783, F20784, F20785, F20786, F20787, hB, hZ⟩)
                        · have hm := condF hb20808 hm
                          rewrite [hb20808]
                          refine wS_pure 3 [(69, .int .i64 (x14058)), (68, .int .i64 (x20780)), (67, .pointer (some ⟨b0, 0, none⟩))] (by kernel_rfl) ?_
                          obtain ⟨y20810, hy20811, hm⟩ := bindE hm
                          refine wS_calls (d := 70) (f := 120) (vs := [.pointer (some ⟨b0, 0, none⟩), .int .i64 (x20780), .int .i64 (x14058)]) (by kernel_rfl) ent120 (c_spec_l07Cross_bimplWiring hy20811 F20782 F20783 F20784 F20785) ?_
                          rintro _ w20812 ⟨rfl, hc20813⟩
                          replace F20782 := F20782.chg hc20813 Dj.nil
                          replace F20783 := F20783.chg hc20813 Dj.nil
                          replace F20784 := F20784.chg hc20813 Dj.nil
                          replace F20785 := F20785.chg hc20813 notNil
                          replace F20786 := F20786.chg hc20813 Dj.nil
                          replace F20787 := F20787.chg hc20813 Dj.nil
                          replace F20800 := F20800.chg hc20813 Dj.nil
                          replace hB := hB.inS hc20813 inNil
                          replace hZ := Nat.le_trans hZ hc20813.size
                          refine ⟨.bool (y20810), rfl, ?_⟩
                          refine wS_pure 4 [(8, .bool (!y20810)), (73, .bool (!y20810)), (72, .bool (!y20810)), (71, .bool (!y20810))] (by kernel_rfl) ?_
                          refine wS_end (by rfl) ?_
                          refine eX_block ?_
                          refine eX_then ?_
                          refine cW_prune [(0, .pointer (some ⟨b0, 0, none⟩)), (3, .slice A14053 (l14052).length cap14054), (4, .int .i64 (x14058)), (5, .slice A20302 (l20301).length cap20303), (6, .int .i64 (x18746)), (7, .int .i64 (x20307)), (8, .bool (!y20810)), (9, .int .i64 (x20780))] (by kernel_rfl) (by kernel_rfl) (fun a20814 => ?_)
                          refine cW_region ?_
                          refine wS_pure 3 [(9, .int .i64 (wr (x20780 + 1))), (54, .int .i64 (wr (x20780 + 1))), (53, .int .i64 (x20780))] (by kernel_rfl) ?_
                          refine wS_end (by rfl) ?_
                          have hq : (some (Ctl.next ((!y20810, wr (x20780 + 1)))) : Option (Ctl (Bool × Int) (Bool))) = some _ := hm
                          replace hq := someE hq
                          subst hq
                          exact eX_next hx20793 (fun hst => ⟨!y20810, wr (x20780 + 1), rfl, Fr.of hst (by kernel_rfl), F20782, F20783, F20784, F20785, F20786, F20787, hB, hZ⟩)
                      · have hm := condF hb20795 hm
                        subst hb20795
                        refine wS_pure 18 [(8, .bool (false)), (73, .bool (false)), (72, undef), (71, undef), (70, undef), (69, undef), (68, undef), (67, undef), (66, undef), (65, undef), (64, undef), (63, undef), (62, undef), (61, undef), (60, undef), (59, undef), (58, undef), (57, undef)] (by kernel_rfl) ?_
                        refine wS_end (by rfl) ?_
                        refine eX_block ?_
                        refine eX_then ?_
                        refine cW_prune [(0, .pointer (some ⟨b0, 0, none⟩)), (3, .slice A14053 (l14052).length cap14054), (4, .int .i64 (x14058)), (5, .slice A20302 (l20301).length cap20303), (6, .int .i64 (x18746)), (7, .int .i64 (x20307)), (8, .bool (false)), (9, .int .i64 (x20780))] (by kernel_rfl) (by kernel_rfl) (fun a20815 => ?_)
                        refine cW_region ?_
                        refine wS_pure 3 [(9, .int .i64 (wr (x20780 + 1))), (54, .int .i64 (wr (x20780 + 1))), (53, .int .i64 (x20780))] (by kernel_rfl) ?_
                        refine wS_end (by rfl) ?_
                        have hq : (some (Ctl.next ((false, wr (x20780 + 1)))) : Option (Ctl (Bool × Int) (Bool))) = some _ := hm
                        replace hq := someE hq
                        subst hq
                        exact eX_next hx20793 (fun hst => ⟨false, wr (x20780 + 1), rfl, Fr.of hst (by kernel_rfl), F20782, F20783, F20784, F20785, F20786, F20787, hB, hZ⟩)
                    · have hm := condF hb20794 hm
                      refine cW_exit ?_
                      refine eX_then_exit ?_
                      have hq : (some (Ctl.out x20779) : Option (Ctl (Bool × Int) (Bool))) = some _ := hm
                      replace hq := someE hq
                      subst hq
                      refine eX_outX hx20793 (fun hr20816 => ?_)
                      replace hr20816 := hr20816.symm
                      subst hr20816
                      refine eX_block_hit ?_
                      exact eX_J (fun hst => ⟨x20779, rfl, Fr.of hst (by kernel_rfl), F20782, F20783, F20784, F20785, F20786, F20787, hB, hZ⟩)
                  · rintro a' w20769 ⟨x20770, hJ, hF20771, F20772, F20773, F20774, F20775, F20776, F20777, hB, hZ⟩
                    subst hJ
                    refine Fr.goX hF20771 (by kernel_rfl) ?_
                    refine eX_then ?_
                    refine cW_seq ?_
                    refine cW_region ?_
                    refine wS_pure 1 [(74, .bool (x20770))] (by kernel_rfl) ?_
                    refine wS_end (by rfl) ?_
                    refine eX_then ?_
                    refine cW_cond (t := x20770) (by kernel_rfl) (fun hb20817 => ?_) (fun hb20817 => ?_)
                    · have hm := condT hb20817 hm
                      refine cW_region ?_
                      refine wS_pure 3 [(77, .int .i64 (x18746)), (76, .slice A14053 (l14052).length cap14054), (75, .slice A20302 (l20301).length cap20303)] (by kernel_rfl) ?_
                      obtain ⟨x20818, hx20819, hm⟩ := bindE hm
                      refine wS_idx (d := 78) (T := 24) (A := A14053) (n := (l14052).length) (cap := cap14054) (kd := .i64) (m := x18746) (by kernel_rfl) sl24 ((F20776.slr encI_ok).is hx20819) ?_
                      obtain ⟨A20820, cap20821, hc20823, F20822, K20824⟩ := OwR.row F20776 encI_ok hx20819
                      have G20826 := low_inr G14065
                      have Dm20827 := (F20776.dj).symm
                      refine wS_load1 (d := 79) (T := 25) (ad := (elA A14053 1 (x18746) 0)) (v := .slice A20820 (x20818).length cap20821) (by kernel_rfl) vt25 hc20823 ?_
                      obtain ⟨y20828, hy20829, hm⟩ := bindE hm
                      refine wS_calls (d := 80) (f := 88) (vs := [.slice A20820 (x20818).length cap20821]) (by kernel_rfl) ent88 (c_spec_l00Own hy20829 F20822) ?_
                      rintro _ w20830 ⟨A20832, cap20833, fp20834, rfl, F20835, G20836, hc20831⟩
                      have D20839 : Dj (fp14055 ++ fr14057) fp20834 := Dj.of F20776.low G20836
                      have D20840 : Dj (fp20304 ++ fr20306) fp20834 := Dj.of F20777.low G20836
                      have D20841 : Dj fr14057 fp20834 := Dj.of F20822.low G20836
                      replace F20772 := F20772.chg hc20831 Dj.nil
                      replace F20773 := F20773.chg hc20831 Dj.nil
                      replace F20774 := F20774.chg hc20831 Dj.nil
                      replace F20775 := F20775.chg hc20831 notNil
                      replace F20776 := F20776.chg hc20831 Dj.nil
                      replace F20777 := F20777.chg hc20831 Dj.nil
                      replace F20822 := F20822.chg hc20831 Dj.nil
                      replace hB := hB.inS hc20831 inNil
                      replace G20836 := low_le hZ G20836
                      replace hZ := Nat.le_trans hZ hc20831.size
                      refine ⟨.slice A20832 (y20828).length cap20833, rfl, ?_⟩
                      refine wS_pure 1 [(81, .int .i64 (x20307))] (by kernel_rfl) ?_
                      refine wS_bs (enc := encI) ([x20307] : List (Int)) [.int .i64 (x20307)] (d := 82) (t := 25) (T := 2) (n := 1) (ps := [(0, .int .i64 (x20307))]) (by kernel_rfl) el25 encI_ok (by rfl) (by omega) (by omega) (by kernel_rfl) (by rfl) ?_
                      intro b20842 w20843 G20844 F20845 hc20846
                      have D20848 : Dj (fp14055 ++ fr14057) [b20842] := Dj.of F20776.low (low1 G20844)
                      have D20849 : Dj (fp20304 ++ fr20306) [b20842] := Dj.of F20777.low (low1 G20844)
                      have D20850 : Dj fr14057 [b20842] := Dj.of F20822.low (low1 G20844)
                      have D20851 : Dj fp20834 [b20842] := Dj.of F20835.low (low1 G20844)
                      replace F20772 := F20772.chg hc20846 Dj.nil
                      replace F20773 := F20773.chg hc20846 Dj.nil
                      replace F20774 := F20774.chg hc20846 Dj.nil
                      replace F20775 := F20775.chg hc20846 notNil
                      replace F20776 := F20776.chg hc20846 Dj.nil
                      replace F20777 := F20777.chg hc20846 Dj.nil
                      replace F20822 := F20822.chg hc20846 Dj.nil
                      replace F20835 := F20835.chg hc20846 Dj.nil
                      replace hB := hB.inS hc20846 inNil
                      replace G20844 := Nat.le_trans hZ G20844
                      replace G20844 := low1 G20844
                      replace hZ := Nat.le_trans hZ hc20846.size
                      obtain ⟨_, hk20852, hm⟩ := bindE hm
                      replace hk20852 := apE hk20852
                      refine wS_append (enc := encI) (l := (y20828 : List (Int))) (l2 := (([x20307] : List (Int)) : List (Int))) (d := 83) (t := 25) (T := 2) (A := A20832) (A2 := (some ⟨b20842, 0, none⟩)) (cap := cap20833) (cap2 := 1) (by kernel_rfl) el25 encI_ok F20835 (F20845.sl encI_ok) (by rfl) hk20852 ?_
                      intro w20853 fp20854 A20855 cap20856 F20857 hc20858 hp20859
                      have G20861 := low_ap G20836 hZ hp20859
                      have D20862 : Dj (fp14055 ++ fr14057) fp20854 := Dj.ap D20839 F20776.low hp20859
                      have D20863 : Dj (fp20304 ++ fr20306) fp20854 := Dj.ap D20840 F20777.low hp20859
                      have D20864 : Dj fr14057 fp20854 := Dj.ap D20841 F20822.low hp20859
                      have D20865 : Dj [b20842] fp20854 := Dj.ap (D20851).symm F20845.low hp20859
                      replace F20772 := F20772.chg hc20858 (Dj.of L0_1 G20836)
                      replace F20773 := F20773.chg hc20858 (Dj.of L0_2 G20836)
                      replace F20774 := F20774.chg hc20858 (Dj.of L0_3 G20836)
                      replace F20775 := F20775.chg hc20858 (dj1 (Dj.of L0 G20836))
                      replace F20776 := F20776.chg hc20858 D20839
                      replace F20777 := F20777.chg hc20858 D20840
                      replace F20822 := F20822.chg hc20858 D20841
                      replace F20845 := F20845.chg hc20858 (D20851).symm
                      replace hB := hB.inS hc20858 (inLow G20836)
                      replace hZ := Nat.le_trans hZ hc20858.size
                      refine wS_row1 (k := 1) (enc := encI) (l := y20828 ++ (([x20307] : List (Int)))) (d := 84) (t := 24) (T := 25) (B := A20855) (c := cap20856) (by kernel_rfl) el24 F20857 ?_
                      intro b20866 w20867 G20868 F20869 hc20870
                      have D20872 : Dj (fp14055 ++ fr14057) ([b20866] ++ fp20854) := Dj.app (Dj.of F20776.low (low1 G20868)) D20862
                      have D20873 : Dj (fp20304 ++ fr20306) ([b20866] ++ fp20854) := Dj.app (Dj.of F20777.low (low1 G20868)) D20863
                      have D20874 : Dj fr14057 ([b20866] ++ fp20854) := Dj.app (Dj.of F20822.low (low1 G20868)) D20864
                      have D20875 : Dj [b20842] ([b20866] ++ fp20854) := Dj.app (Dj.of F20845.low (low1 G20868)) D20865
                      replace F20772 := F20772.chg hc20870 Dj.nil
                      replace F20773 := F20773.chg hc20870 Dj.nil
                      replace F20774 := F20774.chg hc20870 Dj.nil
                      replace F20775 := F20775.chg hc20870 notNil
                      replace F20776 := F20776.chg hc20870 Dj.nil
                      replace F20777 := F20777.chg hc20870 Dj.nil
                      replace F20822 := F20822.chg hc20870 Dj.nil
                      replace F20845 := F20845.chg hc20870 Dj.nil
                      replace F20857 := F20857.chg hc20870 Dj.nil
                      replace hB := hB.inS hc20870 inNil
                      replace G20868 := Nat.le_trans hZ G20868
                      replace G20868 := lowApp (low1 G20868) G20861
                      replace hZ := Nat.le_trans hZ hc20870.size
                      replace F20857 := (F20857.sl encI_ok)
                      obtain ⟨_, hk20876, hm⟩ := bindE hm
                      replace hk20876 := apE hk20876
                      refine wS_appendR (k := 1) (enc := encI) (ll := (l20301 : List (List (Int)))) (ll2 := (([y20828 ++ (([x20307] : List (Int)))] : List (List (Int))) : List (List (Int)))) (d := 85) (t := 24) (T := 25) (A := A20302) (A2 := (some ⟨b20866, 0, none⟩)) (cap := cap20303) (cap2 := 1) (by kernel_rfl) el24 F20777 F20869 (by rfl) D20873 hk20876 ?_
                      intro w20877 fp20878 A20879 cap20880 F20881 hc20882 hp20883
                      have G20885 := lowApp (low_ap (low_inl G20315) hZ hp20883) (lowApp (low_inr G20315) (low_inr G20868))
                      have D20886 : Dj (fp14055 ++ fr14057) (fp20878 ++ (fr20306 ++ fp20854)) := Dj.app (Dj.ap (Dj.inl D20316) F20776.low hp20883) (Dj.app (Dj.inr D20316) (Dj.inr D20872))
                      have D20887 : Dj fr14057 (fp20878 ++ (fr20306 ++ fp20854)) := Dj.app (Dj.ap (Dj.inl ((Dj.inr (D20316).symm)).symm) F20822.low hp20883) (Dj.app (Dj.inr ((Dj.inr (D20316).symm)).symm) (Dj.inr D20874))
                      have D20888 : Dj [b20842] (fp20878 ++ (fr20306 ++ fp20854)) := Dj.app (Dj.ap (Dj.inl (D20849).symm) F20845.low hp20883) (Dj.app (Dj.inr (D20849).symm) (Dj.inr D20875))
                      replace F20772 := F20772.chg hc20882 (Dj.inl (Dj.of L0_1 G20315))
                      replace F20773 := F20773.chg hc20882 (Dj.inl (Dj.of L0_2 G20315))
                      replace F20774 := F20774.chg hc20882 (Dj.inl (Dj.of L0_3 G20315))
                      replace F20775 := F20775.chg hc20882 (dj1 (Dj.inl (Dj.of L0 G20315)))
                      replace F20776 := F20776.chg hc20882 (Dj.inl D20316)
                      replace F20822 := F20822.chg hc20882 (Dj.inl ((Dj.inr (D20316).symm)).symm)
                      replace F20845 := F20845.chg hc20882 (Dj.inl (D20849).symm)
                      replace hB := hB.inS hc20882 (memS_inl (inLow G20315))
                      replace hZ := Nat.le_trans hZ hc20882.size
                      refine wS_pure 1 [(5, .slice A20879 (l20301 ++ (([y20828 ++ (([x20307] : List (Int)))] : List (List (Int))))).length cap20880)] (by kernel_rfl) ?_
                      refine wS_end (by rfl) ?_
                      have hq : (some (l20301 ++ (([y20828 ++ (([x20307] : List (Int)))] : List (List (Int))))) : Option ((List (List (Int))))) = some _ := hm
                      replace hq := someE hq
                      subst hq
                      exact eX_J (fun hst => ⟨l20301 ++ (([y20828 ++ (([x20307] : List (Int)))] : List (List (Int)))), A20879, cap20880, fp20878, (fr20306 ++ fp20854), rfl, Fr.of hst (by kernel_rfl), F20772, F20773, F20774, F20775, F20776, F20881, G20885, D20886, hB, hZ⟩)
                    · have hm := condF hb20817 hm
                      refine cW_skip ?_
                      have hq : (some l20301 : Option ((List (List (Int))))) = some _ := hm
                      replace hq := someE hq
                      subst hq
                      exact eX_J (fun hst => ⟨l20301, A20302, cap20303, fp20304, fr20306, rfl, Fr.of hst (by kernel_rfl), F20772, F20773, F20774, F20775, F20776, F20777, G20315, D20316, hB, hZ⟩)
                · have hm := condF hb20709 hm
                  rewrite [hb20709]
                  refine wS_pure 3 [(42, .pointer (some ⟨b0, 3, none⟩)), (41, .pointer (some ⟨b0, 0, none⟩)), (40, .pointer (some ⟨b0, 0, none⟩))] (by kernel_rfl) ?_
                  refine wS_load1 (d := 43) (T := 25) (ad := ⟨b0, 3, none⟩) (v := .slice A0_3 (l0_3).length cap0_3) (by kernel_rfl) vt25 ((F20312).cell 3) ?_
                  refine wS_pure 1 [(44, .int .i64 (x14058))] (by kernel_rfl) ?_
                  obtain ⟨x20889, hx20890, hm⟩ := bindE hm
                  refine wS_idx (d := 45) (T := 25) (A := A0_3) (n := (l0_3).length) (cap := cap0_3) (kd := .i64) (m := x14058) (by kernel_rfl) sl25 (F20311.is hx20890) ?_
                  refine wS_load1 (d := 46) (T := 2) (ad := (elA A0_3 1 (x14058) 0)) (v := .int .i64 (x20889)) (by kernel_rfl) vt2 (Sl.cell F20311 hx20890 0 (by rfl)) ?_
                  refine wS_pure 4 [(8, .bool (x20889 == x20307)), (49, .bool (x20889 == x20307)), (48, .bool (x20889 == x20307)), (47, .int .i64 (x20307))] (by kernel_rfl) ?_
                  refine wS_end (by rfl) ?_
                  refine eX_then ?_
                  refine cW_prune [(0, .pointer (some ⟨b0, 0, none⟩)), (3, .slice A14053 (l14052).length cap14054), (4, .int .i64 (x14058)), (5, .slice A20302 (l20301).length cap20303), (6, .int .i64 (x18746)), (7, .int .i64 (x20307)), (8, .bool (x20889 == x20307))] (by kernel_rfl) (by kernel_rfl) (fun a20891 => ?_)
                  refine cW_seq ?_
                  refine cW_seq ?_
                  refine cW_region ?_
                  refine wS_pure 1 [(9, .int .i64 (0))] (by kernel_rfl) ?_
                  refine wS_end (by rfl) ?_
                  refine eX_then ?_
                  obtain ⟨r20971, hr20972, hm⟩ := bindE hm
                  have hm20973 := hm
                  refine cW_cut (fun a' w' => ∃ x20953 : Bool, x20953 = r20971 ∧ Fr 88 [(0, .pointer (some ⟨b0, 0, none⟩)), (3, .slice A14053 (l14052).length cap14054), (4, .int .i64 (x14058)), (5, .slice A20302 (l20301).length cap20303), (6, .int .i64 (x18746)), (7, .int .i64 (x20307)), (8, .bool (x20953))] a' ∧ SlR 1 encI w' fp0_1 A0_1 l0_1 ∧ SlR 1 encI w' fp0_2 A0_2 l0_2 ∧ Sl 1 encI w' fp0_3 A0_3 l0_3 ∧ Cl w' b0 27 [.int .i64 (q0_0), .slice A0_1 (l0_1).length cap0_1, .slice A0_2 (l0_2).length cap0_2, .slice A0_3 (l0_3).length cap0_3] ∧ OwR 1 encI 25 2 w' fp14055 fr14057 A14053 cap14054 l14052 ∧ OwR 1 encI 25 2 w' fp20304 fr20306 A20302 cap20303 l20301 ∧ Chg [] w0 w' ∧ w0.heap.size ≤ w'.heap.size) ?_ ?_
                  · refine cW_block ?_
                    refine cW_loop _ (fun (s20974 : Bool × Int) a' w' => ∃ x20962 : Bool, ∃ x20963 : Int, (x20962, x20963) = s20974 ∧ Fr 88 [(0, .pointer (some ⟨b0, 0, none⟩)), (3, .slice A14053 (l14052).length cap14054), (4, .int .i64 (x14058)), (5, .slice A20302 (l20301).length cap20303), (6, .int .i64 (x18746)), (7, .int .i64 (x20307)), (8, .bool (x20962)), (9, .int .i64 (x20963))] a' ∧ SlR 1 encI w' fp0_1 A0_1 l0_1 ∧ SlR 1 encI w' fp0_2 A0_2 l0_2 ∧ Sl 1 encI w' fp0_3 A0_3 l0_3 ∧ Cl w' b0 27 [.int .i64 (q0_0), .slice A0_1 (l0_1).length cap0_1, .slice A0_2 (l0_2).length cap0_2, .slice A0_3 (l0_3).length cap0_3] ∧ OwR 1 encI 25 2 w' fp14055 fr14057 A14053 cap14054 l14052 ∧ OwR 1 encI 25 2 w' fp20304 fr20306 A20302 cap20303 l20301 ∧ Chg [] w0 w' ∧ w0.heap.size ≤ w'.heap.size) hr20972 (fun hst => ⟨x20889 == x20307, 0, rfl, Fr.of hst (by kernel_rfl), F20309, F20310, F20311, F20312, F20313, F20314, hB, hZ⟩) ?_
                    rintro _ c20975 a' w20961 ⟨x20962, x20963, rfl, hF20964, F20965, F20966, F20967, F20968, F20969, F20970, hB, hZ⟩ hx20976
                    refine Fr.goOn hF20964 (by kernel_rfl) ?_
                    have hm := hx20976
                    unfold m_spec_l07All_bimplWiring_s121 at hm
                    refine cW_seq ?_
                    refine cW_seq ?_
                    refine cW_region ?_
                    refine wS_pure 3 [(52, .bool (decide (x20963 < x14058))), (51, .int .i64 (x14058)), (50, .int .i64 (x20963))] (by kernel_rfl) ?_
                    refine wS_end (by rfl) ?_
                    refine eX_then ?_
                    refine cW_cond (t := decide (x20963 < x14058)) (by kernel_rfl) (fun hb20977 => ?_) (fun hb20977 => ?_)
                    · have hm := condT hb20977 hm
                      refine cW_skip ?_
                      refine eX_then ?_
                      refine cW_seq ?_
                      refine cW_block ?_
                      refine cW_region ?_
                      refine wS_pure 2 [(56, .bool (x20962)), (55, .bool (x20962))] (by kernel_rfl) ?_
                      refine wS_bool x20962 (fun hb20978 => ?_) (fun hb20978 => ?_)
                      · have hm := condT hb20978 hm
                        subst hb20978
                        refine wS_pure 2 [(58, .int .i64 (x18746)), (57, .slice A14053 (l14052).length cap14054)] (by kernel_rfl) ?_
                        obtain ⟨x20979, hx20980, hm⟩ := bindE hm
                        refine wS_idx (d := 59) (T := 24) (A := A14053) (n := (l14052).length) (cap := cap14054) (kd := .i64) (m := x18746) (by kernel_rfl) sl24 ((F20969.slr encI_ok).is hx20980) ?_
                        obtain ⟨A20981, cap20982, hc20984, F20983, K20985⟩ := OwR.row F20969 encI_ok hx20980
                        have G20987 := low_inr G14065
                        have Dm20988 := (F20969.dj).symm
                        refine wS_load1 (d := 60) (T := 25) (ad := (elA A14053 1 (x18746) 0)) (v := .slice A20981 (x20979).length cap20982) (by kernel_rfl) vt25 hc20984 ?_
                        refine wS_pure 1 [(61, .int .i64 (x20963))] (by kernel_rfl) ?_
                        obtain ⟨x20989, hx20990, hm⟩ := bindE hm
                        refine wS_idx (d := 62) (T := 25) (A := A20981) (n := (x20979).length) (cap := cap20982) (kd := .i64) (m := x20963) (by kernel_rfl) sl25 (F20983.is hx20990) ?_
                        refine wS_load1 (d := 63) (T := 2) (ad := (elA A20981 1 (x20963) 0)) (v := .int .i64 (x20989)) (by kernel_rfl) vt2 (Sl.cell F20983 hx20990 0 (by rfl)) ?_
                        refine wS_pure 3 [(66, .bool (x20989 != x20307)), (65, .bool (x20989 != x20307)), (64, .int .i64 (x20307))] (by kernel_rfl) ?_
                        refine wS_bool (x20989 != x20307) (fun hb20991 => ?_) (fun hb20991 => ?_)
                        · have hm := condT hb20991 hm
                          rewrite [hb20991]
                          refine wS_pure 8 [(8, .bool (true)), (73, .bool (true)), (72, .bool (true)), (71, undef), (70, undef), (69, undef), (68, undef), (67, undef)] (by kernel_rfl) ?_
                          refine wS_end (by rfl) ?_
                          refine eX_block ?_
                          refine eX_then ?_
                          refine cW_prune [(0, .pointer (some ⟨b0, 0, none⟩)), (3, .slice A14053 (l14052).length cap14054), (4, .int .i64 (x14058)), (5, .slice A20302 (l20301).length cap20303), (6, .int .i64 (x18746)), (7, .int .i64 (x20307)), (8, .bool (true)), (9, .int .i64 (x20963))] (by kernel_rfl) (by kernel_rfl) (fun a20992 => ?_)
                          refine cW_region ?_
                          refine wS_pure 3 [(9, .int .i64 (wr (x20963 + 1))), (54, .int .i64 (wr (x20963 + 1))), (53, .int .i64 (x20963))] (by kernel_rfl) ?_
                          refine wS_end (by rfl) ?_
                          have hq : (some (Ctl.next ((true, wr (x20963 + 1)))) : Option (Ctl (Bool × Int) (Bool))) = some _ := hm
                          replace hq := someE hq
                          subst hq
                          exact eX_next hx20976 (fun hst => ⟨true, wr (x20963 + 1), rfl, Fr.of hst (by kernel_rfl), F20965, F20966, F20967, F20968, F20969, F20970, hB, hZ⟩)
                        · have hm := condF hb20991 hm
                          rewrite [hb20991]
                          refine wS_pure 3 [(69, .int .i64 (x14058)), (68, .int .i64 (x20963)), (67, .pointer (some ⟨b0, 0, none⟩))] (by kernel_rfl) ?_
                          obtain ⟨y20993, hy20994, hm⟩ := bindE hm
                          refine wS_calls (d := 70) (f := 120) (vs := [.pointer (some ⟨b0, 0, none⟩), .int .i64 (x20963), .int .i64 (x14058)]) (by kernel_rfl) ent120 (c_spec_l07Cross_bimplWiring hy20994 F20965 F20966 F20967 F20968) ?_
                          rintro _ w20995 ⟨rfl, hc20996⟩
                          replace F20965 := F20965.chg hc20996 Dj.nil
                          replace F20966 := F20966.chg hc20996 Dj.nil
                          replace F20967 := F20967.chg hc20996 Dj.nil
                          replace F20968 := F20968.chg hc20996 notNil
                          replace F20969 := F20969.chg hc20996 Dj.nil
                          replace F20970 := F20970.chg hc20996 Dj.nil
                          replace F20983 := F20983.chg hc20996 Dj.nil
                          replace hB := hB.inS hc20996 inNil
                          replace hZ := Nat.le_trans hZ hc20996.size
                          refine ⟨.bool (y20993), rfl, ?_⟩
                          refine wS_pure 4 [(8, .bool (!y20993)), (73, .bool (!y20993)), (72, .bool (!y20993)), (71, .bool (!y20993))] (by kernel_rfl) ?_
                          refine wS_end (by rfl) ?_
                          refine eX_block ?_
                          refine eX_then ?_
                          refine cW_prune [(0, .pointer (some ⟨b0, 0, none⟩)), (3, .slice A14053 (l14052).length cap14054), (4, .int .i64 (x14058)), (5, .slice A20302 (l20301).length cap20303), (6, .int .i64 (x18746)), (7, .int .i64 (x20307)), (8, .bool (!y20993)), (9, .int .i64 (x20963))] (by kernel_rfl) (by kernel_rfl) (fun a20997 => ?_)
                          refine cW_region ?_
                          refine wS_pure 3 [(9, .int .i64 (wr (x20963 + 1))), (54, .int .i64 (wr (x20963 + 1))), (53, .int .i64 (x20963))] (by kernel_rfl) ?_
                          refine wS_end (by rfl) ?_
                          have hq : (some (Ctl.next ((!y20993, wr (x20963 + 1)))) : Option (Ctl (Bool × Int) (Bool))) = some _ := hm
                          replace hq := someE hq
                          subst hq
                          exact eX_next hx20976 (fun hst => ⟨!y20993, wr (x20963 + 1), rfl, Fr.of hst (by kernel_rfl), F20965, F20966, F20967, F20968, F20969, F20970, hB, hZ⟩)
                      · have hm := condF hb20978 hm
                        subst hb20978
                        refine wS_pure 18 [(8, .bool (false)), (73, .bool (false)), (72, undef), (71, undef), (70, undef), (69, undef), (68, undef), (67, undef), (66, undef), (65, undef), (64, undef), (63, undef), (62, undef), (61, undef), (60, undef), (59, undef), (58, undef), (57, undef)] (by kernel_rfl) ?_
                        refine wS_end (by rfl) ?_
                        refine eX_block ?_
                        refine eX_then ?_
                        refine cW_prune [(0, .pointer (some ⟨b0, 0, none⟩)), (3, .slice A14053 (l14052).length cap14054), (4, .int .i64 (x14058)), (5, .slice A20302 (l20301).length cap20303), (6, .int .i64 (x18746)), (7, .int .i64 (x20307)), (8, .bool (false)), (9, .int .i64 (x20963))] (by kernel_rfl) (by kernel_rfl) (fun a20998 => ?_)
                        refine cW_region ?_
                        refine wS_pure 3 [(9, .int .i64 (wr (x20963 + 1))), (54, .int .i64 (wr (x20963 + 1))), (53, .int .i64 (x20963))] (by kernel_rfl) ?_
                        refine wS_end (by rfl) ?_
                        have hq : (some (Ctl.next ((false, wr (x20963 + 1)))) : Option (Ctl (Bool × Int) (Bool))) = some _ := hm
                        replace hq := someE hq
                        subst hq
                        exact eX_next hx20976 (fun hst => ⟨false, wr (x20963 + 1), rfl, Fr.of hst (by kernel_rfl), F20965, F20966, F20967, F20968, F20969, F20970, hB, hZ⟩)
                    · have hm := condF hb20977 hm
                      refine cW_exit ?_
                      refine eX_then_exit ?_
                      have hq : (some (Ctl.out x20962) : Option (Ctl (Bool × Int) (Bool))) = some _ := hm
                      replace hq := someE hq
                      subst hq
                      refine eX_outX hx20976 (fun hr20999 => ?_)
                      replace hr20999 := hr20999.symm
                      subst hr20999
                      refine eX_block_hit ?_
                      exact eX_J (fun hst => ⟨x20962, rfl, Fr.of hst (by kernel_rfl), F20965, F20966, F20967, F20968, F20969, F20970, hB, hZ⟩)
                  · rintro a' w20952 ⟨x20953, hJ, hF20954, F20955, F20956, F20957, F20958, F20959, F20960, hB, hZ⟩
                    subst hJ
                    refine Fr.goX hF20954 (by kernel_rfl) ?_
                    refine eX_then ?_
                    refine cW_seq ?_
                    refine cW_region ?_
                    refine wS_pure 1 [(74, .bool (x20953))] (by kernel_rfl) ?_
                    refine wS_end (by rfl) ?_
                    refine eX_then ?_
                    refine cW_cond (t := x20953) (by kernel_rfl) (fun hb21000 => ?_) (fun hb21000 => ?_)
                    · have hm := condT hb21000 hm
                      refine cW_region ?_
                      refine wS_pure 3 [(77, .int .i64 (x18746)), (76, .slice A14053 (l14052).length cap14054), (75, .slice A20302 (l20301).length cap20303)] (by kernel_rfl) ?_
                      obtain ⟨x21001, hx21002, hm⟩ := bindE hm
                      refine wS_idx (d := 78) (T := 24) (A := A14053) (n := (l14052).length) (cap := cap14054) (kd := .i64) (m := x18746) (by kernel_rfl) sl24 ((F20959.slr encI_ok).is hx21002) ?_
                      obtain ⟨A21003, cap21004, hc21006, F21005, K21007⟩ := OwR.row F20959 encI_ok hx21002
                      have G21009 := low_inr G14065
                      have Dm21010 := (F20959.dj).symm
                      refine wS_load1 (d := 79) (T := 25) (ad := (elA A14053 1 (x18746) 0)) (v := .slice A21003 (x21001).length cap21004) (by kernel_rfl) vt25 hc21006 ?_
                      obtain ⟨y21011, hy21012, hm⟩ := bindE hm
                      refine wS_calls (d := 80) (f := 88) (vs := [.slice A21003 (x21001).length cap21004]) (by kernel_rfl) ent88 (c_spec_l00Own hy21012 F21005) ?_
                      rintro _ w21013 ⟨A21015, cap21016, fp21017, rfl, F21018, G21019, hc21014⟩
                      have D21022 : Dj (fp14055 ++ fr14057) fp21017 := Dj.of F20959.low G21019
                      have D21023 : Dj (fp20304 ++ fr20306) fp21017 := Dj.of F20960.low G21019
                      have D21024 : Dj fr14057 fp21017 := Dj.of F21005.low G21019
                      replace F20955 := F20955.chg hc21014 Dj.nil
                      replace F20956 := F20956.chg hc21014 Dj.nil
                      replace F20957 := F20957.chg hc21014 Dj.nil
                      replace F20958 := F20958.chg hc21014 notNil
                      replace F20959 := F20959.chg hc21014 Dj.nil
                      replace F20960 := F20960.chg hc21014 Dj.nil
                      replace F21005 := F21005.chg hc21014 Dj.nil
                      replace hB := hB.inS hc21014 inNil
                      replace G21019 := low_le hZ G21019
                      replace hZ := Nat.le_trans hZ hc21014.size
                      refine ⟨.slice A21015 (y21011).length cap21016, rfl, ?_⟩
                      refine wS_pure 1 [(81, .int .i64 (x20307))] (by kernel_rfl) ?_
                      refine wS_bs (enc := encI) ([x20307] : List (Int)) [.int .i64 (x20307)] (d := 82) (t := 25) (T := 2) (n := 1) (ps := [(0, .int .i64 (x20307))]) (by kernel_rfl) el25 encI_ok (by rfl) (by omega) (by omega) (by kernel_rfl) (by rfl) ?_
                      intro b21025 w21026 G21027 F21028 hc21029
                      have D21031 : Dj (fp14055 ++ fr14057) [b21025] := Dj.of F20959.low (low1 G21027)
                      have D21032 : Dj (fp20304 ++ fr20306) [b21025] := Dj.of F20960.low (low1 G21027)
                      have D21033 : Dj fr14057 [b21025] := Dj.of F21005.low (low1 G21027)
                      have D21034 : Dj fp21017 [b21025] := Dj.of F21018.low (low1 G21027)
                      replace F20955 := F20955.chg hc21029 Dj.nil
                      replace F20956 := F20956.chg hc21029 Dj.nil
                      replace F20957 := F20957.chg hc21029 Dj.nil
                      replace F20958 := F20958.chg hc21029 notNil
                      replace F20959 := F20959.chg hc21029 Dj.nil
                      replace F20960 := F20960.chg hc21029 Dj.nil
                      replace F21005 := F21005.chg hc21029 Dj.nil
                      replace F21018 := F21018.chg hc21029 Dj.nil
                      replace hB := hB.inS hc21029 inNil
                      replace G21027 := Nat.le_trans hZ G21027
                      replace G21027 := low1 G21027
                      replace hZ := Nat.le_trans hZ hc21029.size
                      obtain ⟨_, hk21035, hm⟩ := bindE hm
                      replace hk21035 := apE hk21035
                      refine wS_append (enc := encI) (l := (y21011 : List (Int))) (l2 := (([x20307] : List (Int)) : List (Int))) (d := 83) (t := 25) (T := 2) (A := A21015) (A2 := (some ⟨b21025, 0, none⟩)) (cap := cap21016) (cap2 := 1) (by kernel_rfl) el25 encI_ok F21018 (F21028.sl encI_ok) (by rfl) hk21035 ?_
                      intro w21036 fp21037 A21038 cap21039 F21040 hc21041 hp21042
                      have G21044 := low_ap G21019 hZ hp21042
                      have D21045 : Dj (fp14055 ++ fr14057) fp21037 := Dj.ap D21022 F20959.low hp21042
                      have D21046 : Dj (fp20304 ++ fr20306) fp21037 := Dj.ap D21023 F20960.low hp21042
                      have D21047 : Dj fr14057 fp21037 := Dj.ap D21024 F21005.low hp21042
                      have D21048 : Dj [b21025] fp21037 := Dj.ap (D21034).symm F21028.low hp21042
                      replace F20955 := F20955.chg hc21041 (Dj.of L0_1 G21019)
                      replace F20956 := F20956.chg hc21041 (Dj.of L0_2 G21019)
                      replace F20957 := F20957.chg hc21041 (Dj.of L0_3 G21019)
                      replace F20958 := F20958.chg hc21041 (dj1 (Dj.of L0 G21019))
                      replace F20959 := F20959.chg hc21041 D21022
                      replace F20960 := F20960.chg hc21041 D21023
                      replace F21005 := F21005.chg hc21041 D21024
                      replace F21028 := F21028.chg hc21041 (D21034).symm
                      replace hB := hB.inS hc21041 (inLow G21019)
                      replace hZ := Nat.le_trans hZ hc21041.size
                      refine wS_row1 (k := 1) (enc := encI) (l := y21011 ++ (([x20307] : List (Int)))) (d := 84) (t := 24) (T := 25) (B := A21038) (c := cap21039) (by kernel_rfl) el24 F21040 ?_
                      intro b21049 w21050 G21051 F21052 hc21053
                      have D21055 : Dj (fp14055 ++ fr14057) ([b21049] ++ fp21037) := Dj.app (Dj.of F20959.low (low1 G21051)) D21045
                      have D21056 : Dj (fp20304 ++ fr20306) ([b21049] ++ fp21037) := Dj.app (Dj.of F20960.low (low1 G21051)) D21046
                      have D21057 : Dj fr14057 ([b21049] ++ fp21037) := Dj.app (Dj.of F21005.low (low1 G21051)) D21047
                      have D21058 : Dj [b21025] ([b21049] ++ fp21037) := Dj.app (Dj.of F21028.low (low1 G21051)) D21048
                      replace F20955 := F20955.chg hc21053 Dj.nil
                      replace F20956 := F20956.chg hc21053 Dj.nil
                      replace F20957 := F20957.chg hc21053 Dj.nil
                      replace F20958 := F20958.chg hc21053 notNil
                      replace F20959 := F20959.chg hc21053 Dj.nil
                      replace F20960 := F20960.chg hc21053 Dj.nil
                      replace F21005 := F21005.chg hc21053 Dj.nil
                      replace F21028 := F21028.chg hc21053 Dj.nil
                      replace F21040 := F21040.chg hc21053 Dj.nil
                      replace hB := hB.inS hc21053 inNil
                      replace G21051 := Nat.le_trans hZ G21051
                      replace G21051 := lowApp (low1 G21051) G21044
                      replace hZ := Nat.le_trans hZ hc21053.size
                      replace F21040 := (F21040.sl encI_ok)
                      obtain ⟨_, hk21059, hm⟩ := bindE hm
                      replace hk21059 := apE hk21059
                      refine wS_appendR (k := 1) (enc := encI) (ll := (l20301 : List (List (Int)))) (ll2 := (([y21011 ++ (([x20307] : List (Int)))] : List (List (Int))) : List (List (Int)))) (d := 85) (t := 24) (T := 25) (A := A20302) (A2 := (some ⟨b21049, 0, none⟩)) (cap := cap20303) (cap2 := 1) (by kernel_rfl) el24 F20960 F21052 (by rfl) D21056 hk21059 ?_
                      intro w21060 fp21061 A21062 cap21063 F21064 hc21065 hp21066
                      have G21068 := lowApp (low_ap (low_inl G20315) hZ hp21066) (lowApp (low_inr G20315) (low_inr G21051))
                      have D21069 : Dj (fp14055 ++ fr14057) (fp21061 ++ (fr20306 ++ fp21037)) := Dj.app (Dj.ap (Dj.inl D20316) F20959.low hp21066) (Dj.app (Dj.inr D20316) (Dj.inr D21055))
                      have D21070 : Dj fr14057 (fp21061 ++ (fr20306 ++ fp21037)) := Dj.app (Dj.ap (Dj.inl ((Dj.inr (D20316).symm)).symm) F21005.low hp21066) (Dj.app (Dj.inr ((Dj.inr (D20316).symm)).symm) (Dj.inr D21057))
                      have D21071 : Dj [b21025] (fp21061 ++ (fr20306 ++ fp21037)) := Dj.app (Dj.ap (Dj.inl (D21032).symm) F21028.low hp21066) (Dj.app (Dj.inr (D21032).symm) (Dj.inr D21058))
                      replace F20955 := F20955.chg hc21065 (Dj.inl (Dj.of L0_1 G20315))
                      replace F20956 := F20956.chg hc21065 (Dj.inl (Dj.of L0_2 G20315))
                      replace F20957 := F20957.chg hc21065 (Dj.inl (Dj.of L0_3 G20315))
                      replace F20958 := F20958.chg hc21065 (dj1 (Dj.inl (Dj.of L0 G20315)))
                      replace F20959 := F20959.chg hc21065 (Dj.inl D20316)
                      replace F21005 := F21005.chg hc21065 (Dj.inl ((Dj.inr (D20316).symm)).symm)
                      replace F21028 := F21028.chg hc21065 (Dj.inl (D21032).symm)
                      replace hB := hB.inS hc21065 (memS_inl (inLow G20315))
                      replace hZ := Nat.le_trans hZ hc21065.size
                      refine wS_pure 1 [(5, .slice A21062 (l20301 ++ (([y21011 ++ (([x20307] : List (Int)))] : List (List (Int))))).length cap21063)] (by kernel_rfl) ?_
                      refine wS_end (by rfl) ?_
                      have hq : (some (l20301 ++ (([y21011 ++ (([x20307] : List (Int)))] : List (List (Int))))) : Option ((List (List (Int))))) = some _ := hm
                      replace hq := someE hq
                      subst hq
                      exact eX_J (fun hst => ⟨l20301 ++ (([y21011 ++ (([x20307] : List (Int)))] : List (List (Int)))), A21062, cap21063, fp21061, (fr20306 ++ fp21037), rfl, Fr.of hst (by kernel_rfl), F20955, F20956, F20957, F20958, F20959, F21064, G21068, D21069, hB, hZ⟩)
                    · have hm := condF hb21000 hm
                      refine cW_skip ?_
                      have hq : (some l20301 : Option ((List (List (Int))))) = some _ := hm
                      replace hq := someE hq
                      subst hq
                      exact eX_J (fun hst => ⟨l20301, A20302, cap20303, fp20304, fr20306, rfl, Fr.of hst (by kernel_rfl), F20955, F20956, F20957, F20958, F20959, F20960, G20315, D20316, hB, hZ⟩)
              · rintro a' w20689 ⟨l20690, A20691, cap20692, fp20693, fr20695, hJ, hF20696, F20697, F20698, F20699, F20700, F20701, F20702, G20703, D20704, hB, hZ⟩
                subst hJ
                refine Fr.goX hF20696 (by kernel_rfl) ?_
                refine eX_block ?_
                refine eX_then ?_
                refine cW_region ?_
                refine wS_pure 3 [(7, .int .i64 (wr (x20307 + 1))), (30, .int .i64 (wr (x20307 + 1))), (29, .int .i64 (x20307))] (by kernel_rfl) ?_
                refine wS_end (by rfl) ?_
                have hq : (some (Ctl.next ((l20690, wr (x20307 + 1)))) : Option (Ctl ((List (List (Int))) × Int) ((List (List (Int)))))) = some _ := hm
                replace hq := someE hq
                subst hq
                exact eX_next hx20322 (fun hst => ⟨l20690, A20691, cap20692, fp20693, fr20695, wr (x20307 + 1), rfl, Fr.of hst (by kernel_rfl), F20697, F20698, F20699, F20700, F20701, F20702, G20703, D20704, hB, hZ⟩)
            · have hm := condF hb20323 hm
              refine cW_exit ?_
              refine eX_then_exit ?_
              have hq : (some (Ctl.out l20301) : Option (Ctl ((List (List (Int))) × Int) ((List (List (Int)))))) = some _ := hm
              replace hq := someE hq
              subst hq
              refine eX_outX hx20322 (fun hr21072 => ?_)
              replace hr21072 := hr21072.symm
              subst hr21072
              refine eX_block_hit ?_
              exact eX_J (fun hst => ⟨l20301, A20302, cap20303, fp20304, fr20306, rfl, Fr.of hst (by kernel_rfl), F20309, F20310, F20311, F20312, F20313, F20314, G20315, D20316, hB, hZ⟩)
          · rintro a' w20284 ⟨l20285, A20286, cap20287, fp20288, fr20290, hJ, hF20291, F20292, F20293, F20294, F20295, F20296, F20297, G20298, D20299, hB, hZ⟩
            subst hJ
            refine Fr.goX hF20291 (by kernel_rfl) ?_
            refine eX_block ?_
            refine eX_then ?_
            refine cW_region ?_
            refine wS_pure 3 [(6, .int .i64 (wr (x18746 + 1))), (26, .int .i64 (wr (x18746 + 1))), (25, .int .i64 (x18746))] (by kernel_rfl) ?_
            refine wS_end (by rfl) ?_
            have hq : (some (Ctl.next ((l20285, wr (x18746 + 1)))) : Option (Ctl ((List (List (Int))) × Int) ((List (List (Int)))))) = some _ := hm
            replace hq := someE hq
            subst hq
            exact eX_next hx18761 (fun hst => ⟨l20285, A20286, cap20287, fp20288, fr20290, wr (x18746 + 1), rfl, Fr.of hst (by kernel_rfl), F20292, F20293, F20294, F20295, F20296, F20297, G20298, D20299, hB, hZ⟩)
        · have hm := condF hb18762 hm
          refine cW_exit ?_
          refine eX_then_exit ?_
          have hq : (some (Ctl.out l18740) : Option (Ctl ((List (List (Int))) × Int) ((List (List (Int)))))) = some _ := hm
          replace hq := someE hq
          subst hq
          refine eX_outX hx18761 (fun hr21073 => ?_)
          replace hr21073 := hr21073.symm
          subst hr21073
          refine eX_block_hit ?_
          exact eX_J (fun hst => ⟨l18740, A18741, cap18742, fp18743, fr18745, rfl, Fr.of hst (by kernel_rfl), F18748, F18749, F18750, F18751, F18753, G18754, hB, hZ⟩)
      · rintro a' w18725 ⟨l18726, A18727, cap18728, fp18729, fr18731, hJ, hF18732, F18733, F18734, F18735, F18736, F18737, G18738, hB, hZ⟩
        subst hJ
        refine Fr.goX hF18732 (by kernel_rfl) ?_
        refine eX_then ?_
        refine cW_region ?_
        refine wS_pure 2 [(3, .slice A18727 (l18726).length cap18728), (86, .slice A18727 (l18726).length cap18728)] (by kernel_rfl) ?_
        refine wS_end (by rfl) ?_
        refine eX_block ?_
        refine eX_then ?_
        refine cW_region ?_
        refine wS_pure 3 [(4, .int .i64 (wr (x14058 + 1))), (19, .int .i64 (wr (x14058 + 1))), (18, .int .i64 (x14058))] (by kernel_rfl) ?_
        refine wS_end (by rfl) ?_
        have hq : (some (Ctl.next ((l18726, wr (x14058 + 1)))) : Option (Ctl ((List (List (Int))) × Int) ((List (List (Int)))))) = some _ := hm
        replace hq := someE hq
        subst hq
        exact eX_next hx14071 (fun hst => ⟨l18726, A18727, cap18728, fp18729, fr18731, wr (x14058 + 1), rfl, Fr.of hst (by kernel_rfl), F18733, F18734, F18735, F18736, F18737, G18738, hB, hZ⟩)
    · have hm := condF hb14072 hm
      refine cW_exit ?_
      refine eX_then_exit ?_
      have hq : (some (Ctl.out l14052) : Option (Ctl ((List (List (Int))) × Int) ((List (List (Int)))))) = some _ := hm
      replace hq := someE hq
      subst hq
      refine eX_outX hx14071 (fun hr21074 => ?_)
      replace hr21074 := hr21074.symm
      subst hr21074
      refine eX_block_hit ?_
      exact eX_J (fun hst => ⟨l14052, A14053, cap14054, fp14055, fr14057, rfl, Fr.of hst (by kernel_rfl), F14064, G14065, hB, hZ⟩)
  · rintro a' w14041 ⟨l14042, A14043, cap14044, fp14045, fr14047, hJ, hF14048, F14049, G14050, hB, hZ⟩
    subst hJ
    refine Fr.goX hF14048 (by kernel_rfl) ?_
    refine eX_then ?_
    refine cW_seq ?_
    refine cW_region ?_
    refine wS_pure 2 [(2, .slice A14043 (l14042).length cap14044), (87, .slice A14043 (l14042).length cap14044)] (by kernel_rfl) ?_
    refine wS_end (by rfl) ?_
    refine eX_then ?_
    refine cW_ret ?_
    have hq : (some l14042 : Option ((List (List (Int))))) = some _ := hm
    replace hq := someE hq
    subst hq
    refine eX_ret (vs := [.slice A14043 (l14042).length cap14044]) [.tmp 2] (by rfl) ⟨by (show lkE _ _ _ = _); kernel_rfl, trivial⟩ ?_
    exact ⟨A14043, cap14044, fp14045, fr14047, rfl, F14049, G14050, hB⟩

set_option maxRecDepth 100000 in
/-- laws.toInt64S -/
theorem c_laws_toInt64S {w0 : World} {l0 : List (Int)} {A0 : Option Addr} {cap0 : Nat} {fp0 : List Nat} {r : (List (Int))} (hm : m_laws_toInt64S l0 = some r) (F0 : Sl 1 encI w0 fp0 A0 l0) :
    Calls Try.prog 50 #[.slice A0 (l0).length cap0] w0 fun e w' => ∃ A100 cap100 fp100, e = .returned (.slice A100 (r).length cap100) ∧ Ow 1 encI 2 w' fp100 A100 cap100 r ∧ (∀ x ∈ fp100, w0.heap.size ≤ x) ∧ Chg [] w0 w' := by
  have L0 := F0.low
  have hB : Chg [] w0 w0 := Chg.refl _ _
  have hZ := Nat.le_refl w0.heap.size
  unfold m_laws_toInt64S at hm
  refine enterE (N := 22) Try.func50 (by rfl) Try.ntmps50 (by simp) [(0, .slice A0 (l0).length cap0)] (by rfl) (by kernel_rfl) (fun a => ?_)
  refine cW_seq ?_
  refine cW_region ?_
  refine wS_pure 1 [(2, .slice none 0 0)] (by kernel_rfl) ?_
  refine wS_end (by rfl) ?_
  refine eX_then ?_
  refine cW_seq ?_
  refine cW_region ?_
  refine wS_pure 2 [(6, .int .i64 (((l0).length : Int))), (5, .slice A0 (l0).length cap0)] (by kernel_rfl) ?_
  obtain ⟨_, hk2, hm⟩ := bindE hm
  replace hk2 := mkE hk2
  refine wS_make (enc := encI) (x0 := (0 : Int)) (d := 7) (t := 25) (T := 2) (k1 := .i64) (k2 := .i64) (m := ((l0).length : Int)) (by kernel_rfl) el25 encI_ok (by rfl) hk2.1 hk2.2 ?_
  intro b3 w4 G5 F6 hc7
  replace F0 := F0.chg hc7 Dj.nil
  replace hB := hB.inS hc7 inNil
  replace G5 := Nat.le_trans hZ G5
  replace G5 := low1 G5
  replace hZ := Nat.le_trans hZ hc7.size
  refine wS_pure 1 [(3, .slice (some ⟨b3, 0, none⟩) (List.replicate (Int.toNat (((l0).length : Int))) ((0 : Int))).length (Int.toNat (((l0).length : Int))))] (by kernel_rfl) ?_
  refine wS_end (by rfl) ?_
  refine eX_then ?_
  refine cW_seq ?_
  refine cW_seq ?_
  refine cW_region ?_
  refine wS_pure 1 [(4, .int .i64 (0))] (by kernel_rfl) ?_
  refine wS_end (by rfl) ?_
  refine eX_then ?_
  obtain ⟨r43, hr44, hm⟩ := bindE hm
  have hm45 := hm
  refine cW_cut (fun a' w' => ∃ l34 : List (Int), l34 = r43 ∧ Fr 22 [(3, .slice (some ⟨b3, 0, none⟩) (l34).length (Int.toNat (((l0).length : Int))))] a' ∧ Ow 1 encI 2 w' [b3] (some ⟨b3, 0, none⟩) (Int.toNat (((l0).length : Int))) l34 ∧ Chg [] w0 w' ∧ w0.heap.size ≤ w'.heap.size) ?_ ?_
  · refine cW_block ?_
    refine cW_loop _ (fun (s46 : Int × (List (Int))) a' w' => ∃ x38 : Int, ∃ l39 : List (Int), (x38, l39) = s46 ∧ Fr 22 [(0, .slice A0 (l0).length cap0), (3, .slice (some ⟨b3, 0, none⟩) (l39).length (Int.toNat (((l0).length : Int)))), (4, .int .i64 (x38))] a' ∧ Sl 1 encI w' fp0 A0 l0 ∧ Ow 1 encI 2 w' [b3] (some ⟨b3, 0, none⟩) (Int.toNat (((l0).length : Int))) l39 ∧ Chg [] w0 w' ∧ w0.heap.size ≤ w'.heap.size) hr44 (fun hst => ⟨0, List.replicate (Int.toNat (((l0).length : Int))) ((0 : Int)), rfl, Fr.of hst (by kernel_rfl), F0, F6, hB, hZ⟩) ?_
    rintro _ c47 a' w37 ⟨x38, l39, rfl, hF40, F41, F42, hB, hZ⟩ hx48
    refine Fr.goOn hF40 (by kernel_rfl) ?_
    have hm := hx48
    unfold m_laws_toInt64S_s1 at hm
    refine cW_seq ?_
    refine cW_seq ?_
    refine cW_region ?_
    refine wS_pure 4 [(11, .bool (decide (x38 < (((l0).length : Int))))), (10, .int .i64 (((l0).length : Int))), (9, .slice A0 (l0).length cap0), (8, .int .i64 (x38))] (by kernel_rfl) ?_
    refine wS_end (by rfl) ?_
    refine eX_then ?_
    refine cW_cond (t := decide (x38 < (((l0).length : Int)))) (by kernel_rfl) (fun hb49 => ?_) (fun hb49 => ?_)
    · have hm := condT hb49 hm
      refine cW_skip ?_
      refine eX_then ?_
      refine cW_seq ?_
      refine cW_block ?_
      refine cW_region ?_
      refine wS_pure 4 [(17, .int .i64 (x38)), (16, .slice A0 (l0).length cap0), (15, .int .i64 (x38)), (14, .slice (some ⟨b3, 0, none⟩) (l39).length (Int.toNat (((l0).length : Int))))] (by kernel_rfl) ?_
      obtain ⟨x50, hx51, hm⟩ := bindE hm
      refine wS_idx (d := 18) (T := 25) (A := A0) (n := (l0).length) (cap := cap0) (kd := .i64) (m := x38) (by kernel_rfl) sl25 (F41.is hx51) ?_
      refine wS_load1 (d := 19) (T := 2) (ad := (elA A0 1 (x38) 0)) (v := .int .i64 (x50)) (by kernel_rfl) vt2 (Sl.cell F41 hx51 0 (by rfl)) ?_
      obtain ⟨x52, hx53, hm⟩ := bindE hm
      refine wS_idx (d := 20) (T := 25) (A := (some ⟨b3, 0, none⟩)) (n := (l39).length) (cap := (Int.toNat (((l0).length : Int)))) (kd := .i64) (m := x38) (by kernel_rfl) sl25 ((F42.sl encI_ok).is hx53) ?_
      refine wS_storeEl (x := x52) x50 (T := 2) (U := 2) (cap := (Int.toNat (((l0).length : Int)))) (j := 0) (A := (some ⟨b3, 0, none⟩)) (v := .int .i64 (x50)) (vs := [.int .i64 (x50)]) (m := x38) (by kernel_rfl) (by rfl) sz2 (by rfl) encI_ok F42 hx53 (by simp only [List.length_cons, List.length_nil]; omega) (by rfl) ?_
      intro w54 F55 hc56
      replace F41 := F41.chg hc56 (Dj.of L0 G5)
      replace hB := hB.inS hc56 (inLow G5)
      replace hZ := Nat.le_trans hZ hc56.size
      clear F42
      rewrite [show (l39).length = (l39.set (Int.toNat x38) x50).length from (List.length_set ..).symm]
      refine wS_end (by rfl) ?_
      refine eX_block ?_
      refine eX_then ?_
      refine cW_region ?_
      refine wS_pure 3 [(4, .int .i64 (wr (x38 + 1))), (13, .int .i64 (wr (x38 + 1))), (12, .int .i64 (x38))] (by kernel_rfl) ?_
      refine wS_end (by rfl) ?_
      have hq : (some (Ctl.next ((wr (x38 + 1), l39.set (Int.toNat x38) x50))) : Option (Ctl (Int × (List (Int))) ((List (Int))))) = some _ := hm
      replace hq := someE hq
      subst hq
      exact eX_next hx48 (fun hst => ⟨wr (x38 + 1), l39.set (Int.toNat x38) x50, rfl, Fr.of hst (by kernel_rfl), F41, F55, hB, hZ⟩)
    · have hm := condF hb49 hm
      refine cW_exit ?_
      refine eX_then_exit ?_
      have hq : (some (Ctl.out l39) : Option (Ctl (Int × (List (Int))) ((List (Int))))) = some _ := hm
      replace hq := someE hq
      subst hq
      refine eX_outX hx48 (fun hr57 => ?_)
      replace hr57 := hr57.symm
      subst hr57
      refine eX_block_hit ?_
      exact eX_J (fun hst => ⟨l39, rfl, Fr.of hst (by kernel_rfl), F42, hB, hZ⟩)
  · rintro a' w33 ⟨l34, hJ, hF35, F36, hB, hZ⟩
    subst hJ
    refine Fr.goX hF35 (by kernel_rfl) ?_
    refine eX_then ?_
    refine cW_seq ?_
    refine cW_region ?_
    refine wS_pure 2 [(2, .slice (some ⟨b3, 0, none⟩) (l34).length (Int.toNat (((l0).length : Int)))), (21, .slice (some ⟨b3, 0, none⟩) (l34).length (Int.toNat (((l0).length : Int))))] (by kernel_rfl) ?_
    refine wS_end (by rfl) ?_
    refine eX_then ?_
    refine cW_ret ?_
    have hq : (some l34 : Option ((List (Int)))) = some _ := hm
    replace hq := someE hq
    subst hq
    refine eX_ret (vs := [.slice (some ⟨b3, 0, none⟩) (l34).length (Int.toNat (((l0).length : Int)))]) [.tmp 2] (by rfl) ⟨by (show lkE _ _ _ = _); kernel_rfl, trivial⟩ ?_
    exact ⟨(some ⟨b3, 0, none⟩), (Int.toNat (((l0).length : Int))), [b3], rfl, F36, G5, hB⟩

set_option maxRecDepth 100000 in
/-- laws.toInt64SS -/
theorem c_laws_toInt64SS {w0 : World} {l0 : List (List (Int))} {A0 : Option Addr} {cap0 : Nat} {fp0 : List Nat} {r : (List (List (Int)))} (hm : m_laws_toInt64SS l0 = some r) (F0 : SlR 1 encI w0 fp0 A0 l0) :
    Calls Try.prog 83 #[.slice A0 (l0).length cap0] w0 fun e w' => ∃ A100 cap100 fp100 fr100, e = .returned (.slice A100 (r).length cap100) ∧ OwR 1 encI 25 2 w' fp100 fr100 A100 cap100 r ∧ (∀ x ∈ fp100 ++ fr100, w0.heap.size ≤ x) ∧ Chg [] w0 w' := by
  have L0 := F0.low
  have hB : Chg [] w0 w0 := Chg.refl _ _
  have hZ := Nat.le_refl w0.heap.size
  unfold m_laws_toInt64SS at hm
  refine enterE (N := 23) Try.func83 (by rfl) Try.ntmps83 (by simp) [(0, .slice A0 (l0).length cap0)] (by rfl) (by kernel_rfl) (fun a => ?_)
  refine cW_seq ?_
  refine cW_region ?_
  refine wS_pure 1 [(2, .slice none 0 0)] (by kernel_rfl) ?_
  refine wS_end (by rfl) ?_
  refine eX_then ?_
  refine cW_seq ?_
  refine cW_region ?_
  refine wS_pure 2 [(6, .int .i64 (((l0).length : Int))), (5, .slice A0 (l0).length cap0)] (by kernel_rfl) ?_
  obtain ⟨_, hk2, hm⟩ := bindE hm
  replace hk2 := mkE hk2
  refine wS_makeR (T2 := 2) (k := 1) (enc := encI) (d := 7) (t := 24) (T := 25) (k1 := .i64) (k2 := .i64) (m := ((l0).length : Int)) (by kernel_rfl) el24 hk2.1 hk2.2 ?_
  intro b3 w4 G5 F6 hc7
  replace F0 := F0.chg hc7 Dj.nil
  replace hB := hB.inS hc7 inNil
  replace G5 := Nat.le_trans hZ G5
  replace G5 := low1 G5
  replace hZ := Nat.le_trans hZ hc7.size
  replace G5 := lowApp G5 lowNil
  refine wS_pure 1 [(3, .slice (some ⟨b3, 0, none⟩) (List.replicate (Int.toNat (((l0).length : Int))) ([] : List (Int))).length (Int.toNat (((l0).length : Int))))] (by kernel_rfl) ?_
  refine wS_end (by rfl) ?_
  refine eX_then ?_
  refine cW_seq ?_
  refine cW_seq ?_
  refine cW_region ?_
  refine wS_pure 1 [(4, .int .i64 (0))] (by kernel_rfl) ?_
  refine wS_end (by rfl) ?_
  refine eX_then ?_
  obtain ⟨r109, hr110, hm⟩ := bindE hm
  have hm111 := hm
  refine cW_cut (fun a' w' => ∃ l88 : List (List (Int)), ∃ A89 : Option Addr, ∃ cap90 : Nat, ∃ fp91 : List Nat, ∃ fr93 : List Nat, l88 = r109 ∧ Fr 23 [(3, .slice A89 (l88).length cap90)] a' ∧ OwR 1 encI 25 2 w' fp91 fr93 A89 cap90 l88 ∧ (∀ x ∈ (fp91 ++ fr93), w0.heap.size ≤ x) ∧ Chg [] w0 w' ∧ w0.heap.size ≤ w'.heap.size) ?_ ?_
  · refine cW_block ?_
    refine cW_loop _ (fun (s112 : (List (List (Int))) × Int) a' w' => ∃ l98 : List (List (Int)), ∃ A99 : Option Addr, ∃ cap100 : Nat, ∃ fp101 : List Nat, ∃ fr103 : List Nat, ∃ x104 : Int, (l98, x104) = s112 ∧ Fr 23 [(0, .slice A0 (l0).length cap0), (3, .slice A99 (l98).length cap100), (4, .int .i64 (x104))] a' ∧ SlR 1 encI w' fp0 A0 l0 ∧ OwR 1 encI 25 2 w' fp101 fr103 A99 cap100 l98 ∧ (∀ x ∈ (fp101 ++ fr103), w0.heap.size ≤ x) ∧ Chg [] w0 w' ∧ w0.heap.size ≤ w'.heap.size) hr110 (fun hst => ⟨List.replicate (Int.toNat (((l0).length : Int))) ([] : List (Int)), (some ⟨b3, 0, none⟩), (Int.toNat (((l0).length : Int))), [b3], [], 0, rfl, Fr.of hst (by kernel_rfl), F0, F6, G5, hB, hZ⟩) ?_
    rintro _ c113 a' w97 ⟨l98, A99, cap100, fp101, fr103, x104, rfl, hF105, F106, F107, G108, hB, hZ⟩ hx114
    refine Fr.goOn hF105 (by kernel_rfl) ?_
    have hm := hx114
    unfold m_laws_toInt64SS_s1 at hm
    refine cW_seq ?_
    refine cW_seq ?_
    refine cW_region ?_
    refine wS_pure 4 [(11, .bool (decide (x104 < (((l0).length : Int))))), (10, .int .i64 (((l0).length : Int))), (9, .slice A0 (l0).length cap0), (8, .int .i64 (x104))] (by kernel_rfl) ?_
    refine wS_end (by rfl) ?_
    refine eX_then ?_
    refine cW_cond (t := decide (x104 < (((l0).length : Int)))) (by kernel_rfl) (fun hb115 => ?_) (fun hb115 => ?_)
    · have hm := condT hb115 hm
      refine cW_skip ?_
      refine eX_then ?_
      refine cW_seq ?_
      refine cW_block ?_
      refine cW_region ?_
      refine wS_pure 4 [(17, .int .i64 (x104)), (16, .slice A0 (l0).length cap0), (15, .int .i64 (x104)), (14, .slice A99 (l98).length cap100)] (by kernel_rfl) ?_
      obtain ⟨x116, hx117, hm⟩ := bindE hm
      refine wS_idx (d := 18) (T := 24) (A := A0) (n := (l0).length) (cap := cap0) (kd := .i64) (m := x104) (by kernel_rfl) sl24 (F106.is hx117) ?_
      obtain ⟨A118, cap119, hc121, F120, K122⟩ := SlR.row F106 hx117
      refine wS_load1 (d := 19) (T := 25) (ad := (elA A0 1 (x104) 0)) (v := .slice A118 (x116).length cap119) (by kernel_rfl) vt25 hc121 ?_
      obtain ⟨y124, hy125, hm⟩ := bindE hm
      refine wS_calls (d := 20) (f := 50) (vs := [.slice A118 (x116).length cap119]) (by kernel_rfl) ent50 (c_laws_toInt64S hy125 F120) ?_
      rintro _ w126 ⟨A128, cap129, fp130, rfl, F131, G132, hc127⟩
      have D135 : Dj (fp101 ++ fr103) fp130 := Dj.of F107.low G132
      replace F106 := F106.chg hc127 Dj.nil
      replace F107 := F107.chg hc127 Dj.nil
      replace F120 := F120.chg hc127 Dj.nil
      replace hB := hB.inS hc127 inNil
      replace G132 := low_le hZ G132
      replace hZ := Nat.le_trans hZ hc127.size
      refine ⟨.slice A128 (y124).length cap129, rfl, ?_⟩
      obtain ⟨x136, hx137, hm⟩ := bindE hm
      refine wS_idx (d := 21) (T := 24) (A := A99) (n := (l98).length) (cap := cap100) (kd := .i64) (m := x104) (by kernel_rfl) sl24 ((F107.slr encI_ok).is hx137) ?_
      refine wS_storeRow (k := 1) (enc := encI) (x := x136) (l := y124) (T := 25) (U := 25) (cap := cap100) (c := cap129) (A := A99) (B := A128) (m := x104) (by kernel_rfl) sz25 F107 F131 D135 hx137 ?_
      intro w141 F142 hc143
      have G145 := lowApp (low_inl G108) (lowApp (low_inr G108) G132)
      have Dm146 := Dj.inl D135.symm
      replace F106 := F106.chg hc143 (Dj.inl (Dj.of L0 G108))
      replace F120 := F120.chg hc143 (Dj.inl (Dj.of L0 G108))
      replace F131 := F131.chg hc143 (Dj.inl (D135).symm)
      replace hB := hB.inS hc143 (memS_inl (inLow G108))
      replace hZ := Nat.le_trans hZ hc143.size
      replace F131 := (F131.sl encI_ok)
      rewrite [show (l98).length = (l98.set (Int.toNat x104) y124).length from (List.length_set ..).symm]
      refine wS_end (by rfl) ?_
      refine eX_block ?_
      refine eX_then ?_
      refine cW_region ?_
      refine wS_pure 3 [(4, .int .i64 (wr (x104 + 1))), (13, .int .i64 (wr (x104 + 1))), (12, .int .i64 (x104))] (by kernel_rfl) ?_
      refine wS_end (by rfl) ?_
      have hq : (some (Ctl.next ((l98.set (Int.toNat x104) y124, wr (x104 + 1)))) : Option (Ctl ((List (List (Int))) × Int) ((List (List (Int)))))) = some _ := hm
      replace hq := someE hq
      subst hq
      exact eX_next hx114 (fun hst => ⟨l98.set (Int.toNat x104) y124, A99, cap100, fp101, (fr103 ++ fp130), wr (x104 + 1), rfl, Fr.of hst (by kernel_rfl), F106, F142, G145, hB, hZ⟩)
    · have hm := condF hb115 hm
      refine cW_exit ?_
      refine eX_then_exit ?_
      have hq : (some (Ctl.out l98) : Option (Ctl ((List (List (Int))) × Int) ((List (List (Int)))))) = some _ := hm
      replace hq := someE hq
      subst hq
      refine eX_outX hx114 (fun hr147 => ?_)
      replace hr147 := hr147.symm
      subst hr147
      refine eX_block_hit ?_
      exact eX_J (fun hst => ⟨l98, A99, cap100, fp101, fr103, rfl, Fr.of hst (by kernel_rfl), F107, G108, hB, hZ⟩)
  · rintro a' w87 ⟨l88, A89, cap90, fp91, fr93, hJ, hF94, F95, G96, hB, hZ⟩
    subst hJ
    refine Fr.goX hF94 (by kernel_rfl) ?_
    refine eX_then ?_
    refine cW_seq ?_
    refine cW_region ?_
    refine wS_pure 2 [(2, .slice A89 (l88).length cap90), (22, .slice A89 (l88).length cap90)] (by kernel_rfl) ?_
    refine wS_end (by rfl) ?_
    refine eX_then ?_
    refine cW_ret ?_
    have hq : (some l88 : Option ((List (List (Int))))) = some _ := hm
    replace hq := someE hq
    subst hq
    refine eX_ret (vs := [.slice A89 (l88).length cap90]) [.tmp 2] (by rfl) ⟨by (show lkE _ _ _ = _); kernel_rfl, trivial⟩ ?_
    exact ⟨A89, cap90, fp91, fr93, rfl, F95, G96, hB⟩

set_option maxRecDepth 100000 in
/-- laws.toWiring -/
theorem c_laws_toWiring {w0 : World} {p0_0 : Int} {l0_1 : List (List (Int))} {A0_1 : Option Addr} {cap0_1 : Nat} {fp0_1 : List Nat} {l0_2 : List (List (Int))} {A0_2 : Option Addr} {cap0_2 : Nat} {fp0_2 : List Nat} {l0_3 : List (Int)} {A0_3 : Option Addr} {cap0_3 : Nat} {fp0_3 : List Nat} {r : (Int × (List (List (Int))) × (List (List (Int))) × (List (Int)))} (hm : m_laws_toWiring p0_0 l0_1 l0_2 l0_3 = some r) (F0_1 : SlR 1 encI w0 fp0_1 A0_1 l0_1) (F0_2 : SlR 1 encI w0 fp0_2 A0_2 l0_2) (F0_3 : Sl 1 encI w0 fp0_3 A0_3 l0_3) :
    Calls Try.prog 39 #[.agg #[.int .i64 (p0_0), .slice A0_1 (l0_1).length cap0_1, .slice A0_2 (l0_2).length cap0_2, .slice A0_3 (l0_3).length cap0_3]] w0 fun e w' => ∃ A100_1 cap100_1 fp100_1 fr100_1, ∃ A100_2 cap100_2 fp100_2 fr100_2, ∃ A100_3 cap100_3 fp100_3, e = .returned (.agg #[.int .i64 (r.1), .slice A100_1 (r.2.1).length cap100_1, .slice A100_2 (r.2.2.1).length cap100_2, .slice A100_3 (r.2.2.2).length cap100_3]) ∧ OwR 1 encI 25 2 w' fp100_1 fr100_1 A100_1 cap100_1 r.2.1 ∧ (∀ x ∈ fp100_1 ++ fr100_1, w0.heap.size ≤ x) ∧ OwR 1 encI 25 2 w' fp100_2 fr100_2 A100_2 cap100_2 r.2.2.1 ∧ (∀ x ∈ fp100_2 ++ fr100_2, w0.heap.size ≤ x) ∧ Ow 1 encI 2 w' fp100_3 A100_3 cap100_3 r.2.2.2 ∧ (∀ x ∈ fp100_3, w0.heap.size ≤ x) ∧ Dj (fp100_1 ++ fr100_1) (fp100_2 ++ fr100_2) ∧ Dj (fp100_1 ++ fr100_1) fp100_3 ∧ Dj (fp100_2 ++ fr100_2) fp100_3 ∧ Chg [] w0 w' := by
  have L0_1 := F0_1.low
  have L0_2 := F0_2.low
  have L0_3 := F0_3.low
  have hB : Chg [] w0 w0 := Chg.refl _ _
  have hZ := Nat.le_refl w0.heap.size
  unfold m_laws_toWiring at hm
  refine enterE (N := 20) Try.func39 (by rfl) Try.ntmps39 (by simp) [(0, .agg #[.int .i64 (p0_0), .slice A0_1 (l0_1).length cap0_1, .slice A0_2 (l0_2).length cap0_2, .slice A0_3 (l0_3).length cap0_3])] (by rfl) (by kernel_rfl) (fun a => ?_)
  refine cW_seq ?_
  refine cW_region ?_
  refine wS_box (d := 1) (T := 59) (x := .agg #[.int .i64 (p0_0), .slice A0_1 (l0_1).length cap0_1, .slice A0_2 (l0_2).length cap0_2, .slice A0_3 (l0_3).length cap0_3]) (by kernel_rfl) ?_
  intro b4 w5 G6 F7 hc8
  replace F7 : Cl w5 b4 59 [.int .i64 (p0_0), .slice A0_1 (l0_1).length cap0_1, .slice A0_2 (l0_2).length cap0_2, .slice A0_3 (l0_3).length cap0_3] := F7
  replace F0_1 := F0_1.chg hc8 Dj.nil
  replace F0_2 := F0_2.chg hc8 Dj.nil
  replace F0_3 := F0_3.chg hc8 Dj.nil
  replace hB := hB.inS hc8 inNil
  replace G6 := Nat.le_trans hZ G6
  replace hZ := Nat.le_trans hZ hc8.size
  refine wS_alloc (d := 2) (T := 27) (z := .agg #[.int .i64 (0), .slice none 0 0, .slice none 0 0, .slice none 0 0]) (by kernel_rfl) (by kernel_rfl) ?_
  intro b10 w11 G12 F13 hc14
  replace F13 : Cl w11 b10 27 [.int .i64 (0), .slice none 0 0, .slice none 0 0, .slice none 0 0] := F13
  have D16 : Dj [b4] [b10] := Dj.of (lt1 F7.lt) (low1 G12)
  replace F0_1 := F0_1.chg hc14 Dj.nil
  replace F0_2 := F0_2.chg hc14 Dj.nil
  replace F0_3 := F0_3.chg hc14 Dj.nil
  replace F7 := F7.chg hc14 notNil
  replace hB := hB.inS hc14 inNil
  replace G12 := Nat.le_trans hZ G12
  replace hZ := Nat.le_trans hZ hc14.size
  refine wS_end (by rfl) ?_
  refine eX_then ?_
  refine cW_seq ?_
  refine cW_region ?_
  refine wS_alloc (d := 3) (T := 27) (z := .agg #[.int .i64 (0), .slice none 0 0, .slice none 0 0, .slice none 0 0]) (by kernel_rfl) (by kernel_rfl) ?_
  intro b17 w18 G19 F20 hc21
  replace F20 : Cl w18 b17 27 [.int .i64 (0), .slice none 0 0, .slice none 0 0, .slice none 0 0] := F20
  have D23 : Dj [b4] [b17] := Dj.of (lt1 F7.lt) (low1 G19)
  have D24 : Dj [b10] [b17] := Dj.of (lt1 F13.lt) (low1 G19)
  replace F0_1 := F0_1.chg hc21 Dj.nil
  replace F0_2 := F0_2.chg hc21 Dj.nil
  replace F0_3 := F0_3.chg hc21 Dj.nil
  replace F7 := F7.chg hc21 notNil
  replace F13 := F13.chg hc21 notNil
  replace hB := hB.inS hc21 inNil
  replace G19 := Nat.le_trans hZ G19
  replace hZ := Nat.le_trans hZ hc21.size
  refine wS_end (by rfl) ?_
  refine eX_then ?_
  refine cW_seq ?_
  refine cW_region ?_
  refine wS_pure 1 [(4, .pointer (some ⟨b4, 0, none⟩))] (by kernel_rfl) ?_
  refine wS_load1 (d := 5) (T := 2) (ad := ⟨b4, 0, none⟩) (v := .int .i64 (p0_0)) (by kernel_rfl) vt2 ((F7).cell 0) ?_
  refine wS_pure 1 [(6, .pointer (some ⟨b17, 0, none⟩))] (by kernel_rfl) ?_
  refine wS_store (T := 2) (g := b17) (o := 0) (ad := ⟨b17, 0, none⟩) (v := .int .i64 (p0_0)) (vs := [.int .i64 (p0_0)]) (by kernel_rfl) (by rfl) sz2 (by rfl) (by rfl) F20 (by simp only [List.length_cons, List.length_nil]; omega) ?_
  intro w25 F26 hc27
  replace F0_1 := F0_1.chg hc27 (Dj.of L0_1 (low1 G19))
  replace F0_2 := F0_2.chg hc27 (Dj.of L0_2 (low1 G19))
  replace F0_3 := F0_3.chg hc27 (Dj.of L0_3 (low1 G19))
  replace F7 := F7.chg hc27 (dj1 D23)
  replace F13 := F13.chg hc27 (dj1 D24)
  replace hB := hB.inS hc27 (inLow (low1 G19))
  replace hZ := Nat.le_trans hZ hc27.size
  replace F26 : Cl w25 b17 27 [.int .i64 (p0_0), .slice none 0 0, .slice none 0 0, .slice none 0 0] := F26
  clear F20
  refine wS_end (by rfl) ?_
  refine eX_then ?_
  refine cW_seq ?_
  refine cW_region ?_
  refine wS_pure 1 [(7, .pointer (some ⟨b4, 1, none⟩))] (by kernel_rfl) ?_
  refine wS_load1 (d := 8) (T := 24) (ad := ⟨b4, 1, none⟩) (v := .slice A0_1 (l0_1).length cap0_1) (by kernel_rfl) vt24 ((F7).cell 1) ?_
  obtain ⟨y28, hy29, hm⟩ := bindE hm
  refine wS_calls (d := 9) (f := 83) (vs := [.slice A0_1 (l0_1).length cap0_1]) (by kernel_rfl) ent83 (c_laws_toInt64SS hy29 F0_1) ?_
  rintro _ w30 ⟨A32, cap33, fp34, fr37, rfl, F35, G36, hc31⟩
  have D39 : Dj [b4] (fp34 ++ fr37) := Dj.of (lt1 F7.lt) G36
  have D40 : Dj [b10] (fp34 ++ fr37) := Dj.of (lt1 F13.lt) G36
  have D41 : Dj [b17] (fp34 ++ fr37) := Dj.of (lt1 F26.lt) G36
  replace F0_1 := F0_1.chg hc31 Dj.nil
  replace F0_2 := F0_2.chg hc31 Dj.nil
  replace F0_3 := F0_3.chg hc31 Dj.nil
  replace F7 := F7.chg hc31 notNil
  replace F13 := F13.chg hc31 notNil
  replace F26 := F26.chg hc31 notNil
  replace hB := hB.inS hc31 inNil
  replace G36 := low_le hZ G36
  replace hZ := Nat.le_trans hZ hc31.size
  refine ⟨.slice A32 (y28).length cap33, rfl, ?_⟩
  refine wS_pure 1 [(10, .pointer (some ⟨b17, 1, none⟩))] (by kernel_rfl) ?_
  refine wS_store (T := 24) (g := b17) (o := 1) (ad := ⟨b17, 1, none⟩) (v := .slice A32 (y28).length cap33) (vs := [.slice A32 (y28).length cap33]) (by kernel_rfl) (by rfl) sz24 (by rfl) (by rfl) F26 (by simp only [List.length_cons, List.length_nil]; omega) ?_
  intro w42 F43 hc44
  replace F0_1 := F0_1.chg hc44 (Dj.of L0_1 (low1 G19))
  replace F0_2 := F0_2.chg hc44 (Dj.of L0_2 (low1 G19))
  replace F0_3 := F0_3.chg hc44 (Dj.of L0_3 (low1 G19))
  replace F7 := F7.chg hc44 (dj1 D23)
  replace F13 := F13.chg hc44 (dj1 D24)
  replace F35 := F35.chg hc44 (D41).symm
  replace hB := hB.inS hc44 (inLow (low1 G19))
  replace hZ := Nat.le_trans hZ hc44.size
  replace F43 : Cl w42 b17 27 [.int .i64 (p0_0), .slice A32 (y28).length cap33, .slice none 0 0, .slice none 0 0] := F43
  clear F26
  refine wS_end (by rfl) ?_
  refine eX_then ?_
  refine cW_seq ?_
  refine cW_region ?_
  refine wS_pure 1 [(11, .pointer (some ⟨b4, 2, none⟩))] (by kernel_rfl) ?_
  refine wS_load1 (d := 12) (T := 24) (ad := ⟨b4, 2, none⟩) (v := .slice A0_2 (l0_2).length cap0_2) (by kernel_rfl) vt24 ((F7).cell 2) ?_
  obtain ⟨y45, hy46, hm⟩ := bindE hm
  refine wS_calls (d := 13) (f := 83) (vs := [.slice A0_2 (l0_2).length cap0_2]) (by kernel_rfl) ent83 (c_laws_toInt64SS hy46 F0_2) ?_
  rintro _ w47 ⟨A49, cap50, fp51, fr54, rfl, F52, G53, hc48⟩
  have D56 : Dj [b4] (fp51 ++ fr54) := Dj.of (lt1 F7.lt) G53
  have D57 : Dj [b10] (fp51 ++ fr54) := Dj.of (lt1 F13.lt) G53
  have D58 : Dj [b17] (fp51 ++ fr54) := Dj.of (lt1 F43.lt) G53
  have D59 : Dj (fp34 ++ fr37) (fp51 ++ fr54) := Dj.of F35.low G53
  replace F0_1 := F0_1.chg hc48 Dj.nil
  replace F0_2 := F0_2.chg hc48 Dj.nil
  replace F0_3 := F0_3.chg hc48 Dj.nil
  replace F7 := F7.chg hc48 notNil
  replace F13 := F13.chg hc48 notNil
  replace F43 := F43.chg hc48 notNil
  replace F35 := F35.chg hc48 Dj.nil
  replace hB := hB.inS hc48 inNil
  replace G53 := low_le hZ G53
  replace hZ := Nat.le_trans hZ hc48.size
  refine ⟨.slice A49 (y45).length cap50, rfl, ?_⟩
  refine wS_pure 1 [(14, .pointer (some ⟨b17, 2, none⟩))] (by kernel_rfl) ?_
  refine wS_store (T := 24) (g := b17) (o := 2) (ad := ⟨b17, 2, none⟩) (v := .slice A49 (y45).length cap50) (vs := [.slice A49 (y45).length cap50]) (by kernel_rfl) (by rfl) sz24 (by rfl) (by rfl) F43 (by simp only [List.length_cons, List.length_nil]; omega) ?_
  intro w60 F61 hc62
  replace F0_1 := F0_1.chg hc62 (Dj.of L0_1 (low1 G19))
  replace F0_2 := F0_2.chg hc62 (Dj.of L0_2 (low1 G19))
  replace F0_3 := F0_3.chg hc62 (Dj.of L0_3 (low1 G19))
  replace F7 := F7.chg hc62 (dj1 D23)
  replace F13 := F13.chg hc62 (dj1 D24)
  replace F35 := F35.chg hc62 (D41).symm
  replace F52 := F52.chg hc62 (D58).symm
  replace hB := hB.inS hc62 (inLow (low1 G19))
  replace hZ := Nat.le_trans hZ hc62.size
  replace F61 : Cl w60 b17 27 [.int .i64 (p0_0), .slice A32 (y28).length cap33, .slice A49 (y45).length cap50, .slice none 0 0] := F61
  clear F43
  refine wS_end (by rfl) ?_
  refine eX_then ?_
  refine cW_seq ?_
  refine cW_region ?_
  refine wS_pure 1 [(15, .pointer (some ⟨b4, 3, none⟩))] (by kernel_rfl) ?_
  refine wS_load1 (d := 16) (T := 25) (ad := ⟨b4, 3, none⟩) (v := .slice A0_3 (l0_3).length cap0_3) (by kernel_rfl) vt25 ((F7).cell 3) ?_
  obtain ⟨y63, hy64, hm⟩ := bindE hm
  refine wS_calls (d := 17) (f := 50) (vs := [.slice A0_3 (l0_3).length cap0_3]) (by kernel_rfl) ent50 (c_laws_toInt64S hy64 F0_3) ?_
  rintro _ w65 ⟨A67, cap68, fp69, rfl, F70, G71, hc66⟩
  have D74 : Dj [b4] fp69 := Dj.of (lt1 F7.lt) G71
  have D75 : Dj [b10] fp69 := Dj.of (lt1 F13.lt) G71
  have D76 : Dj [b17] fp69 := Dj.of (lt1 F61.lt) G71
  have D77 : Dj (fp34 ++ fr37) fp69 := Dj.of F35.low G71
  have D78 : Dj (fp51 ++ fr54) fp69 := Dj.of F52.low G71
  replace F0_1 := F0_1.chg hc66 Dj.nil
  replace F0_2 := F0_2.chg hc66 Dj.nil
  replace F0_3 := F0_3.chg hc66 Dj.nil
  replace F7 := F7.chg hc66 notNil
  replace F13 := F13.chg hc66 notNil
  replace F61 := F61.chg hc66 notNil
  replace F35 := F35.chg hc66 Dj.nil
  replace F52 := F52.chg hc66 Dj.nil
  replace hB := hB.inS hc66 inNil
  replace G71 := low_le hZ G71
  replace hZ := Nat.le_trans hZ hc66.size
  refine ⟨.slice A67 (y63).length cap68, rfl, ?_⟩
  refine wS_pure 1 [(18, .pointer (some ⟨b17, 3, none⟩))] (by kernel_rfl) ?_
  refine wS_store (T := 25) (g := b17) (o := 3) (ad := ⟨b17, 3, none⟩) (v := .slice A67 (y63).length cap68) (vs := [.slice A67 (y63).length cap68]) (by kernel_rfl) (by rfl) sz25 (by rfl) (by rfl) F61 (by simp only [List.length_cons, List.length_nil]; omega) ?_
  intro w79 F80 hc81
  replace F0_1 := F0_1.chg hc81 (Dj.of L0_1 (low1 G19))
  replace F0_2 := F0_2.chg hc81 (Dj.of L0_2 (low1 G19))
  replace F0_3 := F0_3.chg hc81 (Dj.of L0_3 (low1 G19))
  replace F7 := F7.chg hc81 (dj1 D23)
  replace F13 := F13.chg hc81 (dj1 D24)
  replace F35 := F35.chg hc81 (D41).symm
  replace F52 := F52.chg hc81 (D58).symm
  replace F70 := F70.chg hc81 (D76).symm
  replace hB := hB.inS hc81 (inLow (low1 G19))
  replace hZ := Nat.le_trans hZ hc81.size
  replace F80 : Cl w79 b17 27 [.int .i64 (p0_0), .slice A32 (y28).length cap33, .slice A49 (y45).length cap50, .slice A67 (y63).length cap68] := F80
  clear F61
  refine wS_end (by rfl) ?_
  refine eX_then ?_
  refine cW_seq ?_
  refine cW_region ?_
  refine wS_loadA (d := 19) (T := 27) (ad := ⟨b17, 0, none⟩) (vs := [.int .i64 (p0_0), .slice A32 (y28).length cap33, .slice A49 (y45).length cap50, .slice A67 (y63).length cap68]) (by kernel_rfl) vt27 (fun i u hu => box_cells F80 0 hu (by rfl)) ?_
  refine wS_store (T := 27) (g := b10) (o := 0) (ad := ⟨b10, 0, none⟩) (v := .agg #[.int .i64 (p0_0), .slice A32 (y28).length cap33, .slice A49 (y45).length cap50, .slice A67 (y63).length cap68]) (vs := [.int .i64 (p0_0), .slice A32 (y28).length cap33, .slice A49 (y45).length cap50, .slice A67 (y63).length cap68]) (by kernel_rfl) (by rfl) sz27 (by rfl) (by rfl) F13 (by simp only [List.length_cons, List.length_nil]; omega) ?_
  intro w82 F83 hc84
  replace F0_1 := F0_1.chg hc84 (Dj.of L0_1 (low1 G12))
  replace F0_2 := F0_2.chg hc84 (Dj.of L0_2 (low1 G12))
  replace F0_3 := F0_3.chg hc84 (Dj.of L0_3 (low1 G12))
  replace F7 := F7.chg hc84 (dj1 D16)
  replace F80 := F80.chg hc84 (dj1 (D24).symm)
  replace F35 := F35.chg hc84 (D40).symm
  replace F52 := F52.chg hc84 (D57).symm
  replace F70 := F70.chg hc84 (D75).symm
  replace hB := hB.inS hc84 (inLow (low1 G12))
  replace hZ := Nat.le_trans hZ hc84.size
  replace F83 : Cl w82 b10 27 [.int .i64 (p0_0), .slice A32 (y28).length cap33, .slice A49 (y45).length cap50, .slice A67 (y63).length cap68] := F83
  clear F13
  refine wS_end (by rfl) ?_
  refine eX_then ?_
  refine cW_ret ?_
  have hq : (some ((p0_0, y28, y45, y63)) : Option ((Int × (List (List (Int))) × (List (List (Int))) × (List (Int))))) = some _ := hm
  replace hq := someE hq
  subst hq
  refine eX_ret (vs := [.agg #[.int .i64 (p0_0), .slice A32 (y28).length cap33, .slice A49 (y45).length cap50, .slice A67 (y63).length cap68]]) [.cell 2 27] (by rfl) ⟨⟨⟨b10, 0, none⟩, by kernel_rfl, run_loadVarA (vs := [.int .i64 (p0_0), .slice A32 (y28).length cap33, .slice A49 (y45).length cap50, .slice A67 (y63).length cap68]) vt27 (fun i u hu => by exact box_cells F83 0 hu (by rfl))⟩, trivial⟩ ?_
  exact ⟨A32, cap33, fp34, fr37, A49, cap50, fp51, fr54, A67, cap68, fp69, rfl, F35, G36, F52, G53, F70, G71, D59, D77, D78, hB⟩

set_option maxRecDepth 100000 in
/-- laws.eqWiring -/
theorem c_laws_eqWiring {w0 : World} {p0_0 : Int} {l0_1 : List (List (Int))} {A0_1 : Option Addr} {cap0_1 : Nat} {fp0_1 : List Nat} {l0_2 : List (List (Int))} {A0_2 : Option Addr} {cap0_2 : Nat} {fp0_2 : List Nat} {l0_3 : List (Int)} {A0_3 : Option Addr} {cap0_3 : Nat} {fp0_3 : List Nat} {p1_0 : Int} {l1_1 : List (List (Int))} {A1_1 : Option Addr} {cap1_1 : Nat} {fp1_1 : List Nat} {l1_2 : List (List (Int))} {A1_2 : Option Addr} {cap1_2 : Nat} {fp1_2 : List Nat} {l1_3 : List (Int)} {A1_3 : Option Addr} {cap1_3 : Nat} {fp1_3 : List Nat} {r : (Bool)} (hm : m_laws_eqWiring p0_0 l0_1 l0_2 l0_3 p1_0 l1_1 l1_2 l1_3 = some r) (F0_1 : SlR 1 encI w0 fp0_1 A0_1 l0_1) (F0_2 : SlR 1 encI w0 fp0_2 A0_2 l0_2) (F0_3 : Sl 1 encI w0 fp0_3 A0_3 l0_3) (F1_1 : SlR 1 encI w0 fp1_1 A1_1 l1_1) (F1_2 : SlR 1 encI w0 fp1_2 A1_2 l1_2) (F1_3 : Sl 1 encI w0 fp1_3 A1_3 l1_3) :
    Calls Try.prog 40 #[.agg #[.int .i64 (p0_0), .slice A0_1 (l0_1).length cap0_1, .slice A0_2 (l0_2).length cap0_2, .slice A0_3 (l0_3).length cap0_3], .agg #[.int .i64 (p1_0), .slice A1_1 (l1_1).length cap1_1, .slice A1_2 (l1_2).length cap1_2, .slice A1_3 (l1_3).length cap1_3]] w0 fun e w' => e = .returned (.bool (r)) ∧ Chg [] w0 w' := by
  have L0_1 := F0_1.low
  have L0_2 := F0_2.low
  have L0_3 := F0_3.low
  have L1_1 := F1_1.low
  have L1_2 := F1_2.low
  have L1_3 := F1_3.low
  have hB : Chg [] w0 w0 := Chg.refl _ _
  have hZ := Nat.le_refl w0.heap.size
  unfold m_laws_eqWiring at hm
  refine enterE (N := 28) Try.func40 (by rfl) Try.ntmps40 (by simp) [(0, .agg #[.int .i64 (p0_0), .slice A0_1 (l0_1).length cap0_1, .slice A0_2 (l0_2).length cap0_2, .slice A0_3 (l0_3).length cap0_3]), (1, .agg #[.int .i64 (p1_0), .slice A1_1 (l1_1).length cap1_1, .slice A1_2 (l1_2).length cap1_2, .slice A1_3 (l1_3).length cap1_3])] (by rfl) (by kernel_rfl) (fun a => ?_)
  refine cW_seq ?_
  refine cW_region ?_
  refine wS_box (d := 2) (T := 27) (x := .agg #[.int .i64 (p0_0), .slice A0_1 (l0_1).length cap0_1, .slice A0_2 (l0_2).length cap0_2, .slice A0_3 (l0_3).length cap0_3]) (by kernel_rfl) ?_
  intro b7 w8 G9 F10 hc11
  replace F10 : Cl w8 b7 27 [.int .i64 (p0_0), .slice A0_1 (l0_1).length cap0_1, .slice A0_2 (l0_2).length cap0_2, .slice A0_3 (l0_3).length cap0_3] := F10
  replace F0_1 := F0_1.chg hc11 Dj.nil
  replace F0_2 := F0_2.chg hc11 Dj.nil
  replace F0_3 := F0_3.chg hc11 Dj.nil
  replace F1_1 := F1_1.chg hc11 Dj.nil
  replace F1_2 := F1_2.chg hc11 Dj.nil
  replace F1_3 := F1_3.chg hc11 Dj.nil
  replace hB := hB.inS hc11 inNil
  replace G9 := Nat.le_trans hZ G9
  replace hZ := Nat.le_trans hZ hc11.size
  refine wS_box (d := 3) (T := 27) (x := .agg #[.int .i64 (p1_0), .slice A1_1 (l1_1).length cap1_1, .slice A1_2 (l1_2).length cap1_2, .slice A1_3 (l1_3).length cap1_3]) (by kernel_rfl) ?_
  intro b13 w14 G15 F16 hc17
  replace F16 : Cl w14 b13 27 [.int .i64 (p1_0), .slice A1_1 (l1_1).length cap1_1, .slice A1_2 (l1_2).length cap1_2, .slice A1_3 (l1_3).length cap1_3] := F16
  have D19 : Dj [b7] [b13] := Dj.of (lt1 F10.lt) (low1 G15)
  replace F0_1 := F0_1.chg hc17 Dj.nil
  replace F0_2 := F0_2.chg hc17 Dj.nil
  replace F0_3 := F0_3.chg hc17 Dj.nil
  replace F1_1 := F1_1.chg hc17 Dj.nil
  replace F1_2 := F1_2.chg hc17 Dj.nil
  replace F1_3 := F1_3.chg hc17 Dj.nil
  replace F10 := F10.chg hc17 notNil
  replace hB := hB.inS hc17 inNil
  replace G15 := Nat.le_trans hZ G15
  replace hZ := Nat.le_trans hZ hc17.size
  refine wS_pure 1 [(4, .bool (false))] (by kernel_rfl) ?_
  refine wS_end (by rfl) ?_
  refine eX_then ?_
  refine cW_seq ?_
  refine cW_seq ?_
  refine cW_region ?_
  refine wS_pure 1 [(5, .pointer (some ⟨b7, 0, none⟩))] (by kernel_rfl) ?_
  refine wS_load1 (d := 6) (T := 2) (ad := ⟨b7, 0, none⟩) (v := .int .i64 (p0_0)) (by kernel_rfl) vt2 ((F10).cell 0) ?_
  refine wS_pure 1 [(7, .pointer (some ⟨b13, 0, none⟩))] (by kernel_rfl) ?_
  refine wS_load1 (d := 8) (T := 2) (ad := ⟨b13, 0, none⟩) (v := .int .i64 (p1_0)) (by kernel_rfl) vt2 ((F16).cell 0) ?_
  refine wS_pure 1 [(9, .bool (p0_0 != p1_0))] (by kernel_rfl) ?_
  refine wS_end (by rfl) ?_
  refine eX_then ?_
  refine cW_cond (t := p0_0 != p1_0) (by kernel_rfl) (fun hb20 => ?_) (fun hb20 => ?_)
  · have hm := condT hb20 hm
    refine cW_seq ?_
    refine cW_region ?_
    refine wS_pure 1 [(4, .bool (false))] (by kernel_rfl) ?_
    refine wS_end (by rfl) ?_
    refine eX_then ?_
    refine cW_ret ?_
    refine eX_then_ret ?_
    have hq : (some false : Option ((Bool))) = some _ := hm
    replace hq := someE hq
    subst hq
    refine eX_ret (vs := [.bool (false)]) [.tmp 4] (by rfl) ⟨by (show lkE _ _ _ = _); kernel_rfl, trivial⟩ ?_
    exact ⟨rfl, hB⟩
  · have hm := condF hb20 hm
    refine cW_skip ?_
    refine eX_then ?_
    refine cW_seq ?_
    refine cW_seq ?_
    refine cW_region ?_
    refine wS_pure 1 [(10, .pointer (some ⟨b7, 1, none⟩))] (by kernel_rfl) ?_
    refine wS_load1 (d := 11) (T := 24) (ad := ⟨b7, 1, none⟩) (v := .slice A0_1 (l0_1).length cap0_1) (by kernel_rfl) vt24 ((F10).cell 1) ?_
    refine wS_pure 1 [(12, .pointer (some ⟨b13, 1, none⟩))] (by kernel_rfl) ?_
    refine wS_load1 (d := 13) (T := 24) (ad := ⟨b13, 1, none⟩) (v := .slice A1_1 (l1_1).length cap1_1) (by kernel_rfl) vt24 ((F16).cell 1) ?_
    obtain ⟨y21, hy22, hm⟩ := bindE hm
    refine wS_calls (d := 14) (f := 32) (vs := [.slice A0_1 (l0_1).length cap0_1, .slice A1_1 (l1_1).length cap1_1]) (by kernel_rfl) ent32 (c_laws_eqInt64SS hy22 F0_1 F1_1) ?_
    rintro _ w23 ⟨rfl, hc24⟩
    replace F0_1 := F0_1.chg hc24 Dj.nil
    replace F0_2 := F0_2.chg hc24 Dj.nil
    replace F0_3 := F0_3.chg hc24 Dj.nil
    replace F1_1 := F1_1.chg hc24 Dj.nil
    replace F1_2 := F1_2.chg hc24 Dj.nil
    replace F1_3 := F1_3.chg hc24 Dj.nil
    replace F10 := F10.chg hc24 notNil
    replace F16 := F16.chg hc24 notNil
    replace hB := hB.inS hc24 inNil
    replace hZ := Nat.le_trans hZ hc24.size
    refine ⟨.bool (y21), rfl, ?_⟩
    refine wS_pure 1 [(15, .bool (!y21))] (by kernel_rfl) ?_
    refine wS_end (by rfl) ?_
    refine eX_then ?_
    refine cW_cond (t := !y21) (by kernel_rfl) (fun hb25 => ?_) (fun hb25 => ?_)
    · have hm := condT hb25 hm
      refine cW_seq ?_
      refine cW_region ?_
      refine wS_pure 1 [(4, .bool (false))] (by kernel_rfl) ?_
      refine wS_end (by rfl) ?_
      refine eX_then ?_
      refine cW_ret ?_
      refine eX_then_ret ?_
      have hq : (some false : Option ((Bool))) = some _ := hm
      replace hq := someE hq
      subst hq
      refine eX_ret (vs := [.bool (false)]) [.tmp 4] (by rfl) ⟨by (show lkE _ _ _ = _); kernel_rfl, trivial⟩ ?_
      exact ⟨rfl, hB⟩
    · have hm := condF hb25 hm
      refine cW_skip ?_
      refine eX_then ?_
      refine cW_seq ?_
      refine cW_seq ?_
      refine cW_region ?_
      refine wS_pure 1 [(16, .pointer (some ⟨b7, 2, none⟩))] (by kernel_rfl) ?_
      refine wS_load1 (d := 17) (T := 24) (ad := ⟨b7, 2, none⟩) (v := .slice A0_2 (l0_2).length cap0_2) (by kernel_rfl) vt24 ((F10).cell 2) ?_
      refine wS_pure 1 [(18, .pointer (some ⟨b13, 2, none⟩))] (by kernel_rfl) ?_
      refine wS_load1 (d := 19) (T := 24) (ad := ⟨b13, 2, none⟩) (v := .slice A1_2 (l1_2).length cap1_2) (by kernel_rfl) vt24 ((F16).cell 2) ?_
      obtain ⟨y26, hy27, hm⟩ := bindE hm
      refine wS_calls (d := 20) (f := 32) (vs := [.slice A0_2 (l0_2).length cap0_2, .slice A1_2 (l1_2).length cap1_2]) (by kernel_rfl) ent32 (c_laws_eqInt64SS hy27 F0_2 F1_2) ?_
      rintro _ w28 ⟨rfl, hc29⟩
      replace F0_1 := F0_1.chg hc29 Dj.nil
      replace F0_2 := F0_2.chg hc29 Dj.nil
      replace F0_3 := F0_3.chg hc29 Dj.nil
      replace F1_1 := F1_1.chg hc29 Dj.nil
      replace F1_2 := F1_2.chg hc29 Dj.nil
      replace F1_3 := F1_3.chg hc29 Dj.nil
      replace F10 := F10.chg hc29 notNil
      replace F16 := F16.chg hc29 notNil
      replace hB := hB.inS hc29 inNil
      replace hZ := Nat.le_trans hZ hc29.size
      refine ⟨.bool (y26), rfl, ?_⟩
      refine wS_pure 1 [(21, .bool (!y26))] (by kernel_rfl) ?_
      refine wS_end (by rfl) ?_
      refine eX_then ?_
      refine cW_cond (t := !y26) (by kernel_rfl) (fun hb30 => ?_) (fun hb30 => ?_)
      · have hm := condT hb30 hm
        refine cW_seq ?_
        refine cW_region ?_
        refine wS_pure 1 [(4, .bool (false))] (by kernel_rfl) ?_
        refine wS_end (by rfl) ?_
        refine eX_then ?_
        refine cW_ret ?_
        refine eX_then_ret ?_
        have hq : (some false : Option ((Bool))) = some _ := hm
        replace hq := someE hq
        subst hq
        refine eX_ret (vs := [.bool (false)]) [.tmp 4] (by rfl) ⟨by (show lkE _ _ _ = _); kernel_rfl, trivial⟩ ?_
        exact ⟨rfl, hB⟩
      · have hm := condF hb30 hm
        refine cW_skip ?_
        refine eX_then ?_
        refine cW_seq ?_
        refine cW_seq ?_
        refine cW_region ?_
        refine wS_pure 1 [(22, .pointer (some ⟨b7, 3, none⟩))] (by kernel_rfl) ?_
        refine wS_load1 (d := 23) (T := 25) (ad := ⟨b7, 3, none⟩) (v := .slice A0_3 (l0_3).length cap0_3) (by kernel_rfl) vt25 ((F10).cell 3) ?_
        refine wS_pure 1 [(24, .pointer (some ⟨b13, 3, none⟩))] (by kernel_rfl) ?_
        refine wS_load1 (d := 25) (T := 25) (ad := ⟨b13, 3, none⟩) (v := .slice A1_3 (l1_3).length cap1_3) (by kernel_rfl) vt25 ((F16).cell 3) ?_
        obtain ⟨y31, hy32, hm⟩ := bindE hm
        refine wS_calls (d := 26) (f := 42) (vs := [.slice A0_3 (l0_3).length cap0_3, .slice A1_3 (l1_3).length cap1_3]) (by kernel_rfl) ent42 (c_laws_eqInt64S hy32 F0_3 F1_3) ?_
        rintro _ w33 ⟨rfl, hc34⟩
        replace F0_1 := F0_1.chg hc34 Dj.nil
        replace F0_2 := F0_2.chg hc34 Dj.nil
        replace F0_3 := F0_3.chg hc34 Dj.nil
        replace F1_1 := F1_1.chg hc34 Dj.nil
        replace F1_2 := F1_2.chg hc34 Dj.nil
        replace F1_3 := F1_3.chg hc34 Dj.nil
        replace F10 := F10.chg hc34 notNil
        replace F16 := F16.chg hc34 notNil
        replace hB := hB.inS hc34 inNil
        replace hZ := Nat.le_trans hZ hc34.size
        refine ⟨.bool (y31), rfl, ?_⟩
        refine wS_pure 1 [(27, .bool (!y31))] (by kernel_rfl) ?_
        refine wS_end (by rfl) ?_
        refine eX_then ?_
        refine cW_prune [(27, .bool (!y31))] (by kernel_rfl) (by kernel_rfl) (fun a35 => ?_)
        refine cW_cond (t := !y31) (by kernel_rfl) (fun hb36 => ?_) (fun hb36 => ?_)
        · have hm := condT hb36 hm
          refine cW_seq ?_
          refine cW_region ?_
          refine wS_pure 1 [(4, .bool (false))] (by kernel_rfl) ?_
          refine wS_end (by rfl) ?_
          refine eX_then ?_
          refine cW_ret ?_
          refine eX_then_ret ?_
          have hq : (some false : Option ((Bool))) = some _ := hm
          replace hq := someE hq
          subst hq
          refine eX_ret (vs := [.bool (false)]) [.tmp 4] (by rfl) ⟨by (show lkE _ _ _ = _); kernel_rfl, trivial⟩ ?_
          exact ⟨rfl, hB⟩
        · have hm := condF hb36 hm
          refine cW_skip ?_
          refine eX_then ?_
          refine cW_seq ?_
          refine cW_region ?_
          refine wS_pure 1 [(4, .bool (true))] (by kernel_rfl) ?_
          refine wS_end (by rfl) ?_
          refine eX_then ?_
          refine cW_ret ?_
          have hq : (some true : Option ((Bool))) = some _ := hm
          replace hq := someE hq
          subst hq
          refine eX_ret (vs := [.bool (true)]) [.tmp 4] (by rfl) ⟨by (show lkE _ _ _ = _); kernel_rfl, trivial⟩ ?_
          exact ⟨rfl, hB⟩

set_option maxRecDepth 100000 in
/-- laws.markWiring -/
theorem c_laws_markWiring {w0 : World} {p0_0 : Int} {l0_1 : List (List (Int))} {A0_1 : Option Addr} {cap0_1 : Nat} {fp0_1 fr0_1 : List Nat} {l0_2 : List (List (Int))} {A0_2 : Option Addr} {cap0_2 : Nat} {fp0_2 fr0_2 : List Nat} {l0_3 : List (Int)} {A0_3 : Option Addr} {cap0_3 : Nat} {fp0_3 : List Nat} {p1 : Int} {r : (Int) × (List (List (Int))) × (List (List (Int))) × (List (Int))} (hm : m_laws_markWiring p0_0 l0_1 l0_2 l0_3 p1 = some r) (F0_1 : OwR 1 encI 25 2 w0 fp0_1 fr0_1 A0_1 cap0_1 l0_1) (F0_2 : OwR 1 encI 25 2 w0 fp0_2 fr0_2 A0_2 cap0_2 l0_2) (F0_3 : Ow 1 encI 2 w0 fp0_3 A0_3 cap0_3 l0_3) (J0_1__0_2 : Dj (fp0_1 ++ fr0_1) (fp0_2 ++ fr0_2)) (J0_1__0_3 : Dj (fp0_1 ++ fr0_1) fp0_3) (J0_2__0_3 : Dj (fp0_2 ++ fr0_2) fp0_3) :
    Calls Try.prog 43 #[.agg #[.int .i64 (p0_0), .slice A0_1 (l0_1).length cap0_1, .slice A0_2 (l0_2).length cap0_2, .slice A0_3 (l0_3).length cap0_3], .int .i64 (p1)] w0 fun e w' => e = .returned (.int .i64 (r.1)) ∧ OwR 1 encI 25 2 w' fp0_1 fr0_1 A0_1 cap0_1 r.2.1 ∧ (r.2.1).length = (l0_1).length ∧ OwR 1 encI 25 2 w' fp0_2 fr0_2 A0_2 cap0_2 r.2.2.1 ∧ (r.2.2.1).length = (l0_2).length ∧ Ow 1 encI 2 w' fp0_3 A0_3 cap0_3 r.2.2.2 ∧ (r.2.2.2).length = (l0_3).length ∧ Chg ((fp0_1 ++ fr0_1) ++ ((fp0_2 ++ fr0_2) ++ (fp0_3 ++ []))) w0 w' := by
  have L0_1 := F0_1.low
  have L0_2 := F0_2.low
  have L0_3 := F0_3.low
  have hB : Chg ((fp0_1 ++ fr0_1) ++ ((fp0_2 ++ fr0_2) ++ (fp0_3 ++ []))) w0 w0 := Chg.refl _ _
  have hZ := Nat.le_refl w0.heap.size
  unfold m_laws_markWiring at hm
  refine enterE (N := 18) Try.func43 (by rfl) Try.ntmps43 (by simp) [(0, .agg #[.int .i64 (p0_0), .slice A0_1 (l0_1).length cap0_1, .slice A0_2 (l0_2).length cap0_2, .slice A0_3 (l0_3).length cap0_3]), (1, .int .i64 (p1))] (by rfl) (by kernel_rfl) (fun a => ?_)
  refine cW_seq ?_
  refine cW_region ?_
  refine wS_box (d := 2) (T := 27) (x := .agg #[.int .i64 (p0_0), .slice A0_1 (l0_1).length cap0_1, .slice A0_2 (l0_2).length cap0_2, .slice A0_3 (l0_3).length cap0_3]) (by kernel_rfl) ?_
  intro b4 w5 G6 F7 hc8
  replace F7 : Cl w5 b4 27 [.int .i64 (p0_0), .slice A0_1 (l0_1).length cap0_1, .slice A0_2 (l0_2).length cap0_2, .slice A0_3 (l0_3).length cap0_3] := F7
  replace F0_1 := F0_1.chg hc8 Dj.nil
  replace F0_2 := F0_2.chg hc8 Dj.nil
  replace F0_3 := F0_3.chg hc8 Dj.nil
  replace hB := hB.inS hc8 inNil
  replace G6 := Nat.le_trans hZ G6
  replace hZ := Nat.le_trans hZ hc8.size
  refine wS_pure 1 [(4, .int .i64 (0))] (by kernel_rfl) ?_
  refine wS_end (by rfl) ?_
  refine eX_then ?_
  refine cW_seq ?_
  refine cW_region ?_
  refine wS_pure 1 [(5, .pointer (some ⟨b4, 1, none⟩))] (by kernel_rfl) ?_
  refine wS_load1 (d := 6) (T := 24) (ad := ⟨b4, 1, none⟩) (v := .slice A0_1 (l0_1).length cap0_1) (by kernel_rfl) vt24 ((F7).cell 1) ?_
  refine wS_pure 1 [(7, .int .i64 (p1))] (by kernel_rfl) ?_
  obtain ⟨y10, hy11, hm⟩ := bindE hm
  refine wS_calls (d := 8) (f := 35) (vs := [.slice A0_1 (l0_1).length cap0_1, .int .i64 (p1)]) (by kernel_rfl) ent35 (c_laws_markInt64SS hy11 F0_1) ?_
  rintro _ w12 ⟨rfl, F14, hl15, hc13⟩
  replace F0_2 := F0_2.chg hc13 (Dj.app (J0_1__0_2).symm Dj.nil)
  replace F0_3 := F0_3.chg hc13 (Dj.app (J0_1__0_3).symm Dj.nil)
  replace F7 := F7.chg hc13 (dj1 (Dj.app (Dj.of L0_1 (low1 G6)).symm Dj.nil))
  replace hB := hB.inS hc13 (inApp (inMem (fun x hx => (List.mem_append_left _ hx))) inNil)
  replace hZ := Nat.le_trans hZ hc13.size
  clear F0_1
  have hl16 := hl15.trans (Eq.refl (l0_1).length)
  refine ⟨.int .i64 (y10.1), rfl, ?_⟩
  rewrite [(show (l0_1).length = (y10.2).length from hl15.symm)]
  try rewrite [(show (l0_1).length = (y10.2).length from hl15.symm)] at F7
  refine wS_pure 1 [(1, .int .i64 (y10.1))] (by kernel_rfl) ?_
  refine wS_end (by rfl) ?_
  refine eX_then ?_
  refine cW_seq ?_
  refine cW_region ?_
  refine wS_pure 1 [(9, .pointer (some ⟨b4, 2, none⟩))] (by kernel_rfl) ?_
  refine wS_load1 (d := 10) (T := 24) (ad := ⟨b4, 2, none⟩) (v := .slice A0_2 (l0_2).length cap0_2) (by kernel_rfl) vt24 ((F7).cell 2) ?_
  refine wS_pure 1 [(11, .int .i64 (y10.1))] (by kernel_rfl) ?_
  obtain ⟨y17, hy18, hm⟩ := bindE hm
  refine wS_calls (d := 12) (f := 35) (vs := [.slice A0_2 (l0_2).length cap0_2, .int .i64 (y10.1)]) (by kernel_rfl) ent35 (c_laws_markInt64SS hy18 F0_2) ?_
  rintro _ w19 ⟨rfl, F21, hl22, hc20⟩
  replace F14 := F14.chg hc20 (Dj.app J0_1__0_2 Dj.nil)
  replace F0_3 := F0_3.chg hc20 (Dj.app (J0_2__0_3).symm Dj.nil)
  replace F7 := F7.chg hc20 (dj1 (Dj.app (Dj.of L0_2 (low1 G6)).symm Dj.nil))
  replace hB := hB.inS hc20 (inApp (inMem (fun x hx => (List.mem_append_right _ (List.mem_append_left _ hx)))) inNil)
  replace hZ := Nat.le_trans hZ hc20.size
  clear F0_2
  have hl23 := hl22.trans (Eq.refl (l0_2).length)
  refine ⟨.int .i64 (y17.1), rfl, ?_⟩
  rewrite [(show (l0_2).length = (y17.2).length from hl22.symm)]
  try rewrite [(show (l0_2).length = (y17.2).length from hl22.symm)] at F7
  refine wS_pure 1 [(1, .int .i64 (y17.1))] (by kernel_rfl) ?_
  refine wS_end (by rfl) ?_
  refine eX_then ?_
  refine cW_seq ?_
  refine cW_region ?_
  refine wS_pure 1 [(13, .pointer (some ⟨b4, 3, none⟩))] (by kernel_rfl) ?_
  refine wS_load1 (d := 14) (T := 25) (ad := ⟨b4, 3, none⟩) (v := .slice A0_3 (l0_3).length cap0_3) (by kernel_rfl) vt25 ((F7).cell 3) ?_
  refine wS_pure 1 [(15, .int .i64 (y17.1))] (by kernel_rfl) ?_
  obtain ⟨y24, hy25, hm⟩ := bindE hm
  refine wS_calls (d := 16) (f := 44) (vs := [.slice A0_3 (l0_3).length cap0_3, .int .i64 (y17.1)]) (by kernel_rfl) ent44 (c_laws_markInt64S hy25 F0_3) ?_
  rintro _ w26 ⟨rfl, F28, hl29, hc27⟩
  replace F14 := F14.chg hc27 (Dj.app J0_1__0_3 Dj.nil)
  replace F21 := F21.chg hc27 (Dj.app J0_2__0_3 Dj.nil)
  replace F7 := F7.chg hc27 (dj1 (Dj.app (Dj.of L0_3 (low1 G6)).symm Dj.nil))
  replace hB := hB.inS hc27 (inApp (inMem (fun x hx => (List.mem_append_right _ (List.mem_append_right _ (List.mem_append_left _ hx))))) inNil)
  replace hZ := Nat.le_trans hZ hc27.size
  clear F0_3
  have hl30 := hl29.trans (Eq.refl (l0_3).length)
  refine ⟨.int .i64 (y24.1), rfl, ?_⟩
  rewrite [(show (l0_3).length = (y24.2).length from hl29.symm)]
  try rewrite [(show (l0_3).length = (y24.2).length from hl29.symm)] at F7
  refine wS_pure 1 [(1, .int .i64 (y24.1))] (by kernel_rfl) ?_
  refine wS_end (by rfl) ?_
  refine eX_then ?_
  refine cW_seq ?_
  refine cW_region ?_
  refine wS_pure 2 [(4, .int .i64 (y24.1)), (17, .int .i64 (y24.1))] (by kernel_rfl) ?_
  refine wS_end (by rfl) ?_
  refine eX_then ?_
  refine cW_ret ?_
  have hq : (some ((y24.1, y10.2, y17.2, y24.2)) : Option ((Int) × (List (List (Int))) × (List (List (Int))) × (List (Int)))) = some _ := hm
  replace hq := someE hq
  subst hq
  refine eX_ret (vs := [.int .i64 (y24.1)]) [.tmp 4] (by rfl) ⟨by (show lkE _ _ _ = _); kernel_rfl, trivial⟩ ?_
  exact ⟨rfl, F14, (by first | exact hl16 | rfl), F21, (by first | exact hl23 | rfl), F28, (by first | exact hl30 | rfl), hB⟩

set_option maxRecDepth 100000 in
/-- spec.l00Has -/
theorem c_spec_l00Has {w0 : World} {l0 : List (Int)} {A0 : Option Addr} {cap0 : Nat} {fp0 : List Nat} {p1 : Int} {r : (Bool)} (hm : m_spec_l00Has l0 p1 = some r) (F0 : Sl 1 encI w0 fp0 A0 l0) :
    Calls Try.prog 119 #[.slice A0 (l0).length cap0, .int .i64 (p1)] w0 fun e w' => e = .returned (.bool (r)) ∧ Chg [] w0 w' := by
  have L0 := F0.low
  have hB : Chg [] w0 w0 := Chg.refl _ _
  have hZ := Nat.le_refl w0.heap.size
  unfold m_spec_l00Has at hm
  refine enterE (N := 18) Try.func119 (by rfl) Try.ntmps119 (by simp) [(0, .slice A0 (l0).length cap0), (1, .int .i64 (p1))] (by rfl) (by kernel_rfl) (fun a => ?_)
  refine cW_seq ?_
  refine cW_region ?_
  refine wS_pure 1 [(4, .bool (false))] (by kernel_rfl) ?_
  refine wS_end (by rfl) ?_
  refine eX_then ?_
  refine cW_seq ?_
  refine cW_seq ?_
  refine cW_region ?_
  refine wS_pure 1 [(5, .int .i64 (0))] (by kernel_rfl) ?_
  refine wS_end (by rfl) ?_
  refine eX_then ?_
  obtain ⟨r21, hr22, hm⟩ := bindE hm
  have hm23 := hm
  refine cW_cut (fun a' w' => Sum.inl (()) = r21 ∧ Fr 18 [] a' ∧ Chg [] w0 w' ∧ w0.heap.size ≤ w'.heap.size) ?_ ?_
  · refine cW_block ?_
    refine cW_loop _ (fun (s24 : Int) a' w' => ∃ x18 : Int, x18 = s24 ∧ Fr 18 [(0, .slice A0 (l0).length cap0), (1, .int .i64 (p1)), (5, .int .i64 (x18))] a' ∧ Sl 1 encI w' fp0 A0 l0 ∧ Chg [] w0 w' ∧ w0.heap.size ≤ w'.heap.size) hr22 (fun hst => ⟨0, rfl, Fr.of hst (by kernel_rfl), F0, hB, hZ⟩) ?_
    rintro _ c25 a' w17 ⟨x18, rfl, hF19, F20, hB, hZ⟩ hx26
    refine Fr.goOn hF19 (by kernel_rfl) ?_
    have hm := hx26
    unfold m_spec_l00Has_s1 at hm
    refine cW_seq ?_
    refine cW_seq ?_
    refine cW_region ?_
    refine wS_pure 4 [(9, .bool (decide (x18 < (((l0).length : Int))))), (8, .int .i64 (((l0).length : Int))), (7, .slice A0 (l0).length cap0), (6, .int .i64 (x18))] (by kernel_rfl) ?_
    refine wS_end (by rfl) ?_
    refine eX_then ?_
    refine cW_cond (t := decide (x18 < (((l0).length : Int)))) (by kernel_rfl) (fun hb27 => ?_) (fun hb27 => ?_)
    · have hm := condT hb27 hm
      refine cW_skip ?_
      refine eX_then ?_
      refine cW_seq ?_
      refine cW_block ?_
      refine cW_seq ?_
      refine cW_region ?_
      refine wS_pure 2 [(13, .int .i64 (x18)), (12, .slice A0 (l0).length cap0)] (by kernel_rfl) ?_
      obtain ⟨x28, hx29, hm⟩ := bindE hm
      refine wS_idx (d := 14) (T := 25) (A := A0) (n := (l0).length) (cap := cap0) (kd := .i64) (m := x18) (by kernel_rfl) sl25 (F20.is hx29) ?_
      refine wS_load1 (d := 15) (T := 2) (ad := (elA A0 1 (x18) 0)) (v := .int .i64 (x28)) (by kernel_rfl) vt2 (Sl.cell F20 hx29 0 (by rfl)) ?_
      refine wS_pure 2 [(17, .bool (x28 == p1)), (16, .int .i64 (p1))] (by kernel_rfl) ?_
      refine wS_end (by rfl) ?_
      refine eX_then ?_
      refine cW_cond (t := x28 == p1) (by kernel_rfl) (fun hb30 => ?_) (fun hb30 => ?_)
      · have hm := condT hb30 hm
        refine cW_seq ?_
        refine cW_region ?_
        refine wS_pure 1 [(4, .bool (true))] (by kernel_rfl) ?_
        refine wS_end (by rfl) ?_
        refine eX_then ?_
        refine cW_ret ?_
        refine eX_block_ret ?_
        refine eX_then_ret ?_
        have hq : (some (Ctl.out (Sum.inr true)) : Option (Ctl (Int) (Sum (Unit) ((Bool))))) = some _ := hm
        replace hq := someE hq
        subst hq
        refine eX_outR hx26 (fun hr => ?_)
        subst hr
        refine eX_block_ret ?_
        refine eX_then_ret ?_
        refine eX_then_ret ?_
        have hq : (some true : Option ((Bool))) = some _ := hm23
        replace hq := someE hq
        subst hq
        refine eX_ret (vs := [.bool (true)]) [.tmp 4] (by rfl) ⟨by (show lkE _ _ _ = _); kernel_rfl, trivial⟩ ?_
        exact ⟨rfl, hB⟩
      · have hm := condF hb30 hm
        refine cW_skip ?_
        refine eX_block ?_
        refine eX_then ?_
        refine cW_region ?_
        refine wS_pure 3 [(5, .int .i64 (wr (x18 + 1))), (11, .int .i64 (wr (x18 + 1))), (10, .int .i64 (x18))] (by kernel_rfl) ?_
        refine wS_end (by rfl) ?_
        have hq : (some (Ctl.next (wr (x18 + 1))) : Option (Ctl (Int) (Sum (Unit) ((Bool))))) = some _ := hm
        replace hq := someE hq
        subst hq
        exact eX_next hx26 (fun hst => ⟨wr (x18 + 1), rfl, Fr.of hst (by kernel_rfl), F20, hB, hZ⟩)
    · have hm := condF hb27 hm
      refine cW_exit ?_
      refine eX_then_exit ?_
      have hq : (some (Ctl.out (Sum.inl (()))) : Option (Ctl (Int) (Sum (Unit) ((Bool))))) = some _ := hm
      replace hq := someE hq
      subst hq
      refine eX_outX hx26 (fun hr31 => ?_)
      replace hr31 := hr31.symm
      subst hr31
      refine eX_block_hit ?_
      exact eX_J (fun hst => ⟨rfl, Fr.of hst (by kernel_rfl), hB, hZ⟩)
  · rintro a' w15 ⟨hJ, hF16, hB, hZ⟩
    subst hJ
    refine Fr.goX hF16 (by kernel_rfl) ?_
    refine eX_then ?_
    refine cW_seq ?_
    refine cW_region ?_
    refine wS_pure 1 [(4, .bool (false))] (by kernel_rfl) ?_
    refine wS_end (by rfl) ?_
    refine eX_then ?_
    refine cW_ret ?_
    have hq : (some false : Option ((Bool))) = some _ := hm
    replace hq := someE hq
    subst hq
    refine eX_ret (vs := [.bool (false)]) [.tmp 4] (by rfl) ⟨by (show lkE _ _ _ = _); kernel_rfl, trivial⟩ ?_
    exact ⟨rfl, hB⟩

set_option maxRecDepth 100000 in
/-- spec.l07Ring -/
theorem c_spec_l07Ring_bimplWiring_body {R : (Int) → (List (List (Int))) → (List (List (Int))) → (List (Int)) → (List (Int)) → (Int) → Option ((List (Int)) × (Bool))} (hR : ∀ {w0 : World} {q0_0 : Int} {l0_1 : List (List (Int))} {A0_1 : Option Addr} {cap0_1 : Nat} {fp0_1 : List Nat} {l0_2 : List (List (Int))} {A0_2 : Option Addr} {cap0_2 : Nat} {fp0_2 : List Nat} {l0_3 : List (Int)} {A0_3 : Option Addr} {cap0_3 : Nat} {fp0_3 : List Nat} {b0 : Nat} {l1 : List (Int)} {A1 : Option Addr} {cap1 : Nat} {fp1 : List Nat} {p2 : Int} {r : (List (Int)) × (Bool)} (hm : R q0_0 l0_1 l0_2 l0_3 l1 p2 = some r) (F0_1 : SlR 1 encI w0 fp0_1 A0_1 l0_1) (F0_2 : SlR 1 encI w0 fp0_2 A0_2 l0_2) (F0_3 : Sl 1 encI w0 fp0_3 A0_3 l0_3) (F0 : Cl w0 b0 27 [.int .i64 (q0_0), .slice A0_1 (l0_1).length cap0_1, .slice A0_2 (l0_2).length cap0_2, .slice A0_3 (l0_3).length cap0_3]) (F1 : Sl 1 encI w0 fp1 A1 l1) (K1 : (l1).length ≤ cap1), Calls Try.prog 122 #[.pointer (some ⟨b0, 0, none⟩), .slice A1 (l1).length cap1, .int .i64 (p2)] w0 fun e w' => ∃ A100 cap100 fp100, e = .returned (.tuple #[.slice A100 (r.1).length cap100, .bool (r.2)]) ∧ Sl 1 encI w' fp100 A100 r.1 ∧ Rt w0.heap.size (fp0_1 ++ (fp0_2 ++ (fp0_3 ++ (fp1 ++ [])))) fp100 ∧ (r.1).length ≤ cap100 ∧ Chg [] w0 w') {w0 : World} {q0_0 : Int} {l0_1 : List (List (Int))} {A0_1 : Option Addr} {cap0_1 : Nat} {fp0_1 : List Nat} {l0_2 : List (List (Int))} {A0_2 : Option Addr} {cap0_2 : Nat} {fp0_2 : List Nat} {l0_3 : List (Int)} {A0_3 : Option Addr} {cap0_3 : Nat} {fp0_3 : List Nat} {b0 : Nat} {l1 : List (Int)} {A1 : Option Addr} {cap1 : Nat} {fp1 : List Nat} {p2 : Int} {r : (List (Int)) × (Bool)} (hm : m_spec_l07Ring_bimplWiring_body R q0_0 l0_1 l0_2 l0_3 l1 p2 = some r) (F0_1 : SlR 1 encI w0 fp0_1 A0_1 l0_1) (F0_2 : SlR 1 encI w0 fp0_2 A0_2 l0_2) (F0_3 : Sl 1 encI w0 fp0_3 A0_3 l0_3) (F0 : Cl w0 b0 27 [.int .i64 (q0_0), .slice A0_1 (l0_1).length cap0_1, .slice A0_2 (l0_2).length cap0_2, .slice A0_3 (l0_3).length cap0_3]) (F1 : Sl 1 encI w0 fp1 A1 l1) (K1 : (l1).length ≤ cap1) :
    Calls Try.prog 122 #[.pointer (some ⟨b0, 0, none⟩), .slice A1 (l1).length cap1, .int .i64 (p2)] w0 fun e w' => ∃ A100 cap100 fp100, e = .returned (.tuple #[.slice A100 (r.1).length cap100, .bool (r.2)]) ∧ Sl 1 encI w' fp100 A100 r.1 ∧ Rt w0.heap.size (fp0_1 ++ (fp0_2 ++ (fp0_3 ++ (fp1 ++ [])))) fp100 ∧ (r.1).length ≤ cap100 ∧ Chg [] w0 w' := by
  have L0_1 := F0_1.low
  have L0_2 := F0_2.low
  have L0_3 := F0_3.low
  have L0 := lt1 F0.lt
  have L1 := F1.low
  have hB : Chg [] w0 w0 := Chg.refl _ _
  have hZ := Nat.le_refl w0.heap.size
  unfold m_spec_l07Ring_bimplWiring_body at hm
  refine enterE (N := 66) Try.func122 (by rfl) Try.ntmps122 (by simp) [(0, .pointer (some ⟨b0, 0, none⟩)), (1, .slice A1 (l1).length cap1), (2, .int .i64 (p2))] (by rfl) (by kernel_rfl) (fun a => ?_)
  refine cW_seq ?_
  refine cW_region ?_
  refine wS_pure 2 [(7, .bool (false)), (6, .slice none 0 0)] (by kernel_rfl) ?_
  refine wS_end (by rfl) ?_
  refine eX_then ?_
  refine cW_seq ?_
  refine cW_seq ?_
  refine cW_region ?_
  refine wS_pure 4 [(14, .bool ((((l1).length : Int)) == p2)), (13, .int .i64 (p2)), (12, .int .i64 (((l1).length : Int))), (11, .slice A1 (l1).length cap1)] (by kernel_rfl) ?_
  refine wS_end (by rfl) ?_
  refine eX_then ?_
  refine cW_cond (t := (((l1).length : Int)) == p2) (by kernel_rfl) (fun hb6 => ?_) (fun hb6 => ?_)
  · have hm := condT hb6 hm
    refine cW_seq ?_
    refine cW_drawnTail [] 11 (by kernel_rfl) (by kernel_rfl) (fun w22 hc23 => ?_)
    replace F0_1 := F0_1.chg hc23 Dj.nil
    replace F0_2 := F0_2.chg hc23 Dj.nil
    replace F0_3 := F0_3.chg hc23 Dj.nil
    replace F0 := F0.chg hc23 notNil
    replace F1 := F1.chg hc23 Dj.nil
    replace hB := hB.inS hc23 inNil
    replace hZ := Nat.le_trans hZ hc23.size
    have hS := Chg.refl [] w22
    have Z24 := F0_1
    have Z25 := F0_2
    have Z26 := F0_3
    have Z27 := F0
    have Z28 := F1
    refine wH_take [0, 1, 2, 3, 4] [4, 3, 2, 1, 0] [(19, .int .i64 (wr (p2 - 1))), (18, .int .i64 (p2)), (17, .slice A1 (l1).length cap1), (16, .pointer (some ⟨b0, 0, none⟩)), (15, .slice A1 (l1).length cap1)] (by kernel_rfl) (qT (qT (qT qZ))) (by kernel_rfl) ?_
    obtain ⟨x29, hx30, hm⟩ := bindE hm
    refine wH_idx (i := 5) (d := 20) (T := 25) (A := A1) (n := (l1).length) (cap := cap1) (kd := .i64) (m := wr (p2 - 1)) (by kernel_rfl) (qT (qT (qT qZ))) (by kernel_rfl) (by kernel_rfl) sl25 (F1.is hx30) ?_
    refine wH_load1 (i := 6) (d := 21) (T := 2) (ad := (elA A1 1 (wr (p2 - 1)) 0)) (v := .int .i64 (x29)) (by kernel_rfl) (qT (qT (qT qZ))) (by kernel_rfl) (by kernel_rfl) vt2 (fun W hW => Sl.cell (Z28.chg hW Dj.nil) hx30 0 (by rfl)) ?_
    refine wH_take [7] [7, 6, 5, 4, 3, 2, 1, 0] [(22, .slice A1 (l1).length cap1)] (by kernel_rfl) (qT (qT (qT qZ))) (by kernel_rfl) ?_
    obtain ⟨x31, hx32, hm⟩ := bindE hm
    refine wH_idx (i := 8) (d := 23) (T := 25) (A := A1) (n := (l1).length) (cap := cap1) (kd := .i64) (m := 0) (by kernel_rfl) (qT (qT (qT qZ))) (by kernel_rfl) (by kernel_rfl) sl25 (F1.is hx32) ?_
    refine wH_load1 (i := 9) (d := 24) (T := 2) (ad := (elA A1 1 (0) 0)) (v := .int .i64 (x31)) (by kernel_rfl) (qT (qT (qT qZ))) (by kernel_rfl) (by kernel_rfl) vt2 (fun W hW => Sl.cell (Z28.chg hW Dj.nil) hx32 0 (by rfl)) ?_
    refine wH_all [10] (by rfl) (by kernel_rfl) (by simp) ⟨⟨by kernel_rfl, ?_⟩, trivial⟩
    obtain ⟨y33, hy34, hm⟩ := bindE hm
    refine wS_calls (d := 25) (f := 120) (vs := [.pointer (some ⟨b0, 0, none⟩), .int .i64 (x29), .int .i64 (x31)]) (by kernel_rfl) ent120 (c_spec_l07Cross_bimplWiring hy34 F0_1 F0_2 F0_3 F0) ?_
    rintro _ w35 ⟨rfl, hc36⟩
    replace F0_1 := F0_1.chg hc36 Dj.nil
    replace F0_2 := F0_2.chg hc36 Dj.nil
    replace F0_3 := F0_3.chg hc36 Dj.nil
    replace F0 := F0.chg hc36 notNil
    replace F1 := F1.chg hc36 Dj.nil
    replace hB := hB.inS hc36 inNil
    have hSz := hS
    replace hS := hS.inS hc36 inNil
    replace hZ := Nat.le_trans hZ hc36.size
    refine ⟨.bool (y33), rfl, ?_⟩
    refine wS_end (by kernel_rfl) ?_
    refine eX_KH hS ?_
    refine wH_done (by kernel_rfl) ?_
    refine eX_tail ?_
    refine wS_pure 2 [(7, .bool (y33)), (6, .slice A1 (l1).length cap1)] (by kernel_rfl) ?_
    refine wS_end (by rfl) ?_
    refine eX_then ?_
    refine cW_ret ?_
    refine eX_then_ret ?_
    have hq : (some ((l1, y33)) : Option ((List (Int)) × (Bool))) = some _ := hm
    replace hq := someE hq
    subst hq
    refine eX_ret (vs := [.slice A1 (l1).length cap1, .bool (y33)]) [.tmp 6, .tmp 7] (by rfl) ⟨by (show lkE _ _ _ = _); kernel_rfl, ⟨by (show lkE _ _ _ = _); kernel_rfl, trivial⟩⟩ ?_
    exact ⟨A1, cap1, fp1, rfl, F1, (Rt.mem (fun x hx => (List.mem_append_right _ (List.mem_append_right _ (List.mem_append_right _ (List.mem_append_left _ hx)))))), K1, hB⟩
  · have hm := condF hb6 hm
    refine cW_skip ?_
    refine eX_then ?_
    refine cW_seq ?_
    refine cW_seq ?_
    refine cW_region ?_
    refine wS_pure 1 [(26, .slice A1 (l1).length cap1)] (by kernel_rfl) ?_
    obtain ⟨x37, hx38, hm⟩ := bindE hm
    refine wS_idx (d := 27) (T := 25) (A := A1) (n := (l1).length) (cap := cap1) (kd := .i64) (m := 0) (by kernel_rfl) sl25 (F1.is hx38) ?_
    refine wS_load1 (d := 28) (T := 2) (ad := (elA A1 1 (0) 0)) (v := .int .i64 (x37)) (by kernel_rfl) vt2 (Sl.cell F1 hx38 0 (by rfl)) ?_
    refine wS_pure 2 [(8, .int .i64 (wr (x37 + 1))), (29, .int .i64 (wr (x37 + 1)))] (by kernel_rfl) ?_
    refine wS_end (by rfl) ?_
    refine eX_then ?_
    obtain ⟨r178, hr179, hm⟩ := bindE hm
    have hm180 := hm
    refine cW_cut (fun a' w' => Sum.inl (()) = r178 ∧ Fr 66 [] a' ∧ Chg [] w0 w' ∧ w0.heap.size ≤ w'.heap.size) ?_ ?_
    · refine cW_block ?_
      refine cW_loop _ (fun (s181 : Int) a' w' => ∃ x171 : Int, x171 = s181 ∧ Fr 66 [(0, .pointer (some ⟨b0, 0, none⟩)), (1, .slice A1 (l1).length cap1), (2, .int .i64 (p2)), (8, .int .i64 (x171))] a' ∧ SlR 1 encI w' fp0_1 A0_1 l0_1 ∧ SlR 1 encI w' fp0_2 A0_2 l0_2 ∧ Sl 1 encI w' fp0_3 A0_3 l0_3 ∧ Cl w' b0 27 [.int .i64 (q0_0), .slice A0_1 (l0_1).length cap0_1, .slice A0_2 (l0_2).length cap0_2, .slice A0_3 (l0_3).length cap0_3] ∧ Sl 1 encI w' fp1 A1 l1 ∧ Chg [] w0 w' ∧ w0.heap.size ≤ w'.heap.size) hr179 (fun hst => ⟨wr (x37 + 1), rfl, Fr.of hst (by kernel_rfl), F0_1, F0_2, F0_3, F0, F1, hB, hZ⟩) ?_
      rintro _ c182 a' w170 ⟨x171, rfl, hF172, F173, F174, F175, F176, F177, hB, hZ⟩ hx183
      refine Fr.goOn hF172 (by kernel_rfl) ?_
      have hm := hx183
      unfold m_spec_l07Ring_bimplWiring_s1 at hm
      refine cW_seq ?_
      refine cW_seq ?_
      refine cW_region ?_
      refine wS_pure 4 [(33, .pointer (some ⟨b0, 0, none⟩)), (32, .pointer (some ⟨b0, 0, none⟩)), (31, .pointer (some ⟨b0, 0, none⟩)), (30, .int .i64 (x171))] (by kernel_rfl) ?_
      refine wS_load1 (d := 34) (T := 2) (ad := ⟨b0, 0, none⟩) (v := .int .i64 (q0_0)) (by kernel_rfl) vt2 ((F176).cell 0) ?_
      refine wS_pure 1 [(35, .bool (decide (x171 < q0_0)))] (by kernel_rfl) ?_
      refine wS_end (by rfl) ?_
      refine eX_then ?_
      refine cW_cond (t := decide (x171 < q0_0)) (by kernel_rfl) (fun hb184 => ?_) (fun hb184 => ?_)
      · have hm := condT hb184 hm
        refine cW_skip ?_
        refine eX_then ?_
        refine cW_seq ?_
        refine cW_block ?_
        refine cW_seq ?_
        refine cW_seq ?_
        refine cW_region ?_
        refine wS_pure 2 [(39, .int .i64 (x171)), (38, .slice A1 (l1).length cap1)] (by kernel_rfl) ?_
        obtain ⟨y185, hy186, hm⟩ := bindE hm
        refine wS_calls (d := 40) (f := 119) (vs := [.slice A1 (l1).length cap1, .int .i64 (x171)]) (by kernel_rfl) ent119 (c_spec_l00Has hy186 F177) ?_
        rintro _ w187 ⟨rfl, hc188⟩
        replace F173 := F173.chg hc188 Dj.nil
        replace F174 := F174.chg hc188 Dj.nil
        replace F175 := F175.chg hc188 Dj.nil
        replace F176 := F176.chg hc188 notNil
        replace F177 := F177.chg hc188 Dj.nil
        replace hB := hB.inS hc188 inNil
        replace hZ := Nat.le_trans hZ hc188.size
        refine ⟨.bool (y185), rfl, ?_⟩
        refine wS_pure 1 [(41, .bool (y185))] (by kernel_rfl) ?_
        refine wS_bool y185 (fun hb189 => ?_) (fun hb189 => ?_)
        · have hm := condT hb189 hm
          rewrite [hb189]
          refine wS_pure 11 [(52, .bool (true)), (51, undef), (50, undef), (49, undef), (48, undef), (47, undef), (46, undef), (45, undef), (44, undef), (43, undef), (42, undef)] (by kernel_rfl) ?_
          refine wS_end (by rfl) ?_
          refine eX_then ?_
          refine cW_prune [(0, .pointer (some ⟨b0, 0, none⟩)), (1, .slice A1 (l1).length cap1), (2, .int .i64 (p2)), (8, .int .i64 (x171)), (52, .bool (true))] (by kernel_rfl) (by kernel_rfl) (fun a190 => ?_)
          refine cW_cond_t (by kernel_rfl) ?_
          refine cW_exit ?_
          refine eX_then_exit ?_
          refine eX_block_hit ?_
          refine eX_then ?_
          refine cW_region ?_
          refine wS_pure 3 [(8, .int .i64 (wr (x171 + 1))), (37, .int .i64 (wr (x171 + 1))), (36, .int .i64 (x171))] (by kernel_rfl) ?_
          refine wS_end (by rfl) ?_
          have hq : (some (Ctl.next (wr (x171 + 1))) : Option (Ctl (Int) (Sum (Unit) ((List (Int)) × (Bool))))) = some _ := hm
          replace hq := someE hq
          subst hq
          exact eX_next hx183 (fun hst => ⟨wr (x171 + 1), rfl, Fr.of hst (by kernel_rfl), F173, F174, F175, F176, F177, hB, hZ⟩)
        · have hm := condF hb189 hm
          rewrite [hb189]
          refine wS_pure 5 [(46, .int .i64 (wr ((((l1).length : Int)) - 1))), (45, .int .i64 (((l1).length : Int))), (44, .slice A1 (l1).length cap1), (43, .slice A1 (l1).length cap1), (42, .pointer (some ⟨b0, 0, none⟩))] (by kernel_rfl) ?_
          obtain ⟨x191, hx192, hm⟩ := bindE hm
          refine wS_idx (d := 47) (T := 25) (A := A1) (n := (l1).length) (cap := cap1) (kd := .i64) (m := wr ((((l1).length : Int)) - 1)) (by kernel_rfl) sl25 (F177.is hx192) ?_
          refine wS_load1 (d := 48) (T := 2) (ad := (elA A1 1 (wr ((((l1).length : Int)) - 1)) 0)) (v := .int .i64 (x191)) (by kernel_rfl) vt2 (Sl.cell F177 hx192 0 (by rfl)) ?_
          refine wS_pure 1 [(49, .int .i64 (x171))] (by kernel_rfl) ?_
          obtain ⟨y193, hy194, hm⟩ := bindE hm
          refine wS_calls (d := 50) (f := 120) (vs := [.pointer (some ⟨b0, 0, none⟩), .int .i64 (x191), .int .i64 (x171)]) (by kernel_rfl) ent120 (c_spec_l07Cross_bimplWiring hy194 F173 F174 F175 F176) ?_
          rintro _ w195 ⟨rfl, hc196⟩
          replace F173 := F173.chg hc196 Dj.nil
          replace F174 := F174.chg hc196 Dj.nil
          replace F175 := F175.chg hc196 Dj.nil
          replace F176 := F176.chg hc196 notNil
          replace F177 := F177.chg hc196 Dj.nil
          replace hB := hB.inS hc196 inNil
          replace hZ := Nat.le_trans hZ hc196.size
          refine ⟨.bool (y193), rfl, ?_⟩
          refine wS_pure 2 [(52, .bool (!y193)), (51, .bool (!y193))] (by kernel_rfl) ?_
          refine wS_end (by rfl) ?_
          refine eX_then ?_
          refine cW_prune [(0, .pointer (some ⟨b0, 0, none⟩)), (1, .slice A1 (l1).length cap1), (2, .int .i64 (p2)), (8, .int .i64 (x171)), (52, .bool (!y193))] (by kernel_rfl) (by kernel_rfl) (fun a197 => ?_)
          refine cW_cond (t := !y193) (by kernel_rfl) (fun hb198 => ?_) (fun hb198 => ?_)
          · have hm := condT hb198 hm
            refine cW_exit ?_
            refine eX_then_exit ?_
            refine eX_block_hit ?_
            refine eX_then ?_
            refine cW_region ?_
            refine wS_pure 3 [(8, .int .i64 (wr (x171 + 1))), (37, .int .i64 (wr (x171 + 1))), (36, .int .i64 (x171))] (by kernel_rfl) ?_
            refine wS_end (by rfl) ?_
            have hq : (some (Ctl.next (wr (x171 + 1))) : Option (Ctl (Int) (Sum (Unit) ((List (Int)) × (Bool))))) = some _ := hm
            replace hq := someE hq
            subst hq
            exact eX_next hx183 (fun hst => ⟨wr (x171 + 1), rfl, Fr.of hst (by kernel_rfl), F173, F174, F175, F176, F177, hB, hZ⟩)
          · have hm := condF hb198 hm
            refine cW_skip ?_
            refine eX_then ?_
            refine cW_seq ?_
            refine cW_region ?_
            refine wS_pure 2 [(55, .slice A1 (l1).length cap1), (54, .pointer (some ⟨b0, 0, none⟩))] (by kernel_rfl) ?_
            obtain ⟨y199, hy200, hm⟩ := bindE hm
            refine wS_calls (d := 56) (f := 88) (vs := [.slice A1 (l1).length cap1]) (by kernel_rfl) ent88 (c_spec_l00Own hy200 F177) ?_
            rintro _ w201 ⟨A203, cap204, fp205, rfl, F206, G207, hc202⟩
            replace F173 := F173.chg hc202 Dj.nil
            replace F174 := F174.chg hc202 Dj.nil
            replace F175 := F175.chg hc202 Dj.nil
            replace F176 := F176.chg hc202 notNil
            replace F177 := F177.chg hc202 Dj.nil
            replace hB := hB.inS hc202 inNil
            replace G207 := low_le hZ G207
            replace hZ := Nat.le_trans hZ hc202.size
            refine ⟨.slice A203 (y199).length cap204, rfl, ?_⟩
            refine wS_pure 1 [(57, .int .i64 (x171))] (by kernel_rfl) ?_
            refine wS_bs (enc := encI) ([x171] : List (Int)) [.int .i64 (x171)] (d := 58) (t := 25) (T := 2) (n := 1) (ps := [(0, .int .i64 (x171))]) (by kernel_rfl) el25 encI_ok (by rfl) (by omega) (by omega) (by kernel_rfl) (by rfl) ?_
            intro b210 w211 G212 F213 hc214
            have D216 : Dj fp205 [b210] := Dj.of F206.low (low1 G212)
            replace F173 := F173.chg hc214 Dj.nil
            replace F174 := F174.chg hc214 Dj.nil
            replace F175 := F175.chg hc214 Dj.nil
            replace F176 := F176.chg hc214 notNil
            replace F177 := F177.chg hc214 Dj.nil
            replace F206 := F206.chg hc214 Dj.nil
            replace hB := hB.inS hc214 inNil
            replace G212 := Nat.le_trans hZ G212
            replace G212 := low1 G212
            replace hZ := Nat.le_trans hZ hc214.size
            obtain ⟨_, hk217, hm⟩ := bindE hm
            replace hk217 := apE hk217
            refine wS_append (enc := encI) (l := (y199 : List (Int))) (l2 := (([x171] : List (Int)) : List (Int))) (d := 59) (t := 25) (T := 2) (A := A203) (A2 := (some ⟨b210, 0, none⟩)) (cap := cap204) (cap2 := 1) (by kernel_rfl) el25 encI_ok F206 (F213.sl encI_ok) (by rfl) hk217 ?_
            intro w218 fp219 A220 cap221 F222 hc223 hp224
            have G226 := low_ap G207 hZ hp224
            have D227 : Dj [b210] fp219 := Dj.ap (D216).symm F213.low hp224
            replace F173 := F173.chg hc223 (Dj.of L0_1 G207)
            replace F174 := F174.chg hc223 (Dj.of L0_2 G207)
            replace F175 := F175.chg hc223 (Dj.of L0_3 G207)
            replace F176 := F176.chg hc223 (dj1 (Dj.of L0 G207))
            replace F177 := F177.chg hc223 (Dj.of L1 G207)
            replace F213 := F213.chg hc223 (D216).symm
            replace hB := hB.inS hc223 (inLow G207)
            replace hZ := Nat.le_trans hZ hc223.size
            refine wS_pure 1 [(60, .int .i64 (p2))] (by kernel_rfl) ?_
            obtain ⟨y228, hy229, hm⟩ := bindE hm
            refine wS_calls (d := 61) (f := 122) (vs := [.pointer (some ⟨b0, 0, none⟩), .slice A220 (y199 ++ (([x171] : List (Int)))).length cap221, .int .i64 (p2)]) (by kernel_rfl) ent122 (hR hy229 F173 F174 F175 F176 (F222.sl encI_ok) F222.cap_le) ?_
            rintro _ w230 ⟨A232, cap233, fp234, rfl, F235, G236, K237, hc231⟩
            have Rt239 : Rt w0.heap.size (fp0_1 ++ (fp0_2 ++ (fp0_3 ++ (fp1 ++ [])))) fp234 := Rt.of G236 hZ (Rt.app (Rt.mem (fun x hx => (List.mem_append_left _ hx))) (Rt.app (Rt.mem (fun x hx => (List.mem_append_right _ (List.mem_append_left _ hx)))) (Rt.app (Rt.mem (fun x hx => (List.mem_append_right _ (List.mem_append_right _ (List.mem_append_left _ hx))))) (Rt.app (Rt.low G226) Rt.nil))))
            have D240 : Dj [b210] fp234 := Rt.dj G236 F213.low (Dj.app (Dj.of L0_1 G212).symm (Dj.app (Dj.of L0_2 G212).symm (Dj.app (Dj.of L0_3 G212).symm (Dj.app D227 Dj.nil))))
            replace F173 := F173.chg hc231 Dj.nil
            replace F174 := F174.chg hc231 Dj.nil
            replace F175 := F175.chg hc231 Dj.nil
            replace F176 := F176.chg hc231 notNil
            replace F177 := F177.chg hc231 Dj.nil
            replace F213 := F213.chg hc231 Dj.nil
            replace F222 := F222.chg hc231 Dj.nil
            replace hB := hB.inS hc231 inNil
            replace hZ := Nat.le_trans hZ hc231.size
            refine ⟨.tuple #[.slice A232 (y228.1).length cap233, .bool (y228.2)], rfl, ?_⟩
            refine wS_pure 5 [(10, .bool (y228.2)), (9, .slice A232 (y228.1).length cap233), (63, .bool (y228.2)), (62, .slice A232 (y228.1).length cap233), (53, .tuple #[.slice A232 (y228.1).length cap233, .bool (y228.2)])] (by kernel_rfl) ?_
            refine wS_end (by rfl) ?_
            refine eX_then ?_
            refine cW_seq ?_
            refine cW_region ?_
            refine wS_pure 1 [(64, .bool (y228.2))] (by kernel_rfl) ?_
            refine wS_end (by rfl) ?_
            refine eX_then ?_
            refine cW_cond (t := y228.2) (by kernel_rfl) (fun hb241 => ?_) (fun hb241 => ?_)
            · have hm := condT hb241 hm
              refine cW_seq ?_
              refine cW_region ?_
              refine wS_pure 3 [(7, .bool (true)), (6, .slice A232 (y228.1).length cap233), (65, .slice A232 (y228.1).length cap233)] (by kernel_rfl) ?_
              refine wS_end (by rfl) ?_
              refine eX_then ?_
              refine cW_ret ?_
              refine eX_block_ret ?_
              refine eX_then_ret ?_
              have hq : (some (Ctl.out (Sum.inr ((y228.1, true)))) : Option (Ctl (Int) (Sum (Unit) ((List (Int)) × (Bool))))) = some _ := hm
              replace hq := someE hq
              subst hq
              refine eX_outR hx183 (fun hr => ?_)
              subst hr
              refine eX_block_ret ?_
              refine eX_then_ret ?_
              refine eX_then_ret ?_
              have hq : (some ((y228.1, true)) : Option ((List (Int)) × (Bool))) = some _ := hm180
              replace hq := someE hq
              subst hq
              refine eX_ret (vs := [.slice A232 (y228.1).length cap233, .bool (true)]) [.tmp 6, .tmp 7] (by rfl) ⟨by (show lkE _ _ _ = _); kernel_rfl, ⟨by (show lkE _ _ _ = _); kernel_rfl, trivial⟩⟩ ?_
              exact ⟨A232, cap233, fp234, rfl, F235, Rt239, K237, hB⟩
            · have hm := condF hb241 hm
              refine cW_skip ?_
              refine eX_block ?_
              refine eX_then ?_
              refine cW_region ?_
              refine wS_pure 3 [(8, .int .i64 (wr (x171 + 1))), (37, .int .i64 (wr (x171 + 1))), (36, .int .i64 (x171))] (by kernel_rfl) ?_
              refine wS_end (by rfl) ?_
              have hq : (some (Ctl.next (wr (x171 + 1))) : Option (Ctl (Int) (Sum (Unit) ((List (Int)) × (Bool))))) = some _ := hm
              replace hq := someE hq
              subst hq
              exact eX_next hx183 (fun hst => ⟨wr (x171 + 1), rfl, Fr.of hst (by kernel_rfl), F173, F174, F175, F176, F177, hB, hZ⟩)
      · have hm := condF hb184 hm
        refine cW_exit ?_
        refine eX_then_exit ?_
        have hq : (some (Ctl.out (Sum.inl (()))) : Option (Ctl (Int) (Sum (Unit) ((List (Int)) × (Bool))))) = some _ := hm
        replace hq := someE hq
        subst hq
        refine eX_outX hx183 (fun hr242 => ?_)
        replace hr242 := hr242.symm
        subst hr242
        refine eX_block_hit ?_
        exact eX_J (fun hst => ⟨rfl, Fr.of hst (by kernel_rfl), hB, hZ⟩)
    · rintro a' w168 ⟨hJ, hF169, hB, hZ⟩
      subst hJ
      refine Fr.goX hF169 (by kernel_rfl) ?_
      refine eX_then ?_
      refine cW_seq ?_
      refine cW_region ?_
      refine wS_pure 2 [(7, .bool (false)), (6, .slice none 0 0)] (by kernel_rfl) ?_
      refine wS_end (by rfl) ?_
      refine eX_then ?_
      refine cW_ret ?_
      have hq : (some (([], false)) : Option ((List (Int)) × (Bool))) = some _ := hm
      replace hq := someE hq
      subst hq
      refine eX_ret (vs := [.slice none 0 0, .bool (false)]) [.tmp 6, .tmp 7] (by rfl) ⟨by (show lkE _ _ _ = _); kernel_rfl, ⟨by (show lkE _ _ _ = _); kernel_rfl, trivial⟩⟩ ?_
      exact ⟨none, 0, [], rfl, (Ow.nil (k := 1) (enc := encI) (T := 0) _).sl encI_ok, Rt.nil, (Nat.le_refl _), hB⟩
set_option maxRecDepth 100000 in
theorem c_spec_l07Ring_bimplWiring (n : Nat) : ∀ {w0 : World} {q0_0 : Int} {l0_1 : List (List (Int))} {A0_1 : Option Addr} {cap0_1 : Nat} {fp0_1 : List Nat} {l0_2 : List (List (Int))} {A0_2 : Option Addr} {cap0_2 : Nat} {fp0_2 : List Nat} {l0_3 : List (Int)} {A0_3 : Option Addr} {cap0_3 : Nat} {fp0_3 : List Nat} {b0 : Nat} {l1 : List (Int)} {A1 : Option Addr} {cap1 : Nat} {fp1 : List Nat} {p2 : Int} {r : (List (Int)) × (Bool)} (hm : m_spec_l07Ring_bimplWiring n q0_0 l0_1 l0_2 l0_3 l1 p2 = some r) (F0_1 : SlR 1 encI w0 fp0_1 A0_1 l0_1) (F0_2 : SlR 1 encI w0 fp0_2 A0_2 l0_2) (F0_3 : Sl 1 encI w0 fp0_3 A0_3 l0_3) (F0 : Cl w0 b0 27 [.int .i64 (q0_0), .slice A0_1 (l0_1).length cap0_1, .slice A0_2 (l0_2).length cap0_2, .slice A0_3 (l0_3).length cap0_3]) (F1 : Sl 1 encI w0 fp1 A1 l1) (K1 : (l1).length ≤ cap1), Calls Try.prog 122 #[.pointer (some ⟨b0, 0, none⟩), .slice A1 (l1).length cap1, .int .i64 (p2)] w0 fun e w' => ∃ A100 cap100 fp100, e = .returned (.tuple #[.slice A100 (r.1).length cap100, .bool (r.2)]) ∧ Sl 1 encI w' fp100 A100 r.1 ∧ Rt w0.heap.size (fp0_1 ++ (fp0_2 ++ (fp0_3 ++ (fp1 ++ [])))) fp100 ∧ (r.1).length ≤ cap100 ∧ Chg [] w0 w' := by
  induction n with
  | zero => intro w0 q0_0 l0_1 A0_1 cap0_1 fp0_1 l0_2 A0_2 cap0_2 fp0_2 l0_3 A0_3 cap0_3 fp0_3 b0 l1 A1 cap1 fp1 p2 r hm F0_1 F0_2 F0_3 F0 F1 K1; exact nomatch (show (none : Option ((List (Int)) × (Bool))) = some r from hm)
  | succ n ih => intro w0 q0_0 l0_1 A0_1 cap0_1 fp0_1 l0_2 A0_2 cap0_2 fp0_2 l0_3 A0_3 cap0_3 fp0_3 b0 l1 A1 cap1 fp1 p2 r hm F0_1 F0_2 F0_3 F0 F1 K1; exact c_spec_l07Ring_bimplWiring_body ih hm F0_1 F0_2 F0_3 F0 F1 K1


set_option maxRecDepth 100000 in
/-- spec.l07Odd -/
theorem c_spec_l07Odd_bimplWiring {w0 : World} {q0_0 : Int} {l0_1 : List (List (Int))} {A0_1 : Option Addr} {cap0_1 : Nat} {fp0_1 : List Nat} {l0_2 : List (List (Int))} {A0_2 : Option Addr} {cap0_2 : Nat} {fp0_2 : List Nat} {l0_3 : List (Int)} {A0_3 : Option Addr} {cap0_3 : Nat} {fp0_3 : List Nat} {b0 : Nat} {r : (List (Int)) × (Bool)} (hm : m_spec_l07Odd_bimplWiring q0_0 l0_1 l0_2 l0_3 = some r) (F0_1 : SlR 1 encI w0 fp0_1 A0_1 l0_1) (F0_2 : SlR 1 encI w0 fp0_2 A0_2 l0_2) (F0_3 : Sl 1 encI w0 fp0_3 A0_3 l0_3) (F0 : Cl w0 b0 27 [.int .i64 (q0_0), .slice A0_1 (l0_1).length cap0_1, .slice A0_2 (l0_2).length cap0_2, .slice A0_3 (l0_3).length cap0_3]) :
    Calls Try.prog 86 #[.pointer (some ⟨b0, 0, none⟩)] w0 fun e w' => ∃ A100 cap100 fp100, e = .returned (.tuple #[.slice A100 (r.1).length cap100, .bool (r.2)]) ∧ Sl 1 encI w' fp100 A100 r.1 ∧ Rt w0.heap.size (fp0_1 ++ (fp0_2 ++ (fp0_3 ++ []))) fp100 ∧ (r.1).length ≤ cap100 ∧ Chg [] w0 w' := by
  have L0_1 := F0_1.low
  have L0_2 := F0_2.low
  have L0_3 := F0_3.low
  have L0 := lt1 F0.lt
  have hB : Chg [] w0 w0 := Chg.refl _ _
  have hZ := Nat.le_refl w0.heap.size
  unfold m_spec_l07Odd_bimplWiring at hm
  refine enterE (N := 64) Try.func86 (by rfl) Try.ntmps86 (by simp) [(0, .pointer (some ⟨b0, 0, none⟩))] (by rfl) (by kernel_rfl) (fun a => ?_)
  refine cW_seq ?_
  refine cW_region ?_
  refine wS_pure 2 [(3, .bool (false)), (2, .slice none 0 0)] (by kernel_rfl) ?_
  refine wS_end (by rfl) ?_
  refine eX_then ?_
  refine cW_seq ?_
  obtain ⟨s112, hs113, hm⟩ := bindE hm
  refine cW_cut (fun a' w' => ∃ b94 : Nat, ∃ x95 : Int, ∃ l97 : List (Int), ∃ A98 : Option Addr, ∃ cap99 : Nat, ∃ fp100 : List Nat, (x95, l97) = s112 ∧ Fr 64 [(0, .pointer (some ⟨b0, 0, none⟩)), (4, .pointer (some ⟨b94, 0, none⟩))] a' ∧ SlR 1 encI w' fp0_1 A0_1 l0_1 ∧ SlR 1 encI w' fp0_2 A0_2 l0_2 ∧ Sl 1 encI w' fp0_3 A0_3 l0_3 ∧ Cl w' b0 27 [.int .i64 (q0_0), .slice A0_1 (l0_1).length cap0_1, .slice A0_2 (l0_2).length cap0_2, .slice A0_3 (l0_3).length cap0_3] ∧ Cl w' b94 27 [.int .i64 (x95), .slice A0_1 (l0_1).length cap0_1, .slice none 0 0, .slice A98 (l97).length cap99] ∧ Ow 1 encI 2 w' fp100 A98 cap99 l97 ∧ w0.heap.size ≤ b94 ∧ (∀ x ∈ fp100, w0.heap.size ≤ x) ∧ Dj fp100 [b94] ∧ Chg [] w0 w' ∧ w0.heap.size ≤ w'.heap.size) ?_ ?_
  · have hm := hs113
    refine cW_drawnTail [] 15 (by kernel_rfl) (by kernel_rfl) (fun w114 hc115 => ?_)
    replace F0_1 := F0_1.chg hc115 Dj.nil
    replace F0_2 := F0_2.chg hc115 Dj.nil
    replace F0_3 := F0_3.chg hc115 Dj.nil
    replace F0 := F0.chg hc115 notNil
    replace hB := hB.inS hc115 inNil
    replace hZ := Nat.le_trans hZ hc115.size
    have hS := Chg.refl [] w114
    have Z116 := F0_1
    have Z117 := F0_2
    have Z118 := F0_3
    have Z119 := F0
    refine wH_take [0, 1, 2] [2, 1, 0] [(12, .pointer (some ⟨b0, 0, none⟩)), (11, .pointer (some ⟨b0, 0, none⟩)), (10, .pointer (some ⟨b0, 0, none⟩))] (by kernel_rfl) (qT (qT (qT qZ))) (by kernel_rfl) ?_
    refine wH_load1 (i := 3) (d := 13) (T := 2) (ad := ⟨b0, 0, none⟩) (v := .int .i64 (q0_0)) (by kernel_rfl) (qT (qT (qT qZ))) (by kernel_rfl) (by kernel_rfl) vt2 (fun W hW => (Z119.chg hW notNil).cell 0) ?_
    refine wH_take [4, 5, 6] [6, 5, 4, 3, 2, 1, 0] [(16, .pointer (some ⟨b0, 1, none⟩)), (15, .pointer (some ⟨b0, 0, none⟩)), (14, .pointer (some ⟨b0, 0, none⟩))] (by kernel_rfl) (qT (qT (qT qZ))) (by kernel_rfl) ?_
    refine wH_load1 (i := 7) (d := 17) (T := 24) (ad := ⟨b0, 1, none⟩) (v := .slice A0_1 (l0_1).length cap0_1) (by kernel_rfl) (qT (qT (qT qZ))) (by kernel_rfl) (by kernel_rfl) vt24 (fun W hW => (Z119.chg hW notNil).cell 1) ?_
    refine wH_take [8, 9, 10] [10, 9, 8, 7, 6, 5, 4, 3, 2, 1, 0] [(20, .pointer (some ⟨b0, 0, none⟩)), (19, .pointer (some ⟨b0, 0, none⟩)), (18, .pointer (some ⟨b0, 0, none⟩))] (by kernel_rfl) (qT (qT (qT qZ))) (by kernel_rfl) ?_
    refine wH_load1 (i := 11) (d := 21) (T := 2) (ad := ⟨b0, 0, none⟩) (v := .int .i64 (q0_0)) (by kernel_rfl) (qT (qT (qT qZ))) (by kernel_rfl) (by kernel_rfl) vt2 (fun W hW => (Z119.chg hW notNil).cell 0) ?_
    refine wH_all [12, 14] (by rfl) (by kernel_rfl) (by simp) ⟨⟨by kernel_rfl, ?_⟩, ⟨by kernel_rfl, ?_⟩, trivial⟩
    · skip
      obtain ⟨_, hk120, hm⟩ := bindE hm
      replace hk120 := mkE hk120
      refine wS_make (enc := encI) (x0 := (0 : Int)) (d := 22) (t := 25) (T := 2) (k1 := .i64) (k2 := .i64) (m := q0_0) (by kernel_rfl) el25 encI_ok (by rfl) hk120.1 hk120.2 ?_
      intro b121 w122 G123 F124 hc125
      replace F0_1 := F0_1.chg hc125 Dj.nil
      replace F0_2 := F0_2.chg hc125 Dj.nil
      replace F0_3 := F0_3.chg hc125 Dj.nil
      replace F0 := F0.chg hc125 notNil
      replace hB := hB.inS hc125 inNil
      have hSz := hS
      replace hS := hS.inS hc125 inNil
      have Gz127 := low1 (Nat.le_trans hSz.size G123)
      replace G123 := Nat.le_trans hZ G123
      replace G123 := low1 G123
      replace hZ := Nat.le_trans hZ hc125.size
      refine wS_end (by kernel_rfl) ?_
      refine eX_KH hS ?_
      refine wH_take [13] [13, 12, 11, 10, 9, 8, 7, 6, 5, 4, 3, 2, 1, 0] [(23, .agg #[.int .i64 (q0_0), .slice A0_1 (l0_1).length cap0_1, .slice none 0 0, .slice (some ⟨b121, 0, none⟩) (List.replicate (Int.toNat q0_0) ((0 : Int))).length (Int.toNat q0_0)])] (by kernel_rfl) (qT (qT (qT qZ))) (by kernel_rfl) ?_
      refine wH_all [14] (by rfl) (by kernel_rfl) (by simp) ⟨⟨by kernel_rfl, ?_⟩, trivial⟩
      refine wS_alloc (d := 4) (T := 27) (z := .agg #[.int .i64 (0), .slice none 0 0, .slice none 0 0, .slice none 0 0]) (by kernel_rfl) (by kernel_rfl) ?_
      intro b128 w129 G130 F131 hc132
      replace F131 : Cl w129 b128 27 [.int .i64 (0), .slice none 0 0, .slice none 0 0, .slice none 0 0] := F131
      have D134 : Dj [b121] [b128] := Dj.of F124.low (low1 G130)
      replace F0_1 := F0_1.chg hc132 Dj.nil
      replace F0_2 := F0_2.chg hc132 Dj.nil
      replace F0_3 := F0_3.chg hc132 Dj.nil
      replace F0 := F0.chg hc132 notNil
      replace F124 := F124.chg hc132 Dj.nil
      replace hB := hB.inS hc132 inNil
      have hSz := hS
      replace hS := hS.inS hc132 inNil
      have Gz135 := low1 (Nat.le_trans hSz.size G130)
      replace G130 := Nat.le_trans hZ G130
      replace hZ := Nat.le_trans hZ hc132.size
      refine wS_end (by kernel_rfl) ?_
      refine eX_KH hS ?_
      refine wH_done (by kernel_rfl) ?_
      refine eX_tail ?_
      refine wS_store (T := 27) (g := b128) (o := 0) (ad := ⟨b128, 0, none⟩) (v := .agg #[.int .i64 (q0_0), .slice A0_1 (l0_1).length cap0_1, .slice none 0 0, .slice (some ⟨b121, 0, none⟩) (List.replicate (Int.toNat q0_0) ((0 : Int))).length (Int.toNat q0_0)]) (vs := [.int .i64 (q0_0), .slice A0_1 (l0_1).length cap0_1, .slice none 0 0, .slice (some ⟨b121, 0, none⟩) (List.replicate (Int.toNat q0_0) ((0 : Int))).length (Int.toNat q0_0)]) (by kernel_rfl) (by rfl) sz27 (by rfl) (by rfl) F131 (by simp only [List.length_cons, List.length_nil]; omega) ?_
      intro w136 F137 hc138
      replace F0_1 := F0_1.chg hc138 (Dj.of L0_1 (low1 G130))
      replace F0_2 := F0_2.chg hc138 (Dj.of L0_2 (low1 G130))
      replace F0_3 := F0_3.chg hc138 (Dj.of L0_3 (low1 G130))
      replace F0 := F0.chg hc138 (dj1 (Dj.of L0 (low1 G130)))
      replace F124 := F124.chg hc138 D134
      replace hB := hB.inS hc138 (inLow (low1 G130))
      replace hZ := Nat.le_trans hZ hc138.size
      replace F137 : Cl w136 b128 27 [.int .i64 (q0_0), .slice A0_1 (l0_1).length cap0_1, .slice none 0 0, .slice (some ⟨b121, 0, none⟩) (List.replicate (Int.toNat q0_0) ((0 : Int))).length (Int.toNat q0_0)] := F137
      clear F131
      refine wS_end (by rfl) ?_
      have hq : (some ((q0_0, List.replicate (Int.toNat q0_0) ((0 : Int)))) : Option (Int × (List (Int)))) = some _ := hm
      replace hq := someE hq
      subst hq
      exact eX_J (fun hst => ⟨b128, q0_0, List.replicate (Int.toNat q0_0) ((0 : Int)), (some ⟨b121, 0, none⟩), (Int.toNat q0_0), [b121], rfl, Fr.of hst (by kernel_rfl), F0_1, F0_2, F0_3, F0, F137, F124, G130, G123, D134, hB, hZ⟩)
    · skip
      refine wS_alloc (d := 4) (T := 27) (z := .agg #[.int .i64 (0), .slice none 0 0, .slice none 0 0, .slice none 0 0]) (by kernel_rfl) (by kernel_rfl) ?_
      intro b139 w140 G141 F142 hc143
      replace F142 : Cl w140 b139 27 [.int .i64 (0), .slice none 0 0, .slice none 0 0, .slice none 0 0] := F142
      replace F0_1 := F0_1.chg hc143 Dj.nil
      replace F0_2 := F0_2.chg hc143 Dj.nil
      replace F0_3 := F0_3.chg hc143 Dj.nil
      replace F0 := F0.chg hc143 notNil
      replace hB := hB.inS hc143 inNil
      have hSz := hS
      replace hS := hS.inS hc143 inNil
      have Gz145 := low1 (Nat.le_trans hSz.size G141)
      replace G141 := Nat.le_trans hZ G141
      replace hZ := Nat.le_trans hZ hc143.size
      refine wS_end (by kernel_rfl) ?_
      refine eX_KH hS ?_
      refine wH_all [12] (by rfl) (by kernel_rfl) (by simp) ⟨⟨by kernel_rfl, ?_⟩, trivial⟩
      obtain ⟨_, hk146, hm⟩ := bindE hm
      replace hk146 := mkE hk146
      refine wS_make (enc := encI) (x0 := (0 : Int)) (d := 22) (t := 25) (T := 2) (k1 := .i64) (k2 := .i64) (m := q0_0) (by kernel_rfl) el25 encI_ok (by rfl) hk146.1 hk146.2 ?_
      intro b147 w148 G149 F150 hc151
      have D153 : Dj [b139] [b147] := Dj.of (lt1 F142.lt) (low1 G149)
      replace F0_1 := F0_1.chg hc151 Dj.nil
      replace F0_2 := F0_2.chg hc151 Dj.nil
      replace F0_3 := F0_3.chg hc151 Dj.nil
      replace F0 := F0.chg hc151 notNil
      replace F142 := F142.chg hc151 notNil
      replace hB := hB.inS hc151 inNil
      have hSz := hS
      replace hS := hS.inS hc151 inNil
      have Gz154 := low1 (Nat.le_trans hSz.size G149)
      replace G149 := Nat.le_trans hZ G149
      replace G149 := low1 G149
      replace hZ := Nat.le_trans hZ hc151.size
      refine wS_end (by kernel_rfl) ?_
      refine eX_KH hS ?_
      refine wH_take [13] [13, 12, 14, 11, 10, 9, 8, 7, 6, 5, 4, 3, 2, 1, 0] [(23, .agg #[.int .i64 (q0_0), .slice A0_1 (l0_1).length cap0_1, .slice none 0 0, .slice (some ⟨b147, 0, none⟩) (List.replicate (Int.toNat q0_0) ((0 : Int))).length (Int.toNat q0_0)])] (by kernel_rfl) (qT (qT (qT qZ))) (by kernel_rfl) ?_
      refine wH_done (by kernel_rfl) ?_
      refine eX_tail ?_
      refine wS_store (T := 27) (g := b139) (o := 0) (ad := ⟨b139, 0, none⟩) (v := .agg #[.int .i64 (q0_0), .slice A0_1 (l0_1).length cap0_1, .slice none 0 0, .slice (some ⟨b147, 0, none⟩) (List.replicate (Int.toNat q0_0) ((0 : Int))).length (Int.toNat q0_0)]) (vs := [.int .i64 (q0_0), .slice A0_1 (l0_1).length cap0_1, .slice none 0 0, .slice (some ⟨b147, 0, none⟩) (List.replicate (Int.toNat q0_0) ((0 : Int))).length (Int.toNat q0_0)]) (by kernel_rfl) (by rfl) sz27 (by rfl) (by rfl) F142 (by simp only [List.length_cons, List.length_nil]; omega) ?_
      intro w155 F156 hc157
      replace F0_1 := F0_1.chg hc157 (Dj.of L0_1 (low1 G141))
      replace F0_2 := F0_2.chg hc157 (Dj.of L0_2 (low1 G141))
      replace F0_3 := F0_3.chg hc157 (Dj.of L0_3 (low1 G141))
      replace F0 := F0.chg hc157 (dj1 (Dj.of L0 (low1 G141)))
      replace F150 := F150.chg hc157 (D153).symm
      replace hB := hB.inS hc157 (inLow (low1 G141))
      replace hZ := Nat.le_trans hZ hc157.size
      replace F156 : Cl w155 b139 27 [.int .i64 (q0_0), .slice A0_1 (l0_1).length cap0_1, .slice none 0 0, .slice (some ⟨b147, 0, none⟩) (List.replicate (Int.toNat q0_0) ((0 : Int))).length (Int.toNat q0_0)] := F156
      clear F142
      refine wS_end (by rfl) ?_
      have hq : (some ((q0_0, List.replicate (Int.toNat q0_0) ((0 : Int)))) : Option (Int × (List (Int)))) = some _ := hm
      replace hq := someE hq
      subst hq
      exact eX_J (fun hst => ⟨b139, q0_0, List.replicate (Int.toNat q0_0) ((0 : Int)), (some ⟨b147, 0, none⟩), (Int.toNat q0_0), [b147], rfl, Fr.of hst (by kernel_rfl), F0_1, F0_2, F0_3, F0, F156, F150, G141, G149, (D153).symm, hB, hZ⟩)
  · rintro a' w93 ⟨b94, x95, l97, A98, cap99, fp100, hJ, hF102, F103, F104, F105, F106, F107, F108, G109, G110, D111, hB, hZ⟩
    subst hJ
    refine Fr.goX hF102 (by kernel_rfl) ?_
    refine eX_then ?_
    refine cW_seq ?_
    refine cW_seq ?_
    refine cW_region ?_
    refine wS_pure 1 [(24, .pointer (some ⟨b94, 3, none⟩))] (by kernel_rfl) ?_
    refine wS_load1 (d := 25) (T := 25) (ad := ⟨b94, 3, none⟩) (v := .slice A98 (l97).length cap99) (by kernel_rfl) vt25 ((F107).cell 3) ?_
    refine wS_pure 2 [(27, .int .i64 (0)), (26, .int .i64 (((l97).length : Int)))] (by kernel_rfl) ?_
    refine wS_end (by rfl) ?_
    refine eX_then ?_
    obtain ⟨r205, hr206, hm⟩ := bindE hm
    have hm207 := hm
    refine cW_cut (fun a' w' => ∃ l187 : List (Int), l187 = r205 ∧ Fr 64 [(0, .pointer (some ⟨b0, 0, none⟩)), (4, .pointer (some ⟨b94, 0, none⟩))] a' ∧ SlR 1 encI w' fp0_1 A0_1 l0_1 ∧ SlR 1 encI w' fp0_2 A0_2 l0_2 ∧ Sl 1 encI w' fp0_3 A0_3 l0_3 ∧ Cl w' b0 27 [.int .i64 (q0_0), .slice A0_1 (l0_1).length cap0_1, .slice A0_2 (l0_2).length cap0_2, .slice A0_3 (l0_3).length cap0_3] ∧ Cl w' b94 27 [.int .i64 (x95), .slice A0_1 (l0_1).length cap0_1, .slice none 0 0, .slice A98 (l187).length cap99] ∧ Ow 1 encI 2 w' fp100 A98 cap99 l187 ∧ Chg [] w0 w' ∧ w0.heap.size ≤ w'.heap.size) ?_ ?_
    · refine cW_block ?_
      refine cW_loop _ (fun (s208 : Int × (List (Int))) a' w' => ∃ x196 : Int, ∃ l197 : List (Int), (x196, l197) = s208 ∧ Fr 64 [(0, .pointer (some ⟨b0, 0, none⟩)), (4, .pointer (some ⟨b94, 0, none⟩)), (26, .int .i64 (((l97).length : Int))), (27, .int .i64 (x196))] a' ∧ SlR 1 encI w' fp0_1 A0_1 l0_1 ∧ SlR 1 encI w' fp0_2 A0_2 l0_2 ∧ Sl 1 encI w' fp0_3 A0_3 l0_3 ∧ Cl w' b0 27 [.int .i64 (q0_0), .slice A0_1 (l0_1).length cap0_1, .slice A0_2 (l0_2).length cap0_2, .slice A0_3 (l0_3).length cap0_3] ∧ Cl w' b94 27 [.int .i64 (x95), .slice A0_1 (l0_1).length cap0_1, .slice none 0 0, .slice A98 (l197).length cap99] ∧ Ow 1 encI 2 w' fp100 A98 cap99 l197 ∧ Chg [] w0 w' ∧ w0.heap.size ≤ w'.heap.size) hr206 (fun hst => ⟨0, l97, rfl, Fr.of hst (by kernel_rfl), F103, F104, F105, F106, F107, F108, hB, hZ⟩) ?_
      rintro _ c209 a' w195 ⟨x196, l197, rfl, hF198, F199, F200, F201, F202, F203, F204, hB, hZ⟩ hx210
      refine Fr.goOn hF198 (by kernel_rfl) ?_
      have hm := hx210
      unfold m_spec_l07Odd_bimplWiring_s1 at hm
      refine cW_seq ?_
      refine cW_region ?_
      refine wS_pure 1 [(28, .bool (decide (x196 < (((l97).length : Int)))))] (by kernel_rfl) ?_
      refine wS_end (by rfl) ?_
      refine eX_then ?_
      refine cW_seq ?_
      refine cW_cond (t := decide (x196 < (((l97).length : Int)))) (by kernel_rfl) (fun hb211 => ?_) (fun hb211 => ?_)
      · have hm := condT hb211 hm
        refine cW_skip ?_
        refine eX_then ?_
        refine cW_seq ?_
        refine cW_block ?_
        refine cW_seq ?_
        refine cW_region ?_
        refine wS_pure 2 [(5, .int .i64 (x196)), (29, .int .i64 (x196))] (by kernel_rfl) ?_
        refine wS_end (by rfl) ?_
        refine eX_then ?_
        refine cW_region ?_
        refine wS_pure 1 [(30, .pointer (some ⟨b94, 3, none⟩))] (by kernel_rfl) ?_
        refine wS_load1 (d := 31) (T := 25) (ad := ⟨b94, 3, none⟩) (v := .slice A98 (l197).length cap99) (by kernel_rfl) vt25 ((F203).cell 3) ?_
        refine wS_pure 1 [(32, .int .i64 (x196))] (by kernel_rfl) ?_
        obtain ⟨x212, hx213, hm⟩ := bindE hm
        refine wS_idx (d := 33) (T := 25) (A := A98) (n := (l197).length) (cap := cap99) (kd := .i64) (m := x196) (by kernel_rfl) sl25 ((F204.sl encI_ok).is hx213) ?_
        refine wS_storeEl (x := x212) ((-1)) (T := 2) (U := 2) (cap := cap99) (j := 0) (A := A98) (v := .int .i64 ((-1))) (vs := [.int .i64 ((-1))]) (m := x196) (by kernel_rfl) (by rfl) sz2 (by rfl) encI_ok F204 hx213 (by simp only [List.length_cons, List.length_nil]; omega) (by rfl) ?_
        intro w214 F215 hc216
        replace F199 := F199.chg hc216 (Dj.of L0_1 G110)
        replace F200 := F200.chg hc216 (Dj.of L0_2 G110)
        replace F201 := F201.chg hc216 (Dj.of L0_3 G110)
        replace F202 := F202.chg hc216 (dj1 (Dj.of L0 G110))
        replace F203 := F203.chg hc216 (dj1 (D111).symm)
        replace hB := hB.inS hc216 (inLow G110)
        replace hZ := Nat.le_trans hZ hc216.size
        clear F204
        rewrite [show (l197).length = (l197.set (Int.toNat x196) ((-1))).length from (List.length_set ..).symm]
        rewrite [show (l197).length = (l197.set (Int.toNat x196) ((-1))).length from (List.length_set ..).symm] at F203
        refine wS_end (by rfl) ?_
        refine eX_block ?_
        refine eX_then ?_
        refine cW_region ?_
        refine wS_pure 2 [(27, .int .i64 (wr (x196 + 1))), (34, .int .i64 (wr (x196 + 1)))] (by kernel_rfl) ?_
        refine wS_end (by rfl) ?_
        have hq : (some (Ctl.next ((wr (x196 + 1), l197.set (Int.toNat x196) ((-1))))) : Option (Ctl (Int × (List (Int))) ((List (Int))))) = some _ := hm
        replace hq := someE hq
        subst hq
        exact eX_next hx210 (fun hst => ⟨wr (x196 + 1), l197.set (Int.toNat x196) ((-1)), rfl, Fr.of hst (by kernel_rfl), F199, F200, F201, F202, F203, F215, hB, hZ⟩)
      · have hm := condF hb211 hm
        refine cW_exit ?_
        refine eX_then_exit ?_
        have hq : (some (Ctl.out l197) : Option (Ctl (Int × (List (Int))) ((List (Int))))) = some _ := hm
        replace hq := someE hq
        subst hq
        refine eX_outX hx210 (fun hr217 => ?_)
        replace hr217 := hr217.symm
        subst hr217
        refine eX_block_hit ?_
        exact eX_J (fun hst => ⟨l197, rfl, Fr.of hst (by kernel_rfl), F199, F200, F201, F202, F203, F204, hB, hZ⟩)
    · rintro a' w186 ⟨l187, hJ, hF188, F189, F190, F191, F192, F193, F194, hB, hZ⟩
      subst hJ
      refine Fr.goX hF188 (by kernel_rfl) ?_
      refine eX_then ?_
      refine cW_seq ?_
      refine cW_seq ?_
      refine cW_region ?_
      have F223 := OwR.nil (k := 1) (enc := encI) (T := 25) (T2 := 2) w186
      obtain ⟨y218, hy219, hm⟩ := bindE hm
      refine wS_calls (d := 35) (f := 118) (vs := [.pointer (some ⟨b94, 0, none⟩)]) (by kernel_rfl) ent118 (c_spec_l07All_bimplWiring hy219 F189 (F223.slr encI_ok) (F194.sl encI_ok) F193) ?_
      rintro _ w220 ⟨A224, cap225, fp226, fr229, rfl, F227, G228, hc221⟩
      have D231 : Dj [b94] (fp226 ++ fr229) := Dj.of (lt1 F193.lt) G228
      have D232 : Dj fp100 (fp226 ++ fr229) := Dj.of F194.low G228
      have D233 : Dj ([] ++ []) (fp226 ++ fr229) := Dj.of F223.low G228
      replace F189 := F189.chg hc221 Dj.nil
      replace F190 := F190.chg hc221 Dj.nil
      replace F191 := F191.chg hc221 Dj.nil
      replace F192 := F192.chg hc221 notNil
      replace F193 := F193.chg hc221 notNil
      replace F194 := F194.chg hc221 Dj.nil
      replace F223 := F223.chg hc221 Dj.nil
      replace hB := hB.inS hc221 inNil
      replace G228 := low_le hZ G228
      replace hZ := Nat.le_trans hZ hc221.size
      refine ⟨.slice A224 (y218).length cap225, rfl, ?_⟩
      refine wS_pure 2 [(37, .bool (decide ((((y218).length : Int)) > 0))), (36, .int .i64 (((y218).length : Int)))] (by kernel_rfl) ?_
      refine wS_end (by rfl) ?_
      refine eX_then ?_
      refine cW_cond (t := decide ((((y218).length : Int)) > 0)) (by kernel_rfl) (fun hb234 => ?_) (fun hb234 => ?_)
      · have hm := condT hb234 hm
        refine cW_seq ?_
        refine cW_region ?_
        refine wS_pure 2 [(3, .bool (false)), (2, .slice none 0 0)] (by kernel_rfl) ?_
        refine wS_end (by rfl) ?_
        refine eX_then ?_
        refine cW_ret ?_
        refine eX_then_ret ?_
        have hq : (some (([], false)) : Option ((List (Int)) × (Bool))) = some _ := hm
        replace hq := someE hq
        subst hq
        refine eX_ret (vs := [.slice none 0 0, .bool (false)]) [.tmp 2, .tmp 3] (by rfl) ⟨by (show lkE _ _ _ = _); kernel_rfl, ⟨by (show lkE _ _ _ = _); kernel_rfl, trivial⟩⟩ ?_
        exact ⟨none, 0, [], rfl, (Ow.nil (k := 1) (enc := encI) (T := 0) _).sl encI_ok, Rt.nil, (Nat.le_refl _), hB⟩
      · have hm := condF hb234 hm
        refine cW_skip ?_
        refine eX_then ?_
        refine cW_seq ?_
        refine cW_seq ?_
        refine cW_region ?_
        refine wS_pure 1 [(6, .int .i64 (3))] (by kernel_rfl) ?_
        refine wS_end (by rfl) ?_
        refine eX_then ?_
        obtain ⟨r443, hr444, hm⟩ := bindE hm
        have hm445 := hm
        refine cW_cut (fun a' w' => Sum.inl (()) = r443 ∧ Fr 64 [] a' ∧ Chg [] w0 w' ∧ w0.heap.size ≤ w'.heap.size) ?_ ?_
        · refine cW_block ?_
          refine cW_loop _ (fun (s446 : Int) a' w' => ∃ x437 : Int, x437 = s446 ∧ Fr 64 [(0, .pointer (some ⟨b0, 0, none⟩)), (6, .int .i64 (x437))] a' ∧ SlR 1 encI w' fp0_1 A0_1 l0_1 ∧ SlR 1 encI w' fp0_2 A0_2 l0_2 ∧ Sl 1 encI w' fp0_3 A0_3 l0_3 ∧ Cl w' b0 27 [.int .i64 (q0_0), .slice A0_1 (l0_1).length cap0_1, .slice A0_2 (l0_2).length cap0_2, .slice A0_3 (l0_3).length cap0_3] ∧ Chg [] w0 w' ∧ w0.heap.size ≤ w'.heap.size) hr444 (fun hst => ⟨3, rfl, Fr.of hst (by kernel_rfl), F189, F190, F191, F192, hB, hZ⟩) ?_
          rintro _ c447 a' w436 ⟨x437, rfl, hF438, F439, F440, F441, F442, hB, hZ⟩ hx448
          refine Fr.goOn hF438 (by kernel_rfl) ?_
          have hm := hx448
          unfold m_spec_l07Odd_bimplWiring_s4 at hm
          refine cW_seq ?_
          refine cW_seq ?_
          refine cW_region ?_
          refine wS_pure 4 [(41, .pointer (some ⟨b0, 0, none⟩)), (40, .pointer (some ⟨b0, 0, none⟩)), (39, .pointer (some ⟨b0, 0, none⟩)), (38, .int .i64 (x437))] (by kernel_rfl) ?_
          refine wS_load1 (d := 42) (T := 2) (ad := ⟨b0, 0, none⟩) (v := .int .i64 (q0_0)) (by kernel_rfl) vt2 ((F442).cell 0) ?_
          refine wS_pure 1 [(43, .bool (decide (x437 ≤ q0_0)))] (by kernel_rfl) ?_
          refine wS_end (by rfl) ?_
          refine eX_then ?_
          refine cW_cond (t := decide (x437 ≤ q0_0)) (by kernel_rfl) (fun hb449 => ?_) (fun hb449 => ?_)
          · have hm := condT hb449 hm
            refine cW_skip ?_
            refine eX_then ?_
            refine cW_seq ?_
            refine cW_block ?_
            refine cW_seq ?_
            refine cW_region ?_
            refine wS_pure 1 [(7, .int .i64 (0))] (by kernel_rfl) ?_
            refine wS_end (by rfl) ?_
            refine eX_then ?_
            obtain ⟨r514, hr515, hm⟩ := bindE hm
            have hm516 := hm
            refine cW_cut (fun a' w' => Sum.inl (()) = r514 ∧ Fr 64 [(0, .pointer (some ⟨b0, 0, none⟩)), (6, .int .i64 (x437))] a' ∧ SlR 1 encI w' fp0_1 A0_1 l0_1 ∧ SlR 1 encI w' fp0_2 A0_2 l0_2 ∧ Sl 1 encI w' fp0_3 A0_3 l0_3 ∧ Cl w' b0 27 [.int .i64 (q0_0), .slice A0_1 (l0_1).length cap0_1, .slice A0_2 (l0_2).length cap0_2, .slice A0_3 (l0_3).length cap0_3] ∧ Chg [] w0 w' ∧ w0.heap.size ≤ w'.heap.size) ?_ ?_
            · refine cW_block ?_
              refine cW_loop _ (fun (s517 : Int) a' w' => ∃ x508 : Int, x508 = s517 ∧ Fr 64 [(0, .pointer (some ⟨b0, 0, none⟩)), (6, .int .i64 (x437)), (7, .int .i64 (x508))] a' ∧ SlR 1 encI w' fp0_1 A0_1 l0_1 ∧ SlR 1 encI w' fp0_2 A0_2 l0_2 ∧ Sl 1 encI w' fp0_3 A0_3 l0_3 ∧ Cl w' b0 27 [.int .i64 (q0_0), .slice A0_1 (l0_1).length cap0_1, .slice A0_2 (l0_2).length cap0_2, .slice A0_3 (l0_3).length cap0_3] ∧ Chg [] w0 w' ∧ w0.heap.size ≤ w'.heap.size) hr515 (fun hst => ⟨0, rfl, Fr.of hst (by kernel_rfl), F439, F440, F441, F442, hB, hZ⟩) ?_
              rintro _ c518 a' w507 ⟨x508, rfl, hF509, F510, F511, F512, F513, hB, hZ⟩ hx519
              refine Fr.goOn hF509 (by kernel_rfl) ?_
              have hm := hx519
              unfold m_spec_l07Odd_bimplWiring_s5 at hm
              refine cW_seq ?_
              refine cW_seq ?_
              refine cW_region ?_
              refine wS_pure 4 [(49, .pointer (some ⟨b0, 0, none⟩)), (48, .pointer (some ⟨b0, 0, none⟩)), (47, .pointer (some ⟨b0, 0, none⟩)), (46, .int .i64 (x508))] (by kernel_rfl) ?_
              refine wS_load1 (d := 50) (T := 2) (ad := ⟨b0, 0, none⟩) (v := .int .i64 (q0_0)) (by kernel_rfl) vt2 ((F513).cell 0) ?_
              refine wS_pure 1 [(51, .bool (decide (x508 < q0_0)))] (by kernel_rfl) ?_
              refine wS_end (by rfl) ?_
              refine eX_then ?_
              refine cW_cond (t := decide (x508 < q0_0)) (by kernel_rfl) (fun hb520 => ?_) (fun hb520 => ?_)
              · have hm := condT hb520 hm
                refine cW_skip ?_
                refine eX_then ?_
                refine cW_seq ?_
                refine cW_block ?_
                refine cW_seq ?_
                refine cW_region ?_
                refine wS_pure 2 [(56, .int .i64 (x508)), (55, .pointer (some ⟨b0, 0, none⟩))] (by kernel_rfl) ?_
                refine wS_bs (enc := encI) ([x508] : List (Int)) [.int .i64 (x508)] (d := 57) (t := 25) (T := 2) (n := 1) (ps := [(0, .int .i64 (x508))]) (by kernel_rfl) el25 encI_ok (by rfl) (by omega) (by omega) (by kernel_rfl) (by rfl) ?_
                intro b521 w522 G523 F524 hc525
                replace F510 := F510.chg hc525 Dj.nil
                replace F511 := F511.chg hc525 Dj.nil
                replace F512 := F512.chg hc525 Dj.nil
                replace F513 := F513.chg hc525 notNil
                replace hB := hB.inS hc525 inNil
                replace G523 := Nat.le_trans hZ G523
                replace G523 := low1 G523
                replace hZ := Nat.le_trans hZ hc525.size
                refine wS_pure 1 [(58, .int .i64 (x437))] (by kernel_rfl) ?_
                obtain ⟨y527, hy528, hm⟩ := bindE hm
                refine wS_calls (d := 59) (f := 122) (vs := [.pointer (some ⟨b0, 0, none⟩), .slice (some ⟨b521, 0, none⟩) (([x508] : List (Int))).length 1, .int .i64 (x437)]) (by kernel_rfl) ent122 (c_spec_l07Ring_bimplWiring 64 hy528 F510 F511 F512 F513 (F524.sl encI_ok) F524.cap_le) ?_
                rintro _ w529 ⟨A531, cap532, fp533, rfl, F534, G535, K536, hc530⟩
                have Rt538 : Rt w0.heap.size (fp0_1 ++ (fp0_2 ++ (fp0_3 ++ []))) fp533 := Rt.of G535 hZ (Rt.app (Rt.mem (fun x hx => (List.mem_append_left _ hx))) (Rt.app (Rt.mem (fun x hx => (List.mem_append_right _ (List.mem_append_left _ hx)))) (Rt.app (Rt.mem (fun x hx => (List.mem_append_right _ (List.mem_append_right _ (List.mem_append_left _ hx))))) (Rt.app (Rt.low G523) Rt.nil))))
                replace F510 := F510.chg hc530 Dj.nil
                replace F511 := F511.chg hc530 Dj.nil
                replace F512 := F512.chg hc530 Dj.nil
                replace F513 := F513.chg hc530 notNil
                replace F524 := F524.chg hc530 Dj.nil
                replace hB := hB.inS hc530 inNil
                replace hZ := Nat.le_trans hZ hc530.size
                refine ⟨.tuple #[.slice A531 (y527.1).length cap532, .bool (y527.2)], rfl, ?_⟩
                refine wS_pure 5 [(9, .bool (y527.2)), (8, .slice A531 (y527.1).length cap532), (61, .bool (y527.2)), (60, .slice A531 (y527.1).length cap532), (54, .tuple #[.slice A531 (y527.1).length cap532, .bool (y527.2)])] (by kernel_rfl) ?_
                refine wS_end (by rfl) ?_
                refine eX_then ?_
                refine cW_seq ?_
                refine cW_region ?_
                refine wS_pure 1 [(62, .bool (y527.2))] (by kernel_rfl) ?_
                refine wS_end (by rfl) ?_
                refine eX_then ?_
                refine cW_cond (t := y527.2) (by kernel_rfl) (fun hb539 => ?_) (fun hb539 => ?_)
                · have hm := condT hb539 hm
                  refine cW_seq ?_
                  refine cW_region ?_
                  refine wS_pure 3 [(3, .bool (true)), (2, .slice A531 (y527.1).length cap532), (63, .slice A531 (y527.1).length cap532)] (by kernel_rfl) ?_
                  refine wS_end (by rfl) ?_
                  refine eX_then ?_
                  refine cW_ret ?_
                  refine eX_block_ret ?_
                  refine eX_then_ret ?_
                  have hq : (some (Ctl.out (Sum.inr ((y527.1, true)))) : Option (Ctl (Int) (Sum (Unit) ((List (Int)) × (Bool))))) = some _ := hm
                  replace hq := someE hq
                  subst hq
                  refine eX_outR hx519 (fun hr => ?_)
                  subst hr
                  refine eX_block_ret ?_
                  refine eX_then_ret ?_
                  refine eX_block_ret ?_
                  refine eX_then_ret ?_
                  have hq : (some (Ctl.out (Sum.inr ((y527.1, true)))) : Option (Ctl (Int) (Sum (Unit) ((List (Int)) × (Bool))))) = some _ := hm516
                  replace hq := someE hq
                  subst hq
                  refine eX_outR hx448 (fun hr => ?_)
                  subst hr
                  refine eX_block_ret ?_
                  refine eX_then_ret ?_
                  refine eX_then_ret ?_
                  have hq : (some ((y527.1, true)) : Option ((List (Int)) × (Bool))) = some _ := hm445
                  replace hq := someE hq
                  subst hq
                  refine eX_ret (vs := [.slice A531 (y527.1).length cap532, .bool (true)]) [.tmp 2, .tmp 3] (by rfl) ⟨by (show lkE _ _ _ = _); kernel_rfl, ⟨by (show lkE _ _ _ = _); kernel_rfl, trivial⟩⟩ ?_
                  exact ⟨A531, cap532, fp533, rfl, F534, Rt538, K536, hB⟩
                · have hm := condF hb539 hm
                  refine cW_skip ?_
                  refine eX_block ?_
                  refine eX_then ?_
                  refine cW_region ?_
                  refine wS_pure 3 [(7, .int .i64 (wr (x508 + 1))), (53, .int .i64 (wr (x508 + 1))), (52, .int .i64 (x508))] (by kernel_rfl) ?_
                  refine wS_end (by rfl) ?_
                  have hq : (some (Ctl.next (wr (x508 + 1))) : Option (Ctl (Int) (Sum (Unit) ((List (Int)) × (Bool))))) = some _ := hm
                  replace hq := someE hq
                  subst hq
                  exact eX_next hx519 (fun hst => ⟨wr (x508 + 1), rfl, Fr.of hst (by kernel_rfl), F510, F511, F512, F513, hB, hZ⟩)
              · have hm := condF hb520 hm
                refine cW_exit ?_
                refine eX_then_exit ?_
                have hq : (some (Ctl.out (Sum.inl (()))) : Option (Ctl (Int) (Sum (Unit) ((List (Int)) × (Bool))))) = some _ := hm
                replace hq := someE hq
                subst hq
                refine eX_outX hx519 (fun hr540 => ?_)
                replace hr540 := hr540.symm
                subst hr540
                refine eX_block_hit ?_
                exact eX_J (fun hst => ⟨rfl, Fr.of hst (by kernel_rfl), F510, F511, F512, F513, hB, hZ⟩)
            · rintro a' w501 ⟨hJ, hF502, F503, F504, F505, F506, hB, hZ⟩
              subst hJ
              refine Fr.goX hF502 (by kernel_rfl) ?_
              refine eX_block ?_
              refine eX_then ?_
              refine cW_region ?_
              refine wS_pure 3 [(6, .int .i64 (wr (x437 + 2))), (45, .int .i64 (wr (x437 + 2))), (44, .int .i64 (x437))] (by kernel_rfl) ?_
              refine wS_end (by rfl) ?_
              have hq : (some (Ctl.next (wr (x437 + 2))) : Option (Ctl (Int) (Sum (Unit) ((List (Int)) × (Bool))))) = some _ := hm
              replace hq := someE hq
              subst hq
              exact eX_next hx448 (fun hst => ⟨wr (x437 + 2), rfl, Fr.of hst (by kernel_rfl), F503, F504, F505, F506, hB, hZ⟩)
          · have hm := condF hb449 hm
            refine cW_exit ?_
            refine eX_then_exit ?_
            have hq : (some (Ctl.out (Sum.inl (()))) : Option (Ctl (Int) (Sum (Unit) ((List (Int)) × (Bool))))) = some _ := hm
            replace hq := someE hq
            subst hq
            refine eX_outX hx448 (fun hr543 => ?_)
            replace hr543 := hr543.symm
            subst hr543
            refine eX_block_hit ?_
            exact eX_J (fun hst => ⟨rfl, Fr.of hst (by kernel_rfl), hB, hZ⟩)
        · rintro a' w434 ⟨hJ, hF435, hB, hZ⟩
          subst hJ
          refine Fr.goX hF435 (by kernel_rfl) ?_
          refine eX_then ?_
          refine cW_seq ?_
          refine cW_region ?_
          refine wS_pure 2 [(3, .bool (false)), (2, .slice none 0 0)] (by kernel_rfl) ?_
          refine wS_end (by rfl) ?_
          refine eX_then ?_
          refine cW_ret ?_
          have hq : (some (([], false)) : Option ((List (Int)) × (Bool))) = some _ := hm
          replace hq := someE hq
          subst hq
          refine eX_ret (vs := [.slice none 0 0, .bool (false)]) [.tmp 2, .tmp 3] (by rfl) ⟨by (show lkE _ _ _ = _); kernel_rfl, ⟨by (show lkE _ _ _ = _); kernel_rfl, trivial⟩⟩ ?_
          exact ⟨none, 0, [], rfl, (Ow.nil (k := 1) (enc := encI) (T := 0) _).sl encI_ok, Rt.nil, (Nat.le_refl _), hB⟩

set_option maxRecDepth 100000 in
/-- spec.OddRing -/
theorem c_spec_OddRing {w0 : World} {p0_0 : Int} {l0_1 : List (List (Int))} {A0_1 : Option Addr} {cap0_1 : Nat} {fp0_1 : List Nat} {l0_2 : List (List (Int))} {A0_2 : Option Addr} {cap0_2 : Nat} {fp0_2 : List Nat} {l0_3 : List (Int)} {A0_3 : Option Addr} {cap0_3 : Nat} {fp0_3 : List Nat} {r : (List (Int)) × (Bool)} (hm : m_spec_OddRing p0_0 l0_1 l0_2 l0_3 = some r) (F0_1 : SlR 1 encI w0 fp0_1 A0_1 l0_1) (F0_2 : SlR 1 encI w0 fp0_2 A0_2 l0_2) (F0_3 : Sl 1 encI w0 fp0_3 A0_3 l0_3) :
    Calls Try.prog 48 #[.agg #[.int .i64 (p0_0), .slice A0_1 (l0_1).length cap0_1, .slice A0_2 (l0_2).length cap0_2, .slice A0_3 (l0_3).length cap0_3]] w0 fun e w' => ∃ A100 cap100 fp100, e = .returned (.tuple #[.slice A100 (r.1).length cap100, .bool (r.2)]) ∧ Sl 1 encI w' fp100 A100 r.1 ∧ Rt w0.heap.size (fp0_1 ++ (fp0_2 ++ (fp0_3 ++ []))) fp100 ∧ (r.1).length ≤ cap100 ∧ Chg [] w0 w' := by
  have L0_1 := F0_1.low
  have L0_2 := F0_2.low
  have L0_3 := F0_3.low
  have hB : Chg [] w0 w0 := Chg.refl _ _
  have hZ := Nat.le_refl w0.heap.size
  unfold m_spec_OddRing at hm
  refine enterE (N := 9) Try.func48 (by rfl) Try.ntmps48 (by simp) [(0, .agg #[.int .i64 (p0_0), .slice A0_1 (l0_1).length cap0_1, .slice A0_2 (l0_2).length cap0_2, .slice A0_3 (l0_3).length cap0_3])] (by rfl) (by kernel_rfl) (fun a => ?_)
  refine cW_seq ?_
  refine cW_region ?_
  refine wS_box (d := 1) (T := 27) (x := .agg #[.int .i64 (p0_0), .slice A0_1 (l0_1).length cap0_1, .slice A0_2 (l0_2).length cap0_2, .slice A0_3 (l0_3).length cap0_3]) (by kernel_rfl) ?_
  intro b4 w5 G6 F7 hc8
  replace F7 : Cl w5 b4 27 [.int .i64 (p0_0), .slice A0_1 (l0_1).length cap0_1, .slice A0_2 (l0_2).length cap0_2, .slice A0_3 (l0_3).length cap0_3] := F7
  replace F0_1 := F0_1.chg hc8 Dj.nil
  replace F0_2 := F0_2.chg hc8 Dj.nil
  replace F0_3 := F0_3.chg hc8 Dj.nil
  replace hB := hB.inS hc8 inNil
  replace G6 := Nat.le_trans hZ G6
  replace hZ := Nat.le_trans hZ hc8.size
  refine wS_pure 2 [(3, .bool (false)), (2, .slice none 0 0)] (by kernel_rfl) ?_
  refine wS_end (by rfl) ?_
  refine eX_then ?_
  refine cW_seq ?_
  refine cW_seq ?_
  refine cW_region ?_
  obtain ⟨y10, hy11, hm⟩ := bindE hm
  refine wS_calls (d := 4) (f := 63) (vs := [.pointer (some ⟨b4, 0, none⟩)]) (by kernel_rfl) ent63 (c_spec_l07Is_bimplWiring hy11 F0_1 F0_2 F0_3 F7) ?_
  rintro _ w12 ⟨rfl, hc13⟩
  replace F0_1 := F0_1.chg hc13 Dj.nil
  replace F0_2 := F0_2.chg hc13 Dj.nil
  replace F0_3 := F0_3.chg hc13 Dj.nil
  replace F7 := F7.chg hc13 notNil
  replace hB := hB.inS hc13 inNil
  replace hZ := Nat.le_trans hZ hc13.size
  refine ⟨.bool (y10), rfl, ?_⟩
  refine wS_pure 1 [(5, .bool (!y10))] (by kernel_rfl) ?_
  refine wS_end (by rfl) ?_
  refine eX_then ?_
  refine cW_cond (t := !y10) (by kernel_rfl) (fun hb14 => ?_) (fun hb14 => ?_)
  · have hm := condT hb14 hm
    refine cW_seq ?_
    refine cW_region ?_
    refine wS_pure 2 [(3, .bool (false)), (2, .slice none 0 0)] (by kernel_rfl) ?_
    refine wS_end (by rfl) ?_
    refine eX_then ?_
    refine cW_ret ?_
    refine eX_then_ret ?_
    have hq : (some (([], false)) : Option ((List (Int)) × (Bool))) = some _ := hm
    replace hq := someE hq
    subst hq
    refine eX_ret (vs := [.slice none 0 0, .bool (false)]) [.tmp 2, .tmp 3] (by rfl) ⟨by (show lkE _ _ _ = _); kernel_rfl, ⟨by (show lkE _ _ _ = _); kernel_rfl, trivial⟩⟩ ?_
    exact ⟨none, 0, [], rfl, (Ow.nil (k := 1) (enc := encI) (T := 0) _).sl encI_ok, Rt.nil, (Nat.le_refl _), hB⟩
  · have hm := condF hb14 hm
    refine cW_skip ?_
    refine eX_then ?_
    refine cW_seq ?_
    refine cW_region ?_
    obtain ⟨y15, hy16, hm⟩ := bindE hm
    refine wS_calls (d := 6) (f := 86) (vs := [.pointer (some ⟨b4, 0, none⟩)]) (by kernel_rfl) ent86 (c_spec_l07Odd_bimplWiring hy16 F0_1 F0_2 F0_3 F7) ?_
    rintro _ w17 ⟨A19, cap20, fp21, rfl, F22, G23, K24, hc18⟩
    have Rt26 : Rt w0.heap.size (fp0_1 ++ (fp0_2 ++ (fp0_3 ++ []))) fp21 := Rt.of G23 hZ (Rt.app (Rt.mem (fun x hx => (List.mem_append_left _ hx))) (Rt.app (Rt.mem (fun x hx => (List.mem_append_right _ (List.mem_append_left _ hx)))) (Rt.app (Rt.mem (fun x hx => (List.mem_append_right _ (List.mem_append_right _ (List.mem_append_left _ hx))))) Rt.nil)))
    have D27 : Dj [b4] fp21 := Rt.dj G23 (lt1 F7.lt) (Dj.app (Dj.of L0_1 (low1 G6)).symm (Dj.app (Dj.of L0_2 (low1 G6)).symm (Dj.app (Dj.of L0_3 (low1 G6)).symm Dj.nil)))
    replace F0_1 := F0_1.chg hc18 Dj.nil
    replace F0_2 := F0_2.chg hc18 Dj.nil
    replace F0_3 := F0_3.chg hc18 Dj.nil
    replace F7 := F7.chg hc18 notNil
    replace hB := hB.inS hc18 inNil
    replace hZ := Nat.le_trans hZ hc18.size
    refine ⟨.tuple #[.slice A19 (y15.1).length cap20, .bool (y15.2)], rfl, ?_⟩
    refine wS_pure 4 [(3, .bool (y15.2)), (2, .slice A19 (y15.1).length cap20), (8, .bool (y15.2)), (7, .slice A19 (y15.1).length cap20)] (by kernel_rfl) ?_
    refine wS_end (by rfl) ?_
    refine eX_then ?_
    refine cW_ret ?_
    have hq : (some ((y15.1, y15.2)) : Option ((List (Int)) × (Bool))) = some _ := hm
    replace hq := someE hq
    subst hq
    refine eX_ret (vs := [.slice A19 (y15.1).length cap20, .bool (y15.2)]) [.tmp 2, .tmp 3] (by rfl) ⟨by (show lkE _ _ _ = _); kernel_rfl, ⟨by (show lkE _ _ _ = _); kernel_rfl, trivial⟩⟩ ?_
    exact ⟨A19, cap20, fp21, rfl, F22, Rt26, K24, hB⟩

end Go.Proofs.Ytngnljnfbfgfeaa
