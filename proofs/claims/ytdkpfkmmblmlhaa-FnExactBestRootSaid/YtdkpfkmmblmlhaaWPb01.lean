/- Printed walks: spec.l05Is, spec.l05Star, spec.StarLength, impl.pinsOk, impl.ArePins, impl.star, impl.StarLength, laws.FnExactStarLength, spec.l00Min, spec.l01Box, spec.BoxBound, impl.box, impl.BoxBound, laws.FnExactBoxBound, spec.l05Few, spec.l01Before, spec.l01Sorted, spec.l05Hanan, spec.HananPoints, impl.hanan, impl.HananPoints. -/
import Derived.Test.YtdkpfkmmblmlhaaProg
import Derived.Test.YtdkpfkmmblmlhaaWPa01
set_option linter.unusedSimpArgs false
set_option linter.unusedVariables false
namespace Go.Proofs.Ytdkpfkmmblmlhaa
open Go.RowKit
attribute [local irreducible] wS cW eX wH

theorem ent27 : Ent Try.prog 27 := fun _ => by kernel_rfl
theorem ent29 : Ent Try.prog 29 := fun _ => by kernel_rfl
theorem ent32 : Ent Try.prog 32 := fun _ => by kernel_rfl
theorem ent33 : Ent Try.prog 33 := fun _ => by kernel_rfl
theorem ent75 : Ent Try.prog 75 := fun _ => by kernel_rfl
theorem ent77 : Ent Try.prog 77 := fun _ => by kernel_rfl
theorem ent78 : Ent Try.prog 78 := fun _ => by kernel_rfl
theorem ent80 : Ent Try.prog 80 := fun _ => by kernel_rfl
theorem ent83 : Ent Try.prog 83 := fun _ => by kernel_rfl
theorem ent85 : Ent Try.prog 85 := fun _ => by kernel_rfl
theorem ent86 : Ent Try.prog 86 := fun _ => by kernel_rfl
theorem ent87 : Ent Try.prog 87 := fun _ => by kernel_rfl
theorem ent88 : Ent Try.prog 88 := fun _ => by kernel_rfl
theorem ent89 : Ent Try.prog 89 := fun _ => by kernel_rfl
theorem ent124 : Ent Try.prog 124 := fun _ => by kernel_rfl
theorem ent127 : Ent Try.prog 127 := fun _ => by kernel_rfl
theorem ent148 : Ent Try.prog 148 := fun _ => by kernel_rfl

set_option maxRecDepth 100000 in
/-- spec.l05Is -/
theorem c_spec_l05Is {w0 : World} {l0 : List (Int × Int)} {A0 : Option Addr} {cap0 : Nat} {fp0 : List Nat} {r : (Bool)} (hm : m_spec_l05Is l0 = some r) (F0 : Sl 2 encII w0 fp0 A0 l0) (K0 : (l0).length ≤ cap0) :
    Calls Try.prog 75 #[.slice A0 (l0).length cap0] w0 fun e w' => e = .returned (.bool (r)) ∧ Chg [] w0 w' := by
  have L0 := F0.low
  have hB : Chg [] w0 w0 := Chg.refl _ _
  have hZ := Nat.le_refl w0.heap.size
  unfold m_spec_l05Is at hm
  refine enterE (N := 35) Try.func75 (by rfl) Try.ntmps75 (by simp) [(0, .slice A0 (l0).length cap0)] (by rfl) (by kernel_rfl) (fun a => ?_)
  refine cW_seq ?_
  refine cW_region ?_
  refine wS_pure 1 [(2, .bool (false))] (by kernel_rfl) ?_
  refine wS_end (by rfl) ?_
  refine eX_then ?_
  refine cW_seq ?_
  refine cW_seq ?_
  refine cW_region ?_
  refine wS_pure 4 [(7, .bool (decide ((((l0).length : Int)) < 1))), (6, .bool (decide ((((l0).length : Int)) < 1))), (5, .int .i64 (((l0).length : Int))), (4, .slice A0 (l0).length cap0)] (by kernel_rfl) ?_
  refine wS_bool (decide ((((l0).length : Int)) < 1)) (fun hb2 => ?_) (fun hb2 => ?_)
  · have hm := condT hb2 hm
    rewrite [hb2]
    refine wS_pure 4 [(11, .bool (true)), (10, undef), (9, undef), (8, undef)] (by kernel_rfl) ?_
    refine wS_end (by rfl) ?_
    refine eX_then ?_
    refine cW_cond_t (by kernel_rfl) ?_
    refine cW_seq ?_
    refine cW_region ?_
    refine wS_pure 1 [(2, .bool (false))] (by kernel_rfl) ?_
    refine wS_end (by rfl) ?_
    refine eX_then ?_
    refine cW_ret ?_
    refine eX_then_ret ?_
    have hq : (some false : Option ((Bool))) = some _ := hm
    replace hq := someE hq
    subst hq
    refine eX_ret (vs := [.bool (false)]) [.tmp 2] (by rfl) ⟨by (show lkE _ _ _ = _); kernel_rfl, trivial⟩ ?_
    exact ⟨rfl, hB⟩
  · have hm := condF hb2 hm
    rewrite [hb2]
    refine wS_pure 4 [(11, .bool (decide ((((l0).length : Int)) > 20))), (10, .bool (decide ((((l0).length : Int)) > 20))), (9, .int .i64 (((l0).length : Int))), (8, .slice A0 (l0).length cap0)] (by kernel_rfl) ?_
    refine wS_end (by rfl) ?_
    refine eX_then ?_
    refine cW_cond (t := decide ((((l0).length : Int)) > 20)) (by kernel_rfl) (fun hb3 => ?_) (fun hb3 => ?_)
    · have hm := condT hb3 hm
      refine cW_seq ?_
      refine cW_region ?_
      refine wS_pure 1 [(2, .bool (false))] (by kernel_rfl) ?_
      refine wS_end (by rfl) ?_
      refine eX_then ?_
      refine cW_ret ?_
      refine eX_then_ret ?_
      have hq : (some false : Option ((Bool))) = some _ := hm
      replace hq := someE hq
      subst hq
      refine eX_ret (vs := [.bool (false)]) [.tmp 2] (by rfl) ⟨by (show lkE _ _ _ = _); kernel_rfl, trivial⟩ ?_
      exact ⟨rfl, hB⟩
    · have hm := condF hb3 hm
      refine cW_skip ?_
      refine eX_then ?_
      refine cW_seq ?_
      refine cW_seq ?_
      refine cW_region ?_
      refine wS_pure 1 [(3, .int .i64 (0))] (by kernel_rfl) ?_
      refine wS_end (by rfl) ?_
      refine eX_then ?_
      obtain ⟨r123, hr124, hm⟩ := bindE hm
      have hm125 := hm
      refine cW_cut (fun a' w' => Sum.inl (()) = r123 ∧ Fr 35 [] a' ∧ Chg [] w0 w' ∧ w0.heap.size ≤ w'.heap.size) ?_ ?_
      · refine cW_block ?_
        refine cW_loop _ (fun (s126 : Int) a' w' => ∃ x120 : Int, x120 = s126 ∧ Fr 35 [(0, .slice A0 (l0).length cap0), (3, .int .i64 (x120))] a' ∧ Sl 2 encII w' fp0 A0 l0 ∧ Chg [] w0 w' ∧ w0.heap.size ≤ w'.heap.size) hr124 (fun hst => ⟨0, rfl, Fr.of hst (by kernel_rfl), F0, hB, hZ⟩) ?_
        rintro _ c127 a' w119 ⟨x120, rfl, hF121, F122, hB, hZ⟩ hx128
        refine Fr.goOn hF121 (by kernel_rfl) ?_
        have hm := hx128
        unfold m_spec_l05Is_s1 at hm
        refine cW_seq ?_
        refine cW_seq ?_
        refine cW_region ?_
        refine wS_pure 4 [(15, .bool (decide (x120 < (((l0).length : Int))))), (14, .int .i64 (((l0).length : Int))), (13, .slice A0 (l0).length cap0), (12, .int .i64 (x120))] (by kernel_rfl) ?_
        refine wS_end (by rfl) ?_
        refine eX_then ?_
        refine cW_cond (t := decide (x120 < (((l0).length : Int)))) (by kernel_rfl) (fun hb129 => ?_) (fun hb129 => ?_)
        · have hm := condT hb129 hm
          refine cW_skip ?_
          refine eX_then ?_
          refine cW_seq ?_
          refine cW_block ?_
          refine cW_seq ?_
          refine cW_drawnTail [] 14 (by kernel_rfl) (by kernel_rfl) (fun w155 hc156 => ?_)
          replace F122 := F122.chg hc156 Dj.nil
          replace hB := hB.inS hc156 inNil
          replace hZ := Nat.le_trans hZ hc156.size
          have hS := Chg.refl [] w155
          have Z157 := F122
          refine wH_take [0, 1] [1, 0] [(19, .int .i64 (x120)), (18, .slice A0 (l0).length cap0)] (by kernel_rfl) (qT (qT (qB (qT (qL (qB (qT (qT qZ)))))))) (by kernel_rfl) ?_
          obtain ⟨x158, hx159, hm⟩ := bindE hm
          refine wH_idx (i := 2) (d := 20) (T := 25) (A := A0) (n := (l0).length) (cap := cap0) (kd := .i64) (m := x120) (by kernel_rfl) (qT (qT (qB (qT (qL (qB (qT (qT qZ)))))))) (by kernel_rfl) (by kernel_rfl) sl25 (F122.is hx159) ?_
          refine wH_loadA (i := 3) (d := 21) (T := 34) (ad := (elA A0 2 (x120) 0)) (vs := [.int .i64 (x158.1), .int .i64 (x158.2)]) (by kernel_rfl) (qT (qT (qB (qT (qL (qB (qT (qT qZ)))))))) (by kernel_rfl) (by kernel_rfl) vt34 (fun W hW i u hu => Sl.cells_at (Z157.chg hW Dj.nil) hx159 0 hu (by rfl)) ?_
          refine wH_all [4] (by rfl) (by kernel_rfl) (by simp) ⟨⟨by kernel_rfl, ?_⟩, trivial⟩
          obtain ⟨y160, hy161, hm⟩ := bindE hm
          refine wS_calls (d := 22) (f := 76) (vs := [.agg #[.int .i64 (x158.1), .int .i64 (x158.2)]]) (by kernel_rfl) ent76 (c_spec_l01Point hy161) ?_
          rintro _ w162 ⟨rfl, hc163⟩
          replace F122 := F122.chg hc163 Dj.nil
          replace hB := hB.inS hc163 inNil
          have hSz := hS
          replace hS := hS.inS hc163 inNil
          replace hZ := Nat.le_trans hZ hc163.size
          refine ⟨.bool (y160), rfl, ?_⟩
          refine wS_end (by kernel_rfl) ?_
          refine eX_KH hS ?_
          refine wH_take [5, 6] [6, 5, 4, 3, 2, 1, 0] [(24, .bool (!y160)), (23, .bool (!y160))] (by kernel_rfl) (qT (qT (qB (qT (qL (qB (qT (qT qZ)))))))) (by kernel_rfl) ?_
          refine wH_bool (!y160) (fun hb164 => ?_) (fun hb164 => ?_)
          · have hm := condT hb164 hm
            rewrite [hb164]
            refine wH_take [7, 8, 9, 10, 11, 12, 13] [13, 12, 11, 10, 9, 8, 7, 6, 5, 4, 3, 2, 1, 0] [(31, undef), (30, undef), (29, undef), (28, undef), (27, undef), (26, undef), (25, undef)] (by kernel_rfl) (qT (qT (qB (qT (qL (qB (qT (qT qZ)))))))) (by kernel_rfl) ?_
            refine wH_done (by kernel_rfl) ?_
            refine eX_tail ?_
            refine wS_pure 3 [(34, .bool (true)), (33, undef), (32, undef)] (by kernel_rfl) ?_
            refine wS_end (by rfl) ?_
            refine eX_then ?_
            refine cW_cond_t (by kernel_rfl) ?_
            refine cW_seq ?_
            refine cW_region ?_
            refine wS_pure 1 [(2, .bool (false))] (by kernel_rfl) ?_
            refine wS_end (by rfl) ?_
            refine eX_then ?_
            refine cW_prune [(2, .bool (false))] (by kernel_rfl) (by kernel_rfl) (fun a165 => ?_)
            refine cW_ret ?_
            refine eX_block_ret ?_
            refine eX_then_ret ?_
            have hq : (some (Ctl.out (Sum.inr false)) : Option (Ctl (Int) (Sum (Unit) ((Bool))))) = some _ := hm
            replace hq := someE hq
            subst hq
            refine eX_outR hx128 (fun hr => ?_)
            subst hr
            refine eX_block_ret ?_
            refine eX_then_ret ?_
            refine eX_then_ret ?_
            have hq : (some false : Option ((Bool))) = some _ := hm125
            replace hq := someE hq
            subst hq
            refine eX_ret (vs := [.bool (false)]) [.tmp 2] (by rfl) ⟨by (show lkE _ _ _ = _); kernel_rfl, trivial⟩ ?_
            exact ⟨rfl, hB⟩
          · have hm := condF hb164 hm
            rewrite [hb164]
            refine wH_take [7, 8] [8, 7, 6, 5, 4, 3, 2, 1, 0] [(26, .int .i64 (x120)), (25, .slice A0 (l0).length cap0)] (by kernel_rfl) (qT (qT (qB (qT (qL (qB (qT (qT qZ)))))))) (by kernel_rfl) ?_
            obtain ⟨y166, hy167, hm⟩ := bindE hm
            refine wH_slice (k := 2) (enc := encII) (fp := fp0) (l := l0) (i := 9) (d := 27) (T := 25) (A := A0) (cap := cap0) (vlo := none) (vhi := some (.int .i64 (x120))) (lo := 0) (hi := x120) (n := 0) (by kernel_rfl) (qT (qT (qB (qT (qL (qB (qT (qT qZ)))))))) (by kernel_rfl) (by kernel_rfl) sl25 (Or.inr ⟨rfl, rfl⟩) (Or.inl rfl) K0 hy167 ?_
            intro A168 cap169 hcut170 hcap171
            have F172 := hcut170 _ F122
            have Fz173 := hcut170 _ Z157
            refine wH_take [10, 11] [11, 10, 9, 8, 7, 6, 5, 4, 3, 2, 1, 0] [(29, .int .i64 (x120)), (28, .slice A0 (l0).length cap0)] (by kernel_rfl) (qT (qT (qB (qT (qL (qB (qT (qT qZ)))))))) (by kernel_rfl) ?_
            obtain ⟨x175, hx176, hm⟩ := bindE hm
            refine wH_idx (i := 12) (d := 30) (T := 25) (A := A0) (n := (l0).length) (cap := cap0) (kd := .i64) (m := x120) (by kernel_rfl) (qT (qT (qB (qT (qL (qB (qT (qT qZ)))))))) (by kernel_rfl) (by kernel_rfl) sl25 (F122.is hx176) ?_
            refine wH_loadA (i := 13) (d := 31) (T := 34) (ad := (elA A0 2 (x120) 0)) (vs := [.int .i64 (x175.1), .int .i64 (x175.2)]) (by kernel_rfl) (qT (qT (qB (qT (qL (qB (qT (qT qZ)))))))) (by kernel_rfl) (by kernel_rfl) vt34 (fun W hW i u hu => Sl.cells_at (Z157.chg hW Dj.nil) hx176 0 hu (by rfl)) ?_
            refine wH_done (by kernel_rfl) ?_
            refine eX_tail ?_
            obtain ⟨y177, hy178, hm⟩ := bindE hm
            refine wS_calls (d := 32) (f := 95) (vs := [.slice A168 (y166).length cap169, .agg #[.int .i64 (x175.1), .int .i64 (x175.2)]]) (by kernel_rfl) ent95 (c_spec_l01Index hy178 F172) ?_
            rintro _ w179 ⟨rfl, hc180⟩
            replace F122 := F122.chg hc180 Dj.nil
            replace F172 := F172.chg hc180 Dj.nil
            replace hB := hB.inS hc180 inNil
            replace hZ := Nat.le_trans hZ hc180.size
            refine ⟨.int .i64 (y177), rfl, ?_⟩
            refine wS_pure 2 [(34, .bool (decide (y177 ≥ 0))), (33, .bool (decide (y177 ≥ 0)))] (by kernel_rfl) ?_
            refine wS_end (by rfl) ?_
            refine eX_then ?_
            refine cW_cond (t := decide (y177 ≥ 0)) (by kernel_rfl) (fun hb181 => ?_) (fun hb181 => ?_)
            · have hm := condT hb181 hm
              refine cW_seq ?_
              refine cW_region ?_
              refine wS_pure 1 [(2, .bool (false))] (by kernel_rfl) ?_
              refine wS_end (by rfl) ?_
              refine eX_then ?_
              refine cW_prune [(2, .bool (false))] (by kernel_rfl) (by kernel_rfl) (fun a182 => ?_)
              refine cW_ret ?_
              refine eX_block_ret ?_
              refine eX_then_ret ?_
              have hq : (some (Ctl.out (Sum.inr false)) : Option (Ctl (Int) (Sum (Unit) ((Bool))))) = some _ := hm
              replace hq := someE hq
              subst hq
              refine eX_outR hx128 (fun hr => ?_)
              subst hr
              refine eX_block_ret ?_
              refine eX_then_ret ?_
              refine eX_then_ret ?_
              have hq : (some false : Option ((Bool))) = some _ := hm125
              replace hq := someE hq
              subst hq
              refine eX_ret (vs := [.bool (false)]) [.tmp 2] (by rfl) ⟨by (show lkE _ _ _ = _); kernel_rfl, trivial⟩ ?_
              exact ⟨rfl, hB⟩
            · have hm := condF hb181 hm
              refine cW_skip ?_
              refine eX_block ?_
              refine eX_then ?_
              refine cW_region ?_
              refine wS_pure 3 [(3, .int .i64 (wr (x120 + 1))), (17, .int .i64 (wr (x120 + 1))), (16, .int .i64 (x120))] (by kernel_rfl) ?_
              refine wS_end (by rfl) ?_
              have hq : (some (Ctl.next (wr (x120 + 1))) : Option (Ctl (Int) (Sum (Unit) ((Bool))))) = some _ := hm
              replace hq := someE hq
              subst hq
              exact eX_next hx128 (fun hst => ⟨wr (x120 + 1), rfl, Fr.of hst (by kernel_rfl), F122, hB, hZ⟩)
        · have hm := condF hb129 hm
          refine cW_exit ?_
          refine eX_then_exit ?_
          have hq : (some (Ctl.out (Sum.inl (()))) : Option (Ctl (Int) (Sum (Unit) ((Bool))))) = some _ := hm
          replace hq := someE hq
          subst hq
          refine eX_outX hx128 (fun hr183 => ?_)
          replace hr183 := hr183.symm
          subst hr183
          refine eX_block_hit ?_
          exact eX_J (fun hst => ⟨rfl, Fr.of hst (by kernel_rfl), hB, hZ⟩)
      · rintro a' w117 ⟨hJ, hF118, hB, hZ⟩
        subst hJ
        refine Fr.goX hF118 (by kernel_rfl) ?_
        refine eX_then ?_
        refine cW_seq ?_
        refine cW_region ?_
        refine wS_pure 1 [(2, .bool (true))] (by kernel_rfl) ?_
        refine wS_end (by rfl) ?_
        refine eX_then ?_
        refine cW_ret ?_
        have hq : (some true : Option ((Bool))) = some _ := hm
        replace hq := someE hq
        subst hq
        refine eX_ret (vs := [.bool (true)]) [.tmp 2] (by rfl) ⟨by (show lkE _ _ _ = _); kernel_rfl, trivial⟩ ?_
        exact ⟨rfl, hB⟩

set_option maxRecDepth 100000 in
/-- spec.l05Star -/
theorem c_spec_l05Star {w0 : World} {l0 : List (Int × Int)} {A0 : Option Addr} {cap0 : Nat} {fp0 : List Nat} {p1_0 : Int} {p1_1 : Int} {r : (Int)} (hm : m_spec_l05Star l0 p1_0 p1_1 = some r) (F0 : Sl 2 encII w0 fp0 A0 l0) :
    Calls Try.prog 77 #[.slice A0 (l0).length cap0, .agg #[.int .i64 (p1_0), .int .i64 (p1_1)]] w0 fun e w' => e = .returned (.int .i64 (r)) ∧ Chg [] w0 w' := by
  have L0 := F0.low
  have hB : Chg [] w0 w0 := Chg.refl _ _
  have hZ := Nat.le_refl w0.heap.size
  unfold m_spec_l05Star at hm
  refine enterE (N := 22) Try.func77 (by rfl) Try.ntmps77 (by simp) [(0, .slice A0 (l0).length cap0), (1, .agg #[.int .i64 (p1_0), .int .i64 (p1_1)])] (by rfl) (by kernel_rfl) (fun a => ?_)
  refine cW_seq ?_
  refine cW_region ?_
  refine wS_box (d := 3) (T := 34) (x := .agg #[.int .i64 (p1_0), .int .i64 (p1_1)]) (by kernel_rfl) ?_
  intro b2 w3 G4 F5 hc6
  replace F5 : Cl w3 b2 34 [.int .i64 (p1_0), .int .i64 (p1_1)] := F5
  replace F0 := F0.chg hc6 Dj.nil
  replace hB := hB.inS hc6 inNil
  replace G4 := Nat.le_trans hZ G4
  replace hZ := Nat.le_trans hZ hc6.size
  refine wS_pure 1 [(4, .int .i64 (0))] (by kernel_rfl) ?_
  refine wS_end (by rfl) ?_
  refine eX_then ?_
  refine cW_seq ?_
  refine cW_region ?_
  refine wS_pure 1 [(5, .int .i64 (0))] (by kernel_rfl) ?_
  refine wS_end (by rfl) ?_
  refine eX_then ?_
  refine cW_seq ?_
  refine cW_seq ?_
  refine cW_region ?_
  refine wS_pure 1 [(6, .int .i64 (0))] (by kernel_rfl) ?_
  refine wS_end (by rfl) ?_
  refine eX_then ?_
  obtain ⟨r67, hr68, hm⟩ := bindE hm
  have hm69 := hm
  refine cW_cut (fun a' w' => ∃ x59 : Int, x59 = r67 ∧ Fr 22 [(5, .int .i64 (x59))] a' ∧ Chg [] w0 w' ∧ w0.heap.size ≤ w'.heap.size) ?_ ?_
  · refine cW_block ?_
    refine cW_loop _ (fun (s70 : Int × Int) a' w' => ∃ x62 : Int, ∃ x63 : Int, (x62, x63) = s70 ∧ Fr 22 [(0, .slice A0 (l0).length cap0), (3, .pointer (some ⟨b2, 0, none⟩)), (5, .int .i64 (x62)), (6, .int .i64 (x63))] a' ∧ Sl 2 encII w' fp0 A0 l0 ∧ Cl w' b2 34 [.int .i64 (p1_0), .int .i64 (p1_1)] ∧ Chg [] w0 w' ∧ w0.heap.size ≤ w'.heap.size) hr68 (fun hst => ⟨0, 0, rfl, Fr.of hst (by kernel_rfl), F0, F5, hB, hZ⟩) ?_
    rintro _ c71 a' w61 ⟨x62, x63, rfl, hF64, F65, F66, hB, hZ⟩ hx72
    refine Fr.goOn hF64 (by kernel_rfl) ?_
    have hm := hx72
    unfold m_spec_l05Star_s1 at hm
    refine cW_seq ?_
    refine cW_seq ?_
    refine cW_region ?_
    refine wS_pure 4 [(10, .bool (decide (x63 < (((l0).length : Int))))), (9, .int .i64 (((l0).length : Int))), (8, .slice A0 (l0).length cap0), (7, .int .i64 (x63))] (by kernel_rfl) ?_
    refine wS_end (by rfl) ?_
    refine eX_then ?_
    refine cW_cond (t := decide (x63 < (((l0).length : Int)))) (by kernel_rfl) (fun hb73 => ?_) (fun hb73 => ?_)
    · have hm := condT hb73 hm
      refine cW_skip ?_
      refine eX_then ?_
      refine cW_seq ?_
      refine cW_block ?_
      refine cW_drawnTail [] 7 (by kernel_rfl) (by kernel_rfl) (fun w84 hc85 => ?_)
      replace F65 := F65.chg hc85 Dj.nil
      replace F66 := F66.chg hc85 notNil
      replace hB := hB.inS hc85 inNil
      replace hZ := Nat.le_trans hZ hc85.size
      have hS := Chg.refl [] w84
      have Z86 := F65
      have Z87 := F66
      refine wH_take [0, 1, 2] [2, 1, 0] [(15, .int .i64 (x63)), (14, .slice A0 (l0).length cap0), (13, .int .i64 (x62))] (by kernel_rfl) (qT (qB (qT (qL (qB (qT (qT qZ))))))) (by kernel_rfl) ?_
      obtain ⟨x88, hx89, hm⟩ := bindE hm
      refine wH_idx (i := 3) (d := 16) (T := 25) (A := A0) (n := (l0).length) (cap := cap0) (kd := .i64) (m := x63) (by kernel_rfl) (qT (qB (qT (qL (qB (qT (qT qZ))))))) (by kernel_rfl) (by kernel_rfl) sl25 (F65.is hx89) ?_
      refine wH_loadA (i := 4) (d := 17) (T := 34) (ad := (elA A0 2 (x63) 0)) (vs := [.int .i64 (x88.1), .int .i64 (x88.2)]) (by kernel_rfl) (qT (qB (qT (qL (qB (qT (qT qZ))))))) (by kernel_rfl) (by kernel_rfl) vt34 (fun W hW i u hu => Sl.cells_at (Z86.chg hW Dj.nil) hx89 0 hu (by rfl)) ?_
      refine wH_loadA (i := 5) (d := 18) (T := 34) (ad := ⟨b2, 0, none⟩) (vs := [.int .i64 (p1_0), .int .i64 (p1_1)]) (by kernel_rfl) (qT (qB (qT (qL (qB (qT (qT qZ))))))) (by kernel_rfl) (by kernel_rfl) vt34 (fun W hW i u hu => box_cells (Z87.chg hW notNil) 0 hu (by rfl)) ?_
      refine wH_all [6] (by rfl) (by kernel_rfl) (by simp) ⟨⟨by kernel_rfl, ?_⟩, trivial⟩
      obtain ⟨y90, hy91, hm⟩ := bindE hm
      refine wS_calls (d := 19) (f := 84) (vs := [.agg #[.int .i64 (x88.1), .int .i64 (x88.2)], .agg #[.int .i64 (p1_0), .int .i64 (p1_1)]]) (by kernel_rfl) ent84 (c_spec_l01Far hy91) ?_
      rintro _ w92 ⟨rfl, hc93⟩
      replace F65 := F65.chg hc93 Dj.nil
      replace F66 := F66.chg hc93 notNil
      replace hB := hB.inS hc93 inNil
      have hSz := hS
      replace hS := hS.inS hc93 inNil
      replace hZ := Nat.le_trans hZ hc93.size
      refine ⟨.int .i64 (y90), rfl, ?_⟩
      refine wS_end (by kernel_rfl) ?_
      refine eX_KH hS ?_
      refine wH_done (by kernel_rfl) ?_
      refine eX_tail ?_
      refine wS_pure 2 [(5, .int .i64 (wr (x62 + y90))), (20, .int .i64 (wr (x62 + y90)))] (by kernel_rfl) ?_
      refine wS_end (by rfl) ?_
      refine eX_block ?_
      refine eX_then ?_
      refine cW_region ?_
      refine wS_pure 3 [(6, .int .i64 (wr (x63 + 1))), (12, .int .i64 (wr (x63 + 1))), (11, .int .i64 (x63))] (by kernel_rfl) ?_
      refine wS_end (by rfl) ?_
      have hq : (some (Ctl.next ((wr (x62 + y90), wr (x63 + 1)))) : Option (Ctl (Int × Int) (Int))) = some _ := hm
      replace hq := someE hq
      subst hq
      exact eX_next hx72 (fun hst => ⟨wr (x62 + y90), wr (x63 + 1), rfl, Fr.of hst (by kernel_rfl), F65, F66, hB, hZ⟩)
    · have hm := condF hb73 hm
      refine cW_exit ?_
      refine eX_then_exit ?_
      have hq : (some (Ctl.out x62) : Option (Ctl (Int × Int) (Int))) = some _ := hm
      replace hq := someE hq
      subst hq
      refine eX_outX hx72 (fun hr94 => ?_)
      replace hr94 := hr94.symm
      subst hr94
      refine eX_block_hit ?_
      exact eX_J (fun hst => ⟨x62, rfl, Fr.of hst (by kernel_rfl), hB, hZ⟩)
  · rintro a' w58 ⟨x59, hJ, hF60, hB, hZ⟩
    subst hJ
    refine Fr.goX hF60 (by kernel_rfl) ?_
    refine eX_then ?_
    refine cW_seq ?_
    refine cW_region ?_
    refine wS_pure 2 [(4, .int .i64 (x59)), (21, .int .i64 (x59))] (by kernel_rfl) ?_
    refine wS_end (by rfl) ?_
    refine eX_then ?_
    refine cW_ret ?_
    have hq : (some x59 : Option ((Int))) = some _ := hm
    replace hq := someE hq
    subst hq
    refine eX_ret (vs := [.int .i64 (x59)]) [.tmp 4] (by rfl) ⟨by (show lkE _ _ _ = _); kernel_rfl, trivial⟩ ?_
    exact ⟨rfl, hB⟩

set_option maxRecDepth 100000 in
/-- spec.StarLength -/
theorem c_spec_StarLength {w0 : World} {l0 : List (Int × Int)} {A0 : Option Addr} {cap0 : Nat} {fp0 : List Nat} {p1_0 : Int} {p1_1 : Int} {r : (Int) × (Bool)} (hm : m_spec_StarLength l0 p1_0 p1_1 = some r) (F0 : Sl 2 encII w0 fp0 A0 l0) (K0 : (l0).length ≤ cap0) :
    Calls Try.prog 27 #[.slice A0 (l0).length cap0, .agg #[.int .i64 (p1_0), .int .i64 (p1_1)]] w0 fun e w' => e = .returned (.tuple #[.int .i64 (r.1), .bool (r.2)]) ∧ Chg [] w0 w' := by
  have L0 := F0.low
  have hB : Chg [] w0 w0 := Chg.refl _ _
  have hZ := Nat.le_refl w0.heap.size
  unfold m_spec_StarLength at hm
  refine enterE (N := 17) Try.func27 (by rfl) Try.ntmps27 (by simp) [(0, .slice A0 (l0).length cap0), (1, .agg #[.int .i64 (p1_0), .int .i64 (p1_1)])] (by rfl) (by kernel_rfl) (fun a => ?_)
  refine cW_seq ?_
  refine cW_region ?_
  refine wS_box (d := 3) (T := 34) (x := .agg #[.int .i64 (p1_0), .int .i64 (p1_1)]) (by kernel_rfl) ?_
  intro b2 w3 G4 F5 hc6
  replace F5 : Cl w3 b2 34 [.int .i64 (p1_0), .int .i64 (p1_1)] := F5
  replace F0 := F0.chg hc6 Dj.nil
  replace hB := hB.inS hc6 inNil
  replace G4 := Nat.le_trans hZ G4
  replace hZ := Nat.le_trans hZ hc6.size
  refine wS_pure 2 [(5, .bool (false)), (4, .int .i64 (0))] (by kernel_rfl) ?_
  refine wS_end (by rfl) ?_
  refine eX_then ?_
  refine cW_seq ?_
  refine cW_seq ?_
  refine cW_region ?_
  refine wS_pure 1 [(6, .slice A0 (l0).length cap0)] (by kernel_rfl) ?_
  obtain ⟨y8, hy9, hm⟩ := bindE hm
  refine wS_calls (d := 7) (f := 75) (vs := [.slice A0 (l0).length cap0]) (by kernel_rfl) ent75 (c_spec_l05Is hy9 F0 K0) ?_
  rintro _ w10 ⟨rfl, hc11⟩
  replace F0 := F0.chg hc11 Dj.nil
  replace F5 := F5.chg hc11 notNil
  replace hB := hB.inS hc11 inNil
  replace hZ := Nat.le_trans hZ hc11.size
  refine ⟨.bool (y8), rfl, ?_⟩
  refine wS_pure 2 [(9, .bool (!y8)), (8, .bool (!y8))] (by kernel_rfl) ?_
  refine wS_bool (!y8) (fun hb12 => ?_) (fun hb12 => ?_)
  · have hm := condT hb12 hm
    rewrite [hb12]
    refine wS_pure 4 [(13, .bool (true)), (12, undef), (11, undef), (10, undef)] (by kernel_rfl) ?_
    refine wS_end (by rfl) ?_
    refine eX_then ?_
    refine cW_cond_t (by kernel_rfl) ?_
    refine cW_seq ?_
    refine cW_region ?_
    refine wS_pure 2 [(5, .bool (false)), (4, .int .i64 (0))] (by kernel_rfl) ?_
    refine wS_end (by rfl) ?_
    refine eX_then ?_
    refine cW_ret ?_
    refine eX_then_ret ?_
    have hq : (some ((0, false)) : Option ((Int) × (Bool))) = some _ := hm
    replace hq := someE hq
    subst hq
    refine eX_ret (vs := [.int .i64 (0), .bool (false)]) [.tmp 4, .tmp 5] (by rfl) ⟨by (show lkE _ _ _ = _); kernel_rfl, ⟨by (show lkE _ _ _ = _); kernel_rfl, trivial⟩⟩ ?_
    exact ⟨rfl, hB⟩
  · have hm := condF hb12 hm
    rewrite [hb12]
    refine wS_loadA (d := 10) (T := 34) (ad := ⟨b2, 0, none⟩) (vs := [.int .i64 (p1_0), .int .i64 (p1_1)]) (by kernel_rfl) vt34 (fun i u hu => box_cells F5 0 hu (by rfl)) ?_
    obtain ⟨y13, hy14, hm⟩ := bindE hm
    refine wS_calls (d := 11) (f := 76) (vs := [.agg #[.int .i64 (p1_0), .int .i64 (p1_1)]]) (by kernel_rfl) ent76 (c_spec_l01Point hy14) ?_
    rintro _ w15 ⟨rfl, hc16⟩
    replace F0 := F0.chg hc16 Dj.nil
    replace F5 := F5.chg hc16 notNil
    replace hB := hB.inS hc16 inNil
    replace hZ := Nat.le_trans hZ hc16.size
    refine ⟨.bool (y13), rfl, ?_⟩
    refine wS_pure 2 [(13, .bool (!y13)), (12, .bool (!y13))] (by kernel_rfl) ?_
    refine wS_end (by rfl) ?_
    refine eX_then ?_
    refine cW_cond (t := !y13) (by kernel_rfl) (fun hb17 => ?_) (fun hb17 => ?_)
    · have hm := condT hb17 hm
      refine cW_seq ?_
      refine cW_region ?_
      refine wS_pure 2 [(5, .bool (false)), (4, .int .i64 (0))] (by kernel_rfl) ?_
      refine wS_end (by rfl) ?_
      refine eX_then ?_
      refine cW_ret ?_
      refine eX_then_ret ?_
      have hq : (some ((0, false)) : Option ((Int) × (Bool))) = some _ := hm
      replace hq := someE hq
      subst hq
      refine eX_ret (vs := [.int .i64 (0), .bool (false)]) [.tmp 4, .tmp 5] (by rfl) ⟨by (show lkE _ _ _ = _); kernel_rfl, ⟨by (show lkE _ _ _ = _); kernel_rfl, trivial⟩⟩ ?_
      exact ⟨rfl, hB⟩
    · have hm := condF hb17 hm
      refine cW_skip ?_
      refine eX_then ?_
      refine cW_seq ?_
      refine cW_region ?_
      refine wS_pure 1 [(14, .slice A0 (l0).length cap0)] (by kernel_rfl) ?_
      refine wS_loadA (d := 15) (T := 34) (ad := ⟨b2, 0, none⟩) (vs := [.int .i64 (p1_0), .int .i64 (p1_1)]) (by kernel_rfl) vt34 (fun i u hu => box_cells F5 0 hu (by rfl)) ?_
      obtain ⟨y18, hy19, hm⟩ := bindE hm
      refine wS_calls (d := 16) (f := 77) (vs := [.slice A0 (l0).length cap0, .agg #[.int .i64 (p1_0), .int .i64 (p1_1)]]) (by kernel_rfl) ent77 (c_spec_l05Star hy19 F0) ?_
      rintro _ w20 ⟨rfl, hc21⟩
      replace F0 := F0.chg hc21 Dj.nil
      replace F5 := F5.chg hc21 notNil
      replace hB := hB.inS hc21 inNil
      replace hZ := Nat.le_trans hZ hc21.size
      refine ⟨.int .i64 (y18), rfl, ?_⟩
      refine wS_pure 2 [(5, .bool (true)), (4, .int .i64 (y18))] (by kernel_rfl) ?_
      refine wS_end (by rfl) ?_
      refine eX_then ?_
      refine cW_ret ?_
      have hq : (some ((y18, true)) : Option ((Int) × (Bool))) = some _ := hm
      replace hq := someE hq
      subst hq
      refine eX_ret (vs := [.int .i64 (y18), .bool (true)]) [.tmp 4, .tmp 5] (by rfl) ⟨by (show lkE _ _ _ = _); kernel_rfl, ⟨by (show lkE _ _ _ = _); kernel_rfl, trivial⟩⟩ ?_
      exact ⟨rfl, hB⟩

set_option maxRecDepth 100000 in
/-- impl.pinsOk -/
theorem c_impl_pinsOk {w0 : World} {l0 : List (Int × Int)} {A0 : Option Addr} {cap0 : Nat} {fp0 : List Nat} {p1 : Int} {r : (Bool)} (hm : m_impl_pinsOk l0 p1 = some r) (F0 : Sl 2 encII w0 fp0 A0 l0) :
    Calls Try.prog 88 #[.slice A0 (l0).length cap0, .int .i64 (p1)] w0 fun e w' => e = .returned (.bool (r)) ∧ Chg [] w0 w' := by
  have L0 := F0.low
  have hB : Chg [] w0 w0 := Chg.refl _ _
  have hZ := Nat.le_refl w0.heap.size
  unfold m_impl_pinsOk at hm
  refine enterE (N := 27) Try.func88 (by rfl) Try.ntmps88 (by simp) [(0, .slice A0 (l0).length cap0), (1, .int .i64 (p1))] (by rfl) (by kernel_rfl) (fun a => ?_)
  refine cW_seq ?_
  refine cW_region ?_
  refine wS_pure 1 [(4, .bool (false))] (by kernel_rfl) ?_
  refine wS_end (by rfl) ?_
  refine eX_then ?_
  refine cW_seq ?_
  refine cW_region ?_
  refine wS_pure 4 [(8, .bool (decide ((((l0).length : Int)) ≥ 1))), (7, .bool (decide ((((l0).length : Int)) ≥ 1))), (6, .int .i64 (((l0).length : Int))), (5, .slice A0 (l0).length cap0)] (by kernel_rfl) ?_
  refine wS_bool (decide ((((l0).length : Int)) ≥ 1)) (fun hb2 => ?_) (fun hb2 => ?_)
  · have hm := condT hb2 hm
    rewrite [hb2]
    refine wS_pure 6 [(14, .bool (decide ((((l0).length : Int)) ≤ p1))), (13, .bool (decide ((((l0).length : Int)) ≤ p1))), (12, .bool (decide ((((l0).length : Int)) ≤ p1))), (11, .int .i64 (p1)), (10, .int .i64 (((l0).length : Int))), (9, .slice A0 (l0).length cap0)] (by kernel_rfl) ?_
    refine wS_bool (decide ((((l0).length : Int)) ≤ p1)) (fun hb3 => ?_) (fun hb3 => ?_)
    · have hm := condT hb3 hm
      rewrite [hb3]
      refine wS_pure 1 [(15, .slice A0 (l0).length cap0)] (by kernel_rfl) ?_
      obtain ⟨y4, hy5, hm⟩ := bindE hm
      refine wS_calls (d := 16) (f := 71) (vs := [.slice A0 (l0).length cap0, .func (.func 72) #[] #[]]) (by kernel_rfl) ent71 (c_slices_ContainsFunc_impl_Point_impl_Point_impl_noPoint hy5 F0) ?_
      rintro _ w6 ⟨rfl, hc7⟩
      replace F0 := F0.chg hc7 Dj.nil
      replace hB := hB.inS hc7 inNil
      replace hZ := Nat.le_trans hZ hc7.size
      refine ⟨.bool (y4), rfl, ?_⟩
      refine wS_pure 3 [(19, .bool (!y4)), (18, .bool (!y4)), (17, .bool (!y4))] (by kernel_rfl) ?_
      refine wS_bool (!y4) (fun hb8 => ?_) (fun hb8 => ?_)
      · have hm := condT hb8 hm
        rewrite [hb8]
        refine wS_pure 1 [(20, .slice A0 (l0).length cap0)] (by kernel_rfl) ?_
        obtain ⟨y9, hy10, hm⟩ := bindE hm
        refine wS_calls (d := 21) (f := 74) (vs := [.slice A0 (l0).length cap0]) (by kernel_rfl) ent74 (c_impl_sorted hy10 F0) ?_
        rintro _ w11 ⟨A13, cap14, fp15, rfl, F16, G17, hc12⟩
        replace F0 := F0.chg hc12 Dj.nil
        replace hB := hB.inS hc12 inNil
        replace G17 := low_le hZ G17
        replace hZ := Nat.le_trans hZ hc12.size
        refine ⟨.slice A13 (y9).length cap14, rfl, ?_⟩
        refine wS_pure 6 [(4, .bool ((((y9).length : Int)) == (((l0).length : Int)))), (26, .bool ((((y9).length : Int)) == (((l0).length : Int)))), (25, .bool ((((y9).length : Int)) == (((l0).length : Int)))), (24, .int .i64 (((l0).length : Int))), (23, .slice A0 (l0).length cap0), (22, .int .i64 (((y9).length : Int)))] (by kernel_rfl) ?_
        refine wS_end (by rfl) ?_
        refine eX_then ?_
        refine cW_prune [(4, .bool ((((y9).length : Int)) == (((l0).length : Int))))] (by kernel_rfl) (by kernel_rfl) (fun a20 => ?_)
        refine cW_ret ?_
        have hq : (some ((((y9).length : Int)) == (((l0).length : Int))) : Option ((Bool))) = some _ := hm
        replace hq := someE hq
        subst hq
        refine eX_ret (vs := [.bool ((((y9).length : Int)) == (((l0).length : Int)))]) [.tmp 4] (by rfl) ⟨by (show lkE _ _ _ = _); kernel_rfl, trivial⟩ ?_
        exact ⟨rfl, hB⟩
      · have hm := condF hb8 hm
        rewrite [hb8]
        refine wS_pure 8 [(4, .bool (false)), (26, .bool (false)), (25, undef), (24, undef), (23, undef), (22, undef), (21, undef), (20, undef)] (by kernel_rfl) ?_
        refine wS_end (by rfl) ?_
        refine eX_then ?_
        refine cW_prune [(4, .bool (false))] (by kernel_rfl) (by kernel_rfl) (fun a21 => ?_)
        refine cW_ret ?_
        have hq : (some false : Option ((Bool))) = some _ := hm
        replace hq := someE hq
        subst hq
        refine eX_ret (vs := [.bool (false)]) [.tmp 4] (by rfl) ⟨by (show lkE _ _ _ = _); kernel_rfl, trivial⟩ ?_
        exact ⟨rfl, hB⟩
    · have hm := condF hb3 hm
      rewrite [hb3]
      refine wS_pure 13 [(4, .bool (false)), (26, .bool (false)), (25, undef), (24, undef), (23, undef), (22, undef), (21, undef), (20, undef), (19, .bool (false)), (18, .bool (false)), (17, undef), (16, undef), (15, undef)] (by kernel_rfl) ?_
      refine wS_end (by rfl) ?_
      refine eX_then ?_
      refine cW_prune [(4, .bool (false))] (by kernel_rfl) (by kernel_rfl) (fun a22 => ?_)
      refine cW_ret ?_
      have hq : (some false : Option ((Bool))) = some _ := hm
      replace hq := someE hq
      subst hq
      refine eX_ret (vs := [.bool (false)]) [.tmp 4] (by rfl) ⟨by (show lkE _ _ _ = _); kernel_rfl, trivial⟩ ?_
      exact ⟨rfl, hB⟩
  · have hm := condF hb2 hm
    rewrite [hb2]
    refine wS_pure 19 [(4, .bool (false)), (26, .bool (false)), (25, undef), (24, undef), (23, undef), (22, undef), (21, undef), (20, undef), (19, .bool (false)), (18, .bool (false)), (17, undef), (16, undef), (15, undef), (14, .bool (false)), (13, .bool (false)), (12, undef), (11, undef), (10, undef), (9, undef)] (by kernel_rfl) ?_
    refine wS_end (by rfl) ?_
    refine eX_then ?_
    refine cW_prune [(4, .bool (false))] (by kernel_rfl) (by kernel_rfl) (fun a23 => ?_)
    refine cW_ret ?_
    have hq : (some false : Option ((Bool))) = some _ := hm
    replace hq := someE hq
    subst hq
    refine eX_ret (vs := [.bool (false)]) [.tmp 4] (by rfl) ⟨by (show lkE _ _ _ = _); kernel_rfl, trivial⟩ ?_
    exact ⟨rfl, hB⟩

set_option maxRecDepth 100000 in
/-- impl.ArePins -/
theorem c_impl_ArePins {w0 : World} {l0 : List (Int × Int)} {A0 : Option Addr} {cap0 : Nat} {fp0 : List Nat} {r : (Bool)} (hm : m_impl_ArePins l0 = some r) (F0 : Sl 2 encII w0 fp0 A0 l0) :
    Calls Try.prog 78 #[.slice A0 (l0).length cap0] w0 fun e w' => e = .returned (.bool (r)) ∧ Chg [] w0 w' := by
  have L0 := F0.low
  have hB : Chg [] w0 w0 := Chg.refl _ _
  have hZ := Nat.le_refl w0.heap.size
  unfold m_impl_ArePins at hm
  refine enterE (N := 5) Try.func78 (by rfl) Try.ntmps78 (by simp) [(0, .slice A0 (l0).length cap0)] (by rfl) (by kernel_rfl) (fun a => ?_)
  refine cW_seq ?_
  refine cW_region ?_
  refine wS_pure 1 [(2, .bool (false))] (by kernel_rfl) ?_
  refine wS_end (by rfl) ?_
  refine eX_then ?_
  refine cW_seq ?_
  refine cW_region ?_
  refine wS_pure 1 [(3, .slice A0 (l0).length cap0)] (by kernel_rfl) ?_
  obtain ⟨y2, hy3, hm⟩ := bindE hm
  refine wS_calls (d := 4) (f := 88) (vs := [.slice A0 (l0).length cap0, .int .i64 (20)]) (by kernel_rfl) ent88 (c_impl_pinsOk hy3 F0) ?_
  rintro _ w4 ⟨rfl, hc5⟩
  replace F0 := F0.chg hc5 Dj.nil
  replace hB := hB.inS hc5 inNil
  replace hZ := Nat.le_trans hZ hc5.size
  refine ⟨.bool (y2), rfl, ?_⟩
  refine wS_pure 1 [(2, .bool (y2))] (by kernel_rfl) ?_
  refine wS_end (by rfl) ?_
  refine eX_then ?_
  refine cW_ret ?_
  have hq : (some y2 : Option ((Bool))) = some _ := hm
  replace hq := someE hq
  subst hq
  refine eX_ret (vs := [.bool (y2)]) [.tmp 2] (by rfl) ⟨by (show lkE _ _ _ = _); kernel_rfl, trivial⟩ ?_
  exact ⟨rfl, hB⟩

set_option maxRecDepth 100000 in
/-- impl.star -/
theorem c_impl_star {w0 : World} {l0 : List (Int × Int)} {A0 : Option Addr} {cap0 : Nat} {fp0 : List Nat} {p1_0 : Int} {p1_1 : Int} {r : (Int)} (hm : m_impl_star l0 p1_0 p1_1 = some r) (F0 : Sl 2 encII w0 fp0 A0 l0) :
    Calls Try.prog 80 #[.slice A0 (l0).length cap0, .agg #[.int .i64 (p1_0), .int .i64 (p1_1)]] w0 fun e w' => e = .returned (.int .i64 (r)) ∧ Chg [] w0 w' := by
  have L0 := F0.low
  have hB : Chg [] w0 w0 := Chg.refl _ _
  have hZ := Nat.le_refl w0.heap.size
  unfold m_impl_star at hm
  refine enterE (N := 21) Try.func80 (by rfl) Try.ntmps80 (by simp) [(0, .slice A0 (l0).length cap0), (1, .agg #[.int .i64 (p1_0), .int .i64 (p1_1)])] (by rfl) (by kernel_rfl) (fun a => ?_)
  refine cW_seq ?_
  refine cW_region ?_
  refine wS_box (d := 3) (T := 34) (x := .agg #[.int .i64 (p1_0), .int .i64 (p1_1)]) (by kernel_rfl) ?_
  intro b2 w3 G4 F5 hc6
  replace F5 : Cl w3 b2 34 [.int .i64 (p1_0), .int .i64 (p1_1)] := F5
  replace F0 := F0.chg hc6 Dj.nil
  replace hB := hB.inS hc6 inNil
  replace G4 := Nat.le_trans hZ G4
  replace hZ := Nat.le_trans hZ hc6.size
  refine wS_pure 1 [(4, .int .i64 (0))] (by kernel_rfl) ?_
  refine wS_end (by rfl) ?_
  refine eX_then ?_
  refine cW_seq ?_
  refine cW_region ?_
  refine wS_pure 1 [(5, .int .i64 (0))] (by kernel_rfl) ?_
  refine wS_end (by rfl) ?_
  refine eX_then ?_
  refine cW_seq ?_
  refine cW_seq ?_
  refine cW_region ?_
  refine wS_pure 3 [(10, .int .i64 (0)), (9, .int .i64 (((l0).length : Int))), (8, .slice A0 (l0).length cap0)] (by kernel_rfl) ?_
  refine wS_end (by rfl) ?_
  refine eX_then ?_
  obtain ⟨r59, hr60, hm⟩ := bindE hm
  have hm61 := hm
  refine cW_cut (fun a' w' => ∃ x51 : Int, x51 = r59 ∧ Fr 21 [(5, .int .i64 (x51))] a' ∧ Chg [] w0 w' ∧ w0.heap.size ≤ w'.heap.size) ?_ ?_
  · refine cW_block ?_
    refine cW_loop _ (fun (s62 : Int × Int) a' w' => ∃ x54 : Int, ∃ x55 : Int, (x54, x55) = s62 ∧ Fr 21 [(3, .pointer (some ⟨b2, 0, none⟩)), (5, .int .i64 (x54)), (8, .slice A0 (l0).length cap0), (9, .int .i64 (((l0).length : Int))), (10, .int .i64 (x55))] a' ∧ Sl 2 encII w' fp0 A0 l0 ∧ Cl w' b2 34 [.int .i64 (p1_0), .int .i64 (p1_1)] ∧ Chg [] w0 w' ∧ w0.heap.size ≤ w'.heap.size) hr60 (fun hst => ⟨0, 0, rfl, Fr.of hst (by kernel_rfl), F0, F5, hB, hZ⟩) ?_
    rintro _ c63 a' w53 ⟨x54, x55, rfl, hF56, F57, F58, hB, hZ⟩ hx64
    refine Fr.goOn hF56 (by kernel_rfl) ?_
    have hm := hx64
    unfold m_impl_star_s1 at hm
    refine cW_seq ?_
    refine cW_region ?_
    refine wS_pure 1 [(11, .bool (decide (x55 < (((l0).length : Int)))))] (by kernel_rfl) ?_
    refine wS_end (by rfl) ?_
    refine eX_then ?_
    refine cW_seq ?_
    refine cW_cond (t := decide (x55 < (((l0).length : Int)))) (by kernel_rfl) (fun hb65 => ?_) (fun hb65 => ?_)
    · have hm := condT hb65 hm
      refine cW_skip ?_
      refine eX_then ?_
      refine cW_seq ?_
      refine cW_block ?_
      refine cW_seq ?_
      refine cW_region ?_
      obtain ⟨x66, hx67, hm⟩ := bindE hm
      refine wS_idx (d := 12) (T := 25) (A := A0) (n := (l0).length) (cap := cap0) (kd := .i64) (m := x55) (by kernel_rfl) sl25 (F57.is hx67) ?_
      refine wS_loadA (d := 13) (T := 34) (ad := (elA A0 2 (x55) 0)) (vs := [.int .i64 (x66.1), .int .i64 (x66.2)]) (by kernel_rfl) vt34 (fun i u hu => Sl.cells_at F57 hx67 0 hu (by rfl)) ?_
      refine wS_alloc (d := 7) (T := 34) (z := .agg #[.int .i64 (0), .int .i64 (0)]) (by kernel_rfl) (by kernel_rfl) ?_
      intro b68 w69 G70 F71 hc72
      replace F71 : Cl w69 b68 34 [.int .i64 (0), .int .i64 (0)] := F71
      have D74 : Dj [b2] [b68] := Dj.of (lt1 F58.lt) (low1 G70)
      replace F57 := F57.chg hc72 Dj.nil
      replace F58 := F58.chg hc72 notNil
      replace hB := hB.inS hc72 inNil
      replace G70 := Nat.le_trans hZ G70
      replace hZ := Nat.le_trans hZ hc72.size
      refine wS_store (T := 34) (g := b68) (o := 0) (ad := ⟨b68, 0, none⟩) (v := .agg #[.int .i64 (x66.1), .int .i64 (x66.2)]) (vs := [.int .i64 (x66.1), .int .i64 (x66.2)]) (by kernel_rfl) (by rfl) sz34 (by rfl) (by rfl) F71 (by simp only [List.length_cons, List.length_nil]; omega) ?_
      intro w75 F76 hc77
      replace F57 := F57.chg hc77 (Dj.of L0 (low1 G70))
      replace F58 := F58.chg hc77 (dj1 D74)
      replace hB := hB.inS hc77 (inLow (low1 G70))
      replace hZ := Nat.le_trans hZ hc77.size
      replace F76 : Cl w75 b68 34 [.int .i64 (x66.1), .int .i64 (x66.2)] := F76
      clear F71
      refine wS_end (by rfl) ?_
      refine eX_then ?_
      refine cW_region ?_
      refine wS_pure 1 [(14, .int .i64 (x54))] (by kernel_rfl) ?_
      refine wS_loadA (d := 15) (T := 34) (ad := ⟨b68, 0, none⟩) (vs := [.int .i64 (x66.1), .int .i64 (x66.2)]) (by kernel_rfl) vt34 (fun i u hu => box_cells F76 0 hu (by rfl)) ?_
      refine wS_loadA (d := 16) (T := 34) (ad := ⟨b2, 0, none⟩) (vs := [.int .i64 (p1_0), .int .i64 (p1_1)]) (by kernel_rfl) vt34 (fun i u hu => box_cells F58 0 hu (by rfl)) ?_
      obtain ⟨y78, hy79, hm⟩ := bindE hm
      refine wS_calls (d := 17) (f := 73) (vs := [.agg #[.int .i64 (x66.1), .int .i64 (x66.2)], .agg #[.int .i64 (p1_0), .int .i64 (p1_1)]]) (by kernel_rfl) ent73 (c_impl_far hy79) ?_
      rintro _ w80 ⟨rfl, hc81⟩
      replace F57 := F57.chg hc81 Dj.nil
      replace F58 := F58.chg hc81 notNil
      replace F76 := F76.chg hc81 notNil
      replace hB := hB.inS hc81 inNil
      replace hZ := Nat.le_trans hZ hc81.size
      refine ⟨.int .i64 (y78), rfl, ?_⟩
      refine wS_pure 2 [(5, .int .i64 (wr (x54 + y78))), (18, .int .i64 (wr (x54 + y78)))] (by kernel_rfl) ?_
      refine wS_end (by rfl) ?_
      refine eX_block ?_
      refine eX_then ?_
      refine cW_region ?_
      refine wS_pure 2 [(10, .int .i64 (wr (x55 + 1))), (19, .int .i64 (wr (x55 + 1)))] (by kernel_rfl) ?_
      refine wS_end (by rfl) ?_
      have hq : (some (Ctl.next ((wr (x54 + y78), wr (x55 + 1)))) : Option (Ctl (Int × Int) (Int))) = some _ := hm
      replace hq := someE hq
      subst hq
      exact eX_next hx64 (fun hst => ⟨wr (x54 + y78), wr (x55 + 1), rfl, Fr.of hst (by kernel_rfl), F57, F58, hB, hZ⟩)
    · have hm := condF hb65 hm
      refine cW_exit ?_
      refine eX_then_exit ?_
      have hq : (some (Ctl.out x54) : Option (Ctl (Int × Int) (Int))) = some _ := hm
      replace hq := someE hq
      subst hq
      refine eX_outX hx64 (fun hr82 => ?_)
      replace hr82 := hr82.symm
      subst hr82
      refine eX_block_hit ?_
      exact eX_J (fun hst => ⟨x54, rfl, Fr.of hst (by kernel_rfl), hB, hZ⟩)
  · rintro a' w50 ⟨x51, hJ, hF52, hB, hZ⟩
    subst hJ
    refine Fr.goX hF52 (by kernel_rfl) ?_
    refine eX_then ?_
    refine cW_seq ?_
    refine cW_region ?_
    refine wS_pure 2 [(4, .int .i64 (x51)), (20, .int .i64 (x51))] (by kernel_rfl) ?_
    refine wS_end (by rfl) ?_
    refine eX_then ?_
    refine cW_ret ?_
    have hq : (some x51 : Option ((Int))) = some _ := hm
    replace hq := someE hq
    subst hq
    refine eX_ret (vs := [.int .i64 (x51)]) [.tmp 4] (by rfl) ⟨by (show lkE _ _ _ = _); kernel_rfl, trivial⟩ ?_
    exact ⟨rfl, hB⟩

set_option maxRecDepth 100000 in
/-- impl.StarLength -/
theorem c_impl_StarLength {w0 : World} {l0 : List (Int × Int)} {A0 : Option Addr} {cap0 : Nat} {fp0 : List Nat} {p1_0 : Int} {p1_1 : Int} {r : (Int) × (Bool)} (hm : m_impl_StarLength l0 p1_0 p1_1 = some r) (F0 : Sl 2 encII w0 fp0 A0 l0) :
    Calls Try.prog 29 #[.slice A0 (l0).length cap0, .agg #[.int .i64 (p1_0), .int .i64 (p1_1)]] w0 fun e w' => e = .returned (.tuple #[.int .i64 (r.1), .bool (r.2)]) ∧ Chg [] w0 w' := by
  have L0 := F0.low
  have hB : Chg [] w0 w0 := Chg.refl _ _
  have hZ := Nat.le_refl w0.heap.size
  unfold m_impl_StarLength at hm
  refine enterE (N := 17) Try.func29 (by rfl) Try.ntmps29 (by simp) [(0, .slice A0 (l0).length cap0), (1, .agg #[.int .i64 (p1_0), .int .i64 (p1_1)])] (by rfl) (by kernel_rfl) (fun a => ?_)
  refine cW_seq ?_
  refine cW_region ?_
  refine wS_box (d := 3) (T := 34) (x := .agg #[.int .i64 (p1_0), .int .i64 (p1_1)]) (by kernel_rfl) ?_
  intro b2 w3 G4 F5 hc6
  replace F5 : Cl w3 b2 34 [.int .i64 (p1_0), .int .i64 (p1_1)] := F5
  replace F0 := F0.chg hc6 Dj.nil
  replace hB := hB.inS hc6 inNil
  replace G4 := Nat.le_trans hZ G4
  replace hZ := Nat.le_trans hZ hc6.size
  refine wS_pure 2 [(5, .bool (false)), (4, .int .i64 (0))] (by kernel_rfl) ?_
  refine wS_end (by rfl) ?_
  refine eX_then ?_
  refine cW_seq ?_
  refine cW_seq ?_
  refine cW_region ?_
  refine wS_pure 1 [(6, .slice A0 (l0).length cap0)] (by kernel_rfl) ?_
  obtain ⟨y8, hy9, hm⟩ := bindE hm
  refine wS_calls (d := 7) (f := 78) (vs := [.slice A0 (l0).length cap0]) (by kernel_rfl) ent78 (c_impl_ArePins hy9 F0) ?_
  rintro _ w10 ⟨rfl, hc11⟩
  replace F0 := F0.chg hc11 Dj.nil
  replace F5 := F5.chg hc11 notNil
  replace hB := hB.inS hc11 inNil
  replace hZ := Nat.le_trans hZ hc11.size
  refine ⟨.bool (y8), rfl, ?_⟩
  refine wS_pure 2 [(9, .bool (!y8)), (8, .bool (!y8))] (by kernel_rfl) ?_
  refine wS_bool (!y8) (fun hb12 => ?_) (fun hb12 => ?_)
  · have hm := condT hb12 hm
    rewrite [hb12]
    refine wS_pure 4 [(13, .bool (true)), (12, undef), (11, undef), (10, undef)] (by kernel_rfl) ?_
    refine wS_end (by rfl) ?_
    refine eX_then ?_
    refine cW_cond_t (by kernel_rfl) ?_
    refine cW_seq ?_
    refine cW_region ?_
    refine wS_pure 2 [(5, .bool (false)), (4, .int .i64 (0))] (by kernel_rfl) ?_
    refine wS_end (by rfl) ?_
    refine eX_then ?_
    refine cW_ret ?_
    refine eX_then_ret ?_
    have hq : (some ((0, false)) : Option ((Int) × (Bool))) = some _ := hm
    replace hq := someE hq
    subst hq
    refine eX_ret (vs := [.int .i64 (0), .bool (false)]) [.tmp 4, .tmp 5] (by rfl) ⟨by (show lkE _ _ _ = _); kernel_rfl, ⟨by (show lkE _ _ _ = _); kernel_rfl, trivial⟩⟩ ?_
    exact ⟨rfl, hB⟩
  · have hm := condF hb12 hm
    rewrite [hb12]
    refine wS_loadA (d := 10) (T := 34) (ad := ⟨b2, 0, none⟩) (vs := [.int .i64 (p1_0), .int .i64 (p1_1)]) (by kernel_rfl) vt34 (fun i u hu => box_cells F5 0 hu (by rfl)) ?_
    obtain ⟨y13, hy14, hm⟩ := bindE hm
    refine wS_calls (d := 11) (f := 79) (vs := [.agg #[.int .i64 (p1_0), .int .i64 (p1_1)]]) (by kernel_rfl) ent79 (c_impl_IsPoint hy14) ?_
    rintro _ w15 ⟨rfl, hc16⟩
    replace F0 := F0.chg hc16 Dj.nil
    replace F5 := F5.chg hc16 notNil
    replace hB := hB.inS hc16 inNil
    replace hZ := Nat.le_trans hZ hc16.size
    refine ⟨.bool (y13), rfl, ?_⟩
    refine wS_pure 2 [(13, .bool (!y13)), (12, .bool (!y13))] (by kernel_rfl) ?_
    refine wS_end (by rfl) ?_
    refine eX_then ?_
    refine cW_cond (t := !y13) (by kernel_rfl) (fun hb17 => ?_) (fun hb17 => ?_)
    · have hm := condT hb17 hm
      refine cW_seq ?_
      refine cW_region ?_
      refine wS_pure 2 [(5, .bool (false)), (4, .int .i64 (0))] (by kernel_rfl) ?_
      refine wS_end (by rfl) ?_
      refine eX_then ?_
      refine cW_ret ?_
      refine eX_then_ret ?_
      have hq : (some ((0, false)) : Option ((Int) × (Bool))) = some _ := hm
      replace hq := someE hq
      subst hq
      refine eX_ret (vs := [.int .i64 (0), .bool (false)]) [.tmp 4, .tmp 5] (by rfl) ⟨by (show lkE _ _ _ = _); kernel_rfl, ⟨by (show lkE _ _ _ = _); kernel_rfl, trivial⟩⟩ ?_
      exact ⟨rfl, hB⟩
    · have hm := condF hb17 hm
      refine cW_skip ?_
      refine eX_then ?_
      refine cW_seq ?_
      refine cW_region ?_
      refine wS_pure 1 [(14, .slice A0 (l0).length cap0)] (by kernel_rfl) ?_
      refine wS_loadA (d := 15) (T := 34) (ad := ⟨b2, 0, none⟩) (vs := [.int .i64 (p1_0), .int .i64 (p1_1)]) (by kernel_rfl) vt34 (fun i u hu => box_cells F5 0 hu (by rfl)) ?_
      obtain ⟨y18, hy19, hm⟩ := bindE hm
      refine wS_calls (d := 16) (f := 80) (vs := [.slice A0 (l0).length cap0, .agg #[.int .i64 (p1_0), .int .i64 (p1_1)]]) (by kernel_rfl) ent80 (c_impl_star hy19 F0) ?_
      rintro _ w20 ⟨rfl, hc21⟩
      replace F0 := F0.chg hc21 Dj.nil
      replace F5 := F5.chg hc21 notNil
      replace hB := hB.inS hc21 inNil
      replace hZ := Nat.le_trans hZ hc21.size
      refine ⟨.int .i64 (y18), rfl, ?_⟩
      refine wS_pure 2 [(5, .bool (true)), (4, .int .i64 (y18))] (by kernel_rfl) ?_
      refine wS_end (by rfl) ?_
      refine eX_then ?_
      refine cW_ret ?_
      have hq : (some ((y18, true)) : Option ((Int) × (Bool))) = some _ := hm
      replace hq := someE hq
      subst hq
      refine eX_ret (vs := [.int .i64 (y18), .bool (true)]) [.tmp 4, .tmp 5] (by rfl) ⟨by (show lkE _ _ _ = _); kernel_rfl, ⟨by (show lkE _ _ _ = _); kernel_rfl, trivial⟩⟩ ?_
      exact ⟨rfl, hB⟩

set_option maxRecDepth 100000 in
/-- laws.FnExactStarLength -/
theorem c_laws_FnExactStarLength {w0 : World} {l0 : List (Int × Int)} {A0 : Option Addr} {cap0 : Nat} {fp0 : List Nat} {p1_0 : Int} {p1_1 : Int} {r : (Bool)} (hm : m_laws_FnExactStarLength l0 p1_0 p1_1 = some r) (F0 : Sl 2 encII w0 fp0 A0 l0) :
    Calls Try.prog 5 #[.slice A0 (l0).length cap0, .agg #[.int .i64 (p1_0), .int .i64 (p1_1)]] w0 fun e w' => e = .returned (.bool (r)) ∧ Chg [] w0 w' := by
  have L0 := F0.low
  have hB : Chg [] w0 w0 := Chg.refl _ _
  have hZ := Nat.le_refl w0.heap.size
  unfold m_laws_FnExactStarLength at hm
  refine enterE (N := 46) Try.func5 (by rfl) Try.ntmps5 (by simp) [(0, .slice A0 (l0).length cap0), (1, .agg #[.int .i64 (p1_0), .int .i64 (p1_1)])] (by rfl) (by kernel_rfl) (fun a => ?_)
  refine cW_seq ?_
  refine cW_region ?_
  refine wS_box (d := 3) (T := 32) (x := .agg #[.int .i64 (p1_0), .int .i64 (p1_1)]) (by kernel_rfl) ?_
  intro b2 w3 G4 F5 hc6
  replace F5 : Cl w3 b2 32 [.int .i64 (p1_0), .int .i64 (p1_1)] := F5
  replace F0 := F0.chg hc6 Dj.nil
  replace hB := hB.inS hc6 inNil
  replace G4 := Nat.le_trans hZ G4
  replace hZ := Nat.le_trans hZ hc6.size
  refine wS_pure 1 [(4, .bool (false))] (by kernel_rfl) ?_
  refine wS_end (by rfl) ?_
  refine eX_then ?_
  refine cW_seq ?_
  refine cW_region ?_
  refine wS_pure 1 [(5, .int .i64 (1048576))] (by kernel_rfl) ?_
  refine wS_end (by rfl) ?_
  refine eX_then ?_
  refine cW_seq ?_
  refine cW_region ?_
  refine wS_pure 2 [(12, .int .i64 (1048576)), (11, .slice A0 (l0).length cap0)] (by kernel_rfl) ?_
  obtain ⟨y8, hy9, hm⟩ := bindE hm
  refine wS_calls (d := 13) (f := 20) (vs := [.slice A0 (l0).length cap0, .int .i64 (1048576)]) (by kernel_rfl) ent20 (c_laws_szPointS hy9 F0) ?_
  rintro _ w10 ⟨rfl, hc11⟩
  replace F0 := F0.chg hc11 Dj.nil
  replace F5 := F5.chg hc11 notNil
  replace hB := hB.inS hc11 inNil
  replace hZ := Nat.le_trans hZ hc11.size
  refine ⟨.int .i64 (y8), rfl, ?_⟩
  refine wS_pure 1 [(5, .int .i64 (y8))] (by kernel_rfl) ?_
  refine wS_end (by rfl) ?_
  refine eX_then ?_
  refine cW_seq ?_
  refine cW_seq ?_
  refine cW_region ?_
  refine wS_pure 2 [(15, .bool (decide (y8 < 0))), (14, .int .i64 (y8))] (by kernel_rfl) ?_
  refine wS_end (by rfl) ?_
  refine eX_then ?_
  refine cW_cond (t := decide (y8 < 0)) (by kernel_rfl) (fun hb12 => ?_) (fun hb12 => ?_)
  · have hm := condT hb12 hm
    refine cW_seq ?_
    refine cW_region ?_
    refine wS_pure 1 [(4, .bool (true))] (by kernel_rfl) ?_
    refine wS_end (by rfl) ?_
    refine eX_then ?_
    refine cW_ret ?_
    refine eX_then_ret ?_
    have hq : (some true : Option ((Bool))) = some _ := hm
    replace hq := someE hq
    subst hq
    refine eX_ret (vs := [.bool (true)]) [.tmp 4] (by rfl) ⟨by (show lkE _ _ _ = _); kernel_rfl, trivial⟩ ?_
    exact ⟨rfl, hB⟩
  · have hm := condF hb12 hm
    refine cW_skip ?_
    refine eX_then ?_
    refine cW_seq ?_
    refine cW_drawnTail [] 9 (by kernel_rfl) (by kernel_rfl) (fun w37 hc38 => ?_)
    replace F0 := F0.chg hc38 Dj.nil
    replace F5 := F5.chg hc38 notNil
    replace hB := hB.inS hc38 inNil
    replace hZ := Nat.le_trans hZ hc38.size
    have hS := Chg.refl [] w37
    have Z39 := F0
    have Z40 := F5
    refine wH_take [0] [0] [(17, .slice A0 (l0).length cap0)] (by kernel_rfl) (qT (qT qZ)) (by kernel_rfl) ?_
    refine wH_loadA (i := 2) (d := 19) (T := 32) (ad := ⟨b2, 0, none⟩) (vs := [.int .i64 (p1_0), .int .i64 (p1_1)]) (by kernel_rfl) (qT (qT qZ)) (by kernel_rfl) (by kernel_rfl) vt32 (fun W hW i u hu => box_cells (Z40.chg hW notNil) 0 hu (by rfl)) ?_
    refine wH_all [1] (by rfl) (by kernel_rfl) (by simp) ⟨⟨by kernel_rfl, ?_⟩, trivial⟩
    obtain ⟨y41, hy42, hm⟩ := bindE hm
    refine wS_calls (d := 18) (f := 22) (vs := [.slice A0 (l0).length cap0]) (by kernel_rfl) ent22 (c_laws_toPointS hy42 F0) ?_
    rintro _ w43 ⟨A45, cap46, fp47, rfl, F48, G49, hc44⟩
    have D52 : Dj [b2] fp47 := Dj.of (lt1 F5.lt) G49
    replace F0 := F0.chg hc44 Dj.nil
    replace F5 := F5.chg hc44 notNil
    replace hB := hB.inS hc44 inNil
    have hSz := hS
    replace hS := hS.inS hc44 inNil
    replace G49 := low_le hZ G49
    replace hZ := Nat.le_trans hZ hc44.size
    refine ⟨.slice A45 (y41).length cap46, rfl, ?_⟩
    refine wS_end (by kernel_rfl) ?_
    refine eX_KH hS ?_
    refine wH_all [3] (by rfl) (by kernel_rfl) (by simp) ⟨⟨by kernel_rfl, ?_⟩, trivial⟩
    obtain ⟨y53, hy54, hm⟩ := bindE hm
    refine wS_calls (d := 20) (f := 28) (vs := [.agg #[.int .i64 (p1_0), .int .i64 (p1_1)]]) (by kernel_rfl) ent28 (c_laws_toPoint hy54) ?_
    rintro _ w55 ⟨rfl, hc56⟩
    replace F0 := F0.chg hc56 Dj.nil
    replace F5 := F5.chg hc56 notNil
    replace F48 := F48.chg hc56 Dj.nil
    replace hB := hB.inS hc56 inNil
    have hSz := hS
    replace hS := hS.inS hc56 inNil
    replace hZ := Nat.le_trans hZ hc56.size
    refine ⟨.agg #[.int .i64 (y53.1), .int .i64 (y53.2)], rfl, ?_⟩
    refine wS_end (by kernel_rfl) ?_
    refine eX_KH hS ?_
    refine wH_all [4] (by rfl) (by kernel_rfl) (by simp) ⟨⟨by kernel_rfl, ?_⟩, trivial⟩
    obtain ⟨y57, hy58, hm⟩ := bindE hm
    refine wS_calls (d := 21) (f := 27) (vs := [.slice A45 (y41).length cap46, .agg #[.int .i64 (y53.1), .int .i64 (y53.2)]]) (by kernel_rfl) ent27 (c_spec_StarLength hy58 (F48.sl encII_ok) F48.cap_le) ?_
    rintro _ w59 ⟨rfl, hc60⟩
    replace F0 := F0.chg hc60 Dj.nil
    replace F5 := F5.chg hc60 notNil
    replace F48 := F48.chg hc60 Dj.nil
    replace hB := hB.inS hc60 inNil
    have hSz := hS
    replace hS := hS.inS hc60 inNil
    replace hZ := Nat.le_trans hZ hc60.size
    refine ⟨.tuple #[.int .i64 (y57.1), .bool (y57.2)], rfl, ?_⟩
    refine wS_end (by kernel_rfl) ?_
    refine eX_KH hS ?_
    refine wH_take [5, 6, 7, 8] [8, 7, 6, 5, 4, 3, 1, 2, 0] [(6, .int .i64 (y57.1)), (23, .bool (y57.2)), (22, .int .i64 (y57.1)), (16, .tuple #[.int .i64 (y57.1), .bool (y57.2)])] (by kernel_rfl) (qT (qT qZ)) (by kernel_rfl) ?_
    refine wH_done (by kernel_rfl) ?_
    refine eX_tail ?_
    refine wS_pure 1 [(7, .bool (y57.2))] (by kernel_rfl) ?_
    refine wS_end (by rfl) ?_
    refine eX_then ?_
    refine cW_seq ?_
    refine cW_region ?_
    refine wS_pure 1 [(24, .slice A0 (l0).length cap0)] (by kernel_rfl) ?_
    obtain ⟨y61, hy62, hm⟩ := bindE hm
    refine wS_calls (d := 25) (f := 22) (vs := [.slice A0 (l0).length cap0]) (by kernel_rfl) ent22 (c_laws_toPointS hy62 F0) ?_
    rintro _ w63 ⟨A65, cap66, fp67, rfl, F68, G69, hc64⟩
    have D72 : Dj [b2] fp67 := Dj.of (lt1 F5.lt) G69
    have D73 : Dj fp47 fp67 := Dj.of F48.low G69
    replace F0 := F0.chg hc64 Dj.nil
    replace F5 := F5.chg hc64 notNil
    replace F48 := F48.chg hc64 Dj.nil
    replace hB := hB.inS hc64 inNil
    replace G69 := low_le hZ G69
    replace hZ := Nat.le_trans hZ hc64.size
    refine ⟨.slice A65 (y61).length cap66, rfl, ?_⟩
    refine wS_pure 1 [(8, .slice A65 (y61).length cap66)] (by kernel_rfl) ?_
    refine wS_end (by rfl) ?_
    refine eX_then ?_
    refine cW_seq ?_
    refine cW_region ?_
    refine wS_pure 1 [(27, .slice A65 (y61).length cap66)] (by kernel_rfl) ?_
    refine wS_loadA (d := 28) (T := 32) (ad := ⟨b2, 0, none⟩) (vs := [.int .i64 (p1_0), .int .i64 (p1_1)]) (by kernel_rfl) vt32 (fun i u hu => box_cells F5 0 hu (by rfl)) ?_
    obtain ⟨y74, hy75, hm⟩ := bindE hm
    refine wS_calls (d := 29) (f := 28) (vs := [.agg #[.int .i64 (p1_0), .int .i64 (p1_1)]]) (by kernel_rfl) ent28 (c_laws_toPoint hy75) ?_
    rintro _ w76 ⟨rfl, hc77⟩
    replace F0 := F0.chg hc77 Dj.nil
    replace F5 := F5.chg hc77 notNil
    replace F48 := F48.chg hc77 Dj.nil
    replace F68 := F68.chg hc77 Dj.nil
    replace hB := hB.inS hc77 inNil
    replace hZ := Nat.le_trans hZ hc77.size
    refine ⟨.agg #[.int .i64 (y74.1), .int .i64 (y74.2)], rfl, ?_⟩
    obtain ⟨y78, hy79, hm⟩ := bindE hm
    refine wS_calls (d := 30) (f := 29) (vs := [.slice A65 (y61).length cap66, .agg #[.int .i64 (y74.1), .int .i64 (y74.2)]]) (by kernel_rfl) ent29 (c_impl_StarLength hy79 (F68.sl encII_ok)) ?_
    rintro _ w80 ⟨rfl, hc81⟩
    replace F0 := F0.chg hc81 Dj.nil
    replace F5 := F5.chg hc81 notNil
    replace F48 := F48.chg hc81 Dj.nil
    replace F68 := F68.chg hc81 Dj.nil
    replace hB := hB.inS hc81 inNil
    replace hZ := Nat.le_trans hZ hc81.size
    refine ⟨.tuple #[.int .i64 (y78.1), .bool (y78.2)], rfl, ?_⟩
    refine wS_pure 5 [(10, .bool (y78.2)), (9, .int .i64 (y78.1)), (32, .bool (y78.2)), (31, .int .i64 (y78.1)), (26, .tuple #[.int .i64 (y78.1), .bool (y78.2)])] (by kernel_rfl) ?_
    refine wS_end (by rfl) ?_
    refine eX_then ?_
    refine cW_prune [(0, .slice A0 (l0).length cap0), (6, .int .i64 (y57.1)), (7, .bool (y57.2)), (8, .slice A65 (y61).length cap66), (9, .int .i64 (y78.1)), (10, .bool (y78.2))] (by kernel_rfl) (by kernel_rfl) (fun a82 => ?_)
    refine cW_seq ?_
    refine cW_seq ?_
    refine cW_region ?_
    refine wS_pure 4 [(36, .bool (y78.1 != y57.1)), (35, .bool (y78.1 != y57.1)), (34, .int .i64 (y57.1)), (33, .int .i64 (y78.1))] (by kernel_rfl) ?_
    refine wS_bool (y78.1 != y57.1) (fun hb83 => ?_) (fun hb83 => ?_)
    · have hm := condT hb83 hm
      rewrite [hb83]
      refine wS_pure 4 [(40, .bool (true)), (39, undef), (38, undef), (37, undef)] (by kernel_rfl) ?_
      refine wS_end (by rfl) ?_
      refine eX_then ?_
      refine cW_cond_t (by kernel_rfl) ?_
      refine cW_seq ?_
      refine cW_region ?_
      refine wS_pure 1 [(4, .bool (false))] (by kernel_rfl) ?_
      refine wS_end (by rfl) ?_
      refine eX_then ?_
      refine cW_ret ?_
      refine eX_then_ret ?_
      have hq : (some false : Option ((Bool))) = some _ := hm
      replace hq := someE hq
      subst hq
      refine eX_ret (vs := [.bool (false)]) [.tmp 4] (by rfl) ⟨by (show lkE _ _ _ = _); kernel_rfl, trivial⟩ ?_
      exact ⟨rfl, hB⟩
    · have hm := condF hb83 hm
      rewrite [hb83]
      refine wS_pure 4 [(40, .bool (!(y78.2 == y57.2))), (39, .bool (!(y78.2 == y57.2))), (38, .bool (y57.2)), (37, .bool (y78.2))] (by kernel_rfl) ?_
      refine wS_end (by rfl) ?_
      refine eX_then ?_
      refine cW_cond (t := !(y78.2 == y57.2)) (by kernel_rfl) (fun hb84 => ?_) (fun hb84 => ?_)
      · have hm := condT hb84 hm
        refine cW_seq ?_
        refine cW_region ?_
        refine wS_pure 1 [(4, .bool (false))] (by kernel_rfl) ?_
        refine wS_end (by rfl) ?_
        refine eX_then ?_
        refine cW_ret ?_
        refine eX_then_ret ?_
        have hq : (some false : Option ((Bool))) = some _ := hm
        replace hq := someE hq
        subst hq
        refine eX_ret (vs := [.bool (false)]) [.tmp 4] (by rfl) ⟨by (show lkE _ _ _ = _); kernel_rfl, trivial⟩ ?_
        exact ⟨rfl, hB⟩
      · have hm := condF hb84 hm
        refine cW_skip ?_
        refine eX_then ?_
        refine cW_seq ?_
        refine cW_seq ?_
        refine cW_region ?_
        refine wS_pure 2 [(42, .slice A0 (l0).length cap0), (41, .slice A65 (y61).length cap66)] (by kernel_rfl) ?_
        obtain ⟨y85, hy86, hm⟩ := bindE hm
        refine wS_calls (d := 43) (f := 22) (vs := [.slice A0 (l0).length cap0]) (by kernel_rfl) ent22 (c_laws_toPointS hy86 F0) ?_
        rintro _ w87 ⟨A89, cap90, fp91, rfl, F92, G93, hc88⟩
        have D96 : Dj [b2] fp91 := Dj.of (lt1 F5.lt) G93
        have D97 : Dj fp47 fp91 := Dj.of F48.low G93
        have D98 : Dj fp67 fp91 := Dj.of F68.low G93
        replace F0 := F0.chg hc88 Dj.nil
        replace F5 := F5.chg hc88 notNil
        replace F48 := F48.chg hc88 Dj.nil
        replace F68 := F68.chg hc88 Dj.nil
        replace hB := hB.inS hc88 inNil
        replace G93 := low_le hZ G93
        replace hZ := Nat.le_trans hZ hc88.size
        refine ⟨.slice A89 (y85).length cap90, rfl, ?_⟩
        obtain ⟨y99, hy100, hm⟩ := bindE hm
        refine wS_calls (d := 44) (f := 24) (vs := [.slice A65 (y61).length cap66, .slice A89 (y85).length cap90]) (by kernel_rfl) ent24 (c_laws_eqPointS hy100 (F68.sl encII_ok) (F92.sl encII_ok)) ?_
        rintro _ w101 ⟨rfl, hc102⟩
        replace F0 := F0.chg hc102 Dj.nil
        replace F5 := F5.chg hc102 notNil
        replace F48 := F48.chg hc102 Dj.nil
        replace F68 := F68.chg hc102 Dj.nil
        replace F92 := F92.chg hc102 Dj.nil
        replace hB := hB.inS hc102 inNil
        replace hZ := Nat.le_trans hZ hc102.size
        refine ⟨.bool (y99), rfl, ?_⟩
        refine wS_pure 1 [(45, .bool (!y99))] (by kernel_rfl) ?_
        refine wS_end (by rfl) ?_
        refine eX_then ?_
        refine cW_cond (t := !y99) (by kernel_rfl) (fun hb103 => ?_) (fun hb103 => ?_)
        · have hm := condT hb103 hm
          refine cW_seq ?_
          refine cW_region ?_
          refine wS_pure 1 [(4, .bool (false))] (by kernel_rfl) ?_
          refine wS_end (by rfl) ?_
          refine eX_then ?_
          refine cW_ret ?_
          refine eX_then_ret ?_
          have hq : (some false : Option ((Bool))) = some _ := hm
          replace hq := someE hq
          subst hq
          refine eX_ret (vs := [.bool (false)]) [.tmp 4] (by rfl) ⟨by (show lkE _ _ _ = _); kernel_rfl, trivial⟩ ?_
          exact ⟨rfl, hB⟩
        · have hm := condF hb103 hm
          refine cW_skip ?_
          refine eX_then ?_
          refine cW_seq ?_
          refine cW_region ?_
          refine wS_pure 1 [(4, .bool (true))] (by kernel_rfl) ?_
          refine wS_end (by rfl) ?_
          refine eX_then ?_
          refine cW_ret ?_
          have hq : (some true : Option ((Bool))) = some _ := hm
          replace hq := someE hq
          subst hq
          refine eX_ret (vs := [.bool (true)]) [.tmp 4] (by rfl) ⟨by (show lkE _ _ _ = _); kernel_rfl, trivial⟩ ?_
          exact ⟨rfl, hB⟩

set_option maxRecDepth 100000 in
/-- spec.l00Min -/
theorem c_spec_l00Min {w0 : World} {p0 : Int} {p1 : Int} {r : (Int)} (hm : m_spec_l00Min p0 p1 = some r)  :
    Calls Try.prog 124 #[.int .i64 (p0), .int .i64 (p1)] w0 fun e w' => e = .returned (.int .i64 (r)) ∧ Chg [] w0 w' := by
  have hB : Chg [] w0 w0 := Chg.refl _ _
  have hZ := Nat.le_refl w0.heap.size
  unfold m_spec_l00Min at hm
  refine enterE (N := 10) Try.func124 (by rfl) Try.ntmps124 (by simp) [(0, .int .i64 (p0)), (1, .int .i64 (p1))] (by rfl) (by kernel_rfl) (fun a => ?_)
  refine cW_seq ?_
  refine cW_region ?_
  refine wS_pure 1 [(4, .int .i64 (0))] (by kernel_rfl) ?_
  refine wS_end (by rfl) ?_
  refine eX_then ?_
  refine cW_seq ?_
  refine cW_seq ?_
  refine cW_region ?_
  refine wS_pure 3 [(7, .bool (decide (p0 < p1))), (6, .int .i64 (p1)), (5, .int .i64 (p0))] (by kernel_rfl) ?_
  refine wS_end (by rfl) ?_
  refine eX_then ?_
  refine cW_cond (t := decide (p0 < p1)) (by kernel_rfl) (fun hb1 => ?_) (fun hb1 => ?_)
  · have hm := condT hb1 hm
    refine cW_seq ?_
    refine cW_region ?_
    refine wS_pure 2 [(4, .int .i64 (p0)), (8, .int .i64 (p0))] (by kernel_rfl) ?_
    refine wS_end (by rfl) ?_
    refine eX_then ?_
    refine cW_ret ?_
    refine eX_then_ret ?_
    have hq : (some p0 : Option ((Int))) = some _ := hm
    replace hq := someE hq
    subst hq
    refine eX_ret (vs := [.int .i64 (p0)]) [.tmp 4] (by rfl) ⟨by (show lkE _ _ _ = _); kernel_rfl, trivial⟩ ?_
    exact ⟨rfl, hB⟩
  · have hm := condF hb1 hm
    refine cW_skip ?_
    refine eX_then ?_
    refine cW_seq ?_
    refine cW_region ?_
    refine wS_pure 2 [(4, .int .i64 (p1)), (9, .int .i64 (p1))] (by kernel_rfl) ?_
    refine wS_end (by rfl) ?_
    refine eX_then ?_
    refine cW_ret ?_
    have hq : (some p1 : Option ((Int))) = some _ := hm
    replace hq := someE hq
    subst hq
    refine eX_ret (vs := [.int .i64 (p1)]) [.tmp 4] (by rfl) ⟨by (show lkE _ _ _ = _); kernel_rfl, trivial⟩ ?_
    exact ⟨rfl, hB⟩

set_option maxRecDepth 100000 in
/-- spec.l01Box -/
theorem c_spec_l01Box {w0 : World} {l0 : List (Int × Int)} {A0 : Option Addr} {cap0 : Nat} {fp0 : List Nat} {r : (Int × Int) × (Int × Int)} (hm : m_spec_l01Box l0 = some r) (F0 : Sl 2 encII w0 fp0 A0 l0) :
    Calls Try.prog 83 #[.slice A0 (l0).length cap0] w0 fun e w' => e = .returned (.tuple #[.agg #[.int .i64 (r.1.1), .int .i64 (r.1.2)], .agg #[.int .i64 (r.2.1), .int .i64 (r.2.2)]]) ∧ Chg [] w0 w' := by
  have L0 := F0.low
  have hB : Chg [] w0 w0 := Chg.refl _ _
  have hZ := Nat.le_refl w0.heap.size
  unfold m_spec_l01Box at hm
  refine enterE (N := 57) Try.func83 (by rfl) Try.ntmps83 (by simp) [(0, .slice A0 (l0).length cap0)] (by rfl) (by kernel_rfl) (fun a => ?_)
  refine cW_seq ?_
  refine cW_region ?_
  refine wS_alloc (d := 2) (T := 34) (z := .agg #[.int .i64 (0), .int .i64 (0)]) (by kernel_rfl) (by kernel_rfl) ?_
  intro b2 w3 G4 F5 hc6
  replace F5 : Cl w3 b2 34 [.int .i64 (0), .int .i64 (0)] := F5
  replace F0 := F0.chg hc6 Dj.nil
  replace hB := hB.inS hc6 inNil
  replace G4 := Nat.le_trans hZ G4
  replace hZ := Nat.le_trans hZ hc6.size
  refine wS_alloc (d := 3) (T := 34) (z := .agg #[.int .i64 (0), .int .i64 (0)]) (by kernel_rfl) (by kernel_rfl) ?_
  intro b8 w9 G10 F11 hc12
  replace F11 : Cl w9 b8 34 [.int .i64 (0), .int .i64 (0)] := F11
  have D14 : Dj [b2] [b8] := Dj.of (lt1 F5.lt) (low1 G10)
  replace F0 := F0.chg hc12 Dj.nil
  replace F5 := F5.chg hc12 notNil
  replace hB := hB.inS hc12 inNil
  replace G10 := Nat.le_trans hZ G10
  replace hZ := Nat.le_trans hZ hc12.size
  refine wS_end (by rfl) ?_
  refine eX_then ?_
  refine cW_seq ?_
  refine cW_region ?_
  refine wS_pure 1 [(7, .slice A0 (l0).length cap0)] (by kernel_rfl) ?_
  obtain ⟨x15, hx16, hm⟩ := bindE hm
  refine wS_idx (d := 8) (T := 25) (A := A0) (n := (l0).length) (cap := cap0) (kd := .i64) (m := 0) (by kernel_rfl) sl25 (F0.is hx16) ?_
  refine wS_loadA (d := 9) (T := 34) (ad := (elA A0 2 (0) 0)) (vs := [.int .i64 (x15.1), .int .i64 (x15.2)]) (by kernel_rfl) vt34 (fun i u hu => Sl.cells_at F0 hx16 0 hu (by rfl)) ?_
  refine wS_alloc (d := 4) (T := 34) (z := .agg #[.int .i64 (0), .int .i64 (0)]) (by kernel_rfl) (by kernel_rfl) ?_
  intro b17 w18 G19 F20 hc21
  replace F20 : Cl w18 b17 34 [.int .i64 (0), .int .i64 (0)] := F20
  have D23 : Dj [b2] [b17] := Dj.of (lt1 F5.lt) (low1 G19)
  have D24 : Dj [b8] [b17] := Dj.of (lt1 F11.lt) (low1 G19)
  replace F0 := F0.chg hc21 Dj.nil
  replace F5 := F5.chg hc21 notNil
  replace F11 := F11.chg hc21 notNil
  replace hB := hB.inS hc21 inNil
  replace G19 := Nat.le_trans hZ G19
  replace hZ := Nat.le_trans hZ hc21.size
  refine wS_store (T := 34) (g := b17) (o := 0) (ad := ⟨b17, 0, none⟩) (v := .agg #[.int .i64 (x15.1), .int .i64 (x15.2)]) (vs := [.int .i64 (x15.1), .int .i64 (x15.2)]) (by kernel_rfl) (by rfl) sz34 (by rfl) (by rfl) F20 (by simp only [List.length_cons, List.length_nil]; omega) ?_
  intro w25 F26 hc27
  replace F0 := F0.chg hc27 (Dj.of L0 (low1 G19))
  replace F5 := F5.chg hc27 (dj1 D23)
  replace F11 := F11.chg hc27 (dj1 D24)
  replace hB := hB.inS hc27 (inLow (low1 G19))
  replace hZ := Nat.le_trans hZ hc27.size
  replace F26 : Cl w25 b17 34 [.int .i64 (x15.1), .int .i64 (x15.2)] := F26
  clear F20
  refine wS_end (by rfl) ?_
  refine eX_then ?_
  refine cW_seq ?_
  refine cW_region ?_
  refine wS_pure 1 [(10, .slice A0 (l0).length cap0)] (by kernel_rfl) ?_
  obtain ⟨x28, hx29, hm⟩ := bindE hm
  refine wS_idx (d := 11) (T := 25) (A := A0) (n := (l0).length) (cap := cap0) (kd := .i64) (m := 0) (by kernel_rfl) sl25 (F0.is hx29) ?_
  refine wS_loadA (d := 12) (T := 34) (ad := (elA A0 2 (0) 0)) (vs := [.int .i64 (x28.1), .int .i64 (x28.2)]) (by kernel_rfl) vt34 (fun i u hu => Sl.cells_at F0 hx29 0 hu (by rfl)) ?_
  refine wS_alloc (d := 5) (T := 34) (z := .agg #[.int .i64 (0), .int .i64 (0)]) (by kernel_rfl) (by kernel_rfl) ?_
  intro b30 w31 G32 F33 hc34
  replace F33 : Cl w31 b30 34 [.int .i64 (0), .int .i64 (0)] := F33
  have D36 : Dj [b2] [b30] := Dj.of (lt1 F5.lt) (low1 G32)
  have D37 : Dj [b8] [b30] := Dj.of (lt1 F11.lt) (low1 G32)
  have D38 : Dj [b17] [b30] := Dj.of (lt1 F26.lt) (low1 G32)
  replace F0 := F0.chg hc34 Dj.nil
  replace F5 := F5.chg hc34 notNil
  replace F11 := F11.chg hc34 notNil
  replace F26 := F26.chg hc34 notNil
  replace hB := hB.inS hc34 inNil
  replace G32 := Nat.le_trans hZ G32
  replace hZ := Nat.le_trans hZ hc34.size
  refine wS_store (T := 34) (g := b30) (o := 0) (ad := ⟨b30, 0, none⟩) (v := .agg #[.int .i64 (x28.1), .int .i64 (x28.2)]) (vs := [.int .i64 (x28.1), .int .i64 (x28.2)]) (by kernel_rfl) (by rfl) sz34 (by rfl) (by rfl) F33 (by simp only [List.length_cons, List.length_nil]; omega) ?_
  intro w39 F40 hc41
  replace F0 := F0.chg hc41 (Dj.of L0 (low1 G32))
  replace F5 := F5.chg hc41 (dj1 D36)
  replace F11 := F11.chg hc41 (dj1 D37)
  replace F26 := F26.chg hc41 (dj1 D38)
  replace hB := hB.inS hc41 (inLow (low1 G32))
  replace hZ := Nat.le_trans hZ hc41.size
  replace F40 : Cl w39 b30 34 [.int .i64 (x28.1), .int .i64 (x28.2)] := F40
  clear F33
  refine wS_end (by rfl) ?_
  refine eX_then ?_
  refine cW_seq ?_
  refine cW_seq ?_
  refine cW_region ?_
  refine wS_pure 1 [(6, .int .i64 (1))] (by kernel_rfl) ?_
  refine wS_end (by rfl) ?_
  refine eX_then ?_
  obtain ⟨r343, hr344, hm⟩ := bindE hm
  have hm345 := hm
  refine cW_cut (fun a' w' => ∃ x322 : Int, ∃ x323 : Int, ∃ x324 : Int, ∃ x325 : Int, (x322, x323, x324, x325) = r343 ∧ Fr 57 [(2, .pointer (some ⟨b2, 0, none⟩)), (3, .pointer (some ⟨b8, 0, none⟩)), (4, .pointer (some ⟨b17, 0, none⟩)), (5, .pointer (some ⟨b30, 0, none⟩))] a' ∧ Cl w' b2 34 [.int .i64 (0), .int .i64 (0)] ∧ Cl w' b8 34 [.int .i64 (0), .int .i64 (0)] ∧ Cl w' b17 34 [.int .i64 (x322), .int .i64 (x323)] ∧ Cl w' b30 34 [.int .i64 (x324), .int .i64 (x325)] ∧ Chg [] w0 w' ∧ w0.heap.size ≤ w'.heap.size) ?_ ?_
  · refine cW_block ?_
    refine cW_loop _ (fun (s346 : Int × Int × Int × Int × Int) a' w' => ∃ x332 : Int, ∃ x333 : Int, ∃ x334 : Int, ∃ x335 : Int, ∃ x336 : Int, (x332, x333, x334, x335, x336) = s346 ∧ Fr 57 [(0, .slice A0 (l0).length cap0), (2, .pointer (some ⟨b2, 0, none⟩)), (3, .pointer (some ⟨b8, 0, none⟩)), (4, .pointer (some ⟨b17, 0, none⟩)), (5, .pointer (some ⟨b30, 0, none⟩)), (6, .int .i64 (x332))] a' ∧ Sl 2 encII w' fp0 A0 l0 ∧ Cl w' b2 34 [.int .i64 (0), .int .i64 (0)] ∧ Cl w' b8 34 [.int .i64 (0), .int .i64 (0)] ∧ Cl w' b17 34 [.int .i64 (x333), .int .i64 (x334)] ∧ Cl w' b30 34 [.int .i64 (x335), .int .i64 (x336)] ∧ Chg [] w0 w' ∧ w0.heap.size ≤ w'.heap.size) hr344 (fun hst => ⟨1, x15.1, x15.2, x28.1, x28.2, rfl, Fr.of hst (by kernel_rfl), F0, F5, F11, F26, F40, hB, hZ⟩) ?_
    rintro _ c347 a' w331 ⟨x332, x333, x334, x335, x336, rfl, hF337, F338, F339, F340, F341, F342, hB, hZ⟩ hx348
    refine Fr.goOn hF337 (by kernel_rfl) ?_
    have hm := hx348
    unfold m_spec_l01Box_s1 at hm
    refine cW_seq ?_
    refine cW_seq ?_
    refine cW_region ?_
    refine wS_pure 4 [(16, .bool (decide (x332 < (((l0).length : Int))))), (15, .int .i64 (((l0).length : Int))), (14, .slice A0 (l0).length cap0), (13, .int .i64 (x332))] (by kernel_rfl) ?_
    refine wS_end (by rfl) ?_
    refine eX_then ?_
    refine cW_cond (t := decide (x332 < (((l0).length : Int)))) (by kernel_rfl) (fun hb349 => ?_) (fun hb349 => ?_)
    · have hm := condT hb349 hm
      refine cW_skip ?_
      refine eX_then ?_
      refine cW_seq ?_
      refine cW_block ?_
      refine cW_seq ?_
      refine cW_drawnTail [] 7 (by kernel_rfl) (by kernel_rfl) (fun w366 hc367 => ?_)
      replace F338 := F338.chg hc367 Dj.nil
      replace F339 := F339.chg hc367 notNil
      replace F340 := F340.chg hc367 notNil
      replace F341 := F341.chg hc367 notNil
      replace F342 := F342.chg hc367 notNil
      replace hB := hB.inS hc367 inNil
      replace hZ := Nat.le_trans hZ hc367.size
      have hS := Chg.refl [] w366
      have Z368 := F338
      have Z369 := F339
      have Z370 := F340
      have Z371 := F341
      have Z372 := F342
      refine wH_take [0] [0] [(19, .pointer (some ⟨b17, 0, none⟩))] (by kernel_rfl) (qT (qT (qB (qT (qL (qB (qT (qT qZ)))))))) (by kernel_rfl) ?_
      refine wH_load1 (i := 1) (d := 20) (T := 2) (ad := ⟨b17, 0, none⟩) (v := .int .i64 (x333)) (by kernel_rfl) (qT (qT (qB (qT (qL (qB (qT (qT qZ)))))))) (by kernel_rfl) (by kernel_rfl) vt2 (fun W hW => (Z371.chg hW notNil).cell 0) ?_
      refine wH_take [2, 3] [3, 2, 1, 0] [(22, .int .i64 (x332)), (21, .slice A0 (l0).length cap0)] (by kernel_rfl) (qT (qT (qB (qT (qL (qB (qT (qT qZ)))))))) (by kernel_rfl) ?_
      obtain ⟨x373, hx374, hm⟩ := bindE hm
      refine wH_idx (i := 4) (d := 23) (T := 25) (A := A0) (n := (l0).length) (cap := cap0) (kd := .i64) (m := x332) (by kernel_rfl) (qT (qT (qB (qT (qL (qB (qT (qT qZ)))))))) (by kernel_rfl) (by kernel_rfl) sl25 (F338.is hx374) ?_
      refine wH_take [5] [5, 4, 3, 2, 1, 0] [(24, .pointer (some (elA A0 2 (x332) 0)))] (by kernel_rfl) (qT (qT (qB (qT (qL (qB (qT (qT qZ)))))))) (by kernel_rfl) ?_
      refine wH_load1 (i := 6) (d := 25) (T := 2) (ad := (elA A0 2 (x332) 0)) (v := .int .i64 (x373.1)) (by kernel_rfl) (qT (qT (qB (qT (qL (qB (qT (qT qZ)))))))) (by kernel_rfl) (by kernel_rfl) vt2 (fun W hW => Sl.cell (Z368.chg hW Dj.nil) hx374 0 (by rfl)) ?_
      refine wH_done (by kernel_rfl) ?_
      refine eX_tail ?_
      obtain ⟨y375, hy376, hm⟩ := bindE hm
      refine wS_calls (d := 26) (f := 124) (vs := [.int .i64 (x333), .int .i64 (x373.1)]) (by kernel_rfl) ent124 (c_spec_l00Min hy376) ?_
      rintro _ w377 ⟨rfl, hc378⟩
      replace F338 := F338.chg hc378 Dj.nil
      replace F339 := F339.chg hc378 notNil
      replace F340 := F340.chg hc378 notNil
      replace F341 := F341.chg hc378 notNil
      replace F342 := F342.chg hc378 notNil
      replace hB := hB.inS hc378 inNil
      replace hZ := Nat.le_trans hZ hc378.size
      refine ⟨.int .i64 (y375), rfl, ?_⟩
      refine wS_pure 1 [(27, .pointer (some ⟨b17, 0, none⟩))] (by kernel_rfl) ?_
      refine wS_store (T := 2) (g := b17) (o := 0) (ad := ⟨b17, 0, none⟩) (v := .int .i64 (y375)) (vs := [.int .i64 (y375)]) (by kernel_rfl) (by rfl) sz2 (by rfl) (by rfl) F341 (by simp only [List.length_cons, List.length_nil]; omega) ?_
      intro w379 F380 hc381
      replace F338 := F338.chg hc381 (Dj.of L0 (low1 G19))
      replace F339 := F339.chg hc381 (dj1 D23)
      replace F340 := F340.chg hc381 (dj1 D24)
      replace F342 := F342.chg hc381 (dj1 (D38).symm)
      replace hB := hB.inS hc381 (inLow (low1 G19))
      replace hZ := Nat.le_trans hZ hc381.size
      replace F380 : Cl w379 b17 34 [.int .i64 (y375), .int .i64 (x334)] := F380
      clear F341
      refine wS_end (by rfl) ?_
      refine eX_then ?_
      refine cW_seq ?_
      refine cW_drawnTail [] 7 (by kernel_rfl) (by kernel_rfl) (fun w398 hc399 => ?_)
      replace F338 := F338.chg hc399 Dj.nil
      replace F339 := F339.chg hc399 notNil
      replace F340 := F340.chg hc399 notNil
      replace F380 := F380.chg hc399 notNil
      replace F342 := F342.chg hc399 notNil
      replace hB := hB.inS hc399 inNil
      replace hZ := Nat.le_trans hZ hc399.size
      have hS := Chg.refl [] w398
      have Z400 := F338
      have Z401 := F339
      have Z402 := F340
      have Z403 := F380
      have Z404 := F342
      refine wH_take [0] [0] [(28, .pointer (some ⟨b17, 1, none⟩))] (by kernel_rfl) (qT (qT (qB (qT (qL (qB (qT (qT qZ)))))))) (by kernel_rfl) ?_
      refine wH_load1 (i := 1) (d := 29) (T := 2) (ad := ⟨b17, 1, none⟩) (v := .int .i64 (x334)) (by kernel_rfl) (qT (qT (qB (qT (qL (qB (qT (qT qZ)))))))) (by kernel_rfl) (by kernel_rfl) vt2 (fun W hW => (Z403.chg hW notNil).cell 1) ?_
      refine wH_take [2, 3] [3, 2, 1, 0] [(31, .int .i64 (x332)), (30, .slice A0 (l0).length cap0)] (by kernel_rfl) (qT (qT (qB (qT (qL (qB (qT (qT qZ)))))))) (by kernel_rfl) ?_
      obtain ⟨x405, hx406, hm⟩ := bindE hm
      refine wH_idx (i := 4) (d := 32) (T := 25) (A := A0) (n := (l0).length) (cap := cap0) (kd := .i64) (m := x332) (by kernel_rfl) (qT (qT (qB (qT (qL (qB (qT (qT qZ)))))))) (by kernel_rfl) (by kernel_rfl) sl25 (F338.is hx406) ?_
      refine wH_take [5] [5, 4, 3, 2, 1, 0] [(33, .pointer (some (elA A0 2 (x332) 1)))] (by kernel_rfl) (qT (qT (qB (qT (qL (qB (qT (qT qZ)))))))) (by kernel_rfl) ?_
      refine wH_load1 (i := 6) (d := 34) (T := 2) (ad := (elA A0 2 (x332) 1)) (v := .int .i64 (x405.2)) (by kernel_rfl) (qT (qT (qB (qT (qL (qB (qT (qT qZ)))))))) (by kernel_rfl) (by kernel_rfl) vt2 (fun W hW => Sl.cell (Z400.chg hW Dj.nil) hx406 1 (by rfl)) ?_
      refine wH_done (by kernel_rfl) ?_
      refine eX_tail ?_
      obtain ⟨y407, hy408, hm⟩ := bindE hm
      refine wS_calls (d := 35) (f := 124) (vs := [.int .i64 (x334), .int .i64 (x405.2)]) (by kernel_rfl) ent124 (c_spec_l00Min hy408) ?_
      rintro _ w409 ⟨rfl, hc410⟩
      replace F338 := F338.chg hc410 Dj.nil
      replace F339 := F339.chg hc410 notNil
      replace F340 := F340.chg hc410 notNil
      replace F380 := F380.chg hc410 notNil
      replace F342 := F342.chg hc410 notNil
      replace hB := hB.inS hc410 inNil
      replace hZ := Nat.le_trans hZ hc410.size
      refine ⟨.int .i64 (y407), rfl, ?_⟩
      refine wS_pure 1 [(36, .pointer (some ⟨b17, 1, none⟩))] (by kernel_rfl) ?_
      refine wS_store (T := 2) (g := b17) (o := 1) (ad := ⟨b17, 1, none⟩) (v := .int .i64 (y407)) (vs := [.int .i64 (y407)]) (by kernel_rfl) (by rfl) sz2 (by rfl) (by rfl) F380 (by simp only [List.length_cons, List.length_nil]; omega) ?_
      intro w411 F412 hc413
      replace F338 := F338.chg hc413 (Dj.of L0 (low1 G19))
      replace F339 := F339.chg hc413 (dj1 D23)
      replace F340 := F340.chg hc413 (dj1 D24)
      replace F342 := F342.chg hc413 (dj1 (D38).symm)
      replace hB := hB.inS hc413 (inLow (low1 G19))
      replace hZ := Nat.le_trans hZ hc413.size
      replace F412 : Cl w411 b17 34 [.int .i64 (y375), .int .i64 (y407)] := F412
      clear F380
      refine wS_end (by rfl) ?_
      refine eX_then ?_
      refine cW_prune [(0, .slice A0 (l0).length cap0), (2, .pointer (some ⟨b2, 0, none⟩)), (3, .pointer (some ⟨b8, 0, none⟩)), (4, .pointer (some ⟨b17, 0, none⟩)), (5, .pointer (some ⟨b30, 0, none⟩)), (6, .int .i64 (x332))] (by kernel_rfl) (by kernel_rfl) (fun a414 => ?_)
      refine cW_seq ?_
      refine cW_drawnTail [] 7 (by kernel_rfl) (by kernel_rfl) (fun w431 hc432 => ?_)
      replace F338 := F338.chg hc432 Dj.nil
      replace F339 := F339.chg hc432 notNil
      replace F340 := F340.chg hc432 notNil
      replace F412 := F412.chg hc432 notNil
      replace F342 := F342.chg hc432 notNil
      replace hB := hB.inS hc432 inNil
      replace hZ := Nat.le_trans hZ hc432.size
      have hS := Chg.refl [] w431
      have Z433 := F338
      have Z434 := F339
      have Z435 := F340
      have Z436 := F412
      have Z437 := F342
      refine wH_take [0] [0] [(37, .pointer (some ⟨b30, 0, none⟩))] (by kernel_rfl) (qT (qT (qB (qT (qL (qB (qT (qT qZ)))))))) (by kernel_rfl) ?_
      refine wH_load1 (i := 1) (d := 38) (T := 2) (ad := ⟨b30, 0, none⟩) (v := .int .i64 (x335)) (by kernel_rfl) (qT (qT (qB (qT (qL (qB (qT (qT qZ)))))))) (by kernel_rfl) (by kernel_rfl) vt2 (fun W hW => (Z437.chg hW notNil).cell 0) ?_
      refine wH_take [2, 3] [3, 2, 1, 0] [(40, .int .i64 (x332)), (39, .slice A0 (l0).length cap0)] (by kernel_rfl) (qT (qT (qB (qT (qL (qB (qT (qT qZ)))))))) (by kernel_rfl) ?_
      obtain ⟨x438, hx439, hm⟩ := bindE hm
      refine wH_idx (i := 4) (d := 41) (T := 25) (A := A0) (n := (l0).length) (cap := cap0) (kd := .i64) (m := x332) (by kernel_rfl) (qT (qT (qB (qT (qL (qB (qT (qT qZ)))))))) (by kernel_rfl) (by kernel_rfl) sl25 (F338.is hx439) ?_
      refine wH_take [5] [5, 4, 3, 2, 1, 0] [(42, .pointer (some (elA A0 2 (x332) 0)))] (by kernel_rfl) (qT (qT (qB (qT (qL (qB (qT (qT qZ)))))))) (by kernel_rfl) ?_
      refine wH_load1 (i := 6) (d := 43) (T := 2) (ad := (elA A0 2 (x332) 0)) (v := .int .i64 (x438.1)) (by kernel_rfl) (qT (qT (qB (qT (qL (qB (qT (qT qZ)))))))) (by kernel_rfl) (by kernel_rfl) vt2 (fun W hW => Sl.cell (Z433.chg hW Dj.nil) hx439 0 (by rfl)) ?_
      refine wH_done (by kernel_rfl) ?_
      refine eX_tail ?_
      obtain ⟨y440, hy441, hm⟩ := bindE hm
      refine wS_calls (d := 44) (f := 125) (vs := [.int .i64 (x335), .int .i64 (x438.1)]) (by kernel_rfl) ent125 (c_spec_l00Max hy441) ?_
      rintro _ w442 ⟨rfl, hc443⟩
      replace F338 := F338.chg hc443 Dj.nil
      replace F339 := F339.chg hc443 notNil
      replace F340 := F340.chg hc443 notNil
      replace F412 := F412.chg hc443 notNil
      replace F342 := F342.chg hc443 notNil
      replace hB := hB.inS hc443 inNil
      replace hZ := Nat.le_trans hZ hc443.size
      refine ⟨.int .i64 (y440), rfl, ?_⟩
      refine wS_pure 1 [(45, .pointer (some ⟨b30, 0, none⟩))] (by kernel_rfl) ?_
      refine wS_store (T := 2) (g := b30) (o := 0) (ad := ⟨b30, 0, none⟩) (v := .int .i64 (y440)) (vs := [.int .i64 (y440)]) (by kernel_rfl) (by rfl) sz2 (by rfl) (by rfl) F342 (by simp only [List.length_cons, List.length_nil]; omega) ?_
      intro w444 F445 hc446
      replace F338 := F338.chg hc446 (Dj.of L0 (low1 G32))
      replace F339 := F339.chg hc446 (dj1 D36)
      replace F340 := F340.chg hc446 (dj1 D37)
      replace F412 := F412.chg hc446 (dj1 D38)
      replace hB := hB.inS hc446 (inLow (low1 G32))
      replace hZ := Nat.le_trans hZ hc446.size
      replace F445 : Cl w444 b30 34 [.int .i64 (y440), .int .i64 (x336)] := F445
      clear F342
      refine wS_end (by rfl) ?_
      refine eX_then ?_
      refine cW_drawnTail [] 7 (by kernel_rfl) (by kernel_rfl) (fun w463 hc464 => ?_)
      replace F338 := F338.chg hc464 Dj.nil
      replace F339 := F339.chg hc464 notNil
      replace F340 := F340.chg hc464 notNil
      replace F412 := F412.chg hc464 notNil
      replace F445 := F445.chg hc464 notNil
      replace hB := hB.inS hc464 inNil
      replace hZ := Nat.le_trans hZ hc464.size
      have hS := Chg.refl [] w463
      have Z465 := F338
      have Z466 := F339
      have Z467 := F340
      have Z468 := F412
      have Z469 := F445
      refine wH_take [0] [0] [(46, .pointer (some ⟨b30, 1, none⟩))] (by kernel_rfl) (qT (qB (qT (qL (qB (qT (qT qZ))))))) (by kernel_rfl) ?_
      refine wH_load1 (i := 1) (d := 47) (T := 2) (ad := ⟨b30, 1, none⟩) (v := .int .i64 (x336)) (by kernel_rfl) (qT (qB (qT (qL (qB (qT (qT qZ))))))) (by kernel_rfl) (by kernel_rfl) vt2 (fun W hW => (Z469.chg hW notNil).cell 1) ?_
      refine wH_take [2, 3] [3, 2, 1, 0] [(49, .int .i64 (x332)), (48, .slice A0 (l0).length cap0)] (by kernel_rfl) (qT (qB (qT (qL (qB (qT (qT qZ))))))) (by kernel_rfl) ?_
      obtain ⟨x470, hx471, hm⟩ := bindE hm
      refine wH_idx (i := 4) (d := 50) (T := 25) (A := A0) (n := (l0).length) (cap := cap0) (kd := .i64) (m := x332) (by kernel_rfl) (qT (qB (qT (qL (qB (qT (qT qZ))))))) (by kernel_rfl) (by kernel_rfl) sl25 (F338.is hx471) ?_
      refine wH_take [5] [5, 4, 3, 2, 1, 0] [(51, .pointer (some (elA A0 2 (x332) 1)))] (by kernel_rfl) (qT (qB (qT (qL (qB (qT (qT qZ))))))) (by kernel_rfl) ?_
      refine wH_load1 (i := 6) (d := 52) (T := 2) (ad := (elA A0 2 (x332) 1)) (v := .int .i64 (x470.2)) (by kernel_rfl) (qT (qB (qT (qL (qB (qT (qT qZ))))))) (by kernel_rfl) (by kernel_rfl) vt2 (fun W hW => Sl.cell (Z465.chg hW Dj.nil) hx471 1 (by rfl)) ?_
      refine wH_done (by kernel_rfl) ?_
      refine eX_tail ?_
      obtain ⟨y472, hy473, hm⟩ := bindE hm
      refine wS_calls (d := 53) (f := 125) (vs := [.int .i64 (x336), .int .i64 (x470.2)]) (by kernel_rfl) ent125 (c_spec_l00Max hy473) ?_
      rintro _ w474 ⟨rfl, hc475⟩
      replace F338 := F338.chg hc475 Dj.nil
      replace F339 := F339.chg hc475 notNil
      replace F340 := F340.chg hc475 notNil
      replace F412 := F412.chg hc475 notNil
      replace F445 := F445.chg hc475 notNil
      replace hB := hB.inS hc475 inNil
      replace hZ := Nat.le_trans hZ hc475.size
      refine ⟨.int .i64 (y472), rfl, ?_⟩
      refine wS_pure 1 [(54, .pointer (some ⟨b30, 1, none⟩))] (by kernel_rfl) ?_
      refine wS_store (T := 2) (g := b30) (o := 1) (ad := ⟨b30, 1, none⟩) (v := .int .i64 (y472)) (vs := [.int .i64 (y472)]) (by kernel_rfl) (by rfl) sz2 (by rfl) (by rfl) F445 (by simp only [List.length_cons, List.length_nil]; omega) ?_
      intro w476 F477 hc478
      replace F338 := F338.chg hc478 (Dj.of L0 (low1 G32))
      replace F339 := F339.chg hc478 (dj1 D36)
      replace F340 := F340.chg hc478 (dj1 D37)
      replace F412 := F412.chg hc478 (dj1 D38)
      replace hB := hB.inS hc478 (inLow (low1 G32))
      replace hZ := Nat.le_trans hZ hc478.size
      replace F477 : Cl w476 b30 34 [.int .i64 (y440), .int .i64 (y472)] := F477
      clear F445
      refine wS_end (by rfl) ?_
      refine eX_block ?_
      refine eX_then ?_
      refine cW_prune [(0, .slice A0 (l0).length cap0), (2, .pointer (some ⟨b2, 0, none⟩)), (3, .pointer (some ⟨b8, 0, none⟩)), (4, .pointer (some ⟨b17, 0, none⟩)), (5, .pointer (some ⟨b30, 0, none⟩)), (6, .int .i64 (x332))] (by kernel_rfl) (by kernel_rfl) (fun a479 => ?_)
      refine cW_region ?_
      refine wS_pure 3 [(6, .int .i64 (wr (x332 + 1))), (18, .int .i64 (wr (x332 + 1))), (17, .int .i64 (x332))] (by kernel_rfl) ?_
      refine wS_end (by rfl) ?_
      have hq : (some (Ctl.next ((wr (x332 + 1), y375, y407, y440, y472))) : Option (Ctl (Int × Int × Int × Int × Int) (Int × Int × Int × Int))) = some _ := hm
      replace hq := someE hq
      subst hq
      exact eX_next hx348 (fun hst => ⟨wr (x332 + 1), y375, y407, y440, y472, rfl, Fr.of hst (by kernel_rfl), F338, F339, F340, F412, F477, hB, hZ⟩)
    · have hm := condF hb349 hm
      refine cW_exit ?_
      refine eX_then_exit ?_
      have hq : (some (Ctl.out ((x333, x334, x335, x336))) : Option (Ctl (Int × Int × Int × Int × Int) (Int × Int × Int × Int))) = some _ := hm
      replace hq := someE hq
      subst hq
      refine eX_outX hx348 (fun hr480 => ?_)
      replace hr480 := hr480.symm
      subst hr480
      refine eX_block_hit ?_
      exact eX_J (fun hst => ⟨x333, x334, x335, x336, rfl, Fr.of hst (by kernel_rfl), F339, F340, F341, F342, hB, hZ⟩)
  · rintro a' w321 ⟨x322, x323, x324, x325, hJ, hF326, F327, F328, F329, F330, hB, hZ⟩
    subst hJ
    refine Fr.goX hF326 (by kernel_rfl) ?_
    refine eX_then ?_
    refine cW_seq ?_
    refine cW_drawnTail [b2] 3 (by kernel_rfl) (by kernel_rfl) (fun w493 hc494 => ?_)
    replace F327 := F327.chg hc494 notNil
    replace F328 := F328.chg hc494 notNil
    replace F329 := F329.chg hc494 notNil
    replace F330 := F330.chg hc494 notNil
    replace hB := hB.inS hc494 inNil
    replace hZ := Nat.le_trans hZ hc494.size
    have hS := Chg.refl [b2] w493
    have Z495 := F327
    have Z496 := F328
    have Z497 := F329
    have Z498 := F330
    refine wH_loadA (i := 0) (d := 55) (T := 34) (ad := ⟨b17, 0, none⟩) (vs := [.int .i64 (x322), .int .i64 (x323)]) (by kernel_rfl) (qT (qT qZ)) (by kernel_rfl) (by kernel_rfl) vt34 (fun W hW i u hu => box_cells (Z497.chg hW (dj1 (D23).symm)) 0 hu (by rfl)) ?_
    refine wH_loadA (i := 1) (d := 56) (T := 34) (ad := ⟨b30, 0, none⟩) (vs := [.int .i64 (x324), .int .i64 (x325)]) (by kernel_rfl) (qT (qT qZ)) (by kernel_rfl) (by kernel_rfl) vt34 (fun W hW i u hu => box_cells (Z498.chg hW (dj1 (D36).symm)) 0 hu (by rfl)) ?_
    refine wH_all [2] (by rfl) (by kernel_rfl) (by simp) ⟨⟨by kernel_rfl, ?_⟩, trivial⟩
    refine wS_store (T := 34) (g := b2) (o := 0) (ad := ⟨b2, 0, none⟩) (v := .agg #[.int .i64 (x322), .int .i64 (x323)]) (vs := [.int .i64 (x322), .int .i64 (x323)]) (by kernel_rfl) (by rfl) sz34 (by rfl) (by rfl) F327 (by simp only [List.length_cons, List.length_nil]; omega) ?_
    intro w499 F500 hc501
    replace F328 := F328.chg hc501 (dj1 (D14).symm)
    replace F329 := F329.chg hc501 (dj1 (D23).symm)
    replace F330 := F330.chg hc501 (dj1 (D36).symm)
    replace hB := hB.inS hc501 (inLow (low1 G4))
    have hSz := hS
    replace hS := hS.trans hc501
    replace hZ := Nat.le_trans hZ hc501.size
    replace F500 : Cl w499 b2 34 [.int .i64 (x322), .int .i64 (x323)] := F500
    clear F327
    refine wS_end (by kernel_rfl) ?_
    refine eX_KH hS ?_
    refine wH_done (by kernel_rfl) ?_
    refine eX_tail ?_
    refine wS_store (T := 34) (g := b8) (o := 0) (ad := ⟨b8, 0, none⟩) (v := .agg #[.int .i64 (x324), .int .i64 (x325)]) (vs := [.int .i64 (x324), .int .i64 (x325)]) (by kernel_rfl) (by rfl) sz34 (by rfl) (by rfl) F328 (by simp only [List.length_cons, List.length_nil]; omega) ?_
    intro w502 F503 hc504
    replace F500 := F500.chg hc504 (dj1 D14)
    replace F329 := F329.chg hc504 (dj1 (D24).symm)
    replace F330 := F330.chg hc504 (dj1 (D37).symm)
    replace hB := hB.inS hc504 (inLow (low1 G10))
    replace hZ := Nat.le_trans hZ hc504.size
    replace F503 : Cl w502 b8 34 [.int .i64 (x324), .int .i64 (x325)] := F503
    clear F328
    refine wS_end (by rfl) ?_
    refine eX_then ?_
    refine cW_ret ?_
    have hq : (some (((x322, x323), (x324, x325))) : Option ((Int × Int) × (Int × Int))) = some _ := hm
    replace hq := someE hq
    subst hq
    refine eX_ret (vs := [.agg #[.int .i64 (x322), .int .i64 (x323)], .agg #[.int .i64 (x324), .int .i64 (x325)]]) [.cell 2 34, .cell 3 34] (by rfl) ⟨⟨⟨b2, 0, none⟩, by kernel_rfl, run_loadVarA (vs := [.int .i64 (x322), .int .i64 (x323)]) vt34 (fun i u hu => by exact box_cells F500 0 hu (by rfl))⟩, ⟨⟨⟨b8, 0, none⟩, by kernel_rfl, run_loadVarA (vs := [.int .i64 (x324), .int .i64 (x325)]) vt34 (fun i u hu => by exact box_cells F503 0 hu (by rfl))⟩, trivial⟩⟩ ?_
    exact ⟨rfl, hB⟩

set_option maxRecDepth 100000 in
/-- spec.BoxBound -/
theorem c_spec_BoxBound {w0 : World} {l0 : List (Int × Int)} {A0 : Option Addr} {cap0 : Nat} {fp0 : List Nat} {r : (Int) × (Bool)} (hm : m_spec_BoxBound l0 = some r) (F0 : Sl 2 encII w0 fp0 A0 l0) (K0 : (l0).length ≤ cap0) :
    Calls Try.prog 32 #[.slice A0 (l0).length cap0] w0 fun e w' => e = .returned (.tuple #[.int .i64 (r.1), .bool (r.2)]) ∧ Chg [] w0 w' := by
  have L0 := F0.low
  have hB : Chg [] w0 w0 := Chg.refl _ _
  have hZ := Nat.le_refl w0.heap.size
  unfold m_spec_BoxBound at hm
  refine enterE (N := 17) Try.func32 (by rfl) Try.ntmps32 (by simp) [(0, .slice A0 (l0).length cap0)] (by rfl) (by kernel_rfl) (fun a => ?_)
  refine cW_seq ?_
  refine cW_region ?_
  refine wS_pure 2 [(3, .bool (false)), (2, .int .i64 (0))] (by kernel_rfl) ?_
  refine wS_end (by rfl) ?_
  refine eX_then ?_
  refine cW_seq ?_
  refine cW_seq ?_
  refine cW_region ?_
  refine wS_pure 1 [(6, .slice A0 (l0).length cap0)] (by kernel_rfl) ?_
  obtain ⟨y2, hy3, hm⟩ := bindE hm
  refine wS_calls (d := 7) (f := 75) (vs := [.slice A0 (l0).length cap0]) (by kernel_rfl) ent75 (c_spec_l05Is hy3 F0 K0) ?_
  rintro _ w4 ⟨rfl, hc5⟩
  replace F0 := F0.chg hc5 Dj.nil
  replace hB := hB.inS hc5 inNil
  replace hZ := Nat.le_trans hZ hc5.size
  refine ⟨.bool (y2), rfl, ?_⟩
  refine wS_pure 1 [(8, .bool (!y2))] (by kernel_rfl) ?_
  refine wS_end (by rfl) ?_
  refine eX_then ?_
  refine cW_cond (t := !y2) (by kernel_rfl) (fun hb6 => ?_) (fun hb6 => ?_)
  · have hm := condT hb6 hm
    refine cW_seq ?_
    refine cW_region ?_
    refine wS_pure 2 [(3, .bool (false)), (2, .int .i64 (0))] (by kernel_rfl) ?_
    refine wS_end (by rfl) ?_
    refine eX_then ?_
    refine cW_ret ?_
    refine eX_then_ret ?_
    have hq : (some ((0, false)) : Option ((Int) × (Bool))) = some _ := hm
    replace hq := someE hq
    subst hq
    refine eX_ret (vs := [.int .i64 (0), .bool (false)]) [.tmp 2, .tmp 3] (by rfl) ⟨by (show lkE _ _ _ = _); kernel_rfl, ⟨by (show lkE _ _ _ = _); kernel_rfl, trivial⟩⟩ ?_
    exact ⟨rfl, hB⟩
  · have hm := condF hb6 hm
    refine cW_skip ?_
    refine eX_then ?_
    refine cW_seq ?_
    refine cW_region ?_
    refine wS_pure 1 [(10, .slice A0 (l0).length cap0)] (by kernel_rfl) ?_
    obtain ⟨y7, hy8, hm⟩ := bindE hm
    refine wS_calls (d := 11) (f := 83) (vs := [.slice A0 (l0).length cap0]) (by kernel_rfl) ent83 (c_spec_l01Box hy8 F0) ?_
    rintro _ w9 ⟨rfl, hc10⟩
    replace F0 := F0.chg hc10 Dj.nil
    replace hB := hB.inS hc10 inNil
    replace hZ := Nat.le_trans hZ hc10.size
    refine ⟨.tuple #[.agg #[.int .i64 (y7.1.1), .int .i64 (y7.1.2)], .agg #[.int .i64 (y7.2.1), .int .i64 (y7.2.2)]], rfl, ?_⟩
    refine wS_pure 3 [(13, .agg #[.int .i64 (y7.2.1), .int .i64 (y7.2.2)]), (12, .agg #[.int .i64 (y7.1.1), .int .i64 (y7.1.2)]), (9, .tuple #[.agg #[.int .i64 (y7.1.1), .int .i64 (y7.1.2)], .agg #[.int .i64 (y7.2.1), .int .i64 (y7.2.2)]])] (by kernel_rfl) ?_
    refine wS_alloc (d := 4) (T := 34) (z := .agg #[.int .i64 (0), .int .i64 (0)]) (by kernel_rfl) (by kernel_rfl) ?_
    intro b11 w12 G13 F14 hc15
    replace F14 : Cl w12 b11 34 [.int .i64 (0), .int .i64 (0)] := F14
    replace F0 := F0.chg hc15 Dj.nil
    replace hB := hB.inS hc15 inNil
    replace G13 := Nat.le_trans hZ G13
    replace hZ := Nat.le_trans hZ hc15.size
    refine wS_alloc (d := 5) (T := 34) (z := .agg #[.int .i64 (0), .int .i64 (0)]) (by kernel_rfl) (by kernel_rfl) ?_
    intro b17 w18 G19 F20 hc21
    replace F20 : Cl w18 b17 34 [.int .i64 (0), .int .i64 (0)] := F20
    have D23 : Dj [b11] [b17] := Dj.of (lt1 F14.lt) (low1 G19)
    replace F0 := F0.chg hc21 Dj.nil
    replace F14 := F14.chg hc21 notNil
    replace hB := hB.inS hc21 inNil
    replace G19 := Nat.le_trans hZ G19
    replace hZ := Nat.le_trans hZ hc21.size
    refine wS_store (T := 34) (g := b11) (o := 0) (ad := ⟨b11, 0, none⟩) (v := .agg #[.int .i64 (y7.1.1), .int .i64 (y7.1.2)]) (vs := [.int .i64 (y7.1.1), .int .i64 (y7.1.2)]) (by kernel_rfl) (by rfl) sz34 (by rfl) (by rfl) F14 (by simp only [List.length_cons, List.length_nil]; omega) ?_
    intro w24 F25 hc26
    replace F0 := F0.chg hc26 (Dj.of L0 (low1 G13))
    replace F20 := F20.chg hc26 (dj1 (D23).symm)
    replace hB := hB.inS hc26 (inLow (low1 G13))
    replace hZ := Nat.le_trans hZ hc26.size
    replace F25 : Cl w24 b11 34 [.int .i64 (y7.1.1), .int .i64 (y7.1.2)] := F25
    clear F14
    refine wS_store (T := 34) (g := b17) (o := 0) (ad := ⟨b17, 0, none⟩) (v := .agg #[.int .i64 (y7.2.1), .int .i64 (y7.2.2)]) (vs := [.int .i64 (y7.2.1), .int .i64 (y7.2.2)]) (by kernel_rfl) (by rfl) sz34 (by rfl) (by rfl) F20 (by simp only [List.length_cons, List.length_nil]; omega) ?_
    intro w27 F28 hc29
    replace F0 := F0.chg hc29 (Dj.of L0 (low1 G19))
    replace F25 := F25.chg hc29 (dj1 D23)
    replace hB := hB.inS hc29 (inLow (low1 G19))
    replace hZ := Nat.le_trans hZ hc29.size
    replace F28 : Cl w27 b17 34 [.int .i64 (y7.2.1), .int .i64 (y7.2.2)] := F28
    clear F20
    refine wS_end (by rfl) ?_
    refine eX_then ?_
    refine cW_seq ?_
    refine cW_region ?_
    refine wS_loadA (d := 14) (T := 34) (ad := ⟨b11, 0, none⟩) (vs := [.int .i64 (y7.1.1), .int .i64 (y7.1.2)]) (by kernel_rfl) vt34 (fun i u hu => box_cells F25 0 hu (by rfl)) ?_
    refine wS_loadA (d := 15) (T := 34) (ad := ⟨b17, 0, none⟩) (vs := [.int .i64 (y7.2.1), .int .i64 (y7.2.2)]) (by kernel_rfl) vt34 (fun i u hu => box_cells F28 0 hu (by rfl)) ?_
    obtain ⟨y30, hy31, hm⟩ := bindE hm
    refine wS_calls (d := 16) (f := 84) (vs := [.agg #[.int .i64 (y7.1.1), .int .i64 (y7.1.2)], .agg #[.int .i64 (y7.2.1), .int .i64 (y7.2.2)]]) (by kernel_rfl) ent84 (c_spec_l01Far hy31) ?_
    rintro _ w32 ⟨rfl, hc33⟩
    replace F0 := F0.chg hc33 Dj.nil
    replace F25 := F25.chg hc33 notNil
    replace F28 := F28.chg hc33 notNil
    replace hB := hB.inS hc33 inNil
    replace hZ := Nat.le_trans hZ hc33.size
    refine ⟨.int .i64 (y30), rfl, ?_⟩
    refine wS_pure 2 [(3, .bool (true)), (2, .int .i64 (y30))] (by kernel_rfl) ?_
    refine wS_end (by rfl) ?_
    refine eX_then ?_
    refine cW_ret ?_
    have hq : (some ((y30, true)) : Option ((Int) × (Bool))) = some _ := hm
    replace hq := someE hq
    subst hq
    refine eX_ret (vs := [.int .i64 (y30), .bool (true)]) [.tmp 2, .tmp 3] (by rfl) ⟨by (show lkE _ _ _ = _); kernel_rfl, ⟨by (show lkE _ _ _ = _); kernel_rfl, trivial⟩⟩ ?_
    exact ⟨rfl, hB⟩

set_option maxRecDepth 100000 in
/-- impl.box -/
theorem c_impl_box {w0 : World} {l0 : List (Int × Int)} {A0 : Option Addr} {cap0 : Nat} {fp0 : List Nat} {r : (Int × Int) × (Int × Int)} (hm : m_impl_box l0 = some r) (F0 : Sl 2 encII w0 fp0 A0 l0) :
    Calls Try.prog 85 #[.slice A0 (l0).length cap0] w0 fun e w' => e = .returned (.tuple #[.agg #[.int .i64 (r.1.1), .int .i64 (r.1.2)], .agg #[.int .i64 (r.2.1), .int .i64 (r.2.2)]]) ∧ Chg [] w0 w' := by
  have L0 := F0.low
  have hB : Chg [] w0 w0 := Chg.refl _ _
  have hZ := Nat.le_refl w0.heap.size
  unfold m_impl_box at hm
  refine enterE (N := 45) Try.func85 (by rfl) Try.ntmps85 (by simp) [(0, .slice A0 (l0).length cap0)] (by rfl) (by kernel_rfl) (fun a => ?_)
  refine cW_seq ?_
  refine cW_region ?_
  refine wS_alloc (d := 2) (T := 34) (z := .agg #[.int .i64 (0), .int .i64 (0)]) (by kernel_rfl) (by kernel_rfl) ?_
  intro b2 w3 G4 F5 hc6
  replace F5 : Cl w3 b2 34 [.int .i64 (0), .int .i64 (0)] := F5
  replace F0 := F0.chg hc6 Dj.nil
  replace hB := hB.inS hc6 inNil
  replace G4 := Nat.le_trans hZ G4
  replace hZ := Nat.le_trans hZ hc6.size
  refine wS_alloc (d := 3) (T := 34) (z := .agg #[.int .i64 (0), .int .i64 (0)]) (by kernel_rfl) (by kernel_rfl) ?_
  intro b8 w9 G10 F11 hc12
  replace F11 : Cl w9 b8 34 [.int .i64 (0), .int .i64 (0)] := F11
  have D14 : Dj [b2] [b8] := Dj.of (lt1 F5.lt) (low1 G10)
  replace F0 := F0.chg hc12 Dj.nil
  replace F5 := F5.chg hc12 notNil
  replace hB := hB.inS hc12 inNil
  replace G10 := Nat.le_trans hZ G10
  replace hZ := Nat.le_trans hZ hc12.size
  refine wS_end (by rfl) ?_
  refine eX_then ?_
  refine cW_seq ?_
  obtain ⟨s155, hs156, hm⟩ := bindE hm
  refine cW_cut (fun a' w' => ∃ b134 : Nat, ∃ x135 : Int, ∃ x136 : Int, ∃ b138 : Nat, ∃ x139 : Int, ∃ x140 : Int, (x135, x136, x139, x140) = s155 ∧ Fr 45 [(0, .slice A0 (l0).length cap0), (2, .pointer (some ⟨b2, 0, none⟩)), (3, .pointer (some ⟨b8, 0, none⟩)), (4, .pointer (some ⟨b134, 0, none⟩)), (5, .pointer (some ⟨b138, 0, none⟩))] a' ∧ Sl 2 encII w' fp0 A0 l0 ∧ Cl w' b2 34 [.int .i64 (0), .int .i64 (0)] ∧ Cl w' b8 34 [.int .i64 (0), .int .i64 (0)] ∧ Cl w' b134 34 [.int .i64 (x135), .int .i64 (x136)] ∧ Cl w' b138 34 [.int .i64 (x139), .int .i64 (x140)] ∧ w0.heap.size ≤ b134 ∧ w0.heap.size ≤ b138 ∧ Dj [b2] [b134] ∧ Dj [b8] [b134] ∧ Dj [b138] [b134] ∧ Dj [b2] [b138] ∧ Dj [b8] [b138] ∧ Chg [] w0 w' ∧ w0.heap.size ≤ w'.heap.size) ?_ ?_
  · have hm := hs156
    refine cW_drawnTail [] 9 (by kernel_rfl) (by kernel_rfl) (fun w157 hc158 => ?_)
    replace F0 := F0.chg hc158 Dj.nil
    replace F5 := F5.chg hc158 notNil
    replace F11 := F11.chg hc158 notNil
    replace hB := hB.inS hc158 inNil
    replace hZ := Nat.le_trans hZ hc158.size
    have hS := Chg.refl [] w157
    have Z159 := F0
    have Z160 := F5
    have Z161 := F11
    refine wH_take [0] [0] [(8, .slice A0 (l0).length cap0)] (by kernel_rfl) (qT (qT (qT qZ))) (by kernel_rfl) ?_
    obtain ⟨x162, hx163, hm⟩ := bindE hm
    refine wH_idx (i := 1) (d := 9) (T := 25) (A := A0) (n := (l0).length) (cap := cap0) (kd := .i64) (m := 0) (by kernel_rfl) (qT (qT (qT qZ))) (by kernel_rfl) (by kernel_rfl) sl25 (F0.is hx163) ?_
    refine wH_loadA (i := 2) (d := 10) (T := 34) (ad := (elA A0 2 (0) 0)) (vs := [.int .i64 (x162.1), .int .i64 (x162.2)]) (by kernel_rfl) (qT (qT (qT qZ))) (by kernel_rfl) (by kernel_rfl) vt34 (fun W hW i u hu => Sl.cells_at (Z159.chg hW Dj.nil) hx163 0 hu (by rfl)) ?_
    refine wH_take [3] [3, 2, 1, 0] [(11, .slice A0 (l0).length cap0)] (by kernel_rfl) (qT (qT (qT qZ))) (by kernel_rfl) ?_
    obtain ⟨x164, hx165, hm⟩ := bindE hm
    refine wH_idx (i := 4) (d := 12) (T := 25) (A := A0) (n := (l0).length) (cap := cap0) (kd := .i64) (m := 0) (by kernel_rfl) (qT (qT (qT qZ))) (by kernel_rfl) (by kernel_rfl) sl25 (F0.is hx165) ?_
    refine wH_loadA (i := 5) (d := 13) (T := 34) (ad := (elA A0 2 (0) 0)) (vs := [.int .i64 (x164.1), .int .i64 (x164.2)]) (by kernel_rfl) (qT (qT (qT qZ))) (by kernel_rfl) (by kernel_rfl) vt34 (fun W hW i u hu => Sl.cells_at (Z159.chg hW Dj.nil) hx165 0 hu (by rfl)) ?_
    refine wH_all [6, 7] (by rfl) (by kernel_rfl) (by simp) ⟨⟨by kernel_rfl, ?_⟩, ⟨by kernel_rfl, ?_⟩, trivial⟩
    · skip
      refine wS_alloc (d := 4) (T := 34) (z := .agg #[.int .i64 (0), .int .i64 (0)]) (by kernel_rfl) (by kernel_rfl) ?_
      intro b166 w167 G168 F169 hc170
      replace F169 : Cl w167 b166 34 [.int .i64 (0), .int .i64 (0)] := F169
      have D172 : Dj [b2] [b166] := Dj.of (lt1 F5.lt) (low1 G168)
      have D173 : Dj [b8] [b166] := Dj.of (lt1 F11.lt) (low1 G168)
      replace F0 := F0.chg hc170 Dj.nil
      replace F5 := F5.chg hc170 notNil
      replace F11 := F11.chg hc170 notNil
      replace hB := hB.inS hc170 inNil
      have hSz := hS
      replace hS := hS.inS hc170 inNil
      have Gz174 := low1 (Nat.le_trans hSz.size G168)
      replace G168 := Nat.le_trans hZ G168
      replace hZ := Nat.le_trans hZ hc170.size
      refine wS_end (by kernel_rfl) ?_
      refine eX_KH hS ?_
      refine wH_all [7] (by rfl) (by kernel_rfl) (by simp) ⟨⟨by kernel_rfl, ?_⟩, trivial⟩
      refine wS_alloc (d := 5) (T := 34) (z := .agg #[.int .i64 (0), .int .i64 (0)]) (by kernel_rfl) (by kernel_rfl) ?_
      intro b175 w176 G177 F178 hc179
      replace F178 : Cl w176 b175 34 [.int .i64 (0), .int .i64 (0)] := F178
      have D181 : Dj [b2] [b175] := Dj.of (lt1 F5.lt) (low1 G177)
      have D182 : Dj [b8] [b175] := Dj.of (lt1 F11.lt) (low1 G177)
      have D183 : Dj [b166] [b175] := Dj.of (lt1 F169.lt) (low1 G177)
      replace F0 := F0.chg hc179 Dj.nil
      replace F5 := F5.chg hc179 notNil
      replace F11 := F11.chg hc179 notNil
      replace F169 := F169.chg hc179 notNil
      replace hB := hB.inS hc179 inNil
      have hSz := hS
      replace hS := hS.inS hc179 inNil
      have Gz184 := low1 (Nat.le_trans hSz.size G177)
      replace G177 := Nat.le_trans hZ G177
      replace hZ := Nat.le_trans hZ hc179.size
      refine wS_end (by kernel_rfl) ?_
      refine eX_KH hS ?_
      refine wH_all [8] (by rfl) (by kernel_rfl) (by simp) ⟨⟨by kernel_rfl, ?_⟩, trivial⟩
      refine wS_store (T := 34) (g := b166) (o := 0) (ad := ⟨b166, 0, none⟩) (v := .agg #[.int .i64 (x162.1), .int .i64 (x162.2)]) (vs := [.int .i64 (x162.1), .int .i64 (x162.2)]) (by kernel_rfl) (by rfl) sz34 (by rfl) (by rfl) F169 (by simp only [List.length_cons, List.length_nil]; omega) ?_
      intro w185 F186 hc187
      replace F0 := F0.chg hc187 (Dj.of L0 (low1 G168))
      replace F5 := F5.chg hc187 (dj1 D172)
      replace F11 := F11.chg hc187 (dj1 D173)
      replace F178 := F178.chg hc187 (dj1 (D183).symm)
      replace hB := hB.inS hc187 (inLow (low1 G168))
      have hSz := hS
      replace hS := hS.inS hc187 (inLow Gz174)
      replace hZ := Nat.le_trans hZ hc187.size
      replace F186 : Cl w185 b166 34 [.int .i64 (x162.1), .int .i64 (x162.2)] := F186
      clear F169
      refine wS_end (by kernel_rfl) ?_
      refine eX_KH hS ?_
      refine wH_done (by kernel_rfl) ?_
      refine eX_tail ?_
      refine wS_store (T := 34) (g := b175) (o := 0) (ad := ⟨b175, 0, none⟩) (v := .agg #[.int .i64 (x164.1), .int .i64 (x164.2)]) (vs := [.int .i64 (x164.1), .int .i64 (x164.2)]) (by kernel_rfl) (by rfl) sz34 (by rfl) (by rfl) F178 (by simp only [List.length_cons, List.length_nil]; omega) ?_
      intro w188 F189 hc190
      replace F0 := F0.chg hc190 (Dj.of L0 (low1 G177))
      replace F5 := F5.chg hc190 (dj1 D181)
      replace F11 := F11.chg hc190 (dj1 D182)
      replace F186 := F186.chg hc190 (dj1 D183)
      replace hB := hB.inS hc190 (inLow (low1 G177))
      replace hZ := Nat.le_trans hZ hc190.size
      replace F189 : Cl w188 b175 34 [.int .i64 (x164.1), .int .i64 (x164.2)] := F189
      clear F178
      refine wS_end (by rfl) ?_
      have hq : (some ((x162.1, x162.2, x164.1, x164.2)) : Option (Int × Int × Int × Int)) = some _ := hm
      replace hq := someE hq
      subst hq
      exact eX_J (fun hst => ⟨b166, x162.1, x162.2, b175, x164.1, x164.2, rfl, Fr.of hst (by kernel_rfl), F0, F5, F11, F186, F189, G168, G177, D172, D173, (D183).symm, D181, D182, hB, hZ⟩)
    · skip
      refine wS_alloc (d := 5) (T := 34) (z := .agg #[.int .i64 (0), .int .i64 (0)]) (by kernel_rfl) (by kernel_rfl) ?_
      intro b191 w192 G193 F194 hc195
      replace F194 : Cl w192 b191 34 [.int .i64 (0), .int .i64 (0)] := F194
      have D197 : Dj [b2] [b191] := Dj.of (lt1 F5.lt) (low1 G193)
      have D198 : Dj [b8] [b191] := Dj.of (lt1 F11.lt) (low1 G193)
      replace F0 := F0.chg hc195 Dj.nil
      replace F5 := F5.chg hc195 notNil
      replace F11 := F11.chg hc195 notNil
      replace hB := hB.inS hc195 inNil
      have hSz := hS
      replace hS := hS.inS hc195 inNil
      have Gz199 := low1 (Nat.le_trans hSz.size G193)
      replace G193 := Nat.le_trans hZ G193
      replace hZ := Nat.le_trans hZ hc195.size
      refine wS_end (by kernel_rfl) ?_
      refine eX_KH hS ?_
      refine wH_all [6] (by rfl) (by kernel_rfl) (by simp) ⟨⟨by kernel_rfl, ?_⟩, trivial⟩
      refine wS_alloc (d := 4) (T := 34) (z := .agg #[.int .i64 (0), .int .i64 (0)]) (by kernel_rfl) (by kernel_rfl) ?_
      intro b200 w201 G202 F203 hc204
      replace F203 : Cl w201 b200 34 [.int .i64 (0), .int .i64 (0)] := F203
      have D206 : Dj [b2] [b200] := Dj.of (lt1 F5.lt) (low1 G202)
      have D207 : Dj [b8] [b200] := Dj.of (lt1 F11.lt) (low1 G202)
      have D208 : Dj [b191] [b200] := Dj.of (lt1 F194.lt) (low1 G202)
      replace F0 := F0.chg hc204 Dj.nil
      replace F5 := F5.chg hc204 notNil
      replace F11 := F11.chg hc204 notNil
      replace F194 := F194.chg hc204 notNil
      replace hB := hB.inS hc204 inNil
      have hSz := hS
      replace hS := hS.inS hc204 inNil
      have Gz209 := low1 (Nat.le_trans hSz.size G202)
      replace G202 := Nat.le_trans hZ G202
      replace hZ := Nat.le_trans hZ hc204.size
      refine wS_end (by kernel_rfl) ?_
      refine eX_KH hS ?_
      refine wH_all [8] (by rfl) (by kernel_rfl) (by simp) ⟨⟨by kernel_rfl, ?_⟩, trivial⟩
      refine wS_store (T := 34) (g := b200) (o := 0) (ad := ⟨b200, 0, none⟩) (v := .agg #[.int .i64 (x162.1), .int .i64 (x162.2)]) (vs := [.int .i64 (x162.1), .int .i64 (x162.2)]) (by kernel_rfl) (by rfl) sz34 (by rfl) (by rfl) F203 (by simp only [List.length_cons, List.length_nil]; omega) ?_
      intro w210 F211 hc212
      replace F0 := F0.chg hc212 (Dj.of L0 (low1 G202))
      replace F5 := F5.chg hc212 (dj1 D206)
      replace F11 := F11.chg hc212 (dj1 D207)
      replace F194 := F194.chg hc212 (dj1 D208)
      replace hB := hB.inS hc212 (inLow (low1 G202))
      have hSz := hS
      replace hS := hS.inS hc212 (inLow Gz209)
      replace hZ := Nat.le_trans hZ hc212.size
      replace F211 : Cl w210 b200 34 [.int .i64 (x162.1), .int .i64 (x162.2)] := F211
      clear F203
      refine wS_end (by kernel_rfl) ?_
      refine eX_KH hS ?_
      refine wH_done (by kernel_rfl) ?_
      refine eX_tail ?_
      refine wS_store (T := 34) (g := b191) (o := 0) (ad := ⟨b191, 0, none⟩) (v := .agg #[.int .i64 (x164.1), .int .i64 (x164.2)]) (vs := [.int .i64 (x164.1), .int .i64 (x164.2)]) (by kernel_rfl) (by rfl) sz34 (by rfl) (by rfl) F194 (by simp only [List.length_cons, List.length_nil]; omega) ?_
      intro w213 F214 hc215
      replace F0 := F0.chg hc215 (Dj.of L0 (low1 G193))
      replace F5 := F5.chg hc215 (dj1 D197)
      replace F11 := F11.chg hc215 (dj1 D198)
      replace F211 := F211.chg hc215 (dj1 (D208).symm)
      replace hB := hB.inS hc215 (inLow (low1 G193))
      replace hZ := Nat.le_trans hZ hc215.size
      replace F214 : Cl w213 b191 34 [.int .i64 (x164.1), .int .i64 (x164.2)] := F214
      clear F194
      refine wS_end (by rfl) ?_
      have hq : (some ((x162.1, x162.2, x164.1, x164.2)) : Option (Int × Int × Int × Int)) = some _ := hm
      replace hq := someE hq
      subst hq
      exact eX_J (fun hst => ⟨b200, x162.1, x162.2, b191, x164.1, x164.2, rfl, Fr.of hst (by kernel_rfl), F0, F5, F11, F211, F214, G202, G193, D206, D207, D208, D197, D198, hB, hZ⟩)
  · rintro a' w133 ⟨b134, x135, x136, b138, x139, x140, hJ, hF142, F143, F144, F145, F146, F147, G148, G149, D150, D151, D152, D153, D154, hB, hZ⟩
    subst hJ
    refine Fr.goX hF142 (by kernel_rfl) ?_
    refine eX_then ?_
    refine cW_seq ?_
    refine cW_seq ?_
    refine cW_region ?_
    refine wS_pure 3 [(16, .int .i64 (0)), (15, .int .i64 (((l0).length : Int))), (14, .slice A0 (l0).length cap0)] (by kernel_rfl) ?_
    refine wS_end (by rfl) ?_
    refine eX_then ?_
    obtain ⟨r301, hr302, hm⟩ := bindE hm
    have hm303 := hm
    refine cW_cut (fun a' w' => ∃ x280 : Int, ∃ x281 : Int, ∃ x282 : Int, ∃ x283 : Int, (x280, x281, x282, x283) = r301 ∧ Fr 45 [(2, .pointer (some ⟨b2, 0, none⟩)), (3, .pointer (some ⟨b8, 0, none⟩)), (4, .pointer (some ⟨b134, 0, none⟩)), (5, .pointer (some ⟨b138, 0, none⟩))] a' ∧ Cl w' b2 34 [.int .i64 (0), .int .i64 (0)] ∧ Cl w' b8 34 [.int .i64 (0), .int .i64 (0)] ∧ Cl w' b134 34 [.int .i64 (x280), .int .i64 (x281)] ∧ Cl w' b138 34 [.int .i64 (x282), .int .i64 (x283)] ∧ Chg [] w0 w' ∧ w0.heap.size ≤ w'.heap.size) ?_ ?_
    · refine cW_block ?_
      refine cW_loop _ (fun (s304 : Int × Int × Int × Int × Int) a' w' => ∃ x290 : Int, ∃ x291 : Int, ∃ x292 : Int, ∃ x293 : Int, ∃ x294 : Int, (x290, x291, x292, x293, x294) = s304 ∧ Fr 45 [(2, .pointer (some ⟨b2, 0, none⟩)), (3, .pointer (some ⟨b8, 0, none⟩)), (4, .pointer (some ⟨b134, 0, none⟩)), (5, .pointer (some ⟨b138, 0, none⟩)), (14, .slice A0 (l0).length cap0), (15, .int .i64 (((l0).length : Int))), (16, .int .i64 (x290))] a' ∧ Sl 2 encII w' fp0 A0 l0 ∧ Cl w' b2 34 [.int .i64 (0), .int .i64 (0)] ∧ Cl w' b8 34 [.int .i64 (0), .int .i64 (0)] ∧ Cl w' b134 34 [.int .i64 (x291), .int .i64 (x292)] ∧ Cl w' b138 34 [.int .i64 (x293), .int .i64 (x294)] ∧ Chg [] w0 w' ∧ w0.heap.size ≤ w'.heap.size) hr302 (fun hst => ⟨0, x135, x136, x139, x140, rfl, Fr.of hst (by kernel_rfl), F143, F144, F145, F146, F147, hB, hZ⟩) ?_
      rintro _ c305 a' w289 ⟨x290, x291, x292, x293, x294, rfl, hF295, F296, F297, F298, F299, F300, hB, hZ⟩ hx306
      refine Fr.goOn hF295 (by kernel_rfl) ?_
      have hm := hx306
      unfold m_impl_box_s1 at hm
      refine cW_seq ?_
      refine cW_region ?_
      refine wS_pure 1 [(17, .bool (decide (x290 < (((l0).length : Int)))))] (by kernel_rfl) ?_
      refine wS_end (by rfl) ?_
      refine eX_then ?_
      refine cW_seq ?_
      refine cW_cond (t := decide (x290 < (((l0).length : Int)))) (by kernel_rfl) (fun hb307 => ?_) (fun hb307 => ?_)
      · have hm := condT hb307 hm
        refine cW_skip ?_
        refine eX_then ?_
        refine cW_seq ?_
        refine cW_block ?_
        refine cW_seq ?_
        refine cW_region ?_
        obtain ⟨x308, hx309, hm⟩ := bindE hm
        refine wS_idx (d := 18) (T := 25) (A := A0) (n := (l0).length) (cap := cap0) (kd := .i64) (m := x290) (by kernel_rfl) sl25 (F296.is hx309) ?_
        refine wS_loadA (d := 19) (T := 34) (ad := (elA A0 2 (x290) 0)) (vs := [.int .i64 (x308.1), .int .i64 (x308.2)]) (by kernel_rfl) vt34 (fun i u hu => Sl.cells_at F296 hx309 0 hu (by rfl)) ?_
        refine wS_alloc (d := 7) (T := 34) (z := .agg #[.int .i64 (0), .int .i64 (0)]) (by kernel_rfl) (by kernel_rfl) ?_
        intro b310 w311 G312 F313 hc314
        replace F313 : Cl w311 b310 34 [.int .i64 (0), .int .i64 (0)] := F313
        have D316 : Dj [b2] [b310] := Dj.of (lt1 F297.lt) (low1 G312)
        have D317 : Dj [b8] [b310] := Dj.of (lt1 F298.lt) (low1 G312)
        have D318 : Dj [b134] [b310] := Dj.of (lt1 F299.lt) (low1 G312)
        have D319 : Dj [b138] [b310] := Dj.of (lt1 F300.lt) (low1 G312)
        replace F296 := F296.chg hc314 Dj.nil
        replace F297 := F297.chg hc314 notNil
        replace F298 := F298.chg hc314 notNil
        replace F299 := F299.chg hc314 notNil
        replace F300 := F300.chg hc314 notNil
        replace hB := hB.inS hc314 inNil
        replace G312 := Nat.le_trans hZ G312
        replace hZ := Nat.le_trans hZ hc314.size
        refine wS_store (T := 34) (g := b310) (o := 0) (ad := ⟨b310, 0, none⟩) (v := .agg #[.int .i64 (x308.1), .int .i64 (x308.2)]) (vs := [.int .i64 (x308.1), .int .i64 (x308.2)]) (by kernel_rfl) (by rfl) sz34 (by rfl) (by rfl) F313 (by simp only [List.length_cons, List.length_nil]; omega) ?_
        intro w320 F321 hc322
        replace F296 := F296.chg hc322 (Dj.of L0 (low1 G312))
        replace F297 := F297.chg hc322 (dj1 D316)
        replace F298 := F298.chg hc322 (dj1 D317)
        replace F299 := F299.chg hc322 (dj1 D318)
        replace F300 := F300.chg hc322 (dj1 D319)
        replace hB := hB.inS hc322 (inLow (low1 G312))
        replace hZ := Nat.le_trans hZ hc322.size
        replace F321 : Cl w320 b310 34 [.int .i64 (x308.1), .int .i64 (x308.2)] := F321
        clear F313
        refine wS_end (by rfl) ?_
        refine eX_then ?_
        refine cW_seq ?_
        refine cW_region ?_
        refine wS_pure 1 [(20, .pointer (some ⟨b134, 0, none⟩))] (by kernel_rfl) ?_
        refine wS_load1 (d := 21) (T := 2) (ad := ⟨b134, 0, none⟩) (v := .int .i64 (x291)) (by kernel_rfl) vt2 ((F299).cell 0) ?_
        refine wS_pure 1 [(22, .pointer (some ⟨b310, 0, none⟩))] (by kernel_rfl) ?_
        refine wS_load1 (d := 23) (T := 2) (ad := ⟨b310, 0, none⟩) (v := .int .i64 (x308.1)) (by kernel_rfl) vt2 ((F321).cell 0) ?_
        refine wS_pure 2 [(25, .pointer (some ⟨b134, 1, none⟩)), (24, .int .i64 (if x308.1 < x291 then x308.1 else x291))] (by kernel_rfl) ?_
        refine wS_load1 (d := 26) (T := 2) (ad := ⟨b134, 1, none⟩) (v := .int .i64 (x292)) (by kernel_rfl) vt2 ((F299).cell 1) ?_
        refine wS_pure 1 [(27, .pointer (some ⟨b310, 1, none⟩))] (by kernel_rfl) ?_
        refine wS_load1 (d := 28) (T := 2) (ad := ⟨b310, 1, none⟩) (v := .int .i64 (x308.2)) (by kernel_rfl) vt2 ((F321).cell 1) ?_
        refine wS_pure 2 [(30, .agg #[.int .i64 (if x308.1 < x291 then x308.1 else x291), .int .i64 (if x308.2 < x292 then x308.2 else x292)]), (29, .int .i64 (if x308.2 < x292 then x308.2 else x292))] (by kernel_rfl) ?_
        refine wS_store (T := 34) (g := b134) (o := 0) (ad := ⟨b134, 0, none⟩) (v := .agg #[.int .i64 (if x308.1 < x291 then x308.1 else x291), .int .i64 (if x308.2 < x292 then x308.2 else x292)]) (vs := [.int .i64 (if x308.1 < x291 then x308.1 else x291), .int .i64 (if x308.2 < x292 then x308.2 else x292)]) (by kernel_rfl) (by rfl) sz34 (by rfl) (by rfl) F299 (by simp only [List.length_cons, List.length_nil]; omega) ?_
        intro w323 F324 hc325
        replace F296 := F296.chg hc325 (Dj.of L0 (low1 G148))
        replace F297 := F297.chg hc325 (dj1 D150)
        replace F298 := F298.chg hc325 (dj1 D151)
        replace F300 := F300.chg hc325 (dj1 D152)
        replace F321 := F321.chg hc325 (dj1 (D318).symm)
        replace hB := hB.inS hc325 (inLow (low1 G148))
        replace hZ := Nat.le_trans hZ hc325.size
        replace F324 : Cl w323 b134 34 [.int .i64 (if x308.1 < x291 then x308.1 else x291), .int .i64 (if x308.2 < x292 then x308.2 else x292)] := F324
        clear F299
        refine wS_end (by rfl) ?_
        refine eX_then ?_
        refine cW_region ?_
        refine wS_pure 1 [(31, .pointer (some ⟨b138, 0, none⟩))] (by kernel_rfl) ?_
        refine wS_load1 (d := 32) (T := 2) (ad := ⟨b138, 0, none⟩) (v := .int .i64 (x293)) (by kernel_rfl) vt2 ((F300).cell 0) ?_
        refine wS_pure 1 [(33, .pointer (some ⟨b310, 0, none⟩))] (by kernel_rfl) ?_
        refine wS_load1 (d := 34) (T := 2) (ad := ⟨b310, 0, none⟩) (v := .int .i64 (x308.1)) (by kernel_rfl) vt2 ((F321).cell 0) ?_
        refine wS_pure 2 [(36, .pointer (some ⟨b138, 1, none⟩)), (35, .int .i64 (if x308.1 > x293 then x308.1 else x293))] (by kernel_rfl) ?_
        refine wS_load1 (d := 37) (T := 2) (ad := ⟨b138, 1, none⟩) (v := .int .i64 (x294)) (by kernel_rfl) vt2 ((F300).cell 1) ?_
        refine wS_pure 1 [(38, .pointer (some ⟨b310, 1, none⟩))] (by kernel_rfl) ?_
        refine wS_load1 (d := 39) (T := 2) (ad := ⟨b310, 1, none⟩) (v := .int .i64 (x308.2)) (by kernel_rfl) vt2 ((F321).cell 1) ?_
        refine wS_pure 2 [(41, .agg #[.int .i64 (if x308.1 > x293 then x308.1 else x293), .int .i64 (if x308.2 > x294 then x308.2 else x294)]), (40, .int .i64 (if x308.2 > x294 then x308.2 else x294))] (by kernel_rfl) ?_
        refine wS_store (T := 34) (g := b138) (o := 0) (ad := ⟨b138, 0, none⟩) (v := .agg #[.int .i64 (if x308.1 > x293 then x308.1 else x293), .int .i64 (if x308.2 > x294 then x308.2 else x294)]) (vs := [.int .i64 (if x308.1 > x293 then x308.1 else x293), .int .i64 (if x308.2 > x294 then x308.2 else x294)]) (by kernel_rfl) (by rfl) sz34 (by rfl) (by rfl) F300 (by simp only [List.length_cons, List.length_nil]; omega) ?_
        intro w326 F327 hc328
        replace F296 := F296.chg hc328 (Dj.of L0 (low1 G149))
        replace F297 := F297.chg hc328 (dj1 D153)
        replace F298 := F298.chg hc328 (dj1 D154)
        replace F324 := F324.chg hc328 (dj1 (D152).symm)
        replace F321 := F321.chg hc328 (dj1 (D319).symm)
        replace hB := hB.inS hc328 (inLow (low1 G149))
        replace hZ := Nat.le_trans hZ hc328.size
        replace F327 : Cl w326 b138 34 [.int .i64 (if x308.1 > x293 then x308.1 else x293), .int .i64 (if x308.2 > x294 then x308.2 else x294)] := F327
        clear F300
        refine wS_end (by rfl) ?_
        refine eX_block ?_
        refine eX_then ?_
        refine cW_prune [(2, .pointer (some ⟨b2, 0, none⟩)), (3, .pointer (some ⟨b8, 0, none⟩)), (4, .pointer (some ⟨b134, 0, none⟩)), (5, .pointer (some ⟨b138, 0, none⟩)), (14, .slice A0 (l0).length cap0), (15, .int .i64 (((l0).length : Int))), (16, .int .i64 (x290))] (by kernel_rfl) (by kernel_rfl) (fun a329 => ?_)
        refine cW_region ?_
        refine wS_pure 2 [(16, .int .i64 (wr (x290 + 1))), (42, .int .i64 (wr (x290 + 1)))] (by kernel_rfl) ?_
        refine wS_end (by rfl) ?_
        have hq : (some (Ctl.next ((wr (x290 + 1), if x308.1 < x291 then x308.1 else x291, if x308.2 < x292 then x308.2 else x292, if x308.1 > x293 then x308.1 else x293, if x308.2 > x294 then x308.2 else x294))) : Option (Ctl (Int × Int × Int × Int × Int) (Int × Int × Int × Int))) = some _ := hm
        replace hq := someE hq
        subst hq
        exact eX_next hx306 (fun hst => ⟨wr (x290 + 1), if x308.1 < x291 then x308.1 else x291, if x308.2 < x292 then x308.2 else x292, if x308.1 > x293 then x308.1 else x293, if x308.2 > x294 then x308.2 else x294, rfl, Fr.of hst (by kernel_rfl), F296, F297, F298, F324, F327, hB, hZ⟩)
      · have hm := condF hb307 hm
        refine cW_exit ?_
        refine eX_then_exit ?_
        have hq : (some (Ctl.out ((x291, x292, x293, x294))) : Option (Ctl (Int × Int × Int × Int × Int) (Int × Int × Int × Int))) = some _ := hm
        replace hq := someE hq
        subst hq
        refine eX_outX hx306 (fun hr330 => ?_)
        replace hr330 := hr330.symm
        subst hr330
        refine eX_block_hit ?_
        exact eX_J (fun hst => ⟨x291, x292, x293, x294, rfl, Fr.of hst (by kernel_rfl), F297, F298, F299, F300, hB, hZ⟩)
    · rintro a' w279 ⟨x280, x281, x282, x283, hJ, hF284, F285, F286, F287, F288, hB, hZ⟩
      subst hJ
      refine Fr.goX hF284 (by kernel_rfl) ?_
      refine eX_then ?_
      refine cW_seq ?_
      refine cW_drawnTail [b2] 3 (by kernel_rfl) (by kernel_rfl) (fun w343 hc344 => ?_)
      replace F285 := F285.chg hc344 notNil
      replace F286 := F286.chg hc344 notNil
      replace F287 := F287.chg hc344 notNil
      replace F288 := F288.chg hc344 notNil
      replace hB := hB.inS hc344 inNil
      replace hZ := Nat.le_trans hZ hc344.size
      have hS := Chg.refl [b2] w343
      have Z345 := F285
      have Z346 := F286
      have Z347 := F287
      have Z348 := F288
      refine wH_loadA (i := 0) (d := 43) (T := 34) (ad := ⟨b134, 0, none⟩) (vs := [.int .i64 (x280), .int .i64 (x281)]) (by kernel_rfl) (qT (qT qZ)) (by kernel_rfl) (by kernel_rfl) vt34 (fun W hW i u hu => box_cells (Z347.chg hW (dj1 (D150).symm)) 0 hu (by rfl)) ?_
      refine wH_loadA (i := 1) (d := 44) (T := 34) (ad := ⟨b138, 0, none⟩) (vs := [.int .i64 (x282), .int .i64 (x283)]) (by kernel_rfl) (qT (qT qZ)) (by kernel_rfl) (by kernel_rfl) vt34 (fun W hW i u hu => box_cells (Z348.chg hW (dj1 (D153).symm)) 0 hu (by rfl)) ?_
      refine wH_all [2] (by rfl) (by kernel_rfl) (by simp) ⟨⟨by kernel_rfl, ?_⟩, trivial⟩
      refine wS_store (T := 34) (g := b2) (o := 0) (ad := ⟨b2, 0, none⟩) (v := .agg #[.int .i64 (x280), .int .i64 (x281)]) (vs := [.int .i64 (x280), .int .i64 (x281)]) (by kernel_rfl) (by rfl) sz34 (by rfl) (by rfl) F285 (by simp only [List.length_cons, List.length_nil]; omega) ?_
      intro w349 F350 hc351
      replace F286 := F286.chg hc351 (dj1 (D14).symm)
      replace F287 := F287.chg hc351 (dj1 (D150).symm)
      replace F288 := F288.chg hc351 (dj1 (D153).symm)
      replace hB := hB.inS hc351 (inLow (low1 G4))
      have hSz := hS
      replace hS := hS.trans hc351
      replace hZ := Nat.le_trans hZ hc351.size
      replace F350 : Cl w349 b2 34 [.int .i64 (x280), .int .i64 (x281)] := F350
      clear F285
      refine wS_end (by kernel_rfl) ?_
      refine eX_KH hS ?_
      refine wH_done (by kernel_rfl) ?_
      refine eX_tail ?_
      refine wS_store (T := 34) (g := b8) (o := 0) (ad := ⟨b8, 0, none⟩) (v := .agg #[.int .i64 (x282), .int .i64 (x283)]) (vs := [.int .i64 (x282), .int .i64 (x283)]) (by kernel_rfl) (by rfl) sz34 (by rfl) (by rfl) F286 (by simp only [List.length_cons, List.length_nil]; omega) ?_
      intro w352 F353 hc354
      replace F350 := F350.chg hc354 (dj1 D14)
      replace F287 := F287.chg hc354 (dj1 (D151).symm)
      replace F288 := F288.chg hc354 (dj1 (D154).symm)
      replace hB := hB.inS hc354 (inLow (low1 G10))
      replace hZ := Nat.le_trans hZ hc354.size
      replace F353 : Cl w352 b8 34 [.int .i64 (x282), .int .i64 (x283)] := F353
      clear F286
      refine wS_end (by rfl) ?_
      refine eX_then ?_
      refine cW_ret ?_
      have hq : (some (((x280, x281), (x282, x283))) : Option ((Int × Int) × (Int × Int))) = some _ := hm
      replace hq := someE hq
      subst hq
      refine eX_ret (vs := [.agg #[.int .i64 (x280), .int .i64 (x281)], .agg #[.int .i64 (x282), .int .i64 (x283)]]) [.cell 2 34, .cell 3 34] (by rfl) ⟨⟨⟨b2, 0, none⟩, by kernel_rfl, run_loadVarA (vs := [.int .i64 (x280), .int .i64 (x281)]) vt34 (fun i u hu => by exact box_cells F350 0 hu (by rfl))⟩, ⟨⟨⟨b8, 0, none⟩, by kernel_rfl, run_loadVarA (vs := [.int .i64 (x282), .int .i64 (x283)]) vt34 (fun i u hu => by exact box_cells F353 0 hu (by rfl))⟩, trivial⟩⟩ ?_
      exact ⟨rfl, hB⟩

set_option maxRecDepth 100000 in
/-- impl.BoxBound -/
theorem c_impl_BoxBound {w0 : World} {l0 : List (Int × Int)} {A0 : Option Addr} {cap0 : Nat} {fp0 : List Nat} {r : (Int) × (Bool)} (hm : m_impl_BoxBound l0 = some r) (F0 : Sl 2 encII w0 fp0 A0 l0) :
    Calls Try.prog 33 #[.slice A0 (l0).length cap0] w0 fun e w' => e = .returned (.tuple #[.int .i64 (r.1), .bool (r.2)]) ∧ Chg [] w0 w' := by
  have L0 := F0.low
  have hB : Chg [] w0 w0 := Chg.refl _ _
  have hZ := Nat.le_refl w0.heap.size
  unfold m_impl_BoxBound at hm
  refine enterE (N := 17) Try.func33 (by rfl) Try.ntmps33 (by simp) [(0, .slice A0 (l0).length cap0)] (by rfl) (by kernel_rfl) (fun a => ?_)
  refine cW_seq ?_
  refine cW_region ?_
  refine wS_pure 2 [(3, .bool (false)), (2, .int .i64 (0))] (by kernel_rfl) ?_
  refine wS_end (by rfl) ?_
  refine eX_then ?_
  refine cW_seq ?_
  refine cW_seq ?_
  refine cW_region ?_
  refine wS_pure 1 [(6, .slice A0 (l0).length cap0)] (by kernel_rfl) ?_
  obtain ⟨y2, hy3, hm⟩ := bindE hm
  refine wS_calls (d := 7) (f := 78) (vs := [.slice A0 (l0).length cap0]) (by kernel_rfl) ent78 (c_impl_ArePins hy3 F0) ?_
  rintro _ w4 ⟨rfl, hc5⟩
  replace F0 := F0.chg hc5 Dj.nil
  replace hB := hB.inS hc5 inNil
  replace hZ := Nat.le_trans hZ hc5.size
  refine ⟨.bool (y2), rfl, ?_⟩
  refine wS_pure 1 [(8, .bool (!y2))] (by kernel_rfl) ?_
  refine wS_end (by rfl) ?_
  refine eX_then ?_
  refine cW_cond (t := !y2) (by kernel_rfl) (fun hb6 => ?_) (fun hb6 => ?_)
  · have hm := condT hb6 hm
    refine cW_seq ?_
    refine cW_region ?_
    refine wS_pure 2 [(3, .bool (false)), (2, .int .i64 (0))] (by kernel_rfl) ?_
    refine wS_end (by rfl) ?_
    refine eX_then ?_
    refine cW_ret ?_
    refine eX_then_ret ?_
    have hq : (some ((0, false)) : Option ((Int) × (Bool))) = some _ := hm
    replace hq := someE hq
    subst hq
    refine eX_ret (vs := [.int .i64 (0), .bool (false)]) [.tmp 2, .tmp 3] (by rfl) ⟨by (show lkE _ _ _ = _); kernel_rfl, ⟨by (show lkE _ _ _ = _); kernel_rfl, trivial⟩⟩ ?_
    exact ⟨rfl, hB⟩
  · have hm := condF hb6 hm
    refine cW_skip ?_
    refine eX_then ?_
    refine cW_seq ?_
    refine cW_region ?_
    refine wS_pure 1 [(10, .slice A0 (l0).length cap0)] (by kernel_rfl) ?_
    obtain ⟨y7, hy8, hm⟩ := bindE hm
    refine wS_calls (d := 11) (f := 85) (vs := [.slice A0 (l0).length cap0]) (by kernel_rfl) ent85 (c_impl_box hy8 F0) ?_
    rintro _ w9 ⟨rfl, hc10⟩
    replace F0 := F0.chg hc10 Dj.nil
    replace hB := hB.inS hc10 inNil
    replace hZ := Nat.le_trans hZ hc10.size
    refine ⟨.tuple #[.agg #[.int .i64 (y7.1.1), .int .i64 (y7.1.2)], .agg #[.int .i64 (y7.2.1), .int .i64 (y7.2.2)]], rfl, ?_⟩
    refine wS_pure 3 [(13, .agg #[.int .i64 (y7.2.1), .int .i64 (y7.2.2)]), (12, .agg #[.int .i64 (y7.1.1), .int .i64 (y7.1.2)]), (9, .tuple #[.agg #[.int .i64 (y7.1.1), .int .i64 (y7.1.2)], .agg #[.int .i64 (y7.2.1), .int .i64 (y7.2.2)]])] (by kernel_rfl) ?_
    refine wS_alloc (d := 4) (T := 34) (z := .agg #[.int .i64 (0), .int .i64 (0)]) (by kernel_rfl) (by kernel_rfl) ?_
    intro b11 w12 G13 F14 hc15
    replace F14 : Cl w12 b11 34 [.int .i64 (0), .int .i64 (0)] := F14
    replace F0 := F0.chg hc15 Dj.nil
    replace hB := hB.inS hc15 inNil
    replace G13 := Nat.le_trans hZ G13
    replace hZ := Nat.le_trans hZ hc15.size
    refine wS_alloc (d := 5) (T := 34) (z := .agg #[.int .i64 (0), .int .i64 (0)]) (by kernel_rfl) (by kernel_rfl) ?_
    intro b17 w18 G19 F20 hc21
    replace F20 : Cl w18 b17 34 [.int .i64 (0), .int .i64 (0)] := F20
    have D23 : Dj [b11] [b17] := Dj.of (lt1 F14.lt) (low1 G19)
    replace F0 := F0.chg hc21 Dj.nil
    replace F14 := F14.chg hc21 notNil
    replace hB := hB.inS hc21 inNil
    replace G19 := Nat.le_trans hZ G19
    replace hZ := Nat.le_trans hZ hc21.size
    refine wS_store (T := 34) (g := b11) (o := 0) (ad := ⟨b11, 0, none⟩) (v := .agg #[.int .i64 (y7.1.1), .int .i64 (y7.1.2)]) (vs := [.int .i64 (y7.1.1), .int .i64 (y7.1.2)]) (by kernel_rfl) (by rfl) sz34 (by rfl) (by rfl) F14 (by simp only [List.length_cons, List.length_nil]; omega) ?_
    intro w24 F25 hc26
    replace F0 := F0.chg hc26 (Dj.of L0 (low1 G13))
    replace F20 := F20.chg hc26 (dj1 (D23).symm)
    replace hB := hB.inS hc26 (inLow (low1 G13))
    replace hZ := Nat.le_trans hZ hc26.size
    replace F25 : Cl w24 b11 34 [.int .i64 (y7.1.1), .int .i64 (y7.1.2)] := F25
    clear F14
    refine wS_store (T := 34) (g := b17) (o := 0) (ad := ⟨b17, 0, none⟩) (v := .agg #[.int .i64 (y7.2.1), .int .i64 (y7.2.2)]) (vs := [.int .i64 (y7.2.1), .int .i64 (y7.2.2)]) (by kernel_rfl) (by rfl) sz34 (by rfl) (by rfl) F20 (by simp only [List.length_cons, List.length_nil]; omega) ?_
    intro w27 F28 hc29
    replace F0 := F0.chg hc29 (Dj.of L0 (low1 G19))
    replace F25 := F25.chg hc29 (dj1 D23)
    replace hB := hB.inS hc29 (inLow (low1 G19))
    replace hZ := Nat.le_trans hZ hc29.size
    replace F28 : Cl w27 b17 34 [.int .i64 (y7.2.1), .int .i64 (y7.2.2)] := F28
    clear F20
    refine wS_end (by rfl) ?_
    refine eX_then ?_
    refine cW_seq ?_
    refine cW_region ?_
    refine wS_loadA (d := 14) (T := 34) (ad := ⟨b11, 0, none⟩) (vs := [.int .i64 (y7.1.1), .int .i64 (y7.1.2)]) (by kernel_rfl) vt34 (fun i u hu => box_cells F25 0 hu (by rfl)) ?_
    refine wS_loadA (d := 15) (T := 34) (ad := ⟨b17, 0, none⟩) (vs := [.int .i64 (y7.2.1), .int .i64 (y7.2.2)]) (by kernel_rfl) vt34 (fun i u hu => box_cells F28 0 hu (by rfl)) ?_
    obtain ⟨y30, hy31, hm⟩ := bindE hm
    refine wS_calls (d := 16) (f := 73) (vs := [.agg #[.int .i64 (y7.1.1), .int .i64 (y7.1.2)], .agg #[.int .i64 (y7.2.1), .int .i64 (y7.2.2)]]) (by kernel_rfl) ent73 (c_impl_far hy31) ?_
    rintro _ w32 ⟨rfl, hc33⟩
    replace F0 := F0.chg hc33 Dj.nil
    replace F25 := F25.chg hc33 notNil
    replace F28 := F28.chg hc33 notNil
    replace hB := hB.inS hc33 inNil
    replace hZ := Nat.le_trans hZ hc33.size
    refine ⟨.int .i64 (y30), rfl, ?_⟩
    refine wS_pure 2 [(3, .bool (true)), (2, .int .i64 (y30))] (by kernel_rfl) ?_
    refine wS_end (by rfl) ?_
    refine eX_then ?_
    refine cW_ret ?_
    have hq : (some ((y30, true)) : Option ((Int) × (Bool))) = some _ := hm
    replace hq := someE hq
    subst hq
    refine eX_ret (vs := [.int .i64 (y30), .bool (true)]) [.tmp 2, .tmp 3] (by rfl) ⟨by (show lkE _ _ _ = _); kernel_rfl, ⟨by (show lkE _ _ _ = _); kernel_rfl, trivial⟩⟩ ?_
    exact ⟨rfl, hB⟩

set_option maxRecDepth 100000 in
/-- laws.FnExactBoxBound -/
theorem c_laws_FnExactBoxBound {w0 : World} {l0 : List (Int × Int)} {A0 : Option Addr} {cap0 : Nat} {fp0 : List Nat} {r : (Bool)} (hm : m_laws_FnExactBoxBound l0 = some r) (F0 : Sl 2 encII w0 fp0 A0 l0) :
    Calls Try.prog 7 #[.slice A0 (l0).length cap0] w0 fun e w' => e = .returned (.bool (r)) ∧ Chg [] w0 w' := by
  have L0 := F0.low
  have hB : Chg [] w0 w0 := Chg.refl _ _
  have hZ := Nat.le_refl w0.heap.size
  unfold m_laws_FnExactBoxBound at hm
  refine enterE (N := 40) Try.func7 (by rfl) Try.ntmps7 (by simp) [(0, .slice A0 (l0).length cap0)] (by rfl) (by kernel_rfl) (fun a => ?_)
  refine cW_seq ?_
  refine cW_region ?_
  refine wS_pure 1 [(2, .bool (false))] (by kernel_rfl) ?_
  refine wS_end (by rfl) ?_
  refine eX_then ?_
  refine cW_seq ?_
  refine cW_region ?_
  refine wS_pure 1 [(3, .int .i64 (1048576))] (by kernel_rfl) ?_
  refine wS_end (by rfl) ?_
  refine eX_then ?_
  refine cW_seq ?_
  refine cW_region ?_
  refine wS_pure 2 [(10, .int .i64 (1048576)), (9, .slice A0 (l0).length cap0)] (by kernel_rfl) ?_
  obtain ⟨y2, hy3, hm⟩ := bindE hm
  refine wS_calls (d := 11) (f := 20) (vs := [.slice A0 (l0).length cap0, .int .i64 (1048576)]) (by kernel_rfl) ent20 (c_laws_szPointS hy3 F0) ?_
  rintro _ w4 ⟨rfl, hc5⟩
  replace F0 := F0.chg hc5 Dj.nil
  replace hB := hB.inS hc5 inNil
  replace hZ := Nat.le_trans hZ hc5.size
  refine ⟨.int .i64 (y2), rfl, ?_⟩
  refine wS_pure 1 [(3, .int .i64 (y2))] (by kernel_rfl) ?_
  refine wS_end (by rfl) ?_
  refine eX_then ?_
  refine cW_seq ?_
  refine cW_seq ?_
  refine cW_region ?_
  refine wS_pure 2 [(13, .bool (decide (y2 < 0))), (12, .int .i64 (y2))] (by kernel_rfl) ?_
  refine wS_end (by rfl) ?_
  refine eX_then ?_
  refine cW_cond (t := decide (y2 < 0)) (by kernel_rfl) (fun hb6 => ?_) (fun hb6 => ?_)
  · have hm := condT hb6 hm
    refine cW_seq ?_
    refine cW_region ?_
    refine wS_pure 1 [(2, .bool (true))] (by kernel_rfl) ?_
    refine wS_end (by rfl) ?_
    refine eX_then ?_
    refine cW_ret ?_
    refine eX_then_ret ?_
    have hq : (some true : Option ((Bool))) = some _ := hm
    replace hq := someE hq
    subst hq
    refine eX_ret (vs := [.bool (true)]) [.tmp 2] (by rfl) ⟨by (show lkE _ _ _ = _); kernel_rfl, trivial⟩ ?_
    exact ⟨rfl, hB⟩
  · have hm := condF hb6 hm
    refine cW_skip ?_
    refine eX_then ?_
    refine cW_seq ?_
    refine cW_region ?_
    refine wS_pure 1 [(15, .slice A0 (l0).length cap0)] (by kernel_rfl) ?_
    obtain ⟨y7, hy8, hm⟩ := bindE hm
    refine wS_calls (d := 16) (f := 22) (vs := [.slice A0 (l0).length cap0]) (by kernel_rfl) ent22 (c_laws_toPointS hy8 F0) ?_
    rintro _ w9 ⟨A11, cap12, fp13, rfl, F14, G15, hc10⟩
    replace F0 := F0.chg hc10 Dj.nil
    replace hB := hB.inS hc10 inNil
    replace G15 := low_le hZ G15
    replace hZ := Nat.le_trans hZ hc10.size
    refine ⟨.slice A11 (y7).length cap12, rfl, ?_⟩
    obtain ⟨y18, hy19, hm⟩ := bindE hm
    refine wS_calls (d := 17) (f := 32) (vs := [.slice A11 (y7).length cap12]) (by kernel_rfl) ent32 (c_spec_BoxBound hy19 (F14.sl encII_ok) F14.cap_le) ?_
    rintro _ w20 ⟨rfl, hc21⟩
    replace F0 := F0.chg hc21 Dj.nil
    replace F14 := F14.chg hc21 Dj.nil
    replace hB := hB.inS hc21 inNil
    replace hZ := Nat.le_trans hZ hc21.size
    refine ⟨.tuple #[.int .i64 (y18.1), .bool (y18.2)], rfl, ?_⟩
    refine wS_pure 5 [(5, .bool (y18.2)), (4, .int .i64 (y18.1)), (19, .bool (y18.2)), (18, .int .i64 (y18.1)), (14, .tuple #[.int .i64 (y18.1), .bool (y18.2)])] (by kernel_rfl) ?_
    refine wS_end (by rfl) ?_
    refine eX_then ?_
    refine cW_seq ?_
    refine cW_region ?_
    refine wS_pure 1 [(20, .slice A0 (l0).length cap0)] (by kernel_rfl) ?_
    obtain ⟨y22, hy23, hm⟩ := bindE hm
    refine wS_calls (d := 21) (f := 22) (vs := [.slice A0 (l0).length cap0]) (by kernel_rfl) ent22 (c_laws_toPointS hy23 F0) ?_
    rintro _ w24 ⟨A26, cap27, fp28, rfl, F29, G30, hc25⟩
    have D33 : Dj fp13 fp28 := Dj.of F14.low G30
    replace F0 := F0.chg hc25 Dj.nil
    replace F14 := F14.chg hc25 Dj.nil
    replace hB := hB.inS hc25 inNil
    replace G30 := low_le hZ G30
    replace hZ := Nat.le_trans hZ hc25.size
    refine ⟨.slice A26 (y22).length cap27, rfl, ?_⟩
    refine wS_pure 1 [(6, .slice A26 (y22).length cap27)] (by kernel_rfl) ?_
    refine wS_end (by rfl) ?_
    refine eX_then ?_
    refine cW_seq ?_
    refine cW_region ?_
    refine wS_pure 1 [(23, .slice A26 (y22).length cap27)] (by kernel_rfl) ?_
    obtain ⟨y34, hy35, hm⟩ := bindE hm
    refine wS_calls (d := 24) (f := 33) (vs := [.slice A26 (y22).length cap27]) (by kernel_rfl) ent33 (c_impl_BoxBound hy35 (F29.sl encII_ok)) ?_
    rintro _ w36 ⟨rfl, hc37⟩
    replace F0 := F0.chg hc37 Dj.nil
    replace F14 := F14.chg hc37 Dj.nil
    replace F29 := F29.chg hc37 Dj.nil
    replace hB := hB.inS hc37 inNil
    replace hZ := Nat.le_trans hZ hc37.size
    refine ⟨.tuple #[.int .i64 (y34.1), .bool (y34.2)], rfl, ?_⟩
    refine wS_pure 5 [(8, .bool (y34.2)), (7, .int .i64 (y34.1)), (26, .bool (y34.2)), (25, .int .i64 (y34.1)), (22, .tuple #[.int .i64 (y34.1), .bool (y34.2)])] (by kernel_rfl) ?_
    refine wS_end (by rfl) ?_
    refine eX_then ?_
    refine cW_prune [(0, .slice A0 (l0).length cap0), (4, .int .i64 (y18.1)), (5, .bool (y18.2)), (6, .slice A26 (y22).length cap27), (7, .int .i64 (y34.1)), (8, .bool (y34.2))] (by kernel_rfl) (by kernel_rfl) (fun a38 => ?_)
    refine cW_seq ?_
    refine cW_seq ?_
    refine cW_region ?_
    refine wS_pure 4 [(30, .bool (y34.1 != y18.1)), (29, .bool (y34.1 != y18.1)), (28, .int .i64 (y18.1)), (27, .int .i64 (y34.1))] (by kernel_rfl) ?_
    refine wS_bool (y34.1 != y18.1) (fun hb39 => ?_) (fun hb39 => ?_)
    · have hm := condT hb39 hm
      rewrite [hb39]
      refine wS_pure 4 [(34, .bool (true)), (33, undef), (32, undef), (31, undef)] (by kernel_rfl) ?_
      refine wS_end (by rfl) ?_
      refine eX_then ?_
      refine cW_cond_t (by kernel_rfl) ?_
      refine cW_seq ?_
      refine cW_region ?_
      refine wS_pure 1 [(2, .bool (false))] (by kernel_rfl) ?_
      refine wS_end (by rfl) ?_
      refine eX_then ?_
      refine cW_ret ?_
      refine eX_then_ret ?_
      have hq : (some false : Option ((Bool))) = some _ := hm
      replace hq := someE hq
      subst hq
      refine eX_ret (vs := [.bool (false)]) [.tmp 2] (by rfl) ⟨by (show lkE _ _ _ = _); kernel_rfl, trivial⟩ ?_
      exact ⟨rfl, hB⟩
    · have hm := condF hb39 hm
      rewrite [hb39]
      refine wS_pure 4 [(34, .bool (!(y34.2 == y18.2))), (33, .bool (!(y34.2 == y18.2))), (32, .bool (y18.2)), (31, .bool (y34.2))] (by kernel_rfl) ?_
      refine wS_end (by rfl) ?_
      refine eX_then ?_
      refine cW_cond (t := !(y34.2 == y18.2)) (by kernel_rfl) (fun hb40 => ?_) (fun hb40 => ?_)
      · have hm := condT hb40 hm
        refine cW_seq ?_
        refine cW_region ?_
        refine wS_pure 1 [(2, .bool (false))] (by kernel_rfl) ?_
        refine wS_end (by rfl) ?_
        refine eX_then ?_
        refine cW_ret ?_
        refine eX_then_ret ?_
        have hq : (some false : Option ((Bool))) = some _ := hm
        replace hq := someE hq
        subst hq
        refine eX_ret (vs := [.bool (false)]) [.tmp 2] (by rfl) ⟨by (show lkE _ _ _ = _); kernel_rfl, trivial⟩ ?_
        exact ⟨rfl, hB⟩
      · have hm := condF hb40 hm
        refine cW_skip ?_
        refine eX_then ?_
        refine cW_seq ?_
        refine cW_seq ?_
        refine cW_region ?_
        refine wS_pure 2 [(36, .slice A0 (l0).length cap0), (35, .slice A26 (y22).length cap27)] (by kernel_rfl) ?_
        obtain ⟨y41, hy42, hm⟩ := bindE hm
        refine wS_calls (d := 37) (f := 22) (vs := [.slice A0 (l0).length cap0]) (by kernel_rfl) ent22 (c_laws_toPointS hy42 F0) ?_
        rintro _ w43 ⟨A45, cap46, fp47, rfl, F48, G49, hc44⟩
        have D52 : Dj fp13 fp47 := Dj.of F14.low G49
        have D53 : Dj fp28 fp47 := Dj.of F29.low G49
        replace F0 := F0.chg hc44 Dj.nil
        replace F14 := F14.chg hc44 Dj.nil
        replace F29 := F29.chg hc44 Dj.nil
        replace hB := hB.inS hc44 inNil
        replace G49 := low_le hZ G49
        replace hZ := Nat.le_trans hZ hc44.size
        refine ⟨.slice A45 (y41).length cap46, rfl, ?_⟩
        obtain ⟨y54, hy55, hm⟩ := bindE hm
        refine wS_calls (d := 38) (f := 24) (vs := [.slice A26 (y22).length cap27, .slice A45 (y41).length cap46]) (by kernel_rfl) ent24 (c_laws_eqPointS hy55 (F29.sl encII_ok) (F48.sl encII_ok)) ?_
        rintro _ w56 ⟨rfl, hc57⟩
        replace F0 := F0.chg hc57 Dj.nil
        replace F14 := F14.chg hc57 Dj.nil
        replace F29 := F29.chg hc57 Dj.nil
        replace F48 := F48.chg hc57 Dj.nil
        replace hB := hB.inS hc57 inNil
        replace hZ := Nat.le_trans hZ hc57.size
        refine ⟨.bool (y54), rfl, ?_⟩
        refine wS_pure 1 [(39, .bool (!y54))] (by kernel_rfl) ?_
        refine wS_end (by rfl) ?_
        refine eX_then ?_
        refine cW_cond (t := !y54) (by kernel_rfl) (fun hb58 => ?_) (fun hb58 => ?_)
        · have hm := condT hb58 hm
          refine cW_seq ?_
          refine cW_region ?_
          refine wS_pure 1 [(2, .bool (false))] (by kernel_rfl) ?_
          refine wS_end (by rfl) ?_
          refine eX_then ?_
          refine cW_ret ?_
          refine eX_then_ret ?_
          have hq : (some false : Option ((Bool))) = some _ := hm
          replace hq := someE hq
          subst hq
          refine eX_ret (vs := [.bool (false)]) [.tmp 2] (by rfl) ⟨by (show lkE _ _ _ = _); kernel_rfl, trivial⟩ ?_
          exact ⟨rfl, hB⟩
        · have hm := condF hb58 hm
          refine cW_skip ?_
          refine eX_then ?_
          refine cW_seq ?_
          refine cW_region ?_
          refine wS_pure 1 [(2, .bool (true))] (by kernel_rfl) ?_
          refine wS_end (by rfl) ?_
          refine eX_then ?_
          refine cW_ret ?_
          have hq : (some true : Option ((Bool))) = some _ := hm
          replace hq := someE hq
          subst hq
          refine eX_ret (vs := [.bool (true)]) [.tmp 2] (by rfl) ⟨by (show lkE _ _ _ = _); kernel_rfl, trivial⟩ ?_
          exact ⟨rfl, hB⟩

set_option maxRecDepth 100000 in
/-- spec.l05Few -/
theorem c_spec_l05Few {w0 : World} {l0 : List (Int × Int)} {A0 : Option Addr} {cap0 : Nat} {fp0 : List Nat} {r : (Bool)} (hm : m_spec_l05Few l0 = some r) (F0 : Sl 2 encII w0 fp0 A0 l0) (K0 : (l0).length ≤ cap0) :
    Calls Try.prog 86 #[.slice A0 (l0).length cap0] w0 fun e w' => e = .returned (.bool (r)) ∧ Chg [] w0 w' := by
  have L0 := F0.low
  have hB : Chg [] w0 w0 := Chg.refl _ _
  have hZ := Nat.le_refl w0.heap.size
  unfold m_spec_l05Few at hm
  refine enterE (N := 10) Try.func86 (by rfl) Try.ntmps86 (by simp) [(0, .slice A0 (l0).length cap0)] (by rfl) (by kernel_rfl) (fun a => ?_)
  refine cW_seq ?_
  refine cW_region ?_
  refine wS_pure 1 [(2, .bool (false))] (by kernel_rfl) ?_
  refine wS_end (by rfl) ?_
  refine eX_then ?_
  refine cW_seq ?_
  refine cW_region ?_
  refine wS_pure 1 [(3, .slice A0 (l0).length cap0)] (by kernel_rfl) ?_
  obtain ⟨y2, hy3, hm⟩ := bindE hm
  refine wS_calls (d := 4) (f := 75) (vs := [.slice A0 (l0).length cap0]) (by kernel_rfl) ent75 (c_spec_l05Is hy3 F0 K0) ?_
  rintro _ w4 ⟨rfl, hc5⟩
  replace F0 := F0.chg hc5 Dj.nil
  replace hB := hB.inS hc5 inNil
  replace hZ := Nat.le_trans hZ hc5.size
  refine ⟨.bool (y2), rfl, ?_⟩
  refine wS_pure 1 [(5, .bool (y2))] (by kernel_rfl) ?_
  refine wS_bool y2 (fun hb6 => ?_) (fun hb6 => ?_)
  · have hm := condT hb6 hm
    rewrite [hb6]
    refine wS_pure 5 [(2, .bool (decide ((((l0).length : Int)) ≤ 7))), (9, .bool (decide ((((l0).length : Int)) ≤ 7))), (8, .bool (decide ((((l0).length : Int)) ≤ 7))), (7, .int .i64 (((l0).length : Int))), (6, .slice A0 (l0).length cap0)] (by kernel_rfl) ?_
    refine wS_end (by rfl) ?_
    refine eX_then ?_
    refine cW_ret ?_
    have hq : (some (decide ((((l0).length : Int)) ≤ 7)) : Option ((Bool))) = some _ := hm
    replace hq := someE hq
    subst hq
    refine eX_ret (vs := [.bool (decide ((((l0).length : Int)) ≤ 7))]) [.tmp 2] (by rfl) ⟨by (show lkE _ _ _ = _); kernel_rfl, trivial⟩ ?_
    exact ⟨rfl, hB⟩
  · have hm := condF hb6 hm
    rewrite [hb6]
    refine wS_pure 5 [(2, .bool (false)), (9, .bool (false)), (8, undef), (7, undef), (6, undef)] (by kernel_rfl) ?_
    refine wS_end (by rfl) ?_
    refine eX_then ?_
    refine cW_ret ?_
    have hq : (some false : Option ((Bool))) = some _ := hm
    replace hq := someE hq
    subst hq
    refine eX_ret (vs := [.bool (false)]) [.tmp 2] (by rfl) ⟨by (show lkE _ _ _ = _); kernel_rfl, trivial⟩ ?_
    exact ⟨rfl, hB⟩

set_option maxRecDepth 100000 in
/-- spec.l01Before -/
theorem c_spec_l01Before {w0 : World} {p0_0 : Int} {p0_1 : Int} {p1_0 : Int} {p1_1 : Int} {r : (Bool)} (hm : m_spec_l01Before p0_0 p0_1 p1_0 p1_1 = some r)  :
    Calls Try.prog 148 #[.agg #[.int .i64 (p0_0), .int .i64 (p0_1)], .agg #[.int .i64 (p1_0), .int .i64 (p1_1)]] w0 fun e w' => e = .returned (.bool (r)) ∧ Chg [] w0 w' := by
  have hB : Chg [] w0 w0 := Chg.refl _ _
  have hZ := Nat.le_refl w0.heap.size
  unfold m_spec_l01Before at hm
  refine enterE (N := 24) Try.func148 (by rfl) Try.ntmps148 (by simp) [(0, .agg #[.int .i64 (p0_0), .int .i64 (p0_1)]), (1, .agg #[.int .i64 (p1_0), .int .i64 (p1_1)])] (by rfl) (by kernel_rfl) (fun a => ?_)
  refine cW_seq ?_
  refine cW_region ?_
  refine wS_box (d := 2) (T := 34) (x := .agg #[.int .i64 (p0_0), .int .i64 (p0_1)]) (by kernel_rfl) ?_
  intro b1 w2 G3 F4 hc5
  replace F4 : Cl w2 b1 34 [.int .i64 (p0_0), .int .i64 (p0_1)] := F4
  replace hB := hB.inS hc5 inNil
  replace G3 := Nat.le_trans hZ G3
  replace hZ := Nat.le_trans hZ hc5.size
  refine wS_box (d := 3) (T := 34) (x := .agg #[.int .i64 (p1_0), .int .i64 (p1_1)]) (by kernel_rfl) ?_
  intro b7 w8 G9 F10 hc11
  replace F10 : Cl w8 b7 34 [.int .i64 (p1_0), .int .i64 (p1_1)] := F10
  have D13 : Dj [b1] [b7] := Dj.of (lt1 F4.lt) (low1 G9)
  replace F4 := F4.chg hc11 notNil
  replace hB := hB.inS hc11 inNil
  replace G9 := Nat.le_trans hZ G9
  replace hZ := Nat.le_trans hZ hc11.size
  refine wS_pure 1 [(4, .bool (false))] (by kernel_rfl) ?_
  refine wS_end (by rfl) ?_
  refine eX_then ?_
  refine cW_seq ?_
  refine cW_region ?_
  refine wS_pure 1 [(5, .pointer (some ⟨b1, 0, none⟩))] (by kernel_rfl) ?_
  refine wS_load1 (d := 6) (T := 2) (ad := ⟨b1, 0, none⟩) (v := .int .i64 (p0_0)) (by kernel_rfl) vt2 ((F4).cell 0) ?_
  refine wS_pure 1 [(7, .pointer (some ⟨b7, 0, none⟩))] (by kernel_rfl) ?_
  refine wS_load1 (d := 8) (T := 2) (ad := ⟨b7, 0, none⟩) (v := .int .i64 (p1_0)) (by kernel_rfl) vt2 ((F10).cell 0) ?_
  refine wS_pure 2 [(10, .bool (decide (p0_0 < p1_0))), (9, .bool (decide (p0_0 < p1_0)))] (by kernel_rfl) ?_
  refine wS_bool (decide (p0_0 < p1_0)) (fun hb14 => ?_) (fun hb14 => ?_)
  · have hm := condT hb14 hm
    rewrite [hb14]
    refine wS_pure 14 [(4, .bool (true)), (23, .bool (true)), (22, undef), (21, undef), (20, undef), (19, undef), (18, undef), (17, undef), (16, undef), (15, undef), (14, undef), (13, undef), (12, undef), (11, undef)] (by kernel_rfl) ?_
    refine wS_end (by rfl) ?_
    refine eX_then ?_
    refine cW_prune [(4, .bool (true))] (by kernel_rfl) (by kernel_rfl) (fun a15 => ?_)
    refine cW_ret ?_
    have hq : (some true : Option ((Bool))) = some _ := hm
    replace hq := someE hq
    subst hq
    refine eX_ret (vs := [.bool (true)]) [.tmp 4] (by rfl) ⟨by (show lkE _ _ _ = _); kernel_rfl, trivial⟩ ?_
    exact ⟨rfl, hB⟩
  · have hm := condF hb14 hm
    rewrite [hb14]
    refine wS_pure 1 [(11, .pointer (some ⟨b1, 0, none⟩))] (by kernel_rfl) ?_
    refine wS_load1 (d := 12) (T := 2) (ad := ⟨b1, 0, none⟩) (v := .int .i64 (p0_0)) (by kernel_rfl) vt2 ((F4).cell 0) ?_
    refine wS_pure 1 [(13, .pointer (some ⟨b7, 0, none⟩))] (by kernel_rfl) ?_
    refine wS_load1 (d := 14) (T := 2) (ad := ⟨b7, 0, none⟩) (v := .int .i64 (p1_0)) (by kernel_rfl) vt2 ((F10).cell 0) ?_
    refine wS_pure 2 [(16, .bool (p0_0 == p1_0)), (15, .bool (p0_0 == p1_0))] (by kernel_rfl) ?_
    refine wS_bool (p0_0 == p1_0) (fun hb16 => ?_) (fun hb16 => ?_)
    · have hm := condT hb16 hm
      rewrite [hb16]
      refine wS_pure 1 [(17, .pointer (some ⟨b1, 1, none⟩))] (by kernel_rfl) ?_
      refine wS_load1 (d := 18) (T := 2) (ad := ⟨b1, 1, none⟩) (v := .int .i64 (p0_1)) (by kernel_rfl) vt2 ((F4).cell 1) ?_
      refine wS_pure 1 [(19, .pointer (some ⟨b7, 1, none⟩))] (by kernel_rfl) ?_
      refine wS_load1 (d := 20) (T := 2) (ad := ⟨b7, 1, none⟩) (v := .int .i64 (p1_1)) (by kernel_rfl) vt2 ((F10).cell 1) ?_
      refine wS_pure 4 [(4, .bool (decide (p0_1 < p1_1))), (23, .bool (decide (p0_1 < p1_1))), (22, .bool (decide (p0_1 < p1_1))), (21, .bool (decide (p0_1 < p1_1)))] (by kernel_rfl) ?_
      refine wS_end (by rfl) ?_
      refine eX_then ?_
      refine cW_prune [(4, .bool (decide (p0_1 < p1_1)))] (by kernel_rfl) (by kernel_rfl) (fun a17 => ?_)
      refine cW_ret ?_
      have hq : (some (decide (p0_1 < p1_1)) : Option ((Bool))) = some _ := hm
      replace hq := someE hq
      subst hq
      refine eX_ret (vs := [.bool (decide (p0_1 < p1_1))]) [.tmp 4] (by rfl) ⟨by (show lkE _ _ _ = _); kernel_rfl, trivial⟩ ?_
      exact ⟨rfl, hB⟩
    · have hm := condF hb16 hm
      rewrite [hb16]
      refine wS_pure 8 [(4, .bool (false)), (23, .bool (false)), (22, .bool (false)), (21, undef), (20, undef), (19, undef), (18, undef), (17, undef)] (by kernel_rfl) ?_
      refine wS_end (by rfl) ?_
      refine eX_then ?_
      refine cW_prune [(4, .bool (false))] (by kernel_rfl) (by kernel_rfl) (fun a18 => ?_)
      refine cW_ret ?_
      have hq : (some false : Option ((Bool))) = some _ := hm
      replace hq := someE hq
      subst hq
      refine eX_ret (vs := [.bool (false)]) [.tmp 4] (by rfl) ⟨by (show lkE _ _ _ = _); kernel_rfl, trivial⟩ ?_
      exact ⟨rfl, hB⟩

set_option maxRecDepth 100000 in
/-- spec.l01Sorted -/
theorem c_spec_l01Sorted {w0 : World} {l0 : List (Int × Int)} {A0 : Option Addr} {cap0 : Nat} {fp0 : List Nat} {r : (List (Int × Int))} (hm : m_spec_l01Sorted l0 = some r) (F0 : Sl 2 encII w0 fp0 A0 l0) :
    Calls Try.prog 127 #[.slice A0 (l0).length cap0] w0 fun e w' => ∃ A100 cap100 fp100, e = .returned (.slice A100 (r).length cap100) ∧ Ow 2 encII 34 w' fp100 A100 cap100 r ∧ (∀ x ∈ fp100, w0.heap.size ≤ x) ∧ Chg [] w0 w' := by
  have L0 := F0.low
  have hB : Chg [] w0 w0 := Chg.refl _ _
  have hZ := Nat.le_refl w0.heap.size
  unfold m_spec_l01Sorted at hm
  refine enterE (N := 55) Try.func127 (by rfl) Try.ntmps127 (by simp) [(0, .slice A0 (l0).length cap0)] (by rfl) (by kernel_rfl) (fun a => ?_)
  refine cW_seq ?_
  refine cW_region ?_
  refine wS_pure 1 [(2, .slice none 0 0)] (by kernel_rfl) ?_
  refine wS_end (by rfl) ?_
  refine eX_then ?_
  refine cW_seq ?_
  refine cW_region ?_
  refine wS_bs0 (α := Int × Int) (enc := encII) (d := 7) (t := 25) (T := 34) (by kernel_rfl) el25 ?_
  intro b2 w3 G4 F5 hc6
  replace F0 := F0.chg hc6 Dj.nil
  replace hB := hB.inS hc6 inNil
  replace G4 := Nat.le_trans hZ G4
  replace G4 := low1 G4
  replace hZ := Nat.le_trans hZ hc6.size
  refine wS_pure 1 [(3, .slice (some ⟨b2, 0, none⟩) (([] : List (Int × Int))).length 0)] (by kernel_rfl) ?_
  refine wS_end (by rfl) ?_
  refine eX_then ?_
  refine cW_seq ?_
  refine cW_seq ?_
  refine cW_region ?_
  refine wS_pure 1 [(4, .int .i64 (0))] (by kernel_rfl) ?_
  refine wS_end (by rfl) ?_
  refine eX_then ?_
  obtain ⟨r513, hr514, hm⟩ := bindE hm
  have hm515 := hm
  refine cW_cut (fun a' w' => ∃ l494 : List (Int × Int), ∃ A495 : Option Addr, ∃ cap496 : Nat, ∃ fp497 : List Nat, l494 = r513 ∧ Fr 55 [(3, .slice A495 (l494).length cap496)] a' ∧ Ow 2 encII 34 w' fp497 A495 cap496 l494 ∧ (∀ x ∈ fp497, w0.heap.size ≤ x) ∧ Chg [] w0 w' ∧ w0.heap.size ≤ w'.heap.size) ?_ ?_
  · refine cW_block ?_
    refine cW_loop _ (fun (s516 : (List (Int × Int)) × Int) a' w' => ∃ l503 : List (Int × Int), ∃ A504 : Option Addr, ∃ cap505 : Nat, ∃ fp506 : List Nat, ∃ x508 : Int, (l503, x508) = s516 ∧ Fr 55 [(0, .slice A0 (l0).length cap0), (3, .slice A504 (l503).length cap505), (4, .int .i64 (x508))] a' ∧ Sl 2 encII w' fp0 A0 l0 ∧ Ow 2 encII 34 w' fp506 A504 cap505 l503 ∧ (∀ x ∈ fp506, w0.heap.size ≤ x) ∧ Chg [] w0 w' ∧ w0.heap.size ≤ w'.heap.size) hr514 (fun hst => ⟨([] : List (Int × Int)), (some ⟨b2, 0, none⟩), 0, [b2], 0, rfl, Fr.of hst (by kernel_rfl), F0, F5, G4, hB, hZ⟩) ?_
    rintro _ c517 a' w502 ⟨l503, A504, cap505, fp506, x508, rfl, hF509, F510, F511, G512, hB, hZ⟩ hx518
    refine Fr.goOn hF509 (by kernel_rfl) ?_
    have hm := hx518
    unfold m_spec_l01Sorted_s3 at hm
    refine cW_seq ?_
    refine cW_seq ?_
    refine cW_region ?_
    refine wS_pure 4 [(11, .bool (decide (x508 < (((l0).length : Int))))), (10, .int .i64 (((l0).length : Int))), (9, .slice A0 (l0).length cap0), (8, .int .i64 (x508))] (by kernel_rfl) ?_
    refine wS_end (by rfl) ?_
    refine eX_then ?_
    refine cW_cond (t := decide (x508 < (((l0).length : Int)))) (by kernel_rfl) (fun hb519 => ?_) (fun hb519 => ?_)
    · have hm := condT hb519 hm
      refine cW_skip ?_
      refine eX_then ?_
      refine cW_seq ?_
      refine cW_block ?_
      refine cW_seq ?_
      refine cW_seq ?_
      refine cW_region ?_
      refine wS_pure 3 [(16, .int .i64 (x508)), (15, .slice A0 (l0).length cap0), (14, .slice A504 (l503).length cap505)] (by kernel_rfl) ?_
      obtain ⟨x520, hx521, hm⟩ := bindE hm
      refine wS_idx (d := 17) (T := 25) (A := A0) (n := (l0).length) (cap := cap0) (kd := .i64) (m := x508) (by kernel_rfl) sl25 (F510.is hx521) ?_
      refine wS_loadA (d := 18) (T := 34) (ad := (elA A0 2 (x508) 0)) (vs := [.int .i64 (x520.1), .int .i64 (x520.2)]) (by kernel_rfl) vt34 (fun i u hu => Sl.cells_at F510 hx521 0 hu (by rfl)) ?_
      obtain ⟨y522, hy523, hm⟩ := bindE hm
      refine wS_calls (d := 19) (f := 95) (vs := [.slice A504 (l503).length cap505, .agg #[.int .i64 (x520.1), .int .i64 (x520.2)]]) (by kernel_rfl) ent95 (c_spec_l01Index hy523 (F511.sl encII_ok)) ?_
      rintro _ w524 ⟨rfl, hc525⟩
      replace F510 := F510.chg hc525 Dj.nil
      replace F511 := F511.chg hc525 Dj.nil
      replace hB := hB.inS hc525 inNil
      replace hZ := Nat.le_trans hZ hc525.size
      refine ⟨.int .i64 (y522), rfl, ?_⟩
      refine wS_pure 1 [(20, .bool (decide (y522 ≥ 0)))] (by kernel_rfl) ?_
      refine wS_end (by rfl) ?_
      refine eX_then ?_
      refine cW_cond (t := decide (y522 ≥ 0)) (by kernel_rfl) (fun hb526 => ?_) (fun hb526 => ?_)
      · have hm := condT hb526 hm
        refine cW_exit ?_
        refine eX_then_exit ?_
        refine eX_block_hit ?_
        refine eX_then ?_
        refine cW_region ?_
        refine wS_pure 3 [(4, .int .i64 (wr (x508 + 1))), (13, .int .i64 (wr (x508 + 1))), (12, .int .i64 (x508))] (by kernel_rfl) ?_
        refine wS_end (by rfl) ?_
        have hq : (some (Ctl.next ((l503, wr (x508 + 1)))) : Option (Ctl ((List (Int × Int)) × Int) ((List (Int × Int))))) = some _ := hm
        replace hq := someE hq
        subst hq
        exact eX_next hx518 (fun hst => ⟨l503, A504, cap505, fp506, wr (x508 + 1), rfl, Fr.of hst (by kernel_rfl), F510, F511, G512, hB, hZ⟩)
      · have hm := condF hb526 hm
        refine cW_skip ?_
        refine eX_then ?_
        refine cW_seq ?_
        refine cW_region ?_
        refine wS_pure 1 [(5, .int .i64 (0))] (by kernel_rfl) ?_
        refine wS_end (by rfl) ?_
        refine eX_then ?_
        refine cW_seq ?_
        obtain ⟨r598, hr599, hm⟩ := bindE hm
        have hm600 := hm
        refine cW_cut (fun a' w' => ∃ x589 : Int, x589 = r598 ∧ Fr 55 [(0, .slice A0 (l0).length cap0), (3, .slice A504 (l503).length cap505), (4, .int .i64 (x508)), (5, .int .i64 (x589))] a' ∧ Sl 2 encII w' fp0 A0 l0 ∧ Ow 2 encII 34 w' fp506 A504 cap505 l503 ∧ Chg [] w0 w' ∧ w0.heap.size ≤ w'.heap.size) ?_ ?_
        · refine cW_block ?_
          refine cW_loop _ (fun (s601 : Int) a' w' => ∃ x594 : Int, x594 = s601 ∧ Fr 55 [(0, .slice A0 (l0).length cap0), (3, .slice A504 (l503).length cap505), (4, .int .i64 (x508)), (5, .int .i64 (x594))] a' ∧ Sl 2 encII w' fp0 A0 l0 ∧ Ow 2 encII 34 w' fp506 A504 cap505 l503 ∧ Chg [] w0 w' ∧ w0.heap.size ≤ w'.heap.size) hr599 (fun hst => ⟨0, rfl, Fr.of hst (by kernel_rfl), F510, F511, hB, hZ⟩) ?_
          rintro _ c602 a' w593 ⟨x594, rfl, hF595, F596, F597, hB, hZ⟩ hx603
          refine Fr.goOn hF595 (by kernel_rfl) ?_
          have hm := hx603
          unfold m_spec_l01Sorted_s4 at hm
          refine cW_seq ?_
          refine cW_seq ?_
          refine cW_drawnTail [] 13 (by kernel_rfl) (by kernel_rfl) (fun w617 hc618 => ?_)
          replace F596 := F596.chg hc618 Dj.nil
          replace F597 := F597.chg hc618 Dj.nil
          replace hB := hB.inS hc618 inNil
          replace hZ := Nat.le_trans hZ hc618.size
          have hS := Chg.refl [] w617
          have Z619 := F596
          have Z620 := F597
          refine wH_take [0, 1, 2, 3, 4] [4, 3, 2, 1, 0] [(25, .bool (decide (x594 < (((l503).length : Int))))), (24, .bool (decide (x594 < (((l503).length : Int))))), (23, .int .i64 (((l503).length : Int))), (22, .slice A504 (l503).length cap505), (21, .int .i64 (x594))] (by kernel_rfl) (qT (qT (qT (qL (qB (qT (qT (qB (qT (qL (qB (qT (qT qZ))))))))))))) (by kernel_rfl) ?_
          refine wH_bool (decide (x594 < (((l503).length : Int)))) (fun hb621 => ?_) (fun hb621 => ?_)
          · have hm := condT hb621 hm
            rewrite [hb621]
            refine wH_take [5, 6] [6, 5, 4, 3, 2, 1, 0] [(27, .int .i64 (x594)), (26, .slice A504 (l503).length cap505)] (by kernel_rfl) (qT (qT (qT (qL (qB (qT (qT (qB (qT (qL (qB (qT (qT qZ))))))))))))) (by kernel_rfl) ?_
            obtain ⟨x622, hx623, hm⟩ := bindE hm
            refine wH_idx (i := 7) (d := 28) (T := 25) (A := A504) (n := (l503).length) (cap := cap505) (kd := .i64) (m := x594) (by kernel_rfl) (qT (qT (qT (qL (qB (qT (qT (qB (qT (qL (qB (qT (qT qZ))))))))))))) (by kernel_rfl) (by kernel_rfl) sl25 ((F597.sl encII_ok).is hx623) ?_
            refine wH_loadA (i := 8) (d := 29) (T := 34) (ad := (elA A504 2 (x594) 0)) (vs := [.int .i64 (x622.1), .int .i64 (x622.2)]) (by kernel_rfl) (qT (qT (qT (qL (qB (qT (qT (qB (qT (qL (qB (qT (qT qZ))))))))))))) (by kernel_rfl) (by kernel_rfl) vt34 (fun W hW i u hu => Sl.cells_at ((Z620.chg hW Dj.nil).sl encII_ok) hx623 0 hu (by rfl)) ?_
            refine wH_take [9, 10] [10, 9, 8, 7, 6, 5, 4, 3, 2, 1, 0] [(31, .int .i64 (x508)), (30, .slice A0 (l0).length cap0)] (by kernel_rfl) (qT (qT (qT (qL (qB (qT (qT (qB (qT (qL (qB (qT (qT qZ))))))))))))) (by kernel_rfl) ?_
            obtain ⟨x624, hx625, hm⟩ := bindE hm
            refine wH_idx (i := 11) (d := 32) (T := 25) (A := A0) (n := (l0).length) (cap := cap0) (kd := .i64) (m := x508) (by kernel_rfl) (qT (qT (qT (qL (qB (qT (qT (qB (qT (qL (qB (qT (qT qZ))))))))))))) (by kernel_rfl) (by kernel_rfl) sl25 (F596.is hx625) ?_
            refine wH_loadA (i := 12) (d := 33) (T := 34) (ad := (elA A0 2 (x508) 0)) (vs := [.int .i64 (x624.1), .int .i64 (x624.2)]) (by kernel_rfl) (qT (qT (qT (qL (qB (qT (qT (qB (qT (qL (qB (qT (qT qZ))))))))))))) (by kernel_rfl) (by kernel_rfl) vt34 (fun W hW i u hu => Sl.cells_at (Z619.chg hW Dj.nil) hx625 0 hu (by rfl)) ?_
            refine wH_done (by kernel_rfl) ?_
            refine eX_tail ?_
            obtain ⟨y626, hy627, hm⟩ := bindE hm
            refine wS_calls (d := 34) (f := 148) (vs := [.agg #[.int .i64 (x622.1), .int .i64 (x622.2)], .agg #[.int .i64 (x624.1), .int .i64 (x624.2)]]) (by kernel_rfl) ent148 (c_spec_l01Before hy627) ?_
            rintro _ w628 ⟨rfl, hc629⟩
            replace F596 := F596.chg hc629 Dj.nil
            replace F597 := F597.chg hc629 Dj.nil
            replace hB := hB.inS hc629 inNil
            replace hZ := Nat.le_trans hZ hc629.size
            refine ⟨.bool (y626), rfl, ?_⟩
            refine wS_pure 1 [(35, .bool (y626))] (by kernel_rfl) ?_
            refine wS_end (by rfl) ?_
            refine eX_then ?_
            refine cW_cond (t := y626) (by kernel_rfl) (fun hb630 => ?_) (fun hb630 => ?_)
            · have hm := condT hb630 hm
              refine cW_skip ?_
              refine eX_then ?_
              refine cW_block ?_
              refine cW_region ?_
              refine wS_pure 3 [(5, .int .i64 (wr (x594 + 1))), (37, .int .i64 (wr (x594 + 1))), (36, .int .i64 (x594))] (by kernel_rfl) ?_
              refine wS_end (by rfl) ?_
              refine eX_block ?_
              have hq : (some (Ctl.next (wr (x594 + 1))) : Option (Ctl (Int) (Int))) = some _ := hm
              replace hq := someE hq
              subst hq
              exact eX_next hx603 (fun hst => ⟨wr (x594 + 1), rfl, Fr.of hst (by kernel_rfl), F596, F597, hB, hZ⟩)
            · have hm := condF hb630 hm
              refine cW_exit ?_
              refine eX_then_exit ?_
              have hq : (some (Ctl.out x594) : Option (Ctl (Int) (Int))) = some _ := hm
              replace hq := someE hq
              subst hq
              refine eX_outX hx603 (fun hr631 => ?_)
              replace hr631 := hr631.symm
              subst hr631
              refine eX_block_hit ?_
              exact eX_J (fun hst => ⟨x594, rfl, Fr.of hst (by kernel_rfl), F596, F597, hB, hZ⟩)
          · have hm := condF hb621 hm
            rewrite [hb621]
            refine wH_take [5, 6, 7, 8, 9, 10, 11, 12] [12, 11, 10, 9, 8, 7, 6, 5, 4, 3, 2, 1, 0] [(33, undef), (32, undef), (31, undef), (30, undef), (29, undef), (28, undef), (27, undef), (26, undef)] (by kernel_rfl) (qT (qT (qT (qL (qB (qT (qT (qB (qT (qL (qB (qT (qT qZ))))))))))))) (by kernel_rfl) ?_
            refine wH_done (by kernel_rfl) ?_
            refine eX_tail ?_
            refine wS_pure 2 [(35, .bool (false)), (34, undef)] (by kernel_rfl) ?_
            refine wS_end (by rfl) ?_
            refine eX_then ?_
            refine cW_cond_f (by kernel_rfl) ?_
            refine cW_exit ?_
            refine eX_then_exit ?_
            have hq : (some (Ctl.out x594) : Option (Ctl (Int) (Int))) = some _ := hm
            replace hq := someE hq
            subst hq
            refine eX_outX hx603 (fun hr632 => ?_)
            replace hr632 := hr632.symm
            subst hr632
            refine eX_block_hit ?_
            exact eX_J (fun hst => ⟨x594, rfl, Fr.of hst (by kernel_rfl), F596, F597, hB, hZ⟩)
        · rintro a' w588 ⟨x589, hJ, hF590, F591, F592, hB, hZ⟩
          subst hJ
          refine Fr.goX hF590 (by kernel_rfl) ?_
          refine eX_then ?_
          refine cW_seq ?_
          refine cW_region ?_
          refine wS_bs0 (α := Int × Int) (enc := encII) (d := 38) (t := 25) (T := 34) (by kernel_rfl) el25 ?_
          intro b633 w634 G635 F636 hc637
          have D639 : Dj fp506 [b633] := Dj.of F592.low (low1 G635)
          replace F591 := F591.chg hc637 Dj.nil
          replace F592 := F592.chg hc637 Dj.nil
          replace hB := hB.inS hc637 inNil
          replace G635 := Nat.le_trans hZ G635
          replace G635 := low1 G635
          replace hZ := Nat.le_trans hZ hc637.size
          refine wS_pure 2 [(40, .int .i64 (x589)), (39, .slice A504 (l503).length cap505)] (by kernel_rfl) ?_
          obtain ⟨y640, hy641, hm⟩ := bindE hm
          refine wS_cutA (enc := encII) (l := l503) (d := 41) (T := 25) (A := A504) (cap := cap505) (vlo := some (.int .i64 (x589))) (vhi := none) (lo := x589) (hi := ((l503).length : Int)) (n := 0) (by kernel_rfl) sl25 (Or.inl rfl) (Or.inr ⟨rfl, rfl⟩) (F592.sl encII_ok) F592.cap_le hy641 ?_
          intro A642 cap643 hA646 F644 hcap645
          obtain rfl := slci_slc hy641
          have hlv648 := Eq.refl (l503).length
          have hcz649 := F592.cap_le
          obtain ⟨_, hk650, hm⟩ := bindE hm
          replace hk650 := apE hk650
          refine wS_appendAny (enc := encII) (l := (([] : List (Int × Int)) : List (Int × Int))) (l2 := (slc l503 x589 (((l503).length : Int)) : List (Int × Int))) (d := 42) (t := 25) (T := 34) (A := (some ⟨b633, 0, none⟩)) (A2 := A642) (cap := 0) (cap2 := cap643) (by kernel_rfl) el25 encII_ok F636 F644 hk650 ?_
          intro w651 fp652 A653 cap654 F655 hc656 hp657
          have G659 := low_ap G635 hZ hp657
          have D660 : Dj fp506 fp652 := Dj.ap D639 F592.low hp657
          have D661 : Dj fp506 fp652 := Dj.ap D639 F644.low hp657
          replace F591 := F591.chg hc656 (Dj.of L0 G635)
          replace F592 := F592.chg hc656 D639
          replace F644 := F644.chg hc656 D639
          replace hB := hB.inS hc656 (inLow G635)
          replace hZ := Nat.le_trans hZ hc656.size
          refine wS_pure 1 [(6, .slice A653 ((([] : List (Int × Int))) ++ (slc l503 x589 (((l503).length : Int)))).length cap654)] (by kernel_rfl) ?_
          refine wS_end (by rfl) ?_
          refine eX_then ?_
          refine cW_drawnTail fp506 10 (by kernel_rfl) (by kernel_rfl) (fun w708 hc709 => ?_)
          replace F591 := F591.chg hc709 Dj.nil
          replace F592 := F592.chg hc709 Dj.nil
          replace F644 := F644.chg hc709 Dj.nil
          replace F655 := F655.chg hc709 Dj.nil
          replace hB := hB.inS hc709 inNil
          replace hZ := Nat.le_trans hZ hc709.size
          have hS := Chg.refl fp506 w708
          have Z710 := F591
          have Z711 := F592
          have Z712 := F644
          have Z713 := F655
          refine wH_take [0, 1] [1, 0] [(44, .int .i64 (x589)), (43, .slice A504 (l503).length cap505)] (by kernel_rfl) (qT (qB (qT (qL (qB (qT (qT qZ))))))) (by kernel_rfl) ?_
          obtain ⟨y714, hy715, hm⟩ := bindE hm
          refine wH_prefix (k := 2) (enc := encII) (l := l503) (i := 2) (d := 45) (T := 25) (A := A504) (cap := cap505) (hi := x589) (by kernel_rfl) (qT (qB (qT (qL (qB (qT (qT qZ))))))) (by kernel_rfl) (by kernel_rfl) sl25 encII_ok F592.cap_le hy715 ?_
          intro hpe hpf718
          subst hpe
          have F716 := hpf718 _ _ _ F592
          have Fz717 := hpf718 _ _ _ Z711
          refine wH_take [3, 4] [4, 3, 2, 1, 0] [(47, .int .i64 (x508)), (46, .slice A0 (l0).length cap0)] (by kernel_rfl) (qT (qB (qT (qL (qB (qT (qT qZ))))))) (by kernel_rfl) ?_
          obtain ⟨x719, hx720, hm⟩ := bindE hm
          refine wH_idx (i := 5) (d := 48) (T := 25) (A := A0) (n := (l0).length) (cap := cap0) (kd := .i64) (m := x508) (by kernel_rfl) (qT (qB (qT (qL (qB (qT (qT qZ))))))) (by kernel_rfl) (by kernel_rfl) sl25 (F591.is hx720) ?_
          refine wH_loadA (i := 6) (d := 49) (T := 34) (ad := (elA A0 2 (x508) 0)) (vs := [.int .i64 (x719.1), .int .i64 (x719.2)]) (by kernel_rfl) (qT (qB (qT (qL (qB (qT (qT qZ))))))) (by kernel_rfl) (by kernel_rfl) vt34 (fun W hW i u hu => Sl.cells_at (Z710.chg hW (Dj.of L0 G512)) hx720 0 hu (by rfl)) ?_
          refine wH_take [9] [9, 6, 5, 4, 3, 2, 1, 0] [(52, .slice A653 ((([] : List (Int × Int))) ++ (slc l503 x589 (((l503).length : Int)))).length cap654)] (by kernel_rfl) (qT (qB (qT (qL (qB (qT (qT qZ))))))) (by kernel_rfl) ?_
          refine wH_all [7] (by rfl) (by kernel_rfl) (by simp) ⟨⟨by kernel_rfl, ?_⟩, trivial⟩
          refine wS_bs (enc := encII) ([(x719.1, x719.2)] : List (Int × Int)) [.int .i64 (x719.1), .int .i64 (x719.2)] (d := 50) (t := 25) (T := 34) (n := 1) (ps := [(0, .agg #[.int .i64 (x719.1), .int .i64 (x719.2)])]) (by kernel_rfl) el25 encII_ok (by rfl) (by omega) (by omega) (by kernel_rfl) (by rfl) ?_
          intro b721 w722 G723 F724 hc725
          have D727 : Dj fp506 [b721] := Dj.of F716.low (low1 G723)
          have D728 : Dj fp652 [b721] := Dj.of F655.low (low1 G723)
          replace F591 := F591.chg hc725 Dj.nil
          replace F716 := F716.chg hc725 Dj.nil
          replace F655 := F655.chg hc725 Dj.nil
          replace hB := hB.inS hc725 inNil
          have hSz := hS
          replace hS := hS.inS hc725 inNil
          have Gz729 := low1 (Nat.le_trans hSz.size G723)
          replace G723 := Nat.le_trans hZ G723
          replace G723 := low1 G723
          replace hZ := Nat.le_trans hZ hc725.size
          refine wS_end (by kernel_rfl) ?_
          refine eX_KH hS ?_
          refine wH_all [8] (by rfl) (by kernel_rfl) (by simp) ⟨⟨by kernel_rfl, ?_⟩, trivial⟩
          obtain ⟨_, hk730, hm⟩ := bindE hm
          replace hk730 := apE hk730
          refine wS_append (enc := encII) (l := (l503.take (Int.toNat x589) : List (Int × Int))) (l2 := (([(x719.1, x719.2)] : List (Int × Int)) : List (Int × Int))) (d := 51) (t := 25) (T := 34) (A := A504) (A2 := (some ⟨b721, 0, none⟩)) (cap := cap505) (cap2 := 1) (by kernel_rfl) el25 encII_ok F716 (F724.sl encII_ok) (by rfl) hk730 ?_
          intro w731 fp732 A733 cap734 F735 hc736 hp737
          have G739 := low_ap G512 hZ hp737
          have D740 : Dj fp652 fp732 := Dj.ap (D660).symm F655.low hp737
          have D741 : Dj [b721] fp732 := Dj.ap (D727).symm F724.low hp737
          replace F591 := F591.chg hc736 (Dj.of L0 G512)
          replace F655 := F655.chg hc736 (D660).symm
          replace F724 := F724.chg hc736 (D727).symm
          replace hB := hB.inS hc736 (inLow G512)
          have hSz := hS
          replace hS := hS.trans hc736
          have Sn742 := sin_ap (inMem (fun x hx => hx)) hSz.size hp737
          replace hZ := Nat.le_trans hZ hc736.size
          refine wS_end (by kernel_rfl) ?_
          refine eX_KH hS ?_
          refine wH_done (by kernel_rfl) ?_
          refine eX_tail ?_
          obtain ⟨_, hk743, hm⟩ := bindE hm
          replace hk743 := apE hk743
          refine wS_appendAny (enc := encII) (l := ((l503.take (Int.toNat x589)) ++ (([(x719.1, x719.2)] : List (Int × Int))) : List (Int × Int))) (l2 := ((([] : List (Int × Int))) ++ (slc l503 x589 (((l503).length : Int))) : List (Int × Int))) (d := 53) (t := 25) (T := 34) (A := A733) (A2 := A653) (cap := cap734) (cap2 := cap654) (by kernel_rfl) el25 encII_ok F735 (F655.sl encII_ok) hk743 ?_
          intro w744 fp745 A746 cap747 F748 hc749 hp750
          have G752 := low_ap G739 hZ hp750
          have D753 : Dj fp652 fp745 := Dj.ap D740 F655.low hp750
          have D754 : Dj [b721] fp745 := Dj.ap D741 F724.low hp750
          replace F591 := F591.chg hc749 (Dj.of L0 G739)
          replace F655 := F655.chg hc749 D740
          replace F724 := F724.chg hc749 D741
          replace hB := hB.inS hc749 (inLow G739)
          replace hZ := Nat.le_trans hZ hc749.size
          refine wS_pure 1 [(3, .slice A746 (((l503.take (Int.toNat x589)) ++ (([(x719.1, x719.2)] : List (Int × Int)))) ++ ((([] : List (Int × Int))) ++ (slc l503 x589 (((l503).length : Int))))).length cap747)] (by kernel_rfl) ?_
          refine wS_end (by rfl) ?_
          refine eX_block ?_
          refine eX_then ?_
          refine cW_region ?_
          refine wS_pure 3 [(4, .int .i64 (wr (x508 + 1))), (13, .int .i64 (wr (x508 + 1))), (12, .int .i64 (x508))] (by kernel_rfl) ?_
          refine wS_end (by rfl) ?_
          have hq : (some (Ctl.next ((((l503.take (Int.toNat x589)) ++ (([(x719.1, x719.2)] : List (Int × Int)))) ++ ((([] : List (Int × Int))) ++ (slc l503 x589 (((l503).length : Int)))), wr (x508 + 1)))) : Option (Ctl ((List (Int × Int)) × Int) ((List (Int × Int))))) = some _ := hm
          replace hq := someE hq
          subst hq
          exact eX_next hx518 (fun hst => ⟨((l503.take (Int.toNat x589)) ++ (([(x719.1, x719.2)] : List (Int × Int)))) ++ ((([] : List (Int × Int))) ++ (slc l503 x589 (((l503).length : Int)))), A746, cap747, fp745, wr (x508 + 1), rfl, Fr.of hst (by kernel_rfl), F591, F748, G752, hB, hZ⟩)
    · have hm := condF hb519 hm
      refine cW_exit ?_
      refine eX_then_exit ?_
      have hq : (some (Ctl.out l503) : Option (Ctl ((List (Int × Int)) × Int) ((List (Int × Int))))) = some _ := hm
      replace hq := someE hq
      subst hq
      refine eX_outX hx518 (fun hr755 => ?_)
      replace hr755 := hr755.symm
      subst hr755
      refine eX_block_hit ?_
      exact eX_J (fun hst => ⟨l503, A504, cap505, fp506, rfl, Fr.of hst (by kernel_rfl), F511, G512, hB, hZ⟩)
  · rintro a' w493 ⟨l494, A495, cap496, fp497, hJ, hF499, F500, G501, hB, hZ⟩
    subst hJ
    refine Fr.goX hF499 (by kernel_rfl) ?_
    refine eX_then ?_
    refine cW_seq ?_
    refine cW_region ?_
    refine wS_pure 2 [(2, .slice A495 (l494).length cap496), (54, .slice A495 (l494).length cap496)] (by kernel_rfl) ?_
    refine wS_end (by rfl) ?_
    refine eX_then ?_
    refine cW_ret ?_
    have hq : (some l494 : Option ((List (Int × Int)))) = some _ := hm
    replace hq := someE hq
    subst hq
    refine eX_ret (vs := [.slice A495 (l494).length cap496]) [.tmp 2] (by rfl) ⟨by (show lkE _ _ _ = _); kernel_rfl, trivial⟩ ?_
    exact ⟨A495, cap496, fp497, rfl, F500, G501, hB⟩

set_option maxRecDepth 100000 in
/-- spec.l05Hanan -/
theorem c_spec_l05Hanan {w0 : World} {l0 : List (Int × Int)} {A0 : Option Addr} {cap0 : Nat} {fp0 : List Nat} {r : (List (Int × Int))} (hm : m_spec_l05Hanan l0 = some r) (F0 : Sl 2 encII w0 fp0 A0 l0) :
    Calls Try.prog 87 #[.slice A0 (l0).length cap0] w0 fun e w' => ∃ A100 cap100 fp100, e = .returned (.slice A100 (r).length cap100) ∧ Ow 2 encII 34 w' fp100 A100 cap100 r ∧ (∀ x ∈ fp100, w0.heap.size ≤ x) ∧ Chg [] w0 w' := by
  have L0 := F0.low
  have hB : Chg [] w0 w0 := Chg.refl _ _
  have hZ := Nat.le_refl w0.heap.size
  unfold m_spec_l05Hanan at hm
  refine enterE (N := 35) Try.func87 (by rfl) Try.ntmps87 (by simp) [(0, .slice A0 (l0).length cap0)] (by rfl) (by kernel_rfl) (fun a => ?_)
  refine cW_seq ?_
  refine cW_region ?_
  refine wS_pure 1 [(2, .slice none 0 0)] (by kernel_rfl) ?_
  refine wS_end (by rfl) ?_
  refine eX_then ?_
  refine cW_seq ?_
  refine cW_region ?_
  refine wS_bs0 (α := Int × Int) (enc := encII) (d := 6) (t := 25) (T := 34) (by kernel_rfl) el25 ?_
  intro b2 w3 G4 F5 hc6
  replace F0 := F0.chg hc6 Dj.nil
  replace hB := hB.inS hc6 inNil
  replace G4 := Nat.le_trans hZ G4
  replace G4 := low1 G4
  replace hZ := Nat.le_trans hZ hc6.size
  refine wS_pure 1 [(3, .slice (some ⟨b2, 0, none⟩) (([] : List (Int × Int))).length 0)] (by kernel_rfl) ?_
  refine wS_end (by rfl) ?_
  refine eX_then ?_
  refine cW_seq ?_
  refine cW_seq ?_
  refine cW_region ?_
  refine wS_pure 1 [(4, .int .i64 (0))] (by kernel_rfl) ?_
  refine wS_end (by rfl) ?_
  refine eX_then ?_
  obtain ⟨r455, hr456, hm⟩ := bindE hm
  have hm457 := hm
  refine cW_cut (fun a' w' => ∃ l436 : List (Int × Int), ∃ A437 : Option Addr, ∃ cap438 : Nat, ∃ fp439 : List Nat, l436 = r455 ∧ Fr 35 [(3, .slice A437 (l436).length cap438)] a' ∧ Ow 2 encII 34 w' fp439 A437 cap438 l436 ∧ (∀ x ∈ fp439, w0.heap.size ≤ x) ∧ Chg [] w0 w' ∧ w0.heap.size ≤ w'.heap.size) ?_ ?_
  · refine cW_block ?_
    refine cW_loop _ (fun (s458 : (List (Int × Int)) × Int) a' w' => ∃ l445 : List (Int × Int), ∃ A446 : Option Addr, ∃ cap447 : Nat, ∃ fp448 : List Nat, ∃ x450 : Int, (l445, x450) = s458 ∧ Fr 35 [(0, .slice A0 (l0).length cap0), (3, .slice A446 (l445).length cap447), (4, .int .i64 (x450))] a' ∧ Sl 2 encII w' fp0 A0 l0 ∧ Ow 2 encII 34 w' fp448 A446 cap447 l445 ∧ (∀ x ∈ fp448, w0.heap.size ≤ x) ∧ Chg [] w0 w' ∧ w0.heap.size ≤ w'.heap.size) hr456 (fun hst => ⟨([] : List (Int × Int)), (some ⟨b2, 0, none⟩), 0, [b2], 0, rfl, Fr.of hst (by kernel_rfl), F0, F5, G4, hB, hZ⟩) ?_
    rintro _ c459 a' w444 ⟨l445, A446, cap447, fp448, x450, rfl, hF451, F452, F453, G454, hB, hZ⟩ hx460
    refine Fr.goOn hF451 (by kernel_rfl) ?_
    have hm := hx460
    unfold m_spec_l05Hanan_s3 at hm
    refine cW_seq ?_
    refine cW_seq ?_
    refine cW_region ?_
    refine wS_pure 4 [(10, .bool (decide (x450 < (((l0).length : Int))))), (9, .int .i64 (((l0).length : Int))), (8, .slice A0 (l0).length cap0), (7, .int .i64 (x450))] (by kernel_rfl) ?_
    refine wS_end (by rfl) ?_
    refine eX_then ?_
    refine cW_cond (t := decide (x450 < (((l0).length : Int)))) (by kernel_rfl) (fun hb461 => ?_) (fun hb461 => ?_)
    · have hm := condT hb461 hm
      refine cW_skip ?_
      refine eX_then ?_
      refine cW_seq ?_
      refine cW_block ?_
      refine cW_seq ?_
      refine cW_region ?_
      refine wS_pure 1 [(5, .int .i64 (0))] (by kernel_rfl) ?_
      refine wS_end (by rfl) ?_
      refine eX_then ?_
      obtain ⟨r606, hr607, hm⟩ := bindE hm
      have hm608 := hm
      refine cW_cut (fun a' w' => ∃ l586 : List (Int × Int), ∃ A587 : Option Addr, ∃ cap588 : Nat, ∃ fp589 : List Nat, l586 = r606 ∧ Fr 35 [(0, .slice A0 (l0).length cap0), (3, .slice A587 (l586).length cap588), (4, .int .i64 (x450))] a' ∧ Sl 2 encII w' fp0 A0 l0 ∧ Ow 2 encII 34 w' fp589 A587 cap588 l586 ∧ (∀ x ∈ fp589, w0.heap.size ≤ x) ∧ Chg [] w0 w' ∧ w0.heap.size ≤ w'.heap.size) ?_ ?_
      · refine cW_block ?_
        refine cW_loop _ (fun (s609 : (List (Int × Int)) × Int) a' w' => ∃ l596 : List (Int × Int), ∃ A597 : Option Addr, ∃ cap598 : Nat, ∃ fp599 : List Nat, ∃ x601 : Int, (l596, x601) = s609 ∧ Fr 35 [(0, .slice A0 (l0).length cap0), (3, .slice A597 (l596).length cap598), (4, .int .i64 (x450)), (5, .int .i64 (x601))] a' ∧ Sl 2 encII w' fp0 A0 l0 ∧ Ow 2 encII 34 w' fp599 A597 cap598 l596 ∧ (∀ x ∈ fp599, w0.heap.size ≤ x) ∧ Chg [] w0 w' ∧ w0.heap.size ≤ w'.heap.size) hr607 (fun hst => ⟨l445, A446, cap447, fp448, 0, rfl, Fr.of hst (by kernel_rfl), F452, F453, G454, hB, hZ⟩) ?_
        rintro _ c610 a' w595 ⟨l596, A597, cap598, fp599, x601, rfl, hF602, F603, F604, G605, hB, hZ⟩ hx611
        refine Fr.goOn hF602 (by kernel_rfl) ?_
        have hm := hx611
        unfold m_spec_l05Hanan_s4 at hm
        refine cW_seq ?_
        refine cW_seq ?_
        refine cW_region ?_
        refine wS_pure 4 [(16, .bool (decide (x601 < (((l0).length : Int))))), (15, .int .i64 (((l0).length : Int))), (14, .slice A0 (l0).length cap0), (13, .int .i64 (x601))] (by kernel_rfl) ?_
        refine wS_end (by rfl) ?_
        refine eX_then ?_
        refine cW_cond (t := decide (x601 < (((l0).length : Int)))) (by kernel_rfl) (fun hb612 => ?_) (fun hb612 => ?_)
        · have hm := condT hb612 hm
          refine cW_skip ?_
          refine eX_then ?_
          refine cW_seq ?_
          refine cW_block ?_
          refine cW_drawnTail [] 13 (by kernel_rfl) (by kernel_rfl) (fun w640 hc641 => ?_)
          replace F603 := F603.chg hc641 Dj.nil
          replace F604 := F604.chg hc641 Dj.nil
          replace hB := hB.inS hc641 inNil
          replace hZ := Nat.le_trans hZ hc641.size
          have hS := Chg.refl [] w640
          have Z642 := F603
          have Z643 := F604
          refine wH_take [0, 1, 2] [2, 1, 0] [(21, .int .i64 (x450)), (20, .slice A0 (l0).length cap0), (19, .slice A597 (l596).length cap598)] (by kernel_rfl) (qT (qB (qT (qL (qB (qT (qB (qT (qL (qB (qT (qT qZ)))))))))))) (by kernel_rfl) ?_
          obtain ⟨x644, hx645, hm⟩ := bindE hm
          refine wH_idx (i := 3) (d := 22) (T := 25) (A := A0) (n := (l0).length) (cap := cap0) (kd := .i64) (m := x450) (by kernel_rfl) (qT (qB (qT (qL (qB (qT (qB (qT (qL (qB (qT (qT qZ)))))))))))) (by kernel_rfl) (by kernel_rfl) sl25 (F603.is hx645) ?_
          refine wH_take [4] [4, 3, 2, 1, 0] [(23, .pointer (some (elA A0 2 (x450) 0)))] (by kernel_rfl) (qT (qB (qT (qL (qB (qT (qB (qT (qL (qB (qT (qT qZ)))))))))))) (by kernel_rfl) ?_
          refine wH_load1 (i := 5) (d := 24) (T := 2) (ad := (elA A0 2 (x450) 0)) (v := .int .i64 (x644.1)) (by kernel_rfl) (qT (qB (qT (qL (qB (qT (qB (qT (qL (qB (qT (qT qZ)))))))))))) (by kernel_rfl) (by kernel_rfl) vt2 (fun W hW => Sl.cell (Z642.chg hW Dj.nil) hx645 0 (by rfl)) ?_
          refine wH_take [6, 7] [7, 6, 5, 4, 3, 2, 1, 0] [(26, .int .i64 (x601)), (25, .slice A0 (l0).length cap0)] (by kernel_rfl) (qT (qB (qT (qL (qB (qT (qB (qT (qL (qB (qT (qT qZ)))))))))))) (by kernel_rfl) ?_
          obtain ⟨x646, hx647, hm⟩ := bindE hm
          refine wH_idx (i := 8) (d := 27) (T := 25) (A := A0) (n := (l0).length) (cap := cap0) (kd := .i64) (m := x601) (by kernel_rfl) (qT (qB (qT (qL (qB (qT (qB (qT (qL (qB (qT (qT qZ)))))))))))) (by kernel_rfl) (by kernel_rfl) sl25 (F603.is hx647) ?_
          refine wH_take [9] [9, 8, 7, 6, 5, 4, 3, 2, 1, 0] [(28, .pointer (some (elA A0 2 (x601) 1)))] (by kernel_rfl) (qT (qB (qT (qL (qB (qT (qB (qT (qL (qB (qT (qT qZ)))))))))))) (by kernel_rfl) ?_
          refine wH_load1 (i := 10) (d := 29) (T := 2) (ad := (elA A0 2 (x601) 1)) (v := .int .i64 (x646.2)) (by kernel_rfl) (qT (qB (qT (qL (qB (qT (qB (qT (qL (qB (qT (qT qZ)))))))))))) (by kernel_rfl) (by kernel_rfl) vt2 (fun W hW => Sl.cell (Z642.chg hW Dj.nil) hx647 1 (by rfl)) ?_
          refine wH_take [11] [11, 10, 9, 8, 7, 6, 5, 4, 3, 2, 1, 0] [(30, .agg #[.int .i64 (x644.1), .int .i64 (x646.2)])] (by kernel_rfl) (qT (qB (qT (qL (qB (qT (qB (qT (qL (qB (qT (qT qZ)))))))))))) (by kernel_rfl) ?_
          refine wH_all [12] (by rfl) (by kernel_rfl) (by simp) ⟨⟨by kernel_rfl, ?_⟩, trivial⟩
          refine wS_bs (enc := encII) ([(x644.1, x646.2)] : List (Int × Int)) [.int .i64 (x644.1), .int .i64 (x646.2)] (d := 31) (t := 25) (T := 34) (n := 1) (ps := [(0, .agg #[.int .i64 (x644.1), .int .i64 (x646.2)])]) (by kernel_rfl) el25 encII_ok (by rfl) (by omega) (by omega) (by kernel_rfl) (by rfl) ?_
          intro b648 w649 G650 F651 hc652
          have D654 : Dj fp599 [b648] := Dj.of F604.low (low1 G650)
          replace F603 := F603.chg hc652 Dj.nil
          replace F604 := F604.chg hc652 Dj.nil
          replace hB := hB.inS hc652 inNil
          have hSz := hS
          replace hS := hS.inS hc652 inNil
          have Gz655 := low1 (Nat.le_trans hSz.size G650)
          replace G650 := Nat.le_trans hZ G650
          replace G650 := low1 G650
          replace hZ := Nat.le_trans hZ hc652.size
          refine wS_end (by kernel_rfl) ?_
          refine eX_KH hS ?_
          refine wH_done (by kernel_rfl) ?_
          refine eX_tail ?_
          obtain ⟨_, hk656, hm⟩ := bindE hm
          replace hk656 := apE hk656
          refine wS_append (enc := encII) (l := (l596 : List (Int × Int))) (l2 := (([(x644.1, x646.2)] : List (Int × Int)) : List (Int × Int))) (d := 32) (t := 25) (T := 34) (A := A597) (A2 := (some ⟨b648, 0, none⟩)) (cap := cap598) (cap2 := 1) (by kernel_rfl) el25 encII_ok F604 (F651.sl encII_ok) (by rfl) hk656 ?_
          intro w657 fp658 A659 cap660 F661 hc662 hp663
          have G665 := low_ap G605 hZ hp663
          have D666 : Dj [b648] fp658 := Dj.ap (D654).symm F651.low hp663
          replace F603 := F603.chg hc662 (Dj.of L0 G605)
          replace F651 := F651.chg hc662 (D654).symm
          replace hB := hB.inS hc662 (inLow G605)
          replace hZ := Nat.le_trans hZ hc662.size
          refine wS_pure 1 [(3, .slice A659 (l596 ++ (([(x644.1, x646.2)] : List (Int × Int)))).length cap660)] (by kernel_rfl) ?_
          refine wS_end (by rfl) ?_
          refine eX_block ?_
          refine eX_then ?_
          refine cW_region ?_
          refine wS_pure 3 [(5, .int .i64 (wr (x601 + 1))), (18, .int .i64 (wr (x601 + 1))), (17, .int .i64 (x601))] (by kernel_rfl) ?_
          refine wS_end (by rfl) ?_
          have hq : (some (Ctl.next ((l596 ++ (([(x644.1, x646.2)] : List (Int × Int))), wr (x601 + 1)))) : Option (Ctl ((List (Int × Int)) × Int) ((List (Int × Int))))) = some _ := hm
          replace hq := someE hq
          subst hq
          exact eX_next hx611 (fun hst => ⟨l596 ++ (([(x644.1, x646.2)] : List (Int × Int))), A659, cap660, fp658, wr (x601 + 1), rfl, Fr.of hst (by kernel_rfl), F603, F661, G665, hB, hZ⟩)
        · have hm := condF hb612 hm
          refine cW_exit ?_
          refine eX_then_exit ?_
          have hq : (some (Ctl.out l596) : Option (Ctl ((List (Int × Int)) × Int) ((List (Int × Int))))) = some _ := hm
          replace hq := someE hq
          subst hq
          refine eX_outX hx611 (fun hr667 => ?_)
          replace hr667 := hr667.symm
          subst hr667
          refine eX_block_hit ?_
          exact eX_J (fun hst => ⟨l596, A597, cap598, fp599, rfl, Fr.of hst (by kernel_rfl), F603, F604, G605, hB, hZ⟩)
      · rintro a' w585 ⟨l586, A587, cap588, fp589, hJ, hF591, F592, F593, G594, hB, hZ⟩
        subst hJ
        refine Fr.goX hF591 (by kernel_rfl) ?_
        refine eX_block ?_
        refine eX_then ?_
        refine cW_region ?_
        refine wS_pure 3 [(4, .int .i64 (wr (x450 + 1))), (12, .int .i64 (wr (x450 + 1))), (11, .int .i64 (x450))] (by kernel_rfl) ?_
        refine wS_end (by rfl) ?_
        have hq : (some (Ctl.next ((l586, wr (x450 + 1)))) : Option (Ctl ((List (Int × Int)) × Int) ((List (Int × Int))))) = some _ := hm
        replace hq := someE hq
        subst hq
        exact eX_next hx460 (fun hst => ⟨l586, A587, cap588, fp589, wr (x450 + 1), rfl, Fr.of hst (by kernel_rfl), F592, F593, G594, hB, hZ⟩)
    · have hm := condF hb461 hm
      refine cW_exit ?_
      refine eX_then_exit ?_
      have hq : (some (Ctl.out l445) : Option (Ctl ((List (Int × Int)) × Int) ((List (Int × Int))))) = some _ := hm
      replace hq := someE hq
      subst hq
      refine eX_outX hx460 (fun hr668 => ?_)
      replace hr668 := hr668.symm
      subst hr668
      refine eX_block_hit ?_
      exact eX_J (fun hst => ⟨l445, A446, cap447, fp448, rfl, Fr.of hst (by kernel_rfl), F453, G454, hB, hZ⟩)
  · rintro a' w435 ⟨l436, A437, cap438, fp439, hJ, hF441, F442, G443, hB, hZ⟩
    subst hJ
    refine Fr.goX hF441 (by kernel_rfl) ?_
    refine eX_then ?_
    refine cW_seq ?_
    refine cW_region ?_
    refine wS_pure 1 [(33, .slice A437 (l436).length cap438)] (by kernel_rfl) ?_
    obtain ⟨y669, hy670, hm⟩ := bindE hm
    refine wS_calls (d := 34) (f := 127) (vs := [.slice A437 (l436).length cap438]) (by kernel_rfl) ent127 (c_spec_l01Sorted hy670 (F442.sl encII_ok)) ?_
    rintro _ w671 ⟨A673, cap674, fp675, rfl, F676, G677, hc672⟩
    have D680 : Dj fp439 fp675 := Dj.of F442.low G677
    replace F442 := F442.chg hc672 Dj.nil
    replace hB := hB.inS hc672 inNil
    replace G677 := low_le hZ G677
    replace hZ := Nat.le_trans hZ hc672.size
    refine ⟨.slice A673 (y669).length cap674, rfl, ?_⟩
    refine wS_pure 1 [(2, .slice A673 (y669).length cap674)] (by kernel_rfl) ?_
    refine wS_end (by rfl) ?_
    refine eX_then ?_
    refine cW_ret ?_
    have hq : (some y669 : Option ((List (Int × Int)))) = some _ := hm
    replace hq := someE hq
    subst hq
    refine eX_ret (vs := [.slice A673 (y669).length cap674]) [.tmp 2] (by rfl) ⟨by (show lkE _ _ _ = _); kernel_rfl, trivial⟩ ?_
    exact ⟨A673, cap674, fp675, rfl, F676, G677, hB⟩

set_option maxRecDepth 100000 in
/-- spec.HananPoints -/
theorem c_spec_HananPoints {w0 : World} {l0 : List (Int × Int)} {A0 : Option Addr} {cap0 : Nat} {fp0 : List Nat} {r : (List (Int × Int)) × (Bool)} (hm : m_spec_HananPoints l0 = some r) (F0 : Sl 2 encII w0 fp0 A0 l0) (K0 : (l0).length ≤ cap0) :
    Calls Try.prog 34 #[.slice A0 (l0).length cap0] w0 fun e w' => ∃ A100 cap100 fp100, e = .returned (.tuple #[.slice A100 (r.1).length cap100, .bool (r.2)]) ∧ Ow 2 encII 34 w' fp100 A100 cap100 r.1 ∧ (∀ x ∈ fp100, w0.heap.size ≤ x) ∧ Chg [] w0 w' := by
  have L0 := F0.low
  have hB : Chg [] w0 w0 := Chg.refl _ _
  have hZ := Nat.le_refl w0.heap.size
  unfold m_spec_HananPoints at hm
  refine enterE (N := 9) Try.func34 (by rfl) Try.ntmps34 (by simp) [(0, .slice A0 (l0).length cap0)] (by rfl) (by kernel_rfl) (fun a => ?_)
  refine cW_seq ?_
  refine cW_region ?_
  refine wS_pure 2 [(3, .bool (false)), (2, .slice none 0 0)] (by kernel_rfl) ?_
  refine wS_end (by rfl) ?_
  refine eX_then ?_
  refine cW_seq ?_
  refine cW_seq ?_
  refine cW_region ?_
  refine wS_pure 1 [(4, .slice A0 (l0).length cap0)] (by kernel_rfl) ?_
  obtain ⟨y2, hy3, hm⟩ := bindE hm
  refine wS_calls (d := 5) (f := 86) (vs := [.slice A0 (l0).length cap0]) (by kernel_rfl) ent86 (c_spec_l05Few hy3 F0 K0) ?_
  rintro _ w4 ⟨rfl, hc5⟩
  replace F0 := F0.chg hc5 Dj.nil
  replace hB := hB.inS hc5 inNil
  replace hZ := Nat.le_trans hZ hc5.size
  refine ⟨.bool (y2), rfl, ?_⟩
  refine wS_pure 1 [(6, .bool (!y2))] (by kernel_rfl) ?_
  refine wS_end (by rfl) ?_
  refine eX_then ?_
  refine cW_cond (t := !y2) (by kernel_rfl) (fun hb6 => ?_) (fun hb6 => ?_)
  · have hm := condT hb6 hm
    refine cW_seq ?_
    refine cW_region ?_
    refine wS_pure 2 [(3, .bool (false)), (2, .slice none 0 0)] (by kernel_rfl) ?_
    refine wS_end (by rfl) ?_
    refine eX_then ?_
    refine cW_ret ?_
    refine eX_then_ret ?_
    have hq : (some (([], false)) : Option ((List (Int × Int)) × (Bool))) = some _ := hm
    replace hq := someE hq
    subst hq
    refine eX_ret (vs := [.slice none 0 0, .bool (false)]) [.tmp 2, .tmp 3] (by rfl) ⟨by (show lkE _ _ _ = _); kernel_rfl, ⟨by (show lkE _ _ _ = _); kernel_rfl, trivial⟩⟩ ?_
    exact ⟨none, 0, [], rfl, Ow.nil _, lowNil, hB⟩
  · have hm := condF hb6 hm
    refine cW_skip ?_
    refine eX_then ?_
    refine cW_seq ?_
    refine cW_region ?_
    refine wS_pure 1 [(7, .slice A0 (l0).length cap0)] (by kernel_rfl) ?_
    obtain ⟨y7, hy8, hm⟩ := bindE hm
    refine wS_calls (d := 8) (f := 87) (vs := [.slice A0 (l0).length cap0]) (by kernel_rfl) ent87 (c_spec_l05Hanan hy8 F0) ?_
    rintro _ w9 ⟨A11, cap12, fp13, rfl, F14, G15, hc10⟩
    replace F0 := F0.chg hc10 Dj.nil
    replace hB := hB.inS hc10 inNil
    replace G15 := low_le hZ G15
    replace hZ := Nat.le_trans hZ hc10.size
    refine ⟨.slice A11 (y7).length cap12, rfl, ?_⟩
    refine wS_pure 2 [(3, .bool (true)), (2, .slice A11 (y7).length cap12)] (by kernel_rfl) ?_
    refine wS_end (by rfl) ?_
    refine eX_then ?_
    refine cW_ret ?_
    have hq : (some ((y7, true)) : Option ((List (Int × Int)) × (Bool))) = some _ := hm
    replace hq := someE hq
    subst hq
    refine eX_ret (vs := [.slice A11 (y7).length cap12, .bool (true)]) [.tmp 2, .tmp 3] (by rfl) ⟨by (show lkE _ _ _ = _); kernel_rfl, ⟨by (show lkE _ _ _ = _); kernel_rfl, trivial⟩⟩ ?_
    exact ⟨A11, cap12, fp13, rfl, F14, G15, hB⟩

set_option maxRecDepth 100000 in
/-- impl.hanan -/
theorem c_impl_hanan {w0 : World} {l0 : List (Int × Int)} {A0 : Option Addr} {cap0 : Nat} {fp0 : List Nat} {r : (List (Int × Int))} (hm : m_impl_hanan l0 = some r) (F0 : Sl 2 encII w0 fp0 A0 l0) :
    Calls Try.prog 89 #[.slice A0 (l0).length cap0] w0 fun e w' => ∃ A100 cap100 fp100, e = .returned (.slice A100 (r).length cap100) ∧ Ow 2 encII 34 w' fp100 A100 cap100 r ∧ (∀ x ∈ fp100, w0.heap.size ≤ x) ∧ Chg [] w0 w' := by
  have L0 := F0.low
  have hB : Chg [] w0 w0 := Chg.refl _ _
  have hZ := Nat.le_refl w0.heap.size
  unfold m_impl_hanan at hm
  refine enterE (N := 33) Try.func89 (by rfl) Try.ntmps89 (by simp) [(0, .slice A0 (l0).length cap0)] (by rfl) (by kernel_rfl) (fun a => ?_)
  refine cW_seq ?_
  refine cW_region ?_
  refine wS_pure 1 [(2, .slice none 0 0)] (by kernel_rfl) ?_
  refine wS_end (by rfl) ?_
  refine eX_then ?_
  refine cW_seq ?_
  refine cW_region ?_
  refine wS_bs0 (α := Int × Int) (enc := encII) (d := 8) (t := 25) (T := 34) (by kernel_rfl) el25 ?_
  intro b2 w3 G4 F5 hc6
  replace F0 := F0.chg hc6 Dj.nil
  replace hB := hB.inS hc6 inNil
  replace G4 := Nat.le_trans hZ G4
  replace G4 := low1 G4
  replace hZ := Nat.le_trans hZ hc6.size
  refine wS_pure 1 [(3, .slice (some ⟨b2, 0, none⟩) (([] : List (Int × Int))).length 0)] (by kernel_rfl) ?_
  refine wS_end (by rfl) ?_
  refine eX_then ?_
  refine cW_seq ?_
  refine cW_seq ?_
  refine cW_region ?_
  refine wS_pure 3 [(11, .int .i64 (0)), (10, .int .i64 (((l0).length : Int))), (9, .slice A0 (l0).length cap0)] (by kernel_rfl) ?_
  refine wS_end (by rfl) ?_
  refine eX_then ?_
  obtain ⟨r375, hr376, hm⟩ := bindE hm
  have hm377 := hm
  refine cW_cut (fun a' w' => ∃ l356 : List (Int × Int), ∃ A357 : Option Addr, ∃ cap358 : Nat, ∃ fp359 : List Nat, l356 = r375 ∧ Fr 33 [(3, .slice A357 (l356).length cap358)] a' ∧ Ow 2 encII 34 w' fp359 A357 cap358 l356 ∧ (∀ x ∈ fp359, w0.heap.size ≤ x) ∧ Chg [] w0 w' ∧ w0.heap.size ≤ w'.heap.size) ?_ ?_
  · refine cW_block ?_
    refine cW_loop _ (fun (s378 : (List (Int × Int)) × Int) a' w' => ∃ l365 : List (Int × Int), ∃ A366 : Option Addr, ∃ cap367 : Nat, ∃ fp368 : List Nat, ∃ x370 : Int, (l365, x370) = s378 ∧ Fr 33 [(0, .slice A0 (l0).length cap0), (3, .slice A366 (l365).length cap367), (9, .slice A0 (l0).length cap0), (10, .int .i64 (((l0).length : Int))), (11, .int .i64 (x370))] a' ∧ Sl 2 encII w' fp0 A0 l0 ∧ Ow 2 encII 34 w' fp368 A366 cap367 l365 ∧ (∀ x ∈ fp368, w0.heap.size ≤ x) ∧ Chg [] w0 w' ∧ w0.heap.size ≤ w'.heap.size) hr376 (fun hst => ⟨([] : List (Int × Int)), (some ⟨b2, 0, none⟩), 0, [b2], 0, rfl, Fr.of hst (by kernel_rfl), F0, F5, G4, hB, hZ⟩) ?_
    rintro _ c379 a' w364 ⟨l365, A366, cap367, fp368, x370, rfl, hF371, F372, F373, G374, hB, hZ⟩ hx380
    refine Fr.goOn hF371 (by kernel_rfl) ?_
    have hm := hx380
    unfold m_impl_hanan_s3 at hm
    refine cW_seq ?_
    refine cW_region ?_
    refine wS_pure 1 [(12, .bool (decide (x370 < (((l0).length : Int)))))] (by kernel_rfl) ?_
    refine wS_end (by rfl) ?_
    refine eX_then ?_
    refine cW_seq ?_
    refine cW_cond (t := decide (x370 < (((l0).length : Int)))) (by kernel_rfl) (fun hb381 => ?_) (fun hb381 => ?_)
    · have hm := condT hb381 hm
      refine cW_skip ?_
      refine eX_then ?_
      refine cW_seq ?_
      refine cW_block ?_
      refine cW_seq ?_
      refine cW_region ?_
      obtain ⟨x382, hx383, hm⟩ := bindE hm
      refine wS_idx (d := 13) (T := 25) (A := A0) (n := (l0).length) (cap := cap0) (kd := .i64) (m := x370) (by kernel_rfl) sl25 (F372.is hx383) ?_
      refine wS_loadA (d := 14) (T := 34) (ad := (elA A0 2 (x370) 0)) (vs := [.int .i64 (x382.1), .int .i64 (x382.2)]) (by kernel_rfl) vt34 (fun i u hu => Sl.cells_at F372 hx383 0 hu (by rfl)) ?_
      refine wS_alloc (d := 5) (T := 34) (z := .agg #[.int .i64 (0), .int .i64 (0)]) (by kernel_rfl) (by kernel_rfl) ?_
      intro b384 w385 G386 F387 hc388
      replace F387 : Cl w385 b384 34 [.int .i64 (0), .int .i64 (0)] := F387
      have D390 : Dj fp368 [b384] := Dj.of F373.low (low1 G386)
      replace F372 := F372.chg hc388 Dj.nil
      replace F373 := F373.chg hc388 Dj.nil
      replace hB := hB.inS hc388 inNil
      replace G386 := Nat.le_trans hZ G386
      replace hZ := Nat.le_trans hZ hc388.size
      refine wS_store (T := 34) (g := b384) (o := 0) (ad := ⟨b384, 0, none⟩) (v := .agg #[.int .i64 (x382.1), .int .i64 (x382.2)]) (vs := [.int .i64 (x382.1), .int .i64 (x382.2)]) (by kernel_rfl) (by rfl) sz34 (by rfl) (by rfl) F387 (by simp only [List.length_cons, List.length_nil]; omega) ?_
      intro w391 F392 hc393
      replace F372 := F372.chg hc393 (Dj.of L0 (low1 G386))
      replace F373 := F373.chg hc393 D390
      replace hB := hB.inS hc393 (inLow (low1 G386))
      replace hZ := Nat.le_trans hZ hc393.size
      replace F392 : Cl w391 b384 34 [.int .i64 (x382.1), .int .i64 (x382.2)] := F392
      clear F387
      refine wS_end (by rfl) ?_
      refine eX_then ?_
      refine cW_seq ?_
      refine cW_region ?_
      refine wS_pure 3 [(17, .int .i64 (0)), (16, .int .i64 (((l0).length : Int))), (15, .slice A0 (l0).length cap0)] (by kernel_rfl) ?_
      refine wS_end (by rfl) ?_
      refine eX_then ?_
      obtain ⟨r505, hr506, hm⟩ := bindE hm
      have hm507 := hm
      refine cW_cut (fun a' w' => ∃ l483 : List (Int × Int), ∃ A484 : Option Addr, ∃ cap485 : Nat, ∃ fp486 : List Nat, l483 = r505 ∧ Fr 33 [(0, .slice A0 (l0).length cap0), (3, .slice A484 (l483).length cap485), (9, .slice A0 (l0).length cap0), (10, .int .i64 (((l0).length : Int))), (11, .int .i64 (x370))] a' ∧ Sl 2 encII w' fp0 A0 l0 ∧ Ow 2 encII 34 w' fp486 A484 cap485 l483 ∧ (∀ x ∈ fp486, w0.heap.size ≤ x) ∧ Chg [] w0 w' ∧ w0.heap.size ≤ w'.heap.size) ?_ ?_
      · refine cW_block ?_
        refine cW_loop _ (fun (s508 : (List (Int × Int)) × Int) a' w' => ∃ l493 : List (Int × Int), ∃ A494 : Option Addr, ∃ cap495 : Nat, ∃ fp496 : List Nat, ∃ x498 : Int, (l493, x498) = s508 ∧ Fr 33 [(0, .slice A0 (l0).length cap0), (3, .slice A494 (l493).length cap495), (5, .pointer (some ⟨b384, 0, none⟩)), (9, .slice A0 (l0).length cap0), (10, .int .i64 (((l0).length : Int))), (11, .int .i64 (x370)), (15, .slice A0 (l0).length cap0), (16, .int .i64 (((l0).length : Int))), (17, .int .i64 (x498))] a' ∧ Sl 2 encII w' fp0 A0 l0 ∧ Cl w' b384 34 [.int .i64 (x382.1), .int .i64 (x382.2)] ∧ Ow 2 encII 34 w' fp496 A494 cap495 l493 ∧ (∀ x ∈ fp496, w0.heap.size ≤ x) ∧ Dj [b384] fp496 ∧ Chg [] w0 w' ∧ w0.heap.size ≤ w'.heap.size) hr506 (fun hst => ⟨l365, A366, cap367, fp368, 0, rfl, Fr.of hst (by kernel_rfl), F372, F392, F373, G374, (D390).symm, hB, hZ⟩) ?_
        rintro _ c509 a' w492 ⟨l493, A494, cap495, fp496, x498, rfl, hF499, F500, F501, F502, G503, D504, hB, hZ⟩ hx510
        refine Fr.goOn hF499 (by kernel_rfl) ?_
        have hm := hx510
        unfold m_impl_hanan_s4 at hm
        refine cW_seq ?_
        refine cW_region ?_
        refine wS_pure 1 [(18, .bool (decide (x498 < (((l0).length : Int)))))] (by kernel_rfl) ?_
        refine wS_end (by rfl) ?_
        refine eX_then ?_
        refine cW_seq ?_
        refine cW_cond (t := decide (x498 < (((l0).length : Int)))) (by kernel_rfl) (fun hb511 => ?_) (fun hb511 => ?_)
        · have hm := condT hb511 hm
          refine cW_skip ?_
          refine eX_then ?_
          refine cW_seq ?_
          refine cW_block ?_
          refine cW_seq ?_
          refine cW_region ?_
          obtain ⟨x512, hx513, hm⟩ := bindE hm
          refine wS_idx (d := 19) (T := 25) (A := A0) (n := (l0).length) (cap := cap0) (kd := .i64) (m := x498) (by kernel_rfl) sl25 (F500.is hx513) ?_
          refine wS_loadA (d := 20) (T := 34) (ad := (elA A0 2 (x498) 0)) (vs := [.int .i64 (x512.1), .int .i64 (x512.2)]) (by kernel_rfl) vt34 (fun i u hu => Sl.cells_at F500 hx513 0 hu (by rfl)) ?_
          refine wS_alloc (d := 7) (T := 34) (z := .agg #[.int .i64 (0), .int .i64 (0)]) (by kernel_rfl) (by kernel_rfl) ?_
          intro b514 w515 G516 F517 hc518
          replace F517 : Cl w515 b514 34 [.int .i64 (0), .int .i64 (0)] := F517
          have D520 : Dj [b384] [b514] := Dj.of (lt1 F501.lt) (low1 G516)
          have D521 : Dj fp496 [b514] := Dj.of F502.low (low1 G516)
          replace F500 := F500.chg hc518 Dj.nil
          replace F501 := F501.chg hc518 notNil
          replace F502 := F502.chg hc518 Dj.nil
          replace hB := hB.inS hc518 inNil
          replace G516 := Nat.le_trans hZ G516
          replace hZ := Nat.le_trans hZ hc518.size
          refine wS_store (T := 34) (g := b514) (o := 0) (ad := ⟨b514, 0, none⟩) (v := .agg #[.int .i64 (x512.1), .int .i64 (x512.2)]) (vs := [.int .i64 (x512.1), .int .i64 (x512.2)]) (by kernel_rfl) (by rfl) sz34 (by rfl) (by rfl) F517 (by simp only [List.length_cons, List.length_nil]; omega) ?_
          intro w522 F523 hc524
          replace F500 := F500.chg hc524 (Dj.of L0 (low1 G516))
          replace F501 := F501.chg hc524 (dj1 D520)
          replace F502 := F502.chg hc524 D521
          replace hB := hB.inS hc524 (inLow (low1 G516))
          replace hZ := Nat.le_trans hZ hc524.size
          replace F523 : Cl w522 b514 34 [.int .i64 (x512.1), .int .i64 (x512.2)] := F523
          clear F517
          refine wS_end (by rfl) ?_
          refine eX_then ?_
          refine cW_region ?_
          refine wS_pure 2 [(22, .pointer (some ⟨b384, 0, none⟩)), (21, .slice A494 (l493).length cap495)] (by kernel_rfl) ?_
          refine wS_load1 (d := 23) (T := 2) (ad := ⟨b384, 0, none⟩) (v := .int .i64 (x382.1)) (by kernel_rfl) vt2 ((F501).cell 0) ?_
          refine wS_pure 1 [(24, .pointer (some ⟨b514, 1, none⟩))] (by kernel_rfl) ?_
          refine wS_load1 (d := 25) (T := 2) (ad := ⟨b514, 1, none⟩) (v := .int .i64 (x512.2)) (by kernel_rfl) vt2 ((F523).cell 1) ?_
          refine wS_pure 1 [(26, .agg #[.int .i64 (x382.1), .int .i64 (x512.2)])] (by kernel_rfl) ?_
          refine wS_bs (enc := encII) ([(x382.1, x512.2)] : List (Int × Int)) [.int .i64 (x382.1), .int .i64 (x512.2)] (d := 27) (t := 25) (T := 34) (n := 1) (ps := [(0, .agg #[.int .i64 (x382.1), .int .i64 (x512.2)])]) (by kernel_rfl) el25 encII_ok (by rfl) (by omega) (by omega) (by kernel_rfl) (by rfl) ?_
          intro b525 w526 G527 F528 hc529
          have D531 : Dj [b384] [b525] := Dj.of (lt1 F501.lt) (low1 G527)
          have D532 : Dj fp496 [b525] := Dj.of F502.low (low1 G527)
          have D533 : Dj [b514] [b525] := Dj.of (lt1 F523.lt) (low1 G527)
          replace F500 := F500.chg hc529 Dj.nil
          replace F501 := F501.chg hc529 notNil
          replace F502 := F502.chg hc529 Dj.nil
          replace F523 := F523.chg hc529 notNil
          replace hB := hB.inS hc529 inNil
          replace G527 := Nat.le_trans hZ G527
          replace G527 := low1 G527
          replace hZ := Nat.le_trans hZ hc529.size
          obtain ⟨_, hk534, hm⟩ := bindE hm
          replace hk534 := apE hk534
          refine wS_append (enc := encII) (l := (l493 : List (Int × Int))) (l2 := (([(x382.1, x512.2)] : List (Int × Int)) : List (Int × Int))) (d := 28) (t := 25) (T := 34) (A := A494) (A2 := (some ⟨b525, 0, none⟩)) (cap := cap495) (cap2 := 1) (by kernel_rfl) el25 encII_ok F502 (F528.sl encII_ok) (by rfl) hk534 ?_
          intro w535 fp536 A537 cap538 F539 hc540 hp541
          have G543 := low_ap G503 hZ hp541
          have D544 : Dj [b384] fp536 := Dj.ap D504 (lt1 F501.lt) hp541
          have D545 : Dj [b514] fp536 := Dj.ap (D521).symm (lt1 F523.lt) hp541
          have D546 : Dj [b525] fp536 := Dj.ap (D532).symm F528.low hp541
          replace F500 := F500.chg hc540 (Dj.of L0 G503)
          replace F501 := F501.chg hc540 (dj1 D504)
          replace F523 := F523.chg hc540 (dj1 (D521).symm)
          replace F528 := F528.chg hc540 (D532).symm
          replace hB := hB.inS hc540 (inLow G503)
          replace hZ := Nat.le_trans hZ hc540.size
          refine wS_pure 1 [(3, .slice A537 (l493 ++ (([(x382.1, x512.2)] : List (Int × Int)))).length cap538)] (by kernel_rfl) ?_
          refine wS_end (by rfl) ?_
          refine eX_block ?_
          refine eX_then ?_
          refine cW_region ?_
          refine wS_pure 2 [(17, .int .i64 (wr (x498 + 1))), (29, .int .i64 (wr (x498 + 1)))] (by kernel_rfl) ?_
          refine wS_end (by rfl) ?_
          have hq : (some (Ctl.next ((l493 ++ (([(x382.1, x512.2)] : List (Int × Int))), wr (x498 + 1)))) : Option (Ctl ((List (Int × Int)) × Int) ((List (Int × Int))))) = some _ := hm
          replace hq := someE hq
          subst hq
          exact eX_next hx510 (fun hst => ⟨l493 ++ (([(x382.1, x512.2)] : List (Int × Int))), A537, cap538, fp536, wr (x498 + 1), rfl, Fr.of hst (by kernel_rfl), F500, F501, F539, G543, D544, hB, hZ⟩)
        · have hm := condF hb511 hm
          refine cW_exit ?_
          refine eX_then_exit ?_
          have hq : (some (Ctl.out l493) : Option (Ctl ((List (Int × Int)) × Int) ((List (Int × Int))))) = some _ := hm
          replace hq := someE hq
          subst hq
          refine eX_outX hx510 (fun hr547 => ?_)
          replace hr547 := hr547.symm
          subst hr547
          refine eX_block_hit ?_
          exact eX_J (fun hst => ⟨l493, A494, cap495, fp496, rfl, Fr.of hst (by kernel_rfl), F500, F502, G503, hB, hZ⟩)
      · rintro a' w482 ⟨l483, A484, cap485, fp486, hJ, hF488, F489, F490, G491, hB, hZ⟩
        subst hJ
        refine Fr.goX hF488 (by kernel_rfl) ?_
        refine eX_block ?_
        refine eX_then ?_
        refine cW_region ?_
        refine wS_pure 2 [(11, .int .i64 (wr (x370 + 1))), (30, .int .i64 (wr (x370 + 1)))] (by kernel_rfl) ?_
        refine wS_end (by rfl) ?_
        have hq : (some (Ctl.next ((l483, wr (x370 + 1)))) : Option (Ctl ((List (Int × Int)) × Int) ((List (Int × Int))))) = some _ := hm
        replace hq := someE hq
        subst hq
        exact eX_next hx380 (fun hst => ⟨l483, A484, cap485, fp486, wr (x370 + 1), rfl, Fr.of hst (by kernel_rfl), F489, F490, G491, hB, hZ⟩)
    · have hm := condF hb381 hm
      refine cW_exit ?_
      refine eX_then_exit ?_
      have hq : (some (Ctl.out l365) : Option (Ctl ((List (Int × Int)) × Int) ((List (Int × Int))))) = some _ := hm
      replace hq := someE hq
      subst hq
      refine eX_outX hx380 (fun hr548 => ?_)
      replace hr548 := hr548.symm
      subst hr548
      refine eX_block_hit ?_
      exact eX_J (fun hst => ⟨l365, A366, cap367, fp368, rfl, Fr.of hst (by kernel_rfl), F373, G374, hB, hZ⟩)
  · rintro a' w355 ⟨l356, A357, cap358, fp359, hJ, hF361, F362, G363, hB, hZ⟩
    subst hJ
    refine Fr.goX hF361 (by kernel_rfl) ?_
    refine eX_then ?_
    refine cW_seq ?_
    refine cW_region ?_
    refine wS_pure 1 [(31, .slice A357 (l356).length cap358)] (by kernel_rfl) ?_
    obtain ⟨y549, hy550, hm⟩ := bindE hm
    refine wS_calls (d := 32) (f := 74) (vs := [.slice A357 (l356).length cap358]) (by kernel_rfl) ent74 (c_impl_sorted hy550 (F362.sl encII_ok)) ?_
    rintro _ w551 ⟨A553, cap554, fp555, rfl, F556, G557, hc552⟩
    have D560 : Dj fp359 fp555 := Dj.of F362.low G557
    replace F362 := F362.chg hc552 Dj.nil
    replace hB := hB.inS hc552 inNil
    replace G557 := low_le hZ G557
    replace hZ := Nat.le_trans hZ hc552.size
    refine ⟨.slice A553 (y549).length cap554, rfl, ?_⟩
    refine wS_pure 1 [(2, .slice A553 (y549).length cap554)] (by kernel_rfl) ?_
    refine wS_end (by rfl) ?_
    refine eX_then ?_
    refine cW_ret ?_
    have hq : (some y549 : Option ((List (Int × Int)))) = some _ := hm
    replace hq := someE hq
    subst hq
    refine eX_ret (vs := [.slice A553 (y549).length cap554]) [.tmp 2] (by rfl) ⟨by (show lkE _ _ _ = _); kernel_rfl, trivial⟩ ?_
    exact ⟨A553, cap554, fp555, rfl, F556, G557, hB⟩

set_option maxRecDepth 100000 in
/-- impl.HananPoints -/
theorem c_impl_HananPoints {w0 : World} {l0 : List (Int × Int)} {A0 : Option Addr} {cap0 : Nat} {fp0 : List Nat} {r : (List (Int × Int)) × (Bool)} (hm : m_impl_HananPoints l0 = some r) (F0 : Sl 2 encII w0 fp0 A0 l0) :
    Calls Try.prog 35 #[.slice A0 (l0).length cap0] w0 fun e w' => ∃ A100 cap100 fp100, e = .returned (.tuple #[.slice A100 (r.1).length cap100, .bool (r.2)]) ∧ Ow 2 encII 34 w' fp100 A100 cap100 r.1 ∧ (∀ x ∈ fp100, w0.heap.size ≤ x) ∧ Chg [] w0 w' := by
  have L0 := F0.low
  have hB : Chg [] w0 w0 := Chg.refl _ _
  have hZ := Nat.le_refl w0.heap.size
  unfold m_impl_HananPoints at hm
  refine enterE (N := 9) Try.func35 (by rfl) Try.ntmps35 (by simp) [(0, .slice A0 (l0).length cap0)] (by rfl) (by kernel_rfl) (fun a => ?_)
  refine cW_seq ?_
  refine cW_region ?_
  refine wS_pure 2 [(3, .bool (false)), (2, .slice none 0 0)] (by kernel_rfl) ?_
  refine wS_end (by rfl) ?_
  refine eX_then ?_
  refine cW_seq ?_
  refine cW_seq ?_
  refine cW_region ?_
  refine wS_pure 1 [(4, .slice A0 (l0).length cap0)] (by kernel_rfl) ?_
  obtain ⟨y2, hy3, hm⟩ := bindE hm
  refine wS_calls (d := 5) (f := 88) (vs := [.slice A0 (l0).length cap0, .int .i64 (7)]) (by kernel_rfl) ent88 (c_impl_pinsOk hy3 F0) ?_
  rintro _ w4 ⟨rfl, hc5⟩
  replace F0 := F0.chg hc5 Dj.nil
  replace hB := hB.inS hc5 inNil
  replace hZ := Nat.le_trans hZ hc5.size
  refine ⟨.bool (y2), rfl, ?_⟩
  refine wS_pure 1 [(6, .bool (!y2))] (by kernel_rfl) ?_
  refine wS_end (by rfl) ?_
  refine eX_then ?_
  refine cW_cond (t := !y2) (by kernel_rfl) (fun hb6 => ?_) (fun hb6 => ?_)
  · have hm := condT hb6 hm
    refine cW_seq ?_
    refine cW_region ?_
    refine wS_pure 2 [(3, .bool (false)), (2, .slice none 0 0)] (by kernel_rfl) ?_
    refine wS_end (by rfl) ?_
    refine eX_then ?_
    refine cW_ret ?_
    refine eX_then_ret ?_
    have hq : (some (([], false)) : Option ((List (Int × Int)) × (Bool))) = some _ := hm
    replace hq := someE hq
    subst hq
    refine eX_ret (vs := [.slice none 0 0, .bool (false)]) [.tmp 2, .tmp 3] (by rfl) ⟨by (show lkE _ _ _ = _); kernel_rfl, ⟨by (show lkE _ _ _ = _); kernel_rfl, trivial⟩⟩ ?_
    exact ⟨none, 0, [], rfl, Ow.nil _, lowNil, hB⟩
  · have hm := condF hb6 hm
    refine cW_skip ?_
    refine eX_then ?_
    refine cW_seq ?_
    refine cW_region ?_
    refine wS_pure 1 [(7, .slice A0 (l0).length cap0)] (by kernel_rfl) ?_
    obtain ⟨y7, hy8, hm⟩ := bindE hm
    refine wS_calls (d := 8) (f := 89) (vs := [.slice A0 (l0).length cap0]) (by kernel_rfl) ent89 (c_impl_hanan hy8 F0) ?_
    rintro _ w9 ⟨A11, cap12, fp13, rfl, F14, G15, hc10⟩
    replace F0 := F0.chg hc10 Dj.nil
    replace hB := hB.inS hc10 inNil
    replace G15 := low_le hZ G15
    replace hZ := Nat.le_trans hZ hc10.size
    refine ⟨.slice A11 (y7).length cap12, rfl, ?_⟩
    refine wS_pure 2 [(3, .bool (true)), (2, .slice A11 (y7).length cap12)] (by kernel_rfl) ?_
    refine wS_end (by rfl) ?_
    refine eX_then ?_
    refine cW_ret ?_
    have hq : (some ((y7, true)) : Option ((List (Int × Int)) × (Bool))) = some _ := hm
    replace hq := someE hq
    subst hq
    refine eX_ret (vs := [.slice A11 (y7).length cap12, .bool (true)]) [.tmp 2, .tmp 3] (by rfl) ⟨by (show lkE _ _ _ = _); kernel_rfl, ⟨by (show lkE _ _ _ = _); kernel_rfl, trivial⟩⟩ ?_
    exact ⟨A11, cap12, fp13, rfl, F14, G15, hB⟩

end Go.Proofs.Ytdkpfkmmblmlhaa
