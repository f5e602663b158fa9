/- Printed walks: impl.box, impl.BoxBound, impl.star, impl.StarLength, laws.FnFurther. -/
import Derived.Test.YtgaecldkiijmpaaProg
import Derived.Test.YtgaecldkiijmpaaWFu02
set_option linter.unusedSimpArgs false
set_option linter.unusedVariables false
namespace Go.Proofs.Ytgaecldkiijmpaa
open Go.RowKit
attribute [local irreducible] wS cW eX wH

theorem ent39 : Ent Try.prog 39 := fun _ => by kernel_rfl
theorem ent40 : Ent Try.prog 40 := fun _ => by kernel_rfl
theorem ent41 : Ent Try.prog 41 := fun _ => by kernel_rfl
theorem ent42 : Ent Try.prog 42 := fun _ => by kernel_rfl
theorem ent43 : Ent Try.prog 43 := fun _ => by kernel_rfl
theorem ent44 : Ent Try.prog 44 := fun _ => by kernel_rfl
theorem ent45 : Ent Try.prog 45 := fun _ => by kernel_rfl
theorem ent46 : Ent Try.prog 46 := fun _ => by kernel_rfl
theorem ent47 : Ent Try.prog 47 := fun _ => by kernel_rfl
theorem ent48 : Ent Try.prog 48 := fun _ => by kernel_rfl
theorem ent49 : Ent Try.prog 49 := fun _ => by kernel_rfl
theorem ent111 : Ent Try.prog 111 := fun _ => by kernel_rfl
theorem ent112 : Ent Try.prog 112 := fun _ => by kernel_rfl
theorem ent113 : Ent Try.prog 113 := fun _ => by kernel_rfl

set_option maxRecDepth 100000 in
/-- impl.box -/
theorem c_impl_box {w0 : World} {l0 : List (Int × Int)} {A0 : Option Addr} {cap0 : Nat} {fp0 : List Nat} {r : (Int × Int) × (Int × Int)} (hm : m_impl_box l0 = some r) (F0 : Sl 2 encII w0 fp0 A0 l0) :
    Calls Try.prog 112 #[.slice A0 (l0).length cap0] w0 fun e w' => e = .returned (.tuple #[.agg #[.int .i64 (r.1.1), .int .i64 (r.1.2)], .agg #[.int .i64 (r.2.1), .int .i64 (r.2.2)]]) ∧ Chg [] w0 w' := by
  have L0 := F0.low
  have hB : Chg [] w0 w0 := Chg.refl _ _
  have hZ := Nat.le_refl w0.heap.size
  unfold m_impl_box at hm
  refine enterE (N := 45) Try.func112 (by rfl) Try.ntmps112 (by simp) [(0, .slice A0 (l0).length cap0)] (by rfl) (by kernel_rfl) (fun a => ?_)
  refine cW_seq ?_
  refine cW_region ?_
  refine wS_alloc (d := 2) (T := 37) (z := .agg #[.int .i64 (0), .int .i64 (0)]) (by kernel_rfl) (by kernel_rfl) ?_
  intro b2 w3 G4 F5 hc6
  replace F5 : Cl w3 b2 37 [.int .i64 (0), .int .i64 (0)] := F5
  replace F0 := F0.chg hc6 Dj.nil
  replace hB := hB.inS hc6 inNil
  replace G4 := Nat.le_trans hZ G4
  replace hZ := Nat.le_trans hZ hc6.size
  refine wS_alloc (d := 3) (T := 37) (z := .agg #[.int .i64 (0), .int .i64 (0)]) (by kernel_rfl) (by kernel_rfl) ?_
  intro b8 w9 G10 F11 hc12
  replace F11 : Cl w9 b8 37 [.int .i64 (0), .int .i64 (0)] := F11
  have D14 : Dj [b2] [b8] := Dj.of (lt1 F5.lt) (low1 G10)
  replace F0 := F0.chg hc12 Dj.nil
  replace F5 := F5.chg hc12 notNil
  replace hB := hB.inS hc12 inNil
  replace G10 := Nat.le_trans hZ G10
  replace hZ := Nat.le_trans hZ hc12.size
  refine wS_end (by rfl) ?_
  refine eX_then ?_
  refine cW_seq ?_
  obtain ⟨s155, hs156, hm⟩ := bindE hm
  refine cW_cut (fun a' w' => ∃ b134 : Nat, ∃ x135 : Int, ∃ x136 : Int, ∃ b138 : Nat, ∃ x139 : Int, ∃ x140 : Int, (x135, x136, x139, x140) = s155 ∧ Fr 45 [(0, .slice A0 (l0).length cap0), (2, .pointer (some ⟨b2, 0, none⟩)), (3, .pointer (some ⟨b8, 0, none⟩)), (4, .pointer (some ⟨b134, 0, none⟩)), (5, .pointer (some ⟨b138, 0, none⟩))] a' ∧ Sl 2 encII w' fp0 A0 l0 ∧ Cl w' b2 37 [.int .i64 (0), .int .i64 (0)] ∧ Cl w' b8 37 [.int .i64 (0), .int .i64 (0)] ∧ Cl w' b134 37 [.int .i64 (x135), .int .i64 (x136)] ∧ Cl w' b138 37 [.int .i64 (x139), .int .i64 (x140)] ∧ w0.heap.size ≤ b134 ∧ w0.heap.size ≤ b138 ∧ Dj [b2] [b134] ∧ Dj [b8] [b134] ∧ Dj [b138] [b134] ∧ Dj [b2] [b138] ∧ Dj [b8] [b138] ∧ Chg [] w0 w' ∧ w0.heap.size ≤ w'.heap.size) ?_ ?_
  · have hm := hs156
    refine cW_drawnTail [] 9 (by kernel_rfl) (by kernel_rfl) (fun w157 hc158 => ?_)
    replace F0 := F0.chg hc158 Dj.nil
    replace F5 := F5.chg hc158 notNil
    replace F11 := F11.chg hc158 notNil
    replace hB := hB.inS hc158 inNil
    replace hZ := Nat.le_trans hZ hc158.size
    have hS := Chg.refl [] w157
    have Z159 := F0
    have Z160 := F5
    have Z161 := F11
    refine wH_take [0] [0] [(8, .slice A0 (l0).length cap0)] (by kernel_rfl) (qT (qT (qT qZ))) (by kernel_rfl) ?_
    obtain ⟨x162, hx163, hm⟩ := bindE hm
    refine wH_idx (i := 1) (d := 9) (T := 32) (A := A0) (n := (l0).length) (cap := cap0) (kd := .i64) (m := 0) (by kernel_rfl) (qT (qT (qT qZ))) (by kernel_rfl) (by kernel_rfl) sl32 (F0.is hx163) ?_
    refine wH_loadA (i := 2) (d := 10) (T := 37) (ad := (elA A0 2 (0) 0)) (vs := [.int .i64 (x162.1), .int .i64 (x162.2)]) (by kernel_rfl) (qT (qT (qT qZ))) (by kernel_rfl) (by kernel_rfl) vt37 (fun W hW i u hu => Sl.cells_at (Z159.chg hW Dj.nil) hx163 0 hu (by rfl)) ?_
    refine wH_take [3] [3, 2, 1, 0] [(11, .slice A0 (l0).length cap0)] (by kernel_rfl) (qT (qT (qT qZ))) (by kernel_rfl) ?_
    obtain ⟨x164, hx165, hm⟩ := bindE hm
    refine wH_idx (i := 4) (d := 12) (T := 32) (A := A0) (n := (l0).length) (cap := cap0) (kd := .i64) (m := 0) (by kernel_rfl) (qT (qT (qT qZ))) (by kernel_rfl) (by kernel_rfl) sl32 (F0.is hx165) ?_
    refine wH_loadA (i := 5) (d := 13) (T := 37) (ad := (elA A0 2 (0) 0)) (vs := [.int .i64 (x164.1), .int .i64 (x164.2)]) (by kernel_rfl) (qT (qT (qT qZ))) (by kernel_rfl) (by kernel_rfl) vt37 (fun W hW i u hu => Sl.cells_at (Z159.chg hW Dj.nil) hx165 0 hu (by rfl)) ?_
    refine wH_all [6, 7] (by rfl) (by kernel_rfl) (by simp) ⟨⟨by kernel_rfl, ?_⟩, ⟨by kernel_rfl, ?_⟩, trivial⟩
    · skip
      refine wS_alloc (d := 4) (T := 37) (z := .agg #[.int .i64 (0), .int .i64 (0)]) (by kernel_rfl) (by kernel_rfl) ?_
      intro b166 w167 G168 F169 hc170
      replace F169 : Cl w167 b166 37 [.int .i64 (0), .int .i64 (0)] := F169
      have D172 : Dj [b2] [b166] := Dj.of (lt1 F5.lt) (low1 G168)
      have D173 : Dj [b8] [b166] := Dj.of (lt1 F11.lt) (low1 G168)
      replace F0 := F0.chg hc170 Dj.nil
      replace F5 := F5.chg hc170 notNil
      replace F11 := F11.chg hc170 notNil
      replace hB := hB.inS hc170 inNil
      have hSz := hS
      replace hS := hS.inS hc170 inNil
      have Gz174 := low1 (Nat.le_trans hSz.size G168)
      replace G168 := Nat.le_trans hZ G168
      replace hZ := Nat.le_trans hZ hc170.size
      refine wS_end (by kernel_rfl) ?_
      refine eX_KH hS ?_
      refine wH_all [7] (by rfl) (by kernel_rfl) (by simp) ⟨⟨by kernel_rfl, ?_⟩, trivial⟩
      refine wS_alloc (d := 5) (T := 37) (z := .agg #[.int .i64 (0), .int .i64 (0)]) (by kernel_rfl) (by kernel_rfl) ?_
      intro b175 w176 G177 F178 hc179
      replace F178 : Cl w176 b175 37 [.int .i64 (0), .int .i64 (0)] := F178
      have D181 : Dj [b2] [b175] := Dj.of (lt1 F5.lt) (low1 G177)
      have D182 : Dj [b8] [b175] := Dj.of (lt1 F11.lt) (low1 G177)
      have D183 : Dj [b166] [b175] := Dj.of (lt1 F169.lt) (low1 G177)
      replace F0 := F0.chg hc179 Dj.nil
      replace F5 := F5.chg hc179 notNil
      replace F11 := F11.chg hc179 notNil
      replace F169 := F169.chg hc179 notNil
      replace hB := hB.inS hc179 inNil
      have hSz := hS
      replace hS := hS.inS hc179 inNil
      have Gz184 := low1 (Nat.le_trans hSz.size G177)
      replace G177 := Nat.le_trans hZ G177
      replace hZ := Nat.le_trans hZ hc179.size
      refine wS_end (by kernel_rfl) ?_
      refine eX_KH hS ?_
      refine wH_all [8] (by rfl) (by kernel_rfl) (by simp) ⟨⟨by kernel_rfl, ?_⟩, trivial⟩
      refine wS_store (T := 37) (g := b166) (o := 0) (ad := ⟨b166, 0, none⟩) (v := .agg #[.int .i64 (x162.1), .int .i64 (x162.2)]) (vs := [.int .i64 (x162.1), .int .i64 (x162.2)]) (by kernel_rfl) (by rfl) sz37 (by rfl) (by rfl) F169 (by simp only [List.length_cons, List.length_nil]; omega) ?_
      intro w185 F186 hc187
      replace F0 := F0.chg hc187 (Dj.of L0 (low1 G168))
      replace F5 := F5.chg hc187 (dj1 D172)
      replace F11 := F11.chg hc187 (dj1 D173)
      replace F178 := F178.chg hc187 (dj1 (D183).symm)
      replace hB := hB.inS hc187 (inLow (low1 G168))
      have hSz := hS
      replace hS := hS.inS hc187 (inLow Gz174)
      replace hZ := Nat.le_trans hZ hc187.size
      replace F186 : Cl w185 b166 37 [.int .i64 (x162.1), .int .i64 (x162.2)] := F186
      clear F169
      refine wS_end (by kernel_rfl) ?_
      refine eX_KH hS ?_
      refine wH_done (by kernel_rfl) ?_
      refine eX_tail ?_
      refine wS_store (T := 37) (g := b175) (o := 0) (ad := ⟨b175, 0, none⟩) (v := .agg #[.int .i64 (x164.1), .int .i64 (x164.2)]) (vs := [.int .i64 (x164.1), .int .i64 (x164.2)]) (by kernel_rfl) (by rfl) sz37 (by rfl) (by rfl) F178 (by simp only [List.length_cons, List.length_nil]; omega) ?_
      intro w188 F189 hc190
      replace F0 := F0.chg hc190 (Dj.of L0 (low1 G177))
      replace F5 := F5.chg hc190 (dj1 D181)
      replace F11 := F11.chg hc190 (dj1 D182)
      replace F186 := F186.chg hc190 (dj1 D183)
      replace hB := hB.inS hc190 (inLow (low1 G177))
      replace hZ := Nat.le_trans hZ hc190.size
      replace F189 : Cl w188 b175 37 [.int .i64 (x164.1), .int .i64 (x164.2)] := F189
      clear F178
      refine wS_end (by rfl) ?_
      have hq : (some ((x162.1, x162.2, x164.1, x164.2)) : Option (Int × Int × Int × Int)) = some _ := hm
      replace hq := someE hq
      subst hq
      exact eX_J (fun hst => ⟨b166, x162.1, x162.2, b175, x164.1, x164.2, rfl, Fr.of hst (by kernel_rfl), F0, F5, F11, F186, F189, G168, G177, D172, D173, (D183).symm, D181, D182, hB, hZ⟩)
    · skip
      refine wS_alloc (d := 5) (T := 37) (z := .agg #[.int .i64 (0), .int .i64 (0)]) (by kernel_rfl) (by kernel_rfl) ?_
      intro b191 w192 G193 F194 hc195
      replace F194 : Cl w192 b191 37 [.int .i64 (0), .int .i64 (0)] := F194
      have D197 : Dj [b2] [b191] := Dj.of (lt1 F5.lt) (low1 G193)
      have D198 : Dj [b8] [b191] := Dj.of (lt1 F11.lt) (low1 G193)
      replace F0 := F0.chg hc195 Dj.nil
      replace F5 := F5.chg hc195 notNil
      replace F11 := F11.chg hc195 notNil
      replace hB := hB.inS hc195 inNil
      have hSz := hS
      replace hS := hS.inS hc195 inNil
      have Gz199 := low1 (Nat.le_trans hSz.size G193)
      replace G193 := Nat.le_trans hZ G193
      replace hZ := Nat.le_trans hZ hc195.size
      refine wS_end (by kernel_rfl) ?_
      refine eX_KH hS ?_
      refine wH_all [6] (by rfl) (by kernel_rfl) (by simp) ⟨⟨by kernel_rfl, ?_⟩, trivial⟩
      refine wS_alloc (d := 4) (T := 37) (z := .agg #[.int .i64 (0), .int .i64 (0)]) (by kernel_rfl) (by kernel_rfl) ?_
      intro b200 w201 G202 F203 hc204
      replace F203 : Cl w201 b200 37 [.int .i64 (0), .int .i64 (0)] := F203
      have D206 : Dj [b2] [b200] := Dj.of (lt1 F5.lt) (low1 G202)
      have D207 : Dj [b8] [b200] := Dj.of (lt1 F11.lt) (low1 G202)
      have D208 : Dj [b191] [b200] := Dj.of (lt1 F194.lt) (low1 G202)
      replace F0 := F0.chg hc204 Dj.nil
      replace F5 := F5.chg hc204 notNil
      replace F11 := F11.chg hc204 notNil
      replace F194 := F194.chg hc204 notNil
      replace hB := hB.inS hc204 inNil
      have hSz := hS
      replace hS := hS.inS hc204 inNil
      have Gz209 := low1 (Nat.le_trans hSz.size G202)
      replace G202 := Nat.le_trans hZ G202
      replace hZ := Nat.le_trans hZ hc204.size
      refine wS_end (by kernel_rfl) ?_
      refine eX_KH hS ?_
      refine wH_all [8] (by rfl) (by kernel_rfl) (by simp) ⟨⟨by kernel_rfl, ?_⟩, trivial⟩
      refine wS_store (T := 37) (g := b200) (o := 0) (ad := ⟨b200, 0, none⟩) (v := .agg #[.int .i64 (x162.1), .int .i64 (x162.2)]) (vs := [.int .i64 (x162.1), .int .i64 (x162.2)]) (by kernel_rfl) (by rfl) sz37 (by rfl) (by rfl) F203 (by simp only [List.length_cons, List.length_nil]; omega) ?_
      intro w210 F211 hc212
      replace F0 := F0.chg hc212 (Dj.of L0 (low1 G202))
      replace F5 := F5.chg hc212 (dj1 D206)
      replace F11 := F11.chg hc212 (dj1 D207)
      replace F194 := F194.chg hc212 (dj1 D208)
      replace hB := hB.inS hc212 (inLow (low1 G202))
      have hSz := hS
      replace hS := hS.inS hc212 (inLow Gz209)
      replace hZ := Nat.le_trans hZ hc212.size
      replace F211 : Cl w210 b200 37 [.int .i64 (x162.1), .int .i64 (x162.2)] := F211
      clear F203
      refine wS_end (by kernel_rfl) ?_
      refine eX_KH hS ?_
      refine wH_done (by kernel_rfl) ?_
      refine eX_tail ?_
      refine wS_store (T := 37) (g := b191) (o := 0) (ad := ⟨b191, 0, none⟩) (v := .agg #[.int .i64 (x164.1), .int .i64 (x164.2)]) (vs := [.int .i64 (x164.1), .int .i64 (x164.2)]) (by kernel_rfl) (by rfl) sz37 (by rfl) (by rfl) F194 (by simp only [List.length_cons, List.length_nil]; omega) ?_
      intro w213 F214 hc215
      replace F0 := F0.chg hc215 (Dj.of L0 (low1 G193))
      replace F5 := F5.chg hc215 (dj1 D197)
      replace F11 := F11.chg hc215 (dj1 D198)
      replace F211 := F211.chg hc215 (dj1 (D208).symm)
      replace hB := hB.inS hc215 (inLow (low1 G193))
      replace hZ := Nat.le_trans hZ hc215.size
      replace F214 : Cl w213 b191 37 [.int .i64 (x164.1), .int .i64 (x164.2)] := F214
      clear F194
      refine wS_end (by rfl) ?_
      have hq : (some ((x162.1, x162.2, x164.1, x164.2)) : Option (Int × Int × Int × Int)) = some _ := hm
      replace hq := someE hq
      subst hq
      exact eX_J (fun hst => ⟨b200, x162.1, x162.2, b191, x164.1, x164.2, rfl, Fr.of hst (by kernel_rfl), F0, F5, F11, F211, F214, G202, G193, D206, D207, D208, D197, D198, hB, hZ⟩)
  · rintro a' w133 ⟨b134, x135, x136, b138, x139, x140, hJ, hF142, F143, F144, F145, F146, F147, G148, G149, D150, D151, D152, D153, D154, hB, hZ⟩
    subst hJ
    refine Fr.goX hF142 (by kernel_rfl) ?_
    refine eX_then ?_
    refine cW_seq ?_
    refine cW_seq ?_
    refine cW_region ?_
    refine wS_pure 3 [(16, .int .i64 (0)), (15, .int .i64 (((l0).length : Int))), (14, .slice A0 (l0).length cap0)] (by kernel_rfl) ?_
    refine wS_end (by rfl) ?_
    refine eX_then ?_
    obtain ⟨r301, hr302, hm⟩ := bindE hm
    have hm303 := hm
    refine cW_cut (fun a' w' => ∃ x280 : Int, ∃ x281 : Int, ∃ x282 : Int, ∃ x283 : Int, (x280, x281, x282, x283) = r301 ∧ Fr 45 [(2, .pointer (some ⟨b2, 0, none⟩)), (3, .pointer (some ⟨b8, 0, none⟩)), (4, .pointer (some ⟨b134, 0, none⟩)), (5, .pointer (some ⟨b138, 0, none⟩))] a' ∧ Cl w' b2 37 [.int .i64 (0), .int .i64 (0)] ∧ Cl w' b8 37 [.int .i64 (0), .int .i64 (0)] ∧ Cl w' b134 37 [.int .i64 (x280), .int .i64 (x281)] ∧ Cl w' b138 37 [.int .i64 (x282), .int .i64 (x283)] ∧ Chg [] w0 w' ∧ w0.heap.size ≤ w'.heap.size) ?_ ?_
    · refine cW_block ?_
      refine cW_loop _ (fun (s304 : Int × Int × Int × Int × Int) a' w' => ∃ x290 : Int, ∃ x291 : Int, ∃ x292 : Int, ∃ x293 : Int, ∃ x294 : Int, (x290, x291, x292, x293, x294) = s304 ∧ Fr 45 [(2, .pointer (some ⟨b2, 0, none⟩)), (3, .pointer (some ⟨b8, 0, none⟩)), (4, .pointer (some ⟨b134, 0, none⟩)), (5, .pointer (some ⟨b138, 0, none⟩)), (14, .slice A0 (l0).length cap0), (15, .int .i64 (((l0).length : Int))), (16, .int .i64 (x290))] a' ∧ Sl 2 encII w' fp0 A0 l0 ∧ Cl w' b2 37 [.int .i64 (0), .int .i64 (0)] ∧ Cl w' b8 37 [.int .i64 (0), .int .i64 (0)] ∧ Cl w' b134 37 [.int .i64 (x291), .int .i64 (x292)] ∧ Cl w' b138 37 [.int .i64 (x293), .int .i64 (x294)] ∧ Chg [] w0 w' ∧ w0.heap.size ≤ w'.heap.size) hr302 (fun hst => ⟨0, x135, x136, x139, x140, rfl, Fr.of hst (by kernel_rfl), F143, F144, F145, F146, F147, hB, hZ⟩) ?_
      rintro _ c305 a' w289 ⟨x290, x291, x292, x293, x294, rfl, hF295, F296, F297, F298, F299, F300, hB, hZ⟩ hx306
      refine Fr.goOn hF295 (by kernel_rfl) ?_
      have hm := hx306
      unfold m_impl_box_s1 at hm
      refine cW_seq ?_
      refine cW_region ?_
      refine wS_pure 1 [(17, .bool (decide (x290 < (((l0).length : Int)))))] (by kernel_rfl) ?_
      refine wS_end (by rfl) ?_
      refine eX_then ?_
      refine cW_seq ?_
      refine cW_cond (t := decide (x290 < (((l0).length : Int)))) (by kernel_rfl) (fun hb307 => ?_) (fun hb307 => ?_)
      · have hm := condT hb307 hm
        refine cW_skip ?_
        refine eX_then ?_
        refine cW_seq ?_
        refine cW_block ?_
        refine cW_seq ?_
        refine cW_region ?_
        obtain ⟨x308, hx309, hm⟩ := bindE hm
        refine wS_idx (d := 18) (T := 32) (A := A0) (n := (l0).length) (cap := cap0) (kd := .i64) (m := x290) (by kernel_rfl) sl32 (F296.is hx309) ?_
        refine wS_loadA (d := 19) (T := 37) (ad := (elA A0 2 (x290) 0)) (vs := [.int .i64 (x308.1), .int .i64 (x308.2)]) (by kernel_rfl) vt37 (fun i u hu => Sl.cells_at F296 hx309 0 hu (by rfl)) ?_
        refine wS_alloc (d := 7) (T := 37) (z := .agg #[.int .i64 (0), .int .i64 (0)]) (by kernel_rfl) (by kernel_rfl) ?_
        intro b310 w311 G312 F313 hc314
        replace F313 : Cl w311 b310 37 [.int .i64 (0), .int .i64 (0)] := F313
        have D316 : Dj [b2] [b310] := Dj.of (lt1 F297.lt) (low1 G312)
        have D317 : Dj [b8] [b310] := Dj.of (lt1 F298.lt) (low1 G312)
        have D318 : Dj [b134] [b310] := Dj.of (lt1 F299.lt) (low1 G312)
        have D319 : Dj [b138] [b310] := Dj.of (lt1 F300.lt) (low1 G312)
        replace F296 := F296.chg hc314 Dj.nil
        replace F297 := F297.chg hc314 notNil
        replace F298 := F298.chg hc314 notNil
        replace F299 := F299.chg hc314 notNil
        replace F300 := F300.chg hc314 notNil
        replace hB := hB.inS hc314 inNil
        replace G312 := Nat.le_trans hZ G312
        replace hZ := Nat.le_trans hZ hc314.size
        refine wS_store (T := 37) (g := b310) (o := 0) (ad := ⟨b310, 0, none⟩) (v := .agg #[.int .i64 (x308.1), .int .i64 (x308.2)]) (vs := [.int .i64 (x308.1), .int .i64 (x308.2)]) (by kernel_rfl) (by rfl) sz37 (by rfl) (by rfl) F313 (by simp only [List.length_cons, List.length_nil]; omega) ?_
        intro w320 F321 hc322
        replace F296 := F296.chg hc322 (Dj.of L0 (low1 G312))
        replace F297 := F297.chg hc322 (dj1 D316)
        replace F298 := F298.chg hc322 (dj1 D317)
        replace F299 := F299.chg hc322 (dj1 D318)
        replace F300 := F300.chg hc322 (dj1 D319)
        replace hB := hB.inS hc322 (inLow (low1 G312))
        replace hZ := Nat.le_trans hZ hc322.size
        replace F321 : Cl w320 b310 37 [.int .i64 (x308.1), .int .i64 (x308.2)] := F321
        clear F313
        refine wS_end (by rfl) ?_
        refine eX_then ?_
        refine cW_seq ?_
        refine cW_region ?_
        refine wS_pure 1 [(20, .pointer (some ⟨b134, 0, none⟩))] (by kernel_rfl) ?_
        refine wS_load1 (d := 21) (T := 2) (ad := ⟨b134, 0, none⟩) (v := .int .i64 (x291)) (by kernel_rfl) vt2 ((F299).cell 0) ?_
        refine wS_pure 1 [(22, .pointer (some ⟨b310, 0, none⟩))] (by kernel_rfl) ?_
        refine wS_load1 (d := 23) (T := 2) (ad := ⟨b310, 0, none⟩) (v := .int .i64 (x308.1)) (by kernel_rfl) vt2 ((F321).cell 0) ?_
        refine wS_pure 2 [(25, .pointer (some ⟨b134, 1, none⟩)), (24, .int .i64 (if x308.1 < x291 then x308.1 else x291))] (by kernel_rfl) ?_
        refine wS_load1 (d := 26) (T := 2) (ad := ⟨b134, 1, none⟩) (v := .int .i64 (x292)) (by kernel_rfl) vt2 ((F299).cell 1) ?_
        refine wS_pure 1 [(27, .pointer (some ⟨b310, 1, none⟩))] (by kernel_rfl) ?_
        refine wS_load1 (d := 28) (T := 2) (ad := ⟨b310, 1, none⟩) (v := .int .i64 (x308.2)) (by kernel_rfl) vt2 ((F321).cell 1) ?_
        refine wS_pure 2 [(30, .agg #[.int .i64 (if x308.1 < x291 then x308.1 else x291), .int .i64 (if x308.2 < x292 then x308.2 else x292)]), (29, .int .i64 (if x308.2 < x292 then x308.2 else x292))] (by kernel_rfl) ?_
        refine wS_store (T := 37) (g := b134) (o := 0) (ad := ⟨b134, 0, none⟩) (v := .agg #[.int .i64 (if x308.1 < x291 then x308.1 else x291), .int .i64 (if x308.2 < x292 then x308.2 else x292)]) (vs := [.int .i64 (if x308.1 < x291 then x308.1 else x291), .int .i64 (if x308.2 < x292 then x308.2 else x292)]) (by kernel_rfl) (by rfl) sz37 (by rfl) (by rfl) F299 (by simp only [List.length_cons, List.length_nil]; omega) ?_
        intro w323 F324 hc325
        replace F296 := F296.chg hc325 (Dj.of L0 (low1 G148))
        replace F297 := F297.chg hc325 (dj1 D150)
        replace F298 := F298.chg hc325 (dj1 D151)
        replace F300 := F300.chg hc325 (dj1 D152)
        replace F321 := F321.chg hc325 (dj1 (D318).symm)
        replace hB := hB.inS hc325 (inLow (low1 G148))
        replace hZ := Nat.le_trans hZ hc325.size
        replace F324 : Cl w323 b134 37 [.int .i64 (if x308.1 < x291 then x308.1 else x291), .int .i64 (if x308.2 < x292 then x308.2 else x292)] := F324
        clear F299
        refine wS_end (by rfl) ?_
        refine eX_then ?_
        refine cW_region ?_
        refine wS_pure 1 [(31, .pointer (some ⟨b138, 0, none⟩))] (by kernel_rfl) ?_
        refine wS_load1 (d := 32) (T := 2) (ad := ⟨b138, 0, none⟩) (v := .int .i64 (x293)) (by kernel_rfl) vt2 ((F300).cell 0) ?_
        refine wS_pure 1 [(33, .pointer (some ⟨b310, 0, none⟩))] (by kernel_rfl) ?_
        refine wS_load1 (d := 34) (T := 2) (ad := ⟨b310, 0, none⟩) (v := .int .i64 (x308.1)) (by kernel_rfl) vt2 ((F321).cell 0) ?_
        refine wS_pure 2 [(36, .pointer (some ⟨b138, 1, none⟩)), (35, .int .i64 (if x308.1 > x293 then x308.1 else x293))] (by kernel_rfl) ?_
        refine wS_load1 (d := 37) (T := 2) (ad := ⟨b138, 1, none⟩) (v := .int .i64 (x294)) (by kernel_rfl) vt2 ((F300).cell 1) ?_
        refine wS_pure 1 [(38, .pointer (some ⟨b310, 1, none⟩))] (by kernel_rfl) ?_
        refine wS_load1 (d := 39) (T := 2) (ad := ⟨b310, 1, none⟩) (v := .int .i64 (x308.2)) (by kernel_rfl) vt2 ((F321).cell 1) ?_
        refine wS_pure 2 [(41, .agg #[.int .i64 (if x308.1 > x293 then x308.1 else x293), .int .i64 (if x308.2 > x294 then x308.2 else x294)]), (40, .int .i64 (if x308.2 > x294 then x308.2 else x294))] (by kernel_rfl) ?_
        refine wS_store (T := 37) (g := b138) (o := 0) (ad := ⟨b138, 0, none⟩) (v := .agg #[.int .i64 (if x308.1 > x293 then x308.1 else x293), .int .i64 (if x308.2 > x294 then x308.2 else x294)]) (vs := [.int .i64 (if x308.1 > x293 then x308.1 else x293), .int .i64 (if x308.2 > x294 then x308.2 else x294)]) (by kernel_rfl) (by rfl) sz37 (by rfl) (by rfl) F300 (by simp only [List.length_cons, List.length_nil]; omega) ?_
        intro w326 F327 hc328
        replace F296 := F296.chg hc328 (Dj.of L0 (low1 G149))
        replace F297 := F297.chg hc328 (dj1 D153)
        replace F298 := F298.chg hc328 (dj1 D154)
        replace F324 := F324.chg hc328 (dj1 (D152).symm)
        replace F321 := F321.chg hc328 (dj1 (D319).symm)
        replace hB := hB.inS hc328 (inLow (low1 G149))
        replace hZ := Nat.le_trans hZ hc328.size
        replace F327 : Cl w326 b138 37 [.int .i64 (if x308.1 > x293 then x308.1 else x293), .int .i64 (if x308.2 > x294 then x308.2 else x294)] := F327
        clear F300
        refine wS_end (by rfl) ?_
        refine eX_block ?_
        refine eX_then ?_
        refine cW_prune [(2, .pointer (some ⟨b2, 0, none⟩)), (3, .pointer (some ⟨b8, 0, none⟩)), (4, .pointer (some ⟨b134, 0, none⟩)), (5, .pointer (some ⟨b138, 0, none⟩)), (14, .slice A0 (l0).length cap0), (15, .int .i64 (((l0).length : Int))), (16, .int .i64 (x290))] (by kernel_rfl) (by kernel_rfl) (fun a329 => ?_)
        refine cW_region ?_
        refine wS_pure 2 [(16, .int .i64 (wr (x290 + 1))), (42, .int .i64 (wr (x290 + 1)))] (by kernel_rfl) ?_
        refine wS_end (by rfl) ?_
        have hq : (some (Ctl.next ((wr (x290 + 1), if x308.1 < x291 then x308.1 else x291, if x308.2 < x292 then x308.2 else x292, if x308.1 > x293 then x308.1 else x293, if x308.2 > x294 then x308.2 else x294))) : Option (Ctl (Int × Int × Int × Int × Int) (Int × Int × Int × Int))) = some _ := hm
        replace hq := someE hq
        subst hq
        exact eX_next hx306 (fun hst => ⟨wr (x290 + 1), if x308.1 < x291 then x308.1 else x291, if x308.2 < x292 then x308.2 else x292, if x308.1 > x293 then x308.1 else x293, if x308.2 > x294 then x308.2 else x294, rfl, Fr.of hst (by kernel_rfl), F296, F297, F298, F324, F327, hB, hZ⟩)
      · have hm := condF hb307 hm
        refine cW_exit ?_
        refine eX_then_exit ?_
        have hq : (some (Ctl.out ((x291, x292, x293, x294))) : Option (Ctl (Int × Int × Int × Int × Int) (Int × Int × Int × Int))) = some _ := hm
        replace hq := someE hq
        subst hq
        refine eX_outX hx306 (fun hr330 => ?_)
        replace hr330 := hr330.symm
        subst hr330
        refine eX_block_hit ?_
        exact eX_J (fun hst => ⟨x291, x292, x293, x294, rfl, Fr.of hst (by kernel_rfl), F297, F298, F299, F300, hB, hZ⟩)
    · rintro a' w279 ⟨x280, x281, x282, x283, hJ, hF284, F285, F286, F287, F288, hB, hZ⟩
      subst hJ
      refine Fr.goX hF284 (by kernel_rfl) ?_
      refine eX_then ?_
      refine cW_seq ?_
      refine cW_drawnTail [b2] 3 (by kernel_rfl) (by kernel_rfl) (fun w343 hc344 => ?_)
      replace F285 := F285.chg hc344 notNil
      replace F286 := F286.chg hc344 notNil
      replace F287 := F287.chg hc344 notNil
      replace F288 := F288.chg hc344 notNil
      replace hB := hB.inS hc344 inNil
      replace hZ := Nat.le_trans hZ hc344.size
      have hS := Chg.refl [b2] w343
      have Z345 := F285
      have Z346 := F286
      have Z347 := F287
      have Z348 := F288
      refine wH_loadA (i := 0) (d := 43) (T := 37) (ad := ⟨b134, 0, none⟩) (vs := [.int .i64 (x280), .int .i64 (x281)]) (by kernel_rfl) (qT (qT qZ)) (by kernel_rfl) (by kernel_rfl) vt37 (fun W hW i u hu => box_cells (Z347.chg hW (dj1 (D150).symm)) 0 hu (by rfl)) ?_
      refine wH_loadA (i := 1) (d := 44) (T := 37) (ad := ⟨b138, 0, none⟩) (vs := [.int .i64 (x282), .int .i64 (x283)]) (by kernel_rfl) (qT (qT qZ)) (by kernel_rfl) (by kernel_rfl) vt37 (fun W hW i u hu => box_cells (Z348.chg hW (dj1 (D153).symm)) 0 hu (by rfl)) ?_
      refine wH_all [2] (by rfl) (by kernel_rfl) (by simp) ⟨⟨by kernel_rfl, ?_⟩, trivial⟩
      refine wS_store (T := 37) (g := b2) (o := 0) (ad := ⟨b2, 0, none⟩) (v := .agg #[.int .i64 (x280), .int .i64 (x281)]) (vs := [.int .i64 (x280), .int .i64 (x281)]) (by kernel_rfl) (by rfl) sz37 (by rfl) (by rfl) F285 (by simp only [List.length_cons, List.length_nil]; omega) ?_
      intro w349 F350 hc351
      replace F286 := F286.chg hc351 (dj1 (D14).symm)
      replace F287 := F287.chg hc351 (dj1 (D150).symm)
      replace F288 := F288.chg hc351 (dj1 (D153).symm)
      replace hB := hB.inS hc351 (inLow (low1 G4))
      have hSz := hS
      replace hS := hS.trans hc351
      replace hZ := Nat.le_trans hZ hc351.size
      replace F350 : Cl w349 b2 37 [.int .i64 (x280), .int .i64 (x281)] := F350
      clear F285
      refine wS_end (by kernel_rfl) ?_
      refine eX_KH hS ?_
      refine wH_done (by kernel_rfl) ?_
      refine eX_tail ?_
      refine wS_store (T := 37) (g := b8) (o := 0) (ad := ⟨b8, 0, none⟩) (v := .agg #[.int .i64 (x282), .int .i64 (x283)]) (vs := [.int .i64 (x282), .int .i64 (x283)]) (by kernel_rfl) (by rfl) sz37 (by rfl) (by rfl) F286 (by simp only [List.length_cons, List.length_nil]; omega) ?_
      intro w352 F353 hc354
      replace F350 := F350.chg hc354 (dj1 D14)
      replace F287 := F287.chg hc354 (dj1 (D151).symm)
      replace F288 := F288.chg hc354 (dj1 (D154).symm)
      replace hB := hB.inS hc354 (inLow (low1 G10))
      replace hZ := Nat.le_trans hZ hc354.size
      replace F353 : Cl w352 b8 37 [.int .i64 (x282), .int .i64 (x283)] := F353
      clear F286
      refine wS_end (by rfl) ?_
      refine eX_then ?_
      refine cW_ret ?_
      have hq : (some (((x280, x281), (x282, x283))) : Option ((Int × Int) × (Int × Int))) = some _ := hm
      replace hq := someE hq
      subst hq
      refine eX_ret (vs := [.agg #[.int .i64 (x280), .int .i64 (x281)], .agg #[.int .i64 (x282), .int .i64 (x283)]]) [.cell 2 37, .cell 3 37] (by rfl) ⟨⟨⟨b2, 0, none⟩, by kernel_rfl, run_loadVarA (vs := [.int .i64 (x280), .int .i64 (x281)]) vt37 (fun i u hu => by exact box_cells F350 0 hu (by rfl))⟩, ⟨⟨⟨b8, 0, none⟩, by kernel_rfl, run_loadVarA (vs := [.int .i64 (x282), .int .i64 (x283)]) vt37 (fun i u hu => by exact box_cells F353 0 hu (by rfl))⟩, trivial⟩⟩ ?_
      exact ⟨rfl, hB⟩

set_option maxRecDepth 100000 in
/-- impl.BoxBound -/
theorem c_impl_BoxBound {w0 : World} {l0 : List (Int × Int)} {A0 : Option Addr} {cap0 : Nat} {fp0 : List Nat} {r : (Int) × (Bool)} (hm : m_impl_BoxBound l0 = some r) (F0 : Sl 2 encII w0 fp0 A0 l0) :
    Calls Try.prog 48 #[.slice A0 (l0).length cap0] w0 fun e w' => e = .returned (.tuple #[.int .i64 (r.1), .bool (r.2)]) ∧ Chg [] w0 w' := by
  have L0 := F0.low
  have hB : Chg [] w0 w0 := Chg.refl _ _
  have hZ := Nat.le_refl w0.heap.size
  unfold m_impl_BoxBound at hm
  refine enterE (N := 17) Try.func48 (by rfl) Try.ntmps48 (by simp) [(0, .slice A0 (l0).length cap0)] (by rfl) (by kernel_rfl) (fun a => ?_)
  refine cW_seq ?_
  refine cW_region ?_
  refine wS_pure 2 [(3, .bool (false)), (2, .int .i64 (0))] (by kernel_rfl) ?_
  refine wS_end (by rfl) ?_
  refine eX_then ?_
  refine cW_seq ?_
  refine cW_seq ?_
  refine cW_region ?_
  refine wS_pure 1 [(6, .slice A0 (l0).length cap0)] (by kernel_rfl) ?_
  obtain ⟨y2, hy3, hm⟩ := bindE hm
  refine wS_calls (d := 7) (f := 111) (vs := [.slice A0 (l0).length cap0]) (by kernel_rfl) ent111 (c_impl_ArePins hy3 F0) ?_
  rintro _ w4 ⟨rfl, hc5⟩
  replace F0 := F0.chg hc5 Dj.nil
  replace hB := hB.inS hc5 inNil
  replace hZ := Nat.le_trans hZ hc5.size
  refine ⟨.bool (y2), rfl, ?_⟩
  refine wS_pure 1 [(8, .bool (!y2))] (by kernel_rfl) ?_
  refine wS_end (by rfl) ?_
  refine eX_then ?_
  refine cW_cond (t := !y2) (by kernel_rfl) (fun hb6 => ?_) (fun hb6 => ?_)
  · have hm := condT hb6 hm
    refine cW_seq ?_
    refine cW_region ?_
    refine wS_pure 2 [(3, .bool (false)), (2, .int .i64 (0))] (by kernel_rfl) ?_
    refine wS_end (by rfl) ?_
    refine eX_then ?_
    refine cW_ret ?_
    refine eX_then_ret ?_
    have hq : (some ((0, false)) : Option ((Int) × (Bool))) = some _ := hm
    replace hq := someE hq
    subst hq
    refine eX_ret (vs := [.int .i64 (0), .bool (false)]) [.tmp 2, .tmp 3] (by rfl) ⟨by (show lkE _ _ _ = _); kernel_rfl, ⟨by (show lkE _ _ _ = _); kernel_rfl, trivial⟩⟩ ?_
    exact ⟨rfl, hB⟩
  · have hm := condF hb6 hm
    refine cW_skip ?_
    refine eX_then ?_
    refine cW_seq ?_
    refine cW_region ?_
    refine wS_pure 1 [(10, .slice A0 (l0).length cap0)] (by kernel_rfl) ?_
    obtain ⟨y7, hy8, hm⟩ := bindE hm
    refine wS_calls (d := 11) (f := 112) (vs := [.slice A0 (l0).length cap0]) (by kernel_rfl) ent112 (c_impl_box hy8 F0) ?_
    rintro _ w9 ⟨rfl, hc10⟩
    replace F0 := F0.chg hc10 Dj.nil
    replace hB := hB.inS hc10 inNil
    replace hZ := Nat.le_trans hZ hc10.size
    refine ⟨.tuple #[.agg #[.int .i64 (y7.1.1), .int .i64 (y7.1.2)], .agg #[.int .i64 (y7.2.1), .int .i64 (y7.2.2)]], rfl, ?_⟩
    refine wS_pure 3 [(13, .agg #[.int .i64 (y7.2.1), .int .i64 (y7.2.2)]), (12, .agg #[.int .i64 (y7.1.1), .int .i64 (y7.1.2)]), (9, .tuple #[.agg #[.int .i64 (y7.1.1), .int .i64 (y7.1.2)], .agg #[.int .i64 (y7.2.1), .int .i64 (y7.2.2)]])] (by kernel_rfl) ?_
    refine wS_alloc (d := 4) (T := 37) (z := .agg #[.int .i64 (0), .int .i64 (0)]) (by kernel_rfl) (by kernel_rfl) ?_
    intro b11 w12 G13 F14 hc15
    replace F14 : Cl w12 b11 37 [.int .i64 (0), .int .i64 (0)] := F14
    replace F0 := F0.chg hc15 Dj.nil
    replace hB := hB.inS hc15 inNil
    replace G13 := Nat.le_trans hZ G13
    replace hZ := Nat.le_trans hZ hc15.size
    refine wS_alloc (d := 5) (T := 37) (z := .agg #[.int .i64 (0), .int .i64 (0)]) (by kernel_rfl) (by kernel_rfl) ?_
    intro b17 w18 G19 F20 hc21
    replace F20 : Cl w18 b17 37 [.int .i64 (0), .int .i64 (0)] := F20
    have D23 : Dj [b11] [b17] := Dj.of (lt1 F14.lt) (low1 G19)
    replace F0 := F0.chg hc21 Dj.nil
    replace F14 := F14.chg hc21 notNil
    replace hB := hB.inS hc21 inNil
    replace G19 := Nat.le_trans hZ G19
    replace hZ := Nat.le_trans hZ hc21.size
    refine wS_store (T := 37) (g := b11) (o := 0) (ad := ⟨b11, 0, none⟩) (v := .agg #[.int .i64 (y7.1.1), .int .i64 (y7.1.2)]) (vs := [.int .i64 (y7.1.1), .int .i64 (y7.1.2)]) (by kernel_rfl) (by rfl) sz37 (by rfl) (by rfl) F14 (by simp only [List.length_cons, List.length_nil]; omega) ?_
    intro w24 F25 hc26
    replace F0 := F0.chg hc26 (Dj.of L0 (low1 G13))
    replace F20 := F20.chg hc26 (dj1 (D23).symm)
    replace hB := hB.inS hc26 (inLow (low1 G13))
    replace hZ := Nat.le_trans hZ hc26.size
    replace F25 : Cl w24 b11 37 [.int .i64 (y7.1.1), .int .i64 (y7.1.2)] := F25
    clear F14
    refine wS_store (T := 37) (g := b17) (o := 0) (ad := ⟨b17, 0, none⟩) (v := .agg #[.int .i64 (y7.2.1), .int .i64 (y7.2.2)]) (vs := [.int .i64 (y7.2.1), .int .i64 (y7.2.2)]) (by kernel_rfl) (by rfl) sz37 (by rfl) (by rfl) F20 (by simp only [List.length_cons, List.length_nil]; omega) ?_
    intro w27 F28 hc29
    replace F0 := F0.chg hc29 (Dj.of L0 (low1 G19))
    replace F25 := F25.chg hc29 (dj1 D23)
    replace hB := hB.inS hc29 (inLow (low1 G19))
    replace hZ := Nat.le_trans hZ hc29.size
    replace F28 : Cl w27 b17 37 [.int .i64 (y7.2.1), .int .i64 (y7.2.2)] := F28
    clear F20
    refine wS_end (by rfl) ?_
    refine eX_then ?_
    refine cW_seq ?_
    refine cW_region ?_
    refine wS_loadA (d := 14) (T := 37) (ad := ⟨b11, 0, none⟩) (vs := [.int .i64 (y7.1.1), .int .i64 (y7.1.2)]) (by kernel_rfl) vt37 (fun i u hu => box_cells F25 0 hu (by rfl)) ?_
    refine wS_loadA (d := 15) (T := 37) (ad := ⟨b17, 0, none⟩) (vs := [.int .i64 (y7.2.1), .int .i64 (y7.2.2)]) (by kernel_rfl) vt37 (fun i u hu => box_cells F28 0 hu (by rfl)) ?_
    obtain ⟨y30, hy31, hm⟩ := bindE hm
    refine wS_calls (d := 16) (f := 85) (vs := [.agg #[.int .i64 (y7.1.1), .int .i64 (y7.1.2)], .agg #[.int .i64 (y7.2.1), .int .i64 (y7.2.2)]]) (by kernel_rfl) ent85 (c_impl_far hy31) ?_
    rintro _ w32 ⟨rfl, hc33⟩
    replace F0 := F0.chg hc33 Dj.nil
    replace F25 := F25.chg hc33 notNil
    replace F28 := F28.chg hc33 notNil
    replace hB := hB.inS hc33 inNil
    replace hZ := Nat.le_trans hZ hc33.size
    refine ⟨.int .i64 (y30), rfl, ?_⟩
    refine wS_pure 2 [(3, .bool (true)), (2, .int .i64 (y30))] (by kernel_rfl) ?_
    refine wS_end (by rfl) ?_
    refine eX_then ?_
    refine cW_ret ?_
    have hq : (some ((y30, true)) : Option ((Int) × (Bool))) = some _ := hm
    replace hq := someE hq
    subst hq
    refine eX_ret (vs := [.int .i64 (y30), .bool (true)]) [.tmp 2, .tmp 3] (by rfl) ⟨by (show lkE _ _ _ = _); kernel_rfl, ⟨by (show lkE _ _ _ = _); kernel_rfl, trivial⟩⟩ ?_
    exact ⟨rfl, hB⟩

set_option maxRecDepth 100000 in
/-- impl.star -/
theorem c_impl_star {w0 : World} {l0 : List (Int × Int)} {A0 : Option Addr} {cap0 : Nat} {fp0 : List Nat} {p1_0 : Int} {p1_1 : Int} {r : (Int)} (hm : m_impl_star l0 p1_0 p1_1 = some r) (F0 : Sl 2 encII w0 fp0 A0 l0) :
    Calls Try.prog 113 #[.slice A0 (l0).length cap0, .agg #[.int .i64 (p1_0), .int .i64 (p1_1)]] w0 fun e w' => e = .returned (.int .i64 (r)) ∧ Chg [] w0 w' := by
  have L0 := F0.low
  have hB : Chg [] w0 w0 := Chg.refl _ _
  have hZ := Nat.le_refl w0.heap.size
  unfold m_impl_star at hm
  refine enterE (N := 21) Try.func113 (by rfl) Try.ntmps113 (by simp) [(0, .slice A0 (l0).length cap0), (1, .agg #[.int .i64 (p1_0), .int .i64 (p1_1)])] (by rfl) (by kernel_rfl) (fun a => ?_)
  refine cW_seq ?_
  refine cW_region ?_
  refine wS_box (d := 3) (T := 37) (x := .agg #[.int .i64 (p1_0), .int .i64 (p1_1)]) (by kernel_rfl) ?_
  intro b2 w3 G4 F5 hc6
  replace F5 : Cl w3 b2 37 [.int .i64 (p1_0), .int .i64 (p1_1)] := F5
  replace F0 := F0.chg hc6 Dj.nil
  replace hB := hB.inS hc6 inNil
  replace G4 := Nat.le_trans hZ G4
  replace hZ := Nat.le_trans hZ hc6.size
  refine wS_pure 1 [(4, .int .i64 (0))] (by kernel_rfl) ?_
  refine wS_end (by rfl) ?_
  refine eX_then ?_
  refine cW_seq ?_
  refine cW_region ?_
  refine wS_pure 1 [(5, .int .i64 (0))] (by kernel_rfl) ?_
  refine wS_end (by rfl) ?_
  refine eX_then ?_
  refine cW_seq ?_
  refine cW_seq ?_
  refine cW_region ?_
  refine wS_pure 3 [(10, .int .i64 (0)), (9, .int .i64 (((l0).length : Int))), (8, .slice A0 (l0).length cap0)] (by kernel_rfl) ?_
  refine wS_end (by rfl) ?_
  refine eX_then ?_
  obtain ⟨r59, hr60, hm⟩ := bindE hm
  have hm61 := hm
  refine cW_cut (fun a' w' => ∃ x51 : Int, x51 = r59 ∧ Fr 21 [(5, .int .i64 (x51))] a' ∧ Chg [] w0 w' ∧ w0.heap.size ≤ w'.heap.size) ?_ ?_
  · refine cW_block ?_
    refine cW_loop _ (fun (s62 : Int × Int) a' w' => ∃ x54 : Int, ∃ x55 : Int, (x54, x55) = s62 ∧ Fr 21 [(3, .pointer (some ⟨b2, 0, none⟩)), (5, .int .i64 (x54)), (8, .slice A0 (l0).length cap0), (9, .int .i64 (((l0).length : Int))), (10, .int .i64 (x55))] a' ∧ Sl 2 encII w' fp0 A0 l0 ∧ Cl w' b2 37 [.int .i64 (p1_0), .int .i64 (p1_1)] ∧ Chg [] w0 w' ∧ w0.heap.size ≤ w'.heap.size) hr60 (fun hst => ⟨0, 0, rfl, Fr.of hst (by kernel_rfl), F0, F5, hB, hZ⟩) ?_
    rintro _ c63 a' w53 ⟨x54, x55, rfl, hF56, F57, F58, hB, hZ⟩ hx64
    refine Fr.goOn hF56 (by kernel_rfl) ?_
    have hm := hx64
    unfold m_impl_star_s1 at hm
    refine cW_seq ?_
    refine cW_region ?_
    refine wS_pure 1 [(11, .bool (decide (x55 < (((l0).length : Int)))))] (by kernel_rfl) ?_
    refine wS_end (by rfl) ?_
    refine eX_then ?_
    refine cW_seq ?_
    refine cW_cond (t := decide (x55 < (((l0).length : Int)))) (by kernel_rfl) (fun hb65 => ?_) (fun hb65 => ?_)
    · have hm := condT hb65 hm
      refine cW_skip ?_
      refine eX_then ?_
      refine cW_seq ?_
      refine cW_block ?_
      refine cW_seq ?_
      refine cW_region ?_
      obtain ⟨x66, hx67, hm⟩ := bindE hm
      refine wS_idx (d := 12) (T := 32) (A := A0) (n := (l0).length) (cap := cap0) (kd := .i64) (m := x55) (by kernel_rfl) sl32 (F57.is hx67) ?_
      refine wS_loadA (d := 13) (T := 37) (ad := (elA A0 2 (x55) 0)) (vs := [.int .i64 (x66.1), .int .i64 (x66.2)]) (by kernel_rfl) vt37 (fun i u hu => Sl.cells_at F57 hx67 0 hu (by rfl)) ?_
      refine wS_alloc (d := 7) (T := 37) (z := .agg #[.int .i64 (0), .int .i64 (0)]) (by kernel_rfl) (by kernel_rfl) ?_
      intro b68 w69 G70 F71 hc72
      replace F71 : Cl w69 b68 37 [.int .i64 (0), .int .i64 (0)] := F71
      have D74 : Dj [b2] [b68] := Dj.of (lt1 F58.lt) (low1 G70)
      replace F57 := F57.chg hc72 Dj.nil
      replace F58 := F58.chg hc72 notNil
      replace hB := hB.inS hc72 inNil
      replace G70 := Nat.le_trans hZ G70
      replace hZ := Nat.le_trans hZ hc72.size
      refine wS_store (T := 37) (g := b68) (o := 0) (ad := ⟨b68, 0, none⟩) (v := .agg #[.int .i64 (x66.1), .int .i64 (x66.2)]) (vs := [.int .i64 (x66.1), .int .i64 (x66.2)]) (by kernel_rfl) (by rfl) sz37 (by rfl) (by rfl) F71 (by simp only [List.length_cons, List.length_nil]; omega) ?_
      intro w75 F76 hc77
      replace F57 := F57.chg hc77 (Dj.of L0 (low1 G70))
      replace F58 := F58.chg hc77 (dj1 D74)
      replace hB := hB.inS hc77 (inLow (low1 G70))
      replace hZ := Nat.le_trans hZ hc77.size
      replace F76 : Cl w75 b68 37 [.int .i64 (x66.1), .int .i64 (x66.2)] := F76
      clear F71
      refine wS_end (by rfl) ?_
      refine eX_then ?_
      refine cW_region ?_
      refine wS_pure 1 [(14, .int .i64 (x54))] (by kernel_rfl) ?_
      refine wS_loadA (d := 15) (T := 37) (ad := ⟨b68, 0, none⟩) (vs := [.int .i64 (x66.1), .int .i64 (x66.2)]) (by kernel_rfl) vt37 (fun i u hu => box_cells F76 0 hu (by rfl)) ?_
      refine wS_loadA (d := 16) (T := 37) (ad := ⟨b2, 0, none⟩) (vs := [.int .i64 (p1_0), .int .i64 (p1_1)]) (by kernel_rfl) vt37 (fun i u hu => box_cells F58 0 hu (by rfl)) ?_
      obtain ⟨y78, hy79, hm⟩ := bindE hm
      refine wS_calls (d := 17) (f := 85) (vs := [.agg #[.int .i64 (x66.1), .int .i64 (x66.2)], .agg #[.int .i64 (p1_0), .int .i64 (p1_1)]]) (by kernel_rfl) ent85 (c_impl_far hy79) ?_
      rintro _ w80 ⟨rfl, hc81⟩
      replace F57 := F57.chg hc81 Dj.nil
      replace F58 := F58.chg hc81 notNil
      replace F76 := F76.chg hc81 notNil
      replace hB := hB.inS hc81 inNil
      replace hZ := Nat.le_trans hZ hc81.size
      refine ⟨.int .i64 (y78), rfl, ?_⟩
      refine wS_pure 2 [(5, .int .i64 (wr (x54 + y78))), (18, .int .i64 (wr (x54 + y78)))] (by kernel_rfl) ?_
      refine wS_end (by rfl) ?_
      refine eX_block ?_
      refine eX_then ?_
      refine cW_region ?_
      refine wS_pure 2 [(10, .int .i64 (wr (x55 + 1))), (19, .int .i64 (wr (x55 + 1)))] (by kernel_rfl) ?_
      refine wS_end (by rfl) ?_
      have hq : (some (Ctl.next ((wr (x54 + y78), wr (x55 + 1)))) : Option (Ctl (Int × Int) (Int))) = some _ := hm
      replace hq := someE hq
      subst hq
      exact eX_next hx64 (fun hst => ⟨wr (x54 + y78), wr (x55 + 1), rfl, Fr.of hst (by kernel_rfl), F57, F58, hB, hZ⟩)
    · have hm := condF hb65 hm
      refine cW_exit ?_
      refine eX_then_exit ?_
      have hq : (some (Ctl.out x54) : Option (Ctl (Int × Int) (Int))) = some _ := hm
      replace hq := someE hq
      subst hq
      refine eX_outX hx64 (fun hr82 => ?_)
      replace hr82 := hr82.symm
      subst hr82
      refine eX_block_hit ?_
      exact eX_J (fun hst => ⟨x54, rfl, Fr.of hst (by kernel_rfl), hB, hZ⟩)
  · rintro a' w50 ⟨x51, hJ, hF52, hB, hZ⟩
    subst hJ
    refine Fr.goX hF52 (by kernel_rfl) ?_
    refine eX_then ?_
    refine cW_seq ?_
    refine cW_region ?_
    refine wS_pure 2 [(4, .int .i64 (x51)), (20, .int .i64 (x51))] (by kernel_rfl) ?_
    refine wS_end (by rfl) ?_
    refine eX_then ?_
    refine cW_ret ?_
    have hq : (some x51 : Option ((Int))) = some _ := hm
    replace hq := someE hq
    subst hq
    refine eX_ret (vs := [.int .i64 (x51)]) [.tmp 4] (by rfl) ⟨by (show lkE _ _ _ = _); kernel_rfl, trivial⟩ ?_
    exact ⟨rfl, hB⟩

set_option maxRecDepth 100000 in
/-- impl.StarLength -/
theorem c_impl_StarLength {w0 : World} {l0 : List (Int × Int)} {A0 : Option Addr} {cap0 : Nat} {fp0 : List Nat} {p1_0 : Int} {p1_1 : Int} {r : (Int) × (Bool)} (hm : m_impl_StarLength l0 p1_0 p1_1 = some r) (F0 : Sl 2 encII w0 fp0 A0 l0) :
    Calls Try.prog 49 #[.slice A0 (l0).length cap0, .agg #[.int .i64 (p1_0), .int .i64 (p1_1)]] w0 fun e w' => e = .returned (.tuple #[.int .i64 (r.1), .bool (r.2)]) ∧ Chg [] w0 w' := by
  have L0 := F0.low
  have hB : Chg [] w0 w0 := Chg.refl _ _
  have hZ := Nat.le_refl w0.heap.size
  unfold m_impl_StarLength at hm
  refine enterE (N := 17) Try.func49 (by rfl) Try.ntmps49 (by simp) [(0, .slice A0 (l0).length cap0), (1, .agg #[.int .i64 (p1_0), .int .i64 (p1_1)])] (by rfl) (by kernel_rfl) (fun a => ?_)
  refine cW_seq ?_
  refine cW_region ?_
  refine wS_box (d := 3) (T := 37) (x := .agg #[.int .i64 (p1_0), .int .i64 (p1_1)]) (by kernel_rfl) ?_
  intro b2 w3 G4 F5 hc6
  replace F5 : Cl w3 b2 37 [.int .i64 (p1_0), .int .i64 (p1_1)] := F5
  replace F0 := F0.chg hc6 Dj.nil
  replace hB := hB.inS hc6 inNil
  replace G4 := Nat.le_trans hZ G4
  replace hZ := Nat.le_trans hZ hc6.size
  refine wS_pure 2 [(5, .bool (false)), (4, .int .i64 (0))] (by kernel_rfl) ?_
  refine wS_end (by rfl) ?_
  refine eX_then ?_
  refine cW_seq ?_
  refine cW_seq ?_
  refine cW_region ?_
  refine wS_pure 1 [(6, .slice A0 (l0).length cap0)] (by kernel_rfl) ?_
  obtain ⟨y8, hy9, hm⟩ := bindE hm
  refine wS_calls (d := 7) (f := 111) (vs := [.slice A0 (l0).length cap0]) (by kernel_rfl) ent111 (c_impl_ArePins hy9 F0) ?_
  rintro _ w10 ⟨rfl, hc11⟩
  replace F0 := F0.chg hc11 Dj.nil
  replace F5 := F5.chg hc11 notNil
  replace hB := hB.inS hc11 inNil
  replace hZ := Nat.le_trans hZ hc11.size
  refine ⟨.bool (y8), rfl, ?_⟩
  refine wS_pure 2 [(9, .bool (!y8)), (8, .bool (!y8))] (by kernel_rfl) ?_
  refine wS_bool (!y8) (fun hb12 => ?_) (fun hb12 => ?_)
  · have hm := condT hb12 hm
    rewrite [hb12]
    refine wS_pure 4 [(13, .bool (true)), (12, undef), (11, undef), (10, undef)] (by kernel_rfl) ?_
    refine wS_end (by rfl) ?_
    refine eX_then ?_
    refine cW_cond_t (by kernel_rfl) ?_
    refine cW_seq ?_
    refine cW_region ?_
    refine wS_pure 2 [(5, .bool (false)), (4, .int .i64 (0))] (by kernel_rfl) ?_
    refine wS_end (by rfl) ?_
    refine eX_then ?_
    refine cW_ret ?_
    refine eX_then_ret ?_
    have hq : (some ((0, false)) : Option ((Int) × (Bool))) = some _ := hm
    replace hq := someE hq
    subst hq
    refine eX_ret (vs := [.int .i64 (0), .bool (false)]) [.tmp 4, .tmp 5] (by rfl) ⟨by (show lkE _ _ _ = _); kernel_rfl, ⟨by (show lkE _ _ _ = _); kernel_rfl, trivial⟩⟩ ?_
    exact ⟨rfl, hB⟩
  · have hm := condF hb12 hm
    rewrite [hb12]
    refine wS_loadA (d := 10) (T := 37) (ad := ⟨b2, 0, none⟩) (vs := [.int .i64 (p1_0), .int .i64 (p1_1)]) (by kernel_rfl) vt37 (fun i u hu => box_cells F5 0 hu (by rfl)) ?_
    obtain ⟨y13, hy14, hm⟩ := bindE hm
    refine wS_calls (d := 11) (f := 84) (vs := [.agg #[.int .i64 (p1_0), .int .i64 (p1_1)]]) (by kernel_rfl) ent84 (c_impl_IsPoint hy14) ?_
    rintro _ w15 ⟨rfl, hc16⟩
    replace F0 := F0.chg hc16 Dj.nil
    replace F5 := F5.chg hc16 notNil
    replace hB := hB.inS hc16 inNil
    replace hZ := Nat.le_trans hZ hc16.size
    refine ⟨.bool (y13), rfl, ?_⟩
    refine wS_pure 2 [(13, .bool (!y13)), (12, .bool (!y13))] (by kernel_rfl) ?_
    refine wS_end (by rfl) ?_
    refine eX_then ?_
    refine cW_cond (t := !y13) (by kernel_rfl) (fun hb17 => ?_) (fun hb17 => ?_)
    · have hm := condT hb17 hm
      refine cW_seq ?_
      refine cW_region ?_
      refine wS_pure 2 [(5, .bool (false)), (4, .int .i64 (0))] (by kernel_rfl) ?_
      refine wS_end (by rfl) ?_
      refine eX_then ?_
      refine cW_ret ?_
      refine eX_then_ret ?_
      have hq : (some ((0, false)) : Option ((Int) × (Bool))) = some _ := hm
      replace hq := someE hq
      subst hq
      refine eX_ret (vs := [.int .i64 (0), .bool (false)]) [.tmp 4, .tmp 5] (by rfl) ⟨by (show lkE _ _ _ = _); kernel_rfl, ⟨by (show lkE _ _ _ = _); kernel_rfl, trivial⟩⟩ ?_
      exact ⟨rfl, hB⟩
    · have hm := condF hb17 hm
      refine cW_skip ?_
      refine eX_then ?_
      refine cW_seq ?_
      refine cW_region ?_
      refine wS_pure 1 [(14, .slice A0 (l0).length cap0)] (by kernel_rfl) ?_
      refine wS_loadA (d := 15) (T := 37) (ad := ⟨b2, 0, none⟩) (vs := [.int .i64 (p1_0), .int .i64 (p1_1)]) (by kernel_rfl) vt37 (fun i u hu => box_cells F5 0 hu (by rfl)) ?_
      obtain ⟨y18, hy19, hm⟩ := bindE hm
      refine wS_calls (d := 16) (f := 113) (vs := [.slice A0 (l0).length cap0, .agg #[.int .i64 (p1_0), .int .i64 (p1_1)]]) (by kernel_rfl) ent113 (c_impl_star hy19 F0) ?_
      rintro _ w20 ⟨rfl, hc21⟩
      replace F0 := F0.chg hc21 Dj.nil
      replace F5 := F5.chg hc21 notNil
      replace hB := hB.inS hc21 inNil
      replace hZ := Nat.le_trans hZ hc21.size
      refine ⟨.int .i64 (y18), rfl, ?_⟩
      refine wS_pure 2 [(5, .bool (true)), (4, .int .i64 (y18))] (by kernel_rfl) ?_
      refine wS_end (by rfl) ?_
      refine eX_then ?_
      refine cW_ret ?_
      have hq : (some ((y18, true)) : Option ((Int) × (Bool))) = some _ := hm
      replace hq := someE hq
      subst hq
      refine eX_ret (vs := [.int .i64 (y18), .bool (true)]) [.tmp 4, .tmp 5] (by rfl) ⟨by (show lkE _ _ _ = _); kernel_rfl, ⟨by (show lkE _ _ _ = _); kernel_rfl, trivial⟩⟩ ?_
      exact ⟨rfl, hB⟩

set_option maxRecDepth 100000 in
/-- laws.FnFurther -/
theorem c_laws_FnFurther {w0 : World} {l0 : List (Int)} {A0 : Option Addr} {cap0 : Nat} {fp0 : List Nat} {l1 : List (Int)} {A1 : Option Addr} {cap1 : Nat} {fp1 : List Nat} {r : (Bool)} (hm : m_laws_FnFurther l0 l1 = some r) (F0 : Sl 1 encU w0 fp0 A0 l0) (F1 : Sl 1 encU w0 fp1 A1 l1) :
    Calls Try.prog 7 #[.slice A0 (l0).length cap0, .slice A1 (l1).length cap1] w0 fun e w' => e = .returned (.bool (r)) ∧ Chg [] w0 w' := by
  have L0 := F0.low
  have L1 := F1.low
  have hB : Chg [] w0 w0 := Chg.refl _ _
  have hZ := Nat.le_refl w0.heap.size
  unfold m_laws_FnFurther at hm
  refine enterE (N := 207) Try.func7 (by rfl) Try.ntmps7 (by simp) [(0, .slice A0 (l0).length cap0), (1, .slice A1 (l1).length cap1)] (by rfl) (by kernel_rfl) (fun a => ?_)
  refine cW_seq ?_
  refine cW_region ?_
  refine wS_pure 1 [(4, .bool (false))] (by kernel_rfl) ?_
  refine wS_end (by rfl) ?_
  refine eX_then ?_
  refine cW_seq ?_
  refine cW_seq ?_
  refine cW_region ?_
  refine wS_pure 2 [(34, .slice A1 (l1).length cap1), (33, .slice A0 (l0).length cap0)] (by kernel_rfl) ?_
  obtain ⟨y3, hy4, hm⟩ := bindE hm
  refine wS_calls (d := 35) (f := 39) (vs := [.slice A0 (l0).length cap0, .slice A1 (l1).length cap1]) (by kernel_rfl) ent39 (c_laws_b10Long hy4 F0 F1) ?_
  rintro _ w5 ⟨rfl, hc6⟩
  replace F0 := F0.chg hc6 Dj.nil
  replace F1 := F1.chg hc6 Dj.nil
  replace hB := hB.inS hc6 inNil
  replace hZ := Nat.le_trans hZ hc6.size
  refine ⟨.bool (y3), rfl, ?_⟩
  refine wS_end (by rfl) ?_
  refine eX_then ?_
  refine cW_cond (t := y3) (by kernel_rfl) (fun hb7 => ?_) (fun hb7 => ?_)
  · have hm := condT hb7 hm
    refine cW_seq ?_
    refine cW_region ?_
    refine wS_pure 1 [(4, .bool (true))] (by kernel_rfl) ?_
    refine wS_end (by rfl) ?_
    refine eX_then ?_
    refine cW_ret ?_
    refine eX_then_ret ?_
    have hq : (some true : Option ((Bool))) = some _ := hm
    replace hq := someE hq
    subst hq
    refine eX_ret (vs := [.bool (true)]) [.tmp 4] (by rfl) ⟨by (show lkE _ _ _ = _); kernel_rfl, trivial⟩ ?_
    exact ⟨rfl, hB⟩
  · have hm := condF hb7 hm
    refine cW_skip ?_
    refine eX_then ?_
    refine cW_seq ?_
    refine cW_region ?_
    refine wS_pure 1 [(36, .slice A0 (l0).length cap0)] (by kernel_rfl) ?_
    obtain ⟨y8, hy9, hm⟩ := bindE hm
    refine wS_calls (d := 37) (f := 40) (vs := [.slice A0 (l0).length cap0, .int .i64 (6)]) (by kernel_rfl) ent40 (c_spec_B10Pins hy9 F0) ?_
    rintro _ w10 ⟨A12, cap13, fp14, rfl, F15, G16, hc11⟩
    replace F0 := F0.chg hc11 Dj.nil
    replace F1 := F1.chg hc11 Dj.nil
    replace hB := hB.inS hc11 inNil
    replace G16 := low_le hZ G16
    replace hZ := Nat.le_trans hZ hc11.size
    refine ⟨.slice A12 (y8).length cap13, rfl, ?_⟩
    refine wS_pure 1 [(5, .slice A12 (y8).length cap13)] (by kernel_rfl) ?_
    refine wS_end (by rfl) ?_
    refine eX_then ?_
    refine cW_seq ?_
    refine cW_region ?_
    refine wS_pure 1 [(39, .slice A12 (y8).length cap13)] (by kernel_rfl) ?_
    obtain ⟨y19, hy20, hm⟩ := bindE hm
    refine wS_calls (d := 40) (f := 41) (vs := [.slice A12 (y8).length cap13]) (by kernel_rfl) ent41 (c_impl_HananPoints hy20 (F15.sl encII_ok)) ?_
    rintro _ w21 ⟨A23, cap24, fp25, rfl, F26, G27, hc22⟩
    have D30 : Dj fp14 fp25 := Dj.of F15.low G27
    replace F0 := F0.chg hc22 Dj.nil
    replace F1 := F1.chg hc22 Dj.nil
    replace F15 := F15.chg hc22 Dj.nil
    replace hB := hB.inS hc22 inNil
    replace G27 := low_le hZ G27
    replace hZ := Nat.le_trans hZ hc22.size
    refine ⟨.tuple #[.slice A23 (y19.1).length cap24, .bool (y19.2)], rfl, ?_⟩
    refine wS_pure 5 [(7, .bool (y19.2)), (6, .slice A23 (y19.1).length cap24), (42, .bool (y19.2)), (41, .slice A23 (y19.1).length cap24), (38, .tuple #[.slice A23 (y19.1).length cap24, .bool (y19.2)])] (by kernel_rfl) ?_
    refine wS_end (by rfl) ?_
    refine eX_then ?_
    refine cW_seq ?_
    refine cW_region ?_
    refine wS_pure 1 [(44, .slice A12 (y8).length cap13)] (by kernel_rfl) ?_
    obtain ⟨y31, hy32, hm⟩ := bindE hm
    refine wS_calls (d := 45) (f := 42) (vs := [.slice A12 (y8).length cap13]) (by kernel_rfl) ent42 (c_impl_OneByOne hy32 (F15.sl encII_ok)) ?_
    rintro _ w33 ⟨A35, cap36, fp37, rfl, F38, G39, hc34⟩
    have D42 : Dj fp14 fp37 := Dj.of F15.low G39
    have D43 : Dj fp25 fp37 := Dj.of F26.low G39
    replace F0 := F0.chg hc34 Dj.nil
    replace F1 := F1.chg hc34 Dj.nil
    replace F15 := F15.chg hc34 Dj.nil
    replace F26 := F26.chg hc34 Dj.nil
    replace hB := hB.inS hc34 inNil
    replace G39 := low_le hZ G39
    replace hZ := Nat.le_trans hZ hc34.size
    refine ⟨.tuple #[.slice A35 (y31.1).length cap36, .int .i64 (y31.2.1), .bool (y31.2.2)], rfl, ?_⟩
    refine wS_pure 7 [(10, .bool (y31.2.2)), (9, .int .i64 (y31.2.1)), (8, .slice A35 (y31.1).length cap36), (48, .bool (y31.2.2)), (47, .int .i64 (y31.2.1)), (46, .slice A35 (y31.1).length cap36), (43, .tuple #[.slice A35 (y31.1).length cap36, .int .i64 (y31.2.1), .bool (y31.2.2)])] (by kernel_rfl) ?_
    refine wS_end (by rfl) ?_
    refine eX_then ?_
    refine cW_prune [(1, .slice A1 (l1).length cap1), (5, .slice A12 (y8).length cap13), (6, .slice A23 (y19.1).length cap24), (7, .bool (y19.2)), (8, .slice A35 (y31.1).length cap36), (9, .int .i64 (y31.2.1)), (10, .bool (y31.2.2))] (by kernel_rfl) (by kernel_rfl) (fun a44 => ?_)
    refine cW_seq ?_
    refine cW_seq ?_
    refine cW_region ?_
    refine wS_pure 3 [(51, .bool (!y19.2)), (50, .bool (!y19.2)), (49, .bool (y19.2))] (by kernel_rfl) ?_
    refine wS_bool (!y19.2) (fun hb45 => ?_) (fun hb45 => ?_)
    · have hm := condT hb45 hm
      rewrite [hb45]
      refine wS_pure 8 [(59, .bool (true)), (58, undef), (57, undef), (56, undef), (55, .bool (true)), (54, .bool (true)), (53, undef), (52, undef)] (by kernel_rfl) ?_
      refine wS_end (by rfl) ?_
      refine eX_then ?_
      refine cW_cond_t (by kernel_rfl) ?_
      refine cW_seq ?_
      refine cW_region ?_
      refine wS_pure 1 [(4, .bool (false))] (by kernel_rfl) ?_
      refine wS_end (by rfl) ?_
      refine eX_then ?_
      refine cW_ret ?_
      refine eX_then_ret ?_
      have hq : (some false : Option ((Bool))) = some _ := hm
      replace hq := someE hq
      subst hq
      refine eX_ret (vs := [.bool (false)]) [.tmp 4] (by rfl) ⟨by (show lkE _ _ _ = _); kernel_rfl, trivial⟩ ?_
      exact ⟨rfl, hB⟩
    · have hm := condF hb45 hm
      rewrite [hb45]
      refine wS_pure 4 [(55, .bool (!y31.2.2)), (54, .bool (!y31.2.2)), (53, .bool (!y31.2.2)), (52, .bool (y31.2.2))] (by kernel_rfl) ?_
      refine wS_bool (!y31.2.2) (fun hb46 => ?_) (fun hb46 => ?_)
      · have hm := condT hb46 hm
        rewrite [hb46]
        refine wS_pure 4 [(59, .bool (true)), (58, undef), (57, undef), (56, undef)] (by kernel_rfl) ?_
        refine wS_end (by rfl) ?_
        refine eX_then ?_
        refine cW_cond_t (by kernel_rfl) ?_
        refine cW_seq ?_
        refine cW_region ?_
        refine wS_pure 1 [(4, .bool (false))] (by kernel_rfl) ?_
        refine wS_end (by rfl) ?_
        refine eX_then ?_
        refine cW_ret ?_
        refine eX_then_ret ?_
        have hq : (some false : Option ((Bool))) = some _ := hm
        replace hq := someE hq
        subst hq
        refine eX_ret (vs := [.bool (false)]) [.tmp 4] (by rfl) ⟨by (show lkE _ _ _ = _); kernel_rfl, trivial⟩ ?_
        exact ⟨rfl, hB⟩
      · have hm := condF hb46 hm
        rewrite [hb46]
        refine wS_pure 4 [(59, .bool (decide ((((y19.1).length : Int)) < 1))), (58, .bool (decide ((((y19.1).length : Int)) < 1))), (57, .int .i64 (((y19.1).length : Int))), (56, .slice A23 (y19.1).length cap24)] (by kernel_rfl) ?_
        refine wS_end (by rfl) ?_
        refine eX_then ?_
        refine cW_cond (t := decide ((((y19.1).length : Int)) < 1)) (by kernel_rfl) (fun hb47 => ?_) (fun hb47 => ?_)
        · have hm := condT hb47 hm
          refine cW_seq ?_
          refine cW_region ?_
          refine wS_pure 1 [(4, .bool (false))] (by kernel_rfl) ?_
          refine wS_end (by rfl) ?_
          refine eX_then ?_
          refine cW_ret ?_
          refine eX_then_ret ?_
          have hq : (some false : Option ((Bool))) = some _ := hm
          replace hq := someE hq
          subst hq
          refine eX_ret (vs := [.bool (false)]) [.tmp 4] (by rfl) ⟨by (show lkE _ _ _ = _); kernel_rfl, trivial⟩ ?_
          exact ⟨rfl, hB⟩
        · have hm := condF hb47 hm
          refine cW_skip ?_
          refine eX_then ?_
          refine cW_seq ?_
          refine cW_seq ?_
          refine cW_region ?_
          refine wS_pure 1 [(11, .int .i64 (0))] (by kernel_rfl) ?_
          refine wS_end (by rfl) ?_
          refine eX_then ?_
          obtain ⟨r326, hr327, hm⟩ := bindE hm
          have hm328 := hm
          refine cW_cut (fun a' w' => Sum.inl (()) = r326 ∧ Fr 207 [(1, .slice A1 (l1).length cap1), (5, .slice A12 (y8).length cap13), (6, .slice A23 (y19.1).length cap24), (8, .slice A35 (y31.1).length cap36), (9, .int .i64 (y31.2.1))] a' ∧ Sl 1 encU w' fp1 A1 l1 ∧ Ow 2 encII 37 w' fp14 A12 cap13 y8 ∧ Ow 2 encII 37 w' fp25 A23 cap24 y19.1 ∧ Ow 2 encII 37 w' fp37 A35 cap36 y31.1 ∧ Chg [] w0 w' ∧ w0.heap.size ≤ w'.heap.size) ?_ ?_
          · refine cW_block ?_
            refine cW_loop _ (fun (s329 : Int) a' w' => ∃ x320 : Int, x320 = s329 ∧ Fr 207 [(1, .slice A1 (l1).length cap1), (5, .slice A12 (y8).length cap13), (6, .slice A23 (y19.1).length cap24), (8, .slice A35 (y31.1).length cap36), (9, .int .i64 (y31.2.1)), (11, .int .i64 (x320))] a' ∧ Sl 1 encU w' fp1 A1 l1 ∧ Ow 2 encII 37 w' fp14 A12 cap13 y8 ∧ Ow 2 encII 37 w' fp25 A23 cap24 y19.1 ∧ Ow 2 encII 37 w' fp37 A35 cap36 y31.1 ∧ Chg [] w0 w' ∧ w0.heap.size ≤ w'.heap.size) hr327 (fun hst => ⟨0, rfl, Fr.of hst (by kernel_rfl), F1, F15, F26, F38, hB, hZ⟩) ?_
            rintro _ c330 a' w319 ⟨x320, rfl, hF321, F322, F323, F324, F325, hB, hZ⟩ hx331
            refine Fr.goOn hF321 (by kernel_rfl) ?_
            have hm := hx331
            unfold m_laws_FnFurther_s3 at hm
            refine cW_seq ?_
            refine cW_seq ?_
            refine cW_region ?_
            refine wS_pure 4 [(63, .bool (decide (x320 < (((y8).length : Int))))), (62, .int .i64 (((y8).length : Int))), (61, .slice A12 (y8).length cap13), (60, .int .i64 (x320))] (by kernel_rfl) ?_
            refine wS_end (by rfl) ?_
            refine eX_then ?_
            refine cW_cond (t := decide (x320 < (((y8).length : Int)))) (by kernel_rfl) (fun hb332 => ?_) (fun hb332 => ?_)
            · have hm := condT hb332 hm
              refine cW_skip ?_
              refine eX_then ?_
              refine cW_seq ?_
              refine cW_block ?_
              refine cW_seq ?_
              refine cW_region ?_
              refine wS_pure 1 [(12, .int .i64 (0))] (by kernel_rfl) ?_
              refine wS_end (by rfl) ?_
              refine eX_then ?_
              obtain ⟨r419, hr420, hm⟩ := bindE hm
              have hm421 := hm
              refine cW_cut (fun a' w' => Sum.inl (()) = r419 ∧ Fr 207 [(1, .slice A1 (l1).length cap1), (5, .slice A12 (y8).length cap13), (6, .slice A23 (y19.1).length cap24), (8, .slice A35 (y31.1).length cap36), (9, .int .i64 (y31.2.1)), (11, .int .i64 (x320))] a' ∧ Sl 1 encU w' fp1 A1 l1 ∧ Ow 2 encII 37 w' fp14 A12 cap13 y8 ∧ Ow 2 encII 37 w' fp25 A23 cap24 y19.1 ∧ Ow 2 encII 37 w' fp37 A35 cap36 y31.1 ∧ Chg [] w0 w' ∧ w0.heap.size ≤ w'.heap.size) ?_ ?_
              · refine cW_block ?_
                refine cW_loop _ (fun (s422 : Int) a' w' => ∃ x413 : Int, x413 = s422 ∧ Fr 207 [(1, .slice A1 (l1).length cap1), (5, .slice A12 (y8).length cap13), (6, .slice A23 (y19.1).length cap24), (8, .slice A35 (y31.1).length cap36), (9, .int .i64 (y31.2.1)), (11, .int .i64 (x320)), (12, .int .i64 (x413))] a' ∧ Sl 1 encU w' fp1 A1 l1 ∧ Ow 2 encII 37 w' fp14 A12 cap13 y8 ∧ Ow 2 encII 37 w' fp25 A23 cap24 y19.1 ∧ Ow 2 encII 37 w' fp37 A35 cap36 y31.1 ∧ Chg [] w0 w' ∧ w0.heap.size ≤ w'.heap.size) hr420 (fun hst => ⟨0, rfl, Fr.of hst (by kernel_rfl), F322, F323, F324, F325, hB, hZ⟩) ?_
                rintro _ c423 a' w412 ⟨x413, rfl, hF414, F415, F416, F417, F418, hB, hZ⟩ hx424
                refine Fr.goOn hF414 (by kernel_rfl) ?_
                have hm := hx424
                unfold m_laws_FnFurther_s4 at hm
                refine cW_seq ?_
                refine cW_seq ?_
                refine cW_region ?_
                refine wS_pure 4 [(69, .bool (decide (x413 < (((y8).length : Int))))), (68, .int .i64 (((y8).length : Int))), (67, .slice A12 (y8).length cap13), (66, .int .i64 (x413))] (by kernel_rfl) ?_
                refine wS_end (by rfl) ?_
                refine eX_then ?_
                refine cW_cond (t := decide (x413 < (((y8).length : Int)))) (by kernel_rfl) (fun hb425 => ?_) (fun hb425 => ?_)
                · have hm := condT hb425 hm
                  refine cW_skip ?_
                  refine eX_then ?_
                  refine cW_seq ?_
                  refine cW_block ?_
                  refine cW_seq ?_
                  refine cW_drawnTail [] 12 (by kernel_rfl) (by kernel_rfl) (fun w440 hc441 => ?_)
                  replace F415 := F415.chg hc441 Dj.nil
                  replace F416 := F416.chg hc441 Dj.nil
                  replace F417 := F417.chg hc441 Dj.nil
                  replace F418 := F418.chg hc441 Dj.nil
                  replace hB := hB.inS hc441 inNil
                  replace hZ := Nat.le_trans hZ hc441.size
                  have hS := Chg.refl [] w440
                  have Z442 := F415
                  have Z443 := F416
                  have Z444 := F417
                  have Z445 := F418
                  refine wH_take [0, 1, 2] [2, 1, 0] [(74, .int .i64 (x320)), (73, .slice A12 (y8).length cap13), (72, .slice A23 (y19.1).length cap24)] (by kernel_rfl) (qT (qT (qB (qT (qL (qB (qT (qB (qT (qL (qB (qT (qT qZ))))))))))))) (by kernel_rfl) ?_
                  obtain ⟨x446, hx447, hm⟩ := bindE hm
                  refine wH_idx (i := 3) (d := 75) (T := 32) (A := A12) (n := (y8).length) (cap := cap13) (kd := .i64) (m := x320) (by kernel_rfl) (qT (qT (qB (qT (qL (qB (qT (qB (qT (qL (qB (qT (qT qZ))))))))))))) (by kernel_rfl) (by kernel_rfl) sl32 ((F416.sl encII_ok).is hx447) ?_
                  refine wH_take [4] [4, 3, 2, 1, 0] [(76, .pointer (some (elA A12 2 (x320) 0)))] (by kernel_rfl) (qT (qT (qB (qT (qL (qB (qT (qB (qT (qL (qB (qT (qT qZ))))))))))))) (by kernel_rfl) ?_
                  refine wH_load1 (i := 5) (d := 77) (T := 2) (ad := (elA A12 2 (x320) 0)) (v := .int .i64 (x446.1)) (by kernel_rfl) (qT (qT (qB (qT (qL (qB (qT (qB (qT (qL (qB (qT (qT qZ))))))))))))) (by kernel_rfl) (by kernel_rfl) vt2 (fun W hW => Sl.cell ((Z443.chg hW Dj.nil).sl encII_ok) hx447 0 (by rfl)) ?_
                  refine wH_take [6, 7] [7, 6, 5, 4, 3, 2, 1, 0] [(79, .int .i64 (x413)), (78, .slice A12 (y8).length cap13)] (by kernel_rfl) (qT (qT (qB (qT (qL (qB (qT (qB (qT (qL (qB (qT (qT qZ))))))))))))) (by kernel_rfl) ?_
                  obtain ⟨x448, hx449, hm⟩ := bindE hm
                  refine wH_idx (i := 8) (d := 80) (T := 32) (A := A12) (n := (y8).length) (cap := cap13) (kd := .i64) (m := x413) (by kernel_rfl) (qT (qT (qB (qT (qL (qB (qT (qB (qT (qL (qB (qT (qT qZ))))))))))))) (by kernel_rfl) (by kernel_rfl) sl32 ((F416.sl encII_ok).is hx449) ?_
                  refine wH_take [9] [9, 8, 7, 6, 5, 4, 3, 2, 1, 0] [(81, .pointer (some (elA A12 2 (x413) 1)))] (by kernel_rfl) (qT (qT (qB (qT (qL (qB (qT (qB (qT (qL (qB (qT (qT qZ))))))))))))) (by kernel_rfl) ?_
                  refine wH_load1 (i := 10) (d := 82) (T := 2) (ad := (elA A12 2 (x413) 1)) (v := .int .i64 (x448.2)) (by kernel_rfl) (qT (qT (qB (qT (qL (qB (qT (qB (qT (qL (qB (qT (qT qZ))))))))))))) (by kernel_rfl) (by kernel_rfl) vt2 (fun W hW => Sl.cell ((Z443.chg hW Dj.nil).sl encII_ok) hx449 1 (by rfl)) ?_
                  refine wH_take [11] [11, 10, 9, 8, 7, 6, 5, 4, 3, 2, 1, 0] [(83, .agg #[.int .i64 (x446.1), .int .i64 (x448.2)])] (by kernel_rfl) (qT (qT (qB (qT (qL (qB (qT (qB (qT (qL (qB (qT (qT qZ))))))))))))) (by kernel_rfl) ?_
                  refine wH_done (by kernel_rfl) ?_
                  refine eX_tail ?_
                  obtain ⟨y450, hy451, hm⟩ := bindE hm
                  refine wS_calls (d := 84) (f := 43) (vs := [.slice A23 (y19.1).length cap24, .agg #[.int .i64 (x446.1), .int .i64 (x448.2)]]) (by kernel_rfl) ent43 (c_laws_b10In hy451 (F417.sl encII_ok)) ?_
                  rintro _ w452 ⟨rfl, hc453⟩
                  replace F415 := F415.chg hc453 Dj.nil
                  replace F416 := F416.chg hc453 Dj.nil
                  replace F417 := F417.chg hc453 Dj.nil
                  replace F418 := F418.chg hc453 Dj.nil
                  replace hB := hB.inS hc453 inNil
                  replace hZ := Nat.le_trans hZ hc453.size
                  refine ⟨.bool (y450), rfl, ?_⟩
                  refine wS_pure 1 [(85, .bool (!y450))] (by kernel_rfl) ?_
                  refine wS_end (by rfl) ?_
                  refine eX_then ?_
                  refine cW_prune [(1, .slice A1 (l1).length cap1), (5, .slice A12 (y8).length cap13), (6, .slice A23 (y19.1).length cap24), (8, .slice A35 (y31.1).length cap36), (9, .int .i64 (y31.2.1)), (11, .int .i64 (x320)), (12, .int .i64 (x413)), (85, .bool (!y450))] (by kernel_rfl) (by kernel_rfl) (fun a454 => ?_)
                  refine cW_cond (t := !y450) (by kernel_rfl) (fun hb455 => ?_) (fun hb455 => ?_)
                  · have hm := condT hb455 hm
                    refine cW_seq ?_
                    refine cW_region ?_
                    refine wS_pure 1 [(4, .bool (false))] (by kernel_rfl) ?_
                    refine wS_end (by rfl) ?_
                    refine eX_then ?_
                    refine cW_ret ?_
                    refine eX_block_ret ?_
                    refine eX_then_ret ?_
                    have hq : (some (Ctl.out (Sum.inr false)) : Option (Ctl (Int) (Sum (Unit) ((Bool))))) = some _ := hm
                    replace hq := someE hq
                    subst hq
                    refine eX_outR hx424 (fun hr => ?_)
                    subst hr
                    refine eX_block_ret ?_
                    refine eX_then_ret ?_
                    refine eX_block_ret ?_
                    refine eX_then_ret ?_
                    have hq : (some (Ctl.out (Sum.inr false)) : Option (Ctl (Int) (Sum (Unit) ((Bool))))) = some _ := hm421
                    replace hq := someE hq
                    subst hq
                    refine eX_outR hx331 (fun hr => ?_)
                    subst hr
                    refine eX_block_ret ?_
                    refine eX_then_ret ?_
                    refine eX_then_ret ?_
                    have hq : (some false : Option ((Bool))) = some _ := hm328
                    replace hq := someE hq
                    subst hq
                    refine eX_ret (vs := [.bool (false)]) [.tmp 4] (by rfl) ⟨by (show lkE _ _ _ = _); kernel_rfl, trivial⟩ ?_
                    exact ⟨rfl, hB⟩
                  · have hm := condF hb455 hm
                    refine cW_skip ?_
                    refine eX_block ?_
                    refine eX_then ?_
                    refine cW_region ?_
                    refine wS_pure 3 [(12, .int .i64 (wr (x413 + 1))), (71, .int .i64 (wr (x413 + 1))), (70, .int .i64 (x413))] (by kernel_rfl) ?_
                    refine wS_end (by rfl) ?_
                    have hq : (some (Ctl.next (wr (x413 + 1))) : Option (Ctl (Int) (Sum (Unit) ((Bool))))) = some _ := hm
                    replace hq := someE hq
                    subst hq
                    exact eX_next hx424 (fun hst => ⟨wr (x413 + 1), rfl, Fr.of hst (by kernel_rfl), F415, F416, F417, F418, hB, hZ⟩)
                · have hm := condF hb425 hm
                  refine cW_exit ?_
                  refine eX_then_exit ?_
                  have hq : (some (Ctl.out (Sum.inl (()))) : Option (Ctl (Int) (Sum (Unit) ((Bool))))) = some _ := hm
                  replace hq := someE hq
                  subst hq
                  refine eX_outX hx424 (fun hr456 => ?_)
                  replace hr456 := hr456.symm
                  subst hr456
                  refine eX_block_hit ?_
                  exact eX_J (fun hst => ⟨rfl, Fr.of hst (by kernel_rfl), F415, F416, F417, F418, hB, hZ⟩)
              · rintro a' w406 ⟨hJ, hF407, F408, F409, F410, F411, hB, hZ⟩
                subst hJ
                refine Fr.goX hF407 (by kernel_rfl) ?_
                refine eX_block ?_
                refine eX_then ?_
                refine cW_region ?_
                refine wS_pure 3 [(11, .int .i64 (wr (x320 + 1))), (65, .int .i64 (wr (x320 + 1))), (64, .int .i64 (x320))] (by kernel_rfl) ?_
                refine wS_end (by rfl) ?_
                have hq : (some (Ctl.next (wr (x320 + 1))) : Option (Ctl (Int) (Sum (Unit) ((Bool))))) = some _ := hm
                replace hq := someE hq
                subst hq
                exact eX_next hx331 (fun hst => ⟨wr (x320 + 1), rfl, Fr.of hst (by kernel_rfl), F408, F409, F410, F411, hB, hZ⟩)
            · have hm := condF hb332 hm
              refine cW_exit ?_
              refine eX_then_exit ?_
              have hq : (some (Ctl.out (Sum.inl (()))) : Option (Ctl (Int) (Sum (Unit) ((Bool))))) = some _ := hm
              replace hq := someE hq
              subst hq
              refine eX_outX hx331 (fun hr459 => ?_)
              replace hr459 := hr459.symm
              subst hr459
              refine eX_block_hit ?_
              exact eX_J (fun hst => ⟨rfl, Fr.of hst (by kernel_rfl), F322, F323, F324, F325, hB, hZ⟩)
          · rintro a' w313 ⟨hJ, hF314, F315, F316, F317, F318, hB, hZ⟩
            subst hJ
            refine Fr.goX hF314 (by kernel_rfl) ?_
            refine eX_then ?_
            refine cW_seq ?_
            refine cW_region ?_
            refine wS_bs0 (α := Int × Int) (enc := encII) (d := 86) (t := 32) (T := 37) (by kernel_rfl) el32 ?_
            intro b460 w461 G462 F463 hc464
            have D466 : Dj fp14 [b460] := Dj.of F316.low (low1 G462)
            have D467 : Dj fp25 [b460] := Dj.of F317.low (low1 G462)
            have D468 : Dj fp37 [b460] := Dj.of F318.low (low1 G462)
            replace F315 := F315.chg hc464 Dj.nil
            replace F316 := F316.chg hc464 Dj.nil
            replace F317 := F317.chg hc464 Dj.nil
            replace F318 := F318.chg hc464 Dj.nil
            replace hB := hB.inS hc464 inNil
            replace G462 := Nat.le_trans hZ G462
            replace G462 := low1 G462
            replace hZ := Nat.le_trans hZ hc464.size
            refine wS_pure 1 [(87, .slice A12 (y8).length cap13)] (by kernel_rfl) ?_
            obtain ⟨_, hk469, hm⟩ := bindE hm
            replace hk469 := apE hk469
            refine wS_appendAny (enc := encII) (l := (([] : List (Int × Int)) : List (Int × Int))) (l2 := (y8 : List (Int × Int))) (d := 88) (t := 32) (T := 37) (A := (some ⟨b460, 0, none⟩)) (A2 := A12) (cap := 0) (cap2 := cap13) (by kernel_rfl) el32 encII_ok F463 (F316.sl encII_ok) hk469 ?_
            intro w470 fp471 A472 cap473 F474 hc475 hp476
            have G478 := low_ap G462 hZ hp476
            have D479 : Dj fp14 fp471 := Dj.ap D466 F316.low hp476
            have D480 : Dj fp25 fp471 := Dj.ap D467 F317.low hp476
            have D481 : Dj fp37 fp471 := Dj.ap D468 F318.low hp476
            replace F315 := F315.chg hc475 (Dj.of L1 G462)
            replace F316 := F316.chg hc475 D466
            replace F317 := F317.chg hc475 D467
            replace F318 := F318.chg hc475 D468
            replace hB := hB.inS hc475 (inLow G462)
            replace hZ := Nat.le_trans hZ hc475.size
            refine wS_pure 1 [(13, .slice A472 ((([] : List (Int × Int))) ++ y8).length cap473)] (by kernel_rfl) ?_
            refine wS_end (by rfl) ?_
            refine eX_then ?_
            refine cW_seq ?_
            refine cW_region ?_
            refine wS_pure 1 [(90, .slice A472 ((([] : List (Int × Int))) ++ y8).length cap473)] (by kernel_rfl) ?_
            obtain ⟨y482, hy483, hm⟩ := bindE hm
            refine wS_calls (d := 91) (f := 44) (vs := [.slice A472 ((([] : List (Int × Int))) ++ y8).length cap473]) (by kernel_rfl) ent44 (c_spec_SpanningTree hy483 (F474.sl encII_ok) F474.cap_le) ?_
            rintro _ w484 ⟨A486, cap487, fp488, fr491, rfl, F489, G490, hc485⟩
            have D493 : Dj fp14 (fp488 ++ fr491) := Dj.of F316.low G490
            have D494 : Dj fp25 (fp488 ++ fr491) := Dj.of F317.low G490
            have D495 : Dj fp37 (fp488 ++ fr491) := Dj.of F318.low G490
            have D496 : Dj fp471 (fp488 ++ fr491) := Dj.of F474.low G490
            replace F315 := F315.chg hc485 Dj.nil
            replace F316 := F316.chg hc485 Dj.nil
            replace F317 := F317.chg hc485 Dj.nil
            replace F318 := F318.chg hc485 Dj.nil
            replace F474 := F474.chg hc485 Dj.nil
            replace hB := hB.inS hc485 inNil
            replace G490 := low_le hZ G490
            replace hZ := Nat.le_trans hZ hc485.size
            refine ⟨.tuple #[.slice A486 (y482.1).length cap487, .int .i64 (y482.2.1), .bool (y482.2.2)], rfl, ?_⟩
            refine wS_pure 7 [(16, .bool (y482.2.2)), (15, .int .i64 (y482.2.1)), (14, .slice A486 (y482.1).length cap487), (94, .bool (y482.2.2)), (93, .int .i64 (y482.2.1)), (92, .slice A486 (y482.1).length cap487), (89, .tuple #[.slice A486 (y482.1).length cap487, .int .i64 (y482.2.1), .bool (y482.2.2)])] (by kernel_rfl) ?_
            refine wS_end (by rfl) ?_
            refine eX_then ?_
            refine cW_seq ?_
            refine cW_seq ?_
            refine cW_region ?_
            refine wS_pure 2 [(96, .bool (!y482.2.2)), (95, .bool (y482.2.2))] (by kernel_rfl) ?_
            refine wS_end (by rfl) ?_
            refine eX_then ?_
            refine cW_cond (t := !y482.2.2) (by kernel_rfl) (fun hb497 => ?_) (fun hb497 => ?_)
            · have hm := condT hb497 hm
              refine cW_seq ?_
              refine cW_region ?_
              refine wS_pure 1 [(4, .bool (false))] (by kernel_rfl) ?_
              refine wS_end (by rfl) ?_
              refine eX_then ?_
              refine cW_ret ?_
              refine eX_then_ret ?_
              have hq : (some false : Option ((Bool))) = some _ := hm
              replace hq := someE hq
              subst hq
              refine eX_ret (vs := [.bool (false)]) [.tmp 4] (by rfl) ⟨by (show lkE _ _ _ = _); kernel_rfl, trivial⟩ ?_
              exact ⟨rfl, hB⟩
            · have hm := condF hb497 hm
              refine cW_skip ?_
              refine eX_then ?_
              refine cW_seq ?_
              refine cW_seq ?_
              refine cW_region ?_
              refine wS_pure 1 [(17, .int .i64 (0))] (by kernel_rfl) ?_
              refine wS_end (by rfl) ?_
              refine eX_then ?_
              obtain ⟨r656, hr657, hm⟩ := bindE hm
              have hm658 := hm
              refine cW_cut (fun a' w' => ∃ x637 : Int, Sum.inl x637 = r656 ∧ Fr 207 [(1, .slice A1 (l1).length cap1), (9, .int .i64 (y31.2.1)), (15, .int .i64 (x637))] a' ∧ Sl 1 encU w' fp1 A1 l1 ∧ Chg [] w0 w' ∧ w0.heap.size ≤ w'.heap.size) ?_ ?_
              · refine cW_block ?_
                refine cW_loop _ (fun (s659 : (List (Int × Int)) × Int × Int) a' w' => ∃ l641 : List (Int × Int), ∃ A642 : Option Addr, ∃ cap643 : Nat, ∃ fp644 : List Nat, ∃ x646 : Int, ∃ x647 : Int, (l641, x646, x647) = s659 ∧ Fr 207 [(1, .slice A1 (l1).length cap1), (6, .slice A23 (y19.1).length cap24), (8, .slice A35 (y31.1).length cap36), (9, .int .i64 (y31.2.1)), (13, .slice A642 (l641).length cap643), (15, .int .i64 (x646)), (17, .int .i64 (x647))] a' ∧ Sl 1 encU w' fp1 A1 l1 ∧ Ow 2 encII 37 w' fp25 A23 cap24 y19.1 ∧ Ow 2 encII 37 w' fp37 A35 cap36 y31.1 ∧ Ow 2 encII 37 w' fp644 A642 cap643 l641 ∧ (∀ x ∈ fp644, w0.heap.size ≤ x) ∧ Dj fp25 fp644 ∧ Dj fp37 fp644 ∧ Chg [] w0 w' ∧ w0.heap.size ≤ w'.heap.size) hr657 (fun hst => ⟨(([] : List (Int × Int))) ++ y8, A472, cap473, fp471, y482.2.1, 0, rfl, Fr.of hst (by kernel_rfl), F315, F317, F318, F474, G478, D480, D481, hB, hZ⟩) ?_
                rintro _ c660 a' w640 ⟨l641, A642, cap643, fp644, x646, x647, rfl, hF648, F649, F650, F651, F652, G653, D654, D655, hB, hZ⟩ hx661
                refine Fr.goOn hF648 (by kernel_rfl) ?_
                have hm := hx661
                unfold m_laws_FnFurther_s5 at hm
                refine cW_seq ?_
                refine cW_seq ?_
                refine cW_region ?_
                refine wS_pure 4 [(100, .bool (decide (x647 < (((y31.1).length : Int))))), (99, .int .i64 (((y31.1).length : Int))), (98, .slice A35 (y31.1).length cap36), (97, .int .i64 (x647))] (by kernel_rfl) ?_
                refine wS_end (by rfl) ?_
                refine eX_then ?_
                refine cW_cond (t := decide (x647 < (((y31.1).length : Int)))) (by kernel_rfl) (fun hb662 => ?_) (fun hb662 => ?_)
                · have hm := condT hb662 hm
                  refine cW_skip ?_
                  refine eX_then ?_
                  refine cW_seq ?_
                  refine cW_block ?_
                  refine cW_seq ?_
                  refine cW_seq ?_
                  refine cW_region ?_
                  refine wS_pure 3 [(105, .int .i64 (x647)), (104, .slice A35 (y31.1).length cap36), (103, .slice A23 (y19.1).length cap24)] (by kernel_rfl) ?_
                  obtain ⟨x663, hx664, hm⟩ := bindE hm
                  refine wS_idx (d := 106) (T := 32) (A := A35) (n := (y31.1).length) (cap := cap36) (kd := .i64) (m := x647) (by kernel_rfl) sl32 ((F651.sl encII_ok).is hx664) ?_
                  refine wS_loadA (d := 107) (T := 37) (ad := (elA A35 2 (x647) 0)) (vs := [.int .i64 (x663.1), .int .i64 (x663.2)]) (by kernel_rfl) vt37 (fun i u hu => Sl.cells_at (F651.sl encII_ok) hx664 0 hu (by rfl)) ?_
                  obtain ⟨y665, hy666, hm⟩ := bindE hm
                  refine wS_calls (d := 108) (f := 43) (vs := [.slice A23 (y19.1).length cap24, .agg #[.int .i64 (x663.1), .int .i64 (x663.2)]]) (by kernel_rfl) ent43 (c_laws_b10In hy666 (F650.sl encII_ok)) ?_
                  rintro _ w667 ⟨rfl, hc668⟩
                  replace F649 := F649.chg hc668 Dj.nil
                  replace F650 := F650.chg hc668 Dj.nil
                  replace F651 := F651.chg hc668 Dj.nil
                  replace F652 := F652.chg hc668 Dj.nil
                  replace hB := hB.inS hc668 inNil
                  replace hZ := Nat.le_trans hZ hc668.size
                  refine ⟨.bool (y665), rfl, ?_⟩
                  refine wS_pure 2 [(110, .bool (!y665)), (109, .bool (!y665))] (by kernel_rfl) ?_
                  refine wS_bool (!y665) (fun hb669 => ?_) (fun hb669 => ?_)
                  · have hm := condT hb669 hm
                    rewrite [hb669]
                    refine wS_pure 7 [(117, .bool (true)), (116, undef), (115, undef), (114, undef), (113, undef), (112, undef), (111, undef)] (by kernel_rfl) ?_
                    refine wS_end (by rfl) ?_
                    refine eX_then ?_
                    refine cW_prune [(1, .slice A1 (l1).length cap1), (6, .slice A23 (y19.1).length cap24), (8, .slice A35 (y31.1).length cap36), (9, .int .i64 (y31.2.1)), (13, .slice A642 (l641).length cap643), (15, .int .i64 (x646)), (17, .int .i64 (x647)), (117, .bool (true))] (by kernel_rfl) (by kernel_rfl) (fun a670 => ?_)
                    refine cW_cond_t (by kernel_rfl) ?_
                    refine cW_seq ?_
                    refine cW_region ?_
                    refine wS_pure 1 [(4, .bool (false))] (by kernel_rfl) ?_
                    refine wS_end (by rfl) ?_
                    refine eX_then ?_
                    refine cW_ret ?_
                    refine eX_then_ret ?_
                    refine eX_block_ret ?_
                    refine eX_then_ret ?_
                    have hq : (some (Ctl.out (Sum.inr false)) : Option (Ctl ((List (Int × Int)) × Int × Int) (Sum (Int) ((Bool))))) = some _ := hm
                    replace hq := someE hq
                    subst hq
                    refine eX_outR hx661 (fun hr => ?_)
                    subst hr
                    refine eX_block_ret ?_
                    refine eX_then_ret ?_
                    refine eX_then_ret ?_
                    have hq : (some false : Option ((Bool))) = some _ := hm658
                    replace hq := someE hq
                    subst hq
                    refine eX_ret (vs := [.bool (false)]) [.tmp 4] (by rfl) ⟨by (show lkE _ _ _ = _); kernel_rfl, trivial⟩ ?_
                    exact ⟨rfl, hB⟩
                  · have hm := condF hb669 hm
                    rewrite [hb669]
                    refine wS_pure 3 [(113, .int .i64 (x647)), (112, .slice A35 (y31.1).length cap36), (111, .slice A642 (l641).length cap643)] (by kernel_rfl) ?_
                    obtain ⟨x671, hx672, hm⟩ := bindE hm
                    refine wS_idx (d := 114) (T := 32) (A := A35) (n := (y31.1).length) (cap := cap36) (kd := .i64) (m := x647) (by kernel_rfl) sl32 ((F651.sl encII_ok).is hx672) ?_
                    refine wS_loadA (d := 115) (T := 37) (ad := (elA A35 2 (x647) 0)) (vs := [.int .i64 (x671.1), .int .i64 (x671.2)]) (by kernel_rfl) vt37 (fun i u hu => Sl.cells_at (F651.sl encII_ok) hx672 0 hu (by rfl)) ?_
                    obtain ⟨y673, hy674, hm⟩ := bindE hm
                    refine wS_calls (d := 116) (f := 43) (vs := [.slice A642 (l641).length cap643, .agg #[.int .i64 (x671.1), .int .i64 (x671.2)]]) (by kernel_rfl) ent43 (c_laws_b10In hy674 (F652.sl encII_ok)) ?_
                    rintro _ w675 ⟨rfl, hc676⟩
                    replace F649 := F649.chg hc676 Dj.nil
                    replace F650 := F650.chg hc676 Dj.nil
                    replace F651 := F651.chg hc676 Dj.nil
                    replace F652 := F652.chg hc676 Dj.nil
                    replace hB := hB.inS hc676 inNil
                    replace hZ := Nat.le_trans hZ hc676.size
                    refine ⟨.bool (y673), rfl, ?_⟩
                    refine wS_pure 1 [(117, .bool (y673))] (by kernel_rfl) ?_
                    refine wS_end (by rfl) ?_
                    refine eX_then ?_
                    refine cW_prune [(1, .slice A1 (l1).length cap1), (6, .slice A23 (y19.1).length cap24), (8, .slice A35 (y31.1).length cap36), (9, .int .i64 (y31.2.1)), (13, .slice A642 (l641).length cap643), (15, .int .i64 (x646)), (17, .int .i64 (x647)), (117, .bool (y673))] (by kernel_rfl) (by kernel_rfl) (fun a677 => ?_)
                    refine cW_cond (t := y673) (by kernel_rfl) (fun hb678 => ?_) (fun hb678 => ?_)
                    · have hm := condT hb678 hm
                      refine cW_seq ?_
                      refine cW_region ?_
                      refine wS_pure 1 [(4, .bool (false))] (by kernel_rfl) ?_
                      refine wS_end (by rfl) ?_
                      refine eX_then ?_
                      refine cW_ret ?_
                      refine eX_then_ret ?_
                      refine eX_block_ret ?_
                      refine eX_then_ret ?_
                      have hq : (some (Ctl.out (Sum.inr false)) : Option (Ctl ((List (Int × Int)) × Int × Int) (Sum (Int) ((Bool))))) = some _ := hm
                      replace hq := someE hq
                      subst hq
                      refine eX_outR hx661 (fun hr => ?_)
                      subst hr
                      refine eX_block_ret ?_
                      refine eX_then_ret ?_
                      refine eX_then_ret ?_
                      have hq : (some false : Option ((Bool))) = some _ := hm658
                      replace hq := someE hq
                      subst hq
                      refine eX_ret (vs := [.bool (false)]) [.tmp 4] (by rfl) ⟨by (show lkE _ _ _ = _); kernel_rfl, trivial⟩ ?_
                      exact ⟨rfl, hB⟩
                    · have hm := condF hb678 hm
                      refine cW_skip ?_
                      refine eX_then ?_
                      refine cW_seq ?_
                      refine cW_region ?_
                      refine wS_pure 3 [(120, .int .i64 (x647)), (119, .slice A35 (y31.1).length cap36), (118, .slice A642 (l641).length cap643)] (by kernel_rfl) ?_
                      obtain ⟨x679, hx680, hm⟩ := bindE hm
                      refine wS_idx (d := 121) (T := 32) (A := A35) (n := (y31.1).length) (cap := cap36) (kd := .i64) (m := x647) (by kernel_rfl) sl32 ((F651.sl encII_ok).is hx680) ?_
                      refine wS_loadA (d := 122) (T := 37) (ad := (elA A35 2 (x647) 0)) (vs := [.int .i64 (x679.1), .int .i64 (x679.2)]) (by kernel_rfl) vt37 (fun i u hu => Sl.cells_at (F651.sl encII_ok) hx680 0 hu (by rfl)) ?_
                      refine wS_bs (enc := encII) ([(x679.1, x679.2)] : List (Int × Int)) [.int .i64 (x679.1), .int .i64 (x679.2)] (d := 123) (t := 32) (T := 37) (n := 1) (ps := [(0, .agg #[.int .i64 (x679.1), .int .i64 (x679.2)])]) (by kernel_rfl) el32 encII_ok (by rfl) (by omega) (by omega) (by kernel_rfl) (by rfl) ?_
                      intro b681 w682 G683 F684 hc685
                      have D687 : Dj fp25 [b681] := Dj.of F650.low (low1 G683)
                      have D688 : Dj fp37 [b681] := Dj.of F651.low (low1 G683)
                      have D689 : Dj fp644 [b681] := Dj.of F652.low (low1 G683)
                      replace F649 := F649.chg hc685 Dj.nil
                      replace F650 := F650.chg hc685 Dj.nil
                      replace F651 := F651.chg hc685 Dj.nil
                      replace F652 := F652.chg hc685 Dj.nil
                      replace hB := hB.inS hc685 inNil
                      replace G683 := Nat.le_trans hZ G683
                      replace G683 := low1 G683
                      replace hZ := Nat.le_trans hZ hc685.size
                      obtain ⟨_, hk690, hm⟩ := bindE hm
                      replace hk690 := apE hk690
                      refine wS_append (enc := encII) (l := (l641 : List (Int × Int))) (l2 := (([(x679.1, x679.2)] : List (Int × Int)) : List (Int × Int))) (d := 124) (t := 32) (T := 37) (A := A642) (A2 := (some ⟨b681, 0, none⟩)) (cap := cap643) (cap2 := 1) (by kernel_rfl) el32 encII_ok F652 (F684.sl encII_ok) (by rfl) hk690 ?_
                      intro w691 fp692 A693 cap694 F695 hc696 hp697
                      have G699 := low_ap G653 hZ hp697
                      have D700 : Dj fp25 fp692 := Dj.ap D654 F650.low hp697
                      have D701 : Dj fp37 fp692 := Dj.ap D655 F651.low hp697
                      have D702 : Dj [b681] fp692 := Dj.ap (D689).symm F684.low hp697
                      replace F649 := F649.chg hc696 (Dj.of L1 G653)
                      replace F650 := F650.chg hc696 D654
                      replace F651 := F651.chg hc696 D655
                      replace F684 := F684.chg hc696 (D689).symm
                      replace hB := hB.inS hc696 (inLow G653)
                      replace hZ := Nat.le_trans hZ hc696.size
                      refine wS_pure 1 [(13, .slice A693 (l641 ++ (([(x679.1, x679.2)] : List (Int × Int)))).length cap694)] (by kernel_rfl) ?_
                      refine wS_end (by rfl) ?_
                      refine eX_then ?_
                      refine cW_seq ?_
                      refine cW_region ?_
                      refine wS_pure 1 [(126, .slice A693 (l641 ++ (([(x679.1, x679.2)] : List (Int × Int)))).length cap694)] (by kernel_rfl) ?_
                      obtain ⟨y703, hy704, hm⟩ := bindE hm
                      refine wS_calls (d := 127) (f := 44) (vs := [.slice A693 (l641 ++ (([(x679.1, x679.2)] : List (Int × Int)))).length cap694]) (by kernel_rfl) ent44 (c_spec_SpanningTree hy704 (F695.sl encII_ok) F695.cap_le) ?_
                      rintro _ w705 ⟨A707, cap708, fp709, fr712, rfl, F710, G711, hc706⟩
                      have D714 : Dj fp25 (fp709 ++ fr712) := Dj.of F650.low G711
                      have D715 : Dj fp37 (fp709 ++ fr712) := Dj.of F651.low G711
                      have D716 : Dj [b681] (fp709 ++ fr712) := Dj.of F684.low G711
                      have D717 : Dj fp692 (fp709 ++ fr712) := Dj.of F695.low G711
                      replace F649 := F649.chg hc706 Dj.nil
                      replace F650 := F650.chg hc706 Dj.nil
                      replace F651 := F651.chg hc706 Dj.nil
                      replace F684 := F684.chg hc706 Dj.nil
                      replace F695 := F695.chg hc706 Dj.nil
                      replace hB := hB.inS hc706 inNil
                      replace G711 := low_le hZ G711
                      replace hZ := Nat.le_trans hZ hc706.size
                      refine ⟨.tuple #[.slice A707 (y703.1).length cap708, .int .i64 (y703.2.1), .bool (y703.2.2)], rfl, ?_⟩
                      refine wS_pure 7 [(20, .bool (y703.2.2)), (19, .int .i64 (y703.2.1)), (18, .slice A707 (y703.1).length cap708), (130, .bool (y703.2.2)), (129, .int .i64 (y703.2.1)), (128, .slice A707 (y703.1).length cap708), (125, .tuple #[.slice A707 (y703.1).length cap708, .int .i64 (y703.2.1), .bool (y703.2.2)])] (by kernel_rfl) ?_
                      refine wS_end (by rfl) ?_
                      refine eX_then ?_
                      refine cW_prune [(1, .slice A1 (l1).length cap1), (6, .slice A23 (y19.1).length cap24), (8, .slice A35 (y31.1).length cap36), (9, .int .i64 (y31.2.1)), (13, .slice A693 (l641 ++ (([(x679.1, x679.2)] : List (Int × Int)))).length cap694), (15, .int .i64 (x646)), (17, .int .i64 (x647)), (19, .int .i64 (y703.2.1)), (20, .bool (y703.2.2))] (by kernel_rfl) (by kernel_rfl) (fun a718 => ?_)
                      refine cW_seq ?_
                      refine cW_seq ?_
                      refine cW_region ?_
                      refine wS_pure 3 [(133, .bool (!y703.2.2)), (132, .bool (!y703.2.2)), (131, .bool (y703.2.2))] (by kernel_rfl) ?_
                      refine wS_bool (!y703.2.2) (fun hb719 => ?_) (fun hb719 => ?_)
                      · have hm := condT hb719 hm
                        rewrite [hb719]
                        refine wS_pure 4 [(137, .bool (true)), (136, undef), (135, undef), (134, undef)] (by kernel_rfl) ?_
                        refine wS_end (by rfl) ?_
                        refine eX_then ?_
                        refine cW_cond_t (by kernel_rfl) ?_
                        refine cW_seq ?_
                        refine cW_region ?_
                        refine wS_pure 1 [(4, .bool (false))] (by kernel_rfl) ?_
                        refine wS_end (by rfl) ?_
                        refine eX_then ?_
                        refine cW_ret ?_
                        refine eX_then_ret ?_
                        refine eX_block_ret ?_
                        refine eX_then_ret ?_
                        have hq : (some (Ctl.out (Sum.inr false)) : Option (Ctl ((List (Int × Int)) × Int × Int) (Sum (Int) ((Bool))))) = some _ := hm
                        replace hq := someE hq
                        subst hq
                        refine eX_outR hx661 (fun hr => ?_)
                        subst hr
                        refine eX_block_ret ?_
                        refine eX_then_ret ?_
                        refine eX_then_ret ?_
                        have hq : (some false : Option ((Bool))) = some _ := hm658
                        replace hq := someE hq
                        subst hq
                        refine eX_ret (vs := [.bool (false)]) [.tmp 4] (by rfl) ⟨by (show lkE _ _ _ = _); kernel_rfl, trivial⟩ ?_
                        exact ⟨rfl, hB⟩
                      · have hm := condF hb719 hm
                        rewrite [hb719]
                        refine wS_pure 4 [(137, .bool (decide (y703.2.1 ≥ x646))), (136, .bool (decide (y703.2.1 ≥ x646))), (135, .int .i64 (x646)), (134, .int .i64 (y703.2.1))] (by kernel_rfl) ?_
                        refine wS_end (by rfl) ?_
                        refine eX_then ?_
                        refine cW_cond (t := decide (y703.2.1 ≥ x646)) (by kernel_rfl) (fun hb720 => ?_) (fun hb720 => ?_)
                        · have hm := condT hb720 hm
                          refine cW_seq ?_
                          refine cW_region ?_
                          refine wS_pure 1 [(4, .bool (false))] (by kernel_rfl) ?_
                          refine wS_end (by rfl) ?_
                          refine eX_then ?_
                          refine cW_ret ?_
                          refine eX_then_ret ?_
                          refine eX_block_ret ?_
                          refine eX_then_ret ?_
                          have hq : (some (Ctl.out (Sum.inr false)) : Option (Ctl ((List (Int × Int)) × Int × Int) (Sum (Int) ((Bool))))) = some _ := hm
                          replace hq := someE hq
                          subst hq
                          refine eX_outR hx661 (fun hr => ?_)
                          subst hr
                          refine eX_block_ret ?_
                          refine eX_then_ret ?_
                          refine eX_then_ret ?_
                          have hq : (some false : Option ((Bool))) = some _ := hm658
                          replace hq := someE hq
                          subst hq
                          refine eX_ret (vs := [.bool (false)]) [.tmp 4] (by rfl) ⟨by (show lkE _ _ _ = _); kernel_rfl, trivial⟩ ?_
                          exact ⟨rfl, hB⟩
                        · have hm := condF hb720 hm
                          refine cW_skip ?_
                          refine eX_then ?_
                          refine cW_region ?_
                          refine wS_pure 2 [(15, .int .i64 (y703.2.1)), (138, .int .i64 (y703.2.1))] (by kernel_rfl) ?_
                          refine wS_end (by rfl) ?_
                          refine eX_block ?_
                          refine eX_then ?_
                          refine cW_region ?_
                          refine wS_pure 3 [(17, .int .i64 (wr (x647 + 1))), (102, .int .i64 (wr (x647 + 1))), (101, .int .i64 (x647))] (by kernel_rfl) ?_
                          refine wS_end (by rfl) ?_
                          have hq : (some (Ctl.next ((l641 ++ (([(x679.1, x679.2)] : List (Int × Int))), y703.2.1, wr (x647 + 1)))) : Option (Ctl ((List (Int × Int)) × Int × Int) (Sum (Int) ((Bool))))) = some _ := hm
                          replace hq := someE hq
                          subst hq
                          exact eX_next hx661 (fun hst => ⟨l641 ++ (([(x679.1, x679.2)] : List (Int × Int))), A693, cap694, fp692, y703.2.1, wr (x647 + 1), rfl, Fr.of hst (by kernel_rfl), F649, F650, F651, F695, G699, D700, D701, hB, hZ⟩)
                · have hm := condF hb662 hm
                  refine cW_exit ?_
                  refine eX_then_exit ?_
                  have hq : (some (Ctl.out (Sum.inl x646)) : Option (Ctl ((List (Int × Int)) × Int × Int) (Sum (Int) ((Bool))))) = some _ := hm
                  replace hq := someE hq
                  subst hq
                  refine eX_outX hx661 (fun hr721 => ?_)
                  replace hr721 := hr721.symm
                  subst hr721
                  refine eX_block_hit ?_
                  exact eX_J (fun hst => ⟨x646, rfl, Fr.of hst (by kernel_rfl), F649, hB, hZ⟩)
              · rintro a' w636 ⟨x637, hJ, hF638, F639, hB, hZ⟩
                subst hJ
                refine Fr.goX hF638 (by kernel_rfl) ?_
                refine eX_then ?_
                refine cW_seq ?_
                refine cW_seq ?_
                refine cW_region ?_
                refine wS_pure 3 [(141, .bool (x637 != y31.2.1)), (140, .int .i64 (y31.2.1)), (139, .int .i64 (x637))] (by kernel_rfl) ?_
                refine wS_end (by rfl) ?_
                refine eX_then ?_
                refine cW_cond (t := x637 != y31.2.1) (by kernel_rfl) (fun hb722 => ?_) (fun hb722 => ?_)
                · have hm := condT hb722 hm
                  refine cW_seq ?_
                  refine cW_region ?_
                  refine wS_pure 1 [(4, .bool (false))] (by kernel_rfl) ?_
                  refine wS_end (by rfl) ?_
                  refine eX_then ?_
                  refine cW_ret ?_
                  refine eX_then_ret ?_
                  have hq : (some false : Option ((Bool))) = some _ := hm
                  replace hq := someE hq
                  subst hq
                  refine eX_ret (vs := [.bool (false)]) [.tmp 4] (by rfl) ⟨by (show lkE _ _ _ = _); kernel_rfl, trivial⟩ ?_
                  exact ⟨rfl, hB⟩
                · have hm := condF hb722 hm
                  refine cW_skip ?_
                  refine eX_then ?_
                  refine cW_seq ?_
                  refine cW_region ?_
                  refine wS_pure 1 [(142, .slice A1 (l1).length cap1)] (by kernel_rfl) ?_
                  obtain ⟨y723, hy724, hm⟩ := bindE hm
                  refine wS_calls (d := 143) (f := 45) (vs := [.slice A1 (l1).length cap1, .int .i64 (0)]) (by kernel_rfl) ent45 (c_laws_b10Pin hy724 F639) ?_
                  rintro _ w725 ⟨rfl, hc726⟩
                  replace F639 := F639.chg hc726 Dj.nil
                  replace hB := hB.inS hc726 inNil
                  replace hZ := Nat.le_trans hZ hc726.size
                  refine ⟨.agg #[.int .i64 (y723.1), .int .i64 (y723.2)], rfl, ?_⟩
                  refine wS_alloc (d := 21) (T := 37) (z := .agg #[.int .i64 (0), .int .i64 (0)]) (by kernel_rfl) (by kernel_rfl) ?_
                  intro b727 w728 G729 F730 hc731
                  replace F730 : Cl w728 b727 37 [.int .i64 (0), .int .i64 (0)] := F730
                  replace F639 := F639.chg hc731 Dj.nil
                  replace hB := hB.inS hc731 inNil
                  replace G729 := Nat.le_trans hZ G729
                  replace hZ := Nat.le_trans hZ hc731.size
                  refine wS_store (T := 37) (g := b727) (o := 0) (ad := ⟨b727, 0, none⟩) (v := .agg #[.int .i64 (y723.1), .int .i64 (y723.2)]) (vs := [.int .i64 (y723.1), .int .i64 (y723.2)]) (by kernel_rfl) (by rfl) sz37 (by rfl) (by rfl) F730 (by simp only [List.length_cons, List.length_nil]; omega) ?_
                  intro w733 F734 hc735
                  replace F639 := F639.chg hc735 (Dj.of L1 (low1 G729))
                  replace hB := hB.inS hc735 (inLow (low1 G729))
                  replace hZ := Nat.le_trans hZ hc735.size
                  replace F734 : Cl w733 b727 37 [.int .i64 (y723.1), .int .i64 (y723.2)] := F734
                  clear F730
                  refine wS_end (by rfl) ?_
                  refine eX_then ?_
                  refine cW_seq ?_
                  refine cW_region ?_
                  refine wS_pure 1 [(144, .slice A1 (l1).length cap1)] (by kernel_rfl) ?_
                  obtain ⟨y736, hy737, hm⟩ := bindE hm
                  refine wS_calls (d := 145) (f := 45) (vs := [.slice A1 (l1).length cap1, .int .i64 (2)]) (by kernel_rfl) ent45 (c_laws_b10Pin hy737 F639) ?_
                  rintro _ w738 ⟨rfl, hc739⟩
                  replace F639 := F639.chg hc739 Dj.nil
                  replace F734 := F734.chg hc739 notNil
                  replace hB := hB.inS hc739 inNil
                  replace hZ := Nat.le_trans hZ hc739.size
                  refine ⟨.agg #[.int .i64 (y736.1), .int .i64 (y736.2)], rfl, ?_⟩
                  refine wS_alloc (d := 22) (T := 37) (z := .agg #[.int .i64 (0), .int .i64 (0)]) (by kernel_rfl) (by kernel_rfl) ?_
                  intro b740 w741 G742 F743 hc744
                  replace F743 : Cl w741 b740 37 [.int .i64 (0), .int .i64 (0)] := F743
                  have D746 : Dj [b727] [b740] := Dj.of (lt1 F734.lt) (low1 G742)
                  replace F639 := F639.chg hc744 Dj.nil
                  replace F734 := F734.chg hc744 notNil
                  replace hB := hB.inS hc744 inNil
                  replace G742 := Nat.le_trans hZ G742
                  replace hZ := Nat.le_trans hZ hc744.size
                  refine wS_store (T := 37) (g := b740) (o := 0) (ad := ⟨b740, 0, none⟩) (v := .agg #[.int .i64 (y736.1), .int .i64 (y736.2)]) (vs := [.int .i64 (y736.1), .int .i64 (y736.2)]) (by kernel_rfl) (by rfl) sz37 (by rfl) (by rfl) F743 (by simp only [List.length_cons, List.length_nil]; omega) ?_
                  intro w747 F748 hc749
                  replace F639 := F639.chg hc749 (Dj.of L1 (low1 G742))
                  replace F734 := F734.chg hc749 (dj1 D746)
                  replace hB := hB.inS hc749 (inLow (low1 G742))
                  replace hZ := Nat.le_trans hZ hc749.size
                  replace F748 : Cl w747 b740 37 [.int .i64 (y736.1), .int .i64 (y736.2)] := F748
                  clear F743
                  refine wS_end (by rfl) ?_
                  refine eX_then ?_
                  refine cW_seq ?_
                  refine cW_region ?_
                  refine wS_pure 1 [(146, .slice A1 (l1).length cap1)] (by kernel_rfl) ?_
                  obtain ⟨y750, hy751, hm⟩ := bindE hm
                  refine wS_calls (d := 147) (f := 45) (vs := [.slice A1 (l1).length cap1, .int .i64 (4)]) (by kernel_rfl) ent45 (c_laws_b10Pin hy751 F639) ?_
                  rintro _ w752 ⟨rfl, hc753⟩
                  replace F639 := F639.chg hc753 Dj.nil
                  replace F734 := F734.chg hc753 notNil
                  replace F748 := F748.chg hc753 notNil
                  replace hB := hB.inS hc753 inNil
                  replace hZ := Nat.le_trans hZ hc753.size
                  refine ⟨.agg #[.int .i64 (y750.1), .int .i64 (y750.2)], rfl, ?_⟩
                  refine wS_alloc (d := 23) (T := 37) (z := .agg #[.int .i64 (0), .int .i64 (0)]) (by kernel_rfl) (by kernel_rfl) ?_
                  intro b754 w755 G756 F757 hc758
                  replace F757 : Cl w755 b754 37 [.int .i64 (0), .int .i64 (0)] := F757
                  have D760 : Dj [b727] [b754] := Dj.of (lt1 F734.lt) (low1 G756)
                  have D761 : Dj [b740] [b754] := Dj.of (lt1 F748.lt) (low1 G756)
                  replace F639 := F639.chg hc758 Dj.nil
                  replace F734 := F734.chg hc758 notNil
                  replace F748 := F748.chg hc758 notNil
                  replace hB := hB.inS hc758 inNil
                  replace G756 := Nat.le_trans hZ G756
                  replace hZ := Nat.le_trans hZ hc758.size
                  refine wS_store (T := 37) (g := b754) (o := 0) (ad := ⟨b754, 0, none⟩) (v := .agg #[.int .i64 (y750.1), .int .i64 (y750.2)]) (vs := [.int .i64 (y750.1), .int .i64 (y750.2)]) (by kernel_rfl) (by rfl) sz37 (by rfl) (by rfl) F757 (by simp only [List.length_cons, List.length_nil]; omega) ?_
                  intro w762 F763 hc764
                  replace F639 := F639.chg hc764 (Dj.of L1 (low1 G756))
                  replace F734 := F734.chg hc764 (dj1 D760)
                  replace F748 := F748.chg hc764 (dj1 D761)
                  replace hB := hB.inS hc764 (inLow (low1 G756))
                  replace hZ := Nat.le_trans hZ hc764.size
                  replace F763 : Cl w762 b754 37 [.int .i64 (y750.1), .int .i64 (y750.2)] := F763
                  clear F757
                  refine wS_end (by rfl) ?_
                  refine eX_then ?_
                  refine cW_seq ?_
                  refine cW_region ?_
                  refine wS_loadA (d := 149) (T := 37) (ad := ⟨b727, 0, none⟩) (vs := [.int .i64 (y723.1), .int .i64 (y723.2)]) (by kernel_rfl) vt37 (fun i u hu => box_cells F734 0 hu (by rfl)) ?_
                  refine wS_loadA (d := 150) (T := 37) (ad := ⟨b740, 0, none⟩) (vs := [.int .i64 (y736.1), .int .i64 (y736.2)]) (by kernel_rfl) vt37 (fun i u hu => box_cells F748 0 hu (by rfl)) ?_
                  refine wS_loadA (d := 151) (T := 37) (ad := ⟨b754, 0, none⟩) (vs := [.int .i64 (y750.1), .int .i64 (y750.2)]) (by kernel_rfl) vt37 (fun i u hu => box_cells F763 0 hu (by rfl)) ?_
                  obtain ⟨y765, hy766, hm⟩ := bindE hm
                  refine wS_calls (d := 152) (f := 46) (vs := [.agg #[.int .i64 (y723.1), .int .i64 (y723.2)], .agg #[.int .i64 (y736.1), .int .i64 (y736.2)], .agg #[.int .i64 (y750.1), .int .i64 (y750.2)]]) (by kernel_rfl) ent46 (c_impl_MedianPoint hy766) ?_
                  rintro _ w767 ⟨rfl, hc768⟩
                  replace F639 := F639.chg hc768 Dj.nil
                  replace F734 := F734.chg hc768 notNil
                  replace F748 := F748.chg hc768 notNil
                  replace F763 := F763.chg hc768 notNil
                  replace hB := hB.inS hc768 inNil
                  replace hZ := Nat.le_trans hZ hc768.size
                  refine ⟨.tuple #[.agg #[.int .i64 (y765.1.1), .int .i64 (y765.1.2)], .bool (y765.2)], rfl, ?_⟩
                  refine wS_pure 3 [(154, .bool (y765.2)), (153, .agg #[.int .i64 (y765.1.1), .int .i64 (y765.1.2)]), (148, .tuple #[.agg #[.int .i64 (y765.1.1), .int .i64 (y765.1.2)], .bool (y765.2)])] (by kernel_rfl) ?_
                  refine wS_alloc (d := 24) (T := 37) (z := .agg #[.int .i64 (0), .int .i64 (0)]) (by kernel_rfl) (by kernel_rfl) ?_
                  intro b769 w770 G771 F772 hc773
                  replace F772 : Cl w770 b769 37 [.int .i64 (0), .int .i64 (0)] := F772
                  have D775 : Dj [b727] [b769] := Dj.of (lt1 F734.lt) (low1 G771)
                  have D776 : Dj [b740] [b769] := Dj.of (lt1 F748.lt) (low1 G771)
                  have D777 : Dj [b754] [b769] := Dj.of (lt1 F763.lt) (low1 G771)
                  replace F639 := F639.chg hc773 Dj.nil
                  replace F734 := F734.chg hc773 notNil
                  replace F748 := F748.chg hc773 notNil
                  replace F763 := F763.chg hc773 notNil
                  replace hB := hB.inS hc773 inNil
                  replace G771 := Nat.le_trans hZ G771
                  replace hZ := Nat.le_trans hZ hc773.size
                  refine wS_store (T := 37) (g := b769) (o := 0) (ad := ⟨b769, 0, none⟩) (v := .agg #[.int .i64 (y765.1.1), .int .i64 (y765.1.2)]) (vs := [.int .i64 (y765.1.1), .int .i64 (y765.1.2)]) (by kernel_rfl) (by rfl) sz37 (by rfl) (by rfl) F772 (by simp only [List.length_cons, List.length_nil]; omega) ?_
                  intro w778 F779 hc780
                  replace F639 := F639.chg hc780 (Dj.of L1 (low1 G771))
                  replace F734 := F734.chg hc780 (dj1 D775)
                  replace F748 := F748.chg hc780 (dj1 D776)
                  replace F763 := F763.chg hc780 (dj1 D777)
                  replace hB := hB.inS hc780 (inLow (low1 G771))
                  replace hZ := Nat.le_trans hZ hc780.size
                  replace F779 : Cl w778 b769 37 [.int .i64 (y765.1.1), .int .i64 (y765.1.2)] := F779
                  clear F772
                  refine wS_pure 1 [(25, .bool (y765.2))] (by kernel_rfl) ?_
                  refine wS_end (by rfl) ?_
                  refine eX_then ?_
                  refine cW_prune [(21, .pointer (some ⟨b727, 0, none⟩)), (22, .pointer (some ⟨b740, 0, none⟩)), (23, .pointer (some ⟨b754, 0, none⟩)), (24, .pointer (some ⟨b769, 0, none⟩)), (25, .bool (y765.2))] (by kernel_rfl) (by kernel_rfl) (fun a781 => ?_)
                  refine cW_seq ?_
                  refine cW_seq ?_
                  refine cW_region ?_
                  refine wS_pure 2 [(156, .bool (!y765.2)), (155, .bool (y765.2))] (by kernel_rfl) ?_
                  refine wS_end (by rfl) ?_
                  refine eX_then ?_
                  refine cW_cond (t := !y765.2) (by kernel_rfl) (fun hb782 => ?_) (fun hb782 => ?_)
                  · have hm := condT hb782 hm
                    refine cW_seq ?_
                    refine cW_region ?_
                    refine wS_pure 1 [(4, .bool (false))] (by kernel_rfl) ?_
                    refine wS_end (by rfl) ?_
                    refine eX_then ?_
                    refine cW_ret ?_
                    refine eX_then_ret ?_
                    have hq : (some false : Option ((Bool))) = some _ := hm
                    replace hq := someE hq
                    subst hq
                    refine eX_ret (vs := [.bool (false)]) [.tmp 4] (by rfl) ⟨by (show lkE _ _ _ = _); kernel_rfl, trivial⟩ ?_
                    exact ⟨rfl, hB⟩
                  · have hm := condF hb782 hm
                    refine cW_skip ?_
                    refine eX_then ?_
                    refine cW_seq ?_
                    refine cW_seq ?_
                    refine cW_region ?_
                    refine wS_loadA (d := 157) (T := 37) (ad := ⟨b727, 0, none⟩) (vs := [.int .i64 (y723.1), .int .i64 (y723.2)]) (by kernel_rfl) vt37 (fun i u hu => box_cells F734 0 hu (by rfl)) ?_
                    refine wS_loadA (d := 158) (T := 37) (ad := ⟨b740, 0, none⟩) (vs := [.int .i64 (y736.1), .int .i64 (y736.2)]) (by kernel_rfl) vt37 (fun i u hu => box_cells F748 0 hu (by rfl)) ?_
                    refine wS_eqS (d := 159) (T := 37) (x := y723.1) (y := y723.2) (x' := y736.1) (y' := y736.2) (by kernel_rfl) eq37 ?_
                    refine wS_pure 1 [(160, .bool (y723.1 == y736.1 && y723.2 == y736.2))] (by kernel_rfl) ?_
                    refine wS_bool (y723.1 == y736.1 && y723.2 == y736.2) (fun hb783 => ?_) (fun hb783 => ?_)
                    · have hm := condT hb783 hm
                      rewrite [hb783]
                      refine wS_pure 9 [(169, .bool (true)), (168, undef), (167, undef), (166, undef), (165, .bool (true)), (164, .bool (true)), (163, undef), (162, undef), (161, undef)] (by kernel_rfl) ?_
                      refine wS_end (by rfl) ?_
                      refine eX_then ?_
                      refine cW_cond_t (by kernel_rfl) ?_
                      refine cW_seq ?_
                      refine cW_region ?_
                      refine wS_pure 1 [(4, .bool (true))] (by kernel_rfl) ?_
                      refine wS_end (by rfl) ?_
                      refine eX_then ?_
                      refine cW_ret ?_
                      refine eX_then_ret ?_
                      have hq : (some true : Option ((Bool))) = some _ := hm
                      replace hq := someE hq
                      subst hq
                      refine eX_ret (vs := [.bool (true)]) [.tmp 4] (by rfl) ⟨by (show lkE _ _ _ = _); kernel_rfl, trivial⟩ ?_
                      exact ⟨rfl, hB⟩
                    · have hm := condF hb783 hm
                      rewrite [hb783]
                      refine wS_loadA (d := 161) (T := 37) (ad := ⟨b740, 0, none⟩) (vs := [.int .i64 (y736.1), .int .i64 (y736.2)]) (by kernel_rfl) vt37 (fun i u hu => box_cells F748 0 hu (by rfl)) ?_
                      refine wS_loadA (d := 162) (T := 37) (ad := ⟨b754, 0, none⟩) (vs := [.int .i64 (y750.1), .int .i64 (y750.2)]) (by kernel_rfl) vt37 (fun i u hu => box_cells F763 0 hu (by rfl)) ?_
                      refine wS_eqS (d := 163) (T := 37) (x := y736.1) (y := y736.2) (x' := y750.1) (y' := y750.2) (by kernel_rfl) eq37 ?_
                      refine wS_pure 2 [(165, .bool (y736.1 == y750.1 && y736.2 == y750.2)), (164, .bool (y736.1 == y750.1 && y736.2 == y750.2))] (by kernel_rfl) ?_
                      refine wS_bool (y736.1 == y750.1 && y736.2 == y750.2) (fun hb784 => ?_) (fun hb784 => ?_)
                      · have hm := condT hb784 hm
                        rewrite [hb784]
                        refine wS_pure 4 [(169, .bool (true)), (168, undef), (167, undef), (166, undef)] (by kernel_rfl) ?_
                        refine wS_end (by rfl) ?_
                        refine eX_then ?_
                        refine cW_cond_t (by kernel_rfl) ?_
                        refine cW_seq ?_
                        refine cW_region ?_
                        refine wS_pure 1 [(4, .bool (true))] (by kernel_rfl) ?_
                        refine wS_end (by rfl) ?_
                        refine eX_then ?_
                        refine cW_ret ?_
                        refine eX_then_ret ?_
                        have hq : (some true : Option ((Bool))) = some _ := hm
                        replace hq := someE hq
                        subst hq
                        refine eX_ret (vs := [.bool (true)]) [.tmp 4] (by rfl) ⟨by (show lkE _ _ _ = _); kernel_rfl, trivial⟩ ?_
                        exact ⟨rfl, hB⟩
                      · have hm := condF hb784 hm
                        rewrite [hb784]
                        refine wS_loadA (d := 166) (T := 37) (ad := ⟨b727, 0, none⟩) (vs := [.int .i64 (y723.1), .int .i64 (y723.2)]) (by kernel_rfl) vt37 (fun i u hu => box_cells F734 0 hu (by rfl)) ?_
                        refine wS_loadA (d := 167) (T := 37) (ad := ⟨b754, 0, none⟩) (vs := [.int .i64 (y750.1), .int .i64 (y750.2)]) (by kernel_rfl) vt37 (fun i u hu => box_cells F763 0 hu (by rfl)) ?_
                        refine wS_eqS (d := 168) (T := 37) (x := y723.1) (y := y723.2) (x' := y750.1) (y' := y750.2) (by kernel_rfl) eq37 ?_
                        refine wS_pure 1 [(169, .bool (y723.1 == y750.1 && y723.2 == y750.2))] (by kernel_rfl) ?_
                        refine wS_end (by rfl) ?_
                        refine eX_then ?_
                        refine cW_cond (t := y723.1 == y750.1 && y723.2 == y750.2) (by kernel_rfl) (fun hb785 => ?_) (fun hb785 => ?_)
                        · have hm := condT hb785 hm
                          refine cW_seq ?_
                          refine cW_region ?_
                          refine wS_pure 1 [(4, .bool (true))] (by kernel_rfl) ?_
                          refine wS_end (by rfl) ?_
                          refine eX_then ?_
                          refine cW_ret ?_
                          refine eX_then_ret ?_
                          have hq : (some true : Option ((Bool))) = some _ := hm
                          replace hq := someE hq
                          subst hq
                          refine eX_ret (vs := [.bool (true)]) [.tmp 4] (by rfl) ⟨by (show lkE _ _ _ = _); kernel_rfl, trivial⟩ ?_
                          exact ⟨rfl, hB⟩
                        · have hm := condF hb785 hm
                          refine cW_skip ?_
                          refine eX_then ?_
                          refine cW_seq ?_
                          refine cW_region ?_
                          refine wS_loadA (d := 170) (T := 37) (ad := ⟨b727, 0, none⟩) (vs := [.int .i64 (y723.1), .int .i64 (y723.2)]) (by kernel_rfl) vt37 (fun i u hu => box_cells F734 0 hu (by rfl)) ?_
                          refine wS_loadA (d := 171) (T := 37) (ad := ⟨b740, 0, none⟩) (vs := [.int .i64 (y736.1), .int .i64 (y736.2)]) (by kernel_rfl) vt37 (fun i u hu => box_cells F748 0 hu (by rfl)) ?_
                          refine wS_loadA (d := 172) (T := 37) (ad := ⟨b754, 0, none⟩) (vs := [.int .i64 (y750.1), .int .i64 (y750.2)]) (by kernel_rfl) vt37 (fun i u hu => box_cells F763 0 hu (by rfl)) ?_
                          refine wS_bs (enc := encII) ([(y723.1, y723.2), (y736.1, y736.2), (y750.1, y750.2)] : List (Int × Int)) [.int .i64 (y723.1), .int .i64 (y723.2), .int .i64 (y736.1), .int .i64 (y736.2), .int .i64 (y750.1), .int .i64 (y750.2)] (d := 173) (t := 32) (T := 37) (n := 3) (ps := [(0, .agg #[.int .i64 (y723.1), .int .i64 (y723.2)]), (1, .agg #[.int .i64 (y736.1), .int .i64 (y736.2)]), (2, .agg #[.int .i64 (y750.1), .int .i64 (y750.2)])]) (by kernel_rfl) el32 encII_ok (by rfl) (by omega) (by omega) (by kernel_rfl) (by rfl) ?_
                          intro b786 w787 G788 F789 hc790
                          have D792 : Dj [b727] [b786] := Dj.of (lt1 F734.lt) (low1 G788)
                          have D793 : Dj [b740] [b786] := Dj.of (lt1 F748.lt) (low1 G788)
                          have D794 : Dj [b754] [b786] := Dj.of (lt1 F763.lt) (low1 G788)
                          have D795 : Dj [b769] [b786] := Dj.of (lt1 F779.lt) (low1 G788)
                          replace F639 := F639.chg hc790 Dj.nil
                          replace F734 := F734.chg hc790 notNil
                          replace F748 := F748.chg hc790 notNil
                          replace F763 := F763.chg hc790 notNil
                          replace F779 := F779.chg hc790 notNil
                          replace hB := hB.inS hc790 inNil
                          replace G788 := Nat.le_trans hZ G788
                          replace G788 := low1 G788
                          replace hZ := Nat.le_trans hZ hc790.size
                          refine wS_pure 1 [(26, .slice (some ⟨b786, 0, none⟩) (([(y723.1, y723.2), (y736.1, y736.2), (y750.1, y750.2)] : List (Int × Int))).length 3)] (by kernel_rfl) ?_
                          refine wS_end (by rfl) ?_
                          refine eX_then ?_
                          refine cW_prune [(24, .pointer (some ⟨b769, 0, none⟩)), (26, .slice (some ⟨b786, 0, none⟩) (([(y723.1, y723.2), (y736.1, y736.2), (y750.1, y750.2)] : List (Int × Int))).length 3)] (by kernel_rfl) (by kernel_rfl) (fun a796 => ?_)
                          refine cW_seq ?_
                          refine cW_region ?_
                          refine wS_pure 1 [(175, .slice (some ⟨b786, 0, none⟩) (([(y723.1, y723.2), (y736.1, y736.2), (y750.1, y750.2)] : List (Int × Int))).length 3)] (by kernel_rfl) ?_
                          obtain ⟨y797, hy798, hm⟩ := bindE hm
                          refine wS_calls (d := 176) (f := 47) (vs := [.slice (some ⟨b786, 0, none⟩) (([(y723.1, y723.2), (y736.1, y736.2), (y750.1, y750.2)] : List (Int × Int))).length 3]) (by kernel_rfl) ent47 (c_impl_SteinerLength hy798 (F789.sl encII_ok)) ?_
                          rintro _ w799 ⟨rfl, hc800⟩
                          replace F639 := F639.chg hc800 Dj.nil
                          replace F734 := F734.chg hc800 notNil
                          replace F748 := F748.chg hc800 notNil
                          replace F763 := F763.chg hc800 notNil
                          replace F779 := F779.chg hc800 notNil
                          replace F789 := F789.chg hc800 Dj.nil
                          replace hB := hB.inS hc800 inNil
                          replace hZ := Nat.le_trans hZ hc800.size
                          refine ⟨.tuple #[.int .i64 (y797.1), .bool (y797.2)], rfl, ?_⟩
                          refine wS_pure 5 [(28, .bool (y797.2)), (27, .int .i64 (y797.1)), (178, .bool (y797.2)), (177, .int .i64 (y797.1)), (174, .tuple #[.int .i64 (y797.1), .bool (y797.2)])] (by kernel_rfl) ?_
                          refine wS_end (by rfl) ?_
                          refine eX_then ?_
                          refine cW_seq ?_
                          refine cW_region ?_
                          refine wS_pure 1 [(180, .slice (some ⟨b786, 0, none⟩) (([(y723.1, y723.2), (y736.1, y736.2), (y750.1, y750.2)] : List (Int × Int))).length 3)] (by kernel_rfl) ?_
                          obtain ⟨y801, hy802, hm⟩ := bindE hm
                          refine wS_calls (d := 181) (f := 48) (vs := [.slice (some ⟨b786, 0, none⟩) (([(y723.1, y723.2), (y736.1, y736.2), (y750.1, y750.2)] : List (Int × Int))).length 3]) (by kernel_rfl) ent48 (c_impl_BoxBound hy802 (F789.sl encII_ok)) ?_
                          rintro _ w803 ⟨rfl, hc804⟩
                          replace F639 := F639.chg hc804 Dj.nil
                          replace F734 := F734.chg hc804 notNil
                          replace F748 := F748.chg hc804 notNil
                          replace F763 := F763.chg hc804 notNil
                          replace F779 := F779.chg hc804 notNil
                          replace F789 := F789.chg hc804 Dj.nil
                          replace hB := hB.inS hc804 inNil
                          replace hZ := Nat.le_trans hZ hc804.size
                          refine ⟨.tuple #[.int .i64 (y801.1), .bool (y801.2)], rfl, ?_⟩
                          refine wS_pure 5 [(30, .bool (y801.2)), (29, .int .i64 (y801.1)), (183, .bool (y801.2)), (182, .int .i64 (y801.1)), (179, .tuple #[.int .i64 (y801.1), .bool (y801.2)])] (by kernel_rfl) ?_
                          refine wS_end (by rfl) ?_
                          refine eX_then ?_
                          refine cW_seq ?_
                          refine cW_region ?_
                          refine wS_pure 1 [(185, .slice (some ⟨b786, 0, none⟩) (([(y723.1, y723.2), (y736.1, y736.2), (y750.1, y750.2)] : List (Int × Int))).length 3)] (by kernel_rfl) ?_
                          refine wS_loadA (d := 186) (T := 37) (ad := ⟨b769, 0, none⟩) (vs := [.int .i64 (y765.1.1), .int .i64 (y765.1.2)]) (by kernel_rfl) vt37 (fun i u hu => box_cells F779 0 hu (by rfl)) ?_
                          obtain ⟨y805, hy806, hm⟩ := bindE hm
                          refine wS_calls (d := 187) (f := 49) (vs := [.slice (some ⟨b786, 0, none⟩) (([(y723.1, y723.2), (y736.1, y736.2), (y750.1, y750.2)] : List (Int × Int))).length 3, .agg #[.int .i64 (y765.1.1), .int .i64 (y765.1.2)]]) (by kernel_rfl) ent49 (c_impl_StarLength hy806 (F789.sl encII_ok)) ?_
                          rintro _ w807 ⟨rfl, hc808⟩
                          replace F639 := F639.chg hc808 Dj.nil
                          replace F734 := F734.chg hc808 notNil
                          replace F748 := F748.chg hc808 notNil
                          replace F763 := F763.chg hc808 notNil
                          replace F779 := F779.chg hc808 notNil
                          replace F789 := F789.chg hc808 Dj.nil
                          replace hB := hB.inS hc808 inNil
                          replace hZ := Nat.le_trans hZ hc808.size
                          refine ⟨.tuple #[.int .i64 (y805.1), .bool (y805.2)], rfl, ?_⟩
                          refine wS_pure 5 [(32, .bool (y805.2)), (31, .int .i64 (y805.1)), (189, .bool (y805.2)), (188, .int .i64 (y805.1)), (184, .tuple #[.int .i64 (y805.1), .bool (y805.2)])] (by kernel_rfl) ?_
                          refine wS_end (by rfl) ?_
                          refine eX_then ?_
                          refine cW_prune [(27, .int .i64 (y797.1)), (28, .bool (y797.2)), (29, .int .i64 (y801.1)), (30, .bool (y801.2)), (31, .int .i64 (y805.1)), (32, .bool (y805.2))] (by kernel_rfl) (by kernel_rfl) (fun a809 => ?_)
                          refine cW_seq ?_
                          refine cW_region ?_
                          refine wS_pure 2 [(191, .bool (y797.2)), (190, .bool (y797.2))] (by kernel_rfl) ?_
                          refine wS_bool y797.2 (fun hb810 => ?_) (fun hb810 => ?_)
                          · have hm := condT hb810 hm
                            rewrite [hb810]
                            refine wS_pure 3 [(194, .bool (y801.2)), (193, .bool (y801.2)), (192, .bool (y801.2))] (by kernel_rfl) ?_
                            refine wS_bool y801.2 (fun hb811 => ?_) (fun hb811 => ?_)
                            · have hm := condT hb811 hm
                              rewrite [hb811]
                              refine wS_pure 3 [(197, .bool (y805.2)), (196, .bool (y805.2)), (195, .bool (y805.2))] (by kernel_rfl) ?_
                              refine wS_bool y805.2 (fun hb812 => ?_) (fun hb812 => ?_)
                              · have hm := condT hb812 hm
                                rewrite [hb812]
                                refine wS_pure 5 [(202, .bool (y797.1 == y801.1)), (201, .bool (y797.1 == y801.1)), (200, .bool (y797.1 == y801.1)), (199, .int .i64 (y801.1)), (198, .int .i64 (y797.1))] (by kernel_rfl) ?_
                                refine wS_bool (y797.1 == y801.1) (fun hb813 => ?_) (fun hb813 => ?_)
                                · have hm := condT hb813 hm
                                  rewrite [hb813]
                                  refine wS_pure 5 [(4, .bool (y805.1 == y801.1)), (206, .bool (y805.1 == y801.1)), (205, .bool (y805.1 == y801.1)), (204, .int .i64 (y801.1)), (203, .int .i64 (y805.1))] (by kernel_rfl) ?_
                                  refine wS_end (by rfl) ?_
                                  refine eX_then ?_
                                  refine cW_prune [(4, .bool (y805.1 == y801.1))] (by kernel_rfl) (by kernel_rfl) (fun a814 => ?_)
                                  refine cW_ret ?_
                                  have hq : (some (y805.1 == y801.1) : Option ((Bool))) = some _ := hm
                                  replace hq := someE hq
                                  subst hq
                                  refine eX_ret (vs := [.bool (y805.1 == y801.1)]) [.tmp 4] (by rfl) ⟨by (show lkE _ _ _ = _); kernel_rfl, trivial⟩ ?_
                                  exact ⟨rfl, hB⟩
                                · have hm := condF hb813 hm
                                  rewrite [hb813]
                                  refine wS_pure 5 [(4, .bool (false)), (206, .bool (false)), (205, undef), (204, undef), (203, undef)] (by kernel_rfl) ?_
                                  refine wS_end (by rfl) ?_
                                  refine eX_then ?_
                                  refine cW_prune [(4, .bool (false))] (by kernel_rfl) (by kernel_rfl) (fun a815 => ?_)
                                  refine cW_ret ?_
                                  have hq : (some false : Option ((Bool))) = some _ := hm
                                  replace hq := someE hq
                                  subst hq
                                  refine eX_ret (vs := [.bool (false)]) [.tmp 4] (by rfl) ⟨by (show lkE _ _ _ = _); kernel_rfl, trivial⟩ ?_
                                  exact ⟨rfl, hB⟩
                              · have hm := condF hb812 hm
                                rewrite [hb812]
                                refine wS_pure 10 [(4, .bool (false)), (206, .bool (false)), (205, undef), (204, undef), (203, undef), (202, .bool (false)), (201, .bool (false)), (200, undef), (199, undef), (198, undef)] (by kernel_rfl) ?_
                                refine wS_end (by rfl) ?_
                                refine eX_then ?_
                                refine cW_prune [(4, .bool (false))] (by kernel_rfl) (by kernel_rfl) (fun a816 => ?_)
                                refine cW_ret ?_
                                have hq : (some false : Option ((Bool))) = some _ := hm
                                replace hq := someE hq
                                subst hq
                                refine eX_ret (vs := [.bool (false)]) [.tmp 4] (by rfl) ⟨by (show lkE _ _ _ = _); kernel_rfl, trivial⟩ ?_
                                exact ⟨rfl, hB⟩
                            · have hm := condF hb811 hm
                              rewrite [hb811]
                              refine wS_pure 13 [(4, .bool (false)), (206, .bool (false)), (205, undef), (204, undef), (203, undef), (202, .bool (false)), (201, .bool (false)), (200, undef), (199, undef), (198, undef), (197, .bool (false)), (196, .bool (false)), (195, undef)] (by kernel_rfl) ?_
                              refine wS_end (by rfl) ?_
                              refine eX_then ?_
                              refine cW_prune [(4, .bool (false))] (by kernel_rfl) (by kernel_rfl) (fun a817 => ?_)
                              refine cW_ret ?_
                              have hq : (some false : Option ((Bool))) = some _ := hm
                              replace hq := someE hq
                              subst hq
                              refine eX_ret (vs := [.bool (false)]) [.tmp 4] (by rfl) ⟨by (show lkE _ _ _ = _); kernel_rfl, trivial⟩ ?_
                              exact ⟨rfl, hB⟩
                          · have hm := condF hb810 hm
                            rewrite [hb810]
                            refine wS_pure 16 [(4, .bool (false)), (206, .bool (false)), (205, undef), (204, undef), (203, undef), (202, .bool (false)), (201, .bool (false)), (200, undef), (199, undef), (198, undef), (197, .bool (false)), (196, .bool (false)), (195, undef), (194, .bool (false)), (193, .bool (false)), (192, undef)] (by kernel_rfl) ?_
                            refine wS_end (by rfl) ?_
                            refine eX_then ?_
                            refine cW_prune [(4, .bool (false))] (by kernel_rfl) (by kernel_rfl) (fun a818 => ?_)
                            refine cW_ret ?_
                            have hq : (some false : Option ((Bool))) = some _ := hm
                            replace hq := someE hq
                            subst hq
                            refine eX_ret (vs := [.bool (false)]) [.tmp 4] (by rfl) ⟨by (show lkE _ _ _ = _); kernel_rfl, trivial⟩ ?_
                            exact ⟨rfl, hB⟩

end Go.Proofs.Ytgaecldkiijmpaa
