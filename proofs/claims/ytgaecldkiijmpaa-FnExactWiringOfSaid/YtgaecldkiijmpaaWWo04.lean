/- Printed walks: impl.WiringOf, laws.eqWiring, laws.eqPointSS, laws.markPointSS, laws.markWiring, laws.heldInt64S, laws.heldInt64SS, laws.heldWiring, laws.FnExactWiringOf. -/
import Derived.Test.YtgaecldkiijmpaaProg
import Derived.Test.YtgaecldkiijmpaaWWo03
set_option linter.unusedSimpArgs false
set_option linter.unusedVariables false
namespace Go.Proofs.Ytgaecldkiijmpaa
open Go.RowKit
attribute [local irreducible] wS cW eX wH

theorem ent33 : Ent Try.prog 33 := fun _ => by kernel_rfl
theorem ent55 : Ent Try.prog 55 := fun _ => by kernel_rfl
theorem ent57 : Ent Try.prog 57 := fun _ => by kernel_rfl
theorem ent58 : Ent Try.prog 58 := fun _ => by kernel_rfl
theorem ent59 : Ent Try.prog 59 := fun _ => by kernel_rfl
theorem ent60 : Ent Try.prog 60 := fun _ => by kernel_rfl
theorem ent61 : Ent Try.prog 61 := fun _ => by kernel_rfl
theorem ent62 : Ent Try.prog 62 := fun _ => by kernel_rfl
theorem ent63 : Ent Try.prog 63 := fun _ => by kernel_rfl
theorem ent64 : Ent Try.prog 64 := fun _ => by kernel_rfl
theorem ent65 : Ent Try.prog 65 := fun _ => by kernel_rfl
theorem ent103 : Ent Try.prog 103 := fun _ => by kernel_rfl
theorem ent117 : Ent Try.prog 117 := fun _ => by kernel_rfl
theorem ent123 : Ent Try.prog 123 := fun _ => by kernel_rfl
theorem ent124 : Ent Try.prog 124 := fun _ => by kernel_rfl
theorem ent125 : Ent Try.prog 125 := fun _ => by kernel_rfl
theorem ent126 : Ent Try.prog 126 := fun _ => by kernel_rfl
theorem ent127 : Ent Try.prog 127 := fun _ => by kernel_rfl
theorem ent130 : Ent Try.prog 130 := fun _ => by kernel_rfl
theorem ent131 : Ent Try.prog 131 := fun _ => by kernel_rfl

set_option maxRecDepth 100000 in
/-- impl.WiringOf -/
theorem c_impl_WiringOf {w0 : World} {l0 : List (List (Int × Int))} {A0 : Option Addr} {cap0 : Nat} {fp0 : List Nat} {r : (Int × (List (List (Int))) × (List (List (Int))) × (List (Int))) × (Bool)} (hm : m_impl_WiringOf l0 = some r) (F0 : SlR 2 encII w0 fp0 A0 l0) :
    Calls Try.prog 60 #[.slice A0 (l0).length cap0] w0 fun e w' => ∃ A100_1 cap100_1 fp100_1 fr100_1, ∃ A100_2 cap100_2 fp100_2 fr100_2, ∃ A100_3 cap100_3 fp100_3, e = .returned (.tuple #[.agg #[.int .i64 (r.1.1), .slice A100_1 (r.1.2.1).length cap100_1, .slice A100_2 (r.1.2.2.1).length cap100_2, .slice A100_3 (r.1.2.2.2).length cap100_3], .bool (r.2)]) ∧ OwR 1 encI 25 2 w' fp100_1 fr100_1 A100_1 cap100_1 r.1.2.1 ∧ (∀ x ∈ fp100_1 ++ fr100_1, w0.heap.size ≤ x) ∧ OwR 1 encI 25 2 w' fp100_2 fr100_2 A100_2 cap100_2 r.1.2.2.1 ∧ (∀ x ∈ fp100_2 ++ fr100_2, w0.heap.size ≤ x) ∧ Ow 1 encI 2 w' fp100_3 A100_3 cap100_3 r.1.2.2.2 ∧ (∀ x ∈ fp100_3, w0.heap.size ≤ x) ∧ Dj (fp100_1 ++ fr100_1) (fp100_2 ++ fr100_2) ∧ Dj (fp100_1 ++ fr100_1) fp100_3 ∧ Dj (fp100_2 ++ fr100_2) fp100_3 ∧ Chg [] w0 w' := by
  have L0 := F0.low
  have hB : Chg [] w0 w0 := Chg.refl _ _
  have hZ := Nat.le_refl w0.heap.size
  unfold m_impl_WiringOf at hm
  refine enterE (N := 100) Try.func60 (by rfl) Try.ntmps60 (by simp) [(0, .slice A0 (l0).length cap0)] (by rfl) (by kernel_rfl) (fun a => ?_)
  refine cW_seq ?_
  refine cW_region ?_
  refine wS_box (d := 1) (T := 31) (x := .slice A0 (l0).length cap0) (by kernel_rfl) ?_
  intro b2 w3 G4 F5 hc6
  replace F5 : Cl w3 b2 31 [.slice A0 (l0).length cap0] := F5
  replace F0 := F0.chg hc6 Dj.nil
  replace hB := hB.inS hc6 inNil
  replace G4 := Nat.le_trans hZ G4
  replace hZ := Nat.le_trans hZ hc6.size
  refine wS_alloc (d := 2) (T := 83) (z := .agg #[.int .i64 (0), .slice none 0 0, .slice none 0 0, .slice none 0 0]) (by kernel_rfl) (by kernel_rfl) ?_
  intro b8 w9 G10 F11 hc12
  replace F11 : Cl w9 b8 83 [.int .i64 (0), .slice none 0 0, .slice none 0 0, .slice none 0 0] := F11
  have D14 : Dj [b2] [b8] := Dj.of (lt1 F5.lt) (low1 G10)
  replace F0 := F0.chg hc12 Dj.nil
  replace F5 := F5.chg hc12 notNil
  replace hB := hB.inS hc12 inNil
  replace G10 := Nat.le_trans hZ G10
  replace hZ := Nat.le_trans hZ hc12.size
  refine wS_pure 1 [(3, .bool (false))] (by kernel_rfl) ?_
  refine wS_end (by rfl) ?_
  refine eX_then ?_
  refine cW_seq ?_
  refine cW_seq ?_
  refine cW_region ?_
  refine wS_load1 (d := 11) (T := 31) (ad := ⟨b2, 0, none⟩) (v := .slice A0 (l0).length cap0) (by kernel_rfl) vt31 ((F5).cell 0) ?_
  obtain ⟨y15, hy16, hm⟩ := bindE hm
  refine wS_calls (d := 12) (f := 123) (vs := [.slice A0 (l0).length cap0]) (by kernel_rfl) ent123 (c_impl_pathsOk hy16 F0) ?_
  rintro _ w17 ⟨rfl, hc18⟩
  replace F0 := F0.chg hc18 Dj.nil
  replace F5 := F5.chg hc18 notNil
  replace F11 := F11.chg hc18 notNil
  replace hB := hB.inS hc18 inNil
  replace hZ := Nat.le_trans hZ hc18.size
  refine ⟨.bool (y15), rfl, ?_⟩
  refine wS_pure 1 [(13, .bool (!y15))] (by kernel_rfl) ?_
  refine wS_end (by rfl) ?_
  refine eX_then ?_
  refine cW_cond (t := !y15) (by kernel_rfl) (fun hb19 => ?_) (fun hb19 => ?_)
  · have hm := condT hb19 hm
    refine cW_seq ?_
    refine cW_region ?_
    refine wS_pure 1 [(14, .agg #[.int .i64 (0), .slice none 0 0, .slice none 0 0, .slice none 0 0])] (by kernel_rfl) ?_
    refine wS_store (T := 83) (g := b8) (o := 0) (ad := ⟨b8, 0, none⟩) (v := .agg #[.int .i64 (0), .slice none 0 0, .slice none 0 0, .slice none 0 0]) (vs := [.int .i64 (0), .slice none 0 0, .slice none 0 0, .slice none 0 0]) (by kernel_rfl) (by rfl) sz83 (by rfl) (by rfl) F11 (by simp only [List.length_cons, List.length_nil]; omega) ?_
    intro w20 F21 hc22
    replace F0 := F0.chg hc22 (Dj.of L0 (low1 G10))
    replace F5 := F5.chg hc22 (dj1 D14)
    replace hB := hB.inS hc22 (inLow (low1 G10))
    replace hZ := Nat.le_trans hZ hc22.size
    replace F21 : Cl w20 b8 83 [.int .i64 (0), .slice none 0 0, .slice none 0 0, .slice none 0 0] := F21
    clear F11
    refine wS_pure 1 [(3, .bool (false))] (by kernel_rfl) ?_
    refine wS_end (by rfl) ?_
    refine eX_then ?_
    refine cW_ret ?_
    refine eX_then_ret ?_
    have hq : (some (((0, [], [], []), false)) : Option ((Int × (List (List (Int))) × (List (List (Int))) × (List (Int))) × (Bool))) = some _ := hm
    replace hq := someE hq
    subst hq
    refine eX_ret (vs := [.agg #[.int .i64 (0), .slice none 0 0, .slice none 0 0, .slice none 0 0], .bool (false)]) [.cell 2 83, .tmp 3] (by rfl) ⟨⟨⟨b8, 0, none⟩, by kernel_rfl, run_loadVarA (vs := [.int .i64 (0), .slice none 0 0, .slice none 0 0, .slice none 0 0]) vt83 (fun i u hu => by exact box_cells F21 0 hu (by rfl))⟩, ⟨by (show lkE _ _ _ = _); kernel_rfl, trivial⟩⟩ ?_
    exact ⟨none, 0, [], [], none, 0, [], [], none, 0, [], rfl, OwR.nil _, (lowApp lowNil lowNil), OwR.nil _, (lowApp lowNil lowNil), Ow.nil _, lowNil, (Dj.app Dj.nil Dj.nil), Dj.nil, Dj.nil, hB⟩
  · have hm := condF hb19 hm
    refine cW_skip ?_
    refine eX_then ?_
    refine cW_seq ?_
    refine cW_region ?_
    refine wS_load1 (d := 15) (T := 31) (ad := ⟨b2, 0, none⟩) (v := .slice A0 (l0).length cap0) (by kernel_rfl) vt31 ((F5).cell 0) ?_
    obtain ⟨y23, hy24, hm⟩ := bindE hm
    refine wS_calls (d := 16) (f := 124) (vs := [.slice A0 (l0).length cap0]) (by kernel_rfl) ent124 (c_impl_segments hy24 F0) ?_
    rintro _ w25 ⟨A27, cap28, fp29, fr32, rfl, F30, G31, hc26⟩
    have D34 : Dj [b2] (fp29 ++ fr32) := Dj.of (lt1 F5.lt) G31
    have D35 : Dj [b8] (fp29 ++ fr32) := Dj.of (lt1 F11.lt) G31
    replace F0 := F0.chg hc26 Dj.nil
    replace F5 := F5.chg hc26 notNil
    replace F11 := F11.chg hc26 notNil
    replace hB := hB.inS hc26 inNil
    replace G31 := low_le hZ G31
    replace hZ := Nat.le_trans hZ hc26.size
    refine ⟨.slice A27 (y23).length cap28, rfl, ?_⟩
    refine wS_pure 1 [(4, .slice A27 (y23).length cap28)] (by kernel_rfl) ?_
    refine wS_end (by rfl) ?_
    refine eX_then ?_
    refine cW_seq ?_
    refine cW_region ?_
    refine wS_pure 2 [(5, .func (.func 125) #[] #[.pointer (some ⟨b2, 0, none⟩)]), (17, .func (.func 125) #[] #[.pointer (some ⟨b2, 0, none⟩)])] (by kernel_rfl) ?_
    refine wS_end (by rfl) ?_
    refine eX_then ?_
    refine cW_seq ?_
    refine cW_region ?_
    refine wS_pure 3 [(20, .agg #[.int .i64 (((y23).length : Int)), .slice none 0 0, .slice none 0 0, .slice none 0 0]), (19, .int .i64 (((y23).length : Int))), (18, .slice A27 (y23).length cap28)] (by kernel_rfl) ?_
    refine wS_alloc (d := 6) (T := 83) (z := .agg #[.int .i64 (0), .slice none 0 0, .slice none 0 0, .slice none 0 0]) (by kernel_rfl) (by kernel_rfl) ?_
    intro b36 w37 G38 F39 hc40
    replace F39 : Cl w37 b36 83 [.int .i64 (0), .slice none 0 0, .slice none 0 0, .slice none 0 0] := F39
    have D42 : Dj [b2] [b36] := Dj.of (lt1 F5.lt) (low1 G38)
    have D43 : Dj [b8] [b36] := Dj.of (lt1 F11.lt) (low1 G38)
    have D44 : Dj (fp29 ++ fr32) [b36] := Dj.of F30.low (low1 G38)
    replace F0 := F0.chg hc40 Dj.nil
    replace F5 := F5.chg hc40 notNil
    replace F11 := F11.chg hc40 notNil
    replace F30 := F30.chg hc40 Dj.nil
    replace hB := hB.inS hc40 inNil
    replace G38 := Nat.le_trans hZ G38
    replace hZ := Nat.le_trans hZ hc40.size
    refine wS_store (T := 83) (g := b36) (o := 0) (ad := ⟨b36, 0, none⟩) (v := .agg #[.int .i64 (((y23).length : Int)), .slice none 0 0, .slice none 0 0, .slice none 0 0]) (vs := [.int .i64 (((y23).length : Int)), .slice none 0 0, .slice none 0 0, .slice none 0 0]) (by kernel_rfl) (by rfl) sz83 (by rfl) (by rfl) F39 (by simp only [List.length_cons, List.length_nil]; omega) ?_
    intro w45 F46 hc47
    replace F0 := F0.chg hc47 (Dj.of L0 (low1 G38))
    replace F5 := F5.chg hc47 (dj1 D42)
    replace F11 := F11.chg hc47 (dj1 D43)
    replace F30 := F30.chg hc47 D44
    replace hB := hB.inS hc47 (inLow (low1 G38))
    replace hZ := Nat.le_trans hZ hc47.size
    replace F46 : Cl w45 b36 83 [.int .i64 (((y23).length : Int)), .slice none 0 0, .slice none 0 0, .slice none 0 0] := F46
    clear F39
    refine wS_end (by rfl) ?_
    refine eX_then ?_
    refine cW_seq ?_
    refine cW_seq ?_
    refine cW_region ?_
    refine wS_pure 1 [(21, .pointer (some ⟨b36, 0, none⟩))] (by kernel_rfl) ?_
    refine wS_load1 (d := 22) (T := 2) (ad := ⟨b36, 0, none⟩) (v := .int .i64 (((y23).length : Int))) (by kernel_rfl) vt2 ((F46).cell 0) ?_
    refine wS_pure 1 [(23, .bool (decide ((((y23).length : Int)) > 14)))] (by kernel_rfl) ?_
    refine wS_end (by rfl) ?_
    refine eX_then ?_
    refine cW_cond (t := decide ((((y23).length : Int)) > 14)) (by kernel_rfl) (fun hb48 => ?_) (fun hb48 => ?_)
    · have hm := condT hb48 hm
      refine cW_seq ?_
      refine cW_region ?_
      refine wS_pure 1 [(24, .agg #[.int .i64 (0), .slice none 0 0, .slice none 0 0, .slice none 0 0])] (by kernel_rfl) ?_
      refine wS_store (T := 83) (g := b8) (o := 0) (ad := ⟨b8, 0, none⟩) (v := .agg #[.int .i64 (0), .slice none 0 0, .slice none 0 0, .slice none 0 0]) (vs := [.int .i64 (0), .slice none 0 0, .slice none 0 0, .slice none 0 0]) (by kernel_rfl) (by rfl) sz83 (by rfl) (by rfl) F11 (by simp only [List.length_cons, List.length_nil]; omega) ?_
      intro w49 F50 hc51
      replace F0 := F0.chg hc51 (Dj.of L0 (low1 G10))
      replace F5 := F5.chg hc51 (dj1 D14)
      replace F30 := F30.chg hc51 (D35).symm
      replace F46 := F46.chg hc51 (dj1 (D43).symm)
      replace hB := hB.inS hc51 (inLow (low1 G10))
      replace hZ := Nat.le_trans hZ hc51.size
      replace F50 : Cl w49 b8 83 [.int .i64 (0), .slice none 0 0, .slice none 0 0, .slice none 0 0] := F50
      clear F11
      refine wS_pure 1 [(3, .bool (false))] (by kernel_rfl) ?_
      refine wS_end (by rfl) ?_
      refine eX_then ?_
      refine cW_ret ?_
      refine eX_then_ret ?_
      have hq : (some (((0, [], [], []), false)) : Option ((Int × (List (List (Int))) × (List (List (Int))) × (List (Int))) × (Bool))) = some _ := hm
      replace hq := someE hq
      subst hq
      refine eX_ret (vs := [.agg #[.int .i64 (0), .slice none 0 0, .slice none 0 0, .slice none 0 0], .bool (false)]) [.cell 2 83, .tmp 3] (by rfl) ⟨⟨⟨b8, 0, none⟩, by kernel_rfl, run_loadVarA (vs := [.int .i64 (0), .slice none 0 0, .slice none 0 0, .slice none 0 0]) vt83 (fun i u hu => by exact box_cells F50 0 hu (by rfl))⟩, ⟨by (show lkE _ _ _ = _); kernel_rfl, trivial⟩⟩ ?_
      exact ⟨none, 0, [], [], none, 0, [], [], none, 0, [], rfl, OwR.nil _, (lowApp lowNil lowNil), OwR.nil _, (lowApp lowNil lowNil), Ow.nil _, lowNil, (Dj.app Dj.nil Dj.nil), Dj.nil, Dj.nil, hB⟩
    · have hm := condF hb48 hm
      refine cW_skip ?_
      refine eX_then ?_
      refine cW_seq ?_
      refine cW_seq ?_
      refine cW_region ?_
      refine wS_pure 3 [(27, .int .i64 (0)), (26, .int .i64 (((y23).length : Int))), (25, .slice A27 (y23).length cap28)] (by kernel_rfl) ?_
      refine wS_end (by rfl) ?_
      refine eX_then ?_
      obtain ⟨r6408, hr6409, hm⟩ := bindE hm
      have hm6410 := hm
      refine cW_cut (fun a' w' => ∃ l6327 : List (List (Int)), ∃ A6328 : Option Addr, ∃ cap6329 : Nat, ∃ fp6330 : List Nat, ∃ fr6332 : List Nat, ∃ l6333 : List (List (Int)), ∃ A6334 : Option Addr, ∃ cap6335 : Nat, ∃ fp6336 : List Nat, ∃ fr6338 : List Nat, ∃ l6339 : List (Int), ∃ A6340 : Option Addr, ∃ cap6341 : Nat, ∃ fp6342 : List Nat, (l6327, l6333, l6339) = r6408 ∧ Fr 100 [(2, .pointer (some ⟨b8, 0, none⟩)), (6, .pointer (some ⟨b36, 0, none⟩))] a' ∧ Cl w' b8 83 [.int .i64 (0), .slice none 0 0, .slice none 0 0, .slice none 0 0] ∧ Cl w' b36 83 [.int .i64 (((y23).length : Int)), .slice A6328 (l6327).length cap6329, .slice A6334 (l6333).length cap6335, .slice A6340 (l6339).length cap6341] ∧ OwR 1 encI 25 2 w' fp6330 fr6332 A6328 cap6329 l6327 ∧ OwR 1 encI 25 2 w' fp6336 fr6338 A6334 cap6335 l6333 ∧ Ow 1 encI 2 w' fp6342 A6340 cap6341 l6339 ∧ (∀ x ∈ (fp6330 ++ fr6332), w0.heap.size ≤ x) ∧ (∀ x ∈ (fp6336 ++ fr6338), w0.heap.size ≤ x) ∧ (∀ x ∈ fp6342, w0.heap.size ≤ x) ∧ Dj [b8] (fp6330 ++ fr6332) ∧ Dj [b36] (fp6330 ++ fr6332) ∧ Dj (fp6336 ++ fr6338) (fp6330 ++ fr6332) ∧ Dj fp6342 (fp6330 ++ fr6332) ∧ Dj [b8] (fp6336 ++ fr6338) ∧ Dj [b36] (fp6336 ++ fr6338) ∧ Dj fp6342 (fp6336 ++ fr6338) ∧ Dj [b8] fp6342 ∧ Dj [b36] fp6342 ∧ Chg [] w0 w' ∧ w0.heap.size ≤ w'.heap.size) ?_ ?_
      · refine cW_block ?_
        refine cW_loop _ (fun (s6411 : Int × (List (List (Int))) × (List (List (Int))) × (List (Int))) a' w' => ∃ x6363 : Int, ∃ l6364 : List (List (Int)), ∃ A6365 : Option Addr, ∃ cap6366 : Nat, ∃ fp6367 : List Nat, ∃ fr6369 : List Nat, ∃ l6370 : List (List (Int)), ∃ A6371 : Option Addr, ∃ cap6372 : Nat, ∃ fp6373 : List Nat, ∃ fr6375 : List Nat, ∃ l6376 : List (Int), ∃ A6377 : Option Addr, ∃ cap6378 : Nat, ∃ fp6379 : List Nat, (x6363, l6364, l6370, l6376) = s6411 ∧ Fr 100 [(2, .pointer (some ⟨b8, 0, none⟩)), (4, .slice A27 (y23).length cap28), (5, .func (.func 125) #[] #[.pointer (some ⟨b2, 0, none⟩)]), (6, .pointer (some ⟨b36, 0, none⟩)), (25, .slice A27 (y23).length cap28), (26, .int .i64 (((y23).length : Int))), (27, .int .i64 (x6363))] a' ∧ SlR 2 encII w' fp0 A0 l0 ∧ Cl w' b2 31 [.slice A0 (l0).length cap0] ∧ Cl w' b8 83 [.int .i64 (0), .slice none 0 0, .slice none 0 0, .slice none 0 0] ∧ OwR 1 encI 25 2 w' fp29 fr32 A27 cap28 y23 ∧ Cl w' b36 83 [.int .i64 (((y23).length : Int)), .slice A6365 (l6364).length cap6366, .slice A6371 (l6370).length cap6372, .slice A6377 (l6376).length cap6378] ∧ OwR 1 encI 25 2 w' fp6367 fr6369 A6365 cap6366 l6364 ∧ OwR 1 encI 25 2 w' fp6373 fr6375 A6371 cap6372 l6370 ∧ Ow 1 encI 2 w' fp6379 A6377 cap6378 l6376 ∧ (∀ x ∈ (fp6367 ++ fr6369), w0.heap.size ≤ x) ∧ (∀ x ∈ (fp6373 ++ fr6375), w0.heap.size ≤ x) ∧ (∀ x ∈ fp6379, w0.heap.size ≤ x) ∧ Dj [b2] (fp6367 ++ fr6369) ∧ Dj [b8] (fp6367 ++ fr6369) ∧ Dj (fp29 ++ fr32) (fp6367 ++ fr6369) ∧ Dj [b36] (fp6367 ++ fr6369) ∧ Dj (fp6373 ++ fr6375) (fp6367 ++ fr6369) ∧ Dj fp6379 (fp6367 ++ fr6369) ∧ Dj [b2] (fp6373 ++ fr6375) ∧ Dj [b8] (fp6373 ++ fr6375) ∧ Dj (fp29 ++ fr32) (fp6373 ++ fr6375) ∧ Dj [b36] (fp6373 ++ fr6375) ∧ Dj fp6379 (fp6373 ++ fr6375) ∧ Dj [b2] fp6379 ∧ Dj [b8] fp6379 ∧ Dj (fp29 ++ fr32) fp6379 ∧ Dj [b36] fp6379 ∧ Chg [] w0 w' ∧ w0.heap.size ≤ w'.heap.size) hr6409 (fun hst => ⟨0, [], none, 0, [], [], [], none, 0, [], [], [], none, 0, [], rfl, Fr.of hst (by kernel_rfl), F0, F5, F11, F30, F46, OwR.nil _, OwR.nil _, Ow.nil _, (lowApp lowNil lowNil), (lowApp lowNil lowNil), lowNil, (Dj.app Dj.nil Dj.nil), (Dj.app Dj.nil Dj.nil), (Dj.app Dj.nil Dj.nil), (Dj.app Dj.nil Dj.nil), (Dj.app Dj.nil Dj.nil), (Dj.app Dj.nil Dj.nil), (Dj.app Dj.nil Dj.nil), (Dj.app Dj.nil Dj.nil), (Dj.app Dj.nil Dj.nil), (Dj.app Dj.nil Dj.nil), (Dj.app Dj.nil Dj.nil), Dj.nil, Dj.nil, Dj.nil, Dj.nil, hB, hZ⟩) ?_
        rintro _ c6412 a' w6362 ⟨x6363, l6364, A6365, cap6366, fp6367, fr6369, l6370, A6371, cap6372, fp6373, fr6375, l6376, A6377, cap6378, fp6379, rfl, hF6381, F6382, F6383, F6384, F6385, F6386, F6387, F6388, F6389, G6390, G6391, G6392, D6393, D6394, D6395, D6396, D6397, D6398, D6399, D6400, D6401, D6402, D6403, D6404, D6405, D6406, D6407, hB, hZ⟩ hx6413
        refine Fr.goOn hF6381 (by kernel_rfl) ?_
        have hm := hx6413
        unfold m_impl_WiringOf_s3 at hm
        refine cW_seq ?_
        refine cW_region ?_
        refine wS_pure 1 [(28, .bool (decide (x6363 < (((y23).length : Int)))))] (by kernel_rfl) ?_
        refine wS_end (by rfl) ?_
        refine eX_then ?_
        refine cW_seq ?_
        refine cW_cond (t := decide (x6363 < (((y23).length : Int)))) (by kernel_rfl) (fun hb6414 => ?_) (fun hb6414 => ?_)
        · have hm := condT hb6414 hm
          refine cW_skip ?_
          refine eX_then ?_
          refine cW_seq ?_
          refine cW_block ?_
          refine cW_seq ?_
          refine cW_region ?_
          refine wS_pure 1 [(29, .int .i64 (x6363))] (by kernel_rfl) ?_
          obtain ⟨x6415, hx6416, hm⟩ := bindE hm
          refine wS_idx (d := 30) (T := 40) (A := A27) (n := (y23).length) (cap := cap28) (kd := .i64) (m := x6363) (by kernel_rfl) sl40 ((F6385.slr encI_ok).is hx6416) ?_
          obtain ⟨A6417, cap6418, hc6420, F6419, K6421⟩ := OwR.row F6385 encI_ok hx6416
          have G6423 := low_inr G31
          have Dm6424 := (F6385.dj).symm
          refine wS_load1 (d := 31) (T := 25) (ad := (elA A27 1 (x6363) 0)) (v := .slice A6417 (x6415).length cap6418) (by kernel_rfl) vt25 hc6420 ?_
          refine wS_pure 2 [(8, .slice A6417 (x6415).length cap6418), (7, .int .i64 (x6363))] (by kernel_rfl) ?_
          refine wS_end (by rfl) ?_
          refine eX_then ?_
          refine cW_seq ?_
          refine cW_region ?_
          refine wS_pure 1 [(32, .pointer (some ⟨b36, 3, none⟩))] (by kernel_rfl) ?_
          refine wS_load1 (d := 33) (T := 25) (ad := ⟨b36, 3, none⟩) (v := .slice A6377 (l6376).length cap6378) (by kernel_rfl) vt25 ((F6386).cell 3) ?_
          refine wS_bs (enc := encI) ([(-1)] : List (Int)) [.int .i64 ((-1))] (d := 34) (t := 25) (T := 2) (n := 1) (ps := [(0, .int .i64 ((-1)))]) (by kernel_rfl) el25 encI_ok (by rfl) (by omega) (by omega) (by kernel_rfl) (by rfl) ?_
          intro b6425 w6426 G6427 F6428 hc6429
          have D6431 : Dj [b2] [b6425] := Dj.of (lt1 F6383.lt) (low1 G6427)
          have D6432 : Dj [b8] [b6425] := Dj.of (lt1 F6384.lt) (low1 G6427)
          have D6433 : Dj (fp29 ++ fr32) [b6425] := Dj.of F6385.low (low1 G6427)
          have D6434 : Dj [b36] [b6425] := Dj.of (lt1 F6386.lt) (low1 G6427)
          have D6435 : Dj (fp6367 ++ fr6369) [b6425] := Dj.of F6387.low (low1 G6427)
          have D6436 : Dj (fp6373 ++ fr6375) [b6425] := Dj.of F6388.low (low1 G6427)
          have D6437 : Dj fp6379 [b6425] := Dj.of F6389.low (low1 G6427)
          have D6438 : Dj fr32 [b6425] := Dj.of F6419.low (low1 G6427)
          replace F6382 := F6382.chg hc6429 Dj.nil
          replace F6383 := F6383.chg hc6429 notNil
          replace F6384 := F6384.chg hc6429 notNil
          replace F6385 := F6385.chg hc6429 Dj.nil
          replace F6386 := F6386.chg hc6429 notNil
          replace F6387 := F6387.chg hc6429 Dj.nil
          replace F6388 := F6388.chg hc6429 Dj.nil
          replace F6389 := F6389.chg hc6429 Dj.nil
          replace F6419 := F6419.chg hc6429 Dj.nil
          replace hB := hB.inS hc6429 inNil
          replace G6427 := Nat.le_trans hZ G6427
          replace G6427 := low1 G6427
          replace hZ := Nat.le_trans hZ hc6429.size
          obtain ⟨_, hk6439, hm⟩ := bindE hm
          replace hk6439 := apE hk6439
          refine wS_append (enc := encI) (l := (l6376 : List (Int))) (l2 := (([(-1)] : List (Int)) : List (Int))) (d := 35) (t := 25) (T := 2) (A := A6377) (A2 := (some ⟨b6425, 0, none⟩)) (cap := cap6378) (cap2 := 1) (by kernel_rfl) el25 encI_ok F6389 (F6428.sl encI_ok) (by rfl) hk6439 ?_
          intro w6440 fp6441 A6442 cap6443 F6444 hc6445 hp6446
          have G6448 := low_ap G6392 hZ hp6446
          have D6449 : Dj [b2] fp6441 := Dj.ap D6404 (lt1 F6383.lt) hp6446
          have D6450 : Dj [b8] fp6441 := Dj.ap D6405 (lt1 F6384.lt) hp6446
          have D6451 : Dj (fp29 ++ fr32) fp6441 := Dj.ap D6406 F6385.low hp6446
          have D6452 : Dj [b36] fp6441 := Dj.ap D6407 (lt1 F6386.lt) hp6446
          have D6453 : Dj (fp6367 ++ fr6369) fp6441 := Dj.ap (D6398).symm F6387.low hp6446
          have D6454 : Dj (fp6373 ++ fr6375) fp6441 := Dj.ap (D6403).symm F6388.low hp6446
          have D6455 : Dj fr32 fp6441 := Dj.ap ((Dj.inr (D6406).symm)).symm F6419.low hp6446
          have D6456 : Dj [b6425] fp6441 := Dj.ap (D6437).symm F6428.low hp6446
          replace F6382 := F6382.chg hc6445 (Dj.of L0 G6392)
          replace F6383 := F6383.chg hc6445 (dj1 D6404)
          replace F6384 := F6384.chg hc6445 (dj1 D6405)
          replace F6385 := F6385.chg hc6445 D6406
          replace F6386 := F6386.chg hc6445 (dj1 D6407)
          replace F6387 := F6387.chg hc6445 (D6398).symm
          replace F6388 := F6388.chg hc6445 (D6403).symm
          replace F6419 := F6419.chg hc6445 ((Dj.inr (D6406).symm)).symm
          replace F6428 := F6428.chg hc6445 (D6437).symm
          replace hB := hB.inS hc6445 (inLow G6392)
          replace hZ := Nat.le_trans hZ hc6445.size
          refine wS_pure 1 [(36, .pointer (some ⟨b36, 3, none⟩))] (by kernel_rfl) ?_
          refine wS_store (T := 25) (g := b36) (o := 3) (ad := ⟨b36, 3, none⟩) (v := .slice A6442 (l6376 ++ (([(-1)] : List (Int)))).length cap6443) (vs := [.slice A6442 (l6376 ++ (([(-1)] : List (Int)))).length cap6443]) (by kernel_rfl) (by rfl) sz25 (by rfl) (by rfl) F6386 (by simp only [List.length_cons, List.length_nil]; omega) ?_
          intro w6457 F6458 hc6459
          replace F6382 := F6382.chg hc6459 (Dj.of L0 (low1 G38))
          replace F6383 := F6383.chg hc6459 (dj1 D42)
          replace F6384 := F6384.chg hc6459 (dj1 D43)
          replace F6385 := F6385.chg hc6459 D44
          replace F6387 := F6387.chg hc6459 (D6396).symm
          replace F6388 := F6388.chg hc6459 (D6402).symm
          replace F6419 := F6419.chg hc6459 ((Dj.inr (D44).symm)).symm
          replace F6428 := F6428.chg hc6459 (D6434).symm
          replace F6444 := F6444.chg hc6459 (D6452).symm
          replace hB := hB.inS hc6459 (inLow (low1 G38))
          replace hZ := Nat.le_trans hZ hc6459.size
          replace F6458 : Cl w6457 b36 83 [.int .i64 (((y23).length : Int)), .slice A6365 (l6364).length cap6366, .slice A6371 (l6370).length cap6372, .slice A6442 (l6376 ++ (([(-1)] : List (Int)))).length cap6443] := F6458
          clear F6386
          refine wS_end (by rfl) ?_
          refine eX_then ?_
          refine cW_seq ?_
          refine cW_region ?_
          refine wS_pure 3 [(9, .int .i64 (wr (x6363 + 1))), (38, .int .i64 (wr (x6363 + 1))), (37, .int .i64 (x6363))] (by kernel_rfl) ?_
          refine wS_end (by rfl) ?_
          refine eX_then ?_
          obtain ⟨r8564, hr8565, hm⟩ := bindE hm
          have hm8566 := hm
          refine cW_cut (fun a' w' => ∃ l8491 : List (List (Int)), ∃ A8492 : Option Addr, ∃ cap8493 : Nat, ∃ fp8494 : List Nat, ∃ fr8496 : List Nat, ∃ l8497 : List (List (Int)), ∃ A8498 : Option Addr, ∃ cap8499 : Nat, ∃ fp8500 : List Nat, ∃ fr8502 : List Nat, (l8491, l8497) = r8564 ∧ Fr 100 [(2, .pointer (some ⟨b8, 0, none⟩)), (4, .slice A27 (y23).length cap28), (5, .func (.func 125) #[] #[.pointer (some ⟨b2, 0, none⟩)]), (6, .pointer (some ⟨b36, 0, none⟩)), (25, .slice A27 (y23).length cap28), (26, .int .i64 (((y23).length : Int))), (27, .int .i64 (x6363))] a' ∧ SlR 2 encII w' fp0 A0 l0 ∧ Cl w' b2 31 [.slice A0 (l0).length cap0] ∧ Cl w' b8 83 [.int .i64 (0), .slice none 0 0, .slice none 0 0, .slice none 0 0] ∧ OwR 1 encI 25 2 w' fp29 fr32 A27 cap28 y23 ∧ Cl w' b36 83 [.int .i64 (((y23).length : Int)), .slice A8492 (l8491).length cap8493, .slice A8498 (l8497).length cap8499, .slice A6442 (l6376 ++ (([(-1)] : List (Int)))).length cap6443] ∧ Ow 1 encI 2 w' fp6441 A6442 cap6443 (l6376 ++ (([(-1)] : List (Int)))) ∧ OwR 1 encI 25 2 w' fp8494 fr8496 A8492 cap8493 l8491 ∧ OwR 1 encI 25 2 w' fp8500 fr8502 A8498 cap8499 l8497 ∧ (∀ x ∈ (fp8494 ++ fr8496), w0.heap.size ≤ x) ∧ (∀ x ∈ (fp8500 ++ fr8502), w0.heap.size ≤ x) ∧ Dj [b2] (fp8494 ++ fr8496) ∧ Dj [b8] (fp8494 ++ fr8496) ∧ Dj (fp29 ++ fr32) (fp8494 ++ fr8496) ∧ Dj [b36] (fp8494 ++ fr8496) ∧ Dj fp6441 (fp8494 ++ fr8496) ∧ Dj (fp8500 ++ fr8502) (fp8494 ++ fr8496) ∧ Dj [b2] (fp8500 ++ fr8502) ∧ Dj [b8] (fp8500 ++ fr8502) ∧ Dj (fp29 ++ fr32) (fp8500 ++ fr8502) ∧ Dj [b36] (fp8500 ++ fr8502) ∧ Dj fp6441 (fp8500 ++ fr8502) ∧ Chg [] w0 w' ∧ w0.heap.size ≤ w'.heap.size) ?_ ?_
          · refine cW_block ?_
            refine cW_loop _ (fun (s8567 : Int × (List (List (Int))) × (List (List (Int)))) a' w' => ∃ x8526 : Int, ∃ l8527 : List (List (Int)), ∃ A8528 : Option Addr, ∃ cap8529 : Nat, ∃ fp8530 : List Nat, ∃ fr8532 : List Nat, ∃ l8533 : List (List (Int)), ∃ A8534 : Option Addr, ∃ cap8535 : Nat, ∃ fp8536 : List Nat, ∃ fr8538 : List Nat, (x8526, l8527, l8533) = s8567 ∧ Fr 100 [(2, .pointer (some ⟨b8, 0, none⟩)), (4, .slice A27 (y23).length cap28), (5, .func (.func 125) #[] #[.pointer (some ⟨b2, 0, none⟩)]), (6, .pointer (some ⟨b36, 0, none⟩)), (7, .int .i64 (x6363)), (8, .slice A6417 (x6415).length cap6418), (9, .int .i64 (x8526)), (25, .slice A27 (y23).length cap28), (26, .int .i64 (((y23).length : Int))), (27, .int .i64 (x6363))] a' ∧ SlR 2 encII w' fp0 A0 l0 ∧ Cl w' b2 31 [.slice A0 (l0).length cap0] ∧ Cl w' b8 83 [.int .i64 (0), .slice none 0 0, .slice none 0 0, .slice none 0 0] ∧ OwR 1 encI 25 2 w' fp29 fr32 A27 cap28 y23 ∧ Cl w' b36 83 [.int .i64 (((y23).length : Int)), .slice A8528 (l8527).length cap8529, .slice A8534 (l8533).length cap8535, .slice A6442 (l6376 ++ (([(-1)] : List (Int)))).length cap6443] ∧ Sl 1 encI w' fr32 A6417 x6415 ∧ Ow 1 encI 2 w' fp6441 A6442 cap6443 (l6376 ++ (([(-1)] : List (Int)))) ∧ OwR 1 encI 25 2 w' fp8530 fr8532 A8528 cap8529 l8527 ∧ OwR 1 encI 25 2 w' fp8536 fr8538 A8534 cap8535 l8533 ∧ (∀ x ∈ (fp8530 ++ fr8532), w0.heap.size ≤ x) ∧ (∀ x ∈ (fp8536 ++ fr8538), w0.heap.size ≤ x) ∧ Dj [b2] (fp8530 ++ fr8532) ∧ Dj [b8] (fp8530 ++ fr8532) ∧ Dj (fp29 ++ fr32) (fp8530 ++ fr8532) ∧ Dj [b36] (fp8530 ++ fr8532) ∧ Dj fr32 (fp8530 ++ fr8532) ∧ Dj fp6441 (fp8530 ++ fr8532) ∧ Dj (fp8536 ++ fr8538) (fp8530 ++ fr8532) ∧ Dj [b2] (fp8536 ++ fr8538) ∧ Dj [b8] (fp8536 ++ fr8538) ∧ Dj (fp29 ++ fr32) (fp8536 ++ fr8538) ∧ Dj [b36] (fp8536 ++ fr8538) ∧ Dj fr32 (fp8536 ++ fr8538) ∧ Dj fp6441 (fp8536 ++ fr8538) ∧ Chg [] w0 w' ∧ w0.heap.size ≤ w'.heap.size) hr8565 (fun hst => ⟨wr (x6363 + 1), l6364, A6365, cap6366, fp6367, fr6369, l6370, A6371, cap6372, fp6373, fr6375, rfl, Fr.of hst (by kernel_rfl), F6382, F6383, F6384, F6385, F6458, F6419, F6444, F6387, F6388, G6390, G6391, D6393, D6394, D6395, D6396, ((Dj.inr (D6395).symm)).symm, (D6453).symm, D6397, D6399, D6400, D6401, D6402, ((Dj.inr (D6401).symm)).symm, (D6454).symm, hB, hZ⟩) ?_
            rintro _ c8568 a' w8525 ⟨x8526, l8527, A8528, cap8529, fp8530, fr8532, l8533, A8534, cap8535, fp8536, fr8538, rfl, hF8539, F8540, F8541, F8542, F8543, F8544, F8545, F8546, F8547, F8548, G8549, G8550, D8551, D8552, D8553, D8554, D8555, D8556, D8557, D8558, D8559, D8560, D8561, D8562, D8563, hB, hZ⟩ hx8569
            refine Fr.goOn hF8539 (by kernel_rfl) ?_
            have hm := hx8569
            unfold m_impl_WiringOf_s4 at hm
            refine cW_seq ?_
            refine cW_seq ?_
            refine cW_region ?_
            refine wS_pure 4 [(42, .bool (decide (x8526 < (((y23).length : Int))))), (41, .int .i64 (((y23).length : Int))), (40, .slice A27 (y23).length cap28), (39, .int .i64 (x8526))] (by kernel_rfl) ?_
            refine wS_end (by rfl) ?_
            refine eX_then ?_
            refine cW_cond (t := decide (x8526 < (((y23).length : Int)))) (by kernel_rfl) (fun hb8570 => ?_) (fun hb8570 => ?_)
            · have hm := condT hb8570 hm
              refine cW_skip ?_
              refine eX_then ?_
              refine cW_seq ?_
              refine cW_block ?_
              obtain ⟨s9084, hs9085, hm⟩ := bindE hm
              refine cW_cut (fun a' w' => ∃ l9047 : List (List (Int)), ∃ A9048 : Option Addr, ∃ cap9049 : Nat, ∃ fp9050 : List Nat, ∃ fr9052 : List Nat, ∃ l9053 : List (List (Int)), ∃ A9054 : Option Addr, ∃ cap9055 : Nat, ∃ fp9056 : List Nat, ∃ fr9058 : List Nat, (l9047, l9053) = s9084 ∧ Fr 100 [(2, .pointer (some ⟨b8, 0, none⟩)), (4, .slice A27 (y23).length cap28), (5, .func (.func 125) #[] #[.pointer (some ⟨b2, 0, none⟩)]), (6, .pointer (some ⟨b36, 0, none⟩)), (7, .int .i64 (x6363)), (8, .slice A6417 (x6415).length cap6418), (9, .int .i64 (x8526)), (25, .slice A27 (y23).length cap28), (26, .int .i64 (((y23).length : Int))), (27, .int .i64 (x6363))] a' ∧ SlR 2 encII w' fp0 A0 l0 ∧ Cl w' b2 31 [.slice A0 (l0).length cap0] ∧ Cl w' b8 83 [.int .i64 (0), .slice none 0 0, .slice none 0 0, .slice none 0 0] ∧ OwR 1 encI 25 2 w' fp29 fr32 A27 cap28 y23 ∧ Cl w' b36 83 [.int .i64 (((y23).length : Int)), .slice A9048 (l9047).length cap9049, .slice A9054 (l9053).length cap9055, .slice A6442 (l6376 ++ (([(-1)] : List (Int)))).length cap6443] ∧ Sl 1 encI w' fr32 A6417 x6415 ∧ Ow 1 encI 2 w' fp6441 A6442 cap6443 (l6376 ++ (([(-1)] : List (Int)))) ∧ OwR 1 encI 25 2 w' fp9050 fr9052 A9048 cap9049 l9047 ∧ OwR 1 encI 25 2 w' fp9056 fr9058 A9054 cap9055 l9053 ∧ (∀ x ∈ (fp9050 ++ fr9052), w0.heap.size ≤ x) ∧ (∀ x ∈ (fp9056 ++ fr9058), w0.heap.size ≤ x) ∧ Dj [b2] (fp9050 ++ fr9052) ∧ Dj [b8] (fp9050 ++ fr9052) ∧ Dj (fp29 ++ fr32) (fp9050 ++ fr9052) ∧ Dj [b36] (fp9050 ++ fr9052) ∧ Dj fr32 (fp9050 ++ fr9052) ∧ Dj fp6441 (fp9050 ++ fr9052) ∧ Dj (fp9056 ++ fr9058) (fp9050 ++ fr9052) ∧ Dj [b2] (fp9056 ++ fr9058) ∧ Dj [b8] (fp9056 ++ fr9058) ∧ Dj (fp29 ++ fr32) (fp9056 ++ fr9058) ∧ Dj [b36] (fp9056 ++ fr9058) ∧ Dj fr32 (fp9056 ++ fr9058) ∧ Dj fp6441 (fp9056 ++ fr9058) ∧ Chg [] w0 w' ∧ w0.heap.size ≤ w'.heap.size) ?_ ?_
              · have hm := hs9085
                refine cW_seq ?_
                refine cW_region ?_
                refine wS_pure 2 [(46, .int .i64 (x8526)), (45, .slice A27 (y23).length cap28)] (by kernel_rfl) ?_
                obtain ⟨x9086, hx9087, hm⟩ := bindE hm
                refine wS_idx (d := 47) (T := 40) (A := A27) (n := (y23).length) (cap := cap28) (kd := .i64) (m := x8526) (by kernel_rfl) sl40 ((F8543.slr encI_ok).is hx9087) ?_
                obtain ⟨A9088, cap9089, hc9091, F9090, K9092⟩ := OwR.row F8543 encI_ok hx9087
                have G9094 := low_inr G31
                have Dm9095 := (F8543.dj).symm
                refine wS_load1 (d := 48) (T := 25) (ad := (elA A27 1 (x8526) 0)) (v := .slice A9088 (x9086).length cap9089) (by kernel_rfl) vt25 hc9091 ?_
                refine wS_pure 1 [(10, .slice A9088 (x9086).length cap9089)] (by kernel_rfl) ?_
                refine wS_end (by rfl) ?_
                refine eX_then ?_
                refine cW_seq ?_
                obtain ⟨s9297, hs9298, hm⟩ := bindE hm
                refine cW_cut (fun a' w' => ∃ l9271 : List (List (Int)), ∃ A9272 : Option Addr, ∃ cap9273 : Nat, ∃ fp9274 : List Nat, ∃ fr9276 : List Nat, l9271 = s9297 ∧ Fr 100 [(2, .pointer (some ⟨b8, 0, none⟩)), (4, .slice A27 (y23).length cap28), (5, .func (.func 125) #[] #[.pointer (some ⟨b2, 0, none⟩)]), (6, .pointer (some ⟨b36, 0, none⟩)), (7, .int .i64 (x6363)), (8, .slice A6417 (x6415).length cap6418), (9, .int .i64 (x8526)), (10, .slice A9088 (x9086).length cap9089), (25, .slice A27 (y23).length cap28), (26, .int .i64 (((y23).length : Int))), (27, .int .i64 (x6363))] a' ∧ SlR 2 encII w' fp0 A0 l0 ∧ Cl w' b2 31 [.slice A0 (l0).length cap0] ∧ Cl w' b8 83 [.int .i64 (0), .slice none 0 0, .slice none 0 0, .slice none 0 0] ∧ OwR 1 encI 25 2 w' fp29 fr32 A27 cap28 y23 ∧ Cl w' b36 83 [.int .i64 (((y23).length : Int)), .slice A9272 (l9271).length cap9273, .slice A8534 (l8533).length cap8535, .slice A6442 (l6376 ++ (([(-1)] : List (Int)))).length cap6443] ∧ Sl 1 encI w' fr32 A6417 x6415 ∧ Ow 1 encI 2 w' fp6441 A6442 cap6443 (l6376 ++ (([(-1)] : List (Int)))) ∧ OwR 1 encI 25 2 w' fp8536 fr8538 A8534 cap8535 l8533 ∧ Sl 1 encI w' fr32 A9088 x9086 ∧ OwR 1 encI 25 2 w' fp9274 fr9276 A9272 cap9273 l9271 ∧ (∀ x ∈ (fp9274 ++ fr9276), w0.heap.size ≤ x) ∧ Dj [b2] (fp9274 ++ fr9276) ∧ Dj [b8] (fp9274 ++ fr9276) ∧ Dj (fp29 ++ fr32) (fp9274 ++ fr9276) ∧ Dj [b36] (fp9274 ++ fr9276) ∧ Dj fr32 (fp9274 ++ fr9276) ∧ Dj fp6441 (fp9274 ++ fr9276) ∧ Dj (fp8536 ++ fr8538) (fp9274 ++ fr9276) ∧ Dj fr32 (fp9274 ++ fr9276) ∧ Chg [] w0 w' ∧ w0.heap.size ≤ w'.heap.size) ?_ ?_
                · have hm := hs9298
                  refine cW_seq ?_
                  refine cW_drawnTail [] 13 (by kernel_rfl) (by kernel_rfl) (fun w9356 hc9357 => ?_)
                  replace F8540 := F8540.chg hc9357 Dj.nil
                  replace F8541 := F8541.chg hc9357 notNil
                  replace F8542 := F8542.chg hc9357 notNil
                  replace F8543 := F8543.chg hc9357 Dj.nil
                  replace F8544 := F8544.chg hc9357 notNil
                  replace F8545 := F8545.chg hc9357 Dj.nil
                  replace F8546 := F8546.chg hc9357 Dj.nil
                  replace F8547 := F8547.chg hc9357 Dj.nil
                  replace F8548 := F8548.chg hc9357 Dj.nil
                  replace F9090 := F9090.chg hc9357 Dj.nil
                  replace hB := hB.inS hc9357 inNil
                  replace hZ := Nat.le_trans hZ hc9357.size
                  have hS := Chg.refl [] w9356
                  have Z9358 := F8540
                  have Z9359 := F8541
                  have Z9360 := F8542
                  have Z9361 := F8543
                  have Z9362 := F8544
                  have Z9363 := F8545
                  have Z9364 := F8546
                  have Z9365 := F8547
                  have Z9366 := F8548
                  have Z9367 := F9090
                  refine wH_take [0] [0] [(49, .slice A6417 (x6415).length cap6418)] (by kernel_rfl) (qT (qT (qT (qT (qT (qB (qT (qL (qB (qT (qB (qT (qL (qB (qT (qT qZ)))))))))))))))) (by kernel_rfl) ?_
                  obtain ⟨x9368, hx9369, hm⟩ := bindE hm
                  refine wH_idx (i := 1) (d := 50) (T := 25) (A := A6417) (n := (x6415).length) (cap := cap6418) (kd := .i64) (m := 0) (by kernel_rfl) (qT (qT (qT (qT (qT (qB (qT (qL (qB (qT (qB (qT (qL (qB (qT (qT qZ)))))))))))))))) (by kernel_rfl) (by kernel_rfl) sl25 (F8545.is hx9369) ?_
                  refine wH_load1 (i := 2) (d := 51) (T := 2) (ad := (elA A6417 1 (0) 0)) (v := .int .i64 (x9368)) (by kernel_rfl) (qT (qT (qT (qT (qT (qB (qT (qL (qB (qT (qB (qT (qL (qB (qT (qT qZ)))))))))))))))) (by kernel_rfl) (by kernel_rfl) vt2 (fun W hW => Sl.cell (Z9363.chg hW Dj.nil) hx9369 0 (by rfl)) ?_
                  refine wH_take [3] [3, 2, 1, 0] [(52, .slice A9088 (x9086).length cap9089)] (by kernel_rfl) (qT (qT (qT (qT (qT (qB (qT (qL (qB (qT (qB (qT (qL (qB (qT (qT qZ)))))))))))))))) (by kernel_rfl) ?_
                  obtain ⟨x9370, hx9371, hm⟩ := bindE hm
                  refine wH_idx (i := 4) (d := 53) (T := 25) (A := A9088) (n := (x9086).length) (cap := cap9089) (kd := .i64) (m := 0) (by kernel_rfl) (qT (qT (qT (qT (qT (qB (qT (qL (qB (qT (qB (qT (qL (qB (qT (qT qZ)))))))))))))))) (by kernel_rfl) (by kernel_rfl) sl25 (F9090.is hx9371) ?_
                  refine wH_load1 (i := 5) (d := 54) (T := 2) (ad := (elA A9088 1 (0) 0)) (v := .int .i64 (x9370)) (by kernel_rfl) (qT (qT (qT (qT (qT (qB (qT (qL (qB (qT (qB (qT (qL (qB (qT (qT qZ)))))))))))))))) (by kernel_rfl) (by kernel_rfl) vt2 (fun W hW => Sl.cell (Z9367.chg hW Dj.nil) hx9371 0 (by rfl)) ?_
                  refine wH_take [6, 7] [7, 6, 5, 4, 3, 2, 1, 0] [(56, .bool (x9368 != x9370)), (55, .bool (x9368 != x9370))] (by kernel_rfl) (qT (qT (qT (qT (qT (qB (qT (qL (qB (qT (qB (qT (qL (qB (qT (qT qZ)))))))))))))))) (by kernel_rfl) ?_
                  refine wH_bool (x9368 != x9370) (fun hb9372 => ?_) (fun hb9372 => ?_)
                  · have hm := condT hb9372 hm
                    rewrite [hb9372]
                    refine wH_take [8, 9, 11, 12] [12, 11, 9, 8, 7, 6, 5, 4, 3, 2, 1, 0] [(61, .slice A9088 (x9086).length cap9089), (60, .func (.func 125) #[] #[.pointer (some ⟨b2, 0, none⟩)]), (58, .slice A6417 (x6415).length cap6418), (57, .func (.func 125) #[] #[.pointer (some ⟨b2, 0, none⟩)])] (by kernel_rfl) (qT (qT (qT (qT (qT (qB (qT (qL (qB (qT (qB (qT (qL (qB (qT (qT qZ)))))))))))))))) (by kernel_rfl) ?_
                    refine wH_all [10] (by rfl) (by kernel_rfl) (by simp) ⟨⟨by kernel_rfl, ?_⟩, trivial⟩
                    obtain ⟨y9373, hy9374, hm⟩ := bindE hm
                    refine wS_calls (d := 59) (f := 125) (vs := [.slice A6417 (x6415).length cap6418, .pointer (some ⟨b2, 0, none⟩)]) (by kernel_rfl) ent125 (c_impl_WiringOf_1_bimplPoint hy9374 F8545 F8540 F8541) ?_
                    rintro _ w9375 ⟨A9377, cap9378, fp9379, rfl, F9380, G9381, K9382, hc9376⟩
                    have Rt9384 : Rt w0.heap.size (fp0 ++ []) fp9379 := Rt.of G9381 hZ (Rt.app (Rt.low G6423) (Rt.app (Rt.mem (fun x hx => (List.mem_append_left _ hx))) Rt.nil))
                    have D9385 : Dj [b2] fp9379 := Rt.dj G9381 (lt1 F8541.lt) (Dj.app (Dj.inr D34) (Dj.app (Dj.of L0 (low1 G4)).symm Dj.nil))
                    have D9386 : Dj [b8] fp9379 := Rt.dj G9381 (lt1 F8542.lt) (Dj.app (Dj.inr D35) (Dj.app (Dj.of L0 (low1 G10)).symm Dj.nil))
                    have D9387 : Dj [b36] fp9379 := Rt.dj G9381 (lt1 F8544.lt) (Dj.app (Dj.inr (D44).symm) (Dj.app (Dj.of L0 (low1 G38)).symm Dj.nil))
                    have D9388 : Dj fp6441 fp9379 := Rt.dj G9381 F8546.low (Dj.app (D6455).symm (Dj.app (Dj.of L0 G6448).symm Dj.nil))
                    have D9389 : Dj (fp8530 ++ fr8532) fp9379 := Rt.dj G9381 F8547.low (Dj.app (D8555).symm (Dj.app (Dj.of L0 G8549).symm Dj.nil))
                    have D9390 : Dj (fp8536 ++ fr8538) fp9379 := Rt.dj G9381 F8548.low (Dj.app (D8562).symm (Dj.app (Dj.of L0 G8550).symm Dj.nil))
                    replace F8540 := F8540.chg hc9376 Dj.nil
                    replace F8541 := F8541.chg hc9376 notNil
                    replace F8542 := F8542.chg hc9376 notNil
                    replace F8543 := F8543.chg hc9376 Dj.nil
                    replace F8544 := F8544.chg hc9376 notNil
                    replace F8545 := F8545.chg hc9376 Dj.nil
                    replace F8546 := F8546.chg hc9376 Dj.nil
                    replace F8547 := F8547.chg hc9376 Dj.nil
                    replace F8548 := F8548.chg hc9376 Dj.nil
                    replace F9090 := F9090.chg hc9376 Dj.nil
                    replace hB := hB.inS hc9376 inNil
                    have hSz := hS
                    replace hS := hS.inS hc9376 inNil
                    replace hZ := Nat.le_trans hZ hc9376.size
                    refine ⟨.slice A9377 (y9373).length cap9378, rfl, ?_⟩
                    refine wS_end (by kernel_rfl) ?_
                    refine eX_KH hS ?_
                    refine wH_done (by kernel_rfl) ?_
                    refine eX_tail ?_
                    obtain ⟨y9391, hy9392, hm⟩ := bindE hm
                    refine wS_calls (d := 62) (f := 125) (vs := [.slice A9088 (x9086).length cap9089, .pointer (some ⟨b2, 0, none⟩)]) (by kernel_rfl) ent125 (c_impl_WiringOf_1_bimplPoint hy9392 F9090 F8540 F8541) ?_
                    rintro _ w9393 ⟨A9395, cap9396, fp9397, rfl, F9398, G9399, K9400, hc9394⟩
                    have Rt9402 : Rt w0.heap.size (fp0 ++ []) fp9397 := Rt.of G9399 hZ (Rt.app (Rt.low G9094) (Rt.app (Rt.mem (fun x hx => (List.mem_append_left _ hx))) Rt.nil))
                    have D9403 : Dj [b2] fp9397 := Rt.dj G9399 (lt1 F8541.lt) (Dj.app (Dj.inr D34) (Dj.app (Dj.of L0 (low1 G4)).symm Dj.nil))
                    have D9404 : Dj [b8] fp9397 := Rt.dj G9399 (lt1 F8542.lt) (Dj.app (Dj.inr D35) (Dj.app (Dj.of L0 (low1 G10)).symm Dj.nil))
                    have D9405 : Dj [b36] fp9397 := Rt.dj G9399 (lt1 F8544.lt) (Dj.app (Dj.inr (D44).symm) (Dj.app (Dj.of L0 (low1 G38)).symm Dj.nil))
                    have D9406 : Dj fp6441 fp9397 := Rt.dj G9399 F8546.low (Dj.app (Dj.inr (D6451).symm) (Dj.app (Dj.of L0 G6448).symm Dj.nil))
                    have D9407 : Dj (fp8530 ++ fr8532) fp9397 := Rt.dj G9399 F8547.low (Dj.app (Dj.inr (D8553).symm) (Dj.app (Dj.of L0 G8549).symm Dj.nil))
                    have D9408 : Dj (fp8536 ++ fr8538) fp9397 := Rt.dj G9399 F8548.low (Dj.app (Dj.inr (D8560).symm) (Dj.app (Dj.of L0 G8550).symm Dj.nil))
                    replace F8540 := F8540.chg hc9394 Dj.nil
                    replace F8541 := F8541.chg hc9394 notNil
                    replace F8542 := F8542.chg hc9394 notNil
                    replace F8543 := F8543.chg hc9394 Dj.nil
                    replace F8544 := F8544.chg hc9394 notNil
                    replace F8545 := F8545.chg hc9394 Dj.nil
                    replace F8546 := F8546.chg hc9394 Dj.nil
                    replace F8547 := F8547.chg hc9394 Dj.nil
                    replace F8548 := F8548.chg hc9394 Dj.nil
                    replace F9090 := F9090.chg hc9394 Dj.nil
                    replace F9380 := F9380.chg hc9394 Dj.nil
                    replace hB := hB.inS hc9394 inNil
                    replace hZ := Nat.le_trans hZ hc9394.size
                    refine ⟨.slice A9395 (y9391).length cap9396, rfl, ?_⟩
                    obtain ⟨y9409, hy9410, hm⟩ := bindE hm
                    refine wS_calls (d := 63) (f := 126) (vs := [.slice A9377 (y9373).length cap9378, .slice A9395 (y9391).length cap9396]) (by kernel_rfl) ent126 (c_impl_touch hy9410 F9380 F9398) ?_
                    rintro _ w9411 ⟨rfl, hc9412⟩
                    replace F8540 := F8540.chg hc9412 Dj.nil
                    replace F8541 := F8541.chg hc9412 notNil
                    replace F8542 := F8542.chg hc9412 notNil
                    replace F8543 := F8543.chg hc9412 Dj.nil
                    replace F8544 := F8544.chg hc9412 notNil
                    replace F8545 := F8545.chg hc9412 Dj.nil
                    replace F8546 := F8546.chg hc9412 Dj.nil
                    replace F8547 := F8547.chg hc9412 Dj.nil
                    replace F8548 := F8548.chg hc9412 Dj.nil
                    replace F9090 := F9090.chg hc9412 Dj.nil
                    replace F9380 := F9380.chg hc9412 Dj.nil
                    replace F9398 := F9398.chg hc9412 Dj.nil
                    replace hB := hB.inS hc9412 inNil
                    replace hZ := Nat.le_trans hZ hc9412.size
                    refine ⟨.bool (y9409), rfl, ?_⟩
                    refine wS_pure 1 [(64, .bool (y9409))] (by kernel_rfl) ?_
                    refine wS_end (by rfl) ?_
                    refine eX_then ?_
                    refine cW_prune [(2, .pointer (some ⟨b8, 0, none⟩)), (4, .slice A27 (y23).length cap28), (5, .func (.func 125) #[] #[.pointer (some ⟨b2, 0, none⟩)]), (6, .pointer (some ⟨b36, 0, none⟩)), (7, .int .i64 (x6363)), (8, .slice A6417 (x6415).length cap6418), (9, .int .i64 (x8526)), (10, .slice A9088 (x9086).length cap9089), (25, .slice A27 (y23).length cap28), (26, .int .i64 (((y23).length : Int))), (27, .int .i64 (x6363)), (64, .bool (y9409))] (by kernel_rfl) (by kernel_rfl) (fun a9413 => ?_)
                    refine cW_cond (t := y9409) (by kernel_rfl) (fun hb9414 => ?_) (fun hb9414 => ?_)
                    · have hm := condT hb9414 hm
                      refine cW_region ?_
                      refine wS_pure 1 [(65, .pointer (some ⟨b36, 1, none⟩))] (by kernel_rfl) ?_
                      refine wS_load1 (d := 66) (T := 40) (ad := ⟨b36, 1, none⟩) (v := .slice A8528 (l8527).length cap8529) (by kernel_rfl) vt40 ((F8544).cell 1) ?_
                      refine wS_pure 2 [(68, .int .i64 (x8526)), (67, .int .i64 (x6363))] (by kernel_rfl) ?_
                      refine wS_bs (enc := encI) ([x6363, x8526] : List (Int)) [.int .i64 (x6363), .int .i64 (x8526)] (d := 69) (t := 25) (T := 2) (n := 2) (ps := [(0, .int .i64 (x6363)), (1, .int .i64 (x8526))]) (by kernel_rfl) el25 encI_ok (by rfl) (by omega) (by omega) (by kernel_rfl) (by rfl) ?_
                      intro b9415 w9416 G9417 F9418 hc9419
                      have D9421 : Dj [b2] [b9415] := Dj.of (lt1 F8541.lt) (low1 G9417)
                      have D9422 : Dj [b8] [b9415] := Dj.of (lt1 F8542.lt) (low1 G9417)
                      have D9423 : Dj (fp29 ++ fr32) [b9415] := Dj.of F8543.low (low1 G9417)
                      have D9424 : Dj [b36] [b9415] := Dj.of (lt1 F8544.lt) (low1 G9417)
                      have D9425 : Dj fr32 [b9415] := Dj.of F8545.low (low1 G9417)
                      have D9426 : Dj fp6441 [b9415] := Dj.of F8546.low (low1 G9417)
                      have D9427 : Dj (fp8530 ++ fr8532) [b9415] := Dj.of F8547.low (low1 G9417)
                      have D9428 : Dj (fp8536 ++ fr8538) [b9415] := Dj.of F8548.low (low1 G9417)
                      have D9429 : Dj fr32 [b9415] := Dj.of F9090.low (low1 G9417)
                      have D9430 : Dj fp9379 [b9415] := Dj.of F9380.low (low1 G9417)
                      have D9431 : Dj fp9397 [b9415] := Dj.of F9398.low (low1 G9417)
                      replace F8540 := F8540.chg hc9419 Dj.nil
                      replace F8541 := F8541.chg hc9419 notNil
                      replace F8542 := F8542.chg hc9419 notNil
                      replace F8543 := F8543.chg hc9419 Dj.nil
                      replace F8544 := F8544.chg hc9419 notNil
                      replace F8545 := F8545.chg hc9419 Dj.nil
                      replace F8546 := F8546.chg hc9419 Dj.nil
                      replace F8547 := F8547.chg hc9419 Dj.nil
                      replace F8548 := F8548.chg hc9419 Dj.nil
                      replace F9090 := F9090.chg hc9419 Dj.nil
                      replace F9380 := F9380.chg hc9419 Dj.nil
                      replace F9398 := F9398.chg hc9419 Dj.nil
                      replace hB := hB.inS hc9419 inNil
                      replace G9417 := Nat.le_trans hZ G9417
                      replace G9417 := low1 G9417
                      replace hZ := Nat.le_trans hZ hc9419.size
                      refine wS_row1 (k := 1) (enc := encI) (l := ([x6363, x8526] : List (Int))) (d := 70) (t := 40) (T := 25) (B := (some ⟨b9415, 0, none⟩)) (c := 2) (by kernel_rfl) el40 F9418 ?_
                      intro b9432 w9433 G9434 F9435 hc9436
                      have D9438 : Dj [b2] ([b9432] ++ [b9415]) := Dj.app (Dj.of (lt1 F8541.lt) (low1 G9434)) D9421
                      have D9439 : Dj [b8] ([b9432] ++ [b9415]) := Dj.app (Dj.of (lt1 F8542.lt) (low1 G9434)) D9422
                      have D9440 : Dj (fp29 ++ fr32) ([b9432] ++ [b9415]) := Dj.app (Dj.of F8543.low (low1 G9434)) D9423
                      have D9441 : Dj [b36] ([b9432] ++ [b9415]) := Dj.app (Dj.of (lt1 F8544.lt) (low1 G9434)) D9424
                      have D9442 : Dj fr32 ([b9432] ++ [b9415]) := Dj.app (Dj.of F8545.low (low1 G9434)) D9425
                      have D9443 : Dj fp6441 ([b9432] ++ [b9415]) := Dj.app (Dj.of F8546.low (low1 G9434)) D9426
                      have D9444 : Dj (fp8530 ++ fr8532) ([b9432] ++ [b9415]) := Dj.app (Dj.of F8547.low (low1 G9434)) D9427
                      have D9445 : Dj (fp8536 ++ fr8538) ([b9432] ++ [b9415]) := Dj.app (Dj.of F8548.low (low1 G9434)) D9428
                      have D9446 : Dj fr32 ([b9432] ++ [b9415]) := Dj.app (Dj.of F9090.low (low1 G9434)) D9429
                      have D9447 : Dj fp9379 ([b9432] ++ [b9415]) := Dj.app (Dj.of F9380.low (low1 G9434)) D9430
                      have D9448 : Dj fp9397 ([b9432] ++ [b9415]) := Dj.app (Dj.of F9398.low (low1 G9434)) D9431
                      replace F8540 := F8540.chg hc9436 Dj.nil
                      replace F8541 := F8541.chg hc9436 notNil
                      replace F8542 := F8542.chg hc9436 notNil
                      replace F8543 := F8543.chg hc9436 Dj.nil
                      replace F8544 := F8544.chg hc9436 notNil
                      replace F8545 := F8545.chg hc9436 Dj.nil
                      replace F8546 := F8546.chg hc9436 Dj.nil
                      replace F8547 := F8547.chg hc9436 Dj.nil
                      replace F8548 := F8548.chg hc9436 Dj.nil
                      replace F9090 := F9090.chg hc9436 Dj.nil
                      replace F9380 := F9380.chg hc9436 Dj.nil
                      replace F9398 := F9398.chg hc9436 Dj.nil
                      replace F9418 := F9418.chg hc9436 Dj.nil
                      replace hB := hB.inS hc9436 inNil
                      replace G9434 := Nat.le_trans hZ G9434
                      replace G9434 := lowApp (low1 G9434) G9417
                      replace hZ := Nat.le_trans hZ hc9436.size
                      replace F9418 := (F9418.sl encI_ok)
                      obtain ⟨_, hk9449, hm⟩ := bindE hm
                      replace hk9449 := apE hk9449
                      refine wS_appendR (k := 1) (enc := encI) (ll := (l8527 : List (List (Int)))) (ll2 := (([([x6363, x8526] : List (Int))] : List (List (Int))) : List (List (Int)))) (d := 71) (t := 40) (T := 25) (A := A8528) (A2 := (some ⟨b9432, 0, none⟩)) (cap := cap8529) (cap2 := 1) (by kernel_rfl) el40 F8547 F9435 (by rfl) D9444 hk9449 ?_
                      intro w9450 fp9451 A9452 cap9453 F9454 hc9455 hp9456
                      have G9458 := lowApp (low_ap (low_inl G8549) hZ hp9456) (lowApp (low_inr G8549) (low_inr G9434))
                      have D9459 : Dj [b2] (fp9451 ++ (fr8532 ++ [b9415])) := Dj.app (Dj.ap (Dj.inl D8551) (lt1 F8541.lt) hp9456) (Dj.app (Dj.inr D8551) (Dj.inr D9438))
                      have D9460 : Dj [b8] (fp9451 ++ (fr8532 ++ [b9415])) := Dj.app (Dj.ap (Dj.inl D8552) (lt1 F8542.lt) hp9456) (Dj.app (Dj.inr D8552) (Dj.inr D9439))
                      have D9461 : Dj (fp29 ++ fr32) (fp9451 ++ (fr8532 ++ [b9415])) := Dj.app (Dj.ap (Dj.inl D8553) F8543.low hp9456) (Dj.app (Dj.inr D8553) (Dj.inr D9440))
                      have D9462 : Dj [b36] (fp9451 ++ (fr8532 ++ [b9415])) := Dj.app (Dj.ap (Dj.inl D8554) (lt1 F8544.lt) hp9456) (Dj.app (Dj.inr D8554) (Dj.inr D9441))
                      have D9463 : Dj fr32 (fp9451 ++ (fr8532 ++ [b9415])) := Dj.app (Dj.ap (Dj.inl D8555) F8545.low hp9456) (Dj.app (Dj.inr D8555) (Dj.inr D9442))
                      have D9464 : Dj fp6441 (fp9451 ++ (fr8532 ++ [b9415])) := Dj.app (Dj.ap (Dj.inl D8556) F8546.low hp9456) (Dj.app (Dj.inr D8556) (Dj.inr D9443))
                      have D9465 : Dj (fp8536 ++ fr8538) (fp9451 ++ (fr8532 ++ [b9415])) := Dj.app (Dj.ap (Dj.inl D8557) F8548.low hp9456) (Dj.app (Dj.inr D8557) (Dj.inr D9445))
                      have D9466 : Dj fr32 (fp9451 ++ (fr8532 ++ [b9415])) := Dj.app (Dj.ap (Dj.inl ((Dj.inr (D8553).symm)).symm) F9090.low hp9456) (Dj.app (Dj.inr ((Dj.inr (D8553).symm)).symm) (Dj.inr D9446))
                      have D9467 : Dj fp9379 (fp9451 ++ (fr8532 ++ [b9415])) := Dj.app (Dj.ap (Dj.inl (D9389).symm) F9380.low hp9456) (Dj.app (Dj.inr (D9389).symm) (Dj.inr D9447))
                      have D9468 : Dj fp9397 (fp9451 ++ (fr8532 ++ [b9415])) := Dj.app (Dj.ap (Dj.inl (D9407).symm) F9398.low hp9456) (Dj.app (Dj.inr (D9407).symm) (Dj.inr D9448))
                      replace F8540 := F8540.chg hc9455 (Dj.inl (Dj.of L0 G8549))
                      replace F8541 := F8541.chg hc9455 (dj1 (Dj.inl D8551))
                      replace F8542 := F8542.chg hc9455 (dj1 (Dj.inl D8552))
                      replace F8543 := F8543.chg hc9455 (Dj.inl D8553)
                      replace F8544 := F8544.chg hc9455 (dj1 (Dj.inl D8554))
                      replace F8545 := F8545.chg hc9455 (Dj.inl D8555)
                      replace F8546 := F8546.chg hc9455 (Dj.inl D8556)
                      replace F8548 := F8548.chg hc9455 (Dj.inl D8557)
                      replace F9090 := F9090.chg hc9455 (Dj.inl ((Dj.inr (D8553).symm)).symm)
                      replace F9380 := F9380.chg hc9455 (Dj.inl (D9389).symm)
                      replace F9398 := F9398.chg hc9455 (Dj.inl (D9407).symm)
                      replace hB := hB.inS hc9455 (memS_inl (inLow G8549))
                      replace hZ := Nat.le_trans hZ hc9455.size
                      refine wS_pure 1 [(72, .pointer (some ⟨b36, 1, none⟩))] (by kernel_rfl) ?_
                      refine wS_store (T := 40) (g := b36) (o := 1) (ad := ⟨b36, 1, none⟩) (v := .slice A9452 (l8527 ++ (([([x6363, x8526] : List (Int))] : List (List (Int))))).length cap9453) (vs := [.slice A9452 (l8527 ++ (([([x6363, x8526] : List (Int))] : List (List (Int))))).length cap9453]) (by kernel_rfl) (by rfl) sz40 (by rfl) (by rfl) F8544 (by simp only [List.length_cons, List.length_nil]; omega) ?_
                      intro w9469 F9470 hc9471
                      replace F8540 := F8540.chg hc9471 (Dj.of L0 (low1 G38))
                      replace F8541 := F8541.chg hc9471 (dj1 D42)
                      replace F8542 := F8542.chg hc9471 (dj1 D43)
                      replace F8543 := F8543.chg hc9471 D44
                      replace F8545 := F8545.chg hc9471 ((Dj.inr (D44).symm)).symm
                      replace F8546 := F8546.chg hc9471 (D6452).symm
                      replace F8548 := F8548.chg hc9471 (D8561).symm
                      replace F9090 := F9090.chg hc9471 ((Dj.inr (D44).symm)).symm
                      replace F9380 := F9380.chg hc9471 (D9387).symm
                      replace F9398 := F9398.chg hc9471 (D9405).symm
                      replace F9454 := F9454.chg hc9471 (D9462).symm
                      replace hB := hB.inS hc9471 (inLow (low1 G38))
                      replace hZ := Nat.le_trans hZ hc9471.size
                      replace F9470 : Cl w9469 b36 83 [.int .i64 (((y23).length : Int)), .slice A9452 (l8527 ++ (([([x6363, x8526] : List (Int))] : List (List (Int))))).length cap9453, .slice A8534 (l8533).length cap8535, .slice A6442 (l6376 ++ (([(-1)] : List (Int)))).length cap6443] := F9470
                      clear F8544
                      refine wS_end (by rfl) ?_
                      have hq : (some (l8527 ++ (([([x6363, x8526] : List (Int))] : List (List (Int))))) : Option ((List (List (Int))))) = some _ := hm
                      replace hq := someE hq
                      subst hq
                      exact eX_J (fun hst => ⟨l8527 ++ (([([x6363, x8526] : List (Int))] : List (List (Int)))), A9452, cap9453, fp9451, (fr8532 ++ [b9415]), rfl, Fr.of hst (by kernel_rfl), F8540, F8541, F8542, F8543, F9470, F8545, F8546, F8548, F9090, F9454, G9458, D9459, D9460, D9461, D9462, D9463, D9464, D9465, D9466, hB, hZ⟩)
                    · have hm := condF hb9414 hm
                      refine cW_skip ?_
                      have hq : (some l8527 : Option ((List (List (Int))))) = some _ := hm
                      replace hq := someE hq
                      subst hq
                      exact eX_J (fun hst => ⟨l8527, A8528, cap8529, fp8530, fr8532, rfl, Fr.of hst (by kernel_rfl), F8540, F8541, F8542, F8543, F8544, F8545, F8546, F8548, F9090, F8547, G8549, D8551, D8552, D8553, D8554, D8555, D8556, D8557, ((Dj.inr (D8553).symm)).symm, hB, hZ⟩)
                  · have hm := condF hb9372 hm
                    rewrite [hb9372]
                    refine wH_take [8, 9, 10, 11, 12] [12, 11, 10, 9, 8, 7, 6, 5, 4, 3, 2, 1, 0] [(61, undef), (60, undef), (59, undef), (58, undef), (57, undef)] (by kernel_rfl) (qT (qT (qT (qT (qT (qB (qT (qL (qB (qT (qB (qT (qL (qB (qT (qT qZ)))))))))))))))) (by kernel_rfl) ?_
                    refine wH_done (by kernel_rfl) ?_
                    refine eX_tail ?_
                    refine wS_pure 3 [(64, .bool (false)), (63, undef), (62, undef)] (by kernel_rfl) ?_
                    refine wS_end (by rfl) ?_
                    refine eX_then ?_
                    refine cW_prune [(2, .pointer (some ⟨b8, 0, none⟩)), (4, .slice A27 (y23).length cap28), (5, .func (.func 125) #[] #[.pointer (some ⟨b2, 0, none⟩)]), (6, .pointer (some ⟨b36, 0, none⟩)), (7, .int .i64 (x6363)), (8, .slice A6417 (x6415).length cap6418), (9, .int .i64 (x8526)), (10, .slice A9088 (x9086).length cap9089), (25, .slice A27 (y23).length cap28), (26, .int .i64 (((y23).length : Int))), (27, .int .i64 (x6363)), (64, .bool (false))] (by kernel_rfl) (by kernel_rfl) (fun a9472 => ?_)
                    refine cW_cond_f (by kernel_rfl) ?_
                    refine cW_skip ?_
                    have hq : (some l8527 : Option ((List (List (Int))))) = some _ := hm
                    replace hq := someE hq
                    subst hq
                    exact eX_J (fun hst => ⟨l8527, A8528, cap8529, fp8530, fr8532, rfl, Fr.of hst (by kernel_rfl), F8540, F8541, F8542, F8543, F8544, F8545, F8546, F8548, F9090, F8547, G8549, D8551, D8552, D8553, D8554, D8555, D8556, D8557, ((Dj.inr (D8553).symm)).symm, hB, hZ⟩)
                · rintro a' w9270 ⟨l9271, A9272, cap9273, fp9274, fr9276, hJ, hF9277, F9278, F9279, F9280, F9281, F9282, F9283, F9284, F9285, F9286, F9287, G9288, D9289, D9290, D9291, D9292, D9293, D9294, D9295, D9296, hB, hZ⟩
                  subst hJ
                  refine Fr.goX hF9277 (by kernel_rfl) ?_
                  refine eX_then ?_
                  refine cW_seq ?_
                  refine cW_drawnTail [] 11 (by kernel_rfl) (by kernel_rfl) (fun w9490 hc9491 => ?_)
                  replace F9278 := F9278.chg hc9491 Dj.nil
                  replace F9279 := F9279.chg hc9491 notNil
                  replace F9280 := F9280.chg hc9491 notNil
                  replace F9281 := F9281.chg hc9491 Dj.nil
                  replace F9282 := F9282.chg hc9491 notNil
                  replace F9283 := F9283.chg hc9491 Dj.nil
                  replace F9284 := F9284.chg hc9491 Dj.nil
                  replace F9285 := F9285.chg hc9491 Dj.nil
                  replace F9286 := F9286.chg hc9491 Dj.nil
                  replace F9287 := F9287.chg hc9491 Dj.nil
                  replace hB := hB.inS hc9491 inNil
                  replace hZ := Nat.le_trans hZ hc9491.size
                  have hS := Chg.refl [] w9490
                  have Z9492 := F9278
                  have Z9493 := F9279
                  have Z9494 := F9280
                  have Z9495 := F9281
                  have Z9496 := F9282
                  have Z9497 := F9283
                  have Z9498 := F9284
                  have Z9499 := F9285
                  have Z9500 := F9286
                  have Z9501 := F9287
                  refine wH_take [0] [0] [(73, .slice A6417 (x6415).length cap6418)] (by kernel_rfl) (qT (qT (qT (qB (qT (qL (qB (qT (qB (qT (qL (qB (qT (qT qZ)))))))))))))) (by kernel_rfl) ?_
                  obtain ⟨x9502, hx9503, hm⟩ := bindE hm
                  refine wH_idx (i := 1) (d := 74) (T := 25) (A := A6417) (n := (x6415).length) (cap := cap6418) (kd := .i64) (m := 0) (by kernel_rfl) (qT (qT (qT (qB (qT (qL (qB (qT (qB (qT (qL (qB (qT (qT qZ)))))))))))))) (by kernel_rfl) (by kernel_rfl) sl25 (F9283.is hx9503) ?_
                  refine wH_load1 (i := 2) (d := 75) (T := 2) (ad := (elA A6417 1 (0) 0)) (v := .int .i64 (x9502)) (by kernel_rfl) (qT (qT (qT (qB (qT (qL (qB (qT (qB (qT (qL (qB (qT (qT qZ)))))))))))))) (by kernel_rfl) (by kernel_rfl) vt2 (fun W hW => Sl.cell (Z9497.chg hW Dj.nil) hx9503 0 (by rfl)) ?_
                  refine wH_take [3] [3, 2, 1, 0] [(76, .slice A9088 (x9086).length cap9089)] (by kernel_rfl) (qT (qT (qT (qB (qT (qL (qB (qT (qB (qT (qL (qB (qT (qT qZ)))))))))))))) (by kernel_rfl) ?_
                  obtain ⟨x9504, hx9505, hm⟩ := bindE hm
                  refine wH_idx (i := 4) (d := 77) (T := 25) (A := A9088) (n := (x9086).length) (cap := cap9089) (kd := .i64) (m := 0) (by kernel_rfl) (qT (qT (qT (qB (qT (qL (qB (qT (qB (qT (qL (qB (qT (qT qZ)))))))))))))) (by kernel_rfl) (by kernel_rfl) sl25 (F9286.is hx9505) ?_
                  refine wH_load1 (i := 5) (d := 78) (T := 2) (ad := (elA A9088 1 (0) 0)) (v := .int .i64 (x9504)) (by kernel_rfl) (qT (qT (qT (qB (qT (qL (qB (qT (qB (qT (qL (qB (qT (qT qZ)))))))))))))) (by kernel_rfl) (by kernel_rfl) vt2 (fun W hW => Sl.cell (Z9500.chg hW Dj.nil) hx9505 0 (by rfl)) ?_
                  refine wH_take [6, 7] [7, 6, 5, 4, 3, 2, 1, 0] [(80, .bool (x9502 == x9504)), (79, .bool (x9502 == x9504))] (by kernel_rfl) (qT (qT (qT (qB (qT (qL (qB (qT (qB (qT (qL (qB (qT (qT qZ)))))))))))))) (by kernel_rfl) ?_
                  refine wH_bool (x9502 == x9504) (fun hb9506 => ?_) (fun hb9506 => ?_)
                  · have hm := condT hb9506 hm
                    rewrite [hb9506]
                    refine wH_take [8, 9, 10] [10, 9, 8, 7, 6, 5, 4, 3, 2, 1, 0] [(83, .int .i64 (wr (x6363 + 1))), (82, .int .i64 (x6363)), (81, .int .i64 (x8526))] (by kernel_rfl) (qT (qT (qT (qB (qT (qL (qB (qT (qB (qT (qL (qB (qT (qT qZ)))))))))))))) (by kernel_rfl) ?_
                    refine wH_done (by kernel_rfl) ?_
                    refine eX_tail ?_
                    refine wS_pure 2 [(85, .bool (x8526 == (wr (x6363 + 1)))), (84, .bool (x8526 == (wr (x6363 + 1))))] (by kernel_rfl) ?_
                    refine wS_end (by rfl) ?_
                    refine eX_then ?_
                    refine cW_prune [(2, .pointer (some ⟨b8, 0, none⟩)), (4, .slice A27 (y23).length cap28), (5, .func (.func 125) #[] #[.pointer (some ⟨b2, 0, none⟩)]), (6, .pointer (some ⟨b36, 0, none⟩)), (7, .int .i64 (x6363)), (8, .slice A6417 (x6415).length cap6418), (9, .int .i64 (x8526)), (25, .slice A27 (y23).length cap28), (26, .int .i64 (((y23).length : Int))), (27, .int .i64 (x6363)), (85, .bool (x8526 == (wr (x6363 + 1))))] (by kernel_rfl) (by kernel_rfl) (fun a9507 => ?_)
                    refine cW_cond (t := x8526 == (wr (x6363 + 1))) (by kernel_rfl) (fun hb9508 => ?_) (fun hb9508 => ?_)
                    · have hm := condT hb9508 hm
                      refine cW_region ?_
                      refine wS_pure 1 [(86, .pointer (some ⟨b36, 2, none⟩))] (by kernel_rfl) ?_
                      refine wS_load1 (d := 87) (T := 40) (ad := ⟨b36, 2, none⟩) (v := .slice A8534 (l8533).length cap8535) (by kernel_rfl) vt40 ((F9282).cell 2) ?_
                      refine wS_pure 2 [(89, .int .i64 (x8526)), (88, .int .i64 (x6363))] (by kernel_rfl) ?_
                      refine wS_bs (enc := encI) ([x6363, x8526, 1] : List (Int)) [.int .i64 (x6363), .int .i64 (x8526), .int .i64 (1)] (d := 90) (t := 25) (T := 2) (n := 3) (ps := [(0, .int .i64 (x6363)), (1, .int .i64 (x8526)), (2, .int .i64 (1))]) (by kernel_rfl) el25 encI_ok (by rfl) (by omega) (by omega) (by kernel_rfl) (by rfl) ?_
                      intro b9509 w9510 G9511 F9512 hc9513
                      have D9515 : Dj [b2] [b9509] := Dj.of (lt1 F9279.lt) (low1 G9511)
                      have D9516 : Dj [b8] [b9509] := Dj.of (lt1 F9280.lt) (low1 G9511)
                      have D9517 : Dj (fp29 ++ fr32) [b9509] := Dj.of F9281.low (low1 G9511)
                      have D9518 : Dj [b36] [b9509] := Dj.of (lt1 F9282.lt) (low1 G9511)
                      have D9519 : Dj fr32 [b9509] := Dj.of F9283.low (low1 G9511)
                      have D9520 : Dj fp6441 [b9509] := Dj.of F9284.low (low1 G9511)
                      have D9521 : Dj (fp8536 ++ fr8538) [b9509] := Dj.of F9285.low (low1 G9511)
                      have D9522 : Dj fr32 [b9509] := Dj.of F9286.low (low1 G9511)
                      have D9523 : Dj (fp9274 ++ fr9276) [b9509] := Dj.of F9287.low (low1 G9511)
                      replace F9278 := F9278.chg hc9513 Dj.nil
                      replace F9279 := F9279.chg hc9513 notNil
                      replace F9280 := F9280.chg hc9513 notNil
                      replace F9281 := F9281.chg hc9513 Dj.nil
                      replace F9282 := F9282.chg hc9513 notNil
                      replace F9283 := F9283.chg hc9513 Dj.nil
                      replace F9284 := F9284.chg hc9513 Dj.nil
                      replace F9285 := F9285.chg hc9513 Dj.nil
                      replace F9286 := F9286.chg hc9513 Dj.nil
                      replace F9287 := F9287.chg hc9513 Dj.nil
                      replace hB := hB.inS hc9513 inNil
                      replace G9511 := Nat.le_trans hZ G9511
                      replace G9511 := low1 G9511
                      replace hZ := Nat.le_trans hZ hc9513.size
                      refine wS_row1 (k := 1) (enc := encI) (l := ([x6363, x8526, 1] : List (Int))) (d := 91) (t := 40) (T := 25) (B := (some ⟨b9509, 0, none⟩)) (c := 3) (by kernel_rfl) el40 F9512 ?_
                      intro b9524 w9525 G9526 F9527 hc9528
                      have D9530 : Dj [b2] ([b9524] ++ [b9509]) := Dj.app (Dj.of (lt1 F9279.lt) (low1 G9526)) D9515
                      have D9531 : Dj [b8] ([b9524] ++ [b9509]) := Dj.app (Dj.of (lt1 F9280.lt) (low1 G9526)) D9516
                      have D9532 : Dj (fp29 ++ fr32) ([b9524] ++ [b9509]) := Dj.app (Dj.of F9281.low (low1 G9526)) D9517
                      have D9533 : Dj [b36] ([b9524] ++ [b9509]) := Dj.app (Dj.of (lt1 F9282.lt) (low1 G9526)) D9518
                      have D9534 : Dj fr32 ([b9524] ++ [b9509]) := Dj.app (Dj.of F9283.low (low1 G9526)) D9519
                      have D9535 : Dj fp6441 ([b9524] ++ [b9509]) := Dj.app (Dj.of F9284.low (low1 G9526)) D9520
                      have D9536 : Dj (fp8536 ++ fr8538) ([b9524] ++ [b9509]) := Dj.app (Dj.of F9285.low (low1 G9526)) D9521
                      have D9537 : Dj fr32 ([b9524] ++ [b9509]) := Dj.app (Dj.of F9286.low (low1 G9526)) D9522
                      have D9538 : Dj (fp9274 ++ fr9276) ([b9524] ++ [b9509]) := Dj.app (Dj.of F9287.low (low1 G9526)) D9523
                      replace F9278 := F9278.chg hc9528 Dj.nil
                      replace F9279 := F9279.chg hc9528 notNil
                      replace F9280 := F9280.chg hc9528 notNil
                      replace F9281 := F9281.chg hc9528 Dj.nil
                      replace F9282 := F9282.chg hc9528 notNil
                      replace F9283 := F9283.chg hc9528 Dj.nil
                      replace F9284 := F9284.chg hc9528 Dj.nil
                      replace F9285 := F9285.chg hc9528 Dj.nil
                      replace F9286 := F9286.chg hc9528 Dj.nil
                      replace F9287 := F9287.chg hc9528 Dj.nil
                      replace F9512 := F9512.chg hc9528 Dj.nil
                      replace hB := hB.inS hc9528 inNil
                      replace G9526 := Nat.le_trans hZ G9526
                      replace G9526 := lowApp (low1 G9526) G9511
                      replace hZ := Nat.le_trans hZ hc9528.size
                      replace F9512 := (F9512.sl encI_ok)
                      obtain ⟨_, hk9539, hm⟩ := bindE hm
                      replace hk9539 := apE hk9539
                      refine wS_appendR (k := 1) (enc := encI) (ll := (l8533 : List (List (Int)))) (ll2 := (([([x6363, x8526, 1] : List (Int))] : List (List (Int))) : List (List (Int)))) (d := 92) (t := 40) (T := 25) (A := A8534) (A2 := (some ⟨b9524, 0, none⟩)) (cap := cap8535) (cap2 := 1) (by kernel_rfl) el40 F9285 F9527 (by rfl) D9536 hk9539 ?_
                      intro w9540 fp9541 A9542 cap9543 F9544 hc9545 hp9546
                      have G9548 := lowApp (low_ap (low_inl G8550) hZ hp9546) (lowApp (low_inr G8550) (low_inr G9526))
                      have D9549 : Dj [b2] (fp9541 ++ (fr8538 ++ [b9509])) := Dj.app (Dj.ap (Dj.inl D8558) (lt1 F9279.lt) hp9546) (Dj.app (Dj.inr D8558) (Dj.inr D9530))
                      have D9550 : Dj [b8] (fp9541 ++ (fr8538 ++ [b9509])) := Dj.app (Dj.ap (Dj.inl D8559) (lt1 F9280.lt) hp9546) (Dj.app (Dj.inr D8559) (Dj.inr D9531))
                      have D9551 : Dj (fp29 ++ fr32) (fp9541 ++ (fr8538 ++ [b9509])) := Dj.app (Dj.ap (Dj.inl D8560) F9281.low hp9546) (Dj.app (Dj.inr D8560) (Dj.inr D9532))
                      have D9552 : Dj [b36] (fp9541 ++ (fr8538 ++ [b9509])) := Dj.app (Dj.ap (Dj.inl D8561) (lt1 F9282.lt) hp9546) (Dj.app (Dj.inr D8561) (Dj.inr D9533))
                      have D9553 : Dj fr32 (fp9541 ++ (fr8538 ++ [b9509])) := Dj.app (Dj.ap (Dj.inl D8562) F9283.low hp9546) (Dj.app (Dj.inr D8562) (Dj.inr D9534))
                      have D9554 : Dj fp6441 (fp9541 ++ (fr8538 ++ [b9509])) := Dj.app (Dj.ap (Dj.inl D8563) F9284.low hp9546) (Dj.app (Dj.inr D8563) (Dj.inr D9535))
                      have D9555 : Dj fr32 (fp9541 ++ (fr8538 ++ [b9509])) := Dj.app (Dj.ap (Dj.inl ((Dj.inr (D8560).symm)).symm) F9286.low hp9546) (Dj.app (Dj.inr ((Dj.inr (D8560).symm)).symm) (Dj.inr D9537))
                      have D9556 : Dj (fp9274 ++ fr9276) (fp9541 ++ (fr8538 ++ [b9509])) := Dj.app (Dj.ap (Dj.inl (D9295).symm) F9287.low hp9546) (Dj.app (Dj.inr (D9295).symm) (Dj.inr D9538))
                      replace F9278 := F9278.chg hc9545 (Dj.inl (Dj.of L0 G8550))
                      replace F9279 := F9279.chg hc9545 (dj1 (Dj.inl D8558))
                      replace F9280 := F9280.chg hc9545 (dj1 (Dj.inl D8559))
                      replace F9281 := F9281.chg hc9545 (Dj.inl D8560)
                      replace F9282 := F9282.chg hc9545 (dj1 (Dj.inl D8561))
                      replace F9283 := F9283.chg hc9545 (Dj.inl D8562)
                      replace F9284 := F9284.chg hc9545 (Dj.inl D8563)
                      replace F9286 := F9286.chg hc9545 (Dj.inl ((Dj.inr (D8560).symm)).symm)
                      replace F9287 := F9287.chg hc9545 (Dj.inl (D9295).symm)
                      replace hB := hB.inS hc9545 (memS_inl (inLow G8550))
                      replace hZ := Nat.le_trans hZ hc9545.size
                      refine wS_pure 1 [(93, .pointer (some ⟨b36, 2, none⟩))] (by kernel_rfl) ?_
                      refine wS_store (T := 40) (g := b36) (o := 2) (ad := ⟨b36, 2, none⟩) (v := .slice A9542 (l8533 ++ (([([x6363, x8526, 1] : List (Int))] : List (List (Int))))).length cap9543) (vs := [.slice A9542 (l8533 ++ (([([x6363, x8526, 1] : List (Int))] : List (List (Int))))).length cap9543]) (by kernel_rfl) (by rfl) sz40 (by rfl) (by rfl) F9282 (by simp only [List.length_cons, List.length_nil]; omega) ?_
                      intro w9557 F9558 hc9559
                      replace F9278 := F9278.chg hc9559 (Dj.of L0 (low1 G38))
                      replace F9279 := F9279.chg hc9559 (dj1 D42)
                      replace F9280 := F9280.chg hc9559 (dj1 D43)
                      replace F9281 := F9281.chg hc9559 D44
                      replace F9283 := F9283.chg hc9559 ((Dj.inr (D44).symm)).symm
                      replace F9284 := F9284.chg hc9559 (D6452).symm
                      replace F9286 := F9286.chg hc9559 ((Dj.inr (D44).symm)).symm
                      replace F9287 := F9287.chg hc9559 (D9292).symm
                      replace F9544 := F9544.chg hc9559 (D9552).symm
                      replace hB := hB.inS hc9559 (inLow (low1 G38))
                      replace hZ := Nat.le_trans hZ hc9559.size
                      replace F9558 : Cl w9557 b36 83 [.int .i64 (((y23).length : Int)), .slice A9272 (l9271).length cap9273, .slice A9542 (l8533 ++ (([([x6363, x8526, 1] : List (Int))] : List (List (Int))))).length cap9543, .slice A6442 (l6376 ++ (([(-1)] : List (Int)))).length cap6443] := F9558
                      clear F9282
                      refine wS_end (by rfl) ?_
                      have hq : (some ((l9271, l8533 ++ (([([x6363, x8526, 1] : List (Int))] : List (List (Int)))))) : Option ((List (List (Int))) × (List (List (Int))))) = some _ := hm
                      replace hq := someE hq
                      subst hq
                      exact eX_J (fun hst => ⟨l9271, A9272, cap9273, fp9274, fr9276, l8533 ++ (([([x6363, x8526, 1] : List (Int))] : List (List (Int)))), A9542, cap9543, fp9541, (fr8538 ++ [b9509]), rfl, Fr.of hst (by kernel_rfl), F9278, F9279, F9280, F9281, F9558, F9283, F9284, F9287, F9544, G9288, G9548, D9289, D9290, D9291, D9292, D9293, D9294, (D9556).symm, D9549, D9550, D9551, D9552, D9553, D9554, hB, hZ⟩)
                    · have hm := condF hb9508 hm
                      refine cW_skip ?_
                      have hq : (some ((l9271, l8533)) : Option ((List (List (Int))) × (List (List (Int))))) = some _ := hm
                      replace hq := someE hq
                      subst hq
                      exact eX_J (fun hst => ⟨l9271, A9272, cap9273, fp9274, fr9276, l8533, A8534, cap8535, fp8536, fr8538, rfl, Fr.of hst (by kernel_rfl), F9278, F9279, F9280, F9281, F9282, F9283, F9284, F9287, F9285, G9288, G8550, D9289, D9290, D9291, D9292, D9293, D9294, D9295, D8558, D8559, D8560, D8561, D8562, D8563, hB, hZ⟩)
                  · have hm := condF hb9506 hm
                    rewrite [hb9506]
                    refine wH_take [8, 9, 10] [10, 9, 8, 7, 6, 5, 4, 3, 2, 1, 0] [(83, undef), (82, undef), (81, undef)] (by kernel_rfl) (qT (qT (qT (qB (qT (qL (qB (qT (qB (qT (qL (qB (qT (qT qZ)))))))))))))) (by kernel_rfl) ?_
                    refine wH_done (by kernel_rfl) ?_
                    refine eX_tail ?_
                    refine wS_pure 2 [(85, .bool (false)), (84, undef)] (by kernel_rfl) ?_
                    refine wS_end (by rfl) ?_
                    refine eX_then ?_
                    refine cW_prune [(2, .pointer (some ⟨b8, 0, none⟩)), (4, .slice A27 (y23).length cap28), (5, .func (.func 125) #[] #[.pointer (some ⟨b2, 0, none⟩)]), (6, .pointer (some ⟨b36, 0, none⟩)), (7, .int .i64 (x6363)), (8, .slice A6417 (x6415).length cap6418), (9, .int .i64 (x8526)), (25, .slice A27 (y23).length cap28), (26, .int .i64 (((y23).length : Int))), (27, .int .i64 (x6363)), (85, .bool (false))] (by kernel_rfl) (by kernel_rfl) (fun a9560 => ?_)
                    refine cW_cond_f (by kernel_rfl) ?_
                    refine cW_skip ?_
                    have hq : (some ((l9271, l8533)) : Option ((List (List (Int))) × (List (List (Int))))) = some _ := hm
                    replace hq := someE hq
                    subst hq
                    exact eX_J (fun hst => ⟨l9271, A9272, cap9273, fp9274, fr9276, l8533, A8534, cap8535, fp8536, fr8538, rfl, Fr.of hst (by kernel_rfl), F9278, F9279, F9280, F9281, F9282, F9283, F9284, F9287, F9285, G9288, G8550, D9289, D9290, D9291, D9292, D9293, D9294, D9295, D8558, D8559, D8560, D8561, D8562, D8563, hB, hZ⟩)
              · rintro a' w9046 ⟨l9047, A9048, cap9049, fp9050, fr9052, l9053, A9054, cap9055, fp9056, fr9058, hJ, hF9059, F9060, F9061, F9062, F9063, F9064, F9065, F9066, F9067, F9068, G9069, G9070, D9071, D9072, D9073, D9074, D9075, D9076, D9077, D9078, D9079, D9080, D9081, D9082, D9083, hB, hZ⟩
                subst hJ
                refine Fr.goX hF9059 (by kernel_rfl) ?_
                refine eX_block ?_
                refine eX_then ?_
                refine cW_region ?_
                refine wS_pure 3 [(9, .int .i64 (wr (x8526 + 1))), (44, .int .i64 (wr (x8526 + 1))), (43, .int .i64 (x8526))] (by kernel_rfl) ?_
                refine wS_end (by rfl) ?_
                have hq : (some (Ctl.next ((wr (x8526 + 1), l9047, l9053))) : Option (Ctl (Int × (List (List (Int))) × (List (List (Int)))) ((List (List (Int))) × (List (List (Int)))))) = some _ := hm
                replace hq := someE hq
                subst hq
                exact eX_next hx8569 (fun hst => ⟨wr (x8526 + 1), l9047, A9048, cap9049, fp9050, fr9052, l9053, A9054, cap9055, fp9056, fr9058, rfl, Fr.of hst (by kernel_rfl), F9060, F9061, F9062, F9063, F9064, F9065, F9066, F9067, F9068, G9069, G9070, D9071, D9072, D9073, D9074, D9075, D9076, D9077, D9078, D9079, D9080, D9081, D9082, D9083, hB, hZ⟩)
            · have hm := condF hb8570 hm
              refine cW_exit ?_
              refine eX_then_exit ?_
              have hq : (some (Ctl.out ((l8527, l8533))) : Option (Ctl (Int × (List (List (Int))) × (List (List (Int)))) ((List (List (Int))) × (List (List (Int)))))) = some _ := hm
              replace hq := someE hq
              subst hq
              refine eX_outX hx8569 (fun hr9561 => ?_)
              replace hr9561 := hr9561.symm
              subst hr9561
              refine eX_block_hit ?_
              exact eX_J (fun hst => ⟨l8527, A8528, cap8529, fp8530, fr8532, l8533, A8534, cap8535, fp8536, fr8538, rfl, Fr.of hst (by kernel_rfl), F8540, F8541, F8542, F8543, F8544, F8546, F8547, F8548, G8549, G8550, D8551, D8552, D8553, D8554, D8556, D8557, D8558, D8559, D8560, D8561, D8563, hB, hZ⟩)
          · rintro a' w8490 ⟨l8491, A8492, cap8493, fp8494, fr8496, l8497, A8498, cap8499, fp8500, fr8502, hJ, hF8503, F8504, F8505, F8506, F8507, F8508, F8509, F8510, F8511, G8512, G8513, D8514, D8515, D8516, D8517, D8518, D8519, D8520, D8521, D8522, D8523, D8524, hB, hZ⟩
            subst hJ
            refine Fr.goX hF8503 (by kernel_rfl) ?_
            refine eX_block ?_
            refine eX_then ?_
            refine cW_region ?_
            refine wS_pure 2 [(27, .int .i64 (wr (x6363 + 1))), (94, .int .i64 (wr (x6363 + 1)))] (by kernel_rfl) ?_
            refine wS_end (by rfl) ?_
            have hq : (some (Ctl.next ((wr (x6363 + 1), l8491, l8497, l6376 ++ (([(-1)] : List (Int)))))) : Option (Ctl (Int × (List (List (Int))) × (List (List (Int))) × (List (Int))) ((List (List (Int))) × (List (List (Int))) × (List (Int))))) = some _ := hm
            replace hq := someE hq
            subst hq
            exact eX_next hx6413 (fun hst => ⟨wr (x6363 + 1), l8491, A8492, cap8493, fp8494, fr8496, l8497, A8498, cap8499, fp8500, fr8502, l6376 ++ (([(-1)] : List (Int))), A6442, cap6443, fp6441, rfl, Fr.of hst (by kernel_rfl), F8504, F8505, F8506, F8507, F8508, F8510, F8511, F8509, G8512, G8513, G6448, D8514, D8515, D8516, D8517, D8519, D8518, D8520, D8521, D8522, D8523, D8524, D6449, D6450, D6451, D6452, hB, hZ⟩)
        · have hm := condF hb6414 hm
          refine cW_exit ?_
          refine eX_then_exit ?_
          have hq : (some (Ctl.out ((l6364, l6370, l6376))) : Option (Ctl (Int × (List (List (Int))) × (List (List (Int))) × (List (Int))) ((List (List (Int))) × (List (List (Int))) × (List (Int))))) = some _ := hm
          replace hq := someE hq
          subst hq
          refine eX_outX hx6413 (fun hr9562 => ?_)
          replace hr9562 := hr9562.symm
          subst hr9562
          refine eX_block_hit ?_
          exact eX_J (fun hst => ⟨l6364, A6365, cap6366, fp6367, fr6369, l6370, A6371, cap6372, fp6373, fr6375, l6376, A6377, cap6378, fp6379, rfl, Fr.of hst (by kernel_rfl), F6384, F6386, F6387, F6388, F6389, G6390, G6391, G6392, D6394, D6396, D6397, D6398, D6400, D6402, D6403, D6405, D6407, hB, hZ⟩)
      · rintro a' w6326 ⟨l6327, A6328, cap6329, fp6330, fr6332, l6333, A6334, cap6335, fp6336, fr6338, l6339, A6340, cap6341, fp6342, hJ, hF6344, F6345, F6346, F6347, F6348, F6349, G6350, G6351, G6352, D6353, D6354, D6355, D6356, D6357, D6358, D6359, D6360, D6361, hB, hZ⟩
        subst hJ
        refine Fr.goX hF6344 (by kernel_rfl) ?_
        refine eX_then ?_
        refine cW_seq ?_
        refine cW_seq ?_
        refine cW_region ?_
        refine wS_loadA (d := 95) (T := 83) (ad := ⟨b36, 0, none⟩) (vs := [.int .i64 (((y23).length : Int)), .slice A6328 (l6327).length cap6329, .slice A6334 (l6333).length cap6335, .slice A6340 (l6339).length cap6341]) (by kernel_rfl) vt83 (fun i u hu => box_cells F6346 0 hu (by rfl)) ?_
        obtain ⟨y9563, hy9564, hm⟩ := bindE hm
        refine wS_calls (d := 96) (f := 127) (vs := [.agg #[.int .i64 (((y23).length : Int)), .slice A6328 (l6327).length cap6329, .slice A6334 (l6333).length cap6335, .slice A6340 (l6339).length cap6341]]) (by kernel_rfl) ent127 (c_impl_ValidWiring hy9564 (F6347.slr encI_ok) (F6348.slr encI_ok) (F6349.sl encI_ok)) ?_
        rintro _ w9565 ⟨rfl, hc9566⟩
        replace F6345 := F6345.chg hc9566 notNil
        replace F6346 := F6346.chg hc9566 notNil
        replace F6347 := F6347.chg hc9566 Dj.nil
        replace F6348 := F6348.chg hc9566 Dj.nil
        replace F6349 := F6349.chg hc9566 Dj.nil
        replace hB := hB.inS hc9566 inNil
        replace hZ := Nat.le_trans hZ hc9566.size
        refine ⟨.bool (y9563), rfl, ?_⟩
        refine wS_pure 1 [(97, .bool (!y9563))] (by kernel_rfl) ?_
        refine wS_end (by rfl) ?_
        refine eX_then ?_
        refine cW_cond (t := !y9563) (by kernel_rfl) (fun hb9567 => ?_) (fun hb9567 => ?_)
        · have hm := condT hb9567 hm
          refine cW_seq ?_
          refine cW_region ?_
          refine wS_pure 1 [(98, .agg #[.int .i64 (0), .slice none 0 0, .slice none 0 0, .slice none 0 0])] (by kernel_rfl) ?_
          refine wS_store (T := 83) (g := b8) (o := 0) (ad := ⟨b8, 0, none⟩) (v := .agg #[.int .i64 (0), .slice none 0 0, .slice none 0 0, .slice none 0 0]) (vs := [.int .i64 (0), .slice none 0 0, .slice none 0 0, .slice none 0 0]) (by kernel_rfl) (by rfl) sz83 (by rfl) (by rfl) F6345 (by simp only [List.length_cons, List.length_nil]; omega) ?_
          intro w9568 F9569 hc9570
          replace F6346 := F6346.chg hc9570 (dj1 (D43).symm)
          replace F6347 := F6347.chg hc9570 (D6353).symm
          replace F6348 := F6348.chg hc9570 (D6357).symm
          replace F6349 := F6349.chg hc9570 (D6360).symm
          replace hB := hB.inS hc9570 (inLow (low1 G10))
          replace hZ := Nat.le_trans hZ hc9570.size
          replace F9569 : Cl w9568 b8 83 [.int .i64 (0), .slice none 0 0, .slice none 0 0, .slice none 0 0] := F9569
          clear F6345
          refine wS_pure 1 [(3, .bool (false))] (by kernel_rfl) ?_
          refine wS_end (by rfl) ?_
          refine eX_then ?_
          refine cW_ret ?_
          refine eX_then_ret ?_
          have hq : (some (((0, [], [], []), false)) : Option ((Int × (List (List (Int))) × (List (List (Int))) × (List (Int))) × (Bool))) = some _ := hm
          replace hq := someE hq
          subst hq
          refine eX_ret (vs := [.agg #[.int .i64 (0), .slice none 0 0, .slice none 0 0, .slice none 0 0], .bool (false)]) [.cell 2 83, .tmp 3] (by rfl) ⟨⟨⟨b8, 0, none⟩, by kernel_rfl, run_loadVarA (vs := [.int .i64 (0), .slice none 0 0, .slice none 0 0, .slice none 0 0]) vt83 (fun i u hu => by exact box_cells F9569 0 hu (by rfl))⟩, ⟨by (show lkE _ _ _ = _); kernel_rfl, trivial⟩⟩ ?_
          exact ⟨none, 0, [], [], none, 0, [], [], none, 0, [], rfl, OwR.nil _, (lowApp lowNil lowNil), OwR.nil _, (lowApp lowNil lowNil), Ow.nil _, lowNil, (Dj.app Dj.nil Dj.nil), Dj.nil, Dj.nil, hB⟩
        · have hm := condF hb9567 hm
          refine cW_skip ?_
          refine eX_then ?_
          refine cW_seq ?_
          refine cW_region ?_
          refine wS_loadA (d := 99) (T := 83) (ad := ⟨b36, 0, none⟩) (vs := [.int .i64 (((y23).length : Int)), .slice A6328 (l6327).length cap6329, .slice A6334 (l6333).length cap6335, .slice A6340 (l6339).length cap6341]) (by kernel_rfl) vt83 (fun i u hu => box_cells F6346 0 hu (by rfl)) ?_
          refine wS_store (T := 83) (g := b8) (o := 0) (ad := ⟨b8, 0, none⟩) (v := .agg #[.int .i64 (((y23).length : Int)), .slice A6328 (l6327).length cap6329, .slice A6334 (l6333).length cap6335, .slice A6340 (l6339).length cap6341]) (vs := [.int .i64 (((y23).length : Int)), .slice A6328 (l6327).length cap6329, .slice A6334 (l6333).length cap6335, .slice A6340 (l6339).length cap6341]) (by kernel_rfl) (by rfl) sz83 (by rfl) (by rfl) F6345 (by simp only [List.length_cons, List.length_nil]; omega) ?_
          intro w9571 F9572 hc9573
          replace F6346 := F6346.chg hc9573 (dj1 (D43).symm)
          replace F6347 := F6347.chg hc9573 (D6353).symm
          replace F6348 := F6348.chg hc9573 (D6357).symm
          replace F6349 := F6349.chg hc9573 (D6360).symm
          replace hB := hB.inS hc9573 (inLow (low1 G10))
          replace hZ := Nat.le_trans hZ hc9573.size
          replace F9572 : Cl w9571 b8 83 [.int .i64 (((y23).length : Int)), .slice A6328 (l6327).length cap6329, .slice A6334 (l6333).length cap6335, .slice A6340 (l6339).length cap6341] := F9572
          clear F6345
          refine wS_pure 1 [(3, .bool (true))] (by kernel_rfl) ?_
          refine wS_end (by rfl) ?_
          refine eX_then ?_
          refine cW_ret ?_
          have hq : (some (((((y23).length : Int), l6327, l6333, l6339), true)) : Option ((Int × (List (List (Int))) × (List (List (Int))) × (List (Int))) × (Bool))) = some _ := hm
          replace hq := someE hq
          subst hq
          refine eX_ret (vs := [.agg #[.int .i64 (((y23).length : Int)), .slice A6328 (l6327).length cap6329, .slice A6334 (l6333).length cap6335, .slice A6340 (l6339).length cap6341], .bool (true)]) [.cell 2 83, .tmp 3] (by rfl) ⟨⟨⟨b8, 0, none⟩, by kernel_rfl, run_loadVarA (vs := [.int .i64 (((y23).length : Int)), .slice A6328 (l6327).length cap6329, .slice A6334 (l6333).length cap6335, .slice A6340 (l6339).length cap6341]) vt83 (fun i u hu => by exact box_cells F9572 0 hu (by rfl))⟩, ⟨by (show lkE _ _ _ = _); kernel_rfl, trivial⟩⟩ ?_
          exact ⟨A6328, cap6329, fp6330, fr6332, A6334, cap6335, fp6336, fr6338, A6340, cap6341, fp6342, rfl, F6347, G6350, F6348, G6351, F6349, G6352, (D6355).symm, (D6356).symm, (D6359).symm, hB⟩

set_option maxRecDepth 100000 in
/-- laws.eqWiring -/
theorem c_laws_eqWiring {w0 : World} {p0_0 : Int} {l0_1 : List (List (Int))} {A0_1 : Option Addr} {cap0_1 : Nat} {fp0_1 : List Nat} {l0_2 : List (List (Int))} {A0_2 : Option Addr} {cap0_2 : Nat} {fp0_2 : List Nat} {l0_3 : List (Int)} {A0_3 : Option Addr} {cap0_3 : Nat} {fp0_3 : List Nat} {p1_0 : Int} {l1_1 : List (List (Int))} {A1_1 : Option Addr} {cap1_1 : Nat} {fp1_1 : List Nat} {l1_2 : List (List (Int))} {A1_2 : Option Addr} {cap1_2 : Nat} {fp1_2 : List Nat} {l1_3 : List (Int)} {A1_3 : Option Addr} {cap1_3 : Nat} {fp1_3 : List Nat} {r : (Bool)} (hm : m_laws_eqWiring p0_0 l0_1 l0_2 l0_3 p1_0 l1_1 l1_2 l1_3 = some r) (F0_1 : SlR 1 encI w0 fp0_1 A0_1 l0_1) (F0_2 : SlR 1 encI w0 fp0_2 A0_2 l0_2) (F0_3 : Sl 1 encI w0 fp0_3 A0_3 l0_3) (F1_1 : SlR 1 encI w0 fp1_1 A1_1 l1_1) (F1_2 : SlR 1 encI w0 fp1_2 A1_2 l1_2) (F1_3 : Sl 1 encI w0 fp1_3 A1_3 l1_3) :
    Calls Try.prog 61 #[.agg #[.int .i64 (p0_0), .slice A0_1 (l0_1).length cap0_1, .slice A0_2 (l0_2).length cap0_2, .slice A0_3 (l0_3).length cap0_3], .agg #[.int .i64 (p1_0), .slice A1_1 (l1_1).length cap1_1, .slice A1_2 (l1_2).length cap1_2, .slice A1_3 (l1_3).length cap1_3]] w0 fun e w' => e = .returned (.bool (r)) ∧ Chg [] w0 w' := by
  have L0_1 := F0_1.low
  have L0_2 := F0_2.low
  have L0_3 := F0_3.low
  have L1_1 := F1_1.low
  have L1_2 := F1_2.low
  have L1_3 := F1_3.low
  have hB : Chg [] w0 w0 := Chg.refl _ _
  have hZ := Nat.le_refl w0.heap.size
  unfold m_laws_eqWiring at hm
  refine enterE (N := 28) Try.func61 (by rfl) Try.ntmps61 (by simp) [(0, .agg #[.int .i64 (p0_0), .slice A0_1 (l0_1).length cap0_1, .slice A0_2 (l0_2).length cap0_2, .slice A0_3 (l0_3).length cap0_3]), (1, .agg #[.int .i64 (p1_0), .slice A1_1 (l1_1).length cap1_1, .slice A1_2 (l1_2).length cap1_2, .slice A1_3 (l1_3).length cap1_3])] (by rfl) (by kernel_rfl) (fun a => ?_)
  refine cW_seq ?_
  refine cW_region ?_
  refine wS_box (d := 2) (T := 83) (x := .agg #[.int .i64 (p0_0), .slice A0_1 (l0_1).length cap0_1, .slice A0_2 (l0_2).length cap0_2, .slice A0_3 (l0_3).length cap0_3]) (by kernel_rfl) ?_
  intro b7 w8 G9 F10 hc11
  replace F10 : Cl w8 b7 83 [.int .i64 (p0_0), .slice A0_1 (l0_1).length cap0_1, .slice A0_2 (l0_2).length cap0_2, .slice A0_3 (l0_3).length cap0_3] := F10
  replace F0_1 := F0_1.chg hc11 Dj.nil
  replace F0_2 := F0_2.chg hc11 Dj.nil
  replace F0_3 := F0_3.chg hc11 Dj.nil
  replace F1_1 := F1_1.chg hc11 Dj.nil
  replace F1_2 := F1_2.chg hc11 Dj.nil
  replace F1_3 := F1_3.chg hc11 Dj.nil
  replace hB := hB.inS hc11 inNil
  replace G9 := Nat.le_trans hZ G9
  replace hZ := Nat.le_trans hZ hc11.size
  refine wS_box (d := 3) (T := 83) (x := .agg #[.int .i64 (p1_0), .slice A1_1 (l1_1).length cap1_1, .slice A1_2 (l1_2).length cap1_2, .slice A1_3 (l1_3).length cap1_3]) (by kernel_rfl) ?_
  intro b13 w14 G15 F16 hc17
  replace F16 : Cl w14 b13 83 [.int .i64 (p1_0), .slice A1_1 (l1_1).length cap1_1, .slice A1_2 (l1_2).length cap1_2, .slice A1_3 (l1_3).length cap1_3] := F16
  have D19 : Dj [b7] [b13] := Dj.of (lt1 F10.lt) (low1 G15)
  replace F0_1 := F0_1.chg hc17 Dj.nil
  replace F0_2 := F0_2.chg hc17 Dj.nil
  replace F0_3 := F0_3.chg hc17 Dj.nil
  replace F1_1 := F1_1.chg hc17 Dj.nil
  replace F1_2 := F1_2.chg hc17 Dj.nil
  replace F1_3 := F1_3.chg hc17 Dj.nil
  replace F10 := F10.chg hc17 notNil
  replace hB := hB.inS hc17 inNil
  replace G15 := Nat.le_trans hZ G15
  replace hZ := Nat.le_trans hZ hc17.size
  refine wS_pure 1 [(4, .bool (false))] (by kernel_rfl) ?_
  refine wS_end (by rfl) ?_
  refine eX_then ?_
  refine cW_seq ?_
  refine cW_seq ?_
  refine cW_region ?_
  refine wS_pure 1 [(5, .pointer (some ⟨b7, 0, none⟩))] (by kernel_rfl) ?_
  refine wS_load1 (d := 6) (T := 2) (ad := ⟨b7, 0, none⟩) (v := .int .i64 (p0_0)) (by kernel_rfl) vt2 ((F10).cell 0) ?_
  refine wS_pure 1 [(7, .pointer (some ⟨b13, 0, none⟩))] (by kernel_rfl) ?_
  refine wS_load1 (d := 8) (T := 2) (ad := ⟨b13, 0, none⟩) (v := .int .i64 (p1_0)) (by kernel_rfl) vt2 ((F16).cell 0) ?_
  refine wS_pure 1 [(9, .bool (p0_0 != p1_0))] (by kernel_rfl) ?_
  refine wS_end (by rfl) ?_
  refine eX_then ?_
  refine cW_cond (t := p0_0 != p1_0) (by kernel_rfl) (fun hb20 => ?_) (fun hb20 => ?_)
  · have hm := condT hb20 hm
    refine cW_seq ?_
    refine cW_region ?_
    refine wS_pure 1 [(4, .bool (false))] (by kernel_rfl) ?_
    refine wS_end (by rfl) ?_
    refine eX_then ?_
    refine cW_ret ?_
    refine eX_then_ret ?_
    have hq : (some false : Option ((Bool))) = some _ := hm
    replace hq := someE hq
    subst hq
    refine eX_ret (vs := [.bool (false)]) [.tmp 4] (by rfl) ⟨by (show lkE _ _ _ = _); kernel_rfl, trivial⟩ ?_
    exact ⟨rfl, hB⟩
  · have hm := condF hb20 hm
    refine cW_skip ?_
    refine eX_then ?_
    refine cW_seq ?_
    refine cW_seq ?_
    refine cW_region ?_
    refine wS_pure 1 [(10, .pointer (some ⟨b7, 1, none⟩))] (by kernel_rfl) ?_
    refine wS_load1 (d := 11) (T := 40) (ad := ⟨b7, 1, none⟩) (v := .slice A0_1 (l0_1).length cap0_1) (by kernel_rfl) vt40 ((F10).cell 1) ?_
    refine wS_pure 1 [(12, .pointer (some ⟨b13, 1, none⟩))] (by kernel_rfl) ?_
    refine wS_load1 (d := 13) (T := 40) (ad := ⟨b13, 1, none⟩) (v := .slice A1_1 (l1_1).length cap1_1) (by kernel_rfl) vt40 ((F16).cell 1) ?_
    obtain ⟨y21, hy22, hm⟩ := bindE hm
    refine wS_calls (d := 14) (f := 103) (vs := [.slice A0_1 (l0_1).length cap0_1, .slice A1_1 (l1_1).length cap1_1]) (by kernel_rfl) ent103 (c_laws_eqInt64SS hy22 F0_1 F1_1) ?_
    rintro _ w23 ⟨rfl, hc24⟩
    replace F0_1 := F0_1.chg hc24 Dj.nil
    replace F0_2 := F0_2.chg hc24 Dj.nil
    replace F0_3 := F0_3.chg hc24 Dj.nil
    replace F1_1 := F1_1.chg hc24 Dj.nil
    replace F1_2 := F1_2.chg hc24 Dj.nil
    replace F1_3 := F1_3.chg hc24 Dj.nil
    replace F10 := F10.chg hc24 notNil
    replace F16 := F16.chg hc24 notNil
    replace hB := hB.inS hc24 inNil
    replace hZ := Nat.le_trans hZ hc24.size
    refine ⟨.bool (y21), rfl, ?_⟩
    refine wS_pure 1 [(15, .bool (!y21))] (by kernel_rfl) ?_
    refine wS_end (by rfl) ?_
    refine eX_then ?_
    refine cW_cond (t := !y21) (by kernel_rfl) (fun hb25 => ?_) (fun hb25 => ?_)
    · have hm := condT hb25 hm
      refine cW_seq ?_
      refine cW_region ?_
      refine wS_pure 1 [(4, .bool (false))] (by kernel_rfl) ?_
      refine wS_end (by rfl) ?_
      refine eX_then ?_
      refine cW_ret ?_
      refine eX_then_ret ?_
      have hq : (some false : Option ((Bool))) = some _ := hm
      replace hq := someE hq
      subst hq
      refine eX_ret (vs := [.bool (false)]) [.tmp 4] (by rfl) ⟨by (show lkE _ _ _ = _); kernel_rfl, trivial⟩ ?_
      exact ⟨rfl, hB⟩
    · have hm := condF hb25 hm
      refine cW_skip ?_
      refine eX_then ?_
      refine cW_seq ?_
      refine cW_seq ?_
      refine cW_region ?_
      refine wS_pure 1 [(16, .pointer (some ⟨b7, 2, none⟩))] (by kernel_rfl) ?_
      refine wS_load1 (d := 17) (T := 40) (ad := ⟨b7, 2, none⟩) (v := .slice A0_2 (l0_2).length cap0_2) (by kernel_rfl) vt40 ((F10).cell 2) ?_
      refine wS_pure 1 [(18, .pointer (some ⟨b13, 2, none⟩))] (by kernel_rfl) ?_
      refine wS_load1 (d := 19) (T := 40) (ad := ⟨b13, 2, none⟩) (v := .slice A1_2 (l1_2).length cap1_2) (by kernel_rfl) vt40 ((F16).cell 2) ?_
      obtain ⟨y26, hy27, hm⟩ := bindE hm
      refine wS_calls (d := 20) (f := 103) (vs := [.slice A0_2 (l0_2).length cap0_2, .slice A1_2 (l1_2).length cap1_2]) (by kernel_rfl) ent103 (c_laws_eqInt64SS hy27 F0_2 F1_2) ?_
      rintro _ w28 ⟨rfl, hc29⟩
      replace F0_1 := F0_1.chg hc29 Dj.nil
      replace F0_2 := F0_2.chg hc29 Dj.nil
      replace F0_3 := F0_3.chg hc29 Dj.nil
      replace F1_1 := F1_1.chg hc29 Dj.nil
      replace F1_2 := F1_2.chg hc29 Dj.nil
      replace F1_3 := F1_3.chg hc29 Dj.nil
      replace F10 := F10.chg hc29 notNil
      replace F16 := F16.chg hc29 notNil
      replace hB := hB.inS hc29 inNil
      replace hZ := Nat.le_trans hZ hc29.size
      refine ⟨.bool (y26), rfl, ?_⟩
      refine wS_pure 1 [(21, .bool (!y26))] (by kernel_rfl) ?_
      refine wS_end (by rfl) ?_
      refine eX_then ?_
      refine cW_cond (t := !y26) (by kernel_rfl) (fun hb30 => ?_) (fun hb30 => ?_)
      · have hm := condT hb30 hm
        refine cW_seq ?_
        refine cW_region ?_
        refine wS_pure 1 [(4, .bool (false))] (by kernel_rfl) ?_
        refine wS_end (by rfl) ?_
        refine eX_then ?_
        refine cW_ret ?_
        refine eX_then_ret ?_
        have hq : (some false : Option ((Bool))) = some _ := hm
        replace hq := someE hq
        subst hq
        refine eX_ret (vs := [.bool (false)]) [.tmp 4] (by rfl) ⟨by (show lkE _ _ _ = _); kernel_rfl, trivial⟩ ?_
        exact ⟨rfl, hB⟩
      · have hm := condF hb30 hm
        refine cW_skip ?_
        refine eX_then ?_
        refine cW_seq ?_
        refine cW_seq ?_
        refine cW_region ?_
        refine wS_pure 1 [(22, .pointer (some ⟨b7, 3, none⟩))] (by kernel_rfl) ?_
        refine wS_load1 (d := 23) (T := 25) (ad := ⟨b7, 3, none⟩) (v := .slice A0_3 (l0_3).length cap0_3) (by kernel_rfl) vt25 ((F10).cell 3) ?_
        refine wS_pure 1 [(24, .pointer (some ⟨b13, 3, none⟩))] (by kernel_rfl) ?_
        refine wS_load1 (d := 25) (T := 25) (ad := ⟨b13, 3, none⟩) (v := .slice A1_3 (l1_3).length cap1_3) (by kernel_rfl) vt25 ((F16).cell 3) ?_
        obtain ⟨y31, hy32, hm⟩ := bindE hm
        refine wS_calls (d := 26) (f := 128) (vs := [.slice A0_3 (l0_3).length cap0_3, .slice A1_3 (l1_3).length cap1_3]) (by kernel_rfl) ent128 (c_laws_eqInt64S hy32 F0_3 F1_3) ?_
        rintro _ w33 ⟨rfl, hc34⟩
        replace F0_1 := F0_1.chg hc34 Dj.nil
        replace F0_2 := F0_2.chg hc34 Dj.nil
        replace F0_3 := F0_3.chg hc34 Dj.nil
        replace F1_1 := F1_1.chg hc34 Dj.nil
        replace F1_2 := F1_2.chg hc34 Dj.nil
        replace F1_3 := F1_3.chg hc34 Dj.nil
        replace F10 := F10.chg hc34 notNil
        replace F16 := F16.chg hc34 notNil
        replace hB := hB.inS hc34 inNil
        replace hZ := Nat.le_trans hZ hc34.size
        refine ⟨.bool (y31), rfl, ?_⟩
        refine wS_pure 1 [(27, .bool (!y31))] (by kernel_rfl) ?_
        refine wS_end (by rfl) ?_
        refine eX_then ?_
        refine cW_prune [(27, .bool (!y31))] (by kernel_rfl) (by kernel_rfl) (fun a35 => ?_)
        refine cW_cond (t := !y31) (by kernel_rfl) (fun hb36 => ?_) (fun hb36 => ?_)
        · have hm := condT hb36 hm
          refine cW_seq ?_
          refine cW_region ?_
          refine wS_pure 1 [(4, .bool (false))] (by kernel_rfl) ?_
          refine wS_end (by rfl) ?_
          refine eX_then ?_
          refine cW_ret ?_
          refine eX_then_ret ?_
          have hq : (some false : Option ((Bool))) = some _ := hm
          replace hq := someE hq
          subst hq
          refine eX_ret (vs := [.bool (false)]) [.tmp 4] (by rfl) ⟨by (show lkE _ _ _ = _); kernel_rfl, trivial⟩ ?_
          exact ⟨rfl, hB⟩
        · have hm := condF hb36 hm
          refine cW_skip ?_
          refine eX_then ?_
          refine cW_seq ?_
          refine cW_region ?_
          refine wS_pure 1 [(4, .bool (true))] (by kernel_rfl) ?_
          refine wS_end (by rfl) ?_
          refine eX_then ?_
          refine cW_ret ?_
          have hq : (some true : Option ((Bool))) = some _ := hm
          replace hq := someE hq
          subst hq
          refine eX_ret (vs := [.bool (true)]) [.tmp 4] (by rfl) ⟨by (show lkE _ _ _ = _); kernel_rfl, trivial⟩ ?_
          exact ⟨rfl, hB⟩

set_option maxRecDepth 100000 in
/-- laws.eqPointSS -/
theorem c_laws_eqPointSS {w0 : World} {l0 : List (List (Int × Int))} {A0 : Option Addr} {cap0 : Nat} {fp0 : List Nat} {l1 : List (List (Int × Int))} {A1 : Option Addr} {cap1 : Nat} {fp1 : List Nat} {r : (Bool)} (hm : m_laws_eqPointSS l0 l1 = some r) (F0 : SlR 2 encII w0 fp0 A0 l0) (F1 : SlR 2 encII w0 fp1 A1 l1) :
    Calls Try.prog 62 #[.slice A0 (l0).length cap0, .slice A1 (l1).length cap1] w0 fun e w' => e = .returned (.bool (r)) ∧ Chg [] w0 w' := by
  have L0 := F0.low
  have L1 := F1.low
  have hB : Chg [] w0 w0 := Chg.refl _ _
  have hZ := Nat.le_refl w0.heap.size
  unfold m_laws_eqPointSS at hm
  refine enterE (N := 27) Try.func62 (by rfl) Try.ntmps62 (by simp) [(0, .slice A0 (l0).length cap0), (1, .slice A1 (l1).length cap1)] (by rfl) (by kernel_rfl) (fun a => ?_)
  refine cW_seq ?_
  refine cW_region ?_
  refine wS_pure 1 [(4, .bool (false))] (by kernel_rfl) ?_
  refine wS_end (by rfl) ?_
  refine eX_then ?_
  refine cW_seq ?_
  refine cW_seq ?_
  refine cW_region ?_
  refine wS_pure 5 [(10, .bool ((((l0).length : Int)) != (((l1).length : Int)))), (9, .int .i64 (((l1).length : Int))), (8, .slice A1 (l1).length cap1), (7, .int .i64 (((l0).length : Int))), (6, .slice A0 (l0).length cap0)] (by kernel_rfl) ?_
  refine wS_end (by rfl) ?_
  refine eX_then ?_
  refine cW_cond (t := (((l0).length : Int)) != (((l1).length : Int))) (by kernel_rfl) (fun hb3 => ?_) (fun hb3 => ?_)
  · have hm := condT hb3 hm
    refine cW_seq ?_
    refine cW_region ?_
    refine wS_pure 1 [(4, .bool (false))] (by kernel_rfl) ?_
    refine wS_end (by rfl) ?_
    refine eX_then ?_
    refine cW_ret ?_
    refine eX_then_ret ?_
    have hq : (some false : Option ((Bool))) = some _ := hm
    replace hq := someE hq
    subst hq
    refine eX_ret (vs := [.bool (false)]) [.tmp 4] (by rfl) ⟨by (show lkE _ _ _ = _); kernel_rfl, trivial⟩ ?_
    exact ⟨rfl, hB⟩
  · have hm := condF hb3 hm
    refine cW_skip ?_
    refine eX_then ?_
    refine cW_seq ?_
    refine cW_seq ?_
    refine cW_region ?_
    refine wS_pure 1 [(5, .int .i64 (0))] (by kernel_rfl) ?_
    refine wS_end (by rfl) ?_
    refine eX_then ?_
    obtain ⟨r118, hr119, hm⟩ := bindE hm
    have hm120 := hm
    refine cW_cut (fun a' w' => Sum.inl (()) = r118 ∧ Fr 27 [] a' ∧ Chg [] w0 w' ∧ w0.heap.size ≤ w'.heap.size) ?_ ?_
    · refine cW_block ?_
      refine cW_loop _ (fun (s121 : Int) a' w' => ∃ x114 : Int, x114 = s121 ∧ Fr 27 [(0, .slice A0 (l0).length cap0), (1, .slice A1 (l1).length cap1), (5, .int .i64 (x114))] a' ∧ SlR 2 encII w' fp0 A0 l0 ∧ SlR 2 encII w' fp1 A1 l1 ∧ Chg [] w0 w' ∧ w0.heap.size ≤ w'.heap.size) hr119 (fun hst => ⟨0, rfl, Fr.of hst (by kernel_rfl), F0, F1, hB, hZ⟩) ?_
      rintro _ c122 a' w113 ⟨x114, rfl, hF115, F116, F117, hB, hZ⟩ hx123
      refine Fr.goOn hF115 (by kernel_rfl) ?_
      have hm := hx123
      unfold m_laws_eqPointSS_s1 at hm
      refine cW_seq ?_
      refine cW_seq ?_
      refine cW_region ?_
      refine wS_pure 4 [(14, .bool (decide (x114 < (((l0).length : Int))))), (13, .int .i64 (((l0).length : Int))), (12, .slice A0 (l0).length cap0), (11, .int .i64 (x114))] (by kernel_rfl) ?_
      refine wS_end (by rfl) ?_
      refine eX_then ?_
      refine cW_cond (t := decide (x114 < (((l0).length : Int)))) (by kernel_rfl) (fun hb124 => ?_) (fun hb124 => ?_)
      · have hm := condT hb124 hm
        refine cW_skip ?_
        refine eX_then ?_
        refine cW_seq ?_
        refine cW_block ?_
        refine cW_seq ?_
        refine cW_drawnTail [] 8 (by kernel_rfl) (by kernel_rfl) (fun w149 hc150 => ?_)
        replace F116 := F116.chg hc150 Dj.nil
        replace F117 := F117.chg hc150 Dj.nil
        replace hB := hB.inS hc150 inNil
        replace hZ := Nat.le_trans hZ hc150.size
        have hS := Chg.refl [] w149
        have Z151 := F116
        have Z152 := F117
        refine wH_take [0, 1] [1, 0] [(18, .int .i64 (x114)), (17, .slice A0 (l0).length cap0)] (by kernel_rfl) (qT (qT (qB (qT (qL (qB (qT (qT qZ)))))))) (by kernel_rfl) ?_
        obtain ⟨x153, hx154, hm⟩ := bindE hm
        refine wH_idx (i := 2) (d := 19) (T := 31) (A := A0) (n := (l0).length) (cap := cap0) (kd := .i64) (m := x114) (by kernel_rfl) (qT (qT (qB (qT (qL (qB (qT (qT qZ)))))))) (by kernel_rfl) (by kernel_rfl) sl31 (F116.is hx154) ?_
        obtain ⟨A155, cap156, hc158, F157, K159⟩ := SlR.row Z151 hx154
        refine wH_load1 (i := 3) (d := 20) (T := 32) (ad := (elA A0 1 (x114) 0)) (v := .slice A155 (x153).length cap156) (by kernel_rfl) (qT (qT (qB (qT (qL (qB (qT (qT qZ)))))))) (by kernel_rfl) (by kernel_rfl) vt32 (fun W hW => hW.keep hc158) ?_
        refine wH_take [4, 5] [5, 4, 3, 2, 1, 0] [(22, .int .i64 (x114)), (21, .slice A1 (l1).length cap1)] (by kernel_rfl) (qT (qT (qB (qT (qL (qB (qT (qT qZ)))))))) (by kernel_rfl) ?_
        obtain ⟨x161, hx162, hm⟩ := bindE hm
        refine wH_idx (i := 6) (d := 23) (T := 31) (A := A1) (n := (l1).length) (cap := cap1) (kd := .i64) (m := x114) (by kernel_rfl) (qT (qT (qB (qT (qL (qB (qT (qT qZ)))))))) (by kernel_rfl) (by kernel_rfl) sl31 (F117.is hx162) ?_
        obtain ⟨A163, cap164, hc166, F165, K167⟩ := SlR.row Z152 hx162
        refine wH_load1 (i := 7) (d := 24) (T := 32) (ad := (elA A1 1 (x114) 0)) (v := .slice A163 (x161).length cap164) (by kernel_rfl) (qT (qT (qB (qT (qL (qB (qT (qT qZ)))))))) (by kernel_rfl) (by kernel_rfl) vt32 (fun W hW => hW.keep hc166) ?_
        refine wH_done (by kernel_rfl) ?_
        refine eX_tail ?_
        obtain ⟨y169, hy170, hm⟩ := bindE hm
        refine wS_calls (d := 25) (f := 33) (vs := [.slice A155 (x153).length cap156, .slice A163 (x161).length cap164]) (by kernel_rfl) ent33 (c_laws_eqPointS hy170 F157 F165) ?_
        rintro _ w171 ⟨rfl, hc172⟩
        replace F116 := F116.chg hc172 Dj.nil
        replace F117 := F117.chg hc172 Dj.nil
        replace F157 := F157.chg hc172 Dj.nil
        replace F165 := F165.chg hc172 Dj.nil
        replace hB := hB.inS hc172 inNil
        replace hZ := Nat.le_trans hZ hc172.size
        refine ⟨.bool (y169), rfl, ?_⟩
        refine wS_pure 1 [(26, .bool (!y169))] (by kernel_rfl) ?_
        refine wS_end (by rfl) ?_
        refine eX_then ?_
        refine cW_cond (t := !y169) (by kernel_rfl) (fun hb173 => ?_) (fun hb173 => ?_)
        · have hm := condT hb173 hm
          refine cW_seq ?_
          refine cW_region ?_
          refine wS_pure 1 [(4, .bool (false))] (by kernel_rfl) ?_
          refine wS_end (by rfl) ?_
          refine eX_then ?_
          refine cW_ret ?_
          refine eX_block_ret ?_
          refine eX_then_ret ?_
          have hq : (some (Ctl.out (Sum.inr false)) : Option (Ctl (Int) (Sum (Unit) ((Bool))))) = some _ := hm
          replace hq := someE hq
          subst hq
          refine eX_outR hx123 (fun hr => ?_)
          subst hr
          refine eX_block_ret ?_
          refine eX_then_ret ?_
          refine eX_then_ret ?_
          have hq : (some false : Option ((Bool))) = some _ := hm120
          replace hq := someE hq
          subst hq
          refine eX_ret (vs := [.bool (false)]) [.tmp 4] (by rfl) ⟨by (show lkE _ _ _ = _); kernel_rfl, trivial⟩ ?_
          exact ⟨rfl, hB⟩
        · have hm := condF hb173 hm
          refine cW_skip ?_
          refine eX_block ?_
          refine eX_then ?_
          refine cW_region ?_
          refine wS_pure 3 [(5, .int .i64 (wr (x114 + 1))), (16, .int .i64 (wr (x114 + 1))), (15, .int .i64 (x114))] (by kernel_rfl) ?_
          refine wS_end (by rfl) ?_
          have hq : (some (Ctl.next (wr (x114 + 1))) : Option (Ctl (Int) (Sum (Unit) ((Bool))))) = some _ := hm
          replace hq := someE hq
          subst hq
          exact eX_next hx123 (fun hst => ⟨wr (x114 + 1), rfl, Fr.of hst (by kernel_rfl), F116, F117, hB, hZ⟩)
      · have hm := condF hb124 hm
        refine cW_exit ?_
        refine eX_then_exit ?_
        have hq : (some (Ctl.out (Sum.inl (()))) : Option (Ctl (Int) (Sum (Unit) ((Bool))))) = some _ := hm
        replace hq := someE hq
        subst hq
        refine eX_outX hx123 (fun hr174 => ?_)
        replace hr174 := hr174.symm
        subst hr174
        refine eX_block_hit ?_
        exact eX_J (fun hst => ⟨rfl, Fr.of hst (by kernel_rfl), hB, hZ⟩)
    · rintro a' w111 ⟨hJ, hF112, hB, hZ⟩
      subst hJ
      refine Fr.goX hF112 (by kernel_rfl) ?_
      refine eX_then ?_
      refine cW_seq ?_
      refine cW_region ?_
      refine wS_pure 1 [(4, .bool (true))] (by kernel_rfl) ?_
      refine wS_end (by rfl) ?_
      refine eX_then ?_
      refine cW_ret ?_
      have hq : (some true : Option ((Bool))) = some _ := hm
      replace hq := someE hq
      subst hq
      refine eX_ret (vs := [.bool (true)]) [.tmp 4] (by rfl) ⟨by (show lkE _ _ _ = _); kernel_rfl, trivial⟩ ?_
      exact ⟨rfl, hB⟩

set_option maxRecDepth 100000 in
/-- laws.markPointSS -/
theorem c_laws_markPointSS {w0 : World} {l0 : List (List (Int × Int))} {A0 : Option Addr} {cap0 : Nat} {fp0 fr0 : List Nat} {p1 : Int} {r : (Int) × (List (List (Int × Int)))} (hm : m_laws_markPointSS l0 p1 = some r) (F0 : OwR 2 encII 32 37 w0 fp0 fr0 A0 cap0 l0) :
    Calls Try.prog 63 #[.slice A0 (l0).length cap0, .int .i64 (p1)] w0 fun e w' => e = .returned (.int .i64 (r.1)) ∧ OwR 2 encII 32 37 w' fp0 fr0 A0 cap0 r.2 ∧ (r.2).length = (l0).length ∧ Chg ((fp0 ++ fr0) ++ []) w0 w' := by
  have L0 := F0.low
  have hB : Chg ((fp0 ++ fr0) ++ []) w0 w0 := Chg.refl _ _
  have hZ := Nat.le_refl w0.heap.size
  unfold m_laws_markPointSS at hm
  refine enterE (N := 19) Try.func63 (by rfl) Try.ntmps63 (by simp) [(0, .slice A0 (l0).length cap0), (1, .int .i64 (p1))] (by rfl) (by kernel_rfl) (fun a => ?_)
  refine cW_seq ?_
  refine cW_region ?_
  refine wS_pure 1 [(4, .int .i64 (0))] (by kernel_rfl) ?_
  refine wS_end (by rfl) ?_
  refine eX_then ?_
  refine cW_seq ?_
  refine cW_seq ?_
  refine cW_region ?_
  refine wS_pure 1 [(5, .int .i64 (0))] (by kernel_rfl) ?_
  refine wS_end (by rfl) ?_
  refine eX_then ?_
  obtain ⟨r67, hr68, hm⟩ := bindE hm
  have hm69 := hm
  refine cW_cut (fun a' w' => ∃ x55 : Int, ∃ l56 : List (List (Int × Int)), (x55, l56) = r67 ∧ Fr 19 [(1, .int .i64 (x55))] a' ∧ OwR 2 encII 32 37 w' fp0 fr0 A0 cap0 l56 ∧ (l56).length = (l0).length ∧ Chg ((fp0 ++ fr0) ++ []) w0 w' ∧ w0.heap.size ≤ w'.heap.size) ?_ ?_
  · refine cW_block ?_
    refine cW_loop _ (fun (s70 : Int × Int × (List (List (Int × Int)))) a' w' => ∃ x61 : Int, ∃ x62 : Int, ∃ l63 : List (List (Int × Int)), (x61, x62, l63) = s70 ∧ Fr 19 [(0, .slice A0 (l63).length cap0), (1, .int .i64 (x61)), (5, .int .i64 (x62))] a' ∧ OwR 2 encII 32 37 w' fp0 fr0 A0 cap0 l63 ∧ (l63).length = (l0).length ∧ Chg ((fp0 ++ fr0) ++ []) w0 w' ∧ w0.heap.size ≤ w'.heap.size) hr68 (fun hst => ⟨p1, 0, l0, rfl, Fr.of hst (by kernel_rfl), F0, (Eq.refl (l0).length), hB, hZ⟩) ?_
    rintro _ c71 a' w60 ⟨x61, x62, l63, rfl, hF64, F65, hl66, hB, hZ⟩ hx72
    refine Fr.goOn hF64 (by kernel_rfl) ?_
    have hm := hx72
    unfold m_laws_markPointSS_s1 at hm
    refine cW_seq ?_
    refine cW_seq ?_
    refine cW_region ?_
    refine wS_pure 4 [(9, .bool (decide (x62 < (((l63).length : Int))))), (8, .int .i64 (((l63).length : Int))), (7, .slice A0 (l63).length cap0), (6, .int .i64 (x62))] (by kernel_rfl) ?_
    refine wS_end (by rfl) ?_
    refine eX_then ?_
    refine cW_cond (t := decide (x62 < (((l63).length : Int)))) (by kernel_rfl) (fun hb73 => ?_) (fun hb73 => ?_)
    · have hm := condT hb73 hm
      refine cW_skip ?_
      refine eX_then ?_
      refine cW_seq ?_
      refine cW_block ?_
      refine cW_region ?_
      refine wS_pure 2 [(13, .int .i64 (x62)), (12, .slice A0 (l63).length cap0)] (by kernel_rfl) ?_
      obtain ⟨x74, hx75, hm⟩ := bindE hm
      refine wS_idx (d := 14) (T := 31) (A := A0) (n := (l63).length) (cap := cap0) (kd := .i64) (m := x62) (by kernel_rfl) sl31 ((F65.slr encII_ok).is hx75) ?_
      obtain ⟨A76, cap77, fp81, hc79, hsub82, F78, hcl83⟩ := OwR.lend F65 hx75
      have Dm85 := (F65.dj).symm
      refine wS_load1 (d := 15) (T := 32) (ad := (elA A0 1 (x62) 0)) (v := .slice A76 (x74).length cap77) (by kernel_rfl) vt32 hc79 ?_
      refine wS_pure 1 [(16, .int .i64 (x61))] (by kernel_rfl) ?_
      obtain ⟨y86, hy87, hm⟩ := bindE hm
      refine wS_calls (d := 17) (f := 55) (vs := [.slice A76 (x74).length cap77, .int .i64 (x61)]) (by kernel_rfl) ent55 (c_laws_markPointS hy87 F78) ?_
      rintro _ w88 ⟨rfl, F90, hl91, hc89⟩
      have F92 := hcl83 _ _ (hc89.more (fun x hx => by simpa using hx)) F90 hl91
      have hc93 := hc89.more (S' := (fp0 ++ fr0) ++ []) (fun x hx => List.mem_append_left _ (hsub82 x (by simpa using hx)))
      have hl94 := (show (l63.set (Int.toNat x62) y86.2).length = (l63).length from List.length_set ..).trans hl66
      clear F65
      replace hB := hB.inS hc93 (inApp (inMem (fun x hx => (List.mem_append_left _ hx))) inNil)
      replace hZ := Nat.le_trans hZ hc93.size
      refine ⟨.int .i64 (y86.1), rfl, ?_⟩
      rewrite [(show (l63).length = (l63.set (Int.toNat x62) y86.2).length from (List.length_set ..).symm)]
      refine wS_pure 1 [(1, .int .i64 (y86.1))] (by kernel_rfl) ?_
      refine wS_end (by rfl) ?_
      refine eX_block ?_
      refine eX_then ?_
      refine cW_region ?_
      refine wS_pure 3 [(5, .int .i64 (wr (x62 + 1))), (11, .int .i64 (wr (x62 + 1))), (10, .int .i64 (x62))] (by kernel_rfl) ?_
      refine wS_end (by rfl) ?_
      have hq : (some (Ctl.next ((y86.1, wr (x62 + 1), l63.set (Int.toNat x62) y86.2))) : Option (Ctl (Int × Int × (List (List (Int × Int)))) (Int × (List (List (Int × Int)))))) = some _ := hm
      replace hq := someE hq
      subst hq
      exact eX_next hx72 (fun hst => ⟨y86.1, wr (x62 + 1), l63.set (Int.toNat x62) y86.2, rfl, Fr.of hst (by kernel_rfl), F92, hl94, hB, hZ⟩)
    · have hm := condF hb73 hm
      refine cW_exit ?_
      refine eX_then_exit ?_
      have hq : (some (Ctl.out ((x61, l63))) : Option (Ctl (Int × Int × (List (List (Int × Int)))) (Int × (List (List (Int × Int)))))) = some _ := hm
      replace hq := someE hq
      subst hq
      refine eX_outX hx72 (fun hr95 => ?_)
      replace hr95 := hr95.symm
      subst hr95
      refine eX_block_hit ?_
      exact eX_J (fun hst => ⟨x61, l63, rfl, Fr.of hst (by kernel_rfl), F65, hl66, hB, hZ⟩)
  · rintro a' w54 ⟨x55, l56, hJ, hF57, F58, hl59, hB, hZ⟩
    subst hJ
    refine Fr.goX hF57 (by kernel_rfl) ?_
    refine eX_then ?_
    refine cW_seq ?_
    refine cW_region ?_
    refine wS_pure 2 [(4, .int .i64 (x55)), (18, .int .i64 (x55))] (by kernel_rfl) ?_
    refine wS_end (by rfl) ?_
    refine eX_then ?_
    refine cW_ret ?_
    have hq : (some ((x55, l56)) : Option ((Int) × (List (List (Int × Int))))) = some _ := hm
    replace hq := someE hq
    subst hq
    refine eX_ret (vs := [.int .i64 (x55)]) [.tmp 4] (by rfl) ⟨by (show lkE _ _ _ = _); kernel_rfl, trivial⟩ ?_
    exact ⟨rfl, F58, (by first | exact hl59 | rfl), hB⟩

set_option maxRecDepth 100000 in
/-- laws.markWiring -/
theorem c_laws_markWiring {w0 : World} {p0_0 : Int} {l0_1 : List (List (Int))} {A0_1 : Option Addr} {cap0_1 : Nat} {fp0_1 fr0_1 : List Nat} {l0_2 : List (List (Int))} {A0_2 : Option Addr} {cap0_2 : Nat} {fp0_2 fr0_2 : List Nat} {l0_3 : List (Int)} {A0_3 : Option Addr} {cap0_3 : Nat} {fp0_3 : List Nat} {p1 : Int} {r : (Int) × (List (List (Int))) × (List (List (Int))) × (List (Int))} (hm : m_laws_markWiring p0_0 l0_1 l0_2 l0_3 p1 = some r) (F0_1 : OwR 1 encI 25 2 w0 fp0_1 fr0_1 A0_1 cap0_1 l0_1) (F0_2 : OwR 1 encI 25 2 w0 fp0_2 fr0_2 A0_2 cap0_2 l0_2) (F0_3 : Ow 1 encI 2 w0 fp0_3 A0_3 cap0_3 l0_3) (J0_1__0_2 : Dj (fp0_1 ++ fr0_1) (fp0_2 ++ fr0_2)) (J0_1__0_3 : Dj (fp0_1 ++ fr0_1) fp0_3) (J0_2__0_3 : Dj (fp0_2 ++ fr0_2) fp0_3) :
    Calls Try.prog 64 #[.agg #[.int .i64 (p0_0), .slice A0_1 (l0_1).length cap0_1, .slice A0_2 (l0_2).length cap0_2, .slice A0_3 (l0_3).length cap0_3], .int .i64 (p1)] w0 fun e w' => e = .returned (.int .i64 (r.1)) ∧ OwR 1 encI 25 2 w' fp0_1 fr0_1 A0_1 cap0_1 r.2.1 ∧ (r.2.1).length = (l0_1).length ∧ OwR 1 encI 25 2 w' fp0_2 fr0_2 A0_2 cap0_2 r.2.2.1 ∧ (r.2.2.1).length = (l0_2).length ∧ Ow 1 encI 2 w' fp0_3 A0_3 cap0_3 r.2.2.2 ∧ (r.2.2.2).length = (l0_3).length ∧ Chg ((fp0_1 ++ fr0_1) ++ ((fp0_2 ++ fr0_2) ++ (fp0_3 ++ []))) w0 w' := by
  have L0_1 := F0_1.low
  have L0_2 := F0_2.low
  have L0_3 := F0_3.low
  have hB : Chg ((fp0_1 ++ fr0_1) ++ ((fp0_2 ++ fr0_2) ++ (fp0_3 ++ []))) w0 w0 := Chg.refl _ _
  have hZ := Nat.le_refl w0.heap.size
  unfold m_laws_markWiring at hm
  refine enterE (N := 18) Try.func64 (by rfl) Try.ntmps64 (by simp) [(0, .agg #[.int .i64 (p0_0), .slice A0_1 (l0_1).length cap0_1, .slice A0_2 (l0_2).length cap0_2, .slice A0_3 (l0_3).length cap0_3]), (1, .int .i64 (p1))] (by rfl) (by kernel_rfl) (fun a => ?_)
  refine cW_seq ?_
  refine cW_region ?_
  refine wS_box (d := 2) (T := 83) (x := .agg #[.int .i64 (p0_0), .slice A0_1 (l0_1).length cap0_1, .slice A0_2 (l0_2).length cap0_2, .slice A0_3 (l0_3).length cap0_3]) (by kernel_rfl) ?_
  intro b4 w5 G6 F7 hc8
  replace F7 : Cl w5 b4 83 [.int .i64 (p0_0), .slice A0_1 (l0_1).length cap0_1, .slice A0_2 (l0_2).length cap0_2, .slice A0_3 (l0_3).length cap0_3] := F7
  replace F0_1 := F0_1.chg hc8 Dj.nil
  replace F0_2 := F0_2.chg hc8 Dj.nil
  replace F0_3 := F0_3.chg hc8 Dj.nil
  replace hB := hB.inS hc8 inNil
  replace G6 := Nat.le_trans hZ G6
  replace hZ := Nat.le_trans hZ hc8.size
  refine wS_pure 1 [(4, .int .i64 (0))] (by kernel_rfl) ?_
  refine wS_end (by rfl) ?_
  refine eX_then ?_
  refine cW_seq ?_
  refine cW_region ?_
  refine wS_pure 1 [(5, .pointer (some ⟨b4, 1, none⟩))] (by kernel_rfl) ?_
  refine wS_load1 (d := 6) (T := 40) (ad := ⟨b4, 1, none⟩) (v := .slice A0_1 (l0_1).length cap0_1) (by kernel_rfl) vt40 ((F7).cell 1) ?_
  refine wS_pure 1 [(7, .int .i64 (p1))] (by kernel_rfl) ?_
  obtain ⟨y10, hy11, hm⟩ := bindE hm
  refine wS_calls (d := 8) (f := 117) (vs := [.slice A0_1 (l0_1).length cap0_1, .int .i64 (p1)]) (by kernel_rfl) ent117 (c_laws_markInt64SS hy11 F0_1) ?_
  rintro _ w12 ⟨rfl, F14, hl15, hc13⟩
  replace F0_2 := F0_2.chg hc13 (Dj.app (J0_1__0_2).symm Dj.nil)
  replace F0_3 := F0_3.chg hc13 (Dj.app (J0_1__0_3).symm Dj.nil)
  replace F7 := F7.chg hc13 (dj1 (Dj.app (Dj.of L0_1 (low1 G6)).symm Dj.nil))
  replace hB := hB.inS hc13 (inApp (inMem (fun x hx => (List.mem_append_left _ hx))) inNil)
  replace hZ := Nat.le_trans hZ hc13.size
  clear F0_1
  have hl16 := hl15.trans (Eq.refl (l0_1).length)
  refine ⟨.int .i64 (y10.1), rfl, ?_⟩
  rewrite [(show (l0_1).length = (y10.2).length from hl15.symm)]
  try rewrite [(show (l0_1).length = (y10.2).length from hl15.symm)] at F7
  refine wS_pure 1 [(1, .int .i64 (y10.1))] (by kernel_rfl) ?_
  refine wS_end (by rfl) ?_
  refine eX_then ?_
  refine cW_seq ?_
  refine cW_region ?_
  refine wS_pure 1 [(9, .pointer (some ⟨b4, 2, none⟩))] (by kernel_rfl) ?_
  refine wS_load1 (d := 10) (T := 40) (ad := ⟨b4, 2, none⟩) (v := .slice A0_2 (l0_2).length cap0_2) (by kernel_rfl) vt40 ((F7).cell 2) ?_
  refine wS_pure 1 [(11, .int .i64 (y10.1))] (by kernel_rfl) ?_
  obtain ⟨y17, hy18, hm⟩ := bindE hm
  refine wS_calls (d := 12) (f := 117) (vs := [.slice A0_2 (l0_2).length cap0_2, .int .i64 (y10.1)]) (by kernel_rfl) ent117 (c_laws_markInt64SS hy18 F0_2) ?_
  rintro _ w19 ⟨rfl, F21, hl22, hc20⟩
  replace F14 := F14.chg hc20 (Dj.app J0_1__0_2 Dj.nil)
  replace F0_3 := F0_3.chg hc20 (Dj.app (J0_2__0_3).symm Dj.nil)
  replace F7 := F7.chg hc20 (dj1 (Dj.app (Dj.of L0_2 (low1 G6)).symm Dj.nil))
  replace hB := hB.inS hc20 (inApp (inMem (fun x hx => (List.mem_append_right _ (List.mem_append_left _ hx)))) inNil)
  replace hZ := Nat.le_trans hZ hc20.size
  clear F0_2
  have hl23 := hl22.trans (Eq.refl (l0_2).length)
  refine ⟨.int .i64 (y17.1), rfl, ?_⟩
  rewrite [(show (l0_2).length = (y17.2).length from hl22.symm)]
  try rewrite [(show (l0_2).length = (y17.2).length from hl22.symm)] at F7
  refine wS_pure 1 [(1, .int .i64 (y17.1))] (by kernel_rfl) ?_
  refine wS_end (by rfl) ?_
  refine eX_then ?_
  refine cW_seq ?_
  refine cW_region ?_
  refine wS_pure 1 [(13, .pointer (some ⟨b4, 3, none⟩))] (by kernel_rfl) ?_
  refine wS_load1 (d := 14) (T := 25) (ad := ⟨b4, 3, none⟩) (v := .slice A0_3 (l0_3).length cap0_3) (by kernel_rfl) vt25 ((F7).cell 3) ?_
  refine wS_pure 1 [(15, .int .i64 (y17.1))] (by kernel_rfl) ?_
  obtain ⟨y24, hy25, hm⟩ := bindE hm
  refine wS_calls (d := 16) (f := 129) (vs := [.slice A0_3 (l0_3).length cap0_3, .int .i64 (y17.1)]) (by kernel_rfl) ent129 (c_laws_markInt64S hy25 F0_3) ?_
  rintro _ w26 ⟨rfl, F28, hl29, hc27⟩
  replace F14 := F14.chg hc27 (Dj.app J0_1__0_3 Dj.nil)
  replace F21 := F21.chg hc27 (Dj.app J0_2__0_3 Dj.nil)
  replace F7 := F7.chg hc27 (dj1 (Dj.app (Dj.of L0_3 (low1 G6)).symm Dj.nil))
  replace hB := hB.inS hc27 (inApp (inMem (fun x hx => (List.mem_append_right _ (List.mem_append_right _ (List.mem_append_left _ hx))))) inNil)
  replace hZ := Nat.le_trans hZ hc27.size
  clear F0_3
  have hl30 := hl29.trans (Eq.refl (l0_3).length)
  refine ⟨.int .i64 (y24.1), rfl, ?_⟩
  rewrite [(show (l0_3).length = (y24.2).length from hl29.symm)]
  try rewrite [(show (l0_3).length = (y24.2).length from hl29.symm)] at F7
  refine wS_pure 1 [(1, .int .i64 (y24.1))] (by kernel_rfl) ?_
  refine wS_end (by rfl) ?_
  refine eX_then ?_
  refine cW_seq ?_
  refine cW_region ?_
  refine wS_pure 2 [(4, .int .i64 (y24.1)), (17, .int .i64 (y24.1))] (by kernel_rfl) ?_
  refine wS_end (by rfl) ?_
  refine eX_then ?_
  refine cW_ret ?_
  have hq : (some ((y24.1, y10.2, y17.2, y24.2)) : Option ((Int) × (List (List (Int))) × (List (List (Int))) × (List (Int)))) = some _ := hm
  replace hq := someE hq
  subst hq
  refine eX_ret (vs := [.int .i64 (y24.1)]) [.tmp 4] (by rfl) ⟨by (show lkE _ _ _ = _); kernel_rfl, trivial⟩ ?_
  exact ⟨rfl, F14, (by first | exact hl16 | rfl), F21, (by first | exact hl23 | rfl), F28, (by first | exact hl30 | rfl), hB⟩

set_option maxRecDepth 100000 in
/-- laws.heldInt64S -/
theorem c_laws_heldInt64S {w0 : World} {l0 : List (Int)} {A0 : Option Addr} {cap0 : Nat} {fp0 : List Nat} {p1 : Int} {r : (Int)} (hm : m_laws_heldInt64S l0 p1 = some r) (F0 : Sl 1 encI w0 fp0 A0 l0) :
    Calls Try.prog 131 #[.slice A0 (l0).length cap0, .int .i64 (p1)] w0 fun e w' => e = .returned (.int .i64 (r)) ∧ Chg [] w0 w' := by
  have L0 := F0.low
  have hB : Chg [] w0 w0 := Chg.refl _ _
  have hZ := Nat.le_refl w0.heap.size
  unfold m_laws_heldInt64S at hm
  refine enterE (N := 21) Try.func131 (by rfl) Try.ntmps131 (by simp) [(0, .slice A0 (l0).length cap0), (1, .int .i64 (p1))] (by rfl) (by kernel_rfl) (fun a => ?_)
  refine cW_seq ?_
  refine cW_region ?_
  refine wS_pure 1 [(4, .int .i64 (0))] (by kernel_rfl) ?_
  refine wS_end (by rfl) ?_
  refine eX_then ?_
  refine cW_seq ?_
  refine cW_seq ?_
  refine cW_region ?_
  refine wS_pure 1 [(5, .int .i64 (0))] (by kernel_rfl) ?_
  refine wS_end (by rfl) ?_
  refine eX_then ?_
  obtain ⟨r24, hr25, hm⟩ := bindE hm
  have hm26 := hm
  refine cW_cut (fun a' w' => ∃ x17 : Int, Sum.inl x17 = r24 ∧ Fr 21 [(1, .int .i64 (x17))] a' ∧ Chg [] w0 w' ∧ w0.heap.size ≤ w'.heap.size) ?_ ?_
  · refine cW_block ?_
    refine cW_loop _ (fun (s27 : Int × Int) a' w' => ∃ x20 : Int, ∃ x21 : Int, (x20, x21) = s27 ∧ Fr 21 [(0, .slice A0 (l0).length cap0), (1, .int .i64 (x20)), (5, .int .i64 (x21))] a' ∧ Sl 1 encI w' fp0 A0 l0 ∧ Chg [] w0 w' ∧ w0.heap.size ≤ w'.heap.size) hr25 (fun hst => ⟨p1, 0, rfl, Fr.of hst (by kernel_rfl), F0, hB, hZ⟩) ?_
    rintro _ c28 a' w19 ⟨x20, x21, rfl, hF22, F23, hB, hZ⟩ hx29
    refine Fr.goOn hF22 (by kernel_rfl) ?_
    have hm := hx29
    unfold m_laws_heldInt64S_s1 at hm
    refine cW_seq ?_
    refine cW_seq ?_
    refine cW_region ?_
    refine wS_pure 4 [(9, .bool (decide (x21 < (((l0).length : Int))))), (8, .int .i64 (((l0).length : Int))), (7, .slice A0 (l0).length cap0), (6, .int .i64 (x21))] (by kernel_rfl) ?_
    refine wS_end (by rfl) ?_
    refine eX_then ?_
    refine cW_cond (t := decide (x21 < (((l0).length : Int)))) (by kernel_rfl) (fun hb30 => ?_) (fun hb30 => ?_)
    · have hm := condT hb30 hm
      refine cW_skip ?_
      refine eX_then ?_
      refine cW_seq ?_
      refine cW_block ?_
      refine cW_seq ?_
      refine cW_seq ?_
      refine cW_region ?_
      refine wS_pure 2 [(13, .int .i64 (x21)), (12, .slice A0 (l0).length cap0)] (by kernel_rfl) ?_
      obtain ⟨x31, hx32, hm⟩ := bindE hm
      refine wS_idx (d := 14) (T := 25) (A := A0) (n := (l0).length) (cap := cap0) (kd := .i64) (m := x21) (by kernel_rfl) sl25 (F23.is hx32) ?_
      refine wS_load1 (d := 15) (T := 2) (ad := (elA A0 1 (x21) 0)) (v := .int .i64 (x31)) (by kernel_rfl) vt2 (Sl.cell F23 hx32 0 (by rfl)) ?_
      refine wS_pure 2 [(17, .bool (x31 != x20)), (16, .int .i64 (x20))] (by kernel_rfl) ?_
      refine wS_end (by rfl) ?_
      refine eX_then ?_
      refine cW_cond (t := x31 != x20) (by kernel_rfl) (fun hb33 => ?_) (fun hb33 => ?_)
      · have hm := condT hb33 hm
        refine cW_seq ?_
        refine cW_region ?_
        refine wS_pure 1 [(4, .int .i64 ((-1)))] (by kernel_rfl) ?_
        refine wS_end (by rfl) ?_
        refine eX_then ?_
        refine cW_ret ?_
        refine eX_then_ret ?_
        refine eX_block_ret ?_
        refine eX_then_ret ?_
        have hq : (some (Ctl.out (Sum.inr ((-1)))) : Option (Ctl (Int × Int) (Sum (Int) ((Int))))) = some _ := hm
        replace hq := someE hq
        subst hq
        refine eX_outR hx29 (fun hr => ?_)
        subst hr
        refine eX_block_ret ?_
        refine eX_then_ret ?_
        refine eX_then_ret ?_
        have hq : (some ((-1)) : Option ((Int))) = some _ := hm26
        replace hq := someE hq
        subst hq
        refine eX_ret (vs := [.int .i64 ((-1))]) [.tmp 4] (by rfl) ⟨by (show lkE _ _ _ = _); kernel_rfl, trivial⟩ ?_
        exact ⟨rfl, hB⟩
      · have hm := condF hb33 hm
        refine cW_skip ?_
        refine eX_then ?_
        refine cW_region ?_
        refine wS_pure 3 [(1, .int .i64 (wr (x20 + 1))), (19, .int .i64 (wr (x20 + 1))), (18, .int .i64 (x20))] (by kernel_rfl) ?_
        refine wS_end (by rfl) ?_
        refine eX_block ?_
        refine eX_then ?_
        refine cW_region ?_
        refine wS_pure 3 [(5, .int .i64 (wr (x21 + 1))), (11, .int .i64 (wr (x21 + 1))), (10, .int .i64 (x21))] (by kernel_rfl) ?_
        refine wS_end (by rfl) ?_
        have hq : (some (Ctl.next ((wr (x20 + 1), wr (x21 + 1)))) : Option (Ctl (Int × Int) (Sum (Int) ((Int))))) = some _ := hm
        replace hq := someE hq
        subst hq
        exact eX_next hx29 (fun hst => ⟨wr (x20 + 1), wr (x21 + 1), rfl, Fr.of hst (by kernel_rfl), F23, hB, hZ⟩)
    · have hm := condF hb30 hm
      refine cW_exit ?_
      refine eX_then_exit ?_
      have hq : (some (Ctl.out (Sum.inl x20)) : Option (Ctl (Int × Int) (Sum (Int) ((Int))))) = some _ := hm
      replace hq := someE hq
      subst hq
      refine eX_outX hx29 (fun hr34 => ?_)
      replace hr34 := hr34.symm
      subst hr34
      refine eX_block_hit ?_
      exact eX_J (fun hst => ⟨x20, rfl, Fr.of hst (by kernel_rfl), hB, hZ⟩)
  · rintro a' w16 ⟨x17, hJ, hF18, hB, hZ⟩
    subst hJ
    refine Fr.goX hF18 (by kernel_rfl) ?_
    refine eX_then ?_
    refine cW_seq ?_
    refine cW_region ?_
    refine wS_pure 2 [(4, .int .i64 (x17)), (20, .int .i64 (x17))] (by kernel_rfl) ?_
    refine wS_end (by rfl) ?_
    refine eX_then ?_
    refine cW_ret ?_
    have hq : (some x17 : Option ((Int))) = some _ := hm
    replace hq := someE hq
    subst hq
    refine eX_ret (vs := [.int .i64 (x17)]) [.tmp 4] (by rfl) ⟨by (show lkE _ _ _ = _); kernel_rfl, trivial⟩ ?_
    exact ⟨rfl, hB⟩

set_option maxRecDepth 100000 in
/-- laws.heldInt64SS -/
theorem c_laws_heldInt64SS {w0 : World} {l0 : List (List (Int))} {A0 : Option Addr} {cap0 : Nat} {fp0 : List Nat} {p1 : Int} {r : (Int)} (hm : m_laws_heldInt64SS l0 p1 = some r) (F0 : SlR 1 encI w0 fp0 A0 l0) :
    Calls Try.prog 130 #[.slice A0 (l0).length cap0, .int .i64 (p1)] w0 fun e w' => e = .returned (.int .i64 (r)) ∧ Chg [] w0 w' := by
  have L0 := F0.low
  have hB : Chg [] w0 w0 := Chg.refl _ _
  have hZ := Nat.le_refl w0.heap.size
  unfold m_laws_heldInt64SS at hm
  refine enterE (N := 21) Try.func130 (by rfl) Try.ntmps130 (by simp) [(0, .slice A0 (l0).length cap0), (1, .int .i64 (p1))] (by rfl) (by kernel_rfl) (fun a => ?_)
  refine cW_seq ?_
  refine cW_region ?_
  refine wS_pure 1 [(4, .int .i64 (0))] (by kernel_rfl) ?_
  refine wS_end (by rfl) ?_
  refine eX_then ?_
  refine cW_seq ?_
  refine cW_seq ?_
  refine cW_region ?_
  refine wS_pure 1 [(5, .int .i64 (0))] (by kernel_rfl) ?_
  refine wS_end (by rfl) ?_
  refine eX_then ?_
  obtain ⟨r44, hr45, hm⟩ := bindE hm
  have hm46 := hm
  refine cW_cut (fun a' w' => ∃ x37 : Int, Sum.inl x37 = r44 ∧ Fr 21 [(1, .int .i64 (x37))] a' ∧ Chg [] w0 w' ∧ w0.heap.size ≤ w'.heap.size) ?_ ?_
  · refine cW_block ?_
    refine cW_loop _ (fun (s47 : Int × Int) a' w' => ∃ x40 : Int, ∃ x41 : Int, (x40, x41) = s47 ∧ Fr 21 [(0, .slice A0 (l0).length cap0), (1, .int .i64 (x40)), (5, .int .i64 (x41))] a' ∧ SlR 1 encI w' fp0 A0 l0 ∧ Chg [] w0 w' ∧ w0.heap.size ≤ w'.heap.size) hr45 (fun hst => ⟨p1, 0, rfl, Fr.of hst (by kernel_rfl), F0, hB, hZ⟩) ?_
    rintro _ c48 a' w39 ⟨x40, x41, rfl, hF42, F43, hB, hZ⟩ hx49
    refine Fr.goOn hF42 (by kernel_rfl) ?_
    have hm := hx49
    unfold m_laws_heldInt64SS_s1 at hm
    refine cW_seq ?_
    refine cW_seq ?_
    refine cW_region ?_
    refine wS_pure 4 [(9, .bool (decide (x41 < (((l0).length : Int))))), (8, .int .i64 (((l0).length : Int))), (7, .slice A0 (l0).length cap0), (6, .int .i64 (x41))] (by kernel_rfl) ?_
    refine wS_end (by rfl) ?_
    refine eX_then ?_
    refine cW_cond (t := decide (x41 < (((l0).length : Int)))) (by kernel_rfl) (fun hb50 => ?_) (fun hb50 => ?_)
    · have hm := condT hb50 hm
      refine cW_skip ?_
      refine eX_then ?_
      refine cW_seq ?_
      refine cW_block ?_
      refine cW_seq ?_
      refine cW_region ?_
      refine wS_pure 2 [(13, .int .i64 (x41)), (12, .slice A0 (l0).length cap0)] (by kernel_rfl) ?_
      obtain ⟨x51, hx52, hm⟩ := bindE hm
      refine wS_idx (d := 14) (T := 40) (A := A0) (n := (l0).length) (cap := cap0) (kd := .i64) (m := x41) (by kernel_rfl) sl40 (F43.is hx52) ?_
      obtain ⟨A53, cap54, hc56, F55, K57⟩ := SlR.row F43 hx52
      refine wS_load1 (d := 15) (T := 25) (ad := (elA A0 1 (x41) 0)) (v := .slice A53 (x51).length cap54) (by kernel_rfl) vt25 hc56 ?_
      refine wS_pure 1 [(16, .int .i64 (x40))] (by kernel_rfl) ?_
      obtain ⟨y59, hy60, hm⟩ := bindE hm
      refine wS_calls (d := 17) (f := 131) (vs := [.slice A53 (x51).length cap54, .int .i64 (x40)]) (by kernel_rfl) ent131 (c_laws_heldInt64S hy60 F55) ?_
      rintro _ w61 ⟨rfl, hc62⟩
      replace F43 := F43.chg hc62 Dj.nil
      replace F55 := F55.chg hc62 Dj.nil
      replace hB := hB.inS hc62 inNil
      replace hZ := Nat.le_trans hZ hc62.size
      refine ⟨.int .i64 (y59), rfl, ?_⟩
      refine wS_pure 1 [(1, .int .i64 (y59))] (by kernel_rfl) ?_
      refine wS_end (by rfl) ?_
      refine eX_then ?_
      refine cW_seq ?_
      refine cW_region ?_
      refine wS_pure 2 [(19, .bool (decide (y59 < 0))), (18, .int .i64 (y59))] (by kernel_rfl) ?_
      refine wS_end (by rfl) ?_
      refine eX_then ?_
      refine cW_cond (t := decide (y59 < 0)) (by kernel_rfl) (fun hb63 => ?_) (fun hb63 => ?_)
      · have hm := condT hb63 hm
        refine cW_seq ?_
        refine cW_region ?_
        refine wS_pure 1 [(4, .int .i64 ((-1)))] (by kernel_rfl) ?_
        refine wS_end (by rfl) ?_
        refine eX_then ?_
        refine cW_ret ?_
        refine eX_block_ret ?_
        refine eX_then_ret ?_
        have hq : (some (Ctl.out (Sum.inr ((-1)))) : Option (Ctl (Int × Int) (Sum (Int) ((Int))))) = some _ := hm
        replace hq := someE hq
        subst hq
        refine eX_outR hx49 (fun hr => ?_)
        subst hr
        refine eX_block_ret ?_
        refine eX_then_ret ?_
        refine eX_then_ret ?_
        have hq : (some ((-1)) : Option ((Int))) = some _ := hm46
        replace hq := someE hq
        subst hq
        refine eX_ret (vs := [.int .i64 ((-1))]) [.tmp 4] (by rfl) ⟨by (show lkE _ _ _ = _); kernel_rfl, trivial⟩ ?_
        exact ⟨rfl, hB⟩
      · have hm := condF hb63 hm
        refine cW_skip ?_
        refine eX_block ?_
        refine eX_then ?_
        refine cW_region ?_
        refine wS_pure 3 [(5, .int .i64 (wr (x41 + 1))), (11, .int .i64 (wr (x41 + 1))), (10, .int .i64 (x41))] (by kernel_rfl) ?_
        refine wS_end (by rfl) ?_
        have hq : (some (Ctl.next ((y59, wr (x41 + 1)))) : Option (Ctl (Int × Int) (Sum (Int) ((Int))))) = some _ := hm
        replace hq := someE hq
        subst hq
        exact eX_next hx49 (fun hst => ⟨y59, wr (x41 + 1), rfl, Fr.of hst (by kernel_rfl), F43, hB, hZ⟩)
    · have hm := condF hb50 hm
      refine cW_exit ?_
      refine eX_then_exit ?_
      have hq : (some (Ctl.out (Sum.inl x40)) : Option (Ctl (Int × Int) (Sum (Int) ((Int))))) = some _ := hm
      replace hq := someE hq
      subst hq
      refine eX_outX hx49 (fun hr64 => ?_)
      replace hr64 := hr64.symm
      subst hr64
      refine eX_block_hit ?_
      exact eX_J (fun hst => ⟨x40, rfl, Fr.of hst (by kernel_rfl), hB, hZ⟩)
  · rintro a' w36 ⟨x37, hJ, hF38, hB, hZ⟩
    subst hJ
    refine Fr.goX hF38 (by kernel_rfl) ?_
    refine eX_then ?_
    refine cW_seq ?_
    refine cW_region ?_
    refine wS_pure 2 [(4, .int .i64 (x37)), (20, .int .i64 (x37))] (by kernel_rfl) ?_
    refine wS_end (by rfl) ?_
    refine eX_then ?_
    refine cW_ret ?_
    have hq : (some x37 : Option ((Int))) = some _ := hm
    replace hq := someE hq
    subst hq
    refine eX_ret (vs := [.int .i64 (x37)]) [.tmp 4] (by rfl) ⟨by (show lkE _ _ _ = _); kernel_rfl, trivial⟩ ?_
    exact ⟨rfl, hB⟩

set_option maxRecDepth 100000 in
/-- laws.heldWiring -/
theorem c_laws_heldWiring {w0 : World} {p0_0 : Int} {l0_1 : List (List (Int))} {A0_1 : Option Addr} {cap0_1 : Nat} {fp0_1 : List Nat} {l0_2 : List (List (Int))} {A0_2 : Option Addr} {cap0_2 : Nat} {fp0_2 : List Nat} {l0_3 : List (Int)} {A0_3 : Option Addr} {cap0_3 : Nat} {fp0_3 : List Nat} {p1 : Int} {r : (Int)} (hm : m_laws_heldWiring p0_0 l0_1 l0_2 l0_3 p1 = some r) (F0_1 : SlR 1 encI w0 fp0_1 A0_1 l0_1) (F0_2 : SlR 1 encI w0 fp0_2 A0_2 l0_2) (F0_3 : Sl 1 encI w0 fp0_3 A0_3 l0_3) :
    Calls Try.prog 65 #[.agg #[.int .i64 (p0_0), .slice A0_1 (l0_1).length cap0_1, .slice A0_2 (l0_2).length cap0_2, .slice A0_3 (l0_3).length cap0_3], .int .i64 (p1)] w0 fun e w' => e = .returned (.int .i64 (r)) ∧ Chg [] w0 w' := by
  have L0_1 := F0_1.low
  have L0_2 := F0_2.low
  have L0_3 := F0_3.low
  have hB : Chg [] w0 w0 := Chg.refl _ _
  have hZ := Nat.le_refl w0.heap.size
  unfold m_laws_heldWiring at hm
  refine enterE (N := 24) Try.func65 (by rfl) Try.ntmps65 (by simp) [(0, .agg #[.int .i64 (p0_0), .slice A0_1 (l0_1).length cap0_1, .slice A0_2 (l0_2).length cap0_2, .slice A0_3 (l0_3).length cap0_3]), (1, .int .i64 (p1))] (by rfl) (by kernel_rfl) (fun a => ?_)
  refine cW_seq ?_
  refine cW_region ?_
  refine wS_box (d := 2) (T := 83) (x := .agg #[.int .i64 (p0_0), .slice A0_1 (l0_1).length cap0_1, .slice A0_2 (l0_2).length cap0_2, .slice A0_3 (l0_3).length cap0_3]) (by kernel_rfl) ?_
  intro b4 w5 G6 F7 hc8
  replace F7 : Cl w5 b4 83 [.int .i64 (p0_0), .slice A0_1 (l0_1).length cap0_1, .slice A0_2 (l0_2).length cap0_2, .slice A0_3 (l0_3).length cap0_3] := F7
  replace F0_1 := F0_1.chg hc8 Dj.nil
  replace F0_2 := F0_2.chg hc8 Dj.nil
  replace F0_3 := F0_3.chg hc8 Dj.nil
  replace hB := hB.inS hc8 inNil
  replace G6 := Nat.le_trans hZ G6
  replace hZ := Nat.le_trans hZ hc8.size
  refine wS_pure 1 [(4, .int .i64 (0))] (by kernel_rfl) ?_
  refine wS_end (by rfl) ?_
  refine eX_then ?_
  refine cW_seq ?_
  refine cW_region ?_
  refine wS_pure 1 [(5, .pointer (some ⟨b4, 1, none⟩))] (by kernel_rfl) ?_
  refine wS_load1 (d := 6) (T := 40) (ad := ⟨b4, 1, none⟩) (v := .slice A0_1 (l0_1).length cap0_1) (by kernel_rfl) vt40 ((F7).cell 1) ?_
  refine wS_pure 1 [(7, .int .i64 (p1))] (by kernel_rfl) ?_
  obtain ⟨y10, hy11, hm⟩ := bindE hm
  refine wS_calls (d := 8) (f := 130) (vs := [.slice A0_1 (l0_1).length cap0_1, .int .i64 (p1)]) (by kernel_rfl) ent130 (c_laws_heldInt64SS hy11 F0_1) ?_
  rintro _ w12 ⟨rfl, hc13⟩
  replace F0_1 := F0_1.chg hc13 Dj.nil
  replace F0_2 := F0_2.chg hc13 Dj.nil
  replace F0_3 := F0_3.chg hc13 Dj.nil
  replace F7 := F7.chg hc13 notNil
  replace hB := hB.inS hc13 inNil
  replace hZ := Nat.le_trans hZ hc13.size
  refine ⟨.int .i64 (y10), rfl, ?_⟩
  refine wS_pure 1 [(1, .int .i64 (y10))] (by kernel_rfl) ?_
  refine wS_end (by rfl) ?_
  refine eX_then ?_
  refine cW_seq ?_
  refine cW_seq ?_
  refine cW_region ?_
  refine wS_pure 2 [(10, .bool (decide (y10 < 0))), (9, .int .i64 (y10))] (by kernel_rfl) ?_
  refine wS_end (by rfl) ?_
  refine eX_then ?_
  refine cW_cond (t := decide (y10 < 0)) (by kernel_rfl) (fun hb14 => ?_) (fun hb14 => ?_)
  · have hm := condT hb14 hm
    refine cW_seq ?_
    refine cW_region ?_
    refine wS_pure 1 [(4, .int .i64 ((-1)))] (by kernel_rfl) ?_
    refine wS_end (by rfl) ?_
    refine eX_then ?_
    refine cW_ret ?_
    refine eX_then_ret ?_
    have hq : (some ((-1)) : Option ((Int))) = some _ := hm
    replace hq := someE hq
    subst hq
    refine eX_ret (vs := [.int .i64 ((-1))]) [.tmp 4] (by rfl) ⟨by (show lkE _ _ _ = _); kernel_rfl, trivial⟩ ?_
    exact ⟨rfl, hB⟩
  · have hm := condF hb14 hm
    refine cW_skip ?_
    refine eX_then ?_
    refine cW_seq ?_
    refine cW_region ?_
    refine wS_pure 1 [(11, .pointer (some ⟨b4, 2, none⟩))] (by kernel_rfl) ?_
    refine wS_load1 (d := 12) (T := 40) (ad := ⟨b4, 2, none⟩) (v := .slice A0_2 (l0_2).length cap0_2) (by kernel_rfl) vt40 ((F7).cell 2) ?_
    refine wS_pure 1 [(13, .int .i64 (y10))] (by kernel_rfl) ?_
    obtain ⟨y15, hy16, hm⟩ := bindE hm
    refine wS_calls (d := 14) (f := 130) (vs := [.slice A0_2 (l0_2).length cap0_2, .int .i64 (y10)]) (by kernel_rfl) ent130 (c_laws_heldInt64SS hy16 F0_2) ?_
    rintro _ w17 ⟨rfl, hc18⟩
    replace F0_1 := F0_1.chg hc18 Dj.nil
    replace F0_2 := F0_2.chg hc18 Dj.nil
    replace F0_3 := F0_3.chg hc18 Dj.nil
    replace F7 := F7.chg hc18 notNil
    replace hB := hB.inS hc18 inNil
    replace hZ := Nat.le_trans hZ hc18.size
    refine ⟨.int .i64 (y15), rfl, ?_⟩
    refine wS_pure 1 [(1, .int .i64 (y15))] (by kernel_rfl) ?_
    refine wS_end (by rfl) ?_
    refine eX_then ?_
    refine cW_seq ?_
    refine cW_seq ?_
    refine cW_region ?_
    refine wS_pure 2 [(16, .bool (decide (y15 < 0))), (15, .int .i64 (y15))] (by kernel_rfl) ?_
    refine wS_end (by rfl) ?_
    refine eX_then ?_
    refine cW_cond (t := decide (y15 < 0)) (by kernel_rfl) (fun hb19 => ?_) (fun hb19 => ?_)
    · have hm := condT hb19 hm
      refine cW_seq ?_
      refine cW_region ?_
      refine wS_pure 1 [(4, .int .i64 ((-1)))] (by kernel_rfl) ?_
      refine wS_end (by rfl) ?_
      refine eX_then ?_
      refine cW_ret ?_
      refine eX_then_ret ?_
      have hq : (some ((-1)) : Option ((Int))) = some _ := hm
      replace hq := someE hq
      subst hq
      refine eX_ret (vs := [.int .i64 ((-1))]) [.tmp 4] (by rfl) ⟨by (show lkE _ _ _ = _); kernel_rfl, trivial⟩ ?_
      exact ⟨rfl, hB⟩
    · have hm := condF hb19 hm
      refine cW_skip ?_
      refine eX_then ?_
      refine cW_seq ?_
      refine cW_region ?_
      refine wS_pure 1 [(17, .pointer (some ⟨b4, 3, none⟩))] (by kernel_rfl) ?_
      refine wS_load1 (d := 18) (T := 25) (ad := ⟨b4, 3, none⟩) (v := .slice A0_3 (l0_3).length cap0_3) (by kernel_rfl) vt25 ((F7).cell 3) ?_
      refine wS_pure 1 [(19, .int .i64 (y15))] (by kernel_rfl) ?_
      obtain ⟨y20, hy21, hm⟩ := bindE hm
      refine wS_calls (d := 20) (f := 131) (vs := [.slice A0_3 (l0_3).length cap0_3, .int .i64 (y15)]) (by kernel_rfl) ent131 (c_laws_heldInt64S hy21 F0_3) ?_
      rintro _ w22 ⟨rfl, hc23⟩
      replace F0_1 := F0_1.chg hc23 Dj.nil
      replace F0_2 := F0_2.chg hc23 Dj.nil
      replace F0_3 := F0_3.chg hc23 Dj.nil
      replace F7 := F7.chg hc23 notNil
      replace hB := hB.inS hc23 inNil
      replace hZ := Nat.le_trans hZ hc23.size
      refine ⟨.int .i64 (y20), rfl, ?_⟩
      refine wS_pure 1 [(1, .int .i64 (y20))] (by kernel_rfl) ?_
      refine wS_end (by rfl) ?_
      refine eX_then ?_
      refine cW_seq ?_
      refine cW_seq ?_
      refine cW_region ?_
      refine wS_pure 2 [(22, .bool (decide (y20 < 0))), (21, .int .i64 (y20))] (by kernel_rfl) ?_
      refine wS_end (by rfl) ?_
      refine eX_then ?_
      refine cW_cond (t := decide (y20 < 0)) (by kernel_rfl) (fun hb24 => ?_) (fun hb24 => ?_)
      · have hm := condT hb24 hm
        refine cW_seq ?_
        refine cW_region ?_
        refine wS_pure 1 [(4, .int .i64 ((-1)))] (by kernel_rfl) ?_
        refine wS_end (by rfl) ?_
        refine eX_then ?_
        refine cW_ret ?_
        refine eX_then_ret ?_
        have hq : (some ((-1)) : Option ((Int))) = some _ := hm
        replace hq := someE hq
        subst hq
        refine eX_ret (vs := [.int .i64 ((-1))]) [.tmp 4] (by rfl) ⟨by (show lkE _ _ _ = _); kernel_rfl, trivial⟩ ?_
        exact ⟨rfl, hB⟩
      · have hm := condF hb24 hm
        refine cW_skip ?_
        refine eX_then ?_
        refine cW_seq ?_
        refine cW_region ?_
        refine wS_pure 2 [(4, .int .i64 (y20)), (23, .int .i64 (y20))] (by kernel_rfl) ?_
        refine wS_end (by rfl) ?_
        refine eX_then ?_
        refine cW_ret ?_
        have hq : (some y20 : Option ((Int))) = some _ := hm
        replace hq := someE hq
        subst hq
        refine eX_ret (vs := [.int .i64 (y20)]) [.tmp 4] (by rfl) ⟨by (show lkE _ _ _ = _); kernel_rfl, trivial⟩ ?_
        exact ⟨rfl, hB⟩

set_option maxRecDepth 100000 in
/-- laws.FnExactWiringOf -/
theorem c_laws_FnExactWiringOf {w0 : World} {l0 : List (List (Int × Int))} {A0 : Option Addr} {cap0 : Nat} {fp0 : List Nat} {r : (Bool)} (hm : m_laws_FnExactWiringOf l0 = some r) (F0 : SlR 2 encII w0 fp0 A0 l0) :
    Calls Try.prog 10 #[.slice A0 (l0).length cap0] w0 fun e w' => e = .returned (.bool (r)) ∧ Chg [] w0 w' := by
  have L0 := F0.low
  have hB : Chg [] w0 w0 := Chg.refl _ _
  have hZ := Nat.le_refl w0.heap.size
  unfold m_laws_FnExactWiringOf at hm
  refine enterE (N := 96) Try.func10 (by rfl) Try.ntmps10 (by simp) [(0, .slice A0 (l0).length cap0)] (by rfl) (by kernel_rfl) (fun a => ?_)
  refine cW_seq ?_
  refine cW_region ?_
  refine wS_pure 1 [(2, .bool (false))] (by kernel_rfl) ?_
  refine wS_end (by rfl) ?_
  refine eX_then ?_
  refine cW_seq ?_
  refine cW_region ?_
  refine wS_pure 1 [(3, .int .i64 (1048576))] (by kernel_rfl) ?_
  refine wS_end (by rfl) ?_
  refine eX_then ?_
  refine cW_seq ?_
  refine cW_region ?_
  refine wS_pure 2 [(15, .int .i64 (1048576)), (14, .slice A0 (l0).length cap0)] (by kernel_rfl) ?_
  obtain ⟨y2, hy3, hm⟩ := bindE hm
  refine wS_calls (d := 16) (f := 57) (vs := [.slice A0 (l0).length cap0, .int .i64 (1048576)]) (by kernel_rfl) ent57 (c_laws_szPointSS hy3 F0) ?_
  rintro _ w4 ⟨rfl, hc5⟩
  replace F0 := F0.chg hc5 Dj.nil
  replace hB := hB.inS hc5 inNil
  replace hZ := Nat.le_trans hZ hc5.size
  refine ⟨.int .i64 (y2), rfl, ?_⟩
  refine wS_pure 1 [(3, .int .i64 (y2))] (by kernel_rfl) ?_
  refine wS_end (by rfl) ?_
  refine eX_then ?_
  refine cW_seq ?_
  refine cW_seq ?_
  refine cW_region ?_
  refine wS_pure 2 [(18, .bool (decide (y2 < 0))), (17, .int .i64 (y2))] (by kernel_rfl) ?_
  refine wS_end (by rfl) ?_
  refine eX_then ?_
  refine cW_cond (t := decide (y2 < 0)) (by kernel_rfl) (fun hb6 => ?_) (fun hb6 => ?_)
  · have hm := condT hb6 hm
    refine cW_seq ?_
    refine cW_region ?_
    refine wS_pure 1 [(2, .bool (true))] (by kernel_rfl) ?_
    refine wS_end (by rfl) ?_
    refine eX_then ?_
    refine cW_ret ?_
    refine eX_then_ret ?_
    have hq : (some true : Option ((Bool))) = some _ := hm
    replace hq := someE hq
    subst hq
    refine eX_ret (vs := [.bool (true)]) [.tmp 2] (by rfl) ⟨by (show lkE _ _ _ = _); kernel_rfl, trivial⟩ ?_
    exact ⟨rfl, hB⟩
  · have hm := condF hb6 hm
    refine cW_skip ?_
    refine eX_then ?_
    refine cW_seq ?_
    refine cW_region ?_
    refine wS_pure 1 [(20, .slice A0 (l0).length cap0)] (by kernel_rfl) ?_
    obtain ⟨y7, hy8, hm⟩ := bindE hm
    refine wS_calls (d := 21) (f := 59) (vs := [.slice A0 (l0).length cap0]) (by kernel_rfl) ent59 (c_laws_toPointSS hy8 F0) ?_
    rintro _ w9 ⟨A11, cap12, fp13, fr16, rfl, F14, G15, hc10⟩
    replace F0 := F0.chg hc10 Dj.nil
    replace hB := hB.inS hc10 inNil
    replace G15 := low_le hZ G15
    replace hZ := Nat.le_trans hZ hc10.size
    refine ⟨.slice A11 (y7).length cap12, rfl, ?_⟩
    obtain ⟨y18, hy19, hm⟩ := bindE hm
    refine wS_calls (d := 22) (f := 58) (vs := [.slice A11 (y7).length cap12]) (by kernel_rfl) ent58 (c_spec_WiringOf hy19 (F14.slr encII_ok)) ?_
    rintro _ w20 ⟨A22, cap23, fp24, fr27, A28, cap29, fp30, fr33, A34, cap35, fp36, rfl, F25, G26, F31, G32, F37, G38, D40, D41, D42, hc21⟩
    have D44 : Dj (fp13 ++ fr16) (fp24 ++ fr27) := Dj.of F14.low G26
    have D46 : Dj (fp13 ++ fr16) (fp30 ++ fr33) := Dj.of F14.low G32
    have D48 : Dj (fp13 ++ fr16) fp36 := Dj.of F14.low G38
    replace F0 := F0.chg hc21 Dj.nil
    replace F14 := F14.chg hc21 Dj.nil
    replace hB := hB.inS hc21 inNil
    replace G26 := low_le hZ G26
    replace G32 := low_le hZ G32
    replace G38 := low_le hZ G38
    replace hZ := Nat.le_trans hZ hc21.size
    refine ⟨.tuple #[.agg #[.int .i64 (y18.1.1), .slice A22 (y18.1.2.1).length cap23, .slice A28 (y18.1.2.2.1).length cap29, .slice A34 (y18.1.2.2.2).length cap35], .bool (y18.2)], rfl, ?_⟩
    refine wS_pure 3 [(24, .bool (y18.2)), (23, .agg #[.int .i64 (y18.1.1), .slice A22 (y18.1.2.1).length cap23, .slice A28 (y18.1.2.2.1).length cap29, .slice A34 (y18.1.2.2.2).length cap35]), (19, .tuple #[.agg #[.int .i64 (y18.1.1), .slice A22 (y18.1.2.1).length cap23, .slice A28 (y18.1.2.2.1).length cap29, .slice A34 (y18.1.2.2.2).length cap35], .bool (y18.2)])] (by kernel_rfl) ?_
    refine wS_alloc (d := 4) (T := 83) (z := .agg #[.int .i64 (0), .slice none 0 0, .slice none 0 0, .slice none 0 0]) (by kernel_rfl) (by kernel_rfl) ?_
    intro b49 w50 G51 F52 hc53
    replace F52 : Cl w50 b49 83 [.int .i64 (0), .slice none 0 0, .slice none 0 0, .slice none 0 0] := F52
    have D55 : Dj (fp13 ++ fr16) [b49] := Dj.of F14.low (low1 G51)
    have D56 : Dj (fp24 ++ fr27) [b49] := Dj.of F25.low (low1 G51)
    have D57 : Dj (fp30 ++ fr33) [b49] := Dj.of F31.low (low1 G51)
    have D58 : Dj fp36 [b49] := Dj.of F37.low (low1 G51)
    replace F0 := F0.chg hc53 Dj.nil
    replace F14 := F14.chg hc53 Dj.nil
    replace F25 := F25.chg hc53 Dj.nil
    replace F31 := F31.chg hc53 Dj.nil
    replace F37 := F37.chg hc53 Dj.nil
    replace hB := hB.inS hc53 inNil
    replace G51 := Nat.le_trans hZ G51
    replace hZ := Nat.le_trans hZ hc53.size
    refine wS_store (T := 83) (g := b49) (o := 0) (ad := ⟨b49, 0, none⟩) (v := .agg #[.int .i64 (y18.1.1), .slice A22 (y18.1.2.1).length cap23, .slice A28 (y18.1.2.2.1).length cap29, .slice A34 (y18.1.2.2.2).length cap35]) (vs := [.int .i64 (y18.1.1), .slice A22 (y18.1.2.1).length cap23, .slice A28 (y18.1.2.2.1).length cap29, .slice A34 (y18.1.2.2.2).length cap35]) (by kernel_rfl) (by rfl) sz83 (by rfl) (by rfl) F52 (by simp only [List.length_cons, List.length_nil]; omega) ?_
    intro w59 F60 hc61
    replace F0 := F0.chg hc61 (Dj.of L0 (low1 G51))
    replace F14 := F14.chg hc61 D55
    replace F25 := F25.chg hc61 D56
    replace F31 := F31.chg hc61 D57
    replace F37 := F37.chg hc61 D58
    replace hB := hB.inS hc61 (inLow (low1 G51))
    replace hZ := Nat.le_trans hZ hc61.size
    replace F60 : Cl w59 b49 83 [.int .i64 (y18.1.1), .slice A22 (y18.1.2.1).length cap23, .slice A28 (y18.1.2.2.1).length cap29, .slice A34 (y18.1.2.2.2).length cap35] := F60
    clear F52
    refine wS_pure 1 [(5, .bool (y18.2))] (by kernel_rfl) ?_
    refine wS_end (by rfl) ?_
    refine eX_then ?_
    refine cW_seq ?_
    refine cW_region ?_
    refine wS_pure 1 [(25, .slice A0 (l0).length cap0)] (by kernel_rfl) ?_
    obtain ⟨y62, hy63, hm⟩ := bindE hm
    refine wS_calls (d := 26) (f := 59) (vs := [.slice A0 (l0).length cap0]) (by kernel_rfl) ent59 (c_laws_toPointSS hy63 F0) ?_
    rintro _ w64 ⟨A66, cap67, fp68, fr71, rfl, F69, G70, hc65⟩
    have D73 : Dj (fp13 ++ fr16) (fp68 ++ fr71) := Dj.of F14.low G70
    have D74 : Dj (fp24 ++ fr27) (fp68 ++ fr71) := Dj.of F25.low G70
    have D75 : Dj (fp30 ++ fr33) (fp68 ++ fr71) := Dj.of F31.low G70
    have D76 : Dj fp36 (fp68 ++ fr71) := Dj.of F37.low G70
    have D77 : Dj [b49] (fp68 ++ fr71) := Dj.of (lt1 F60.lt) G70
    replace F0 := F0.chg hc65 Dj.nil
    replace F14 := F14.chg hc65 Dj.nil
    replace F25 := F25.chg hc65 Dj.nil
    replace F31 := F31.chg hc65 Dj.nil
    replace F37 := F37.chg hc65 Dj.nil
    replace F60 := F60.chg hc65 notNil
    replace hB := hB.inS hc65 inNil
    replace G70 := low_le hZ G70
    replace hZ := Nat.le_trans hZ hc65.size
    refine ⟨.slice A66 (y62).length cap67, rfl, ?_⟩
    refine wS_pure 1 [(6, .slice A66 (y62).length cap67)] (by kernel_rfl) ?_
    refine wS_end (by rfl) ?_
    refine eX_then ?_
    refine cW_seq ?_
    refine cW_region ?_
    refine wS_pure 1 [(28, .slice A66 (y62).length cap67)] (by kernel_rfl) ?_
    obtain ⟨y78, hy79, hm⟩ := bindE hm
    refine wS_calls (d := 29) (f := 60) (vs := [.slice A66 (y62).length cap67]) (by kernel_rfl) ent60 (c_impl_WiringOf hy79 (F69.slr encII_ok)) ?_
    rintro _ w80 ⟨A82, cap83, fp84, fr87, A88, cap89, fp90, fr93, A94, cap95, fp96, rfl, F85, G86, F91, G92, F97, G98, D100, D101, D102, hc81⟩
    have D104 : Dj (fp13 ++ fr16) (fp84 ++ fr87) := Dj.of F14.low G86
    have D105 : Dj (fp24 ++ fr27) (fp84 ++ fr87) := Dj.of F25.low G86
    have D106 : Dj (fp30 ++ fr33) (fp84 ++ fr87) := Dj.of F31.low G86
    have D107 : Dj fp36 (fp84 ++ fr87) := Dj.of F37.low G86
    have D108 : Dj [b49] (fp84 ++ fr87) := Dj.of (lt1 F60.lt) G86
    have D109 : Dj (fp68 ++ fr71) (fp84 ++ fr87) := Dj.of F69.low G86
    have D111 : Dj (fp13 ++ fr16) (fp90 ++ fr93) := Dj.of F14.low G92
    have D112 : Dj (fp24 ++ fr27) (fp90 ++ fr93) := Dj.of F25.low G92
    have D113 : Dj (fp30 ++ fr33) (fp90 ++ fr93) := Dj.of F31.low G92
    have D114 : Dj fp36 (fp90 ++ fr93) := Dj.of F37.low G92
    have D115 : Dj [b49] (fp90 ++ fr93) := Dj.of (lt1 F60.lt) G92
    have D116 : Dj (fp68 ++ fr71) (fp90 ++ fr93) := Dj.of F69.low G92
    have D118 : Dj (fp13 ++ fr16) fp96 := Dj.of F14.low G98
    have D119 : Dj (fp24 ++ fr27) fp96 := Dj.of F25.low G98
    have D120 : Dj (fp30 ++ fr33) fp96 := Dj.of F31.low G98
    have D121 : Dj fp36 fp96 := Dj.of F37.low G98
    have D122 : Dj [b49] fp96 := Dj.of (lt1 F60.lt) G98
    have D123 : Dj (fp68 ++ fr71) fp96 := Dj.of F69.low G98
    replace F0 := F0.chg hc81 Dj.nil
    replace F14 := F14.chg hc81 Dj.nil
    replace F25 := F25.chg hc81 Dj.nil
    replace F31 := F31.chg hc81 Dj.nil
    replace F37 := F37.chg hc81 Dj.nil
    replace F60 := F60.chg hc81 notNil
    replace F69 := F69.chg hc81 Dj.nil
    replace hB := hB.inS hc81 inNil
    replace G86 := low_le hZ G86
    replace G92 := low_le hZ G92
    replace G98 := low_le hZ G98
    replace hZ := Nat.le_trans hZ hc81.size
    refine ⟨.tuple #[.agg #[.int .i64 (y78.1.1), .slice A82 (y78.1.2.1).length cap83, .slice A88 (y78.1.2.2.1).length cap89, .slice A94 (y78.1.2.2.2).length cap95], .bool (y78.2)], rfl, ?_⟩
    refine wS_pure 3 [(31, .bool (y78.2)), (30, .agg #[.int .i64 (y78.1.1), .slice A82 (y78.1.2.1).length cap83, .slice A88 (y78.1.2.2.1).length cap89, .slice A94 (y78.1.2.2.2).length cap95]), (27, .tuple #[.agg #[.int .i64 (y78.1.1), .slice A82 (y78.1.2.1).length cap83, .slice A88 (y78.1.2.2.1).length cap89, .slice A94 (y78.1.2.2.2).length cap95], .bool (y78.2)])] (by kernel_rfl) ?_
    refine wS_alloc (d := 7) (T := 83) (z := .agg #[.int .i64 (0), .slice none 0 0, .slice none 0 0, .slice none 0 0]) (by kernel_rfl) (by kernel_rfl) ?_
    intro b124 w125 G126 F127 hc128
    replace F127 : Cl w125 b124 83 [.int .i64 (0), .slice none 0 0, .slice none 0 0, .slice none 0 0] := F127
    have D130 : Dj (fp13 ++ fr16) [b124] := Dj.of F14.low (low1 G126)
    have D131 : Dj (fp24 ++ fr27) [b124] := Dj.of F25.low (low1 G126)
    have D132 : Dj (fp30 ++ fr33) [b124] := Dj.of F31.low (low1 G126)
    have D133 : Dj fp36 [b124] := Dj.of F37.low (low1 G126)
    have D134 : Dj [b49] [b124] := Dj.of (lt1 F60.lt) (low1 G126)
    have D135 : Dj (fp68 ++ fr71) [b124] := Dj.of F69.low (low1 G126)
    have D136 : Dj (fp84 ++ fr87) [b124] := Dj.of F85.low (low1 G126)
    have D137 : Dj (fp90 ++ fr93) [b124] := Dj.of F91.low (low1 G126)
    have D138 : Dj fp96 [b124] := Dj.of F97.low (low1 G126)
    replace F0 := F0.chg hc128 Dj.nil
    replace F14 := F14.chg hc128 Dj.nil
    replace F25 := F25.chg hc128 Dj.nil
    replace F31 := F31.chg hc128 Dj.nil
    replace F37 := F37.chg hc128 Dj.nil
    replace F60 := F60.chg hc128 notNil
    replace F69 := F69.chg hc128 Dj.nil
    replace F85 := F85.chg hc128 Dj.nil
    replace F91 := F91.chg hc128 Dj.nil
    replace F97 := F97.chg hc128 Dj.nil
    replace hB := hB.inS hc128 inNil
    replace G126 := Nat.le_trans hZ G126
    replace hZ := Nat.le_trans hZ hc128.size
    refine wS_store (T := 83) (g := b124) (o := 0) (ad := ⟨b124, 0, none⟩) (v := .agg #[.int .i64 (y78.1.1), .slice A82 (y78.1.2.1).length cap83, .slice A88 (y78.1.2.2.1).length cap89, .slice A94 (y78.1.2.2.2).length cap95]) (vs := [.int .i64 (y78.1.1), .slice A82 (y78.1.2.1).length cap83, .slice A88 (y78.1.2.2.1).length cap89, .slice A94 (y78.1.2.2.2).length cap95]) (by kernel_rfl) (by rfl) sz83 (by rfl) (by rfl) F127 (by simp only [List.length_cons, List.length_nil]; omega) ?_
    intro w139 F140 hc141
    replace F0 := F0.chg hc141 (Dj.of L0 (low1 G126))
    replace F14 := F14.chg hc141 D130
    replace F25 := F25.chg hc141 D131
    replace F31 := F31.chg hc141 D132
    replace F37 := F37.chg hc141 D133
    replace F60 := F60.chg hc141 (dj1 D134)
    replace F69 := F69.chg hc141 D135
    replace F85 := F85.chg hc141 D136
    replace F91 := F91.chg hc141 D137
    replace F97 := F97.chg hc141 D138
    replace hB := hB.inS hc141 (inLow (low1 G126))
    replace hZ := Nat.le_trans hZ hc141.size
    replace F140 : Cl w139 b124 83 [.int .i64 (y78.1.1), .slice A82 (y78.1.2.1).length cap83, .slice A88 (y78.1.2.2.1).length cap89, .slice A94 (y78.1.2.2.2).length cap95] := F140
    clear F127
    refine wS_pure 1 [(8, .bool (y78.2))] (by kernel_rfl) ?_
    refine wS_end (by rfl) ?_
    refine eX_then ?_
    refine cW_prune [(0, .slice A0 (l0).length cap0), (4, .pointer (some ⟨b49, 0, none⟩)), (5, .bool (y18.2)), (6, .slice A66 (y62).length cap67), (7, .pointer (some ⟨b124, 0, none⟩)), (8, .bool (y78.2))] (by kernel_rfl) (by kernel_rfl) (fun a142 => ?_)
    refine cW_seq ?_
    refine cW_seq ?_
    refine cW_region ?_
    refine wS_loadA (d := 32) (T := 83) (ad := ⟨b124, 0, none⟩) (vs := [.int .i64 (y78.1.1), .slice A82 (y78.1.2.1).length cap83, .slice A88 (y78.1.2.2.1).length cap89, .slice A94 (y78.1.2.2.2).length cap95]) (by kernel_rfl) vt83 (fun i u hu => box_cells F140 0 hu (by rfl)) ?_
    refine wS_loadA (d := 33) (T := 83) (ad := ⟨b49, 0, none⟩) (vs := [.int .i64 (y18.1.1), .slice A22 (y18.1.2.1).length cap23, .slice A28 (y18.1.2.2.1).length cap29, .slice A34 (y18.1.2.2.2).length cap35]) (by kernel_rfl) vt83 (fun i u hu => box_cells F60 0 hu (by rfl)) ?_
    obtain ⟨y143, hy144, hm⟩ := bindE hm
    refine wS_calls (d := 34) (f := 61) (vs := [.agg #[.int .i64 (y78.1.1), .slice A82 (y78.1.2.1).length cap83, .slice A88 (y78.1.2.2.1).length cap89, .slice A94 (y78.1.2.2.2).length cap95], .agg #[.int .i64 (y18.1.1), .slice A22 (y18.1.2.1).length cap23, .slice A28 (y18.1.2.2.1).length cap29, .slice A34 (y18.1.2.2.2).length cap35]]) (by kernel_rfl) ent61 (c_laws_eqWiring hy144 (F85.slr encI_ok) (F91.slr encI_ok) (F97.sl encI_ok) (F25.slr encI_ok) (F31.slr encI_ok) (F37.sl encI_ok)) ?_
    rintro _ w145 ⟨rfl, hc146⟩
    replace F0 := F0.chg hc146 Dj.nil
    replace F14 := F14.chg hc146 Dj.nil
    replace F25 := F25.chg hc146 Dj.nil
    replace F31 := F31.chg hc146 Dj.nil
    replace F37 := F37.chg hc146 Dj.nil
    replace F60 := F60.chg hc146 notNil
    replace F69 := F69.chg hc146 Dj.nil
    replace F85 := F85.chg hc146 Dj.nil
    replace F91 := F91.chg hc146 Dj.nil
    replace F97 := F97.chg hc146 Dj.nil
    replace F140 := F140.chg hc146 notNil
    replace hB := hB.inS hc146 inNil
    replace hZ := Nat.le_trans hZ hc146.size
    refine ⟨.bool (y143), rfl, ?_⟩
    refine wS_pure 2 [(36, .bool (!y143)), (35, .bool (!y143))] (by kernel_rfl) ?_
    refine wS_bool (!y143) (fun hb147 => ?_) (fun hb147 => ?_)
    · have hm := condT hb147 hm
      rewrite [hb147]
      refine wS_pure 4 [(40, .bool (true)), (39, undef), (38, undef), (37, undef)] (by kernel_rfl) ?_
      refine wS_end (by rfl) ?_
      refine eX_then ?_
      refine cW_cond_t (by kernel_rfl) ?_
      refine cW_seq ?_
      refine cW_region ?_
      refine wS_pure 1 [(2, .bool (false))] (by kernel_rfl) ?_
      refine wS_end (by rfl) ?_
      refine eX_then ?_
      refine cW_ret ?_
      refine eX_then_ret ?_
      have hq : (some false : Option ((Bool))) = some _ := hm
      replace hq := someE hq
      subst hq
      refine eX_ret (vs := [.bool (false)]) [.tmp 2] (by rfl) ⟨by (show lkE _ _ _ = _); kernel_rfl, trivial⟩ ?_
      exact ⟨rfl, hB⟩
    · have hm := condF hb147 hm
      rewrite [hb147]
      refine wS_pure 4 [(40, .bool (!(y78.2 == y18.2))), (39, .bool (!(y78.2 == y18.2))), (38, .bool (y18.2)), (37, .bool (y78.2))] (by kernel_rfl) ?_
      refine wS_end (by rfl) ?_
      refine eX_then ?_
      refine cW_cond (t := !(y78.2 == y18.2)) (by kernel_rfl) (fun hb148 => ?_) (fun hb148 => ?_)
      · have hm := condT hb148 hm
        refine cW_seq ?_
        refine cW_region ?_
        refine wS_pure 1 [(2, .bool (false))] (by kernel_rfl) ?_
        refine wS_end (by rfl) ?_
        refine eX_then ?_
        refine cW_ret ?_
        refine eX_then_ret ?_
        have hq : (some false : Option ((Bool))) = some _ := hm
        replace hq := someE hq
        subst hq
        refine eX_ret (vs := [.bool (false)]) [.tmp 2] (by rfl) ⟨by (show lkE _ _ _ = _); kernel_rfl, trivial⟩ ?_
        exact ⟨rfl, hB⟩
      · have hm := condF hb148 hm
        refine cW_skip ?_
        refine eX_then ?_
        refine cW_seq ?_
        refine cW_seq ?_
        refine cW_region ?_
        refine wS_pure 2 [(42, .slice A0 (l0).length cap0), (41, .slice A66 (y62).length cap67)] (by kernel_rfl) ?_
        obtain ⟨y149, hy150, hm⟩ := bindE hm
        refine wS_calls (d := 43) (f := 59) (vs := [.slice A0 (l0).length cap0]) (by kernel_rfl) ent59 (c_laws_toPointSS hy150 F0) ?_
        rintro _ w151 ⟨A153, cap154, fp155, fr158, rfl, F156, G157, hc152⟩
        have D160 : Dj (fp13 ++ fr16) (fp155 ++ fr158) := Dj.of F14.low G157
        have D161 : Dj (fp24 ++ fr27) (fp155 ++ fr158) := Dj.of F25.low G157
        have D162 : Dj (fp30 ++ fr33) (fp155 ++ fr158) := Dj.of F31.low G157
        have D163 : Dj fp36 (fp155 ++ fr158) := Dj.of F37.low G157
        have D164 : Dj [b49] (fp155 ++ fr158) := Dj.of (lt1 F60.lt) G157
        have D165 : Dj (fp68 ++ fr71) (fp155 ++ fr158) := Dj.of F69.low G157
        have D166 : Dj (fp84 ++ fr87) (fp155 ++ fr158) := Dj.of F85.low G157
        have D167 : Dj (fp90 ++ fr93) (fp155 ++ fr158) := Dj.of F91.low G157
        have D168 : Dj fp96 (fp155 ++ fr158) := Dj.of F97.low G157
        have D169 : Dj [b124] (fp155 ++ fr158) := Dj.of (lt1 F140.lt) G157
        replace F0 := F0.chg hc152 Dj.nil
        replace F14 := F14.chg hc152 Dj.nil
        replace F25 := F25.chg hc152 Dj.nil
        replace F31 := F31.chg hc152 Dj.nil
        replace F37 := F37.chg hc152 Dj.nil
        replace F60 := F60.chg hc152 notNil
        replace F69 := F69.chg hc152 Dj.nil
        replace F85 := F85.chg hc152 Dj.nil
        replace F91 := F91.chg hc152 Dj.nil
        replace F97 := F97.chg hc152 Dj.nil
        replace F140 := F140.chg hc152 notNil
        replace hB := hB.inS hc152 inNil
        replace G157 := low_le hZ G157
        replace hZ := Nat.le_trans hZ hc152.size
        refine ⟨.slice A153 (y149).length cap154, rfl, ?_⟩
        obtain ⟨y170, hy171, hm⟩ := bindE hm
        refine wS_calls (d := 44) (f := 62) (vs := [.slice A66 (y62).length cap67, .slice A153 (y149).length cap154]) (by kernel_rfl) ent62 (c_laws_eqPointSS hy171 (F69.slr encII_ok) (F156.slr encII_ok)) ?_
        rintro _ w172 ⟨rfl, hc173⟩
        replace F0 := F0.chg hc173 Dj.nil
        replace F14 := F14.chg hc173 Dj.nil
        replace F25 := F25.chg hc173 Dj.nil
        replace F31 := F31.chg hc173 Dj.nil
        replace F37 := F37.chg hc173 Dj.nil
        replace F60 := F60.chg hc173 notNil
        replace F69 := F69.chg hc173 Dj.nil
        replace F85 := F85.chg hc173 Dj.nil
        replace F91 := F91.chg hc173 Dj.nil
        replace F97 := F97.chg hc173 Dj.nil
        replace F140 := F140.chg hc173 notNil
        replace F156 := F156.chg hc173 Dj.nil
        replace hB := hB.inS hc173 inNil
        replace hZ := Nat.le_trans hZ hc173.size
        refine ⟨.bool (y170), rfl, ?_⟩
        refine wS_pure 1 [(45, .bool (!y170))] (by kernel_rfl) ?_
        refine wS_end (by rfl) ?_
        refine eX_then ?_
        refine cW_cond (t := !y170) (by kernel_rfl) (fun hb174 => ?_) (fun hb174 => ?_)
        · have hm := condT hb174 hm
          refine cW_seq ?_
          refine cW_region ?_
          refine wS_pure 1 [(2, .bool (false))] (by kernel_rfl) ?_
          refine wS_end (by rfl) ?_
          refine eX_then ?_
          refine cW_ret ?_
          refine eX_then_ret ?_
          have hq : (some false : Option ((Bool))) = some _ := hm
          replace hq := someE hq
          subst hq
          refine eX_ret (vs := [.bool (false)]) [.tmp 2] (by rfl) ⟨by (show lkE _ _ _ = _); kernel_rfl, trivial⟩ ?_
          exact ⟨rfl, hB⟩
        · have hm := condF hb174 hm
          refine cW_skip ?_
          refine eX_then ?_
          refine cW_seq ?_
          refine cW_region ?_
          refine wS_pure 1 [(9, .int .i64 (1))] (by kernel_rfl) ?_
          refine wS_end (by rfl) ?_
          refine eX_then ?_
          refine cW_seq ?_
          refine cW_region ?_
          refine wS_pure 2 [(47, .int .i64 (1)), (46, .slice A66 (y62).length cap67)] (by kernel_rfl) ?_
          obtain ⟨y175, hy176, hm⟩ := bindE hm
          refine wS_calls (d := 48) (f := 63) (vs := [.slice A66 (y62).length cap67, .int .i64 (1)]) (by kernel_rfl) ent63 (c_laws_markPointSS hy176 F69) ?_
          rintro _ w177 ⟨rfl, F179, hl180, hc178⟩
          replace F0 := F0.chg hc178 (Dj.app (Dj.of L0 G70) Dj.nil)
          replace F14 := F14.chg hc178 (Dj.app D73 Dj.nil)
          replace F25 := F25.chg hc178 (Dj.app D74 Dj.nil)
          replace F31 := F31.chg hc178 (Dj.app D75 Dj.nil)
          replace F37 := F37.chg hc178 (Dj.app D76 Dj.nil)
          replace F60 := F60.chg hc178 (dj1 (Dj.app D77 Dj.nil))
          replace F85 := F85.chg hc178 (Dj.app (D109).symm Dj.nil)
          replace F91 := F91.chg hc178 (Dj.app (D116).symm Dj.nil)
          replace F97 := F97.chg hc178 (Dj.app (D123).symm Dj.nil)
          replace F140 := F140.chg hc178 (dj1 (Dj.app (D135).symm Dj.nil))
          replace F156 := F156.chg hc178 (Dj.app (D165).symm Dj.nil)
          replace hB := hB.inS hc178 (inApp (inLow G70) inNil)
          replace hZ := Nat.le_trans hZ hc178.size
          clear F69
          refine ⟨.int .i64 (y175.1), rfl, ?_⟩
          rewrite [(show (y62).length = (y175.2).length from hl180.symm)]
          try rewrite [(show (y62).length = (y175.2).length from hl180.symm)] at F60
          try rewrite [(show (y62).length = (y175.2).length from hl180.symm)] at F140
          refine wS_pure 1 [(9, .int .i64 (y175.1))] (by kernel_rfl) ?_
          refine wS_end (by rfl) ?_
          refine eX_then ?_
          refine cW_prune [(0, .slice A0 (l0).length cap0), (4, .pointer (some ⟨b49, 0, none⟩)), (5, .bool (y18.2)), (7, .pointer (some ⟨b124, 0, none⟩)), (8, .bool (y78.2)), (9, .int .i64 (y175.1))] (by kernel_rfl) (by kernel_rfl) (fun a181 => ?_)
          refine cW_seq ?_
          refine cW_seq ?_
          refine cW_region ?_
          refine wS_pure 3 [(51, .bool (decide (y175.1 < 0))), (50, .bool (decide (y175.1 < 0))), (49, .int .i64 (y175.1))] (by kernel_rfl) ?_
          refine wS_bool (decide (y175.1 < 0)) (fun hb182 => ?_) (fun hb182 => ?_)
          · have hm := condT hb182 hm
            rewrite [hb182]
            refine wS_pure 10 [(61, .bool (true)), (60, undef), (59, undef), (58, undef), (57, .bool (true)), (56, .bool (true)), (55, undef), (54, undef), (53, undef), (52, undef)] (by kernel_rfl) ?_
            refine wS_end (by rfl) ?_
            refine eX_then ?_
            refine cW_cond_t (by kernel_rfl) ?_
            refine cW_seq ?_
            refine cW_region ?_
            refine wS_pure 1 [(2, .bool (false))] (by kernel_rfl) ?_
            refine wS_end (by rfl) ?_
            refine eX_then ?_
            refine cW_ret ?_
            refine eX_then_ret ?_
            have hq : (some false : Option ((Bool))) = some _ := hm
            replace hq := someE hq
            subst hq
            refine eX_ret (vs := [.bool (false)]) [.tmp 2] (by rfl) ⟨by (show lkE _ _ _ = _); kernel_rfl, trivial⟩ ?_
            exact ⟨rfl, hB⟩
          · have hm := condF hb182 hm
            rewrite [hb182]
            refine wS_loadA (d := 52) (T := 83) (ad := ⟨b124, 0, none⟩) (vs := [.int .i64 (y78.1.1), .slice A82 (y78.1.2.1).length cap83, .slice A88 (y78.1.2.2.1).length cap89, .slice A94 (y78.1.2.2.2).length cap95]) (by kernel_rfl) vt83 (fun i u hu => box_cells F140 0 hu (by rfl)) ?_
            refine wS_loadA (d := 53) (T := 83) (ad := ⟨b49, 0, none⟩) (vs := [.int .i64 (y18.1.1), .slice A22 (y18.1.2.1).length cap23, .slice A28 (y18.1.2.2.1).length cap29, .slice A34 (y18.1.2.2.2).length cap35]) (by kernel_rfl) vt83 (fun i u hu => box_cells F60 0 hu (by rfl)) ?_
            obtain ⟨y183, hy184, hm⟩ := bindE hm
            refine wS_calls (d := 54) (f := 61) (vs := [.agg #[.int .i64 (y78.1.1), .slice A82 (y78.1.2.1).length cap83, .slice A88 (y78.1.2.2.1).length cap89, .slice A94 (y78.1.2.2.2).length cap95], .agg #[.int .i64 (y18.1.1), .slice A22 (y18.1.2.1).length cap23, .slice A28 (y18.1.2.2.1).length cap29, .slice A34 (y18.1.2.2.2).length cap35]]) (by kernel_rfl) ent61 (c_laws_eqWiring hy184 (F85.slr encI_ok) (F91.slr encI_ok) (F97.sl encI_ok) (F25.slr encI_ok) (F31.slr encI_ok) (F37.sl encI_ok)) ?_
            rintro _ w185 ⟨rfl, hc186⟩
            replace F0 := F0.chg hc186 Dj.nil
            replace F14 := F14.chg hc186 Dj.nil
            replace F25 := F25.chg hc186 Dj.nil
            replace F31 := F31.chg hc186 Dj.nil
            replace F37 := F37.chg hc186 Dj.nil
            replace F60 := F60.chg hc186 notNil
            replace F179 := F179.chg hc186 Dj.nil
            replace F85 := F85.chg hc186 Dj.nil
            replace F91 := F91.chg hc186 Dj.nil
            replace F97 := F97.chg hc186 Dj.nil
            replace F140 := F140.chg hc186 notNil
            replace F156 := F156.chg hc186 Dj.nil
            replace hB := hB.inS hc186 inNil
            replace hZ := Nat.le_trans hZ hc186.size
            refine ⟨.bool (y183), rfl, ?_⟩
            refine wS_pure 3 [(57, .bool (!y183)), (56, .bool (!y183)), (55, .bool (!y183))] (by kernel_rfl) ?_
            refine wS_bool (!y183) (fun hb187 => ?_) (fun hb187 => ?_)
            · have hm := condT hb187 hm
              rewrite [hb187]
              refine wS_pure 4 [(61, .bool (true)), (60, undef), (59, undef), (58, undef)] (by kernel_rfl) ?_
              refine wS_end (by rfl) ?_
              refine eX_then ?_
              refine cW_cond_t (by kernel_rfl) ?_
              refine cW_seq ?_
              refine cW_region ?_
              refine wS_pure 1 [(2, .bool (false))] (by kernel_rfl) ?_
              refine wS_end (by rfl) ?_
              refine eX_then ?_
              refine cW_ret ?_
              refine eX_then_ret ?_
              have hq : (some false : Option ((Bool))) = some _ := hm
              replace hq := someE hq
              subst hq
              refine eX_ret (vs := [.bool (false)]) [.tmp 2] (by rfl) ⟨by (show lkE _ _ _ = _); kernel_rfl, trivial⟩ ?_
              exact ⟨rfl, hB⟩
            · have hm := condF hb187 hm
              rewrite [hb187]
              refine wS_pure 4 [(61, .bool (!(y78.2 == y18.2))), (60, .bool (!(y78.2 == y18.2))), (59, .bool (y18.2)), (58, .bool (y78.2))] (by kernel_rfl) ?_
              refine wS_end (by rfl) ?_
              refine eX_then ?_
              refine cW_cond (t := !(y78.2 == y18.2)) (by kernel_rfl) (fun hb188 => ?_) (fun hb188 => ?_)
              · have hm := condT hb188 hm
                refine cW_seq ?_
                refine cW_region ?_
                refine wS_pure 1 [(2, .bool (false))] (by kernel_rfl) ?_
                refine wS_end (by rfl) ?_
                refine eX_then ?_
                refine cW_ret ?_
                refine eX_then_ret ?_
                have hq : (some false : Option ((Bool))) = some _ := hm
                replace hq := someE hq
                subst hq
                refine eX_ret (vs := [.bool (false)]) [.tmp 2] (by rfl) ⟨by (show lkE _ _ _ = _); kernel_rfl, trivial⟩ ?_
                exact ⟨rfl, hB⟩
              · have hm := condF hb188 hm
                refine cW_skip ?_
                refine eX_then ?_
                refine cW_seq ?_
                refine cW_region ?_
                refine wS_pure 1 [(10, .int .i64 (1))] (by kernel_rfl) ?_
                refine wS_end (by rfl) ?_
                refine eX_then ?_
                refine cW_seq ?_
                refine cW_region ?_
                refine wS_loadA (d := 62) (T := 83) (ad := ⟨b124, 0, none⟩) (vs := [.int .i64 (y78.1.1), .slice A82 (y78.1.2.1).length cap83, .slice A88 (y78.1.2.2.1).length cap89, .slice A94 (y78.1.2.2.2).length cap95]) (by kernel_rfl) vt83 (fun i u hu => box_cells F140 0 hu (by rfl)) ?_
                refine wS_pure 1 [(63, .int .i64 (1))] (by kernel_rfl) ?_
                obtain ⟨y189, hy190, hm⟩ := bindE hm
                refine wS_calls (d := 64) (f := 64) (vs := [.agg #[.int .i64 (y78.1.1), .slice A82 (y78.1.2.1).length cap83, .slice A88 (y78.1.2.2.1).length cap89, .slice A94 (y78.1.2.2.2).length cap95], .int .i64 (1)]) (by kernel_rfl) ent64 (c_laws_markWiring hy190 F85 F91 F97 D100 D101 D102) ?_
                rintro _ w191 ⟨rfl, F193, hl194, F195, hl196, F197, hl198, hc192⟩
                replace F0 := F0.chg hc192 (Dj.app (Dj.of L0 G86) (Dj.app (Dj.of L0 G92) (Dj.app (Dj.of L0 G98) Dj.nil)))
                replace F14 := F14.chg hc192 (Dj.app D104 (Dj.app D111 (Dj.app D118 Dj.nil)))
                replace F25 := F25.chg hc192 (Dj.app D105 (Dj.app D112 (Dj.app D119 Dj.nil)))
                replace F31 := F31.chg hc192 (Dj.app D106 (Dj.app D113 (Dj.app D120 Dj.nil)))
                replace F37 := F37.chg hc192 (Dj.app D107 (Dj.app D114 (Dj.app D121 Dj.nil)))
                replace F60 := F60.chg hc192 (dj1 (Dj.app D108 (Dj.app D115 (Dj.app D122 Dj.nil))))
                replace F179 := F179.chg hc192 (Dj.app D109 (Dj.app D116 (Dj.app D123 Dj.nil)))
                replace F140 := F140.chg hc192 (dj1 (Dj.app (D136).symm (Dj.app (D137).symm (Dj.app (D138).symm Dj.nil))))
                replace F156 := F156.chg hc192 (Dj.app (D166).symm (Dj.app (D167).symm (Dj.app (D168).symm Dj.nil)))
                replace hB := hB.inS hc192 (inApp (inLow G86) (inApp (inLow G92) (inApp (inLow G98) inNil)))
                replace hZ := Nat.le_trans hZ hc192.size
                clear F85
                clear F91
                clear F97
                refine ⟨.int .i64 (y189.1), rfl, ?_⟩
                rewrite [(show (y78.1.2.1).length = (y189.2.1).length from hl194.symm)]
                try rewrite [(show (y78.1.2.1).length = (y189.2.1).length from hl194.symm)] at F60
                try rewrite [(show (y78.1.2.1).length = (y189.2.1).length from hl194.symm)] at F140
                rewrite [(show (y78.1.2.2.1).length = (y189.2.2.1).length from hl196.symm)]
                try rewrite [(show (y78.1.2.2.1).length = (y189.2.2.1).length from hl196.symm)] at F60
                try rewrite [(show (y78.1.2.2.1).length = (y189.2.2.1).length from hl196.symm)] at F140
                rewrite [(show (y78.1.2.2.2).length = (y189.2.2.2).length from hl198.symm)]
                try rewrite [(show (y78.1.2.2.2).length = (y189.2.2.2).length from hl198.symm)] at F60
                try rewrite [(show (y78.1.2.2.2).length = (y189.2.2.2).length from hl198.symm)] at F140
                refine wS_pure 1 [(10, .int .i64 (y189.1))] (by kernel_rfl) ?_
                refine wS_end (by rfl) ?_
                refine eX_then ?_
                refine cW_seq ?_
                refine cW_region ?_
                refine wS_pure 1 [(11, .int .i64 (1))] (by kernel_rfl) ?_
                refine wS_end (by rfl) ?_
                refine eX_then ?_
                refine cW_prune [(0, .slice A0 (l0).length cap0), (4, .pointer (some ⟨b49, 0, none⟩)), (5, .bool (y18.2)), (7, .pointer (some ⟨b124, 0, none⟩)), (10, .int .i64 (y189.1)), (11, .int .i64 (1))] (by kernel_rfl) (by kernel_rfl) (fun a199 => ?_)
                refine cW_seq ?_
                refine cW_region ?_
                refine wS_loadA (d := 65) (T := 83) (ad := ⟨b124, 0, none⟩) (vs := [.int .i64 (y78.1.1), .slice A82 (y189.2.1).length cap83, .slice A88 (y189.2.2.1).length cap89, .slice A94 (y189.2.2.2).length cap95]) (by kernel_rfl) vt83 (fun i u hu => box_cells F140 0 hu (by rfl)) ?_
                refine wS_pure 1 [(66, .int .i64 (1))] (by kernel_rfl) ?_
                obtain ⟨y200, hy201, hm⟩ := bindE hm
                refine wS_calls (d := 67) (f := 65) (vs := [.agg #[.int .i64 (y78.1.1), .slice A82 (y189.2.1).length cap83, .slice A88 (y189.2.2.1).length cap89, .slice A94 (y189.2.2.2).length cap95], .int .i64 (1)]) (by kernel_rfl) ent65 (c_laws_heldWiring hy201 (F193.slr encI_ok) (F195.slr encI_ok) (F197.sl encI_ok)) ?_
                rintro _ w202 ⟨rfl, hc203⟩
                replace F0 := F0.chg hc203 Dj.nil
                replace F14 := F14.chg hc203 Dj.nil
                replace F25 := F25.chg hc203 Dj.nil
                replace F31 := F31.chg hc203 Dj.nil
                replace F37 := F37.chg hc203 Dj.nil
                replace F60 := F60.chg hc203 notNil
                replace F179 := F179.chg hc203 Dj.nil
                replace F193 := F193.chg hc203 Dj.nil
                replace F195 := F195.chg hc203 Dj.nil
                replace F197 := F197.chg hc203 Dj.nil
                replace F140 := F140.chg hc203 notNil
                replace F156 := F156.chg hc203 Dj.nil
                replace hB := hB.inS hc203 inNil
                replace hZ := Nat.le_trans hZ hc203.size
                refine ⟨.int .i64 (y200), rfl, ?_⟩
                refine wS_pure 1 [(11, .int .i64 (y200))] (by kernel_rfl) ?_
                refine wS_end (by rfl) ?_
                refine eX_then ?_
                refine cW_seq ?_
                refine cW_seq ?_
                refine cW_region ?_
                refine wS_pure 2 [(69, .bool (decide (y200 < 0))), (68, .int .i64 (y200))] (by kernel_rfl) ?_
                refine wS_end (by rfl) ?_
                refine eX_then ?_
                refine cW_cond (t := decide (y200 < 0)) (by kernel_rfl) (fun hb204 => ?_) (fun hb204 => ?_)
                · have hm := condT hb204 hm
                  refine cW_seq ?_
                  refine cW_region ?_
                  refine wS_pure 1 [(2, .bool (false))] (by kernel_rfl) ?_
                  refine wS_end (by rfl) ?_
                  refine eX_then ?_
                  refine cW_ret ?_
                  refine eX_then_ret ?_
                  have hq : (some false : Option ((Bool))) = some _ := hm
                  replace hq := someE hq
                  subst hq
                  refine eX_ret (vs := [.bool (false)]) [.tmp 2] (by rfl) ⟨by (show lkE _ _ _ = _); kernel_rfl, trivial⟩ ?_
                  exact ⟨rfl, hB⟩
                · have hm := condF hb204 hm
                  refine cW_skip ?_
                  refine eX_then ?_
                  refine cW_seq ?_
                  refine cW_seq ?_
                  refine cW_region ?_
                  refine wS_pure 3 [(72, .bool (y200 != y189.1)), (71, .int .i64 (y189.1)), (70, .int .i64 (y200))] (by kernel_rfl) ?_
                  refine wS_end (by rfl) ?_
                  refine eX_then ?_
                  refine cW_cond (t := y200 != y189.1) (by kernel_rfl) (fun hb205 => ?_) (fun hb205 => ?_)
                  · have hm := condT hb205 hm
                    refine cW_seq ?_
                    refine cW_region ?_
                    refine wS_pure 1 [(2, .bool (false))] (by kernel_rfl) ?_
                    refine wS_end (by rfl) ?_
                    refine eX_then ?_
                    refine cW_ret ?_
                    refine eX_then_ret ?_
                    have hq : (some false : Option ((Bool))) = some _ := hm
                    replace hq := someE hq
                    subst hq
                    refine eX_ret (vs := [.bool (false)]) [.tmp 2] (by rfl) ⟨by (show lkE _ _ _ = _); kernel_rfl, trivial⟩ ?_
                    exact ⟨rfl, hB⟩
                  · have hm := condF hb205 hm
                    refine cW_skip ?_
                    refine eX_then ?_
                    refine cW_seq ?_
                    refine cW_region ?_
                    refine wS_pure 1 [(74, .slice A0 (l0).length cap0)] (by kernel_rfl) ?_
                    obtain ⟨y206, hy207, hm⟩ := bindE hm
                    refine wS_calls (d := 75) (f := 59) (vs := [.slice A0 (l0).length cap0]) (by kernel_rfl) ent59 (c_laws_toPointSS hy207 F0) ?_
                    rintro _ w208 ⟨A210, cap211, fp212, fr215, rfl, F213, G214, hc209⟩
                    have D217 : Dj (fp13 ++ fr16) (fp212 ++ fr215) := Dj.of F14.low G214
                    have D218 : Dj (fp24 ++ fr27) (fp212 ++ fr215) := Dj.of F25.low G214
                    have D219 : Dj (fp30 ++ fr33) (fp212 ++ fr215) := Dj.of F31.low G214
                    have D220 : Dj fp36 (fp212 ++ fr215) := Dj.of F37.low G214
                    have D221 : Dj [b49] (fp212 ++ fr215) := Dj.of (lt1 F60.lt) G214
                    have D222 : Dj (fp68 ++ fr71) (fp212 ++ fr215) := Dj.of F179.low G214
                    have D223 : Dj (fp84 ++ fr87) (fp212 ++ fr215) := Dj.of F193.low G214
                    have D224 : Dj (fp90 ++ fr93) (fp212 ++ fr215) := Dj.of F195.low G214
                    have D225 : Dj fp96 (fp212 ++ fr215) := Dj.of F197.low G214
                    have D226 : Dj [b124] (fp212 ++ fr215) := Dj.of (lt1 F140.lt) G214
                    have D227 : Dj (fp155 ++ fr158) (fp212 ++ fr215) := Dj.of F156.low G214
                    replace F0 := F0.chg hc209 Dj.nil
                    replace F14 := F14.chg hc209 Dj.nil
                    replace F25 := F25.chg hc209 Dj.nil
                    replace F31 := F31.chg hc209 Dj.nil
                    replace F37 := F37.chg hc209 Dj.nil
                    replace F60 := F60.chg hc209 notNil
                    replace F179 := F179.chg hc209 Dj.nil
                    replace F193 := F193.chg hc209 Dj.nil
                    replace F195 := F195.chg hc209 Dj.nil
                    replace F197 := F197.chg hc209 Dj.nil
                    replace F140 := F140.chg hc209 notNil
                    replace F156 := F156.chg hc209 Dj.nil
                    replace hB := hB.inS hc209 inNil
                    replace G214 := low_le hZ G214
                    replace hZ := Nat.le_trans hZ hc209.size
                    refine ⟨.slice A210 (y206).length cap211, rfl, ?_⟩
                    obtain ⟨y228, hy229, hm⟩ := bindE hm
                    refine wS_calls (d := 76) (f := 60) (vs := [.slice A210 (y206).length cap211]) (by kernel_rfl) ent60 (c_impl_WiringOf hy229 (F213.slr encII_ok)) ?_
                    rintro _ w230 ⟨A232, cap233, fp234, fr237, A238, cap239, fp240, fr243, A244, cap245, fp246, rfl, F235, G236, F241, G242, F247, G248, D250, D251, D252, hc231⟩
                    have D254 : Dj (fp13 ++ fr16) (fp234 ++ fr237) := Dj.of F14.low G236
                    have D255 : Dj (fp24 ++ fr27) (fp234 ++ fr237) := Dj.of F25.low G236
                    have D256 : Dj (fp30 ++ fr33) (fp234 ++ fr237) := Dj.of F31.low G236
                    have D257 : Dj fp36 (fp234 ++ fr237) := Dj.of F37.low G236
                    have D258 : Dj [b49] (fp234 ++ fr237) := Dj.of (lt1 F60.lt) G236
                    have D259 : Dj (fp68 ++ fr71) (fp234 ++ fr237) := Dj.of F179.low G236
                    have D260 : Dj (fp84 ++ fr87) (fp234 ++ fr237) := Dj.of F193.low G236
                    have D261 : Dj (fp90 ++ fr93) (fp234 ++ fr237) := Dj.of F195.low G236
                    have D262 : Dj fp96 (fp234 ++ fr237) := Dj.of F197.low G236
                    have D263 : Dj [b124] (fp234 ++ fr237) := Dj.of (lt1 F140.lt) G236
                    have D264 : Dj (fp155 ++ fr158) (fp234 ++ fr237) := Dj.of F156.low G236
                    have D265 : Dj (fp212 ++ fr215) (fp234 ++ fr237) := Dj.of F213.low G236
                    have D267 : Dj (fp13 ++ fr16) (fp240 ++ fr243) := Dj.of F14.low G242
                    have D268 : Dj (fp24 ++ fr27) (fp240 ++ fr243) := Dj.of F25.low G242
                    have D269 : Dj (fp30 ++ fr33) (fp240 ++ fr243) := Dj.of F31.low G242
                    have D270 : Dj fp36 (fp240 ++ fr243) := Dj.of F37.low G242
                    have D271 : Dj [b49] (fp240 ++ fr243) := Dj.of (lt1 F60.lt) G242
                    have D272 : Dj (fp68 ++ fr71) (fp240 ++ fr243) := Dj.of F179.low G242
                    have D273 : Dj (fp84 ++ fr87) (fp240 ++ fr243) := Dj.of F193.low G242
                    have D274 : Dj (fp90 ++ fr93) (fp240 ++ fr243) := Dj.of F195.low G242
                    have D275 : Dj fp96 (fp240 ++ fr243) := Dj.of F197.low G242
                    have D276 : Dj [b124] (fp240 ++ fr243) := Dj.of (lt1 F140.lt) G242
                    have D277 : Dj (fp155 ++ fr158) (fp240 ++ fr243) := Dj.of F156.low G242
                    have D278 : Dj (fp212 ++ fr215) (fp240 ++ fr243) := Dj.of F213.low G242
                    have D280 : Dj (fp13 ++ fr16) fp246 := Dj.of F14.low G248
                    have D281 : Dj (fp24 ++ fr27) fp246 := Dj.of F25.low G248
                    have D282 : Dj (fp30 ++ fr33) fp246 := Dj.of F31.low G248
                    have D283 : Dj fp36 fp246 := Dj.of F37.low G248
                    have D284 : Dj [b49] fp246 := Dj.of (lt1 F60.lt) G248
                    have D285 : Dj (fp68 ++ fr71) fp246 := Dj.of F179.low G248
                    have D286 : Dj (fp84 ++ fr87) fp246 := Dj.of F193.low G248
                    have D287 : Dj (fp90 ++ fr93) fp246 := Dj.of F195.low G248
                    have D288 : Dj fp96 fp246 := Dj.of F197.low G248
                    have D289 : Dj [b124] fp246 := Dj.of (lt1 F140.lt) G248
                    have D290 : Dj (fp155 ++ fr158) fp246 := Dj.of F156.low G248
                    have D291 : Dj (fp212 ++ fr215) fp246 := Dj.of F213.low G248
                    replace F0 := F0.chg hc231 Dj.nil
                    replace F14 := F14.chg hc231 Dj.nil
                    replace F25 := F25.chg hc231 Dj.nil
                    replace F31 := F31.chg hc231 Dj.nil
                    replace F37 := F37.chg hc231 Dj.nil
                    replace F60 := F60.chg hc231 notNil
                    replace F179 := F179.chg hc231 Dj.nil
                    replace F193 := F193.chg hc231 Dj.nil
                    replace F195 := F195.chg hc231 Dj.nil
                    replace F197 := F197.chg hc231 Dj.nil
                    replace F140 := F140.chg hc231 notNil
                    replace F156 := F156.chg hc231 Dj.nil
                    replace F213 := F213.chg hc231 Dj.nil
                    replace hB := hB.inS hc231 inNil
                    replace G236 := low_le hZ G236
                    replace G242 := low_le hZ G242
                    replace G248 := low_le hZ G248
                    replace hZ := Nat.le_trans hZ hc231.size
                    refine ⟨.tuple #[.agg #[.int .i64 (y228.1.1), .slice A232 (y228.1.2.1).length cap233, .slice A238 (y228.1.2.2.1).length cap239, .slice A244 (y228.1.2.2.2).length cap245], .bool (y228.2)], rfl, ?_⟩
                    refine wS_pure 3 [(78, .bool (y228.2)), (77, .agg #[.int .i64 (y228.1.1), .slice A232 (y228.1.2.1).length cap233, .slice A238 (y228.1.2.2.1).length cap239, .slice A244 (y228.1.2.2.2).length cap245]), (73, .tuple #[.agg #[.int .i64 (y228.1.1), .slice A232 (y228.1.2.1).length cap233, .slice A238 (y228.1.2.2.1).length cap239, .slice A244 (y228.1.2.2.2).length cap245], .bool (y228.2)])] (by kernel_rfl) ?_
                    refine wS_alloc (d := 12) (T := 83) (z := .agg #[.int .i64 (0), .slice none 0 0, .slice none 0 0, .slice none 0 0]) (by kernel_rfl) (by kernel_rfl) ?_
                    intro b292 w293 G294 F295 hc296
                    replace F295 : Cl w293 b292 83 [.int .i64 (0), .slice none 0 0, .slice none 0 0, .slice none 0 0] := F295
                    have D298 : Dj (fp13 ++ fr16) [b292] := Dj.of F14.low (low1 G294)
                    have D299 : Dj (fp24 ++ fr27) [b292] := Dj.of F25.low (low1 G294)
                    have D300 : Dj (fp30 ++ fr33) [b292] := Dj.of F31.low (low1 G294)
                    have D301 : Dj fp36 [b292] := Dj.of F37.low (low1 G294)
                    have D302 : Dj [b49] [b292] := Dj.of (lt1 F60.lt) (low1 G294)
                    have D303 : Dj (fp68 ++ fr71) [b292] := Dj.of F179.low (low1 G294)
                    have D304 : Dj (fp84 ++ fr87) [b292] := Dj.of F193.low (low1 G294)
                    have D305 : Dj (fp90 ++ fr93) [b292] := Dj.of F195.low (low1 G294)
                    have D306 : Dj fp96 [b292] := Dj.of F197.low (low1 G294)
                    have D307 : Dj [b124] [b292] := Dj.of (lt1 F140.lt) (low1 G294)
                    have D308 : Dj (fp155 ++ fr158) [b292] := Dj.of F156.low (low1 G294)
                    have D309 : Dj (fp212 ++ fr215) [b292] := Dj.of F213.low (low1 G294)
                    have D310 : Dj (fp234 ++ fr237) [b292] := Dj.of F235.low (low1 G294)
                    have D311 : Dj (fp240 ++ fr243) [b292] := Dj.of F241.low (low1 G294)
                    have D312 : Dj fp246 [b292] := Dj.of F247.low (low1 G294)
                    replace F0 := F0.chg hc296 Dj.nil
                    replace F14 := F14.chg hc296 Dj.nil
                    replace F25 := F25.chg hc296 Dj.nil
                    replace F31 := F31.chg hc296 Dj.nil
                    replace F37 := F37.chg hc296 Dj.nil
                    replace F60 := F60.chg hc296 notNil
                    replace F179 := F179.chg hc296 Dj.nil
                    replace F193 := F193.chg hc296 Dj.nil
                    replace F195 := F195.chg hc296 Dj.nil
                    replace F197 := F197.chg hc296 Dj.nil
                    replace F140 := F140.chg hc296 notNil
                    replace F156 := F156.chg hc296 Dj.nil
                    replace F213 := F213.chg hc296 Dj.nil
                    replace F235 := F235.chg hc296 Dj.nil
                    replace F241 := F241.chg hc296 Dj.nil
                    replace F247 := F247.chg hc296 Dj.nil
                    replace hB := hB.inS hc296 inNil
                    replace G294 := Nat.le_trans hZ G294
                    replace hZ := Nat.le_trans hZ hc296.size
                    refine wS_store (T := 83) (g := b292) (o := 0) (ad := ⟨b292, 0, none⟩) (v := .agg #[.int .i64 (y228.1.1), .slice A232 (y228.1.2.1).length cap233, .slice A238 (y228.1.2.2.1).length cap239, .slice A244 (y228.1.2.2.2).length cap245]) (vs := [.int .i64 (y228.1.1), .slice A232 (y228.1.2.1).length cap233, .slice A238 (y228.1.2.2.1).length cap239, .slice A244 (y228.1.2.2.2).length cap245]) (by kernel_rfl) (by rfl) sz83 (by rfl) (by rfl) F295 (by simp only [List.length_cons, List.length_nil]; omega) ?_
                    intro w313 F314 hc315
                    replace F0 := F0.chg hc315 (Dj.of L0 (low1 G294))
                    replace F14 := F14.chg hc315 D298
                    replace F25 := F25.chg hc315 D299
                    replace F31 := F31.chg hc315 D300
                    replace F37 := F37.chg hc315 D301
                    replace F60 := F60.chg hc315 (dj1 D302)
                    replace F179 := F179.chg hc315 D303
                    replace F193 := F193.chg hc315 D304
                    replace F195 := F195.chg hc315 D305
                    replace F197 := F197.chg hc315 D306
                    replace F140 := F140.chg hc315 (dj1 D307)
                    replace F156 := F156.chg hc315 D308
                    replace F213 := F213.chg hc315 D309
                    replace F235 := F235.chg hc315 D310
                    replace F241 := F241.chg hc315 D311
                    replace F247 := F247.chg hc315 D312
                    replace hB := hB.inS hc315 (inLow (low1 G294))
                    replace hZ := Nat.le_trans hZ hc315.size
                    replace F314 : Cl w313 b292 83 [.int .i64 (y228.1.1), .slice A232 (y228.1.2.1).length cap233, .slice A238 (y228.1.2.2.1).length cap239, .slice A244 (y228.1.2.2.2).length cap245] := F314
                    clear F295
                    refine wS_pure 1 [(13, .bool (y228.2))] (by kernel_rfl) ?_
                    refine wS_end (by rfl) ?_
                    refine eX_then ?_
                    refine cW_seq ?_
                    refine cW_seq ?_
                    refine cW_region ?_
                    refine wS_loadA (d := 79) (T := 83) (ad := ⟨b292, 0, none⟩) (vs := [.int .i64 (y228.1.1), .slice A232 (y228.1.2.1).length cap233, .slice A238 (y228.1.2.2.1).length cap239, .slice A244 (y228.1.2.2.2).length cap245]) (by kernel_rfl) vt83 (fun i u hu => box_cells F314 0 hu (by rfl)) ?_
                    refine wS_loadA (d := 80) (T := 83) (ad := ⟨b49, 0, none⟩) (vs := [.int .i64 (y18.1.1), .slice A22 (y18.1.2.1).length cap23, .slice A28 (y18.1.2.2.1).length cap29, .slice A34 (y18.1.2.2.2).length cap35]) (by kernel_rfl) vt83 (fun i u hu => box_cells F60 0 hu (by rfl)) ?_
                    obtain ⟨y316, hy317, hm⟩ := bindE hm
                    refine wS_calls (d := 81) (f := 61) (vs := [.agg #[.int .i64 (y228.1.1), .slice A232 (y228.1.2.1).length cap233, .slice A238 (y228.1.2.2.1).length cap239, .slice A244 (y228.1.2.2.2).length cap245], .agg #[.int .i64 (y18.1.1), .slice A22 (y18.1.2.1).length cap23, .slice A28 (y18.1.2.2.1).length cap29, .slice A34 (y18.1.2.2.2).length cap35]]) (by kernel_rfl) ent61 (c_laws_eqWiring hy317 (F235.slr encI_ok) (F241.slr encI_ok) (F247.sl encI_ok) (F25.slr encI_ok) (F31.slr encI_ok) (F37.sl encI_ok)) ?_
                    rintro _ w318 ⟨rfl, hc319⟩
                    replace F0 := F0.chg hc319 Dj.nil
                    replace F14 := F14.chg hc319 Dj.nil
                    replace F25 := F25.chg hc319 Dj.nil
                    replace F31 := F31.chg hc319 Dj.nil
                    replace F37 := F37.chg hc319 Dj.nil
                    replace F60 := F60.chg hc319 notNil
                    replace F179 := F179.chg hc319 Dj.nil
                    replace F193 := F193.chg hc319 Dj.nil
                    replace F195 := F195.chg hc319 Dj.nil
                    replace F197 := F197.chg hc319 Dj.nil
                    replace F140 := F140.chg hc319 notNil
                    replace F156 := F156.chg hc319 Dj.nil
                    replace F213 := F213.chg hc319 Dj.nil
                    replace F235 := F235.chg hc319 Dj.nil
                    replace F241 := F241.chg hc319 Dj.nil
                    replace F247 := F247.chg hc319 Dj.nil
                    replace F314 := F314.chg hc319 notNil
                    replace hB := hB.inS hc319 inNil
                    replace hZ := Nat.le_trans hZ hc319.size
                    refine ⟨.bool (y316), rfl, ?_⟩
                    refine wS_pure 2 [(83, .bool (!y316)), (82, .bool (!y316))] (by kernel_rfl) ?_
                    refine wS_bool (!y316) (fun hb320 => ?_) (fun hb320 => ?_)
                    · have hm := condT hb320 hm
                      rewrite [hb320]
                      refine wS_pure 4 [(87, .bool (true)), (86, undef), (85, undef), (84, undef)] (by kernel_rfl) ?_
                      refine wS_end (by rfl) ?_
                      refine eX_then ?_
                      refine cW_prune [(7, .pointer (some ⟨b124, 0, none⟩)), (10, .int .i64 (y189.1)), (87, .bool (true))] (by kernel_rfl) (by kernel_rfl) (fun a321 => ?_)
                      refine cW_cond_t (by kernel_rfl) ?_
                      refine cW_seq ?_
                      refine cW_region ?_
                      refine wS_pure 1 [(2, .bool (false))] (by kernel_rfl) ?_
                      refine wS_end (by rfl) ?_
                      refine eX_then ?_
                      refine cW_ret ?_
                      refine eX_then_ret ?_
                      have hq : (some false : Option ((Bool))) = some _ := hm
                      replace hq := someE hq
                      subst hq
                      refine eX_ret (vs := [.bool (false)]) [.tmp 2] (by rfl) ⟨by (show lkE _ _ _ = _); kernel_rfl, trivial⟩ ?_
                      exact ⟨rfl, hB⟩
                    · have hm := condF hb320 hm
                      rewrite [hb320]
                      refine wS_pure 4 [(87, .bool (!(y228.2 == y18.2))), (86, .bool (!(y228.2 == y18.2))), (85, .bool (y18.2)), (84, .bool (y228.2))] (by kernel_rfl) ?_
                      refine wS_end (by rfl) ?_
                      refine eX_then ?_
                      refine cW_prune [(7, .pointer (some ⟨b124, 0, none⟩)), (10, .int .i64 (y189.1)), (87, .bool (!(y228.2 == y18.2)))] (by kernel_rfl) (by kernel_rfl) (fun a322 => ?_)
                      refine cW_cond (t := !(y228.2 == y18.2)) (by kernel_rfl) (fun hb323 => ?_) (fun hb323 => ?_)
                      · have hm := condT hb323 hm
                        refine cW_seq ?_
                        refine cW_region ?_
                        refine wS_pure 1 [(2, .bool (false))] (by kernel_rfl) ?_
                        refine wS_end (by rfl) ?_
                        refine eX_then ?_
                        refine cW_ret ?_
                        refine eX_then_ret ?_
                        have hq : (some false : Option ((Bool))) = some _ := hm
                        replace hq := someE hq
                        subst hq
                        refine eX_ret (vs := [.bool (false)]) [.tmp 2] (by rfl) ⟨by (show lkE _ _ _ = _); kernel_rfl, trivial⟩ ?_
                        exact ⟨rfl, hB⟩
                      · have hm := condF hb323 hm
                        refine cW_skip ?_
                        refine eX_then ?_
                        refine cW_seq ?_
                        refine cW_region ?_
                        refine wS_pure 1 [(11, .int .i64 (1))] (by kernel_rfl) ?_
                        refine wS_end (by rfl) ?_
                        refine eX_then ?_
                        refine cW_seq ?_
                        refine cW_region ?_
                        refine wS_loadA (d := 88) (T := 83) (ad := ⟨b124, 0, none⟩) (vs := [.int .i64 (y78.1.1), .slice A82 (y189.2.1).length cap83, .slice A88 (y189.2.2.1).length cap89, .slice A94 (y189.2.2.2).length cap95]) (by kernel_rfl) vt83 (fun i u hu => box_cells F140 0 hu (by rfl)) ?_
                        refine wS_pure 1 [(89, .int .i64 (1))] (by kernel_rfl) ?_
                        obtain ⟨y324, hy325, hm⟩ := bindE hm
                        refine wS_calls (d := 90) (f := 65) (vs := [.agg #[.int .i64 (y78.1.1), .slice A82 (y189.2.1).length cap83, .slice A88 (y189.2.2.1).length cap89, .slice A94 (y189.2.2.2).length cap95], .int .i64 (1)]) (by kernel_rfl) ent65 (c_laws_heldWiring hy325 (F193.slr encI_ok) (F195.slr encI_ok) (F197.sl encI_ok)) ?_
                        rintro _ w326 ⟨rfl, hc327⟩
                        replace F0 := F0.chg hc327 Dj.nil
                        replace F14 := F14.chg hc327 Dj.nil
                        replace F25 := F25.chg hc327 Dj.nil
                        replace F31 := F31.chg hc327 Dj.nil
                        replace F37 := F37.chg hc327 Dj.nil
                        replace F60 := F60.chg hc327 notNil
                        replace F179 := F179.chg hc327 Dj.nil
                        replace F193 := F193.chg hc327 Dj.nil
                        replace F195 := F195.chg hc327 Dj.nil
                        replace F197 := F197.chg hc327 Dj.nil
                        replace F140 := F140.chg hc327 notNil
                        replace F156 := F156.chg hc327 Dj.nil
                        replace F213 := F213.chg hc327 Dj.nil
                        replace F235 := F235.chg hc327 Dj.nil
                        replace F241 := F241.chg hc327 Dj.nil
                        replace F247 := F247.chg hc327 Dj.nil
                        replace F314 := F314.chg hc327 notNil
                        replace hB := hB.inS hc327 inNil
                        replace hZ := Nat.le_trans hZ hc327.size
                        refine ⟨.int .i64 (y324), rfl, ?_⟩
                        refine wS_pure 1 [(11, .int .i64 (y324))] (by kernel_rfl) ?_
                        refine wS_end (by rfl) ?_
                        refine eX_then ?_
                        refine cW_seq ?_
                        refine cW_seq ?_
                        refine cW_region ?_
                        refine wS_pure 2 [(92, .bool (decide (y324 < 0))), (91, .int .i64 (y324))] (by kernel_rfl) ?_
                        refine wS_end (by rfl) ?_
                        refine eX_then ?_
                        refine cW_cond (t := decide (y324 < 0)) (by kernel_rfl) (fun hb328 => ?_) (fun hb328 => ?_)
                        · have hm := condT hb328 hm
                          refine cW_seq ?_
                          refine cW_region ?_
                          refine wS_pure 1 [(2, .bool (false))] (by kernel_rfl) ?_
                          refine wS_end (by rfl) ?_
                          refine eX_then ?_
                          refine cW_ret ?_
                          refine eX_then_ret ?_
                          have hq : (some false : Option ((Bool))) = some _ := hm
                          replace hq := someE hq
                          subst hq
                          refine eX_ret (vs := [.bool (false)]) [.tmp 2] (by rfl) ⟨by (show lkE _ _ _ = _); kernel_rfl, trivial⟩ ?_
                          exact ⟨rfl, hB⟩
                        · have hm := condF hb328 hm
                          refine cW_skip ?_
                          refine eX_then ?_
                          refine cW_seq ?_
                          refine cW_seq ?_
                          refine cW_region ?_
                          refine wS_pure 3 [(95, .bool (y324 != y189.1)), (94, .int .i64 (y189.1)), (93, .int .i64 (y324))] (by kernel_rfl) ?_
                          refine wS_end (by rfl) ?_
                          refine eX_then ?_
                          refine cW_cond (t := y324 != y189.1) (by kernel_rfl) (fun hb329 => ?_) (fun hb329 => ?_)
                          · have hm := condT hb329 hm
                            refine cW_seq ?_
                            refine cW_region ?_
                            refine wS_pure 1 [(2, .bool (false))] (by kernel_rfl) ?_
                            refine wS_end (by rfl) ?_
                            refine eX_then ?_
                            refine cW_ret ?_
                            refine eX_then_ret ?_
                            have hq : (some false : Option ((Bool))) = some _ := hm
                            replace hq := someE hq
                            subst hq
                            refine eX_ret (vs := [.bool (false)]) [.tmp 2] (by rfl) ⟨by (show lkE _ _ _ = _); kernel_rfl, trivial⟩ ?_
                            exact ⟨rfl, hB⟩
                          · have hm := condF hb329 hm
                            refine cW_skip ?_
                            refine eX_then ?_
                            refine cW_seq ?_
                            refine cW_region ?_
                            refine wS_pure 1 [(2, .bool (true))] (by kernel_rfl) ?_
                            refine wS_end (by rfl) ?_
                            refine eX_then ?_
                            refine cW_ret ?_
                            have hq : (some true : Option ((Bool))) = some _ := hm
                            replace hq := someE hq
                            subst hq
                            refine eX_ret (vs := [.bool (true)]) [.tmp 2] (by rfl) ⟨by (show lkE _ _ _ = _); kernel_rfl, trivial⟩ ?_
                            exact ⟨rfl, hB⟩

end Go.Proofs.Ytgaecldkiijmpaa
