/- Printed walks: impl.line, impl.bent, impl.bentSteps, impl.BendTree, laws.b10Long, spec.l00From, (*spec.l00Src).next, (*spec.l00Src).pick, spec.l05DrawOk, spec.B10Pins, impl.ArePins, impl.hanan, impl.star, impl.BestRoot, impl.StarLength, laws.b10At, laws.b10Pin, spec.SpanningTree, spec.l01Before, spec.l01Sorted. -/
import Derived.Test.YtdmokbjaeikfdaaProg
import Derived.Test.YtdmokbjaeikfdaaWRt01
set_option linter.unusedSimpArgs false
set_option linter.unusedVariables false
namespace Go.Proofs.Ytdmokbjaeikfdaa
open Go.RowKit
attribute [local irreducible] wS cW eX wH

theorem ent19 : Ent Try.prog 19 := fun _ => by kernel_rfl
theorem ent20 : Ent Try.prog 20 := fun _ => by kernel_rfl
theorem ent23 : Ent Try.prog 23 := fun _ => by kernel_rfl
theorem ent24 : Ent Try.prog 24 := fun _ => by kernel_rfl
theorem ent25 : Ent Try.prog 25 := fun _ => by kernel_rfl
theorem ent27 : Ent Try.prog 27 := fun _ => by kernel_rfl
theorem ent28 : Ent Try.prog 28 := fun _ => by kernel_rfl
theorem ent29 : Ent Try.prog 29 := fun _ => by kernel_rfl
theorem ent30 : Ent Try.prog 30 := fun _ => by kernel_rfl
theorem ent31 : Ent Try.prog 31 := fun _ => by kernel_rfl
theorem ent33 : Ent Try.prog 33 := fun _ => by kernel_rfl
theorem ent46 : Ent Try.prog 46 := fun _ => by kernel_rfl
theorem ent47 : Ent Try.prog 47 := fun _ => by kernel_rfl
theorem ent48 : Ent Try.prog 48 := fun _ => by kernel_rfl
theorem ent65 : Ent Try.prog 65 := fun _ => by kernel_rfl
theorem ent66 : Ent Try.prog 66 := fun _ => by kernel_rfl
theorem ent68 : Ent Try.prog 68 := fun _ => by kernel_rfl
theorem ent85 : Ent Try.prog 85 := fun _ => by kernel_rfl
theorem ent86 : Ent Try.prog 86 := fun _ => by kernel_rfl
theorem vt5 : VarTy Try.prog 5 1 false := ⟨by kernel_rfl, by kernel_rfl⟩
theorem vt30 : VarTy Try.prog 30 1 false := ⟨by kernel_rfl, by kernel_rfl⟩
theorem vt75 : VarTy Try.prog 75 1 false := ⟨by kernel_rfl, by kernel_rfl⟩
theorem sl30 : SlTy Try.prog 30 5 1 := ⟨Try.underlying30, by kernel_rfl⟩
theorem el30 : ElTy Try.prog 30 5 1 (.int .u8 (0)) := ElTy.mk' Try.underlying30 (by kernel_rfl) (by rfl)
theorem el104 : ElTy Try.prog 104 26 1 (.slice none 0 0) := ElTy.mk' Try.underlying104 (by kernel_rfl) (by rfl)
theorem mk72 : MK Try.prog 74 ekIIII okIIII := by
  refine mkDeep (m := 4) (n := 141) laidOut (by omega) (of_decide_eq_true (by kernel_rfl)) (by kernel_rfl) (by kernel_rfl) (by kernel_rfl) (by kernel_rfl) (fun k hk => ?_) injIIII
  obtain ⟨h0, h1, h2, h3⟩ := okIIII_t hk
  exact ⟨by kernel_rfl, _, (kl_array2 (cs := [.int .i64 k.1, .int .i64 k.2.1, .int .i64 k.2.2.1, .int .i64 k.2.2.2]) (c0 := [.int .i64 k.1, .int .i64 k.2.1]) (c1 := [.int .i64 k.2.2.1, .int .i64 k.2.2.2]) Try.underlying74 (by kernel_rfl) (by kernel_rfl) (by kernel_rfl) (kl_struct2 (cs := [.int .i64 k.1, .int .i64 k.2.1]) (c0 := [.int .i64 k.1]) (c1 := [.int .i64 k.2.1]) Try.underlying34 (by kernel_rfl) (by kernel_rfl) (by kernel_rfl) (by kernel_rfl) (kl_int Try.underlying2 h0) (kl_int Try.underlying2 h1)) (kl_struct2 (cs := [.int .i64 k.2.2.1, .int .i64 k.2.2.2]) (c0 := [.int .i64 k.2.2.1]) (c1 := [.int .i64 k.2.2.2]) Try.underlying34 (by kernel_rfl) (by kernel_rfl) (by kernel_rfl) (by kernel_rfl) (kl_int Try.underlying2 h2) (kl_int Try.underlying2 h3)))⟩
theorem mp72 : MpTy Try.prog 72 74 4 (vB false) := ⟨Try.underlying72, by kernel_rfl⟩
theorem st30_9 : StrTy Try.prog 30 9 := ⟨⟨_, Try.underlying30, Try.underlying5⟩, Try.underlying9⟩
theorem sty9 : Try.prog.underlying 9 = some .string := Try.underlying9
theorem sz2 : pureRun Try.prog (sizeOf 2) = some 1 := by kernel_rfl
theorem sz3 : pureRun Try.prog (sizeOf 3) = some 1 := by kernel_rfl
theorem sz75 : pureRun Try.prog (sizeOf 75) = some 1 := by kernel_rfl

set_option maxRecDepth 100000 in
/-- impl.line -/
theorem c_impl_line {w0 : World} {p0_0 : Int} {p0_1 : Int} {p1_0 : Int} {p1_1 : Int} {r : (List (Int × Int))} (hm : m_impl_line p0_0 p0_1 p1_0 p1_1 = some r)  :
  Calls Try.prog 66 #[.agg #[.int .i64 (p0_0), .int .i64 (p0_1)], .agg #[.int .i64 (p1_0), .int .i64 (p1_1)]] w0 fun e w' => ∃ A100 cap100 fp100, e = .returned (.slice A100 (r).length cap100) ∧ Ow 2 encII 34 w' fp100 A100 cap100 r ∧ (∀ x ∈ fp100, w0.heap.size ≤ x) ∧ Chg [] w0 w' := by
 have hB : Chg [] w0 w0 := Chg.refl _ _
 have hZ := Nat.le_refl w0.heap.size
 unfold m_impl_line at hm
 refine enterE (N := 34) Try.func66 (by rfl) Try.ntmps66 (by simp) [(0, .agg #[.int .i64 (p0_0), .int .i64 (p0_1)]), (1, .agg #[.int .i64 (p1_0), .int .i64 (p1_1)])] (by rfl) (by kernel_rfl) (fun a => ?_)
 refine cW_seq ?_
 refine cW_region ?_
 refine wS_box (d := 2) (T := 34) (x := .agg #[.int .i64 (p0_0), .int .i64 (p0_1)]) (by kernel_rfl) ?_
 intro b1 w1 G1 F1 hc1
 replace F1 : Cl w1 b1 34 [.int .i64 (p0_0), .int .i64 (p0_1)] := F1
 replace hB := hB.inS hc1 inNil
 replace G1 := Nat.le_trans hZ G1
 replace hZ := Nat.le_trans hZ hc1.size
 refine wS_box (d := 3) (T := 34) (x := .agg #[.int .i64 (p1_0), .int .i64 (p1_1)]) (by kernel_rfl) ?_
 intro b2 w2 G2 F2 hc2
 replace F2 : Cl w2 b2 34 [.int .i64 (p1_0), .int .i64 (p1_1)] := F2
 have D1 : Dj [b1] [b2] := Dj.of (lt1 F1.lt) (low1 G2)
 replace F1 := F1.chg hc2 notNil
 replace hB := hB.inS hc2 inNil
 replace G2 := Nat.le_trans hZ G2
 replace hZ := Nat.le_trans hZ hc2.size
 refine wS_pure 1 [(4, .slice none 0 0)] (by kernel_rfl) ?_
 refine wS_end (by rfl) ?_
 refine eX_then ?_
 refine cW_seq ?_
 refine cW_region ?_
 refine wS_bs0 (α := Int × Int) (enc := encII) (d := 6) (t := 26) (T := 34) (by kernel_rfl) el26 ?_
 intro b3 w3 G3 F3 hc3
 have D2 : Dj [b1] [b3] := Dj.of (lt1 F1.lt) (low1 G3)
 have D3 : Dj [b2] [b3] := Dj.of (lt1 F2.lt) (low1 G3)
 replace F1 := F1.chg hc3 notNil
 replace F2 := F2.chg hc3 notNil
 replace hB := hB.inS hc3 inNil
 replace G3 := Nat.le_trans hZ G3
 replace G3 := low1 G3
 replace hZ := Nat.le_trans hZ hc3.size
 refine wS_pure 1 [(5, .slice (some ⟨b3, 0, none⟩) (([] : List (Int × Int))).length 0)] (by kernel_rfl) ?_
 refine wS_end (by rfl) ?_
 refine eX_then ?_
 refine cW_seq ?_
 obtain ⟨r1, hr1, hm⟩ := bindE hm
 have hm1 := hm
 refine cW_cut (fun a' w' => ∃ l1 : List (Int × Int), ∃ A1 : Option Addr, ∃ cap1 : Nat, ∃ fp1 : List Nat, l1 = r1 ∧ Fr 34 [(5, .slice A1 (l1).length cap1)] a' ∧ Ow 2 encII 34 w' fp1 A1 cap1 l1 ∧ (∀ x ∈ fp1, w0.heap.size ≤ x) ∧ Chg [] w0 w' ∧ w0.heap.size ≤ w'.heap.size) ?_ ?_
 ·refine cW_block ?_
  refine cW_loop _ (fun (s1 : (List (Int × Int)) × Int × Int) a' w' => ∃ l3 : List (Int × Int), ∃ A3 : Option Addr, ∃ cap3 : Nat, ∃ fp2 : List Nat, ∃ x1 : Int, ∃ x2 : Int, (l3, x1, x2) = s1 ∧ Fr 34 [(2, .pointer (some ⟨b1, 0, none⟩)), (3, .pointer (some ⟨b2, 0, none⟩)), (5, .slice A3 (l3).length cap3)] a' ∧ Cl w' b1 34 [.int .i64 (x1), .int .i64 (x2)] ∧ Cl w' b2 34 [.int .i64 (p1_0), .int .i64 (p1_1)] ∧ Ow 2 encII 34 w' fp2 A3 cap3 l3 ∧ (∀ x ∈ fp2, w0.heap.size ≤ x) ∧ Dj [b1] fp2 ∧ Dj [b2] fp2 ∧ Chg [] w0 w' ∧ w0.heap.size ≤ w'.heap.size) hr1 (fun hst => ⟨([] : List (Int × Int)), (some ⟨b3, 0, none⟩), 0, [b3], p0_0, p0_1, rfl, Fr.of hst (by kernel_rfl), F1, F2, F3, G3, D2, D3, hB, hZ⟩) ?_
  rintro _ c1 a' w4 ⟨l3, A3, cap3, fp2, x1, x2, rfl, hF1, F4, F5, F6, G4, D4, D5, hB, hZ⟩ hx1
  refine Fr.goOn hF1 (by kernel_rfl) ?_
  have hm := hx1
  unfold m_impl_line_s1 at hm
  refine cW_seq ?_
  refine cW_seq ?_
  refine cW_region ?_
  refine wS_loadA (d := 7) (T := 34) (ad := ⟨b1, 0, none⟩) (vs := [.int .i64 (x1), .int .i64 (x2)]) (by kernel_rfl) vt34 (fun i u hu => box_cells F4 0 hu (by rfl)) ?_
  refine wS_loadA (d := 8) (T := 34) (ad := ⟨b2, 0, none⟩) (vs := [.int .i64 (p1_0), .int .i64 (p1_1)]) (by kernel_rfl) vt34 (fun i u hu => box_cells F5 0 hu (by rfl)) ?_
  refine wS_neS (d := 9) (T := 34) (x := x1) (y := x2) (x' := p1_0) (y' := p1_1) (by kernel_rfl) eq34 ?_
  refine wS_end (by rfl) ?_
  refine eX_then ?_
  refine cW_cond (t := !(x1 == p1_0 && x2 == p1_1)) (by kernel_rfl) (fun hb1 => ?_) (fun hb1 => ?_)
  ·have hm := condT hb1 hm
   refine cW_skip ?_
   refine eX_then ?_
   refine cW_block ?_
   refine cW_seq ?_
   refine cW_drawnTail [] 18 (by kernel_rfl) (by kernel_rfl) (fun w5 hc4 => ?_)
   replace F4 := F4.chg hc4 notNil
   replace F5 := F5.chg hc4 notNil
   replace F6 := F6.chg hc4 Dj.nil
   replace hB := hB.inS hc4 inNil
   replace hZ := Nat.le_trans hZ hc4.size
   have hS := Chg.refl [] w5
   have Z1 := F4
   have Z2 := F5
   have Z3 := F6
   refine wH_take [0] [0] [(10, .pointer (some ⟨b1, 0, none⟩))] (by kernel_rfl) (qT (qT (qB (qL (qB (qT (qT qZ))))))) (by kernel_rfl) ?_
   refine wH_load1 (i := 1) (d := 11) (T := 2) (ad := ⟨b1, 0, none⟩) (v := .int .i64 (x1)) (by kernel_rfl) (qT (qT (qB (qL (qB (qT (qT qZ))))))) (by kernel_rfl) (by kernel_rfl) vt2 (fun W hW => (Z1.chg hW notNil).cell 0) ?_
   refine wH_take [2] [2, 1, 0] [(12, .pointer (some ⟨b2, 0, none⟩))] (by kernel_rfl) (qT (qT (qB (qL (qB (qT (qT qZ))))))) (by kernel_rfl) ?_
   refine wH_load1 (i := 3) (d := 13) (T := 2) (ad := ⟨b2, 0, none⟩) (v := .int .i64 (p1_0)) (by kernel_rfl) (qT (qT (qB (qL (qB (qT (qT qZ))))))) (by kernel_rfl) (by kernel_rfl) vt2 (fun W hW => (Z2.chg hW notNil).cell 0) ?_
   refine wH_take [4] [4, 3, 2, 1, 0] [(14, .pointer (some ⟨b1, 0, none⟩))] (by kernel_rfl) (qT (qT (qB (qL (qB (qT (qT qZ))))))) (by kernel_rfl) ?_
   refine wH_load1 (i := 5) (d := 15) (T := 2) (ad := ⟨b1, 0, none⟩) (v := .int .i64 (x1)) (by kernel_rfl) (qT (qT (qB (qL (qB (qT (qT qZ))))))) (by kernel_rfl) (by kernel_rfl) vt2 (fun W hW => (Z1.chg hW notNil).cell 0) ?_
   refine wH_take [6, 9] [9, 6, 5, 4, 3, 2, 1, 0] [(19, .pointer (some ⟨b1, 1, none⟩)), (16, .int .i64 (wr (p1_0 - x1)))] (by kernel_rfl) (qT (qT (qB (qL (qB (qT (qT qZ))))))) (by kernel_rfl) ?_
   refine wH_load1 (i := 10) (d := 20) (T := 2) (ad := ⟨b1, 1, none⟩) (v := .int .i64 (x2)) (by kernel_rfl) (qT (qT (qB (qL (qB (qT (qT qZ))))))) (by kernel_rfl) (by kernel_rfl) vt2 (fun W hW => (Z1.chg hW notNil).cell 1) ?_
   refine wH_take [11] [11, 10, 9, 6, 5, 4, 3, 2, 1, 0] [(21, .pointer (some ⟨b2, 1, none⟩))] (by kernel_rfl) (qT (qT (qB (qL (qB (qT (qT qZ))))))) (by kernel_rfl) ?_
   refine wH_load1 (i := 12) (d := 22) (T := 2) (ad := ⟨b2, 1, none⟩) (v := .int .i64 (p1_1)) (by kernel_rfl) (qT (qT (qB (qL (qB (qT (qT qZ))))))) (by kernel_rfl) (by kernel_rfl) vt2 (fun W hW => (Z2.chg hW notNil).cell 1) ?_
   refine wH_take [13] [13, 12, 11, 10, 9, 6, 5, 4, 3, 2, 1, 0] [(23, .pointer (some ⟨b1, 1, none⟩))] (by kernel_rfl) (qT (qT (qB (qL (qB (qT (qT qZ))))))) (by kernel_rfl) ?_
   refine wH_load1 (i := 14) (d := 24) (T := 2) (ad := ⟨b1, 1, none⟩) (v := .int .i64 (x2)) (by kernel_rfl) (qT (qT (qB (qL (qB (qT (qT qZ))))))) (by kernel_rfl) (by kernel_rfl) vt2 (fun W hW => (Z1.chg hW notNil).cell 1) ?_
   refine wH_take [15] [15, 14, 13, 12, 11, 10, 9, 6, 5, 4, 3, 2, 1, 0] [(25, .int .i64 (wr (p1_1 - x2)))] (by kernel_rfl) (qT (qT (qB (qL (qB (qT (qT qZ))))))) (by kernel_rfl) ?_
   refine wH_all [7] (by rfl) (by kernel_rfl) (by simp) ⟨⟨by kernel_rfl, ?_⟩, trivial⟩
   obtain ⟨y1, hy1, hm⟩ := bindE hm
   refine wS_calls (d := 17) (f := 85) (vs := [.int .i64 (wr (p1_0 - x1))]) (by kernel_rfl) ent85 (c_impl_side hy1) ?_
   rintro _ w6 ⟨rfl, hc5⟩
   replace F4 := F4.chg hc5 notNil
   replace F5 := F5.chg hc5 notNil
   replace F6 := F6.chg hc5 Dj.nil
   replace hB := hB.inS hc5 inNil
   have hSz := hS
   replace hS := hS.inS hc5 inNil
   replace hZ := Nat.le_trans hZ hc5.size
   refine ⟨.int .i64 (y1), rfl, ?_⟩
   refine wS_end (by kernel_rfl) ?_
   refine eX_KH hS ?_
   refine wH_take [8] [8, 7, 15, 14, 13, 12, 11, 10, 9, 6, 5, 4, 3, 2, 1, 0] [(18, .int .i64 (wr (x1 + y1)))] (by kernel_rfl) (qT (qT (qB (qL (qB (qT (qT qZ))))))) (by kernel_rfl) ?_
   refine wH_all [16] (by rfl) (by kernel_rfl) (by simp) ⟨⟨by kernel_rfl, ?_⟩, trivial⟩
   obtain ⟨y2, hy2, hm⟩ := bindE hm
   refine wS_calls (d := 26) (f := 85) (vs := [.int .i64 (wr (p1_1 - x2))]) (by kernel_rfl) ent85 (c_impl_side hy2) ?_
   rintro _ w7 ⟨rfl, hc6⟩
   replace F4 := F4.chg hc6 notNil
   replace F5 := F5.chg hc6 notNil
   replace F6 := F6.chg hc6 Dj.nil
   replace hB := hB.inS hc6 inNil
   have hSz := hS
   replace hS := hS.inS hc6 inNil
   replace hZ := Nat.le_trans hZ hc6.size
   refine ⟨.int .i64 (y2), rfl, ?_⟩
   refine wS_end (by kernel_rfl) ?_
   refine eX_KH hS ?_
   refine wH_take [17] [17, 16, 8, 7, 15, 14, 13, 12, 11, 10, 9, 6, 5, 4, 3, 2, 1, 0] [(27, .int .i64 (wr (x2 + y2)))] (by kernel_rfl) (qT (qT (qB (qL (qB (qT (qT qZ))))))) (by kernel_rfl) ?_
   refine wH_done (by kernel_rfl) ?_
   refine eX_tail ?_
   refine wS_pure 1 [(28, .agg #[.int .i64 (wr (x1 + y1)), .int .i64 (wr (x2 + y2))])] (by kernel_rfl) ?_
   refine wS_store (T := 34) (g := b1) (o := 0) (ad := ⟨b1, 0, none⟩) (v := .agg #[.int .i64 (wr (x1 + y1)), .int .i64 (wr (x2 + y2))]) (vs := [.int .i64 (wr (x1 + y1)), .int .i64 (wr (x2 + y2))]) (by kernel_rfl) (by rfl) sz34 (by rfl) (by rfl) F4 (by simp only [List.length_cons, List.length_nil]; omega) ?_
   intro w8 F7 hc7
   replace F5 := F5.chg hc7 (dj1 (D1).symm)
   replace F6 := F6.chg hc7 (D4).symm
   replace hB := hB.inS hc7 (inLow (low1 G1))
   replace hZ := Nat.le_trans hZ hc7.size
   replace F7 : Cl w8 b1 34 [.int .i64 (wr (x1 + y1)), .int .i64 (wr (x2 + y2))] := F7
   clear F4
   refine wS_end (by rfl) ?_
   refine eX_then ?_
   refine cW_prune [(2, .pointer (some ⟨b1, 0, none⟩)), (3, .pointer (some ⟨b2, 0, none⟩)), (5, .slice A3 (l3).length cap3)] (by kernel_rfl) (by kernel_rfl) (fun a1 => ?_)
   refine cW_region ?_
   refine wS_pure 1 [(29, .slice A3 (l3).length cap3)] (by kernel_rfl) ?_
   refine wS_loadA (d := 30) (T := 34) (ad := ⟨b1, 0, none⟩) (vs := [.int .i64 (wr (x1 + y1)), .int .i64 (wr (x2 + y2))]) (by kernel_rfl) vt34 (fun i u hu => box_cells F7 0 hu (by rfl)) ?_
   refine wS_bs (enc := encII) ([(wr (x1 + y1), wr (x2 + y2))] : List (Int × Int)) [.int .i64 (wr (x1 + y1)), .int .i64 (wr (x2 + y2))] (d := 31) (t := 26) (T := 34) (n := 1) (ps := [(0, .agg #[.int .i64 (wr (x1 + y1)), .int .i64 (wr (x2 + y2))])]) (by kernel_rfl) el26 encII_ok (by rfl) (by omega) (by omega) (by kernel_rfl) (by rfl) ?_
   intro b4 w9 G5 F8 hc8
   have D6 : Dj [b1] [b4] := Dj.of (lt1 F7.lt) (low1 G5)
   have D7 : Dj [b2] [b4] := Dj.of (lt1 F5.lt) (low1 G5)
   have D8 : Dj fp2 [b4] := Dj.of F6.low (low1 G5)
   replace F7 := F7.chg hc8 notNil
   replace F5 := F5.chg hc8 notNil
   replace F6 := F6.chg hc8 Dj.nil
   replace hB := hB.inS hc8 inNil
   replace G5 := Nat.le_trans hZ G5
   replace G5 := low1 G5
   replace hZ := Nat.le_trans hZ hc8.size
   obtain ⟨_, hk1, hm⟩ := bindE hm
   replace hk1 := apE hk1
   refine wS_append (enc := encII) (l := (l3 : List (Int × Int))) (l2 := (([(wr (x1 + y1), wr (x2 + y2))] : List (Int × Int)) : List (Int × Int))) (d := 32) (t := 26) (T := 34) (A := A3) (A2 := (some ⟨b4, 0, none⟩)) (cap := cap3) (cap2 := 1) (by kernel_rfl) el26 encII_ok F6 (F8.sl encII_ok) (by rfl) hk1 ?_
   intro w10 fp3 A4 cap4 F9 hc9 hp1
   have G6 := low_ap G4 hZ hp1
   have D9 : Dj [b1] fp3 := Dj.ap D4 (lt1 F7.lt) hp1
   have D10 : Dj [b2] fp3 := Dj.ap D5 (lt1 F5.lt) hp1
   have D11 : Dj [b4] fp3 := Dj.ap (D8).symm F8.low hp1
   replace F7 := F7.chg hc9 (dj1 D4)
   replace F5 := F5.chg hc9 (dj1 D5)
   replace F8 := F8.chg hc9 (D8).symm
   replace hB := hB.inS hc9 (inLow G4)
   replace hZ := Nat.le_trans hZ hc9.size
   refine wS_pure 1 [(5, .slice A4 (l3 ++ (([(wr (x1 + y1), wr (x2 + y2))] : List (Int × Int)))).length cap4)] (by kernel_rfl) ?_
   refine wS_end (by rfl) ?_
   refine eX_block ?_
   have hq : (some (Ctl.next ((l3 ++ (([(wr (x1 + y1), wr (x2 + y2))] : List (Int × Int))), wr (x1 + y1), wr (x2 + y2)))) : Option (Ctl ((List (Int × Int)) × Int × Int) ((List (Int × Int))))) = some _ := hm
   replace hq := someE hq
   subst hq
   exact eX_next hx1 (fun hst => ⟨l3 ++ (([(wr (x1 + y1), wr (x2 + y2))] : List (Int × Int))), A4, cap4, fp3, wr (x1 + y1), wr (x2 + y2), rfl, Fr.of hst (by kernel_rfl), F7, F5, F9, G6, D9, D10, hB, hZ⟩)
  ·have hm := condF hb1 hm
   refine cW_exit ?_
   refine eX_then_exit ?_
   have hq : (some (Ctl.out l3) : Option (Ctl ((List (Int × Int)) × Int × Int) ((List (Int × Int))))) = some _ := hm
   replace hq := someE hq
   subst hq
   refine eX_outX hx1 (fun hr2 => ?_)
   replace hr2 := hr2.symm
   subst hr2
   refine eX_block_hit ?_
   exact eX_J (fun hst => ⟨l3, A3, cap3, fp2, rfl, Fr.of hst (by kernel_rfl), F6, G4, hB, hZ⟩)
 ·rintro a' w11 ⟨l1, A1, cap1, fp1, hJ, hF2, F10, G7, hB, hZ⟩
  subst hJ
  refine Fr.goX hF2 (by kernel_rfl) ?_
  refine eX_then ?_
  refine cW_seq ?_
  refine cW_region ?_
  refine wS_pure 2 [(4, .slice A1 (l1).length cap1), (33, .slice A1 (l1).length cap1)] (by kernel_rfl) ?_
  refine wS_end (by rfl) ?_
  refine eX_then ?_
  refine cW_ret ?_
  have hq : (some l1 : Option ((List (Int × Int)))) = some _ := hm
  replace hq := someE hq
  subst hq
  refine eX_ret (vs := [.slice A1 (l1).length cap1]) [.tmp 4] (by rfl) ⟨by (show lkE _ _ _ = _); kernel_rfl, trivial⟩ ?_
  exact ⟨A1, cap1, fp1, rfl, F10, G7, hB⟩

set_option maxRecDepth 100000 in
/-- impl.bent -/
theorem c_impl_bent {w0 : World} {p0_0 : Int} {p0_1 : Int} {p1_0 : Int} {p1_1 : Int} {p2 : Bool} {r : (List (Int × Int))} (hm : m_impl_bent p0_0 p0_1 p1_0 p1_1 p2 = some r)  :
  Calls Try.prog 46 #[.agg #[.int .i64 (p0_0), .int .i64 (p0_1)], .agg #[.int .i64 (p1_0), .int .i64 (p1_1)], .bool (p2)] w0 fun e w' => ∃ A100 cap100 fp100, e = .returned (.slice A100 (r).length cap100) ∧ Ow 2 encII 34 w' fp100 A100 cap100 r ∧ (∀ x ∈ fp100, w0.heap.size ≤ x) ∧ Chg [] w0 w' := by
 have hB : Chg [] w0 w0 := Chg.refl _ _
 have hZ := Nat.le_refl w0.heap.size
 unfold m_impl_bent at hm
 refine enterE (N := 29) Try.func46 (by rfl) Try.ntmps46 (by simp) [(0, .agg #[.int .i64 (p0_0), .int .i64 (p0_1)]), (1, .agg #[.int .i64 (p1_0), .int .i64 (p1_1)]), (2, .bool (p2))] (by rfl) (by kernel_rfl) (fun a => ?_)
 refine cW_seq ?_
 refine cW_region ?_
 refine wS_box (d := 3) (T := 34) (x := .agg #[.int .i64 (p0_0), .int .i64 (p0_1)]) (by kernel_rfl) ?_
 intro b1 w1 G1 F1 hc1
 replace F1 : Cl w1 b1 34 [.int .i64 (p0_0), .int .i64 (p0_1)] := F1
 replace hB := hB.inS hc1 inNil
 replace G1 := Nat.le_trans hZ G1
 replace hZ := Nat.le_trans hZ hc1.size
 refine wS_box (d := 4) (T := 34) (x := .agg #[.int .i64 (p1_0), .int .i64 (p1_1)]) (by kernel_rfl) ?_
 intro b2 w2 G2 F2 hc2
 replace F2 : Cl w2 b2 34 [.int .i64 (p1_0), .int .i64 (p1_1)] := F2
 have D1 : Dj [b1] [b2] := Dj.of (lt1 F1.lt) (low1 G2)
 replace F1 := F1.chg hc2 notNil
 replace hB := hB.inS hc2 inNil
 replace G2 := Nat.le_trans hZ G2
 replace hZ := Nat.le_trans hZ hc2.size
 refine wS_pure 1 [(6, .slice none 0 0)] (by kernel_rfl) ?_
 refine wS_end (by rfl) ?_
 refine eX_then ?_
 refine cW_seq ?_
 refine cW_region ?_
 refine wS_pure 1 [(8, .pointer (some ⟨b1, 0, none⟩))] (by kernel_rfl) ?_
 refine wS_load1 (d := 9) (T := 2) (ad := ⟨b1, 0, none⟩) (v := .int .i64 (p0_0)) (by kernel_rfl) vt2 ((F1).cell 0) ?_
 refine wS_pure 1 [(10, .pointer (some ⟨b2, 1, none⟩))] (by kernel_rfl) ?_
 refine wS_load1 (d := 11) (T := 2) (ad := ⟨b2, 1, none⟩) (v := .int .i64 (p1_1)) (by kernel_rfl) vt2 ((F2).cell 1) ?_
 refine wS_pure 1 [(12, .agg #[.int .i64 (p0_0), .int .i64 (p1_1)])] (by kernel_rfl) ?_
 refine wS_alloc (d := 7) (T := 34) (z := .agg #[.int .i64 (0), .int .i64 (0)]) (by kernel_rfl) (by kernel_rfl) ?_
 intro b3 w3 G3 F3 hc3
 replace F3 : Cl w3 b3 34 [.int .i64 (0), .int .i64 (0)] := F3
 have D2 : Dj [b1] [b3] := Dj.of (lt1 F1.lt) (low1 G3)
 have D3 : Dj [b2] [b3] := Dj.of (lt1 F2.lt) (low1 G3)
 replace F1 := F1.chg hc3 notNil
 replace F2 := F2.chg hc3 notNil
 replace hB := hB.inS hc3 inNil
 replace G3 := Nat.le_trans hZ G3
 replace hZ := Nat.le_trans hZ hc3.size
 refine wS_store (T := 34) (g := b3) (o := 0) (ad := ⟨b3, 0, none⟩) (v := .agg #[.int .i64 (p0_0), .int .i64 (p1_1)]) (vs := [.int .i64 (p0_0), .int .i64 (p1_1)]) (by kernel_rfl) (by rfl) sz34 (by rfl) (by rfl) F3 (by simp only [List.length_cons, List.length_nil]; omega) ?_
 intro w4 F4 hc4
 replace F1 := F1.chg hc4 (dj1 D2)
 replace F2 := F2.chg hc4 (dj1 D3)
 replace hB := hB.inS hc4 (inLow (low1 G3))
 replace hZ := Nat.le_trans hZ hc4.size
 replace F4 : Cl w4 b3 34 [.int .i64 (p0_0), .int .i64 (p1_1)] := F4
 clear F3
 refine wS_end (by rfl) ?_
 refine eX_then ?_
 refine cW_seq ?_
 obtain ⟨s1, hs1, hm⟩ := bindE hm
 refine cW_cut (fun a' w' => ∃ x1 : Int, ∃ x2 : Int, (x1, x2) = s1 ∧ Fr 29 [(3, .pointer (some ⟨b1, 0, none⟩)), (4, .pointer (some ⟨b2, 0, none⟩)), (7, .pointer (some ⟨b3, 0, none⟩))] a' ∧ Cl w' b1 34 [.int .i64 (p0_0), .int .i64 (p0_1)] ∧ Cl w' b2 34 [.int .i64 (p1_0), .int .i64 (p1_1)] ∧ Cl w' b3 34 [.int .i64 (x1), .int .i64 (x2)] ∧ Chg [] w0 w' ∧ w0.heap.size ≤ w'.heap.size) ?_ ?_
 ·have hm := hs1
  refine cW_seq ?_
  refine cW_region ?_
  refine wS_pure 1 [(13, .bool (p2))] (by kernel_rfl) ?_
  refine wS_end (by rfl) ?_
  refine eX_then ?_
  refine cW_cond (t := p2) (by kernel_rfl) (fun hb1 => ?_) (fun hb1 => ?_)
  ·have hm := condT hb1 hm
   refine cW_region ?_
   refine wS_pure 1 [(14, .pointer (some ⟨b2, 0, none⟩))] (by kernel_rfl) ?_
   refine wS_load1 (d := 15) (T := 2) (ad := ⟨b2, 0, none⟩) (v := .int .i64 (p1_0)) (by kernel_rfl) vt2 ((F2).cell 0) ?_
   refine wS_pure 1 [(16, .pointer (some ⟨b1, 1, none⟩))] (by kernel_rfl) ?_
   refine wS_load1 (d := 17) (T := 2) (ad := ⟨b1, 1, none⟩) (v := .int .i64 (p0_1)) (by kernel_rfl) vt2 ((F1).cell 1) ?_
   refine wS_pure 1 [(18, .agg #[.int .i64 (p1_0), .int .i64 (p0_1)])] (by kernel_rfl) ?_
   refine wS_store (T := 34) (g := b3) (o := 0) (ad := ⟨b3, 0, none⟩) (v := .agg #[.int .i64 (p1_0), .int .i64 (p0_1)]) (vs := [.int .i64 (p1_0), .int .i64 (p0_1)]) (by kernel_rfl) (by rfl) sz34 (by rfl) (by rfl) F4 (by simp only [List.length_cons, List.length_nil]; omega) ?_
   intro w5 F5 hc5
   replace F1 := F1.chg hc5 (dj1 D2)
   replace F2 := F2.chg hc5 (dj1 D3)
   replace hB := hB.inS hc5 (inLow (low1 G3))
   replace hZ := Nat.le_trans hZ hc5.size
   replace F5 : Cl w5 b3 34 [.int .i64 (p1_0), .int .i64 (p0_1)] := F5
   clear F4
   refine wS_end (by rfl) ?_
   have hq : (some ((p1_0, p0_1)) : Option (Int × Int)) = some _ := hm
   replace hq := someE hq
   subst hq
   exact eX_J (fun hst => ⟨p1_0, p0_1, rfl, Fr.of hst (by kernel_rfl), F1, F2, F5, hB, hZ⟩)
  ·have hm := condF hb1 hm
   refine cW_skip ?_
   have hq : (some ((p0_0, p1_1)) : Option (Int × Int)) = some _ := hm
   replace hq := someE hq
   subst hq
   exact eX_J (fun hst => ⟨p0_0, p1_1, rfl, Fr.of hst (by kernel_rfl), F1, F2, F4, hB, hZ⟩)
 ·rintro a' w6 ⟨x1, x2, hJ, hF1, F6, F7, F8, hB, hZ⟩
  subst hJ
  refine Fr.goX hF1 (by kernel_rfl) ?_
  refine eX_then ?_
  refine cW_seq ?_
  obtain ⟨s2, hs2, hm⟩ := bindE hm
  refine cW_cut (fun a' w' => ∃ l4 : List (Int × Int), ∃ A1 : Option Addr, ∃ cap1 : Nat, ∃ fp1 : List Nat, l4 = s2 ∧ Fr 29 [(6, .slice A1 (l4).length cap1)] a' ∧ Ow 2 encII 34 w' fp1 A1 cap1 l4 ∧ (∀ x ∈ fp1, w0.heap.size ≤ x) ∧ Chg [] w0 w' ∧ w0.heap.size ≤ w'.heap.size) ?_ ?_
  ·have hm := hs2
   refine cW_drawnTail [] 8 (by kernel_rfl) (by kernel_rfl) (fun w7 hc6 => ?_)
   replace F6 := F6.chg hc6 notNil
   replace F7 := F7.chg hc6 notNil
   replace F8 := F8.chg hc6 notNil
   replace hB := hB.inS hc6 inNil
   replace hZ := Nat.le_trans hZ hc6.size
   have hS := Chg.refl [] w7
   have Z1 := F6
   have Z2 := F7
   have Z3 := F8
   refine wH_loadA (i := 0) (d := 19) (T := 34) (ad := ⟨b1, 0, none⟩) (vs := [.int .i64 (p0_0), .int .i64 (p0_1)]) (by kernel_rfl) (qT (qT (qT qZ))) (by kernel_rfl) (by kernel_rfl) vt34 (fun W hW i u hu => box_cells (Z1.chg hW notNil) 0 hu (by rfl)) ?_
   refine wH_loadA (i := 2) (d := 21) (T := 34) (ad := ⟨b1, 0, none⟩) (vs := [.int .i64 (p0_0), .int .i64 (p0_1)]) (by kernel_rfl) (qT (qT (qT qZ))) (by kernel_rfl) (by kernel_rfl) vt34 (fun W hW i u hu => box_cells (Z1.chg hW notNil) 0 hu (by rfl)) ?_
   refine wH_loadA (i := 3) (d := 22) (T := 34) (ad := ⟨b3, 0, none⟩) (vs := [.int .i64 (x1), .int .i64 (x2)]) (by kernel_rfl) (qT (qT (qT qZ))) (by kernel_rfl) (by kernel_rfl) vt34 (fun W hW i u hu => box_cells (Z3.chg hW notNil) 0 hu (by rfl)) ?_
   refine wH_loadA (i := 5) (d := 24) (T := 34) (ad := ⟨b3, 0, none⟩) (vs := [.int .i64 (x1), .int .i64 (x2)]) (by kernel_rfl) (qT (qT (qT qZ))) (by kernel_rfl) (by kernel_rfl) vt34 (fun W hW i u hu => box_cells (Z3.chg hW notNil) 0 hu (by rfl)) ?_
   refine wH_loadA (i := 6) (d := 25) (T := 34) (ad := ⟨b2, 0, none⟩) (vs := [.int .i64 (p1_0), .int .i64 (p1_1)]) (by kernel_rfl) (qT (qT (qT qZ))) (by kernel_rfl) (by kernel_rfl) vt34 (fun W hW i u hu => box_cells (Z2.chg hW notNil) 0 hu (by rfl)) ?_
   refine wH_all [1, 4] (by rfl) (by kernel_rfl) (by simp) ⟨⟨by kernel_rfl, ?_⟩, ⟨by kernel_rfl, ?_⟩, trivial⟩
   ·skip
    refine wS_bs (enc := encII) ([(p0_0, p0_1)] : List (Int × Int)) [.int .i64 (p0_0), .int .i64 (p0_1)] (d := 20) (t := 26) (T := 34) (n := 1) (ps := [(0, .agg #[.int .i64 (p0_0), .int .i64 (p0_1)])]) (by kernel_rfl) el26 encII_ok (by rfl) (by omega) (by omega) (by kernel_rfl) (by rfl) ?_
    intro b4 w8 G4 F9 hc7
    have D4 : Dj [b1] [b4] := Dj.of (lt1 F6.lt) (low1 G4)
    have D5 : Dj [b2] [b4] := Dj.of (lt1 F7.lt) (low1 G4)
    have D6 : Dj [b3] [b4] := Dj.of (lt1 F8.lt) (low1 G4)
    replace F6 := F6.chg hc7 notNil
    replace F7 := F7.chg hc7 notNil
    replace F8 := F8.chg hc7 notNil
    replace hB := hB.inS hc7 inNil
    have hSz := hS
    replace hS := hS.inS hc7 inNil
    have Gz1 := low1 (Nat.le_trans hSz.size G4)
    replace G4 := Nat.le_trans hZ G4
    replace G4 := low1 G4
    replace hZ := Nat.le_trans hZ hc7.size
    refine wS_end (by kernel_rfl) ?_
    refine eX_KH hS ?_
    refine wH_all [4] (by rfl) (by kernel_rfl) (by simp) ⟨⟨by kernel_rfl, ?_⟩, trivial⟩
    obtain ⟨y1, hy1, hm⟩ := bindE hm
    refine wS_calls (d := 23) (f := 66) (vs := [.agg #[.int .i64 (p0_0), .int .i64 (p0_1)], .agg #[.int .i64 (x1), .int .i64 (x2)]]) (by kernel_rfl) ent66 (c_impl_line hy1) ?_
    rintro _ w9 ⟨A2, cap2, fp2, rfl, F10, G5, hc8⟩
    have D7 : Dj [b1] fp2 := Dj.of (lt1 F6.lt) G5
    have D8 : Dj [b2] fp2 := Dj.of (lt1 F7.lt) G5
    have D9 : Dj [b3] fp2 := Dj.of (lt1 F8.lt) G5
    have D10 : Dj [b4] fp2 := Dj.of F9.low G5
    replace F6 := F6.chg hc8 notNil
    replace F7 := F7.chg hc8 notNil
    replace F8 := F8.chg hc8 notNil
    replace F9 := F9.chg hc8 Dj.nil
    replace hB := hB.inS hc8 inNil
    have hSz := hS
    replace hS := hS.inS hc8 inNil
    replace G5 := low_le hZ G5
    replace hZ := Nat.le_trans hZ hc8.size
    refine ⟨.slice A2 (y1).length cap2, rfl, ?_⟩
    refine wS_end (by kernel_rfl) ?_
    refine eX_KH hS ?_
    refine wH_all [7] (by rfl) (by kernel_rfl) (by simp) ⟨⟨by kernel_rfl, ?_⟩, trivial⟩
    obtain ⟨y2, hy2, hm⟩ := bindE hm
    refine wS_calls (d := 26) (f := 66) (vs := [.agg #[.int .i64 (x1), .int .i64 (x2)], .agg #[.int .i64 (p1_0), .int .i64 (p1_1)]]) (by kernel_rfl) ent66 (c_impl_line hy2) ?_
    rintro _ w10 ⟨A3, cap3, fp3, rfl, F11, G6, hc9⟩
    have D11 : Dj [b1] fp3 := Dj.of (lt1 F6.lt) G6
    have D12 : Dj [b2] fp3 := Dj.of (lt1 F7.lt) G6
    have D13 : Dj [b3] fp3 := Dj.of (lt1 F8.lt) G6
    have D14 : Dj [b4] fp3 := Dj.of F9.low G6
    have D15 : Dj fp2 fp3 := Dj.of F10.low G6
    replace F6 := F6.chg hc9 notNil
    replace F7 := F7.chg hc9 notNil
    replace F8 := F8.chg hc9 notNil
    replace F9 := F9.chg hc9 Dj.nil
    replace F10 := F10.chg hc9 Dj.nil
    replace hB := hB.inS hc9 inNil
    have hSz := hS
    replace hS := hS.inS hc9 inNil
    replace G6 := low_le hZ G6
    replace hZ := Nat.le_trans hZ hc9.size
    refine ⟨.slice A3 (y2).length cap3, rfl, ?_⟩
    refine wS_end (by kernel_rfl) ?_
    refine eX_KH hS ?_
    refine wH_done (by kernel_rfl) ?_
    refine eX_tail ?_
    refine wS_rowsL3 (k := 2) (enc := encII) (l1 := ([(p0_0, p0_1)] : List (Int × Int))) (B1 := (some ⟨b4, 0, none⟩)) (c1 := 1) (l2 := y1) (B2 := A2) (c2 := cap2) (l3 := y2) (B3 := A3) (c3 := cap3) (d := 27) (t := 104) (T := 26) (by kernel_rfl) el104 (F9.sl encII_ok) F9.cap_le (F10.sl encII_ok) F10.cap_le (F11.sl encII_ok) F11.cap_le ?_
    intro b5 w11 G7 F12 hc10
    have K1 := F12.cap_le
    have F13 := F12.slr
    have Gm1 := low1 (Nat.le_trans hZ G7)
    have Rt1 : Rt w0.heap.size [] ([b5] ++ ([b4] ++ (fp2 ++ (fp3 ++ [])))) := Rt.app (Rt.low Gm1) (Rt.app (Rt.low G4) (Rt.app (Rt.low G5) (Rt.app (Rt.low G6) Rt.nil)))
    have D16 : Dj [b1] [b5] := Dj.of (lt1 F6.lt) (low1 G7)
    have D17 : Dj [b1] ([b5] ++ ([b4] ++ (fp2 ++ (fp3 ++ [])))) := Dj.app D16 (Dj.app D4 (Dj.app D7 (Dj.app D11 Dj.nil)))
    have D18 : Dj [b2] [b5] := Dj.of (lt1 F7.lt) (low1 G7)
    have D19 : Dj [b2] ([b5] ++ ([b4] ++ (fp2 ++ (fp3 ++ [])))) := Dj.app D18 (Dj.app D5 (Dj.app D8 (Dj.app D12 Dj.nil)))
    have D20 : Dj [b3] [b5] := Dj.of (lt1 F8.lt) (low1 G7)
    have D21 : Dj [b3] ([b5] ++ ([b4] ++ (fp2 ++ (fp3 ++ [])))) := Dj.app D20 (Dj.app D6 (Dj.app D9 (Dj.app D13 Dj.nil)))
    have D22 : Dj [b4] [b5] := Dj.of F9.low (low1 G7)
    have D23 : Dj fp2 [b5] := Dj.of F10.low (low1 G7)
    have D24 : Dj fp3 [b5] := Dj.of F11.low (low1 G7)
    replace F6 := F6.chg hc10 notNil
    replace F7 := F7.chg hc10 notNil
    replace F8 := F8.chg hc10 notNil
    replace F9 := F9.chg hc10 Dj.nil
    replace F10 := F10.chg hc10 Dj.nil
    replace F11 := F11.chg hc10 Dj.nil
    replace hB := hB.inS hc10 inNil
    replace hZ := Nat.le_trans hZ hc10.size
    obtain ⟨y3, hy3, hm⟩ := bindE hm
    refine wS_calls (d := 28) (f := 65) (vs := [.slice (some ⟨b5, 0, none⟩) (([([(p0_0, p0_1)] : List (Int × Int)), y1, y2] : List (List (Int × Int)))).length 3]) (by kernel_rfl) ent65 (c_slices_Concat_impl_Point_impl_Point hy3 F13) ?_
    rintro _ w12 ⟨A4, cap4, fp4, rfl, F14, G8, hc11⟩
    have D25 : Dj [b1] fp4 := Dj.of (lt1 F6.lt) G8
    have D26 : Dj [b2] fp4 := Dj.of (lt1 F7.lt) G8
    have D27 : Dj [b3] fp4 := Dj.of (lt1 F8.lt) G8
    have D28 : Dj [b4] fp4 := Dj.of F9.low G8
    have D29 : Dj fp2 fp4 := Dj.of F10.low G8
    have D30 : Dj fp3 fp4 := Dj.of F11.low G8
    have D31 : Dj ([b5] ++ ([b4] ++ (fp2 ++ (fp3 ++ [])))) fp4 := Dj.of F13.low G8
    replace F6 := F6.chg hc11 notNil
    replace F7 := F7.chg hc11 notNil
    replace F8 := F8.chg hc11 notNil
    replace F9 := F9.chg hc11 Dj.nil
    replace F10 := F10.chg hc11 Dj.nil
    replace F11 := F11.chg hc11 Dj.nil
    replace F13 := F13.chg hc11 Dj.nil
    replace F12 := F12.chg hc11 Dj.nil
    replace hB := hB.inS hc11 inNil
    replace G8 := low_le hZ G8
    replace hZ := Nat.le_trans hZ hc11.size
    refine ⟨.slice A4 (y3).length cap4, rfl, ?_⟩
    refine wS_pure 1 [(6, .slice A4 (y3).length cap4)] (by kernel_rfl) ?_
    refine wS_end (by rfl) ?_
    have hq : (some y3 : Option ((List (Int × Int)))) = some _ := hm
    replace hq := someE hq
    subst hq
    exact eX_J (fun hst => ⟨y3, A4, cap4, fp4, rfl, Fr.of hst (by kernel_rfl), F14, G8, hB, hZ⟩)
   ·skip
    obtain ⟨y4, hy4, hm⟩ := bindE hm
    refine wS_calls (d := 23) (f := 66) (vs := [.agg #[.int .i64 (p0_0), .int .i64 (p0_1)], .agg #[.int .i64 (x1), .int .i64 (x2)]]) (by kernel_rfl) ent66 (c_impl_line hy4) ?_
    rintro _ w13 ⟨A5, cap5, fp5, rfl, F15, G9, hc12⟩
    have D32 : Dj [b1] fp5 := Dj.of (lt1 F6.lt) G9
    have D33 : Dj [b2] fp5 := Dj.of (lt1 F7.lt) G9
    have D34 : Dj [b3] fp5 := Dj.of (lt1 F8.lt) G9
    replace F6 := F6.chg hc12 notNil
    replace F7 := F7.chg hc12 notNil
    replace F8 := F8.chg hc12 notNil
    replace hB := hB.inS hc12 inNil
    have hSz := hS
    replace hS := hS.inS hc12 inNil
    replace G9 := low_le hZ G9
    replace hZ := Nat.le_trans hZ hc12.size
    refine ⟨.slice A5 (y4).length cap5, rfl, ?_⟩
    refine wS_end (by kernel_rfl) ?_
    refine eX_KH hS ?_
    refine wH_all [1, 7] (by rfl) (by kernel_rfl) (by simp) ⟨⟨by kernel_rfl, ?_⟩, ⟨by kernel_rfl, ?_⟩, trivial⟩
    ·skip
     refine wS_bs (enc := encII) ([(p0_0, p0_1)] : List (Int × Int)) [.int .i64 (p0_0), .int .i64 (p0_1)] (d := 20) (t := 26) (T := 34) (n := 1) (ps := [(0, .agg #[.int .i64 (p0_0), .int .i64 (p0_1)])]) (by kernel_rfl) el26 encII_ok (by rfl) (by omega) (by omega) (by kernel_rfl) (by rfl) ?_
     intro b6 w14 G10 F16 hc13
     have D35 : Dj [b1] [b6] := Dj.of (lt1 F6.lt) (low1 G10)
     have D36 : Dj [b2] [b6] := Dj.of (lt1 F7.lt) (low1 G10)
     have D37 : Dj [b3] [b6] := Dj.of (lt1 F8.lt) (low1 G10)
     have D38 : Dj fp5 [b6] := Dj.of F15.low (low1 G10)
     replace F6 := F6.chg hc13 notNil
     replace F7 := F7.chg hc13 notNil
     replace F8 := F8.chg hc13 notNil
     replace F15 := F15.chg hc13 Dj.nil
     replace hB := hB.inS hc13 inNil
     have hSz := hS
     replace hS := hS.inS hc13 inNil
     have Gz2 := low1 (Nat.le_trans hSz.size G10)
     replace G10 := Nat.le_trans hZ G10
     replace G10 := low1 G10
     replace hZ := Nat.le_trans hZ hc13.size
     refine wS_end (by kernel_rfl) ?_
     refine eX_KH hS ?_
     refine wH_all [7] (by rfl) (by kernel_rfl) (by simp) ⟨⟨by kernel_rfl, ?_⟩, trivial⟩
     obtain ⟨y5, hy5, hm⟩ := bindE hm
     refine wS_calls (d := 26) (f := 66) (vs := [.agg #[.int .i64 (x1), .int .i64 (x2)], .agg #[.int .i64 (p1_0), .int .i64 (p1_1)]]) (by kernel_rfl) ent66 (c_impl_line hy5) ?_
     rintro _ w15 ⟨A6, cap6, fp6, rfl, F17, G11, hc14⟩
     have D39 : Dj [b1] fp6 := Dj.of (lt1 F6.lt) G11
     have D40 : Dj [b2] fp6 := Dj.of (lt1 F7.lt) G11
     have D41 : Dj [b3] fp6 := Dj.of (lt1 F8.lt) G11
     have D42 : Dj fp5 fp6 := Dj.of F15.low G11
     have D43 : Dj [b6] fp6 := Dj.of F16.low G11
     replace F6 := F6.chg hc14 notNil
     replace F7 := F7.chg hc14 notNil
     replace F8 := F8.chg hc14 notNil
     replace F15 := F15.chg hc14 Dj.nil
     replace F16 := F16.chg hc14 Dj.nil
     replace hB := hB.inS hc14 inNil
     have hSz := hS
     replace hS := hS.inS hc14 inNil
     replace G11 := low_le hZ G11
     replace hZ := Nat.le_trans hZ hc14.size
     refine ⟨.slice A6 (y5).length cap6, rfl, ?_⟩
     refine wS_end (by kernel_rfl) ?_
     refine eX_KH hS ?_
     refine wH_done (by kernel_rfl) ?_
     refine eX_tail ?_
     refine wS_rowsL3 (k := 2) (enc := encII) (l1 := ([(p0_0, p0_1)] : List (Int × Int))) (B1 := (some ⟨b6, 0, none⟩)) (c1 := 1) (l2 := y4) (B2 := A5) (c2 := cap5) (l3 := y5) (B3 := A6) (c3 := cap6) (d := 27) (t := 104) (T := 26) (by kernel_rfl) el104 (F16.sl encII_ok) F16.cap_le (F15.sl encII_ok) F15.cap_le (F17.sl encII_ok) F17.cap_le ?_
     intro b7 w16 G12 F18 hc15
     have K2 := F18.cap_le
     have F19 := F18.slr
     have Gm2 := low1 (Nat.le_trans hZ G12)
     have Rt2 : Rt w0.heap.size [] ([b7] ++ ([b6] ++ (fp5 ++ (fp6 ++ [])))) := Rt.app (Rt.low Gm2) (Rt.app (Rt.low G10) (Rt.app (Rt.low G9) (Rt.app (Rt.low G11) Rt.nil)))
     have D44 : Dj [b1] [b7] := Dj.of (lt1 F6.lt) (low1 G12)
     have D45 : Dj [b1] ([b7] ++ ([b6] ++ (fp5 ++ (fp6 ++ [])))) := Dj.app D44 (Dj.app D35 (Dj.app D32 (Dj.app D39 Dj.nil)))
     have D46 : Dj [b2] [b7] := Dj.of (lt1 F7.lt) (low1 G12)
     have D47 : Dj [b2] ([b7] ++ ([b6] ++ (fp5 ++ (fp6 ++ [])))) := Dj.app D46 (Dj.app D36 (Dj.app D33 (Dj.app D40 Dj.nil)))
     have D48 : Dj [b3] [b7] := Dj.of (lt1 F8.lt) (low1 G12)
     have D49 : Dj [b3] ([b7] ++ ([b6] ++ (fp5 ++ (fp6 ++ [])))) := Dj.app D48 (Dj.app D37 (Dj.app D34 (Dj.app D41 Dj.nil)))
     have D50 : Dj fp5 [b7] := Dj.of F15.low (low1 G12)
     have D51 : Dj [b6] [b7] := Dj.of F16.low (low1 G12)
     have D52 : Dj fp6 [b7] := Dj.of F17.low (low1 G12)
     replace F6 := F6.chg hc15 notNil
     replace F7 := F7.chg hc15 notNil
     replace F8 := F8.chg hc15 notNil
     replace F15 := F15.chg hc15 Dj.nil
     replace F16 := F16.chg hc15 Dj.nil
     replace F17 := F17.chg hc15 Dj.nil
     replace hB := hB.inS hc15 inNil
     replace hZ := Nat.le_trans hZ hc15.size
     obtain ⟨y6, hy6, hm⟩ := bindE hm
     refine wS_calls (d := 28) (f := 65) (vs := [.slice (some ⟨b7, 0, none⟩) (([([(p0_0, p0_1)] : List (Int × Int)), y4, y5] : List (List (Int × Int)))).length 3]) (by kernel_rfl) ent65 (c_slices_Concat_impl_Point_impl_Point hy6 F19) ?_
     rintro _ w17 ⟨A7, cap7, fp7, rfl, F20, G13, hc16⟩
     have D53 : Dj [b1] fp7 := Dj.of (lt1 F6.lt) G13
     have D54 : Dj [b2] fp7 := Dj.of (lt1 F7.lt) G13
     have D55 : Dj [b3] fp7 := Dj.of (lt1 F8.lt) G13
     have D56 : Dj fp5 fp7 := Dj.of F15.low G13
     have D57 : Dj [b6] fp7 := Dj.of F16.low G13
     have D58 : Dj fp6 fp7 := Dj.of F17.low G13
     have D59 : Dj ([b7] ++ ([b6] ++ (fp5 ++ (fp6 ++ [])))) fp7 := Dj.of F19.low G13
     replace F6 := F6.chg hc16 notNil
     replace F7 := F7.chg hc16 notNil
     replace F8 := F8.chg hc16 notNil
     replace F15 := F15.chg hc16 Dj.nil
     replace F16 := F16.chg hc16 Dj.nil
     replace F17 := F17.chg hc16 Dj.nil
     replace F19 := F19.chg hc16 Dj.nil
     replace F18 := F18.chg hc16 Dj.nil
     replace hB := hB.inS hc16 inNil
     replace G13 := low_le hZ G13
     replace hZ := Nat.le_trans hZ hc16.size
     refine ⟨.slice A7 (y6).length cap7, rfl, ?_⟩
     refine wS_pure 1 [(6, .slice A7 (y6).length cap7)] (by kernel_rfl) ?_
     refine wS_end (by rfl) ?_
     have hq : (some y6 : Option ((List (Int × Int)))) = some _ := hm
     replace hq := someE hq
     subst hq
     exact eX_J (fun hst => ⟨y6, A7, cap7, fp7, rfl, Fr.of hst (by kernel_rfl), F20, G13, hB, hZ⟩)
    ·skip
     obtain ⟨y7, hy7, hm⟩ := bindE hm
     refine wS_calls (d := 26) (f := 66) (vs := [.agg #[.int .i64 (x1), .int .i64 (x2)], .agg #[.int .i64 (p1_0), .int .i64 (p1_1)]]) (by kernel_rfl) ent66 (c_impl_line hy7) ?_
     rintro _ w18 ⟨A8, cap8, fp8, rfl, F21, G14, hc17⟩
     have D60 : Dj [b1] fp8 := Dj.of (lt1 F6.lt) G14
     have D61 : Dj [b2] fp8 := Dj.of (lt1 F7.lt) G14
     have D62 : Dj [b3] fp8 := Dj.of (lt1 F8.lt) G14
     have D63 : Dj fp5 fp8 := Dj.of F15.low G14
     replace F6 := F6.chg hc17 notNil
     replace F7 := F7.chg hc17 notNil
     replace F8 := F8.chg hc17 notNil
     replace F15 := F15.chg hc17 Dj.nil
     replace hB := hB.inS hc17 inNil
     have hSz := hS
     replace hS := hS.inS hc17 inNil
     replace G14 := low_le hZ G14
     replace hZ := Nat.le_trans hZ hc17.size
     refine ⟨.slice A8 (y7).length cap8, rfl, ?_⟩
     refine wS_end (by kernel_rfl) ?_
     refine eX_KH hS ?_
     refine wH_all [1] (by rfl) (by kernel_rfl) (by simp) ⟨⟨by kernel_rfl, ?_⟩, trivial⟩
     refine wS_bs (enc := encII) ([(p0_0, p0_1)] : List (Int × Int)) [.int .i64 (p0_0), .int .i64 (p0_1)] (d := 20) (t := 26) (T := 34) (n := 1) (ps := [(0, .agg #[.int .i64 (p0_0), .int .i64 (p0_1)])]) (by kernel_rfl) el26 encII_ok (by rfl) (by omega) (by omega) (by kernel_rfl) (by rfl) ?_
     intro b8 w19 G15 F22 hc18
     have D64 : Dj [b1] [b8] := Dj.of (lt1 F6.lt) (low1 G15)
     have D65 : Dj [b2] [b8] := Dj.of (lt1 F7.lt) (low1 G15)
     have D66 : Dj [b3] [b8] := Dj.of (lt1 F8.lt) (low1 G15)
     have D67 : Dj fp5 [b8] := Dj.of F15.low (low1 G15)
     have D68 : Dj fp8 [b8] := Dj.of F21.low (low1 G15)
     replace F6 := F6.chg hc18 notNil
     replace F7 := F7.chg hc18 notNil
     replace F8 := F8.chg hc18 notNil
     replace F15 := F15.chg hc18 Dj.nil
     replace F21 := F21.chg hc18 Dj.nil
     replace hB := hB.inS hc18 inNil
     have hSz := hS
     replace hS := hS.inS hc18 inNil
     have Gz3 := low1 (Nat.le_trans hSz.size G15)
     replace G15 := Nat.le_trans hZ G15
     replace G15 := low1 G15
     replace hZ := Nat.le_trans hZ hc18.size
     refine wS_end (by kernel_rfl) ?_
     refine eX_KH hS ?_
     refine wH_done (by kernel_rfl) ?_
     refine eX_tail ?_
     refine wS_rowsL3 (k := 2) (enc := encII) (l1 := ([(p0_0, p0_1)] : List (Int × Int))) (B1 := (some ⟨b8, 0, none⟩)) (c1 := 1) (l2 := y4) (B2 := A5) (c2 := cap5) (l3 := y7) (B3 := A8) (c3 := cap8) (d := 27) (t := 104) (T := 26) (by kernel_rfl) el104 (F22.sl encII_ok) F22.cap_le (F15.sl encII_ok) F15.cap_le (F21.sl encII_ok) F21.cap_le ?_
     intro b9 w20 G16 F23 hc19
     have K3 := F23.cap_le
     have F24 := F23.slr
     have Gm3 := low1 (Nat.le_trans hZ G16)
     have Rt3 : Rt w0.heap.size [] ([b9] ++ ([b8] ++ (fp5 ++ (fp8 ++ [])))) := Rt.app (Rt.low Gm3) (Rt.app (Rt.low G15) (Rt.app (Rt.low G9) (Rt.app (Rt.low G14) Rt.nil)))
     have D69 : Dj [b1] [b9] := Dj.of (lt1 F6.lt) (low1 G16)
     have D70 : Dj [b1] ([b9] ++ ([b8] ++ (fp5 ++ (fp8 ++ [])))) := Dj.app D69 (Dj.app D64 (Dj.app D32 (Dj.app D60 Dj.nil)))
     have D71 : Dj [b2] [b9] := Dj.of (lt1 F7.lt) (low1 G16)
     have D72 : Dj [b2] ([b9] ++ ([b8] ++ (fp5 ++ (fp8 ++ [])))) := Dj.app D71 (Dj.app D65 (Dj.app D33 (Dj.app D61 Dj.nil)))
     have D73 : Dj [b3] [b9] := Dj.of (lt1 F8.lt) (low1 G16)
     have D74 : Dj [b3] ([b9] ++ ([b8] ++ (fp5 ++ (fp8 ++ [])))) := Dj.app D73 (Dj.app D66 (Dj.app D34 (Dj.app D62 Dj.nil)))
     have D75 : Dj fp5 [b9] := Dj.of F15.low (low1 G16)
     have D76 : Dj fp8 [b9] := Dj.of F21.low (low1 G16)
     have D77 : Dj [b8] [b9] := Dj.of F22.low (low1 G16)
     replace F6 := F6.chg hc19 notNil
     replace F7 := F7.chg hc19 notNil
     replace F8 := F8.chg hc19 notNil
     replace F15 := F15.chg hc19 Dj.nil
     replace F21 := F21.chg hc19 Dj.nil
     replace F22 := F22.chg hc19 Dj.nil
     replace hB := hB.inS hc19 inNil
     replace hZ := Nat.le_trans hZ hc19.size
     obtain ⟨y8, hy8, hm⟩ := bindE hm
     refine wS_calls (d := 28) (f := 65) (vs := [.slice (some ⟨b9, 0, none⟩) (([([(p0_0, p0_1)] : List (Int × Int)), y4, y7] : List (List (Int × Int)))).length 3]) (by kernel_rfl) ent65 (c_slices_Concat_impl_Point_impl_Point hy8 F24) ?_
     rintro _ w21 ⟨A9, cap9, fp9, rfl, F25, G17, hc20⟩
     have D78 : Dj [b1] fp9 := Dj.of (lt1 F6.lt) G17
     have D79 : Dj [b2] fp9 := Dj.of (lt1 F7.lt) G17
     have D80 : Dj [b3] fp9 := Dj.of (lt1 F8.lt) G17
     have D81 : Dj fp5 fp9 := Dj.of F15.low G17
     have D82 : Dj fp8 fp9 := Dj.of F21.low G17
     have D83 : Dj [b8] fp9 := Dj.of F22.low G17
     have D84 : Dj ([b9] ++ ([b8] ++ (fp5 ++ (fp8 ++ [])))) fp9 := Dj.of F24.low G17
     replace F6 := F6.chg hc20 notNil
     replace F7 := F7.chg hc20 notNil
     replace F8 := F8.chg hc20 notNil
     replace F15 := F15.chg hc20 Dj.nil
     replace F21 := F21.chg hc20 Dj.nil
     replace F22 := F22.chg hc20 Dj.nil
     replace F24 := F24.chg hc20 Dj.nil
     replace F23 := F23.chg hc20 Dj.nil
     replace hB := hB.inS hc20 inNil
     replace G17 := low_le hZ G17
     replace hZ := Nat.le_trans hZ hc20.size
     refine ⟨.slice A9 (y8).length cap9, rfl, ?_⟩
     refine wS_pure 1 [(6, .slice A9 (y8).length cap9)] (by kernel_rfl) ?_
     refine wS_end (by rfl) ?_
     have hq : (some y8 : Option ((List (Int × Int)))) = some _ := hm
     replace hq := someE hq
     subst hq
     exact eX_J (fun hst => ⟨y8, A9, cap9, fp9, rfl, Fr.of hst (by kernel_rfl), F25, G17, hB, hZ⟩)
  ·rintro a' w22 ⟨l4, A1, cap1, fp1, hJ, hF2, F26, G18, hB, hZ⟩
   subst hJ
   refine Fr.goX hF2 (by kernel_rfl) ?_
   refine eX_then ?_
   refine cW_ret ?_
   have hq : (some l4 : Option ((List (Int × Int)))) = some _ := hm
   replace hq := someE hq
   subst hq
   refine eX_ret (vs := [.slice A1 (l4).length cap1]) [.tmp 6] (by rfl) ⟨by (show lkE _ _ _ = _); kernel_rfl, trivial⟩ ?_
   exact ⟨A1, cap1, fp1, rfl, F26, G18, hB⟩

set_option maxRecDepth 100000 in
/-- impl.bentSteps -/
theorem c_impl_bentSteps {w0 : World} {l0 : List (Int × Int)} {A0 : Option Addr} {cap0 : Nat} {fp0 : List Nat} {l1 : List (List (Int))} {A1 : Option Addr} {cap1 : Nat} {fp1 : List Nat} {p2 : ByteArray} {r : (Int)} (hm : m_impl_bentSteps l0 l1 p2 = some r) (F0 : Sl 2 encII w0 fp0 A0 l0) (F1 : SlR 1 encI w0 fp1 A1 l1) :
  Calls Try.prog 25 #[.slice A0 (l0).length cap0, .slice A1 (l1).length cap1, .string (p2)] w0 fun e w' => e = .returned (.int .i64 (r)) ∧ Chg [] w0 w' := by
 have L0 := F0.low
 have L1 := F1.low
 have hB : Chg [] w0 w0 := Chg.refl _ _
 have hZ := Nat.le_refl w0.heap.size
 unfold m_impl_bentSteps at hm
 refine enterE (N := 67) Try.func25 (by rfl) Try.ntmps25 (by simp) [(0, .slice A0 (l0).length cap0), (1, .slice A1 (l1).length cap1), (2, .string (p2))] (by rfl) (by kernel_rfl) (fun a => ?_)
 refine cW_seq ?_
 refine cW_region ?_
 refine wS_pure 1 [(6, .int .i64 (0))] (by kernel_rfl) ?_
 refine wS_end (by rfl) ?_
 refine eX_then ?_
 refine cW_seq ?_
 refine cW_region ?_
 refine wS_makeMap (V := Bool) (d := 14) (T := 72) (by kernel_rfl) okIIII ekIIII vB ?_
 intro b1 w1 G1 F2 hc1
 replace F0 := F0.chg hc1 Dj.nil
 replace F1 := F1.chg hc1 Dj.nil
 replace hB := hB.inS hc1 inNil
 replace G1 := Nat.le_trans hZ G1
 replace G1 := low1 G1
 replace hZ := Nat.le_trans hZ hc1.size
 refine wS_pure 1 [(7, .map (some b1))] (by kernel_rfl) ?_
 refine wS_end (by rfl) ?_
 refine eX_then ?_
 refine cW_seq ?_
 refine cW_seq ?_
 refine cW_region ?_
 refine wS_pure 3 [(17, .int .i64 (0)), (16, .int .i64 (((l1).length : Int))), (15, .slice A1 (l1).length cap1)] (by kernel_rfl) ?_
 refine wS_end (by rfl) ?_
 refine eX_then ?_
 obtain ⟨r1, hr1, hm⟩ := bindE hm
 have hm1 := hm
 refine cW_cut (fun a' w' => ∃ l2 : List ((Int × Int × Int × Int) × Bool), l2 = r1 ∧ Fr 67 [(7, .map (some b1))] a' ∧ Mp okIIII ekIIII vB w' b1 l2 ∧ Chg [] w0 w' ∧ w0.heap.size ≤ w'.heap.size) ?_ ?_
 ·refine cW_block ?_
  refine cW_loop _ (fun (s1 : Int × (List ((Int × Int × Int × Int) × Bool))) a' w' => ∃ x1 : Int, ∃ l3 : List ((Int × Int × Int × Int) × Bool), (x1, l3) = s1 ∧ Fr 67 [(0, .slice A0 (l0).length cap0), (2, .string (p2)), (7, .map (some b1)), (15, .slice A1 (l1).length cap1), (16, .int .i64 (((l1).length : Int))), (17, .int .i64 (x1))] a' ∧ Sl 2 encII w' fp0 A0 l0 ∧ SlR 1 encI w' fp1 A1 l1 ∧ Mp okIIII ekIIII vB w' b1 l3 ∧ Chg [] w0 w' ∧ w0.heap.size ≤ w'.heap.size) hr1 (fun hst => ⟨0, ([] : List ((Int × Int × Int × Int) × Bool)), rfl, Fr.of hst (by kernel_rfl), F0, F1, F2, hB, hZ⟩) ?_
  rintro _ c1 a' w2 ⟨x1, l3, rfl, hF1, F3, F4, F5, hB, hZ⟩ hx1
  refine Fr.goOn hF1 (by kernel_rfl) ?_
  have hm := hx1
  unfold m_impl_bentSteps_s3 at hm
  refine cW_seq ?_
  refine cW_region ?_
  refine wS_pure 1 [(18, .bool (decide (x1 < (((l1).length : Int)))))] (by kernel_rfl) ?_
  refine wS_end (by rfl) ?_
  refine eX_then ?_
  refine cW_seq ?_
  refine cW_cond (t := decide (x1 < (((l1).length : Int)))) (by kernel_rfl) (fun hb1 => ?_) (fun hb1 => ?_)
  ·have hm := condT hb1 hm
   refine cW_skip ?_
   refine eX_then ?_
   refine cW_seq ?_
   refine cW_block ?_
   refine cW_seq ?_
   refine cW_region ?_
   refine wS_pure 1 [(19, .int .i64 (x1))] (by kernel_rfl) ?_
   obtain ⟨x2, hx2, hm⟩ := bindE hm
   refine wS_idx (d := 20) (T := 40) (A := A1) (n := (l1).length) (cap := cap1) (kd := .i64) (m := x1) (by kernel_rfl) sl40 (F4.is hx2) ?_
   obtain ⟨A2, cap2, hc2, F6, K1⟩ := SlR.row F4 hx2
   refine wS_load1 (d := 21) (T := 66) (ad := (elA A1 1 (x1) 0)) (v := .slice A2 (x2).length cap2) (by kernel_rfl) vt66 hc2 ?_
   refine wS_pure 2 [(9, .slice A2 (x2).length cap2), (8, .int .i64 (x1))] (by kernel_rfl) ?_
   refine wS_end (by rfl) ?_
   refine eX_then ?_
   refine cW_seq ?_
   refine cW_drawnTail [] 16 (by kernel_rfl) (by kernel_rfl) (fun w3 hc3 => ?_)
   replace F3 := F3.chg hc3 Dj.nil
   replace F4 := F4.chg hc3 Dj.nil
   replace F5 := F5.chg hc3 Dj.nil
   replace F6 := F6.chg hc3 Dj.nil
   replace hB := hB.inS hc3 inNil
   replace hZ := Nat.le_trans hZ hc3.size
   have hS := Chg.refl [] w3
   have Z1 := F3
   have Z2 := F4
   have Z3 := F5
   have Z4 := F6
   refine wH_take [0, 1] [1, 0] [(23, .slice A2 (x2).length cap2), (22, .slice A0 (l0).length cap0)] (by kernel_rfl) (qT (qT (qB (qT (qL (qB (qT (qT qZ)))))))) (by kernel_rfl) ?_
   obtain ⟨x3, hx3, hm⟩ := bindE hm
   refine wH_idx (i := 2) (d := 24) (T := 66) (A := A2) (n := (x2).length) (cap := cap2) (kd := .i64) (m := 0) (by kernel_rfl) (qT (qT (qB (qT (qL (qB (qT (qT qZ)))))))) (by kernel_rfl) (by kernel_rfl) sl66 (F6.is hx3) ?_
   refine wH_load1 (i := 3) (d := 25) (T := 2) (ad := (elA A2 1 (0) 0)) (v := .int .i64 (x3)) (by kernel_rfl) (qT (qT (qB (qT (qL (qB (qT (qT qZ)))))))) (by kernel_rfl) (by kernel_rfl) vt2 (fun W hW => Sl.cell (Z4.chg hW Dj.nil) hx3 0 (by rfl)) ?_
   obtain ⟨x4, hx4, hm⟩ := bindE hm
   refine wH_idx (i := 4) (d := 26) (T := 26) (A := A0) (n := (l0).length) (cap := cap0) (kd := .i64) (m := x3) (by kernel_rfl) (qT (qT (qB (qT (qL (qB (qT (qT qZ)))))))) (by kernel_rfl) (by kernel_rfl) sl26 (F3.is hx4) ?_
   refine wH_loadA (i := 5) (d := 27) (T := 34) (ad := (elA A0 2 (x3) 0)) (vs := [.int .i64 (x4.1), .int .i64 (x4.2)]) (by kernel_rfl) (qT (qT (qB (qT (qL (qB (qT (qT qZ)))))))) (by kernel_rfl) (by kernel_rfl) vt34 (fun W hW i u hu => Sl.cells_at (Z1.chg hW Dj.nil) hx4 0 hu (by rfl)) ?_
   refine wH_take [6, 7] [7, 6, 5, 4, 3, 2, 1, 0] [(29, .slice A2 (x2).length cap2), (28, .slice A0 (l0).length cap0)] (by kernel_rfl) (qT (qT (qB (qT (qL (qB (qT (qT qZ)))))))) (by kernel_rfl) ?_
   obtain ⟨x5, hx5, hm⟩ := bindE hm
   refine wH_idx (i := 8) (d := 30) (T := 66) (A := A2) (n := (x2).length) (cap := cap2) (kd := .i64) (m := 1) (by kernel_rfl) (qT (qT (qB (qT (qL (qB (qT (qT qZ)))))))) (by kernel_rfl) (by kernel_rfl) sl66 (F6.is hx5) ?_
   refine wH_load1 (i := 9) (d := 31) (T := 2) (ad := (elA A2 1 (1) 0)) (v := .int .i64 (x5)) (by kernel_rfl) (qT (qT (qB (qT (qL (qB (qT (qT qZ)))))))) (by kernel_rfl) (by kernel_rfl) vt2 (fun W hW => Sl.cell (Z4.chg hW Dj.nil) hx5 0 (by rfl)) ?_
   obtain ⟨x6, hx6, hm⟩ := bindE hm
   refine wH_idx (i := 10) (d := 32) (T := 26) (A := A0) (n := (l0).length) (cap := cap0) (kd := .i64) (m := x5) (by kernel_rfl) (qT (qT (qB (qT (qL (qB (qT (qT qZ)))))))) (by kernel_rfl) (by kernel_rfl) sl26 (F3.is hx6) ?_
   refine wH_loadA (i := 11) (d := 33) (T := 34) (ad := (elA A0 2 (x5) 0)) (vs := [.int .i64 (x6.1), .int .i64 (x6.2)]) (by kernel_rfl) (qT (qT (qB (qT (qL (qB (qT (qT qZ)))))))) (by kernel_rfl) (by kernel_rfl) vt34 (fun W hW i u hu => Sl.cells_at (Z1.chg hW Dj.nil) hx6 0 hu (by rfl)) ?_
   refine wH_take [12, 13] [13, 12, 11, 10, 9, 8, 7, 6, 5, 4, 3, 2, 1, 0] [(35, .int .i64 (x1)), (34, .string (p2))] (by kernel_rfl) (qT (qT (qB (qT (qL (qB (qT (qT qZ)))))))) (by kernel_rfl) ?_
   obtain ⟨x7, hx7, hm⟩ := bindE hm
   refine wH_sidx (i := 14) (d := 36) (T := 9) (s := p2) (kd := .i64) (m := x1) (by kernel_rfl) (qT (qT (qB (qT (qL (qB (qT (qT qZ)))))))) (by kernel_rfl) (by kernel_rfl) sty9 hx7 ?_
   refine wH_take [15] [15, 14, 13, 12, 11, 10, 9, 8, 7, 6, 5, 4, 3, 2, 1, 0] [(37, .bool (x7 == 120))] (by kernel_rfl) (qT (qT (qB (qT (qL (qB (qT (qT qZ)))))))) (by kernel_rfl) ?_
   refine wH_done (by kernel_rfl) ?_
   refine eX_tail ?_
   obtain ⟨y1, hy1, hm⟩ := bindE hm
   refine wS_calls (d := 38) (f := 46) (vs := [.agg #[.int .i64 (x4.1), .int .i64 (x4.2)], .agg #[.int .i64 (x6.1), .int .i64 (x6.2)], .bool (x7 == 120)]) (by kernel_rfl) ent46 (c_impl_bent hy1) ?_
   rintro _ w4 ⟨A3, cap3, fp2, rfl, F7, G2, hc4⟩
   have D1 : Dj [b1] fp2 := Dj.of F5.low G2
   replace F3 := F3.chg hc4 Dj.nil
   replace F4 := F4.chg hc4 Dj.nil
   replace F5 := F5.chg hc4 Dj.nil
   replace F6 := F6.chg hc4 Dj.nil
   replace hB := hB.inS hc4 inNil
   replace G2 := low_le hZ G2
   replace hZ := Nat.le_trans hZ hc4.size
   refine ⟨.slice A3 (y1).length cap3, rfl, ?_⟩
   refine wS_pure 1 [(10, .slice A3 (y1).length cap3)] (by kernel_rfl) ?_
   refine wS_end (by rfl) ?_
   refine eX_then ?_
   refine cW_prune [(0, .slice A0 (l0).length cap0), (2, .string (p2)), (7, .map (some b1)), (10, .slice A3 (y1).length cap3), (15, .slice A1 (l1).length cap1), (16, .int .i64 (((l1).length : Int))), (17, .int .i64 (x1))] (by kernel_rfl) (by kernel_rfl) (fun a1 => ?_)
   refine cW_seq ?_
   refine cW_region ?_
   refine wS_pure 1 [(11, .int .i64 (1))] (by kernel_rfl) ?_
   refine wS_end (by rfl) ?_
   refine eX_then ?_
   obtain ⟨r2, hr2, hm⟩ := bindE hm
   have hm2 := hm
   refine cW_cut (fun a' w' => ∃ l4 : List ((Int × Int × Int × Int) × Bool), l4 = r2 ∧ Fr 67 [(0, .slice A0 (l0).length cap0), (2, .string (p2)), (7, .map (some b1)), (15, .slice A1 (l1).length cap1), (16, .int .i64 (((l1).length : Int))), (17, .int .i64 (x1))] a' ∧ Sl 2 encII w' fp0 A0 l0 ∧ SlR 1 encI w' fp1 A1 l1 ∧ Mp okIIII ekIIII vB w' b1 l4 ∧ Chg [] w0 w' ∧ w0.heap.size ≤ w'.heap.size) ?_ ?_
   ·refine cW_block ?_
    refine cW_loop _ (fun (s2 : Int × (List ((Int × Int × Int × Int) × Bool))) a' w' => ∃ x8 : Int, ∃ l5 : List ((Int × Int × Int × Int) × Bool), (x8, l5) = s2 ∧ Fr 67 [(0, .slice A0 (l0).length cap0), (2, .string (p2)), (7, .map (some b1)), (10, .slice A3 (y1).length cap3), (11, .int .i64 (x8)), (15, .slice A1 (l1).length cap1), (16, .int .i64 (((l1).length : Int))), (17, .int .i64 (x1))] a' ∧ Sl 2 encII w' fp0 A0 l0 ∧ SlR 1 encI w' fp1 A1 l1 ∧ Mp okIIII ekIIII vB w' b1 l5 ∧ Ow 2 encII 34 w' fp2 A3 cap3 y1 ∧ Chg [] w0 w' ∧ w0.heap.size ≤ w'.heap.size) hr2 (fun hst => ⟨1, l3, rfl, Fr.of hst (by kernel_rfl), F3, F4, F5, F7, hB, hZ⟩) ?_
    rintro _ c2 a' w5 ⟨x8, l5, rfl, hF2, F8, F9, F10, F11, hB, hZ⟩ hx8
    refine Fr.goOn hF2 (by kernel_rfl) ?_
    have hm := hx8
    unfold m_impl_bentSteps_s4 at hm
    refine cW_seq ?_
    refine cW_seq ?_
    refine cW_region ?_
    refine wS_pure 4 [(42, .bool (decide (x8 < (((y1).length : Int))))), (41, .int .i64 (((y1).length : Int))), (40, .slice A3 (y1).length cap3), (39, .int .i64 (x8))] (by kernel_rfl) ?_
    refine wS_end (by rfl) ?_
    refine eX_then ?_
    refine cW_cond (t := decide (x8 < (((y1).length : Int)))) (by kernel_rfl) (fun hb2 => ?_) (fun hb2 => ?_)
    ·have hm := condT hb2 hm
     refine cW_skip ?_
     refine eX_then ?_
     refine cW_seq ?_
     refine cW_block ?_
     obtain ⟨s3, hs1, hm⟩ := bindE hm
     refine cW_cut (fun a' w' => ∃ l6 : List ((Int × Int × Int × Int) × Bool), l6 = s3 ∧ Fr 67 [(0, .slice A0 (l0).length cap0), (2, .string (p2)), (7, .map (some b1)), (10, .slice A3 (y1).length cap3), (11, .int .i64 (x8)), (15, .slice A1 (l1).length cap1), (16, .int .i64 (((l1).length : Int))), (17, .int .i64 (x1))] a' ∧ Sl 2 encII w' fp0 A0 l0 ∧ SlR 1 encI w' fp1 A1 l1 ∧ Mp okIIII ekIIII vB w' b1 l6 ∧ Ow 2 encII 34 w' fp2 A3 cap3 y1 ∧ Chg [] w0 w' ∧ w0.heap.size ≤ w'.heap.size) ?_ ?_
     ·have hm := hs1
      refine cW_seq ?_
      obtain ⟨s4, hs2, hm⟩ := bindE hm
      refine cW_cut (fun a' w' => ∃ b2 : Nat, ∃ x9 : Int, ∃ x10 : Int, ∃ b3 : Nat, ∃ x11 : Int, ∃ x12 : Int, (x9, x10, x11, x12) = s4 ∧ Fr 67 [(0, .slice A0 (l0).length cap0), (2, .string (p2)), (7, .map (some b1)), (10, .slice A3 (y1).length cap3), (11, .int .i64 (x8)), (12, .pointer (some ⟨b2, 0, none⟩)), (13, .pointer (some ⟨b3, 0, none⟩)), (15, .slice A1 (l1).length cap1), (16, .int .i64 (((l1).length : Int))), (17, .int .i64 (x1))] a' ∧ Sl 2 encII w' fp0 A0 l0 ∧ SlR 1 encI w' fp1 A1 l1 ∧ Mp okIIII ekIIII vB w' b1 l5 ∧ Ow 2 encII 34 w' fp2 A3 cap3 y1 ∧ Cl w' b2 34 [.int .i64 (x9), .int .i64 (x10)] ∧ Cl w' b3 34 [.int .i64 (x11), .int .i64 (x12)] ∧ w0.heap.size ≤ b2 ∧ w0.heap.size ≤ b3 ∧ Dj [b1] [b2] ∧ Dj fp2 [b2] ∧ Dj [b3] [b2] ∧ Dj [b1] [b3] ∧ Dj fp2 [b3] ∧ Chg [] w0 w' ∧ w0.heap.size ≤ w'.heap.size) ?_ ?_
      ·have hm := hs2
       refine cW_drawnTail [] 12 (by kernel_rfl) (by kernel_rfl) (fun w6 hc5 => ?_)
       replace F8 := F8.chg hc5 Dj.nil
       replace F9 := F9.chg hc5 Dj.nil
       replace F10 := F10.chg hc5 Dj.nil
       replace F11 := F11.chg hc5 Dj.nil
       replace hB := hB.inS hc5 inNil
       replace hZ := Nat.le_trans hZ hc5.size
       have hS := Chg.refl [] w6
       have Z5 := F8
       have Z6 := F9
       have Z7 := F10
       have Z8 := F11
       refine wH_take [0, 1, 2] [2, 1, 0] [(47, .int .i64 (wr (x8 - 1))), (46, .int .i64 (x8)), (45, .slice A3 (y1).length cap3)] (by kernel_rfl) (qT (qT (qT (qT (qB (qT (qL (qB (qT (qB (qT (qL (qB (qT (qT qZ))))))))))))))) (by kernel_rfl) ?_
       obtain ⟨x13, hx9, hm⟩ := bindE hm
       refine wH_idx (i := 3) (d := 48) (T := 26) (A := A3) (n := (y1).length) (cap := cap3) (kd := .i64) (m := wr (x8 - 1)) (by kernel_rfl) (qT (qT (qT (qT (qB (qT (qL (qB (qT (qB (qT (qL (qB (qT (qT qZ))))))))))))))) (by kernel_rfl) (by kernel_rfl) sl26 ((F11.sl encII_ok).is hx9) ?_
       refine wH_loadA (i := 4) (d := 49) (T := 34) (ad := (elA A3 2 (wr (x8 - 1)) 0)) (vs := [.int .i64 (x13.1), .int .i64 (x13.2)]) (by kernel_rfl) (qT (qT (qT (qT (qB (qT (qL (qB (qT (qB (qT (qL (qB (qT (qT qZ))))))))))))))) (by kernel_rfl) (by kernel_rfl) vt34 (fun W hW i u hu => Sl.cells_at ((Z8.chg hW Dj.nil).sl encII_ok) hx9 0 hu (by rfl)) ?_
       refine wH_take [5, 6] [6, 5, 4, 3, 2, 1, 0] [(51, .int .i64 (x8)), (50, .slice A3 (y1).length cap3)] (by kernel_rfl) (qT (qT (qT (qT (qB (qT (qL (qB (qT (qB (qT (qL (qB (qT (qT qZ))))))))))))))) (by kernel_rfl) ?_
       obtain ⟨x14, hx10, hm⟩ := bindE hm
       refine wH_idx (i := 7) (d := 52) (T := 26) (A := A3) (n := (y1).length) (cap := cap3) (kd := .i64) (m := x8) (by kernel_rfl) (qT (qT (qT (qT (qB (qT (qL (qB (qT (qB (qT (qL (qB (qT (qT qZ))))))))))))))) (by kernel_rfl) (by kernel_rfl) sl26 ((F11.sl encII_ok).is hx10) ?_
       refine wH_loadA (i := 8) (d := 53) (T := 34) (ad := (elA A3 2 (x8) 0)) (vs := [.int .i64 (x14.1), .int .i64 (x14.2)]) (by kernel_rfl) (qT (qT (qT (qT (qB (qT (qL (qB (qT (qB (qT (qL (qB (qT (qT qZ))))))))))))))) (by kernel_rfl) (by kernel_rfl) vt34 (fun W hW i u hu => Sl.cells_at ((Z8.chg hW Dj.nil).sl encII_ok) hx10 0 hu (by rfl)) ?_
       refine wH_all [9, 10] (by rfl) (by kernel_rfl) (by simp) ⟨⟨by kernel_rfl, ?_⟩, ⟨by kernel_rfl, ?_⟩, trivial⟩
       ·skip
        refine wS_alloc (d := 12) (T := 34) (z := .agg #[.int .i64 (0), .int .i64 (0)]) (by kernel_rfl) (by kernel_rfl) ?_
        intro b4 w7 G3 F12 hc6
        replace F12 : Cl w7 b4 34 [.int .i64 (0), .int .i64 (0)] := F12
        have D2 : Dj [b1] [b4] := Dj.of F10.low (low1 G3)
        have D3 : Dj fp2 [b4] := Dj.of F11.low (low1 G3)
        replace F8 := F8.chg hc6 Dj.nil
        replace F9 := F9.chg hc6 Dj.nil
        replace F10 := F10.chg hc6 Dj.nil
        replace F11 := F11.chg hc6 Dj.nil
        replace hB := hB.inS hc6 inNil
        have hSz := hS
        replace hS := hS.inS hc6 inNil
        have Gz1 := low1 (Nat.le_trans hSz.size G3)
        replace G3 := Nat.le_trans hZ G3
        replace hZ := Nat.le_trans hZ hc6.size
        refine wS_end (by kernel_rfl) ?_
        refine eX_KH hS ?_
        refine wH_all [10] (by rfl) (by kernel_rfl) (by simp) ⟨⟨by kernel_rfl, ?_⟩, trivial⟩
        refine wS_alloc (d := 13) (T := 34) (z := .agg #[.int .i64 (0), .int .i64 (0)]) (by kernel_rfl) (by kernel_rfl) ?_
        intro b5 w8 G4 F13 hc7
        replace F13 : Cl w8 b5 34 [.int .i64 (0), .int .i64 (0)] := F13
        have D4 : Dj [b1] [b5] := Dj.of F10.low (low1 G4)
        have D5 : Dj fp2 [b5] := Dj.of F11.low (low1 G4)
        have D6 : Dj [b4] [b5] := Dj.of (lt1 F12.lt) (low1 G4)
        replace F8 := F8.chg hc7 Dj.nil
        replace F9 := F9.chg hc7 Dj.nil
        replace F10 := F10.chg hc7 Dj.nil
        replace F11 := F11.chg hc7 Dj.nil
        replace F12 := F12.chg hc7 notNil
        replace hB := hB.inS hc7 inNil
        have hSz := hS
        replace hS := hS.inS hc7 inNil
        have Gz2 := low1 (Nat.le_trans hSz.size G4)
        replace G4 := Nat.le_trans hZ G4
        replace hZ := Nat.le_trans hZ hc7.size
        refine wS_end (by kernel_rfl) ?_
        refine eX_KH hS ?_
        refine wH_all [11] (by rfl) (by kernel_rfl) (by simp) ⟨⟨by kernel_rfl, ?_⟩, trivial⟩
        refine wS_store (T := 34) (g := b4) (o := 0) (ad := ⟨b4, 0, none⟩) (v := .agg #[.int .i64 (x13.1), .int .i64 (x13.2)]) (vs := [.int .i64 (x13.1), .int .i64 (x13.2)]) (by kernel_rfl) (by rfl) sz34 (by rfl) (by rfl) F12 (by simp only [List.length_cons, List.length_nil]; omega) ?_
        intro w9 F14 hc8
        replace F8 := F8.chg hc8 (Dj.of L0 (low1 G3))
        replace F9 := F9.chg hc8 (Dj.of L1 (low1 G3))
        replace F10 := F10.chg hc8 D2
        replace F11 := F11.chg hc8 D3
        replace F13 := F13.chg hc8 (dj1 (D6).symm)
        replace hB := hB.inS hc8 (inLow (low1 G3))
        have hSz := hS
        replace hS := hS.inS hc8 (inLow Gz1)
        replace hZ := Nat.le_trans hZ hc8.size
        replace F14 : Cl w9 b4 34 [.int .i64 (x13.1), .int .i64 (x13.2)] := F14
        clear F12
        refine wS_end (by kernel_rfl) ?_
        refine eX_KH hS ?_
        refine wH_done (by kernel_rfl) ?_
        refine eX_tail ?_
        refine wS_store (T := 34) (g := b5) (o := 0) (ad := ⟨b5, 0, none⟩) (v := .agg #[.int .i64 (x14.1), .int .i64 (x14.2)]) (vs := [.int .i64 (x14.1), .int .i64 (x14.2)]) (by kernel_rfl) (by rfl) sz34 (by rfl) (by rfl) F13 (by simp only [List.length_cons, List.length_nil]; omega) ?_
        intro w10 F15 hc9
        replace F8 := F8.chg hc9 (Dj.of L0 (low1 G4))
        replace F9 := F9.chg hc9 (Dj.of L1 (low1 G4))
        replace F10 := F10.chg hc9 D4
        replace F11 := F11.chg hc9 D5
        replace F14 := F14.chg hc9 (dj1 D6)
        replace hB := hB.inS hc9 (inLow (low1 G4))
        replace hZ := Nat.le_trans hZ hc9.size
        replace F15 : Cl w10 b5 34 [.int .i64 (x14.1), .int .i64 (x14.2)] := F15
        clear F13
        refine wS_end (by rfl) ?_
        have hq : (some ((x13.1, x13.2, x14.1, x14.2)) : Option (Int × Int × Int × Int)) = some _ := hm
        replace hq := someE hq
        subst hq
        exact eX_J (fun hst => ⟨b4, x13.1, x13.2, b5, x14.1, x14.2, rfl, Fr.of hst (by kernel_rfl), F8, F9, F10, F11, F14, F15, G3, G4, D2, D3, (D6).symm, D4, D5, hB, hZ⟩)
       ·skip
        refine wS_alloc (d := 13) (T := 34) (z := .agg #[.int .i64 (0), .int .i64 (0)]) (by kernel_rfl) (by kernel_rfl) ?_
        intro b6 w11 G5 F16 hc10
        replace F16 : Cl w11 b6 34 [.int .i64 (0), .int .i64 (0)] := F16
        have D7 : Dj [b1] [b6] := Dj.of F10.low (low1 G5)
        have D8 : Dj fp2 [b6] := Dj.of F11.low (low1 G5)
        replace F8 := F8.chg hc10 Dj.nil
        replace F9 := F9.chg hc10 Dj.nil
        replace F10 := F10.chg hc10 Dj.nil
        replace F11 := F11.chg hc10 Dj.nil
        replace hB := hB.inS hc10 inNil
        have hSz := hS
        replace hS := hS.inS hc10 inNil
        have Gz3 := low1 (Nat.le_trans hSz.size G5)
        replace G5 := Nat.le_trans hZ G5
        replace hZ := Nat.le_trans hZ hc10.size
        refine wS_end (by kernel_rfl) ?_
        refine eX_KH hS ?_
        refine wH_all [9] (by rfl) (by kernel_rfl) (by simp) ⟨⟨by kernel_rfl, ?_⟩, trivial⟩
        refine wS_alloc (d := 12) (T := 34) (z := .agg #[.int .i64 (0), .int .i64 (0)]) (by kernel_rfl) (by kernel_rfl) ?_
        intro b7 w12 G6 F17 hc11
        replace F17 : Cl w12 b7 34 [.int .i64 (0), .int .i64 (0)] := F17
        have D9 : Dj [b1] [b7] := Dj.of F10.low (low1 G6)
        have D10 : Dj fp2 [b7] := Dj.of F11.low (low1 G6)
        have D11 : Dj [b6] [b7] := Dj.of (lt1 F16.lt) (low1 G6)
        replace F8 := F8.chg hc11 Dj.nil
        replace F9 := F9.chg hc11 Dj.nil
        replace F10 := F10.chg hc11 Dj.nil
        replace F11 := F11.chg hc11 Dj.nil
        replace F16 := F16.chg hc11 notNil
        replace hB := hB.inS hc11 inNil
        have hSz := hS
        replace hS := hS.inS hc11 inNil
        have Gz4 := low1 (Nat.le_trans hSz.size G6)
        replace G6 := Nat.le_trans hZ G6
        replace hZ := Nat.le_trans hZ hc11.size
        refine wS_end (by kernel_rfl) ?_
        refine eX_KH hS ?_
        refine wH_all [11] (by rfl) (by kernel_rfl) (by simp) ⟨⟨by kernel_rfl, ?_⟩, trivial⟩
        refine wS_store (T := 34) (g := b7) (o := 0) (ad := ⟨b7, 0, none⟩) (v := .agg #[.int .i64 (x13.1), .int .i64 (x13.2)]) (vs := [.int .i64 (x13.1), .int .i64 (x13.2)]) (by kernel_rfl) (by rfl) sz34 (by rfl) (by rfl) F17 (by simp only [List.length_cons, List.length_nil]; omega) ?_
        intro w13 F18 hc12
        replace F8 := F8.chg hc12 (Dj.of L0 (low1 G6))
        replace F9 := F9.chg hc12 (Dj.of L1 (low1 G6))
        replace F10 := F10.chg hc12 D9
        replace F11 := F11.chg hc12 D10
        replace F16 := F16.chg hc12 (dj1 D11)
        replace hB := hB.inS hc12 (inLow (low1 G6))
        have hSz := hS
        replace hS := hS.inS hc12 (inLow Gz4)
        replace hZ := Nat.le_trans hZ hc12.size
        replace F18 : Cl w13 b7 34 [.int .i64 (x13.1), .int .i64 (x13.2)] := F18
        clear F17
        refine wS_end (by kernel_rfl) ?_
        refine eX_KH hS ?_
        refine wH_done (by kernel_rfl) ?_
        refine eX_tail ?_
        refine wS_store (T := 34) (g := b6) (o := 0) (ad := ⟨b6, 0, none⟩) (v := .agg #[.int .i64 (x14.1), .int .i64 (x14.2)]) (vs := [.int .i64 (x14.1), .int .i64 (x14.2)]) (by kernel_rfl) (by rfl) sz34 (by rfl) (by rfl) F16 (by simp only [List.length_cons, List.length_nil]; omega) ?_
        intro w14 F19 hc13
        replace F8 := F8.chg hc13 (Dj.of L0 (low1 G5))
        replace F9 := F9.chg hc13 (Dj.of L1 (low1 G5))
        replace F10 := F10.chg hc13 D7
        replace F11 := F11.chg hc13 D8
        replace F18 := F18.chg hc13 (dj1 (D11).symm)
        replace hB := hB.inS hc13 (inLow (low1 G5))
        replace hZ := Nat.le_trans hZ hc13.size
        replace F19 : Cl w14 b6 34 [.int .i64 (x14.1), .int .i64 (x14.2)] := F19
        clear F16
        refine wS_end (by rfl) ?_
        have hq : (some ((x13.1, x13.2, x14.1, x14.2)) : Option (Int × Int × Int × Int)) = some _ := hm
        replace hq := someE hq
        subst hq
        exact eX_J (fun hst => ⟨b7, x13.1, x13.2, b6, x14.1, x14.2, rfl, Fr.of hst (by kernel_rfl), F8, F9, F10, F11, F18, F19, G6, G5, D9, D10, D11, D7, D8, hB, hZ⟩)
      ·rintro a' w15 ⟨b2, x9, x10, b3, x11, x12, hJ, hF3, F20, F21, F22, F23, F24, F25, G7, G8, D12, D13, D14, D15, D16, hB, hZ⟩
       subst hJ
       refine Fr.goX hF3 (by kernel_rfl) ?_
       refine eX_then ?_
       refine cW_seq ?_
       obtain ⟨s5, hs3, hm⟩ := bindE hm
       refine cW_cut (fun a' w' => ∃ x15 : Int, ∃ x16 : Int, ∃ x17 : Int, ∃ x18 : Int, (x15, x16, x17, x18) = s5 ∧ Fr 67 [(0, .slice A0 (l0).length cap0), (2, .string (p2)), (7, .map (some b1)), (10, .slice A3 (y1).length cap3), (11, .int .i64 (x8)), (12, .pointer (some ⟨b2, 0, none⟩)), (13, .pointer (some ⟨b3, 0, none⟩)), (15, .slice A1 (l1).length cap1), (16, .int .i64 (((l1).length : Int))), (17, .int .i64 (x1))] a' ∧ Sl 2 encII w' fp0 A0 l0 ∧ SlR 1 encI w' fp1 A1 l1 ∧ Mp okIIII ekIIII vB w' b1 l5 ∧ Ow 2 encII 34 w' fp2 A3 cap3 y1 ∧ Cl w' b2 34 [.int .i64 (x15), .int .i64 (x16)] ∧ Cl w' b3 34 [.int .i64 (x17), .int .i64 (x18)] ∧ Chg [] w0 w' ∧ w0.heap.size ≤ w'.heap.size) ?_ ?_
       ·have hm := hs3
        refine cW_seq ?_
        refine cW_region ?_
        refine wS_loadA (d := 54) (T := 34) (ad := ⟨b2, 0, none⟩) (vs := [.int .i64 (x9), .int .i64 (x10)]) (by kernel_rfl) vt34 (fun i u hu => box_cells F24 0 hu (by rfl)) ?_
        refine wS_loadA (d := 55) (T := 34) (ad := ⟨b3, 0, none⟩) (vs := [.int .i64 (x11), .int .i64 (x12)]) (by kernel_rfl) vt34 (fun i u hu => box_cells F25 0 hu (by rfl)) ?_
        obtain ⟨y2, hy2, hm⟩ := bindE hm
        refine wS_calls (d := 56) (f := 47) (vs := [.agg #[.int .i64 (x9), .int .i64 (x10)], .agg #[.int .i64 (x11), .int .i64 (x12)]]) (by kernel_rfl) ent47 (c_impl_pointOrder hy2) ?_
        rintro _ w16 ⟨rfl, hc14⟩
        replace F20 := F20.chg hc14 Dj.nil
        replace F21 := F21.chg hc14 Dj.nil
        replace F22 := F22.chg hc14 Dj.nil
        replace F23 := F23.chg hc14 Dj.nil
        replace F24 := F24.chg hc14 notNil
        replace F25 := F25.chg hc14 notNil
        replace hB := hB.inS hc14 inNil
        replace hZ := Nat.le_trans hZ hc14.size
        refine ⟨.int .i64 (y2), rfl, ?_⟩
        refine wS_pure 1 [(57, .bool (decide (y2 > 0)))] (by kernel_rfl) ?_
        refine wS_end (by rfl) ?_
        refine eX_then ?_
        refine cW_cond (t := decide (y2 > 0)) (by kernel_rfl) (fun hb3 => ?_) (fun hb3 => ?_)
        ·have hm := condT hb3 hm
         refine cW_region ?_
         refine wS_loadA (d := 58) (T := 34) (ad := ⟨b3, 0, none⟩) (vs := [.int .i64 (x11), .int .i64 (x12)]) (by kernel_rfl) vt34 (fun i u hu => box_cells F25 0 hu (by rfl)) ?_
         refine wS_loadA (d := 59) (T := 34) (ad := ⟨b2, 0, none⟩) (vs := [.int .i64 (x9), .int .i64 (x10)]) (by kernel_rfl) vt34 (fun i u hu => box_cells F24 0 hu (by rfl)) ?_
         refine wS_store (T := 34) (g := b2) (o := 0) (ad := ⟨b2, 0, none⟩) (v := .agg #[.int .i64 (x11), .int .i64 (x12)]) (vs := [.int .i64 (x11), .int .i64 (x12)]) (by kernel_rfl) (by rfl) sz34 (by rfl) (by rfl) F24 (by simp only [List.length_cons, List.length_nil]; omega) ?_
         intro w17 F26 hc15
         replace F20 := F20.chg hc15 (Dj.of L0 (low1 G7))
         replace F21 := F21.chg hc15 (Dj.of L1 (low1 G7))
         replace F22 := F22.chg hc15 D12
         replace F23 := F23.chg hc15 D13
         replace F25 := F25.chg hc15 (dj1 D14)
         replace hB := hB.inS hc15 (inLow (low1 G7))
         replace hZ := Nat.le_trans hZ hc15.size
         replace F26 : Cl w17 b2 34 [.int .i64 (x11), .int .i64 (x12)] := F26
         clear F24
         refine wS_store (T := 34) (g := b3) (o := 0) (ad := ⟨b3, 0, none⟩) (v := .agg #[.int .i64 (x9), .int .i64 (x10)]) (vs := [.int .i64 (x9), .int .i64 (x10)]) (by kernel_rfl) (by rfl) sz34 (by rfl) (by rfl) F25 (by simp only [List.length_cons, List.length_nil]; omega) ?_
         intro w18 F27 hc16
         replace F20 := F20.chg hc16 (Dj.of L0 (low1 G8))
         replace F21 := F21.chg hc16 (Dj.of L1 (low1 G8))
         replace F22 := F22.chg hc16 D15
         replace F23 := F23.chg hc16 D16
         replace F26 := F26.chg hc16 (dj1 (D14).symm)
         replace hB := hB.inS hc16 (inLow (low1 G8))
         replace hZ := Nat.le_trans hZ hc16.size
         replace F27 : Cl w18 b3 34 [.int .i64 (x9), .int .i64 (x10)] := F27
         clear F25
         refine wS_end (by rfl) ?_
         have hq : (some ((x11, x12, x9, x10)) : Option (Int × Int × Int × Int)) = some _ := hm
         replace hq := someE hq
         subst hq
         exact eX_J (fun hst => ⟨x11, x12, x9, x10, rfl, Fr.of hst (by kernel_rfl), F20, F21, F22, F23, F26, F27, hB, hZ⟩)
        ·have hm := condF hb3 hm
         refine cW_skip ?_
         have hq : (some ((x9, x10, x11, x12)) : Option (Int × Int × Int × Int)) = some _ := hm
         replace hq := someE hq
         subst hq
         exact eX_J (fun hst => ⟨x9, x10, x11, x12, rfl, Fr.of hst (by kernel_rfl), F20, F21, F22, F23, F24, F25, hB, hZ⟩)
       ·rintro a' w19 ⟨x15, x16, x17, x18, hJ, hF4, F28, F29, F30, F31, F32, F33, hB, hZ⟩
        subst hJ
        refine Fr.goX hF4 (by kernel_rfl) ?_
        refine eX_then ?_
        refine cW_region ?_
        refine wS_pure 1 [(60, .map (some b1))] (by kernel_rfl) ?_
        refine wS_loadA (d := 61) (T := 34) (ad := ⟨b2, 0, none⟩) (vs := [.int .i64 (x15), .int .i64 (x16)]) (by kernel_rfl) vt34 (fun i u hu => box_cells F32 0 hu (by rfl)) ?_
        refine wS_loadA (d := 62) (T := 34) (ad := ⟨b3, 0, none⟩) (vs := [.int .i64 (x17), .int .i64 (x18)]) (by kernel_rfl) vt34 (fun i u hu => box_cells F33 0 hu (by rfl)) ?_
        refine wS_pure 1 [(63, .agg #[.int .i64 (x15), .int .i64 (x16), .int .i64 (x17), .int .i64 (x18)])] (by kernel_rfl) ?_
        obtain ⟨_, hk1, hm⟩ := bindE hm
        refine wS_mup (k := (x15, x16, x17, x18)) (x := true) (T := 72) (by kernel_rfl) rfl rfl mk72 mp72 F30 (mpE hk1) ?_
        intro w20 F34 hc17
        replace F28 := F28.chg hc17 (Dj.of L0 G1)
        replace F29 := F29.chg hc17 (Dj.of L1 G1)
        replace F31 := F31.chg hc17 (D1).symm
        replace F32 := F32.chg hc17 (dj1 (D12).symm)
        replace F33 := F33.chg hc17 (dj1 (D15).symm)
        replace hB := hB.inS hc17 (inLow G1)
        replace hZ := Nat.le_trans hZ hc17.size
        clear F30
        refine wS_end (by rfl) ?_
        have hq : (some (mup l5 ((x15, x16, x17, x18)) true) : Option ((List ((Int × Int × Int × Int) × Bool)))) = some _ := hm
        replace hq := someE hq
        subst hq
        exact eX_J (fun hst => ⟨mup l5 ((x15, x16, x17, x18)) true, rfl, Fr.of hst (by kernel_rfl), F28, F29, F34, F31, hB, hZ⟩)
     ·rintro a' w21 ⟨l6, hJ, hF5, F35, F36, F37, F38, hB, hZ⟩
      subst hJ
      refine Fr.goX hF5 (by kernel_rfl) ?_
      refine eX_block ?_
      refine eX_then ?_
      refine cW_region ?_
      refine wS_pure 3 [(11, .int .i64 (wr (x8 + 1))), (44, .int .i64 (wr (x8 + 1))), (43, .int .i64 (x8))] (by kernel_rfl) ?_
      refine wS_end (by rfl) ?_
      have hq : (some (Ctl.next ((wr (x8 + 1), l6))) : Option (Ctl (Int × (List ((Int × Int × Int × Int) × Bool))) ((List ((Int × Int × Int × Int) × Bool))))) = some _ := hm
      replace hq := someE hq
      subst hq
      exact eX_next hx8 (fun hst => ⟨wr (x8 + 1), l6, rfl, Fr.of hst (by kernel_rfl), F35, F36, F37, F38, hB, hZ⟩)
    ·have hm := condF hb2 hm
     refine cW_exit ?_
     refine eX_then_exit ?_
     have hq : (some (Ctl.out l5) : Option (Ctl (Int × (List ((Int × Int × Int × Int) × Bool))) ((List ((Int × Int × Int × Int) × Bool))))) = some _ := hm
     replace hq := someE hq
     subst hq
     refine eX_outX hx8 (fun hr3 => ?_)
     replace hr3 := hr3.symm
     subst hr3
     refine eX_block_hit ?_
     exact eX_J (fun hst => ⟨l5, rfl, Fr.of hst (by kernel_rfl), F8, F9, F10, hB, hZ⟩)
   ·rintro a' w22 ⟨l4, hJ, hF6, F39, F40, F41, hB, hZ⟩
    subst hJ
    refine Fr.goX hF6 (by kernel_rfl) ?_
    refine eX_block ?_
    refine eX_then ?_
    refine cW_region ?_
    refine wS_pure 2 [(17, .int .i64 (wr (x1 + 1))), (64, .int .i64 (wr (x1 + 1)))] (by kernel_rfl) ?_
    refine wS_end (by rfl) ?_
    have hq : (some (Ctl.next ((wr (x1 + 1), l4))) : Option (Ctl (Int × (List ((Int × Int × Int × Int) × Bool))) ((List ((Int × Int × Int × Int) × Bool))))) = some _ := hm
    replace hq := someE hq
    subst hq
    exact eX_next hx1 (fun hst => ⟨wr (x1 + 1), l4, rfl, Fr.of hst (by kernel_rfl), F39, F40, F41, hB, hZ⟩)
  ·have hm := condF hb1 hm
   refine cW_exit ?_
   refine eX_then_exit ?_
   have hq : (some (Ctl.out l3) : Option (Ctl (Int × (List ((Int × Int × Int × Int) × Bool))) ((List ((Int × Int × Int × Int) × Bool))))) = some _ := hm
   replace hq := someE hq
   subst hq
   refine eX_outX hx1 (fun hr4 => ?_)
   replace hr4 := hr4.symm
   subst hr4
   refine eX_block_hit ?_
   exact eX_J (fun hst => ⟨l3, rfl, Fr.of hst (by kernel_rfl), F5, hB, hZ⟩)
 ·rintro a' w23 ⟨l2, hJ, hF7, F42, hB, hZ⟩
  subst hJ
  refine Fr.goX hF7 (by kernel_rfl) ?_
  refine eX_then ?_
  refine cW_seq ?_
  refine cW_region ?_
  refine wS_pure 1 [(65, .map (some b1))] (by kernel_rfl) ?_
  refine wS_mlen (d := 66) (T := 72) (by kernel_rfl) mp72 F42 ?_
  refine wS_pure 1 [(6, .int .i64 (((l2).length : Int)))] (by kernel_rfl) ?_
  refine wS_end (by rfl) ?_
  refine eX_then ?_
  refine cW_ret ?_
  have hq : (some (((l2).length : Int)) : Option ((Int))) = some _ := hm
  replace hq := someE hq
  subst hq
  refine eX_ret (vs := [.int .i64 (((l2).length : Int))]) [.tmp 6] (by rfl) ⟨by (show lkE _ _ _ = _); kernel_rfl, trivial⟩ ?_
  exact ⟨rfl, hB⟩

set_option maxRecDepth 100000 in
/-- impl.BendTree -/
theorem c_impl_BendTree {w0 : World} {l0 : List (Int × Int)} {A0 : Option Addr} {cap0 : Nat} {fp0 : List Nat} {r : (ByteArray) × (Int) × (Bool)} (hm : m_impl_BendTree l0 = some r) (F0 : Sl 2 encII w0 fp0 A0 l0) :
  Calls Try.prog 8 #[.slice A0 (l0).length cap0] w0 fun e w' => e = .returned (.tuple #[.string (r.1), .int .i64 (r.2.1), .bool (r.2.2)]) ∧ Chg [] w0 w' := by
 have L0 := F0.low
 have hB : Chg [] w0 w0 := Chg.refl _ _
 have hZ := Nat.le_refl w0.heap.size
 unfold m_impl_BendTree at hm
 refine enterE (N := 64) Try.func8 (by rfl) Try.ntmps8 (by simp) [(0, .slice A0 (l0).length cap0)] (by rfl) (by kernel_rfl) (fun a => ?_)
 refine cW_seq ?_
 refine cW_region ?_
 refine wS_pure 3 [(4, .bool (false)), (3, .int .i64 (0)), (2, .string (ByteArray.mk #[]))] (by kernel_rfl) ?_
 refine wS_end (by rfl) ?_
 refine eX_then ?_
 refine cW_seq ?_
 refine cW_seq ?_
 refine cW_region ?_
 refine wS_pure 1 [(13, .slice A0 (l0).length cap0)] (by kernel_rfl) ?_
 obtain ⟨y1, hy1, hm⟩ := bindE hm
 refine wS_calls (d := 14) (f := 23) (vs := [.slice A0 (l0).length cap0, .int .i64 (7)]) (by kernel_rfl) ent23 (c_impl_pinsOk hy1 F0) ?_
 rintro _ w1 ⟨rfl, hc1⟩
 replace F0 := F0.chg hc1 Dj.nil
 replace hB := hB.inS hc1 inNil
 replace hZ := Nat.le_trans hZ hc1.size
 refine ⟨.bool (y1), rfl, ?_⟩
 refine wS_pure 1 [(15, .bool (!y1))] (by kernel_rfl) ?_
 refine wS_end (by rfl) ?_
 refine eX_then ?_
 refine cW_cond (t := !y1) (by kernel_rfl) (fun hb1 => ?_) (fun hb1 => ?_)
 ·have hm := condT hb1 hm
  refine cW_seq ?_
  refine cW_region ?_
  refine wS_pure 3 [(4, .bool (false)), (3, .int .i64 (0)), (2, .string (ByteArray.mk #[]))] (by kernel_rfl) ?_
  refine wS_end (by rfl) ?_
  refine eX_then ?_
  refine cW_ret ?_
  refine eX_then_ret ?_
  have hq : (some ((ByteArray.mk #[], 0, false)) : Option ((ByteArray) × (Int) × (Bool))) = some _ := hm
  replace hq := someE hq
  subst hq
  refine eX_ret (vs := [.string (ByteArray.mk #[]), .int .i64 (0), .bool (false)]) [.tmp 2, .tmp 3, .tmp 4] (by rfl) ⟨by (show lkE _ _ _ = _); kernel_rfl, ⟨by (show lkE _ _ _ = _); kernel_rfl, ⟨by (show lkE _ _ _ = _); kernel_rfl, trivial⟩⟩⟩ ?_
  exact ⟨rfl, hB⟩
 ·have hm := condF hb1 hm
  refine cW_skip ?_
  refine eX_then ?_
  refine cW_seq ?_
  refine cW_region ?_
  refine wS_pure 1 [(17, .slice A0 (l0).length cap0)] (by kernel_rfl) ?_
  obtain ⟨y2, hy2, hm⟩ := bindE hm
  refine wS_calls (d := 18) (f := 24) (vs := [.slice A0 (l0).length cap0]) (by kernel_rfl) ent24 (c_impl_spanning hy2 F0) ?_
  rintro _ w2 ⟨A1, cap1, fp1, fr1, rfl, F1, G1, hc2⟩
  replace F0 := F0.chg hc2 Dj.nil
  replace hB := hB.inS hc2 inNil
  replace G1 := low_le hZ G1
  replace hZ := Nat.le_trans hZ hc2.size
  refine ⟨.tuple #[.slice A1 (y2.1).length cap1, .int .i64 (y2.2)], rfl, ?_⟩
  refine wS_pure 5 [(6, .int .i64 (y2.2)), (5, .slice A1 (y2.1).length cap1), (20, .int .i64 (y2.2)), (19, .slice A1 (y2.1).length cap1), (16, .tuple #[.slice A1 (y2.1).length cap1, .int .i64 (y2.2)])] (by kernel_rfl) ?_
  refine wS_end (by rfl) ?_
  refine eX_then ?_
  refine cW_seq ?_
  refine cW_region ?_
  refine wS_pure 2 [(8, .int .i64 ((-1))), (7, .string (ByteArray.mk #[]))] (by kernel_rfl) ?_
  refine wS_end (by rfl) ?_
  refine eX_then ?_
  refine cW_seq ?_
  refine cW_seq ?_
  refine cW_region ?_
  refine wS_pure 2 [(22, .int .i64 (((y2.1).length : Int))), (21, .slice A1 (y2.1).length cap1)] (by kernel_rfl) ?_
  obtain ⟨u1, hu1, hm⟩ := bindE hm
  refine wS_shl (d := 23) (x := 1) (y := ((y2.1).length : Int)) (yk := .i64) (by kernel_rfl) (p0E hu1) ?_
  refine wS_pure 1 [(24, .int .i64 (0))] (by kernel_rfl) ?_
  refine wS_end (by rfl) ?_
  refine eX_then ?_
  obtain ⟨r1, hr1, hm⟩ := bindE hm
  have hm1 := hm
  refine cW_cut (fun a' w' => ∃ x1 : ByteArray, ∃ x2 : Int, (x1, x2) = r1 ∧ Fr 64 [(7, .string (x1)), (8, .int .i64 (x2))] a' ∧ Chg [] w0 w' ∧ w0.heap.size ≤ w'.heap.size) ?_ ?_
  ·refine cW_block ?_
   refine cW_loop _ (fun (s1 : ByteArray × Int × Int) a' w' => ∃ x3 : ByteArray, ∃ x4 : Int, ∃ x5 : Int, (x3, x4, x5) = s1 ∧ Fr 64 [(0, .slice A0 (l0).length cap0), (5, .slice A1 (y2.1).length cap1), (7, .string (x3)), (8, .int .i64 (x4)), (23, .int .i64 (shlI 1 (((y2.1).length : Int)))), (24, .int .i64 (x5))] a' ∧ Sl 2 encII w' fp0 A0 l0 ∧ OwR 1 encI 66 2 w' fp1 fr1 A1 cap1 y2.1 ∧ Chg [] w0 w' ∧ w0.heap.size ≤ w'.heap.size) hr1 (fun hst => ⟨ByteArray.mk #[], (-1), 0, rfl, Fr.of hst (by kernel_rfl), F0, F1, hB, hZ⟩) ?_
   rintro _ c1 a' w3 ⟨x3, x4, x5, rfl, hF1, F2, F3, hB, hZ⟩ hx1
   refine Fr.goOn hF1 (by kernel_rfl) ?_
   have hm := hx1
   unfold m_impl_BendTree_s5 at hm
   refine cW_seq ?_
   refine cW_region ?_
   refine wS_pure 1 [(25, .bool (decide (x5 < (shlI 1 (((y2.1).length : Int))))))] (by kernel_rfl) ?_
   refine wS_end (by rfl) ?_
   refine eX_then ?_
   refine cW_seq ?_
   refine cW_cond (t := decide (x5 < (shlI 1 (((y2.1).length : Int))))) (by kernel_rfl) (fun hb2 => ?_) (fun hb2 => ?_)
   ·have hm := condT hb2 hm
    refine cW_skip ?_
    refine eX_then ?_
    refine cW_seq ?_
    refine cW_block ?_
    obtain ⟨s2, hs1, hm⟩ := bindE hm
    refine cW_cut (fun a' w' => ∃ x6 : ByteArray, ∃ x7 : Int, (x6, x7) = s2 ∧ Fr 64 [(0, .slice A0 (l0).length cap0), (5, .slice A1 (y2.1).length cap1), (7, .string (x6)), (8, .int .i64 (x7)), (23, .int .i64 (shlI 1 (((y2.1).length : Int)))), (24, .int .i64 (x5))] a' ∧ Sl 2 encII w' fp0 A0 l0 ∧ OwR 1 encI 66 2 w' fp1 fr1 A1 cap1 y2.1 ∧ Chg [] w0 w' ∧ w0.heap.size ≤ w'.heap.size) ?_ ?_
    ·have hm := hs1
     refine cW_seq ?_
     refine cW_region ?_
     refine wS_pure 2 [(9, .int .i64 (x5)), (26, .int .i64 (x5))] (by kernel_rfl) ?_
     refine wS_end (by rfl) ?_
     refine eX_then ?_
     refine cW_seq ?_
     refine cW_region ?_
     refine wS_bs0 (α := Int) (enc := encU) (d := 27) (t := 30) (T := 5) (by kernel_rfl) el30 ?_
     intro b1 w4 G2 F4 hc3
     have D1 : Dj (fp1 ++ fr1) [b1] := Dj.of F3.low (low1 G2)
     replace F2 := F2.chg hc3 Dj.nil
     replace F3 := F3.chg hc3 Dj.nil
     replace hB := hB.inS hc3 inNil
     replace G2 := Nat.le_trans hZ G2
     replace G2 := low1 G2
     replace hZ := Nat.le_trans hZ hc3.size
     refine wS_pure 1 [(10, .slice (some ⟨b1, 0, none⟩) (([] : List (Int))).length 0)] (by kernel_rfl) ?_
     refine wS_end (by rfl) ?_
     refine eX_then ?_
     refine cW_seq ?_
     refine cW_seq ?_
     refine cW_region ?_
     refine wS_pure 3 [(30, .int .i64 (0)), (29, .int .i64 (((y2.1).length : Int))), (28, .slice A1 (y2.1).length cap1)] (by kernel_rfl) ?_
     refine wS_end (by rfl) ?_
     refine eX_then ?_
     obtain ⟨r2, hr2, hm⟩ := bindE hm
     have hm2 := hm
     refine cW_cut (fun a' w' => ∃ l1 : List (Int), ∃ A3 : Option Addr, ∃ cap3 : Nat, ∃ fp2 : List Nat, l1 = r2 ∧ Fr 64 [(0, .slice A0 (l0).length cap0), (5, .slice A1 (y2.1).length cap1), (7, .string (x3)), (8, .int .i64 (x4)), (10, .slice A3 (l1).length cap3), (23, .int .i64 (shlI 1 (((y2.1).length : Int)))), (24, .int .i64 (x5))] a' ∧ Sl 2 encII w' fp0 A0 l0 ∧ OwR 1 encI 66 2 w' fp1 fr1 A1 cap1 y2.1 ∧ Ow 1 encU 5 w' fp2 A3 cap3 l1 ∧ (∀ x ∈ fp2, w0.heap.size ≤ x) ∧ Dj (fp1 ++ fr1) fp2 ∧ Chg [] w0 w' ∧ w0.heap.size ≤ w'.heap.size) ?_ ?_
     ·refine cW_block ?_
      refine cW_loop _ (fun (s3 : (List (Int)) × Int) a' w' => ∃ l3 : List (Int), ∃ A4 : Option Addr, ∃ cap4 : Nat, ∃ fp3 : List Nat, ∃ x8 : Int, (l3, x8) = s3 ∧ Fr 64 [(0, .slice A0 (l0).length cap0), (5, .slice A1 (y2.1).length cap1), (7, .string (x3)), (8, .int .i64 (x4)), (9, .int .i64 (x5)), (10, .slice A4 (l3).length cap4), (23, .int .i64 (shlI 1 (((y2.1).length : Int)))), (24, .int .i64 (x5)), (29, .int .i64 (((y2.1).length : Int))), (30, .int .i64 (x8))] a' ∧ Sl 2 encII w' fp0 A0 l0 ∧ OwR 1 encI 66 2 w' fp1 fr1 A1 cap1 y2.1 ∧ Ow 1 encU 5 w' fp3 A4 cap4 l3 ∧ (∀ x ∈ fp3, w0.heap.size ≤ x) ∧ Dj (fp1 ++ fr1) fp3 ∧ Chg [] w0 w' ∧ w0.heap.size ≤ w'.heap.size) hr2 (fun hst => ⟨([] : List (Int)), (some ⟨b1, 0, none⟩), 0, [b1], 0, rfl, Fr.of hst (by kernel_rfl), F2, F3, F4, G2, D1, hB, hZ⟩) ?_
      rintro _ c2 a' w5 ⟨l3, A4, cap4, fp3, x8, rfl, hF2, F5, F6, F7, G3, D2, hB, hZ⟩ hx2
      refine Fr.goOn hF2 (by kernel_rfl) ?_
      have hm := hx2
      unfold m_impl_BendTree_s7 at hm
      refine cW_seq ?_
      refine cW_region ?_
      refine wS_pure 1 [(31, .bool (decide (x8 < (((y2.1).length : Int)))))] (by kernel_rfl) ?_
      refine wS_end (by rfl) ?_
      refine eX_then ?_
      refine cW_seq ?_
      refine cW_cond (t := decide (x8 < (((y2.1).length : Int)))) (by kernel_rfl) (fun hb3 => ?_) (fun hb3 => ?_)
      ·have hm := condT hb3 hm
       refine cW_skip ?_
       refine eX_then ?_
       refine cW_seq ?_
       refine cW_block ?_
       refine cW_seq ?_
       refine cW_region ?_
       refine wS_pure 2 [(11, .int .i64 (x8)), (32, .int .i64 (x8))] (by kernel_rfl) ?_
       refine wS_end (by rfl) ?_
       refine eX_then ?_
       refine cW_region ?_
       refine wS_pure 7 [(39, .int .i64 (wr ((wr ((((y2.1).length : Int)) - 1)) - x8))), (38, .int .i64 (x8)), (37, .int .i64 (wr ((((y2.1).length : Int)) - 1))), (36, .int .i64 (((y2.1).length : Int))), (35, .slice A1 (y2.1).length cap1), (34, .int .i64 (x5)), (33, .slice A4 (l3).length cap4)] (by kernel_rfl) ?_
       obtain ⟨u2, hu2, hm⟩ := bindE hm
       refine wS_shr (d := 40) (x := x5) (y := wr ((wr ((((y2.1).length : Int)) - 1)) - x8)) (yk := .i64) (by kernel_rfl) (p0E hu2) ?_
       refine wS_pure 1 [(41, .int .i64 (andI (shrI x5 (wr ((wr ((((y2.1).length : Int)) - 1)) - x8))) 1))] (by kernel_rfl) ?_
       obtain ⟨x9, hx3, hm⟩ := bindE hm
       refine wS_sidx (d := 42) (T := 9) (s := ByteArray.mk #[120, 121]) (kd := .i64) (m := andI (shrI x5 (wr ((wr ((((y2.1).length : Int)) - 1)) - x8))) 1) (by kernel_rfl) sty9 hx3 ?_
       refine wS_bs (enc := encU) ([x9] : List (Int)) [.int .u8 (x9)] (d := 43) (t := 30) (T := 5) (n := 1) (ps := [(0, .int .u8 (x9))]) (by kernel_rfl) el30 encU_ok (by rfl) (by omega) (by omega) (by kernel_rfl) (by rfl) ?_
       intro b2 w6 G4 F8 hc4
       have D3 : Dj (fp1 ++ fr1) [b2] := Dj.of F6.low (low1 G4)
       have D4 : Dj fp3 [b2] := Dj.of F7.low (low1 G4)
       replace F5 := F5.chg hc4 Dj.nil
       replace F6 := F6.chg hc4 Dj.nil
       replace F7 := F7.chg hc4 Dj.nil
       replace hB := hB.inS hc4 inNil
       replace G4 := Nat.le_trans hZ G4
       replace G4 := low1 G4
       replace hZ := Nat.le_trans hZ hc4.size
       obtain ⟨_, hk1, hm⟩ := bindE hm
       replace hk1 := apE hk1
       refine wS_append (enc := encU) (l := (l3 : List (Int))) (l2 := (([x9] : List (Int)) : List (Int))) (d := 44) (t := 30) (T := 5) (A := A4) (A2 := (some ⟨b2, 0, none⟩)) (cap := cap4) (cap2 := 1) (by kernel_rfl) el30 encU_ok F7 (F8.sl encU_ok) (by rfl) hk1 ?_
       intro w7 fp4 A5 cap5 F9 hc5 hp1
       have G5 := low_ap G3 hZ hp1
       have D5 : Dj (fp1 ++ fr1) fp4 := Dj.ap D2 F6.low hp1
       have D6 : Dj [b2] fp4 := Dj.ap (D4).symm F8.low hp1
       replace F5 := F5.chg hc5 (Dj.of L0 G3)
       replace F6 := F6.chg hc5 D2
       replace F8 := F8.chg hc5 (D4).symm
       replace hB := hB.inS hc5 (inLow G3)
       replace hZ := Nat.le_trans hZ hc5.size
       refine wS_pure 1 [(10, .slice A5 (l3 ++ (([x9] : List (Int)))).length cap5)] (by kernel_rfl) ?_
       refine wS_end (by rfl) ?_
       refine eX_block ?_
       refine eX_then ?_
       refine cW_prune [(0, .slice A0 (l0).length cap0), (5, .slice A1 (y2.1).length cap1), (7, .string (x3)), (8, .int .i64 (x4)), (9, .int .i64 (x5)), (10, .slice A5 (l3 ++ (([x9] : List (Int)))).length cap5), (23, .int .i64 (shlI 1 (((y2.1).length : Int)))), (24, .int .i64 (x5)), (29, .int .i64 (((y2.1).length : Int))), (30, .int .i64 (x8))] (by kernel_rfl) (by kernel_rfl) (fun a1 => ?_)
       refine cW_region ?_
       refine wS_pure 2 [(30, .int .i64 (wr (x8 + 1))), (45, .int .i64 (wr (x8 + 1)))] (by kernel_rfl) ?_
       refine wS_end (by rfl) ?_
       have hq : (some (Ctl.next ((l3 ++ (([x9] : List (Int))), wr (x8 + 1)))) : Option (Ctl ((List (Int)) × Int) ((List (Int))))) = some _ := hm
       replace hq := someE hq
       subst hq
       exact eX_next hx2 (fun hst => ⟨l3 ++ (([x9] : List (Int))), A5, cap5, fp4, wr (x8 + 1), rfl, Fr.of hst (by kernel_rfl), F5, F6, F9, G5, D5, hB, hZ⟩)
      ·have hm := condF hb3 hm
       refine cW_exit ?_
       refine eX_then_exit ?_
       have hq : (some (Ctl.out l3) : Option (Ctl ((List (Int)) × Int) ((List (Int))))) = some _ := hm
       replace hq := someE hq
       subst hq
       refine eX_outX hx2 (fun hr3 => ?_)
       replace hr3 := hr3.symm
       subst hr3
       refine eX_block_hit ?_
       exact eX_J (fun hst => ⟨l3, A4, cap4, fp3, rfl, Fr.of hst (by kernel_rfl), F5, F6, F7, G3, D2, hB, hZ⟩)
     ·rintro a' w8 ⟨l1, A3, cap3, fp2, hJ, hF3, F10, F11, F12, G6, D7, hB, hZ⟩
      subst hJ
      refine Fr.goX hF3 (by kernel_rfl) ?_
      refine eX_then ?_
      refine cW_seq ?_
      refine cW_region ?_
      refine wS_pure 3 [(48, .slice A3 (l1).length cap3), (47, .slice A1 (y2.1).length cap1), (46, .slice A0 (l0).length cap0)] (by kernel_rfl) ?_
      refine wS_str (l := (l1 : List (Int))) (d := 49) (s := 30) (t := 9) (A := A3) (cap := cap3) (by kernel_rfl) st30_9 (F12.sl encU_ok) ?_
      obtain ⟨y3, hy3, hm⟩ := bindE hm
      refine wS_calls (d := 50) (f := 25) (vs := [.slice A0 (l0).length cap0, .slice A1 (y2.1).length cap1, .string (bstr (l1 : List (Int)))]) (by kernel_rfl) ent25 (c_impl_bentSteps hy3 F10 (F11.slr encI_ok)) ?_
      rintro _ w9 ⟨rfl, hc6⟩
      replace F10 := F10.chg hc6 Dj.nil
      replace F11 := F11.chg hc6 Dj.nil
      replace F12 := F12.chg hc6 Dj.nil
      replace hB := hB.inS hc6 inNil
      replace hZ := Nat.le_trans hZ hc6.size
      refine ⟨.int .i64 (y3), rfl, ?_⟩
      refine wS_pure 1 [(12, .int .i64 (y3))] (by kernel_rfl) ?_
      refine wS_end (by rfl) ?_
      refine eX_then ?_
      refine cW_seq ?_
      refine cW_region ?_
      refine wS_pure 3 [(53, .bool (decide (x4 < 0))), (52, .bool (decide (x4 < 0))), (51, .int .i64 (x4))] (by kernel_rfl) ?_
      refine wS_bool (decide (x4 < 0)) (fun hb4 => ?_) (fun hb4 => ?_)
      ·have hm := condT hb4 hm
       rewrite [hb4]
       refine wS_pure 4 [(57, .bool (true)), (56, undef), (55, undef), (54, undef)] (by kernel_rfl) ?_
       refine wS_end (by rfl) ?_
       refine eX_then ?_
       refine cW_cond_t (by kernel_rfl) ?_
       refine cW_region ?_
       refine wS_pure 1 [(58, .slice A3 (l1).length cap3)] (by kernel_rfl) ?_
       refine wS_str (l := (l1 : List (Int))) (d := 59) (s := 30) (t := 9) (A := A3) (cap := cap3) (by kernel_rfl) st30_9 (F12.sl encU_ok) ?_
       refine wS_pure 3 [(8, .int .i64 (y3)), (7, .string (bstr (l1 : List (Int)))), (60, .int .i64 (y3))] (by kernel_rfl) ?_
       refine wS_end (by rfl) ?_
       have hq : (some ((bstr (l1 : List (Int)), y3)) : Option (ByteArray × Int)) = some _ := hm
       replace hq := someE hq
       subst hq
       exact eX_J (fun hst => ⟨bstr (l1 : List (Int)), y3, rfl, Fr.of hst (by kernel_rfl), F10, F11, hB, hZ⟩)
      ·have hm := condF hb4 hm
       rewrite [hb4]
       refine wS_pure 4 [(57, .bool (decide (y3 < x4))), (56, .bool (decide (y3 < x4))), (55, .int .i64 (x4)), (54, .int .i64 (y3))] (by kernel_rfl) ?_
       refine wS_end (by rfl) ?_
       refine eX_then ?_
       refine cW_cond (t := decide (y3 < x4)) (by kernel_rfl) (fun hb5 => ?_) (fun hb5 => ?_)
       ·have hm := condT hb5 hm
        refine cW_region ?_
        refine wS_pure 1 [(58, .slice A3 (l1).length cap3)] (by kernel_rfl) ?_
        refine wS_str (l := (l1 : List (Int))) (d := 59) (s := 30) (t := 9) (A := A3) (cap := cap3) (by kernel_rfl) st30_9 (F12.sl encU_ok) ?_
        refine wS_pure 3 [(8, .int .i64 (y3)), (7, .string (bstr (l1 : List (Int)))), (60, .int .i64 (y3))] (by kernel_rfl) ?_
        refine wS_end (by rfl) ?_
        have hq : (some ((bstr (l1 : List (Int)), y3)) : Option (ByteArray × Int)) = some _ := hm
        replace hq := someE hq
        subst hq
        exact eX_J (fun hst => ⟨bstr (l1 : List (Int)), y3, rfl, Fr.of hst (by kernel_rfl), F10, F11, hB, hZ⟩)
       ·have hm := condF hb5 hm
        refine cW_skip ?_
        have hq : (some ((x3, x4)) : Option (ByteArray × Int)) = some _ := hm
        replace hq := someE hq
        subst hq
        exact eX_J (fun hst => ⟨x3, x4, rfl, Fr.of hst (by kernel_rfl), F10, F11, hB, hZ⟩)
    ·rintro a' w10 ⟨x6, x7, hJ, hF4, F13, F14, hB, hZ⟩
     subst hJ
     refine Fr.goX hF4 (by kernel_rfl) ?_
     refine eX_block ?_
     refine eX_then ?_
     refine cW_region ?_
     refine wS_pure 2 [(24, .int .i64 (wr (x5 + 1))), (61, .int .i64 (wr (x5 + 1)))] (by kernel_rfl) ?_
     refine wS_end (by rfl) ?_
     have hq : (some (Ctl.next ((x6, x7, wr (x5 + 1)))) : Option (Ctl (ByteArray × Int × Int) (ByteArray × Int))) = some _ := hm
     replace hq := someE hq
     subst hq
     exact eX_next hx1 (fun hst => ⟨x6, x7, wr (x5 + 1), rfl, Fr.of hst (by kernel_rfl), F13, F14, hB, hZ⟩)
   ·have hm := condF hb2 hm
    refine cW_exit ?_
    refine eX_then_exit ?_
    have hq : (some (Ctl.out ((x3, x4))) : Option (Ctl (ByteArray × Int × Int) (ByteArray × Int))) = some _ := hm
    replace hq := someE hq
    subst hq
    refine eX_outX hx1 (fun hr4 => ?_)
    replace hr4 := hr4.symm
    subst hr4
    refine eX_block_hit ?_
    exact eX_J (fun hst => ⟨x3, x4, rfl, Fr.of hst (by kernel_rfl), hB, hZ⟩)
  ·rintro a' w11 ⟨x1, x2, hJ, hF5, hB, hZ⟩
   subst hJ
   refine Fr.goX hF5 (by kernel_rfl) ?_
   refine eX_then ?_
   refine cW_seq ?_
   refine cW_region ?_
   refine wS_pure 5 [(4, .bool (true)), (3, .int .i64 (x2)), (2, .string (x1)), (63, .int .i64 (x2)), (62, .string (x1))] (by kernel_rfl) ?_
   refine wS_end (by rfl) ?_
   refine eX_then ?_
   refine cW_ret ?_
   have hq : (some ((x1, x2, true)) : Option ((ByteArray) × (Int) × (Bool))) = some _ := hm
   replace hq := someE hq
   subst hq
   refine eX_ret (vs := [.string (x1), .int .i64 (x2), .bool (true)]) [.tmp 2, .tmp 3, .tmp 4] (by rfl) ⟨by (show lkE _ _ _ = _); kernel_rfl, ⟨by (show lkE _ _ _ = _); kernel_rfl, ⟨by (show lkE _ _ _ = _); kernel_rfl, trivial⟩⟩⟩ ?_
   exact ⟨rfl, hB⟩

set_option maxRecDepth 100000 in
/-- laws.b10Long -/
theorem c_laws_b10Long {w0 : World} {l0 : List (Int)} {A0 : Option Addr} {cap0 : Nat} {fp0 : List Nat} {l1 : List (Int)} {A1 : Option Addr} {cap1 : Nat} {fp1 : List Nat} {r : (Bool)} (hm : m_laws_b10Long l0 l1 = some r) (F0 : Sl 1 encU w0 fp0 A0 l0) (F1 : Sl 1 encU w0 fp1 A1 l1) :
  Calls Try.prog 10 #[.slice A0 (l0).length cap0, .slice A1 (l1).length cap1] w0 fun e w' => e = .returned (.bool (r)) ∧ Chg [] w0 w' := by
 have L0 := F0.low
 have L1 := F1.low
 have hB : Chg [] w0 w0 := Chg.refl _ _
 have hZ := Nat.le_refl w0.heap.size
 unfold m_laws_b10Long at hm
 refine enterE (N := 13) Try.func10 (by rfl) Try.ntmps10 (by simp) [(0, .slice A0 (l0).length cap0), (1, .slice A1 (l1).length cap1)] (by rfl) (by kernel_rfl) (fun a => ?_)
 refine cW_seq ?_
 refine cW_region ?_
 refine wS_pure 1 [(4, .bool (false))] (by kernel_rfl) ?_
 refine wS_end (by rfl) ?_
 refine eX_then ?_
 refine cW_seq ?_
 refine cW_region ?_
 refine wS_pure 4 [(8, .bool (decide ((((l0).length : Int)) > 1048576))), (7, .bool (decide ((((l0).length : Int)) > 1048576))), (6, .int .i64 (((l0).length : Int))), (5, .slice A0 (l0).length cap0)] (by kernel_rfl) ?_
 refine wS_bool (decide ((((l0).length : Int)) > 1048576)) (fun hb1 => ?_) (fun hb1 => ?_)
 ·have hm := condT hb1 hm
  rewrite [hb1]
  refine wS_pure 5 [(4, .bool (true)), (12, .bool (true)), (11, undef), (10, undef), (9, undef)] (by kernel_rfl) ?_
  refine wS_end (by rfl) ?_
  refine eX_then ?_
  refine cW_ret ?_
  have hq : (some true : Option ((Bool))) = some _ := hm
  replace hq := someE hq
  subst hq
  refine eX_ret (vs := [.bool (true)]) [.tmp 4] (by rfl) ⟨by (show lkE _ _ _ = _); kernel_rfl, trivial⟩ ?_
  exact ⟨rfl, hB⟩
 ·have hm := condF hb1 hm
  rewrite [hb1]
  refine wS_pure 5 [(4, .bool (decide ((((l1).length : Int)) > 1048576))), (12, .bool (decide ((((l1).length : Int)) > 1048576))), (11, .bool (decide ((((l1).length : Int)) > 1048576))), (10, .int .i64 (((l1).length : Int))), (9, .slice A1 (l1).length cap1)] (by kernel_rfl) ?_
  refine wS_end (by rfl) ?_
  refine eX_then ?_
  refine cW_ret ?_
  have hq : (some (decide ((((l1).length : Int)) > 1048576)) : Option ((Bool))) = some _ := hm
  replace hq := someE hq
  subst hq
  refine eX_ret (vs := [.bool (decide ((((l1).length : Int)) > 1048576))]) [.tmp 4] (by rfl) ⟨by (show lkE _ _ _ = _); kernel_rfl, trivial⟩ ?_
  exact ⟨rfl, hB⟩

set_option maxRecDepth 100000 in
/-- spec.l00From -/
theorem c_spec_l00From {w0 : World} {l0 : List (Int)} {A0 : Option Addr} {cap0 : Nat} {fp0 : List Nat} {r : (Int × Int)} (hm : m_spec_l00From l0 = some r) (F0 : Sl 1 encU w0 fp0 A0 l0) :
  Calls Try.prog 27 #[.slice A0 (l0).length cap0] w0 fun e w' => ∃ b100, e = .returned (.pointer (some ⟨b100, 0, none⟩)) ∧ Cl w' b100 77 [.slice A0 (l0).length cap0, .int .i64 (r.1), .int .u64 (r.2)] ∧ w0.heap.size ≤ b100 ∧ Chg [] w0 w' := by
 have L0 := F0.low
 have hB : Chg [] w0 w0 := Chg.refl _ _
 have hZ := Nat.le_refl w0.heap.size
 unfold m_spec_l00From at hm
 refine enterE (N := 6) Try.func27 (by rfl) Try.ntmps27 (by simp) [(0, .slice A0 (l0).length cap0)] (by rfl) (by kernel_rfl) (fun a => ?_)
 refine cW_seq ?_
 refine cW_region ?_
 refine wS_pure 1 [(2, .pointer none)] (by kernel_rfl) ?_
 refine wS_end (by rfl) ?_
 refine eX_then ?_
 refine cW_seq ?_
 refine cW_region ?_
 refine wS_pure 2 [(4, .agg #[.slice A0 (l0).length cap0, .int .i64 (0), .int .u64 (0)]), (3, .slice A0 (l0).length cap0)] (by kernel_rfl) ?_
 refine wS_box (d := 5) (T := 77) (x := .agg #[.slice A0 (l0).length cap0, .int .i64 (0), .int .u64 (0)]) (by kernel_rfl) ?_
 intro b1 w1 G1 F1 hc1
 replace F1 : Cl w1 b1 77 [.slice A0 (l0).length cap0, .int .i64 (0), .int .u64 (0)] := F1
 replace F0 := F0.chg hc1 Dj.nil
 replace hB := hB.inS hc1 inNil
 replace G1 := Nat.le_trans hZ G1
 replace hZ := Nat.le_trans hZ hc1.size
 refine wS_pure 1 [(2, .pointer (some ⟨b1, 0, none⟩))] (by kernel_rfl) ?_
 refine wS_end (by rfl) ?_
 refine eX_then ?_
 refine cW_ret ?_
 have hq : (some ((0, 0)) : Option ((Int × Int))) = some _ := hm
 replace hq := someE hq
 subst hq
 refine eX_ret (vs := [.pointer (some ⟨b1, 0, none⟩)]) [.tmp 2] (by rfl) ⟨by (show lkE _ _ _ = _); kernel_rfl, trivial⟩ ?_
 exact ⟨b1, rfl, F1, G1, hB⟩

set_option maxRecDepth 100000 in
/-- spec.l00Src).next -/
theorem c_spec_l00Src_next_bspecl00Src {w0 : World} {l0_0 : List (Int)} {A0_0 : Option Addr} {cap0_0 : Nat} {fp0_0 : List Nat} {q0_1 : Int} {q0_2 : Int} {b0 : Nat} {r : (Int) × (Int) × (Int)} (hm : m_spec_l00Src_next_bspecl00Src l0_0 q0_1 q0_2 = some r) (F0_0 : Sl 1 encU w0 fp0_0 A0_0 l0_0) (F0 : Cl w0 b0 77 [.slice A0_0 (l0_0).length cap0_0, .int .i64 (q0_1), .int .u64 (q0_2)]) (J0__0_0 : Dj [b0] fp0_0) :
  Calls Try.prog 68 #[.pointer (some ⟨b0, 0, none⟩)] w0 fun e w' => e = .returned (.int .i64 (r.1)) ∧ Cl w' b0 77 [.slice A0_0 (l0_0).length cap0_0, .int .i64 (r.2.1), .int .u64 (r.2.2)] ∧ Chg ([b0] ++ []) w0 w' := by
 have L0_0 := F0_0.low
 have L0 := lt1 F0.lt
 have hB : Chg ([b0] ++ []) w0 w0 := Chg.refl _ _
 have hZ := Nat.le_refl w0.heap.size
 unfold m_spec_l00Src_next_bspecl00Src at hm
 refine enterE (N := 62) Try.func68 (by rfl) Try.ntmps68 (by simp) [(0, .pointer (some ⟨b0, 0, none⟩))] (by rfl) (by kernel_rfl) (fun a => ?_)
 refine cW_seq ?_
 refine cW_region ?_
 refine wS_pure 1 [(2, .int .i64 (0))] (by kernel_rfl) ?_
 refine wS_end (by rfl) ?_
 refine eX_then ?_
 refine cW_seq ?_
 refine cW_region ?_
 refine wS_pure 1 [(3, .int .i64 (0))] (by kernel_rfl) ?_
 refine wS_end (by rfl) ?_
 refine eX_then ?_
 refine cW_seq ?_
 obtain ⟨s1, hs1, hm⟩ := bindE hm
 refine cW_cut (fun a' w' => ∃ x1 : Int, x1 = s1 ∧ Fr 62 [(0, .pointer (some ⟨b0, 0, none⟩)), (3, .int .i64 (x1))] a' ∧ Sl 1 encU w' fp0_0 A0_0 l0_0 ∧ Cl w' b0 77 [.slice A0_0 (l0_0).length cap0_0, .int .i64 (q0_1), .int .u64 (q0_2)] ∧ Chg ([b0] ++ []) w0 w' ∧ w0.heap.size ≤ w'.heap.size) ?_ ?_
 ·have hm := hs1
  refine cW_seq ?_
  refine cW_drawnTail [] 9 (by kernel_rfl) (by kernel_rfl) (fun w1 hc1 => ?_)
  replace F0_0 := F0_0.chg hc1 Dj.nil
  replace F0 := F0.chg hc1 notNil
  replace hB := hB.inS hc1 inNil
  replace hZ := Nat.le_trans hZ hc1.size
  have hS := Chg.refl [] w1
  have Z1 := F0_0
  have Z2 := F0
  refine wH_take [0, 1, 2] [2, 1, 0] [(6, .pointer (some ⟨b0, 1, none⟩)), (5, .pointer (some ⟨b0, 0, none⟩)), (4, .pointer (some ⟨b0, 0, none⟩))] (by kernel_rfl) (qT (qT (qT (qT qZ)))) (by kernel_rfl) ?_
  refine wH_load1 (i := 3) (d := 7) (T := 3) (ad := ⟨b0, 1, none⟩) (v := .int .i64 (q0_1)) (by kernel_rfl) (qT (qT (qT (qT qZ)))) (by kernel_rfl) (by kernel_rfl) vt3 (fun W hW => (Z2.chg hW notNil).cell 1) ?_
  refine wH_take [4, 5, 6] [6, 5, 4, 3, 2, 1, 0] [(10, .pointer (some ⟨b0, 0, none⟩)), (9, .pointer (some ⟨b0, 0, none⟩)), (8, .pointer (some ⟨b0, 0, none⟩))] (by kernel_rfl) (qT (qT (qT (qT qZ)))) (by kernel_rfl) ?_
  refine wH_load1 (i := 7) (d := 11) (T := 30) (ad := ⟨b0, 0, none⟩) (v := .slice A0_0 (l0_0).length cap0_0) (by kernel_rfl) (qT (qT (qT (qT qZ)))) (by kernel_rfl) (by kernel_rfl) vt30 (fun W hW => (Z2.chg hW notNil).cell 0) ?_
  refine wH_take [8] [8, 7, 6, 5, 4, 3, 2, 1, 0] [(12, .int .i64 (((l0_0).length : Int)))] (by kernel_rfl) (qT (qT (qT (qT qZ)))) (by kernel_rfl) ?_
  refine wH_done (by kernel_rfl) ?_
  refine eX_tail ?_
  refine wS_pure 1 [(13, .bool (decide (q0_1 < (((l0_0).length : Int)))))] (by kernel_rfl) ?_
  refine wS_end (by rfl) ?_
  refine eX_then ?_
  refine cW_cond (t := decide (q0_1 < (((l0_0).length : Int)))) (by kernel_rfl) (fun hb1 => ?_) (fun hb1 => ?_)
  ·have hm := condT hb1 hm
   refine cW_drawnTail [] 8 (by kernel_rfl) (by kernel_rfl) (fun w2 hc2 => ?_)
   replace F0_0 := F0_0.chg hc2 Dj.nil
   replace F0 := F0.chg hc2 notNil
   replace hB := hB.inS hc2 inNil
   replace hZ := Nat.le_trans hZ hc2.size
   have hS := Chg.refl [] w2
   have Z3 := F0_0
   have Z4 := F0
   refine wH_take [0, 1, 2] [2, 1, 0] [(16, .pointer (some ⟨b0, 0, none⟩)), (15, .pointer (some ⟨b0, 0, none⟩)), (14, .pointer (some ⟨b0, 0, none⟩))] (by kernel_rfl) (qT (qT (qT qZ))) (by kernel_rfl) ?_
   refine wH_load1 (i := 3) (d := 17) (T := 30) (ad := ⟨b0, 0, none⟩) (v := .slice A0_0 (l0_0).length cap0_0) (by kernel_rfl) (qT (qT (qT qZ))) (by kernel_rfl) (by kernel_rfl) vt30 (fun W hW => (Z4.chg hW notNil).cell 0) ?_
   refine wH_take [4, 5, 6] [6, 5, 4, 3, 2, 1, 0] [(20, .pointer (some ⟨b0, 1, none⟩)), (19, .pointer (some ⟨b0, 0, none⟩)), (18, .pointer (some ⟨b0, 0, none⟩))] (by kernel_rfl) (qT (qT (qT qZ))) (by kernel_rfl) ?_
   refine wH_load1 (i := 7) (d := 21) (T := 3) (ad := ⟨b0, 1, none⟩) (v := .int .i64 (q0_1)) (by kernel_rfl) (qT (qT (qT qZ))) (by kernel_rfl) (by kernel_rfl) vt3 (fun W hW => (Z4.chg hW notNil).cell 1) ?_
   refine wH_done (by kernel_rfl) ?_
   refine eX_tail ?_
   obtain ⟨x2, hx1, hm⟩ := bindE hm
   refine wS_idx (d := 22) (T := 30) (A := A0_0) (n := (l0_0).length) (cap := cap0_0) (kd := .i64) (m := q0_1) (by kernel_rfl) sl30 (F0_0.is hx1) ?_
   refine wS_load1 (d := 23) (T := 5) (ad := (elA A0_0 1 (q0_1) 0)) (v := .int .u8 (x2)) (by kernel_rfl) vt5 (Sl.cell F0_0 hx1 0 (by rfl)) ?_
   refine wS_pure 2 [(3, .int .i64 (wr x2)), (24, .int .i64 (wr x2))] (by kernel_rfl) ?_
   refine wS_end (by rfl) ?_
   have hq : (some (wr x2) : Option (Int)) = some _ := hm
   replace hq := someE hq
   subst hq
   exact eX_J (fun hst => ⟨wr x2, rfl, Fr.of hst (by kernel_rfl), F0_0, F0, hB, hZ⟩)
  ·have hm := condF hb1 hm
   refine cW_skip ?_
   have hq : (some 0 : Option (Int)) = some _ := hm
   replace hq := someE hq
   subst hq
   exact eX_J (fun hst => ⟨0, rfl, Fr.of hst (by kernel_rfl), F0_0, F0, hB, hZ⟩)
 ·rintro a' w3 ⟨x1, hJ, hF1, F1, F2, hB, hZ⟩
  subst hJ
  refine Fr.goX hF1 (by kernel_rfl) ?_
  refine eX_then ?_
  refine cW_seq ?_
  refine cW_region ?_
  refine wS_pure 3 [(27, .pointer (some ⟨b0, 1, none⟩)), (26, .pointer (some ⟨b0, 0, none⟩)), (25, .pointer (some ⟨b0, 0, none⟩))] (by kernel_rfl) ?_
  refine wS_load1 (d := 28) (T := 3) (ad := ⟨b0, 1, none⟩) (v := .int .i64 (q0_1)) (by kernel_rfl) vt3 ((F2).cell 1) ?_
  refine wS_pure 3 [(31, .pointer (some ⟨b0, 1, none⟩)), (30, .pointer (some ⟨b0, 0, none⟩)), (29, .int .i64 (wr (q0_1 + 1)))] (by kernel_rfl) ?_
  refine wS_store (T := 3) (g := b0) (o := 1) (ad := ⟨b0, 1, none⟩) (v := .int .i64 (wr (q0_1 + 1))) (vs := [.int .i64 (wr (q0_1 + 1))]) (by kernel_rfl) (by rfl) sz3 (by rfl) (by rfl) F2 (by simp only [List.length_cons, List.length_nil]; omega) ?_
  intro w4 F3 hc3
  replace F1 := F1.chg hc3 (J0__0_0).symm
  replace hB := hB.inS hc3 (inMem (fun x hx => (List.mem_append_left _ hx)))
  replace hZ := Nat.le_trans hZ hc3.size
  replace F3 : Cl w4 b0 77 [.slice A0_0 (l0_0).length cap0_0, .int .i64 (wr (q0_1 + 1)), .int .u64 (q0_2)] := F3
  clear F2
  refine wS_end (by rfl) ?_
  refine eX_then ?_
  refine cW_seq ?_
  refine cW_region ?_
  refine wS_pure 4 [(35, .pointer (some ⟨b0, 2, none⟩)), (34, .pointer (some ⟨b0, 0, none⟩)), (33, .pointer (some ⟨b0, 0, none⟩)), (32, .pointer (some ⟨b0, 0, none⟩))] (by kernel_rfl) ?_
  refine wS_load1 (d := 36) (T := 75) (ad := ⟨b0, 2, none⟩) (v := .int .u64 (q0_2)) (by kernel_rfl) vt75 ((F3).cell 2) ?_
  refine wS_pure 7 [(43, .pointer (some ⟨b0, 2, none⟩)), (42, .pointer (some ⟨b0, 0, none⟩)), (41, .int .u64 (wu ((wu ((wu (q0_2 * 6364136223846793005)) + (wu x1))) + 1442695040888963407))), (40, .int .u64 (wu ((wu (q0_2 * 6364136223846793005)) + (wu x1)))), (39, .int .u64 (wu x1)), (38, .int .i64 (x1)), (37, .int .u64 (wu (q0_2 * 6364136223846793005)))] (by kernel_rfl) ?_
  refine wS_store (T := 75) (g := b0) (o := 2) (ad := ⟨b0, 2, none⟩) (v := .int .u64 (wu ((wu ((wu (q0_2 * 6364136223846793005)) + (wu x1))) + 1442695040888963407))) (vs := [.int .u64 (wu ((wu ((wu (q0_2 * 6364136223846793005)) + (wu x1))) + 1442695040888963407))]) (by kernel_rfl) (by rfl) sz75 (by rfl) (by rfl) F3 (by simp only [List.length_cons, List.length_nil]; omega) ?_
  intro w5 F4 hc4
  replace F1 := F1.chg hc4 (J0__0_0).symm
  replace hB := hB.inS hc4 (inMem (fun x hx => (List.mem_append_left _ hx)))
  replace hZ := Nat.le_trans hZ hc4.size
  replace F4 : Cl w5 b0 77 [.slice A0_0 (l0_0).length cap0_0, .int .i64 (wr (q0_1 + 1)), .int .u64 (wu ((wu ((wu (q0_2 * 6364136223846793005)) + (wu x1))) + 1442695040888963407))] := F4
  clear F3
  refine wS_end (by rfl) ?_
  refine eX_then ?_
  refine cW_seq ?_
  refine cW_seq ?_
  refine cW_drawnTail [] 9 (by kernel_rfl) (by kernel_rfl) (fun w6 hc5 => ?_)
  replace F1 := F1.chg hc5 Dj.nil
  replace F4 := F4.chg hc5 notNil
  replace hB := hB.inS hc5 inNil
  replace hZ := Nat.le_trans hZ hc5.size
  have hS := Chg.refl [] w6
  have Z5 := F1
  have Z6 := F4
  refine wH_take [0, 1, 2] [2, 1, 0] [(46, .pointer (some ⟨b0, 1, none⟩)), (45, .pointer (some ⟨b0, 0, none⟩)), (44, .pointer (some ⟨b0, 0, none⟩))] (by kernel_rfl) (qT (qT (qT qZ))) (by kernel_rfl) ?_
  refine wH_load1 (i := 3) (d := 47) (T := 3) (ad := ⟨b0, 1, none⟩) (v := .int .i64 (wr (q0_1 + 1))) (by kernel_rfl) (qT (qT (qT qZ))) (by kernel_rfl) (by kernel_rfl) vt3 (fun W hW => (Z6.chg hW notNil).cell 1) ?_
  refine wH_take [4, 5, 6] [6, 5, 4, 3, 2, 1, 0] [(50, .pointer (some ⟨b0, 0, none⟩)), (49, .pointer (some ⟨b0, 0, none⟩)), (48, .pointer (some ⟨b0, 0, none⟩))] (by kernel_rfl) (qT (qT (qT qZ))) (by kernel_rfl) ?_
  refine wH_load1 (i := 7) (d := 51) (T := 30) (ad := ⟨b0, 0, none⟩) (v := .slice A0_0 (l0_0).length cap0_0) (by kernel_rfl) (qT (qT (qT qZ))) (by kernel_rfl) (by kernel_rfl) vt30 (fun W hW => (Z6.chg hW notNil).cell 0) ?_
  refine wH_take [8] [8, 7, 6, 5, 4, 3, 2, 1, 0] [(52, .int .i64 (((l0_0).length : Int)))] (by kernel_rfl) (qT (qT (qT qZ))) (by kernel_rfl) ?_
  refine wH_done (by kernel_rfl) ?_
  refine eX_tail ?_
  refine wS_pure 1 [(53, .bool (decide ((wr (q0_1 + 1)) ≤ (((l0_0).length : Int)))))] (by kernel_rfl) ?_
  refine wS_end (by rfl) ?_
  refine eX_then ?_
  refine cW_prune [(0, .pointer (some ⟨b0, 0, none⟩)), (3, .int .i64 (x1)), (53, .bool (decide ((wr (q0_1 + 1)) ≤ (((l0_0).length : Int)))))] (by kernel_rfl) (by kernel_rfl) (fun a1 => ?_)
  refine cW_cond (t := decide ((wr (q0_1 + 1)) ≤ (((l0_0).length : Int)))) (by kernel_rfl) (fun hb2 => ?_) (fun hb2 => ?_)
  ·have hm := condT hb2 hm
   refine cW_seq ?_
   refine cW_region ?_
   refine wS_pure 2 [(2, .int .i64 (x1)), (54, .int .i64 (x1))] (by kernel_rfl) ?_
   refine wS_end (by rfl) ?_
   refine eX_then ?_
   refine cW_ret ?_
   refine eX_then_ret ?_
   have hq : (some ((x1, wr (q0_1 + 1), wu ((wu ((wu (q0_2 * 6364136223846793005)) + (wu x1))) + 1442695040888963407))) : Option ((Int) × (Int) × (Int))) = some _ := hm
   replace hq := someE hq
   subst hq
   refine eX_ret (vs := [.int .i64 (x1)]) [.tmp 2] (by rfl) ⟨by (show lkE _ _ _ = _); kernel_rfl, trivial⟩ ?_
   exact ⟨rfl, F4, hB⟩
  ·have hm := condF hb2 hm
   refine cW_skip ?_
   refine eX_then ?_
   refine cW_seq ?_
   refine cW_region ?_
   refine wS_pure 3 [(57, .pointer (some ⟨b0, 2, none⟩)), (56, .pointer (some ⟨b0, 0, none⟩)), (55, .pointer (some ⟨b0, 0, none⟩))] (by kernel_rfl) ?_
   refine wS_load1 (d := 58) (T := 75) (ad := ⟨b0, 2, none⟩) (v := .int .u64 (wu ((wu ((wu (q0_2 * 6364136223846793005)) + (wu x1))) + 1442695040888963407))) (by kernel_rfl) vt75 ((F4).cell 2) ?_
   refine wS_pure 4 [(2, .int .i64 (wr (andU (shrU (wu ((wu ((wu (q0_2 * 6364136223846793005)) + (wu x1))) + 1442695040888963407)) 40) 255))), (61, .int .i64 (wr (andU (shrU (wu ((wu ((wu (q0_2 * 6364136223846793005)) + (wu x1))) + 1442695040888963407)) 40) 255))), (60, .int .u64 (andU (shrU (wu ((wu ((wu (q0_2 * 6364136223846793005)) + (wu x1))) + 1442695040888963407)) 40) 255)), (59, .int .u64 (shrU (wu ((wu ((wu (q0_2 * 6364136223846793005)) + (wu x1))) + 1442695040888963407)) 40))] (by kernel_rfl) ?_
   refine wS_end (by rfl) ?_
   refine eX_then ?_
   refine cW_ret ?_
   have hq : (some ((wr (andU (shrU (wu ((wu ((wu (q0_2 * 6364136223846793005)) + (wu x1))) + 1442695040888963407)) 40) 255), wr (q0_1 + 1), wu ((wu ((wu (q0_2 * 6364136223846793005)) + (wu x1))) + 1442695040888963407))) : Option ((Int) × (Int) × (Int))) = some _ := hm
   replace hq := someE hq
   subst hq
   refine eX_ret (vs := [.int .i64 (wr (andU (shrU (wu ((wu ((wu (q0_2 * 6364136223846793005)) + (wu x1))) + 1442695040888963407)) 40) 255))]) [.tmp 2] (by rfl) ⟨by (show lkE _ _ _ = _); kernel_rfl, trivial⟩ ?_
   exact ⟨rfl, F4, hB⟩

set_option maxRecDepth 100000 in
/-- spec.l00Src).pick -/
theorem c_spec_l00Src_pick_bspecl00Src {w0 : World} {l0_0 : List (Int)} {A0_0 : Option Addr} {cap0_0 : Nat} {fp0_0 : List Nat} {q0_1 : Int} {q0_2 : Int} {b0 : Nat} {p1 : Int} {r : (Int) × (Int) × (Int)} (hm : m_spec_l00Src_pick_bspecl00Src l0_0 q0_1 q0_2 p1 = some r) (F0_0 : Sl 1 encU w0 fp0_0 A0_0 l0_0) (F0 : Cl w0 b0 77 [.slice A0_0 (l0_0).length cap0_0, .int .i64 (q0_1), .int .u64 (q0_2)]) (J0__0_0 : Dj [b0] fp0_0) :
  Calls Try.prog 48 #[.pointer (some ⟨b0, 0, none⟩), .int .i64 (p1)] w0 fun e w' => e = .returned (.int .i64 (r.1)) ∧ Cl w' b0 77 [.slice A0_0 (l0_0).length cap0_0, .int .i64 (r.2.1), .int .u64 (r.2.2)] ∧ Chg ([b0] ++ []) w0 w' := by
 have L0_0 := F0_0.low
 have L0 := lt1 F0.lt
 have hB : Chg ([b0] ++ []) w0 w0 := Chg.refl _ _
 have hZ := Nat.le_refl w0.heap.size
 unfold m_spec_l00Src_pick_bspecl00Src at hm
 refine enterE (N := 20) Try.func48 (by rfl) Try.ntmps48 (by simp) [(0, .pointer (some ⟨b0, 0, none⟩)), (1, .int .i64 (p1))] (by rfl) (by kernel_rfl) (fun a => ?_)
 refine cW_seq ?_
 refine cW_region ?_
 refine wS_pure 1 [(4, .int .i64 (0))] (by kernel_rfl) ?_
 refine wS_end (by rfl) ?_
 refine eX_then ?_
 refine cW_seq ?_
 refine cW_seq ?_
 refine cW_region ?_
 refine wS_pure 2 [(7, .bool (decide (p1 ≤ 1))), (6, .int .i64 (p1))] (by kernel_rfl) ?_
 refine wS_end (by rfl) ?_
 refine eX_then ?_
 refine cW_cond (t := decide (p1 ≤ 1)) (by kernel_rfl) (fun hb1 => ?_) (fun hb1 => ?_)
 ·have hm := condT hb1 hm
  refine cW_seq ?_
  refine cW_region ?_
  refine wS_pure 1 [(4, .int .i64 (0))] (by kernel_rfl) ?_
  refine wS_end (by rfl) ?_
  refine eX_then ?_
  refine cW_ret ?_
  refine eX_then_ret ?_
  have hq : (some ((0, q0_1, q0_2)) : Option ((Int) × (Int) × (Int))) = some _ := hm
  replace hq := someE hq
  subst hq
  refine eX_ret (vs := [.int .i64 (0)]) [.tmp 4] (by rfl) ⟨by (show lkE _ _ _ = _); kernel_rfl, trivial⟩ ?_
  exact ⟨rfl, F0, hB⟩
 ·have hm := condF hb1 hm
  refine cW_skip ?_
  refine eX_then ?_
  refine cW_seq ?_
  refine cW_region ?_
  refine wS_pure 1 [(8, .pointer (some ⟨b0, 0, none⟩))] (by kernel_rfl) ?_
  obtain ⟨y1, hy1, hm⟩ := bindE hm
  refine wS_calls (d := 9) (f := 68) (vs := [.pointer (some ⟨b0, 0, none⟩)]) (by kernel_rfl) ent68 (c_spec_l00Src_next_bspecl00Src hy1 F0_0 F0 J0__0_0) ?_
  rintro _ w1 ⟨rfl, F1, hc1⟩
  replace F0_0 := F0_0.chg hc1 (Dj.app (J0__0_0).symm Dj.nil)
  replace hB := hB.inS hc1 (inApp (inMem (fun x hx => (List.mem_append_left _ hx))) inNil)
  replace hZ := Nat.le_trans hZ hc1.size
  clear F0
  refine ⟨.int .i64 (y1.1), rfl, ?_⟩
  refine wS_pure 1 [(5, .int .i64 (y1.1))] (by kernel_rfl) ?_
  refine wS_end (by rfl) ?_
  refine eX_then ?_
  refine cW_seq ?_
  obtain ⟨s1, hs1, hm⟩ := bindE hm
  refine cW_cut (fun a' w' => ∃ x1 : Int, ∃ x2 : Int, ∃ x3 : Int, (x1, x2, x3) = s1 ∧ Fr 20 [(1, .int .i64 (p1)), (5, .int .i64 (x1))] a' ∧ Sl 1 encU w' fp0_0 A0_0 l0_0 ∧ Cl w' b0 77 [.slice A0_0 (l0_0).length cap0_0, .int .i64 (x2), .int .u64 (x3)] ∧ Chg ([b0] ++ []) w0 w' ∧ w0.heap.size ≤ w'.heap.size) ?_ ?_
  ·have hm := hs1
   refine cW_seq ?_
   refine cW_region ?_
   refine wS_pure 2 [(11, .bool (decide (p1 > 200))), (10, .int .i64 (p1))] (by kernel_rfl) ?_
   refine wS_end (by rfl) ?_
   refine eX_then ?_
   refine cW_cond (t := decide (p1 > 200)) (by kernel_rfl) (fun hb2 => ?_) (fun hb2 => ?_)
   ·have hm := condT hb2 hm
    refine cW_region ?_
    refine wS_pure 3 [(14, .pointer (some ⟨b0, 0, none⟩)), (13, .int .i64 (wr (y1.1 * 256))), (12, .int .i64 (y1.1))] (by kernel_rfl) ?_
    obtain ⟨y2, hy2, hm⟩ := bindE hm
    refine wS_calls (d := 15) (f := 68) (vs := [.pointer (some ⟨b0, 0, none⟩)]) (by kernel_rfl) ent68 (c_spec_l00Src_next_bspecl00Src hy2 F0_0 F1 J0__0_0) ?_
    rintro _ w2 ⟨rfl, F2, hc2⟩
    replace F0_0 := F0_0.chg hc2 (Dj.app (J0__0_0).symm Dj.nil)
    replace hB := hB.inS hc2 (inApp (inMem (fun x hx => (List.mem_append_left _ hx))) inNil)
    replace hZ := Nat.le_trans hZ hc2.size
    clear F1
    refine ⟨.int .i64 (y2.1), rfl, ?_⟩
    refine wS_pure 2 [(5, .int .i64 (wr ((wr (y1.1 * 256)) + y2.1))), (16, .int .i64 (wr ((wr (y1.1 * 256)) + y2.1)))] (by kernel_rfl) ?_
    refine wS_end (by rfl) ?_
    have hq : (some ((wr ((wr (y1.1 * 256)) + y2.1), y2.2.1, y2.2.2)) : Option (Int × Int × Int)) = some _ := hm
    replace hq := someE hq
    subst hq
    exact eX_J (fun hst => ⟨wr ((wr (y1.1 * 256)) + y2.1), y2.2.1, y2.2.2, rfl, Fr.of hst (by kernel_rfl), F0_0, F2, hB, hZ⟩)
   ·have hm := condF hb2 hm
    refine cW_skip ?_
    have hq : (some ((y1.1, y1.2.1, y1.2.2)) : Option (Int × Int × Int)) = some _ := hm
    replace hq := someE hq
    subst hq
    exact eX_J (fun hst => ⟨y1.1, y1.2.1, y1.2.2, rfl, Fr.of hst (by kernel_rfl), F0_0, F1, hB, hZ⟩)
  ·rintro a' w3 ⟨x1, x2, x3, hJ, hF1, F3, F4, hB, hZ⟩
   subst hJ
   refine Fr.goX hF1 (by kernel_rfl) ?_
   refine eX_then ?_
   refine cW_seq ?_
   refine cW_region ?_
   refine wS_pure 2 [(18, .int .i64 (p1)), (17, .int .i64 (x1))] (by kernel_rfl) ?_
   obtain ⟨u1, hu1, hm⟩ := bindE hm
   refine wS_rem (d := 19) (x := x1) (y := p1) (by kernel_rfl) (nzE hu1) ?_
   refine wS_pure 1 [(4, .int .i64 (Int.tmod x1 p1))] (by kernel_rfl) ?_
   refine wS_end (by rfl) ?_
   refine eX_then ?_
   refine cW_ret ?_
   have hq : (some ((Int.tmod x1 p1, x2, x3)) : Option ((Int) × (Int) × (Int))) = some _ := hm
   replace hq := someE hq
   subst hq
   refine eX_ret (vs := [.int .i64 (Int.tmod x1 p1)]) [.tmp 4] (by rfl) ⟨by (show lkE _ _ _ = _); kernel_rfl, trivial⟩ ?_
   exact ⟨rfl, F4, hB⟩

set_option maxRecDepth 100000 in
/-- spec.l05DrawOk -/
theorem c_spec_l05DrawOk_bspecl00Src {w0 : World} {l0_0 : List (Int)} {A0_0 : Option Addr} {cap0_0 : Nat} {fp0_0 : List Nat} {q0_1 : Int} {q0_2 : Int} {b0 : Nat} {p1 : Int} {r : (List (Int × Int)) × (Int) × (Int)} (hm : m_spec_l05DrawOk_bspecl00Src l0_0 q0_1 q0_2 p1 = some r) (F0_0 : Sl 1 encU w0 fp0_0 A0_0 l0_0) (F0 : Cl w0 b0 77 [.slice A0_0 (l0_0).length cap0_0, .int .i64 (q0_1), .int .u64 (q0_2)]) (J0__0_0 : Dj [b0] fp0_0) :
  Calls Try.prog 28 #[.pointer (some ⟨b0, 0, none⟩), .int .i64 (p1)] w0 fun e w' => ∃ A100 cap100 fp100, e = .returned (.slice A100 (r.1).length cap100) ∧ Ow 2 encII 34 w' fp100 A100 cap100 r.1 ∧ (∀ x ∈ fp100, w0.heap.size ≤ x) ∧ Cl w' b0 77 [.slice A0_0 (l0_0).length cap0_0, .int .i64 (r.2.1), .int .u64 (r.2.2)] ∧ Chg ([b0] ++ []) w0 w' := by
 have L0_0 := F0_0.low
 have L0 := lt1 F0.lt
 have hB : Chg ([b0] ++ []) w0 w0 := Chg.refl _ _
 have hZ := Nat.le_refl w0.heap.size
 unfold m_spec_l05DrawOk_bspecl00Src at hm
 refine enterE (N := 32) Try.func28 (by rfl) Try.ntmps28 (by simp) [(0, .pointer (some ⟨b0, 0, none⟩)), (1, .int .i64 (p1))] (by rfl) (by kernel_rfl) (fun a => ?_)
 refine cW_seq ?_
 refine cW_region ?_
 refine wS_pure 1 [(4, .slice none 0 0)] (by kernel_rfl) ?_
 refine wS_end (by rfl) ?_
 refine eX_then ?_
 refine cW_seq ?_
 refine cW_region ?_
 refine wS_bs0 (α := Int × Int) (enc := encII) (d := 8) (t := 26) (T := 34) (by kernel_rfl) el26 ?_
 intro b1 w1 G1 F1 hc1
 replace F0_0 := F0_0.chg hc1 Dj.nil
 replace F0 := F0.chg hc1 notNil
 replace hB := hB.inS hc1 inNil
 replace G1 := Nat.le_trans hZ G1
 replace G1 := low1 G1
 replace hZ := Nat.le_trans hZ hc1.size
 refine wS_pure 1 [(5, .slice (some ⟨b1, 0, none⟩) (([] : List (Int × Int))).length 0)] (by kernel_rfl) ?_
 refine wS_end (by rfl) ?_
 refine eX_then ?_
 refine cW_seq ?_
 refine cW_seq ?_
 refine cW_region ?_
 refine wS_pure 2 [(10, .int .i64 (p1)), (9, .pointer (some ⟨b0, 0, none⟩))] (by kernel_rfl) ?_
 obtain ⟨y1, hy1, hm⟩ := bindE hm
 refine wS_calls (d := 11) (f := 48) (vs := [.pointer (some ⟨b0, 0, none⟩), .int .i64 (p1)]) (by kernel_rfl) ent48 (c_spec_l00Src_pick_bspecl00Src hy1 F0_0 F0 J0__0_0) ?_
 rintro _ w2 ⟨rfl, F2, hc2⟩
 replace F0_0 := F0_0.chg hc2 (Dj.app (J0__0_0).symm Dj.nil)
 replace F1 := F1.chg hc2 (Dj.app (Dj.of L0 G1).symm Dj.nil)
 replace hB := hB.inS hc2 (inApp (inMem (fun x hx => (List.mem_append_left _ hx))) inNil)
 replace hZ := Nat.le_trans hZ hc2.size
 clear F0
 refine ⟨.int .i64 (y1.1), rfl, ?_⟩
 refine wS_pure 2 [(6, .int .i64 (wr (1 + y1.1))), (12, .int .i64 (wr (1 + y1.1)))] (by kernel_rfl) ?_
 refine wS_end (by rfl) ?_
 refine eX_then ?_
 obtain ⟨r1, hr1, hm⟩ := bindE hm
 have hm1 := hm
 refine cW_cut (fun a' w' => ∃ l1 : List (Int × Int), ∃ A1 : Option Addr, ∃ cap1 : Nat, ∃ fp1 : List Nat, ∃ x1 : Int, ∃ x2 : Int, (l1, x1, x2) = r1 ∧ Fr 32 [(5, .slice A1 (l1).length cap1)] a' ∧ Sl 1 encU w' fp0_0 A0_0 l0_0 ∧ Cl w' b0 77 [.slice A0_0 (l0_0).length cap0_0, .int .i64 (x1), .int .u64 (x2)] ∧ Ow 2 encII 34 w' fp1 A1 cap1 l1 ∧ (∀ x ∈ fp1, w0.heap.size ≤ x) ∧ Chg ([b0] ++ []) w0 w' ∧ w0.heap.size ≤ w'.heap.size) ?_ ?_
 ·refine cW_block ?_
  refine cW_loop _ (fun (s1 : (List (Int × Int)) × Int × Int × Int) a' w' => ∃ l3 : List (Int × Int), ∃ A3 : Option Addr, ∃ cap3 : Nat, ∃ fp2 : List Nat, ∃ x3 : Int, ∃ x4 : Int, ∃ x5 : Int, (l3, x3, x4, x5) = s1 ∧ Fr 32 [(0, .pointer (some ⟨b0, 0, none⟩)), (5, .slice A3 (l3).length cap3), (6, .int .i64 (x3))] a' ∧ Sl 1 encU w' fp0_0 A0_0 l0_0 ∧ Cl w' b0 77 [.slice A0_0 (l0_0).length cap0_0, .int .i64 (x4), .int .u64 (x5)] ∧ Ow 2 encII 34 w' fp2 A3 cap3 l3 ∧ (∀ x ∈ fp2, w0.heap.size ≤ x) ∧ Chg ([b0] ++ []) w0 w' ∧ w0.heap.size ≤ w'.heap.size) hr1 (fun hst => ⟨([] : List (Int × Int)), (some ⟨b1, 0, none⟩), 0, [b1], wr (1 + y1.1), y1.2.1, y1.2.2, rfl, Fr.of hst (by kernel_rfl), F0_0, F2, F1, G1, hB, hZ⟩) ?_
  rintro _ c1 a' w3 ⟨l3, A3, cap3, fp2, x3, x4, x5, rfl, hF1, F3, F4, F5, G2, hB, hZ⟩ hx1
  refine Fr.goOn hF1 (by kernel_rfl) ?_
  have hm := hx1
  unfold m_spec_l05DrawOk_bspecl00Src_s1 at hm
  refine cW_seq ?_
  refine cW_seq ?_
  refine cW_region ?_
  refine wS_pure 2 [(14, .bool (decide (x3 > 0))), (13, .int .i64 (x3))] (by kernel_rfl) ?_
  refine wS_end (by rfl) ?_
  refine eX_then ?_
  refine cW_cond (t := decide (x3 > 0)) (by kernel_rfl) (fun hb1 => ?_) (fun hb1 => ?_)
  ·have hm := condT hb1 hm
   refine cW_skip ?_
   refine eX_then ?_
   refine cW_seq ?_
   refine cW_block ?_
   obtain ⟨s2, hs1, hm⟩ := bindE hm
   refine cW_cut (fun a' w' => ∃ l4 : List (Int × Int), ∃ A4 : Option Addr, ∃ cap4 : Nat, ∃ fp3 : List Nat, ∃ x6 : Int, ∃ x7 : Int, (l4, x6, x7) = s2 ∧ Fr 32 [(0, .pointer (some ⟨b0, 0, none⟩)), (5, .slice A4 (l4).length cap4), (6, .int .i64 (x3))] a' ∧ Sl 1 encU w' fp0_0 A0_0 l0_0 ∧ Cl w' b0 77 [.slice A0_0 (l0_0).length cap0_0, .int .i64 (x6), .int .u64 (x7)] ∧ Ow 2 encII 34 w' fp3 A4 cap4 l4 ∧ (∀ x ∈ fp3, w0.heap.size ≤ x) ∧ Chg ([b0] ++ []) w0 w' ∧ w0.heap.size ≤ w'.heap.size) ?_ ?_
   ·have hm := hs1
    refine cW_seq ?_
    refine cW_region ?_
    refine wS_pure 1 [(17, .pointer (some ⟨b0, 0, none⟩))] (by kernel_rfl) ?_
    obtain ⟨y2, hy2, hm⟩ := bindE hm
    refine wS_calls (d := 18) (f := 48) (vs := [.pointer (some ⟨b0, 0, none⟩), .int .i64 (9)]) (by kernel_rfl) ent48 (c_spec_l00Src_pick_bspecl00Src hy2 F3 F4 J0__0_0) ?_
    rintro _ w4 ⟨rfl, F6, hc3⟩
    replace F3 := F3.chg hc3 (Dj.app (J0__0_0).symm Dj.nil)
    replace F5 := F5.chg hc3 (Dj.app (Dj.of L0 G2).symm Dj.nil)
    replace hB := hB.inS hc3 (inApp (inMem (fun x hx => (List.mem_append_left _ hx))) inNil)
    replace hZ := Nat.le_trans hZ hc3.size
    clear F4
    refine ⟨.int .i64 (y2.1), rfl, ?_⟩
    refine wS_pure 1 [(19, .agg #[.int .i64 (y2.1), .int .i64 (0)])] (by kernel_rfl) ?_
    refine wS_alloc (d := 7) (T := 34) (z := .agg #[.int .i64 (0), .int .i64 (0)]) (by kernel_rfl) (by kernel_rfl) ?_
    intro b2 w5 G3 F7 hc4
    replace F7 : Cl w5 b2 34 [.int .i64 (0), .int .i64 (0)] := F7
    have D1 : Dj fp2 [b2] := Dj.of F5.low (low1 G3)
    replace F3 := F3.chg hc4 Dj.nil
    replace F6 := F6.chg hc4 notNil
    replace F5 := F5.chg hc4 Dj.nil
    replace hB := hB.inS hc4 inNil
    replace G3 := Nat.le_trans hZ G3
    replace hZ := Nat.le_trans hZ hc4.size
    refine wS_store (T := 34) (g := b2) (o := 0) (ad := ⟨b2, 0, none⟩) (v := .agg #[.int .i64 (y2.1), .int .i64 (0)]) (vs := [.int .i64 (y2.1), .int .i64 (0)]) (by kernel_rfl) (by rfl) sz34 (by rfl) (by rfl) F7 (by simp only [List.length_cons, List.length_nil]; omega) ?_
    intro w6 F8 hc5
    replace F3 := F3.chg hc5 (Dj.of L0_0 (low1 G3))
    replace F6 := F6.chg hc5 (dj1 (Dj.of L0 (low1 G3)))
    replace F5 := F5.chg hc5 D1
    replace hB := hB.inS hc5 (inLow (low1 G3))
    replace hZ := Nat.le_trans hZ hc5.size
    replace F8 : Cl w6 b2 34 [.int .i64 (y2.1), .int .i64 (0)] := F8
    clear F7
    refine wS_end (by rfl) ?_
    refine eX_then ?_
    refine cW_seq ?_
    refine cW_region ?_
    refine wS_pure 1 [(20, .pointer (some ⟨b0, 0, none⟩))] (by kernel_rfl) ?_
    obtain ⟨y3, hy3, hm⟩ := bindE hm
    refine wS_calls (d := 21) (f := 48) (vs := [.pointer (some ⟨b0, 0, none⟩), .int .i64 (9)]) (by kernel_rfl) ent48 (c_spec_l00Src_pick_bspecl00Src hy3 F3 F6 J0__0_0) ?_
    rintro _ w7 ⟨rfl, F9, hc6⟩
    replace F3 := F3.chg hc6 (Dj.app (J0__0_0).symm Dj.nil)
    replace F5 := F5.chg hc6 (Dj.app (Dj.of L0 G2).symm Dj.nil)
    replace F8 := F8.chg hc6 (dj1 (Dj.app (Dj.of L0 (low1 G3)).symm Dj.nil))
    replace hB := hB.inS hc6 (inApp (inMem (fun x hx => (List.mem_append_left _ hx))) inNil)
    replace hZ := Nat.le_trans hZ hc6.size
    clear F6
    refine ⟨.int .i64 (y3.1), rfl, ?_⟩
    refine wS_pure 1 [(22, .pointer (some ⟨b2, 1, none⟩))] (by kernel_rfl) ?_
    refine wS_store (T := 2) (g := b2) (o := 1) (ad := ⟨b2, 1, none⟩) (v := .int .i64 (y3.1)) (vs := [.int .i64 (y3.1)]) (by kernel_rfl) (by rfl) sz2 (by rfl) (by rfl) F8 (by simp only [List.length_cons, List.length_nil]; omega) ?_
    intro w8 F10 hc7
    replace F3 := F3.chg hc7 (Dj.of L0_0 (low1 G3))
    replace F9 := F9.chg hc7 (dj1 (Dj.of L0 (low1 G3)))
    replace F5 := F5.chg hc7 D1
    replace hB := hB.inS hc7 (inLow (low1 G3))
    replace hZ := Nat.le_trans hZ hc7.size
    replace F10 : Cl w8 b2 34 [.int .i64 (y2.1), .int .i64 (y3.1)] := F10
    clear F8
    refine wS_end (by rfl) ?_
    refine eX_then ?_
    refine cW_seq ?_
    refine cW_region ?_
    refine wS_pure 1 [(23, .slice A3 (l3).length cap3)] (by kernel_rfl) ?_
    refine wS_loadA (d := 24) (T := 34) (ad := ⟨b2, 0, none⟩) (vs := [.int .i64 (y2.1), .int .i64 (y3.1)]) (by kernel_rfl) vt34 (fun i u hu => box_cells F10 0 hu (by rfl)) ?_
    obtain ⟨y4, hy4, hm⟩ := bindE hm
    refine wS_calls (d := 25) (f := 49) (vs := [.slice A3 (l3).length cap3, .agg #[.int .i64 (y2.1), .int .i64 (y3.1)]]) (by kernel_rfl) ent49 (c_spec_l01Index hy4 (F5.sl encII_ok)) ?_
    rintro _ w9 ⟨rfl, hc8⟩
    replace F3 := F3.chg hc8 Dj.nil
    replace F9 := F9.chg hc8 notNil
    replace F5 := F5.chg hc8 Dj.nil
    replace F10 := F10.chg hc8 notNil
    replace hB := hB.inS hc8 inNil
    replace hZ := Nat.le_trans hZ hc8.size
    refine ⟨.int .i64 (y4), rfl, ?_⟩
    refine wS_pure 1 [(26, .bool (decide (y4 < 0)))] (by kernel_rfl) ?_
    refine wS_end (by rfl) ?_
    refine eX_then ?_
    refine cW_cond (t := decide (y4 < 0)) (by kernel_rfl) (fun hb2 => ?_) (fun hb2 => ?_)
    ·have hm := condT hb2 hm
     refine cW_region ?_
     refine wS_pure 1 [(27, .slice A3 (l3).length cap3)] (by kernel_rfl) ?_
     refine wS_loadA (d := 28) (T := 34) (ad := ⟨b2, 0, none⟩) (vs := [.int .i64 (y2.1), .int .i64 (y3.1)]) (by kernel_rfl) vt34 (fun i u hu => box_cells F10 0 hu (by rfl)) ?_
     refine wS_bs (enc := encII) ([(y2.1, y3.1)] : List (Int × Int)) [.int .i64 (y2.1), .int .i64 (y3.1)] (d := 29) (t := 26) (T := 34) (n := 1) (ps := [(0, .agg #[.int .i64 (y2.1), .int .i64 (y3.1)])]) (by kernel_rfl) el26 encII_ok (by rfl) (by omega) (by omega) (by kernel_rfl) (by rfl) ?_
     intro b3 w10 G4 F11 hc9
     have D2 : Dj fp2 [b3] := Dj.of F5.low (low1 G4)
     have D3 : Dj [b2] [b3] := Dj.of (lt1 F10.lt) (low1 G4)
     replace F3 := F3.chg hc9 Dj.nil
     replace F9 := F9.chg hc9 notNil
     replace F5 := F5.chg hc9 Dj.nil
     replace F10 := F10.chg hc9 notNil
     replace hB := hB.inS hc9 inNil
     replace G4 := Nat.le_trans hZ G4
     replace G4 := low1 G4
     replace hZ := Nat.le_trans hZ hc9.size
     obtain ⟨_, hk1, hm⟩ := bindE hm
     replace hk1 := apE hk1
     refine wS_append (enc := encII) (l := (l3 : List (Int × Int))) (l2 := (([(y2.1, y3.1)] : List (Int × Int)) : List (Int × Int))) (d := 30) (t := 26) (T := 34) (A := A3) (A2 := (some ⟨b3, 0, none⟩)) (cap := cap3) (cap2 := 1) (by kernel_rfl) el26 encII_ok F5 (F11.sl encII_ok) (by rfl) hk1 ?_
     intro w11 fp4 A5 cap5 F12 hc10 hp1
     have G5 := low_ap G2 hZ hp1
     have D4 : Dj [b2] fp4 := Dj.ap (D1).symm (lt1 F10.lt) hp1
     have D5 : Dj [b3] fp4 := Dj.ap (D2).symm F11.low hp1
     replace F3 := F3.chg hc10 (Dj.of L0_0 G2)
     replace F9 := F9.chg hc10 (dj1 (Dj.of L0 G2))
     replace F10 := F10.chg hc10 (dj1 (D1).symm)
     replace F11 := F11.chg hc10 (D2).symm
     replace hB := hB.inS hc10 (inLow G2)
     replace hZ := Nat.le_trans hZ hc10.size
     refine wS_pure 1 [(5, .slice A5 (l3 ++ (([(y2.1, y3.1)] : List (Int × Int)))).length cap5)] (by kernel_rfl) ?_
     refine wS_end (by rfl) ?_
     have hq : (some ((l3 ++ (([(y2.1, y3.1)] : List (Int × Int))), y3.2.1, y3.2.2)) : Option ((List (Int × Int)) × Int × Int)) = some _ := hm
     replace hq := someE hq
     subst hq
     exact eX_J (fun hst => ⟨l3 ++ (([(y2.1, y3.1)] : List (Int × Int))), A5, cap5, fp4, y3.2.1, y3.2.2, rfl, Fr.of hst (by kernel_rfl), F3, F9, F12, G5, hB, hZ⟩)
    ·have hm := condF hb2 hm
     refine cW_skip ?_
     have hq : (some ((l3, y3.2.1, y3.2.2)) : Option ((List (Int × Int)) × Int × Int)) = some _ := hm
     replace hq := someE hq
     subst hq
     exact eX_J (fun hst => ⟨l3, A3, cap3, fp2, y3.2.1, y3.2.2, rfl, Fr.of hst (by kernel_rfl), F3, F9, F5, G2, hB, hZ⟩)
   ·rintro a' w12 ⟨l4, A4, cap4, fp3, x6, x7, hJ, hF2, F13, F14, F15, G6, hB, hZ⟩
    subst hJ
    refine Fr.goX hF2 (by kernel_rfl) ?_
    refine eX_block ?_
    refine eX_then ?_
    refine cW_region ?_
    refine wS_pure 3 [(6, .int .i64 (wr (x3 - 1))), (16, .int .i64 (wr (x3 - 1))), (15, .int .i64 (x3))] (by kernel_rfl) ?_
    refine wS_end (by rfl) ?_
    have hq : (some (Ctl.next ((l4, wr (x3 - 1), x6, x7))) : Option (Ctl ((List (Int × Int)) × Int × Int × Int) ((List (Int × Int)) × Int × Int))) = some _ := hm
    replace hq := someE hq
    subst hq
    exact eX_next hx1 (fun hst => ⟨l4, A4, cap4, fp3, wr (x3 - 1), x6, x7, rfl, Fr.of hst (by kernel_rfl), F13, F14, F15, G6, hB, hZ⟩)
  ·have hm := condF hb1 hm
   refine cW_exit ?_
   refine eX_then_exit ?_
   have hq : (some (Ctl.out ((l3, x4, x5))) : Option (Ctl ((List (Int × Int)) × Int × Int × Int) ((List (Int × Int)) × Int × Int))) = some _ := hm
   replace hq := someE hq
   subst hq
   refine eX_outX hx1 (fun hr2 => ?_)
   replace hr2 := hr2.symm
   subst hr2
   refine eX_block_hit ?_
   exact eX_J (fun hst => ⟨l3, A3, cap3, fp2, x4, x5, rfl, Fr.of hst (by kernel_rfl), F3, F4, F5, G2, hB, hZ⟩)
 ·rintro a' w13 ⟨l1, A1, cap1, fp1, x1, x2, hJ, hF3, F16, F17, F18, G7, hB, hZ⟩
  subst hJ
  refine Fr.goX hF3 (by kernel_rfl) ?_
  refine eX_then ?_
  refine cW_seq ?_
  refine cW_region ?_
  refine wS_pure 2 [(4, .slice A1 (l1).length cap1), (31, .slice A1 (l1).length cap1)] (by kernel_rfl) ?_
  refine wS_end (by rfl) ?_
  refine eX_then ?_
  refine cW_ret ?_
  have hq : (some ((l1, x1, x2)) : Option ((List (Int × Int)) × (Int) × (Int))) = some _ := hm
  replace hq := someE hq
  subst hq
  refine eX_ret (vs := [.slice A1 (l1).length cap1]) [.tmp 4] (by rfl) ⟨by (show lkE _ _ _ = _); kernel_rfl, trivial⟩ ?_
  exact ⟨A1, cap1, fp1, rfl, F18, G7, F17, hB⟩

set_option maxRecDepth 100000 in
/-- spec.B10Pins -/
theorem c_spec_B10Pins {w0 : World} {l0 : List (Int)} {A0 : Option Addr} {cap0 : Nat} {fp0 : List Nat} {p1 : Int} {r : (List (Int × Int))} (hm : m_spec_B10Pins l0 p1 = some r) (F0 : Sl 1 encU w0 fp0 A0 l0) :
  Calls Try.prog 11 #[.slice A0 (l0).length cap0, .int .i64 (p1)] w0 fun e w' => ∃ A100 cap100 fp100, e = .returned (.slice A100 (r).length cap100) ∧ Ow 2 encII 34 w' fp100 A100 cap100 r ∧ (∀ x ∈ fp100, w0.heap.size ≤ x) ∧ Chg [] w0 w' := by
 have L0 := F0.low
 have hB : Chg [] w0 w0 := Chg.refl _ _
 have hZ := Nat.le_refl w0.heap.size
 unfold m_spec_B10Pins at hm
 refine enterE (N := 11) Try.func11 (by rfl) Try.ntmps11 (by simp) [(0, .slice A0 (l0).length cap0), (1, .int .i64 (p1))] (by rfl) (by kernel_rfl) (fun a => ?_)
 refine cW_seq ?_
 refine cW_region ?_
 refine wS_pure 1 [(4, .slice none 0 0)] (by kernel_rfl) ?_
 refine wS_end (by rfl) ?_
 refine eX_then ?_
 refine cW_seq ?_
 refine cW_region ?_
 refine wS_pure 1 [(6, .slice A0 (l0).length cap0)] (by kernel_rfl) ?_
 obtain ⟨y1, hy1, hm⟩ := bindE hm
 refine wS_calls (d := 7) (f := 27) (vs := [.slice A0 (l0).length cap0]) (by kernel_rfl) ent27 (c_spec_l00From hy1 F0) ?_
 rintro _ w1 ⟨b1, rfl, F1, G1, hc1⟩
 replace F0 := F0.chg hc1 Dj.nil
 replace hB := hB.inS hc1 inNil
 replace G1 := Nat.le_trans hZ G1
 replace hZ := Nat.le_trans hZ hc1.size
 refine ⟨.pointer (some ⟨b1, 0, none⟩), rfl, ?_⟩
 refine wS_pure 1 [(5, .pointer (some ⟨b1, 0, none⟩))] (by kernel_rfl) ?_
 refine wS_end (by rfl) ?_
 refine eX_then ?_
 refine cW_seq ?_
 refine cW_region ?_
 refine wS_pure 2 [(9, .int .i64 (p1)), (8, .pointer (some ⟨b1, 0, none⟩))] (by kernel_rfl) ?_
 obtain ⟨y2, hy2, hm⟩ := bindE hm
 refine wS_calls (d := 10) (f := 28) (vs := [.pointer (some ⟨b1, 0, none⟩), .int .i64 (p1)]) (by kernel_rfl) ent28 (c_spec_l05DrawOk_bspecl00Src hy2 F0 F1 (Dj.of L0 (low1 G1)).symm) ?_
 rintro _ w2 ⟨A1, cap1, fp1, rfl, F2, G2, F3, hc2⟩
 have D1 : Dj [b1] fp1 := Dj.of (lt1 F1.lt) G2
 replace F0 := F0.chg hc2 (Dj.app (Dj.of L0 (low1 G1)) Dj.nil)
 replace hB := hB.inS hc2 (inApp (inLow (low1 G1)) inNil)
 replace G2 := low_le hZ G2
 replace hZ := Nat.le_trans hZ hc2.size
 clear F1
 refine ⟨.slice A1 (y2.1).length cap1, rfl, ?_⟩
 refine wS_pure 1 [(4, .slice A1 (y2.1).length cap1)] (by kernel_rfl) ?_
 refine wS_end (by rfl) ?_
 refine eX_then ?_
 refine cW_ret ?_
 have hq : (some y2.1 : Option ((List (Int × Int)))) = some _ := hm
 replace hq := someE hq
 subst hq
 refine eX_ret (vs := [.slice A1 (y2.1).length cap1]) [.tmp 4] (by rfl) ⟨by (show lkE _ _ _ = _); kernel_rfl, trivial⟩ ?_
 exact ⟨A1, cap1, fp1, rfl, F2, G2, hB⟩

set_option maxRecDepth 100000 in
/-- impl.ArePins -/
theorem c_impl_ArePins {w0 : World} {l0 : List (Int × Int)} {A0 : Option Addr} {cap0 : Nat} {fp0 : List Nat} {r : (Bool)} (hm : m_impl_ArePins l0 = some r) (F0 : Sl 2 encII w0 fp0 A0 l0) :
  Calls Try.prog 29 #[.slice A0 (l0).length cap0] w0 fun e w' => e = .returned (.bool (r)) ∧ Chg [] w0 w' := by
 have L0 := F0.low
 have hB : Chg [] w0 w0 := Chg.refl _ _
 have hZ := Nat.le_refl w0.heap.size
 unfold m_impl_ArePins at hm
 refine enterE (N := 5) Try.func29 (by rfl) Try.ntmps29 (by simp) [(0, .slice A0 (l0).length cap0)] (by rfl) (by kernel_rfl) (fun a => ?_)
 refine cW_seq ?_
 refine cW_region ?_
 refine wS_pure 1 [(2, .bool (false))] (by kernel_rfl) ?_
 refine wS_end (by rfl) ?_
 refine eX_then ?_
 refine cW_seq ?_
 refine cW_region ?_
 refine wS_pure 1 [(3, .slice A0 (l0).length cap0)] (by kernel_rfl) ?_
 obtain ⟨y1, hy1, hm⟩ := bindE hm
 refine wS_calls (d := 4) (f := 23) (vs := [.slice A0 (l0).length cap0, .int .i64 (20)]) (by kernel_rfl) ent23 (c_impl_pinsOk hy1 F0) ?_
 rintro _ w1 ⟨rfl, hc1⟩
 replace F0 := F0.chg hc1 Dj.nil
 replace hB := hB.inS hc1 inNil
 replace hZ := Nat.le_trans hZ hc1.size
 refine ⟨.bool (y1), rfl, ?_⟩
 refine wS_pure 1 [(2, .bool (y1))] (by kernel_rfl) ?_
 refine wS_end (by rfl) ?_
 refine eX_then ?_
 refine cW_ret ?_
 have hq : (some y1 : Option ((Bool))) = some _ := hm
 replace hq := someE hq
 subst hq
 refine eX_ret (vs := [.bool (y1)]) [.tmp 2] (by rfl) ⟨by (show lkE _ _ _ = _); kernel_rfl, trivial⟩ ?_
 exact ⟨rfl, hB⟩

set_option maxRecDepth 100000 in
/-- impl.hanan -/
theorem c_impl_hanan {w0 : World} {l0 : List (Int × Int)} {A0 : Option Addr} {cap0 : Nat} {fp0 : List Nat} {r : (List (Int × Int))} (hm : m_impl_hanan l0 = some r) (F0 : Sl 2 encII w0 fp0 A0 l0) :
  Calls Try.prog 30 #[.slice A0 (l0).length cap0] w0 fun e w' => ∃ A100 cap100 fp100, e = .returned (.slice A100 (r).length cap100) ∧ Ow 2 encII 34 w' fp100 A100 cap100 r ∧ (∀ x ∈ fp100, w0.heap.size ≤ x) ∧ Chg [] w0 w' := by
 have L0 := F0.low
 have hB : Chg [] w0 w0 := Chg.refl _ _
 have hZ := Nat.le_refl w0.heap.size
 unfold m_impl_hanan at hm
 refine enterE (N := 33) Try.func30 (by rfl) Try.ntmps30 (by simp) [(0, .slice A0 (l0).length cap0)] (by rfl) (by kernel_rfl) (fun a => ?_)
 refine cW_seq ?_
 refine cW_region ?_
 refine wS_pure 1 [(2, .slice none 0 0)] (by kernel_rfl) ?_
 refine wS_end (by rfl) ?_
 refine eX_then ?_
 refine cW_seq ?_
 refine cW_region ?_
 refine wS_bs0 (α := Int × Int) (enc := encII) (d := 8) (t := 26) (T := 34) (by kernel_rfl) el26 ?_
 intro b1 w1 G1 F1 hc1
 replace F0 := F0.chg hc1 Dj.nil
 replace hB := hB.inS hc1 inNil
 replace G1 := Nat.le_trans hZ G1
 replace G1 := low1 G1
 replace hZ := Nat.le_trans hZ hc1.size
 refine wS_pure 1 [(3, .slice (some ⟨b1, 0, none⟩) (([] : List (Int × Int))).length 0)] (by kernel_rfl) ?_
 refine wS_end (by rfl) ?_
 refine eX_then ?_
 refine cW_seq ?_
 refine cW_seq ?_
 refine cW_region ?_
 refine wS_pure 3 [(11, .int .i64 (0)), (10, .int .i64 (((l0).length : Int))), (9, .slice A0 (l0).length cap0)] (by kernel_rfl) ?_
 refine wS_end (by rfl) ?_
 refine eX_then ?_
 obtain ⟨r1, hr1, hm⟩ := bindE hm
 have hm1 := hm
 refine cW_cut (fun a' w' => ∃ l1 : List (Int × Int), ∃ A1 : Option Addr, ∃ cap1 : Nat, ∃ fp1 : List Nat, l1 = r1 ∧ Fr 33 [(3, .slice A1 (l1).length cap1)] a' ∧ Ow 2 encII 34 w' fp1 A1 cap1 l1 ∧ (∀ x ∈ fp1, w0.heap.size ≤ x) ∧ Chg [] w0 w' ∧ w0.heap.size ≤ w'.heap.size) ?_ ?_
 ·refine cW_block ?_
  refine cW_loop _ (fun (s1 : (List (Int × Int)) × Int) a' w' => ∃ l3 : List (Int × Int), ∃ A3 : Option Addr, ∃ cap3 : Nat, ∃ fp2 : List Nat, ∃ x1 : Int, (l3, x1) = s1 ∧ Fr 33 [(0, .slice A0 (l0).length cap0), (3, .slice A3 (l3).length cap3), (9, .slice A0 (l0).length cap0), (10, .int .i64 (((l0).length : Int))), (11, .int .i64 (x1))] a' ∧ Sl 2 encII w' fp0 A0 l0 ∧ Ow 2 encII 34 w' fp2 A3 cap3 l3 ∧ (∀ x ∈ fp2, w0.heap.size ≤ x) ∧ Chg [] w0 w' ∧ w0.heap.size ≤ w'.heap.size) hr1 (fun hst => ⟨([] : List (Int × Int)), (some ⟨b1, 0, none⟩), 0, [b1], 0, rfl, Fr.of hst (by kernel_rfl), F0, F1, G1, hB, hZ⟩) ?_
  rintro _ c1 a' w2 ⟨l3, A3, cap3, fp2, x1, rfl, hF1, F2, F3, G2, hB, hZ⟩ hx1
  refine Fr.goOn hF1 (by kernel_rfl) ?_
  have hm := hx1
  unfold m_impl_hanan_s3 at hm
  refine cW_seq ?_
  refine cW_region ?_
  refine wS_pure 1 [(12, .bool (decide (x1 < (((l0).length : Int)))))] (by kernel_rfl) ?_
  refine wS_end (by rfl) ?_
  refine eX_then ?_
  refine cW_seq ?_
  refine cW_cond (t := decide (x1 < (((l0).length : Int)))) (by kernel_rfl) (fun hb1 => ?_) (fun hb1 => ?_)
  ·have hm := condT hb1 hm
   refine cW_skip ?_
   refine eX_then ?_
   refine cW_seq ?_
   refine cW_block ?_
   refine cW_seq ?_
   refine cW_region ?_
   obtain ⟨x2, hx2, hm⟩ := bindE hm
   refine wS_idx (d := 13) (T := 26) (A := A0) (n := (l0).length) (cap := cap0) (kd := .i64) (m := x1) (by kernel_rfl) sl26 (F2.is hx2) ?_
   refine wS_loadA (d := 14) (T := 34) (ad := (elA A0 2 (x1) 0)) (vs := [.int .i64 (x2.1), .int .i64 (x2.2)]) (by kernel_rfl) vt34 (fun i u hu => Sl.cells_at F2 hx2 0 hu (by rfl)) ?_
   refine wS_alloc (d := 5) (T := 34) (z := .agg #[.int .i64 (0), .int .i64 (0)]) (by kernel_rfl) (by kernel_rfl) ?_
   intro b2 w3 G3 F4 hc2
   replace F4 : Cl w3 b2 34 [.int .i64 (0), .int .i64 (0)] := F4
   have D1 : Dj fp2 [b2] := Dj.of F3.low (low1 G3)
   replace F2 := F2.chg hc2 Dj.nil
   replace F3 := F3.chg hc2 Dj.nil
   replace hB := hB.inS hc2 inNil
   replace G3 := Nat.le_trans hZ G3
   replace hZ := Nat.le_trans hZ hc2.size
   refine wS_store (T := 34) (g := b2) (o := 0) (ad := ⟨b2, 0, none⟩) (v := .agg #[.int .i64 (x2.1), .int .i64 (x2.2)]) (vs := [.int .i64 (x2.1), .int .i64 (x2.2)]) (by kernel_rfl) (by rfl) sz34 (by rfl) (by rfl) F4 (by simp only [List.length_cons, List.length_nil]; omega) ?_
   intro w4 F5 hc3
   replace F2 := F2.chg hc3 (Dj.of L0 (low1 G3))
   replace F3 := F3.chg hc3 D1
   replace hB := hB.inS hc3 (inLow (low1 G3))
   replace hZ := Nat.le_trans hZ hc3.size
   replace F5 : Cl w4 b2 34 [.int .i64 (x2.1), .int .i64 (x2.2)] := F5
   clear F4
   refine wS_end (by rfl) ?_
   refine eX_then ?_
   refine cW_seq ?_
   refine cW_region ?_
   refine wS_pure 3 [(17, .int .i64 (0)), (16, .int .i64 (((l0).length : Int))), (15, .slice A0 (l0).length cap0)] (by kernel_rfl) ?_
   refine wS_end (by rfl) ?_
   refine eX_then ?_
   obtain ⟨r2, hr2, hm⟩ := bindE hm
   have hm2 := hm
   refine cW_cut (fun a' w' => ∃ l4 : List (Int × Int), ∃ A4 : Option Addr, ∃ cap4 : Nat, ∃ fp3 : List Nat, l4 = r2 ∧ Fr 33 [(0, .slice A0 (l0).length cap0), (3, .slice A4 (l4).length cap4), (9, .slice A0 (l0).length cap0), (10, .int .i64 (((l0).length : Int))), (11, .int .i64 (x1))] a' ∧ Sl 2 encII w' fp0 A0 l0 ∧ Ow 2 encII 34 w' fp3 A4 cap4 l4 ∧ (∀ x ∈ fp3, w0.heap.size ≤ x) ∧ Chg [] w0 w' ∧ w0.heap.size ≤ w'.heap.size) ?_ ?_
   ·refine cW_block ?_
    refine cW_loop _ (fun (s2 : (List (Int × Int)) × Int) a' w' => ∃ l5 : List (Int × Int), ∃ A5 : Option Addr, ∃ cap5 : Nat, ∃ fp4 : List Nat, ∃ x3 : Int, (l5, x3) = s2 ∧ Fr 33 [(0, .slice A0 (l0).length cap0), (3, .slice A5 (l5).length cap5), (5, .pointer (some ⟨b2, 0, none⟩)), (9, .slice A0 (l0).length cap0), (10, .int .i64 (((l0).length : Int))), (11, .int .i64 (x1)), (15, .slice A0 (l0).length cap0), (16, .int .i64 (((l0).length : Int))), (17, .int .i64 (x3))] a' ∧ Sl 2 encII w' fp0 A0 l0 ∧ Cl w' b2 34 [.int .i64 (x2.1), .int .i64 (x2.2)] ∧ Ow 2 encII 34 w' fp4 A5 cap5 l5 ∧ (∀ x ∈ fp4, w0.heap.size ≤ x) ∧ Dj [b2] fp4 ∧ Chg [] w0 w' ∧ w0.heap.size ≤ w'.heap.size) hr2 (fun hst => ⟨l3, A3, cap3, fp2, 0, rfl, Fr.of hst (by kernel_rfl), F2, F5, F3, G2, (D1).symm, hB, hZ⟩) ?_
    rintro _ c2 a' w5 ⟨l5, A5, cap5, fp4, x3, rfl, hF2, F6, F7, F8, G4, D2, hB, hZ⟩ hx3
    refine Fr.goOn hF2 (by kernel_rfl) ?_
    have hm := hx3
    unfold m_impl_hanan_s4 at hm
    refine cW_seq ?_
    refine cW_region ?_
    refine wS_pure 1 [(18, .bool (decide (x3 < (((l0).length : Int)))))] (by kernel_rfl) ?_
    refine wS_end (by rfl) ?_
    refine eX_then ?_
    refine cW_seq ?_
    refine cW_cond (t := decide (x3 < (((l0).length : Int)))) (by kernel_rfl) (fun hb2 => ?_) (fun hb2 => ?_)
    ·have hm := condT hb2 hm
     refine cW_skip ?_
     refine eX_then ?_
     refine cW_seq ?_
     refine cW_block ?_
     refine cW_seq ?_
     refine cW_region ?_
     obtain ⟨x4, hx4, hm⟩ := bindE hm
     refine wS_idx (d := 19) (T := 26) (A := A0) (n := (l0).length) (cap := cap0) (kd := .i64) (m := x3) (by kernel_rfl) sl26 (F6.is hx4) ?_
     refine wS_loadA (d := 20) (T := 34) (ad := (elA A0 2 (x3) 0)) (vs := [.int .i64 (x4.1), .int .i64 (x4.2)]) (by kernel_rfl) vt34 (fun i u hu => Sl.cells_at F6 hx4 0 hu (by rfl)) ?_
     refine wS_alloc (d := 7) (T := 34) (z := .agg #[.int .i64 (0), .int .i64 (0)]) (by kernel_rfl) (by kernel_rfl) ?_
     intro b3 w6 G5 F9 hc4
     replace F9 : Cl w6 b3 34 [.int .i64 (0), .int .i64 (0)] := F9
     have D3 : Dj [b2] [b3] := Dj.of (lt1 F7.lt) (low1 G5)
     have D4 : Dj fp4 [b3] := Dj.of F8.low (low1 G5)
     replace F6 := F6.chg hc4 Dj.nil
     replace F7 := F7.chg hc4 notNil
     replace F8 := F8.chg hc4 Dj.nil
     replace hB := hB.inS hc4 inNil
     replace G5 := Nat.le_trans hZ G5
     replace hZ := Nat.le_trans hZ hc4.size
     refine wS_store (T := 34) (g := b3) (o := 0) (ad := ⟨b3, 0, none⟩) (v := .agg #[.int .i64 (x4.1), .int .i64 (x4.2)]) (vs := [.int .i64 (x4.1), .int .i64 (x4.2)]) (by kernel_rfl) (by rfl) sz34 (by rfl) (by rfl) F9 (by simp only [List.length_cons, List.length_nil]; omega) ?_
     intro w7 F10 hc5
     replace F6 := F6.chg hc5 (Dj.of L0 (low1 G5))
     replace F7 := F7.chg hc5 (dj1 D3)
     replace F8 := F8.chg hc5 D4
     replace hB := hB.inS hc5 (inLow (low1 G5))
     replace hZ := Nat.le_trans hZ hc5.size
     replace F10 : Cl w7 b3 34 [.int .i64 (x4.1), .int .i64 (x4.2)] := F10
     clear F9
     refine wS_end (by rfl) ?_
     refine eX_then ?_
     refine cW_region ?_
     refine wS_pure 2 [(22, .pointer (some ⟨b2, 0, none⟩)), (21, .slice A5 (l5).length cap5)] (by kernel_rfl) ?_
     refine wS_load1 (d := 23) (T := 2) (ad := ⟨b2, 0, none⟩) (v := .int .i64 (x2.1)) (by kernel_rfl) vt2 ((F7).cell 0) ?_
     refine wS_pure 1 [(24, .pointer (some ⟨b3, 1, none⟩))] (by kernel_rfl) ?_
     refine wS_load1 (d := 25) (T := 2) (ad := ⟨b3, 1, none⟩) (v := .int .i64 (x4.2)) (by kernel_rfl) vt2 ((F10).cell 1) ?_
     refine wS_pure 1 [(26, .agg #[.int .i64 (x2.1), .int .i64 (x4.2)])] (by kernel_rfl) ?_
     refine wS_bs (enc := encII) ([(x2.1, x4.2)] : List (Int × Int)) [.int .i64 (x2.1), .int .i64 (x4.2)] (d := 27) (t := 26) (T := 34) (n := 1) (ps := [(0, .agg #[.int .i64 (x2.1), .int .i64 (x4.2)])]) (by kernel_rfl) el26 encII_ok (by rfl) (by omega) (by omega) (by kernel_rfl) (by rfl) ?_
     intro b4 w8 G6 F11 hc6
     have D5 : Dj [b2] [b4] := Dj.of (lt1 F7.lt) (low1 G6)
     have D6 : Dj fp4 [b4] := Dj.of F8.low (low1 G6)
     have D7 : Dj [b3] [b4] := Dj.of (lt1 F10.lt) (low1 G6)
     replace F6 := F6.chg hc6 Dj.nil
     replace F7 := F7.chg hc6 notNil
     replace F8 := F8.chg hc6 Dj.nil
     replace F10 := F10.chg hc6 notNil
     replace hB := hB.inS hc6 inNil
     replace G6 := Nat.le_trans hZ G6
     replace G6 := low1 G6
     replace hZ := Nat.le_trans hZ hc6.size
     obtain ⟨_, hk1, hm⟩ := bindE hm
     replace hk1 := apE hk1
     refine wS_append (enc := encII) (l := (l5 : List (Int × Int))) (l2 := (([(x2.1, x4.2)] : List (Int × Int)) : List (Int × Int))) (d := 28) (t := 26) (T := 34) (A := A5) (A2 := (some ⟨b4, 0, none⟩)) (cap := cap5) (cap2 := 1) (by kernel_rfl) el26 encII_ok F8 (F11.sl encII_ok) (by rfl) hk1 ?_
     intro w9 fp5 A6 cap6 F12 hc7 hp1
     have G7 := low_ap G4 hZ hp1
     have D8 : Dj [b2] fp5 := Dj.ap D2 (lt1 F7.lt) hp1
     have D9 : Dj [b3] fp5 := Dj.ap (D4).symm (lt1 F10.lt) hp1
     have D10 : Dj [b4] fp5 := Dj.ap (D6).symm F11.low hp1
     replace F6 := F6.chg hc7 (Dj.of L0 G4)
     replace F7 := F7.chg hc7 (dj1 D2)
     replace F10 := F10.chg hc7 (dj1 (D4).symm)
     replace F11 := F11.chg hc7 (D6).symm
     replace hB := hB.inS hc7 (inLow G4)
     replace hZ := Nat.le_trans hZ hc7.size
     refine wS_pure 1 [(3, .slice A6 (l5 ++ (([(x2.1, x4.2)] : List (Int × Int)))).length cap6)] (by kernel_rfl) ?_
     refine wS_end (by rfl) ?_
     refine eX_block ?_
     refine eX_then ?_
     refine cW_region ?_
     refine wS_pure 2 [(17, .int .i64 (wr (x3 + 1))), (29, .int .i64 (wr (x3 + 1)))] (by kernel_rfl) ?_
     refine wS_end (by rfl) ?_
     have hq : (some (Ctl.next ((l5 ++ (([(x2.1, x4.2)] : List (Int × Int))), wr (x3 + 1)))) : Option (Ctl ((List (Int × Int)) × Int) ((List (Int × Int))))) = some _ := hm
     replace hq := someE hq
     subst hq
     exact eX_next hx3 (fun hst => ⟨l5 ++ (([(x2.1, x4.2)] : List (Int × Int))), A6, cap6, fp5, wr (x3 + 1), rfl, Fr.of hst (by kernel_rfl), F6, F7, F12, G7, D8, hB, hZ⟩)
    ·have hm := condF hb2 hm
     refine cW_exit ?_
     refine eX_then_exit ?_
     have hq : (some (Ctl.out l5) : Option (Ctl ((List (Int × Int)) × Int) ((List (Int × Int))))) = some _ := hm
     replace hq := someE hq
     subst hq
     refine eX_outX hx3 (fun hr3 => ?_)
     replace hr3 := hr3.symm
     subst hr3
     refine eX_block_hit ?_
     exact eX_J (fun hst => ⟨l5, A5, cap5, fp4, rfl, Fr.of hst (by kernel_rfl), F6, F8, G4, hB, hZ⟩)
   ·rintro a' w10 ⟨l4, A4, cap4, fp3, hJ, hF3, F13, F14, G8, hB, hZ⟩
    subst hJ
    refine Fr.goX hF3 (by kernel_rfl) ?_
    refine eX_block ?_
    refine eX_then ?_
    refine cW_region ?_
    refine wS_pure 2 [(11, .int .i64 (wr (x1 + 1))), (30, .int .i64 (wr (x1 + 1)))] (by kernel_rfl) ?_
    refine wS_end (by rfl) ?_
    have hq : (some (Ctl.next ((l4, wr (x1 + 1)))) : Option (Ctl ((List (Int × Int)) × Int) ((List (Int × Int))))) = some _ := hm
    replace hq := someE hq
    subst hq
    exact eX_next hx1 (fun hst => ⟨l4, A4, cap4, fp3, wr (x1 + 1), rfl, Fr.of hst (by kernel_rfl), F13, F14, G8, hB, hZ⟩)
  ·have hm := condF hb1 hm
   refine cW_exit ?_
   refine eX_then_exit ?_
   have hq : (some (Ctl.out l3) : Option (Ctl ((List (Int × Int)) × Int) ((List (Int × Int))))) = some _ := hm
   replace hq := someE hq
   subst hq
   refine eX_outX hx1 (fun hr4 => ?_)
   replace hr4 := hr4.symm
   subst hr4
   refine eX_block_hit ?_
   exact eX_J (fun hst => ⟨l3, A3, cap3, fp2, rfl, Fr.of hst (by kernel_rfl), F3, G2, hB, hZ⟩)
 ·rintro a' w11 ⟨l1, A1, cap1, fp1, hJ, hF4, F15, G9, hB, hZ⟩
  subst hJ
  refine Fr.goX hF4 (by kernel_rfl) ?_
  refine eX_then ?_
  refine cW_seq ?_
  refine cW_region ?_
  refine wS_pure 1 [(31, .slice A1 (l1).length cap1)] (by kernel_rfl) ?_
  obtain ⟨y1, hy1, hm⟩ := bindE hm
  refine wS_calls (d := 32) (f := 42) (vs := [.slice A1 (l1).length cap1]) (by kernel_rfl) ent42 (c_impl_sorted hy1 (F15.sl encII_ok)) ?_
  rintro _ w12 ⟨A7, cap7, fp6, rfl, F16, G10, hc8⟩
  have D11 : Dj fp1 fp6 := Dj.of F15.low G10
  replace F15 := F15.chg hc8 Dj.nil
  replace hB := hB.inS hc8 inNil
  replace G10 := low_le hZ G10
  replace hZ := Nat.le_trans hZ hc8.size
  refine ⟨.slice A7 (y1).length cap7, rfl, ?_⟩
  refine wS_pure 1 [(2, .slice A7 (y1).length cap7)] (by kernel_rfl) ?_
  refine wS_end (by rfl) ?_
  refine eX_then ?_
  refine cW_ret ?_
  have hq : (some y1 : Option ((List (Int × Int)))) = some _ := hm
  replace hq := someE hq
  subst hq
  refine eX_ret (vs := [.slice A7 (y1).length cap7]) [.tmp 2] (by rfl) ⟨by (show lkE _ _ _ = _); kernel_rfl, trivial⟩ ?_
  exact ⟨A7, cap7, fp6, rfl, F16, G10, hB⟩

set_option maxRecDepth 100000 in
/-- impl.star -/
theorem c_impl_star {w0 : World} {l0 : List (Int × Int)} {A0 : Option Addr} {cap0 : Nat} {fp0 : List Nat} {p1_0 : Int} {p1_1 : Int} {r : (Int)} (hm : m_impl_star l0 p1_0 p1_1 = some r) (F0 : Sl 2 encII w0 fp0 A0 l0) :
  Calls Try.prog 31 #[.slice A0 (l0).length cap0, .agg #[.int .i64 (p1_0), .int .i64 (p1_1)]] w0 fun e w' => e = .returned (.int .i64 (r)) ∧ Chg [] w0 w' := by
 have L0 := F0.low
 have hB : Chg [] w0 w0 := Chg.refl _ _
 have hZ := Nat.le_refl w0.heap.size
 unfold m_impl_star at hm
 refine enterE (N := 21) Try.func31 (by rfl) Try.ntmps31 (by simp) [(0, .slice A0 (l0).length cap0), (1, .agg #[.int .i64 (p1_0), .int .i64 (p1_1)])] (by rfl) (by kernel_rfl) (fun a => ?_)
 refine cW_seq ?_
 refine cW_region ?_
 refine wS_box (d := 3) (T := 34) (x := .agg #[.int .i64 (p1_0), .int .i64 (p1_1)]) (by kernel_rfl) ?_
 intro b1 w1 G1 F1 hc1
 replace F1 : Cl w1 b1 34 [.int .i64 (p1_0), .int .i64 (p1_1)] := F1
 replace F0 := F0.chg hc1 Dj.nil
 replace hB := hB.inS hc1 inNil
 replace G1 := Nat.le_trans hZ G1
 replace hZ := Nat.le_trans hZ hc1.size
 refine wS_pure 1 [(4, .int .i64 (0))] (by kernel_rfl) ?_
 refine wS_end (by rfl) ?_
 refine eX_then ?_
 refine cW_seq ?_
 refine cW_region ?_
 refine wS_pure 1 [(5, .int .i64 (0))] (by kernel_rfl) ?_
 refine wS_end (by rfl) ?_
 refine eX_then ?_
 refine cW_seq ?_
 refine cW_seq ?_
 refine cW_region ?_
 refine wS_pure 3 [(10, .int .i64 (0)), (9, .int .i64 (((l0).length : Int))), (8, .slice A0 (l0).length cap0)] (by kernel_rfl) ?_
 refine wS_end (by rfl) ?_
 refine eX_then ?_
 obtain ⟨r1, hr1, hm⟩ := bindE hm
 have hm1 := hm
 refine cW_cut (fun a' w' => ∃ x1 : Int, x1 = r1 ∧ Fr 21 [(5, .int .i64 (x1))] a' ∧ Chg [] w0 w' ∧ w0.heap.size ≤ w'.heap.size) ?_ ?_
 ·refine cW_block ?_
  refine cW_loop _ (fun (s1 : Int × Int) a' w' => ∃ x2 : Int, ∃ x3 : Int, (x2, x3) = s1 ∧ Fr 21 [(3, .pointer (some ⟨b1, 0, none⟩)), (5, .int .i64 (x2)), (8, .slice A0 (l0).length cap0), (9, .int .i64 (((l0).length : Int))), (10, .int .i64 (x3))] a' ∧ Sl 2 encII w' fp0 A0 l0 ∧ Cl w' b1 34 [.int .i64 (p1_0), .int .i64 (p1_1)] ∧ Chg [] w0 w' ∧ w0.heap.size ≤ w'.heap.size) hr1 (fun hst => ⟨0, 0, rfl, Fr.of hst (by kernel_rfl), F0, F1, hB, hZ⟩) ?_
  rintro _ c1 a' w2 ⟨x2, x3, rfl, hF1, F2, F3, hB, hZ⟩ hx1
  refine Fr.goOn hF1 (by kernel_rfl) ?_
  have hm := hx1
  unfold m_impl_star_s1 at hm
  refine cW_seq ?_
  refine cW_region ?_
  refine wS_pure 1 [(11, .bool (decide (x3 < (((l0).length : Int)))))] (by kernel_rfl) ?_
  refine wS_end (by rfl) ?_
  refine eX_then ?_
  refine cW_seq ?_
  refine cW_cond (t := decide (x3 < (((l0).length : Int)))) (by kernel_rfl) (fun hb1 => ?_) (fun hb1 => ?_)
  ·have hm := condT hb1 hm
   refine cW_skip ?_
   refine eX_then ?_
   refine cW_seq ?_
   refine cW_block ?_
   refine cW_seq ?_
   refine cW_region ?_
   obtain ⟨x4, hx2, hm⟩ := bindE hm
   refine wS_idx (d := 12) (T := 26) (A := A0) (n := (l0).length) (cap := cap0) (kd := .i64) (m := x3) (by kernel_rfl) sl26 (F2.is hx2) ?_
   refine wS_loadA (d := 13) (T := 34) (ad := (elA A0 2 (x3) 0)) (vs := [.int .i64 (x4.1), .int .i64 (x4.2)]) (by kernel_rfl) vt34 (fun i u hu => Sl.cells_at F2 hx2 0 hu (by rfl)) ?_
   refine wS_alloc (d := 7) (T := 34) (z := .agg #[.int .i64 (0), .int .i64 (0)]) (by kernel_rfl) (by kernel_rfl) ?_
   intro b2 w3 G2 F4 hc2
   replace F4 : Cl w3 b2 34 [.int .i64 (0), .int .i64 (0)] := F4
   have D1 : Dj [b1] [b2] := Dj.of (lt1 F3.lt) (low1 G2)
   replace F2 := F2.chg hc2 Dj.nil
   replace F3 := F3.chg hc2 notNil
   replace hB := hB.inS hc2 inNil
   replace G2 := Nat.le_trans hZ G2
   replace hZ := Nat.le_trans hZ hc2.size
   refine wS_store (T := 34) (g := b2) (o := 0) (ad := ⟨b2, 0, none⟩) (v := .agg #[.int .i64 (x4.1), .int .i64 (x4.2)]) (vs := [.int .i64 (x4.1), .int .i64 (x4.2)]) (by kernel_rfl) (by rfl) sz34 (by rfl) (by rfl) F4 (by simp only [List.length_cons, List.length_nil]; omega) ?_
   intro w4 F5 hc3
   replace F2 := F2.chg hc3 (Dj.of L0 (low1 G2))
   replace F3 := F3.chg hc3 (dj1 D1)
   replace hB := hB.inS hc3 (inLow (low1 G2))
   replace hZ := Nat.le_trans hZ hc3.size
   replace F5 : Cl w4 b2 34 [.int .i64 (x4.1), .int .i64 (x4.2)] := F5
   clear F4
   refine wS_end (by rfl) ?_
   refine eX_then ?_
   refine cW_region ?_
   refine wS_pure 1 [(14, .int .i64 (x2))] (by kernel_rfl) ?_
   refine wS_loadA (d := 15) (T := 34) (ad := ⟨b2, 0, none⟩) (vs := [.int .i64 (x4.1), .int .i64 (x4.2)]) (by kernel_rfl) vt34 (fun i u hu => box_cells F5 0 hu (by rfl)) ?_
   refine wS_loadA (d := 16) (T := 34) (ad := ⟨b1, 0, none⟩) (vs := [.int .i64 (p1_0), .int .i64 (p1_1)]) (by kernel_rfl) vt34 (fun i u hu => box_cells F3 0 hu (by rfl)) ?_
   obtain ⟨y1, hy1, hm⟩ := bindE hm
   refine wS_calls (d := 17) (f := 43) (vs := [.agg #[.int .i64 (x4.1), .int .i64 (x4.2)], .agg #[.int .i64 (p1_0), .int .i64 (p1_1)]]) (by kernel_rfl) ent43 (c_impl_far hy1) ?_
   rintro _ w5 ⟨rfl, hc4⟩
   replace F2 := F2.chg hc4 Dj.nil
   replace F3 := F3.chg hc4 notNil
   replace F5 := F5.chg hc4 notNil
   replace hB := hB.inS hc4 inNil
   replace hZ := Nat.le_trans hZ hc4.size
   refine ⟨.int .i64 (y1), rfl, ?_⟩
   refine wS_pure 2 [(5, .int .i64 (wr (x2 + y1))), (18, .int .i64 (wr (x2 + y1)))] (by kernel_rfl) ?_
   refine wS_end (by rfl) ?_
   refine eX_block ?_
   refine eX_then ?_
   refine cW_region ?_
   refine wS_pure 2 [(10, .int .i64 (wr (x3 + 1))), (19, .int .i64 (wr (x3 + 1)))] (by kernel_rfl) ?_
   refine wS_end (by rfl) ?_
   have hq : (some (Ctl.next ((wr (x2 + y1), wr (x3 + 1)))) : Option (Ctl (Int × Int) (Int))) = some _ := hm
   replace hq := someE hq
   subst hq
   exact eX_next hx1 (fun hst => ⟨wr (x2 + y1), wr (x3 + 1), rfl, Fr.of hst (by kernel_rfl), F2, F3, hB, hZ⟩)
  ·have hm := condF hb1 hm
   refine cW_exit ?_
   refine eX_then_exit ?_
   have hq : (some (Ctl.out x2) : Option (Ctl (Int × Int) (Int))) = some _ := hm
   replace hq := someE hq
   subst hq
   refine eX_outX hx1 (fun hr2 => ?_)
   replace hr2 := hr2.symm
   subst hr2
   refine eX_block_hit ?_
   exact eX_J (fun hst => ⟨x2, rfl, Fr.of hst (by kernel_rfl), hB, hZ⟩)
 ·rintro a' w6 ⟨x1, hJ, hF2, hB, hZ⟩
  subst hJ
  refine Fr.goX hF2 (by kernel_rfl) ?_
  refine eX_then ?_
  refine cW_seq ?_
  refine cW_region ?_
  refine wS_pure 2 [(4, .int .i64 (x1)), (20, .int .i64 (x1))] (by kernel_rfl) ?_
  refine wS_end (by rfl) ?_
  refine eX_then ?_
  refine cW_ret ?_
  have hq : (some x1 : Option ((Int))) = some _ := hm
  replace hq := someE hq
  subst hq
  refine eX_ret (vs := [.int .i64 (x1)]) [.tmp 4] (by rfl) ⟨by (show lkE _ _ _ = _); kernel_rfl, trivial⟩ ?_
  exact ⟨rfl, hB⟩

set_option maxRecDepth 100000 in
/-- impl.BestRoot -/
theorem c_impl_BestRoot {w0 : World} {l0 : List (Int × Int)} {A0 : Option Addr} {cap0 : Nat} {fp0 : List Nat} {r : (Int × Int) × (Int) × (Bool)} (hm : m_impl_BestRoot l0 = some r) (F0 : Sl 2 encII w0 fp0 A0 l0) :
  Calls Try.prog 12 #[.slice A0 (l0).length cap0] w0 fun e w' => e = .returned (.tuple #[.agg #[.int .i64 (r.1.1), .int .i64 (r.1.2)], .int .i64 (r.2.1), .bool (r.2.2)]) ∧ Chg [] w0 w' := by
 have L0 := F0.low
 have hB : Chg [] w0 w0 := Chg.refl _ _
 have hZ := Nat.le_refl w0.heap.size
 unfold m_impl_BestRoot at hm
 refine enterE (N := 37) Try.func12 (by rfl) Try.ntmps12 (by simp) [(0, .slice A0 (l0).length cap0)] (by rfl) (by kernel_rfl) (fun a => ?_)
 refine cW_seq ?_
 refine cW_region ?_
 refine wS_alloc (d := 2) (T := 34) (z := .agg #[.int .i64 (0), .int .i64 (0)]) (by kernel_rfl) (by kernel_rfl) ?_
 intro b1 w1 G1 F1 hc1
 replace F1 : Cl w1 b1 34 [.int .i64 (0), .int .i64 (0)] := F1
 replace F0 := F0.chg hc1 Dj.nil
 replace hB := hB.inS hc1 inNil
 replace G1 := Nat.le_trans hZ G1
 replace hZ := Nat.le_trans hZ hc1.size
 refine wS_pure 2 [(4, .bool (false)), (3, .int .i64 (0))] (by kernel_rfl) ?_
 refine wS_end (by rfl) ?_
 refine eX_then ?_
 refine cW_seq ?_
 refine cW_seq ?_
 refine cW_region ?_
 refine wS_pure 1 [(9, .slice A0 (l0).length cap0)] (by kernel_rfl) ?_
 obtain ⟨y1, hy1, hm⟩ := bindE hm
 refine wS_calls (d := 10) (f := 29) (vs := [.slice A0 (l0).length cap0]) (by kernel_rfl) ent29 (c_impl_ArePins hy1 F0) ?_
 rintro _ w2 ⟨rfl, hc2⟩
 replace F0 := F0.chg hc2 Dj.nil
 replace F1 := F1.chg hc2 notNil
 replace hB := hB.inS hc2 inNil
 replace hZ := Nat.le_trans hZ hc2.size
 refine ⟨.bool (y1), rfl, ?_⟩
 refine wS_pure 1 [(11, .bool (!y1))] (by kernel_rfl) ?_
 refine wS_end (by rfl) ?_
 refine eX_then ?_
 refine cW_cond (t := !y1) (by kernel_rfl) (fun hb1 => ?_) (fun hb1 => ?_)
 ·have hm := condT hb1 hm
  refine cW_seq ?_
  refine cW_region ?_
  refine wS_pure 1 [(12, .agg #[.int .i64 (0), .int .i64 (0)])] (by kernel_rfl) ?_
  refine wS_store (T := 34) (g := b1) (o := 0) (ad := ⟨b1, 0, none⟩) (v := .agg #[.int .i64 (0), .int .i64 (0)]) (vs := [.int .i64 (0), .int .i64 (0)]) (by kernel_rfl) (by rfl) sz34 (by rfl) (by rfl) F1 (by simp only [List.length_cons, List.length_nil]; omega) ?_
  intro w3 F2 hc3
  replace F0 := F0.chg hc3 (Dj.of L0 (low1 G1))
  replace hB := hB.inS hc3 (inLow (low1 G1))
  replace hZ := Nat.le_trans hZ hc3.size
  replace F2 : Cl w3 b1 34 [.int .i64 (0), .int .i64 (0)] := F2
  clear F1
  refine wS_pure 2 [(4, .bool (false)), (3, .int .i64 (0))] (by kernel_rfl) ?_
  refine wS_end (by rfl) ?_
  refine eX_then ?_
  refine cW_ret ?_
  refine eX_then_ret ?_
  have hq : (some (((0, 0), 0, false)) : Option ((Int × Int) × (Int) × (Bool))) = some _ := hm
  replace hq := someE hq
  subst hq
  refine eX_ret (vs := [.agg #[.int .i64 (0), .int .i64 (0)], .int .i64 (0), .bool (false)]) [.cell 2 34, .tmp 3, .tmp 4] (by rfl) ⟨⟨⟨b1, 0, none⟩, by kernel_rfl, run_loadVarA (vs := [.int .i64 (0), .int .i64 (0)]) vt34 (fun i u hu => by exact box_cells F2 0 hu (by rfl))⟩, ⟨by (show lkE _ _ _ = _); kernel_rfl, ⟨by (show lkE _ _ _ = _); kernel_rfl, trivial⟩⟩⟩ ?_
  exact ⟨rfl, hB⟩
 ·have hm := condF hb1 hm
  refine cW_skip ?_
  refine eX_then ?_
  refine cW_seq ?_
  refine cW_region ?_
  refine wS_pure 1 [(13, .slice A0 (l0).length cap0)] (by kernel_rfl) ?_
  obtain ⟨y2, hy2, hm⟩ := bindE hm
  refine wS_calls (d := 14) (f := 30) (vs := [.slice A0 (l0).length cap0]) (by kernel_rfl) ent30 (c_impl_hanan hy2 F0) ?_
  rintro _ w4 ⟨A1, cap1, fp1, rfl, F3, G2, hc4⟩
  have D1 : Dj [b1] fp1 := Dj.of (lt1 F1.lt) G2
  replace F0 := F0.chg hc4 Dj.nil
  replace F1 := F1.chg hc4 notNil
  replace hB := hB.inS hc4 inNil
  replace G2 := low_le hZ G2
  replace hZ := Nat.le_trans hZ hc4.size
  refine ⟨.slice A1 (y2).length cap1, rfl, ?_⟩
  refine wS_pure 1 [(5, .slice A1 (y2).length cap1)] (by kernel_rfl) ?_
  refine wS_end (by rfl) ?_
  refine eX_then ?_
  refine cW_seq ?_
  refine cW_region ?_
  refine wS_pure 1 [(15, .slice A1 (y2).length cap1)] (by kernel_rfl) ?_
  obtain ⟨x1, hx1, hm⟩ := bindE hm
  refine wS_idx (d := 16) (T := 26) (A := A1) (n := (y2).length) (cap := cap1) (kd := .i64) (m := 0) (by kernel_rfl) sl26 ((F3.sl encII_ok).is hx1) ?_
  refine wS_loadA (d := 17) (T := 34) (ad := (elA A1 2 (0) 0)) (vs := [.int .i64 (x1.1), .int .i64 (x1.2)]) (by kernel_rfl) vt34 (fun i u hu => Sl.cells_at (F3.sl encII_ok) hx1 0 hu (by rfl)) ?_
  refine wS_alloc (d := 6) (T := 34) (z := .agg #[.int .i64 (0), .int .i64 (0)]) (by kernel_rfl) (by kernel_rfl) ?_
  intro b2 w5 G3 F4 hc5
  replace F4 : Cl w5 b2 34 [.int .i64 (0), .int .i64 (0)] := F4
  have D2 : Dj [b1] [b2] := Dj.of (lt1 F1.lt) (low1 G3)
  have D3 : Dj fp1 [b2] := Dj.of F3.low (low1 G3)
  replace F0 := F0.chg hc5 Dj.nil
  replace F1 := F1.chg hc5 notNil
  replace F3 := F3.chg hc5 Dj.nil
  replace hB := hB.inS hc5 inNil
  replace G3 := Nat.le_trans hZ G3
  replace hZ := Nat.le_trans hZ hc5.size
  refine wS_store (T := 34) (g := b2) (o := 0) (ad := ⟨b2, 0, none⟩) (v := .agg #[.int .i64 (x1.1), .int .i64 (x1.2)]) (vs := [.int .i64 (x1.1), .int .i64 (x1.2)]) (by kernel_rfl) (by rfl) sz34 (by rfl) (by rfl) F4 (by simp only [List.length_cons, List.length_nil]; omega) ?_
  intro w6 F5 hc6
  replace F0 := F0.chg hc6 (Dj.of L0 (low1 G3))
  replace F1 := F1.chg hc6 (dj1 D2)
  replace F3 := F3.chg hc6 D3
  replace hB := hB.inS hc6 (inLow (low1 G3))
  replace hZ := Nat.le_trans hZ hc6.size
  replace F5 : Cl w6 b2 34 [.int .i64 (x1.1), .int .i64 (x1.2)] := F5
  clear F4
  refine wS_end (by rfl) ?_
  refine eX_then ?_
  refine cW_seq ?_
  refine cW_seq ?_
  refine cW_region ?_
  refine wS_pure 3 [(20, .int .i64 (0)), (19, .int .i64 (((y2).length : Int))), (18, .slice A1 (y2).length cap1)] (by kernel_rfl) ?_
  refine wS_end (by rfl) ?_
  refine eX_then ?_
  obtain ⟨r1, hr1, hm⟩ := bindE hm
  have hm1 := hm
  refine cW_cut (fun a' w' => ∃ x2 : Int, ∃ x3 : Int, (x2, x3) = r1 ∧ Fr 37 [(0, .slice A0 (l0).length cap0), (2, .pointer (some ⟨b1, 0, none⟩)), (6, .pointer (some ⟨b2, 0, none⟩))] a' ∧ Sl 2 encII w' fp0 A0 l0 ∧ Cl w' b1 34 [.int .i64 (0), .int .i64 (0)] ∧ Cl w' b2 34 [.int .i64 (x2), .int .i64 (x3)] ∧ Chg [] w0 w' ∧ w0.heap.size ≤ w'.heap.size) ?_ ?_
  ·refine cW_block ?_
   refine cW_loop _ (fun (s1 : Int × Int × Int) a' w' => ∃ x4 : Int, ∃ x5 : Int, ∃ x6 : Int, (x4, x5, x6) = s1 ∧ Fr 37 [(0, .slice A0 (l0).length cap0), (2, .pointer (some ⟨b1, 0, none⟩)), (6, .pointer (some ⟨b2, 0, none⟩)), (18, .slice A1 (y2).length cap1), (19, .int .i64 (((y2).length : Int))), (20, .int .i64 (x4))] a' ∧ Sl 2 encII w' fp0 A0 l0 ∧ Cl w' b1 34 [.int .i64 (0), .int .i64 (0)] ∧ Ow 2 encII 34 w' fp1 A1 cap1 y2 ∧ Cl w' b2 34 [.int .i64 (x5), .int .i64 (x6)] ∧ Chg [] w0 w' ∧ w0.heap.size ≤ w'.heap.size) hr1 (fun hst => ⟨0, x1.1, x1.2, rfl, Fr.of hst (by kernel_rfl), F0, F1, F3, F5, hB, hZ⟩) ?_
   rintro _ c1 a' w7 ⟨x4, x5, x6, rfl, hF1, F6, F7, F8, F9, hB, hZ⟩ hx2
   refine Fr.goOn hF1 (by kernel_rfl) ?_
   have hm := hx2
   unfold m_impl_BestRoot_s1 at hm
   refine cW_seq ?_
   refine cW_region ?_
   refine wS_pure 1 [(21, .bool (decide (x4 < (((y2).length : Int)))))] (by kernel_rfl) ?_
   refine wS_end (by rfl) ?_
   refine eX_then ?_
   refine cW_seq ?_
   refine cW_cond (t := decide (x4 < (((y2).length : Int)))) (by kernel_rfl) (fun hb2 => ?_) (fun hb2 => ?_)
   ·have hm := condT hb2 hm
    refine cW_skip ?_
    refine eX_then ?_
    refine cW_seq ?_
    refine cW_block ?_
    obtain ⟨s2, hs1, hm⟩ := bindE hm
    refine cW_cut (fun a' w' => ∃ x7 : Int, ∃ x8 : Int, (x7, x8) = s2 ∧ Fr 37 [(0, .slice A0 (l0).length cap0), (2, .pointer (some ⟨b1, 0, none⟩)), (6, .pointer (some ⟨b2, 0, none⟩)), (18, .slice A1 (y2).length cap1), (19, .int .i64 (((y2).length : Int))), (20, .int .i64 (x4))] a' ∧ Sl 2 encII w' fp0 A0 l0 ∧ Cl w' b1 34 [.int .i64 (0), .int .i64 (0)] ∧ Ow 2 encII 34 w' fp1 A1 cap1 y2 ∧ Cl w' b2 34 [.int .i64 (x7), .int .i64 (x8)] ∧ Chg [] w0 w' ∧ w0.heap.size ≤ w'.heap.size) ?_ ?_
    ·have hm := hs1
     refine cW_seq ?_
     refine cW_region ?_
     obtain ⟨x9, hx3, hm⟩ := bindE hm
     refine wS_idx (d := 22) (T := 26) (A := A1) (n := (y2).length) (cap := cap1) (kd := .i64) (m := x4) (by kernel_rfl) sl26 ((F8.sl encII_ok).is hx3) ?_
     refine wS_loadA (d := 23) (T := 34) (ad := (elA A1 2 (x4) 0)) (vs := [.int .i64 (x9.1), .int .i64 (x9.2)]) (by kernel_rfl) vt34 (fun i u hu => Sl.cells_at (F8.sl encII_ok) hx3 0 hu (by rfl)) ?_
     refine wS_alloc (d := 8) (T := 34) (z := .agg #[.int .i64 (0), .int .i64 (0)]) (by kernel_rfl) (by kernel_rfl) ?_
     intro b3 w8 G4 F10 hc7
     replace F10 : Cl w8 b3 34 [.int .i64 (0), .int .i64 (0)] := F10
     have D4 : Dj [b1] [b3] := Dj.of (lt1 F7.lt) (low1 G4)
     have D5 : Dj fp1 [b3] := Dj.of F8.low (low1 G4)
     have D6 : Dj [b2] [b3] := Dj.of (lt1 F9.lt) (low1 G4)
     replace F6 := F6.chg hc7 Dj.nil
     replace F7 := F7.chg hc7 notNil
     replace F8 := F8.chg hc7 Dj.nil
     replace F9 := F9.chg hc7 notNil
     replace hB := hB.inS hc7 inNil
     replace G4 := Nat.le_trans hZ G4
     replace hZ := Nat.le_trans hZ hc7.size
     refine wS_store (T := 34) (g := b3) (o := 0) (ad := ⟨b3, 0, none⟩) (v := .agg #[.int .i64 (x9.1), .int .i64 (x9.2)]) (vs := [.int .i64 (x9.1), .int .i64 (x9.2)]) (by kernel_rfl) (by rfl) sz34 (by rfl) (by rfl) F10 (by simp only [List.length_cons, List.length_nil]; omega) ?_
     intro w9 F11 hc8
     replace F6 := F6.chg hc8 (Dj.of L0 (low1 G4))
     replace F7 := F7.chg hc8 (dj1 D4)
     replace F8 := F8.chg hc8 D5
     replace F9 := F9.chg hc8 (dj1 D6)
     replace hB := hB.inS hc8 (inLow (low1 G4))
     replace hZ := Nat.le_trans hZ hc8.size
     replace F11 : Cl w9 b3 34 [.int .i64 (x9.1), .int .i64 (x9.2)] := F11
     clear F10
     refine wS_end (by rfl) ?_
     refine eX_then ?_
     refine cW_seq ?_
     refine cW_drawnTail [] 5 (by kernel_rfl) (by kernel_rfl) (fun w10 hc9 => ?_)
     replace F6 := F6.chg hc9 Dj.nil
     replace F7 := F7.chg hc9 notNil
     replace F8 := F8.chg hc9 Dj.nil
     replace F9 := F9.chg hc9 notNil
     replace F11 := F11.chg hc9 notNil
     replace hB := hB.inS hc9 inNil
     replace hZ := Nat.le_trans hZ hc9.size
     have hS := Chg.refl [] w10
     have Z1 := F6
     have Z2 := F7
     have Z3 := F8
     have Z4 := F9
     have Z5 := F11
     refine wH_take [0] [0] [(24, .slice A0 (l0).length cap0)] (by kernel_rfl) (qT (qT (qT (qB (qT (qL (qB (qT (qT qZ))))))))) (by kernel_rfl) ?_
     refine wH_loadA (i := 1) (d := 25) (T := 34) (ad := ⟨b3, 0, none⟩) (vs := [.int .i64 (x9.1), .int .i64 (x9.2)]) (by kernel_rfl) (qT (qT (qT (qB (qT (qL (qB (qT (qT qZ))))))))) (by kernel_rfl) (by kernel_rfl) vt34 (fun W hW i u hu => box_cells (Z5.chg hW notNil) 0 hu (by rfl)) ?_
     refine wH_take [3] [3, 1, 0] [(27, .slice A0 (l0).length cap0)] (by kernel_rfl) (qT (qT (qT (qB (qT (qL (qB (qT (qT qZ))))))))) (by kernel_rfl) ?_
     refine wH_loadA (i := 4) (d := 28) (T := 34) (ad := ⟨b2, 0, none⟩) (vs := [.int .i64 (x5), .int .i64 (x6)]) (by kernel_rfl) (qT (qT (qT (qB (qT (qL (qB (qT (qT qZ))))))))) (by kernel_rfl) (by kernel_rfl) vt34 (fun W hW i u hu => box_cells (Z4.chg hW notNil) 0 hu (by rfl)) ?_
     refine wH_all [2] (by rfl) (by kernel_rfl) (by simp) ⟨⟨by kernel_rfl, ?_⟩, trivial⟩
     obtain ⟨y3, hy3, hm⟩ := bindE hm
     refine wS_calls (d := 26) (f := 31) (vs := [.slice A0 (l0).length cap0, .agg #[.int .i64 (x9.1), .int .i64 (x9.2)]]) (by kernel_rfl) ent31 (c_impl_star hy3 F6) ?_
     rintro _ w11 ⟨rfl, hc10⟩
     replace F6 := F6.chg hc10 Dj.nil
     replace F7 := F7.chg hc10 notNil
     replace F8 := F8.chg hc10 Dj.nil
     replace F9 := F9.chg hc10 notNil
     replace F11 := F11.chg hc10 notNil
     replace hB := hB.inS hc10 inNil
     have hSz := hS
     replace hS := hS.inS hc10 inNil
     replace hZ := Nat.le_trans hZ hc10.size
     refine ⟨.int .i64 (y3), rfl, ?_⟩
     refine wS_end (by kernel_rfl) ?_
     refine eX_KH hS ?_
     refine wH_done (by kernel_rfl) ?_
     refine eX_tail ?_
     obtain ⟨y4, hy4, hm⟩ := bindE hm
     refine wS_calls (d := 29) (f := 31) (vs := [.slice A0 (l0).length cap0, .agg #[.int .i64 (x5), .int .i64 (x6)]]) (by kernel_rfl) ent31 (c_impl_star hy4 F6) ?_
     rintro _ w12 ⟨rfl, hc11⟩
     replace F6 := F6.chg hc11 Dj.nil
     replace F7 := F7.chg hc11 notNil
     replace F8 := F8.chg hc11 Dj.nil
     replace F9 := F9.chg hc11 notNil
     replace F11 := F11.chg hc11 notNil
     replace hB := hB.inS hc11 inNil
     replace hZ := Nat.le_trans hZ hc11.size
     refine ⟨.int .i64 (y4), rfl, ?_⟩
     refine wS_pure 1 [(30, .bool (decide (y3 < y4)))] (by kernel_rfl) ?_
     refine wS_end (by rfl) ?_
     refine eX_then ?_
     refine cW_cond (t := decide (y3 < y4)) (by kernel_rfl) (fun hb3 => ?_) (fun hb3 => ?_)
     ·have hm := condT hb3 hm
      refine cW_region ?_
      refine wS_loadA (d := 31) (T := 34) (ad := ⟨b3, 0, none⟩) (vs := [.int .i64 (x9.1), .int .i64 (x9.2)]) (by kernel_rfl) vt34 (fun i u hu => box_cells F11 0 hu (by rfl)) ?_
      refine wS_store (T := 34) (g := b2) (o := 0) (ad := ⟨b2, 0, none⟩) (v := .agg #[.int .i64 (x9.1), .int .i64 (x9.2)]) (vs := [.int .i64 (x9.1), .int .i64 (x9.2)]) (by kernel_rfl) (by rfl) sz34 (by rfl) (by rfl) F9 (by simp only [List.length_cons, List.length_nil]; omega) ?_
      intro w13 F12 hc12
      replace F6 := F6.chg hc12 (Dj.of L0 (low1 G3))
      replace F7 := F7.chg hc12 (dj1 D2)
      replace F8 := F8.chg hc12 D3
      replace F11 := F11.chg hc12 (dj1 (D6).symm)
      replace hB := hB.inS hc12 (inLow (low1 G3))
      replace hZ := Nat.le_trans hZ hc12.size
      replace F12 : Cl w13 b2 34 [.int .i64 (x9.1), .int .i64 (x9.2)] := F12
      clear F9
      refine wS_end (by rfl) ?_
      have hq : (some ((x9.1, x9.2)) : Option (Int × Int)) = some _ := hm
      replace hq := someE hq
      subst hq
      exact eX_J (fun hst => ⟨x9.1, x9.2, rfl, Fr.of hst (by kernel_rfl), F6, F7, F8, F12, hB, hZ⟩)
     ·have hm := condF hb3 hm
      refine cW_skip ?_
      have hq : (some ((x5, x6)) : Option (Int × Int)) = some _ := hm
      replace hq := someE hq
      subst hq
      exact eX_J (fun hst => ⟨x5, x6, rfl, Fr.of hst (by kernel_rfl), F6, F7, F8, F9, hB, hZ⟩)
    ·rintro a' w14 ⟨x7, x8, hJ, hF2, F13, F14, F15, F16, hB, hZ⟩
     subst hJ
     refine Fr.goX hF2 (by kernel_rfl) ?_
     refine eX_block ?_
     refine eX_then ?_
     refine cW_region ?_
     refine wS_pure 2 [(20, .int .i64 (wr (x4 + 1))), (32, .int .i64 (wr (x4 + 1)))] (by kernel_rfl) ?_
     refine wS_end (by rfl) ?_
     have hq : (some (Ctl.next ((wr (x4 + 1), x7, x8))) : Option (Ctl (Int × Int × Int) (Int × Int))) = some _ := hm
     replace hq := someE hq
     subst hq
     exact eX_next hx2 (fun hst => ⟨wr (x4 + 1), x7, x8, rfl, Fr.of hst (by kernel_rfl), F13, F14, F15, F16, hB, hZ⟩)
   ·have hm := condF hb2 hm
    refine cW_exit ?_
    refine eX_then_exit ?_
    have hq : (some (Ctl.out ((x5, x6))) : Option (Ctl (Int × Int × Int) (Int × Int))) = some _ := hm
    replace hq := someE hq
    subst hq
    refine eX_outX hx2 (fun hr2 => ?_)
    replace hr2 := hr2.symm
    subst hr2
    refine eX_block_hit ?_
    exact eX_J (fun hst => ⟨x5, x6, rfl, Fr.of hst (by kernel_rfl), F6, F7, F9, hB, hZ⟩)
  ·rintro a' w15 ⟨x2, x3, hJ, hF3, F17, F18, F19, hB, hZ⟩
   subst hJ
   refine Fr.goX hF3 (by kernel_rfl) ?_
   refine eX_then ?_
   refine cW_seq ?_
   refine cW_drawnTail [] 4 (by kernel_rfl) (by kernel_rfl) (fun w16 hc13 => ?_)
   replace F17 := F17.chg hc13 Dj.nil
   replace F18 := F18.chg hc13 notNil
   replace F19 := F19.chg hc13 notNil
   replace hB := hB.inS hc13 inNil
   replace hZ := Nat.le_trans hZ hc13.size
   have hS := Chg.refl [] w16
   have Z6 := F17
   have Z7 := F18
   have Z8 := F19
   refine wH_loadA (i := 0) (d := 33) (T := 34) (ad := ⟨b2, 0, none⟩) (vs := [.int .i64 (x2), .int .i64 (x3)]) (by kernel_rfl) (qT (qT qZ)) (by kernel_rfl) (by kernel_rfl) vt34 (fun W hW i u hu => box_cells (Z8.chg hW notNil) 0 hu (by rfl)) ?_
   refine wH_take [1] [1, 0] [(34, .slice A0 (l0).length cap0)] (by kernel_rfl) (qT (qT qZ)) (by kernel_rfl) ?_
   refine wH_loadA (i := 2) (d := 35) (T := 34) (ad := ⟨b2, 0, none⟩) (vs := [.int .i64 (x2), .int .i64 (x3)]) (by kernel_rfl) (qT (qT qZ)) (by kernel_rfl) (by kernel_rfl) vt34 (fun W hW i u hu => box_cells (Z8.chg hW notNil) 0 hu (by rfl)) ?_
   refine wH_all [3] (by rfl) (by kernel_rfl) (by simp) ⟨⟨by kernel_rfl, ?_⟩, trivial⟩
   obtain ⟨y5, hy5, hm⟩ := bindE hm
   refine wS_calls (d := 36) (f := 31) (vs := [.slice A0 (l0).length cap0, .agg #[.int .i64 (x2), .int .i64 (x3)]]) (by kernel_rfl) ent31 (c_impl_star hy5 F17) ?_
   rintro _ w17 ⟨rfl, hc14⟩
   replace F17 := F17.chg hc14 Dj.nil
   replace F18 := F18.chg hc14 notNil
   replace F19 := F19.chg hc14 notNil
   replace hB := hB.inS hc14 inNil
   have hSz := hS
   replace hS := hS.inS hc14 inNil
   replace hZ := Nat.le_trans hZ hc14.size
   refine ⟨.int .i64 (y5), rfl, ?_⟩
   refine wS_end (by kernel_rfl) ?_
   refine eX_KH hS ?_
   refine wH_done (by kernel_rfl) ?_
   refine eX_tail ?_
   refine wS_store (T := 34) (g := b1) (o := 0) (ad := ⟨b1, 0, none⟩) (v := .agg #[.int .i64 (x2), .int .i64 (x3)]) (vs := [.int .i64 (x2), .int .i64 (x3)]) (by kernel_rfl) (by rfl) sz34 (by rfl) (by rfl) F18 (by simp only [List.length_cons, List.length_nil]; omega) ?_
   intro w18 F20 hc15
   replace F17 := F17.chg hc15 (Dj.of L0 (low1 G1))
   replace F19 := F19.chg hc15 (dj1 (D2).symm)
   replace hB := hB.inS hc15 (inLow (low1 G1))
   replace hZ := Nat.le_trans hZ hc15.size
   replace F20 : Cl w18 b1 34 [.int .i64 (x2), .int .i64 (x3)] := F20
   clear F18
   refine wS_pure 2 [(4, .bool (true)), (3, .int .i64 (y5))] (by kernel_rfl) ?_
   refine wS_end (by rfl) ?_
   refine eX_then ?_
   refine cW_ret ?_
   have hq : (some (((x2, x3), y5, true)) : Option ((Int × Int) × (Int) × (Bool))) = some _ := hm
   replace hq := someE hq
   subst hq
   refine eX_ret (vs := [.agg #[.int .i64 (x2), .int .i64 (x3)], .int .i64 (y5), .bool (true)]) [.cell 2 34, .tmp 3, .tmp 4] (by rfl) ⟨⟨⟨b1, 0, none⟩, by kernel_rfl, run_loadVarA (vs := [.int .i64 (x2), .int .i64 (x3)]) vt34 (fun i u hu => by exact box_cells F20 0 hu (by rfl))⟩, ⟨by (show lkE _ _ _ = _); kernel_rfl, ⟨by (show lkE _ _ _ = _); kernel_rfl, trivial⟩⟩⟩ ?_
   exact ⟨rfl, hB⟩

set_option maxRecDepth 100000 in
/-- impl.StarLength -/
theorem c_impl_StarLength {w0 : World} {l0 : List (Int × Int)} {A0 : Option Addr} {cap0 : Nat} {fp0 : List Nat} {p1_0 : Int} {p1_1 : Int} {r : (Int) × (Bool)} (hm : m_impl_StarLength l0 p1_0 p1_1 = some r) (F0 : Sl 2 encII w0 fp0 A0 l0) :
  Calls Try.prog 13 #[.slice A0 (l0).length cap0, .agg #[.int .i64 (p1_0), .int .i64 (p1_1)]] w0 fun e w' => e = .returned (.tuple #[.int .i64 (r.1), .bool (r.2)]) ∧ Chg [] w0 w' := by
 have L0 := F0.low
 have hB : Chg [] w0 w0 := Chg.refl _ _
 have hZ := Nat.le_refl w0.heap.size
 unfold m_impl_StarLength at hm
 refine enterE (N := 17) Try.func13 (by rfl) Try.ntmps13 (by simp) [(0, .slice A0 (l0).length cap0), (1, .agg #[.int .i64 (p1_0), .int .i64 (p1_1)])] (by rfl) (by kernel_rfl) (fun a => ?_)
 refine cW_seq ?_
 refine cW_region ?_
 refine wS_box (d := 3) (T := 34) (x := .agg #[.int .i64 (p1_0), .int .i64 (p1_1)]) (by kernel_rfl) ?_
 intro b1 w1 G1 F1 hc1
 replace F1 : Cl w1 b1 34 [.int .i64 (p1_0), .int .i64 (p1_1)] := F1
 replace F0 := F0.chg hc1 Dj.nil
 replace hB := hB.inS hc1 inNil
 replace G1 := Nat.le_trans hZ G1
 replace hZ := Nat.le_trans hZ hc1.size
 refine wS_pure 2 [(5, .bool (false)), (4, .int .i64 (0))] (by kernel_rfl) ?_
 refine wS_end (by rfl) ?_
 refine eX_then ?_
 refine cW_seq ?_
 refine cW_seq ?_
 refine cW_region ?_
 refine wS_pure 1 [(6, .slice A0 (l0).length cap0)] (by kernel_rfl) ?_
 obtain ⟨y1, hy1, hm⟩ := bindE hm
 refine wS_calls (d := 7) (f := 29) (vs := [.slice A0 (l0).length cap0]) (by kernel_rfl) ent29 (c_impl_ArePins hy1 F0) ?_
 rintro _ w2 ⟨rfl, hc2⟩
 replace F0 := F0.chg hc2 Dj.nil
 replace F1 := F1.chg hc2 notNil
 replace hB := hB.inS hc2 inNil
 replace hZ := Nat.le_trans hZ hc2.size
 refine ⟨.bool (y1), rfl, ?_⟩
 refine wS_pure 2 [(9, .bool (!y1)), (8, .bool (!y1))] (by kernel_rfl) ?_
 refine wS_bool (!y1) (fun hb1 => ?_) (fun hb1 => ?_)
 ·have hm := condT hb1 hm
  rewrite [hb1]
  refine wS_pure 4 [(13, .bool (true)), (12, undef), (11, undef), (10, undef)] (by kernel_rfl) ?_
  refine wS_end (by rfl) ?_
  refine eX_then ?_
  refine cW_cond_t (by kernel_rfl) ?_
  refine cW_seq ?_
  refine cW_region ?_
  refine wS_pure 2 [(5, .bool (false)), (4, .int .i64 (0))] (by kernel_rfl) ?_
  refine wS_end (by rfl) ?_
  refine eX_then ?_
  refine cW_ret ?_
  refine eX_then_ret ?_
  have hq : (some ((0, false)) : Option ((Int) × (Bool))) = some _ := hm
  replace hq := someE hq
  subst hq
  refine eX_ret (vs := [.int .i64 (0), .bool (false)]) [.tmp 4, .tmp 5] (by rfl) ⟨by (show lkE _ _ _ = _); kernel_rfl, ⟨by (show lkE _ _ _ = _); kernel_rfl, trivial⟩⟩ ?_
  exact ⟨rfl, hB⟩
 ·have hm := condF hb1 hm
  rewrite [hb1]
  refine wS_loadA (d := 10) (T := 34) (ad := ⟨b1, 0, none⟩) (vs := [.int .i64 (p1_0), .int .i64 (p1_1)]) (by kernel_rfl) vt34 (fun i u hu => box_cells F1 0 hu (by rfl)) ?_
  obtain ⟨y2, hy2, hm⟩ := bindE hm
  refine wS_calls (d := 11) (f := 32) (vs := [.agg #[.int .i64 (p1_0), .int .i64 (p1_1)]]) (by kernel_rfl) ent32 (c_impl_IsPoint hy2) ?_
  rintro _ w3 ⟨rfl, hc3⟩
  replace F0 := F0.chg hc3 Dj.nil
  replace F1 := F1.chg hc3 notNil
  replace hB := hB.inS hc3 inNil
  replace hZ := Nat.le_trans hZ hc3.size
  refine ⟨.bool (y2), rfl, ?_⟩
  refine wS_pure 2 [(13, .bool (!y2)), (12, .bool (!y2))] (by kernel_rfl) ?_
  refine wS_end (by rfl) ?_
  refine eX_then ?_
  refine cW_cond (t := !y2) (by kernel_rfl) (fun hb2 => ?_) (fun hb2 => ?_)
  ·have hm := condT hb2 hm
   refine cW_seq ?_
   refine cW_region ?_
   refine wS_pure 2 [(5, .bool (false)), (4, .int .i64 (0))] (by kernel_rfl) ?_
   refine wS_end (by rfl) ?_
   refine eX_then ?_
   refine cW_ret ?_
   refine eX_then_ret ?_
   have hq : (some ((0, false)) : Option ((Int) × (Bool))) = some _ := hm
   replace hq := someE hq
   subst hq
   refine eX_ret (vs := [.int .i64 (0), .bool (false)]) [.tmp 4, .tmp 5] (by rfl) ⟨by (show lkE _ _ _ = _); kernel_rfl, ⟨by (show lkE _ _ _ = _); kernel_rfl, trivial⟩⟩ ?_
   exact ⟨rfl, hB⟩
  ·have hm := condF hb2 hm
   refine cW_skip ?_
   refine eX_then ?_
   refine cW_seq ?_
   refine cW_region ?_
   refine wS_pure 1 [(14, .slice A0 (l0).length cap0)] (by kernel_rfl) ?_
   refine wS_loadA (d := 15) (T := 34) (ad := ⟨b1, 0, none⟩) (vs := [.int .i64 (p1_0), .int .i64 (p1_1)]) (by kernel_rfl) vt34 (fun i u hu => box_cells F1 0 hu (by rfl)) ?_
   obtain ⟨y3, hy3, hm⟩ := bindE hm
   refine wS_calls (d := 16) (f := 31) (vs := [.slice A0 (l0).length cap0, .agg #[.int .i64 (p1_0), .int .i64 (p1_1)]]) (by kernel_rfl) ent31 (c_impl_star hy3 F0) ?_
   rintro _ w4 ⟨rfl, hc4⟩
   replace F0 := F0.chg hc4 Dj.nil
   replace F1 := F1.chg hc4 notNil
   replace hB := hB.inS hc4 inNil
   replace hZ := Nat.le_trans hZ hc4.size
   refine ⟨.int .i64 (y3), rfl, ?_⟩
   refine wS_pure 2 [(5, .bool (true)), (4, .int .i64 (y3))] (by kernel_rfl) ?_
   refine wS_end (by rfl) ?_
   refine eX_then ?_
   refine cW_ret ?_
   have hq : (some ((y3, true)) : Option ((Int) × (Bool))) = some _ := hm
   replace hq := someE hq
   subst hq
   refine eX_ret (vs := [.int .i64 (y3), .bool (true)]) [.tmp 4, .tmp 5] (by rfl) ⟨by (show lkE _ _ _ = _); kernel_rfl, ⟨by (show lkE _ _ _ = _); kernel_rfl, trivial⟩⟩ ?_
   exact ⟨rfl, hB⟩

set_option maxRecDepth 100000 in
/-- laws.b10At -/
theorem c_laws_b10At {w0 : World} {l0 : List (Int)} {A0 : Option Addr} {cap0 : Nat} {fp0 : List Nat} {p1 : Int} {p2 : Int} {r : (Int)} (hm : m_laws_b10At l0 p1 p2 = some r) (F0 : Sl 1 encU w0 fp0 A0 l0) :
  Calls Try.prog 33 #[.slice A0 (l0).length cap0, .int .i64 (p1), .int .i64 (p2)] w0 fun e w' => e = .returned (.int .i64 (r)) ∧ Chg [] w0 w' := by
 have L0 := F0.low
 have hB : Chg [] w0 w0 := Chg.refl _ _
 have hZ := Nat.le_refl w0.heap.size
 unfold m_laws_b10At at hm
 refine enterE (N := 25) Try.func33 (by rfl) Try.ntmps33 (by simp) [(0, .slice A0 (l0).length cap0), (1, .int .i64 (p1)), (2, .int .i64 (p2))] (by rfl) (by kernel_rfl) (fun a => ?_)
 refine cW_seq ?_
 refine cW_region ?_
 refine wS_pure 1 [(6, .int .i64 (0))] (by kernel_rfl) ?_
 refine wS_end (by rfl) ?_
 refine eX_then ?_
 refine cW_seq ?_
 refine cW_seq ?_
 refine cW_region ?_
 refine wS_pure 2 [(8, .bool (decide (p2 ≤ 1))), (7, .int .i64 (p2))] (by kernel_rfl) ?_
 refine wS_end (by rfl) ?_
 refine eX_then ?_
 refine cW_cond (t := decide (p2 ≤ 1)) (by kernel_rfl) (fun hb1 => ?_) (fun hb1 => ?_)
 ·have hm := condT hb1 hm
  refine cW_seq ?_
  refine cW_region ?_
  refine wS_pure 1 [(6, .int .i64 (0))] (by kernel_rfl) ?_
  refine wS_end (by rfl) ?_
  refine eX_then ?_
  refine cW_ret ?_
  refine eX_then_ret ?_
  have hq : (some 0 : Option ((Int))) = some _ := hm
  replace hq := someE hq
  subst hq
  refine eX_ret (vs := [.int .i64 (0)]) [.tmp 6] (by rfl) ⟨by (show lkE _ _ _ = _); kernel_rfl, trivial⟩ ?_
  exact ⟨rfl, hB⟩
 ·have hm := condF hb1 hm
  refine cW_skip ?_
  refine eX_then ?_
  refine cW_seq ?_
  refine cW_seq ?_
  refine cW_region ?_
  refine wS_pure 4 [(12, .bool (decide (p1 < (((l0).length : Int))))), (11, .int .i64 (((l0).length : Int))), (10, .slice A0 (l0).length cap0), (9, .int .i64 (p1))] (by kernel_rfl) ?_
  refine wS_end (by rfl) ?_
  refine eX_then ?_
  refine cW_cond (t := decide (p1 < (((l0).length : Int)))) (by kernel_rfl) (fun hb2 => ?_) (fun hb2 => ?_)
  ·have hm := condT hb2 hm
   refine cW_seq ?_
   refine cW_region ?_
   refine wS_pure 2 [(14, .int .i64 (p1)), (13, .slice A0 (l0).length cap0)] (by kernel_rfl) ?_
   obtain ⟨x1, hx1, hm⟩ := bindE hm
   refine wS_idx (d := 15) (T := 30) (A := A0) (n := (l0).length) (cap := cap0) (kd := .i64) (m := p1) (by kernel_rfl) sl30 (F0.is hx1) ?_
   refine wS_load1 (d := 16) (T := 5) (ad := (elA A0 1 (p1) 0)) (v := .int .u8 (x1)) (by kernel_rfl) vt5 (Sl.cell F0 hx1 0 (by rfl)) ?_
   refine wS_pure 2 [(18, .int .i64 (p2)), (17, .int .i64 (wr x1))] (by kernel_rfl) ?_
   obtain ⟨u1, hu1, hm⟩ := bindE hm
   refine wS_rem (d := 19) (x := wr x1) (y := p2) (by kernel_rfl) (nzE hu1) ?_
   refine wS_pure 1 [(6, .int .i64 (Int.tmod (wr x1) p2))] (by kernel_rfl) ?_
   refine wS_end (by rfl) ?_
   refine eX_then ?_
   refine cW_ret ?_
   refine eX_then_ret ?_
   have hq : (some (Int.tmod (wr x1) p2) : Option ((Int))) = some _ := hm
   replace hq := someE hq
   subst hq
   refine eX_ret (vs := [.int .i64 (Int.tmod (wr x1) p2)]) [.tmp 6] (by rfl) ⟨by (show lkE _ _ _ = _); kernel_rfl, trivial⟩ ?_
   exact ⟨rfl, hB⟩
  ·have hm := condF hb2 hm
   refine cW_skip ?_
   refine eX_then ?_
   refine cW_seq ?_
   refine cW_region ?_
   refine wS_pure 4 [(23, .int .i64 (p2)), (22, .int .i64 (wr ((wr (p1 * 37)) + 11))), (21, .int .i64 (wr (p1 * 37))), (20, .int .i64 (p1))] (by kernel_rfl) ?_
   obtain ⟨u2, hu2, hm⟩ := bindE hm
   refine wS_rem (d := 24) (x := wr ((wr (p1 * 37)) + 11)) (y := p2) (by kernel_rfl) (nzE hu2) ?_
   refine wS_pure 1 [(6, .int .i64 (Int.tmod (wr ((wr (p1 * 37)) + 11)) p2))] (by kernel_rfl) ?_
   refine wS_end (by rfl) ?_
   refine eX_then ?_
   refine cW_ret ?_
   have hq : (some (Int.tmod (wr ((wr (p1 * 37)) + 11)) p2) : Option ((Int))) = some _ := hm
   replace hq := someE hq
   subst hq
   refine eX_ret (vs := [.int .i64 (Int.tmod (wr ((wr (p1 * 37)) + 11)) p2)]) [.tmp 6] (by rfl) ⟨by (show lkE _ _ _ = _); kernel_rfl, trivial⟩ ?_
   exact ⟨rfl, hB⟩

set_option maxRecDepth 100000 in
/-- laws.b10Pin -/
theorem c_laws_b10Pin {w0 : World} {l0 : List (Int)} {A0 : Option Addr} {cap0 : Nat} {fp0 : List Nat} {p1 : Int} {r : (Int × Int)} (hm : m_laws_b10Pin l0 p1 = some r) (F0 : Sl 1 encU w0 fp0 A0 l0) :
  Calls Try.prog 14 #[.slice A0 (l0).length cap0, .int .i64 (p1)] w0 fun e w' => e = .returned (.agg #[.int .i64 (r.1), .int .i64 (r.2)]) ∧ Chg [] w0 w' := by
 have L0 := F0.low
 have hB : Chg [] w0 w0 := Chg.refl _ _
 have hZ := Nat.le_refl w0.heap.size
 unfold m_laws_b10Pin at hm
 refine enterE (N := 13) Try.func14 (by rfl) Try.ntmps14 (by simp) [(0, .slice A0 (l0).length cap0), (1, .int .i64 (p1))] (by rfl) (by kernel_rfl) (fun a => ?_)
 refine cW_seq ?_
 refine cW_region ?_
 refine wS_alloc (d := 4) (T := 34) (z := .agg #[.int .i64 (0), .int .i64 (0)]) (by kernel_rfl) (by kernel_rfl) ?_
 intro b1 w1 G1 F1 hc1
 replace F1 : Cl w1 b1 34 [.int .i64 (0), .int .i64 (0)] := F1
 replace F0 := F0.chg hc1 Dj.nil
 replace hB := hB.inS hc1 inNil
 replace G1 := Nat.le_trans hZ G1
 replace hZ := Nat.le_trans hZ hc1.size
 refine wS_end (by rfl) ?_
 refine eX_then ?_
 refine cW_seq ?_
 refine cW_region ?_
 refine wS_pure 2 [(6, .int .i64 (p1)), (5, .slice A0 (l0).length cap0)] (by kernel_rfl) ?_
 obtain ⟨y1, hy1, hm⟩ := bindE hm
 refine wS_calls (d := 7) (f := 33) (vs := [.slice A0 (l0).length cap0, .int .i64 (p1), .int .i64 (10)]) (by kernel_rfl) ent33 (c_laws_b10At hy1 F0) ?_
 rintro _ w2 ⟨rfl, hc2⟩
 replace F0 := F0.chg hc2 Dj.nil
 replace F1 := F1.chg hc2 notNil
 replace hB := hB.inS hc2 inNil
 replace hZ := Nat.le_trans hZ hc2.size
 refine ⟨.int .i64 (y1), rfl, ?_⟩
 refine wS_pure 3 [(10, .int .i64 (wr (p1 + 1))), (9, .int .i64 (p1)), (8, .slice A0 (l0).length cap0)] (by kernel_rfl) ?_
 obtain ⟨y2, hy2, hm⟩ := bindE hm
 refine wS_calls (d := 11) (f := 33) (vs := [.slice A0 (l0).length cap0, .int .i64 (wr (p1 + 1)), .int .i64 (10)]) (by kernel_rfl) ent33 (c_laws_b10At hy2 F0) ?_
 rintro _ w3 ⟨rfl, hc3⟩
 replace F0 := F0.chg hc3 Dj.nil
 replace F1 := F1.chg hc3 notNil
 replace hB := hB.inS hc3 inNil
 replace hZ := Nat.le_trans hZ hc3.size
 refine ⟨.int .i64 (y2), rfl, ?_⟩
 refine wS_pure 1 [(12, .agg #[.int .i64 (y1), .int .i64 (y2)])] (by kernel_rfl) ?_
 refine wS_store (T := 34) (g := b1) (o := 0) (ad := ⟨b1, 0, none⟩) (v := .agg #[.int .i64 (y1), .int .i64 (y2)]) (vs := [.int .i64 (y1), .int .i64 (y2)]) (by kernel_rfl) (by rfl) sz34 (by rfl) (by rfl) F1 (by simp only [List.length_cons, List.length_nil]; omega) ?_
 intro w4 F2 hc4
 replace F0 := F0.chg hc4 (Dj.of L0 (low1 G1))
 replace hB := hB.inS hc4 (inLow (low1 G1))
 replace hZ := Nat.le_trans hZ hc4.size
 replace F2 : Cl w4 b1 34 [.int .i64 (y1), .int .i64 (y2)] := F2
 clear F1
 refine wS_end (by rfl) ?_
 refine eX_then ?_
 refine cW_ret ?_
 have hq : (some ((y1, y2)) : Option ((Int × Int))) = some _ := hm
 replace hq := someE hq
 subst hq
 refine eX_ret (vs := [.agg #[.int .i64 (y1), .int .i64 (y2)]]) [.cell 4 34] (by rfl) ⟨⟨⟨b1, 0, none⟩, by kernel_rfl, run_loadVarA (vs := [.int .i64 (y1), .int .i64 (y2)]) vt34 (fun i u hu => by exact box_cells F2 0 hu (by rfl))⟩, trivial⟩ ?_
 exact ⟨rfl, hB⟩

set_option maxRecDepth 100000 in
/-- spec.SpanningTree -/
theorem c_spec_SpanningTree {w0 : World} {l0 : List (Int × Int)} {A0 : Option Addr} {cap0 : Nat} {fp0 : List Nat} {r : (List (List (Int))) × (Int) × (Bool)} (hm : m_spec_SpanningTree l0 = some r) (F0 : Sl 2 encII w0 fp0 A0 l0) (K0 : (l0).length ≤ cap0) :
  Calls Try.prog 15 #[.slice A0 (l0).length cap0] w0 fun e w' => ∃ A100 cap100 fp100 fr100, e = .returned (.tuple #[.slice A100 (r.1).length cap100, .int .i64 (r.2.1), .bool (r.2.2)]) ∧ OwR 1 encI 66 2 w' fp100 fr100 A100 cap100 r.1 ∧ (∀ x ∈ fp100 ++ fr100, w0.heap.size ≤ x) ∧ Chg [] w0 w' := by
 have L0 := F0.low
 have hB : Chg [] w0 w0 := Chg.refl _ _
 have hZ := Nat.le_refl w0.heap.size
 unfold m_spec_SpanningTree at hm
 refine enterE (N := 18) Try.func15 (by rfl) Try.ntmps15 (by simp) [(0, .slice A0 (l0).length cap0)] (by rfl) (by kernel_rfl) (fun a => ?_)
 refine cW_seq ?_
 refine cW_region ?_
 refine wS_pure 3 [(4, .bool (false)), (3, .int .i64 (0)), (2, .slice none 0 0)] (by kernel_rfl) ?_
 refine wS_end (by rfl) ?_
 refine eX_then ?_
 refine cW_seq ?_
 refine cW_seq ?_
 refine cW_region ?_
 refine wS_pure 1 [(7, .slice A0 (l0).length cap0)] (by kernel_rfl) ?_
 obtain ⟨y1, hy1, hm⟩ := bindE hm
 refine wS_calls (d := 8) (f := 34) (vs := [.slice A0 (l0).length cap0]) (by kernel_rfl) ent34 (c_spec_l05Is hy1 F0 K0) ?_
 rintro _ w1 ⟨rfl, hc1⟩
 replace F0 := F0.chg hc1 Dj.nil
 replace hB := hB.inS hc1 inNil
 replace hZ := Nat.le_trans hZ hc1.size
 refine ⟨.bool (y1), rfl, ?_⟩
 refine wS_pure 1 [(9, .bool (!y1))] (by kernel_rfl) ?_
 refine wS_end (by rfl) ?_
 refine eX_then ?_
 refine cW_cond (t := !y1) (by kernel_rfl) (fun hb1 => ?_) (fun hb1 => ?_)
 ·have hm := condT hb1 hm
  refine cW_seq ?_
  refine cW_region ?_
  refine wS_pure 3 [(4, .bool (false)), (3, .int .i64 (0)), (2, .slice none 0 0)] (by kernel_rfl) ?_
  refine wS_end (by rfl) ?_
  refine eX_then ?_
  refine cW_ret ?_
  refine eX_then_ret ?_
  have hq : (some (([], 0, false)) : Option ((List (List (Int))) × (Int) × (Bool))) = some _ := hm
  replace hq := someE hq
  subst hq
  refine eX_ret (vs := [.slice none 0 0, .int .i64 (0), .bool (false)]) [.tmp 2, .tmp 3, .tmp 4] (by rfl) ⟨by (show lkE _ _ _ = _); kernel_rfl, ⟨by (show lkE _ _ _ = _); kernel_rfl, ⟨by (show lkE _ _ _ = _); kernel_rfl, trivial⟩⟩⟩ ?_
  exact ⟨none, 0, [], [], rfl, OwR.nil _, (lowApp lowNil lowNil), hB⟩
 ·have hm := condF hb1 hm
  refine cW_skip ?_
  refine eX_then ?_
  refine cW_seq ?_
  refine cW_region ?_
  refine wS_pure 1 [(11, .slice A0 (l0).length cap0)] (by kernel_rfl) ?_
  obtain ⟨y2, hy2, hm⟩ := bindE hm
  refine wS_calls (d := 12) (f := 19) (vs := [.slice A0 (l0).length cap0]) (by kernel_rfl) ent19 (c_spec_l05Tree hy2 F0) ?_
  rintro _ w2 ⟨A1, cap1, fp1, fr1, rfl, F1, G1, hc2⟩
  replace F0 := F0.chg hc2 Dj.nil
  replace hB := hB.inS hc2 inNil
  replace G1 := low_le hZ G1
  replace hZ := Nat.le_trans hZ hc2.size
  refine ⟨.tuple #[.slice A1 (y2.1).length cap1, .int .i64 (y2.2)], rfl, ?_⟩
  refine wS_pure 5 [(6, .int .i64 (y2.2)), (5, .slice A1 (y2.1).length cap1), (14, .int .i64 (y2.2)), (13, .slice A1 (y2.1).length cap1), (10, .tuple #[.slice A1 (y2.1).length cap1, .int .i64 (y2.2)])] (by kernel_rfl) ?_
  refine wS_end (by rfl) ?_
  refine eX_then ?_
  refine cW_seq ?_
  refine cW_region ?_
  refine wS_pure 1 [(15, .slice A1 (y2.1).length cap1)] (by kernel_rfl) ?_
  obtain ⟨y3, hy3, hm⟩ := bindE hm
  refine wS_calls (d := 16) (f := 20) (vs := [.slice A1 (y2.1).length cap1]) (by kernel_rfl) ent20 (c_spec_l05Pairs hy3 F1) ?_
  rintro _ w3 ⟨A2, cap2, fp2, rfl, F2, G2, hc3⟩
  have G3 := lowApp (low_le hZ G2) (low_inr G1)
  replace F0 := F0.chg hc3 Dj.nil
  replace F1 := F1.chg hc3 Dj.nil
  replace hB := hB.inS hc3 inNil
  replace hZ := Nat.le_trans hZ hc3.size
  refine ⟨.slice A2 (y3).length cap2, rfl, ?_⟩
  refine wS_pure 4 [(4, .bool (true)), (3, .int .i64 (y2.2)), (2, .slice A2 (y3).length cap2), (17, .int .i64 (y2.2))] (by kernel_rfl) ?_
  refine wS_end (by rfl) ?_
  refine eX_then ?_
  refine cW_ret ?_
  have hq : (some ((y3, y2.2, true)) : Option ((List (List (Int))) × (Int) × (Bool))) = some _ := hm
  replace hq := someE hq
  subst hq
  refine eX_ret (vs := [.slice A2 (y3).length cap2, .int .i64 (y2.2), .bool (true)]) [.tmp 2, .tmp 3, .tmp 4] (by rfl) ⟨by (show lkE _ _ _ = _); kernel_rfl, ⟨by (show lkE _ _ _ = _); kernel_rfl, ⟨by (show lkE _ _ _ = _); kernel_rfl, trivial⟩⟩⟩ ?_
  exact ⟨A2, cap2, fp2, fr1, rfl, F2, G3, hB⟩

set_option maxRecDepth 100000 in
/-- spec.l01Before -/
theorem c_spec_l01Before {w0 : World} {p0_0 : Int} {p0_1 : Int} {p1_0 : Int} {p1_1 : Int} {r : (Bool)} (hm : m_spec_l01Before p0_0 p0_1 p1_0 p1_1 = some r)  :
  Calls Try.prog 86 #[.agg #[.int .i64 (p0_0), .int .i64 (p0_1)], .agg #[.int .i64 (p1_0), .int .i64 (p1_1)]] w0 fun e w' => e = .returned (.bool (r)) ∧ Chg [] w0 w' := by
 have hB : Chg [] w0 w0 := Chg.refl _ _
 have hZ := Nat.le_refl w0.heap.size
 unfold m_spec_l01Before at hm
 refine enterE (N := 24) Try.func86 (by rfl) Try.ntmps86 (by simp) [(0, .agg #[.int .i64 (p0_0), .int .i64 (p0_1)]), (1, .agg #[.int .i64 (p1_0), .int .i64 (p1_1)])] (by rfl) (by kernel_rfl) (fun a => ?_)
 refine cW_seq ?_
 refine cW_region ?_
 refine wS_box (d := 2) (T := 34) (x := .agg #[.int .i64 (p0_0), .int .i64 (p0_1)]) (by kernel_rfl) ?_
 intro b1 w1 G1 F1 hc1
 replace F1 : Cl w1 b1 34 [.int .i64 (p0_0), .int .i64 (p0_1)] := F1
 replace hB := hB.inS hc1 inNil
 replace G1 := Nat.le_trans hZ G1
 replace hZ := Nat.le_trans hZ hc1.size
 refine wS_box (d := 3) (T := 34) (x := .agg #[.int .i64 (p1_0), .int .i64 (p1_1)]) (by kernel_rfl) ?_
 intro b2 w2 G2 F2 hc2
 replace F2 : Cl w2 b2 34 [.int .i64 (p1_0), .int .i64 (p1_1)] := F2
 have D1 : Dj [b1] [b2] := Dj.of (lt1 F1.lt) (low1 G2)
 replace F1 := F1.chg hc2 notNil
 replace hB := hB.inS hc2 inNil
 replace G2 := Nat.le_trans hZ G2
 replace hZ := Nat.le_trans hZ hc2.size
 refine wS_pure 1 [(4, .bool (false))] (by kernel_rfl) ?_
 refine wS_end (by rfl) ?_
 refine eX_then ?_
 refine cW_seq ?_
 refine cW_region ?_
 refine wS_pure 1 [(5, .pointer (some ⟨b1, 0, none⟩))] (by kernel_rfl) ?_
 refine wS_load1 (d := 6) (T := 2) (ad := ⟨b1, 0, none⟩) (v := .int .i64 (p0_0)) (by kernel_rfl) vt2 ((F1).cell 0) ?_
 refine wS_pure 1 [(7, .pointer (some ⟨b2, 0, none⟩))] (by kernel_rfl) ?_
 refine wS_load1 (d := 8) (T := 2) (ad := ⟨b2, 0, none⟩) (v := .int .i64 (p1_0)) (by kernel_rfl) vt2 ((F2).cell 0) ?_
 refine wS_pure 2 [(10, .bool (decide (p0_0 < p1_0))), (9, .bool (decide (p0_0 < p1_0)))] (by kernel_rfl) ?_
 refine wS_bool (decide (p0_0 < p1_0)) (fun hb1 => ?_) (fun hb1 => ?_)
 ·have hm := condT hb1 hm
  rewrite [hb1]
  refine wS_pure 14 [(4, .bool (true)), (23, .bool (true)), (22, undef), (21, undef), (20, undef), (19, undef), (18, undef), (17, undef), (16, undef), (15, undef), (14, undef), (13, undef), (12, undef), (11, undef)] (by kernel_rfl) ?_
  refine wS_end (by rfl) ?_
  refine eX_then ?_
  refine cW_prune [(4, .bool (true))] (by kernel_rfl) (by kernel_rfl) (fun a1 => ?_)
  refine cW_ret ?_
  have hq : (some true : Option ((Bool))) = some _ := hm
  replace hq := someE hq
  subst hq
  refine eX_ret (vs := [.bool (true)]) [.tmp 4] (by rfl) ⟨by (show lkE _ _ _ = _); kernel_rfl, trivial⟩ ?_
  exact ⟨rfl, hB⟩
 ·have hm := condF hb1 hm
  rewrite [hb1]
  refine wS_pure 1 [(11, .pointer (some ⟨b1, 0, none⟩))] (by kernel_rfl) ?_
  refine wS_load1 (d := 12) (T := 2) (ad := ⟨b1, 0, none⟩) (v := .int .i64 (p0_0)) (by kernel_rfl) vt2 ((F1).cell 0) ?_
  refine wS_pure 1 [(13, .pointer (some ⟨b2, 0, none⟩))] (by kernel_rfl) ?_
  refine wS_load1 (d := 14) (T := 2) (ad := ⟨b2, 0, none⟩) (v := .int .i64 (p1_0)) (by kernel_rfl) vt2 ((F2).cell 0) ?_
  refine wS_pure 2 [(16, .bool (p0_0 == p1_0)), (15, .bool (p0_0 == p1_0))] (by kernel_rfl) ?_
  refine wS_bool (p0_0 == p1_0) (fun hb2 => ?_) (fun hb2 => ?_)
  ·have hm := condT hb2 hm
   rewrite [hb2]
   refine wS_pure 1 [(17, .pointer (some ⟨b1, 1, none⟩))] (by kernel_rfl) ?_
   refine wS_load1 (d := 18) (T := 2) (ad := ⟨b1, 1, none⟩) (v := .int .i64 (p0_1)) (by kernel_rfl) vt2 ((F1).cell 1) ?_
   refine wS_pure 1 [(19, .pointer (some ⟨b2, 1, none⟩))] (by kernel_rfl) ?_
   refine wS_load1 (d := 20) (T := 2) (ad := ⟨b2, 1, none⟩) (v := .int .i64 (p1_1)) (by kernel_rfl) vt2 ((F2).cell 1) ?_
   refine wS_pure 4 [(4, .bool (decide (p0_1 < p1_1))), (23, .bool (decide (p0_1 < p1_1))), (22, .bool (decide (p0_1 < p1_1))), (21, .bool (decide (p0_1 < p1_1)))] (by kernel_rfl) ?_
   refine wS_end (by rfl) ?_
   refine eX_then ?_
   refine cW_prune [(4, .bool (decide (p0_1 < p1_1)))] (by kernel_rfl) (by kernel_rfl) (fun a2 => ?_)
   refine cW_ret ?_
   have hq : (some (decide (p0_1 < p1_1)) : Option ((Bool))) = some _ := hm
   replace hq := someE hq
   subst hq
   refine eX_ret (vs := [.bool (decide (p0_1 < p1_1))]) [.tmp 4] (by rfl) ⟨by (show lkE _ _ _ = _); kernel_rfl, trivial⟩ ?_
   exact ⟨rfl, hB⟩
  ·have hm := condF hb2 hm
   rewrite [hb2]
   refine wS_pure 8 [(4, .bool (false)), (23, .bool (false)), (22, .bool (false)), (21, undef), (20, undef), (19, undef), (18, undef), (17, undef)] (by kernel_rfl) ?_
   refine wS_end (by rfl) ?_
   refine eX_then ?_
   refine cW_prune [(4, .bool (false))] (by kernel_rfl) (by kernel_rfl) (fun a3 => ?_)
   refine cW_ret ?_
   have hq : (some false : Option ((Bool))) = some _ := hm
   replace hq := someE hq
   subst hq
   refine eX_ret (vs := [.bool (false)]) [.tmp 4] (by rfl) ⟨by (show lkE _ _ _ = _); kernel_rfl, trivial⟩ ?_
   exact ⟨rfl, hB⟩

set_option maxRecDepth 100000 in
/-- spec.l01Sorted -/
theorem c_spec_l01Sorted {w0 : World} {l0 : List (Int × Int)} {A0 : Option Addr} {cap0 : Nat} {fp0 : List Nat} {r : (List (Int × Int))} (hm : m_spec_l01Sorted l0 = some r) (F0 : Sl 2 encII w0 fp0 A0 l0) :
  Calls Try.prog 70 #[.slice A0 (l0).length cap0] w0 fun e w' => ∃ A100 cap100 fp100, e = .returned (.slice A100 (r).length cap100) ∧ Ow 2 encII 34 w' fp100 A100 cap100 r ∧ (∀ x ∈ fp100, w0.heap.size ≤ x) ∧ Chg [] w0 w' := by
 have L0 := F0.low
 have hB : Chg [] w0 w0 := Chg.refl _ _
 have hZ := Nat.le_refl w0.heap.size
 unfold m_spec_l01Sorted at hm
 refine enterE (N := 55) Try.func70 (by rfl) Try.ntmps70 (by simp) [(0, .slice A0 (l0).length cap0)] (by rfl) (by kernel_rfl) (fun a => ?_)
 refine cW_seq ?_
 refine cW_region ?_
 refine wS_pure 1 [(2, .slice none 0 0)] (by kernel_rfl) ?_
 refine wS_end (by rfl) ?_
 refine eX_then ?_
 refine cW_seq ?_
 refine cW_region ?_
 refine wS_bs0 (α := Int × Int) (enc := encII) (d := 7) (t := 26) (T := 34) (by kernel_rfl) el26 ?_
 intro b1 w1 G1 F1 hc1
 replace F0 := F0.chg hc1 Dj.nil
 replace hB := hB.inS hc1 inNil
 replace G1 := Nat.le_trans hZ G1
 replace G1 := low1 G1
 replace hZ := Nat.le_trans hZ hc1.size
 refine wS_pure 1 [(3, .slice (some ⟨b1, 0, none⟩) (([] : List (Int × Int))).length 0)] (by kernel_rfl) ?_
 refine wS_end (by rfl) ?_
 refine eX_then ?_
 refine cW_seq ?_
 refine cW_seq ?_
 refine cW_region ?_
 refine wS_pure 1 [(4, .int .i64 (0))] (by kernel_rfl) ?_
 refine wS_end (by rfl) ?_
 refine eX_then ?_
 obtain ⟨r1, hr1, hm⟩ := bindE hm
 have hm1 := hm
 refine cW_cut (fun a' w' => ∃ l1 : List (Int × Int), ∃ A1 : Option Addr, ∃ cap1 : Nat, ∃ fp1 : List Nat, l1 = r1 ∧ Fr 55 [(3, .slice A1 (l1).length cap1)] a' ∧ Ow 2 encII 34 w' fp1 A1 cap1 l1 ∧ (∀ x ∈ fp1, w0.heap.size ≤ x) ∧ Chg [] w0 w' ∧ w0.heap.size ≤ w'.heap.size) ?_ ?_
 ·refine cW_block ?_
  refine cW_loop _ (fun (s1 : (List (Int × Int)) × Int) a' w' => ∃ l3 : List (Int × Int), ∃ A3 : Option Addr, ∃ cap3 : Nat, ∃ fp2 : List Nat, ∃ x1 : Int, (l3, x1) = s1 ∧ Fr 55 [(0, .slice A0 (l0).length cap0), (3, .slice A3 (l3).length cap3), (4, .int .i64 (x1))] a' ∧ Sl 2 encII w' fp0 A0 l0 ∧ Ow 2 encII 34 w' fp2 A3 cap3 l3 ∧ (∀ x ∈ fp2, w0.heap.size ≤ x) ∧ Chg [] w0 w' ∧ w0.heap.size ≤ w'.heap.size) hr1 (fun hst => ⟨([] : List (Int × Int)), (some ⟨b1, 0, none⟩), 0, [b1], 0, rfl, Fr.of hst (by kernel_rfl), F0, F1, G1, hB, hZ⟩) ?_
  rintro _ c1 a' w2 ⟨l3, A3, cap3, fp2, x1, rfl, hF1, F2, F3, G2, hB, hZ⟩ hx1
  refine Fr.goOn hF1 (by kernel_rfl) ?_
  have hm := hx1
  unfold m_spec_l01Sorted_s3 at hm
  refine cW_seq ?_
  refine cW_seq ?_
  refine cW_region ?_
  refine wS_pure 4 [(11, .bool (decide (x1 < (((l0).length : Int))))), (10, .int .i64 (((l0).length : Int))), (9, .slice A0 (l0).length cap0), (8, .int .i64 (x1))] (by kernel_rfl) ?_
  refine wS_end (by rfl) ?_
  refine eX_then ?_
  refine cW_cond (t := decide (x1 < (((l0).length : Int)))) (by kernel_rfl) (fun hb1 => ?_) (fun hb1 => ?_)
  ·have hm := condT hb1 hm
   refine cW_skip ?_
   refine eX_then ?_
   refine cW_seq ?_
   refine cW_block ?_
   refine cW_seq ?_
   refine cW_seq ?_
   refine cW_region ?_
   refine wS_pure 3 [(16, .int .i64 (x1)), (15, .slice A0 (l0).length cap0), (14, .slice A3 (l3).length cap3)] (by kernel_rfl) ?_
   obtain ⟨x2, hx2, hm⟩ := bindE hm
   refine wS_idx (d := 17) (T := 26) (A := A0) (n := (l0).length) (cap := cap0) (kd := .i64) (m := x1) (by kernel_rfl) sl26 (F2.is hx2) ?_
   refine wS_loadA (d := 18) (T := 34) (ad := (elA A0 2 (x1) 0)) (vs := [.int .i64 (x2.1), .int .i64 (x2.2)]) (by kernel_rfl) vt34 (fun i u hu => Sl.cells_at F2 hx2 0 hu (by rfl)) ?_
   obtain ⟨y1, hy1, hm⟩ := bindE hm
   refine wS_calls (d := 19) (f := 49) (vs := [.slice A3 (l3).length cap3, .agg #[.int .i64 (x2.1), .int .i64 (x2.2)]]) (by kernel_rfl) ent49 (c_spec_l01Index hy1 (F3.sl encII_ok)) ?_
   rintro _ w3 ⟨rfl, hc2⟩
   replace F2 := F2.chg hc2 Dj.nil
   replace F3 := F3.chg hc2 Dj.nil
   replace hB := hB.inS hc2 inNil
   replace hZ := Nat.le_trans hZ hc2.size
   refine ⟨.int .i64 (y1), rfl, ?_⟩
   refine wS_pure 1 [(20, .bool (decide (y1 ≥ 0)))] (by kernel_rfl) ?_
   refine wS_end (by rfl) ?_
   refine eX_then ?_
   refine cW_cond (t := decide (y1 ≥ 0)) (by kernel_rfl) (fun hb2 => ?_) (fun hb2 => ?_)
   ·have hm := condT hb2 hm
    refine cW_exit ?_
    refine eX_then_exit ?_
    refine eX_block_hit ?_
    refine eX_then ?_
    refine cW_region ?_
    refine wS_pure 3 [(4, .int .i64 (wr (x1 + 1))), (13, .int .i64 (wr (x1 + 1))), (12, .int .i64 (x1))] (by kernel_rfl) ?_
    refine wS_end (by rfl) ?_
    have hq : (some (Ctl.next ((l3, wr (x1 + 1)))) : Option (Ctl ((List (Int × Int)) × Int) ((List (Int × Int))))) = some _ := hm
    replace hq := someE hq
    subst hq
    exact eX_next hx1 (fun hst => ⟨l3, A3, cap3, fp2, wr (x1 + 1), rfl, Fr.of hst (by kernel_rfl), F2, F3, G2, hB, hZ⟩)
   ·have hm := condF hb2 hm
    refine cW_skip ?_
    refine eX_then ?_
    refine cW_seq ?_
    refine cW_region ?_
    refine wS_pure 1 [(5, .int .i64 (0))] (by kernel_rfl) ?_
    refine wS_end (by rfl) ?_
    refine eX_then ?_
    refine cW_seq ?_
    obtain ⟨r2, hr2, hm⟩ := bindE hm
    have hm2 := hm
    refine cW_cut (fun a' w' => ∃ x3 : Int, x3 = r2 ∧ Fr 55 [(0, .slice A0 (l0).length cap0), (3, .slice A3 (l3).length cap3), (4, .int .i64 (x1)), (5, .int .i64 (x3))] a' ∧ Sl 2 encII w' fp0 A0 l0 ∧ Ow 2 encII 34 w' fp2 A3 cap3 l3 ∧ Chg [] w0 w' ∧ w0.heap.size ≤ w'.heap.size) ?_ ?_
    ·refine cW_block ?_
     refine cW_loop _ (fun (s2 : Int) a' w' => ∃ x4 : Int, x4 = s2 ∧ Fr 55 [(0, .slice A0 (l0).length cap0), (3, .slice A3 (l3).length cap3), (4, .int .i64 (x1)), (5, .int .i64 (x4))] a' ∧ Sl 2 encII w' fp0 A0 l0 ∧ Ow 2 encII 34 w' fp2 A3 cap3 l3 ∧ Chg [] w0 w' ∧ w0.heap.size ≤ w'.heap.size) hr2 (fun hst => ⟨0, rfl, Fr.of hst (by kernel_rfl), F2, F3, hB, hZ⟩) ?_
     rintro _ c2 a' w4 ⟨x4, rfl, hF2, F4, F5, hB, hZ⟩ hx3
     refine Fr.goOn hF2 (by kernel_rfl) ?_
     have hm := hx3
     unfold m_spec_l01Sorted_s4 at hm
     refine cW_seq ?_
     refine cW_seq ?_
     refine cW_drawnTail [] 13 (by kernel_rfl) (by kernel_rfl) (fun w5 hc3 => ?_)
     replace F4 := F4.chg hc3 Dj.nil
     replace F5 := F5.chg hc3 Dj.nil
     replace hB := hB.inS hc3 inNil
     replace hZ := Nat.le_trans hZ hc3.size
     have hS := Chg.refl [] w5
     have Z1 := F4
     have Z2 := F5
     refine wH_take [0, 1, 2, 3, 4] [4, 3, 2, 1, 0] [(25, .bool (decide (x4 < (((l3).length : Int))))), (24, .bool (decide (x4 < (((l3).length : Int))))), (23, .int .i64 (((l3).length : Int))), (22, .slice A3 (l3).length cap3), (21, .int .i64 (x4))] (by kernel_rfl) (qT (qT (qT (qL (qB (qT (qT (qB (qT (qL (qB (qT (qT qZ))))))))))))) (by kernel_rfl) ?_
     refine wH_bool (decide (x4 < (((l3).length : Int)))) (fun hb3 => ?_) (fun hb3 => ?_)
     ·have hm := condT hb3 hm
      rewrite [hb3]
      refine wH_take [5, 6] [6, 5, 4, 3, 2, 1, 0] [(27, .int .i64 (x4)), (26, .slice A3 (l3).length cap3)] (by kernel_rfl) (qT (qT (qT (qL (qB (qT (qT (qB (qT (qL (qB (qT (qT qZ))))))))))))) (by kernel_rfl) ?_
      obtain ⟨x5, hx4, hm⟩ := bindE hm
      refine wH_idx (i := 7) (d := 28) (T := 26) (A := A3) (n := (l3).length) (cap := cap3) (kd := .i64) (m := x4) (by kernel_rfl) (qT (qT (qT (qL (qB (qT (qT (qB (qT (qL (qB (qT (qT qZ))))))))))))) (by kernel_rfl) (by kernel_rfl) sl26 ((F5.sl encII_ok).is hx4) ?_
      refine wH_loadA (i := 8) (d := 29) (T := 34) (ad := (elA A3 2 (x4) 0)) (vs := [.int .i64 (x5.1), .int .i64 (x5.2)]) (by kernel_rfl) (qT (qT (qT (qL (qB (qT (qT (qB (qT (qL (qB (qT (qT qZ))))))))))))) (by kernel_rfl) (by kernel_rfl) vt34 (fun W hW i u hu => Sl.cells_at ((Z2.chg hW Dj.nil).sl encII_ok) hx4 0 hu (by rfl)) ?_
      refine wH_take [9, 10] [10, 9, 8, 7, 6, 5, 4, 3, 2, 1, 0] [(31, .int .i64 (x1)), (30, .slice A0 (l0).length cap0)] (by kernel_rfl) (qT (qT (qT (qL (qB (qT (qT (qB (qT (qL (qB (qT (qT qZ))))))))))))) (by kernel_rfl) ?_
      obtain ⟨x6, hx5, hm⟩ := bindE hm
      refine wH_idx (i := 11) (d := 32) (T := 26) (A := A0) (n := (l0).length) (cap := cap0) (kd := .i64) (m := x1) (by kernel_rfl) (qT (qT (qT (qL (qB (qT (qT (qB (qT (qL (qB (qT (qT qZ))))))))))))) (by kernel_rfl) (by kernel_rfl) sl26 (F4.is hx5) ?_
      refine wH_loadA (i := 12) (d := 33) (T := 34) (ad := (elA A0 2 (x1) 0)) (vs := [.int .i64 (x6.1), .int .i64 (x6.2)]) (by kernel_rfl) (qT (qT (qT (qL (qB (qT (qT (qB (qT (qL (qB (qT (qT qZ))))))))))))) (by kernel_rfl) (by kernel_rfl) vt34 (fun W hW i u hu => Sl.cells_at (Z1.chg hW Dj.nil) hx5 0 hu (by rfl)) ?_
      refine wH_done (by kernel_rfl) ?_
      refine eX_tail ?_
      obtain ⟨y2, hy2, hm⟩ := bindE hm
      refine wS_calls (d := 34) (f := 86) (vs := [.agg #[.int .i64 (x5.1), .int .i64 (x5.2)], .agg #[.int .i64 (x6.1), .int .i64 (x6.2)]]) (by kernel_rfl) ent86 (c_spec_l01Before hy2) ?_
      rintro _ w6 ⟨rfl, hc4⟩
      replace F4 := F4.chg hc4 Dj.nil
      replace F5 := F5.chg hc4 Dj.nil
      replace hB := hB.inS hc4 inNil
      replace hZ := Nat.le_trans hZ hc4.size
      refine ⟨.bool (y2), rfl, ?_⟩
      refine wS_pure 1 [(35, .bool (y2))] (by kernel_rfl) ?_
      refine wS_end (by rfl) ?_
      refine eX_then ?_
      refine cW_cond (t := y2) (by kernel_rfl) (fun hb4 => ?_) (fun hb4 => ?_)
      ·have hm := condT hb4 hm
       refine cW_skip ?_
       refine eX_then ?_
       refine cW_block ?_
       refine cW_region ?_
       refine wS_pure 3 [(5, .int .i64 (wr (x4 + 1))), (37, .int .i64 (wr (x4 + 1))), (36, .int .i64 (x4))] (by kernel_rfl) ?_
       refine wS_end (by rfl) ?_
       refine eX_block ?_
       have hq : (some (Ctl.next (wr (x4 + 1))) : Option (Ctl (Int) (Int))) = some _ := hm
       replace hq := someE hq
       subst hq
       exact eX_next hx3 (fun hst => ⟨wr (x4 + 1), rfl, Fr.of hst (by kernel_rfl), F4, F5, hB, hZ⟩)
      ·have hm := condF hb4 hm
       refine cW_exit ?_
       refine eX_then_exit ?_
       have hq : (some (Ctl.out x4) : Option (Ctl (Int) (Int))) = some _ := hm
       replace hq := someE hq
       subst hq
       refine eX_outX hx3 (fun hr3 => ?_)
       replace hr3 := hr3.symm
       subst hr3
       refine eX_block_hit ?_
       exact eX_J (fun hst => ⟨x4, rfl, Fr.of hst (by kernel_rfl), F4, F5, hB, hZ⟩)
     ·have hm := condF hb3 hm
      rewrite [hb3]
      refine wH_take [5, 6, 7, 8, 9, 10, 11, 12] [12, 11, 10, 9, 8, 7, 6, 5, 4, 3, 2, 1, 0] [(33, undef), (32, undef), (31, undef), (30, undef), (29, undef), (28, undef), (27, undef), (26, undef)] (by kernel_rfl) (qT (qT (qT (qL (qB (qT (qT (qB (qT (qL (qB (qT (qT qZ))))))))))))) (by kernel_rfl) ?_
      refine wH_done (by kernel_rfl) ?_
      refine eX_tail ?_
      refine wS_pure 2 [(35, .bool (false)), (34, undef)] (by kernel_rfl) ?_
      refine wS_end (by rfl) ?_
      refine eX_then ?_
      refine cW_cond_f (by kernel_rfl) ?_
      refine cW_exit ?_
      refine eX_then_exit ?_
      have hq : (some (Ctl.out x4) : Option (Ctl (Int) (Int))) = some _ := hm
      replace hq := someE hq
      subst hq
      refine eX_outX hx3 (fun hr4 => ?_)
      replace hr4 := hr4.symm
      subst hr4
      refine eX_block_hit ?_
      exact eX_J (fun hst => ⟨x4, rfl, Fr.of hst (by kernel_rfl), F4, F5, hB, hZ⟩)
    ·rintro a' w7 ⟨x3, hJ, hF3, F6, F7, hB, hZ⟩
     subst hJ
     refine Fr.goX hF3 (by kernel_rfl) ?_
     refine eX_then ?_
     refine cW_seq ?_
     refine cW_region ?_
     refine wS_bs0 (α := Int × Int) (enc := encII) (d := 38) (t := 26) (T := 34) (by kernel_rfl) el26 ?_
     intro b2 w8 G3 F8 hc5
     have D1 : Dj fp2 [b2] := Dj.of F7.low (low1 G3)
     replace F6 := F6.chg hc5 Dj.nil
     replace F7 := F7.chg hc5 Dj.nil
     replace hB := hB.inS hc5 inNil
     replace G3 := Nat.le_trans hZ G3
     replace G3 := low1 G3
     replace hZ := Nat.le_trans hZ hc5.size
     refine wS_pure 2 [(40, .int .i64 (x3)), (39, .slice A3 (l3).length cap3)] (by kernel_rfl) ?_
     obtain ⟨y3, hy3, hm⟩ := bindE hm
     refine wS_cutA (enc := encII) (l := l3) (d := 41) (T := 26) (A := A3) (cap := cap3) (vlo := some (.int .i64 (x3))) (vhi := none) (lo := x3) (hi := ((l3).length : Int)) (n := 0) (by kernel_rfl) sl26 (Or.inl rfl) (Or.inr ⟨rfl, rfl⟩) (F7.sl encII_ok) F7.cap_le hy3 ?_
     intro A4 cap4 hA1 F9 hcap1
     obtain rfl := slci_slc hy3
     have hlv1 := Eq.refl (l3).length
     have hcz1 := F7.cap_le
     obtain ⟨_, hk1, hm⟩ := bindE hm
     replace hk1 := apE hk1
     refine wS_appendAny (enc := encII) (l := (([] : List (Int × Int)) : List (Int × Int))) (l2 := (slc l3 x3 (((l3).length : Int)) : List (Int × Int))) (d := 42) (t := 26) (T := 34) (A := (some ⟨b2, 0, none⟩)) (A2 := A4) (cap := 0) (cap2 := cap4) (by kernel_rfl) el26 encII_ok F8 F9 hk1 ?_
     intro w9 fp3 A5 cap5 F10 hc6 hp1
     have G4 := low_ap G3 hZ hp1
     have D2 : Dj fp2 fp3 := Dj.ap D1 F7.low hp1
     have D3 : Dj fp2 fp3 := Dj.ap D1 F9.low hp1
     replace F6 := F6.chg hc6 (Dj.of L0 G3)
     replace F7 := F7.chg hc6 D1
     replace F9 := F9.chg hc6 D1
     replace hB := hB.inS hc6 (inLow G3)
     replace hZ := Nat.le_trans hZ hc6.size
     refine wS_pure 1 [(6, .slice A5 ((([] : List (Int × Int))) ++ (slc l3 x3 (((l3).length : Int)))).length cap5)] (by kernel_rfl) ?_
     refine wS_end (by rfl) ?_
     refine eX_then ?_
     refine cW_drawnTail fp2 10 (by kernel_rfl) (by kernel_rfl) (fun w10 hc7 => ?_)
     replace F6 := F6.chg hc7 Dj.nil
     replace F7 := F7.chg hc7 Dj.nil
     replace F9 := F9.chg hc7 Dj.nil
     replace F10 := F10.chg hc7 Dj.nil
     replace hB := hB.inS hc7 inNil
     replace hZ := Nat.le_trans hZ hc7.size
     have hS := Chg.refl fp2 w10
     have Z3 := F6
     have Z4 := F7
     have Z5 := F9
     have Z6 := F10
     refine wH_take [0, 1] [1, 0] [(44, .int .i64 (x3)), (43, .slice A3 (l3).length cap3)] (by kernel_rfl) (qT (qB (qT (qL (qB (qT (qT qZ))))))) (by kernel_rfl) ?_
     obtain ⟨y4, hy4, hm⟩ := bindE hm
     refine wH_prefix (k := 2) (enc := encII) (l := l3) (i := 2) (d := 45) (T := 26) (A := A3) (cap := cap3) (hi := x3) (by kernel_rfl) (qT (qB (qT (qL (qB (qT (qT qZ))))))) (by kernel_rfl) (by kernel_rfl) sl26 encII_ok F7.cap_le hy4 ?_
     intro hpe hpf1
     subst hpe
     have F11 := hpf1 _ _ _ F7
     have Fz1 := hpf1 _ _ _ Z4
     refine wH_take [3, 4] [4, 3, 2, 1, 0] [(47, .int .i64 (x1)), (46, .slice A0 (l0).length cap0)] (by kernel_rfl) (qT (qB (qT (qL (qB (qT (qT qZ))))))) (by kernel_rfl) ?_
     obtain ⟨x7, hx6, hm⟩ := bindE hm
     refine wH_idx (i := 5) (d := 48) (T := 26) (A := A0) (n := (l0).length) (cap := cap0) (kd := .i64) (m := x1) (by kernel_rfl) (qT (qB (qT (qL (qB (qT (qT qZ))))))) (by kernel_rfl) (by kernel_rfl) sl26 (F6.is hx6) ?_
     refine wH_loadA (i := 6) (d := 49) (T := 34) (ad := (elA A0 2 (x1) 0)) (vs := [.int .i64 (x7.1), .int .i64 (x7.2)]) (by kernel_rfl) (qT (qB (qT (qL (qB (qT (qT qZ))))))) (by kernel_rfl) (by kernel_rfl) vt34 (fun W hW i u hu => Sl.cells_at (Z3.chg hW (Dj.of L0 G2)) hx6 0 hu (by rfl)) ?_
     refine wH_take [9] [9, 6, 5, 4, 3, 2, 1, 0] [(52, .slice A5 ((([] : List (Int × Int))) ++ (slc l3 x3 (((l3).length : Int)))).length cap5)] (by kernel_rfl) (qT (qB (qT (qL (qB (qT (qT qZ))))))) (by kernel_rfl) ?_
     refine wH_all [7] (by rfl) (by kernel_rfl) (by simp) ⟨⟨by kernel_rfl, ?_⟩, trivial⟩
     refine wS_bs (enc := encII) ([(x7.1, x7.2)] : List (Int × Int)) [.int .i64 (x7.1), .int .i64 (x7.2)] (d := 50) (t := 26) (T := 34) (n := 1) (ps := [(0, .agg #[.int .i64 (x7.1), .int .i64 (x7.2)])]) (by kernel_rfl) el26 encII_ok (by rfl) (by omega) (by omega) (by kernel_rfl) (by rfl) ?_
     intro b3 w11 G5 F12 hc8
     have D4 : Dj fp2 [b3] := Dj.of F11.low (low1 G5)
     have D5 : Dj fp3 [b3] := Dj.of F10.low (low1 G5)
     replace F6 := F6.chg hc8 Dj.nil
     replace F11 := F11.chg hc8 Dj.nil
     replace F10 := F10.chg hc8 Dj.nil
     replace hB := hB.inS hc8 inNil
     have hSz := hS
     replace hS := hS.inS hc8 inNil
     have Gz1 := low1 (Nat.le_trans hSz.size G5)
     replace G5 := Nat.le_trans hZ G5
     replace G5 := low1 G5
     replace hZ := Nat.le_trans hZ hc8.size
     refine wS_end (by kernel_rfl) ?_
     refine eX_KH hS ?_
     refine wH_all [8] (by rfl) (by kernel_rfl) (by simp) ⟨⟨by kernel_rfl, ?_⟩, trivial⟩
     obtain ⟨_, hk2, hm⟩ := bindE hm
     replace hk2 := apE hk2
     refine wS_append (enc := encII) (l := (l3.take (Int.toNat x3) : List (Int × Int))) (l2 := (([(x7.1, x7.2)] : List (Int × Int)) : List (Int × Int))) (d := 51) (t := 26) (T := 34) (A := A3) (A2 := (some ⟨b3, 0, none⟩)) (cap := cap3) (cap2 := 1) (by kernel_rfl) el26 encII_ok F11 (F12.sl encII_ok) (by rfl) hk2 ?_
     intro w12 fp4 A6 cap6 F13 hc9 hp2
     have G6 := low_ap G2 hZ hp2
     have D6 : Dj fp3 fp4 := Dj.ap (D2).symm F10.low hp2
     have D7 : Dj [b3] fp4 := Dj.ap (D4).symm F12.low hp2
     replace F6 := F6.chg hc9 (Dj.of L0 G2)
     replace F10 := F10.chg hc9 (D2).symm
     replace F12 := F12.chg hc9 (D4).symm
     replace hB := hB.inS hc9 (inLow G2)
     have hSz := hS
     replace hS := hS.trans hc9
     have Sn1 := sin_ap (Sg := fp2) (inMem (fun x hx => hx)) hSz.size hp2
     replace hZ := Nat.le_trans hZ hc9.size
     refine wS_end (by kernel_rfl) ?_
     refine eX_KH hS ?_
     refine wH_done (by kernel_rfl) ?_
     refine eX_tail ?_
     obtain ⟨_, hk3, hm⟩ := bindE hm
     replace hk3 := apE hk3
     refine wS_appendAny (enc := encII) (l := ((l3.take (Int.toNat x3)) ++ (([(x7.1, x7.2)] : List (Int × Int))) : List (Int × Int))) (l2 := ((([] : List (Int × Int))) ++ (slc l3 x3 (((l3).length : Int))) : List (Int × Int))) (d := 53) (t := 26) (T := 34) (A := A6) (A2 := A5) (cap := cap6) (cap2 := cap5) (by kernel_rfl) el26 encII_ok F13 (F10.sl encII_ok) hk3 ?_
     intro w13 fp5 A7 cap7 F14 hc10 hp3
     have G7 := low_ap G6 hZ hp3
     have D8 : Dj fp3 fp5 := Dj.ap D6 F10.low hp3
     have D9 : Dj [b3] fp5 := Dj.ap D7 F12.low hp3
     replace F6 := F6.chg hc10 (Dj.of L0 G6)
     replace F10 := F10.chg hc10 D6
     replace F12 := F12.chg hc10 D7
     replace hB := hB.inS hc10 (inLow G6)
     replace hZ := Nat.le_trans hZ hc10.size
     refine wS_pure 1 [(3, .slice A7 (((l3.take (Int.toNat x3)) ++ (([(x7.1, x7.2)] : List (Int × Int)))) ++ ((([] : List (Int × Int))) ++ (slc l3 x3 (((l3).length : Int))))).length cap7)] (by kernel_rfl) ?_
     refine wS_end (by rfl) ?_
     refine eX_block ?_
     refine eX_then ?_
     refine cW_region ?_
     refine wS_pure 3 [(4, .int .i64 (wr (x1 + 1))), (13, .int .i64 (wr (x1 + 1))), (12, .int .i64 (x1))] (by kernel_rfl) ?_
     refine wS_end (by rfl) ?_
     have hq : (some (Ctl.next ((((l3.take (Int.toNat x3)) ++ (([(x7.1, x7.2)] : List (Int × Int)))) ++ ((([] : List (Int × Int))) ++ (slc l3 x3 (((l3).length : Int)))), wr (x1 + 1)))) : Option (Ctl ((List (Int × Int)) × Int) ((List (Int × Int))))) = some _ := hm
     replace hq := someE hq
     subst hq
     exact eX_next hx1 (fun hst => ⟨((l3.take (Int.toNat x3)) ++ (([(x7.1, x7.2)] : List (Int × Int)))) ++ ((([] : List (Int × Int))) ++ (slc l3 x3 (((l3).length : Int)))), A7, cap7, fp5, wr (x1 + 1), rfl, Fr.of hst (by kernel_rfl), F6, F14, G7, hB, hZ⟩)
  ·have hm := condF hb1 hm
   refine cW_exit ?_
   refine eX_then_exit ?_
   have hq : (some (Ctl.out l3) : Option (Ctl ((List (Int × Int)) × Int) ((List (Int × Int))))) = some _ := hm
   replace hq := someE hq
   subst hq
   refine eX_outX hx1 (fun hr5 => ?_)
   replace hr5 := hr5.symm
   subst hr5
   refine eX_block_hit ?_
   exact eX_J (fun hst => ⟨l3, A3, cap3, fp2, rfl, Fr.of hst (by kernel_rfl), F3, G2, hB, hZ⟩)
 ·rintro a' w14 ⟨l1, A1, cap1, fp1, hJ, hF4, F15, G8, hB, hZ⟩
  subst hJ
  refine Fr.goX hF4 (by kernel_rfl) ?_
  refine eX_then ?_
  refine cW_seq ?_
  refine cW_region ?_
  refine wS_pure 2 [(2, .slice A1 (l1).length cap1), (54, .slice A1 (l1).length cap1)] (by kernel_rfl) ?_
  refine wS_end (by rfl) ?_
  refine eX_then ?_
  refine cW_ret ?_
  have hq : (some l1 : Option ((List (Int × Int)))) = some _ := hm
  replace hq := someE hq
  subst hq
  refine eX_ret (vs := [.slice A1 (l1).length cap1]) [.tmp 2] (by rfl) ⟨by (show lkE _ _ _ = _); kernel_rfl, trivial⟩ ?_
  exact ⟨A1, cap1, fp1, rfl, F15, G8, hB⟩

end Go.Proofs.Ytdmokbjaeikfdaa
