/- Printed walks: impl.CheapestWay, laws.FnBlocked. -/
import Derived.Test.YtcknpoeannbpbaaProg
import Derived.Test.YtcknpoeannbpbaaWBl02
set_option linter.unusedSimpArgs false
set_option linter.unusedVariables false
namespace Go.Proofs.Ytcknpoeannbpbaa
open Go.RowKit
attribute [local irreducible] wS cW eX wH

theorem ent6 : Ent Try.prog 6 := fun _ => by kernel_rfl
theorem ent7 : Ent Try.prog 7 := fun _ => by kernel_rfl
theorem ent8 : Ent Try.prog 8 := fun _ => by kernel_rfl
theorem ent9 : Ent Try.prog 9 := fun _ => by kernel_rfl
theorem ent10 : Ent Try.prog 10 := fun _ => by kernel_rfl
theorem ent11 : Ent Try.prog 11 := fun _ => by kernel_rfl
theorem ent13 : Ent Try.prog 13 := fun _ => by kernel_rfl
theorem ent34 : Ent Try.prog 34 := fun _ => by kernel_rfl
theorem ent35 : Ent Try.prog 35 := fun _ => by kernel_rfl
theorem el22 : ElTy Try.prog 22 5 1 (.int .u8 (0)) := ElTy.mk' Try.underlying22 (by kernel_rfl) (by rfl)
theorem st22_9 : StrTy Try.prog 22 9 := ⟨⟨_, Try.underlying22, Try.underlying5⟩, Try.underlying9⟩
theorem sty9 : Try.prog.underlying 9 = some .string := Try.underlying9

set_option maxRecDepth 100000 in
/-- impl.CheapestWay -/
theorem c_impl_CheapestWay {w0 : World} {l0_0 : List (List (Int))} {A0_0 : Option Addr} {cap0_0 : Nat} {fp0_0 : List Nat} {p1_0 : Int} {p1_1 : Int} {p2_0 : Int} {p2_1 : Int} {p3 : Int} {r : (ByteArray) × (Int) × (Bool)} (hm : m_impl_CheapestWay l0_0 p1_0 p1_1 p2_0 p2_1 p3 = some r) (F0_0 : SlR 1 encI w0 fp0_0 A0_0 l0_0) :
  Calls Try.prog 13 #[.agg #[.slice A0_0 (l0_0).length cap0_0], .agg #[.int .i64 (p1_0), .int .i64 (p1_1)], .agg #[.int .i64 (p2_0), .int .i64 (p2_1)], .int .i64 (p3)] w0 fun e w' => e = .returned (.tuple #[.string (r.1), .int .i64 (r.2.1), .bool (r.2.2)]) ∧ Chg [] w0 w' := by
 have L0_0 := F0_0.low
 have hB : Chg [] w0 w0 := Chg.refl _ _
 have hZ := Nat.le_refl w0.heap.size
 unfold m_impl_CheapestWay at hm
 refine enterE (N := 88) Try.func13 (by rfl) Try.ntmps13 (by simp) [(0, .agg #[.slice A0_0 (l0_0).length cap0_0]), (1, .agg #[.int .i64 (p1_0), .int .i64 (p1_1)]), (2, .agg #[.int .i64 (p2_0), .int .i64 (p2_1)]), (3, .int .i64 (p3))] (by rfl) (by kernel_rfl) (fun a => ?_)
 refine cW_seq ?_
 refine cW_region ?_
 refine wS_box (d := 4) (T := 26) (x := .agg #[.slice A0_0 (l0_0).length cap0_0]) (by kernel_rfl) ?_
 intro b1 w1 G1 F1 hc1
 replace F1 : Cl w1 b1 26 [.slice A0_0 (l0_0).length cap0_0] := F1
 replace F0_0 := F0_0.chg hc1 Dj.nil
 replace hB := hB.inS hc1 inNil
 replace G1 := Nat.le_trans hZ G1
 replace hZ := Nat.le_trans hZ hc1.size
 refine wS_box (d := 5) (T := 29) (x := .agg #[.int .i64 (p1_0), .int .i64 (p1_1)]) (by kernel_rfl) ?_
 intro b2 w2 G2 F2 hc2
 replace F2 : Cl w2 b2 29 [.int .i64 (p1_0), .int .i64 (p1_1)] := F2
 have D1 : Dj [b1] [b2] := Dj.of (lt1 F1.lt) (low1 G2)
 replace F0_0 := F0_0.chg hc2 Dj.nil
 replace F1 := F1.chg hc2 notNil
 replace hB := hB.inS hc2 inNil
 replace G2 := Nat.le_trans hZ G2
 replace hZ := Nat.le_trans hZ hc2.size
 refine wS_box (d := 6) (T := 29) (x := .agg #[.int .i64 (p2_0), .int .i64 (p2_1)]) (by kernel_rfl) ?_
 intro b3 w3 G3 F3 hc3
 replace F3 : Cl w3 b3 29 [.int .i64 (p2_0), .int .i64 (p2_1)] := F3
 have D2 : Dj [b1] [b3] := Dj.of (lt1 F1.lt) (low1 G3)
 have D3 : Dj [b2] [b3] := Dj.of (lt1 F2.lt) (low1 G3)
 replace F0_0 := F0_0.chg hc3 Dj.nil
 replace F1 := F1.chg hc3 notNil
 replace F2 := F2.chg hc3 notNil
 replace hB := hB.inS hc3 inNil
 replace G3 := Nat.le_trans hZ G3
 replace hZ := Nat.le_trans hZ hc3.size
 refine wS_pure 3 [(10, .bool (false)), (9, .int .i64 (0)), (8, .string (ByteArray.mk #[]))] (by kernel_rfl) ?_
 refine wS_end (by rfl) ?_
 refine eX_then ?_
 refine cW_seq ?_
 refine cW_seq ?_
 refine cW_region ?_
 refine wS_loadA (d := 22) (T := 26) (ad := ⟨b1, 0, none⟩) (vs := [.slice A0_0 (l0_0).length cap0_0]) (by kernel_rfl) vt26 (fun i u hu => box_cells F1 0 hu (by rfl)) ?_
 refine wS_loadA (d := 23) (T := 29) (ad := ⟨b2, 0, none⟩) (vs := [.int .i64 (p1_0), .int .i64 (p1_1)]) (by kernel_rfl) vt29 (fun i u hu => box_cells F2 0 hu (by rfl)) ?_
 refine wS_loadA (d := 24) (T := 29) (ad := ⟨b3, 0, none⟩) (vs := [.int .i64 (p2_0), .int .i64 (p2_1)]) (by kernel_rfl) vt29 (fun i u hu => box_cells F3 0 hu (by rfl)) ?_
 refine wS_pure 1 [(25, .int .i64 (p3))] (by kernel_rfl) ?_
 obtain ⟨y1, hy1, hm⟩ := bindE hm
 refine wS_calls (d := 26) (f := 34) (vs := [.agg #[.slice A0_0 (l0_0).length cap0_0], .agg #[.int .i64 (p1_0), .int .i64 (p1_1)], .agg #[.int .i64 (p2_0), .int .i64 (p2_1)], .int .i64 (p3)]) (by kernel_rfl) ent34 (c_impl_mazeOk hy1 F0_0) ?_
 rintro _ w4 ⟨rfl, hc4⟩
 replace F0_0 := F0_0.chg hc4 Dj.nil
 replace F1 := F1.chg hc4 notNil
 replace F2 := F2.chg hc4 notNil
 replace F3 := F3.chg hc4 notNil
 replace hB := hB.inS hc4 inNil
 replace hZ := Nat.le_trans hZ hc4.size
 refine ⟨.bool (y1), rfl, ?_⟩
 refine wS_pure 1 [(27, .bool (!y1))] (by kernel_rfl) ?_
 refine wS_end (by rfl) ?_
 refine eX_then ?_
 refine cW_cond (t := !y1) (by kernel_rfl) (fun hb1 => ?_) (fun hb1 => ?_)
 ·have hm := condT hb1 hm
  refine cW_seq ?_
  refine cW_region ?_
  refine wS_pure 3 [(10, .bool (false)), (9, .int .i64 (0)), (8, .string (ByteArray.mk #[]))] (by kernel_rfl) ?_
  refine wS_end (by rfl) ?_
  refine eX_then ?_
  refine cW_ret ?_
  refine eX_then_ret ?_
  have hq : (some ((ByteArray.mk #[], 0, false)) : Option ((ByteArray) × (Int) × (Bool))) = some _ := hm
  replace hq := someE hq
  subst hq
  refine eX_ret (vs := [.string (ByteArray.mk #[]), .int .i64 (0), .bool (false)]) [.tmp 8, .tmp 9, .tmp 10] (by rfl) ⟨by (show lkE _ _ _ = _); kernel_rfl, ⟨by (show lkE _ _ _ = _); kernel_rfl, ⟨by (show lkE _ _ _ = _); kernel_rfl, trivial⟩⟩⟩ ?_
  exact ⟨rfl, hB⟩
 ·have hm := condF hb1 hm
  refine cW_skip ?_
  refine eX_then ?_
  refine cW_seq ?_
  refine cW_region ?_
  refine wS_loadA (d := 28) (T := 29) (ad := ⟨b3, 0, none⟩) (vs := [.int .i64 (p2_0), .int .i64 (p2_1)]) (by kernel_rfl) vt29 (fun i u hu => box_cells F3 0 hu (by rfl)) ?_
  refine wS_pure 1 [(29, .int .i64 (p3))] (by kernel_rfl) ?_
  obtain ⟨y2, hy2, hm⟩ := bindE hm
  refine wS_calls (d := 30) (f := 35) (vs := [.pointer (some ⟨b1, 0, none⟩), .agg #[.int .i64 (p2_0), .int .i64 (p2_1)], .int .i64 (p3)]) (by kernel_rfl) ent35 (c_impl_Maze_costs_bimplMaze hy2 F0_0 F1) ?_
  rintro _ w5 ⟨b4, rfl, F4, G4, hc5⟩
  have D4 : Dj [b1] [b4] := Dj.of (lt1 F1.lt) G4
  have D5 : Dj [b2] [b4] := Dj.of (lt1 F2.lt) G4
  have D6 : Dj [b3] [b4] := Dj.of (lt1 F3.lt) G4
  replace F0_0 := F0_0.chg hc5 Dj.nil
  replace F1 := F1.chg hc5 notNil
  replace F2 := F2.chg hc5 notNil
  replace F3 := F3.chg hc5 notNil
  replace hB := hB.inS hc5 inNil
  replace G4 := low_le hZ G4
  replace hZ := Nat.le_trans hZ hc5.size
  refine ⟨.map (some b4), rfl, ?_⟩
  refine wS_pure 1 [(11, .map (some b4))] (by kernel_rfl) ?_
  refine wS_end (by rfl) ?_
  refine eX_then ?_
  refine cW_seq ?_
  refine cW_region ?_
  refine wS_pure 1 [(32, .map (some b4))] (by kernel_rfl) ?_
  refine wS_loadA (d := 33) (T := 29) (ad := ⟨b2, 0, none⟩) (vs := [.int .i64 (p1_0), .int .i64 (p1_1)]) (by kernel_rfl) vt29 (fun i u hu => box_cells F2 0 hu (by rfl)) ?_
  refine wS_pure 1 [(34, .agg #[.int .i64 (p1_0), .int .i64 (p1_1), .int .i64 (4)])] (by kernel_rfl) ?_
  obtain ⟨_, hk1, hm⟩ := bindE hm
  refine wS_lookOk (k := (p1_0, p1_1, 4)) (d := 35) (T := 64) (by kernel_rfl) rfl mk64 mp64 F4 (mpE hk1) ?_
  refine wS_pure 5 [(13, .bool ((mget y2 ((p1_0, p1_1, 4))).isSome)), (12, .int .i64 ((mget y2 ((p1_0, p1_1, 4))).getD 0)), (37, .bool ((mget y2 ((p1_0, p1_1, 4))).isSome)), (36, .int .i64 ((mget y2 ((p1_0, p1_1, 4))).getD 0)), (31, .tuple #[.int .i64 ((mget y2 ((p1_0, p1_1, 4))).getD 0), .bool ((mget y2 ((p1_0, p1_1, 4))).isSome)])] (by kernel_rfl) ?_
  refine wS_end (by rfl) ?_
  refine eX_then ?_
  refine cW_prune [(3, .int .i64 (p3)), (4, .pointer (some ⟨b1, 0, none⟩)), (5, .pointer (some ⟨b2, 0, none⟩)), (6, .pointer (some ⟨b3, 0, none⟩)), (11, .map (some b4)), (12, .int .i64 ((mget y2 ((p1_0, p1_1, 4))).getD 0)), (13, .bool ((mget y2 ((p1_0, p1_1, 4))).isSome))] (by kernel_rfl) (by kernel_rfl) (fun a1 => ?_)
  refine cW_seq ?_
  refine cW_seq ?_
  refine cW_region ?_
  refine wS_pure 2 [(39, .bool (!((mget y2 ((p1_0, p1_1, 4))).isSome))), (38, .bool ((mget y2 ((p1_0, p1_1, 4))).isSome))] (by kernel_rfl) ?_
  refine wS_end (by rfl) ?_
  refine eX_then ?_
  refine cW_cond (t := !((mget y2 ((p1_0, p1_1, 4))).isSome)) (by kernel_rfl) (fun hb2 => ?_) (fun hb2 => ?_)
  ·have hm := condT hb2 hm
   refine cW_seq ?_
   refine cW_region ?_
   refine wS_pure 3 [(10, .bool (false)), (9, .int .i64 (0)), (8, .string (ByteArray.mk #[]))] (by kernel_rfl) ?_
   refine wS_end (by rfl) ?_
   refine eX_then ?_
   refine cW_ret ?_
   refine eX_then_ret ?_
   have hq : (some ((ByteArray.mk #[], 0, false)) : Option ((ByteArray) × (Int) × (Bool))) = some _ := hm
   replace hq := someE hq
   subst hq
   refine eX_ret (vs := [.string (ByteArray.mk #[]), .int .i64 (0), .bool (false)]) [.tmp 8, .tmp 9, .tmp 10] (by rfl) ⟨by (show lkE _ _ _ = _); kernel_rfl, ⟨by (show lkE _ _ _ = _); kernel_rfl, ⟨by (show lkE _ _ _ = _); kernel_rfl, trivial⟩⟩⟩ ?_
   exact ⟨rfl, hB⟩
  ·have hm := condF hb2 hm
   refine cW_skip ?_
   refine eX_then ?_
   refine cW_seq ?_
   refine cW_region ?_
   refine wS_bs0 (α := Int) (enc := encU) (d := 40) (t := 22) (T := 5) (by kernel_rfl) el22 ?_
   intro b5 w6 G5 F5 hc6
   have D7 : Dj [b1] [b5] := Dj.of (lt1 F1.lt) (low1 G5)
   have D8 : Dj [b2] [b5] := Dj.of (lt1 F2.lt) (low1 G5)
   have D9 : Dj [b3] [b5] := Dj.of (lt1 F3.lt) (low1 G5)
   have D10 : Dj [b4] [b5] := Dj.of F4.low (low1 G5)
   replace F0_0 := F0_0.chg hc6 Dj.nil
   replace F1 := F1.chg hc6 notNil
   replace F2 := F2.chg hc6 notNil
   replace F3 := F3.chg hc6 notNil
   replace F4 := F4.chg hc6 Dj.nil
   replace hB := hB.inS hc6 inNil
   replace G5 := Nat.le_trans hZ G5
   replace G5 := low1 G5
   replace hZ := Nat.le_trans hZ hc6.size
   refine wS_pure 1 [(14, .slice (some ⟨b5, 0, none⟩) (([] : List (Int))).length 0)] (by kernel_rfl) ?_
   refine wS_end (by rfl) ?_
   refine eX_then ?_
   refine cW_seq ?_
   refine cW_seq ?_
   refine cW_region ?_
   refine wS_loadA (d := 41) (T := 29) (ad := ⟨b2, 0, none⟩) (vs := [.int .i64 (p1_0), .int .i64 (p1_1)]) (by kernel_rfl) vt29 (fun i u hu => box_cells F2 0 hu (by rfl)) ?_
   refine wS_pure 1 [(42, .agg #[.int .i64 (p1_0), .int .i64 (p1_1), .int .i64 (4)])] (by kernel_rfl) ?_
   refine wS_alloc (d := 15) (T := 67) (z := .agg #[.int .i64 (0), .int .i64 (0), .int .i64 (0)]) (by kernel_rfl) (by kernel_rfl) ?_
   intro b6 w7 G6 F6 hc7
   replace F6 : Cl w7 b6 67 [.int .i64 (0), .int .i64 (0), .int .i64 (0)] := F6
   have D11 : Dj [b1] [b6] := Dj.of (lt1 F1.lt) (low1 G6)
   have D12 : Dj [b2] [b6] := Dj.of (lt1 F2.lt) (low1 G6)
   have D13 : Dj [b3] [b6] := Dj.of (lt1 F3.lt) (low1 G6)
   have D14 : Dj [b4] [b6] := Dj.of F4.low (low1 G6)
   have D15 : Dj [b5] [b6] := Dj.of F5.low (low1 G6)
   replace F0_0 := F0_0.chg hc7 Dj.nil
   replace F1 := F1.chg hc7 notNil
   replace F2 := F2.chg hc7 notNil
   replace F3 := F3.chg hc7 notNil
   replace F4 := F4.chg hc7 Dj.nil
   replace F5 := F5.chg hc7 Dj.nil
   replace hB := hB.inS hc7 inNil
   replace G6 := Nat.le_trans hZ G6
   replace hZ := Nat.le_trans hZ hc7.size
   refine wS_store (T := 67) (g := b6) (o := 0) (ad := ⟨b6, 0, none⟩) (v := .agg #[.int .i64 (p1_0), .int .i64 (p1_1), .int .i64 (4)]) (vs := [.int .i64 (p1_0), .int .i64 (p1_1), .int .i64 (4)]) (by kernel_rfl) (by rfl) sz67 (by rfl) (by rfl) F6 (by simp only [List.length_cons, List.length_nil]; omega) ?_
   intro w8 F7 hc8
   replace F0_0 := F0_0.chg hc8 (Dj.of L0_0 (low1 G6))
   replace F1 := F1.chg hc8 (dj1 D11)
   replace F2 := F2.chg hc8 (dj1 D12)
   replace F3 := F3.chg hc8 (dj1 D13)
   replace F4 := F4.chg hc8 D14
   replace F5 := F5.chg hc8 D15
   replace hB := hB.inS hc8 (inLow (low1 G6))
   replace hZ := Nat.le_trans hZ hc8.size
   replace F7 : Cl w8 b6 67 [.int .i64 (p1_0), .int .i64 (p1_1), .int .i64 (4)] := F7
   clear F6
   refine wS_end (by rfl) ?_
   refine eX_then ?_
   obtain ⟨r1, hr1, hm⟩ := bindE hm
   have hm1 := hm
   refine cW_cut (fun a' w' => ∃ l1 : List (Int), ∃ A1 : Option Addr, ∃ cap1 : Nat, ∃ fp1 : List Nat, l1 = r1 ∧ Fr 88 [(12, .int .i64 ((mget y2 ((p1_0, p1_1, 4))).getD 0)), (14, .slice A1 (l1).length cap1)] a' ∧ Ow 1 encU 5 w' fp1 A1 cap1 l1 ∧ (∀ x ∈ fp1, w0.heap.size ≤ x) ∧ Chg [] w0 w' ∧ w0.heap.size ≤ w'.heap.size) ?_ ?_
   ·refine cW_block ?_
    refine cW_loop _ (fun (s1 : (List (Int)) × Int × Int × Int) a' w' => ∃ l3 : List (Int), ∃ A3 : Option Addr, ∃ cap3 : Nat, ∃ fp2 : List Nat, ∃ b7 : Nat, ∃ x1 : Int, ∃ x2 : Int, ∃ x3 : Int, (l3, x1, x2, x3) = s1 ∧ Fr 88 [(3, .int .i64 (p3)), (4, .pointer (some ⟨b1, 0, none⟩)), (6, .pointer (some ⟨b3, 0, none⟩)), (11, .map (some b4)), (12, .int .i64 ((mget y2 ((p1_0, p1_1, 4))).getD 0)), (14, .slice A3 (l3).length cap3), (15, .pointer (some ⟨b7, 0, none⟩))] a' ∧ SlR 1 encI w' fp0_0 A0_0 l0_0 ∧ Cl w' b1 26 [.slice A0_0 (l0_0).length cap0_0] ∧ Cl w' b3 29 [.int .i64 (p2_0), .int .i64 (p2_1)] ∧ Mp okIII ekIII kI w' b4 y2 ∧ Ow 1 encU 5 w' fp2 A3 cap3 l3 ∧ Cl w' b7 67 [.int .i64 (x1), .int .i64 (x2), .int .i64 (x3)] ∧ (∀ x ∈ fp2, w0.heap.size ≤ x) ∧ w0.heap.size ≤ b7 ∧ Dj [b1] fp2 ∧ Dj [b3] fp2 ∧ Dj [b4] fp2 ∧ Dj [b7] fp2 ∧ Dj [b1] [b7] ∧ Dj [b3] [b7] ∧ Dj [b4] [b7] ∧ Chg [] w0 w' ∧ w0.heap.size ≤ w'.heap.size) hr1 (fun hst => ⟨([] : List (Int)), (some ⟨b5, 0, none⟩), 0, [b5], b6, p1_0, p1_1, 4, rfl, Fr.of hst (by kernel_rfl), F0_0, F1, F3, F4, F5, F7, G5, G6, D7, D9, D10, (D15).symm, D11, D13, D14, hB, hZ⟩) ?_
    rintro _ c1 a' w9 ⟨l3, A3, cap3, fp2, b7, x1, x2, x3, rfl, hF1, F8, F9, F10, F11, F12, F13, G7, G8, D16, D17, D18, D19, D20, D21, D22, hB, hZ⟩ hx1
    refine Fr.goOn hF1 (by kernel_rfl) ?_
    have hm := hx1
    unfold m_impl_CheapestWay_s3 at hm
    refine cW_seq ?_
    refine cW_seq ?_
    refine cW_region ?_
    refine wS_pure 1 [(43, .pointer (some ⟨b7, 0, none⟩))] (by kernel_rfl) ?_
    refine wS_loadA (d := 44) (T := 29) (ad := ⟨b7, 0, none⟩) (vs := [.int .i64 (x1), .int .i64 (x2)]) (by kernel_rfl) vt29 (fun i u hu => box_cells F13 0 hu (by rfl)) ?_
    refine wS_loadA (d := 45) (T := 29) (ad := ⟨b3, 0, none⟩) (vs := [.int .i64 (p2_0), .int .i64 (p2_1)]) (by kernel_rfl) vt29 (fun i u hu => box_cells F10 0 hu (by rfl)) ?_
    refine wS_neS (d := 46) (T := 29) (x := x1) (y := x2) (x' := p2_0) (y' := p2_1) (by kernel_rfl) eq29 ?_
    refine wS_end (by rfl) ?_
    refine eX_then ?_
    refine cW_cond (t := !(x1 == p2_0 && x2 == p2_1)) (by kernel_rfl) (fun hb3 => ?_) (fun hb3 => ?_)
    ·have hm := condT hb3 hm
     refine cW_skip ?_
     refine eX_then ?_
     refine cW_seq ?_
     refine cW_block ?_
     refine cW_seq ?_
     refine cW_region ?_
     refine wS_pure 1 [(47, .int .i64 (0))] (by kernel_rfl) ?_
     refine wS_end (by rfl) ?_
     refine eX_then ?_
     obtain ⟨r2, hr2, hm⟩ := bindE hm
     have hm2 := hm
     refine cW_cut (fun a' w' => ∃ l4 : List (Int), ∃ A4 : Option Addr, ∃ cap4 : Nat, ∃ fp3 : List Nat, ∃ x4 : Int, ∃ x5 : Int, ∃ x6 : Int, (l4, x4, x5, x6) = r2 ∧ Fr 88 [(3, .int .i64 (p3)), (4, .pointer (some ⟨b1, 0, none⟩)), (6, .pointer (some ⟨b3, 0, none⟩)), (11, .map (some b4)), (12, .int .i64 ((mget y2 ((p1_0, p1_1, 4))).getD 0)), (14, .slice A4 (l4).length cap4), (15, .pointer (some ⟨b7, 0, none⟩))] a' ∧ SlR 1 encI w' fp0_0 A0_0 l0_0 ∧ Cl w' b1 26 [.slice A0_0 (l0_0).length cap0_0] ∧ Cl w' b3 29 [.int .i64 (p2_0), .int .i64 (p2_1)] ∧ Mp okIII ekIII kI w' b4 y2 ∧ Cl w' b7 67 [.int .i64 (x4), .int .i64 (x5), .int .i64 (x6)] ∧ Ow 1 encU 5 w' fp3 A4 cap4 l4 ∧ (∀ x ∈ fp3, w0.heap.size ≤ x) ∧ Dj [b1] fp3 ∧ Dj [b3] fp3 ∧ Dj [b4] fp3 ∧ Dj [b7] fp3 ∧ Chg [] w0 w' ∧ w0.heap.size ≤ w'.heap.size) ?_ ?_
     ·refine cW_block ?_
      refine cW_loop _ (fun (s2 : Int) a' w' => ∃ x7 : Int, x7 = s2 ∧ Fr 88 [(3, .int .i64 (p3)), (4, .pointer (some ⟨b1, 0, none⟩)), (6, .pointer (some ⟨b3, 0, none⟩)), (11, .map (some b4)), (12, .int .i64 ((mget y2 ((p1_0, p1_1, 4))).getD 0)), (14, .slice A3 (l3).length cap3), (15, .pointer (some ⟨b7, 0, none⟩)), (47, .int .i64 (x7))] a' ∧ SlR 1 encI w' fp0_0 A0_0 l0_0 ∧ Cl w' b1 26 [.slice A0_0 (l0_0).length cap0_0] ∧ Cl w' b3 29 [.int .i64 (p2_0), .int .i64 (p2_1)] ∧ Mp okIII ekIII kI w' b4 y2 ∧ Ow 1 encU 5 w' fp2 A3 cap3 l3 ∧ Cl w' b7 67 [.int .i64 (x1), .int .i64 (x2), .int .i64 (x3)] ∧ Chg [] w0 w' ∧ w0.heap.size ≤ w'.heap.size) hr2 (fun hst => ⟨0, rfl, Fr.of hst (by kernel_rfl), F8, F9, F10, F11, F12, F13, hB, hZ⟩) ?_
      rintro _ c2 a' w10 ⟨x7, rfl, hF2, F14, F15, F16, F17, F18, F19, hB, hZ⟩ hx2
      refine Fr.goOn hF2 (by kernel_rfl) ?_
      have hm := hx2
      unfold m_impl_CheapestWay_s4 at hm
      refine cW_seq ?_
      refine cW_region ?_
      refine wS_pure 1 [(48, .bool (decide (x7 < 4)))] (by kernel_rfl) ?_
      refine wS_end (by rfl) ?_
      refine eX_then ?_
      refine cW_seq ?_
      refine cW_cond (t := decide (x7 < 4)) (by kernel_rfl) (fun hb4 => ?_) (fun hb4 => ?_)
      ·have hm := condT hb4 hm
       refine cW_skip ?_
       refine eX_then ?_
       refine cW_seq ?_
       refine cW_block ?_
       refine cW_seq ?_
       refine cW_region ?_
       refine wS_pure 2 [(16, .int .i64 (x7)), (49, .int .i64 (x7))] (by kernel_rfl) ?_
       refine wS_end (by rfl) ?_
       refine eX_then ?_
       refine cW_seq ?_
       refine cW_region ?_
       refine wS_loadA (d := 51) (T := 67) (ad := ⟨b7, 0, none⟩) (vs := [.int .i64 (x1), .int .i64 (x2), .int .i64 (x3)]) (by kernel_rfl) vt67 (fun i u hu => box_cells F19 0 hu (by rfl)) ?_
       refine wS_pure 2 [(53, .int .i64 (p3)), (52, .int .i64 (x7))] (by kernel_rfl) ?_
       obtain ⟨y3, hy3, hm⟩ := bindE hm
       refine wS_calls (d := 54) (f := 36) (vs := [.pointer (some ⟨b1, 0, none⟩), .agg #[.int .i64 (x1), .int .i64 (x2), .int .i64 (x3)], .int .i64 (x7), .int .i64 (p3)]) (by kernel_rfl) ent36 (c_impl_Maze_after_bimplMaze hy3 F14 F15) ?_
       rintro _ w11 ⟨rfl, hc9⟩
       replace F14 := F14.chg hc9 Dj.nil
       replace F15 := F15.chg hc9 notNil
       replace F16 := F16.chg hc9 notNil
       replace F17 := F17.chg hc9 Dj.nil
       replace F18 := F18.chg hc9 Dj.nil
       replace F19 := F19.chg hc9 notNil
       replace hB := hB.inS hc9 inNil
       replace hZ := Nat.le_trans hZ hc9.size
       refine ⟨.tuple #[.agg #[.int .i64 (y3.1.1), .int .i64 (y3.1.2.1), .int .i64 (y3.1.2.2)], .int .i64 (y3.2.1), .bool (y3.2.2)], rfl, ?_⟩
       refine wS_pure 4 [(57, .bool (y3.2.2)), (56, .int .i64 (y3.2.1)), (55, .agg #[.int .i64 (y3.1.1), .int .i64 (y3.1.2.1), .int .i64 (y3.1.2.2)]), (50, .tuple #[.agg #[.int .i64 (y3.1.1), .int .i64 (y3.1.2.1), .int .i64 (y3.1.2.2)], .int .i64 (y3.2.1), .bool (y3.2.2)])] (by kernel_rfl) ?_
       refine wS_alloc (d := 17) (T := 67) (z := .agg #[.int .i64 (0), .int .i64 (0), .int .i64 (0)]) (by kernel_rfl) (by kernel_rfl) ?_
       intro b8 w12 G9 F20 hc10
       replace F20 : Cl w12 b8 67 [.int .i64 (0), .int .i64 (0), .int .i64 (0)] := F20
       have D23 : Dj [b1] [b8] := Dj.of (lt1 F15.lt) (low1 G9)
       have D24 : Dj [b3] [b8] := Dj.of (lt1 F16.lt) (low1 G9)
       have D25 : Dj [b4] [b8] := Dj.of F17.low (low1 G9)
       have D26 : Dj fp2 [b8] := Dj.of F18.low (low1 G9)
       have D27 : Dj [b7] [b8] := Dj.of (lt1 F19.lt) (low1 G9)
       replace F14 := F14.chg hc10 Dj.nil
       replace F15 := F15.chg hc10 notNil
       replace F16 := F16.chg hc10 notNil
       replace F17 := F17.chg hc10 Dj.nil
       replace F18 := F18.chg hc10 Dj.nil
       replace F19 := F19.chg hc10 notNil
       replace hB := hB.inS hc10 inNil
       replace G9 := Nat.le_trans hZ G9
       replace hZ := Nat.le_trans hZ hc10.size
       refine wS_store (T := 67) (g := b8) (o := 0) (ad := ⟨b8, 0, none⟩) (v := .agg #[.int .i64 (y3.1.1), .int .i64 (y3.1.2.1), .int .i64 (y3.1.2.2)]) (vs := [.int .i64 (y3.1.1), .int .i64 (y3.1.2.1), .int .i64 (y3.1.2.2)]) (by kernel_rfl) (by rfl) sz67 (by rfl) (by rfl) F20 (by simp only [List.length_cons, List.length_nil]; omega) ?_
       intro w13 F21 hc11
       replace F14 := F14.chg hc11 (Dj.of L0_0 (low1 G9))
       replace F15 := F15.chg hc11 (dj1 D23)
       replace F16 := F16.chg hc11 (dj1 D24)
       replace F17 := F17.chg hc11 D25
       replace F18 := F18.chg hc11 D26
       replace F19 := F19.chg hc11 (dj1 D27)
       replace hB := hB.inS hc11 (inLow (low1 G9))
       replace hZ := Nat.le_trans hZ hc11.size
       replace F21 : Cl w13 b8 67 [.int .i64 (y3.1.1), .int .i64 (y3.1.2.1), .int .i64 (y3.1.2.2)] := F21
       clear F20
       refine wS_pure 2 [(19, .bool (y3.2.2)), (18, .int .i64 (y3.2.1))] (by kernel_rfl) ?_
       refine wS_end (by rfl) ?_
       refine eX_then ?_
       refine cW_seq ?_
       refine cW_region ?_
       refine wS_pure 1 [(59, .map (some b4))] (by kernel_rfl) ?_
       refine wS_loadA (d := 60) (T := 67) (ad := ⟨b8, 0, none⟩) (vs := [.int .i64 (y3.1.1), .int .i64 (y3.1.2.1), .int .i64 (y3.1.2.2)]) (by kernel_rfl) vt67 (fun i u hu => box_cells F21 0 hu (by rfl)) ?_
       obtain ⟨_, hk2, hm⟩ := bindE hm
       refine wS_lookOk (k := (y3.1.1, y3.1.2.1, y3.1.2.2)) (d := 61) (T := 64) (by kernel_rfl) rfl mk64 mp64 F17 (mpE hk2) ?_
       refine wS_pure 5 [(21, .bool ((mget y2 ((y3.1.1, y3.1.2.1, y3.1.2.2))).isSome)), (20, .int .i64 ((mget y2 ((y3.1.1, y3.1.2.1, y3.1.2.2))).getD 0)), (63, .bool ((mget y2 ((y3.1.1, y3.1.2.1, y3.1.2.2))).isSome)), (62, .int .i64 ((mget y2 ((y3.1.1, y3.1.2.1, y3.1.2.2))).getD 0)), (58, .tuple #[.int .i64 ((mget y2 ((y3.1.1, y3.1.2.1, y3.1.2.2))).getD 0), .bool ((mget y2 ((y3.1.1, y3.1.2.1, y3.1.2.2))).isSome)])] (by kernel_rfl) ?_
       refine wS_end (by rfl) ?_
       refine eX_then ?_
       refine cW_prune [(3, .int .i64 (p3)), (4, .pointer (some ⟨b1, 0, none⟩)), (6, .pointer (some ⟨b3, 0, none⟩)), (11, .map (some b4)), (12, .int .i64 ((mget y2 ((p1_0, p1_1, 4))).getD 0)), (14, .slice A3 (l3).length cap3), (15, .pointer (some ⟨b7, 0, none⟩)), (16, .int .i64 (x7)), (17, .pointer (some ⟨b8, 0, none⟩)), (18, .int .i64 (y3.2.1)), (19, .bool (y3.2.2)), (20, .int .i64 ((mget y2 ((y3.1.1, y3.1.2.1, y3.1.2.2))).getD 0)), (21, .bool ((mget y2 ((y3.1.1, y3.1.2.1, y3.1.2.2))).isSome)), (47, .int .i64 (x7))] (by kernel_rfl) (by kernel_rfl) (fun a2 => ?_)
       refine cW_seq ?_
       refine cW_region ?_
       refine wS_pure 2 [(65, .bool (y3.2.2)), (64, .bool (y3.2.2))] (by kernel_rfl) ?_
       refine wS_bool y3.2.2 (fun hb5 => ?_) (fun hb5 => ?_)
       ·have hm := condT hb5 hm
        rewrite [hb5]
        refine wS_pure 3 [(68, .bool ((mget y2 ((y3.1.1, y3.1.2.1, y3.1.2.2))).isSome)), (67, .bool ((mget y2 ((y3.1.1, y3.1.2.1, y3.1.2.2))).isSome)), (66, .bool ((mget y2 ((y3.1.1, y3.1.2.1, y3.1.2.2))).isSome))] (by kernel_rfl) ?_
        refine wS_bool ((mget y2 ((y3.1.1, y3.1.2.1, y3.1.2.2))).isSome) (fun hb6 => ?_) (fun hb6 => ?_)
        ·have hm := condT hb6 hm
         rewrite [hb6]
         refine wS_pure 4 [(72, .map (some b4)), (71, .int .i64 (wr (y3.2.1 + ((mget y2 ((y3.1.1, y3.1.2.1, y3.1.2.2))).getD 0)))), (70, .int .i64 ((mget y2 ((y3.1.1, y3.1.2.1, y3.1.2.2))).getD 0)), (69, .int .i64 (y3.2.1))] (by kernel_rfl) ?_
         refine wS_loadA (d := 73) (T := 67) (ad := ⟨b7, 0, none⟩) (vs := [.int .i64 (x1), .int .i64 (x2), .int .i64 (x3)]) (by kernel_rfl) vt67 (fun i u hu => box_cells F19 0 hu (by rfl)) ?_
         obtain ⟨y4, hy4, hm⟩ := bindE hm
         refine wS_look (k := (x1, x2, x3)) (d := 74) (T := 64) (by kernel_rfl) mk64 mp64 F17 hy4 ?_
         refine wS_pure 2 [(76, .bool ((wr (y3.2.1 + ((mget y2 ((y3.1.1, y3.1.2.1, y3.1.2.2))).getD 0))) == y4)), (75, .bool ((wr (y3.2.1 + ((mget y2 ((y3.1.1, y3.1.2.1, y3.1.2.2))).getD 0))) == y4))] (by kernel_rfl) ?_
         refine wS_end (by rfl) ?_
         refine eX_then ?_
         refine cW_prune [(3, .int .i64 (p3)), (4, .pointer (some ⟨b1, 0, none⟩)), (6, .pointer (some ⟨b3, 0, none⟩)), (11, .map (some b4)), (12, .int .i64 ((mget y2 ((p1_0, p1_1, 4))).getD 0)), (14, .slice A3 (l3).length cap3), (15, .pointer (some ⟨b7, 0, none⟩)), (16, .int .i64 (x7)), (17, .pointer (some ⟨b8, 0, none⟩)), (47, .int .i64 (x7)), (76, .bool ((wr (y3.2.1 + ((mget y2 ((y3.1.1, y3.1.2.1, y3.1.2.2))).getD 0))) == y4))] (by kernel_rfl) (by kernel_rfl) (fun a3 => ?_)
         refine cW_cond (t := (wr (y3.2.1 + ((mget y2 ((y3.1.1, y3.1.2.1, y3.1.2.2))).getD 0))) == y4) (by kernel_rfl) (fun hb7 => ?_) (fun hb7 => ?_)
         ·have hm := condT hb7 hm
          refine cW_seq ?_
          refine cW_drawnTail fp2 7 (by kernel_rfl) (by kernel_rfl) (fun w14 hc12 => ?_)
          replace F14 := F14.chg hc12 Dj.nil
          replace F15 := F15.chg hc12 notNil
          replace F16 := F16.chg hc12 notNil
          replace F17 := F17.chg hc12 Dj.nil
          replace F18 := F18.chg hc12 Dj.nil
          replace F19 := F19.chg hc12 notNil
          replace F21 := F21.chg hc12 notNil
          replace hB := hB.inS hc12 inNil
          replace hZ := Nat.le_trans hZ hc12.size
          have hS := Chg.refl fp2 w14
          have Z1 := F14
          have Z2 := F15
          have Z3 := F16
          have Z4 := F17
          have Z5 := F18
          have Z6 := F19
          have Z7 := F21
          refine wH_take [0, 1] [1, 0] [(78, .int .i64 (x7)), (77, .slice A3 (l3).length cap3)] (by kernel_rfl) (qT (qT (qB (qT (qL (qB (qT (qB (qT (qL (qB (qT (qT qZ))))))))))))) (by kernel_rfl) ?_
          obtain ⟨x8, hx3, hm⟩ := bindE hm
          refine wH_sidx (i := 2) (d := 79) (T := 9) (s := ByteArray.mk #[100, 108, 114, 117]) (kd := .i64) (m := x7) (by kernel_rfl) (qT (qT (qB (qT (qL (qB (qT (qB (qT (qL (qB (qT (qT qZ))))))))))))) (by kernel_rfl) (by kernel_rfl) sty9 hx3 ?_
          refine wH_loadA (i := 5) (d := 82) (T := 67) (ad := ⟨b8, 0, none⟩) (vs := [.int .i64 (y3.1.1), .int .i64 (y3.1.2.1), .int .i64 (y3.1.2.2)]) (by kernel_rfl) (qT (qT (qB (qT (qL (qB (qT (qB (qT (qL (qB (qT (qT qZ))))))))))))) (by kernel_rfl) (by kernel_rfl) vt67 (fun W hW i u hu => box_cells (Z7.chg hW (dj1 (D26).symm)) 0 hu (by rfl)) ?_
          refine wH_all [3] (by rfl) (by kernel_rfl) (by simp) ⟨⟨by kernel_rfl, ?_⟩, trivial⟩
          refine wS_bs (enc := encU) ([x8] : List (Int)) [.int .u8 (x8)] (d := 80) (t := 22) (T := 5) (n := 1) (ps := [(0, .int .u8 (x8))]) (by kernel_rfl) el22 encU_ok (by rfl) (by omega) (by omega) (by kernel_rfl) (by rfl) ?_
          intro b9 w15 G10 F22 hc13
          have D28 : Dj [b1] [b9] := Dj.of (lt1 F15.lt) (low1 G10)
          have D29 : Dj [b3] [b9] := Dj.of (lt1 F16.lt) (low1 G10)
          have D30 : Dj [b4] [b9] := Dj.of F17.low (low1 G10)
          have D31 : Dj fp2 [b9] := Dj.of F18.low (low1 G10)
          have D32 : Dj [b7] [b9] := Dj.of (lt1 F19.lt) (low1 G10)
          have D33 : Dj [b8] [b9] := Dj.of (lt1 F21.lt) (low1 G10)
          replace F14 := F14.chg hc13 Dj.nil
          replace F15 := F15.chg hc13 notNil
          replace F16 := F16.chg hc13 notNil
          replace F17 := F17.chg hc13 Dj.nil
          replace F18 := F18.chg hc13 Dj.nil
          replace F19 := F19.chg hc13 notNil
          replace F21 := F21.chg hc13 notNil
          replace hB := hB.inS hc13 inNil
          have hSz := hS
          replace hS := hS.inS hc13 inNil
          have Gz1 := low1 (Nat.le_trans hSz.size G10)
          replace G10 := Nat.le_trans hZ G10
          replace G10 := low1 G10
          replace hZ := Nat.le_trans hZ hc13.size
          refine wS_end (by kernel_rfl) ?_
          refine eX_KH hS ?_
          refine wH_all [4] (by rfl) (by kernel_rfl) (by simp) ⟨⟨by kernel_rfl, ?_⟩, trivial⟩
          obtain ⟨_, hk3, hm⟩ := bindE hm
          replace hk3 := apE hk3
          refine wS_append (enc := encU) (l := (l3 : List (Int))) (l2 := (([x8] : List (Int)) : List (Int))) (d := 81) (t := 22) (T := 5) (A := A3) (A2 := (some ⟨b9, 0, none⟩)) (cap := cap3) (cap2 := 1) (by kernel_rfl) el22 encU_ok F18 (F22.sl encU_ok) (by rfl) hk3 ?_
          intro w16 fp4 A5 cap5 F23 hc14 hp1
          have G11 := low_ap G7 hZ hp1
          have D34 : Dj [b1] fp4 := Dj.ap D16 (lt1 F15.lt) hp1
          have D35 : Dj [b3] fp4 := Dj.ap D17 (lt1 F16.lt) hp1
          have D36 : Dj [b4] fp4 := Dj.ap D18 F17.low hp1
          have D37 : Dj [b7] fp4 := Dj.ap D19 (lt1 F19.lt) hp1
          have D38 : Dj [b8] fp4 := Dj.ap (D26).symm (lt1 F21.lt) hp1
          have D39 : Dj [b9] fp4 := Dj.ap (D31).symm F22.low hp1
          replace F14 := F14.chg hc14 (Dj.of L0_0 G7)
          replace F15 := F15.chg hc14 (dj1 D16)
          replace F16 := F16.chg hc14 (dj1 D17)
          replace F17 := F17.chg hc14 D18
          replace F19 := F19.chg hc14 (dj1 D19)
          replace F21 := F21.chg hc14 (dj1 (D26).symm)
          replace F22 := F22.chg hc14 (D31).symm
          replace hB := hB.inS hc14 (inLow G7)
          have hSz := hS
          replace hS := hS.trans hc14
          have Sn1 := sin_ap (Sg := fp2) (inMem (fun x hx => hx)) hSz.size hp1
          replace hZ := Nat.le_trans hZ hc14.size
          refine wS_end (by kernel_rfl) ?_
          refine eX_KH hS ?_
          refine wH_take [6] [6, 4, 3, 5, 2, 1, 0] [(14, .slice A5 (l3 ++ (([x8] : List (Int)))).length cap5)] (by kernel_rfl) (qT (qT (qB (qT (qL (qB (qT (qB (qT (qL (qB (qT (qT qZ))))))))))))) (by kernel_rfl) ?_
          refine wH_done (by kernel_rfl) ?_
          refine eX_tail ?_
          refine wS_store (T := 67) (g := b7) (o := 0) (ad := ⟨b7, 0, none⟩) (v := .agg #[.int .i64 (y3.1.1), .int .i64 (y3.1.2.1), .int .i64 (y3.1.2.2)]) (vs := [.int .i64 (y3.1.1), .int .i64 (y3.1.2.1), .int .i64 (y3.1.2.2)]) (by kernel_rfl) (by rfl) sz67 (by rfl) (by rfl) F19 (by simp only [List.length_cons, List.length_nil]; omega) ?_
          intro w17 F24 hc15
          replace F14 := F14.chg hc15 (Dj.of L0_0 (low1 G8))
          replace F15 := F15.chg hc15 (dj1 D20)
          replace F16 := F16.chg hc15 (dj1 D21)
          replace F17 := F17.chg hc15 D22
          replace F21 := F21.chg hc15 (dj1 (D27).symm)
          replace F22 := F22.chg hc15 (D32).symm
          replace F23 := F23.chg hc15 (D37).symm
          replace hB := hB.inS hc15 (inLow (low1 G8))
          replace hZ := Nat.le_trans hZ hc15.size
          replace F24 : Cl w17 b7 67 [.int .i64 (y3.1.1), .int .i64 (y3.1.2.1), .int .i64 (y3.1.2.2)] := F24
          clear F19
          refine wS_end (by rfl) ?_
          refine eX_then ?_
          refine cW_exit ?_
          refine eX_block_miss (by rfl) ?_
          refine eX_then_exit ?_
          have hq : (some (Ctl.out ((l3 ++ (([x8] : List (Int))), y3.1.1, y3.1.2.1, y3.1.2.2))) : Option (Ctl (Int) ((List (Int)) × Int × Int × Int))) = some _ := hm
          replace hq := someE hq
          subst hq
          refine eX_outX hx2 (fun hr3 => ?_)
          replace hr3 := hr3.symm
          subst hr3
          refine eX_block_hit ?_
          exact eX_J (fun hst => ⟨l3 ++ (([x8] : List (Int))), A5, cap5, fp4, y3.1.1, y3.1.2.1, y3.1.2.2, rfl, Fr.of hst (by kernel_rfl), F14, F15, F16, F17, F24, F23, G11, D34, D35, D36, D37, hB, hZ⟩)
         ·have hm := condF hb7 hm
          refine cW_skip ?_
          refine eX_block ?_
          refine eX_then ?_
          refine cW_region ?_
          refine wS_pure 2 [(47, .int .i64 (wr (x7 + 1))), (83, .int .i64 (wr (x7 + 1)))] (by kernel_rfl) ?_
          refine wS_end (by rfl) ?_
          have hq : (some (Ctl.next (wr (x7 + 1))) : Option (Ctl (Int) ((List (Int)) × Int × Int × Int))) = some _ := hm
          replace hq := someE hq
          subst hq
          exact eX_next hx2 (fun hst => ⟨wr (x7 + 1), rfl, Fr.of hst (by kernel_rfl), F14, F15, F16, F17, F18, F19, hB, hZ⟩)
        ·have hm := condF hb6 hm
         rewrite [hb6]
         refine wS_pure 8 [(76, .bool (false)), (75, undef), (74, undef), (73, undef), (72, undef), (71, undef), (70, undef), (69, undef)] (by kernel_rfl) ?_
         refine wS_end (by rfl) ?_
         refine eX_then ?_
         refine cW_prune [(3, .int .i64 (p3)), (4, .pointer (some ⟨b1, 0, none⟩)), (6, .pointer (some ⟨b3, 0, none⟩)), (11, .map (some b4)), (12, .int .i64 ((mget y2 ((p1_0, p1_1, 4))).getD 0)), (14, .slice A3 (l3).length cap3), (15, .pointer (some ⟨b7, 0, none⟩)), (16, .int .i64 (x7)), (17, .pointer (some ⟨b8, 0, none⟩)), (47, .int .i64 (x7)), (76, .bool (false))] (by kernel_rfl) (by kernel_rfl) (fun a4 => ?_)
         refine cW_cond_f (by kernel_rfl) ?_
         refine cW_skip ?_
         refine eX_block ?_
         refine eX_then ?_
         refine cW_region ?_
         refine wS_pure 2 [(47, .int .i64 (wr (x7 + 1))), (83, .int .i64 (wr (x7 + 1)))] (by kernel_rfl) ?_
         refine wS_end (by rfl) ?_
         have hq : (some (Ctl.next (wr (x7 + 1))) : Option (Ctl (Int) ((List (Int)) × Int × Int × Int))) = some _ := hm
         replace hq := someE hq
         subst hq
         exact eX_next hx2 (fun hst => ⟨wr (x7 + 1), rfl, Fr.of hst (by kernel_rfl), F14, F15, F16, F17, F18, F19, hB, hZ⟩)
       ·have hm := condF hb5 hm
        rewrite [hb5]
        refine wS_pure 11 [(76, .bool (false)), (75, undef), (74, undef), (73, undef), (72, undef), (71, undef), (70, undef), (69, undef), (68, .bool (false)), (67, .bool (false)), (66, undef)] (by kernel_rfl) ?_
        refine wS_end (by rfl) ?_
        refine eX_then ?_
        refine cW_prune [(3, .int .i64 (p3)), (4, .pointer (some ⟨b1, 0, none⟩)), (6, .pointer (some ⟨b3, 0, none⟩)), (11, .map (some b4)), (12, .int .i64 ((mget y2 ((p1_0, p1_1, 4))).getD 0)), (14, .slice A3 (l3).length cap3), (15, .pointer (some ⟨b7, 0, none⟩)), (16, .int .i64 (x7)), (17, .pointer (some ⟨b8, 0, none⟩)), (47, .int .i64 (x7)), (76, .bool (false))] (by kernel_rfl) (by kernel_rfl) (fun a5 => ?_)
        refine cW_cond_f (by kernel_rfl) ?_
        refine cW_skip ?_
        refine eX_block ?_
        refine eX_then ?_
        refine cW_region ?_
        refine wS_pure 2 [(47, .int .i64 (wr (x7 + 1))), (83, .int .i64 (wr (x7 + 1)))] (by kernel_rfl) ?_
        refine wS_end (by rfl) ?_
        have hq : (some (Ctl.next (wr (x7 + 1))) : Option (Ctl (Int) ((List (Int)) × Int × Int × Int))) = some _ := hm
        replace hq := someE hq
        subst hq
        exact eX_next hx2 (fun hst => ⟨wr (x7 + 1), rfl, Fr.of hst (by kernel_rfl), F14, F15, F16, F17, F18, F19, hB, hZ⟩)
      ·have hm := condF hb4 hm
       refine cW_exit ?_
       refine eX_then_exit ?_
       have hq : (some (Ctl.out ((l3, x1, x2, x3))) : Option (Ctl (Int) ((List (Int)) × Int × Int × Int))) = some _ := hm
       replace hq := someE hq
       subst hq
       refine eX_outX hx2 (fun hr4 => ?_)
       replace hr4 := hr4.symm
       subst hr4
       refine eX_block_hit ?_
       exact eX_J (fun hst => ⟨l3, A3, cap3, fp2, x1, x2, x3, rfl, Fr.of hst (by kernel_rfl), F14, F15, F16, F17, F19, F18, G7, D16, D17, D18, D19, hB, hZ⟩)
     ·rintro a' w18 ⟨l4, A4, cap4, fp3, x4, x5, x6, hJ, hF3, F25, F26, F27, F28, F29, F30, G12, D40, D41, D42, D43, hB, hZ⟩
      subst hJ
      refine Fr.goX hF3 (by kernel_rfl) ?_
      refine eX_block ?_
      refine eX_then ?_
      refine cW_seq ?_
      refine cW_region ?_
      refine wS_loadA (d := 84) (T := 67) (ad := ⟨b7, 0, none⟩) (vs := [.int .i64 (x4), .int .i64 (x5), .int .i64 (x6)]) (by kernel_rfl) vt67 (fun i u hu => box_cells F29 0 hu (by rfl)) ?_
      refine wS_end (by rfl) ?_
      refine eX_then ?_
      refine cW_region ?_
      refine wS_alloc (d := 15) (T := 67) (z := .agg #[.int .i64 (0), .int .i64 (0), .int .i64 (0)]) (by kernel_rfl) (by kernel_rfl) ?_
      intro b10 w19 G13 F31 hc16
      replace F31 : Cl w19 b10 67 [.int .i64 (0), .int .i64 (0), .int .i64 (0)] := F31
      have D44 : Dj [b1] [b10] := Dj.of (lt1 F26.lt) (low1 G13)
      have D45 : Dj [b3] [b10] := Dj.of (lt1 F27.lt) (low1 G13)
      have D46 : Dj [b4] [b10] := Dj.of F28.low (low1 G13)
      have D47 : Dj [b7] [b10] := Dj.of (lt1 F29.lt) (low1 G13)
      have D48 : Dj fp3 [b10] := Dj.of F30.low (low1 G13)
      replace F25 := F25.chg hc16 Dj.nil
      replace F26 := F26.chg hc16 notNil
      replace F27 := F27.chg hc16 notNil
      replace F28 := F28.chg hc16 Dj.nil
      replace F29 := F29.chg hc16 notNil
      replace F30 := F30.chg hc16 Dj.nil
      replace hB := hB.inS hc16 inNil
      replace G13 := Nat.le_trans hZ G13
      replace hZ := Nat.le_trans hZ hc16.size
      refine wS_store (T := 67) (g := b10) (o := 0) (ad := ⟨b10, 0, none⟩) (v := .agg #[.int .i64 (x4), .int .i64 (x5), .int .i64 (x6)]) (vs := [.int .i64 (x4), .int .i64 (x5), .int .i64 (x6)]) (by kernel_rfl) (by rfl) sz67 (by rfl) (by rfl) F31 (by simp only [List.length_cons, List.length_nil]; omega) ?_
      intro w20 F32 hc17
      replace F25 := F25.chg hc17 (Dj.of L0_0 (low1 G13))
      replace F26 := F26.chg hc17 (dj1 D44)
      replace F27 := F27.chg hc17 (dj1 D45)
      replace F28 := F28.chg hc17 D46
      replace F29 := F29.chg hc17 (dj1 D47)
      replace F30 := F30.chg hc17 D48
      replace hB := hB.inS hc17 (inLow (low1 G13))
      replace hZ := Nat.le_trans hZ hc17.size
      replace F32 : Cl w20 b10 67 [.int .i64 (x4), .int .i64 (x5), .int .i64 (x6)] := F32
      clear F31
      refine wS_end (by rfl) ?_
      have hq : (some (Ctl.next ((l4, x4, x5, x6))) : Option (Ctl ((List (Int)) × Int × Int × Int) ((List (Int))))) = some _ := hm
      replace hq := someE hq
      subst hq
      exact eX_next hx1 (fun hst => ⟨l4, A4, cap4, fp3, b10, x4, x5, x6, rfl, Fr.of hst (by kernel_rfl), F25, F26, F27, F28, F30, F32, G12, G13, D40, D41, D42, (D48).symm, D44, D45, D46, hB, hZ⟩)
    ·have hm := condF hb3 hm
     refine cW_exit ?_
     refine eX_then_exit ?_
     have hq : (some (Ctl.out l3) : Option (Ctl ((List (Int)) × Int × Int × Int) ((List (Int))))) = some _ := hm
     replace hq := someE hq
     subst hq
     refine eX_outX hx1 (fun hr5 => ?_)
     replace hr5 := hr5.symm
     subst hr5
     refine eX_block_hit ?_
     exact eX_J (fun hst => ⟨l3, A3, cap3, fp2, rfl, Fr.of hst (by kernel_rfl), F12, G7, hB, hZ⟩)
   ·rintro a' w21 ⟨l1, A1, cap1, fp1, hJ, hF4, F33, G14, hB, hZ⟩
    subst hJ
    refine Fr.goX hF4 (by kernel_rfl) ?_
    refine eX_then ?_
    refine cW_seq ?_
    refine cW_region ?_
    refine wS_pure 1 [(85, .slice A1 (l1).length cap1)] (by kernel_rfl) ?_
    refine wS_str (l := (l1 : List (Int))) (d := 86) (s := 22) (t := 9) (A := A1) (cap := cap1) (by kernel_rfl) st22_9 (F33.sl encU_ok) ?_
    refine wS_pure 4 [(10, .bool (true)), (9, .int .i64 ((mget y2 ((p1_0, p1_1, 4))).getD 0)), (8, .string (bstr (l1 : List (Int)))), (87, .int .i64 ((mget y2 ((p1_0, p1_1, 4))).getD 0))] (by kernel_rfl) ?_
    refine wS_end (by rfl) ?_
    refine eX_then ?_
    refine cW_ret ?_
    have hq : (some ((bstr (l1 : List (Int)), (mget y2 ((p1_0, p1_1, 4))).getD 0, true)) : Option ((ByteArray) × (Int) × (Bool))) = some _ := hm
    replace hq := someE hq
    subst hq
    refine eX_ret (vs := [.string (bstr (l1 : List (Int))), .int .i64 ((mget y2 ((p1_0, p1_1, 4))).getD 0), .bool (true)]) [.tmp 8, .tmp 9, .tmp 10] (by rfl) ⟨by (show lkE _ _ _ = _); kernel_rfl, ⟨by (show lkE _ _ _ = _); kernel_rfl, ⟨by (show lkE _ _ _ = _); kernel_rfl, trivial⟩⟩⟩ ?_
    exact ⟨rfl, hB⟩

set_option maxRecDepth 100000 in
/-- laws.FnBlocked -/
theorem c_laws_FnBlocked {w0 : World} {l0 : List (Int)} {A0 : Option Addr} {cap0 : Nat} {fp0 : List Nat} {l1 : List (Int)} {A1 : Option Addr} {cap1 : Nat} {fp1 : List Nat} {r : (Bool)} (hm : m_laws_FnBlocked l0 l1 = some r) (F0 : Sl 1 encU w0 fp0 A0 l0) (F1 : Sl 1 encU w0 fp1 A1 l1) :
  Calls Try.prog 3 #[.slice A0 (l0).length cap0, .slice A1 (l1).length cap1] w0 fun e w' => e = .returned (.bool (r)) ∧ Chg [] w0 w' := by
 have L0 := F0.low
 have L1 := F1.low
 have hB : Chg [] w0 w0 := Chg.refl _ _
 have hZ := Nat.le_refl w0.heap.size
 unfold m_laws_FnBlocked at hm
 refine enterE (N := 154) Try.func3 (by rfl) Try.ntmps3 (by simp) [(0, .slice A0 (l0).length cap0), (1, .slice A1 (l1).length cap1)] (by rfl) (by kernel_rfl) (fun a => ?_)
 refine cW_seq ?_
 refine cW_region ?_
 refine wS_pure 1 [(4, .bool (false))] (by kernel_rfl) ?_
 refine wS_end (by rfl) ?_
 refine eX_then ?_
 refine cW_seq ?_
 refine cW_seq ?_
 refine cW_region ?_
 refine wS_pure 2 [(23, .slice A1 (l1).length cap1), (22, .slice A0 (l0).length cap0)] (by kernel_rfl) ?_
 obtain ⟨y1, hy1, hm⟩ := bindE hm
 refine wS_calls (d := 24) (f := 6) (vs := [.slice A0 (l0).length cap0, .slice A1 (l1).length cap1]) (by kernel_rfl) ent6 (c_laws_r8Long hy1 F0 F1) ?_
 rintro _ w1 ⟨rfl, hc1⟩
 replace F0 := F0.chg hc1 Dj.nil
 replace F1 := F1.chg hc1 Dj.nil
 replace hB := hB.inS hc1 inNil
 replace hZ := Nat.le_trans hZ hc1.size
 refine ⟨.bool (y1), rfl, ?_⟩
 refine wS_end (by rfl) ?_
 refine eX_then ?_
 refine cW_cond (t := y1) (by kernel_rfl) (fun hb1 => ?_) (fun hb1 => ?_)
 ·have hm := condT hb1 hm
  refine cW_seq ?_
  refine cW_region ?_
  refine wS_pure 1 [(4, .bool (true))] (by kernel_rfl) ?_
  refine wS_end (by rfl) ?_
  refine eX_then ?_
  refine cW_ret ?_
  refine eX_then_ret ?_
  have hq : (some true : Option ((Bool))) = some _ := hm
  replace hq := someE hq
  subst hq
  refine eX_ret (vs := [.bool (true)]) [.tmp 4] (by rfl) ⟨by (show lkE _ _ _ = _); kernel_rfl, trivial⟩ ?_
  exact ⟨rfl, hB⟩
 ·have hm := condF hb1 hm
  refine cW_skip ?_
  refine eX_then ?_
  refine cW_seq ?_
  refine cW_region ?_
  refine wS_pure 1 [(25, .slice A0 (l0).length cap0)] (by kernel_rfl) ?_
  obtain ⟨y2, hy2, hm⟩ := bindE hm
  refine wS_calls (d := 26) (f := 7) (vs := [.slice A0 (l0).length cap0]) (by kernel_rfl) ent7 (c_spec_R8Maze hy2 F0) ?_
  rintro _ w3 ⟨A3, cap3, fp2, fr1, rfl, F2, G1, hc3⟩
  replace F0 := F0.chg hc3 Dj.nil
  replace F1 := F1.chg hc3 Dj.nil
  replace hB := hB.inS hc3 inNil
  replace G1 := low_le hZ G1
  replace hZ := Nat.le_trans hZ hc3.size
  refine ⟨.agg #[.slice A3 (y2).length cap3], rfl, ?_⟩
  refine wS_alloc (d := 5) (T := 26) (z := .agg #[.slice none 0 0]) (by kernel_rfl) (by kernel_rfl) ?_
  intro b1 w4 G2 F3 hc4
  replace F3 : Cl w4 b1 26 [.slice none 0 0] := F3
  have D1 : Dj (fp2 ++ fr1) [b1] := Dj.of F2.low (low1 G2)
  replace F0 := F0.chg hc4 Dj.nil
  replace F1 := F1.chg hc4 Dj.nil
  replace F2 := F2.chg hc4 Dj.nil
  replace hB := hB.inS hc4 inNil
  replace G2 := Nat.le_trans hZ G2
  replace hZ := Nat.le_trans hZ hc4.size
  refine wS_store (T := 26) (g := b1) (o := 0) (ad := ⟨b1, 0, none⟩) (v := .agg #[.slice A3 (y2).length cap3]) (vs := [.slice A3 (y2).length cap3]) (by kernel_rfl) (by rfl) sz26 (by rfl) (by rfl) F3 (by simp only [List.length_cons, List.length_nil]; omega) ?_
  intro w5 F4 hc5
  replace F0 := F0.chg hc5 (Dj.of L0 (low1 G2))
  replace F1 := F1.chg hc5 (Dj.of L1 (low1 G2))
  replace F2 := F2.chg hc5 D1
  replace hB := hB.inS hc5 (inLow (low1 G2))
  replace hZ := Nat.le_trans hZ hc5.size
  replace F4 : Cl w5 b1 26 [.slice A3 (y2).length cap3] := F4
  clear F3
  refine wS_end (by rfl) ?_
  refine eX_then ?_
  refine cW_seq ?_
  refine cW_region ?_
  refine wS_pure 1 [(27, .slice A0 (l0).length cap0)] (by kernel_rfl) ?_
  refine wS_loadA (d := 28) (T := 26) (ad := ⟨b1, 0, none⟩) (vs := [.slice A3 (y2).length cap3]) (by kernel_rfl) vt26 (fun i u hu => box_cells F4 0 hu (by rfl)) ?_
  obtain ⟨y3, hy3, hm⟩ := bindE hm
  refine wS_calls (d := 29) (f := 8) (vs := [.slice A0 (l0).length cap0, .agg #[.slice A3 (y2).length cap3]]) (by kernel_rfl) ent8 (c_spec_R8Open hy3 F0 (F2.slr encI_ok)) ?_
  rintro _ w6 ⟨rfl, hc6⟩
  replace F0 := F0.chg hc6 Dj.nil
  replace F1 := F1.chg hc6 Dj.nil
  replace F2 := F2.chg hc6 Dj.nil
  replace F4 := F4.chg hc6 notNil
  replace hB := hB.inS hc6 inNil
  replace hZ := Nat.le_trans hZ hc6.size
  refine ⟨.agg #[.int .i64 (y3.1), .int .i64 (y3.2)], rfl, ?_⟩
  refine wS_alloc (d := 6) (T := 29) (z := .agg #[.int .i64 (0), .int .i64 (0)]) (by kernel_rfl) (by kernel_rfl) ?_
  intro b2 w7 G3 F5 hc7
  replace F5 : Cl w7 b2 29 [.int .i64 (0), .int .i64 (0)] := F5
  have D2 : Dj (fp2 ++ fr1) [b2] := Dj.of F2.low (low1 G3)
  have D3 : Dj [b1] [b2] := Dj.of (lt1 F4.lt) (low1 G3)
  replace F0 := F0.chg hc7 Dj.nil
  replace F1 := F1.chg hc7 Dj.nil
  replace F2 := F2.chg hc7 Dj.nil
  replace F4 := F4.chg hc7 notNil
  replace hB := hB.inS hc7 inNil
  replace G3 := Nat.le_trans hZ G3
  replace hZ := Nat.le_trans hZ hc7.size
  refine wS_store (T := 29) (g := b2) (o := 0) (ad := ⟨b2, 0, none⟩) (v := .agg #[.int .i64 (y3.1), .int .i64 (y3.2)]) (vs := [.int .i64 (y3.1), .int .i64 (y3.2)]) (by kernel_rfl) (by rfl) sz29 (by rfl) (by rfl) F5 (by simp only [List.length_cons, List.length_nil]; omega) ?_
  intro w8 F6 hc8
  replace F0 := F0.chg hc8 (Dj.of L0 (low1 G3))
  replace F1 := F1.chg hc8 (Dj.of L1 (low1 G3))
  replace F2 := F2.chg hc8 D2
  replace F4 := F4.chg hc8 (dj1 D3)
  replace hB := hB.inS hc8 (inLow (low1 G3))
  replace hZ := Nat.le_trans hZ hc8.size
  replace F6 : Cl w8 b2 29 [.int .i64 (y3.1), .int .i64 (y3.2)] := F6
  clear F5
  refine wS_end (by rfl) ?_
  refine eX_then ?_
  refine cW_seq ?_
  refine cW_region ?_
  refine wS_pure 1 [(30, .slice A1 (l1).length cap1)] (by kernel_rfl) ?_
  refine wS_loadA (d := 31) (T := 26) (ad := ⟨b1, 0, none⟩) (vs := [.slice A3 (y2).length cap3]) (by kernel_rfl) vt26 (fun i u hu => box_cells F4 0 hu (by rfl)) ?_
  obtain ⟨y4, hy4, hm⟩ := bindE hm
  refine wS_calls (d := 32) (f := 8) (vs := [.slice A1 (l1).length cap1, .agg #[.slice A3 (y2).length cap3]]) (by kernel_rfl) ent8 (c_spec_R8Open hy4 F1 (F2.slr encI_ok)) ?_
  rintro _ w9 ⟨rfl, hc9⟩
  replace F0 := F0.chg hc9 Dj.nil
  replace F1 := F1.chg hc9 Dj.nil
  replace F2 := F2.chg hc9 Dj.nil
  replace F4 := F4.chg hc9 notNil
  replace F6 := F6.chg hc9 notNil
  replace hB := hB.inS hc9 inNil
  replace hZ := Nat.le_trans hZ hc9.size
  refine ⟨.agg #[.int .i64 (y4.1), .int .i64 (y4.2)], rfl, ?_⟩
  refine wS_alloc (d := 7) (T := 29) (z := .agg #[.int .i64 (0), .int .i64 (0)]) (by kernel_rfl) (by kernel_rfl) ?_
  intro b3 w10 G4 F7 hc10
  replace F7 : Cl w10 b3 29 [.int .i64 (0), .int .i64 (0)] := F7
  have D4 : Dj (fp2 ++ fr1) [b3] := Dj.of F2.low (low1 G4)
  have D5 : Dj [b1] [b3] := Dj.of (lt1 F4.lt) (low1 G4)
  have D6 : Dj [b2] [b3] := Dj.of (lt1 F6.lt) (low1 G4)
  replace F0 := F0.chg hc10 Dj.nil
  replace F1 := F1.chg hc10 Dj.nil
  replace F2 := F2.chg hc10 Dj.nil
  replace F4 := F4.chg hc10 notNil
  replace F6 := F6.chg hc10 notNil
  replace hB := hB.inS hc10 inNil
  replace G4 := Nat.le_trans hZ G4
  replace hZ := Nat.le_trans hZ hc10.size
  refine wS_store (T := 29) (g := b3) (o := 0) (ad := ⟨b3, 0, none⟩) (v := .agg #[.int .i64 (y4.1), .int .i64 (y4.2)]) (vs := [.int .i64 (y4.1), .int .i64 (y4.2)]) (by kernel_rfl) (by rfl) sz29 (by rfl) (by rfl) F7 (by simp only [List.length_cons, List.length_nil]; omega) ?_
  intro w11 F8 hc11
  replace F0 := F0.chg hc11 (Dj.of L0 (low1 G4))
  replace F1 := F1.chg hc11 (Dj.of L1 (low1 G4))
  replace F2 := F2.chg hc11 D4
  replace F4 := F4.chg hc11 (dj1 D5)
  replace F6 := F6.chg hc11 (dj1 D6)
  replace hB := hB.inS hc11 (inLow (low1 G4))
  replace hZ := Nat.le_trans hZ hc11.size
  replace F8 : Cl w11 b3 29 [.int .i64 (y4.1), .int .i64 (y4.2)] := F8
  clear F7
  refine wS_end (by rfl) ?_
  refine eX_then ?_
  refine cW_seq ?_
  refine cW_region ?_
  refine wS_loadA (d := 34) (T := 26) (ad := ⟨b1, 0, none⟩) (vs := [.slice A3 (y2).length cap3]) (by kernel_rfl) vt26 (fun i u hu => box_cells F4 0 hu (by rfl)) ?_
  refine wS_loadA (d := 35) (T := 29) (ad := ⟨b2, 0, none⟩) (vs := [.int .i64 (y3.1), .int .i64 (y3.2)]) (by kernel_rfl) vt29 (fun i u hu => box_cells F6 0 hu (by rfl)) ?_
  refine wS_loadA (d := 36) (T := 29) (ad := ⟨b3, 0, none⟩) (vs := [.int .i64 (y4.1), .int .i64 (y4.2)]) (by kernel_rfl) vt29 (fun i u hu => box_cells F8 0 hu (by rfl)) ?_
  obtain ⟨y5, hy5, hm⟩ := bindE hm
  refine wS_calls (d := 37) (f := 9) (vs := [.agg #[.slice A3 (y2).length cap3], .agg #[.int .i64 (y3.1), .int .i64 (y3.2)], .agg #[.int .i64 (y4.1), .int .i64 (y4.2)]]) (by kernel_rfl) ent9 (c_impl_FewestBlocks hy5 (F2.slr encI_ok)) ?_
  rintro _ w12 ⟨A4, cap4, fp3, rfl, F9, G5, hc12⟩
  have D7 : Dj (fp2 ++ fr1) fp3 := Dj.of F2.low G5
  have D8 : Dj [b1] fp3 := Dj.of (lt1 F4.lt) G5
  have D9 : Dj [b2] fp3 := Dj.of (lt1 F6.lt) G5
  have D10 : Dj [b3] fp3 := Dj.of (lt1 F8.lt) G5
  replace F0 := F0.chg hc12 Dj.nil
  replace F1 := F1.chg hc12 Dj.nil
  replace F2 := F2.chg hc12 Dj.nil
  replace F4 := F4.chg hc12 notNil
  replace F6 := F6.chg hc12 notNil
  replace F8 := F8.chg hc12 notNil
  replace hB := hB.inS hc12 inNil
  replace G5 := low_le hZ G5
  replace hZ := Nat.le_trans hZ hc12.size
  refine ⟨.tuple #[.slice A4 (y5.1).length cap4, .bool (y5.2)], rfl, ?_⟩
  refine wS_pure 5 [(9, .bool (y5.2)), (8, .slice A4 (y5.1).length cap4), (39, .bool (y5.2)), (38, .slice A4 (y5.1).length cap4), (33, .tuple #[.slice A4 (y5.1).length cap4, .bool (y5.2)])] (by kernel_rfl) ?_
  refine wS_end (by rfl) ?_
  refine eX_then ?_
  refine cW_prune [(5, .pointer (some ⟨b1, 0, none⟩)), (6, .pointer (some ⟨b2, 0, none⟩)), (7, .pointer (some ⟨b3, 0, none⟩)), (8, .slice A4 (y5.1).length cap4), (9, .bool (y5.2))] (by kernel_rfl) (by kernel_rfl) (fun a1 => ?_)
  refine cW_seq ?_
  refine cW_region ?_
  refine wS_loadA (d := 41) (T := 26) (ad := ⟨b1, 0, none⟩) (vs := [.slice A3 (y2).length cap3]) (by kernel_rfl) vt26 (fun i u hu => box_cells F4 0 hu (by rfl)) ?_
  refine wS_loadA (d := 42) (T := 29) (ad := ⟨b2, 0, none⟩) (vs := [.int .i64 (y3.1), .int .i64 (y3.2)]) (by kernel_rfl) vt29 (fun i u hu => box_cells F6 0 hu (by rfl)) ?_
  refine wS_loadA (d := 43) (T := 29) (ad := ⟨b3, 0, none⟩) (vs := [.int .i64 (y4.1), .int .i64 (y4.2)]) (by kernel_rfl) vt29 (fun i u hu => box_cells F8 0 hu (by rfl)) ?_
  obtain ⟨y6, hy6, hm⟩ := bindE hm
  refine wS_calls (d := 44) (f := 10) (vs := [.agg #[.slice A3 (y2).length cap3], .agg #[.int .i64 (y3.1), .int .i64 (y3.2)], .agg #[.int .i64 (y4.1), .int .i64 (y4.2)]]) (by kernel_rfl) ent10 (c_impl_MostApart hy6 (F2.slr encI_ok)) ?_
  rintro _ w13 ⟨rfl, hc13⟩
  replace F0 := F0.chg hc13 Dj.nil
  replace F1 := F1.chg hc13 Dj.nil
  replace F2 := F2.chg hc13 Dj.nil
  replace F4 := F4.chg hc13 notNil
  replace F6 := F6.chg hc13 notNil
  replace F8 := F8.chg hc13 notNil
  replace F9 := F9.chg hc13 Dj.nil
  replace hB := hB.inS hc13 inNil
  replace hZ := Nat.le_trans hZ hc13.size
  refine ⟨.tuple #[.int .i64 (y6.1), .bool (y6.2)], rfl, ?_⟩
  refine wS_pure 5 [(11, .bool (y6.2)), (10, .int .i64 (y6.1)), (46, .bool (y6.2)), (45, .int .i64 (y6.1)), (40, .tuple #[.int .i64 (y6.1), .bool (y6.2)])] (by kernel_rfl) ?_
  refine wS_end (by rfl) ?_
  refine eX_then ?_
  refine cW_seq ?_
  refine cW_region ?_
  refine wS_loadA (d := 48) (T := 29) (ad := ⟨b2, 0, none⟩) (vs := [.int .i64 (y3.1), .int .i64 (y3.2)]) (by kernel_rfl) vt29 (fun i u hu => box_cells F6 0 hu (by rfl)) ?_
  refine wS_loadA (d := 49) (T := 29) (ad := ⟨b3, 0, none⟩) (vs := [.int .i64 (y4.1), .int .i64 (y4.2)]) (by kernel_rfl) vt29 (fun i u hu => box_cells F8 0 hu (by rfl)) ?_
  obtain ⟨y7, hy7, hm⟩ := bindE hm
  refine wS_calls (d := 50) (f := 11) (vs := [.agg #[.int .i64 (y3.1), .int .i64 (y3.2)], .agg #[.int .i64 (y4.1), .int .i64 (y4.2)]]) (by kernel_rfl) ent11 (c_impl_DistanceOf hy7) ?_
  rintro _ w14 ⟨rfl, hc14⟩
  replace F0 := F0.chg hc14 Dj.nil
  replace F1 := F1.chg hc14 Dj.nil
  replace F2 := F2.chg hc14 Dj.nil
  replace F4 := F4.chg hc14 notNil
  replace F6 := F6.chg hc14 notNil
  replace F8 := F8.chg hc14 notNil
  replace F9 := F9.chg hc14 Dj.nil
  replace hB := hB.inS hc14 inNil
  replace hZ := Nat.le_trans hZ hc14.size
  refine ⟨.tuple #[.int .i64 (y7.1), .bool (y7.2)], rfl, ?_⟩
  refine wS_pure 5 [(13, .bool (y7.2)), (12, .int .i64 (y7.1)), (52, .bool (y7.2)), (51, .int .i64 (y7.1)), (47, .tuple #[.int .i64 (y7.1), .bool (y7.2)])] (by kernel_rfl) ?_
  refine wS_end (by rfl) ?_
  refine eX_then ?_
  refine cW_seq ?_
  refine cW_seq ?_
  refine cW_region ?_
  refine wS_pure 3 [(55, .bool (!y7.2)), (54, .bool (!y7.2)), (53, .bool (y7.2))] (by kernel_rfl) ?_
  refine wS_bool (!y7.2) (fun hb2 => ?_) (fun hb2 => ?_)
  ·have hm := condT hb2 hm
   rewrite [hb2]
   refine wS_pure 10 [(65, .bool (true)), (64, undef), (63, undef), (62, undef), (61, .bool (true)), (60, .bool (true)), (59, undef), (58, undef), (57, undef), (56, undef)] (by kernel_rfl) ?_
   refine wS_end (by rfl) ?_
   refine eX_then ?_
   refine cW_prune [(5, .pointer (some ⟨b1, 0, none⟩)), (6, .pointer (some ⟨b2, 0, none⟩)), (7, .pointer (some ⟨b3, 0, none⟩)), (8, .slice A4 (y5.1).length cap4), (9, .bool (y5.2)), (10, .int .i64 (y6.1)), (65, .bool (true))] (by kernel_rfl) (by kernel_rfl) (fun a2 => ?_)
   refine cW_cond_t (by kernel_rfl) ?_
   refine cW_seq ?_
   refine cW_region ?_
   refine wS_pure 1 [(4, .bool (false))] (by kernel_rfl) ?_
   refine wS_end (by rfl) ?_
   refine eX_then ?_
   refine cW_ret ?_
   refine eX_then_ret ?_
   have hq : (some false : Option ((Bool))) = some _ := hm
   replace hq := someE hq
   subst hq
   refine eX_ret (vs := [.bool (false)]) [.tmp 4] (by rfl) ⟨by (show lkE _ _ _ = _); kernel_rfl, trivial⟩ ?_
   exact ⟨rfl, hB⟩
  ·have hm := condF hb2 hm
   rewrite [hb2]
   refine wS_pure 6 [(61, .bool (!(y5.2 == (decide (y7.1 > 1))))), (60, .bool (!(y5.2 == (decide (y7.1 > 1))))), (59, .bool (!(y5.2 == (decide (y7.1 > 1))))), (58, .bool (decide (y7.1 > 1))), (57, .int .i64 (y7.1)), (56, .bool (y5.2))] (by kernel_rfl) ?_
   refine wS_bool (!(y5.2 == (decide (y7.1 > 1)))) (fun hb3 => ?_) (fun hb3 => ?_)
   ·have hm := condT hb3 hm
    rewrite [hb3]
    refine wS_pure 4 [(65, .bool (true)), (64, undef), (63, undef), (62, undef)] (by kernel_rfl) ?_
    refine wS_end (by rfl) ?_
    refine eX_then ?_
    refine cW_prune [(5, .pointer (some ⟨b1, 0, none⟩)), (6, .pointer (some ⟨b2, 0, none⟩)), (7, .pointer (some ⟨b3, 0, none⟩)), (8, .slice A4 (y5.1).length cap4), (9, .bool (y5.2)), (10, .int .i64 (y6.1)), (65, .bool (true))] (by kernel_rfl) (by kernel_rfl) (fun a3 => ?_)
    refine cW_cond_t (by kernel_rfl) ?_
    refine cW_seq ?_
    refine cW_region ?_
    refine wS_pure 1 [(4, .bool (false))] (by kernel_rfl) ?_
    refine wS_end (by rfl) ?_
    refine eX_then ?_
    refine cW_ret ?_
    refine eX_then_ret ?_
    have hq : (some false : Option ((Bool))) = some _ := hm
    replace hq := someE hq
    subst hq
    refine eX_ret (vs := [.bool (false)]) [.tmp 4] (by rfl) ⟨by (show lkE _ _ _ = _); kernel_rfl, trivial⟩ ?_
    exact ⟨rfl, hB⟩
   ·have hm := condF hb3 hm
    rewrite [hb3]
    refine wS_pure 4 [(65, .bool (!(y6.2 == y5.2))), (64, .bool (!(y6.2 == y5.2))), (63, .bool (y5.2)), (62, .bool (y6.2))] (by kernel_rfl) ?_
    refine wS_end (by rfl) ?_
    refine eX_then ?_
    refine cW_prune [(5, .pointer (some ⟨b1, 0, none⟩)), (6, .pointer (some ⟨b2, 0, none⟩)), (7, .pointer (some ⟨b3, 0, none⟩)), (8, .slice A4 (y5.1).length cap4), (9, .bool (y5.2)), (10, .int .i64 (y6.1)), (65, .bool (!(y6.2 == y5.2)))] (by kernel_rfl) (by kernel_rfl) (fun a4 => ?_)
    refine cW_cond (t := !(y6.2 == y5.2)) (by kernel_rfl) (fun hb4 => ?_) (fun hb4 => ?_)
    ·have hm := condT hb4 hm
     refine cW_seq ?_
     refine cW_region ?_
     refine wS_pure 1 [(4, .bool (false))] (by kernel_rfl) ?_
     refine wS_end (by rfl) ?_
     refine eX_then ?_
     refine cW_ret ?_
     refine eX_then_ret ?_
     have hq : (some false : Option ((Bool))) = some _ := hm
     replace hq := someE hq
     subst hq
     refine eX_ret (vs := [.bool (false)]) [.tmp 4] (by rfl) ⟨by (show lkE _ _ _ = _); kernel_rfl, trivial⟩ ?_
     exact ⟨rfl, hB⟩
    ·have hm := condF hb4 hm
     refine cW_skip ?_
     refine eX_then ?_
     refine cW_seq ?_
     refine cW_seq ?_
     refine cW_region ?_
     refine wS_pure 2 [(67, .bool (!y5.2)), (66, .bool (y5.2))] (by kernel_rfl) ?_
     refine wS_end (by rfl) ?_
     refine eX_then ?_
     refine cW_cond (t := !y5.2) (by kernel_rfl) (fun hb5 => ?_) (fun hb5 => ?_)
     ·have hm := condT hb5 hm
      refine cW_seq ?_
      refine cW_region ?_
      refine wS_loadA (d := 68) (T := 26) (ad := ⟨b1, 0, none⟩) (vs := [.slice A3 (y2).length cap3]) (by kernel_rfl) vt26 (fun i u hu => box_cells F4 0 hu (by rfl)) ?_
      refine wS_loadA (d := 69) (T := 29) (ad := ⟨b2, 0, none⟩) (vs := [.int .i64 (y3.1), .int .i64 (y3.2)]) (by kernel_rfl) vt29 (fun i u hu => box_cells F6 0 hu (by rfl)) ?_
      obtain ⟨y8, hy8, hm⟩ := bindE hm
      refine wS_calls (d := 70) (f := 12) (vs := [.agg #[.slice A3 (y2).length cap3], .agg #[.int .i64 (y3.1), .int .i64 (y3.2)]]) (by kernel_rfl) ent12 (c_impl_IsOpen hy8 (F2.slr encI_ok)) ?_
      rintro _ w15 ⟨rfl, hc15⟩
      replace F0 := F0.chg hc15 Dj.nil
      replace F1 := F1.chg hc15 Dj.nil
      replace F2 := F2.chg hc15 Dj.nil
      replace F4 := F4.chg hc15 notNil
      replace F6 := F6.chg hc15 notNil
      replace F8 := F8.chg hc15 notNil
      replace F9 := F9.chg hc15 Dj.nil
      replace hB := hB.inS hc15 inNil
      replace hZ := Nat.le_trans hZ hc15.size
      refine ⟨.bool (y8), rfl, ?_⟩
      refine wS_pure 1 [(4, .bool (y8))] (by kernel_rfl) ?_
      refine wS_end (by rfl) ?_
      refine eX_then ?_
      refine cW_ret ?_
      refine eX_then_ret ?_
      have hq : (some y8 : Option ((Bool))) = some _ := hm
      replace hq := someE hq
      subst hq
      refine eX_ret (vs := [.bool (y8)]) [.tmp 4] (by rfl) ⟨by (show lkE _ _ _ = _); kernel_rfl, trivial⟩ ?_
      exact ⟨rfl, hB⟩
     ·have hm := condF hb5 hm
      refine cW_skip ?_
      refine eX_then ?_
      refine cW_seq ?_
      refine cW_seq ?_
      refine cW_region ?_
      refine wS_pure 5 [(75, .bool ((((y5.1).length : Int)) != y6.1)), (74, .bool ((((y5.1).length : Int)) != y6.1)), (73, .int .i64 (y6.1)), (72, .int .i64 (((y5.1).length : Int))), (71, .slice A4 (y5.1).length cap4)] (by kernel_rfl) ?_
      refine wS_bool ((((y5.1).length : Int)) != y6.1) (fun hb6 => ?_) (fun hb6 => ?_)
      ·have hm := condT hb6 hm
       rewrite [hb6]
       refine wS_pure 3 [(78, .bool (true)), (77, undef), (76, undef)] (by kernel_rfl) ?_
       refine wS_end (by rfl) ?_
       refine eX_then ?_
       refine cW_cond_t (by kernel_rfl) ?_
       refine cW_seq ?_
       refine cW_region ?_
       refine wS_pure 1 [(4, .bool (false))] (by kernel_rfl) ?_
       refine wS_end (by rfl) ?_
       refine eX_then ?_
       refine cW_ret ?_
       refine eX_then_ret ?_
       have hq : (some false : Option ((Bool))) = some _ := hm
       replace hq := someE hq
       subst hq
       refine eX_ret (vs := [.bool (false)]) [.tmp 4] (by rfl) ⟨by (show lkE _ _ _ = _); kernel_rfl, trivial⟩ ?_
       exact ⟨rfl, hB⟩
      ·have hm := condF hb6 hm
       rewrite [hb6]
       refine wS_pure 3 [(78, .bool (decide (y6.1 > 4))), (77, .bool (decide (y6.1 > 4))), (76, .int .i64 (y6.1))] (by kernel_rfl) ?_
       refine wS_end (by rfl) ?_
       refine eX_then ?_
       refine cW_cond (t := decide (y6.1 > 4)) (by kernel_rfl) (fun hb7 => ?_) (fun hb7 => ?_)
       ·have hm := condT hb7 hm
        refine cW_seq ?_
        refine cW_region ?_
        refine wS_pure 1 [(4, .bool (false))] (by kernel_rfl) ?_
        refine wS_end (by rfl) ?_
        refine eX_then ?_
        refine cW_ret ?_
        refine eX_then_ret ?_
        have hq : (some false : Option ((Bool))) = some _ := hm
        replace hq := someE hq
        subst hq
        refine eX_ret (vs := [.bool (false)]) [.tmp 4] (by rfl) ⟨by (show lkE _ _ _ = _); kernel_rfl, trivial⟩ ?_
        exact ⟨rfl, hB⟩
       ·have hm := condF hb7 hm
        refine cW_skip ?_
        refine eX_then ?_
        refine cW_seq ?_
        refine cW_seq ?_
        refine cW_region ?_
        refine wS_pure 1 [(14, .int .i64 ((-1)))] (by kernel_rfl) ?_
        refine wS_end (by rfl) ?_
        refine eX_then ?_
        obtain ⟨r1, hr1, hm⟩ := bindE hm
        have hm1 := hm
        refine cW_cut (fun a' w' => Sum.inl (()) = r1 ∧ Fr 154 [] a' ∧ Chg [] w0 w' ∧ w0.heap.size ≤ w'.heap.size) ?_ ?_
        ·refine cW_block ?_
         refine cW_loop _ (fun (s1 : Int) a' w' => ∃ x1 : Int, x1 = s1 ∧ Fr 154 [(5, .pointer (some ⟨b1, 0, none⟩)), (6, .pointer (some ⟨b2, 0, none⟩)), (7, .pointer (some ⟨b3, 0, none⟩)), (8, .slice A4 (y5.1).length cap4), (14, .int .i64 (x1))] a' ∧ OwR 1 encI 38 2 w' fp2 fr1 A3 cap3 y2 ∧ Cl w' b1 26 [.slice A3 (y2).length cap3] ∧ Cl w' b2 29 [.int .i64 (y3.1), .int .i64 (y3.2)] ∧ Cl w' b3 29 [.int .i64 (y4.1), .int .i64 (y4.2)] ∧ Ow 2 encII 29 w' fp3 A4 cap4 y5.1 ∧ Chg [] w0 w' ∧ w0.heap.size ≤ w'.heap.size) hr1 (fun hst => ⟨(-1), rfl, Fr.of hst (by kernel_rfl), F2, F4, F6, F8, F9, hB, hZ⟩) ?_
         rintro _ c1 a' w16 ⟨x1, rfl, hF1, F10, F11, F12, F13, F14, hB, hZ⟩ hx1
         refine Fr.goOn hF1 (by kernel_rfl) ?_
         have hm := hx1
         unfold m_laws_FnBlocked_s5 at hm
         refine cW_seq ?_
         refine cW_seq ?_
         refine cW_region ?_
         refine wS_pure 4 [(82, .bool (decide (x1 < (((y5.1).length : Int))))), (81, .int .i64 (((y5.1).length : Int))), (80, .slice A4 (y5.1).length cap4), (79, .int .i64 (x1))] (by kernel_rfl) ?_
         refine wS_end (by rfl) ?_
         refine eX_then ?_
         refine cW_cond (t := decide (x1 < (((y5.1).length : Int)))) (by kernel_rfl) (fun hb8 => ?_) (fun hb8 => ?_)
         ·have hm := condT hb8 hm
          refine cW_skip ?_
          refine eX_then ?_
          refine cW_seq ?_
          refine cW_block ?_
          refine cW_seq ?_
          refine cW_region ?_
          refine wS_rows0 (k := 1) (enc := encI) (d := 85) (t := 24) (T := 38) (T2 := 2) (by kernel_rfl) el24 ?_
          intro b4 w17 G6 F15 hc16
          have D11 : Dj (fp2 ++ fr1) ([b4] ++ []) := Dj.of F10.low (lowApp (low1 G6) lowNil)
          have D12 : Dj [b1] ([b4] ++ []) := Dj.of (lt1 F11.lt) (lowApp (low1 G6) lowNil)
          have D13 : Dj [b2] ([b4] ++ []) := Dj.of (lt1 F12.lt) (lowApp (low1 G6) lowNil)
          have D14 : Dj [b3] ([b4] ++ []) := Dj.of (lt1 F13.lt) (lowApp (low1 G6) lowNil)
          have D15 : Dj fp3 ([b4] ++ []) := Dj.of F14.low (lowApp (low1 G6) lowNil)
          replace F10 := F10.chg hc16 Dj.nil
          replace F11 := F11.chg hc16 notNil
          replace F12 := F12.chg hc16 notNil
          replace F13 := F13.chg hc16 notNil
          replace F14 := F14.chg hc16 Dj.nil
          replace hB := hB.inS hc16 inNil
          replace G6 := Nat.le_trans hZ G6
          replace G6 := low1 G6
          replace hZ := Nat.le_trans hZ hc16.size
          replace G6 := lowApp G6 lowNil
          refine wS_pure 1 [(86, .agg #[.slice (some ⟨b4, 0, none⟩) (([] : List (List (Int)))).length 0])] (by kernel_rfl) ?_
          refine wS_alloc (d := 15) (T := 26) (z := .agg #[.slice none 0 0]) (by kernel_rfl) (by kernel_rfl) ?_
          intro b5 w18 G7 F16 hc17
          replace F16 : Cl w18 b5 26 [.slice none 0 0] := F16
          have D16 : Dj (fp2 ++ fr1) [b5] := Dj.of F10.low (low1 G7)
          have D17 : Dj [b1] [b5] := Dj.of (lt1 F11.lt) (low1 G7)
          have D18 : Dj [b2] [b5] := Dj.of (lt1 F12.lt) (low1 G7)
          have D19 : Dj [b3] [b5] := Dj.of (lt1 F13.lt) (low1 G7)
          have D20 : Dj fp3 [b5] := Dj.of F14.low (low1 G7)
          have D21 : Dj ([b4] ++ []) [b5] := Dj.of F15.low (low1 G7)
          replace F10 := F10.chg hc17 Dj.nil
          replace F11 := F11.chg hc17 notNil
          replace F12 := F12.chg hc17 notNil
          replace F13 := F13.chg hc17 notNil
          replace F14 := F14.chg hc17 Dj.nil
          replace F15 := F15.chg hc17 Dj.nil
          replace hB := hB.inS hc17 inNil
          replace G7 := Nat.le_trans hZ G7
          replace hZ := Nat.le_trans hZ hc17.size
          refine wS_store (T := 26) (g := b5) (o := 0) (ad := ⟨b5, 0, none⟩) (v := .agg #[.slice (some ⟨b4, 0, none⟩) (([] : List (List (Int)))).length 0]) (vs := [.slice (some ⟨b4, 0, none⟩) (([] : List (List (Int)))).length 0]) (by kernel_rfl) (by rfl) sz26 (by rfl) (by rfl) F16 (by simp only [List.length_cons, List.length_nil]; omega) ?_
          intro w19 F17 hc18
          replace F10 := F10.chg hc18 D16
          replace F11 := F11.chg hc18 (dj1 D17)
          replace F12 := F12.chg hc18 (dj1 D18)
          replace F13 := F13.chg hc18 (dj1 D19)
          replace F14 := F14.chg hc18 D20
          replace F15 := F15.chg hc18 D21
          replace hB := hB.inS hc18 (inLow (low1 G7))
          replace hZ := Nat.le_trans hZ hc18.size
          replace F17 : Cl w19 b5 26 [.slice (some ⟨b4, 0, none⟩) (([] : List (List (Int)))).length 0] := F17
          clear F16
          refine wS_end (by rfl) ?_
          refine eX_then ?_
          refine cW_seq ?_
          refine cW_seq ?_
          refine cW_region ?_
          refine wS_pure 1 [(16, .int .i64 (0))] (by kernel_rfl) ?_
          refine wS_end (by rfl) ?_
          refine eX_then ?_
          obtain ⟨r2, hr2, hm⟩ := bindE hm
          have hm2 := hm
          refine cW_cut (fun a' w' => ∃ l3 : List (List (Int)), ∃ A5 : Option Addr, ∃ cap5 : Nat, ∃ fp4 : List Nat, ∃ fr2 : List Nat, l3 = r2 ∧ Fr 154 [(5, .pointer (some ⟨b1, 0, none⟩)), (6, .pointer (some ⟨b2, 0, none⟩)), (7, .pointer (some ⟨b3, 0, none⟩)), (8, .slice A4 (y5.1).length cap4), (14, .int .i64 (x1)), (15, .pointer (some ⟨b5, 0, none⟩))] a' ∧ OwR 1 encI 38 2 w' fp2 fr1 A3 cap3 y2 ∧ Cl w' b1 26 [.slice A3 (y2).length cap3] ∧ Cl w' b2 29 [.int .i64 (y3.1), .int .i64 (y3.2)] ∧ Cl w' b3 29 [.int .i64 (y4.1), .int .i64 (y4.2)] ∧ Ow 2 encII 29 w' fp3 A4 cap4 y5.1 ∧ Cl w' b5 26 [.slice A5 (l3).length cap5] ∧ OwR 1 encI 38 2 w' fp4 fr2 A5 cap5 l3 ∧ (∀ x ∈ (fp4 ++ fr2), w0.heap.size ≤ x) ∧ Dj (fp2 ++ fr1) (fp4 ++ fr2) ∧ Dj [b1] (fp4 ++ fr2) ∧ Dj [b2] (fp4 ++ fr2) ∧ Dj [b3] (fp4 ++ fr2) ∧ Dj fp3 (fp4 ++ fr2) ∧ Dj [b5] (fp4 ++ fr2) ∧ Chg [] w0 w' ∧ w0.heap.size ≤ w'.heap.size) ?_ ?_
          ·refine cW_block ?_
           refine cW_loop _ (fun (s2 : Int × (List (List (Int)))) a' w' => ∃ x2 : Int, ∃ l4 : List (List (Int)), ∃ A6 : Option Addr, ∃ cap6 : Nat, ∃ fp5 : List Nat, ∃ fr3 : List Nat, (x2, l4) = s2 ∧ Fr 154 [(5, .pointer (some ⟨b1, 0, none⟩)), (6, .pointer (some ⟨b2, 0, none⟩)), (7, .pointer (some ⟨b3, 0, none⟩)), (8, .slice A4 (y5.1).length cap4), (14, .int .i64 (x1)), (15, .pointer (some ⟨b5, 0, none⟩)), (16, .int .i64 (x2))] a' ∧ OwR 1 encI 38 2 w' fp2 fr1 A3 cap3 y2 ∧ Cl w' b1 26 [.slice A3 (y2).length cap3] ∧ Cl w' b2 29 [.int .i64 (y3.1), .int .i64 (y3.2)] ∧ Cl w' b3 29 [.int .i64 (y4.1), .int .i64 (y4.2)] ∧ Ow 2 encII 29 w' fp3 A4 cap4 y5.1 ∧ Cl w' b5 26 [.slice A6 (l4).length cap6] ∧ OwR 1 encI 38 2 w' fp5 fr3 A6 cap6 l4 ∧ (∀ x ∈ (fp5 ++ fr3), w0.heap.size ≤ x) ∧ Dj (fp2 ++ fr1) (fp5 ++ fr3) ∧ Dj [b1] (fp5 ++ fr3) ∧ Dj [b2] (fp5 ++ fr3) ∧ Dj [b3] (fp5 ++ fr3) ∧ Dj fp3 (fp5 ++ fr3) ∧ Dj [b5] (fp5 ++ fr3) ∧ Chg [] w0 w' ∧ w0.heap.size ≤ w'.heap.size) hr2 (fun hst => ⟨0, ([] : List (List (Int))), (some ⟨b4, 0, none⟩), 0, [b4], [], rfl, Fr.of hst (by kernel_rfl), F10, F11, F12, F13, F14, F17, F15, G6, D11, D12, D13, D14, D15, (D21).symm, hB, hZ⟩) ?_
           rintro _ c2 a' w20 ⟨x2, l4, A6, cap6, fp5, fr3, rfl, hF2, F18, F19, F20, F21, F22, F23, F24, G8, D22, D23, D24, D25, D26, D27, hB, hZ⟩ hx2
           refine Fr.goOn hF2 (by kernel_rfl) ?_
           have hm := hx2
           unfold m_laws_FnBlocked_s6 at hm
           refine cW_seq ?_
           refine cW_seq ?_
           refine cW_region ?_
           refine wS_pure 2 [(88, .pointer (some ⟨b1, 0, none⟩)), (87, .int .i64 (x2))] (by kernel_rfl) ?_
           refine wS_load1 (d := 89) (T := 24) (ad := ⟨b1, 0, none⟩) (v := .slice A3 (y2).length cap3) (by kernel_rfl) vt24 ((F19).cell 0) ?_
           refine wS_pure 2 [(91, .bool (decide (x2 < (((y2).length : Int))))), (90, .int .i64 (((y2).length : Int)))] (by kernel_rfl) ?_
           refine wS_end (by rfl) ?_
           refine eX_then ?_
           refine cW_cond (t := decide (x2 < (((y2).length : Int)))) (by kernel_rfl) (fun hb9 => ?_) (fun hb9 => ?_)
           ·have hm := condT hb9 hm
            refine cW_skip ?_
            refine eX_then ?_
            refine cW_seq ?_
            refine cW_block ?_
            refine cW_drawnTail [] 10 (by kernel_rfl) (by kernel_rfl) (fun w21 hc19 => ?_)
            replace F18 := F18.chg hc19 Dj.nil
            replace F19 := F19.chg hc19 notNil
            replace F20 := F20.chg hc19 notNil
            replace F21 := F21.chg hc19 notNil
            replace F22 := F22.chg hc19 Dj.nil
            replace F23 := F23.chg hc19 notNil
            replace F24 := F24.chg hc19 Dj.nil
            replace hB := hB.inS hc19 inNil
            replace hZ := Nat.le_trans hZ hc19.size
            have hS := Chg.refl [] w21
            have Z1 := F18
            have Z2 := F19
            have Z3 := F20
            have Z4 := F21
            have Z5 := F22
            have Z6 := F23
            have Z7 := F24
            refine wH_take [0] [0] [(94, .pointer (some ⟨b5, 0, none⟩))] (by kernel_rfl) (qT (qB (qT (qL (qB (qT (qT (qB (qT (qL (qB (qT (qT qZ))))))))))))) (by kernel_rfl) ?_
            refine wH_load1 (i := 1) (d := 95) (T := 24) (ad := ⟨b5, 0, none⟩) (v := .slice A6 (l4).length cap6) (by kernel_rfl) (qT (qB (qT (qL (qB (qT (qT (qB (qT (qL (qB (qT (qT qZ))))))))))))) (by kernel_rfl) (by kernel_rfl) vt24 (fun W hW => (Z6.chg hW notNil).cell 0) ?_
            refine wH_take [3] [3, 1, 0] [(97, .pointer (some ⟨b1, 0, none⟩))] (by kernel_rfl) (qT (qB (qT (qL (qB (qT (qT (qB (qT (qL (qB (qT (qT qZ))))))))))))) (by kernel_rfl) ?_
            refine wH_load1 (i := 4) (d := 98) (T := 24) (ad := ⟨b1, 0, none⟩) (v := .slice A3 (y2).length cap3) (by kernel_rfl) (qT (qB (qT (qL (qB (qT (qT (qB (qT (qL (qB (qT (qT qZ))))))))))))) (by kernel_rfl) (by kernel_rfl) vt24 (fun W hW => (Z2.chg hW notNil).cell 0) ?_
            refine wH_take [5] [5, 4, 3, 1, 0] [(99, .int .i64 (x2))] (by kernel_rfl) (qT (qB (qT (qL (qB (qT (qT (qB (qT (qL (qB (qT (qT qZ))))))))))))) (by kernel_rfl) ?_
            obtain ⟨x3, hx3, hm⟩ := bindE hm
            refine wH_idx (i := 6) (d := 100) (T := 24) (A := A3) (n := (y2).length) (cap := cap3) (kd := .i64) (m := x2) (by kernel_rfl) (qT (qB (qT (qL (qB (qT (qT (qB (qT (qL (qB (qT (qT qZ))))))))))))) (by kernel_rfl) (by kernel_rfl) sl24 ((F18.slr encI_ok).is hx3) ?_
            obtain ⟨A7, cap7, fp6, hc20, hsub1, F25, hcl1⟩ := OwR.lend Z1 hx3
            have G9 := low_inr G1
            have Dm1 := (F18.dj).symm
            refine wH_load1 (i := 7) (d := 101) (T := 38) (ad := (elA A3 1 (x2) 0)) (v := .slice A7 (x3).length cap7) (by kernel_rfl) (qT (qB (qT (qL (qB (qT (qT (qB (qT (qL (qB (qT (qT qZ))))))))))))) (by kernel_rfl) (by kernel_rfl) vt38 (fun W hW => hW.keep hc20) ?_
            refine wH_all [2] (by rfl) (by kernel_rfl) (by simp) ⟨⟨by kernel_rfl, ?_⟩, trivial⟩
            refine wS_bs0 (α := Int) (enc := encI) (d := 96) (t := 38) (T := 2) (by kernel_rfl) el38 ?_
            intro b6 w22 G10 F26 hc21
            have D28 : Dj (fp2 ++ fr1) [b6] := Dj.of F18.low (low1 G10)
            have D29 : Dj [b1] [b6] := Dj.of (lt1 F19.lt) (low1 G10)
            have D30 : Dj [b2] [b6] := Dj.of (lt1 F20.lt) (low1 G10)
            have D31 : Dj [b3] [b6] := Dj.of (lt1 F21.lt) (low1 G10)
            have D32 : Dj fp3 [b6] := Dj.of F22.low (low1 G10)
            have D33 : Dj [b5] [b6] := Dj.of (lt1 F23.lt) (low1 G10)
            have D34 : Dj (fp5 ++ fr3) [b6] := Dj.of F24.low (low1 G10)
            replace F18 := F18.chg hc21 Dj.nil
            replace F19 := F19.chg hc21 notNil
            replace F20 := F20.chg hc21 notNil
            replace F21 := F21.chg hc21 notNil
            replace F22 := F22.chg hc21 Dj.nil
            replace F23 := F23.chg hc21 notNil
            replace F24 := F24.chg hc21 Dj.nil
            replace F25 := F25.chg hc21 Dj.nil
            replace hcl1 := fun w2 l2 hc2 hO hl => hcl1 w2 l2 ((hc21.more (fun x hx => nomatch hx)).trans hc2) hO hl
            replace hB := hB.inS hc21 inNil
            have hSz := hS
            replace hS := hS.inS hc21 inNil
            have Gz1 := low1 (Nat.le_trans hSz.size G10)
            replace G10 := Nat.le_trans hZ G10
            replace G10 := low1 G10
            replace hZ := Nat.le_trans hZ hc21.size
            refine wS_end (by kernel_rfl) ?_
            refine eX_KH hS ?_
            refine wH_all [8] (by rfl) (by kernel_rfl) (by simp) ⟨⟨by kernel_rfl, ?_⟩, trivial⟩
            obtain ⟨_, hk1, hm⟩ := bindE hm
            replace hk1 := apE hk1
            refine wS_appendAny (enc := encI) (l := (([] : List (Int)) : List (Int))) (l2 := (x3 : List (Int))) (d := 102) (t := 38) (T := 2) (A := (some ⟨b6, 0, none⟩)) (A2 := A7) (cap := 0) (cap2 := cap7) (by kernel_rfl) el38 encI_ok F26 (F25.sl encI_ok) hk1 ?_
            intro w23 fp7 A8 cap8 F27 hc22 hp1
            have G11 := low_ap G10 hZ hp1
            have D35 : Dj (fp2 ++ fr1) fp7 := Dj.ap D28 F18.low hp1
            have D36 : Dj [b1] fp7 := Dj.ap D29 (lt1 F19.lt) hp1
            have D37 : Dj [b2] fp7 := Dj.ap D30 (lt1 F20.lt) hp1
            have D38 : Dj [b3] fp7 := Dj.ap D31 (lt1 F21.lt) hp1
            have D39 : Dj fp3 fp7 := Dj.ap D32 F22.low hp1
            have D40 : Dj [b5] fp7 := Dj.ap D33 (lt1 F23.lt) hp1
            have D41 : Dj (fp5 ++ fr3) fp7 := Dj.ap D34 F24.low hp1
            replace F18 := F18.chg hc22 D28
            replace F19 := F19.chg hc22 (dj1 D29)
            replace F20 := F20.chg hc22 (dj1 D30)
            replace F21 := F21.chg hc22 (dj1 D31)
            replace F22 := F22.chg hc22 D32
            replace F23 := F23.chg hc22 (dj1 D33)
            replace F24 := F24.chg hc22 D34
            replace hB := hB.inS hc22 (inLow G10)
            have hSz := hS
            replace hS := hS.inS hc22 (inLow Gz1)
            have Sn1 := sin_ap (Sg := []) (inLow Gz1) hSz.size hp1
            replace hZ := Nat.le_trans hZ hc22.size
            refine wS_end (by kernel_rfl) ?_
            refine eX_KH hS ?_
            refine wH_all [9] (by rfl) (by kernel_rfl) (by simp) ⟨⟨by kernel_rfl, ?_⟩, trivial⟩
            refine wS_row1 (k := 1) (enc := encI) (l := (([] : List (Int))) ++ x3) (d := 103) (t := 24) (T := 38) (B := A8) (c := cap8) (by kernel_rfl) el24 F27 ?_
            intro b7 w24 G12 F28 hc23
            have D42 : Dj (fp2 ++ fr1) ([b7] ++ fp7) := Dj.app (Dj.of F18.low (low1 G12)) D35
            have D43 : Dj [b1] ([b7] ++ fp7) := Dj.app (Dj.of (lt1 F19.lt) (low1 G12)) D36
            have D44 : Dj [b2] ([b7] ++ fp7) := Dj.app (Dj.of (lt1 F20.lt) (low1 G12)) D37
            have D45 : Dj [b3] ([b7] ++ fp7) := Dj.app (Dj.of (lt1 F21.lt) (low1 G12)) D38
            have D46 : Dj fp3 ([b7] ++ fp7) := Dj.app (Dj.of F22.low (low1 G12)) D39
            have D47 : Dj [b5] ([b7] ++ fp7) := Dj.app (Dj.of (lt1 F23.lt) (low1 G12)) D40
            have D48 : Dj (fp5 ++ fr3) ([b7] ++ fp7) := Dj.app (Dj.of F24.low (low1 G12)) D41
            replace F18 := F18.chg hc23 Dj.nil
            replace F19 := F19.chg hc23 notNil
            replace F20 := F20.chg hc23 notNil
            replace F21 := F21.chg hc23 notNil
            replace F22 := F22.chg hc23 Dj.nil
            replace F23 := F23.chg hc23 notNil
            replace F24 := F24.chg hc23 Dj.nil
            replace F27 := F27.chg hc23 Dj.nil
            replace hB := hB.inS hc23 inNil
            have hSz := hS
            replace hS := hS.inS hc23 inNil
            replace G12 := Nat.le_trans hZ G12
            replace G12 := lowApp (low1 G12) G11
            replace hZ := Nat.le_trans hZ hc23.size
            replace F27 := (F27.sl encI_ok)
            refine wS_end (by kernel_rfl) ?_
            refine eX_KH hS ?_
            refine wH_done (by kernel_rfl) ?_
            refine eX_tail ?_
            obtain ⟨_, hk2, hm⟩ := bindE hm
            replace hk2 := apE hk2
            refine wS_appendR (k := 1) (enc := encI) (ll := (l4 : List (List (Int)))) (ll2 := (([(([] : List (Int))) ++ x3] : List (List (Int))) : List (List (Int)))) (d := 104) (t := 24) (T := 38) (A := A6) (A2 := (some ⟨b7, 0, none⟩)) (cap := cap6) (cap2 := 1) (by kernel_rfl) el24 F24 F28 (by rfl) D48 hk2 ?_
            intro w25 fp8 A9 cap9 F29 hc24 hp2
            have G13 := lowApp (low_ap (low_inl G8) hZ hp2) (lowApp (low_inr G8) (low_inr G12))
            have D49 : Dj (fp2 ++ fr1) (fp8 ++ (fr3 ++ fp7)) := Dj.app (Dj.ap (Dj.inl D22) F18.low hp2) (Dj.app (Dj.inr D22) (Dj.inr D42))
            have D50 : Dj [b1] (fp8 ++ (fr3 ++ fp7)) := Dj.app (Dj.ap (Dj.inl D23) (lt1 F19.lt) hp2) (Dj.app (Dj.inr D23) (Dj.inr D43))
            have D51 : Dj [b2] (fp8 ++ (fr3 ++ fp7)) := Dj.app (Dj.ap (Dj.inl D24) (lt1 F20.lt) hp2) (Dj.app (Dj.inr D24) (Dj.inr D44))
            have D52 : Dj [b3] (fp8 ++ (fr3 ++ fp7)) := Dj.app (Dj.ap (Dj.inl D25) (lt1 F21.lt) hp2) (Dj.app (Dj.inr D25) (Dj.inr D45))
            have D53 : Dj fp3 (fp8 ++ (fr3 ++ fp7)) := Dj.app (Dj.ap (Dj.inl D26) F22.low hp2) (Dj.app (Dj.inr D26) (Dj.inr D46))
            have D54 : Dj [b5] (fp8 ++ (fr3 ++ fp7)) := Dj.app (Dj.ap (Dj.inl D27) (lt1 F23.lt) hp2) (Dj.app (Dj.inr D27) (Dj.inr D47))
            replace F18 := F18.chg hc24 (Dj.inl D22)
            replace F19 := F19.chg hc24 (dj1 (Dj.inl D23))
            replace F20 := F20.chg hc24 (dj1 (Dj.inl D24))
            replace F21 := F21.chg hc24 (dj1 (Dj.inl D25))
            replace F22 := F22.chg hc24 (Dj.inl D26)
            replace F23 := F23.chg hc24 (dj1 (Dj.inl D27))
            replace hB := hB.inS hc24 (memS_inl (inLow G8))
            replace hZ := Nat.le_trans hZ hc24.size
            refine wS_pure 1 [(105, .pointer (some ⟨b5, 0, none⟩))] (by kernel_rfl) ?_
            refine wS_store (T := 24) (g := b5) (o := 0) (ad := ⟨b5, 0, none⟩) (v := .slice A9 (l4 ++ (([(([] : List (Int))) ++ x3] : List (List (Int))))).length cap9) (vs := [.slice A9 (l4 ++ (([(([] : List (Int))) ++ x3] : List (List (Int))))).length cap9]) (by kernel_rfl) (by rfl) sz24 (by rfl) (by rfl) F23 (by simp only [List.length_cons, List.length_nil]; omega) ?_
            intro w26 F30 hc25
            replace F18 := F18.chg hc25 D16
            replace F19 := F19.chg hc25 (dj1 D17)
            replace F20 := F20.chg hc25 (dj1 D18)
            replace F21 := F21.chg hc25 (dj1 D19)
            replace F22 := F22.chg hc25 D20
            replace F29 := F29.chg hc25 (D54).symm
            replace hB := hB.inS hc25 (inLow (low1 G7))
            replace hZ := Nat.le_trans hZ hc25.size
            replace F30 : Cl w26 b5 26 [.slice A9 (l4 ++ (([(([] : List (Int))) ++ x3] : List (List (Int))))).length cap9] := F30
            clear F23
            refine wS_end (by rfl) ?_
            refine eX_block ?_
            refine eX_then ?_
            refine cW_prune [(5, .pointer (some ⟨b1, 0, none⟩)), (6, .pointer (some ⟨b2, 0, none⟩)), (7, .pointer (some ⟨b3, 0, none⟩)), (8, .slice A4 (y5.1).length cap4), (14, .int .i64 (x1)), (15, .pointer (some ⟨b5, 0, none⟩)), (16, .int .i64 (x2))] (by kernel_rfl) (by kernel_rfl) (fun a5 => ?_)
            refine cW_region ?_
            refine wS_pure 3 [(16, .int .i64 (wr (x2 + 1))), (93, .int .i64 (wr (x2 + 1))), (92, .int .i64 (x2))] (by kernel_rfl) ?_
            refine wS_end (by rfl) ?_
            have hq : (some (Ctl.next ((wr (x2 + 1), l4 ++ (([(([] : List (Int))) ++ x3] : List (List (Int))))))) : Option (Ctl (Int × (List (List (Int)))) ((List (List (Int)))))) = some _ := hm
            replace hq := someE hq
            subst hq
            exact eX_next hx2 (fun hst => ⟨wr (x2 + 1), l4 ++ (([(([] : List (Int))) ++ x3] : List (List (Int)))), A9, cap9, fp8, (fr3 ++ fp7), rfl, Fr.of hst (by kernel_rfl), F18, F19, F20, F21, F22, F30, F29, G13, D49, D50, D51, D52, D53, D54, hB, hZ⟩)
           ·have hm := condF hb9 hm
            refine cW_exit ?_
            refine eX_then_exit ?_
            have hq : (some (Ctl.out l4) : Option (Ctl (Int × (List (List (Int)))) ((List (List (Int)))))) = some _ := hm
            replace hq := someE hq
            subst hq
            refine eX_outX hx2 (fun hr3 => ?_)
            replace hr3 := hr3.symm
            subst hr3
            refine eX_block_hit ?_
            exact eX_J (fun hst => ⟨l4, A6, cap6, fp5, fr3, rfl, Fr.of hst (by kernel_rfl), F18, F19, F20, F21, F22, F23, F24, G8, D22, D23, D24, D25, D26, D27, hB, hZ⟩)
          ·rintro a' w27 ⟨l3, A5, cap5, fp4, fr2, hJ, hF3, F31, F32, F33, F34, F35, F36, F37, G14, D55, D56, D57, D58, D59, D60, hB, hZ⟩
           subst hJ
           refine Fr.goX hF3 (by kernel_rfl) ?_
           refine eX_then ?_
           refine cW_seq ?_
           refine cW_seq ?_
           refine cW_region ?_
           refine wS_pure 1 [(17, .int .i64 (0))] (by kernel_rfl) ?_
           refine wS_end (by rfl) ?_
           refine eX_then ?_
           obtain ⟨r3, hr4, hm⟩ := bindE hm
           have hm3 := hm
           refine cW_cut (fun a' w' => ∃ l5 : List (List (Int)), Sum.inl l5 = r3 ∧ Fr 154 [(5, .pointer (some ⟨b1, 0, none⟩)), (6, .pointer (some ⟨b2, 0, none⟩)), (7, .pointer (some ⟨b3, 0, none⟩)), (8, .slice A4 (y5.1).length cap4), (14, .int .i64 (x1)), (15, .pointer (some ⟨b5, 0, none⟩))] a' ∧ OwR 1 encI 38 2 w' fp2 fr1 A3 cap3 y2 ∧ Cl w' b1 26 [.slice A3 (y2).length cap3] ∧ Cl w' b2 29 [.int .i64 (y3.1), .int .i64 (y3.2)] ∧ Cl w' b3 29 [.int .i64 (y4.1), .int .i64 (y4.2)] ∧ Ow 2 encII 29 w' fp3 A4 cap4 y5.1 ∧ Cl w' b5 26 [.slice A5 (l5).length cap5] ∧ OwR 1 encI 38 2 w' fp4 fr2 A5 cap5 l5 ∧ Chg [] w0 w' ∧ w0.heap.size ≤ w'.heap.size) ?_ ?_
           ·refine cW_block ?_
            refine cW_loop _ (fun (s3 : Int × (List (List (Int)))) a' w' => ∃ x4 : Int, ∃ l6 : List (List (Int)), (x4, l6) = s3 ∧ Fr 154 [(5, .pointer (some ⟨b1, 0, none⟩)), (6, .pointer (some ⟨b2, 0, none⟩)), (7, .pointer (some ⟨b3, 0, none⟩)), (8, .slice A4 (y5.1).length cap4), (14, .int .i64 (x1)), (15, .pointer (some ⟨b5, 0, none⟩)), (17, .int .i64 (x4))] a' ∧ OwR 1 encI 38 2 w' fp2 fr1 A3 cap3 y2 ∧ Cl w' b1 26 [.slice A3 (y2).length cap3] ∧ Cl w' b2 29 [.int .i64 (y3.1), .int .i64 (y3.2)] ∧ Cl w' b3 29 [.int .i64 (y4.1), .int .i64 (y4.2)] ∧ Ow 2 encII 29 w' fp3 A4 cap4 y5.1 ∧ Cl w' b5 26 [.slice A5 (l6).length cap5] ∧ OwR 1 encI 38 2 w' fp4 fr2 A5 cap5 l6 ∧ Chg [] w0 w' ∧ w0.heap.size ≤ w'.heap.size) hr4 (fun hst => ⟨0, l3, rfl, Fr.of hst (by kernel_rfl), F31, F32, F33, F34, F35, F36, F37, hB, hZ⟩) ?_
            rintro _ c3 a' w28 ⟨x4, l6, rfl, hF4, F38, F39, F40, F41, F42, F43, F44, hB, hZ⟩ hx4
            refine Fr.goOn hF4 (by kernel_rfl) ?_
            have hm := hx4
            unfold m_laws_FnBlocked_s7 at hm
            refine cW_seq ?_
            refine cW_seq ?_
            refine cW_region ?_
            refine wS_pure 4 [(109, .bool (decide (x4 < (((y5.1).length : Int))))), (108, .int .i64 (((y5.1).length : Int))), (107, .slice A4 (y5.1).length cap4), (106, .int .i64 (x4))] (by kernel_rfl) ?_
            refine wS_end (by rfl) ?_
            refine eX_then ?_
            refine cW_cond (t := decide (x4 < (((y5.1).length : Int)))) (by kernel_rfl) (fun hb10 => ?_) (fun hb10 => ?_)
            ·have hm := condT hb10 hm
             refine cW_skip ?_
             refine eX_then ?_
             refine cW_seq ?_
             refine cW_block ?_
             refine cW_seq ?_
             refine cW_region ?_
             refine wS_pure 2 [(113, .int .i64 (x4)), (112, .slice A4 (y5.1).length cap4)] (by kernel_rfl) ?_
             obtain ⟨x5, hx5, hm⟩ := bindE hm
             refine wS_idx (d := 114) (T := 31) (A := A4) (n := (y5.1).length) (cap := cap4) (kd := .i64) (m := x4) (by kernel_rfl) sl31 ((F42.sl encII_ok).is hx5) ?_
             refine wS_loadA (d := 115) (T := 29) (ad := (elA A4 2 (x4) 0)) (vs := [.int .i64 (x5.1), .int .i64 (x5.2)]) (by kernel_rfl) vt29 (fun i u hu => Sl.cells_at (F42.sl encII_ok) hx5 0 hu (by rfl)) ?_
             refine wS_alloc (d := 18) (T := 29) (z := .agg #[.int .i64 (0), .int .i64 (0)]) (by kernel_rfl) (by kernel_rfl) ?_
             intro b8 w29 G15 F45 hc26
             replace F45 : Cl w29 b8 29 [.int .i64 (0), .int .i64 (0)] := F45
             have D61 : Dj (fp2 ++ fr1) [b8] := Dj.of F38.low (low1 G15)
             have D62 : Dj [b1] [b8] := Dj.of (lt1 F39.lt) (low1 G15)
             have D63 : Dj [b2] [b8] := Dj.of (lt1 F40.lt) (low1 G15)
             have D64 : Dj [b3] [b8] := Dj.of (lt1 F41.lt) (low1 G15)
             have D65 : Dj fp3 [b8] := Dj.of F42.low (low1 G15)
             have D66 : Dj [b5] [b8] := Dj.of (lt1 F43.lt) (low1 G15)
             have D67 : Dj (fp4 ++ fr2) [b8] := Dj.of F44.low (low1 G15)
             replace F38 := F38.chg hc26 Dj.nil
             replace F39 := F39.chg hc26 notNil
             replace F40 := F40.chg hc26 notNil
             replace F41 := F41.chg hc26 notNil
             replace F42 := F42.chg hc26 Dj.nil
             replace F43 := F43.chg hc26 notNil
             replace F44 := F44.chg hc26 Dj.nil
             replace hB := hB.inS hc26 inNil
             replace G15 := Nat.le_trans hZ G15
             replace hZ := Nat.le_trans hZ hc26.size
             refine wS_store (T := 29) (g := b8) (o := 0) (ad := ⟨b8, 0, none⟩) (v := .agg #[.int .i64 (x5.1), .int .i64 (x5.2)]) (vs := [.int .i64 (x5.1), .int .i64 (x5.2)]) (by kernel_rfl) (by rfl) sz29 (by rfl) (by rfl) F45 (by simp only [List.length_cons, List.length_nil]; omega) ?_
             intro w30 F46 hc27
             replace F38 := F38.chg hc27 D61
             replace F39 := F39.chg hc27 (dj1 D62)
             replace F40 := F40.chg hc27 (dj1 D63)
             replace F41 := F41.chg hc27 (dj1 D64)
             replace F42 := F42.chg hc27 D65
             replace F43 := F43.chg hc27 (dj1 D66)
             replace F44 := F44.chg hc27 D67
             replace hB := hB.inS hc27 (inLow (low1 G15))
             replace hZ := Nat.le_trans hZ hc27.size
             replace F46 : Cl w30 b8 29 [.int .i64 (x5.1), .int .i64 (x5.2)] := F46
             clear F45
             refine wS_end (by rfl) ?_
             refine eX_then ?_
             refine cW_seq ?_
             refine cW_seq ?_
             refine cW_region ?_
             refine wS_loadA (d := 116) (T := 26) (ad := ⟨b1, 0, none⟩) (vs := [.slice A3 (y2).length cap3]) (by kernel_rfl) vt26 (fun i u hu => box_cells F39 0 hu (by rfl)) ?_
             refine wS_loadA (d := 117) (T := 29) (ad := ⟨b8, 0, none⟩) (vs := [.int .i64 (x5.1), .int .i64 (x5.2)]) (by kernel_rfl) vt29 (fun i u hu => box_cells F46 0 hu (by rfl)) ?_
             obtain ⟨y9, hy9, hm⟩ := bindE hm
             refine wS_calls (d := 118) (f := 12) (vs := [.agg #[.slice A3 (y2).length cap3], .agg #[.int .i64 (x5.1), .int .i64 (x5.2)]]) (by kernel_rfl) ent12 (c_impl_IsOpen hy9 (F38.slr encI_ok)) ?_
             rintro _ w31 ⟨rfl, hc28⟩
             replace F38 := F38.chg hc28 Dj.nil
             replace F39 := F39.chg hc28 notNil
             replace F40 := F40.chg hc28 notNil
             replace F41 := F41.chg hc28 notNil
             replace F42 := F42.chg hc28 Dj.nil
             replace F43 := F43.chg hc28 notNil
             replace F44 := F44.chg hc28 Dj.nil
             replace F46 := F46.chg hc28 notNil
             replace hB := hB.inS hc28 inNil
             replace hZ := Nat.le_trans hZ hc28.size
             refine ⟨.bool (y9), rfl, ?_⟩
             refine wS_pure 2 [(120, .bool (!y9)), (119, .bool (!y9))] (by kernel_rfl) ?_
             refine wS_bool (!y9) (fun hb11 => ?_) (fun hb11 => ?_)
             ·have hm := condT hb11 hm
              rewrite [hb11]
              refine wS_pure 9 [(129, .bool (true)), (128, undef), (127, undef), (126, undef), (125, .bool (true)), (124, .bool (true)), (123, undef), (122, undef), (121, undef)] (by kernel_rfl) ?_
              refine wS_end (by rfl) ?_
              refine eX_then ?_
              refine cW_prune [(5, .pointer (some ⟨b1, 0, none⟩)), (6, .pointer (some ⟨b2, 0, none⟩)), (7, .pointer (some ⟨b3, 0, none⟩)), (8, .slice A4 (y5.1).length cap4), (14, .int .i64 (x1)), (15, .pointer (some ⟨b5, 0, none⟩)), (17, .int .i64 (x4)), (18, .pointer (some ⟨b8, 0, none⟩)), (129, .bool (true))] (by kernel_rfl) (by kernel_rfl) (fun a6 => ?_)
              refine cW_cond_t (by kernel_rfl) ?_
              refine cW_seq ?_
              refine cW_region ?_
              refine wS_pure 1 [(4, .bool (false))] (by kernel_rfl) ?_
              refine wS_end (by rfl) ?_
              refine eX_then ?_
              refine cW_ret ?_
              refine eX_then_ret ?_
              refine eX_block_ret ?_
              refine eX_then_ret ?_
              have hq : (some (Ctl.out (Sum.inr false)) : Option (Ctl (Int × (List (List (Int)))) (Sum ((List (List (Int)))) ((Bool))))) = some _ := hm
              replace hq := someE hq
              subst hq
              refine eX_outR hx4 (fun hr => ?_)
              subst hr
              refine eX_block_ret ?_
              refine eX_then_ret ?_
              refine eX_then_ret ?_
              refine eX_block_ret ?_
              refine eX_then_ret ?_
              have hq : (some (Ctl.out (Sum.inr false)) : Option (Ctl (Int) (Sum (Unit) ((Bool))))) = some _ := hm3
              replace hq := someE hq
              subst hq
              refine eX_outR hx1 (fun hr => ?_)
              subst hr
              refine eX_block_ret ?_
              refine eX_then_ret ?_
              refine eX_then_ret ?_
              have hq : (some false : Option ((Bool))) = some _ := hm1
              replace hq := someE hq
              subst hq
              refine eX_ret (vs := [.bool (false)]) [.tmp 4] (by rfl) ⟨by (show lkE _ _ _ = _); kernel_rfl, trivial⟩ ?_
              exact ⟨rfl, hB⟩
             ·have hm := condF hb11 hm
              rewrite [hb11]
              refine wS_loadA (d := 121) (T := 29) (ad := ⟨b8, 0, none⟩) (vs := [.int .i64 (x5.1), .int .i64 (x5.2)]) (by kernel_rfl) vt29 (fun i u hu => box_cells F46 0 hu (by rfl)) ?_
              refine wS_loadA (d := 122) (T := 29) (ad := ⟨b2, 0, none⟩) (vs := [.int .i64 (y3.1), .int .i64 (y3.2)]) (by kernel_rfl) vt29 (fun i u hu => box_cells F40 0 hu (by rfl)) ?_
              refine wS_eqS (d := 123) (T := 29) (x := x5.1) (y := x5.2) (x' := y3.1) (y' := y3.2) (by kernel_rfl) eq29 ?_
              refine wS_pure 2 [(125, .bool (x5.1 == y3.1 && x5.2 == y3.2)), (124, .bool (x5.1 == y3.1 && x5.2 == y3.2))] (by kernel_rfl) ?_
              refine wS_bool (x5.1 == y3.1 && x5.2 == y3.2) (fun hb12 => ?_) (fun hb12 => ?_)
              ·have hm := condT hb12 hm
               rewrite [hb12]
               refine wS_pure 4 [(129, .bool (true)), (128, undef), (127, undef), (126, undef)] (by kernel_rfl) ?_
               refine wS_end (by rfl) ?_
               refine eX_then ?_
               refine cW_prune [(5, .pointer (some ⟨b1, 0, none⟩)), (6, .pointer (some ⟨b2, 0, none⟩)), (7, .pointer (some ⟨b3, 0, none⟩)), (8, .slice A4 (y5.1).length cap4), (14, .int .i64 (x1)), (15, .pointer (some ⟨b5, 0, none⟩)), (17, .int .i64 (x4)), (18, .pointer (some ⟨b8, 0, none⟩)), (129, .bool (true))] (by kernel_rfl) (by kernel_rfl) (fun a7 => ?_)
               refine cW_cond_t (by kernel_rfl) ?_
               refine cW_seq ?_
               refine cW_region ?_
               refine wS_pure 1 [(4, .bool (false))] (by kernel_rfl) ?_
               refine wS_end (by rfl) ?_
               refine eX_then ?_
               refine cW_ret ?_
               refine eX_then_ret ?_
               refine eX_block_ret ?_
               refine eX_then_ret ?_
               have hq : (some (Ctl.out (Sum.inr false)) : Option (Ctl (Int × (List (List (Int)))) (Sum ((List (List (Int)))) ((Bool))))) = some _ := hm
               replace hq := someE hq
               subst hq
               refine eX_outR hx4 (fun hr => ?_)
               subst hr
               refine eX_block_ret ?_
               refine eX_then_ret ?_
               refine eX_then_ret ?_
               refine eX_block_ret ?_
               refine eX_then_ret ?_
               have hq : (some (Ctl.out (Sum.inr false)) : Option (Ctl (Int) (Sum (Unit) ((Bool))))) = some _ := hm3
               replace hq := someE hq
               subst hq
               refine eX_outR hx1 (fun hr => ?_)
               subst hr
               refine eX_block_ret ?_
               refine eX_then_ret ?_
               refine eX_then_ret ?_
               have hq : (some false : Option ((Bool))) = some _ := hm1
               replace hq := someE hq
               subst hq
               refine eX_ret (vs := [.bool (false)]) [.tmp 4] (by rfl) ⟨by (show lkE _ _ _ = _); kernel_rfl, trivial⟩ ?_
               exact ⟨rfl, hB⟩
              ·have hm := condF hb12 hm
               rewrite [hb12]
               refine wS_loadA (d := 126) (T := 29) (ad := ⟨b8, 0, none⟩) (vs := [.int .i64 (x5.1), .int .i64 (x5.2)]) (by kernel_rfl) vt29 (fun i u hu => box_cells F46 0 hu (by rfl)) ?_
               refine wS_loadA (d := 127) (T := 29) (ad := ⟨b3, 0, none⟩) (vs := [.int .i64 (y4.1), .int .i64 (y4.2)]) (by kernel_rfl) vt29 (fun i u hu => box_cells F41 0 hu (by rfl)) ?_
               refine wS_eqS (d := 128) (T := 29) (x := x5.1) (y := x5.2) (x' := y4.1) (y' := y4.2) (by kernel_rfl) eq29 ?_
               refine wS_pure 1 [(129, .bool (x5.1 == y4.1 && x5.2 == y4.2))] (by kernel_rfl) ?_
               refine wS_end (by rfl) ?_
               refine eX_then ?_
               refine cW_prune [(5, .pointer (some ⟨b1, 0, none⟩)), (6, .pointer (some ⟨b2, 0, none⟩)), (7, .pointer (some ⟨b3, 0, none⟩)), (8, .slice A4 (y5.1).length cap4), (14, .int .i64 (x1)), (15, .pointer (some ⟨b5, 0, none⟩)), (17, .int .i64 (x4)), (18, .pointer (some ⟨b8, 0, none⟩)), (129, .bool (x5.1 == y4.1 && x5.2 == y4.2))] (by kernel_rfl) (by kernel_rfl) (fun a8 => ?_)
               refine cW_cond (t := x5.1 == y4.1 && x5.2 == y4.2) (by kernel_rfl) (fun hb13 => ?_) (fun hb13 => ?_)
               ·have hm := condT hb13 hm
                refine cW_seq ?_
                refine cW_region ?_
                refine wS_pure 1 [(4, .bool (false))] (by kernel_rfl) ?_
                refine wS_end (by rfl) ?_
                refine eX_then ?_
                refine cW_ret ?_
                refine eX_then_ret ?_
                refine eX_block_ret ?_
                refine eX_then_ret ?_
                have hq : (some (Ctl.out (Sum.inr false)) : Option (Ctl (Int × (List (List (Int)))) (Sum ((List (List (Int)))) ((Bool))))) = some _ := hm
                replace hq := someE hq
                subst hq
                refine eX_outR hx4 (fun hr => ?_)
                subst hr
                refine eX_block_ret ?_
                refine eX_then_ret ?_
                refine eX_then_ret ?_
                refine eX_block_ret ?_
                refine eX_then_ret ?_
                have hq : (some (Ctl.out (Sum.inr false)) : Option (Ctl (Int) (Sum (Unit) ((Bool))))) = some _ := hm3
                replace hq := someE hq
                subst hq
                refine eX_outR hx1 (fun hr => ?_)
                subst hr
                refine eX_block_ret ?_
                refine eX_then_ret ?_
                refine eX_then_ret ?_
                have hq : (some false : Option ((Bool))) = some _ := hm1
                replace hq := someE hq
                subst hq
                refine eX_ret (vs := [.bool (false)]) [.tmp 4] (by rfl) ⟨by (show lkE _ _ _ = _); kernel_rfl, trivial⟩ ?_
                exact ⟨rfl, hB⟩
               ·have hm := condF hb13 hm
                refine cW_skip ?_
                refine eX_then ?_
                obtain ⟨s4, hs1, hm⟩ := bindE hm
                refine cW_cut (fun a' w' => ∃ l7 : List (List (Int)), l7 = s4 ∧ Fr 154 [(5, .pointer (some ⟨b1, 0, none⟩)), (6, .pointer (some ⟨b2, 0, none⟩)), (7, .pointer (some ⟨b3, 0, none⟩)), (8, .slice A4 (y5.1).length cap4), (14, .int .i64 (x1)), (15, .pointer (some ⟨b5, 0, none⟩)), (17, .int .i64 (x4))] a' ∧ OwR 1 encI 38 2 w' fp2 fr1 A3 cap3 y2 ∧ Cl w' b1 26 [.slice A3 (y2).length cap3] ∧ Cl w' b2 29 [.int .i64 (y3.1), .int .i64 (y3.2)] ∧ Cl w' b3 29 [.int .i64 (y4.1), .int .i64 (y4.2)] ∧ Ow 2 encII 29 w' fp3 A4 cap4 y5.1 ∧ Cl w' b5 26 [.slice A5 (l7).length cap5] ∧ OwR 1 encI 38 2 w' fp4 fr2 A5 cap5 l7 ∧ Chg [] w0 w' ∧ w0.heap.size ≤ w'.heap.size) ?_ ?_
                ·have hm := hs1
                 refine cW_seq ?_
                 refine cW_region ?_
                 refine wS_pure 3 [(132, .bool (x4 != x1)), (131, .int .i64 (x1)), (130, .int .i64 (x4))] (by kernel_rfl) ?_
                 refine wS_end (by rfl) ?_
                 refine eX_then ?_
                 refine cW_cond (t := x4 != x1) (by kernel_rfl) (fun hb14 => ?_) (fun hb14 => ?_)
                 ·have hm := condT hb14 hm
                  refine cW_drawnTail [] 8 (by kernel_rfl) (by kernel_rfl) (fun w32 hc29 => ?_)
                  replace F38 := F38.chg hc29 Dj.nil
                  replace F39 := F39.chg hc29 notNil
                  replace F40 := F40.chg hc29 notNil
                  replace F41 := F41.chg hc29 notNil
                  replace F42 := F42.chg hc29 Dj.nil
                  replace F43 := F43.chg hc29 notNil
                  replace F44 := F44.chg hc29 Dj.nil
                  replace F46 := F46.chg hc29 notNil
                  replace hB := hB.inS hc29 inNil
                  replace hZ := Nat.le_trans hZ hc29.size
                  have hS := Chg.refl [] w32
                  have Z8 := F38
                  have Z9 := F39
                  have Z10 := F40
                  have Z11 := F41
                  have Z12 := F42
                  have Z13 := F43
                  have Z14 := F44
                  have Z15 := F46
                  refine wH_take [0] [0] [(133, .pointer (some ⟨b5, 0, none⟩))] (by kernel_rfl) (qT (qT (qB (qT (qL (qB (qT (qT (qB (qT (qL (qB (qT (qT qZ)))))))))))))) (by kernel_rfl) ?_
                  refine wH_load1 (i := 1) (d := 134) (T := 24) (ad := ⟨b5, 0, none⟩) (v := .slice A5 (l6).length cap5) (by kernel_rfl) (qT (qT (qB (qT (qL (qB (qT (qT (qB (qT (qL (qB (qT (qT qZ)))))))))))))) (by kernel_rfl) (by kernel_rfl) vt24 (fun W hW => (Z13.chg hW notNil).cell 0) ?_
                  refine wH_take [2] [2, 1, 0] [(135, .pointer (some ⟨b8, 1, none⟩))] (by kernel_rfl) (qT (qT (qB (qT (qL (qB (qT (qT (qB (qT (qL (qB (qT (qT qZ)))))))))))))) (by kernel_rfl) ?_
                  refine wH_load1 (i := 3) (d := 136) (T := 2) (ad := ⟨b8, 1, none⟩) (v := .int .i64 (x5.2)) (by kernel_rfl) (qT (qT (qB (qT (qL (qB (qT (qT (qB (qT (qL (qB (qT (qT qZ)))))))))))))) (by kernel_rfl) (by kernel_rfl) vt2 (fun W hW => (Z15.chg hW notNil).cell 1) ?_
                  obtain ⟨x6, hx6, hm⟩ := bindE hm
                  refine wH_idx (i := 4) (d := 137) (T := 24) (A := A5) (n := (l6).length) (cap := cap5) (kd := .i64) (m := x5.2) (by kernel_rfl) (qT (qT (qB (qT (qL (qB (qT (qT (qB (qT (qL (qB (qT (qT qZ)))))))))))))) (by kernel_rfl) (by kernel_rfl) sl24 ((F44.slr encI_ok).is hx6) ?_
                  obtain ⟨A10, cap10, fp9, hc30, hsub2, F47, hcl2⟩ := OwR.lend Z14 hx6
                  have G16 := low_inr G14
                  have Dm2 := (F44.dj).symm
                  refine wH_load1 (i := 5) (d := 138) (T := 38) (ad := (elA A5 1 (x5.2) 0)) (v := .slice A10 (x6).length cap10) (by kernel_rfl) (qT (qT (qB (qT (qL (qB (qT (qT (qB (qT (qL (qB (qT (qT qZ)))))))))))))) (by kernel_rfl) (by kernel_rfl) vt38 (fun W hW => hW.keep hc30) ?_
                  refine wH_take [6] [6, 5, 4, 3, 2, 1, 0] [(139, .pointer (some ⟨b8, 0, none⟩))] (by kernel_rfl) (qT (qT (qB (qT (qL (qB (qT (qT (qB (qT (qL (qB (qT (qT qZ)))))))))))))) (by kernel_rfl) ?_
                  refine wH_load1 (i := 7) (d := 140) (T := 2) (ad := ⟨b8, 0, none⟩) (v := .int .i64 (x5.1)) (by kernel_rfl) (qT (qT (qB (qT (qL (qB (qT (qT (qB (qT (qL (qB (qT (qT qZ)))))))))))))) (by kernel_rfl) (by kernel_rfl) vt2 (fun W hW => (Z15.chg hW notNil).cell 0) ?_
                  refine wH_done (by kernel_rfl) ?_
                  refine eX_tail ?_
                  obtain ⟨x7, hx7, hm⟩ := bindE hm
                  refine wS_idx (d := 141) (T := 38) (A := A10) (n := (x6).length) (cap := cap10) (kd := .i64) (m := x5.1) (by kernel_rfl) sl38 ((F47.sl encI_ok).is hx7) ?_
                  refine wS_storeEl (x := x7) 0 (T := 2) (U := 2) (cap := cap10) (j := 0) (A := A10) (v := .int .i64 (0)) (vs := [.int .i64 (0)]) (m := x5.1) (by kernel_rfl) (by rfl) sz2 (by rfl) encI_ok F47 hx7 (by simp only [List.length_cons, List.length_nil]; omega) (by rfl) ?_
                  intro w33 F48 hc31
                  have F49 := hcl2 _ _ hc31 F48 (List.length_set ..)
                  have hc32 := hc31.more (S' := (fp4 ++ fr2)) (fun x hx => hsub2 x hx)
                  replace F38 := F38.chg hc32 D55
                  replace F39 := F39.chg hc32 (dj1 D56)
                  replace F40 := F40.chg hc32 (dj1 D57)
                  replace F41 := F41.chg hc32 (dj1 D58)
                  replace F42 := F42.chg hc32 D59
                  replace F43 := F43.chg hc32 (dj1 D60)
                  replace F46 := F46.chg hc32 (dj1 (D67).symm)
                  replace hB := hB.inS hc32 (inLow G14)
                  replace hZ := Nat.le_trans hZ hc32.size
                  clear F44
                  rewrite [show (l6).length = (l6.set (Int.toNat x5.2) (x6.set (Int.toNat x5.1) 0)).length from (List.length_set ..).symm]
                  refine wS_end (by rfl) ?_
                  have hq : (some (l6.set (Int.toNat x5.2) (x6.set (Int.toNat x5.1) 0)) : Option ((List (List (Int))))) = some _ := hm
                  replace hq := someE hq
                  subst hq
                  exact eX_J (fun hst => ⟨l6.set (Int.toNat x5.2) (x6.set (Int.toNat x5.1) 0), rfl, Fr.of hst (by kernel_rfl), F38, F39, F40, F41, F42, (by rw [List.length_set]; exact F43), F49, hB, hZ⟩)
                 ·have hm := condF hb14 hm
                  refine cW_skip ?_
                  have hq : (some l6 : Option ((List (List (Int))))) = some _ := hm
                  replace hq := someE hq
                  subst hq
                  exact eX_J (fun hst => ⟨l6, rfl, Fr.of hst (by kernel_rfl), F38, F39, F40, F41, F42, F43, F44, hB, hZ⟩)
                ·rintro a' w34 ⟨l7, hJ, hF5, F50, F51, F52, F53, F54, F55, F56, hB, hZ⟩
                 subst hJ
                 refine Fr.goX hF5 (by kernel_rfl) ?_
                 refine eX_block ?_
                 refine eX_then ?_
                 refine cW_region ?_
                 refine wS_pure 3 [(17, .int .i64 (wr (x4 + 1))), (111, .int .i64 (wr (x4 + 1))), (110, .int .i64 (x4))] (by kernel_rfl) ?_
                 refine wS_end (by rfl) ?_
                 have hq : (some (Ctl.next ((wr (x4 + 1), l7))) : Option (Ctl (Int × (List (List (Int)))) (Sum ((List (List (Int)))) ((Bool))))) = some _ := hm
                 replace hq := someE hq
                 subst hq
                 exact eX_next hx4 (fun hst => ⟨wr (x4 + 1), l7, rfl, Fr.of hst (by kernel_rfl), F50, F51, F52, F53, F54, F55, F56, hB, hZ⟩)
            ·have hm := condF hb10 hm
             refine cW_exit ?_
             refine eX_then_exit ?_
             have hq : (some (Ctl.out (Sum.inl l6)) : Option (Ctl (Int × (List (List (Int)))) (Sum ((List (List (Int)))) ((Bool))))) = some _ := hm
             replace hq := someE hq
             subst hq
             refine eX_outX hx4 (fun hr5 => ?_)
             replace hr5 := hr5.symm
             subst hr5
             refine eX_block_hit ?_
             exact eX_J (fun hst => ⟨l6, rfl, Fr.of hst (by kernel_rfl), F38, F39, F40, F41, F42, F43, F44, hB, hZ⟩)
           ·rintro a' w35 ⟨l5, hJ, hF6, F57, F58, F59, F60, F61, F62, F63, hB, hZ⟩
            subst hJ
            refine Fr.goX hF6 (by kernel_rfl) ?_
            refine eX_then ?_
            refine cW_seq ?_
            refine cW_region ?_
            refine wS_loadA (d := 143) (T := 26) (ad := ⟨b5, 0, none⟩) (vs := [.slice A5 (l5).length cap5]) (by kernel_rfl) vt26 (fun i u hu => box_cells F62 0 hu (by rfl)) ?_
            refine wS_loadA (d := 144) (T := 29) (ad := ⟨b2, 0, none⟩) (vs := [.int .i64 (y3.1), .int .i64 (y3.2)]) (by kernel_rfl) vt29 (fun i u hu => box_cells F59 0 hu (by rfl)) ?_
            refine wS_loadA (d := 145) (T := 29) (ad := ⟨b3, 0, none⟩) (vs := [.int .i64 (y4.1), .int .i64 (y4.2)]) (by kernel_rfl) vt29 (fun i u hu => box_cells F60 0 hu (by rfl)) ?_
            obtain ⟨y10, hy10, hm⟩ := bindE hm
            refine wS_calls (d := 146) (f := 13) (vs := [.agg #[.slice A5 (l5).length cap5], .agg #[.int .i64 (y3.1), .int .i64 (y3.2)], .agg #[.int .i64 (y4.1), .int .i64 (y4.2)], .int .i64 (0)]) (by kernel_rfl) ent13 (c_impl_CheapestWay hy10 (F63.slr encI_ok)) ?_
            rintro _ w36 ⟨rfl, hc33⟩
            replace F57 := F57.chg hc33 Dj.nil
            replace F58 := F58.chg hc33 notNil
            replace F59 := F59.chg hc33 notNil
            replace F60 := F60.chg hc33 notNil
            replace F61 := F61.chg hc33 Dj.nil
            replace F62 := F62.chg hc33 notNil
            replace F63 := F63.chg hc33 Dj.nil
            replace hB := hB.inS hc33 inNil
            replace hZ := Nat.le_trans hZ hc33.size
            refine ⟨.tuple #[.string (y10.1), .int .i64 (y10.2.1), .bool (y10.2.2)], rfl, ?_⟩
            refine wS_pure 7 [(21, .bool (y10.2.2)), (20, .int .i64 (y10.2.1)), (19, .string (y10.1)), (149, .bool (y10.2.2)), (148, .int .i64 (y10.2.1)), (147, .string (y10.1)), (142, .tuple #[.string (y10.1), .int .i64 (y10.2.1), .bool (y10.2.2)])] (by kernel_rfl) ?_
            refine wS_end (by rfl) ?_
            refine eX_then ?_
            refine cW_seq ?_
            refine cW_region ?_
            refine wS_pure 4 [(153, .bool (!(y10.2.2 == (decide (x1 ≥ 0))))), (152, .bool (decide (x1 ≥ 0))), (151, .int .i64 (x1)), (150, .bool (y10.2.2))] (by kernel_rfl) ?_
            refine wS_end (by rfl) ?_
            refine eX_then ?_
            refine cW_cond (t := !(y10.2.2 == (decide (x1 ≥ 0)))) (by kernel_rfl) (fun hb15 => ?_) (fun hb15 => ?_)
            ·have hm := condT hb15 hm
             refine cW_seq ?_
             refine cW_region ?_
             refine wS_pure 1 [(4, .bool (false))] (by kernel_rfl) ?_
             refine wS_end (by rfl) ?_
             refine eX_then ?_
             refine cW_ret ?_
             refine eX_block_ret ?_
             refine eX_then_ret ?_
             have hq : (some (Ctl.out (Sum.inr false)) : Option (Ctl (Int) (Sum (Unit) ((Bool))))) = some _ := hm
             replace hq := someE hq
             subst hq
             refine eX_outR hx1 (fun hr => ?_)
             subst hr
             refine eX_block_ret ?_
             refine eX_then_ret ?_
             refine eX_then_ret ?_
             have hq : (some false : Option ((Bool))) = some _ := hm1
             replace hq := someE hq
             subst hq
             refine eX_ret (vs := [.bool (false)]) [.tmp 4] (by rfl) ⟨by (show lkE _ _ _ = _); kernel_rfl, trivial⟩ ?_
             exact ⟨rfl, hB⟩
            ·have hm := condF hb15 hm
             refine cW_skip ?_
             refine eX_block ?_
             refine eX_then ?_
             refine cW_region ?_
             refine wS_pure 3 [(14, .int .i64 (wr (x1 + 1))), (84, .int .i64 (wr (x1 + 1))), (83, .int .i64 (x1))] (by kernel_rfl) ?_
             refine wS_end (by rfl) ?_
             have hq : (some (Ctl.next (wr (x1 + 1))) : Option (Ctl (Int) (Sum (Unit) ((Bool))))) = some _ := hm
             replace hq := someE hq
             subst hq
             exact eX_next hx1 (fun hst => ⟨wr (x1 + 1), rfl, Fr.of hst (by kernel_rfl), F57, F58, F59, F60, F61, hB, hZ⟩)
         ·have hm := condF hb8 hm
          refine cW_exit ?_
          refine eX_then_exit ?_
          have hq : (some (Ctl.out (Sum.inl (()))) : Option (Ctl (Int) (Sum (Unit) ((Bool))))) = some _ := hm
          replace hq := someE hq
          subst hq
          refine eX_outX hx1 (fun hr6 => ?_)
          replace hr6 := hr6.symm
          subst hr6
          refine eX_block_hit ?_
          exact eX_J (fun hst => ⟨rfl, Fr.of hst (by kernel_rfl), hB, hZ⟩)
        ·rintro a' w37 ⟨hJ, hF7, hB, hZ⟩
         subst hJ
         refine Fr.goX hF7 (by kernel_rfl) ?_
         refine eX_then ?_
         refine cW_seq ?_
         refine cW_region ?_
         refine wS_pure 1 [(4, .bool (true))] (by kernel_rfl) ?_
         refine wS_end (by rfl) ?_
         refine eX_then ?_
         refine cW_ret ?_
         have hq : (some true : Option ((Bool))) = some _ := hm
         replace hq := someE hq
         subst hq
         refine eX_ret (vs := [.bool (true)]) [.tmp 4] (by rfl) ⟨by (show lkE _ _ _ = _); kernel_rfl, trivial⟩ ?_
         exact ⟨rfl, hB⟩

end Go.Proofs.Ytcknpoeannbpbaa
