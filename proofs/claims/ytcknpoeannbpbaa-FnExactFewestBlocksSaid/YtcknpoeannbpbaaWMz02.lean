/- Printed walks: impl.apart, impl.FewestBlocks, impl.MostApart, laws.szInt64S, laws.szInt64SS, laws.szMaze, spec.l00Max, spec.l01Abs, spec.l01Far, spec.l04Step, spec.l04Search, spec.l04Is, spec.l04At, spec.l04Both, spec.l04Index, spec.l04Room, spec.l04Cut, spec.MostApart, laws.toInt64S, laws.toInt64SS. -/
import Derived.Test.YtcknpoeannbpbaaProg
import Derived.Test.YtcknpoeannbpbaaWMz01
set_option linter.unusedSimpArgs false
set_option linter.unusedVariables false
namespace Go.Proofs.Ytcknpoeannbpbaa
open Go.RowKit
attribute [local irreducible] wS cW eX wH

theorem ent27 : Ent Try.prog 27 := fun _ => by kernel_rfl
theorem ent28 : Ent Try.prog 28 := fun _ => by kernel_rfl
theorem ent29 : Ent Try.prog 29 := fun _ => by kernel_rfl
theorem ent37 : Ent Try.prog 37 := fun _ => by kernel_rfl
theorem ent38 : Ent Try.prog 38 := fun _ => by kernel_rfl
theorem ent39 : Ent Try.prog 39 := fun _ => by kernel_rfl
theorem ent47 : Ent Try.prog 47 := fun _ => by kernel_rfl
theorem ent48 : Ent Try.prog 48 := fun _ => by kernel_rfl
theorem ent49 : Ent Try.prog 49 := fun _ => by kernel_rfl
theorem ent57 : Ent Try.prog 57 := fun _ => by kernel_rfl
theorem ent58 : Ent Try.prog 58 := fun _ => by kernel_rfl
theorem ent59 : Ent Try.prog 59 := fun _ => by kernel_rfl
theorem ent60 : Ent Try.prog 60 := fun _ => by kernel_rfl
theorem ent61 : Ent Try.prog 61 := fun _ => by kernel_rfl
theorem ent62 : Ent Try.prog 62 := fun _ => by kernel_rfl
theorem ent63 : Ent Try.prog 63 := fun _ => by kernel_rfl
theorem ent70 : Ent Try.prog 70 := fun _ => by kernel_rfl
theorem ent71 : Ent Try.prog 71 := fun _ => by kernel_rfl
theorem ent72 : Ent Try.prog 72 := fun _ => by kernel_rfl
theorem ent77 : Ent Try.prog 77 := fun _ => by kernel_rfl
theorem el24 : ElTy Try.prog 24 38 1 (.slice none 0 0) := ElTy.mk' Try.underlying24 (by kernel_rfl) (by rfl)
theorem el38 : ElTy Try.prog 38 2 1 (.int .i64 (0)) := ElTy.mk' Try.underlying38 (by kernel_rfl) (by rfl)
theorem sz2 : pureRun Try.prog (sizeOf 2) = some 1 := by kernel_rfl
theorem sz38 : pureRun Try.prog (sizeOf 38) = some 1 := by kernel_rfl
theorem sz86 : pureRun Try.prog (sizeOf 86) = some 6 := by kernel_rfl

set_option maxRecDepth 100000 in
/-- impl.apart -/
theorem c_impl_apart {w0 : World} {l0_0 : List (List (Int))} {A0_0 : Option Addr} {cap0_0 : Nat} {fp0_0 : List Nat} {p1_0 : Int} {p1_1 : Int} {p2_0 : Int} {p2_1 : Int} {r : (Int) × (List (Int × Int))} (hm : m_impl_apart l0_0 p1_0 p1_1 p2_0 p2_1 = some r) (F0_0 : SlR 1 encI w0 fp0_0 A0_0 l0_0) :
  Calls Try.prog 29 #[.agg #[.slice A0_0 (l0_0).length cap0_0], .agg #[.int .i64 (p1_0), .int .i64 (p1_1)], .agg #[.int .i64 (p2_0), .int .i64 (p2_1)]] w0 fun e w' => ∃ A101 cap101 fp101, e = .returned (.tuple #[.int .i64 (r.1), .slice A101 (r.2).length cap101]) ∧ Ow 2 encII 29 w' fp101 A101 cap101 r.2 ∧ (∀ x ∈ fp101, w0.heap.size ≤ x) ∧ Chg [] w0 w' := by
 have L0_0 := F0_0.low
 have hB : Chg [] w0 w0 := Chg.refl _ _
 have hZ := Nat.le_refl w0.heap.size
 unfold m_impl_apart at hm
 refine enterE (N := 59) Try.func29 (by rfl) Try.ntmps29 (by simp) [(0, .agg #[.slice A0_0 (l0_0).length cap0_0]), (1, .agg #[.int .i64 (p1_0), .int .i64 (p1_1)]), (2, .agg #[.int .i64 (p2_0), .int .i64 (p2_1)])] (by rfl) (by kernel_rfl) (fun a => ?_)
 refine cW_seq ?_
 refine cW_region ?_
 refine wS_box (d := 3) (T := 26) (x := .agg #[.slice A0_0 (l0_0).length cap0_0]) (by kernel_rfl) ?_
 intro b1 w1 G1 F1 hc1
 replace F1 : Cl w1 b1 26 [.slice A0_0 (l0_0).length cap0_0] := F1
 replace F0_0 := F0_0.chg hc1 Dj.nil
 replace hB := hB.inS hc1 inNil
 replace G1 := Nat.le_trans hZ G1
 replace hZ := Nat.le_trans hZ hc1.size
 refine wS_box (d := 4) (T := 29) (x := .agg #[.int .i64 (p1_0), .int .i64 (p1_1)]) (by kernel_rfl) ?_
 intro b2 w2 G2 F2 hc2
 replace F2 : Cl w2 b2 29 [.int .i64 (p1_0), .int .i64 (p1_1)] := F2
 have D1 : Dj [b1] [b2] := Dj.of (lt1 F1.lt) (low1 G2)
 replace F0_0 := F0_0.chg hc2 Dj.nil
 replace F1 := F1.chg hc2 notNil
 replace hB := hB.inS hc2 inNil
 replace G2 := Nat.le_trans hZ G2
 replace hZ := Nat.le_trans hZ hc2.size
 refine wS_box (d := 5) (T := 29) (x := .agg #[.int .i64 (p2_0), .int .i64 (p2_1)]) (by kernel_rfl) ?_
 intro b3 w3 G3 F3 hc3
 replace F3 : Cl w3 b3 29 [.int .i64 (p2_0), .int .i64 (p2_1)] := F3
 have D2 : Dj [b1] [b3] := Dj.of (lt1 F1.lt) (low1 G3)
 have D3 : Dj [b2] [b3] := Dj.of (lt1 F2.lt) (low1 G3)
 replace F0_0 := F0_0.chg hc3 Dj.nil
 replace F1 := F1.chg hc3 notNil
 replace F2 := F2.chg hc3 notNil
 replace hB := hB.inS hc3 inNil
 replace G3 := Nat.le_trans hZ G3
 replace hZ := Nat.le_trans hZ hc3.size
 refine wS_pure 2 [(7, .slice none 0 0), (6, .int .i64 (0))] (by kernel_rfl) ?_
 refine wS_end (by rfl) ?_
 refine eX_then ?_
 refine cW_seq ?_
 refine cW_region ?_
 refine wS_loadA (d := 15) (T := 29) (ad := ⟨b2, 0, none⟩) (vs := [.int .i64 (p1_0), .int .i64 (p1_1)]) (by kernel_rfl) vt29 (fun i u hu => box_cells F2 0 hu (by rfl)) ?_
 refine wS_loadA (d := 16) (T := 29) (ad := ⟨b3, 0, none⟩) (vs := [.int .i64 (p2_0), .int .i64 (p2_1)]) (by kernel_rfl) vt29 (fun i u hu => box_cells F3 0 hu (by rfl)) ?_
 refine wS_makeMap (V := Bool) (d := 17) (T := 84) (by kernel_rfl) okIIBIIB ekIIBIIB vB ?_
 intro b4 w4 G4 F4 hc4
 have D4 : Dj [b1] [b4] := Dj.of (lt1 F1.lt) (low1 G4)
 have D5 : Dj [b2] [b4] := Dj.of (lt1 F2.lt) (low1 G4)
 have D6 : Dj [b3] [b4] := Dj.of (lt1 F3.lt) (low1 G4)
 replace F0_0 := F0_0.chg hc4 Dj.nil
 replace F1 := F1.chg hc4 notNil
 replace F2 := F2.chg hc4 notNil
 replace F3 := F3.chg hc4 notNil
 replace hB := hB.inS hc4 inNil
 replace G4 := Nat.le_trans hZ G4
 replace G4 := low1 G4
 replace hZ := Nat.le_trans hZ hc4.size
 refine wS_pure 1 [(18, .agg #[.pointer (some ⟨b1, 0, none⟩), .int .i64 (p1_0), .int .i64 (p1_1), .int .i64 (p2_0), .int .i64 (p2_1), .map (some b4)])] (by kernel_rfl) ?_
 refine wS_alloc (d := 8) (T := 86) (z := .agg #[.pointer none, .int .i64 (0), .int .i64 (0), .int .i64 (0), .int .i64 (0), .map none]) (by kernel_rfl) (by kernel_rfl) ?_
 intro b5 w5 G5 F5 hc5
 replace F5 : Cl w5 b5 86 [.pointer none, .int .i64 (0), .int .i64 (0), .int .i64 (0), .int .i64 (0), .map none] := F5
 have D7 : Dj [b1] [b5] := Dj.of (lt1 F1.lt) (low1 G5)
 have D8 : Dj [b2] [b5] := Dj.of (lt1 F2.lt) (low1 G5)
 have D9 : Dj [b3] [b5] := Dj.of (lt1 F3.lt) (low1 G5)
 have D10 : Dj [b4] [b5] := Dj.of F4.low (low1 G5)
 replace F0_0 := F0_0.chg hc5 Dj.nil
 replace F1 := F1.chg hc5 notNil
 replace F2 := F2.chg hc5 notNil
 replace F3 := F3.chg hc5 notNil
 replace F4 := F4.chg hc5 Dj.nil
 replace hB := hB.inS hc5 inNil
 replace G5 := Nat.le_trans hZ G5
 replace hZ := Nat.le_trans hZ hc5.size
 refine wS_store (T := 86) (g := b5) (o := 0) (ad := ⟨b5, 0, none⟩) (v := .agg #[.pointer (some ⟨b1, 0, none⟩), .int .i64 (p1_0), .int .i64 (p1_1), .int .i64 (p2_0), .int .i64 (p2_1), .map (some b4)]) (vs := [.pointer (some ⟨b1, 0, none⟩), .int .i64 (p1_0), .int .i64 (p1_1), .int .i64 (p2_0), .int .i64 (p2_1), .map (some b4)]) (by kernel_rfl) (by rfl) sz86 (by rfl) (by rfl) F5 (by simp only [List.length_cons, List.length_nil]; omega) ?_
 intro w6 F6 hc6
 replace F0_0 := F0_0.chg hc6 (Dj.of L0_0 (low1 G5))
 replace F1 := F1.chg hc6 (dj1 D7)
 replace F2 := F2.chg hc6 (dj1 D8)
 replace F3 := F3.chg hc6 (dj1 D9)
 replace F4 := F4.chg hc6 D10
 replace hB := hB.inS hc6 (inLow (low1 G5))
 replace hZ := Nat.le_trans hZ hc6.size
 replace F6 : Cl w6 b5 86 [.pointer (some ⟨b1, 0, none⟩), .int .i64 (p1_0), .int .i64 (p1_1), .int .i64 (p2_0), .int .i64 (p2_1), .map (some b4)] := F6
 clear F5
 refine wS_end (by rfl) ?_
 refine eX_then ?_
 refine cW_seq ?_
 refine cW_region ?_
 refine wS_pure 1 [(9, .int .i64 (0))] (by kernel_rfl) ?_
 refine wS_end (by rfl) ?_
 refine eX_then ?_
 refine cW_seq ?_
 refine cW_region ?_
 obtain ⟨y1, hy1, hm⟩ := bindE hm
 refine wS_calls (d := 19) (f := 47) (vs := [.pointer (some ⟨b5, 0, none⟩)]) (by kernel_rfl) ent47 (c_impl_flow_search_bimplflow_bimplMaze hy1 F0_0 F1 F4 F6) ?_
 rintro _ w7 ⟨b6, rfl, F7, G6, hc7⟩
 have D11 : Dj [b1] [b6] := Dj.of (lt1 F1.lt) G6
 have D12 : Dj [b2] [b6] := Dj.of (lt1 F2.lt) G6
 have D13 : Dj [b3] [b6] := Dj.of (lt1 F3.lt) G6
 have D14 : Dj [b4] [b6] := Dj.of F4.low G6
 have D15 : Dj [b5] [b6] := Dj.of (lt1 F6.lt) G6
 replace F0_0 := F0_0.chg hc7 Dj.nil
 replace F1 := F1.chg hc7 notNil
 replace F2 := F2.chg hc7 notNil
 replace F3 := F3.chg hc7 notNil
 replace F4 := F4.chg hc7 Dj.nil
 replace F6 := F6.chg hc7 notNil
 replace hB := hB.inS hc7 inNil
 replace G6 := low_le hZ G6
 replace hZ := Nat.le_trans hZ hc7.size
 refine ⟨.map (some b6), rfl, ?_⟩
 refine wS_pure 1 [(10, .map (some b6))] (by kernel_rfl) ?_
 refine wS_end (by rfl) ?_
 refine eX_then ?_
 refine cW_seq ?_
 obtain ⟨r1, hr1, hm⟩ := bindE hm
 have hm1 := hm
 refine cW_cut (fun a' w' => ∃ x1 : Int, ∃ l1 : List ((Int × Int × Bool) × (Int × Int × Bool)), ∃ b7 : Nat, (x1, l1) = r1 ∧ Fr 59 [(4, .pointer (some ⟨b2, 0, none⟩)), (9, .int .i64 (x1)), (10, .map (some b7))] a' ∧ Cl w' b2 29 [.int .i64 (p1_0), .int .i64 (p1_1)] ∧ Mp okIIB ekIIB ekIIB w' b7 l1 ∧ (∀ x ∈ [b7], w0.heap.size ≤ x) ∧ Dj [b2] [b7] ∧ Chg [] w0 w' ∧ w0.heap.size ≤ w'.heap.size) ?_ ?_
 ·refine cW_block ?_
  refine cW_loop _ (fun (s1 : Int × (List ((Int × Int × Bool) × (Int × Int × Bool))) × (List ((Int × Int × Bool × Int × Int × Bool) × Bool))) a' w' => ∃ x2 : Int, ∃ l2 : List ((Int × Int × Bool) × (Int × Int × Bool)), ∃ b8 : Nat, ∃ l3 : List ((Int × Int × Bool × Int × Int × Bool) × Bool), (x2, l2, l3) = s1 ∧ Fr 59 [(4, .pointer (some ⟨b2, 0, none⟩)), (8, .pointer (some ⟨b5, 0, none⟩)), (9, .int .i64 (x2)), (10, .map (some b8))] a' ∧ SlR 1 encI w' fp0_0 A0_0 l0_0 ∧ Cl w' b1 26 [.slice A0_0 (l0_0).length cap0_0] ∧ Cl w' b2 29 [.int .i64 (p1_0), .int .i64 (p1_1)] ∧ Mp okIIBIIB ekIIBIIB vB w' b4 l3 ∧ Cl w' b5 86 [.pointer (some ⟨b1, 0, none⟩), .int .i64 (p1_0), .int .i64 (p1_1), .int .i64 (p2_0), .int .i64 (p2_1), .map (some b4)] ∧ Mp okIIB ekIIB ekIIB w' b8 l2 ∧ (∀ x ∈ [b8], w0.heap.size ≤ x) ∧ Dj [b1] [b8] ∧ Dj [b2] [b8] ∧ Dj [b4] [b8] ∧ Dj [b5] [b8] ∧ Chg [] w0 w' ∧ w0.heap.size ≤ w'.heap.size) hr1 (fun hst => ⟨0, y1, b6, ([] : List ((Int × Int × Bool × Int × Int × Bool) × Bool)), rfl, Fr.of hst (by kernel_rfl), F0_0, F1, F2, F4, F6, F7, G6, D11, D12, D14, D15, hB, hZ⟩) ?_
  rintro _ c1 a' w8 ⟨x2, l2, b8, l3, rfl, hF1, F8, F9, F10, F11, F12, F13, G7, D16, D17, D18, D19, hB, hZ⟩ hx1
  refine Fr.goOn hF1 (by kernel_rfl) ?_
  have hm := hx1
  unfold m_impl_apart_s1 at hm
  refine cW_seq ?_
  refine cW_seq ?_
  refine cW_region ?_
  refine wS_pure 1 [(20, .map (some b8))] (by kernel_rfl) ?_
  obtain ⟨y2, hy2, hm⟩ := bindE hm
  refine wS_calls (d := 21) (f := 48) (vs := [.pointer (some ⟨b5, 0, none⟩), .map (some b8)]) (by kernel_rfl) ent48 (c_impl_flow_push_bimplflow_bimplMaze hy2 F8 F9 F11 F12 F13 (Dj.of L0_0 G4).symm (D4).symm D10 D18) ?_
  rintro _ w9 ⟨rfl, F14, hc8⟩
  replace F8 := F8.chg hc8 (Dj.app (Dj.of L0_0 G4) Dj.nil)
  replace F9 := F9.chg hc8 (dj1 (Dj.app D4 Dj.nil))
  replace F10 := F10.chg hc8 (dj1 (Dj.app D5 Dj.nil))
  replace F12 := F12.chg hc8 (dj1 (Dj.app (D10).symm Dj.nil))
  replace F13 := F13.chg hc8 (Dj.app (D18).symm Dj.nil)
  replace hB := hB.inS hc8 (inApp (inLow G4) inNil)
  replace hZ := Nat.le_trans hZ hc8.size
  clear F11
  refine ⟨.bool (y2.1), rfl, ?_⟩
  refine wS_end (by rfl) ?_
  refine eX_then ?_
  refine cW_cond (t := y2.1) (by kernel_rfl) (fun hb1 => ?_) (fun hb1 => ?_)
  ·have hm := condT hb1 hm
   refine cW_skip ?_
   refine eX_then ?_
   refine cW_block ?_
   refine cW_seq ?_
   refine cW_region ?_
   refine wS_pure 3 [(9, .int .i64 (wr (x2 + 1))), (23, .int .i64 (wr (x2 + 1))), (22, .int .i64 (x2))] (by kernel_rfl) ?_
   refine wS_end (by rfl) ?_
   refine eX_then ?_
   refine cW_region ?_
   obtain ⟨y3, hy3, hm⟩ := bindE hm
   refine wS_calls (d := 24) (f := 47) (vs := [.pointer (some ⟨b5, 0, none⟩)]) (by kernel_rfl) ent47 (c_impl_flow_search_bimplflow_bimplMaze hy3 F8 F9 F14 F12) ?_
   rintro _ w10 ⟨b9, rfl, F15, G8, hc9⟩
   have D20 : Dj [b1] [b9] := Dj.of (lt1 F9.lt) G8
   have D21 : Dj [b2] [b9] := Dj.of (lt1 F10.lt) G8
   have D22 : Dj [b4] [b9] := Dj.of F14.low G8
   have D23 : Dj [b5] [b9] := Dj.of (lt1 F12.lt) G8
   have D24 : Dj [b8] [b9] := Dj.of F13.low G8
   replace F8 := F8.chg hc9 Dj.nil
   replace F9 := F9.chg hc9 notNil
   replace F10 := F10.chg hc9 notNil
   replace F14 := F14.chg hc9 Dj.nil
   replace F12 := F12.chg hc9 notNil
   replace F13 := F13.chg hc9 Dj.nil
   replace hB := hB.inS hc9 inNil
   replace G8 := low_le hZ G8
   replace hZ := Nat.le_trans hZ hc9.size
   refine ⟨.map (some b9), rfl, ?_⟩
   refine wS_pure 1 [(10, .map (some b9))] (by kernel_rfl) ?_
   refine wS_end (by rfl) ?_
   refine eX_block ?_
   have hq : (some (Ctl.next ((wr (x2 + 1), y3, y2.2))) : Option (Ctl (Int × (List ((Int × Int × Bool) × (Int × Int × Bool))) × (List ((Int × Int × Bool × Int × Int × Bool) × Bool))) (Int × (List ((Int × Int × Bool) × (Int × Int × Bool)))))) = some _ := hm
   replace hq := someE hq
   subst hq
   exact eX_next hx1 (fun hst => ⟨wr (x2 + 1), y3, b9, y2.2, rfl, Fr.of hst (by kernel_rfl), F8, F9, F10, F14, F12, F15, G8, D20, D21, D22, D23, hB, hZ⟩)
  ·have hm := condF hb1 hm
   refine cW_exit ?_
   refine eX_then_exit ?_
   have hq : (some (Ctl.out ((x2, l2))) : Option (Ctl (Int × (List ((Int × Int × Bool) × (Int × Int × Bool))) × (List ((Int × Int × Bool × Int × Int × Bool) × Bool))) (Int × (List ((Int × Int × Bool) × (Int × Int × Bool)))))) = some _ := hm
   replace hq := someE hq
   subst hq
   refine eX_outX hx1 (fun hr2 => ?_)
   replace hr2 := hr2.symm
   subst hr2
   refine eX_block_hit ?_
   exact eX_J (fun hst => ⟨x2, l2, b8, rfl, Fr.of hst (by kernel_rfl), F10, F13, G7, D17, hB, hZ⟩)
 ·rintro a' w11 ⟨x1, l1, b7, hJ, hF2, F16, F17, G9, D25, hB, hZ⟩
  subst hJ
  refine Fr.goX hF2 (by kernel_rfl) ?_
  refine eX_then ?_
  refine cW_seq ?_
  refine cW_region ?_
  refine wS_makeMap (V := Bool) (d := 25) (T := 90) (by kernel_rfl) okII ekII vB ?_
  intro b10 w12 G10 F18 hc10
  have D26 : Dj [b2] [b10] := Dj.of (lt1 F16.lt) (low1 G10)
  have D27 : Dj [b7] [b10] := Dj.of F17.low (low1 G10)
  replace F16 := F16.chg hc10 notNil
  replace F17 := F17.chg hc10 Dj.nil
  replace hB := hB.inS hc10 inNil
  replace G10 := Nat.le_trans hZ G10
  replace G10 := low1 G10
  replace hZ := Nat.le_trans hZ hc10.size
  refine wS_pure 1 [(11, .map (some b10))] (by kernel_rfl) ?_
  refine wS_end (by rfl) ?_
  refine eX_then ?_
  refine cW_seq ?_
  refine cW_seq ?_
  refine cW_region ?_
  refine wS_pure 1 [(26, .map (some b7))] (by kernel_rfl) ?_
  refine wS_range (d := 27) (T := 87) (by kernel_rfl) mp87 F17 ?_
  intro b11 w13 G11 F19 hc11
  have D28 : Dj [b2] [b11] := Dj.of (lt1 F16.lt) (low1 G11)
  have D29 : Dj [b7] [b11] := Dj.of F17.low (low1 G11)
  have D30 : Dj [b10] [b11] := Dj.of F18.low (low1 G11)
  replace F16 := F16.chg hc11 notNil
  replace F17 := F17.chg hc11 Dj.nil
  replace F18 := F18.chg hc11 Dj.nil
  replace hB := hB.inS hc11 inNil
  replace G11 := Nat.le_trans hZ G11
  replace G11 := low1 G11
  replace hZ := Nat.le_trans hZ hc11.size
  refine wS_end (by rfl) ?_
  refine eX_then ?_
  have hA1 := allO_some hm
  refine cW_cut (fun a' w' => ∃ lo1 : List ((Int × Int × Bool) × (Int × Int × Bool)), ∃ l4 : List ((Int × Int) × Bool), lo1.Perm l1 ∧ foldR (m_impl_apart_s2 p1_0 p1_1 l1) (([] : List ((Int × Int) × Bool))) lo1 = some l4 ∧ Fr 59 [(9, .int .i64 (x1)), (11, .map (some b10))] a' ∧ Mp okII ekII vB w' b10 l4 ∧ Chg [] w0 w' ∧ w0.heap.size ≤ w'.heap.size) ?_ ?_
  ·refine cW_block ?_
   refine cW_loop cdn (fun (n1 : Nat) a' w' => ∃ ld1 : List ((Int × Int × Bool) × (Int × Int × Bool)), ∃ lr1 : List ((Int × Int × Bool) × (Int × Int × Bool)), ∃ l5 : List ((Int × Int) × Bool), lr1.length = n1 ∧ (ld1 ++ lr1).Perm l1 ∧ foldR (m_impl_apart_s2 p1_0 p1_1 l1) (([] : List ((Int × Int) × Bool))) ld1 = some l5 ∧ Fr 59 [(4, .pointer (some ⟨b2, 0, none⟩)), (9, .int .i64 (x1)), (10, .map (some b7)), (11, .map (some b10)), (27, .pointer (some ⟨b11, 0, none⟩))] a' ∧ Cl w' b2 29 [.int .i64 (p1_0), .int .i64 (p1_1)] ∧ Mp okIIB ekIIB ekIIB w' b7 l1 ∧ Mp okII ekII vB w' b10 l5 ∧ RgE okIIB ekIIB ekIIB w' b7 b11 l1 lr1 ∧ Chg [] w0 w' ∧ w0.heap.size ≤ w'.heap.size) (cdn_run _) (fun hst => ⟨[], l1, ([] : List ((Int × Int) × Bool)), rfl, (List.Perm.refl _), rfl, Fr.of hst (by kernel_rfl), F16, F17, F18, F19, hB, hZ⟩) ?_
   rintro n1 c_ a' w14 ⟨ld1, lr1, l5, hn1, hP1, hF3, hF4, F20, F21, F22, F23, hB, hZ⟩ hx2
   refine Fr.goOn hF4 (by kernel_rfl) ?_
   refine cW_seq ?_
   refine cW_region ?_
   refine wS_next (d := 28) (by kernel_rfl) F23 (fun hnil1 => ?_) (fun pa1 p1 pd1 w15 hsp1 F24 hc12 => ?_)
   ·skip
    refine wS_pure 1 [(29, .bool (false))] (by kernel_rfl) ?_
    refine wS_end (by rfl) ?_
    refine eX_then ?_
    refine cW_seq ?_
    refine cW_cond_f (by kernel_rfl) ?_
    refine cW_exit ?_
    refine eX_then_exit ?_
    refine eX_outX (cdn_0 hn1 hnil1) (fun _ => ?_)
    refine eX_block_hit ?_
    exact eX_J (fun hst => ⟨ld1, l5, (perm_end hP1 hnil1), hF3, Fr.of hst (by kernel_rfl), F22, hB, hZ⟩)
   ·skip
    obtain ⟨s2, hs1⟩ := foldR_step hF3 (hA1 _ (perm_pick hP1 hsp1))
    have hm := hs1
    unfold m_impl_apart_s2 at hm
    replace F20 := F20.chg hc12 (dj1 D28)
    replace F21 := F21.chg hc12 D29
    replace F22 := F22.chg hc12 D30
    replace hB := hB.inS hc12 (inLow G11)
    replace hZ := Nat.le_trans hZ hc12.size
    clear F23
    refine wS_pure 1 [(29, .bool (true))] (by kernel_rfl) ?_
    refine wS_end (by rfl) ?_
    refine eX_then ?_
    refine cW_seq ?_
    refine cW_cond_t (by kernel_rfl) ?_
    refine cW_skip ?_
    refine eX_then ?_
    refine cW_block ?_
    obtain ⟨s3, hs2, hm⟩ := bindE hm
    refine cW_cut (fun a' w' => ∃ l6 : List ((Int × Int) × Bool), l6 = s3 ∧ Fr 59 [(4, .pointer (some ⟨b2, 0, none⟩)), (9, .int .i64 (x1)), (10, .map (some b7)), (11, .map (some b10)), (27, .pointer (some ⟨b11, 0, none⟩))] a' ∧ Cl w' b2 29 [.int .i64 (p1_0), .int .i64 (p1_1)] ∧ Mp okIIB ekIIB ekIIB w' b7 l1 ∧ Mp okII ekII vB w' b10 l6 ∧ RgE okIIB ekIIB ekIIB w' b7 b11 l1 (pa1 ++ pd1) ∧ Chg [] w0 w' ∧ w0.heap.size ≤ w'.heap.size) ?_ ?_
    ·have hm := hs2
     refine cW_seq ?_
     refine cW_region ?_
     refine wS_ntry (d := 30) (by kernel_rfl) F24 ?_
     refine wS_pure 1 [(31, .agg #[.int .i64 (p1.1.1), .int .i64 (p1.1.2.1), .bool (p1.1.2.2)])] (by kernel_rfl) ?_
     refine wS_alloc (d := 12) (T := 92) (z := .agg #[.int .i64 (0), .int .i64 (0), .bool (false)]) (by kernel_rfl) (by kernel_rfl) ?_
     intro b12 w16 G12 F25 hc13
     replace F25 : Cl w16 b12 92 [.int .i64 (0), .int .i64 (0), .bool (false)] := F25
     have D31 : Dj [b2] [b12] := Dj.of (lt1 F20.lt) (low1 G12)
     have D32 : Dj [b7] [b12] := Dj.of F21.low (low1 G12)
     have D33 : Dj [b10] [b12] := Dj.of F22.low (low1 G12)
     have D34 : Dj [b11] [b12] := Dj.of F24.low (low1 G12)
     replace F20 := F20.chg hc13 notNil
     replace F21 := F21.chg hc13 Dj.nil
     replace F22 := F22.chg hc13 Dj.nil
     replace F24 := F24.chg hc13 Dj.nil Dj.nil
     replace hB := hB.inS hc13 inNil
     replace G12 := Nat.le_trans hZ G12
     replace hZ := Nat.le_trans hZ hc13.size
     refine wS_store (T := 92) (g := b12) (o := 0) (ad := ⟨b12, 0, none⟩) (v := .agg #[.int .i64 (p1.1.1), .int .i64 (p1.1.2.1), .bool (p1.1.2.2)]) (vs := [.int .i64 (p1.1.1), .int .i64 (p1.1.2.1), .bool (p1.1.2.2)]) (by kernel_rfl) (by rfl) sz92 (by rfl) (by rfl) F25 (by simp only [List.length_cons, List.length_nil]; omega) ?_
     intro w17 F26 hc14
     replace F20 := F20.chg hc14 (dj1 D31)
     replace F21 := F21.chg hc14 D32
     replace F22 := F22.chg hc14 D33
     replace F24 := F24.chg hc14 D32 D34
     replace hB := hB.inS hc14 (inLow (low1 G12))
     replace hZ := Nat.le_trans hZ hc14.size
     replace F26 : Cl w17 b12 92 [.int .i64 (p1.1.1), .int .i64 (p1.1.2.1), .bool (p1.1.2.2)] := F26
     clear F25
     refine wS_end (by rfl) ?_
     refine eX_then ?_
     refine cW_seq ?_
     refine cW_region ?_
     refine wS_pure 2 [(34, .pointer (some ⟨b12, 0, none⟩)), (33, .map (some b7))] (by kernel_rfl) ?_
     refine wS_loadA (d := 35) (T := 29) (ad := ⟨b12, 0, none⟩) (vs := [.int .i64 (p1.1.1), .int .i64 (p1.1.2.1)]) (by kernel_rfl) vt29 (fun i u hu => box_cells F26 0 hu (by rfl)) ?_
     refine wS_pure 1 [(36, .agg #[.int .i64 (p1.1.1), .int .i64 (p1.1.2.1), .bool (true)])] (by kernel_rfl) ?_
     obtain ⟨_, hk1, hm⟩ := bindE hm
     refine wS_lookOk (k := (p1.1.1, p1.1.2.1, true)) (d := 37) (T := 87) (by kernel_rfl) rfl mk87 mp87 F21 (mpE hk1) ?_
     refine wS_pure 3 [(39, .bool ((mget l1 ((p1.1.1, p1.1.2.1, true))).isSome)), (38, .agg #[.int .i64 (((mget l1 ((p1.1.1, p1.1.2.1, true))).getD (0, 0, false)).1), .int .i64 (((mget l1 ((p1.1.1, p1.1.2.1, true))).getD (0, 0, false)).2.1), .bool (((mget l1 ((p1.1.1, p1.1.2.1, true))).getD (0, 0, false)).2.2)]), (32, .tuple #[.agg #[.int .i64 (((mget l1 ((p1.1.1, p1.1.2.1, true))).getD (0, 0, false)).1), .int .i64 (((mget l1 ((p1.1.1, p1.1.2.1, true))).getD (0, 0, false)).2.1), .bool (((mget l1 ((p1.1.1, p1.1.2.1, true))).getD (0, 0, false)).2.2)], .bool ((mget l1 ((p1.1.1, p1.1.2.1, true))).isSome)])] (by kernel_rfl) ?_
     refine wS_alloc (d := 13) (T := 92) (z := .agg #[.int .i64 (0), .int .i64 (0), .bool (false)]) (by kernel_rfl) (by kernel_rfl) ?_
     intro b13 w18 G13 F27 hc15
     replace F27 : Cl w18 b13 92 [.int .i64 (0), .int .i64 (0), .bool (false)] := F27
     have D35 : Dj [b2] [b13] := Dj.of (lt1 F20.lt) (low1 G13)
     have D36 : Dj [b7] [b13] := Dj.of F21.low (low1 G13)
     have D37 : Dj [b10] [b13] := Dj.of F22.low (low1 G13)
     have D38 : Dj [b11] [b13] := Dj.of F24.low (low1 G13)
     have D39 : Dj [b12] [b13] := Dj.of (lt1 F26.lt) (low1 G13)
     replace F20 := F20.chg hc15 notNil
     replace F21 := F21.chg hc15 Dj.nil
     replace F22 := F22.chg hc15 Dj.nil
     replace F24 := F24.chg hc15 Dj.nil Dj.nil
     replace F26 := F26.chg hc15 notNil
     replace hB := hB.inS hc15 inNil
     replace G13 := Nat.le_trans hZ G13
     replace hZ := Nat.le_trans hZ hc15.size
     refine wS_store (T := 92) (g := b13) (o := 0) (ad := ⟨b13, 0, none⟩) (v := .agg #[.int .i64 (((mget l1 ((p1.1.1, p1.1.2.1, true))).getD (0, 0, false)).1), .int .i64 (((mget l1 ((p1.1.1, p1.1.2.1, true))).getD (0, 0, false)).2.1), .bool (((mget l1 ((p1.1.1, p1.1.2.1, true))).getD (0, 0, false)).2.2)]) (vs := [.int .i64 (((mget l1 ((p1.1.1, p1.1.2.1, true))).getD (0, 0, false)).1), .int .i64 (((mget l1 ((p1.1.1, p1.1.2.1, true))).getD (0, 0, false)).2.1), .bool (((mget l1 ((p1.1.1, p1.1.2.1, true))).getD (0, 0, false)).2.2)]) (by kernel_rfl) (by rfl) sz92 (by rfl) (by rfl) F27 (by simp only [List.length_cons, List.length_nil]; omega) ?_
     intro w19 F28 hc16
     replace F20 := F20.chg hc16 (dj1 D35)
     replace F21 := F21.chg hc16 D36
     replace F22 := F22.chg hc16 D37
     replace F24 := F24.chg hc16 D36 D38
     replace F26 := F26.chg hc16 (dj1 D39)
     replace hB := hB.inS hc16 (inLow (low1 G13))
     replace hZ := Nat.le_trans hZ hc16.size
     replace F28 : Cl w19 b13 92 [.int .i64 (((mget l1 ((p1.1.1, p1.1.2.1, true))).getD (0, 0, false)).1), .int .i64 (((mget l1 ((p1.1.1, p1.1.2.1, true))).getD (0, 0, false)).2.1), .bool (((mget l1 ((p1.1.1, p1.1.2.1, true))).getD (0, 0, false)).2.2)] := F28
     clear F27
     refine wS_pure 1 [(14, .bool ((mget l1 ((p1.1.1, p1.1.2.1, true))).isSome))] (by kernel_rfl) ?_
     refine wS_end (by rfl) ?_
     refine eX_then ?_
     refine cW_seq ?_
     refine cW_region ?_
     refine wS_pure 1 [(40, .pointer (some ⟨b12, 2, none⟩))] (by kernel_rfl) ?_
     refine wS_load1 (d := 41) (T := 4) (ad := ⟨b12, 2, none⟩) (v := .bool (p1.1.2.2)) (by kernel_rfl) vt4 ((F26).cell 2) ?_
     refine wS_pure 2 [(43, .bool (!p1.1.2.2)), (42, .bool (!p1.1.2.2))] (by kernel_rfl) ?_
     refine wS_bool (!p1.1.2.2) (fun hb2 => ?_) (fun hb2 => ?_)
     ·have hm := condT hb2 hm
      rewrite [hb2]
      refine wS_pure 4 [(47, .bool (!((mget l1 ((p1.1.1, p1.1.2.1, true))).isSome))), (46, .bool (!((mget l1 ((p1.1.1, p1.1.2.1, true))).isSome))), (45, .bool (!((mget l1 ((p1.1.1, p1.1.2.1, true))).isSome))), (44, .bool ((mget l1 ((p1.1.1, p1.1.2.1, true))).isSome))] (by kernel_rfl) ?_
      refine wS_bool (!((mget l1 ((p1.1.1, p1.1.2.1, true))).isSome)) (fun hb3 => ?_) (fun hb3 => ?_)
      ·have hm := condT hb3 hm
       rewrite [hb3]
       refine wS_pure 1 [(48, .pointer (some ⟨b12, 0, none⟩))] (by kernel_rfl) ?_
       refine wS_loadA (d := 49) (T := 29) (ad := ⟨b12, 0, none⟩) (vs := [.int .i64 (p1.1.1), .int .i64 (p1.1.2.1)]) (by kernel_rfl) vt29 (fun i u hu => box_cells F26 0 hu (by rfl)) ?_
       refine wS_loadA (d := 50) (T := 29) (ad := ⟨b2, 0, none⟩) (vs := [.int .i64 (p1_0), .int .i64 (p1_1)]) (by kernel_rfl) vt29 (fun i u hu => box_cells F20 0 hu (by rfl)) ?_
       refine wS_neS (d := 51) (T := 29) (x := p1.1.1) (y := p1.1.2.1) (x' := p1_0) (y' := p1_1) (by kernel_rfl) eq29 ?_
       refine wS_pure 1 [(52, .bool (!(p1.1.1 == p1_0 && p1.1.2.1 == p1_1)))] (by kernel_rfl) ?_
       refine wS_end (by rfl) ?_
       refine eX_then ?_
       refine cW_prune [(4, .pointer (some ⟨b2, 0, none⟩)), (9, .int .i64 (x1)), (10, .map (some b7)), (11, .map (some b10)), (12, .pointer (some ⟨b12, 0, none⟩)), (27, .pointer (some ⟨b11, 0, none⟩)), (52, .bool (!(p1.1.1 == p1_0 && p1.1.2.1 == p1_1)))] (by kernel_rfl) (by kernel_rfl) (fun a1 => ?_)
       refine cW_cond (t := !(p1.1.1 == p1_0 && p1.1.2.1 == p1_1)) (by kernel_rfl) (fun hb4 => ?_) (fun hb4 => ?_)
       ·have hm := condT hb4 hm
        refine cW_region ?_
        refine wS_pure 2 [(54, .pointer (some ⟨b12, 0, none⟩)), (53, .map (some b10))] (by kernel_rfl) ?_
        refine wS_loadA (d := 55) (T := 29) (ad := ⟨b12, 0, none⟩) (vs := [.int .i64 (p1.1.1), .int .i64 (p1.1.2.1)]) (by kernel_rfl) vt29 (fun i u hu => box_cells F26 0 hu (by rfl)) ?_
        obtain ⟨_, hk2, hm⟩ := bindE hm
        refine wS_mup (k := (p1.1.1, p1.1.2.1)) (x := true) (T := 90) (by kernel_rfl) rfl rfl mk90 mp90 F22 (mpE hk2) ?_
        intro w20 F29 hc17
        replace F20 := F20.chg hc17 (dj1 D26)
        replace F21 := F21.chg hc17 D27
        replace F24 := F24.chg hc17 D27 (D30).symm
        replace F26 := F26.chg hc17 (dj1 (D33).symm)
        replace F28 := F28.chg hc17 (dj1 (D37).symm)
        replace hB := hB.inS hc17 (inLow G10)
        replace hZ := Nat.le_trans hZ hc17.size
        clear F22
        refine wS_end (by rfl) ?_
        have hq : (some (mup l5 ((p1.1.1, p1.1.2.1)) true) : Option ((List ((Int × Int) × Bool)))) = some _ := hm
        replace hq := someE hq
        subst hq
        exact eX_J (fun hst => ⟨mup l5 ((p1.1.1, p1.1.2.1)) true, rfl, Fr.of hst (by kernel_rfl), F20, F21, F29, ⟨_, F24⟩, hB, hZ⟩)
       ·have hm := condF hb4 hm
        refine cW_skip ?_
        have hq : (some l5 : Option ((List ((Int × Int) × Bool)))) = some _ := hm
        replace hq := someE hq
        subst hq
        exact eX_J (fun hst => ⟨l5, rfl, Fr.of hst (by kernel_rfl), F20, F21, F22, ⟨_, F24⟩, hB, hZ⟩)
      ·have hm := condF hb3 hm
       rewrite [hb3]
       refine wS_pure 5 [(52, .bool (false)), (51, undef), (50, undef), (49, undef), (48, undef)] (by kernel_rfl) ?_
       refine wS_end (by rfl) ?_
       refine eX_then ?_
       refine cW_prune [(4, .pointer (some ⟨b2, 0, none⟩)), (9, .int .i64 (x1)), (10, .map (some b7)), (11, .map (some b10)), (12, .pointer (some ⟨b12, 0, none⟩)), (27, .pointer (some ⟨b11, 0, none⟩)), (52, .bool (false))] (by kernel_rfl) (by kernel_rfl) (fun a2 => ?_)
       refine cW_cond_f (by kernel_rfl) ?_
       refine cW_skip ?_
       have hq : (some l5 : Option ((List ((Int × Int) × Bool)))) = some _ := hm
       replace hq := someE hq
       subst hq
       exact eX_J (fun hst => ⟨l5, rfl, Fr.of hst (by kernel_rfl), F20, F21, F22, ⟨_, F24⟩, hB, hZ⟩)
     ·have hm := condF hb2 hm
      rewrite [hb2]
      refine wS_pure 9 [(52, .bool (false)), (51, undef), (50, undef), (49, undef), (48, undef), (47, .bool (false)), (46, .bool (false)), (45, undef), (44, undef)] (by kernel_rfl) ?_
      refine wS_end (by rfl) ?_
      refine eX_then ?_
      refine cW_prune [(4, .pointer (some ⟨b2, 0, none⟩)), (9, .int .i64 (x1)), (10, .map (some b7)), (11, .map (some b10)), (12, .pointer (some ⟨b12, 0, none⟩)), (27, .pointer (some ⟨b11, 0, none⟩)), (52, .bool (false))] (by kernel_rfl) (by kernel_rfl) (fun a3 => ?_)
      refine cW_cond_f (by kernel_rfl) ?_
      refine cW_skip ?_
      have hq : (some l5 : Option ((List ((Int × Int) × Bool)))) = some _ := hm
      replace hq := someE hq
      subst hq
      exact eX_J (fun hst => ⟨l5, rfl, Fr.of hst (by kernel_rfl), F20, F21, F22, ⟨_, F24⟩, hB, hZ⟩)
    ·rintro a' w21 ⟨l6, hJ, hF5, F30, F31, F32, F33, hB, hZ⟩
     subst hJ
     refine Fr.goX hF5 (by kernel_rfl) ?_
     refine eX_block ?_
     have hq := ctlE (show (some (Ctl.next l6) : Option (Ctl ((List ((Int × Int) × Bool))) (Unit))) = some (Ctl.next _) from hm)
     subst hq
     exact eX_next (cdn_at hn1 hsp1) (fun hst => ⟨ld1 ++ [p1], pa1 ++ pd1, l6, rfl, (perm_next hP1 hsp1), (foldR_snoc hF3 hs1), Fr.of hst (by kernel_rfl), F30, F31, F32, F33, hB, hZ⟩)
  ·rintro a' w22 ⟨lo1, l4, hP2, hF6, hF7, F34, hB, hZ⟩
   have hm := hA1 _ hP2
   rewrite [hF6] at hm
   refine Fr.goX hF7 (by kernel_rfl) ?_
   have hm := bindSome hm
   refine eX_then ?_
   refine cW_seq ?_
   refine cW_region ?_
   refine wS_pure 2 [(57, .map (some b10)), (56, .int .i64 (x1))] (by kernel_rfl) ?_
   obtain ⟨y4, hy4, hm⟩ := bindE hm
   refine wS_calls (d := 58) (f := 49) (vs := [.map (some b10)]) (by kernel_rfl) ent49 (c_impl_pointsOf hy4 F34) ?_
   rintro _ w23 ⟨A1, cap1, fp1, rfl, F35, G14, hc18⟩
   have D40 : Dj [b10] fp1 := Dj.of F34.low G14
   replace F34 := F34.chg hc18 Dj.nil
   replace hB := hB.inS hc18 inNil
   replace G14 := low_le hZ G14
   replace hZ := Nat.le_trans hZ hc18.size
   refine ⟨.slice A1 (y4).length cap1, rfl, ?_⟩
   refine wS_pure 2 [(7, .slice A1 (y4).length cap1), (6, .int .i64 (x1))] (by kernel_rfl) ?_
   refine wS_end (by rfl) ?_
   refine eX_then ?_
   refine cW_ret ?_
   have hq : (some ((x1, y4)) : Option ((Int) × (List (Int × Int)))) = some _ := hm
   replace hq := someE hq
   subst hq
   refine eX_ret (vs := [.int .i64 (x1), .slice A1 (y4).length cap1]) [.tmp 6, .tmp 7] (by rfl) ⟨by (show lkE _ _ _ = _); kernel_rfl, ⟨by (show lkE _ _ _ = _); kernel_rfl, trivial⟩⟩ ?_
   exact ⟨A1, cap1, fp1, rfl, F35, G14, hB⟩

set_option maxRecDepth 100000 in
/-- impl.FewestBlocks -/
theorem c_impl_FewestBlocks {w0 : World} {l0_0 : List (List (Int))} {A0_0 : Option Addr} {cap0_0 : Nat} {fp0_0 : List Nat} {p1_0 : Int} {p1_1 : Int} {p2_0 : Int} {p2_1 : Int} {r : (List (Int × Int)) × (Bool)} (hm : m_impl_FewestBlocks l0_0 p1_0 p1_1 p2_0 p2_1 = some r) (F0_0 : SlR 1 encI w0 fp0_0 A0_0 l0_0) :
  Calls Try.prog 9 #[.agg #[.slice A0_0 (l0_0).length cap0_0], .agg #[.int .i64 (p1_0), .int .i64 (p1_1)], .agg #[.int .i64 (p2_0), .int .i64 (p2_1)]] w0 fun e w' => ∃ A100 cap100 fp100, e = .returned (.tuple #[.slice A100 (r.1).length cap100, .bool (r.2)]) ∧ Ow 2 encII 29 w' fp100 A100 cap100 r.1 ∧ (∀ x ∈ fp100, w0.heap.size ≤ x) ∧ Chg [] w0 w' := by
 have L0_0 := F0_0.low
 have hB : Chg [] w0 w0 := Chg.refl _ _
 have hZ := Nat.le_refl w0.heap.size
 unfold m_impl_FewestBlocks at hm
 refine enterE (N := 23) Try.func9 (by rfl) Try.ntmps9 (by simp) [(0, .agg #[.slice A0_0 (l0_0).length cap0_0]), (1, .agg #[.int .i64 (p1_0), .int .i64 (p1_1)]), (2, .agg #[.int .i64 (p2_0), .int .i64 (p2_1)])] (by rfl) (by kernel_rfl) (fun a => ?_)
 refine cW_seq ?_
 refine cW_region ?_
 refine wS_box (d := 3) (T := 26) (x := .agg #[.slice A0_0 (l0_0).length cap0_0]) (by kernel_rfl) ?_
 intro b1 w1 G1 F1 hc1
 replace F1 : Cl w1 b1 26 [.slice A0_0 (l0_0).length cap0_0] := F1
 replace F0_0 := F0_0.chg hc1 Dj.nil
 replace hB := hB.inS hc1 inNil
 replace G1 := Nat.le_trans hZ G1
 replace hZ := Nat.le_trans hZ hc1.size
 refine wS_box (d := 4) (T := 29) (x := .agg #[.int .i64 (p1_0), .int .i64 (p1_1)]) (by kernel_rfl) ?_
 intro b2 w2 G2 F2 hc2
 replace F2 : Cl w2 b2 29 [.int .i64 (p1_0), .int .i64 (p1_1)] := F2
 have D1 : Dj [b1] [b2] := Dj.of (lt1 F1.lt) (low1 G2)
 replace F0_0 := F0_0.chg hc2 Dj.nil
 replace F1 := F1.chg hc2 notNil
 replace hB := hB.inS hc2 inNil
 replace G2 := Nat.le_trans hZ G2
 replace hZ := Nat.le_trans hZ hc2.size
 refine wS_box (d := 5) (T := 29) (x := .agg #[.int .i64 (p2_0), .int .i64 (p2_1)]) (by kernel_rfl) ?_
 intro b3 w3 G3 F3 hc3
 replace F3 : Cl w3 b3 29 [.int .i64 (p2_0), .int .i64 (p2_1)] := F3
 have D2 : Dj [b1] [b3] := Dj.of (lt1 F1.lt) (low1 G3)
 have D3 : Dj [b2] [b3] := Dj.of (lt1 F2.lt) (low1 G3)
 replace F0_0 := F0_0.chg hc3 Dj.nil
 replace F1 := F1.chg hc3 notNil
 replace F2 := F2.chg hc3 notNil
 replace hB := hB.inS hc3 inNil
 replace G3 := Nat.le_trans hZ G3
 replace hZ := Nat.le_trans hZ hc3.size
 refine wS_pure 2 [(7, .bool (false)), (6, .slice none 0 0)] (by kernel_rfl) ?_
 refine wS_end (by rfl) ?_
 refine eX_then ?_
 refine cW_seq ?_
 refine cW_seq ?_
 refine cW_region ?_
 refine wS_loadA (d := 10) (T := 26) (ad := ⟨b1, 0, none⟩) (vs := [.slice A0_0 (l0_0).length cap0_0]) (by kernel_rfl) vt26 (fun i u hu => box_cells F1 0 hu (by rfl)) ?_
 refine wS_loadA (d := 11) (T := 29) (ad := ⟨b2, 0, none⟩) (vs := [.int .i64 (p1_0), .int .i64 (p1_1)]) (by kernel_rfl) vt29 (fun i u hu => box_cells F2 0 hu (by rfl)) ?_
 refine wS_loadA (d := 12) (T := 29) (ad := ⟨b3, 0, none⟩) (vs := [.int .i64 (p2_0), .int .i64 (p2_1)]) (by kernel_rfl) vt29 (fun i u hu => box_cells F3 0 hu (by rfl)) ?_
 obtain ⟨y1, hy1, hm⟩ := bindE hm
 refine wS_calls (d := 13) (f := 28) (vs := [.agg #[.slice A0_0 (l0_0).length cap0_0], .agg #[.int .i64 (p1_0), .int .i64 (p1_1)], .agg #[.int .i64 (p2_0), .int .i64 (p2_1)]]) (by kernel_rfl) ent28 (c_impl_blockOk hy1 F0_0) ?_
 rintro _ w4 ⟨rfl, hc4⟩
 replace F0_0 := F0_0.chg hc4 Dj.nil
 replace F1 := F1.chg hc4 notNil
 replace F2 := F2.chg hc4 notNil
 replace F3 := F3.chg hc4 notNil
 replace hB := hB.inS hc4 inNil
 replace hZ := Nat.le_trans hZ hc4.size
 refine ⟨.bool (y1), rfl, ?_⟩
 refine wS_pure 1 [(14, .bool (!y1))] (by kernel_rfl) ?_
 refine wS_end (by rfl) ?_
 refine eX_then ?_
 refine cW_cond (t := !y1) (by kernel_rfl) (fun hb1 => ?_) (fun hb1 => ?_)
 ·have hm := condT hb1 hm
  refine cW_seq ?_
  refine cW_region ?_
  refine wS_pure 2 [(7, .bool (false)), (6, .slice none 0 0)] (by kernel_rfl) ?_
  refine wS_end (by rfl) ?_
  refine eX_then ?_
  refine cW_ret ?_
  refine eX_then_ret ?_
  have hq : (some (([], false)) : Option ((List (Int × Int)) × (Bool))) = some _ := hm
  replace hq := someE hq
  subst hq
  refine eX_ret (vs := [.slice none 0 0, .bool (false)]) [.tmp 6, .tmp 7] (by rfl) ⟨by (show lkE _ _ _ = _); kernel_rfl, ⟨by (show lkE _ _ _ = _); kernel_rfl, trivial⟩⟩ ?_
  exact ⟨none, 0, [], rfl, Ow.nil _, lowNil, hB⟩
 ·have hm := condF hb1 hm
  refine cW_skip ?_
  refine eX_then ?_
  refine cW_seq ?_
  refine cW_region ?_
  refine wS_loadA (d := 16) (T := 26) (ad := ⟨b1, 0, none⟩) (vs := [.slice A0_0 (l0_0).length cap0_0]) (by kernel_rfl) vt26 (fun i u hu => box_cells F1 0 hu (by rfl)) ?_
  refine wS_loadA (d := 17) (T := 29) (ad := ⟨b2, 0, none⟩) (vs := [.int .i64 (p1_0), .int .i64 (p1_1)]) (by kernel_rfl) vt29 (fun i u hu => box_cells F2 0 hu (by rfl)) ?_
  refine wS_loadA (d := 18) (T := 29) (ad := ⟨b3, 0, none⟩) (vs := [.int .i64 (p2_0), .int .i64 (p2_1)]) (by kernel_rfl) vt29 (fun i u hu => box_cells F3 0 hu (by rfl)) ?_
  obtain ⟨y2, hy2, hm⟩ := bindE hm
  refine wS_calls (d := 19) (f := 29) (vs := [.agg #[.slice A0_0 (l0_0).length cap0_0], .agg #[.int .i64 (p1_0), .int .i64 (p1_1)], .agg #[.int .i64 (p2_0), .int .i64 (p2_1)]]) (by kernel_rfl) ent29 (c_impl_apart hy2 F0_0) ?_
  rintro _ w5 ⟨A1, cap1, fp1, rfl, F4, G4, hc5⟩
  have D4 : Dj [b1] fp1 := Dj.of (lt1 F1.lt) G4
  have D5 : Dj [b2] fp1 := Dj.of (lt1 F2.lt) G4
  have D6 : Dj [b3] fp1 := Dj.of (lt1 F3.lt) G4
  replace F0_0 := F0_0.chg hc5 Dj.nil
  replace F1 := F1.chg hc5 notNil
  replace F2 := F2.chg hc5 notNil
  replace F3 := F3.chg hc5 notNil
  replace hB := hB.inS hc5 inNil
  replace G4 := low_le hZ G4
  replace hZ := Nat.le_trans hZ hc5.size
  refine ⟨.tuple #[.int .i64 (y2.1), .slice A1 (y2.2).length cap1], rfl, ?_⟩
  refine wS_pure 5 [(9, .slice A1 (y2.2).length cap1), (8, .int .i64 (y2.1)), (21, .slice A1 (y2.2).length cap1), (20, .int .i64 (y2.1)), (15, .tuple #[.int .i64 (y2.1), .slice A1 (y2.2).length cap1])] (by kernel_rfl) ?_
  refine wS_end (by rfl) ?_
  refine eX_then ?_
  refine cW_seq ?_
  refine cW_region ?_
  refine wS_pure 3 [(7, .bool (true)), (6, .slice A1 (y2.2).length cap1), (22, .slice A1 (y2.2).length cap1)] (by kernel_rfl) ?_
  refine wS_end (by rfl) ?_
  refine eX_then ?_
  refine cW_ret ?_
  have hq : (some ((y2.2, true)) : Option ((List (Int × Int)) × (Bool))) = some _ := hm
  replace hq := someE hq
  subst hq
  refine eX_ret (vs := [.slice A1 (y2.2).length cap1, .bool (true)]) [.tmp 6, .tmp 7] (by rfl) ⟨by (show lkE _ _ _ = _); kernel_rfl, ⟨by (show lkE _ _ _ = _); kernel_rfl, trivial⟩⟩ ?_
  exact ⟨A1, cap1, fp1, rfl, F4, G4, hB⟩

set_option maxRecDepth 100000 in
/-- impl.MostApart -/
theorem c_impl_MostApart {w0 : World} {l0_0 : List (List (Int))} {A0_0 : Option Addr} {cap0_0 : Nat} {fp0_0 : List Nat} {p1_0 : Int} {p1_1 : Int} {p2_0 : Int} {p2_1 : Int} {r : (Int) × (Bool)} (hm : m_impl_MostApart l0_0 p1_0 p1_1 p2_0 p2_1 = some r) (F0_0 : SlR 1 encI w0 fp0_0 A0_0 l0_0) :
  Calls Try.prog 10 #[.agg #[.slice A0_0 (l0_0).length cap0_0], .agg #[.int .i64 (p1_0), .int .i64 (p1_1)], .agg #[.int .i64 (p2_0), .int .i64 (p2_1)]] w0 fun e w' => e = .returned (.tuple #[.int .i64 (r.1), .bool (r.2)]) ∧ Chg [] w0 w' := by
 have L0_0 := F0_0.low
 have hB : Chg [] w0 w0 := Chg.refl _ _
 have hZ := Nat.le_refl w0.heap.size
 unfold m_impl_MostApart at hm
 refine enterE (N := 23) Try.func10 (by rfl) Try.ntmps10 (by simp) [(0, .agg #[.slice A0_0 (l0_0).length cap0_0]), (1, .agg #[.int .i64 (p1_0), .int .i64 (p1_1)]), (2, .agg #[.int .i64 (p2_0), .int .i64 (p2_1)])] (by rfl) (by kernel_rfl) (fun a => ?_)
 refine cW_seq ?_
 refine cW_region ?_
 refine wS_box (d := 3) (T := 26) (x := .agg #[.slice A0_0 (l0_0).length cap0_0]) (by kernel_rfl) ?_
 intro b1 w1 G1 F1 hc1
 replace F1 : Cl w1 b1 26 [.slice A0_0 (l0_0).length cap0_0] := F1
 replace F0_0 := F0_0.chg hc1 Dj.nil
 replace hB := hB.inS hc1 inNil
 replace G1 := Nat.le_trans hZ G1
 replace hZ := Nat.le_trans hZ hc1.size
 refine wS_box (d := 4) (T := 29) (x := .agg #[.int .i64 (p1_0), .int .i64 (p1_1)]) (by kernel_rfl) ?_
 intro b2 w2 G2 F2 hc2
 replace F2 : Cl w2 b2 29 [.int .i64 (p1_0), .int .i64 (p1_1)] := F2
 have D1 : Dj [b1] [b2] := Dj.of (lt1 F1.lt) (low1 G2)
 replace F0_0 := F0_0.chg hc2 Dj.nil
 replace F1 := F1.chg hc2 notNil
 replace hB := hB.inS hc2 inNil
 replace G2 := Nat.le_trans hZ G2
 replace hZ := Nat.le_trans hZ hc2.size
 refine wS_box (d := 5) (T := 29) (x := .agg #[.int .i64 (p2_0), .int .i64 (p2_1)]) (by kernel_rfl) ?_
 intro b3 w3 G3 F3 hc3
 replace F3 : Cl w3 b3 29 [.int .i64 (p2_0), .int .i64 (p2_1)] := F3
 have D2 : Dj [b1] [b3] := Dj.of (lt1 F1.lt) (low1 G3)
 have D3 : Dj [b2] [b3] := Dj.of (lt1 F2.lt) (low1 G3)
 replace F0_0 := F0_0.chg hc3 Dj.nil
 replace F1 := F1.chg hc3 notNil
 replace F2 := F2.chg hc3 notNil
 replace hB := hB.inS hc3 inNil
 replace G3 := Nat.le_trans hZ G3
 replace hZ := Nat.le_trans hZ hc3.size
 refine wS_pure 2 [(7, .bool (false)), (6, .int .i64 (0))] (by kernel_rfl) ?_
 refine wS_end (by rfl) ?_
 refine eX_then ?_
 refine cW_seq ?_
 refine cW_seq ?_
 refine cW_region ?_
 refine wS_loadA (d := 10) (T := 26) (ad := ⟨b1, 0, none⟩) (vs := [.slice A0_0 (l0_0).length cap0_0]) (by kernel_rfl) vt26 (fun i u hu => box_cells F1 0 hu (by rfl)) ?_
 refine wS_loadA (d := 11) (T := 29) (ad := ⟨b2, 0, none⟩) (vs := [.int .i64 (p1_0), .int .i64 (p1_1)]) (by kernel_rfl) vt29 (fun i u hu => box_cells F2 0 hu (by rfl)) ?_
 refine wS_loadA (d := 12) (T := 29) (ad := ⟨b3, 0, none⟩) (vs := [.int .i64 (p2_0), .int .i64 (p2_1)]) (by kernel_rfl) vt29 (fun i u hu => box_cells F3 0 hu (by rfl)) ?_
 obtain ⟨y1, hy1, hm⟩ := bindE hm
 refine wS_calls (d := 13) (f := 28) (vs := [.agg #[.slice A0_0 (l0_0).length cap0_0], .agg #[.int .i64 (p1_0), .int .i64 (p1_1)], .agg #[.int .i64 (p2_0), .int .i64 (p2_1)]]) (by kernel_rfl) ent28 (c_impl_blockOk hy1 F0_0) ?_
 rintro _ w4 ⟨rfl, hc4⟩
 replace F0_0 := F0_0.chg hc4 Dj.nil
 replace F1 := F1.chg hc4 notNil
 replace F2 := F2.chg hc4 notNil
 replace F3 := F3.chg hc4 notNil
 replace hB := hB.inS hc4 inNil
 replace hZ := Nat.le_trans hZ hc4.size
 refine ⟨.bool (y1), rfl, ?_⟩
 refine wS_pure 1 [(14, .bool (!y1))] (by kernel_rfl) ?_
 refine wS_end (by rfl) ?_
 refine eX_then ?_
 refine cW_cond (t := !y1) (by kernel_rfl) (fun hb1 => ?_) (fun hb1 => ?_)
 ·have hm := condT hb1 hm
  refine cW_seq ?_
  refine cW_region ?_
  refine wS_pure 2 [(7, .bool (false)), (6, .int .i64 (0))] (by kernel_rfl) ?_
  refine wS_end (by rfl) ?_
  refine eX_then ?_
  refine cW_ret ?_
  refine eX_then_ret ?_
  have hq : (some ((0, false)) : Option ((Int) × (Bool))) = some _ := hm
  replace hq := someE hq
  subst hq
  refine eX_ret (vs := [.int .i64 (0), .bool (false)]) [.tmp 6, .tmp 7] (by rfl) ⟨by (show lkE _ _ _ = _); kernel_rfl, ⟨by (show lkE _ _ _ = _); kernel_rfl, trivial⟩⟩ ?_
  exact ⟨rfl, hB⟩
 ·have hm := condF hb1 hm
  refine cW_skip ?_
  refine eX_then ?_
  refine cW_seq ?_
  refine cW_region ?_
  refine wS_loadA (d := 16) (T := 26) (ad := ⟨b1, 0, none⟩) (vs := [.slice A0_0 (l0_0).length cap0_0]) (by kernel_rfl) vt26 (fun i u hu => box_cells F1 0 hu (by rfl)) ?_
  refine wS_loadA (d := 17) (T := 29) (ad := ⟨b2, 0, none⟩) (vs := [.int .i64 (p1_0), .int .i64 (p1_1)]) (by kernel_rfl) vt29 (fun i u hu => box_cells F2 0 hu (by rfl)) ?_
  refine wS_loadA (d := 18) (T := 29) (ad := ⟨b3, 0, none⟩) (vs := [.int .i64 (p2_0), .int .i64 (p2_1)]) (by kernel_rfl) vt29 (fun i u hu => box_cells F3 0 hu (by rfl)) ?_
  obtain ⟨y2, hy2, hm⟩ := bindE hm
  refine wS_calls (d := 19) (f := 29) (vs := [.agg #[.slice A0_0 (l0_0).length cap0_0], .agg #[.int .i64 (p1_0), .int .i64 (p1_1)], .agg #[.int .i64 (p2_0), .int .i64 (p2_1)]]) (by kernel_rfl) ent29 (c_impl_apart hy2 F0_0) ?_
  rintro _ w5 ⟨A1, cap1, fp1, rfl, F4, G4, hc5⟩
  have D4 : Dj [b1] fp1 := Dj.of (lt1 F1.lt) G4
  have D5 : Dj [b2] fp1 := Dj.of (lt1 F2.lt) G4
  have D6 : Dj [b3] fp1 := Dj.of (lt1 F3.lt) G4
  replace F0_0 := F0_0.chg hc5 Dj.nil
  replace F1 := F1.chg hc5 notNil
  replace F2 := F2.chg hc5 notNil
  replace F3 := F3.chg hc5 notNil
  replace hB := hB.inS hc5 inNil
  replace G4 := low_le hZ G4
  replace hZ := Nat.le_trans hZ hc5.size
  refine ⟨.tuple #[.int .i64 (y2.1), .slice A1 (y2.2).length cap1], rfl, ?_⟩
  refine wS_pure 5 [(9, .slice A1 (y2.2).length cap1), (8, .int .i64 (y2.1)), (21, .slice A1 (y2.2).length cap1), (20, .int .i64 (y2.1)), (15, .tuple #[.int .i64 (y2.1), .slice A1 (y2.2).length cap1])] (by kernel_rfl) ?_
  refine wS_end (by rfl) ?_
  refine eX_then ?_
  refine cW_seq ?_
  refine cW_region ?_
  refine wS_pure 3 [(7, .bool (true)), (6, .int .i64 (y2.1)), (22, .int .i64 (y2.1))] (by kernel_rfl) ?_
  refine wS_end (by rfl) ?_
  refine eX_then ?_
  refine cW_ret ?_
  have hq : (some ((y2.1, true)) : Option ((Int) × (Bool))) = some _ := hm
  replace hq := someE hq
  subst hq
  refine eX_ret (vs := [.int .i64 (y2.1), .bool (true)]) [.tmp 6, .tmp 7] (by rfl) ⟨by (show lkE _ _ _ = _); kernel_rfl, ⟨by (show lkE _ _ _ = _); kernel_rfl, trivial⟩⟩ ?_
  exact ⟨rfl, hB⟩

set_option maxRecDepth 100000 in
/-- laws.szInt64S -/
theorem c_laws_szInt64S {w0 : World} {l0 : List (Int)} {A0 : Option Addr} {cap0 : Nat} {fp0 : List Nat} {p1 : Int} {r : (Int)} (hm : m_laws_szInt64S l0 p1 = some r) (F0 : Sl 1 encI w0 fp0 A0 l0) :
  Calls Try.prog 57 #[.slice A0 (l0).length cap0, .int .i64 (p1)] w0 fun e w' => e = .returned (.int .i64 (r)) ∧ Chg [] w0 w' := by
 have L0 := F0.low
 have hB : Chg [] w0 w0 := Chg.refl _ _
 have hZ := Nat.le_refl w0.heap.size
 unfold m_laws_szInt64S at hm
 refine enterE (N := 12) Try.func57 (by rfl) Try.ntmps57 (by simp) [(0, .slice A0 (l0).length cap0), (1, .int .i64 (p1))] (by rfl) (by kernel_rfl) (fun a => ?_)
 refine cW_seq ?_
 refine cW_region ?_
 refine wS_pure 1 [(4, .int .i64 (0))] (by kernel_rfl) ?_
 refine wS_end (by rfl) ?_
 refine eX_then ?_
 refine cW_seq ?_
 refine cW_region ?_
 refine wS_pure 5 [(1, .int .i64 (wr (p1 - (((l0).length : Int))))), (8, .int .i64 (wr (p1 - (((l0).length : Int))))), (7, .int .i64 (((l0).length : Int))), (6, .slice A0 (l0).length cap0), (5, .int .i64 (p1))] (by kernel_rfl) ?_
 refine wS_end (by rfl) ?_
 refine eX_then ?_
 refine cW_seq ?_
 refine cW_seq ?_
 refine cW_region ?_
 refine wS_pure 2 [(10, .bool (decide ((wr (p1 - (((l0).length : Int)))) < 0))), (9, .int .i64 (wr (p1 - (((l0).length : Int)))))] (by kernel_rfl) ?_
 refine wS_end (by rfl) ?_
 refine eX_then ?_
 refine cW_cond (t := decide ((wr (p1 - (((l0).length : Int)))) < 0)) (by kernel_rfl) (fun hb1 => ?_) (fun hb1 => ?_)
 ·have hm := condT hb1 hm
  refine cW_seq ?_
  refine cW_region ?_
  refine wS_pure 1 [(4, .int .i64 ((-1)))] (by kernel_rfl) ?_
  refine wS_end (by rfl) ?_
  refine eX_then ?_
  refine cW_ret ?_
  refine eX_then_ret ?_
  have hq : (some ((-1)) : Option ((Int))) = some _ := hm
  replace hq := someE hq
  subst hq
  refine eX_ret (vs := [.int .i64 ((-1))]) [.tmp 4] (by rfl) ⟨by (show lkE _ _ _ = _); kernel_rfl, trivial⟩ ?_
  exact ⟨rfl, hB⟩
 ·have hm := condF hb1 hm
  refine cW_skip ?_
  refine eX_then ?_
  refine cW_seq ?_
  refine cW_region ?_
  refine wS_pure 2 [(4, .int .i64 (wr (p1 - (((l0).length : Int))))), (11, .int .i64 (wr (p1 - (((l0).length : Int)))))] (by kernel_rfl) ?_
  refine wS_end (by rfl) ?_
  refine eX_then ?_
  refine cW_ret ?_
  have hq : (some (wr (p1 - (((l0).length : Int)))) : Option ((Int))) = some _ := hm
  replace hq := someE hq
  subst hq
  refine eX_ret (vs := [.int .i64 (wr (p1 - (((l0).length : Int))))]) [.tmp 4] (by rfl) ⟨by (show lkE _ _ _ = _); kernel_rfl, trivial⟩ ?_
  exact ⟨rfl, hB⟩

set_option maxRecDepth 100000 in
/-- laws.szInt64SS -/
theorem c_laws_szInt64SS {w0 : World} {l0 : List (List (Int))} {A0 : Option Addr} {cap0 : Nat} {fp0 : List Nat} {p1 : Int} {r : (Int)} (hm : m_laws_szInt64SS l0 p1 = some r) (F0 : SlR 1 encI w0 fp0 A0 l0) :
  Calls Try.prog 37 #[.slice A0 (l0).length cap0, .int .i64 (p1)] w0 fun e w' => e = .returned (.int .i64 (r)) ∧ Chg [] w0 w' := by
 have L0 := F0.low
 have hB : Chg [] w0 w0 := Chg.refl _ _
 have hZ := Nat.le_refl w0.heap.size
 unfold m_laws_szInt64SS at hm
 refine enterE (N := 27) Try.func37 (by rfl) Try.ntmps37 (by simp) [(0, .slice A0 (l0).length cap0), (1, .int .i64 (p1))] (by rfl) (by kernel_rfl) (fun a => ?_)
 refine cW_seq ?_
 refine cW_region ?_
 refine wS_pure 1 [(4, .int .i64 (0))] (by kernel_rfl) ?_
 refine wS_end (by rfl) ?_
 refine eX_then ?_
 refine cW_seq ?_
 refine cW_region ?_
 refine wS_pure 5 [(1, .int .i64 (wr (p1 - (((l0).length : Int))))), (9, .int .i64 (wr (p1 - (((l0).length : Int))))), (8, .int .i64 (((l0).length : Int))), (7, .slice A0 (l0).length cap0), (6, .int .i64 (p1))] (by kernel_rfl) ?_
 refine wS_end (by rfl) ?_
 refine eX_then ?_
 refine cW_seq ?_
 refine cW_seq ?_
 refine cW_region ?_
 refine wS_pure 2 [(11, .bool (decide ((wr (p1 - (((l0).length : Int)))) < 0))), (10, .int .i64 (wr (p1 - (((l0).length : Int)))))] (by kernel_rfl) ?_
 refine wS_end (by rfl) ?_
 refine eX_then ?_
 refine cW_cond (t := decide ((wr (p1 - (((l0).length : Int)))) < 0)) (by kernel_rfl) (fun hb1 => ?_) (fun hb1 => ?_)
 ·have hm := condT hb1 hm
  refine cW_seq ?_
  refine cW_region ?_
  refine wS_pure 1 [(4, .int .i64 ((-1)))] (by kernel_rfl) ?_
  refine wS_end (by rfl) ?_
  refine eX_then ?_
  refine cW_ret ?_
  refine eX_then_ret ?_
  have hq : (some ((-1)) : Option ((Int))) = some _ := hm
  replace hq := someE hq
  subst hq
  refine eX_ret (vs := [.int .i64 ((-1))]) [.tmp 4] (by rfl) ⟨by (show lkE _ _ _ = _); kernel_rfl, trivial⟩ ?_
  exact ⟨rfl, hB⟩
 ·have hm := condF hb1 hm
  refine cW_skip ?_
  refine eX_then ?_
  refine cW_seq ?_
  refine cW_seq ?_
  refine cW_region ?_
  refine wS_pure 1 [(5, .int .i64 (0))] (by kernel_rfl) ?_
  refine wS_end (by rfl) ?_
  refine eX_then ?_
  obtain ⟨r1, hr1, hm⟩ := bindE hm
  have hm1 := hm
  refine cW_cut (fun a' w' => ∃ x1 : Int, Sum.inl x1 = r1 ∧ Fr 27 [(1, .int .i64 (x1))] a' ∧ Chg [] w0 w' ∧ w0.heap.size ≤ w'.heap.size) ?_ ?_
  ·refine cW_block ?_
   refine cW_loop _ (fun (s1 : Int × Int) a' w' => ∃ x2 : Int, ∃ x3 : Int, (x2, x3) = s1 ∧ Fr 27 [(0, .slice A0 (l0).length cap0), (1, .int .i64 (x2)), (5, .int .i64 (x3))] a' ∧ SlR 1 encI w' fp0 A0 l0 ∧ Chg [] w0 w' ∧ w0.heap.size ≤ w'.heap.size) hr1 (fun hst => ⟨wr (p1 - (((l0).length : Int))), 0, rfl, Fr.of hst (by kernel_rfl), F0, hB, hZ⟩) ?_
   rintro _ c1 a' w1 ⟨x2, x3, rfl, hF1, F1, hB, hZ⟩ hx1
   refine Fr.goOn hF1 (by kernel_rfl) ?_
   have hm := hx1
   unfold m_laws_szInt64SS_s1 at hm
   refine cW_seq ?_
   refine cW_seq ?_
   refine cW_region ?_
   refine wS_pure 4 [(15, .bool (decide (x3 < (((l0).length : Int))))), (14, .int .i64 (((l0).length : Int))), (13, .slice A0 (l0).length cap0), (12, .int .i64 (x3))] (by kernel_rfl) ?_
   refine wS_end (by rfl) ?_
   refine eX_then ?_
   refine cW_cond (t := decide (x3 < (((l0).length : Int)))) (by kernel_rfl) (fun hb2 => ?_) (fun hb2 => ?_)
   ·have hm := condT hb2 hm
    refine cW_skip ?_
    refine eX_then ?_
    refine cW_seq ?_
    refine cW_block ?_
    refine cW_seq ?_
    refine cW_region ?_
    refine wS_pure 2 [(19, .int .i64 (x3)), (18, .slice A0 (l0).length cap0)] (by kernel_rfl) ?_
    obtain ⟨x4, hx2, hm⟩ := bindE hm
    refine wS_idx (d := 20) (T := 24) (A := A0) (n := (l0).length) (cap := cap0) (kd := .i64) (m := x3) (by kernel_rfl) sl24 (F1.is hx2) ?_
    obtain ⟨A1, cap1, hc1, F2, K1⟩ := SlR.row F1 hx2
    refine wS_load1 (d := 21) (T := 38) (ad := (elA A0 1 (x3) 0)) (v := .slice A1 (x4).length cap1) (by kernel_rfl) vt38 hc1 ?_
    refine wS_pure 1 [(22, .int .i64 (x2))] (by kernel_rfl) ?_
    obtain ⟨y1, hy1, hm⟩ := bindE hm
    refine wS_calls (d := 23) (f := 57) (vs := [.slice A1 (x4).length cap1, .int .i64 (x2)]) (by kernel_rfl) ent57 (c_laws_szInt64S hy1 F2) ?_
    rintro _ w2 ⟨rfl, hc2⟩
    replace F1 := F1.chg hc2 Dj.nil
    replace F2 := F2.chg hc2 Dj.nil
    replace hB := hB.inS hc2 inNil
    replace hZ := Nat.le_trans hZ hc2.size
    refine ⟨.int .i64 (y1), rfl, ?_⟩
    refine wS_pure 1 [(1, .int .i64 (y1))] (by kernel_rfl) ?_
    refine wS_end (by rfl) ?_
    refine eX_then ?_
    refine cW_seq ?_
    refine cW_region ?_
    refine wS_pure 2 [(25, .bool (decide (y1 < 0))), (24, .int .i64 (y1))] (by kernel_rfl) ?_
    refine wS_end (by rfl) ?_
    refine eX_then ?_
    refine cW_cond (t := decide (y1 < 0)) (by kernel_rfl) (fun hb3 => ?_) (fun hb3 => ?_)
    ·have hm := condT hb3 hm
     refine cW_seq ?_
     refine cW_region ?_
     refine wS_pure 1 [(4, .int .i64 ((-1)))] (by kernel_rfl) ?_
     refine wS_end (by rfl) ?_
     refine eX_then ?_
     refine cW_ret ?_
     refine eX_block_ret ?_
     refine eX_then_ret ?_
     have hq : (some (Ctl.out (Sum.inr ((-1)))) : Option (Ctl (Int × Int) (Sum (Int) ((Int))))) = some _ := hm
     replace hq := someE hq
     subst hq
     refine eX_outR hx1 (fun hr => ?_)
     subst hr
     refine eX_block_ret ?_
     refine eX_then_ret ?_
     refine eX_then_ret ?_
     have hq : (some ((-1)) : Option ((Int))) = some _ := hm1
     replace hq := someE hq
     subst hq
     refine eX_ret (vs := [.int .i64 ((-1))]) [.tmp 4] (by rfl) ⟨by (show lkE _ _ _ = _); kernel_rfl, trivial⟩ ?_
     exact ⟨rfl, hB⟩
    ·have hm := condF hb3 hm
     refine cW_skip ?_
     refine eX_block ?_
     refine eX_then ?_
     refine cW_region ?_
     refine wS_pure 3 [(5, .int .i64 (wr (x3 + 1))), (17, .int .i64 (wr (x3 + 1))), (16, .int .i64 (x3))] (by kernel_rfl) ?_
     refine wS_end (by rfl) ?_
     have hq : (some (Ctl.next ((y1, wr (x3 + 1)))) : Option (Ctl (Int × Int) (Sum (Int) ((Int))))) = some _ := hm
     replace hq := someE hq
     subst hq
     exact eX_next hx1 (fun hst => ⟨y1, wr (x3 + 1), rfl, Fr.of hst (by kernel_rfl), F1, hB, hZ⟩)
   ·have hm := condF hb2 hm
    refine cW_exit ?_
    refine eX_then_exit ?_
    have hq : (some (Ctl.out (Sum.inl x2)) : Option (Ctl (Int × Int) (Sum (Int) ((Int))))) = some _ := hm
    replace hq := someE hq
    subst hq
    refine eX_outX hx1 (fun hr2 => ?_)
    replace hr2 := hr2.symm
    subst hr2
    refine eX_block_hit ?_
    exact eX_J (fun hst => ⟨x2, rfl, Fr.of hst (by kernel_rfl), hB, hZ⟩)
  ·rintro a' w3 ⟨x1, hJ, hF2, hB, hZ⟩
   subst hJ
   refine Fr.goX hF2 (by kernel_rfl) ?_
   refine eX_then ?_
   refine cW_seq ?_
   refine cW_region ?_
   refine wS_pure 2 [(4, .int .i64 (x1)), (26, .int .i64 (x1))] (by kernel_rfl) ?_
   refine wS_end (by rfl) ?_
   refine eX_then ?_
   refine cW_ret ?_
   have hq : (some x1 : Option ((Int))) = some _ := hm
   replace hq := someE hq
   subst hq
   refine eX_ret (vs := [.int .i64 (x1)]) [.tmp 4] (by rfl) ⟨by (show lkE _ _ _ = _); kernel_rfl, trivial⟩ ?_
   exact ⟨rfl, hB⟩

set_option maxRecDepth 100000 in
/-- laws.szMaze -/
theorem c_laws_szMaze {w0 : World} {l0_0 : List (List (Int))} {A0_0 : Option Addr} {cap0_0 : Nat} {fp0_0 : List Nat} {p1 : Int} {r : (Int)} (hm : m_laws_szMaze l0_0 p1 = some r) (F0_0 : SlR 1 encI w0 fp0_0 A0_0 l0_0) :
  Calls Try.prog 14 #[.agg #[.slice A0_0 (l0_0).length cap0_0], .int .i64 (p1)] w0 fun e w' => e = .returned (.int .i64 (r)) ∧ Chg [] w0 w' := by
 have L0_0 := F0_0.low
 have hB : Chg [] w0 w0 := Chg.refl _ _
 have hZ := Nat.le_refl w0.heap.size
 unfold m_laws_szMaze at hm
 refine enterE (N := 12) Try.func14 (by rfl) Try.ntmps14 (by simp) [(0, .agg #[.slice A0_0 (l0_0).length cap0_0]), (1, .int .i64 (p1))] (by rfl) (by kernel_rfl) (fun a => ?_)
 refine cW_seq ?_
 refine cW_region ?_
 refine wS_box (d := 2) (T := 41) (x := .agg #[.slice A0_0 (l0_0).length cap0_0]) (by kernel_rfl) ?_
 intro b1 w1 G1 F1 hc1
 replace F1 : Cl w1 b1 41 [.slice A0_0 (l0_0).length cap0_0] := F1
 replace F0_0 := F0_0.chg hc1 Dj.nil
 replace hB := hB.inS hc1 inNil
 replace G1 := Nat.le_trans hZ G1
 replace hZ := Nat.le_trans hZ hc1.size
 refine wS_pure 1 [(4, .int .i64 (0))] (by kernel_rfl) ?_
 refine wS_end (by rfl) ?_
 refine eX_then ?_
 refine cW_seq ?_
 refine cW_region ?_
 refine wS_pure 1 [(5, .pointer (some ⟨b1, 0, none⟩))] (by kernel_rfl) ?_
 refine wS_load1 (d := 6) (T := 24) (ad := ⟨b1, 0, none⟩) (v := .slice A0_0 (l0_0).length cap0_0) (by kernel_rfl) vt24 ((F1).cell 0) ?_
 refine wS_pure 1 [(7, .int .i64 (p1))] (by kernel_rfl) ?_
 obtain ⟨y1, hy1, hm⟩ := bindE hm
 refine wS_calls (d := 8) (f := 37) (vs := [.slice A0_0 (l0_0).length cap0_0, .int .i64 (p1)]) (by kernel_rfl) ent37 (c_laws_szInt64SS hy1 F0_0) ?_
 rintro _ w2 ⟨rfl, hc2⟩
 replace F0_0 := F0_0.chg hc2 Dj.nil
 replace F1 := F1.chg hc2 notNil
 replace hB := hB.inS hc2 inNil
 replace hZ := Nat.le_trans hZ hc2.size
 refine ⟨.int .i64 (y1), rfl, ?_⟩
 refine wS_pure 1 [(1, .int .i64 (y1))] (by kernel_rfl) ?_
 refine wS_end (by rfl) ?_
 refine eX_then ?_
 refine cW_seq ?_
 refine cW_seq ?_
 refine cW_region ?_
 refine wS_pure 2 [(10, .bool (decide (y1 < 0))), (9, .int .i64 (y1))] (by kernel_rfl) ?_
 refine wS_end (by rfl) ?_
 refine eX_then ?_
 refine cW_cond (t := decide (y1 < 0)) (by kernel_rfl) (fun hb1 => ?_) (fun hb1 => ?_)
 ·have hm := condT hb1 hm
  refine cW_seq ?_
  refine cW_region ?_
  refine wS_pure 1 [(4, .int .i64 ((-1)))] (by kernel_rfl) ?_
  refine wS_end (by rfl) ?_
  refine eX_then ?_
  refine cW_ret ?_
  refine eX_then_ret ?_
  have hq : (some ((-1)) : Option ((Int))) = some _ := hm
  replace hq := someE hq
  subst hq
  refine eX_ret (vs := [.int .i64 ((-1))]) [.tmp 4] (by rfl) ⟨by (show lkE _ _ _ = _); kernel_rfl, trivial⟩ ?_
  exact ⟨rfl, hB⟩
 ·have hm := condF hb1 hm
  refine cW_skip ?_
  refine eX_then ?_
  refine cW_seq ?_
  refine cW_region ?_
  refine wS_pure 2 [(4, .int .i64 (y1)), (11, .int .i64 (y1))] (by kernel_rfl) ?_
  refine wS_end (by rfl) ?_
  refine eX_then ?_
  refine cW_ret ?_
  have hq : (some y1 : Option ((Int))) = some _ := hm
  replace hq := someE hq
  subst hq
  refine eX_ret (vs := [.int .i64 (y1)]) [.tmp 4] (by rfl) ⟨by (show lkE _ _ _ = _); kernel_rfl, trivial⟩ ?_
  exact ⟨rfl, hB⟩

set_option maxRecDepth 100000 in
/-- spec.l00Max -/
theorem c_spec_l00Max {w0 : World} {p0 : Int} {p1 : Int} {r : (Int)} (hm : m_spec_l00Max p0 p1 = some r)  :
  Calls Try.prog 77 #[.int .i64 (p0), .int .i64 (p1)] w0 fun e w' => e = .returned (.int .i64 (r)) ∧ Chg [] w0 w' := by
 have hB : Chg [] w0 w0 := Chg.refl _ _
 have hZ := Nat.le_refl w0.heap.size
 unfold m_spec_l00Max at hm
 refine enterE (N := 10) Try.func77 (by rfl) Try.ntmps77 (by simp) [(0, .int .i64 (p0)), (1, .int .i64 (p1))] (by rfl) (by kernel_rfl) (fun a => ?_)
 refine cW_seq ?_
 refine cW_region ?_
 refine wS_pure 1 [(4, .int .i64 (0))] (by kernel_rfl) ?_
 refine wS_end (by rfl) ?_
 refine eX_then ?_
 refine cW_seq ?_
 refine cW_seq ?_
 refine cW_region ?_
 refine wS_pure 3 [(7, .bool (decide (p0 > p1))), (6, .int .i64 (p1)), (5, .int .i64 (p0))] (by kernel_rfl) ?_
 refine wS_end (by rfl) ?_
 refine eX_then ?_
 refine cW_cond (t := decide (p0 > p1)) (by kernel_rfl) (fun hb1 => ?_) (fun hb1 => ?_)
 ·have hm := condT hb1 hm
  refine cW_seq ?_
  refine cW_region ?_
  refine wS_pure 2 [(4, .int .i64 (p0)), (8, .int .i64 (p0))] (by kernel_rfl) ?_
  refine wS_end (by rfl) ?_
  refine eX_then ?_
  refine cW_ret ?_
  refine eX_then_ret ?_
  have hq : (some p0 : Option ((Int))) = some _ := hm
  replace hq := someE hq
  subst hq
  refine eX_ret (vs := [.int .i64 (p0)]) [.tmp 4] (by rfl) ⟨by (show lkE _ _ _ = _); kernel_rfl, trivial⟩ ?_
  exact ⟨rfl, hB⟩
 ·have hm := condF hb1 hm
  refine cW_skip ?_
  refine eX_then ?_
  refine cW_seq ?_
  refine cW_region ?_
  refine wS_pure 2 [(4, .int .i64 (p1)), (9, .int .i64 (p1))] (by kernel_rfl) ?_
  refine wS_end (by rfl) ?_
  refine eX_then ?_
  refine cW_ret ?_
  have hq : (some p1 : Option ((Int))) = some _ := hm
  replace hq := someE hq
  subst hq
  refine eX_ret (vs := [.int .i64 (p1)]) [.tmp 4] (by rfl) ⟨by (show lkE _ _ _ = _); kernel_rfl, trivial⟩ ?_
  exact ⟨rfl, hB⟩

set_option maxRecDepth 100000 in
/-- spec.l01Abs -/
theorem c_spec_l01Abs {w0 : World} {p0 : Int} {r : (Int)} (hm : m_spec_l01Abs p0 = some r)  :
  Calls Try.prog 71 #[.int .i64 (p0)] w0 fun e w' => e = .returned (.int .i64 (r)) ∧ Chg [] w0 w' := by
 have hB : Chg [] w0 w0 := Chg.refl _ _
 have hZ := Nat.le_refl w0.heap.size
 unfold m_spec_l01Abs at hm
 refine enterE (N := 7) Try.func71 (by rfl) Try.ntmps71 (by simp) [(0, .int .i64 (p0))] (by rfl) (by kernel_rfl) (fun a => ?_)
 refine cW_seq ?_
 refine cW_region ?_
 refine wS_pure 1 [(2, .int .i64 (0))] (by kernel_rfl) ?_
 refine wS_end (by rfl) ?_
 refine eX_then ?_
 refine cW_seq ?_
 refine cW_region ?_
 refine wS_pure 3 [(5, .int .i64 (wr (0 - p0))), (4, .int .i64 (p0)), (3, .int .i64 (p0))] (by kernel_rfl) ?_
 obtain ⟨y1, hy1, hm⟩ := bindE hm
 refine wS_calls (d := 6) (f := 77) (vs := [.int .i64 (p0), .int .i64 (wr (0 - p0))]) (by kernel_rfl) ent77 (c_spec_l00Max hy1) ?_
 rintro _ w1 ⟨rfl, hc1⟩
 replace hB := hB.inS hc1 inNil
 replace hZ := Nat.le_trans hZ hc1.size
 refine ⟨.int .i64 (y1), rfl, ?_⟩
 refine wS_pure 1 [(2, .int .i64 (y1))] (by kernel_rfl) ?_
 refine wS_end (by rfl) ?_
 refine eX_then ?_
 refine cW_ret ?_
 have hq : (some y1 : Option ((Int))) = some _ := hm
 replace hq := someE hq
 subst hq
 refine eX_ret (vs := [.int .i64 (y1)]) [.tmp 2] (by rfl) ⟨by (show lkE _ _ _ = _); kernel_rfl, trivial⟩ ?_
 exact ⟨rfl, hB⟩

set_option maxRecDepth 100000 in
/-- spec.l01Far -/
theorem c_spec_l01Far {w0 : World} {p0_0 : Int} {p0_1 : Int} {p1_0 : Int} {p1_1 : Int} {r : (Int)} (hm : m_spec_l01Far p0_0 p0_1 p1_0 p1_1 = some r)  :
  Calls Try.prog 59 #[.agg #[.int .i64 (p0_0), .int .i64 (p0_1)], .agg #[.int .i64 (p1_0), .int .i64 (p1_1)]] w0 fun e w' => e = .returned (.int .i64 (r)) ∧ Chg [] w0 w' := by
 have hB : Chg [] w0 w0 := Chg.refl _ _
 have hZ := Nat.le_refl w0.heap.size
 unfold m_spec_l01Far at hm
 refine enterE (N := 18) Try.func59 (by rfl) Try.ntmps59 (by simp) [(0, .agg #[.int .i64 (p0_0), .int .i64 (p0_1)]), (1, .agg #[.int .i64 (p1_0), .int .i64 (p1_1)])] (by rfl) (by kernel_rfl) (fun a => ?_)
 refine cW_seq ?_
 refine cW_region ?_
 refine wS_box (d := 2) (T := 29) (x := .agg #[.int .i64 (p0_0), .int .i64 (p0_1)]) (by kernel_rfl) ?_
 intro b1 w1 G1 F1 hc1
 replace F1 : Cl w1 b1 29 [.int .i64 (p0_0), .int .i64 (p0_1)] := F1
 replace hB := hB.inS hc1 inNil
 replace G1 := Nat.le_trans hZ G1
 replace hZ := Nat.le_trans hZ hc1.size
 refine wS_box (d := 3) (T := 29) (x := .agg #[.int .i64 (p1_0), .int .i64 (p1_1)]) (by kernel_rfl) ?_
 intro b2 w2 G2 F2 hc2
 replace F2 : Cl w2 b2 29 [.int .i64 (p1_0), .int .i64 (p1_1)] := F2
 have D1 : Dj [b1] [b2] := Dj.of (lt1 F1.lt) (low1 G2)
 replace F1 := F1.chg hc2 notNil
 replace hB := hB.inS hc2 inNil
 replace G2 := Nat.le_trans hZ G2
 replace hZ := Nat.le_trans hZ hc2.size
 refine wS_pure 1 [(4, .int .i64 (0))] (by kernel_rfl) ?_
 refine wS_end (by rfl) ?_
 refine eX_then ?_
 refine cW_seq ?_
 refine cW_drawnTail [] 11 (by kernel_rfl) (by kernel_rfl) (fun w3 hc3 => ?_)
 replace F1 := F1.chg hc3 notNil
 replace F2 := F2.chg hc3 notNil
 replace hB := hB.inS hc3 inNil
 replace hZ := Nat.le_trans hZ hc3.size
 have hS := Chg.refl [] w3
 have Z1 := F1
 have Z2 := F2
 refine wH_take [0] [0] [(5, .pointer (some ⟨b1, 0, none⟩))] (by kernel_rfl) (qT (qT qZ)) (by kernel_rfl) ?_
 refine wH_load1 (i := 1) (d := 6) (T := 2) (ad := ⟨b1, 0, none⟩) (v := .int .i64 (p0_0)) (by kernel_rfl) (qT (qT qZ)) (by kernel_rfl) (by kernel_rfl) vt2 (fun W hW => (Z1.chg hW notNil).cell 0) ?_
 refine wH_take [2] [2, 1, 0] [(7, .pointer (some ⟨b2, 0, none⟩))] (by kernel_rfl) (qT (qT qZ)) (by kernel_rfl) ?_
 refine wH_load1 (i := 3) (d := 8) (T := 2) (ad := ⟨b2, 0, none⟩) (v := .int .i64 (p1_0)) (by kernel_rfl) (qT (qT qZ)) (by kernel_rfl) (by kernel_rfl) vt2 (fun W hW => (Z2.chg hW notNil).cell 0) ?_
 refine wH_take [4, 6] [6, 4, 3, 2, 1, 0] [(11, .pointer (some ⟨b1, 1, none⟩)), (9, .int .i64 (wr (p0_0 - p1_0)))] (by kernel_rfl) (qT (qT qZ)) (by kernel_rfl) ?_
 refine wH_load1 (i := 7) (d := 12) (T := 2) (ad := ⟨b1, 1, none⟩) (v := .int .i64 (p0_1)) (by kernel_rfl) (qT (qT qZ)) (by kernel_rfl) (by kernel_rfl) vt2 (fun W hW => (Z1.chg hW notNil).cell 1) ?_
 refine wH_take [8] [8, 7, 6, 4, 3, 2, 1, 0] [(13, .pointer (some ⟨b2, 1, none⟩))] (by kernel_rfl) (qT (qT qZ)) (by kernel_rfl) ?_
 refine wH_load1 (i := 9) (d := 14) (T := 2) (ad := ⟨b2, 1, none⟩) (v := .int .i64 (p1_1)) (by kernel_rfl) (qT (qT qZ)) (by kernel_rfl) (by kernel_rfl) vt2 (fun W hW => (Z2.chg hW notNil).cell 1) ?_
 refine wH_take [10] [10, 9, 8, 7, 6, 4, 3, 2, 1, 0] [(15, .int .i64 (wr (p0_1 - p1_1)))] (by kernel_rfl) (qT (qT qZ)) (by kernel_rfl) ?_
 refine wH_all [5] (by rfl) (by kernel_rfl) (by simp) ⟨⟨by kernel_rfl, ?_⟩, trivial⟩
 obtain ⟨y1, hy1, hm⟩ := bindE hm
 refine wS_calls (d := 10) (f := 71) (vs := [.int .i64 (wr (p0_0 - p1_0))]) (by kernel_rfl) ent71 (c_spec_l01Abs hy1) ?_
 rintro _ w4 ⟨rfl, hc4⟩
 replace F1 := F1.chg hc4 notNil
 replace F2 := F2.chg hc4 notNil
 replace hB := hB.inS hc4 inNil
 have hSz := hS
 replace hS := hS.inS hc4 inNil
 replace hZ := Nat.le_trans hZ hc4.size
 refine ⟨.int .i64 (y1), rfl, ?_⟩
 refine wS_end (by kernel_rfl) ?_
 refine eX_KH hS ?_
 refine wH_done (by kernel_rfl) ?_
 refine eX_tail ?_
 obtain ⟨y2, hy2, hm⟩ := bindE hm
 refine wS_calls (d := 16) (f := 71) (vs := [.int .i64 (wr (p0_1 - p1_1))]) (by kernel_rfl) ent71 (c_spec_l01Abs hy2) ?_
 rintro _ w5 ⟨rfl, hc5⟩
 replace F1 := F1.chg hc5 notNil
 replace F2 := F2.chg hc5 notNil
 replace hB := hB.inS hc5 inNil
 replace hZ := Nat.le_trans hZ hc5.size
 refine ⟨.int .i64 (y2), rfl, ?_⟩
 refine wS_pure 2 [(4, .int .i64 (wr (y1 + y2))), (17, .int .i64 (wr (y1 + y2)))] (by kernel_rfl) ?_
 refine wS_end (by rfl) ?_
 refine eX_then ?_
 refine cW_ret ?_
 have hq : (some (wr (y1 + y2)) : Option ((Int))) = some _ := hm
 replace hq := someE hq
 subst hq
 refine eX_ret (vs := [.int .i64 (wr (y1 + y2))]) [.tmp 4] (by rfl) ⟨by (show lkE _ _ _ = _); kernel_rfl, trivial⟩ ?_
 exact ⟨rfl, hB⟩

set_option maxRecDepth 100000 in
/-- spec.l04Step -/
theorem c_spec_l04Step {w0 : World} {p0_0 : Int} {p0_1 : Int} {p1 : Int} {r : (Int × Int)} (hm : m_spec_l04Step p0_0 p0_1 p1 = some r)  :
  Calls Try.prog 72 #[.agg #[.int .i64 (p0_0), .int .i64 (p0_1)], .int .i64 (p1)] w0 fun e w' => e = .returned (.agg #[.int .i64 (r.1), .int .i64 (r.2)]) ∧ Chg [] w0 w' := by
 have hB : Chg [] w0 w0 := Chg.refl _ _
 have hZ := Nat.le_refl w0.heap.size
 unfold m_spec_l04Step at hm
 refine enterE (N := 36) Try.func72 (by rfl) Try.ntmps72 (by simp) [(0, .agg #[.int .i64 (p0_0), .int .i64 (p0_1)]), (1, .int .i64 (p1))] (by rfl) (by kernel_rfl) (fun a => ?_)
 refine cW_seq ?_
 refine cW_region ?_
 refine wS_box (d := 2) (T := 29) (x := .agg #[.int .i64 (p0_0), .int .i64 (p0_1)]) (by kernel_rfl) ?_
 intro b1 w1 G1 F1 hc1
 replace F1 : Cl w1 b1 29 [.int .i64 (p0_0), .int .i64 (p0_1)] := F1
 replace hB := hB.inS hc1 inNil
 replace G1 := Nat.le_trans hZ G1
 replace hZ := Nat.le_trans hZ hc1.size
 refine wS_alloc (d := 4) (T := 29) (z := .agg #[.int .i64 (0), .int .i64 (0)]) (by kernel_rfl) (by kernel_rfl) ?_
 intro b2 w2 G2 F2 hc2
 replace F2 : Cl w2 b2 29 [.int .i64 (0), .int .i64 (0)] := F2
 have D1 : Dj [b1] [b2] := Dj.of (lt1 F1.lt) (low1 G2)
 replace F1 := F1.chg hc2 notNil
 replace hB := hB.inS hc2 inNil
 replace G2 := Nat.le_trans hZ G2
 replace hZ := Nat.le_trans hZ hc2.size
 refine wS_end (by rfl) ?_
 refine eX_then ?_
 refine cW_seq ?_
 refine cW_seq ?_
 refine cW_region ?_
 refine wS_pure 1 [(5, .int .i64 (p1))] (by kernel_rfl) ?_
 refine wS_end (by rfl) ?_
 refine eX_then ?_
 refine cW_block ?_
 refine cW_seq ?_
 refine cW_region ?_
 refine wS_pure 2 [(6, .bool (p1 == 0)), (7, .bool (p1 == 0))] (by kernel_rfl) ?_
 refine wS_end (by rfl) ?_
 refine eX_then ?_
 refine cW_cond (t := p1 == 0) (by kernel_rfl) (fun hb1 => ?_) (fun hb1 => ?_)
 ·have hm := condT hb1 hm
  refine cW_seq ?_
  refine cW_region ?_
  refine wS_pure 1 [(8, .pointer (some ⟨b1, 0, none⟩))] (by kernel_rfl) ?_
  refine wS_load1 (d := 9) (T := 2) (ad := ⟨b1, 0, none⟩) (v := .int .i64 (p0_0)) (by kernel_rfl) vt2 ((F1).cell 0) ?_
  refine wS_pure 1 [(10, .pointer (some ⟨b1, 1, none⟩))] (by kernel_rfl) ?_
  refine wS_load1 (d := 11) (T := 2) (ad := ⟨b1, 1, none⟩) (v := .int .i64 (p0_1)) (by kernel_rfl) vt2 ((F1).cell 1) ?_
  refine wS_pure 2 [(13, .agg #[.int .i64 (p0_0), .int .i64 (wr (p0_1 - 1))]), (12, .int .i64 (wr (p0_1 - 1)))] (by kernel_rfl) ?_
  refine wS_store (T := 29) (g := b2) (o := 0) (ad := ⟨b2, 0, none⟩) (v := .agg #[.int .i64 (p0_0), .int .i64 (wr (p0_1 - 1))]) (vs := [.int .i64 (p0_0), .int .i64 (wr (p0_1 - 1))]) (by kernel_rfl) (by rfl) sz29 (by rfl) (by rfl) F2 (by simp only [List.length_cons, List.length_nil]; omega) ?_
  intro w3 F3 hc3
  replace F1 := F1.chg hc3 (dj1 D1)
  replace hB := hB.inS hc3 (inLow (low1 G2))
  replace hZ := Nat.le_trans hZ hc3.size
  replace F3 : Cl w3 b2 29 [.int .i64 (p0_0), .int .i64 (wr (p0_1 - 1))] := F3
  clear F2
  refine wS_end (by rfl) ?_
  refine eX_then ?_
  refine cW_ret ?_
  refine eX_block_ret ?_
  refine eX_then_ret ?_
  have hq : (some ((p0_0, wr (p0_1 - 1))) : Option ((Int × Int))) = some _ := hm
  replace hq := someE hq
  subst hq
  refine eX_ret (vs := [.agg #[.int .i64 (p0_0), .int .i64 (wr (p0_1 - 1))]]) [.cell 4 29] (by rfl) ⟨⟨⟨b2, 0, none⟩, by kernel_rfl, run_loadVarA (vs := [.int .i64 (p0_0), .int .i64 (wr (p0_1 - 1))]) vt29 (fun i u hu => by exact box_cells F3 0 hu (by rfl))⟩, trivial⟩ ?_
  exact ⟨rfl, hB⟩
 ·have hm := condF hb1 hm
  refine cW_seq ?_
  refine cW_region ?_
  refine wS_pure 2 [(14, .bool (p1 == 1)), (15, .bool (p1 == 1))] (by kernel_rfl) ?_
  refine wS_end (by rfl) ?_
  refine eX_then ?_
  refine cW_cond (t := p1 == 1) (by kernel_rfl) (fun hb2 => ?_) (fun hb2 => ?_)
  ·have hm := condT hb2 hm
   refine cW_seq ?_
   refine cW_region ?_
   refine wS_pure 1 [(16, .pointer (some ⟨b1, 0, none⟩))] (by kernel_rfl) ?_
   refine wS_load1 (d := 17) (T := 2) (ad := ⟨b1, 0, none⟩) (v := .int .i64 (p0_0)) (by kernel_rfl) vt2 ((F1).cell 0) ?_
   refine wS_pure 2 [(19, .pointer (some ⟨b1, 1, none⟩)), (18, .int .i64 (wr (p0_0 - 1)))] (by kernel_rfl) ?_
   refine wS_load1 (d := 20) (T := 2) (ad := ⟨b1, 1, none⟩) (v := .int .i64 (p0_1)) (by kernel_rfl) vt2 ((F1).cell 1) ?_
   refine wS_pure 1 [(21, .agg #[.int .i64 (wr (p0_0 - 1)), .int .i64 (p0_1)])] (by kernel_rfl) ?_
   refine wS_store (T := 29) (g := b2) (o := 0) (ad := ⟨b2, 0, none⟩) (v := .agg #[.int .i64 (wr (p0_0 - 1)), .int .i64 (p0_1)]) (vs := [.int .i64 (wr (p0_0 - 1)), .int .i64 (p0_1)]) (by kernel_rfl) (by rfl) sz29 (by rfl) (by rfl) F2 (by simp only [List.length_cons, List.length_nil]; omega) ?_
   intro w4 F4 hc4
   replace F1 := F1.chg hc4 (dj1 D1)
   replace hB := hB.inS hc4 (inLow (low1 G2))
   replace hZ := Nat.le_trans hZ hc4.size
   replace F4 : Cl w4 b2 29 [.int .i64 (wr (p0_0 - 1)), .int .i64 (p0_1)] := F4
   clear F2
   refine wS_end (by rfl) ?_
   refine eX_then ?_
   refine cW_ret ?_
   refine eX_block_ret ?_
   refine eX_then_ret ?_
   have hq : (some ((wr (p0_0 - 1), p0_1)) : Option ((Int × Int))) = some _ := hm
   replace hq := someE hq
   subst hq
   refine eX_ret (vs := [.agg #[.int .i64 (wr (p0_0 - 1)), .int .i64 (p0_1)]]) [.cell 4 29] (by rfl) ⟨⟨⟨b2, 0, none⟩, by kernel_rfl, run_loadVarA (vs := [.int .i64 (wr (p0_0 - 1)), .int .i64 (p0_1)]) vt29 (fun i u hu => by exact box_cells F4 0 hu (by rfl))⟩, trivial⟩ ?_
   exact ⟨rfl, hB⟩
  ·have hm := condF hb2 hm
   refine cW_seq ?_
   refine cW_region ?_
   refine wS_pure 2 [(22, .bool (p1 == 2)), (23, .bool (p1 == 2))] (by kernel_rfl) ?_
   refine wS_end (by rfl) ?_
   refine eX_then ?_
   refine cW_cond (t := p1 == 2) (by kernel_rfl) (fun hb3 => ?_) (fun hb3 => ?_)
   ·have hm := condT hb3 hm
    refine cW_seq ?_
    refine cW_region ?_
    refine wS_pure 1 [(24, .pointer (some ⟨b1, 0, none⟩))] (by kernel_rfl) ?_
    refine wS_load1 (d := 25) (T := 2) (ad := ⟨b1, 0, none⟩) (v := .int .i64 (p0_0)) (by kernel_rfl) vt2 ((F1).cell 0) ?_
    refine wS_pure 2 [(27, .pointer (some ⟨b1, 1, none⟩)), (26, .int .i64 (wr (p0_0 + 1)))] (by kernel_rfl) ?_
    refine wS_load1 (d := 28) (T := 2) (ad := ⟨b1, 1, none⟩) (v := .int .i64 (p0_1)) (by kernel_rfl) vt2 ((F1).cell 1) ?_
    refine wS_pure 1 [(29, .agg #[.int .i64 (wr (p0_0 + 1)), .int .i64 (p0_1)])] (by kernel_rfl) ?_
    refine wS_store (T := 29) (g := b2) (o := 0) (ad := ⟨b2, 0, none⟩) (v := .agg #[.int .i64 (wr (p0_0 + 1)), .int .i64 (p0_1)]) (vs := [.int .i64 (wr (p0_0 + 1)), .int .i64 (p0_1)]) (by kernel_rfl) (by rfl) sz29 (by rfl) (by rfl) F2 (by simp only [List.length_cons, List.length_nil]; omega) ?_
    intro w5 F5 hc5
    replace F1 := F1.chg hc5 (dj1 D1)
    replace hB := hB.inS hc5 (inLow (low1 G2))
    replace hZ := Nat.le_trans hZ hc5.size
    replace F5 : Cl w5 b2 29 [.int .i64 (wr (p0_0 + 1)), .int .i64 (p0_1)] := F5
    clear F2
    refine wS_end (by rfl) ?_
    refine eX_then ?_
    refine cW_ret ?_
    refine eX_block_ret ?_
    refine eX_then_ret ?_
    have hq : (some ((wr (p0_0 + 1), p0_1)) : Option ((Int × Int))) = some _ := hm
    replace hq := someE hq
    subst hq
    refine eX_ret (vs := [.agg #[.int .i64 (wr (p0_0 + 1)), .int .i64 (p0_1)]]) [.cell 4 29] (by rfl) ⟨⟨⟨b2, 0, none⟩, by kernel_rfl, run_loadVarA (vs := [.int .i64 (wr (p0_0 + 1)), .int .i64 (p0_1)]) vt29 (fun i u hu => by exact box_cells F5 0 hu (by rfl))⟩, trivial⟩ ?_
    exact ⟨rfl, hB⟩
   ·have hm := condF hb3 hm
    refine cW_skip ?_
    refine eX_block ?_
    refine eX_then ?_
    refine cW_seq ?_
    refine cW_region ?_
    refine wS_pure 1 [(30, .pointer (some ⟨b1, 0, none⟩))] (by kernel_rfl) ?_
    refine wS_load1 (d := 31) (T := 2) (ad := ⟨b1, 0, none⟩) (v := .int .i64 (p0_0)) (by kernel_rfl) vt2 ((F1).cell 0) ?_
    refine wS_pure 1 [(32, .pointer (some ⟨b1, 1, none⟩))] (by kernel_rfl) ?_
    refine wS_load1 (d := 33) (T := 2) (ad := ⟨b1, 1, none⟩) (v := .int .i64 (p0_1)) (by kernel_rfl) vt2 ((F1).cell 1) ?_
    refine wS_pure 2 [(35, .agg #[.int .i64 (p0_0), .int .i64 (wr (p0_1 + 1))]), (34, .int .i64 (wr (p0_1 + 1)))] (by kernel_rfl) ?_
    refine wS_store (T := 29) (g := b2) (o := 0) (ad := ⟨b2, 0, none⟩) (v := .agg #[.int .i64 (p0_0), .int .i64 (wr (p0_1 + 1))]) (vs := [.int .i64 (p0_0), .int .i64 (wr (p0_1 + 1))]) (by kernel_rfl) (by rfl) sz29 (by rfl) (by rfl) F2 (by simp only [List.length_cons, List.length_nil]; omega) ?_
    intro w6 F6 hc6
    replace F1 := F1.chg hc6 (dj1 D1)
    replace hB := hB.inS hc6 (inLow (low1 G2))
    replace hZ := Nat.le_trans hZ hc6.size
    replace F6 : Cl w6 b2 29 [.int .i64 (p0_0), .int .i64 (wr (p0_1 + 1))] := F6
    clear F2
    refine wS_end (by rfl) ?_
    refine eX_then ?_
    refine cW_ret ?_
    have hq : (some ((p0_0, wr (p0_1 + 1))) : Option ((Int × Int))) = some _ := hm
    replace hq := someE hq
    subst hq
    refine eX_ret (vs := [.agg #[.int .i64 (p0_0), .int .i64 (wr (p0_1 + 1))]]) [.cell 4 29] (by rfl) ⟨⟨⟨b2, 0, none⟩, by kernel_rfl, run_loadVarA (vs := [.int .i64 (p0_0), .int .i64 (wr (p0_1 + 1))]) vt29 (fun i u hu => by exact box_cells F6 0 hu (by rfl))⟩, trivial⟩ ?_
    exact ⟨rfl, hB⟩

set_option maxRecDepth 100000 in
/-- spec.l04Search -/
theorem c_spec_l04Search {w0 : World} {l0 : List (List (Int))} {A0 : Option Addr} {cap0 : Nat} {fp0 : List Nat} {p1 : Int} {r : (List (Int))} (hm : m_spec_l04Search l0 p1 = some r) (F0 : SlR 1 encI w0 fp0 A0 l0) :
  Calls Try.prog 62 #[.slice A0 (l0).length cap0, .int .i64 (p1)] w0 fun e w' => ∃ A100 cap100 fp100, e = .returned (.slice A100 (r).length cap100) ∧ Ow 1 encI 2 w' fp100 A100 cap100 r ∧ (∀ x ∈ fp100, w0.heap.size ≤ x) ∧ Chg [] w0 w' := by
 have L0 := F0.low
 have hB : Chg [] w0 w0 := Chg.refl _ _
 have hZ := Nat.le_refl w0.heap.size
 unfold m_spec_l04Search at hm
 refine enterE (N := 68) Try.func62 (by rfl) Try.ntmps62 (by simp) [(0, .slice A0 (l0).length cap0), (1, .int .i64 (p1))] (by rfl) (by kernel_rfl) (fun a => ?_)
 refine cW_seq ?_
 refine cW_region ?_
 refine wS_pure 1 [(4, .slice none 0 0)] (by kernel_rfl) ?_
 refine wS_end (by rfl) ?_
 refine eX_then ?_
 refine cW_seq ?_
 refine cW_region ?_
 refine wS_bs0 (α := Int) (enc := encI) (d := 10) (t := 38) (T := 2) (by kernel_rfl) el38 ?_
 intro b1 w1 G1 F1 hc1
 replace F0 := F0.chg hc1 Dj.nil
 replace hB := hB.inS hc1 inNil
 replace G1 := Nat.le_trans hZ G1
 replace G1 := low1 G1
 replace hZ := Nat.le_trans hZ hc1.size
 refine wS_pure 1 [(5, .slice (some ⟨b1, 0, none⟩) (([] : List (Int))).length 0)] (by kernel_rfl) ?_
 refine wS_end (by rfl) ?_
 refine eX_then ?_
 refine cW_seq ?_
 refine cW_seq ?_
 refine cW_region ?_
 refine wS_pure 1 [(6, .int .i64 (0))] (by kernel_rfl) ?_
 refine wS_end (by rfl) ?_
 refine eX_then ?_
 obtain ⟨r1, hr1, hm⟩ := bindE hm
 have hm1 := hm
 refine cW_cut (fun a' w' => ∃ l1 : List (Int), ∃ A1 : Option Addr, ∃ cap1 : Nat, ∃ fp1 : List Nat, l1 = r1 ∧ Fr 68 [(0, .slice A0 (l0).length cap0), (1, .int .i64 (p1)), (5, .slice A1 (l1).length cap1)] a' ∧ SlR 1 encI w' fp0 A0 l0 ∧ Ow 1 encI 2 w' fp1 A1 cap1 l1 ∧ (∀ x ∈ fp1, w0.heap.size ≤ x) ∧ Chg [] w0 w' ∧ w0.heap.size ≤ w'.heap.size) ?_ ?_
 ·refine cW_block ?_
  refine cW_loop _ (fun (s1 : (List (Int)) × Int) a' w' => ∃ l3 : List (Int), ∃ A3 : Option Addr, ∃ cap3 : Nat, ∃ fp2 : List Nat, ∃ x1 : Int, (l3, x1) = s1 ∧ Fr 68 [(0, .slice A0 (l0).length cap0), (1, .int .i64 (p1)), (5, .slice A3 (l3).length cap3), (6, .int .i64 (x1))] a' ∧ SlR 1 encI w' fp0 A0 l0 ∧ Ow 1 encI 2 w' fp2 A3 cap3 l3 ∧ (∀ x ∈ fp2, w0.heap.size ≤ x) ∧ Chg [] w0 w' ∧ w0.heap.size ≤ w'.heap.size) hr1 (fun hst => ⟨([] : List (Int)), (some ⟨b1, 0, none⟩), 0, [b1], 0, rfl, Fr.of hst (by kernel_rfl), F0, F1, G1, hB, hZ⟩) ?_
  rintro _ c1 a' w2 ⟨l3, A3, cap3, fp2, x1, rfl, hF1, F2, F3, G2, hB, hZ⟩ hx1
  refine Fr.goOn hF1 (by kernel_rfl) ?_
  have hm := hx1
  unfold m_spec_l04Search_s1 at hm
  refine cW_seq ?_
  refine cW_seq ?_
  refine cW_region ?_
  refine wS_pure 4 [(14, .bool (decide (x1 < (((l0).length : Int))))), (13, .int .i64 (((l0).length : Int))), (12, .slice A0 (l0).length cap0), (11, .int .i64 (x1))] (by kernel_rfl) ?_
  refine wS_end (by rfl) ?_
  refine eX_then ?_
  refine cW_cond (t := decide (x1 < (((l0).length : Int)))) (by kernel_rfl) (fun hb1 => ?_) (fun hb1 => ?_)
  ·have hm := condT hb1 hm
   refine cW_skip ?_
   refine eX_then ?_
   refine cW_seq ?_
   refine cW_block ?_
   refine cW_region ?_
   refine wS_pure 1 [(17, .slice A3 (l3).length cap3)] (by kernel_rfl) ?_
   refine wS_bs (enc := encI) ([(-1)] : List (Int)) [.int .i64 ((-1))] (d := 18) (t := 38) (T := 2) (n := 1) (ps := [(0, .int .i64 ((-1)))]) (by kernel_rfl) el38 encI_ok (by rfl) (by omega) (by omega) (by kernel_rfl) (by rfl) ?_
   intro b2 w3 G3 F4 hc2
   have D1 : Dj fp2 [b2] := Dj.of F3.low (low1 G3)
   replace F2 := F2.chg hc2 Dj.nil
   replace F3 := F3.chg hc2 Dj.nil
   replace hB := hB.inS hc2 inNil
   replace G3 := Nat.le_trans hZ G3
   replace G3 := low1 G3
   replace hZ := Nat.le_trans hZ hc2.size
   obtain ⟨_, hk1, hm⟩ := bindE hm
   replace hk1 := apE hk1
   refine wS_append (enc := encI) (l := (l3 : List (Int))) (l2 := (([(-1)] : List (Int)) : List (Int))) (d := 19) (t := 38) (T := 2) (A := A3) (A2 := (some ⟨b2, 0, none⟩)) (cap := cap3) (cap2 := 1) (by kernel_rfl) el38 encI_ok F3 (F4.sl encI_ok) (by rfl) hk1 ?_
   intro w4 fp3 A4 cap4 F5 hc3 hp1
   have G4 := low_ap G2 hZ hp1
   have D2 : Dj [b2] fp3 := Dj.ap (D1).symm F4.low hp1
   replace F2 := F2.chg hc3 (Dj.of L0 G2)
   replace F4 := F4.chg hc3 (D1).symm
   replace hB := hB.inS hc3 (inLow G2)
   replace hZ := Nat.le_trans hZ hc3.size
   refine wS_pure 1 [(5, .slice A4 (l3 ++ (([(-1)] : List (Int)))).length cap4)] (by kernel_rfl) ?_
   refine wS_end (by rfl) ?_
   refine eX_block ?_
   refine eX_then ?_
   refine cW_region ?_
   refine wS_pure 3 [(6, .int .i64 (wr (x1 + 1))), (16, .int .i64 (wr (x1 + 1))), (15, .int .i64 (x1))] (by kernel_rfl) ?_
   refine wS_end (by rfl) ?_
   have hq : (some (Ctl.next ((l3 ++ (([(-1)] : List (Int))), wr (x1 + 1)))) : Option (Ctl ((List (Int)) × Int) ((List (Int))))) = some _ := hm
   replace hq := someE hq
   subst hq
   exact eX_next hx1 (fun hst => ⟨l3 ++ (([(-1)] : List (Int))), A4, cap4, fp3, wr (x1 + 1), rfl, Fr.of hst (by kernel_rfl), F2, F5, G4, hB, hZ⟩)
  ·have hm := condF hb1 hm
   refine cW_exit ?_
   refine eX_then_exit ?_
   have hq : (some (Ctl.out l3) : Option (Ctl ((List (Int)) × Int) ((List (Int))))) = some _ := hm
   replace hq := someE hq
   subst hq
   refine eX_outX hx1 (fun hr2 => ?_)
   replace hr2 := hr2.symm
   subst hr2
   refine eX_block_hit ?_
   exact eX_J (fun hst => ⟨l3, A3, cap3, fp2, rfl, Fr.of hst (by kernel_rfl), F2, F3, G2, hB, hZ⟩)
 ·rintro a' w5 ⟨l1, A1, cap1, fp1, hJ, hF2, F6, F7, G5, hB, hZ⟩
  subst hJ
  refine Fr.goX hF2 (by kernel_rfl) ?_
  refine eX_then ?_
  refine cW_seq ?_
  refine cW_region ?_
  refine wS_pure 3 [(22, .int .i64 (p1)), (21, .int .i64 (p1)), (20, .slice A1 (l1).length cap1)] (by kernel_rfl) ?_
  obtain ⟨x2, hx2, hm⟩ := bindE hm
  refine wS_idx (d := 23) (T := 38) (A := A1) (n := (l1).length) (cap := cap1) (kd := .i64) (m := p1) (by kernel_rfl) sl38 ((F7.sl encI_ok).is hx2) ?_
  refine wS_storeEl (x := x2) p1 (T := 2) (U := 2) (cap := cap1) (j := 0) (A := A1) (v := .int .i64 (p1)) (vs := [.int .i64 (p1)]) (m := p1) (by kernel_rfl) (by rfl) sz2 (by rfl) encI_ok F7 hx2 (by simp only [List.length_cons, List.length_nil]; omega) (by rfl) ?_
  intro w6 F8 hc4
  replace F6 := F6.chg hc4 (Dj.of L0 G5)
  replace hB := hB.inS hc4 (inLow G5)
  replace hZ := Nat.le_trans hZ hc4.size
  clear F7
  rewrite [show (l1).length = (l1.set (Int.toNat p1) p1).length from (List.length_set ..).symm]
  refine wS_end (by rfl) ?_
  refine eX_then ?_
  refine cW_seq ?_
  refine cW_region ?_
  refine wS_pure 1 [(24, .int .i64 (p1))] (by kernel_rfl) ?_
  refine wS_bs (enc := encI) ([p1] : List (Int)) [.int .i64 (p1)] (d := 25) (t := 38) (T := 2) (n := 1) (ps := [(0, .int .i64 (p1))]) (by kernel_rfl) el38 encI_ok (by rfl) (by omega) (by omega) (by kernel_rfl) (by rfl) ?_
  intro b3 w7 G6 F9 hc5
  have D3 : Dj fp1 [b3] := Dj.of F8.low (low1 G6)
  replace F6 := F6.chg hc5 Dj.nil
  replace F8 := F8.chg hc5 Dj.nil
  replace hB := hB.inS hc5 inNil
  replace G6 := Nat.le_trans hZ G6
  replace G6 := low1 G6
  replace hZ := Nat.le_trans hZ hc5.size
  refine wS_pure 1 [(7, .slice (some ⟨b3, 0, none⟩) (([p1] : List (Int))).length 1)] (by kernel_rfl) ?_
  refine wS_end (by rfl) ?_
  refine eX_then ?_
  refine cW_seq ?_
  refine cW_seq ?_
  refine cW_region ?_
  refine wS_pure 1 [(8, .int .i64 (0))] (by kernel_rfl) ?_
  refine wS_end (by rfl) ?_
  refine eX_then ?_
  obtain ⟨r2, hr3, hm⟩ := bindE hm
  have hm2 := hm
  refine cW_cut (fun a' w' => ∃ l4 : List (Int), l4 = r2 ∧ Fr 68 [(5, .slice A1 (l4).length cap1)] a' ∧ Ow 1 encI 2 w' fp1 A1 cap1 l4 ∧ Chg [] w0 w' ∧ w0.heap.size ≤ w'.heap.size) ?_ ?_
  ·refine cW_block ?_
   refine cW_loop _ (fun (s2 : (List (Int)) × Int × (List (Int))) a' w' => ∃ l5 : List (Int), ∃ A5 : Option Addr, ∃ cap5 : Nat, ∃ fp4 : List Nat, ∃ x3 : Int, ∃ l6 : List (Int), (l5, x3, l6) = s2 ∧ Fr 68 [(0, .slice A0 (l0).length cap0), (5, .slice A1 (l6).length cap1), (7, .slice A5 (l5).length cap5), (8, .int .i64 (x3))] a' ∧ SlR 1 encI w' fp0 A0 l0 ∧ Ow 1 encI 2 w' fp1 A1 cap1 l6 ∧ Ow 1 encI 2 w' fp4 A5 cap5 l5 ∧ (∀ x ∈ fp4, w0.heap.size ≤ x) ∧ Dj fp1 fp4 ∧ Chg [] w0 w' ∧ w0.heap.size ≤ w'.heap.size) hr3 (fun hst => ⟨([p1] : List (Int)), (some ⟨b3, 0, none⟩), 1, [b3], 0, l1.set (Int.toNat p1) p1, rfl, Fr.of hst (by kernel_rfl), F6, F8, F9, G6, D3, hB, hZ⟩) ?_
   rintro _ c2 a' w8 ⟨l5, A5, cap5, fp4, x3, l6, rfl, hF3, F10, F11, F12, G7, D4, hB, hZ⟩ hx3
   refine Fr.goOn hF3 (by kernel_rfl) ?_
   have hm := hx3
   unfold m_spec_l04Search_s4 at hm
   refine cW_seq ?_
   refine cW_seq ?_
   refine cW_region ?_
   refine wS_pure 4 [(29, .bool (decide (x3 < (((l5).length : Int))))), (28, .int .i64 (((l5).length : Int))), (27, .slice A5 (l5).length cap5), (26, .int .i64 (x3))] (by kernel_rfl) ?_
   refine wS_end (by rfl) ?_
   refine eX_then ?_
   refine cW_cond (t := decide (x3 < (((l5).length : Int)))) (by kernel_rfl) (fun hb2 => ?_) (fun hb2 => ?_)
   ·have hm := condT hb2 hm
    refine cW_skip ?_
    refine eX_then ?_
    refine cW_seq ?_
    refine cW_block ?_
    refine cW_seq ?_
    refine cW_region ?_
    refine wS_pure 1 [(9, .int .i64 (0))] (by kernel_rfl) ?_
    refine wS_end (by rfl) ?_
    refine eX_then ?_
    obtain ⟨r3, hr4, hm⟩ := bindE hm
    have hm3 := hm
    refine cW_cut (fun a' w' => ∃ l7 : List (Int), ∃ A6 : Option Addr, ∃ cap6 : Nat, ∃ fp5 : List Nat, ∃ l8 : List (Int), (l7, l8) = r3 ∧ Fr 68 [(0, .slice A0 (l0).length cap0), (5, .slice A1 (l8).length cap1), (7, .slice A6 (l7).length cap6), (8, .int .i64 (x3))] a' ∧ SlR 1 encI w' fp0 A0 l0 ∧ Ow 1 encI 2 w' fp1 A1 cap1 l8 ∧ Ow 1 encI 2 w' fp5 A6 cap6 l7 ∧ (∀ x ∈ fp5, w0.heap.size ≤ x) ∧ Dj fp1 fp5 ∧ Chg [] w0 w' ∧ w0.heap.size ≤ w'.heap.size) ?_ ?_
    ·refine cW_block ?_
     refine cW_loop _ (fun (s3 : (List (Int)) × Int × (List (Int))) a' w' => ∃ l9 : List (Int), ∃ A7 : Option Addr, ∃ cap7 : Nat, ∃ fp6 : List Nat, ∃ x4 : Int, ∃ l10 : List (Int), (l9, x4, l10) = s3 ∧ Fr 68 [(0, .slice A0 (l0).length cap0), (5, .slice A1 (l10).length cap1), (7, .slice A7 (l9).length cap7), (8, .int .i64 (x3)), (9, .int .i64 (x4))] a' ∧ SlR 1 encI w' fp0 A0 l0 ∧ Ow 1 encI 2 w' fp1 A1 cap1 l10 ∧ Ow 1 encI 2 w' fp6 A7 cap7 l9 ∧ (∀ x ∈ fp6, w0.heap.size ≤ x) ∧ Dj fp1 fp6 ∧ Chg [] w0 w' ∧ w0.heap.size ≤ w'.heap.size) hr4 (fun hst => ⟨l5, A5, cap5, fp4, 0, l6, rfl, Fr.of hst (by kernel_rfl), F10, F11, F12, G7, D4, hB, hZ⟩) ?_
     rintro _ c3 a' w9 ⟨l9, A7, cap7, fp6, x4, l10, rfl, hF4, F13, F14, F15, G8, D5, hB, hZ⟩ hx4
     refine Fr.goOn hF4 (by kernel_rfl) ?_
     have hm := hx4
     unfold m_spec_l04Search_s5 at hm
     refine cW_seq ?_
     refine cW_seq ?_
     refine cW_region ?_
     refine wS_pure 4 [(35, .bool (decide (x4 < (((l0).length : Int))))), (34, .int .i64 (((l0).length : Int))), (33, .slice A0 (l0).length cap0), (32, .int .i64 (x4))] (by kernel_rfl) ?_
     refine wS_end (by rfl) ?_
     refine eX_then ?_
     refine cW_cond (t := decide (x4 < (((l0).length : Int)))) (by kernel_rfl) (fun hb3 => ?_) (fun hb3 => ?_)
     ·have hm := condT hb3 hm
      refine cW_skip ?_
      refine eX_then ?_
      refine cW_seq ?_
      refine cW_block ?_
      obtain ⟨s4, hs1, hm⟩ := bindE hm
      refine cW_cut (fun a' w' => ∃ l11 : List (Int), ∃ A8 : Option Addr, ∃ cap8 : Nat, ∃ fp7 : List Nat, ∃ l12 : List (Int), (l11, l12) = s4 ∧ Fr 68 [(0, .slice A0 (l0).length cap0), (5, .slice A1 (l12).length cap1), (7, .slice A8 (l11).length cap8), (8, .int .i64 (x3)), (9, .int .i64 (x4))] a' ∧ SlR 1 encI w' fp0 A0 l0 ∧ Ow 1 encI 2 w' fp1 A1 cap1 l12 ∧ Ow 1 encI 2 w' fp7 A8 cap8 l11 ∧ (∀ x ∈ fp7, w0.heap.size ≤ x) ∧ Dj fp1 fp7 ∧ Chg [] w0 w' ∧ w0.heap.size ≤ w'.heap.size) ?_ ?_
      ·have hm := hs1
       refine cW_seq ?_
       refine cW_region ?_
       refine wS_pure 3 [(40, .int .i64 (x3)), (39, .slice A7 (l9).length cap7), (38, .slice A0 (l0).length cap0)] (by kernel_rfl) ?_
       obtain ⟨x5, hx5, hm⟩ := bindE hm
       refine wS_idx (d := 41) (T := 38) (A := A7) (n := (l9).length) (cap := cap7) (kd := .i64) (m := x3) (by kernel_rfl) sl38 ((F15.sl encI_ok).is hx5) ?_
       refine wS_load1 (d := 42) (T := 2) (ad := (elA A7 1 (x3) 0)) (v := .int .i64 (x5)) (by kernel_rfl) vt2 (Sl.cell (F15.sl encI_ok) hx5 0 (by rfl)) ?_
       obtain ⟨x6, hx6, hm⟩ := bindE hm
       refine wS_idx (d := 43) (T := 24) (A := A0) (n := (l0).length) (cap := cap0) (kd := .i64) (m := x5) (by kernel_rfl) sl24 (F13.is hx6) ?_
       obtain ⟨A9, cap9, hc6, F16, K1⟩ := SlR.row F13 hx6
       refine wS_load1 (d := 44) (T := 38) (ad := (elA A0 1 (x5) 0)) (v := .slice A9 (x6).length cap9) (by kernel_rfl) vt38 hc6 ?_
       refine wS_pure 1 [(45, .int .i64 (x4))] (by kernel_rfl) ?_
       obtain ⟨x7, hx7, hm⟩ := bindE hm
       refine wS_idx (d := 46) (T := 38) (A := A9) (n := (x6).length) (cap := cap9) (kd := .i64) (m := x4) (by kernel_rfl) sl38 (F16.is hx7) ?_
       refine wS_load1 (d := 47) (T := 2) (ad := (elA A9 1 (x4) 0)) (v := .int .i64 (x7)) (by kernel_rfl) vt2 (Sl.cell F16 hx7 0 (by rfl)) ?_
       refine wS_pure 2 [(49, .bool (decide (x7 > 0))), (48, .bool (decide (x7 > 0)))] (by kernel_rfl) ?_
       refine wS_bool (decide (x7 > 0)) (fun hb4 => ?_) (fun hb4 => ?_)
       ·have hm := condT hb4 hm
        rewrite [hb4]
        refine wS_pure 2 [(51, .int .i64 (x4)), (50, .slice A1 (l10).length cap1)] (by kernel_rfl) ?_
        obtain ⟨x8, hx8, hm⟩ := bindE hm
        refine wS_idx (d := 52) (T := 38) (A := A1) (n := (l10).length) (cap := cap1) (kd := .i64) (m := x4) (by kernel_rfl) sl38 ((F14.sl encI_ok).is hx8) ?_
        refine wS_load1 (d := 53) (T := 2) (ad := (elA A1 1 (x4) 0)) (v := .int .i64 (x8)) (by kernel_rfl) vt2 (Sl.cell (F14.sl encI_ok) hx8 0 (by rfl)) ?_
        refine wS_pure 2 [(55, .bool (decide (x8 < 0))), (54, .bool (decide (x8 < 0)))] (by kernel_rfl) ?_
        refine wS_end (by rfl) ?_
        refine eX_then ?_
        refine cW_prune [(0, .slice A0 (l0).length cap0), (5, .slice A1 (l10).length cap1), (7, .slice A7 (l9).length cap7), (8, .int .i64 (x3)), (9, .int .i64 (x4)), (55, .bool (decide (x8 < 0)))] (by kernel_rfl) (by kernel_rfl) (fun a1 => ?_)
        refine cW_cond (t := decide (x8 < 0)) (by kernel_rfl) (fun hb5 => ?_) (fun hb5 => ?_)
        ·have hm := condT hb5 hm
         refine cW_seq ?_
         refine cW_region ?_
         refine wS_pure 4 [(59, .int .i64 (x3)), (58, .slice A7 (l9).length cap7), (57, .int .i64 (x4)), (56, .slice A1 (l10).length cap1)] (by kernel_rfl) ?_
         obtain ⟨x9, hx9, hm⟩ := bindE hm
         refine wS_idx (d := 60) (T := 38) (A := A7) (n := (l9).length) (cap := cap7) (kd := .i64) (m := x3) (by kernel_rfl) sl38 ((F15.sl encI_ok).is hx9) ?_
         refine wS_load1 (d := 61) (T := 2) (ad := (elA A7 1 (x3) 0)) (v := .int .i64 (x9)) (by kernel_rfl) vt2 (Sl.cell (F15.sl encI_ok) hx9 0 (by rfl)) ?_
         obtain ⟨x10, hx10, hm⟩ := bindE hm
         refine wS_idx (d := 62) (T := 38) (A := A1) (n := (l10).length) (cap := cap1) (kd := .i64) (m := x4) (by kernel_rfl) sl38 ((F14.sl encI_ok).is hx10) ?_
         refine wS_storeEl (x := x10) x9 (T := 2) (U := 2) (cap := cap1) (j := 0) (A := A1) (v := .int .i64 (x9)) (vs := [.int .i64 (x9)]) (m := x4) (by kernel_rfl) (by rfl) sz2 (by rfl) encI_ok F14 hx10 (by simp only [List.length_cons, List.length_nil]; omega) (by rfl) ?_
         intro w10 F17 hc7
         replace F13 := F13.chg hc7 (Dj.of L0 G5)
         replace F15 := F15.chg hc7 (D5).symm
         replace F16 := F16.chg hc7 (Dj.of L0 G5)
         replace hB := hB.inS hc7 (inLow G5)
         replace hZ := Nat.le_trans hZ hc7.size
         clear F14
         rewrite [show (l10).length = (l10.set (Int.toNat x4) x9).length from (List.length_set ..).symm]
         refine wS_end (by rfl) ?_
         refine eX_then ?_
         refine cW_region ?_
         refine wS_pure 2 [(64, .int .i64 (x4)), (63, .slice A7 (l9).length cap7)] (by kernel_rfl) ?_
         refine wS_bs (enc := encI) ([x4] : List (Int)) [.int .i64 (x4)] (d := 65) (t := 38) (T := 2) (n := 1) (ps := [(0, .int .i64 (x4))]) (by kernel_rfl) el38 encI_ok (by rfl) (by omega) (by omega) (by kernel_rfl) (by rfl) ?_
         intro b4 w11 G9 F18 hc8
         have D6 : Dj fp1 [b4] := Dj.of F17.low (low1 G9)
         have D7 : Dj fp6 [b4] := Dj.of F15.low (low1 G9)
         replace F13 := F13.chg hc8 Dj.nil
         replace F17 := F17.chg hc8 Dj.nil
         replace F15 := F15.chg hc8 Dj.nil
         replace F16 := F16.chg hc8 Dj.nil
         replace hB := hB.inS hc8 inNil
         replace G9 := Nat.le_trans hZ G9
         replace G9 := low1 G9
         replace hZ := Nat.le_trans hZ hc8.size
         obtain ⟨_, hk2, hm⟩ := bindE hm
         replace hk2 := apE hk2
         refine wS_append (enc := encI) (l := (l9 : List (Int))) (l2 := (([x4] : List (Int)) : List (Int))) (d := 66) (t := 38) (T := 2) (A := A7) (A2 := (some ⟨b4, 0, none⟩)) (cap := cap7) (cap2 := 1) (by kernel_rfl) el38 encI_ok F15 (F18.sl encI_ok) (by rfl) hk2 ?_
         intro w12 fp8 A10 cap10 F19 hc9 hp2
         have G10 := low_ap G8 hZ hp2
         have D8 : Dj fp1 fp8 := Dj.ap D5 F17.low hp2
         have D9 : Dj [b4] fp8 := Dj.ap (D7).symm F18.low hp2
         replace F13 := F13.chg hc9 (Dj.of L0 G8)
         replace F17 := F17.chg hc9 D5
         replace F16 := F16.chg hc9 (Dj.of L0 G8)
         replace F18 := F18.chg hc9 (D7).symm
         replace hB := hB.inS hc9 (inLow G8)
         replace hZ := Nat.le_trans hZ hc9.size
         refine wS_pure 1 [(7, .slice A10 (l9 ++ (([x4] : List (Int)))).length cap10)] (by kernel_rfl) ?_
         refine wS_end (by rfl) ?_
         have hq : (some ((l9 ++ (([x4] : List (Int))), l10.set (Int.toNat x4) x9)) : Option ((List (Int)) × (List (Int)))) = some _ := hm
         replace hq := someE hq
         subst hq
         exact eX_J (fun hst => ⟨l9 ++ (([x4] : List (Int))), A10, cap10, fp8, l10.set (Int.toNat x4) x9, rfl, Fr.of hst (by kernel_rfl), F13, F17, F19, G10, D8, hB, hZ⟩)
        ·have hm := condF hb5 hm
         refine cW_skip ?_
         have hq : (some ((l9, l10)) : Option ((List (Int)) × (List (Int)))) = some _ := hm
         replace hq := someE hq
         subst hq
         exact eX_J (fun hst => ⟨l9, A7, cap7, fp6, l10, rfl, Fr.of hst (by kernel_rfl), F13, F14, F15, G8, D5, hB, hZ⟩)
       ·have hm := condF hb4 hm
        rewrite [hb4]
        refine wS_pure 6 [(55, .bool (false)), (54, undef), (53, undef), (52, undef), (51, undef), (50, undef)] (by kernel_rfl) ?_
        refine wS_end (by rfl) ?_
        refine eX_then ?_
        refine cW_prune [(0, .slice A0 (l0).length cap0), (5, .slice A1 (l10).length cap1), (7, .slice A7 (l9).length cap7), (8, .int .i64 (x3)), (9, .int .i64 (x4)), (55, .bool (false))] (by kernel_rfl) (by kernel_rfl) (fun a2 => ?_)
        refine cW_cond_f (by kernel_rfl) ?_
        refine cW_skip ?_
        have hq : (some ((l9, l10)) : Option ((List (Int)) × (List (Int)))) = some _ := hm
        replace hq := someE hq
        subst hq
        exact eX_J (fun hst => ⟨l9, A7, cap7, fp6, l10, rfl, Fr.of hst (by kernel_rfl), F13, F14, F15, G8, D5, hB, hZ⟩)
      ·rintro a' w13 ⟨l11, A8, cap8, fp7, l12, hJ, hF5, F20, F21, F22, G11, D10, hB, hZ⟩
       subst hJ
       refine Fr.goX hF5 (by kernel_rfl) ?_
       refine eX_block ?_
       refine eX_then ?_
       refine cW_region ?_
       refine wS_pure 3 [(9, .int .i64 (wr (x4 + 1))), (37, .int .i64 (wr (x4 + 1))), (36, .int .i64 (x4))] (by kernel_rfl) ?_
       refine wS_end (by rfl) ?_
       have hq : (some (Ctl.next ((l11, wr (x4 + 1), l12))) : Option (Ctl ((List (Int)) × Int × (List (Int))) ((List (Int)) × (List (Int))))) = some _ := hm
       replace hq := someE hq
       subst hq
       exact eX_next hx4 (fun hst => ⟨l11, A8, cap8, fp7, wr (x4 + 1), l12, rfl, Fr.of hst (by kernel_rfl), F20, F21, F22, G11, D10, hB, hZ⟩)
     ·have hm := condF hb3 hm
      refine cW_exit ?_
      refine eX_then_exit ?_
      have hq : (some (Ctl.out ((l9, l10))) : Option (Ctl ((List (Int)) × Int × (List (Int))) ((List (Int)) × (List (Int))))) = some _ := hm
      replace hq := someE hq
      subst hq
      refine eX_outX hx4 (fun hr5 => ?_)
      replace hr5 := hr5.symm
      subst hr5
      refine eX_block_hit ?_
      exact eX_J (fun hst => ⟨l9, A7, cap7, fp6, l10, rfl, Fr.of hst (by kernel_rfl), F13, F14, F15, G8, D5, hB, hZ⟩)
    ·rintro a' w14 ⟨l7, A6, cap6, fp5, l8, hJ, hF6, F23, F24, F25, G12, D11, hB, hZ⟩
     subst hJ
     refine Fr.goX hF6 (by kernel_rfl) ?_
     refine eX_block ?_
     refine eX_then ?_
     refine cW_region ?_
     refine wS_pure 3 [(8, .int .i64 (wr (x3 + 1))), (31, .int .i64 (wr (x3 + 1))), (30, .int .i64 (x3))] (by kernel_rfl) ?_
     refine wS_end (by rfl) ?_
     have hq : (some (Ctl.next ((l7, wr (x3 + 1), l8))) : Option (Ctl ((List (Int)) × Int × (List (Int))) ((List (Int))))) = some _ := hm
     replace hq := someE hq
     subst hq
     exact eX_next hx3 (fun hst => ⟨l7, A6, cap6, fp5, wr (x3 + 1), l8, rfl, Fr.of hst (by kernel_rfl), F23, F24, F25, G12, D11, hB, hZ⟩)
   ·have hm := condF hb2 hm
    refine cW_exit ?_
    refine eX_then_exit ?_
    have hq : (some (Ctl.out l6) : Option (Ctl ((List (Int)) × Int × (List (Int))) ((List (Int))))) = some _ := hm
    replace hq := someE hq
    subst hq
    refine eX_outX hx3 (fun hr6 => ?_)
    replace hr6 := hr6.symm
    subst hr6
    refine eX_block_hit ?_
    exact eX_J (fun hst => ⟨l6, rfl, Fr.of hst (by kernel_rfl), F11, hB, hZ⟩)
  ·rintro a' w15 ⟨l4, hJ, hF7, F26, hB, hZ⟩
   subst hJ
   refine Fr.goX hF7 (by kernel_rfl) ?_
   refine eX_then ?_
   refine cW_seq ?_
   refine cW_region ?_
   refine wS_pure 2 [(4, .slice A1 (l4).length cap1), (67, .slice A1 (l4).length cap1)] (by kernel_rfl) ?_
   refine wS_end (by rfl) ?_
   refine eX_then ?_
   refine cW_ret ?_
   have hq : (some l4 : Option ((List (Int)))) = some _ := hm
   replace hq := someE hq
   subst hq
   refine eX_ret (vs := [.slice A1 (l4).length cap1]) [.tmp 4] (by rfl) ⟨by (show lkE _ _ _ = _); kernel_rfl, trivial⟩ ?_
   exact ⟨A1, cap1, fp1, rfl, F26, G5, hB⟩

set_option maxRecDepth 100000 in
/-- spec.l04Is -/
theorem c_spec_l04Is_bimplMaze {w0 : World} {l0_0 : List (List (Int))} {A0_0 : Option Addr} {cap0_0 : Nat} {fp0_0 : List Nat} {b0 : Nat} {r : (Bool)} (hm : m_spec_l04Is_bimplMaze l0_0 = some r) (F0_0 : SlR 1 encI w0 fp0_0 A0_0 l0_0) (F0 : Cl w0 b0 26 [.slice A0_0 (l0_0).length cap0_0]) :
  Calls Try.prog 70 #[.pointer (some ⟨b0, 0, none⟩)] w0 fun e w' => e = .returned (.bool (r)) ∧ Chg [] w0 w' := by
 have L0_0 := F0_0.low
 have L0 := lt1 F0.lt
 have hB : Chg [] w0 w0 := Chg.refl _ _
 have hZ := Nat.le_refl w0.heap.size
 unfold m_spec_l04Is_bimplMaze at hm
 refine enterE (N := 72) Try.func70 (by rfl) Try.ntmps70 (by simp) [(0, .pointer (some ⟨b0, 0, none⟩))] (by rfl) (by kernel_rfl) (fun a => ?_)
 refine cW_seq ?_
 refine cW_region ?_
 refine wS_pure 1 [(2, .bool (false))] (by kernel_rfl) ?_
 refine wS_end (by rfl) ?_
 refine eX_then ?_
 refine cW_seq ?_
 refine cW_seq ?_
 refine cW_region ?_
 refine wS_pure 3 [(7, .pointer (some ⟨b0, 0, none⟩)), (6, .pointer (some ⟨b0, 0, none⟩)), (5, .pointer (some ⟨b0, 0, none⟩))] (by kernel_rfl) ?_
 refine wS_load1 (d := 8) (T := 24) (ad := ⟨b0, 0, none⟩) (v := .slice A0_0 (l0_0).length cap0_0) (by kernel_rfl) vt24 ((F0).cell 0) ?_
 refine wS_pure 1 [(9, .int .i64 (((l0_0).length : Int)))] (by kernel_rfl) ?_
 obtain ⟨y1, hy1, hm⟩ := bindE hm
 refine wS_calls (d := 10) (f := 46) (vs := [.int .i64 (((l0_0).length : Int)), .int .i64 (1), .int .i64 (12)]) (by kernel_rfl) ent46 (c_spec_l00In hy1) ?_
 rintro _ w1 ⟨rfl, hc1⟩
 replace F0_0 := F0_0.chg hc1 Dj.nil
 replace F0 := F0.chg hc1 notNil
 replace hB := hB.inS hc1 inNil
 replace hZ := Nat.le_trans hZ hc1.size
 refine ⟨.bool (y1), rfl, ?_⟩
 refine wS_pure 2 [(12, .bool (!y1)), (11, .bool (!y1))] (by kernel_rfl) ?_
 refine wS_bool (!y1) (fun hb1 => ?_) (fun hb1 => ?_)
 ·have hm := condT hb1 hm
  rewrite [hb1]
  refine wS_pure 10 [(22, .bool (true)), (21, undef), (20, undef), (19, undef), (18, undef), (17, undef), (16, undef), (15, undef), (14, undef), (13, undef)] (by kernel_rfl) ?_
  refine wS_end (by rfl) ?_
  refine eX_then ?_
  refine cW_cond_t (by kernel_rfl) ?_
  refine cW_seq ?_
  refine cW_region ?_
  refine wS_pure 1 [(2, .bool (false))] (by kernel_rfl) ?_
  refine wS_end (by rfl) ?_
  refine eX_then ?_
  refine cW_ret ?_
  refine eX_then_ret ?_
  have hq : (some false : Option ((Bool))) = some _ := hm
  replace hq := someE hq
  subst hq
  refine eX_ret (vs := [.bool (false)]) [.tmp 2] (by rfl) ⟨by (show lkE _ _ _ = _); kernel_rfl, trivial⟩ ?_
  exact ⟨rfl, hB⟩
 ·have hm := condF hb1 hm
  rewrite [hb1]
  refine wS_pure 3 [(15, .pointer (some ⟨b0, 0, none⟩)), (14, .pointer (some ⟨b0, 0, none⟩)), (13, .pointer (some ⟨b0, 0, none⟩))] (by kernel_rfl) ?_
  refine wS_load1 (d := 16) (T := 24) (ad := ⟨b0, 0, none⟩) (v := .slice A0_0 (l0_0).length cap0_0) (by kernel_rfl) vt24 ((F0).cell 0) ?_
  obtain ⟨x1, hx1, hm⟩ := bindE hm
  refine wS_idx (d := 17) (T := 24) (A := A0_0) (n := (l0_0).length) (cap := cap0_0) (kd := .i64) (m := 0) (by kernel_rfl) sl24 (F0_0.is hx1) ?_
  obtain ⟨A1, cap1, hc2, F1, K1⟩ := SlR.row F0_0 hx1
  refine wS_load1 (d := 18) (T := 38) (ad := (elA A0_0 1 (0) 0)) (v := .slice A1 (x1).length cap1) (by kernel_rfl) vt38 hc2 ?_
  refine wS_pure 1 [(19, .int .i64 (((x1).length : Int)))] (by kernel_rfl) ?_
  obtain ⟨y2, hy2, hm⟩ := bindE hm
  refine wS_calls (d := 20) (f := 46) (vs := [.int .i64 (((x1).length : Int)), .int .i64 (1), .int .i64 (12)]) (by kernel_rfl) ent46 (c_spec_l00In hy2) ?_
  rintro _ w2 ⟨rfl, hc3⟩
  replace F0_0 := F0_0.chg hc3 Dj.nil
  replace F0 := F0.chg hc3 notNil
  replace F1 := F1.chg hc3 Dj.nil
  replace hB := hB.inS hc3 inNil
  replace hZ := Nat.le_trans hZ hc3.size
  refine ⟨.bool (y2), rfl, ?_⟩
  refine wS_pure 2 [(22, .bool (!y2)), (21, .bool (!y2))] (by kernel_rfl) ?_
  refine wS_end (by rfl) ?_
  refine eX_then ?_
  refine cW_cond (t := !y2) (by kernel_rfl) (fun hb2 => ?_) (fun hb2 => ?_)
  ·have hm := condT hb2 hm
   refine cW_seq ?_
   refine cW_region ?_
   refine wS_pure 1 [(2, .bool (false))] (by kernel_rfl) ?_
   refine wS_end (by rfl) ?_
   refine eX_then ?_
   refine cW_ret ?_
   refine eX_then_ret ?_
   have hq : (some false : Option ((Bool))) = some _ := hm
   replace hq := someE hq
   subst hq
   refine eX_ret (vs := [.bool (false)]) [.tmp 2] (by rfl) ⟨by (show lkE _ _ _ = _); kernel_rfl, trivial⟩ ?_
   exact ⟨rfl, hB⟩
  ·have hm := condF hb2 hm
   refine cW_skip ?_
   refine eX_then ?_
   refine cW_seq ?_
   refine cW_seq ?_
   refine cW_region ?_
   refine wS_pure 1 [(3, .int .i64 (0))] (by kernel_rfl) ?_
   refine wS_end (by rfl) ?_
   refine eX_then ?_
   obtain ⟨r1, hr1, hm⟩ := bindE hm
   have hm1 := hm
   refine cW_cut (fun a' w' => Sum.inl (()) = r1 ∧ Fr 72 [] a' ∧ Chg [] w0 w' ∧ w0.heap.size ≤ w'.heap.size) ?_ ?_
   ·refine cW_block ?_
    refine cW_loop _ (fun (s1 : Int) a' w' => ∃ x2 : Int, x2 = s1 ∧ Fr 72 [(0, .pointer (some ⟨b0, 0, none⟩)), (3, .int .i64 (x2))] a' ∧ SlR 1 encI w' fp0_0 A0_0 l0_0 ∧ Cl w' b0 26 [.slice A0_0 (l0_0).length cap0_0] ∧ Chg [] w0 w' ∧ w0.heap.size ≤ w'.heap.size) hr1 (fun hst => ⟨0, rfl, Fr.of hst (by kernel_rfl), F0_0, F0, hB, hZ⟩) ?_
    rintro _ c1 a' w3 ⟨x2, rfl, hF1, F2, F3, hB, hZ⟩ hx2
    refine Fr.goOn hF1 (by kernel_rfl) ?_
    have hm := hx2
    unfold m_spec_l04Is_bimplMaze_s3 at hm
    refine cW_seq ?_
    refine cW_seq ?_
    refine cW_region ?_
    refine wS_pure 4 [(26, .pointer (some ⟨b0, 0, none⟩)), (25, .pointer (some ⟨b0, 0, none⟩)), (24, .pointer (some ⟨b0, 0, none⟩)), (23, .int .i64 (x2))] (by kernel_rfl) ?_
    refine wS_load1 (d := 27) (T := 24) (ad := ⟨b0, 0, none⟩) (v := .slice A0_0 (l0_0).length cap0_0) (by kernel_rfl) vt24 ((F3).cell 0) ?_
    refine wS_pure 2 [(29, .bool (decide (x2 < (((l0_0).length : Int))))), (28, .int .i64 (((l0_0).length : Int)))] (by kernel_rfl) ?_
    refine wS_end (by rfl) ?_
    refine eX_then ?_
    refine cW_cond (t := decide (x2 < (((l0_0).length : Int)))) (by kernel_rfl) (fun hb3 => ?_) (fun hb3 => ?_)
    ·have hm := condT hb3 hm
     refine cW_skip ?_
     refine eX_then ?_
     refine cW_seq ?_
     refine cW_block ?_
     refine cW_seq ?_
     refine cW_seq ?_
     refine cW_drawnTail [] 15 (by kernel_rfl) (by kernel_rfl) (fun w4 hc4 => ?_)
     replace F2 := F2.chg hc4 Dj.nil
     replace F3 := F3.chg hc4 notNil
     replace hB := hB.inS hc4 inNil
     replace hZ := Nat.le_trans hZ hc4.size
     have hS := Chg.refl [] w4
     have Z1 := F2
     have Z2 := F3
     refine wH_take [0, 1, 2] [2, 1, 0] [(34, .pointer (some ⟨b0, 0, none⟩)), (33, .pointer (some ⟨b0, 0, none⟩)), (32, .pointer (some ⟨b0, 0, none⟩))] (by kernel_rfl) (qT (qT (qT (qB (qT (qL (qB (qT (qT qZ))))))))) (by kernel_rfl) ?_
     refine wH_load1 (i := 3) (d := 35) (T := 24) (ad := ⟨b0, 0, none⟩) (v := .slice A0_0 (l0_0).length cap0_0) (by kernel_rfl) (qT (qT (qT (qB (qT (qL (qB (qT (qT qZ))))))))) (by kernel_rfl) (by kernel_rfl) vt24 (fun W hW => (Z2.chg hW notNil).cell 0) ?_
     refine wH_take [4] [4, 3, 2, 1, 0] [(36, .int .i64 (x2))] (by kernel_rfl) (qT (qT (qT (qB (qT (qL (qB (qT (qT qZ))))))))) (by kernel_rfl) ?_
     obtain ⟨x3, hx3, hm⟩ := bindE hm
     refine wH_idx (i := 5) (d := 37) (T := 24) (A := A0_0) (n := (l0_0).length) (cap := cap0_0) (kd := .i64) (m := x2) (by kernel_rfl) (qT (qT (qT (qB (qT (qL (qB (qT (qT qZ))))))))) (by kernel_rfl) (by kernel_rfl) sl24 (F2.is hx3) ?_
     obtain ⟨A2, cap2, hc5, F4, K2⟩ := SlR.row Z1 hx3
     refine wH_load1 (i := 6) (d := 38) (T := 38) (ad := (elA A0_0 1 (x2) 0)) (v := .slice A2 (x3).length cap2) (by kernel_rfl) (qT (qT (qT (qB (qT (qL (qB (qT (qT qZ))))))))) (by kernel_rfl) (by kernel_rfl) vt38 (fun W hW => hW.keep hc5) ?_
     refine wH_take [7, 8, 9, 10] [10, 9, 8, 7, 6, 5, 4, 3, 2, 1, 0] [(42, .pointer (some ⟨b0, 0, none⟩)), (41, .pointer (some ⟨b0, 0, none⟩)), (40, .pointer (some ⟨b0, 0, none⟩)), (39, .int .i64 (((x3).length : Int)))] (by kernel_rfl) (qT (qT (qT (qB (qT (qL (qB (qT (qT qZ))))))))) (by kernel_rfl) ?_
     refine wH_load1 (i := 11) (d := 43) (T := 24) (ad := ⟨b0, 0, none⟩) (v := .slice A0_0 (l0_0).length cap0_0) (by kernel_rfl) (qT (qT (qT (qB (qT (qL (qB (qT (qT qZ))))))))) (by kernel_rfl) (by kernel_rfl) vt24 (fun W hW => (Z2.chg hW notNil).cell 0) ?_
     obtain ⟨x4, hx4, hm⟩ := bindE hm
     refine wH_idx (i := 12) (d := 44) (T := 24) (A := A0_0) (n := (l0_0).length) (cap := cap0_0) (kd := .i64) (m := 0) (by kernel_rfl) (qT (qT (qT (qB (qT (qL (qB (qT (qT qZ))))))))) (by kernel_rfl) (by kernel_rfl) sl24 (F2.is hx4) ?_
     obtain ⟨A3, cap3, hc6, F5, K3⟩ := SlR.row Z1 hx4
     refine wH_load1 (i := 13) (d := 45) (T := 38) (ad := (elA A0_0 1 (0) 0)) (v := .slice A3 (x4).length cap3) (by kernel_rfl) (qT (qT (qT (qB (qT (qL (qB (qT (qT qZ))))))))) (by kernel_rfl) (by kernel_rfl) vt38 (fun W hW => hW.keep hc6) ?_
     refine wH_take [14] [14, 13, 12, 11, 10, 9, 8, 7, 6, 5, 4, 3, 2, 1, 0] [(46, .int .i64 (((x4).length : Int)))] (by kernel_rfl) (qT (qT (qT (qB (qT (qL (qB (qT (qT qZ))))))))) (by kernel_rfl) ?_
     refine wH_done (by kernel_rfl) ?_
     refine eX_tail ?_
     refine wS_pure 1 [(47, .bool ((((x3).length : Int)) != (((x4).length : Int))))] (by kernel_rfl) ?_
     refine wS_end (by rfl) ?_
     refine eX_then ?_
     refine cW_prune [(0, .pointer (some ⟨b0, 0, none⟩)), (3, .int .i64 (x2)), (47, .bool ((((x3).length : Int)) != (((x4).length : Int))))] (by kernel_rfl) (by kernel_rfl) (fun a1 => ?_)
     refine cW_cond (t := (((x3).length : Int)) != (((x4).length : Int))) (by kernel_rfl) (fun hb4 => ?_) (fun hb4 => ?_)
     ·have hm := condT hb4 hm
      refine cW_seq ?_
      refine cW_region ?_
      refine wS_pure 1 [(2, .bool (false))] (by kernel_rfl) ?_
      refine wS_end (by rfl) ?_
      refine eX_then ?_
      refine cW_ret ?_
      refine eX_then_ret ?_
      refine eX_block_ret ?_
      refine eX_then_ret ?_
      have hq : (some (Ctl.out (Sum.inr false)) : Option (Ctl (Int) (Sum (Unit) ((Bool))))) = some _ := hm
      replace hq := someE hq
      subst hq
      refine eX_outR hx2 (fun hr => ?_)
      subst hr
      refine eX_block_ret ?_
      refine eX_then_ret ?_
      refine eX_then_ret ?_
      have hq : (some false : Option ((Bool))) = some _ := hm1
      replace hq := someE hq
      subst hq
      refine eX_ret (vs := [.bool (false)]) [.tmp 2] (by rfl) ⟨by (show lkE _ _ _ = _); kernel_rfl, trivial⟩ ?_
      exact ⟨rfl, hB⟩
     ·have hm := condF hb4 hm
      refine cW_skip ?_
      refine eX_then ?_
      refine cW_seq ?_
      refine cW_region ?_
      refine wS_pure 1 [(4, .int .i64 (0))] (by kernel_rfl) ?_
      refine wS_end (by rfl) ?_
      refine eX_then ?_
      obtain ⟨r2, hr2, hm⟩ := bindE hm
      have hm2 := hm
      refine cW_cut (fun a' w' => Sum.inl (()) = r2 ∧ Fr 72 [(0, .pointer (some ⟨b0, 0, none⟩)), (3, .int .i64 (x2))] a' ∧ SlR 1 encI w' fp0_0 A0_0 l0_0 ∧ Cl w' b0 26 [.slice A0_0 (l0_0).length cap0_0] ∧ Chg [] w0 w' ∧ w0.heap.size ≤ w'.heap.size) ?_ ?_
      ·refine cW_block ?_
       refine cW_loop _ (fun (s2 : Int) a' w' => ∃ x5 : Int, x5 = s2 ∧ Fr 72 [(0, .pointer (some ⟨b0, 0, none⟩)), (3, .int .i64 (x2)), (4, .int .i64 (x5))] a' ∧ SlR 1 encI w' fp0_0 A0_0 l0_0 ∧ Cl w' b0 26 [.slice A0_0 (l0_0).length cap0_0] ∧ Chg [] w0 w' ∧ w0.heap.size ≤ w'.heap.size) hr2 (fun hst => ⟨0, rfl, Fr.of hst (by kernel_rfl), F2, F3, hB, hZ⟩) ?_
       rintro _ c2 a' w5 ⟨x5, rfl, hF2, F6, F7, hB, hZ⟩ hx5
       refine Fr.goOn hF2 (by kernel_rfl) ?_
       have hm := hx5
       unfold m_spec_l04Is_bimplMaze_s4 at hm
       refine cW_seq ?_
       refine cW_seq ?_
       refine cW_region ?_
       refine wS_pure 4 [(51, .pointer (some ⟨b0, 0, none⟩)), (50, .pointer (some ⟨b0, 0, none⟩)), (49, .pointer (some ⟨b0, 0, none⟩)), (48, .int .i64 (x5))] (by kernel_rfl) ?_
       refine wS_load1 (d := 52) (T := 24) (ad := ⟨b0, 0, none⟩) (v := .slice A0_0 (l0_0).length cap0_0) (by kernel_rfl) vt24 ((F7).cell 0) ?_
       refine wS_pure 1 [(53, .int .i64 (x2))] (by kernel_rfl) ?_
       obtain ⟨x6, hx6, hm⟩ := bindE hm
       refine wS_idx (d := 54) (T := 24) (A := A0_0) (n := (l0_0).length) (cap := cap0_0) (kd := .i64) (m := x2) (by kernel_rfl) sl24 (F6.is hx6) ?_
       obtain ⟨A4, cap4, hc7, F8, K4⟩ := SlR.row F6 hx6
       refine wS_load1 (d := 55) (T := 38) (ad := (elA A0_0 1 (x2) 0)) (v := .slice A4 (x6).length cap4) (by kernel_rfl) vt38 hc7 ?_
       refine wS_pure 2 [(57, .bool (decide (x5 < (((x6).length : Int))))), (56, .int .i64 (((x6).length : Int)))] (by kernel_rfl) ?_
       refine wS_end (by rfl) ?_
       refine eX_then ?_
       refine cW_cond (t := decide (x5 < (((x6).length : Int)))) (by kernel_rfl) (fun hb5 => ?_) (fun hb5 => ?_)
       ·have hm := condT hb5 hm
        refine cW_skip ?_
        refine eX_then ?_
        refine cW_seq ?_
        refine cW_block ?_
        refine cW_seq ?_
        refine cW_region ?_
        refine wS_pure 3 [(62, .pointer (some ⟨b0, 0, none⟩)), (61, .pointer (some ⟨b0, 0, none⟩)), (60, .pointer (some ⟨b0, 0, none⟩))] (by kernel_rfl) ?_
        refine wS_load1 (d := 63) (T := 24) (ad := ⟨b0, 0, none⟩) (v := .slice A0_0 (l0_0).length cap0_0) (by kernel_rfl) vt24 ((F7).cell 0) ?_
        refine wS_pure 1 [(64, .int .i64 (x2))] (by kernel_rfl) ?_
        obtain ⟨x7, hx7, hm⟩ := bindE hm
        refine wS_idx (d := 65) (T := 24) (A := A0_0) (n := (l0_0).length) (cap := cap0_0) (kd := .i64) (m := x2) (by kernel_rfl) sl24 (F6.is hx7) ?_
        obtain ⟨A5, cap5, hc8, F9, K5⟩ := SlR.row F6 hx7
        refine wS_load1 (d := 66) (T := 38) (ad := (elA A0_0 1 (x2) 0)) (v := .slice A5 (x7).length cap5) (by kernel_rfl) vt38 hc8 ?_
        refine wS_pure 1 [(67, .int .i64 (x5))] (by kernel_rfl) ?_
        obtain ⟨x8, hx8, hm⟩ := bindE hm
        refine wS_idx (d := 68) (T := 38) (A := A5) (n := (x7).length) (cap := cap5) (kd := .i64) (m := x5) (by kernel_rfl) sl38 (F9.is hx8) ?_
        refine wS_load1 (d := 69) (T := 2) (ad := (elA A5 1 (x5) 0)) (v := .int .i64 (x8)) (by kernel_rfl) vt2 (Sl.cell F9 hx8 0 (by rfl)) ?_
        obtain ⟨y3, hy3, hm⟩ := bindE hm
        refine wS_calls (d := 70) (f := 46) (vs := [.int .i64 (x8), .int .i64 (0), .int .i64 (9)]) (by kernel_rfl) ent46 (c_spec_l00In hy3) ?_
        rintro _ w6 ⟨rfl, hc9⟩
        replace F6 := F6.chg hc9 Dj.nil
        replace F7 := F7.chg hc9 notNil
        replace F8 := F8.chg hc9 Dj.nil
        replace F9 := F9.chg hc9 Dj.nil
        replace hB := hB.inS hc9 inNil
        replace hZ := Nat.le_trans hZ hc9.size
        refine ⟨.bool (y3), rfl, ?_⟩
        refine wS_pure 1 [(71, .bool (!y3))] (by kernel_rfl) ?_
        refine wS_end (by rfl) ?_
        refine eX_then ?_
        refine cW_prune [(0, .pointer (some ⟨b0, 0, none⟩)), (3, .int .i64 (x2)), (4, .int .i64 (x5)), (71, .bool (!y3))] (by kernel_rfl) (by kernel_rfl) (fun a2 => ?_)
        refine cW_cond (t := !y3) (by kernel_rfl) (fun hb6 => ?_) (fun hb6 => ?_)
        ·have hm := condT hb6 hm
         refine cW_seq ?_
         refine cW_region ?_
         refine wS_pure 1 [(2, .bool (false))] (by kernel_rfl) ?_
         refine wS_end (by rfl) ?_
         refine eX_then ?_
         refine cW_ret ?_
         refine eX_block_ret ?_
         refine eX_then_ret ?_
         have hq : (some (Ctl.out (Sum.inr false)) : Option (Ctl (Int) (Sum (Unit) ((Bool))))) = some _ := hm
         replace hq := someE hq
         subst hq
         refine eX_outR hx5 (fun hr => ?_)
         subst hr
         refine eX_block_ret ?_
         refine eX_then_ret ?_
         refine eX_block_ret ?_
         refine eX_then_ret ?_
         have hq : (some (Ctl.out (Sum.inr false)) : Option (Ctl (Int) (Sum (Unit) ((Bool))))) = some _ := hm2
         replace hq := someE hq
         subst hq
         refine eX_outR hx2 (fun hr => ?_)
         subst hr
         refine eX_block_ret ?_
         refine eX_then_ret ?_
         refine eX_then_ret ?_
         have hq : (some false : Option ((Bool))) = some _ := hm1
         replace hq := someE hq
         subst hq
         refine eX_ret (vs := [.bool (false)]) [.tmp 2] (by rfl) ⟨by (show lkE _ _ _ = _); kernel_rfl, trivial⟩ ?_
         exact ⟨rfl, hB⟩
        ·have hm := condF hb6 hm
         refine cW_skip ?_
         refine eX_block ?_
         refine eX_then ?_
         refine cW_region ?_
         refine wS_pure 3 [(4, .int .i64 (wr (x5 + 1))), (59, .int .i64 (wr (x5 + 1))), (58, .int .i64 (x5))] (by kernel_rfl) ?_
         refine wS_end (by rfl) ?_
         have hq : (some (Ctl.next (wr (x5 + 1))) : Option (Ctl (Int) (Sum (Unit) ((Bool))))) = some _ := hm
         replace hq := someE hq
         subst hq
         exact eX_next hx5 (fun hst => ⟨wr (x5 + 1), rfl, Fr.of hst (by kernel_rfl), F6, F7, hB, hZ⟩)
       ·have hm := condF hb5 hm
        refine cW_exit ?_
        refine eX_then_exit ?_
        have hq : (some (Ctl.out (Sum.inl (()))) : Option (Ctl (Int) (Sum (Unit) ((Bool))))) = some _ := hm
        replace hq := someE hq
        subst hq
        refine eX_outX hx5 (fun hr3 => ?_)
        replace hr3 := hr3.symm
        subst hr3
        refine eX_block_hit ?_
        exact eX_J (fun hst => ⟨rfl, Fr.of hst (by kernel_rfl), F6, F7, hB, hZ⟩)
      ·rintro a' w7 ⟨hJ, hF3, F10, F11, hB, hZ⟩
       subst hJ
       refine Fr.goX hF3 (by kernel_rfl) ?_
       refine eX_block ?_
       refine eX_then ?_
       refine cW_region ?_
       refine wS_pure 3 [(3, .int .i64 (wr (x2 + 1))), (31, .int .i64 (wr (x2 + 1))), (30, .int .i64 (x2))] (by kernel_rfl) ?_
       refine wS_end (by rfl) ?_
       have hq : (some (Ctl.next (wr (x2 + 1))) : Option (Ctl (Int) (Sum (Unit) ((Bool))))) = some _ := hm
       replace hq := someE hq
       subst hq
       exact eX_next hx2 (fun hst => ⟨wr (x2 + 1), rfl, Fr.of hst (by kernel_rfl), F10, F11, hB, hZ⟩)
    ·have hm := condF hb3 hm
     refine cW_exit ?_
     refine eX_then_exit ?_
     have hq : (some (Ctl.out (Sum.inl (()))) : Option (Ctl (Int) (Sum (Unit) ((Bool))))) = some _ := hm
     replace hq := someE hq
     subst hq
     refine eX_outX hx2 (fun hr4 => ?_)
     replace hr4 := hr4.symm
     subst hr4
     refine eX_block_hit ?_
     exact eX_J (fun hst => ⟨rfl, Fr.of hst (by kernel_rfl), hB, hZ⟩)
   ·rintro a' w8 ⟨hJ, hF4, hB, hZ⟩
    subst hJ
    refine Fr.goX hF4 (by kernel_rfl) ?_
    refine eX_then ?_
    refine cW_seq ?_
    refine cW_region ?_
    refine wS_pure 1 [(2, .bool (true))] (by kernel_rfl) ?_
    refine wS_end (by rfl) ?_
    refine eX_then ?_
    refine cW_ret ?_
    have hq : (some true : Option ((Bool))) = some _ := hm
    replace hq := someE hq
    subst hq
    refine eX_ret (vs := [.bool (true)]) [.tmp 2] (by rfl) ⟨by (show lkE _ _ _ = _); kernel_rfl, trivial⟩ ?_
    exact ⟨rfl, hB⟩

set_option maxRecDepth 100000 in
/-- spec.l04At -/
theorem c_spec_l04At_bimplMaze {w0 : World} {l0_0 : List (List (Int))} {A0_0 : Option Addr} {cap0_0 : Nat} {fp0_0 : List Nat} {b0 : Nat} {p1_0 : Int} {p1_1 : Int} {r : (Bool)} (hm : m_spec_l04At_bimplMaze l0_0 p1_0 p1_1 = some r) (F0_0 : SlR 1 encI w0 fp0_0 A0_0 l0_0) (F0 : Cl w0 b0 26 [.slice A0_0 (l0_0).length cap0_0]) :
  Calls Try.prog 58 #[.pointer (some ⟨b0, 0, none⟩), .agg #[.int .i64 (p1_0), .int .i64 (p1_1)]] w0 fun e w' => e = .returned (.bool (r)) ∧ Chg [] w0 w' := by
 have L0_0 := F0_0.low
 have L0 := lt1 F0.lt
 have hB : Chg [] w0 w0 := Chg.refl _ _
 have hZ := Nat.le_refl w0.heap.size
 unfold m_spec_l04At_bimplMaze at hm
 refine enterE (N := 12) Try.func58 (by rfl) Try.ntmps58 (by simp) [(0, .pointer (some ⟨b0, 0, none⟩)), (1, .agg #[.int .i64 (p1_0), .int .i64 (p1_1)])] (by rfl) (by kernel_rfl) (fun a => ?_)
 refine cW_seq ?_
 refine cW_region ?_
 refine wS_box (d := 3) (T := 29) (x := .agg #[.int .i64 (p1_0), .int .i64 (p1_1)]) (by kernel_rfl) ?_
 intro b1 w1 G1 F1 hc1
 replace F1 : Cl w1 b1 29 [.int .i64 (p1_0), .int .i64 (p1_1)] := F1
 replace F0_0 := F0_0.chg hc1 Dj.nil
 replace F0 := F0.chg hc1 notNil
 replace hB := hB.inS hc1 inNil
 replace G1 := Nat.le_trans hZ G1
 replace hZ := Nat.le_trans hZ hc1.size
 refine wS_pure 1 [(4, .bool (false))] (by kernel_rfl) ?_
 refine wS_end (by rfl) ?_
 refine eX_then ?_
 refine cW_seq ?_
 refine cW_region ?_
 refine wS_pure 1 [(5, .pointer (some ⟨b0, 0, none⟩))] (by kernel_rfl) ?_
 obtain ⟨y1, hy1, hm⟩ := bindE hm
 refine wS_calls (d := 6) (f := 70) (vs := [.pointer (some ⟨b0, 0, none⟩)]) (by kernel_rfl) ent70 (c_spec_l04Is_bimplMaze hy1 F0_0 F0) ?_
 rintro _ w2 ⟨rfl, hc2⟩
 replace F0_0 := F0_0.chg hc2 Dj.nil
 replace F0 := F0.chg hc2 notNil
 replace F1 := F1.chg hc2 notNil
 replace hB := hB.inS hc2 inNil
 replace hZ := Nat.le_trans hZ hc2.size
 refine ⟨.bool (y1), rfl, ?_⟩
 refine wS_pure 1 [(7, .bool (y1))] (by kernel_rfl) ?_
 refine wS_bool y1 (fun hb1 => ?_) (fun hb1 => ?_)
 ·have hm := condT hb1 hm
  rewrite [hb1]
  refine wS_pure 1 [(8, .pointer (some ⟨b0, 0, none⟩))] (by kernel_rfl) ?_
  refine wS_loadA (d := 9) (T := 29) (ad := ⟨b1, 0, none⟩) (vs := [.int .i64 (p1_0), .int .i64 (p1_1)]) (by kernel_rfl) vt29 (fun i u hu => box_cells F1 0 hu (by rfl)) ?_
  obtain ⟨y2, hy2, hm⟩ := bindE hm
  refine wS_calls (d := 10) (f := 27) (vs := [.pointer (some ⟨b0, 0, none⟩), .agg #[.int .i64 (p1_0), .int .i64 (p1_1)]]) (by kernel_rfl) ent27 (c_spec_l04Open_bimplMaze hy2 F0_0 F0) ?_
  rintro _ w3 ⟨rfl, hc3⟩
  replace F0_0 := F0_0.chg hc3 Dj.nil
  replace F0 := F0.chg hc3 notNil
  replace F1 := F1.chg hc3 notNil
  replace hB := hB.inS hc3 inNil
  replace hZ := Nat.le_trans hZ hc3.size
  refine ⟨.bool (y2), rfl, ?_⟩
  refine wS_pure 2 [(4, .bool (y2)), (11, .bool (y2))] (by kernel_rfl) ?_
  refine wS_end (by rfl) ?_
  refine eX_then ?_
  refine cW_ret ?_
  have hq : (some y2 : Option ((Bool))) = some _ := hm
  replace hq := someE hq
  subst hq
  refine eX_ret (vs := [.bool (y2)]) [.tmp 4] (by rfl) ⟨by (show lkE _ _ _ = _); kernel_rfl, trivial⟩ ?_
  exact ⟨rfl, hB⟩
 ·have hm := condF hb1 hm
  rewrite [hb1]
  refine wS_pure 5 [(4, .bool (false)), (11, .bool (false)), (10, undef), (9, undef), (8, undef)] (by kernel_rfl) ?_
  refine wS_end (by rfl) ?_
  refine eX_then ?_
  refine cW_ret ?_
  have hq : (some false : Option ((Bool))) = some _ := hm
  replace hq := someE hq
  subst hq
  refine eX_ret (vs := [.bool (false)]) [.tmp 4] (by rfl) ⟨by (show lkE _ _ _ = _); kernel_rfl, trivial⟩ ?_
  exact ⟨rfl, hB⟩

set_option maxRecDepth 100000 in
/-- spec.l04Both -/
theorem c_spec_l04Both_bimplMaze {w0 : World} {l0_0 : List (List (Int))} {A0_0 : Option Addr} {cap0_0 : Nat} {fp0_0 : List Nat} {b0 : Nat} {p1_0 : Int} {p1_1 : Int} {p2_0 : Int} {p2_1 : Int} {r : (Bool)} (hm : m_spec_l04Both_bimplMaze l0_0 p1_0 p1_1 p2_0 p2_1 = some r) (F0_0 : SlR 1 encI w0 fp0_0 A0_0 l0_0) (F0 : Cl w0 b0 26 [.slice A0_0 (l0_0).length cap0_0]) :
  Calls Try.prog 38 #[.pointer (some ⟨b0, 0, none⟩), .agg #[.int .i64 (p1_0), .int .i64 (p1_1)], .agg #[.int .i64 (p2_0), .int .i64 (p2_1)]] w0 fun e w' => e = .returned (.bool (r)) ∧ Chg [] w0 w' := by
 have L0_0 := F0_0.low
 have L0 := lt1 F0.lt
 have hB : Chg [] w0 w0 := Chg.refl _ _
 have hZ := Nat.le_refl w0.heap.size
 unfold m_spec_l04Both_bimplMaze at hm
 refine enterE (N := 21) Try.func38 (by rfl) Try.ntmps38 (by simp) [(0, .pointer (some ⟨b0, 0, none⟩)), (1, .agg #[.int .i64 (p1_0), .int .i64 (p1_1)]), (2, .agg #[.int .i64 (p2_0), .int .i64 (p2_1)])] (by rfl) (by kernel_rfl) (fun a => ?_)
 refine cW_seq ?_
 refine cW_region ?_
 refine wS_box (d := 4) (T := 29) (x := .agg #[.int .i64 (p1_0), .int .i64 (p1_1)]) (by kernel_rfl) ?_
 intro b1 w1 G1 F1 hc1
 replace F1 : Cl w1 b1 29 [.int .i64 (p1_0), .int .i64 (p1_1)] := F1
 replace F0_0 := F0_0.chg hc1 Dj.nil
 replace F0 := F0.chg hc1 notNil
 replace hB := hB.inS hc1 inNil
 replace G1 := Nat.le_trans hZ G1
 replace hZ := Nat.le_trans hZ hc1.size
 refine wS_box (d := 5) (T := 29) (x := .agg #[.int .i64 (p2_0), .int .i64 (p2_1)]) (by kernel_rfl) ?_
 intro b2 w2 G2 F2 hc2
 replace F2 : Cl w2 b2 29 [.int .i64 (p2_0), .int .i64 (p2_1)] := F2
 have D1 : Dj [b1] [b2] := Dj.of (lt1 F1.lt) (low1 G2)
 replace F0_0 := F0_0.chg hc2 Dj.nil
 replace F0 := F0.chg hc2 notNil
 replace F1 := F1.chg hc2 notNil
 replace hB := hB.inS hc2 inNil
 replace G2 := Nat.le_trans hZ G2
 replace hZ := Nat.le_trans hZ hc2.size
 refine wS_pure 1 [(6, .bool (false))] (by kernel_rfl) ?_
 refine wS_end (by rfl) ?_
 refine eX_then ?_
 refine cW_seq ?_
 refine cW_region ?_
 refine wS_pure 1 [(7, .pointer (some ⟨b0, 0, none⟩))] (by kernel_rfl) ?_
 refine wS_loadA (d := 8) (T := 29) (ad := ⟨b1, 0, none⟩) (vs := [.int .i64 (p1_0), .int .i64 (p1_1)]) (by kernel_rfl) vt29 (fun i u hu => box_cells F1 0 hu (by rfl)) ?_
 obtain ⟨y1, hy1, hm⟩ := bindE hm
 refine wS_calls (d := 9) (f := 58) (vs := [.pointer (some ⟨b0, 0, none⟩), .agg #[.int .i64 (p1_0), .int .i64 (p1_1)]]) (by kernel_rfl) ent58 (c_spec_l04At_bimplMaze hy1 F0_0 F0) ?_
 rintro _ w3 ⟨rfl, hc3⟩
 replace F0_0 := F0_0.chg hc3 Dj.nil
 replace F0 := F0.chg hc3 notNil
 replace F1 := F1.chg hc3 notNil
 replace F2 := F2.chg hc3 notNil
 replace hB := hB.inS hc3 inNil
 replace hZ := Nat.le_trans hZ hc3.size
 refine ⟨.bool (y1), rfl, ?_⟩
 refine wS_pure 1 [(10, .bool (y1))] (by kernel_rfl) ?_
 refine wS_bool y1 (fun hb1 => ?_) (fun hb1 => ?_)
 ·have hm := condT hb1 hm
  rewrite [hb1]
  refine wS_pure 1 [(11, .pointer (some ⟨b0, 0, none⟩))] (by kernel_rfl) ?_
  refine wS_loadA (d := 12) (T := 29) (ad := ⟨b2, 0, none⟩) (vs := [.int .i64 (p2_0), .int .i64 (p2_1)]) (by kernel_rfl) vt29 (fun i u hu => box_cells F2 0 hu (by rfl)) ?_
  obtain ⟨y2, hy2, hm⟩ := bindE hm
  refine wS_calls (d := 13) (f := 27) (vs := [.pointer (some ⟨b0, 0, none⟩), .agg #[.int .i64 (p2_0), .int .i64 (p2_1)]]) (by kernel_rfl) ent27 (c_spec_l04Open_bimplMaze hy2 F0_0 F0) ?_
  rintro _ w4 ⟨rfl, hc4⟩
  replace F0_0 := F0_0.chg hc4 Dj.nil
  replace F0 := F0.chg hc4 notNil
  replace F1 := F1.chg hc4 notNil
  replace F2 := F2.chg hc4 notNil
  replace hB := hB.inS hc4 inNil
  replace hZ := Nat.le_trans hZ hc4.size
  refine ⟨.bool (y2), rfl, ?_⟩
  refine wS_pure 2 [(15, .bool (y2)), (14, .bool (y2))] (by kernel_rfl) ?_
  refine wS_bool y2 (fun hb2 => ?_) (fun hb2 => ?_)
  ·have hm := condT hb2 hm
   rewrite [hb2]
   refine wS_loadA (d := 16) (T := 29) (ad := ⟨b1, 0, none⟩) (vs := [.int .i64 (p1_0), .int .i64 (p1_1)]) (by kernel_rfl) vt29 (fun i u hu => box_cells F1 0 hu (by rfl)) ?_
   refine wS_loadA (d := 17) (T := 29) (ad := ⟨b2, 0, none⟩) (vs := [.int .i64 (p2_0), .int .i64 (p2_1)]) (by kernel_rfl) vt29 (fun i u hu => box_cells F2 0 hu (by rfl)) ?_
   obtain ⟨y3, hy3, hm⟩ := bindE hm
   refine wS_calls (d := 18) (f := 59) (vs := [.agg #[.int .i64 (p1_0), .int .i64 (p1_1)], .agg #[.int .i64 (p2_0), .int .i64 (p2_1)]]) (by kernel_rfl) ent59 (c_spec_l01Far hy3) ?_
   rintro _ w5 ⟨rfl, hc5⟩
   replace F0_0 := F0_0.chg hc5 Dj.nil
   replace F0 := F0.chg hc5 notNil
   replace F1 := F1.chg hc5 notNil
   replace F2 := F2.chg hc5 notNil
   replace hB := hB.inS hc5 inNil
   replace hZ := Nat.le_trans hZ hc5.size
   refine ⟨.int .i64 (y3), rfl, ?_⟩
   refine wS_pure 3 [(6, .bool (decide (y3 > 1))), (20, .bool (decide (y3 > 1))), (19, .bool (decide (y3 > 1)))] (by kernel_rfl) ?_
   refine wS_end (by rfl) ?_
   refine eX_then ?_
   refine cW_ret ?_
   have hq : (some (decide (y3 > 1)) : Option ((Bool))) = some _ := hm
   replace hq := someE hq
   subst hq
   refine eX_ret (vs := [.bool (decide (y3 > 1))]) [.tmp 6] (by rfl) ⟨by (show lkE _ _ _ = _); kernel_rfl, trivial⟩ ?_
   exact ⟨rfl, hB⟩
  ·have hm := condF hb2 hm
   rewrite [hb2]
   refine wS_pure 6 [(6, .bool (false)), (20, .bool (false)), (19, undef), (18, undef), (17, undef), (16, undef)] (by kernel_rfl) ?_
   refine wS_end (by rfl) ?_
   refine eX_then ?_
   refine cW_ret ?_
   have hq : (some false : Option ((Bool))) = some _ := hm
   replace hq := someE hq
   subst hq
   refine eX_ret (vs := [.bool (false)]) [.tmp 6] (by rfl) ⟨by (show lkE _ _ _ = _); kernel_rfl, trivial⟩ ?_
   exact ⟨rfl, hB⟩
 ·have hm := condF hb1 hm
  rewrite [hb1]
  refine wS_pure 11 [(6, .bool (false)), (20, .bool (false)), (19, undef), (18, undef), (17, undef), (16, undef), (15, .bool (false)), (14, .bool (false)), (13, undef), (12, undef), (11, undef)] (by kernel_rfl) ?_
  refine wS_end (by rfl) ?_
  refine eX_then ?_
  refine cW_ret ?_
  have hq : (some false : Option ((Bool))) = some _ := hm
  replace hq := someE hq
  subst hq
  refine eX_ret (vs := [.bool (false)]) [.tmp 6] (by rfl) ⟨by (show lkE _ _ _ = _); kernel_rfl, trivial⟩ ?_
  exact ⟨rfl, hB⟩

set_option maxRecDepth 100000 in
/-- spec.l04Index -/
theorem c_spec_l04Index_bimplMaze {w0 : World} {l0_0 : List (List (Int))} {A0_0 : Option Addr} {cap0_0 : Nat} {fp0_0 : List Nat} {b0 : Nat} {p1_0 : Int} {p1_1 : Int} {r : (Int)} (hm : m_spec_l04Index_bimplMaze l0_0 p1_0 p1_1 = some r) (F0_0 : SlR 1 encI w0 fp0_0 A0_0 l0_0) (F0 : Cl w0 b0 26 [.slice A0_0 (l0_0).length cap0_0]) :
  Calls Try.prog 61 #[.pointer (some ⟨b0, 0, none⟩), .agg #[.int .i64 (p1_0), .int .i64 (p1_1)]] w0 fun e w' => e = .returned (.int .i64 (r)) ∧ Chg [] w0 w' := by
 have L0_0 := F0_0.low
 have L0 := lt1 F0.lt
 have hB : Chg [] w0 w0 := Chg.refl _ _
 have hZ := Nat.le_refl w0.heap.size
 unfold m_spec_l04Index_bimplMaze at hm
 refine enterE (N := 18) Try.func61 (by rfl) Try.ntmps61 (by simp) [(0, .pointer (some ⟨b0, 0, none⟩)), (1, .agg #[.int .i64 (p1_0), .int .i64 (p1_1)])] (by rfl) (by kernel_rfl) (fun a => ?_)
 refine cW_seq ?_
 refine cW_region ?_
 refine wS_box (d := 3) (T := 29) (x := .agg #[.int .i64 (p1_0), .int .i64 (p1_1)]) (by kernel_rfl) ?_
 intro b1 w1 G1 F1 hc1
 replace F1 : Cl w1 b1 29 [.int .i64 (p1_0), .int .i64 (p1_1)] := F1
 replace F0_0 := F0_0.chg hc1 Dj.nil
 replace F0 := F0.chg hc1 notNil
 replace hB := hB.inS hc1 inNil
 replace G1 := Nat.le_trans hZ G1
 replace hZ := Nat.le_trans hZ hc1.size
 refine wS_pure 1 [(4, .int .i64 (0))] (by kernel_rfl) ?_
 refine wS_end (by rfl) ?_
 refine eX_then ?_
 refine cW_seq ?_
 refine cW_drawnTail [] 12 (by kernel_rfl) (by kernel_rfl) (fun w2 hc2 => ?_)
 replace F0_0 := F0_0.chg hc2 Dj.nil
 replace F0 := F0.chg hc2 notNil
 replace F1 := F1.chg hc2 notNil
 replace hB := hB.inS hc2 inNil
 replace hZ := Nat.le_trans hZ hc2.size
 have hS := Chg.refl [] w2
 have Z1 := F0_0
 have Z2 := F0
 have Z3 := F1
 refine wH_take [0] [0] [(5, .pointer (some ⟨b1, 1, none⟩))] (by kernel_rfl) (qT (qT qZ)) (by kernel_rfl) ?_
 refine wH_load1 (i := 1) (d := 6) (T := 2) (ad := ⟨b1, 1, none⟩) (v := .int .i64 (p1_1)) (by kernel_rfl) (qT (qT qZ)) (by kernel_rfl) (by kernel_rfl) vt2 (fun W hW => (Z3.chg hW notNil).cell 1) ?_
 refine wH_take [2, 3, 4] [4, 3, 2, 1, 0] [(9, .pointer (some ⟨b0, 0, none⟩)), (8, .pointer (some ⟨b0, 0, none⟩)), (7, .pointer (some ⟨b0, 0, none⟩))] (by kernel_rfl) (qT (qT qZ)) (by kernel_rfl) ?_
 refine wH_load1 (i := 5) (d := 10) (T := 24) (ad := ⟨b0, 0, none⟩) (v := .slice A0_0 (l0_0).length cap0_0) (by kernel_rfl) (qT (qT qZ)) (by kernel_rfl) (by kernel_rfl) vt24 (fun W hW => (Z2.chg hW notNil).cell 0) ?_
 obtain ⟨x1, hx1, hm⟩ := bindE hm
 refine wH_idx (i := 6) (d := 11) (T := 24) (A := A0_0) (n := (l0_0).length) (cap := cap0_0) (kd := .i64) (m := 0) (by kernel_rfl) (qT (qT qZ)) (by kernel_rfl) (by kernel_rfl) sl24 (F0_0.is hx1) ?_
 obtain ⟨A1, cap1, hc3, F2, K1⟩ := SlR.row Z1 hx1
 refine wH_load1 (i := 7) (d := 12) (T := 38) (ad := (elA A0_0 1 (0) 0)) (v := .slice A1 (x1).length cap1) (by kernel_rfl) (qT (qT qZ)) (by kernel_rfl) (by kernel_rfl) vt38 (fun W hW => hW.keep hc3) ?_
 refine wH_take [8, 9, 10] [10, 9, 8, 7, 6, 5, 4, 3, 2, 1, 0] [(15, .pointer (some ⟨b1, 0, none⟩)), (14, .int .i64 (wr (p1_1 * (((x1).length : Int))))), (13, .int .i64 (((x1).length : Int)))] (by kernel_rfl) (qT (qT qZ)) (by kernel_rfl) ?_
 refine wH_load1 (i := 11) (d := 16) (T := 2) (ad := ⟨b1, 0, none⟩) (v := .int .i64 (p1_0)) (by kernel_rfl) (qT (qT qZ)) (by kernel_rfl) (by kernel_rfl) vt2 (fun W hW => (Z3.chg hW notNil).cell 0) ?_
 refine wH_done (by kernel_rfl) ?_
 refine eX_tail ?_
 refine wS_pure 2 [(4, .int .i64 (wr ((wr (p1_1 * (((x1).length : Int)))) + p1_0))), (17, .int .i64 (wr ((wr (p1_1 * (((x1).length : Int)))) + p1_0)))] (by kernel_rfl) ?_
 refine wS_end (by rfl) ?_
 refine eX_then ?_
 refine cW_ret ?_
 have hq : (some (wr ((wr (p1_1 * (((x1).length : Int)))) + p1_0)) : Option ((Int))) = some _ := hm
 replace hq := someE hq
 subst hq
 refine eX_ret (vs := [.int .i64 (wr ((wr (p1_1 * (((x1).length : Int)))) + p1_0))]) [.tmp 4] (by rfl) ⟨by (show lkE _ _ _ = _); kernel_rfl, trivial⟩ ?_
 exact ⟨rfl, hB⟩

set_option maxRecDepth 100000 in
/-- spec.l04Room -/
theorem c_spec_l04Room_bimplMaze {w0 : World} {l0_0 : List (List (Int))} {A0_0 : Option Addr} {cap0_0 : Nat} {fp0_0 : List Nat} {b0 : Nat} {p1_0 : Int} {p1_1 : Int} {p2_0 : Int} {p2_1 : Int} {r : (List (List (Int)))} (hm : m_spec_l04Room_bimplMaze l0_0 p1_0 p1_1 p2_0 p2_1 = some r) (F0_0 : SlR 1 encI w0 fp0_0 A0_0 l0_0) (F0 : Cl w0 b0 26 [.slice A0_0 (l0_0).length cap0_0]) :
  Calls Try.prog 60 #[.pointer (some ⟨b0, 0, none⟩), .agg #[.int .i64 (p1_0), .int .i64 (p1_1)], .agg #[.int .i64 (p2_0), .int .i64 (p2_1)]] w0 fun e w' => ∃ A100 cap100 fp100 fr100, e = .returned (.slice A100 (r).length cap100) ∧ OwR 1 encI 38 2 w' fp100 fr100 A100 cap100 r ∧ (∀ x ∈ fp100 ++ fr100, w0.heap.size ≤ x) ∧ Chg [] w0 w' := by
 have L0_0 := F0_0.low
 have L0 := lt1 F0.lt
 have hB : Chg [] w0 w0 := Chg.refl _ _
 have hZ := Nat.le_refl w0.heap.size
 unfold m_spec_l04Room_bimplMaze at hm
 refine enterE (N := 98) Try.func60 (by rfl) Try.ntmps60 (by simp) [(0, .pointer (some ⟨b0, 0, none⟩)), (1, .agg #[.int .i64 (p1_0), .int .i64 (p1_1)]), (2, .agg #[.int .i64 (p2_0), .int .i64 (p2_1)])] (by rfl) (by kernel_rfl) (fun a => ?_)
 refine cW_seq ?_
 refine cW_region ?_
 refine wS_box (d := 4) (T := 29) (x := .agg #[.int .i64 (p1_0), .int .i64 (p1_1)]) (by kernel_rfl) ?_
 intro b1 w1 G1 F1 hc1
 replace F1 : Cl w1 b1 29 [.int .i64 (p1_0), .int .i64 (p1_1)] := F1
 replace F0_0 := F0_0.chg hc1 Dj.nil
 replace F0 := F0.chg hc1 notNil
 replace hB := hB.inS hc1 inNil
 replace G1 := Nat.le_trans hZ G1
 replace hZ := Nat.le_trans hZ hc1.size
 refine wS_box (d := 5) (T := 29) (x := .agg #[.int .i64 (p2_0), .int .i64 (p2_1)]) (by kernel_rfl) ?_
 intro b2 w3 G2 F2 hc3
 replace F2 : Cl w3 b2 29 [.int .i64 (p2_0), .int .i64 (p2_1)] := F2
 have D1 : Dj [b1] [b2] := Dj.of (lt1 F1.lt) (low1 G2)
 replace F0_0 := F0_0.chg hc3 Dj.nil
 replace F0 := F0.chg hc3 notNil
 replace F1 := F1.chg hc3 notNil
 replace hB := hB.inS hc3 inNil
 replace G2 := Nat.le_trans hZ G2
 replace hZ := Nat.le_trans hZ hc3.size
 refine wS_pure 1 [(6, .slice none 0 0)] (by kernel_rfl) ?_
 refine wS_end (by rfl) ?_
 refine eX_then ?_
 refine cW_seq ?_
 refine cW_region ?_
 refine wS_pure 3 [(17, .pointer (some ⟨b0, 0, none⟩)), (16, .pointer (some ⟨b0, 0, none⟩)), (15, .pointer (some ⟨b0, 0, none⟩))] (by kernel_rfl) ?_
 refine wS_load1 (d := 18) (T := 24) (ad := ⟨b0, 0, none⟩) (v := .slice A0_0 (l0_0).length cap0_0) (by kernel_rfl) vt24 ((F0).cell 0) ?_
 obtain ⟨x1, hx1, hm⟩ := bindE hm
 refine wS_idx (d := 19) (T := 24) (A := A0_0) (n := (l0_0).length) (cap := cap0_0) (kd := .i64) (m := 0) (by kernel_rfl) sl24 (F0_0.is hx1) ?_
 obtain ⟨A1, cap1, hc4, F3, K1⟩ := SlR.row F0_0 hx1
 refine wS_load1 (d := 20) (T := 38) (ad := (elA A0_0 1 (0) 0)) (v := .slice A1 (x1).length cap1) (by kernel_rfl) vt38 hc4 ?_
 refine wS_pure 2 [(7, .int .i64 (((x1).length : Int))), (21, .int .i64 (((x1).length : Int)))] (by kernel_rfl) ?_
 refine wS_end (by rfl) ?_
 refine eX_then ?_
 refine cW_seq ?_
 refine cW_region ?_
 refine wS_pure 3 [(24, .pointer (some ⟨b0, 0, none⟩)), (23, .pointer (some ⟨b0, 0, none⟩)), (22, .pointer (some ⟨b0, 0, none⟩))] (by kernel_rfl) ?_
 refine wS_load1 (d := 25) (T := 24) (ad := ⟨b0, 0, none⟩) (v := .slice A0_0 (l0_0).length cap0_0) (by kernel_rfl) vt24 ((F0).cell 0) ?_
 refine wS_pure 4 [(8, .int .i64 (wr ((((l0_0).length : Int)) * (((x1).length : Int))))), (28, .int .i64 (wr ((((l0_0).length : Int)) * (((x1).length : Int))))), (27, .int .i64 (((x1).length : Int))), (26, .int .i64 (((l0_0).length : Int)))] (by kernel_rfl) ?_
 refine wS_end (by rfl) ?_
 refine eX_then ?_
 refine cW_seq ?_
 refine cW_region ?_
 refine wS_rows0 (k := 1) (enc := encI) (d := 29) (t := 24) (T := 38) (T2 := 2) (by kernel_rfl) el24 ?_
 intro b3 w4 G3 F4 hc5
 have D2 : Dj [b1] ([b3] ++ []) := Dj.of (lt1 F1.lt) (lowApp (low1 G3) lowNil)
 have D3 : Dj [b2] ([b3] ++ []) := Dj.of (lt1 F2.lt) (lowApp (low1 G3) lowNil)
 replace F0_0 := F0_0.chg hc5 Dj.nil
 replace F0 := F0.chg hc5 notNil
 replace F1 := F1.chg hc5 notNil
 replace F2 := F2.chg hc5 notNil
 replace F3 := F3.chg hc5 Dj.nil
 replace hB := hB.inS hc5 inNil
 replace G3 := Nat.le_trans hZ G3
 replace G3 := low1 G3
 replace hZ := Nat.le_trans hZ hc5.size
 replace G3 := lowApp G3 lowNil
 refine wS_pure 1 [(9, .slice (some ⟨b3, 0, none⟩) (([] : List (List (Int)))).length 0)] (by kernel_rfl) ?_
 refine wS_end (by rfl) ?_
 refine eX_then ?_
 refine cW_prune [(0, .pointer (some ⟨b0, 0, none⟩)), (4, .pointer (some ⟨b1, 0, none⟩)), (5, .pointer (some ⟨b2, 0, none⟩)), (7, .int .i64 (((x1).length : Int))), (8, .int .i64 (wr ((((l0_0).length : Int)) * (((x1).length : Int))))), (9, .slice (some ⟨b3, 0, none⟩) (([] : List (List (Int)))).length 0)] (by kernel_rfl) (by kernel_rfl) (fun a1 => ?_)
 refine cW_seq ?_
 refine cW_seq ?_
 refine cW_region ?_
 refine wS_pure 1 [(10, .int .i64 (0))] (by kernel_rfl) ?_
 refine wS_end (by rfl) ?_
 refine eX_then ?_
 obtain ⟨r1, hr1, hm⟩ := bindE hm
 have hm1 := hm
 refine cW_cut (fun a' w' => ∃ l1 : List (List (Int)), ∃ A3 : Option Addr, ∃ cap3 : Nat, ∃ fp1 : List Nat, ∃ fr1 : List Nat, l1 = r1 ∧ Fr 98 [(0, .pointer (some ⟨b0, 0, none⟩)), (4, .pointer (some ⟨b1, 0, none⟩)), (5, .pointer (some ⟨b2, 0, none⟩)), (7, .int .i64 (((x1).length : Int))), (8, .int .i64 (wr ((((l0_0).length : Int)) * (((x1).length : Int))))), (9, .slice A3 (l1).length cap3)] a' ∧ SlR 1 encI w' fp0_0 A0_0 l0_0 ∧ Cl w' b0 26 [.slice A0_0 (l0_0).length cap0_0] ∧ Cl w' b1 29 [.int .i64 (p1_0), .int .i64 (p1_1)] ∧ Cl w' b2 29 [.int .i64 (p2_0), .int .i64 (p2_1)] ∧ OwR 1 encI 38 2 w' fp1 fr1 A3 cap3 l1 ∧ (∀ x ∈ (fp1 ++ fr1), w0.heap.size ≤ x) ∧ Dj [b1] (fp1 ++ fr1) ∧ Dj [b2] (fp1 ++ fr1) ∧ Chg [] w0 w' ∧ w0.heap.size ≤ w'.heap.size) ?_ ?_
 ·refine cW_block ?_
  refine cW_loop _ (fun (s1 : (List (List (Int))) × Int) a' w' => ∃ l3 : List (List (Int)), ∃ A4 : Option Addr, ∃ cap4 : Nat, ∃ fp2 : List Nat, ∃ fr2 : List Nat, ∃ x2 : Int, (l3, x2) = s1 ∧ Fr 98 [(0, .pointer (some ⟨b0, 0, none⟩)), (4, .pointer (some ⟨b1, 0, none⟩)), (5, .pointer (some ⟨b2, 0, none⟩)), (7, .int .i64 (((x1).length : Int))), (8, .int .i64 (wr ((((l0_0).length : Int)) * (((x1).length : Int))))), (9, .slice A4 (l3).length cap4), (10, .int .i64 (x2))] a' ∧ SlR 1 encI w' fp0_0 A0_0 l0_0 ∧ Cl w' b0 26 [.slice A0_0 (l0_0).length cap0_0] ∧ Cl w' b1 29 [.int .i64 (p1_0), .int .i64 (p1_1)] ∧ Cl w' b2 29 [.int .i64 (p2_0), .int .i64 (p2_1)] ∧ OwR 1 encI 38 2 w' fp2 fr2 A4 cap4 l3 ∧ (∀ x ∈ (fp2 ++ fr2), w0.heap.size ≤ x) ∧ Dj [b1] (fp2 ++ fr2) ∧ Dj [b2] (fp2 ++ fr2) ∧ Chg [] w0 w' ∧ w0.heap.size ≤ w'.heap.size) hr1 (fun hst => ⟨([] : List (List (Int))), (some ⟨b3, 0, none⟩), 0, [b3], [], 0, rfl, Fr.of hst (by kernel_rfl), F0_0, F0, F1, F2, F4, G3, D2, D3, hB, hZ⟩) ?_
  rintro _ c1 a' w5 ⟨l3, A4, cap4, fp2, fr2, x2, rfl, hF1, F5, F6, F7, F8, F9, G4, D4, D5, hB, hZ⟩ hx2
  refine Fr.goOn hF1 (by kernel_rfl) ?_
  have hm := hx2
  unfold m_spec_l04Room_bimplMaze_s1 at hm
  refine cW_seq ?_
  refine cW_seq ?_
  refine cW_region ?_
  refine wS_pure 4 [(33, .bool (decide (x2 < (wr (2 * (wr ((((l0_0).length : Int)) * (((x1).length : Int))))))))), (32, .int .i64 (wr (2 * (wr ((((l0_0).length : Int)) * (((x1).length : Int))))))), (31, .int .i64 (wr ((((l0_0).length : Int)) * (((x1).length : Int))))), (30, .int .i64 (x2))] (by kernel_rfl) ?_
  refine wS_end (by rfl) ?_
  refine eX_then ?_
  refine cW_cond (t := decide (x2 < (wr (2 * (wr ((((l0_0).length : Int)) * (((x1).length : Int)))))))) (by kernel_rfl) (fun hb1 => ?_) (fun hb1 => ?_)
  ·have hm := condT hb1 hm
   refine cW_skip ?_
   refine eX_then ?_
   refine cW_seq ?_
   refine cW_block ?_
   refine cW_region ?_
   refine wS_pure 3 [(38, .int .i64 (wr (2 * (wr ((((l0_0).length : Int)) * (((x1).length : Int))))))), (37, .int .i64 (wr ((((l0_0).length : Int)) * (((x1).length : Int))))), (36, .slice A4 (l3).length cap4)] (by kernel_rfl) ?_
   obtain ⟨_, hk1, hm⟩ := bindE hm
   replace hk1 := mkE hk1
   refine wS_make (enc := encI) (x0 := (0 : Int)) (d := 39) (t := 38) (T := 2) (k1 := .i64) (k2 := .i64) (m := wr (2 * (wr ((((l0_0).length : Int)) * (((x1).length : Int)))))) (by kernel_rfl) el38 encI_ok (by rfl) hk1.1 hk1.2 ?_
   intro b4 w6 G5 F10 hc6
   have D6 : Dj [b1] [b4] := Dj.of (lt1 F7.lt) (low1 G5)
   have D7 : Dj [b2] [b4] := Dj.of (lt1 F8.lt) (low1 G5)
   have D8 : Dj (fp2 ++ fr2) [b4] := Dj.of F9.low (low1 G5)
   replace F5 := F5.chg hc6 Dj.nil
   replace F6 := F6.chg hc6 notNil
   replace F7 := F7.chg hc6 notNil
   replace F8 := F8.chg hc6 notNil
   replace F9 := F9.chg hc6 Dj.nil
   replace hB := hB.inS hc6 inNil
   replace G5 := Nat.le_trans hZ G5
   replace G5 := low1 G5
   replace hZ := Nat.le_trans hZ hc6.size
   refine wS_row1 (k := 1) (enc := encI) (l := List.replicate (Int.toNat (wr (2 * (wr ((((l0_0).length : Int)) * (((x1).length : Int))))))) ((0 : Int))) (d := 40) (t := 24) (T := 38) (B := (some ⟨b4, 0, none⟩)) (c := (Int.toNat (wr (2 * (wr ((((l0_0).length : Int)) * (((x1).length : Int)))))))) (by kernel_rfl) el24 F10 ?_
   intro b5 w7 G6 F11 hc7
   have D9 : Dj [b1] ([b5] ++ [b4]) := Dj.app (Dj.of (lt1 F7.lt) (low1 G6)) D6
   have D10 : Dj [b2] ([b5] ++ [b4]) := Dj.app (Dj.of (lt1 F8.lt) (low1 G6)) D7
   have D11 : Dj (fp2 ++ fr2) ([b5] ++ [b4]) := Dj.app (Dj.of F9.low (low1 G6)) D8
   replace F5 := F5.chg hc7 Dj.nil
   replace F6 := F6.chg hc7 notNil
   replace F7 := F7.chg hc7 notNil
   replace F8 := F8.chg hc7 notNil
   replace F9 := F9.chg hc7 Dj.nil
   replace F10 := F10.chg hc7 Dj.nil
   replace hB := hB.inS hc7 inNil
   replace G6 := Nat.le_trans hZ G6
   replace G6 := lowApp (low1 G6) G5
   replace hZ := Nat.le_trans hZ hc7.size
   replace F10 := (F10.sl encI_ok)
   obtain ⟨_, hk2, hm⟩ := bindE hm
   replace hk2 := apE hk2
   refine wS_appendR (k := 1) (enc := encI) (ll := (l3 : List (List (Int)))) (ll2 := (([List.replicate (Int.toNat (wr (2 * (wr ((((l0_0).length : Int)) * (((x1).length : Int))))))) ((0 : Int))] : List (List (Int))) : List (List (Int)))) (d := 41) (t := 24) (T := 38) (A := A4) (A2 := (some ⟨b5, 0, none⟩)) (cap := cap4) (cap2 := 1) (by kernel_rfl) el24 F9 F11 (by rfl) D11 hk2 ?_
   intro w8 fp3 A5 cap5 F12 hc8 hp1
   have G7 := lowApp (low_ap (low_inl G4) hZ hp1) (lowApp (low_inr G4) (low_inr G6))
   have D12 : Dj [b1] (fp3 ++ (fr2 ++ [b4])) := Dj.app (Dj.ap (Dj.inl D4) (lt1 F7.lt) hp1) (Dj.app (Dj.inr D4) (Dj.inr D9))
   have D13 : Dj [b2] (fp3 ++ (fr2 ++ [b4])) := Dj.app (Dj.ap (Dj.inl D5) (lt1 F8.lt) hp1) (Dj.app (Dj.inr D5) (Dj.inr D10))
   replace F5 := F5.chg hc8 (Dj.inl (Dj.of L0_0 G4))
   replace F6 := F6.chg hc8 (dj1 (Dj.inl (Dj.of L0 G4)))
   replace F7 := F7.chg hc8 (dj1 (Dj.inl D4))
   replace F8 := F8.chg hc8 (dj1 (Dj.inl D5))
   replace hB := hB.inS hc8 (memS_inl (inLow G4))
   replace hZ := Nat.le_trans hZ hc8.size
   refine wS_pure 1 [(9, .slice A5 (l3 ++ (([List.replicate (Int.toNat (wr (2 * (wr ((((l0_0).length : Int)) * (((x1).length : Int))))))) ((0 : Int))] : List (List (Int))))).length cap5)] (by kernel_rfl) ?_
   refine wS_end (by rfl) ?_
   refine eX_block ?_
   refine eX_then ?_
   refine cW_region ?_
   refine wS_pure 3 [(10, .int .i64 (wr (x2 + 1))), (35, .int .i64 (wr (x2 + 1))), (34, .int .i64 (x2))] (by kernel_rfl) ?_
   refine wS_end (by rfl) ?_
   have hq : (some (Ctl.next ((l3 ++ (([List.replicate (Int.toNat (wr (2 * (wr ((((l0_0).length : Int)) * (((x1).length : Int))))))) ((0 : Int))] : List (List (Int)))), wr (x2 + 1)))) : Option (Ctl ((List (List (Int))) × Int) ((List (List (Int)))))) = some _ := hm
   replace hq := someE hq
   subst hq
   exact eX_next hx2 (fun hst => ⟨l3 ++ (([List.replicate (Int.toNat (wr (2 * (wr ((((l0_0).length : Int)) * (((x1).length : Int))))))) ((0 : Int))] : List (List (Int)))), A5, cap5, fp3, (fr2 ++ [b4]), wr (x2 + 1), rfl, Fr.of hst (by kernel_rfl), F5, F6, F7, F8, F12, G7, D12, D13, hB, hZ⟩)
  ·have hm := condF hb1 hm
   refine cW_exit ?_
   refine eX_then_exit ?_
   have hq : (some (Ctl.out l3) : Option (Ctl ((List (List (Int))) × Int) ((List (List (Int)))))) = some _ := hm
   replace hq := someE hq
   subst hq
   refine eX_outX hx2 (fun hr2 => ?_)
   replace hr2 := hr2.symm
   subst hr2
   refine eX_block_hit ?_
   exact eX_J (fun hst => ⟨l3, A4, cap4, fp2, fr2, rfl, Fr.of hst (by kernel_rfl), F5, F6, F7, F8, F9, G4, D4, D5, hB, hZ⟩)
 ·rintro a' w9 ⟨l1, A3, cap3, fp1, fr1, hJ, hF2, F13, F14, F15, F16, F17, G8, D14, D15, hB, hZ⟩
  subst hJ
  refine Fr.goX hF2 (by kernel_rfl) ?_
  refine eX_then ?_
  refine cW_seq ?_
  refine cW_seq ?_
  refine cW_region ?_
  refine wS_pure 1 [(11, .int .i64 (0))] (by kernel_rfl) ?_
  refine wS_end (by rfl) ?_
  refine eX_then ?_
  obtain ⟨r2, hr3, hm⟩ := bindE hm
  have hm2 := hm
  refine cW_cut (fun a' w' => ∃ l4 : List (List (Int)), l4 = r2 ∧ Fr 98 [(9, .slice A3 (l4).length cap3)] a' ∧ OwR 1 encI 38 2 w' fp1 fr1 A3 cap3 l4 ∧ Chg [] w0 w' ∧ w0.heap.size ≤ w'.heap.size) ?_ ?_
  ·refine cW_block ?_
   refine cW_loop _ (fun (s2 : Int × (List (List (Int)))) a' w' => ∃ x3 : Int, ∃ l5 : List (List (Int)), (x3, l5) = s2 ∧ Fr 98 [(0, .pointer (some ⟨b0, 0, none⟩)), (4, .pointer (some ⟨b1, 0, none⟩)), (5, .pointer (some ⟨b2, 0, none⟩)), (7, .int .i64 (((x1).length : Int))), (8, .int .i64 (wr ((((l0_0).length : Int)) * (((x1).length : Int))))), (9, .slice A3 (l5).length cap3), (11, .int .i64 (x3))] a' ∧ SlR 1 encI w' fp0_0 A0_0 l0_0 ∧ Cl w' b0 26 [.slice A0_0 (l0_0).length cap0_0] ∧ Cl w' b1 29 [.int .i64 (p1_0), .int .i64 (p1_1)] ∧ Cl w' b2 29 [.int .i64 (p2_0), .int .i64 (p2_1)] ∧ OwR 1 encI 38 2 w' fp1 fr1 A3 cap3 l5 ∧ Chg [] w0 w' ∧ w0.heap.size ≤ w'.heap.size) hr3 (fun hst => ⟨0, l1, rfl, Fr.of hst (by kernel_rfl), F13, F14, F15, F16, F17, hB, hZ⟩) ?_
   rintro _ c2 a' w10 ⟨x3, l5, rfl, hF3, F18, F19, F20, F21, F22, hB, hZ⟩ hx3
   refine Fr.goOn hF3 (by kernel_rfl) ?_
   have hm := hx3
   unfold m_spec_l04Room_bimplMaze_s6 at hm
   refine cW_seq ?_
   refine cW_seq ?_
   refine cW_region ?_
   refine wS_pure 3 [(44, .bool (decide (x3 < (wr ((((l0_0).length : Int)) * (((x1).length : Int))))))), (43, .int .i64 (wr ((((l0_0).length : Int)) * (((x1).length : Int))))), (42, .int .i64 (x3))] (by kernel_rfl) ?_
   refine wS_end (by rfl) ?_
   refine eX_then ?_
   refine cW_cond (t := decide (x3 < (wr ((((l0_0).length : Int)) * (((x1).length : Int)))))) (by kernel_rfl) (fun hb2 => ?_) (fun hb2 => ?_)
   ·have hm := condT hb2 hm
    refine cW_skip ?_
    refine eX_then ?_
    refine cW_seq ?_
    refine cW_block ?_
    refine cW_seq ?_
    refine cW_drawnTail [] 8 (by kernel_rfl) (by kernel_rfl) (fun w11 hc9 => ?_)
    replace F18 := F18.chg hc9 Dj.nil
    replace F19 := F19.chg hc9 notNil
    replace F20 := F20.chg hc9 notNil
    replace F21 := F21.chg hc9 notNil
    replace F22 := F22.chg hc9 Dj.nil
    replace hB := hB.inS hc9 inNil
    replace hZ := Nat.le_trans hZ hc9.size
    have hS := Chg.refl [] w11
    have Z1 := F18
    have Z2 := F19
    have Z3 := F20
    have Z4 := F21
    have Z5 := F22
    refine wH_take [0, 1] [1, 0] [(48, .int .i64 (((x1).length : Int))), (47, .int .i64 (x3))] (by kernel_rfl) (qT (qT (qB (qT (qL (qB (qT (qT qZ)))))))) (by kernel_rfl) ?_
    obtain ⟨u1, hu1, hm⟩ := bindE hm
    refine wH_rem (i := 2) (d := 49) (x := x3) (y := ((x1).length : Int)) (by kernel_rfl) (qT (qT (qB (qT (qL (qB (qT (qT qZ)))))))) (by kernel_rfl) (by kernel_rfl) (nzE hu1) ?_
    refine wH_take [3, 4] [4, 3, 2, 1, 0] [(51, .int .i64 (((x1).length : Int))), (50, .int .i64 (x3))] (by kernel_rfl) (qT (qT (qB (qT (qL (qB (qT (qT qZ)))))))) (by kernel_rfl) ?_
    obtain ⟨u2, hu2, hm⟩ := bindE hm
    refine wH_quo (i := 5) (d := 52) (x := x3) (y := ((x1).length : Int)) (by kernel_rfl) (qT (qT (qB (qT (qL (qB (qT (qT qZ)))))))) (by kernel_rfl) (by kernel_rfl) (nzE hu2) ?_
    refine wH_take [6] [6, 5, 4, 3, 2, 1, 0] [(53, .agg #[.int .i64 (Int.tmod x3 (((x1).length : Int))), .int .i64 (wr (Int.tdiv x3 (((x1).length : Int))))])] (by kernel_rfl) (qT (qT (qB (qT (qL (qB (qT (qT qZ)))))))) (by kernel_rfl) ?_
    refine wH_all [7] (by rfl) (by kernel_rfl) (by simp) ⟨⟨by kernel_rfl, ?_⟩, trivial⟩
    refine wS_alloc (d := 12) (T := 29) (z := .agg #[.int .i64 (0), .int .i64 (0)]) (by kernel_rfl) (by kernel_rfl) ?_
    intro b6 w12 G9 F23 hc10
    replace F23 : Cl w12 b6 29 [.int .i64 (0), .int .i64 (0)] := F23
    have D16 : Dj [b1] [b6] := Dj.of (lt1 F20.lt) (low1 G9)
    have D17 : Dj [b2] [b6] := Dj.of (lt1 F21.lt) (low1 G9)
    have D18 : Dj (fp1 ++ fr1) [b6] := Dj.of F22.low (low1 G9)
    replace F18 := F18.chg hc10 Dj.nil
    replace F19 := F19.chg hc10 notNil
    replace F20 := F20.chg hc10 notNil
    replace F21 := F21.chg hc10 notNil
    replace F22 := F22.chg hc10 Dj.nil
    replace hB := hB.inS hc10 inNil
    have hSz := hS
    replace hS := hS.inS hc10 inNil
    have Gz1 := low1 (Nat.le_trans hSz.size G9)
    replace G9 := Nat.le_trans hZ G9
    replace hZ := Nat.le_trans hZ hc10.size
    refine wS_end (by kernel_rfl) ?_
    refine eX_KH hS ?_
    refine wH_done (by kernel_rfl) ?_
    refine eX_tail ?_
    refine wS_store (T := 29) (g := b6) (o := 0) (ad := ⟨b6, 0, none⟩) (v := .agg #[.int .i64 (Int.tmod x3 (((x1).length : Int))), .int .i64 (wr (Int.tdiv x3 (((x1).length : Int))))]) (vs := [.int .i64 (Int.tmod x3 (((x1).length : Int))), .int .i64 (wr (Int.tdiv x3 (((x1).length : Int))))]) (by kernel_rfl) (by rfl) sz29 (by rfl) (by rfl) F23 (by simp only [List.length_cons, List.length_nil]; omega) ?_
    intro w13 F24 hc11
    replace F18 := F18.chg hc11 (Dj.of L0_0 (low1 G9))
    replace F19 := F19.chg hc11 (dj1 (Dj.of L0 (low1 G9)))
    replace F20 := F20.chg hc11 (dj1 D16)
    replace F21 := F21.chg hc11 (dj1 D17)
    replace F22 := F22.chg hc11 D18
    replace hB := hB.inS hc11 (inLow (low1 G9))
    replace hZ := Nat.le_trans hZ hc11.size
    replace F24 : Cl w13 b6 29 [.int .i64 (Int.tmod x3 (((x1).length : Int))), .int .i64 (wr (Int.tdiv x3 (((x1).length : Int))))] := F24
    clear F23
    refine wS_end (by rfl) ?_
    refine eX_then ?_
    refine cW_seq ?_
    refine cW_seq ?_
    refine cW_region ?_
    refine wS_pure 1 [(54, .pointer (some ⟨b0, 0, none⟩))] (by kernel_rfl) ?_
    refine wS_loadA (d := 55) (T := 29) (ad := ⟨b6, 0, none⟩) (vs := [.int .i64 (Int.tmod x3 (((x1).length : Int))), .int .i64 (wr (Int.tdiv x3 (((x1).length : Int))))]) (by kernel_rfl) vt29 (fun i u hu => box_cells F24 0 hu (by rfl)) ?_
    obtain ⟨y1, hy1, hm⟩ := bindE hm
    refine wS_calls (d := 56) (f := 27) (vs := [.pointer (some ⟨b0, 0, none⟩), .agg #[.int .i64 (Int.tmod x3 (((x1).length : Int))), .int .i64 (wr (Int.tdiv x3 (((x1).length : Int))))]]) (by kernel_rfl) ent27 (c_spec_l04Open_bimplMaze hy1 F18 F19) ?_
    rintro _ w14 ⟨rfl, hc12⟩
    replace F18 := F18.chg hc12 Dj.nil
    replace F19 := F19.chg hc12 notNil
    replace F20 := F20.chg hc12 notNil
    replace F21 := F21.chg hc12 notNil
    replace F22 := F22.chg hc12 Dj.nil
    replace F24 := F24.chg hc12 notNil
    replace hB := hB.inS hc12 inNil
    replace hZ := Nat.le_trans hZ hc12.size
    refine ⟨.bool (y1), rfl, ?_⟩
    refine wS_pure 1 [(57, .bool (!y1))] (by kernel_rfl) ?_
    refine wS_end (by rfl) ?_
    refine eX_then ?_
    refine cW_cond (t := !y1) (by kernel_rfl) (fun hb3 => ?_) (fun hb3 => ?_)
    ·have hm := condT hb3 hm
     refine cW_exit ?_
     refine eX_then_exit ?_
     refine eX_block_hit ?_
     refine eX_then ?_
     refine cW_region ?_
     refine wS_pure 3 [(11, .int .i64 (wr (x3 + 1))), (46, .int .i64 (wr (x3 + 1))), (45, .int .i64 (x3))] (by kernel_rfl) ?_
     refine wS_end (by rfl) ?_
     have hq : (some (Ctl.next ((wr (x3 + 1), l5))) : Option (Ctl (Int × (List (List (Int)))) ((List (List (Int)))))) = some _ := hm
     replace hq := someE hq
     subst hq
     exact eX_next hx3 (fun hst => ⟨wr (x3 + 1), l5, rfl, Fr.of hst (by kernel_rfl), F18, F19, F20, F21, F22, hB, hZ⟩)
    ·have hm := condF hb3 hm
     refine cW_skip ?_
     refine eX_then ?_
     obtain ⟨s3, hs1, hm⟩ := bindE hm
     refine cW_cut (fun a' w' => ∃ l6 : List (List (Int)), l6 = s3 ∧ Fr 98 [(0, .pointer (some ⟨b0, 0, none⟩)), (4, .pointer (some ⟨b1, 0, none⟩)), (5, .pointer (some ⟨b2, 0, none⟩)), (7, .int .i64 (((x1).length : Int))), (8, .int .i64 (wr ((((l0_0).length : Int)) * (((x1).length : Int))))), (9, .slice A3 (l6).length cap3), (11, .int .i64 (x3))] a' ∧ SlR 1 encI w' fp0_0 A0_0 l0_0 ∧ Cl w' b0 26 [.slice A0_0 (l0_0).length cap0_0] ∧ Cl w' b1 29 [.int .i64 (p1_0), .int .i64 (p1_1)] ∧ Cl w' b2 29 [.int .i64 (p2_0), .int .i64 (p2_1)] ∧ OwR 1 encI 38 2 w' fp1 fr1 A3 cap3 l6 ∧ Chg [] w0 w' ∧ w0.heap.size ≤ w'.heap.size) ?_ ?_
     ·have hm := hs1
      refine cW_seq ?_
      obtain ⟨s4, hs2, hm⟩ := bindE hm
      refine cW_cut (fun a' w' => ∃ l7 : List (List (Int)), l7 = s4 ∧ Fr 98 [(0, .pointer (some ⟨b0, 0, none⟩)), (4, .pointer (some ⟨b1, 0, none⟩)), (5, .pointer (some ⟨b2, 0, none⟩)), (7, .int .i64 (((x1).length : Int))), (8, .int .i64 (wr ((((l0_0).length : Int)) * (((x1).length : Int))))), (9, .slice A3 (l7).length cap3), (11, .int .i64 (x3)), (12, .pointer (some ⟨b6, 0, none⟩))] a' ∧ SlR 1 encI w' fp0_0 A0_0 l0_0 ∧ Cl w' b0 26 [.slice A0_0 (l0_0).length cap0_0] ∧ Cl w' b1 29 [.int .i64 (p1_0), .int .i64 (p1_1)] ∧ Cl w' b2 29 [.int .i64 (p2_0), .int .i64 (p2_1)] ∧ OwR 1 encI 38 2 w' fp1 fr1 A3 cap3 l7 ∧ Cl w' b6 29 [.int .i64 (Int.tmod x3 (((x1).length : Int))), .int .i64 (wr (Int.tdiv x3 (((x1).length : Int))))] ∧ Chg [] w0 w' ∧ w0.heap.size ≤ w'.heap.size) ?_ ?_
      ·have hm := hs2
       refine cW_seq ?_
       refine cW_region ?_
       refine wS_loadA (d := 58) (T := 29) (ad := ⟨b6, 0, none⟩) (vs := [.int .i64 (Int.tmod x3 (((x1).length : Int))), .int .i64 (wr (Int.tdiv x3 (((x1).length : Int))))]) (by kernel_rfl) vt29 (fun i u hu => box_cells F24 0 hu (by rfl)) ?_
       refine wS_loadA (d := 59) (T := 29) (ad := ⟨b1, 0, none⟩) (vs := [.int .i64 (p1_0), .int .i64 (p1_1)]) (by kernel_rfl) vt29 (fun i u hu => box_cells F20 0 hu (by rfl)) ?_
       refine wS_neS (d := 60) (T := 29) (x := (Int.tmod x3 (((x1).length : Int)))) (y := (wr (Int.tdiv x3 (((x1).length : Int))))) (x' := p1_0) (y' := p1_1) (by kernel_rfl) eq29 ?_
       refine wS_pure 1 [(61, .bool (!((Int.tmod x3 (((x1).length : Int))) == p1_0 && (wr (Int.tdiv x3 (((x1).length : Int)))) == p1_1)))] (by kernel_rfl) ?_
       refine wS_bool (!((Int.tmod x3 (((x1).length : Int))) == p1_0 && (wr (Int.tdiv x3 (((x1).length : Int)))) == p1_1)) (fun hb4 => ?_) (fun hb4 => ?_)
       ·have hm := condT hb4 hm
        rewrite [hb4]
        refine wS_loadA (d := 62) (T := 29) (ad := ⟨b6, 0, none⟩) (vs := [.int .i64 (Int.tmod x3 (((x1).length : Int))), .int .i64 (wr (Int.tdiv x3 (((x1).length : Int))))]) (by kernel_rfl) vt29 (fun i u hu => box_cells F24 0 hu (by rfl)) ?_
        refine wS_loadA (d := 63) (T := 29) (ad := ⟨b2, 0, none⟩) (vs := [.int .i64 (p2_0), .int .i64 (p2_1)]) (by kernel_rfl) vt29 (fun i u hu => box_cells F21 0 hu (by rfl)) ?_
        refine wS_neS (d := 64) (T := 29) (x := (Int.tmod x3 (((x1).length : Int)))) (y := (wr (Int.tdiv x3 (((x1).length : Int))))) (x' := p2_0) (y' := p2_1) (by kernel_rfl) eq29 ?_
        refine wS_pure 1 [(65, .bool (!((Int.tmod x3 (((x1).length : Int))) == p2_0 && (wr (Int.tdiv x3 (((x1).length : Int)))) == p2_1)))] (by kernel_rfl) ?_
        refine wS_end (by rfl) ?_
        refine eX_then ?_
        refine cW_prune [(0, .pointer (some ⟨b0, 0, none⟩)), (4, .pointer (some ⟨b1, 0, none⟩)), (5, .pointer (some ⟨b2, 0, none⟩)), (7, .int .i64 (((x1).length : Int))), (8, .int .i64 (wr ((((l0_0).length : Int)) * (((x1).length : Int))))), (9, .slice A3 (l5).length cap3), (11, .int .i64 (x3)), (12, .pointer (some ⟨b6, 0, none⟩)), (65, .bool (!((Int.tmod x3 (((x1).length : Int))) == p2_0 && (wr (Int.tdiv x3 (((x1).length : Int)))) == p2_1)))] (by kernel_rfl) (by kernel_rfl) (fun a2 => ?_)
        refine cW_cond (t := !((Int.tmod x3 (((x1).length : Int))) == p2_0 && (wr (Int.tdiv x3 (((x1).length : Int)))) == p2_1)) (by kernel_rfl) (fun hb5 => ?_) (fun hb5 => ?_)
        ·have hm := condT hb5 hm
         refine cW_region ?_
         refine wS_pure 3 [(68, .int .i64 (wr (2 * x3))), (67, .int .i64 (x3)), (66, .slice A3 (l5).length cap3)] (by kernel_rfl) ?_
         obtain ⟨x4, hx4, hm⟩ := bindE hm
         refine wS_idx (d := 69) (T := 24) (A := A3) (n := (l5).length) (cap := cap3) (kd := .i64) (m := wr (2 * x3)) (by kernel_rfl) sl24 ((F22.slr encI_ok).is hx4) ?_
         obtain ⟨A6, cap6, fp4, hc13, hsub1, F25, hcl1⟩ := OwR.lend F22 hx4
         have G10 := low_inr G8
         have Dm1 := (F22.dj).symm
         refine wS_load1 (d := 70) (T := 38) (ad := (elA A3 1 (wr (2 * x3)) 0)) (v := .slice A6 (x4).length cap6) (by kernel_rfl) vt38 hc13 ?_
         refine wS_pure 3 [(73, .int .i64 (wr ((wr (2 * x3)) + 1))), (72, .int .i64 (wr (2 * x3))), (71, .int .i64 (x3))] (by kernel_rfl) ?_
         obtain ⟨x5, hx5, hm⟩ := bindE hm
         refine wS_idx (d := 74) (T := 38) (A := A6) (n := (x4).length) (cap := cap6) (kd := .i64) (m := wr ((wr (2 * x3)) + 1)) (by kernel_rfl) sl38 ((F25.sl encI_ok).is hx5) ?_
         refine wS_storeEl (x := x5) 1 (T := 2) (U := 2) (cap := cap6) (j := 0) (A := A6) (v := .int .i64 (1)) (vs := [.int .i64 (1)]) (m := wr ((wr (2 * x3)) + 1)) (by kernel_rfl) (by rfl) sz2 (by rfl) encI_ok F25 hx5 (by simp only [List.length_cons, List.length_nil]; omega) (by rfl) ?_
         intro w15 F26 hc14
         have F27 := hcl1 _ _ hc14 F26 (List.length_set ..)
         have hc15 := hc14.more (S' := (fp1 ++ fr1)) (fun x hx => hsub1 x hx)
         replace F18 := F18.chg hc15 (Dj.of L0_0 G8)
         replace F19 := F19.chg hc15 (dj1 (Dj.of L0 G8))
         replace F20 := F20.chg hc15 (dj1 D14)
         replace F21 := F21.chg hc15 (dj1 D15)
         replace F24 := F24.chg hc15 (dj1 (D18).symm)
         replace hB := hB.inS hc15 (inLow G8)
         replace hZ := Nat.le_trans hZ hc15.size
         clear F22
         rewrite [show (l5).length = (l5.set (Int.toNat (wr (2 * x3))) (x4.set (Int.toNat (wr ((wr (2 * x3)) + 1))) 1)).length from (List.length_set ..).symm]
         refine wS_end (by rfl) ?_
         have hq : (some (l5.set (Int.toNat (wr (2 * x3))) (x4.set (Int.toNat (wr ((wr (2 * x3)) + 1))) 1)) : Option ((List (List (Int))))) = some _ := hm
         replace hq := someE hq
         subst hq
         exact eX_J (fun hst => ⟨l5.set (Int.toNat (wr (2 * x3))) (x4.set (Int.toNat (wr ((wr (2 * x3)) + 1))) 1), rfl, Fr.of hst (by kernel_rfl), F18, F19, F20, F21, F27, F24, hB, hZ⟩)
        ·have hm := condF hb5 hm
         refine cW_skip ?_
         have hq : (some l5 : Option ((List (List (Int))))) = some _ := hm
         replace hq := someE hq
         subst hq
         exact eX_J (fun hst => ⟨l5, rfl, Fr.of hst (by kernel_rfl), F18, F19, F20, F21, F22, F24, hB, hZ⟩)
       ·have hm := condF hb4 hm
        rewrite [hb4]
        refine wS_pure 4 [(65, .bool (false)), (64, undef), (63, undef), (62, undef)] (by kernel_rfl) ?_
        refine wS_end (by rfl) ?_
        refine eX_then ?_
        refine cW_prune [(0, .pointer (some ⟨b0, 0, none⟩)), (4, .pointer (some ⟨b1, 0, none⟩)), (5, .pointer (some ⟨b2, 0, none⟩)), (7, .int .i64 (((x1).length : Int))), (8, .int .i64 (wr ((((l0_0).length : Int)) * (((x1).length : Int))))), (9, .slice A3 (l5).length cap3), (11, .int .i64 (x3)), (12, .pointer (some ⟨b6, 0, none⟩)), (65, .bool (false))] (by kernel_rfl) (by kernel_rfl) (fun a3 => ?_)
        refine cW_cond_f (by kernel_rfl) ?_
        refine cW_skip ?_
        have hq : (some l5 : Option ((List (List (Int))))) = some _ := hm
        replace hq := someE hq
        subst hq
        exact eX_J (fun hst => ⟨l5, rfl, Fr.of hst (by kernel_rfl), F18, F19, F20, F21, F22, F24, hB, hZ⟩)
      ·rintro a' w16 ⟨l7, hJ, hF4, F28, F29, F30, F31, F32, F33, hB, hZ⟩
       subst hJ
       refine Fr.goX hF4 (by kernel_rfl) ?_
       refine eX_then ?_
       refine cW_seq ?_
       refine cW_region ?_
       refine wS_pure 1 [(13, .int .i64 (0))] (by kernel_rfl) ?_
       refine wS_end (by rfl) ?_
       refine eX_then ?_
       obtain ⟨r3, hr4, hm⟩ := bindE hm
       have hm3 := hm
       refine cW_cut (fun a' w' => ∃ l8 : List (List (Int)), l8 = r3 ∧ Fr 98 [(0, .pointer (some ⟨b0, 0, none⟩)), (4, .pointer (some ⟨b1, 0, none⟩)), (5, .pointer (some ⟨b2, 0, none⟩)), (7, .int .i64 (((x1).length : Int))), (8, .int .i64 (wr ((((l0_0).length : Int)) * (((x1).length : Int))))), (9, .slice A3 (l8).length cap3), (11, .int .i64 (x3))] a' ∧ SlR 1 encI w' fp0_0 A0_0 l0_0 ∧ Cl w' b0 26 [.slice A0_0 (l0_0).length cap0_0] ∧ Cl w' b1 29 [.int .i64 (p1_0), .int .i64 (p1_1)] ∧ Cl w' b2 29 [.int .i64 (p2_0), .int .i64 (p2_1)] ∧ OwR 1 encI 38 2 w' fp1 fr1 A3 cap3 l8 ∧ Chg [] w0 w' ∧ w0.heap.size ≤ w'.heap.size) ?_ ?_
       ·refine cW_block ?_
        refine cW_loop _ (fun (s5 : Int × (List (List (Int)))) a' w' => ∃ x6 : Int, ∃ l9 : List (List (Int)), (x6, l9) = s5 ∧ Fr 98 [(0, .pointer (some ⟨b0, 0, none⟩)), (4, .pointer (some ⟨b1, 0, none⟩)), (5, .pointer (some ⟨b2, 0, none⟩)), (7, .int .i64 (((x1).length : Int))), (8, .int .i64 (wr ((((l0_0).length : Int)) * (((x1).length : Int))))), (9, .slice A3 (l9).length cap3), (11, .int .i64 (x3)), (12, .pointer (some ⟨b6, 0, none⟩)), (13, .int .i64 (x6))] a' ∧ SlR 1 encI w' fp0_0 A0_0 l0_0 ∧ Cl w' b0 26 [.slice A0_0 (l0_0).length cap0_0] ∧ Cl w' b1 29 [.int .i64 (p1_0), .int .i64 (p1_1)] ∧ Cl w' b2 29 [.int .i64 (p2_0), .int .i64 (p2_1)] ∧ OwR 1 encI 38 2 w' fp1 fr1 A3 cap3 l9 ∧ Cl w' b6 29 [.int .i64 (Int.tmod x3 (((x1).length : Int))), .int .i64 (wr (Int.tdiv x3 (((x1).length : Int))))] ∧ Chg [] w0 w' ∧ w0.heap.size ≤ w'.heap.size) hr4 (fun hst => ⟨0, l7, rfl, Fr.of hst (by kernel_rfl), F28, F29, F30, F31, F32, F33, hB, hZ⟩) ?_
        rintro _ c3 a' w17 ⟨x6, l9, rfl, hF5, F34, F35, F36, F37, F38, F39, hB, hZ⟩ hx6
        refine Fr.goOn hF5 (by kernel_rfl) ?_
        have hm := hx6
        unfold m_spec_l04Room_bimplMaze_s8 at hm
        refine cW_seq ?_
        refine cW_seq ?_
        refine cW_region ?_
        refine wS_pure 2 [(76, .bool (decide (x6 < 4))), (75, .int .i64 (x6))] (by kernel_rfl) ?_
        refine wS_end (by rfl) ?_
        refine eX_then ?_
        refine cW_cond (t := decide (x6 < 4)) (by kernel_rfl) (fun hb6 => ?_) (fun hb6 => ?_)
        ·have hm := condT hb6 hm
         refine cW_skip ?_
         refine eX_then ?_
         refine cW_seq ?_
         refine cW_block ?_
         obtain ⟨s6, hs3, hm⟩ := bindE hm
         refine cW_cut (fun a' w' => ∃ l10 : List (List (Int)), l10 = s6 ∧ Fr 98 [(0, .pointer (some ⟨b0, 0, none⟩)), (4, .pointer (some ⟨b1, 0, none⟩)), (5, .pointer (some ⟨b2, 0, none⟩)), (7, .int .i64 (((x1).length : Int))), (8, .int .i64 (wr ((((l0_0).length : Int)) * (((x1).length : Int))))), (9, .slice A3 (l10).length cap3), (11, .int .i64 (x3)), (12, .pointer (some ⟨b6, 0, none⟩)), (13, .int .i64 (x6))] a' ∧ SlR 1 encI w' fp0_0 A0_0 l0_0 ∧ Cl w' b0 26 [.slice A0_0 (l0_0).length cap0_0] ∧ Cl w' b1 29 [.int .i64 (p1_0), .int .i64 (p1_1)] ∧ Cl w' b2 29 [.int .i64 (p2_0), .int .i64 (p2_1)] ∧ OwR 1 encI 38 2 w' fp1 fr1 A3 cap3 l10 ∧ Cl w' b6 29 [.int .i64 (Int.tmod x3 (((x1).length : Int))), .int .i64 (wr (Int.tdiv x3 (((x1).length : Int))))] ∧ Chg [] w0 w' ∧ w0.heap.size ≤ w'.heap.size) ?_ ?_
         ·have hm := hs3
          refine cW_seq ?_
          refine cW_region ?_
          refine wS_loadA (d := 79) (T := 29) (ad := ⟨b6, 0, none⟩) (vs := [.int .i64 (Int.tmod x3 (((x1).length : Int))), .int .i64 (wr (Int.tdiv x3 (((x1).length : Int))))]) (by kernel_rfl) vt29 (fun i u hu => box_cells F39 0 hu (by rfl)) ?_
          refine wS_pure 1 [(80, .int .i64 (x6))] (by kernel_rfl) ?_
          obtain ⟨y2, hy2, hm⟩ := bindE hm
          refine wS_calls (d := 81) (f := 72) (vs := [.agg #[.int .i64 (Int.tmod x3 (((x1).length : Int))), .int .i64 (wr (Int.tdiv x3 (((x1).length : Int))))], .int .i64 (x6)]) (by kernel_rfl) ent72 (c_spec_l04Step hy2) ?_
          rintro _ w18 ⟨rfl, hc16⟩
          replace F34 := F34.chg hc16 Dj.nil
          replace F35 := F35.chg hc16 notNil
          replace F36 := F36.chg hc16 notNil
          replace F37 := F37.chg hc16 notNil
          replace F38 := F38.chg hc16 Dj.nil
          replace F39 := F39.chg hc16 notNil
          replace hB := hB.inS hc16 inNil
          replace hZ := Nat.le_trans hZ hc16.size
          refine ⟨.agg #[.int .i64 (y2.1), .int .i64 (y2.2)], rfl, ?_⟩
          refine wS_alloc (d := 14) (T := 29) (z := .agg #[.int .i64 (0), .int .i64 (0)]) (by kernel_rfl) (by kernel_rfl) ?_
          intro b7 w19 G11 F40 hc17
          replace F40 : Cl w19 b7 29 [.int .i64 (0), .int .i64 (0)] := F40
          have D19 : Dj [b1] [b7] := Dj.of (lt1 F36.lt) (low1 G11)
          have D20 : Dj [b2] [b7] := Dj.of (lt1 F37.lt) (low1 G11)
          have D21 : Dj (fp1 ++ fr1) [b7] := Dj.of F38.low (low1 G11)
          have D22 : Dj [b6] [b7] := Dj.of (lt1 F39.lt) (low1 G11)
          replace F34 := F34.chg hc17 Dj.nil
          replace F35 := F35.chg hc17 notNil
          replace F36 := F36.chg hc17 notNil
          replace F37 := F37.chg hc17 notNil
          replace F38 := F38.chg hc17 Dj.nil
          replace F39 := F39.chg hc17 notNil
          replace hB := hB.inS hc17 inNil
          replace G11 := Nat.le_trans hZ G11
          replace hZ := Nat.le_trans hZ hc17.size
          refine wS_store (T := 29) (g := b7) (o := 0) (ad := ⟨b7, 0, none⟩) (v := .agg #[.int .i64 (y2.1), .int .i64 (y2.2)]) (vs := [.int .i64 (y2.1), .int .i64 (y2.2)]) (by kernel_rfl) (by rfl) sz29 (by rfl) (by rfl) F40 (by simp only [List.length_cons, List.length_nil]; omega) ?_
          intro w20 F41 hc18
          replace F34 := F34.chg hc18 (Dj.of L0_0 (low1 G11))
          replace F35 := F35.chg hc18 (dj1 (Dj.of L0 (low1 G11)))
          replace F36 := F36.chg hc18 (dj1 D19)
          replace F37 := F37.chg hc18 (dj1 D20)
          replace F38 := F38.chg hc18 D21
          replace F39 := F39.chg hc18 (dj1 D22)
          replace hB := hB.inS hc18 (inLow (low1 G11))
          replace hZ := Nat.le_trans hZ hc18.size
          replace F41 : Cl w20 b7 29 [.int .i64 (y2.1), .int .i64 (y2.2)] := F41
          clear F40
          refine wS_end (by rfl) ?_
          refine eX_then ?_
          refine cW_seq ?_
          refine cW_region ?_
          refine wS_pure 1 [(82, .pointer (some ⟨b0, 0, none⟩))] (by kernel_rfl) ?_
          refine wS_loadA (d := 83) (T := 29) (ad := ⟨b7, 0, none⟩) (vs := [.int .i64 (y2.1), .int .i64 (y2.2)]) (by kernel_rfl) vt29 (fun i u hu => box_cells F41 0 hu (by rfl)) ?_
          obtain ⟨y3, hy3, hm⟩ := bindE hm
          refine wS_calls (d := 84) (f := 27) (vs := [.pointer (some ⟨b0, 0, none⟩), .agg #[.int .i64 (y2.1), .int .i64 (y2.2)]]) (by kernel_rfl) ent27 (c_spec_l04Open_bimplMaze hy3 F34 F35) ?_
          rintro _ w21 ⟨rfl, hc19⟩
          replace F34 := F34.chg hc19 Dj.nil
          replace F35 := F35.chg hc19 notNil
          replace F36 := F36.chg hc19 notNil
          replace F37 := F37.chg hc19 notNil
          replace F38 := F38.chg hc19 Dj.nil
          replace F39 := F39.chg hc19 notNil
          replace F41 := F41.chg hc19 notNil
          replace hB := hB.inS hc19 inNil
          replace hZ := Nat.le_trans hZ hc19.size
          refine ⟨.bool (y3), rfl, ?_⟩
          refine wS_end (by rfl) ?_
          refine eX_then ?_
          refine cW_cond (t := y3) (by kernel_rfl) (fun hb7 => ?_) (fun hb7 => ?_)
          ·have hm := condT hb7 hm
           refine cW_drawnTail [] 11 (by kernel_rfl) (by kernel_rfl) (fun w22 hc20 => ?_)
           replace F34 := F34.chg hc20 Dj.nil
           replace F35 := F35.chg hc20 notNil
           replace F36 := F36.chg hc20 notNil
           replace F37 := F37.chg hc20 notNil
           replace F38 := F38.chg hc20 Dj.nil
           replace F39 := F39.chg hc20 notNil
           replace F41 := F41.chg hc20 notNil
           replace hB := hB.inS hc20 inNil
           replace hZ := Nat.le_trans hZ hc20.size
           have hS := Chg.refl [] w22
           have Z6 := F34
           have Z7 := F35
           have Z8 := F36
           have Z9 := F37
           have Z10 := F38
           have Z11 := F39
           have Z12 := F41
           refine wH_take [0, 1, 2, 3] [3, 2, 1, 0] [(88, .int .i64 (wr ((wr (2 * x3)) + 1))), (87, .int .i64 (wr (2 * x3))), (86, .int .i64 (x3)), (85, .slice A3 (l9).length cap3)] (by kernel_rfl) (qT (qT (qB (qT (qL (qB (qT (qT (qB (qT (qL (qB (qT (qT qZ)))))))))))))) (by kernel_rfl) ?_
           obtain ⟨x7, hx7, hm⟩ := bindE hm
           refine wH_idx (i := 4) (d := 89) (T := 24) (A := A3) (n := (l9).length) (cap := cap3) (kd := .i64) (m := wr ((wr (2 * x3)) + 1)) (by kernel_rfl) (qT (qT (qB (qT (qL (qB (qT (qT (qB (qT (qL (qB (qT (qT qZ)))))))))))))) (by kernel_rfl) (by kernel_rfl) sl24 ((F38.slr encI_ok).is hx7) ?_
           obtain ⟨A7, cap7, fp5, hc21, hsub2, F42, hcl2⟩ := OwR.lend Z10 hx7
           have G12 := low_inr G8
           have Dm2 := (F38.dj).symm
           refine wH_load1 (i := 5) (d := 90) (T := 38) (ad := (elA A3 1 (wr ((wr (2 * x3)) + 1)) 0)) (v := .slice A7 (x7).length cap7) (by kernel_rfl) (qT (qT (qB (qT (qL (qB (qT (qT (qB (qT (qL (qB (qT (qT qZ)))))))))))))) (by kernel_rfl) (by kernel_rfl) vt38 (fun W hW => hW.keep hc21) ?_
           refine wH_take [6] [6, 5, 4, 3, 2, 1, 0] [(91, .pointer (some ⟨b0, 0, none⟩))] (by kernel_rfl) (qT (qT (qB (qT (qL (qB (qT (qT (qB (qT (qL (qB (qT (qT qZ)))))))))))))) (by kernel_rfl) ?_
           refine wH_loadA (i := 7) (d := 92) (T := 29) (ad := ⟨b7, 0, none⟩) (vs := [.int .i64 (y2.1), .int .i64 (y2.2)]) (by kernel_rfl) (qT (qT (qB (qT (qL (qB (qT (qT (qB (qT (qL (qB (qT (qT qZ)))))))))))))) (by kernel_rfl) (by kernel_rfl) vt29 (fun W hW i u hu => box_cells (Z12.chg hW notNil) 0 hu (by rfl)) ?_
           refine wH_take [10] [10, 7, 6, 5, 4, 3, 2, 1, 0] [(95, .int .i64 (wr ((((l0_0).length : Int)) * (((x1).length : Int)))))] (by kernel_rfl) (qT (qT (qB (qT (qL (qB (qT (qT (qB (qT (qL (qB (qT (qT qZ)))))))))))))) (by kernel_rfl) ?_
           refine wH_all [8] (by rfl) (by kernel_rfl) (by simp) ⟨⟨by kernel_rfl, ?_⟩, trivial⟩
           obtain ⟨y4, hy4, hm⟩ := bindE hm
           refine wS_calls (d := 93) (f := 61) (vs := [.pointer (some ⟨b0, 0, none⟩), .agg #[.int .i64 (y2.1), .int .i64 (y2.2)]]) (by kernel_rfl) ent61 (c_spec_l04Index_bimplMaze hy4 F34 F35) ?_
           rintro _ w23 ⟨rfl, hc22⟩
           replace F34 := F34.chg hc22 Dj.nil
           replace F35 := F35.chg hc22 notNil
           replace F36 := F36.chg hc22 notNil
           replace F37 := F37.chg hc22 notNil
           replace F38 := F38.chg hc22 Dj.nil
           replace F39 := F39.chg hc22 notNil
           replace F41 := F41.chg hc22 notNil
           replace F42 := F42.chg hc22 Dj.nil
           replace hcl2 := fun w2 l2 hc2 hO hl => hcl2 w2 l2 ((hc22.more (fun x hx => nomatch hx)).trans hc2) hO hl
           replace hB := hB.inS hc22 inNil
           have hSz := hS
           replace hS := hS.inS hc22 inNil
           replace hZ := Nat.le_trans hZ hc22.size
           refine ⟨.int .i64 (y4), rfl, ?_⟩
           refine wS_end (by kernel_rfl) ?_
           refine eX_KH hS ?_
           refine wH_take [9] [9, 8, 10, 7, 6, 5, 4, 3, 2, 1, 0] [(94, .int .i64 (wr (2 * y4)))] (by kernel_rfl) (qT (qT (qB (qT (qL (qB (qT (qT (qB (qT (qL (qB (qT (qT qZ)))))))))))))) (by kernel_rfl) ?_
           refine wH_done (by kernel_rfl) ?_
           refine eX_tail ?_
           obtain ⟨x8, hx8, hm⟩ := bindE hm
           refine wS_idx (d := 96) (T := 38) (A := A7) (n := (x7).length) (cap := cap7) (kd := .i64) (m := wr (2 * y4)) (by kernel_rfl) sl38 ((F42.sl encI_ok).is hx8) ?_
           refine wS_storeEl (x := x8) (wr ((((l0_0).length : Int)) * (((x1).length : Int)))) (T := 2) (U := 2) (cap := cap7) (j := 0) (A := A7) (v := .int .i64 (wr ((((l0_0).length : Int)) * (((x1).length : Int))))) (vs := [.int .i64 (wr ((((l0_0).length : Int)) * (((x1).length : Int))))]) (m := wr (2 * y4)) (by kernel_rfl) (by rfl) sz2 (by rfl) encI_ok F42 hx8 (by simp only [List.length_cons, List.length_nil]; omega) (by rfl) ?_
           intro w24 F43 hc23
           have F44 := hcl2 _ _ hc23 F43 (List.length_set ..)
           have hc24 := hc23.more (S' := (fp1 ++ fr1)) (fun x hx => hsub2 x hx)
           replace F34 := F34.chg hc24 (Dj.of L0_0 G8)
           replace F35 := F35.chg hc24 (dj1 (Dj.of L0 G8))
           replace F36 := F36.chg hc24 (dj1 D14)
           replace F37 := F37.chg hc24 (dj1 D15)
           replace F39 := F39.chg hc24 (dj1 (D18).symm)
           replace F41 := F41.chg hc24 (dj1 (D21).symm)
           replace hB := hB.inS hc24 (inLow G8)
           replace hZ := Nat.le_trans hZ hc24.size
           clear F38
           rewrite [show (l9).length = (l9.set (Int.toNat (wr ((wr (2 * x3)) + 1))) (x7.set (Int.toNat (wr (2 * y4))) (wr ((((l0_0).length : Int)) * (((x1).length : Int)))))).length from (List.length_set ..).symm]
           refine wS_end (by rfl) ?_
           have hq : (some (l9.set (Int.toNat (wr ((wr (2 * x3)) + 1))) (x7.set (Int.toNat (wr (2 * y4))) (wr ((((l0_0).length : Int)) * (((x1).length : Int)))))) : Option ((List (List (Int))))) = some _ := hm
           replace hq := someE hq
           subst hq
           exact eX_J (fun hst => ⟨l9.set (Int.toNat (wr ((wr (2 * x3)) + 1))) (x7.set (Int.toNat (wr (2 * y4))) (wr ((((l0_0).length : Int)) * (((x1).length : Int))))), rfl, Fr.of hst (by kernel_rfl), F34, F35, F36, F37, F44, F39, hB, hZ⟩)
          ·have hm := condF hb7 hm
           refine cW_skip ?_
           have hq : (some l9 : Option ((List (List (Int))))) = some _ := hm
           replace hq := someE hq
           subst hq
           exact eX_J (fun hst => ⟨l9, rfl, Fr.of hst (by kernel_rfl), F34, F35, F36, F37, F38, F39, hB, hZ⟩)
         ·rintro a' w25 ⟨l10, hJ, hF6, F45, F46, F47, F48, F49, F50, hB, hZ⟩
          subst hJ
          refine Fr.goX hF6 (by kernel_rfl) ?_
          refine eX_block ?_
          refine eX_then ?_
          refine cW_region ?_
          refine wS_pure 3 [(13, .int .i64 (wr (x6 + 1))), (78, .int .i64 (wr (x6 + 1))), (77, .int .i64 (x6))] (by kernel_rfl) ?_
          refine wS_end (by rfl) ?_
          have hq : (some (Ctl.next ((wr (x6 + 1), l10))) : Option (Ctl (Int × (List (List (Int)))) ((List (List (Int)))))) = some _ := hm
          replace hq := someE hq
          subst hq
          exact eX_next hx6 (fun hst => ⟨wr (x6 + 1), l10, rfl, Fr.of hst (by kernel_rfl), F45, F46, F47, F48, F49, F50, hB, hZ⟩)
        ·have hm := condF hb6 hm
         refine cW_exit ?_
         refine eX_then_exit ?_
         have hq : (some (Ctl.out l9) : Option (Ctl (Int × (List (List (Int)))) ((List (List (Int)))))) = some _ := hm
         replace hq := someE hq
         subst hq
         refine eX_outX hx6 (fun hr5 => ?_)
         replace hr5 := hr5.symm
         subst hr5
         refine eX_block_hit ?_
         exact eX_J (fun hst => ⟨l9, rfl, Fr.of hst (by kernel_rfl), F34, F35, F36, F37, F38, hB, hZ⟩)
       ·rintro a' w26 ⟨l8, hJ, hF7, F51, F52, F53, F54, F55, hB, hZ⟩
        subst hJ
        refine Fr.goX hF7 (by kernel_rfl) ?_
        have hq : (some l8 : Option ((List (List (Int))))) = some _ := hm
        replace hq := someE hq
        subst hq
        exact eX_J (fun hst => ⟨l8, rfl, Fr.of hst (by kernel_rfl), F51, F52, F53, F54, F55, hB, hZ⟩)
     ·rintro a' w27 ⟨l6, hJ, hF8, F56, F57, F58, F59, F60, hB, hZ⟩
      subst hJ
      refine Fr.goX hF8 (by kernel_rfl) ?_
      refine eX_block ?_
      refine eX_then ?_
      refine cW_region ?_
      refine wS_pure 3 [(11, .int .i64 (wr (x3 + 1))), (46, .int .i64 (wr (x3 + 1))), (45, .int .i64 (x3))] (by kernel_rfl) ?_
      refine wS_end (by rfl) ?_
      have hq : (some (Ctl.next ((wr (x3 + 1), l6))) : Option (Ctl (Int × (List (List (Int)))) ((List (List (Int)))))) = some _ := hm
      replace hq := someE hq
      subst hq
      exact eX_next hx3 (fun hst => ⟨wr (x3 + 1), l6, rfl, Fr.of hst (by kernel_rfl), F56, F57, F58, F59, F60, hB, hZ⟩)
   ·have hm := condF hb2 hm
    refine cW_exit ?_
    refine eX_then_exit ?_
    have hq : (some (Ctl.out l5) : Option (Ctl (Int × (List (List (Int)))) ((List (List (Int)))))) = some _ := hm
    replace hq := someE hq
    subst hq
    refine eX_outX hx3 (fun hr6 => ?_)
    replace hr6 := hr6.symm
    subst hr6
    refine eX_block_hit ?_
    exact eX_J (fun hst => ⟨l5, rfl, Fr.of hst (by kernel_rfl), F22, hB, hZ⟩)
  ·rintro a' w28 ⟨l4, hJ, hF9, F61, hB, hZ⟩
   subst hJ
   refine Fr.goX hF9 (by kernel_rfl) ?_
   refine eX_then ?_
   refine cW_seq ?_
   refine cW_region ?_
   refine wS_pure 2 [(6, .slice A3 (l4).length cap3), (97, .slice A3 (l4).length cap3)] (by kernel_rfl) ?_
   refine wS_end (by rfl) ?_
   refine eX_then ?_
   refine cW_ret ?_
   have hq : (some l4 : Option ((List (List (Int))))) = some _ := hm
   replace hq := someE hq
   subst hq
   refine eX_ret (vs := [.slice A3 (l4).length cap3]) [.tmp 6] (by rfl) ⟨by (show lkE _ _ _ = _); kernel_rfl, trivial⟩ ?_
   exact ⟨A3, cap3, fp1, fr1, rfl, F61, G8, hB⟩

set_option maxRecDepth 100000 in
/-- spec.l04Cut -/
theorem c_spec_l04Cut_bimplMaze {w0 : World} {l0_0 : List (List (Int))} {A0_0 : Option Addr} {cap0_0 : Nat} {fp0_0 : List Nat} {b0 : Nat} {p1_0 : Int} {p1_1 : Int} {p2_0 : Int} {p2_1 : Int} {r : (Int) × (List (Int))} (hm : m_spec_l04Cut_bimplMaze l0_0 p1_0 p1_1 p2_0 p2_1 = some r) (F0_0 : SlR 1 encI w0 fp0_0 A0_0 l0_0) (F0 : Cl w0 b0 26 [.slice A0_0 (l0_0).length cap0_0]) :
  Calls Try.prog 39 #[.pointer (some ⟨b0, 0, none⟩), .agg #[.int .i64 (p1_0), .int .i64 (p1_1)], .agg #[.int .i64 (p2_0), .int .i64 (p2_1)]] w0 fun e w' => ∃ A101 cap101 fp101, e = .returned (.tuple #[.int .i64 (r.1), .slice A101 (r.2).length cap101]) ∧ Ow 1 encI 2 w' fp101 A101 cap101 r.2 ∧ (∀ x ∈ fp101, w0.heap.size ≤ x) ∧ Chg [] w0 w' := by
 have L0_0 := F0_0.low
 have L0 := lt1 F0.lt
 have hB : Chg [] w0 w0 := Chg.refl _ _
 have hZ := Nat.le_refl w0.heap.size
 unfold m_spec_l04Cut_bimplMaze at hm
 refine enterE (N := 71) Try.func39 (by rfl) Try.ntmps39 (by simp) [(0, .pointer (some ⟨b0, 0, none⟩)), (1, .agg #[.int .i64 (p1_0), .int .i64 (p1_1)]), (2, .agg #[.int .i64 (p2_0), .int .i64 (p2_1)])] (by rfl) (by kernel_rfl) (fun a => ?_)
 refine cW_seq ?_
 refine cW_region ?_
 refine wS_box (d := 4) (T := 29) (x := .agg #[.int .i64 (p1_0), .int .i64 (p1_1)]) (by kernel_rfl) ?_
 intro b1 w1 G1 F1 hc1
 replace F1 : Cl w1 b1 29 [.int .i64 (p1_0), .int .i64 (p1_1)] := F1
 replace F0_0 := F0_0.chg hc1 Dj.nil
 replace F0 := F0.chg hc1 notNil
 replace hB := hB.inS hc1 inNil
 replace G1 := Nat.le_trans hZ G1
 replace hZ := Nat.le_trans hZ hc1.size
 refine wS_box (d := 5) (T := 29) (x := .agg #[.int .i64 (p2_0), .int .i64 (p2_1)]) (by kernel_rfl) ?_
 intro b2 w2 G2 F2 hc2
 replace F2 : Cl w2 b2 29 [.int .i64 (p2_0), .int .i64 (p2_1)] := F2
 have D1 : Dj [b1] [b2] := Dj.of (lt1 F1.lt) (low1 G2)
 replace F0_0 := F0_0.chg hc2 Dj.nil
 replace F0 := F0.chg hc2 notNil
 replace F1 := F1.chg hc2 notNil
 replace hB := hB.inS hc2 inNil
 replace G2 := Nat.le_trans hZ G2
 replace hZ := Nat.le_trans hZ hc2.size
 refine wS_pure 2 [(7, .slice none 0 0), (6, .int .i64 (0))] (by kernel_rfl) ?_
 refine wS_end (by rfl) ?_
 refine eX_then ?_
 refine cW_seq ?_
 refine cW_region ?_
 refine wS_pure 1 [(14, .pointer (some ⟨b0, 0, none⟩))] (by kernel_rfl) ?_
 refine wS_loadA (d := 15) (T := 29) (ad := ⟨b1, 0, none⟩) (vs := [.int .i64 (p1_0), .int .i64 (p1_1)]) (by kernel_rfl) vt29 (fun i u hu => box_cells F1 0 hu (by rfl)) ?_
 refine wS_loadA (d := 16) (T := 29) (ad := ⟨b2, 0, none⟩) (vs := [.int .i64 (p2_0), .int .i64 (p2_1)]) (by kernel_rfl) vt29 (fun i u hu => box_cells F2 0 hu (by rfl)) ?_
 obtain ⟨y1, hy1, hm⟩ := bindE hm
 refine wS_calls (d := 17) (f := 60) (vs := [.pointer (some ⟨b0, 0, none⟩), .agg #[.int .i64 (p1_0), .int .i64 (p1_1)], .agg #[.int .i64 (p2_0), .int .i64 (p2_1)]]) (by kernel_rfl) ent60 (c_spec_l04Room_bimplMaze hy1 F0_0 F0) ?_
 rintro _ w3 ⟨A1, cap1, fp1, fr1, rfl, F3, G3, hc3⟩
 have D2 : Dj [b1] (fp1 ++ fr1) := Dj.of (lt1 F1.lt) G3
 have D3 : Dj [b2] (fp1 ++ fr1) := Dj.of (lt1 F2.lt) G3
 replace F0_0 := F0_0.chg hc3 Dj.nil
 replace F0 := F0.chg hc3 notNil
 replace F1 := F1.chg hc3 notNil
 replace F2 := F2.chg hc3 notNil
 replace hB := hB.inS hc3 inNil
 replace G3 := low_le hZ G3
 replace hZ := Nat.le_trans hZ hc3.size
 refine ⟨.slice A1 (y1).length cap1, rfl, ?_⟩
 refine wS_pure 1 [(8, .slice A1 (y1).length cap1)] (by kernel_rfl) ?_
 refine wS_end (by rfl) ?_
 refine eX_then ?_
 refine cW_seq ?_
 refine cW_region ?_
 refine wS_pure 1 [(18, .pointer (some ⟨b0, 0, none⟩))] (by kernel_rfl) ?_
 refine wS_loadA (d := 19) (T := 29) (ad := ⟨b1, 0, none⟩) (vs := [.int .i64 (p1_0), .int .i64 (p1_1)]) (by kernel_rfl) vt29 (fun i u hu => box_cells F1 0 hu (by rfl)) ?_
 obtain ⟨y2, hy2, hm⟩ := bindE hm
 refine wS_calls (d := 20) (f := 61) (vs := [.pointer (some ⟨b0, 0, none⟩), .agg #[.int .i64 (p1_0), .int .i64 (p1_1)]]) (by kernel_rfl) ent61 (c_spec_l04Index_bimplMaze hy2 F0_0 F0) ?_
 rintro _ w4 ⟨rfl, hc4⟩
 replace F0_0 := F0_0.chg hc4 Dj.nil
 replace F0 := F0.chg hc4 notNil
 replace F1 := F1.chg hc4 notNil
 replace F2 := F2.chg hc4 notNil
 replace F3 := F3.chg hc4 Dj.nil
 replace hB := hB.inS hc4 inNil
 replace hZ := Nat.le_trans hZ hc4.size
 refine ⟨.int .i64 (y2), rfl, ?_⟩
 refine wS_pure 3 [(9, .int .i64 (wr ((wr (2 * y2)) + 1))), (22, .int .i64 (wr ((wr (2 * y2)) + 1))), (21, .int .i64 (wr (2 * y2)))] (by kernel_rfl) ?_
 refine wS_end (by rfl) ?_
 refine eX_then ?_
 refine cW_seq ?_
 refine cW_region ?_
 refine wS_pure 1 [(23, .pointer (some ⟨b0, 0, none⟩))] (by kernel_rfl) ?_
 refine wS_loadA (d := 24) (T := 29) (ad := ⟨b2, 0, none⟩) (vs := [.int .i64 (p2_0), .int .i64 (p2_1)]) (by kernel_rfl) vt29 (fun i u hu => box_cells F2 0 hu (by rfl)) ?_
 obtain ⟨y3, hy3, hm⟩ := bindE hm
 refine wS_calls (d := 25) (f := 61) (vs := [.pointer (some ⟨b0, 0, none⟩), .agg #[.int .i64 (p2_0), .int .i64 (p2_1)]]) (by kernel_rfl) ent61 (c_spec_l04Index_bimplMaze hy3 F0_0 F0) ?_
 rintro _ w5 ⟨rfl, hc5⟩
 replace F0_0 := F0_0.chg hc5 Dj.nil
 replace F0 := F0.chg hc5 notNil
 replace F1 := F1.chg hc5 notNil
 replace F2 := F2.chg hc5 notNil
 replace F3 := F3.chg hc5 Dj.nil
 replace hB := hB.inS hc5 inNil
 replace hZ := Nat.le_trans hZ hc5.size
 refine ⟨.int .i64 (y3), rfl, ?_⟩
 refine wS_pure 2 [(10, .int .i64 (wr (2 * y3))), (26, .int .i64 (wr (2 * y3)))] (by kernel_rfl) ?_
 refine wS_end (by rfl) ?_
 refine eX_then ?_
 refine cW_seq ?_
 refine cW_region ?_
 refine wS_pure 1 [(11, .int .i64 (0))] (by kernel_rfl) ?_
 refine wS_end (by rfl) ?_
 refine eX_then ?_
 refine cW_prune [(8, .slice A1 (y1).length cap1), (9, .int .i64 (wr ((wr (2 * y2)) + 1))), (10, .int .i64 (wr (2 * y3))), (11, .int .i64 (0))] (by kernel_rfl) (by kernel_rfl) (fun a1 => ?_)
 obtain ⟨r1, hr1, hm⟩ := bindE hm
 have hm1 := hm
 refine cW_cut (fun a' w' => Sum.inl (()) = r1 ∧ Fr 71 [] a' ∧ Chg [] w0 w' ∧ w0.heap.size ≤ w'.heap.size) ?_ ?_
 ·refine cW_block ?_
  refine cW_loop _ (fun (s1 : Int × (List (List (Int)))) a' w' => ∃ x1 : Int, ∃ l1 : List (List (Int)), (x1, l1) = s1 ∧ Fr 71 [(8, .slice A1 (l1).length cap1), (9, .int .i64 (wr ((wr (2 * y2)) + 1))), (10, .int .i64 (wr (2 * y3))), (11, .int .i64 (x1))] a' ∧ OwR 1 encI 38 2 w' fp1 fr1 A1 cap1 l1 ∧ Chg [] w0 w' ∧ w0.heap.size ≤ w'.heap.size) hr1 (fun hst => ⟨0, y1, rfl, Fr.of hst (by kernel_rfl), F3, hB, hZ⟩) ?_
  rintro _ c1 a' w6 ⟨x1, l1, rfl, hF1, F4, hB, hZ⟩ hx1
  refine Fr.goOn hF1 (by kernel_rfl) ?_
  have hm := hx1
  unfold m_spec_l04Cut_bimplMaze_s3 at hm
  refine cW_block ?_
  refine cW_seq ?_
  refine cW_region ?_
  refine wS_pure 2 [(28, .int .i64 (wr ((wr (2 * y2)) + 1))), (27, .slice A1 (l1).length cap1)] (by kernel_rfl) ?_
  obtain ⟨y4, hy4, hm⟩ := bindE hm
  refine wS_calls (d := 29) (f := 62) (vs := [.slice A1 (l1).length cap1, .int .i64 (wr ((wr (2 * y2)) + 1))]) (by kernel_rfl) ent62 (c_spec_l04Search hy4 (F4.slr encI_ok)) ?_
  rintro _ w7 ⟨A2, cap2, fp2, rfl, F5, G4, hc6⟩
  have D4 : Dj (fp1 ++ fr1) fp2 := Dj.of F4.low G4
  replace F4 := F4.chg hc6 Dj.nil
  replace hB := hB.inS hc6 inNil
  replace G4 := low_le hZ G4
  replace hZ := Nat.le_trans hZ hc6.size
  refine ⟨.slice A2 (y4).length cap2, rfl, ?_⟩
  refine wS_pure 1 [(12, .slice A2 (y4).length cap2)] (by kernel_rfl) ?_
  refine wS_end (by rfl) ?_
  refine eX_then ?_
  refine cW_seq ?_
  refine cW_seq ?_
  refine cW_region ?_
  refine wS_pure 2 [(31, .int .i64 (wr (2 * y3))), (30, .slice A2 (y4).length cap2)] (by kernel_rfl) ?_
  obtain ⟨x2, hx2, hm⟩ := bindE hm
  refine wS_idx (d := 32) (T := 38) (A := A2) (n := (y4).length) (cap := cap2) (kd := .i64) (m := wr (2 * y3)) (by kernel_rfl) sl38 ((F5.sl encI_ok).is hx2) ?_
  refine wS_load1 (d := 33) (T := 2) (ad := (elA A2 1 (wr (2 * y3)) 0)) (v := .int .i64 (x2)) (by kernel_rfl) vt2 (Sl.cell (F5.sl encI_ok) hx2 0 (by rfl)) ?_
  refine wS_pure 1 [(34, .bool (decide (x2 < 0)))] (by kernel_rfl) ?_
  refine wS_end (by rfl) ?_
  refine eX_then ?_
  refine cW_cond (t := decide (x2 < 0)) (by kernel_rfl) (fun hb1 => ?_) (fun hb1 => ?_)
  ·have hm := condT hb1 hm
   refine cW_seq ?_
   refine cW_region ?_
   refine wS_pure 4 [(7, .slice A2 (y4).length cap2), (6, .int .i64 (x1)), (36, .slice A2 (y4).length cap2), (35, .int .i64 (x1))] (by kernel_rfl) ?_
   refine wS_end (by rfl) ?_
   refine eX_then ?_
   refine cW_ret ?_
   refine eX_then_ret ?_
   refine eX_block_ret ?_
   have hq : (some (Ctl.out (Sum.inr ((x1, y4)))) : Option (Ctl (Int × (List (List (Int)))) (Sum (Unit) ((Int) × (List (Int)))))) = some _ := hm
   replace hq := someE hq
   subst hq
   refine eX_outR hx1 (fun hr => ?_)
   subst hr
   refine eX_block_ret ?_
   refine eX_then_ret ?_
   have hq : (some ((x1, y4)) : Option ((Int) × (List (Int)))) = some _ := hm1
   replace hq := someE hq
   subst hq
   refine eX_ret (vs := [.int .i64 (x1), .slice A2 (y4).length cap2]) [.tmp 6, .tmp 7] (by rfl) ⟨by (show lkE _ _ _ = _); kernel_rfl, ⟨by (show lkE _ _ _ = _); kernel_rfl, trivial⟩⟩ ?_
   exact ⟨A2, cap2, fp2, rfl, F5, G4, hB⟩
  ·have hm := condF hb1 hm
   refine cW_skip ?_
   refine eX_then ?_
   refine cW_seq ?_
   refine cW_seq ?_
   refine cW_region ?_
   refine wS_pure 2 [(13, .int .i64 (wr (2 * y3))), (37, .int .i64 (wr (2 * y3)))] (by kernel_rfl) ?_
   refine wS_end (by rfl) ?_
   refine eX_then ?_
   obtain ⟨r2, hr2, hm⟩ := bindE hm
   have hm2 := hm
   refine cW_cut (fun a' w' => ∃ l2 : List (List (Int)), l2 = r2 ∧ Fr 71 [(8, .slice A1 (l2).length cap1), (9, .int .i64 (wr ((wr (2 * y2)) + 1))), (10, .int .i64 (wr (2 * y3))), (11, .int .i64 (x1))] a' ∧ OwR 1 encI 38 2 w' fp1 fr1 A1 cap1 l2 ∧ Chg [] w0 w' ∧ w0.heap.size ≤ w'.heap.size) ?_ ?_
   ·refine cW_block ?_
    refine cW_loop _ (fun (s2 : Int × (List (List (Int)))) a' w' => ∃ x3 : Int, ∃ l3 : List (List (Int)), (x3, l3) = s2 ∧ Fr 71 [(8, .slice A1 (l3).length cap1), (9, .int .i64 (wr ((wr (2 * y2)) + 1))), (10, .int .i64 (wr (2 * y3))), (11, .int .i64 (x1)), (12, .slice A2 (y4).length cap2), (13, .int .i64 (x3))] a' ∧ OwR 1 encI 38 2 w' fp1 fr1 A1 cap1 l3 ∧ Ow 1 encI 2 w' fp2 A2 cap2 y4 ∧ Chg [] w0 w' ∧ w0.heap.size ≤ w'.heap.size) hr2 (fun hst => ⟨wr (2 * y3), l1, rfl, Fr.of hst (by kernel_rfl), F4, F5, hB, hZ⟩) ?_
    rintro _ c2 a' w8 ⟨x3, l3, rfl, hF2, F6, F7, hB, hZ⟩ hx3
    refine Fr.goOn hF2 (by kernel_rfl) ?_
    have hm := hx3
    unfold m_spec_l04Cut_bimplMaze_s4 at hm
    refine cW_seq ?_
    refine cW_seq ?_
    refine cW_region ?_
    refine wS_pure 3 [(40, .bool (x3 != (wr ((wr (2 * y2)) + 1)))), (39, .int .i64 (wr ((wr (2 * y2)) + 1))), (38, .int .i64 (x3))] (by kernel_rfl) ?_
    refine wS_end (by rfl) ?_
    refine eX_then ?_
    refine cW_cond (t := x3 != (wr ((wr (2 * y2)) + 1))) (by kernel_rfl) (fun hb2 => ?_) (fun hb2 => ?_)
    ·have hm := condT hb2 hm
     refine cW_skip ?_
     refine eX_then ?_
     refine cW_seq ?_
     refine cW_block ?_
     refine cW_seq ?_
     refine cW_region ?_
     refine wS_pure 3 [(47, .int .i64 (x3)), (46, .slice A2 (y4).length cap2), (45, .slice A1 (l3).length cap1)] (by kernel_rfl) ?_
     obtain ⟨x4, hx4, hm⟩ := bindE hm
     refine wS_idx (d := 48) (T := 38) (A := A2) (n := (y4).length) (cap := cap2) (kd := .i64) (m := x3) (by kernel_rfl) sl38 ((F7.sl encI_ok).is hx4) ?_
     refine wS_load1 (d := 49) (T := 2) (ad := (elA A2 1 (x3) 0)) (v := .int .i64 (x4)) (by kernel_rfl) vt2 (Sl.cell (F7.sl encI_ok) hx4 0 (by rfl)) ?_
     obtain ⟨x5, hx5, hm⟩ := bindE hm
     refine wS_idx (d := 50) (T := 24) (A := A1) (n := (l3).length) (cap := cap1) (kd := .i64) (m := x4) (by kernel_rfl) sl24 ((F6.slr encI_ok).is hx5) ?_
     obtain ⟨A3, cap3, fp3, hc7, hsub1, F8, hcl1⟩ := OwR.lend F6 hx5
     have G5 := low_inr G3
     have Dm1 := (F6.dj).symm
     refine wS_load1 (d := 51) (T := 38) (ad := (elA A1 1 (x4) 0)) (v := .slice A3 (x5).length cap3) (by kernel_rfl) vt38 hc7 ?_
     refine wS_pure 1 [(52, .int .i64 (x3))] (by kernel_rfl) ?_
     obtain ⟨x6, hx6, hm⟩ := bindE hm
     refine wS_idx (d := 53) (T := 38) (A := A3) (n := (x5).length) (cap := cap3) (kd := .i64) (m := x3) (by kernel_rfl) sl38 ((F8.sl encI_ok).is hx6) ?_
     refine wS_load1 (d := 54) (T := 2) (ad := (elA A3 1 (x3) 0)) (v := .int .i64 (x6)) (by kernel_rfl) vt2 (Sl.cell (F8.sl encI_ok) hx6 0 (by rfl)) ?_
     refine wS_pure 1 [(55, .int .i64 (wr (x6 - 1)))] (by kernel_rfl) ?_
     obtain ⟨x7, hx7, hm⟩ := bindE hm
     refine wS_idx (d := 56) (T := 38) (A := A3) (n := (x5).length) (cap := cap3) (kd := .i64) (m := x3) (by kernel_rfl) sl38 ((F8.sl encI_ok).is hx7) ?_
     refine wS_storeEl (x := x7) (wr (x6 - 1)) (T := 2) (U := 2) (cap := cap3) (j := 0) (A := A3) (v := .int .i64 (wr (x6 - 1))) (vs := [.int .i64 (wr (x6 - 1))]) (m := x3) (by kernel_rfl) (by rfl) sz2 (by rfl) encI_ok F8 hx7 (by simp only [List.length_cons, List.length_nil]; omega) (by rfl) ?_
     intro w9 F9 hc8
     have F10 := hcl1 _ _ hc8 F9 (List.length_set ..)
     have hc9 := hc8.more (S' := (fp1 ++ fr1)) (fun x hx => hsub1 x hx)
     replace F7 := F7.chg hc9 (D4).symm
     replace hB := hB.inS hc9 (inLow G3)
     replace hZ := Nat.le_trans hZ hc9.size
     clear F6
     rewrite [show (l3).length = (l3.set (Int.toNat x4) (x5.set (Int.toNat x3) (wr (x6 - 1)))).length from (List.length_set ..).symm]
     refine wS_end (by rfl) ?_
     refine eX_then ?_
     refine cW_drawnTail [] 8 (by kernel_rfl) (by kernel_rfl) (fun w10 hc10 => ?_)
     replace F10 := F10.chg hc10 Dj.nil
     replace F7 := F7.chg hc10 Dj.nil
     replace hB := hB.inS hc10 inNil
     replace hZ := Nat.le_trans hZ hc10.size
     have hS := Chg.refl [] w10
     have Z1 := F10
     have Z2 := F7
     refine wH_take [0, 1] [1, 0] [(58, .int .i64 (x3)), (57, .slice A1 (l3.set (Int.toNat x4) (x5.set (Int.toNat x3) (wr (x6 - 1)))).length cap1)] (by kernel_rfl) (qT (qB (qT (qL (qB (qT (qT (qB (qL (qB (qT qZ))))))))))) (by kernel_rfl) ?_
     obtain ⟨x8, hx8, hm⟩ := bindE hm
     refine wH_idx (i := 2) (d := 59) (T := 24) (A := A1) (n := (l3.set (Int.toNat x4) (x5.set (Int.toNat x3) (wr (x6 - 1)))).length) (cap := cap1) (kd := .i64) (m := x3) (by kernel_rfl) (qT (qB (qT (qL (qB (qT (qT (qB (qL (qB (qT qZ))))))))))) (by kernel_rfl) (by kernel_rfl) sl24 ((F10.slr encI_ok).is hx8) ?_
     obtain ⟨A4, cap4, fp4, hc11, hsub2, F11, hcl2⟩ := OwR.lend Z1 hx8
     have G6 := low_inr G3
     have Dm2 := (F10.dj).symm
     refine wH_load1 (i := 3) (d := 60) (T := 38) (ad := (elA A1 1 (x3) 0)) (v := .slice A4 (x8).length cap4) (by kernel_rfl) (qT (qB (qT (qL (qB (qT (qT (qB (qL (qB (qT qZ))))))))))) (by kernel_rfl) (by kernel_rfl) vt38 (fun W hW => hW.keep hc11) ?_
     refine wH_take [4, 5] [5, 4, 3, 2, 1, 0] [(62, .int .i64 (x3)), (61, .slice A2 (y4).length cap2)] (by kernel_rfl) (qT (qB (qT (qL (qB (qT (qT (qB (qL (qB (qT qZ))))))))))) (by kernel_rfl) ?_
     obtain ⟨x9, hx9, hm⟩ := bindE hm
     refine wH_idx (i := 6) (d := 63) (T := 38) (A := A2) (n := (y4).length) (cap := cap2) (kd := .i64) (m := x3) (by kernel_rfl) (qT (qB (qT (qL (qB (qT (qT (qB (qL (qB (qT qZ))))))))))) (by kernel_rfl) (by kernel_rfl) sl38 ((F7.sl encI_ok).is hx9) ?_
     refine wH_load1 (i := 7) (d := 64) (T := 2) (ad := (elA A2 1 (x3) 0)) (v := .int .i64 (x9)) (by kernel_rfl) (qT (qB (qT (qL (qB (qT (qT (qB (qL (qB (qT qZ))))))))))) (by kernel_rfl) (by kernel_rfl) vt2 (fun W hW => Sl.cell ((Z2.chg hW Dj.nil).sl encI_ok) hx9 0 (by rfl)) ?_
     refine wH_done (by kernel_rfl) ?_
     refine eX_tail ?_
     obtain ⟨x10, hx10, hm⟩ := bindE hm
     refine wS_idx (d := 65) (T := 38) (A := A4) (n := (x8).length) (cap := cap4) (kd := .i64) (m := x9) (by kernel_rfl) sl38 ((F11.sl encI_ok).is hx10) ?_
     refine wS_load1 (d := 66) (T := 2) (ad := (elA A4 1 (x9) 0)) (v := .int .i64 (x10)) (by kernel_rfl) vt2 (Sl.cell (F11.sl encI_ok) hx10 0 (by rfl)) ?_
     refine wS_pure 1 [(67, .int .i64 (wr (x10 + 1)))] (by kernel_rfl) ?_
     obtain ⟨x11, hx11, hm⟩ := bindE hm
     refine wS_idx (d := 68) (T := 38) (A := A4) (n := (x8).length) (cap := cap4) (kd := .i64) (m := x9) (by kernel_rfl) sl38 ((F11.sl encI_ok).is hx11) ?_
     refine wS_storeEl (x := x11) (wr (x10 + 1)) (T := 2) (U := 2) (cap := cap4) (j := 0) (A := A4) (v := .int .i64 (wr (x10 + 1))) (vs := [.int .i64 (wr (x10 + 1))]) (m := x9) (by kernel_rfl) (by rfl) sz2 (by rfl) encI_ok F11 hx11 (by simp only [List.length_cons, List.length_nil]; omega) (by rfl) ?_
     intro w11 F12 hc12
     have F13 := hcl2 _ _ hc12 F12 (List.length_set ..)
     have hc13 := hc12.more (S' := (fp1 ++ fr1)) (fun x hx => hsub2 x hx)
     replace F7 := F7.chg hc13 (D4).symm
     replace hB := hB.inS hc13 (inLow G3)
     replace hZ := Nat.le_trans hZ hc13.size
     clear F10
     rewrite [show (l3.set (Int.toNat x4) (x5.set (Int.toNat x3) (wr (x6 - 1)))).length = ((l3.set (Int.toNat x4) (x5.set (Int.toNat x3) (wr (x6 - 1)))).set (Int.toNat x3) (x8.set (Int.toNat x9) (wr (x10 + 1)))).length from (List.length_set ..).symm]
     refine wS_end (by rfl) ?_
     refine eX_block ?_
     refine eX_then ?_
     refine cW_prune [(8, .slice A1 ((l3.set (Int.toNat x4) (x5.set (Int.toNat x3) (wr (x6 - 1)))).set (Int.toNat x3) (x8.set (Int.toNat x9) (wr (x10 + 1)))).length cap1), (9, .int .i64 (wr ((wr (2 * y2)) + 1))), (10, .int .i64 (wr (2 * y3))), (11, .int .i64 (x1)), (12, .slice A2 (y4).length cap2), (13, .int .i64 (x3))] (by kernel_rfl) (by kernel_rfl) (fun a2 => ?_)
     refine cW_region ?_
     refine wS_pure 2 [(42, .int .i64 (x3)), (41, .slice A2 (y4).length cap2)] (by kernel_rfl) ?_
     obtain ⟨x12, hx12, hm⟩ := bindE hm
     refine wS_idx (d := 43) (T := 38) (A := A2) (n := (y4).length) (cap := cap2) (kd := .i64) (m := x3) (by kernel_rfl) sl38 ((F7.sl encI_ok).is hx12) ?_
     refine wS_load1 (d := 44) (T := 2) (ad := (elA A2 1 (x3) 0)) (v := .int .i64 (x12)) (by kernel_rfl) vt2 (Sl.cell (F7.sl encI_ok) hx12 0 (by rfl)) ?_
     refine wS_pure 1 [(13, .int .i64 (x12))] (by kernel_rfl) ?_
     refine wS_end (by rfl) ?_
     have hq : (some (Ctl.next ((x12, (l3.set (Int.toNat x4) (x5.set (Int.toNat x3) (wr (x6 - 1)))).set (Int.toNat x3) (x8.set (Int.toNat x9) (wr (x10 + 1)))))) : Option (Ctl (Int × (List (List (Int)))) ((List (List (Int)))))) = some _ := hm
     replace hq := someE hq
     subst hq
     exact eX_next hx3 (fun hst => ⟨x12, (l3.set (Int.toNat x4) (x5.set (Int.toNat x3) (wr (x6 - 1)))).set (Int.toNat x3) (x8.set (Int.toNat x9) (wr (x10 + 1))), rfl, Fr.of hst (by kernel_rfl), F13, F7, hB, hZ⟩)
    ·have hm := condF hb2 hm
     refine cW_exit ?_
     refine eX_then_exit ?_
     have hq : (some (Ctl.out l3) : Option (Ctl (Int × (List (List (Int)))) ((List (List (Int)))))) = some _ := hm
     replace hq := someE hq
     subst hq
     refine eX_outX hx3 (fun hr3 => ?_)
     replace hr3 := hr3.symm
     subst hr3
     refine eX_block_hit ?_
     exact eX_J (fun hst => ⟨l3, rfl, Fr.of hst (by kernel_rfl), F6, hB, hZ⟩)
   ·rintro a' w12 ⟨l2, hJ, hF3, F14, hB, hZ⟩
    subst hJ
    refine Fr.goX hF3 (by kernel_rfl) ?_
    refine eX_then ?_
    refine cW_region ?_
    refine wS_pure 3 [(11, .int .i64 (wr (x1 + 1))), (70, .int .i64 (wr (x1 + 1))), (69, .int .i64 (x1))] (by kernel_rfl) ?_
    refine wS_end (by rfl) ?_
    refine eX_block ?_
    have hq : (some (Ctl.next ((wr (x1 + 1), l2))) : Option (Ctl (Int × (List (List (Int)))) (Sum (Unit) ((Int) × (List (Int)))))) = some _ := hm
    replace hq := someE hq
    subst hq
    exact eX_next hx1 (fun hst => ⟨wr (x1 + 1), l2, rfl, Fr.of hst (by kernel_rfl), F14, hB, hZ⟩)
 ·rintro a' w13 ⟨hJ, hF4, hB, hZ⟩
  subst hJ
  exact noneE hm

set_option maxRecDepth 100000 in
/-- spec.MostApart -/
theorem c_spec_MostApart {w0 : World} {l0_0 : List (List (Int))} {A0_0 : Option Addr} {cap0_0 : Nat} {fp0_0 : List Nat} {p1_0 : Int} {p1_1 : Int} {p2_0 : Int} {p2_1 : Int} {r : (Int) × (Bool)} (hm : m_spec_MostApart l0_0 p1_0 p1_1 p2_0 p2_1 = some r) (F0_0 : SlR 1 encI w0 fp0_0 A0_0 l0_0) :
  Calls Try.prog 15 #[.agg #[.slice A0_0 (l0_0).length cap0_0], .agg #[.int .i64 (p1_0), .int .i64 (p1_1)], .agg #[.int .i64 (p2_0), .int .i64 (p2_1)]] w0 fun e w' => e = .returned (.tuple #[.int .i64 (r.1), .bool (r.2)]) ∧ Chg [] w0 w' := by
 have L0_0 := F0_0.low
 have hB : Chg [] w0 w0 := Chg.refl _ _
 have hZ := Nat.le_refl w0.heap.size
 unfold m_spec_MostApart at hm
 refine enterE (N := 21) Try.func15 (by rfl) Try.ntmps15 (by simp) [(0, .agg #[.slice A0_0 (l0_0).length cap0_0]), (1, .agg #[.int .i64 (p1_0), .int .i64 (p1_1)]), (2, .agg #[.int .i64 (p2_0), .int .i64 (p2_1)])] (by rfl) (by kernel_rfl) (fun a => ?_)
 refine cW_seq ?_
 refine cW_region ?_
 refine wS_box (d := 3) (T := 26) (x := .agg #[.slice A0_0 (l0_0).length cap0_0]) (by kernel_rfl) ?_
 intro b1 w1 G1 F1 hc1
 replace F1 : Cl w1 b1 26 [.slice A0_0 (l0_0).length cap0_0] := F1
 replace F0_0 := F0_0.chg hc1 Dj.nil
 replace hB := hB.inS hc1 inNil
 replace G1 := Nat.le_trans hZ G1
 replace hZ := Nat.le_trans hZ hc1.size
 refine wS_box (d := 4) (T := 29) (x := .agg #[.int .i64 (p1_0), .int .i64 (p1_1)]) (by kernel_rfl) ?_
 intro b2 w2 G2 F2 hc2
 replace F2 : Cl w2 b2 29 [.int .i64 (p1_0), .int .i64 (p1_1)] := F2
 have D1 : Dj [b1] [b2] := Dj.of (lt1 F1.lt) (low1 G2)
 replace F0_0 := F0_0.chg hc2 Dj.nil
 replace F1 := F1.chg hc2 notNil
 replace hB := hB.inS hc2 inNil
 replace G2 := Nat.le_trans hZ G2
 replace hZ := Nat.le_trans hZ hc2.size
 refine wS_box (d := 5) (T := 29) (x := .agg #[.int .i64 (p2_0), .int .i64 (p2_1)]) (by kernel_rfl) ?_
 intro b3 w3 G3 F3 hc3
 replace F3 : Cl w3 b3 29 [.int .i64 (p2_0), .int .i64 (p2_1)] := F3
 have D2 : Dj [b1] [b3] := Dj.of (lt1 F1.lt) (low1 G3)
 have D3 : Dj [b2] [b3] := Dj.of (lt1 F2.lt) (low1 G3)
 replace F0_0 := F0_0.chg hc3 Dj.nil
 replace F1 := F1.chg hc3 notNil
 replace F2 := F2.chg hc3 notNil
 replace hB := hB.inS hc3 inNil
 replace G3 := Nat.le_trans hZ G3
 replace hZ := Nat.le_trans hZ hc3.size
 refine wS_pure 2 [(7, .bool (false)), (6, .int .i64 (0))] (by kernel_rfl) ?_
 refine wS_end (by rfl) ?_
 refine eX_then ?_
 refine cW_seq ?_
 refine cW_seq ?_
 refine cW_region ?_
 refine wS_loadA (d := 10) (T := 29) (ad := ⟨b2, 0, none⟩) (vs := [.int .i64 (p1_0), .int .i64 (p1_1)]) (by kernel_rfl) vt29 (fun i u hu => box_cells F2 0 hu (by rfl)) ?_
 refine wS_loadA (d := 11) (T := 29) (ad := ⟨b3, 0, none⟩) (vs := [.int .i64 (p2_0), .int .i64 (p2_1)]) (by kernel_rfl) vt29 (fun i u hu => box_cells F3 0 hu (by rfl)) ?_
 obtain ⟨y1, hy1, hm⟩ := bindE hm
 refine wS_calls (d := 12) (f := 38) (vs := [.pointer (some ⟨b1, 0, none⟩), .agg #[.int .i64 (p1_0), .int .i64 (p1_1)], .agg #[.int .i64 (p2_0), .int .i64 (p2_1)]]) (by kernel_rfl) ent38 (c_spec_l04Both_bimplMaze hy1 F0_0 F1) ?_
 rintro _ w4 ⟨rfl, hc4⟩
 replace F0_0 := F0_0.chg hc4 Dj.nil
 replace F1 := F1.chg hc4 notNil
 replace F2 := F2.chg hc4 notNil
 replace F3 := F3.chg hc4 notNil
 replace hB := hB.inS hc4 inNil
 replace hZ := Nat.le_trans hZ hc4.size
 refine ⟨.bool (y1), rfl, ?_⟩
 refine wS_pure 1 [(13, .bool (!y1))] (by kernel_rfl) ?_
 refine wS_end (by rfl) ?_
 refine eX_then ?_
 refine cW_cond (t := !y1) (by kernel_rfl) (fun hb1 => ?_) (fun hb1 => ?_)
 ·have hm := condT hb1 hm
  refine cW_seq ?_
  refine cW_region ?_
  refine wS_pure 2 [(7, .bool (false)), (6, .int .i64 (0))] (by kernel_rfl) ?_
  refine wS_end (by rfl) ?_
  refine eX_then ?_
  refine cW_ret ?_
  refine eX_then_ret ?_
  have hq : (some ((0, false)) : Option ((Int) × (Bool))) = some _ := hm
  replace hq := someE hq
  subst hq
  refine eX_ret (vs := [.int .i64 (0), .bool (false)]) [.tmp 6, .tmp 7] (by rfl) ⟨by (show lkE _ _ _ = _); kernel_rfl, ⟨by (show lkE _ _ _ = _); kernel_rfl, trivial⟩⟩ ?_
  exact ⟨rfl, hB⟩
 ·have hm := condF hb1 hm
  refine cW_skip ?_
  refine eX_then ?_
  refine cW_seq ?_
  refine cW_region ?_
  refine wS_loadA (d := 15) (T := 29) (ad := ⟨b2, 0, none⟩) (vs := [.int .i64 (p1_0), .int .i64 (p1_1)]) (by kernel_rfl) vt29 (fun i u hu => box_cells F2 0 hu (by rfl)) ?_
  refine wS_loadA (d := 16) (T := 29) (ad := ⟨b3, 0, none⟩) (vs := [.int .i64 (p2_0), .int .i64 (p2_1)]) (by kernel_rfl) vt29 (fun i u hu => box_cells F3 0 hu (by rfl)) ?_
  obtain ⟨y2, hy2, hm⟩ := bindE hm
  refine wS_calls (d := 17) (f := 39) (vs := [.pointer (some ⟨b1, 0, none⟩), .agg #[.int .i64 (p1_0), .int .i64 (p1_1)], .agg #[.int .i64 (p2_0), .int .i64 (p2_1)]]) (by kernel_rfl) ent39 (c_spec_l04Cut_bimplMaze hy2 F0_0 F1) ?_
  rintro _ w5 ⟨A1, cap1, fp1, rfl, F4, G4, hc5⟩
  have D4 : Dj [b1] fp1 := Dj.of (lt1 F1.lt) G4
  have D5 : Dj [b2] fp1 := Dj.of (lt1 F2.lt) G4
  have D6 : Dj [b3] fp1 := Dj.of (lt1 F3.lt) G4
  replace F0_0 := F0_0.chg hc5 Dj.nil
  replace F1 := F1.chg hc5 notNil
  replace F2 := F2.chg hc5 notNil
  replace F3 := F3.chg hc5 notNil
  replace hB := hB.inS hc5 inNil
  replace G4 := low_le hZ G4
  replace hZ := Nat.le_trans hZ hc5.size
  refine ⟨.tuple #[.int .i64 (y2.1), .slice A1 (y2.2).length cap1], rfl, ?_⟩
  refine wS_pure 5 [(9, .slice A1 (y2.2).length cap1), (8, .int .i64 (y2.1)), (19, .slice A1 (y2.2).length cap1), (18, .int .i64 (y2.1)), (14, .tuple #[.int .i64 (y2.1), .slice A1 (y2.2).length cap1])] (by kernel_rfl) ?_
  refine wS_end (by rfl) ?_
  refine eX_then ?_
  refine cW_seq ?_
  refine cW_region ?_
  refine wS_pure 3 [(7, .bool (true)), (6, .int .i64 (y2.1)), (20, .int .i64 (y2.1))] (by kernel_rfl) ?_
  refine wS_end (by rfl) ?_
  refine eX_then ?_
  refine cW_ret ?_
  have hq : (some ((y2.1, true)) : Option ((Int) × (Bool))) = some _ := hm
  replace hq := someE hq
  subst hq
  refine eX_ret (vs := [.int .i64 (y2.1), .bool (true)]) [.tmp 6, .tmp 7] (by rfl) ⟨by (show lkE _ _ _ = _); kernel_rfl, ⟨by (show lkE _ _ _ = _); kernel_rfl, trivial⟩⟩ ?_
  exact ⟨rfl, hB⟩

set_option maxRecDepth 100000 in
/-- laws.toInt64S -/
theorem c_laws_toInt64S {w0 : World} {l0 : List (Int)} {A0 : Option Addr} {cap0 : Nat} {fp0 : List Nat} {r : (List (Int))} (hm : m_laws_toInt64S l0 = some r) (F0 : Sl 1 encI w0 fp0 A0 l0) :
  Calls Try.prog 63 #[.slice A0 (l0).length cap0] w0 fun e w' => ∃ A100 cap100 fp100, e = .returned (.slice A100 (r).length cap100) ∧ Ow 1 encI 2 w' fp100 A100 cap100 r ∧ (∀ x ∈ fp100, w0.heap.size ≤ x) ∧ Chg [] w0 w' := by
 have L0 := F0.low
 have hB : Chg [] w0 w0 := Chg.refl _ _
 have hZ := Nat.le_refl w0.heap.size
 unfold m_laws_toInt64S at hm
 refine enterE (N := 22) Try.func63 (by rfl) Try.ntmps63 (by simp) [(0, .slice A0 (l0).length cap0)] (by rfl) (by kernel_rfl) (fun a => ?_)
 refine cW_seq ?_
 refine cW_region ?_
 refine wS_pure 1 [(2, .slice none 0 0)] (by kernel_rfl) ?_
 refine wS_end (by rfl) ?_
 refine eX_then ?_
 refine cW_seq ?_
 refine cW_region ?_
 refine wS_pure 2 [(6, .int .i64 (((l0).length : Int))), (5, .slice A0 (l0).length cap0)] (by kernel_rfl) ?_
 obtain ⟨_, hk1, hm⟩ := bindE hm
 replace hk1 := mkE hk1
 refine wS_make (enc := encI) (x0 := (0 : Int)) (d := 7) (t := 38) (T := 2) (k1 := .i64) (k2 := .i64) (m := ((l0).length : Int)) (by kernel_rfl) el38 encI_ok (by rfl) hk1.1 hk1.2 ?_
 intro b1 w1 G1 F1 hc1
 replace F0 := F0.chg hc1 Dj.nil
 replace hB := hB.inS hc1 inNil
 replace G1 := Nat.le_trans hZ G1
 replace G1 := low1 G1
 replace hZ := Nat.le_trans hZ hc1.size
 refine wS_pure 1 [(3, .slice (some ⟨b1, 0, none⟩) (List.replicate (Int.toNat (((l0).length : Int))) ((0 : Int))).length (Int.toNat (((l0).length : Int))))] (by kernel_rfl) ?_
 refine wS_end (by rfl) ?_
 refine eX_then ?_
 refine cW_seq ?_
 refine cW_seq ?_
 refine cW_region ?_
 refine wS_pure 1 [(4, .int .i64 (0))] (by kernel_rfl) ?_
 refine wS_end (by rfl) ?_
 refine eX_then ?_
 obtain ⟨r1, hr1, hm⟩ := bindE hm
 have hm1 := hm
 refine cW_cut (fun a' w' => ∃ l1 : List (Int), l1 = r1 ∧ Fr 22 [(3, .slice (some ⟨b1, 0, none⟩) (l1).length (Int.toNat (((l0).length : Int))))] a' ∧ Ow 1 encI 2 w' [b1] (some ⟨b1, 0, none⟩) (Int.toNat (((l0).length : Int))) l1 ∧ Chg [] w0 w' ∧ w0.heap.size ≤ w'.heap.size) ?_ ?_
 ·refine cW_block ?_
  refine cW_loop _ (fun (s1 : Int × (List (Int))) a' w' => ∃ x1 : Int, ∃ l2 : List (Int), (x1, l2) = s1 ∧ Fr 22 [(0, .slice A0 (l0).length cap0), (3, .slice (some ⟨b1, 0, none⟩) (l2).length (Int.toNat (((l0).length : Int)))), (4, .int .i64 (x1))] a' ∧ Sl 1 encI w' fp0 A0 l0 ∧ Ow 1 encI 2 w' [b1] (some ⟨b1, 0, none⟩) (Int.toNat (((l0).length : Int))) l2 ∧ Chg [] w0 w' ∧ w0.heap.size ≤ w'.heap.size) hr1 (fun hst => ⟨0, List.replicate (Int.toNat (((l0).length : Int))) ((0 : Int)), rfl, Fr.of hst (by kernel_rfl), F0, F1, hB, hZ⟩) ?_
  rintro _ c1 a' w2 ⟨x1, l2, rfl, hF1, F2, F3, hB, hZ⟩ hx1
  refine Fr.goOn hF1 (by kernel_rfl) ?_
  have hm := hx1
  unfold m_laws_toInt64S_s1 at hm
  refine cW_seq ?_
  refine cW_seq ?_
  refine cW_region ?_
  refine wS_pure 4 [(11, .bool (decide (x1 < (((l0).length : Int))))), (10, .int .i64 (((l0).length : Int))), (9, .slice A0 (l0).length cap0), (8, .int .i64 (x1))] (by kernel_rfl) ?_
  refine wS_end (by rfl) ?_
  refine eX_then ?_
  refine cW_cond (t := decide (x1 < (((l0).length : Int)))) (by kernel_rfl) (fun hb1 => ?_) (fun hb1 => ?_)
  ·have hm := condT hb1 hm
   refine cW_skip ?_
   refine eX_then ?_
   refine cW_seq ?_
   refine cW_block ?_
   refine cW_region ?_
   refine wS_pure 4 [(17, .int .i64 (x1)), (16, .slice A0 (l0).length cap0), (15, .int .i64 (x1)), (14, .slice (some ⟨b1, 0, none⟩) (l2).length (Int.toNat (((l0).length : Int))))] (by kernel_rfl) ?_
   obtain ⟨x2, hx2, hm⟩ := bindE hm
   refine wS_idx (d := 18) (T := 38) (A := A0) (n := (l0).length) (cap := cap0) (kd := .i64) (m := x1) (by kernel_rfl) sl38 (F2.is hx2) ?_
   refine wS_load1 (d := 19) (T := 2) (ad := (elA A0 1 (x1) 0)) (v := .int .i64 (x2)) (by kernel_rfl) vt2 (Sl.cell F2 hx2 0 (by rfl)) ?_
   obtain ⟨x3, hx3, hm⟩ := bindE hm
   refine wS_idx (d := 20) (T := 38) (A := (some ⟨b1, 0, none⟩)) (n := (l2).length) (cap := (Int.toNat (((l0).length : Int)))) (kd := .i64) (m := x1) (by kernel_rfl) sl38 ((F3.sl encI_ok).is hx3) ?_
   refine wS_storeEl (x := x3) x2 (T := 2) (U := 2) (cap := (Int.toNat (((l0).length : Int)))) (j := 0) (A := (some ⟨b1, 0, none⟩)) (v := .int .i64 (x2)) (vs := [.int .i64 (x2)]) (m := x1) (by kernel_rfl) (by rfl) sz2 (by rfl) encI_ok F3 hx3 (by simp only [List.length_cons, List.length_nil]; omega) (by rfl) ?_
   intro w3 F4 hc2
   replace F2 := F2.chg hc2 (Dj.of L0 G1)
   replace hB := hB.inS hc2 (inLow G1)
   replace hZ := Nat.le_trans hZ hc2.size
   clear F3
   rewrite [show (l2).length = (l2.set (Int.toNat x1) x2).length from (List.length_set ..).symm]
   refine wS_end (by rfl) ?_
   refine eX_block ?_
   refine eX_then ?_
   refine cW_region ?_
   refine wS_pure 3 [(4, .int .i64 (wr (x1 + 1))), (13, .int .i64 (wr (x1 + 1))), (12, .int .i64 (x1))] (by kernel_rfl) ?_
   refine wS_end (by rfl) ?_
   have hq : (some (Ctl.next ((wr (x1 + 1), l2.set (Int.toNat x1) x2))) : Option (Ctl (Int × (List (Int))) ((List (Int))))) = some _ := hm
   replace hq := someE hq
   subst hq
   exact eX_next hx1 (fun hst => ⟨wr (x1 + 1), l2.set (Int.toNat x1) x2, rfl, Fr.of hst (by kernel_rfl), F2, F4, hB, hZ⟩)
  ·have hm := condF hb1 hm
   refine cW_exit ?_
   refine eX_then_exit ?_
   have hq : (some (Ctl.out l2) : Option (Ctl (Int × (List (Int))) ((List (Int))))) = some _ := hm
   replace hq := someE hq
   subst hq
   refine eX_outX hx1 (fun hr2 => ?_)
   replace hr2 := hr2.symm
   subst hr2
   refine eX_block_hit ?_
   exact eX_J (fun hst => ⟨l2, rfl, Fr.of hst (by kernel_rfl), F3, hB, hZ⟩)
 ·rintro a' w4 ⟨l1, hJ, hF2, F5, hB, hZ⟩
  subst hJ
  refine Fr.goX hF2 (by kernel_rfl) ?_
  refine eX_then ?_
  refine cW_seq ?_
  refine cW_region ?_
  refine wS_pure 2 [(2, .slice (some ⟨b1, 0, none⟩) (l1).length (Int.toNat (((l0).length : Int)))), (21, .slice (some ⟨b1, 0, none⟩) (l1).length (Int.toNat (((l0).length : Int))))] (by kernel_rfl) ?_
  refine wS_end (by rfl) ?_
  refine eX_then ?_
  refine cW_ret ?_
  have hq : (some l1 : Option ((List (Int)))) = some _ := hm
  replace hq := someE hq
  subst hq
  refine eX_ret (vs := [.slice (some ⟨b1, 0, none⟩) (l1).length (Int.toNat (((l0).length : Int)))]) [.tmp 2] (by rfl) ⟨by (show lkE _ _ _ = _); kernel_rfl, trivial⟩ ?_
  exact ⟨(some ⟨b1, 0, none⟩), (Int.toNat (((l0).length : Int))), [b1], rfl, F5, G1, hB⟩

set_option maxRecDepth 100000 in
/-- laws.toInt64SS -/
theorem c_laws_toInt64SS {w0 : World} {l0 : List (List (Int))} {A0 : Option Addr} {cap0 : Nat} {fp0 : List Nat} {r : (List (List (Int)))} (hm : m_laws_toInt64SS l0 = some r) (F0 : SlR 1 encI w0 fp0 A0 l0) :
  Calls Try.prog 40 #[.slice A0 (l0).length cap0] w0 fun e w' => ∃ A1 cap1 fp100 fr100, e = .returned (.slice A1 (r).length cap1) ∧ OwR 1 encI 38 2 w' fp100 fr100 A1 cap1 r ∧ (∀ x ∈ fp100 ++ fr100, w0.heap.size ≤ x) ∧ Chg [] w0 w' := by
 have L0 := F0.low
 have hB : Chg [] w0 w0 := Chg.refl _ _
 have hZ := Nat.le_refl w0.heap.size
 unfold m_laws_toInt64SS at hm
 refine enterE (N := 23) Try.func40 (by rfl) Try.ntmps40 (by simp) [(0, .slice A0 (l0).length cap0)] (by rfl) (by kernel_rfl) (fun a => ?_)
 refine cW_seq ?_
 refine cW_region ?_
 refine wS_pure 1 [(2, .slice none 0 0)] (by kernel_rfl) ?_
 refine wS_end (by rfl) ?_
 refine eX_then ?_
 refine cW_seq ?_
 refine cW_region ?_
 refine wS_pure 2 [(6, .int .i64 (((l0).length : Int))), (5, .slice A0 (l0).length cap0)] (by kernel_rfl) ?_
 obtain ⟨_, hk1, hm⟩ := bindE hm
 replace hk1 := mkE hk1
 refine wS_makeR (T2 := 2) (k := 1) (enc := encI) (d := 7) (t := 24) (T := 38) (k1 := .i64) (k2 := .i64) (m := ((l0).length : Int)) (by kernel_rfl) el24 hk1.1 hk1.2 ?_
 intro b1 w1 G1 F1 hc1
 replace F0 := F0.chg hc1 Dj.nil
 replace hB := hB.inS hc1 inNil
 replace G1 := Nat.le_trans hZ G1
 replace G1 := low1 G1
 replace hZ := Nat.le_trans hZ hc1.size
 replace G1 := lowApp G1 lowNil
 refine wS_pure 1 [(3, .slice (some ⟨b1, 0, none⟩) (List.replicate (Int.toNat (((l0).length : Int))) ([] : List (Int))).length (Int.toNat (((l0).length : Int))))] (by kernel_rfl) ?_
 refine wS_end (by rfl) ?_
 refine eX_then ?_
 refine cW_seq ?_
 refine cW_seq ?_
 refine cW_region ?_
 refine wS_pure 1 [(4, .int .i64 (0))] (by kernel_rfl) ?_
 refine wS_end (by rfl) ?_
 refine eX_then ?_
 obtain ⟨r1, hr1, hm⟩ := bindE hm
 have hm1 := hm
 refine cW_cut (fun a' w' => ∃ l1 : List (List (Int)), ∃ A2 : Option Addr, ∃ cap2 : Nat, ∃ fp1 : List Nat, ∃ fr1 : List Nat, l1 = r1 ∧ Fr 23 [(3, .slice A2 (l1).length cap2)] a' ∧ OwR 1 encI 38 2 w' fp1 fr1 A2 cap2 l1 ∧ (∀ x ∈ (fp1 ++ fr1), w0.heap.size ≤ x) ∧ Chg [] w0 w' ∧ w0.heap.size ≤ w'.heap.size) ?_ ?_
 ·refine cW_block ?_
  refine cW_loop _ (fun (s1 : (List (List (Int))) × Int) a' w' => ∃ l2 : List (List (Int)), ∃ A3 : Option Addr, ∃ cap1 : Nat, ∃ fp2 : List Nat, ∃ fr2 : List Nat, ∃ x1 : Int, (l2, x1) = s1 ∧ Fr 23 [(0, .slice A0 (l0).length cap0), (3, .slice A3 (l2).length cap1), (4, .int .i64 (x1))] a' ∧ SlR 1 encI w' fp0 A0 l0 ∧ OwR 1 encI 38 2 w' fp2 fr2 A3 cap1 l2 ∧ (∀ x ∈ (fp2 ++ fr2), w0.heap.size ≤ x) ∧ Chg [] w0 w' ∧ w0.heap.size ≤ w'.heap.size) hr1 (fun hst => ⟨List.replicate (Int.toNat (((l0).length : Int))) ([] : List (Int)), (some ⟨b1, 0, none⟩), (Int.toNat (((l0).length : Int))), [b1], [], 0, rfl, Fr.of hst (by kernel_rfl), F0, F1, G1, hB, hZ⟩) ?_
  rintro _ c1 a' w2 ⟨l2, A3, cap1, fp2, fr2, x1, rfl, hF1, F2, F3, G2, hB, hZ⟩ hx1
  refine Fr.goOn hF1 (by kernel_rfl) ?_
  have hm := hx1
  unfold m_laws_toInt64SS_s1 at hm
  refine cW_seq ?_
  refine cW_seq ?_
  refine cW_region ?_
  refine wS_pure 4 [(11, .bool (decide (x1 < (((l0).length : Int))))), (10, .int .i64 (((l0).length : Int))), (9, .slice A0 (l0).length cap0), (8, .int .i64 (x1))] (by kernel_rfl) ?_
  refine wS_end (by rfl) ?_
  refine eX_then ?_
  refine cW_cond (t := decide (x1 < (((l0).length : Int)))) (by kernel_rfl) (fun hb1 => ?_) (fun hb1 => ?_)
  ·have hm := condT hb1 hm
   refine cW_skip ?_
   refine eX_then ?_
   refine cW_seq ?_
   refine cW_block ?_
   refine cW_region ?_
   refine wS_pure 4 [(17, .int .i64 (x1)), (16, .slice A0 (l0).length cap0), (15, .int .i64 (x1)), (14, .slice A3 (l2).length cap1)] (by kernel_rfl) ?_
   obtain ⟨x2, hx2, hm⟩ := bindE hm
   refine wS_idx (d := 18) (T := 24) (A := A0) (n := (l0).length) (cap := cap0) (kd := .i64) (m := x1) (by kernel_rfl) sl24 (F2.is hx2) ?_
   obtain ⟨A4, cap3, hc2, F4, K1⟩ := SlR.row F2 hx2
   refine wS_load1 (d := 19) (T := 38) (ad := (elA A0 1 (x1) 0)) (v := .slice A4 (x2).length cap3) (by kernel_rfl) vt38 hc2 ?_
   obtain ⟨y1, hy1, hm⟩ := bindE hm
   refine wS_calls (d := 20) (f := 63) (vs := [.slice A4 (x2).length cap3]) (by kernel_rfl) ent63 (c_laws_toInt64S hy1 F4) ?_
   rintro _ w3 ⟨A5, cap4, fp3, rfl, F5, G3, hc3⟩
   have D1 : Dj (fp2 ++ fr2) fp3 := Dj.of F3.low G3
   replace F2 := F2.chg hc3 Dj.nil
   replace F3 := F3.chg hc3 Dj.nil
   replace F4 := F4.chg hc3 Dj.nil
   replace hB := hB.inS hc3 inNil
   replace G3 := low_le hZ G3
   replace hZ := Nat.le_trans hZ hc3.size
   refine ⟨.slice A5 (y1).length cap4, rfl, ?_⟩
   obtain ⟨x3, hx3, hm⟩ := bindE hm
   refine wS_idx (d := 21) (T := 24) (A := A3) (n := (l2).length) (cap := cap1) (kd := .i64) (m := x1) (by kernel_rfl) sl24 ((F3.slr encI_ok).is hx3) ?_
   refine wS_storeRow (k := 1) (enc := encI) (x := x3) (l := y1) (T := 38) (U := 38) (cap := cap1) (c := cap4) (A := A3) (B := A5) (m := x1) (by kernel_rfl) sz38 F3 F5 D1 hx3 ?_
   intro w4 F6 hc4
   have G4 := lowApp (low_inl G2) (lowApp (low_inr G2) G3)
   have Dm1 := Dj.inl D1.symm
   replace F2 := F2.chg hc4 (Dj.inl (Dj.of L0 G2))
   replace F4 := F4.chg hc4 (Dj.inl (Dj.of L0 G2))
   replace F5 := F5.chg hc4 (Dj.inl (D1).symm)
   replace hB := hB.inS hc4 (memS_inl (inLow G2))
   replace hZ := Nat.le_trans hZ hc4.size
   replace F5 := (F5.sl encI_ok)
   rewrite [show (l2).length = (l2.set (Int.toNat x1) y1).length from (List.length_set ..).symm]
   refine wS_end (by rfl) ?_
   refine eX_block ?_
   refine eX_then ?_
   refine cW_region ?_
   refine wS_pure 3 [(4, .int .i64 (wr (x1 + 1))), (13, .int .i64 (wr (x1 + 1))), (12, .int .i64 (x1))] (by kernel_rfl) ?_
   refine wS_end (by rfl) ?_
   have hq : (some (Ctl.next ((l2.set (Int.toNat x1) y1, wr (x1 + 1)))) : Option (Ctl ((List (List (Int))) × Int) ((List (List (Int)))))) = some _ := hm
   replace hq := someE hq
   subst hq
   exact eX_next hx1 (fun hst => ⟨l2.set (Int.toNat x1) y1, A3, cap1, fp2, (fr2 ++ fp3), wr (x1 + 1), rfl, Fr.of hst (by kernel_rfl), F2, F6, G4, hB, hZ⟩)
  ·have hm := condF hb1 hm
   refine cW_exit ?_
   refine eX_then_exit ?_
   have hq : (some (Ctl.out l2) : Option (Ctl ((List (List (Int))) × Int) ((List (List (Int)))))) = some _ := hm
   replace hq := someE hq
   subst hq
   refine eX_outX hx1 (fun hr2 => ?_)
   replace hr2 := hr2.symm
   subst hr2
   refine eX_block_hit ?_
   exact eX_J (fun hst => ⟨l2, A3, cap1, fp2, fr2, rfl, Fr.of hst (by kernel_rfl), F3, G2, hB, hZ⟩)
 ·rintro a' w5 ⟨l1, A2, cap2, fp1, fr1, hJ, hF2, F7, G5, hB, hZ⟩
  subst hJ
  refine Fr.goX hF2 (by kernel_rfl) ?_
  refine eX_then ?_
  refine cW_seq ?_
  refine cW_region ?_
  refine wS_pure 2 [(2, .slice A2 (l1).length cap2), (22, .slice A2 (l1).length cap2)] (by kernel_rfl) ?_
  refine wS_end (by rfl) ?_
  refine eX_then ?_
  refine cW_ret ?_
  have hq : (some l1 : Option ((List (List (Int))))) = some _ := hm
  replace hq := someE hq
  subst hq
  refine eX_ret (vs := [.slice A2 (l1).length cap2]) [.tmp 2] (by rfl) ⟨by (show lkE _ _ _ = _); kernel_rfl, trivial⟩ ?_
  exact ⟨A2, cap2, fp1, fr1, rfl, F7, G5, hB⟩

end Go.Proofs.Ytcknpoeannbpbaa
