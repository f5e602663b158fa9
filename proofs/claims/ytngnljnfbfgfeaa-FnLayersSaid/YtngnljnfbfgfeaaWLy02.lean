/- Printed walks: (*impl.Wiring).crossed, (*impl.Wiring).cost, (*impl.Wiring).best$1$1, slices.IndexFunc[[]int,int], slices.ContainsFunc[[]int,int], (*impl.Wiring).best$1, (*impl.Wiring).best, impl.FewestVias, (impl.graph).twice, slices.Index[[]int,int], slices.Contains[[]int,int], math/bits.Mul64. -/
import Derived.Test.YtngnljnfbfgfeaaProg
import Derived.Test.YtngnljnfbfgfeaaWLy01
set_option linter.unusedSimpArgs false
set_option linter.unusedVariables false
namespace Go.Proofs.Ytngnljnfbfgfeaa
open Go.RowKit
attribute [local irreducible] wS cW eX wH

theorem ent16 : Ent Try.prog 16 := fun _ => by kernel_rfl
theorem ent54 : Ent Try.prog 54 := fun _ => by kernel_rfl
theorem ent55 : Ent Try.prog 55 := fun _ => by kernel_rfl
theorem ent91 : Ent Try.prog 91 := fun _ => by kernel_rfl
theorem ent92 : Ent Try.prog 92 := fun _ => by kernel_rfl
theorem ent93 : Ent Try.prog 93 := fun _ => by kernel_rfl
theorem ent94 : Ent Try.prog 94 := fun _ => by kernel_rfl
theorem ent95 : Ent Try.prog 95 := fun _ => by kernel_rfl
theorem ent114 : Ent Try.prog 114 := fun _ => by kernel_rfl
theorem ent126 : Ent Try.prog 126 := fun _ => by kernel_rfl
theorem vt1 : VarTy Try.prog 1 1 false := ⟨by kernel_rfl, by kernel_rfl⟩
theorem vt75 : VarTy Try.prog 75 1 false := ⟨by kernel_rfl, by kernel_rfl⟩
theorem vt77 : VarTy Try.prog 77 1 false := ⟨by kernel_rfl, by kernel_rfl⟩
theorem vt87 : VarTy Try.prog 87 1 false := ⟨by kernel_rfl, by kernel_rfl⟩
theorem sl75 : SlTy Try.prog 75 3 1 := ⟨Try.underlying75, by kernel_rfl⟩
theorem sl77 : SlTy Try.prog 77 75 1 := ⟨Try.underlying77, by kernel_rfl⟩
theorem el75 : ElTy Try.prog 75 3 1 (.int .i64 (0)) := ElTy.mk' Try.underlying75 (by kernel_rfl) (by rfl)
theorem el77 : ElTy Try.prog 77 75 1 (.slice none 0 0) := ElTy.mk' Try.underlying77 (by kernel_rfl) (by rfl)
theorem sz1 : pureRun Try.prog (sizeOf 1) = some 1 := by kernel_rfl
theorem sz75 : pureRun Try.prog (sizeOf 75) = some 1 := by kernel_rfl
theorem sz77 : pureRun Try.prog (sizeOf 77) = some 1 := by kernel_rfl

set_option maxRecDepth 100000 in
/-- impl.Wiring).crossed -/
theorem c_impl_Wiring_crossed_bimplWiring {w0 : World} {q0_0 : Int} {l0_1 : List (List (Int))} {A0_1 : Option Addr} {cap0_1 : Nat} {fp0_1 : List Nat} {l0_2 : List (List (Int))} {A0_2 : Option Addr} {cap0_2 : Nat} {fp0_2 : List Nat} {l0_3 : List (Int)} {A0_3 : Option Addr} {cap0_3 : Nat} {fp0_3 : List Nat} {b0 : Nat} {r : (List (List (Int)))} (hm : m_impl_Wiring_crossed_bimplWiring q0_0 l0_1 l0_2 l0_3 = some r) (F0_1 : SlR 1 encI w0 fp0_1 A0_1 l0_1) (F0_2 : SlR 1 encI w0 fp0_2 A0_2 l0_2) (F0_3 : Sl 1 encI w0 fp0_3 A0_3 l0_3) (F0 : Cl w0 b0 27 [.int .i64 (q0_0), .slice A0_1 (l0_1).length cap0_1, .slice A0_2 (l0_2).length cap0_2, .slice A0_3 (l0_3).length cap0_3]) :
  Calls Try.prog 55 #[.pointer (some ⟨b0, 0, none⟩)] w0 fun e w' => ∃ A100 cap1 fp100 fr100, e = .returned (.slice A100 (r).length cap1) ∧ OwR 1 encI 75 3 w' fp100 fr100 A100 cap1 r ∧ (∀ x ∈ fp100 ++ fr100, w0.heap.size ≤ x) ∧ Chg [] w0 w' := by
 have L0_1 := F0_1.low
 have L0_2 := F0_2.low
 have L0_3 := F0_3.low
 have L0 := lt1 F0.lt
 have hB : Chg [] w0 w0 := Chg.refl _ _
 have hZ := Nat.le_refl w0.heap.size
 unfold m_impl_Wiring_crossed_bimplWiring at hm
 refine enterE (N := 65) Try.func55 (by rfl) Try.ntmps55 (by simp) [(0, .pointer (some ⟨b0, 0, none⟩))] (by rfl) (by kernel_rfl) (fun a => ?_)
 refine cW_seq ?_
 refine cW_region ?_
 refine wS_pure 1 [(2, .slice none 0 0)] (by kernel_rfl) ?_
 refine wS_end (by rfl) ?_
 refine eX_then ?_
 refine cW_seq ?_
 refine cW_region ?_
 refine wS_pure 3 [(10, .pointer (some ⟨b0, 0, none⟩)), (9, .pointer (some ⟨b0, 0, none⟩)), (8, .pointer (some ⟨b0, 0, none⟩))] (by kernel_rfl) ?_
 refine wS_load1 (d := 11) (T := 2) (ad := ⟨b0, 0, none⟩) (v := .int .i64 (q0_0)) (by kernel_rfl) vt2 ((F0).cell 0) ?_
 obtain ⟨_, hk1, hm⟩ := bindE hm
 replace hk1 := mkE hk1
 refine wS_makeR (T2 := 3) (k := 1) (enc := encI) (d := 12) (t := 77) (T := 75) (k1 := .i64) (k2 := .i64) (m := q0_0) (by kernel_rfl) el77 hk1.1 hk1.2 ?_
 intro b1 w1 G1 F1 hc1
 replace F0_1 := F0_1.chg hc1 Dj.nil
 replace F0_2 := F0_2.chg hc1 Dj.nil
 replace F0_3 := F0_3.chg hc1 Dj.nil
 replace F0 := F0.chg hc1 notNil
 replace hB := hB.inS hc1 inNil
 replace G1 := Nat.le_trans hZ G1
 replace G1 := low1 G1
 replace hZ := Nat.le_trans hZ hc1.size
 replace G1 := lowApp G1 lowNil
 refine wS_pure 1 [(3, .slice (some ⟨b1, 0, none⟩) (List.replicate (Int.toNat q0_0) ([] : List (Int))).length (Int.toNat q0_0))] (by kernel_rfl) ?_
 refine wS_end (by rfl) ?_
 refine eX_then ?_
 refine cW_seq ?_
 refine cW_seq ?_
 refine cW_region ?_
 refine wS_pure 3 [(15, .pointer (some ⟨b0, 1, none⟩)), (14, .pointer (some ⟨b0, 0, none⟩)), (13, .pointer (some ⟨b0, 0, none⟩))] (by kernel_rfl) ?_
 refine wS_load1 (d := 16) (T := 24) (ad := ⟨b0, 1, none⟩) (v := .slice A0_1 (l0_1).length cap0_1) (by kernel_rfl) vt24 ((F0).cell 1) ?_
 refine wS_pure 2 [(18, .int .i64 (0)), (17, .int .i64 (((l0_1).length : Int)))] (by kernel_rfl) ?_
 refine wS_end (by rfl) ?_
 refine eX_then ?_
 obtain ⟨r1, hr1, hm⟩ := bindE hm
 have hm1 := hm
 refine cW_cut (fun a' w' => ∃ l1 : List (List (Int)), ∃ A1 : Option Addr, ∃ cap3 : Nat, ∃ fp1 : List Nat, ∃ fr1 : List Nat, l1 = r1 ∧ Fr 65 [(3, .slice A1 (l1).length cap3)] a' ∧ OwR 1 encI 75 3 w' fp1 fr1 A1 cap3 l1 ∧ (∀ x ∈ (fp1 ++ fr1), w0.heap.size ≤ x) ∧ Chg [] w0 w' ∧ w0.heap.size ≤ w'.heap.size) ?_ ?_
 ·refine cW_block ?_
  refine cW_loop _ (fun (s1 : (List (List (Int))) × Int) a' w' => ∃ l3 : List (List (Int)), ∃ A3 : Option Addr, ∃ cap4 : Nat, ∃ fp2 : List Nat, ∃ fr2 : List Nat, ∃ x1 : Int, (l3, x1) = s1 ∧ Fr 65 [(3, .slice A3 (l3).length cap4), (16, .slice A0_1 (l0_1).length cap0_1), (17, .int .i64 (((l0_1).length : Int))), (18, .int .i64 (x1))] a' ∧ SlR 1 encI w' fp0_1 A0_1 l0_1 ∧ OwR 1 encI 75 3 w' fp2 fr2 A3 cap4 l3 ∧ (∀ x ∈ (fp2 ++ fr2), w0.heap.size ≤ x) ∧ Chg [] w0 w' ∧ w0.heap.size ≤ w'.heap.size) hr1 (fun hst => ⟨List.replicate (Int.toNat q0_0) ([] : List (Int)), (some ⟨b1, 0, none⟩), (Int.toNat q0_0), [b1], [], 0, rfl, Fr.of hst (by kernel_rfl), F0_1, F1, G1, hB, hZ⟩) ?_
  rintro _ c1 a' w2 ⟨l3, A3, cap4, fp2, fr2, x1, rfl, hF1, F2, F3, G2, hB, hZ⟩ hx1
  refine Fr.goOn hF1 (by kernel_rfl) ?_
  have hm := hx1
  unfold m_impl_Wiring_crossed_bimplWiring_s1 at hm
  refine cW_seq ?_
  refine cW_region ?_
  refine wS_pure 1 [(19, .bool (decide (x1 < (((l0_1).length : Int)))))] (by kernel_rfl) ?_
  refine wS_end (by rfl) ?_
  refine eX_then ?_
  refine cW_seq ?_
  refine cW_cond (t := decide (x1 < (((l0_1).length : Int)))) (by kernel_rfl) (fun hb1 => ?_) (fun hb1 => ?_)
  ·have hm := condT hb1 hm
   refine cW_skip ?_
   refine eX_then ?_
   refine cW_seq ?_
   refine cW_block ?_
   refine cW_seq ?_
   refine cW_region ?_
   obtain ⟨x2, hx2, hm⟩ := bindE hm
   refine wS_idx (d := 20) (T := 24) (A := A0_1) (n := (l0_1).length) (cap := cap0_1) (kd := .i64) (m := x1) (by kernel_rfl) sl24 (F2.is hx2) ?_
   obtain ⟨A4, cap5, hc2, F4, K1⟩ := SlR.row F2 hx2
   refine wS_load1 (d := 21) (T := 25) (ad := (elA A0_1 1 (x1) 0)) (v := .slice A4 (x2).length cap5) (by kernel_rfl) vt25 hc2 ?_
   refine wS_pure 1 [(5, .slice A4 (x2).length cap5)] (by kernel_rfl) ?_
   refine wS_end (by rfl) ?_
   refine eX_then ?_
   refine cW_seq ?_
   refine cW_drawnTail fr2 15 (by kernel_rfl) (by kernel_rfl) (fun w3 hc3 => ?_)
   replace F2 := F2.chg hc3 Dj.nil
   replace F3 := F3.chg hc3 Dj.nil
   replace F4 := F4.chg hc3 Dj.nil
   replace hB := hB.inS hc3 inNil
   replace hZ := Nat.le_trans hZ hc3.size
   have hS := Chg.refl fr2 w3
   have Z1 := F2
   have Z2 := F3
   have Z3 := F4
   refine wH_take [0, 1] [1, 0] [(23, .slice A4 (x2).length cap5), (22, .slice A3 (l3).length cap4)] (by kernel_rfl) (qT (qT (qB (qT (qL (qB (qT (qT qZ)))))))) (by kernel_rfl) ?_
   obtain ⟨x3, hx3, hm⟩ := bindE hm
   refine wH_idx (i := 2) (d := 24) (T := 25) (A := A4) (n := (x2).length) (cap := cap5) (kd := .i64) (m := 0) (by kernel_rfl) (qT (qT (qB (qT (qL (qB (qT (qT qZ)))))))) (by kernel_rfl) (by kernel_rfl) sl25 (F4.is hx3) ?_
   refine wH_load1 (i := 3) (d := 25) (T := 2) (ad := (elA A4 1 (0) 0)) (v := .int .i64 (x3)) (by kernel_rfl) (qT (qT (qB (qT (qL (qB (qT (qT qZ)))))))) (by kernel_rfl) (by kernel_rfl) vt2 (fun W hW => Sl.cell (Z3.chg hW (Dj.inr (Dj.of L0_1 G2))) hx3 0 (by rfl)) ?_
   refine wH_take [4, 5] [5, 4, 3, 2, 1, 0] [(27, .slice A4 (x2).length cap5), (26, .slice A3 (l3).length cap4)] (by kernel_rfl) (qT (qT (qB (qT (qL (qB (qT (qT qZ)))))))) (by kernel_rfl) ?_
   refine wH_idx (i := 6) (d := 28) (T := 25) (A := A4) (n := (x2).length) (cap := cap5) (kd := .i64) (m := 0) (by kernel_rfl) (qT (qT (qB (qT (qL (qB (qT (qT qZ)))))))) (by kernel_rfl) (by kernel_rfl) sl25 (F4.is hx3) ?_
   refine wH_load1 (i := 7) (d := 29) (T := 2) (ad := (elA A4 1 (0) 0)) (v := .int .i64 (x3)) (by kernel_rfl) (qT (qT (qB (qT (qL (qB (qT (qT qZ)))))))) (by kernel_rfl) (by kernel_rfl) vt2 (fun W hW => Sl.cell (Z3.chg hW (Dj.inr (Dj.of L0_1 G2))) hx3 0 (by rfl)) ?_
   obtain ⟨x4, hx4, hm⟩ := bindE hm
   refine wH_idx (i := 8) (d := 30) (T := 77) (A := A3) (n := (l3).length) (cap := cap4) (kd := .i64) (m := x3) (by kernel_rfl) (qT (qT (qB (qT (qL (qB (qT (qT qZ)))))))) (by kernel_rfl) (by kernel_rfl) sl77 ((F3.slr encI_ok).is hx4) ?_
   obtain ⟨A5, cap6, hc4, F5, K2⟩ := OwR.rowS Z2 encI_ok hx4
   have G3 := low_inr G2
   have Dm1 := (F3.dj).symm
   refine wH_load1 (i := 9) (d := 31) (T := 75) (ad := (elA A3 1 (x3) 0)) (v := .slice A5 (x4).length cap6) (by kernel_rfl) (qT (qT (qB (qT (qL (qB (qT (qT qZ)))))))) (by kernel_rfl) (by kernel_rfl) vt75 (fun W hW => hc4 W hW) ?_
   refine wH_take [10] [10, 9, 8, 7, 6, 5, 4, 3, 2, 1, 0] [(32, .slice A4 (x2).length cap5)] (by kernel_rfl) (qT (qT (qB (qT (qL (qB (qT (qT qZ)))))))) (by kernel_rfl) ?_
   obtain ⟨x5, hx5, hm⟩ := bindE hm
   refine wH_idx (i := 11) (d := 33) (T := 25) (A := A4) (n := (x2).length) (cap := cap5) (kd := .i64) (m := 1) (by kernel_rfl) (qT (qT (qB (qT (qL (qB (qT (qT qZ)))))))) (by kernel_rfl) (by kernel_rfl) sl25 (F4.is hx5) ?_
   refine wH_load1 (i := 12) (d := 34) (T := 2) (ad := (elA A4 1 (1) 0)) (v := .int .i64 (x5)) (by kernel_rfl) (qT (qT (qB (qT (qL (qB (qT (qT qZ)))))))) (by kernel_rfl) (by kernel_rfl) vt2 (fun W hW => Sl.cell (Z3.chg hW (Dj.inr (Dj.of L0_1 G2))) hx5 0 (by rfl)) ?_
   refine wH_all [13] (by rfl) (by kernel_rfl) (by simp) ⟨⟨by kernel_rfl, ?_⟩, trivial⟩
   refine wS_bs (enc := encI) ([x5] : List (Int)) [.int .i64 (x5)] (d := 35) (t := 75) (T := 3) (n := 1) (ps := [(0, .int .i64 (x5))]) (by kernel_rfl) el75 encI_ok (by rfl) (by omega) (by omega) (by kernel_rfl) (by rfl) ?_
   intro b2 w4 G4 F6 hc5
   have D1 : Dj (fp2 ++ fr2) [b2] := Dj.of F3.low (low1 G4)
   have D2 : Dj fr2 [b2] := Dj.of F5.low (low1 G4)
   replace F2 := F2.chg hc5 Dj.nil
   replace F3 := F3.chg hc5 Dj.nil
   replace F4 := F4.chg hc5 Dj.nil
   replace F5 := F5.chg hc5 Dj.nil
   replace hB := hB.inS hc5 inNil
   have hSz := hS
   replace hS := hS.inS hc5 inNil
   have Gz1 := low1 (Nat.le_trans hSz.size G4)
   replace G4 := Nat.le_trans hZ G4
   replace G4 := low1 G4
   replace hZ := Nat.le_trans hZ hc5.size
   refine wS_end (by kernel_rfl) ?_
   refine eX_KH hS ?_
   refine wH_all [14] (by rfl) (by kernel_rfl) (by simp) ⟨⟨by kernel_rfl, ?_⟩, trivial⟩
   obtain ⟨_, hk2, hm⟩ := bindE hm
   replace hk2 := apE hk2
   refine wS_appH (k := 1) (enc := encI) (ll := l3) (l := (x4 : List (Int))) (l2 := (([x5] : List (Int)) : List (Int))) (d := 36) (t := 75) (T2 := 3) (U := 75) (m := x3) (A := A3) (B := A5) (A2 := (some ⟨b2, 0, none⟩)) (cap := cap4) (c := cap6) (cap2 := 1) (by kernel_rfl) el75 encI_ok F3 hx4 (hc4 _ hS) (F6.sl encI_ok) hk2 ?_
   intro w5 fp3 A6 cap7 F7 hc6 hp1
   have D3 : Dj [b2] (fp2 ++ (fr2 ++ fp3)) := Dj.app (Dj.inl (D1).symm) (Dj.app (Dj.inr (D1).symm) (Dj.ap (Dj.inr (D1).symm) F6.low hp1))
   have G5 := lowApp (low_inl G2) (lowApp (low_inr G2) (low_ap (low_inr G2) hZ hp1))
   replace F2 := F2.chg hc6 (Dj.inr (Dj.of L0_1 G2))
   replace F4 := F4.chg hc6 (Dj.inr (Dj.of L0_1 G2))
   replace F6 := F6.chg hc6 (Dj.inr (D1).symm)
   replace hB := hB.inS hc6 (memS_inr (inLow G2))
   have hSz := hS
   replace hS := hS.trans hc6
   replace hZ := Nat.le_trans hZ hc6.size
   refine wS_end (by kernel_rfl) ?_
   refine eX_KH hS ?_
   refine wH_done (by kernel_rfl) ?_
   refine eX_tail ?_
   refine wS_idx (d := 37) (T := 77) (A := A3) (n := (l3).length) (cap := cap4) (kd := .i64) (m := x3) (by kernel_rfl) sl77 (by have h_ := F7.at; rw [List.length_set] at h_; exact h_) ?_
   refine wS_storeH (k := 1) (enc := encI) (ll := l3.set (Int.toNat x3) (x4 ++ (([x5] : List (Int))))) (T := 75) (U := 75) (T2 := 3) (cap := cap4) (c := cap7) (n := (x4 ++ (([x5] : List (Int)))).length) (A := A3) (B := A6) (m := x3) (by kernel_rfl) sz75 F7 ?_
   intro w6 F8 hc7
   replace F2 := F2.chg hc7 (Dj.inl (Dj.of L0_1 G5))
   replace F4 := F4.chg hc7 (Dj.inl (Dj.of L0_1 G5))
   replace F6 := F6.chg hc7 (Dj.inl D3)
   replace hB := hB.inS hc7 (memS_inl (inLow G5))
   replace hZ := Nat.le_trans hZ hc7.size
   rewrite [show (l3).length = (l3.set (Int.toNat x3) (x4 ++ (([x5] : List (Int))))).length from (List.length_set ..).symm]
   refine wS_end (by rfl) ?_
   refine eX_then ?_
   refine cW_prune [(3, .slice A3 (l3.set (Int.toNat x3) (x4 ++ (([x5] : List (Int))))).length cap4), (5, .slice A4 (x2).length cap5), (16, .slice A0_1 (l0_1).length cap0_1), (17, .int .i64 (((l0_1).length : Int))), (18, .int .i64 (x1))] (by kernel_rfl) (by kernel_rfl) (fun a1 => ?_)
   refine cW_drawnTail (fr2 ++ fp3) 15 (by kernel_rfl) (by kernel_rfl) (fun w7 hc8 => ?_)
   replace F2 := F2.chg hc8 Dj.nil
   replace F4 := F4.chg hc8 Dj.nil
   replace F6 := F6.chg hc8 Dj.nil
   replace F8 := F8.chg hc8 Dj.nil
   replace hB := hB.inS hc8 inNil
   replace hZ := Nat.le_trans hZ hc8.size
   have hS := Chg.refl (fr2 ++ fp3) w7
   have Z4 := F2
   have Z5 := F4
   have Z6 := F6
   have Z7 := F8
   refine wH_take [0, 1] [1, 0] [(39, .slice A4 (x2).length cap5), (38, .slice A3 (l3.set (Int.toNat x3) (x4 ++ (([x5] : List (Int))))).length cap4)] (by kernel_rfl) (qT (qB (qT (qL (qB (qT (qT qZ))))))) (by kernel_rfl) ?_
   refine wH_idx (i := 2) (d := 40) (T := 25) (A := A4) (n := (x2).length) (cap := cap5) (kd := .i64) (m := 1) (by kernel_rfl) (qT (qB (qT (qL (qB (qT (qT qZ))))))) (by kernel_rfl) (by kernel_rfl) sl25 (F4.is hx5) ?_
   refine wH_load1 (i := 3) (d := 41) (T := 2) (ad := (elA A4 1 (1) 0)) (v := .int .i64 (x5)) (by kernel_rfl) (qT (qB (qT (qL (qB (qT (qT qZ))))))) (by kernel_rfl) (by kernel_rfl) vt2 (fun W hW => Sl.cell (Z5.chg hW (Dj.inr (Dj.of L0_1 G5))) hx5 0 (by rfl)) ?_
   refine wH_take [4, 5] [5, 4, 3, 2, 1, 0] [(43, .slice A4 (x2).length cap5), (42, .slice A3 (l3.set (Int.toNat x3) (x4 ++ (([x5] : List (Int))))).length cap4)] (by kernel_rfl) (qT (qB (qT (qL (qB (qT (qT qZ))))))) (by kernel_rfl) ?_
   refine wH_idx (i := 6) (d := 44) (T := 25) (A := A4) (n := (x2).length) (cap := cap5) (kd := .i64) (m := 1) (by kernel_rfl) (qT (qB (qT (qL (qB (qT (qT qZ))))))) (by kernel_rfl) (by kernel_rfl) sl25 (F4.is hx5) ?_
   refine wH_load1 (i := 7) (d := 45) (T := 2) (ad := (elA A4 1 (1) 0)) (v := .int .i64 (x5)) (by kernel_rfl) (qT (qB (qT (qL (qB (qT (qT qZ))))))) (by kernel_rfl) (by kernel_rfl) vt2 (fun W hW => Sl.cell (Z5.chg hW (Dj.inr (Dj.of L0_1 G5))) hx5 0 (by rfl)) ?_
   obtain ⟨x6, hx6, hm⟩ := bindE hm
   refine wH_idx (i := 8) (d := 46) (T := 77) (A := A3) (n := (l3.set (Int.toNat x3) (x4 ++ (([x5] : List (Int))))).length) (cap := cap4) (kd := .i64) (m := x5) (by kernel_rfl) (qT (qB (qT (qL (qB (qT (qT qZ))))))) (by kernel_rfl) (by kernel_rfl) sl77 ((F8.slr encI_ok).is hx6) ?_
   obtain ⟨A7, cap8, hc9, F9, K3⟩ := OwR.rowS Z7 encI_ok hx6
   have G6 := low_inr G5
   have Dm2 := (F8.dj).symm
   refine wH_load1 (i := 9) (d := 47) (T := 75) (ad := (elA A3 1 (x5) 0)) (v := .slice A7 (x6).length cap8) (by kernel_rfl) (qT (qB (qT (qL (qB (qT (qT qZ))))))) (by kernel_rfl) (by kernel_rfl) vt75 (fun W hW => hc9 W hW) ?_
   refine wH_take [10] [10, 9, 8, 7, 6, 5, 4, 3, 2, 1, 0] [(48, .slice A4 (x2).length cap5)] (by kernel_rfl) (qT (qB (qT (qL (qB (qT (qT qZ))))))) (by kernel_rfl) ?_
   refine wH_idx (i := 11) (d := 49) (T := 25) (A := A4) (n := (x2).length) (cap := cap5) (kd := .i64) (m := 0) (by kernel_rfl) (qT (qB (qT (qL (qB (qT (qT qZ))))))) (by kernel_rfl) (by kernel_rfl) sl25 (F4.is hx3) ?_
   refine wH_load1 (i := 12) (d := 50) (T := 2) (ad := (elA A4 1 (0) 0)) (v := .int .i64 (x3)) (by kernel_rfl) (qT (qB (qT (qL (qB (qT (qT qZ))))))) (by kernel_rfl) (by kernel_rfl) vt2 (fun W hW => Sl.cell (Z5.chg hW (Dj.inr (Dj.of L0_1 G5))) hx3 0 (by rfl)) ?_
   refine wH_all [13] (by rfl) (by kernel_rfl) (by simp) ⟨⟨by kernel_rfl, ?_⟩, trivial⟩
   refine wS_bs (enc := encI) ([x3] : List (Int)) [.int .i64 (x3)] (d := 51) (t := 75) (T := 3) (n := 1) (ps := [(0, .int .i64 (x3))]) (by kernel_rfl) el75 encI_ok (by rfl) (by omega) (by omega) (by kernel_rfl) (by rfl) ?_
   intro b3 w8 G7 F10 hc10
   have D4 : Dj [b2] [b3] := Dj.of F6.low (low1 G7)
   have D5 : Dj (fp2 ++ (fr2 ++ fp3)) [b3] := Dj.of F8.low (low1 G7)
   have D6 : Dj (fr2 ++ fp3) [b3] := Dj.of F9.low (low1 G7)
   replace F2 := F2.chg hc10 Dj.nil
   replace F4 := F4.chg hc10 Dj.nil
   replace F6 := F6.chg hc10 Dj.nil
   replace F8 := F8.chg hc10 Dj.nil
   replace F9 := F9.chg hc10 Dj.nil
   replace hB := hB.inS hc10 inNil
   have hSz := hS
   replace hS := hS.inS hc10 inNil
   have Gz2 := low1 (Nat.le_trans hSz.size G7)
   replace G7 := Nat.le_trans hZ G7
   replace G7 := low1 G7
   replace hZ := Nat.le_trans hZ hc10.size
   refine wS_end (by kernel_rfl) ?_
   refine eX_KH hS ?_
   refine wH_all [14] (by rfl) (by kernel_rfl) (by simp) ⟨⟨by kernel_rfl, ?_⟩, trivial⟩
   obtain ⟨_, hk3, hm⟩ := bindE hm
   replace hk3 := apE hk3
   refine wS_appH (k := 1) (enc := encI) (ll := l3.set (Int.toNat x3) (x4 ++ (([x5] : List (Int))))) (l := (x6 : List (Int))) (l2 := (([x3] : List (Int)) : List (Int))) (d := 52) (t := 75) (T2 := 3) (U := 75) (m := x5) (A := A3) (B := A7) (A2 := (some ⟨b3, 0, none⟩)) (cap := cap4) (c := cap8) (cap2 := 1) (by kernel_rfl) el75 encI_ok F8 hx6 (hc9 _ hS) (F10.sl encI_ok) hk3 ?_
   intro w9 fp4 A8 cap9 F11 hc11 hp2
   have D7 : Dj [b2] (fp2 ++ ((fr2 ++ fp3) ++ fp4)) := Dj.app (Dj.inl D3) (Dj.app (Dj.inr D3) (Dj.ap (Dj.inr D3) F6.low hp2))
   have D8 : Dj [b3] (fp2 ++ ((fr2 ++ fp3) ++ fp4)) := Dj.app (Dj.inl (D5).symm) (Dj.app (Dj.inr (D5).symm) (Dj.ap (Dj.inr (D5).symm) F10.low hp2))
   have G8 := lowApp (low_inl G5) (lowApp (low_inr G5) (low_ap (low_inr G5) hZ hp2))
   replace F2 := F2.chg hc11 (Dj.inr (Dj.of L0_1 G5))
   replace F4 := F4.chg hc11 (Dj.inr (Dj.of L0_1 G5))
   replace F6 := F6.chg hc11 (Dj.inr D3)
   replace F10 := F10.chg hc11 (Dj.inr (D5).symm)
   replace hB := hB.inS hc11 (memS_inr (inLow G5))
   have hSz := hS
   replace hS := hS.trans hc11
   replace hZ := Nat.le_trans hZ hc11.size
   refine wS_end (by kernel_rfl) ?_
   refine eX_KH hS ?_
   refine wH_done (by kernel_rfl) ?_
   refine eX_tail ?_
   refine wS_idx (d := 53) (T := 77) (A := A3) (n := (l3.set (Int.toNat x3) (x4 ++ (([x5] : List (Int))))).length) (cap := cap4) (kd := .i64) (m := x5) (by kernel_rfl) sl77 (by have h_ := F11.at; rw [List.length_set] at h_; exact h_) ?_
   refine wS_storeH (k := 1) (enc := encI) (ll := (l3.set (Int.toNat x3) (x4 ++ (([x5] : List (Int))))).set (Int.toNat x5) (x6 ++ (([x3] : List (Int))))) (T := 75) (U := 75) (T2 := 3) (cap := cap4) (c := cap9) (n := (x6 ++ (([x3] : List (Int)))).length) (A := A3) (B := A8) (m := x5) (by kernel_rfl) sz75 F11 ?_
   intro w10 F12 hc12
   replace F2 := F2.chg hc12 (Dj.inl (Dj.of L0_1 G8))
   replace F4 := F4.chg hc12 (Dj.inl (Dj.of L0_1 G8))
   replace F6 := F6.chg hc12 (Dj.inl D7)
   replace F10 := F10.chg hc12 (Dj.inl D8)
   replace hB := hB.inS hc12 (memS_inl (inLow G8))
   replace hZ := Nat.le_trans hZ hc12.size
   rewrite [show (l3.set (Int.toNat x3) (x4 ++ (([x5] : List (Int))))).length = ((l3.set (Int.toNat x3) (x4 ++ (([x5] : List (Int))))).set (Int.toNat x5) (x6 ++ (([x3] : List (Int))))).length from (List.length_set ..).symm]
   refine wS_end (by rfl) ?_
   refine eX_block ?_
   refine eX_then ?_
   refine cW_region ?_
   refine wS_pure 2 [(18, .int .i64 (wr (x1 + 1))), (54, .int .i64 (wr (x1 + 1)))] (by kernel_rfl) ?_
   refine wS_end (by rfl) ?_
   have hq : (some (Ctl.next (((l3.set (Int.toNat x3) (x4 ++ (([x5] : List (Int))))).set (Int.toNat x5) (x6 ++ (([x3] : List (Int)))), wr (x1 + 1)))) : Option (Ctl ((List (List (Int))) × Int) ((List (List (Int)))))) = some _ := hm
   replace hq := someE hq
   subst hq
   exact eX_next hx1 (fun hst => ⟨(l3.set (Int.toNat x3) (x4 ++ (([x5] : List (Int))))).set (Int.toNat x5) (x6 ++ (([x3] : List (Int)))), A3, cap4, fp2, ((fr2 ++ fp3) ++ fp4), wr (x1 + 1), rfl, Fr.of hst (by kernel_rfl), F2, F12, G8, hB, hZ⟩)
  ·have hm := condF hb1 hm
   refine cW_exit ?_
   refine eX_then_exit ?_
   have hq : (some (Ctl.out l3) : Option (Ctl ((List (List (Int))) × Int) ((List (List (Int)))))) = some _ := hm
   replace hq := someE hq
   subst hq
   refine eX_outX hx1 (fun hr2 => ?_)
   replace hr2 := hr2.symm
   subst hr2
   refine eX_block_hit ?_
   exact eX_J (fun hst => ⟨l3, A3, cap4, fp2, fr2, rfl, Fr.of hst (by kernel_rfl), F3, G2, hB, hZ⟩)
 ·rintro a' w11 ⟨l1, A1, cap3, fp1, fr1, hJ, hF2, F13, G9, hB, hZ⟩
  subst hJ
  refine Fr.goX hF2 (by kernel_rfl) ?_
  refine eX_then ?_
  refine cW_seq ?_
  refine cW_seq ?_
  refine cW_region ?_
  refine wS_pure 3 [(57, .int .i64 (0)), (56, .int .i64 (((l1).length : Int))), (55, .slice A1 (l1).length cap3)] (by kernel_rfl) ?_
  refine wS_end (by rfl) ?_
  refine eX_then ?_
  obtain ⟨r2, hr3, hm⟩ := bindE hm
  have hm2 := hm
  refine cW_cut (fun a' w' => ∃ l4 : List (List (Int)), l4 = r2 ∧ Fr 65 [(3, .slice A1 (l4).length cap3)] a' ∧ OwR 1 encI 75 3 w' fp1 fr1 A1 cap3 l4 ∧ Chg [] w0 w' ∧ w0.heap.size ≤ w'.heap.size) ?_ ?_
  ·refine cW_block ?_
   refine cW_loop _ (fun (s2 : Int × (List (List (Int)))) a' w' => ∃ x7 : Int, ∃ l5 : List (List (Int)), (x7, l5) = s2 ∧ Fr 65 [(3, .slice A1 (l5).length cap3), (55, .slice A1 (l5).length cap3), (56, .int .i64 (((l1).length : Int))), (57, .int .i64 (x7))] a' ∧ OwR 1 encI 75 3 w' fp1 fr1 A1 cap3 l5 ∧ Chg [] w0 w' ∧ w0.heap.size ≤ w'.heap.size) hr3 (fun hst => ⟨0, l1, rfl, Fr.of hst (by kernel_rfl), F13, hB, hZ⟩) ?_
   rintro _ c2 a' w12 ⟨x7, l5, rfl, hF3, F14, hB, hZ⟩ hx7
   refine Fr.goOn hF3 (by kernel_rfl) ?_
   have hm := hx7
   unfold m_impl_Wiring_crossed_bimplWiring_s2 at hm
   refine cW_seq ?_
   refine cW_region ?_
   refine wS_pure 1 [(58, .bool (decide (x7 < (((l1).length : Int)))))] (by kernel_rfl) ?_
   refine wS_end (by rfl) ?_
   refine eX_then ?_
   refine cW_seq ?_
   refine cW_cond (t := decide (x7 < (((l1).length : Int)))) (by kernel_rfl) (fun hb2 => ?_) (fun hb2 => ?_)
   ·have hm := condT hb2 hm
    refine cW_skip ?_
    refine eX_then ?_
    refine cW_seq ?_
    refine cW_block ?_
    refine cW_seq ?_
    refine cW_region ?_
    obtain ⟨x8, hx8, hm⟩ := bindE hm
    refine wS_idx (d := 59) (T := 77) (A := A1) (n := (l5).length) (cap := cap3) (kd := .i64) (m := x7) (by kernel_rfl) sl77 ((F14.slr encI_ok).is hx8) ?_
    obtain ⟨A9, cap10, fp5, hc13, hsub1, F15, hcl1⟩ := OwR.lend F14 hx8
    have G10 := low_inr G9
    have Dm3 := (F14.dj).symm
    refine wS_load1 (d := 60) (T := 75) (ad := (elA A1 1 (x7) 0)) (v := .slice A9 (x8).length cap10) (by kernel_rfl) vt75 hc13 ?_
    refine wS_pure 1 [(7, .slice A9 (x8).length cap10)] (by kernel_rfl) ?_
    refine wS_end (by rfl) ?_
    refine eX_then ?_
    refine cW_region ?_
    refine wS_pure 1 [(61, .slice A9 (x8).length cap10)] (by kernel_rfl) ?_
    obtain ⟨y1, hy1, hm⟩ := bindE hm
    refine wS_calls (d := 62) (f := 95) (vs := [.slice A9 (x8).length cap10]) (by kernel_rfl) ent95 (c_slices_Sort_int_int hy1 F15) ?_
    rintro _ w13 ⟨rfl, F16, hl1, hc14⟩
    have F17 := hcl1 _ _ (hc14.more (fun x hx => by simpa using hx)) F16 hl1
    have hc15 := hc14.more (S' := (fp1 ++ fr1) ++ []) (fun x hx => List.mem_append_left _ (hsub1 x (by simpa using hx)))
    clear F14
    replace hB := hB.inS hc15 (inApp (inLow G9) inNil)
    replace hZ := Nat.le_trans hZ hc15.size
    refine ⟨.tuple #[], rfl, ?_⟩
    rewrite [(show (l5).length = (l5.set (Int.toNat x7) y1).length from (List.length_set ..).symm)]
    refine wS_end (by rfl) ?_
    refine eX_block ?_
    refine eX_then ?_
    refine cW_region ?_
    refine wS_pure 2 [(57, .int .i64 (wr (x7 + 1))), (63, .int .i64 (wr (x7 + 1)))] (by kernel_rfl) ?_
    refine wS_end (by rfl) ?_
    have hq : (some (Ctl.next ((wr (x7 + 1), l5.set (Int.toNat x7) y1))) : Option (Ctl (Int × (List (List (Int)))) ((List (List (Int)))))) = some _ := hm
    replace hq := someE hq
    subst hq
    exact eX_next hx7 (fun hst => ⟨wr (x7 + 1), l5.set (Int.toNat x7) y1, rfl, Fr.of hst (by kernel_rfl), F17, hB, hZ⟩)
   ·have hm := condF hb2 hm
    refine cW_exit ?_
    refine eX_then_exit ?_
    have hq : (some (Ctl.out l5) : Option (Ctl (Int × (List (List (Int)))) ((List (List (Int)))))) = some _ := hm
    replace hq := someE hq
    subst hq
    refine eX_outX hx7 (fun hr4 => ?_)
    replace hr4 := hr4.symm
    subst hr4
    refine eX_block_hit ?_
    exact eX_J (fun hst => ⟨l5, rfl, Fr.of hst (by kernel_rfl), F14, hB, hZ⟩)
  ·rintro a' w14 ⟨l4, hJ, hF4, F18, hB, hZ⟩
   subst hJ
   refine Fr.goX hF4 (by kernel_rfl) ?_
   refine eX_then ?_
   refine cW_seq ?_
   refine cW_region ?_
   refine wS_pure 2 [(2, .slice A1 (l4).length cap3), (64, .slice A1 (l4).length cap3)] (by kernel_rfl) ?_
   refine wS_end (by rfl) ?_
   refine eX_then ?_
   refine cW_ret ?_
   have hq : (some l4 : Option ((List (List (Int))))) = some _ := hm
   replace hq := someE hq
   subst hq
   refine eX_ret (vs := [.slice A1 (l4).length cap3]) [.tmp 2] (by rfl) ⟨by (show lkE _ _ _ = _); kernel_rfl, trivial⟩ ?_
   exact ⟨A1, cap3, fp1, fr1, rfl, F18, G9, hB⟩

set_option maxRecDepth 100000 in
/-- impl.Wiring).cost -/
theorem c_impl_Wiring_cost_bimplWiring {w0 : World} {q0_0 : Int} {l0_1 : List (List (Int))} {A0_1 : Option Addr} {cap0_1 : Nat} {fp0_1 : List Nat} {l0_2 : List (List (Int))} {A0_2 : Option Addr} {cap0_2 : Nat} {fp0_2 : List Nat} {l0_3 : List (Int)} {A0_3 : Option Addr} {cap0_3 : Nat} {fp0_3 : List Nat} {b0 : Nat} {l1 : List (Int)} {A1 : Option Addr} {cap1 : Nat} {fp1 : List Nat} {r : (Int)} (hm : m_impl_Wiring_cost_bimplWiring q0_0 l0_1 l0_2 l0_3 l1 = some r) (F0_1 : SlR 1 encI w0 fp0_1 A0_1 l0_1) (F0_2 : SlR 1 encI w0 fp0_2 A0_2 l0_2) (F0_3 : Sl 1 encI w0 fp0_3 A0_3 l0_3) (F0 : Cl w0 b0 27 [.int .i64 (q0_0), .slice A0_1 (l0_1).length cap0_1, .slice A0_2 (l0_2).length cap0_2, .slice A0_3 (l0_3).length cap0_3]) (F1 : Sl 1 encI w0 fp1 A1 l1) :
  Calls Try.prog 92 #[.pointer (some ⟨b0, 0, none⟩), .slice A1 (l1).length cap1] w0 fun e w' => e = .returned (.int .i64 (r)) ∧ Chg [] w0 w' := by
 have L0_1 := F0_1.low
 have L0_2 := F0_2.low
 have L0_3 := F0_3.low
 have L0 := lt1 F0.lt
 have L1 := F1.low
 have hB : Chg [] w0 w0 := Chg.refl _ _
 have hZ := Nat.le_refl w0.heap.size
 unfold m_impl_Wiring_cost_bimplWiring at hm
 refine enterE (N := 37) Try.func92 (by rfl) Try.ntmps92 (by simp) [(0, .pointer (some ⟨b0, 0, none⟩)), (1, .slice A1 (l1).length cap1)] (by rfl) (by kernel_rfl) (fun a => ?_)
 refine cW_seq ?_
 refine cW_region ?_
 refine wS_pure 1 [(4, .int .i64 (0))] (by kernel_rfl) ?_
 refine wS_end (by rfl) ?_
 refine eX_then ?_
 refine cW_seq ?_
 refine cW_region ?_
 refine wS_pure 1 [(5, .int .i64 (0))] (by kernel_rfl) ?_
 refine wS_end (by rfl) ?_
 refine eX_then ?_
 refine cW_seq ?_
 refine cW_seq ?_
 refine cW_region ?_
 refine wS_pure 3 [(10, .pointer (some ⟨b0, 2, none⟩)), (9, .pointer (some ⟨b0, 0, none⟩)), (8, .pointer (some ⟨b0, 0, none⟩))] (by kernel_rfl) ?_
 refine wS_load1 (d := 11) (T := 24) (ad := ⟨b0, 2, none⟩) (v := .slice A0_2 (l0_2).length cap0_2) (by kernel_rfl) vt24 ((F0).cell 2) ?_
 refine wS_pure 2 [(13, .int .i64 (0)), (12, .int .i64 (((l0_2).length : Int)))] (by kernel_rfl) ?_
 refine wS_end (by rfl) ?_
 refine eX_then ?_
 obtain ⟨r1, hr1, hm⟩ := bindE hm
 have hm1 := hm
 refine cW_cut (fun a' w' => ∃ x1 : Int, x1 = r1 ∧ Fr 37 [(5, .int .i64 (x1))] a' ∧ Chg [] w0 w' ∧ w0.heap.size ≤ w'.heap.size) ?_ ?_
 ·refine cW_block ?_
  refine cW_loop _ (fun (s1 : Int × Int) a' w' => ∃ x2 : Int, ∃ x3 : Int, (x2, x3) = s1 ∧ Fr 37 [(1, .slice A1 (l1).length cap1), (5, .int .i64 (x2)), (11, .slice A0_2 (l0_2).length cap0_2), (12, .int .i64 (((l0_2).length : Int))), (13, .int .i64 (x3))] a' ∧ SlR 1 encI w' fp0_2 A0_2 l0_2 ∧ Sl 1 encI w' fp1 A1 l1 ∧ Chg [] w0 w' ∧ w0.heap.size ≤ w'.heap.size) hr1 (fun hst => ⟨0, 0, rfl, Fr.of hst (by kernel_rfl), F0_2, F1, hB, hZ⟩) ?_
  rintro _ c1 a' w1 ⟨x2, x3, rfl, hF1, F2, F3, hB, hZ⟩ hx1
  refine Fr.goOn hF1 (by kernel_rfl) ?_
  have hm := hx1
  unfold m_impl_Wiring_cost_bimplWiring_s1 at hm
  refine cW_seq ?_
  refine cW_region ?_
  refine wS_pure 1 [(14, .bool (decide (x3 < (((l0_2).length : Int)))))] (by kernel_rfl) ?_
  refine wS_end (by rfl) ?_
  refine eX_then ?_
  refine cW_seq ?_
  refine cW_cond (t := decide (x3 < (((l0_2).length : Int)))) (by kernel_rfl) (fun hb1 => ?_) (fun hb1 => ?_)
  ·have hm := condT hb1 hm
   refine cW_skip ?_
   refine eX_then ?_
   refine cW_seq ?_
   refine cW_block ?_
   obtain ⟨s2, hs1, hm⟩ := bindE hm
   refine cW_cut (fun a' w' => ∃ x4 : Int, x4 = s2 ∧ Fr 37 [(1, .slice A1 (l1).length cap1), (5, .int .i64 (x4)), (11, .slice A0_2 (l0_2).length cap0_2), (12, .int .i64 (((l0_2).length : Int))), (13, .int .i64 (x3))] a' ∧ SlR 1 encI w' fp0_2 A0_2 l0_2 ∧ Sl 1 encI w' fp1 A1 l1 ∧ Chg [] w0 w' ∧ w0.heap.size ≤ w'.heap.size) ?_ ?_
   ·have hm := hs1
    refine cW_seq ?_
    refine cW_region ?_
    obtain ⟨x5, hx2, hm⟩ := bindE hm
    refine wS_idx (d := 15) (T := 24) (A := A0_2) (n := (l0_2).length) (cap := cap0_2) (kd := .i64) (m := x3) (by kernel_rfl) sl24 (F2.is hx2) ?_
    obtain ⟨A2, cap2, hc1, F4, K1⟩ := SlR.row F2 hx2
    refine wS_load1 (d := 16) (T := 25) (ad := (elA A0_2 1 (x3) 0)) (v := .slice A2 (x5).length cap2) (by kernel_rfl) vt25 hc1 ?_
    refine wS_pure 1 [(7, .slice A2 (x5).length cap2)] (by kernel_rfl) ?_
    refine wS_end (by rfl) ?_
    refine eX_then ?_
    refine cW_seq ?_
    refine cW_drawnTail [] 12 (by kernel_rfl) (by kernel_rfl) (fun w2 hc2 => ?_)
    replace F2 := F2.chg hc2 Dj.nil
    replace F3 := F3.chg hc2 Dj.nil
    replace F4 := F4.chg hc2 Dj.nil
    replace hB := hB.inS hc2 inNil
    replace hZ := Nat.le_trans hZ hc2.size
    have hS := Chg.refl [] w2
    have Z1 := F2
    have Z2 := F3
    have Z3 := F4
    refine wH_take [0, 1] [1, 0] [(18, .slice A2 (x5).length cap2), (17, .slice A1 (l1).length cap1)] (by kernel_rfl) (qT (qT (qT (qB (qT (qL (qB (qT (qT qZ))))))))) (by kernel_rfl) ?_
    obtain ⟨x6, hx3, hm⟩ := bindE hm
    refine wH_idx (i := 2) (d := 19) (T := 25) (A := A2) (n := (x5).length) (cap := cap2) (kd := .i64) (m := 0) (by kernel_rfl) (qT (qT (qT (qB (qT (qL (qB (qT (qT qZ))))))))) (by kernel_rfl) (by kernel_rfl) sl25 (F4.is hx3) ?_
    refine wH_load1 (i := 3) (d := 20) (T := 2) (ad := (elA A2 1 (0) 0)) (v := .int .i64 (x6)) (by kernel_rfl) (qT (qT (qT (qB (qT (qL (qB (qT (qT qZ))))))))) (by kernel_rfl) (by kernel_rfl) vt2 (fun W hW => Sl.cell (Z3.chg hW Dj.nil) hx3 0 (by rfl)) ?_
    obtain ⟨x7, hx4, hm⟩ := bindE hm
    refine wH_idx (i := 4) (d := 21) (T := 25) (A := A1) (n := (l1).length) (cap := cap1) (kd := .i64) (m := x6) (by kernel_rfl) (qT (qT (qT (qB (qT (qL (qB (qT (qT qZ))))))))) (by kernel_rfl) (by kernel_rfl) sl25 (F3.is hx4) ?_
    refine wH_load1 (i := 5) (d := 22) (T := 2) (ad := (elA A1 1 (x6) 0)) (v := .int .i64 (x7)) (by kernel_rfl) (qT (qT (qT (qB (qT (qL (qB (qT (qT qZ))))))))) (by kernel_rfl) (by kernel_rfl) vt2 (fun W hW => Sl.cell (Z2.chg hW Dj.nil) hx4 0 (by rfl)) ?_
    refine wH_take [6, 7] [7, 6, 5, 4, 3, 2, 1, 0] [(24, .slice A2 (x5).length cap2), (23, .slice A1 (l1).length cap1)] (by kernel_rfl) (qT (qT (qT (qB (qT (qL (qB (qT (qT qZ))))))))) (by kernel_rfl) ?_
    obtain ⟨x8, hx5, hm⟩ := bindE hm
    refine wH_idx (i := 8) (d := 25) (T := 25) (A := A2) (n := (x5).length) (cap := cap2) (kd := .i64) (m := 1) (by kernel_rfl) (qT (qT (qT (qB (qT (qL (qB (qT (qT qZ))))))))) (by kernel_rfl) (by kernel_rfl) sl25 (F4.is hx5) ?_
    refine wH_load1 (i := 9) (d := 26) (T := 2) (ad := (elA A2 1 (1) 0)) (v := .int .i64 (x8)) (by kernel_rfl) (qT (qT (qT (qB (qT (qL (qB (qT (qT qZ))))))))) (by kernel_rfl) (by kernel_rfl) vt2 (fun W hW => Sl.cell (Z3.chg hW Dj.nil) hx5 0 (by rfl)) ?_
    obtain ⟨x9, hx6, hm⟩ := bindE hm
    refine wH_idx (i := 10) (d := 27) (T := 25) (A := A1) (n := (l1).length) (cap := cap1) (kd := .i64) (m := x8) (by kernel_rfl) (qT (qT (qT (qB (qT (qL (qB (qT (qT qZ))))))))) (by kernel_rfl) (by kernel_rfl) sl25 (F3.is hx6) ?_
    refine wH_load1 (i := 11) (d := 28) (T := 2) (ad := (elA A1 1 (x8) 0)) (v := .int .i64 (x9)) (by kernel_rfl) (qT (qT (qT (qB (qT (qL (qB (qT (qT qZ))))))))) (by kernel_rfl) (by kernel_rfl) vt2 (fun W hW => Sl.cell (Z2.chg hW Dj.nil) hx6 0 (by rfl)) ?_
    refine wH_done (by kernel_rfl) ?_
    refine eX_tail ?_
    refine wS_pure 1 [(29, .bool (x7 != x9))] (by kernel_rfl) ?_
    refine wS_end (by rfl) ?_
    refine eX_then ?_
    refine cW_cond (t := x7 != x9) (by kernel_rfl) (fun hb2 => ?_) (fun hb2 => ?_)
    ·have hm := condT hb2 hm
     refine cW_region ?_
     refine wS_pure 2 [(31, .slice A2 (x5).length cap2), (30, .int .i64 (x2))] (by kernel_rfl) ?_
     obtain ⟨x10, hx7, hm⟩ := bindE hm
     refine wS_idx (d := 32) (T := 25) (A := A2) (n := (x5).length) (cap := cap2) (kd := .i64) (m := 2) (by kernel_rfl) sl25 (F4.is hx7) ?_
     refine wS_load1 (d := 33) (T := 2) (ad := (elA A2 1 (2) 0)) (v := .int .i64 (x10)) (by kernel_rfl) vt2 (Sl.cell F4 hx7 0 (by rfl)) ?_
     refine wS_pure 2 [(5, .int .i64 (wr (x2 + x10))), (34, .int .i64 (wr (x2 + x10)))] (by kernel_rfl) ?_
     refine wS_end (by rfl) ?_
     have hq : (some (wr (x2 + x10)) : Option (Int)) = some _ := hm
     replace hq := someE hq
     subst hq
     exact eX_J (fun hst => ⟨wr (x2 + x10), rfl, Fr.of hst (by kernel_rfl), F2, F3, hB, hZ⟩)
    ·have hm := condF hb2 hm
     refine cW_skip ?_
     have hq : (some x2 : Option (Int)) = some _ := hm
     replace hq := someE hq
     subst hq
     exact eX_J (fun hst => ⟨x2, rfl, Fr.of hst (by kernel_rfl), F2, F3, hB, hZ⟩)
   ·rintro a' w3 ⟨x4, hJ, hF2, F5, F6, hB, hZ⟩
    subst hJ
    refine Fr.goX hF2 (by kernel_rfl) ?_
    refine eX_block ?_
    refine eX_then ?_
    refine cW_region ?_
    refine wS_pure 2 [(13, .int .i64 (wr (x3 + 1))), (35, .int .i64 (wr (x3 + 1)))] (by kernel_rfl) ?_
    refine wS_end (by rfl) ?_
    have hq : (some (Ctl.next ((x4, wr (x3 + 1)))) : Option (Ctl (Int × Int) (Int))) = some _ := hm
    replace hq := someE hq
    subst hq
    exact eX_next hx1 (fun hst => ⟨x4, wr (x3 + 1), rfl, Fr.of hst (by kernel_rfl), F5, F6, hB, hZ⟩)
  ·have hm := condF hb1 hm
   refine cW_exit ?_
   refine eX_then_exit ?_
   have hq : (some (Ctl.out x2) : Option (Ctl (Int × Int) (Int))) = some _ := hm
   replace hq := someE hq
   subst hq
   refine eX_outX hx1 (fun hr2 => ?_)
   replace hr2 := hr2.symm
   subst hr2
   refine eX_block_hit ?_
   exact eX_J (fun hst => ⟨x2, rfl, Fr.of hst (by kernel_rfl), hB, hZ⟩)
 ·rintro a' w4 ⟨x1, hJ, hF3, hB, hZ⟩
  subst hJ
  refine Fr.goX hF3 (by kernel_rfl) ?_
  refine eX_then ?_
  refine cW_seq ?_
  refine cW_region ?_
  refine wS_pure 2 [(4, .int .i64 (x1)), (36, .int .i64 (x1))] (by kernel_rfl) ?_
  refine wS_end (by rfl) ?_
  refine eX_then ?_
  refine cW_ret ?_
  have hq : (some x1 : Option ((Int))) = some _ := hm
  replace hq := someE hq
  subst hq
  refine eX_ret (vs := [.int .i64 (x1)]) [.tmp 4] (by rfl) ⟨by (show lkE _ _ _ = _); kernel_rfl, trivial⟩ ?_
  exact ⟨rfl, hB⟩

set_option maxRecDepth 100000 in
/-- impl.Wiring).best$1$1 -/
theorem c_impl_Wiring_best_1_1_bint_bint64_bint64 {w0 : World} {p0 : Int} {q1_0 : Int} {b1 : Nat} {l2_0 : List (Int)} {A2_0 : Option Addr} {cap2_0 : Nat} {fp2_0 : List Nat} {b2 : Nat} {q3_0 : Int} {b3 : Nat} {r : (Bool)} (hm : m_impl_Wiring_best_1_1_bint_bint64_bint64 p0 q1_0 l2_0 q3_0 = some r) (F1 : Cl w0 b1 3 [.int .i64 (q1_0)]) (F2_0 : Sl 1 encI w0 fp2_0 A2_0 l2_0) (F2 : Cl w0 b2 25 [.slice A2_0 (l2_0).length cap2_0]) (F3 : Cl w0 b3 2 [.int .i64 (q3_0)]) :
  Calls Try.prog 94 #[.int .i64 (p0), .pointer (some ⟨b1, 0, none⟩), .pointer (some ⟨b2, 0, none⟩), .pointer (some ⟨b3, 0, none⟩)] w0 fun e w' => e = .returned (.bool (r)) ∧ Chg [] w0 w' := by
 have L1 := lt1 F1.lt
 have L2_0 := F2_0.low
 have L2 := lt1 F2.lt
 have L3 := lt1 F3.lt
 have hB : Chg [] w0 w0 := Chg.refl _ _
 have hZ := Nat.le_refl w0.heap.size
 unfold m_impl_Wiring_best_1_1_bint_bint64_bint64 at hm
 refine enterE (N := 17) Try.func94 (by rfl) Try.ntmps94 (by simp) [(0, .int .i64 (p0)), (1, .pointer (some ⟨b1, 0, none⟩)), (2, .pointer (some ⟨b2, 0, none⟩)), (3, .pointer (some ⟨b3, 0, none⟩))] (by rfl) (by kernel_rfl) (fun a => ?_)
 refine cW_seq ?_
 refine cW_region ?_
 refine wS_pure 1 [(5, .bool (false))] (by kernel_rfl) ?_
 refine wS_end (by rfl) ?_
 refine eX_then ?_
 refine cW_seq ?_
 refine cW_drawnTail [] 9 (by kernel_rfl) (by kernel_rfl) (fun w1 hc1 => ?_)
 replace F1 := F1.chg hc1 notNil
 replace F2_0 := F2_0.chg hc1 Dj.nil
 replace F2 := F2.chg hc1 notNil
 replace F3 := F3.chg hc1 notNil
 replace hB := hB.inS hc1 inNil
 replace hZ := Nat.le_trans hZ hc1.size
 have hS := Chg.refl [] w1
 have Z1 := F1
 have Z2 := F2_0
 have Z3 := F2
 have Z4 := F3
 refine wH_take [0] [0] [(6, .int .i64 (p0))] (by kernel_rfl) (qT (qT qZ)) (by kernel_rfl) ?_
 refine wH_load1 (i := 1) (d := 7) (T := 3) (ad := ⟨b1, 0, none⟩) (v := .int .i64 (q1_0)) (by kernel_rfl) (qT (qT qZ)) (by kernel_rfl) (by kernel_rfl) vt3 (fun W hW => (Z1.chg hW notNil).cell 0) ?_
 refine wH_take [2, 3] [3, 2, 1, 0] [(9, .bool (decide (p0 < q1_0))), (8, .bool (decide (p0 < q1_0)))] (by kernel_rfl) (qT (qT qZ)) (by kernel_rfl) ?_
 refine wH_bool (decide (p0 < q1_0)) (fun hb1 => ?_) (fun hb1 => ?_)
 ·have hm := condT hb1 hm
  rewrite [hb1]
  refine wH_load1 (i := 4) (d := 10) (T := 25) (ad := ⟨b2, 0, none⟩) (v := .slice A2_0 (l2_0).length cap2_0) (by kernel_rfl) (qT (qT qZ)) (by kernel_rfl) (by kernel_rfl) vt25 (fun W hW => (Z3.chg hW notNil).cell 0) ?_
  refine wH_take [5] [5, 4, 3, 2, 1, 0] [(11, .int .i64 (p0))] (by kernel_rfl) (qT (qT qZ)) (by kernel_rfl) ?_
  obtain ⟨x1, hx1, hm⟩ := bindE hm
  refine wH_idx (i := 6) (d := 12) (T := 25) (A := A2_0) (n := (l2_0).length) (cap := cap2_0) (kd := .i64) (m := p0) (by kernel_rfl) (qT (qT qZ)) (by kernel_rfl) (by kernel_rfl) sl25 (F2_0.is hx1) ?_
  refine wH_load1 (i := 7) (d := 13) (T := 2) (ad := (elA A2_0 1 (p0) 0)) (v := .int .i64 (x1)) (by kernel_rfl) (qT (qT qZ)) (by kernel_rfl) (by kernel_rfl) vt2 (fun W hW => Sl.cell (Z2.chg hW Dj.nil) hx1 0 (by rfl)) ?_
  refine wH_load1 (i := 8) (d := 14) (T := 2) (ad := ⟨b3, 0, none⟩) (v := .int .i64 (q3_0)) (by kernel_rfl) (qT (qT qZ)) (by kernel_rfl) (by kernel_rfl) vt2 (fun W hW => (Z4.chg hW notNil).cell 0) ?_
  refine wH_done (by kernel_rfl) ?_
  refine eX_tail ?_
  refine wS_pure 3 [(5, .bool (x1 == q3_0)), (16, .bool (x1 == q3_0)), (15, .bool (x1 == q3_0))] (by kernel_rfl) ?_
  refine wS_end (by rfl) ?_
  refine eX_then ?_
  refine cW_ret ?_
  have hq : (some (x1 == q3_0) : Option ((Bool))) = some _ := hm
  replace hq := someE hq
  subst hq
  refine eX_ret (vs := [.bool (x1 == q3_0)]) [.tmp 5] (by rfl) ⟨by (show lkE _ _ _ = _); kernel_rfl, trivial⟩ ?_
  exact ⟨rfl, hB⟩
 ·have hm := condF hb1 hm
  rewrite [hb1]
  refine wH_take [4, 5, 6, 7, 8] [8, 7, 6, 5, 4, 3, 2, 1, 0] [(14, undef), (13, undef), (12, undef), (11, undef), (10, undef)] (by kernel_rfl) (qT (qT qZ)) (by kernel_rfl) ?_
  refine wH_done (by kernel_rfl) ?_
  refine eX_tail ?_
  refine wS_pure 3 [(5, .bool (false)), (16, .bool (false)), (15, undef)] (by kernel_rfl) ?_
  refine wS_end (by rfl) ?_
  refine eX_then ?_
  refine cW_ret ?_
  have hq : (some false : Option ((Bool))) = some _ := hm
  replace hq := someE hq
  subst hq
  refine eX_ret (vs := [.bool (false)]) [.tmp 5] (by rfl) ⟨by (show lkE _ _ _ = _); kernel_rfl, trivial⟩ ?_
  exact ⟨rfl, hB⟩

set_option maxRecDepth 100000 in
/-- slices.IndexFunc[[]int,int] -/
theorem c_slices_IndexFunc_int_int_impl_Wiring_best_1_1_bint_bint64_bint64 {w0 : World} {l0 : List (Int)} {A0 : Option Addr} {cap0 : Nat} {fp0 : List Nat} {q1_0_0 : Int} {b1_0 : Nat} {l1_1_0 : List (Int)} {A1_1_0 : Option Addr} {cap1_1_0 : Nat} {fp1_1_0 : List Nat} {b1_1 : Nat} {q1_2_0 : Int} {b1_2 : Nat} {r : (Int)} (hm : m_slices_IndexFunc_int_int_impl_Wiring_best_1_1_bint_bint64_bint64 l0 q1_0_0 l1_1_0 q1_2_0 = some r) (F0 : Sl 1 encI w0 fp0 A0 l0) (F1_0 : Cl w0 b1_0 3 [.int .i64 (q1_0_0)]) (F1_1_0 : Sl 1 encI w0 fp1_1_0 A1_1_0 l1_1_0) (F1_1 : Cl w0 b1_1 25 [.slice A1_1_0 (l1_1_0).length cap1_1_0]) (F1_2 : Cl w0 b1_2 2 [.int .i64 (q1_2_0)]) :
  Calls Try.prog 114 #[.slice A0 (l0).length cap0, .func (.func 94) #[] #[.pointer (some ⟨b1_0, 0, none⟩), .pointer (some ⟨b1_1, 0, none⟩), .pointer (some ⟨b1_2, 0, none⟩)]] w0 fun e w' => e = .returned (.int .i64 (r)) ∧ Chg [] w0 w' := by
 have L0 := F0.low
 have L1_0 := lt1 F1_0.lt
 have L1_1_0 := F1_1_0.low
 have L1_1 := lt1 F1_1.lt
 have L1_2 := lt1 F1_2.lt
 have hB : Chg [] w0 w0 := Chg.refl _ _
 have hZ := Nat.le_refl w0.heap.size
 unfold m_slices_IndexFunc_int_int_impl_Wiring_best_1_1_bint_bint64_bint64 at hm
 refine enterE (N := 19) Try.func114 (by rfl) Try.ntmps114 (by simp) [(0, .slice A0 (l0).length cap0), (1, .func (.func 94) #[] #[.pointer (some ⟨b1_0, 0, none⟩), .pointer (some ⟨b1_1, 0, none⟩), .pointer (some ⟨b1_2, 0, none⟩)])] (by rfl) (by kernel_rfl) (fun a => ?_)
 refine cW_seq ?_
 refine cW_region ?_
 refine wS_pure 1 [(4, .int .i64 (0))] (by kernel_rfl) ?_
 refine wS_end (by rfl) ?_
 refine eX_then ?_
 refine cW_seq ?_
 refine cW_seq ?_
 refine cW_region ?_
 refine wS_pure 3 [(8, .int .i64 (0)), (7, .int .i64 (((l0).length : Int))), (6, .slice A0 (l0).length cap0)] (by kernel_rfl) ?_
 refine wS_end (by rfl) ?_
 refine eX_then ?_
 obtain ⟨r1, hr1, hm⟩ := bindE hm
 have hm1 := hm
 refine cW_cut (fun a' w' => Sum.inl (()) = r1 ∧ Fr 19 [] a' ∧ Chg [] w0 w' ∧ w0.heap.size ≤ w'.heap.size) ?_ ?_
 ·refine cW_block ?_
  refine cW_loop _ (fun (s1 : Int) a' w' => ∃ x1 : Int, x1 = s1 ∧ Fr 19 [(0, .slice A0 (l0).length cap0), (1, .func (.func 94) #[] #[.pointer (some ⟨b1_0, 0, none⟩), .pointer (some ⟨b1_1, 0, none⟩), .pointer (some ⟨b1_2, 0, none⟩)]), (7, .int .i64 (((l0).length : Int))), (8, .int .i64 (x1))] a' ∧ Sl 1 encI w' fp0 A0 l0 ∧ Cl w' b1_0 3 [.int .i64 (q1_0_0)] ∧ Sl 1 encI w' fp1_1_0 A1_1_0 l1_1_0 ∧ Cl w' b1_1 25 [.slice A1_1_0 (l1_1_0).length cap1_1_0] ∧ Cl w' b1_2 2 [.int .i64 (q1_2_0)] ∧ Chg [] w0 w' ∧ w0.heap.size ≤ w'.heap.size) hr1 (fun hst => ⟨0, rfl, Fr.of hst (by kernel_rfl), F0, F1_0, F1_1_0, F1_1, F1_2, hB, hZ⟩) ?_
  rintro _ c1 a' w1 ⟨x1, rfl, hF1, F1, F2, F3, F4, F5, hB, hZ⟩ hx1
  refine Fr.goOn hF1 (by kernel_rfl) ?_
  have hm := hx1
  unfold m_slices_IndexFunc_int_int_impl_Wiring_best_1_1_bint_bint64_bint64_s1 at hm
  refine cW_seq ?_
  refine cW_region ?_
  refine wS_pure 1 [(9, .bool (decide (x1 < (((l0).length : Int)))))] (by kernel_rfl) ?_
  refine wS_end (by rfl) ?_
  refine eX_then ?_
  refine cW_seq ?_
  refine cW_cond (t := decide (x1 < (((l0).length : Int)))) (by kernel_rfl) (fun hb1 => ?_) (fun hb1 => ?_)
  ·have hm := condT hb1 hm
   refine cW_skip ?_
   refine eX_then ?_
   refine cW_seq ?_
   refine cW_block ?_
   refine cW_seq ?_
   refine cW_region ?_
   refine wS_pure 2 [(5, .int .i64 (x1)), (10, .int .i64 (x1))] (by kernel_rfl) ?_
   refine wS_end (by rfl) ?_
   refine eX_then ?_
   refine cW_seq ?_
   refine cW_region ?_
   refine wS_pure 3 [(13, .int .i64 (x1)), (12, .slice A0 (l0).length cap0), (11, .func (.func 94) #[] #[.pointer (some ⟨b1_0, 0, none⟩), .pointer (some ⟨b1_1, 0, none⟩), .pointer (some ⟨b1_2, 0, none⟩)])] (by kernel_rfl) ?_
   obtain ⟨x2, hx2, hm⟩ := bindE hm
   refine wS_idx (d := 14) (T := 75) (A := A0) (n := (l0).length) (cap := cap0) (kd := .i64) (m := x1) (by kernel_rfl) sl75 (F1.is hx2) ?_
   refine wS_load1 (d := 15) (T := 3) (ad := (elA A0 1 (x1) 0)) (v := .int .i64 (x2)) (by kernel_rfl) vt3 (Sl.cell F1 hx2 0 (by rfl)) ?_
   obtain ⟨y1, hy1, hm⟩ := bindE hm
   refine wS_calls (d := 16) (f := 94) (vs := [.int .i64 (x2), .pointer (some ⟨b1_0, 0, none⟩), .pointer (some ⟨b1_1, 0, none⟩), .pointer (some ⟨b1_2, 0, none⟩)]) (by kernel_rfl) ent94 (c_impl_Wiring_best_1_1_bint_bint64_bint64 hy1 F2 F3 F4 F5) ?_
   rintro _ w2 ⟨rfl, hc1⟩
   replace F1 := F1.chg hc1 Dj.nil
   replace F2 := F2.chg hc1 notNil
   replace F3 := F3.chg hc1 Dj.nil
   replace F4 := F4.chg hc1 notNil
   replace F5 := F5.chg hc1 notNil
   replace hB := hB.inS hc1 inNil
   replace hZ := Nat.le_trans hZ hc1.size
   refine ⟨.bool (y1), rfl, ?_⟩
   refine wS_end (by rfl) ?_
   refine eX_then ?_
   refine cW_cond (t := y1) (by kernel_rfl) (fun hb2 => ?_) (fun hb2 => ?_)
   ·have hm := condT hb2 hm
    refine cW_seq ?_
    refine cW_region ?_
    refine wS_pure 2 [(4, .int .i64 (x1)), (17, .int .i64 (x1))] (by kernel_rfl) ?_
    refine wS_end (by rfl) ?_
    refine eX_then ?_
    refine cW_ret ?_
    refine eX_block_ret ?_
    refine eX_then_ret ?_
    have hq : (some (Ctl.out (Sum.inr x1)) : Option (Ctl (Int) (Sum (Unit) ((Int))))) = some _ := hm
    replace hq := someE hq
    subst hq
    refine eX_outR hx1 (fun hr => ?_)
    subst hr
    refine eX_block_ret ?_
    refine eX_then_ret ?_
    refine eX_then_ret ?_
    have hq : (some x1 : Option ((Int))) = some _ := hm1
    replace hq := someE hq
    subst hq
    refine eX_ret (vs := [.int .i64 (x1)]) [.tmp 4] (by rfl) ⟨by (show lkE _ _ _ = _); kernel_rfl, trivial⟩ ?_
    exact ⟨rfl, hB⟩
   ·have hm := condF hb2 hm
    refine cW_skip ?_
    refine eX_block ?_
    refine eX_then ?_
    refine cW_region ?_
    refine wS_pure 2 [(8, .int .i64 (wr (x1 + 1))), (18, .int .i64 (wr (x1 + 1)))] (by kernel_rfl) ?_
    refine wS_end (by rfl) ?_
    have hq : (some (Ctl.next (wr (x1 + 1))) : Option (Ctl (Int) (Sum (Unit) ((Int))))) = some _ := hm
    replace hq := someE hq
    subst hq
    exact eX_next hx1 (fun hst => ⟨wr (x1 + 1), rfl, Fr.of hst (by kernel_rfl), F1, F2, F3, F4, F5, hB, hZ⟩)
  ·have hm := condF hb1 hm
   refine cW_exit ?_
   refine eX_then_exit ?_
   have hq : (some (Ctl.out (Sum.inl (()))) : Option (Ctl (Int) (Sum (Unit) ((Int))))) = some _ := hm
   replace hq := someE hq
   subst hq
   refine eX_outX hx1 (fun hr2 => ?_)
   replace hr2 := hr2.symm
   subst hr2
   refine eX_block_hit ?_
   exact eX_J (fun hst => ⟨rfl, Fr.of hst (by kernel_rfl), hB, hZ⟩)
 ·rintro a' w3 ⟨hJ, hF2, hB, hZ⟩
  subst hJ
  refine Fr.goX hF2 (by kernel_rfl) ?_
  refine eX_then ?_
  refine cW_seq ?_
  refine cW_region ?_
  refine wS_pure 1 [(4, .int .i64 ((-1)))] (by kernel_rfl) ?_
  refine wS_end (by rfl) ?_
  refine eX_then ?_
  refine cW_ret ?_
  have hq : (some ((-1)) : Option ((Int))) = some _ := hm
  replace hq := someE hq
  subst hq
  refine eX_ret (vs := [.int .i64 ((-1))]) [.tmp 4] (by rfl) ⟨by (show lkE _ _ _ = _); kernel_rfl, trivial⟩ ?_
  exact ⟨rfl, hB⟩

set_option maxRecDepth 100000 in
/-- slices.ContainsFunc[[]int,int] -/
theorem c_slices_ContainsFunc_int_int_impl_Wiring_best_1_1_bint_bint64_bint64 {w0 : World} {l0 : List (Int)} {A0 : Option Addr} {cap0 : Nat} {fp0 : List Nat} {q1_0_0 : Int} {b1_0 : Nat} {l1_1_0 : List (Int)} {A1_1_0 : Option Addr} {cap1_1_0 : Nat} {fp1_1_0 : List Nat} {b1_1 : Nat} {q1_2_0 : Int} {b1_2 : Nat} {r : (Bool)} (hm : m_slices_ContainsFunc_int_int_impl_Wiring_best_1_1_bint_bint64_bint64 l0 q1_0_0 l1_1_0 q1_2_0 = some r) (F0 : Sl 1 encI w0 fp0 A0 l0) (F1_0 : Cl w0 b1_0 3 [.int .i64 (q1_0_0)]) (F1_1_0 : Sl 1 encI w0 fp1_1_0 A1_1_0 l1_1_0) (F1_1 : Cl w0 b1_1 25 [.slice A1_1_0 (l1_1_0).length cap1_1_0]) (F1_2 : Cl w0 b1_2 2 [.int .i64 (q1_2_0)]) :
  Calls Try.prog 93 #[.slice A0 (l0).length cap0, .func (.func 94) #[] #[.pointer (some ⟨b1_0, 0, none⟩), .pointer (some ⟨b1_1, 0, none⟩), .pointer (some ⟨b1_2, 0, none⟩)]] w0 fun e w' => e = .returned (.bool (r)) ∧ Chg [] w0 w' := by
 have L0 := F0.low
 have L1_0 := lt1 F1_0.lt
 have L1_1_0 := F1_1_0.low
 have L1_1 := lt1 F1_1.lt
 have L1_2 := lt1 F1_2.lt
 have hB : Chg [] w0 w0 := Chg.refl _ _
 have hZ := Nat.le_refl w0.heap.size
 unfold m_slices_ContainsFunc_int_int_impl_Wiring_best_1_1_bint_bint64_bint64 at hm
 refine enterE (N := 9) Try.func93 (by rfl) Try.ntmps93 (by simp) [(0, .slice A0 (l0).length cap0), (1, .func (.func 94) #[] #[.pointer (some ⟨b1_0, 0, none⟩), .pointer (some ⟨b1_1, 0, none⟩), .pointer (some ⟨b1_2, 0, none⟩)])] (by rfl) (by kernel_rfl) (fun a => ?_)
 refine cW_seq ?_
 refine cW_region ?_
 refine wS_pure 1 [(4, .bool (false))] (by kernel_rfl) ?_
 refine wS_end (by rfl) ?_
 refine eX_then ?_
 refine cW_seq ?_
 refine cW_region ?_
 refine wS_pure 2 [(6, .func (.func 94) #[] #[.pointer (some ⟨b1_0, 0, none⟩), .pointer (some ⟨b1_1, 0, none⟩), .pointer (some ⟨b1_2, 0, none⟩)]), (5, .slice A0 (l0).length cap0)] (by kernel_rfl) ?_
 obtain ⟨y1, hy1, hm⟩ := bindE hm
 refine wS_calls (d := 7) (f := 114) (vs := [.slice A0 (l0).length cap0, .func (.func 94) #[] #[.pointer (some ⟨b1_0, 0, none⟩), .pointer (some ⟨b1_1, 0, none⟩), .pointer (some ⟨b1_2, 0, none⟩)]]) (by kernel_rfl) ent114 (c_slices_IndexFunc_int_int_impl_Wiring_best_1_1_bint_bint64_bint64 hy1 F0 F1_0 F1_1_0 F1_1 F1_2) ?_
 rintro _ w1 ⟨rfl, hc1⟩
 replace F0 := F0.chg hc1 Dj.nil
 replace F1_0 := F1_0.chg hc1 notNil
 replace F1_1_0 := F1_1_0.chg hc1 Dj.nil
 replace F1_1 := F1_1.chg hc1 notNil
 replace F1_2 := F1_2.chg hc1 notNil
 replace hB := hB.inS hc1 inNil
 replace hZ := Nat.le_trans hZ hc1.size
 refine ⟨.int .i64 (y1), rfl, ?_⟩
 refine wS_pure 2 [(4, .bool (decide (y1 ≥ 0))), (8, .bool (decide (y1 ≥ 0)))] (by kernel_rfl) ?_
 refine wS_end (by rfl) ?_
 refine eX_then ?_
 refine cW_ret ?_
 have hq : (some (decide (y1 ≥ 0)) : Option ((Bool))) = some _ := hm
 replace hq := someE hq
 subst hq
 refine eX_ret (vs := [.bool (decide (y1 ≥ 0))]) [.tmp 4] (by rfl) ⟨by (show lkE _ _ _ = _); kernel_rfl, trivial⟩ ?_
 exact ⟨rfl, hB⟩

set_option maxHeartbeats 20000000 in
set_option maxRecDepth 100000 in
/-- impl.Wiring).best$1 -/
theorem c_impl_Wiring_best_1_bint64_bimplWiring_bimplWiring_bint64_bint64_bint64_bimplgraph_bfunc_self_body {R : (List (Int)) → (Int) → (List (List (Int))) → (List (List (Int))) → (List (Int)) → (List (Int)) → (Bool) → (Int) → (Int) → (List (List (Int))) → Option ((Int) × (Int) × (List (Int)) × (List (Int)) × (Bool))} (hR : ∀ {w0 : World} {l0_0 : List (Int)} {A0_0 : Option Addr} {cap0_0 : Nat} {fp0_0 : List Nat} {b0 : Nat} {q1_0_0 : Int} {l1_0_1 : List (List (Int))} {A1_0_1 : Option Addr} {cap1_0_1 : Nat} {fp1_0_1 : List Nat} {l1_0_2 : List (List (Int))} {A1_0_2 : Option Addr} {cap1_0_2 : Nat} {fp1_0_2 : List Nat} {l1_0_3 : List (Int)} {A1_0_3 : Option Addr} {cap1_0_3 : Nat} {fp1_0_3 : List Nat} {b1_0 : Nat} {b1 : Nat} {l2_0 : List (Int)} {A2_0 : Option Addr} {cap2_0 : Nat} {fp2_0 : List Nat} {z2_0 : Bool} {b2 : Nat} {q3_0 : Int} {b3 : Nat} {q4_0 : Int} {b4 : Nat} {l5_0 : List (List (Int))} {A5_0 : Option Addr} {cap5_0 : Nat} {fp5_0 : List Nat} {b5 : Nat} {b6 : Nat} {r : (Int) × (Int) × (List (Int)) × (List (Int)) × (Bool)} (hm : R l0_0 q1_0_0 l1_0_1 l1_0_2 l1_0_3 l2_0 z2_0 q3_0 q4_0 l5_0 = some r) (F0_0 : Ow 1 encI 2 w0 fp0_0 A0_0 cap0_0 l0_0) (F0 : Cl w0 b0 25 [.slice A0_0 (l0_0).length cap0_0]) (F1_0_1 : SlR 1 encI w0 fp1_0_1 A1_0_1 l1_0_1) (F1_0_2 : SlR 1 encI w0 fp1_0_2 A1_0_2 l1_0_2) (F1_0_3 : Sl 1 encI w0 fp1_0_3 A1_0_3 l1_0_3) (F1_0 : Cl w0 b1_0 27 [.int .i64 (q1_0_0), .slice A1_0_1 (l1_0_1).length cap1_0_1, .slice A1_0_2 (l1_0_2).length cap1_0_2, .slice A1_0_3 (l1_0_3).length cap1_0_3]) (F1 : Cl w0 b1 87 [.pointer (some ⟨b1_0, 0, none⟩)]) (F2_0 : Ow 1 encI 2 w0 fp2_0 A2_0 cap2_0 l2_0) (Z2_0 : A2_0.isNone = z2_0) (F2 : Cl w0 b2 25 [.slice A2_0 (l2_0).length cap2_0]) (F3 : Cl w0 b3 2 [.int .i64 (q3_0)]) (F4 : Cl w0 b4 2 [.int .i64 (q4_0)]) (F5_0 : SlR 1 encI w0 fp5_0 A5_0 l5_0) (F5 : Cl w0 b5 77 [.slice A5_0 (l5_0).length cap5_0]) (F6 : Cl w0 b6 1 [.func (.func 91) #[] #[.pointer (some ⟨b0, 0, none⟩), .pointer (some ⟨b1, 0, none⟩), .pointer (some ⟨b2, 0, none⟩), .pointer (some ⟨b3, 0, none⟩), .pointer (some ⟨b4, 0, none⟩), .pointer (some ⟨b5, 0, none⟩), .pointer (some ⟨b6, 0, none⟩)]]) (J0__0_0 : Dj [b0] fp0_0) (J0__1_0_1 : Dj [b0] fp1_0_1) (J0__1_0_2 : Dj [b0] fp1_0_2) (J0__1_0_3 : Dj [b0] fp1_0_3) (J0__1_0 : Dj [b0] [b1_0]) (J0__1 : Dj [b0] [b1]) (J0__2_0 : Dj [b0] fp2_0) (J0__2 : Dj [b0] [b2]) (J0__3 : Dj [b0] [b3]) (J0__4 : Dj [b0] [b4]) (J0__5_0 : Dj [b0] fp5_0) (J0__5 : Dj [b0] [b5]) (J0__6 : Dj [b0] [b6]) (J2__0_0 : Dj [b2] fp0_0) (J2__1_0_1 : Dj [b2] fp1_0_1) (J2__1_0_2 : Dj [b2] fp1_0_2) (J2__1_0_3 : Dj [b2] fp1_0_3) (J2__1_0 : Dj [b2] [b1_0]) (J2__1 : Dj [b2] [b1]) (J2__2_0 : Dj [b2] fp2_0) (J2__3 : Dj [b2] [b3]) (J2__4 : Dj [b2] [b4]) (J2__5_0 : Dj [b2] fp5_0) (J2__5 : Dj [b2] [b5]) (J2__6 : Dj [b2] [b6]) (J3__0_0 : Dj [b3] fp0_0) (J3__1_0_1 : Dj [b3] fp1_0_1) (J3__1_0_2 : Dj [b3] fp1_0_2) (J3__1_0_3 : Dj [b3] fp1_0_3) (J3__1_0 : Dj [b3] [b1_0]) (J3__1 : Dj [b3] [b1]) (J3__2_0 : Dj [b3] fp2_0) (J3__4 : Dj [b3] [b4]) (J3__5_0 : Dj [b3] fp5_0) (J3__5 : Dj [b3] [b5]) (J3__6 : Dj [b3] [b6]) (J4__0_0 : Dj [b4] fp0_0) (J4__1_0_1 : Dj [b4] fp1_0_1) (J4__1_0_2 : Dj [b4] fp1_0_2) (J4__1_0_3 : Dj [b4] fp1_0_3) (J4__1_0 : Dj [b4] [b1_0]) (J4__1 : Dj [b4] [b1]) (J4__2_0 : Dj [b4] fp2_0) (J4__5_0 : Dj [b4] fp5_0) (J4__5 : Dj [b4] [b5]) (J4__6 : Dj [b4] [b6]) (J0_0__1_0_1 : Dj fp0_0 fp1_0_1) (J0_0__1_0_2 : Dj fp0_0 fp1_0_2) (J0_0__1_0_3 : Dj fp0_0 fp1_0_3) (J0_0__1_0 : Dj fp0_0 [b1_0]) (J0_0__1 : Dj fp0_0 [b1]) (J0_0__2_0 : Dj fp0_0 fp2_0) (J0_0__5_0 : Dj fp0_0 fp5_0) (J0_0__5 : Dj fp0_0 [b5]) (J0_0__6 : Dj fp0_0 [b6]) (J2_0__1_0_1 : Dj fp2_0 fp1_0_1) (J2_0__1_0_2 : Dj fp2_0 fp1_0_2) (J2_0__1_0_3 : Dj fp2_0 fp1_0_3) (J2_0__1_0 : Dj fp2_0 [b1_0]) (J2_0__1 : Dj fp2_0 [b1]) (J2_0__5_0 : Dj fp2_0 fp5_0) (J2_0__5 : Dj fp2_0 [b5]) (J2_0__6 : Dj fp2_0 [b6]), Calls Try.prog 91 #[.pointer (some ⟨b0, 0, none⟩), .pointer (some ⟨b1, 0, none⟩), .pointer (some ⟨b2, 0, none⟩), .pointer (some ⟨b3, 0, none⟩), .pointer (some ⟨b4, 0, none⟩), .pointer (some ⟨b5, 0, none⟩), .pointer (some ⟨b6, 0, none⟩)] w0 fun e w' => ∃ At0_0 capt0_0 fpt0_0, ∃ At2_0 capt2_0 fpt2_0, e = .returned (.tuple #[]) ∧ Dj fpt0_0 fpt2_0 ∧ Cl w' b0 25 [.slice At0_0 (r.2.2.1).length capt0_0] ∧ Cl w' b2 25 [.slice At2_0 (r.2.2.2.1).length capt2_0] ∧ Cl w' b3 2 [.int .i64 (r.1)] ∧ Cl w' b4 2 [.int .i64 (r.2.1)] ∧ Ow 1 encI 2 w' fpt0_0 At0_0 capt0_0 r.2.2.1 ∧ Rt w0.heap.size fp0_0 fpt0_0 ∧ Ow 1 encI 2 w' fpt2_0 At2_0 capt2_0 r.2.2.2.1 ∧ Rt w0.heap.size fp2_0 fpt2_0 ∧ At2_0.isNone = r.2.2.2.2 ∧ Chg ([b0] ++ ([b2] ++ ([b3] ++ ([b4] ++ (fp0_0 ++ (fp2_0 ++ [])))))) w0 w') {w0 : World} {l0_0 : List (Int)} {A0_0 : Option Addr} {cap0_0 : Nat} {fp0_0 : List Nat} {b0 : Nat} {q1_0_0 : Int} {l1_0_1 : List (List (Int))} {A1_0_1 : Option Addr} {cap1_0_1 : Nat} {fp1_0_1 : List Nat} {l1_0_2 : List (List (Int))} {A1_0_2 : Option Addr} {cap1_0_2 : Nat} {fp1_0_2 : List Nat} {l1_0_3 : List (Int)} {A1_0_3 : Option Addr} {cap1_0_3 : Nat} {fp1_0_3 : List Nat} {b1_0 : Nat} {b1 : Nat} {l2_0 : List (Int)} {A2_0 : Option Addr} {cap2_0 : Nat} {fp2_0 : List Nat} {z2_0 : Bool} {b2 : Nat} {q3_0 : Int} {b3 : Nat} {q4_0 : Int} {b4 : Nat} {l5_0 : List (List (Int))} {A5_0 : Option Addr} {cap5_0 : Nat} {fp5_0 : List Nat} {b5 : Nat} {b6 : Nat} {r : (Int) × (Int) × (List (Int)) × (List (Int)) × (Bool)} (hm : m_impl_Wiring_best_1_bint64_bimplWiring_bimplWiring_bint64_bint64_bint64_bimplgraph_bfunc_self_body R l0_0 q1_0_0 l1_0_1 l1_0_2 l1_0_3 l2_0 z2_0 q3_0 q4_0 l5_0 = some r) (F0_0 : Ow 1 encI 2 w0 fp0_0 A0_0 cap0_0 l0_0) (F0 : Cl w0 b0 25 [.slice A0_0 (l0_0).length cap0_0]) (F1_0_1 : SlR 1 encI w0 fp1_0_1 A1_0_1 l1_0_1) (F1_0_2 : SlR 1 encI w0 fp1_0_2 A1_0_2 l1_0_2) (F1_0_3 : Sl 1 encI w0 fp1_0_3 A1_0_3 l1_0_3) (F1_0 : Cl w0 b1_0 27 [.int .i64 (q1_0_0), .slice A1_0_1 (l1_0_1).length cap1_0_1, .slice A1_0_2 (l1_0_2).length cap1_0_2, .slice A1_0_3 (l1_0_3).length cap1_0_3]) (F1 : Cl w0 b1 87 [.pointer (some ⟨b1_0, 0, none⟩)]) (F2_0 : Ow 1 encI 2 w0 fp2_0 A2_0 cap2_0 l2_0) (Z2_0 : A2_0.isNone = z2_0) (F2 : Cl w0 b2 25 [.slice A2_0 (l2_0).length cap2_0]) (F3 : Cl w0 b3 2 [.int .i64 (q3_0)]) (F4 : Cl w0 b4 2 [.int .i64 (q4_0)]) (F5_0 : SlR 1 encI w0 fp5_0 A5_0 l5_0) (F5 : Cl w0 b5 77 [.slice A5_0 (l5_0).length cap5_0]) (F6 : Cl w0 b6 1 [.func (.func 91) #[] #[.pointer (some ⟨b0, 0, none⟩), .pointer (some ⟨b1, 0, none⟩), .pointer (some ⟨b2, 0, none⟩), .pointer (some ⟨b3, 0, none⟩), .pointer (some ⟨b4, 0, none⟩), .pointer (some ⟨b5, 0, none⟩), .pointer (some ⟨b6, 0, none⟩)]]) (J0__0_0 : Dj [b0] fp0_0) (J0__1_0_1 : Dj [b0] fp1_0_1) (J0__1_0_2 : Dj [b0] fp1_0_2) (J0__1_0_3 : Dj [b0] fp1_0_3) (J0__1_0 : Dj [b0] [b1_0]) (J0__1 : Dj [b0] [b1]) (J0__2_0 : Dj [b0] fp2_0) (J0__2 : Dj [b0] [b2]) (J0__3 : Dj [b0] [b3]) (J0__4 : Dj [b0] [b4]) (J0__5_0 : Dj [b0] fp5_0) (J0__5 : Dj [b0] [b5]) (J0__6 : Dj [b0] [b6]) (J2__0_0 : Dj [b2] fp0_0) (J2__1_0_1 : Dj [b2] fp1_0_1) (J2__1_0_2 : Dj [b2] fp1_0_2) (J2__1_0_3 : Dj [b2] fp1_0_3) (J2__1_0 : Dj [b2] [b1_0]) (J2__1 : Dj [b2] [b1]) (J2__2_0 : Dj [b2] fp2_0) (J2__3 : Dj [b2] [b3]) (J2__4 : Dj [b2] [b4]) (J2__5_0 : Dj [b2] fp5_0) (J2__5 : Dj [b2] [b5]) (J2__6 : Dj [b2] [b6]) (J3__0_0 : Dj [b3] fp0_0) (J3__1_0_1 : Dj [b3] fp1_0_1) (J3__1_0_2 : Dj [b3] fp1_0_2) (J3__1_0_3 : Dj [b3] fp1_0_3) (J3__1_0 : Dj [b3] [b1_0]) (J3__1 : Dj [b3] [b1]) (J3__2_0 : Dj [b3] fp2_0) (J3__4 : Dj [b3] [b4]) (J3__5_0 : Dj [b3] fp5_0) (J3__5 : Dj [b3] [b5]) (J3__6 : Dj [b3] [b6]) (J4__0_0 : Dj [b4] fp0_0) (J4__1_0_1 : Dj [b4] fp1_0_1) (J4__1_0_2 : Dj [b4] fp1_0_2) (J4__1_0_3 : Dj [b4] fp1_0_3) (J4__1_0 : Dj [b4] [b1_0]) (J4__1 : Dj [b4] [b1]) (J4__2_0 : Dj [b4] fp2_0) (J4__5_0 : Dj [b4] fp5_0) (J4__5 : Dj [b4] [b5]) (J4__6 : Dj [b4] [b6]) (J0_0__1_0_1 : Dj fp0_0 fp1_0_1) (J0_0__1_0_2 : Dj fp0_0 fp1_0_2) (J0_0__1_0_3 : Dj fp0_0 fp1_0_3) (J0_0__1_0 : Dj fp0_0 [b1_0]) (J0_0__1 : Dj fp0_0 [b1]) (J0_0__2_0 : Dj fp0_0 fp2_0) (J0_0__5_0 : Dj fp0_0 fp5_0) (J0_0__5 : Dj fp0_0 [b5]) (J0_0__6 : Dj fp0_0 [b6]) (J2_0__1_0_1 : Dj fp2_0 fp1_0_1) (J2_0__1_0_2 : Dj fp2_0 fp1_0_2) (J2_0__1_0_3 : Dj fp2_0 fp1_0_3) (J2_0__1_0 : Dj fp2_0 [b1_0]) (J2_0__1 : Dj fp2_0 [b1]) (J2_0__5_0 : Dj fp2_0 fp5_0) (J2_0__5 : Dj fp2_0 [b5]) (J2_0__6 : Dj fp2_0 [b6]) :
  Calls Try.prog 91 #[.pointer (some ⟨b0, 0, none⟩), .pointer (some ⟨b1, 0, none⟩), .pointer (some ⟨b2, 0, none⟩), .pointer (some ⟨b3, 0, none⟩), .pointer (some ⟨b4, 0, none⟩), .pointer (some ⟨b5, 0, none⟩), .pointer (some ⟨b6, 0, none⟩)] w0 fun e w' => ∃ At0_0 capt0_0 fpt0_0, ∃ At2_0 capt2_0 fpt2_0, e = .returned (.tuple #[]) ∧ Dj fpt0_0 fpt2_0 ∧ Cl w' b0 25 [.slice At0_0 (r.2.2.1).length capt0_0] ∧ Cl w' b2 25 [.slice At2_0 (r.2.2.2.1).length capt2_0] ∧ Cl w' b3 2 [.int .i64 (r.1)] ∧ Cl w' b4 2 [.int .i64 (r.2.1)] ∧ Ow 1 encI 2 w' fpt0_0 At0_0 capt0_0 r.2.2.1 ∧ Rt w0.heap.size fp0_0 fpt0_0 ∧ Ow 1 encI 2 w' fpt2_0 At2_0 capt2_0 r.2.2.2.1 ∧ Rt w0.heap.size fp2_0 fpt2_0 ∧ At2_0.isNone = r.2.2.2.2 ∧ Chg ([b0] ++ ([b2] ++ ([b3] ++ ([b4] ++ (fp0_0 ++ (fp2_0 ++ [])))))) w0 w' := by
 have L0 := lt1 F0.lt
 have L1_0_1 := F1_0_1.low
 have L1_0_2 := F1_0_2.low
 have L1_0_3 := F1_0_3.low
 have L1_0 := lt1 F1_0.lt
 have L1 := lt1 F1.lt
 have L2 := lt1 F2.lt
 have L3 := lt1 F3.lt
 have L4 := lt1 F4.lt
 have L5_0 := F5_0.low
 have L5 := lt1 F5.lt
 have L6 := lt1 F6.lt
 have hB : Chg ([b0] ++ ([b2] ++ ([b3] ++ ([b4] ++ (fp0_0 ++ (fp2_0 ++ [])))))) w0 w0 := Chg.refl _ _
 have hZ := Nat.le_refl w0.heap.size
 unfold m_impl_Wiring_best_1_bint64_bimplWiring_bimplWiring_bint64_bint64_bint64_bimplgraph_bfunc_self_body at hm
 refine enterE (N := 84) Try.func91 (by rfl) Try.ntmps91 (by simp) [(0, .pointer (some ⟨b0, 0, none⟩)), (1, .pointer (some ⟨b1, 0, none⟩)), (2, .pointer (some ⟨b2, 0, none⟩)), (3, .pointer (some ⟨b3, 0, none⟩)), (4, .pointer (some ⟨b4, 0, none⟩)), (5, .pointer (some ⟨b5, 0, none⟩)), (6, .pointer (some ⟨b6, 0, none⟩))] (by rfl) (by kernel_rfl) (fun a => ?_)
 refine cW_seq ?_
 refine cW_region ?_
 refine wS_load1 (d := 11) (T := 25) (ad := ⟨b0, 0, none⟩) (v := .slice A0_0 (l0_0).length cap0_0) (by kernel_rfl) vt25 ((F0).cell 0) ?_
 refine wS_pure 1 [(12, .int .i64 (((l0_0).length : Int)))] (by kernel_rfl) ?_
 refine wS_alloc (d := 7) (T := 3) (z := .int .i64 (0)) (by kernel_rfl) (by kernel_rfl) ?_
 intro b7 w1 G1 F7 hc1
 replace F7 : Cl w1 b7 3 [.int .i64 (0)] := F7
 have D1 : Dj fp0_0 [b7] := Dj.of F0_0.low (low1 G1)
 have D2 : Dj fp2_0 [b7] := Dj.of F2_0.low (low1 G1)
 replace F0_0 := F0_0.chg hc1 Dj.nil
 replace F0 := F0.chg hc1 notNil
 replace F1_0_1 := F1_0_1.chg hc1 Dj.nil
 replace F1_0_2 := F1_0_2.chg hc1 Dj.nil
 replace F1_0_3 := F1_0_3.chg hc1 Dj.nil
 replace F1_0 := F1_0.chg hc1 notNil
 replace F1 := F1.chg hc1 notNil
 replace F2_0 := F2_0.chg hc1 Dj.nil
 replace F2 := F2.chg hc1 notNil
 replace F3 := F3.chg hc1 notNil
 replace F4 := F4.chg hc1 notNil
 replace F5_0 := F5_0.chg hc1 Dj.nil
 replace F5 := F5.chg hc1 notNil
 replace F6 := F6.chg hc1 notNil
 replace hB := hB.inS hc1 inNil
 replace G1 := Nat.le_trans hZ G1
 replace hZ := Nat.le_trans hZ hc1.size
 refine wS_store (T := 3) (g := b7) (o := 0) (ad := ⟨b7, 0, none⟩) (v := .int .i64 (((l0_0).length : Int))) (vs := [.int .i64 (((l0_0).length : Int))]) (by kernel_rfl) (by rfl) sz3 (by rfl) (by rfl) F7 (by simp only [List.length_cons, List.length_nil]; omega) ?_
 intro w2 F8 hc2
 replace F0_0 := F0_0.chg hc2 D1
 replace F0 := F0.chg hc2 (dj1 (Dj.of L0 (low1 G1)))
 replace F1_0_1 := F1_0_1.chg hc2 (Dj.of L1_0_1 (low1 G1))
 replace F1_0_2 := F1_0_2.chg hc2 (Dj.of L1_0_2 (low1 G1))
 replace F1_0_3 := F1_0_3.chg hc2 (Dj.of L1_0_3 (low1 G1))
 replace F1_0 := F1_0.chg hc2 (dj1 (Dj.of L1_0 (low1 G1)))
 replace F1 := F1.chg hc2 (dj1 (Dj.of L1 (low1 G1)))
 replace F2_0 := F2_0.chg hc2 D2
 replace F2 := F2.chg hc2 (dj1 (Dj.of L2 (low1 G1)))
 replace F3 := F3.chg hc2 (dj1 (Dj.of L3 (low1 G1)))
 replace F4 := F4.chg hc2 (dj1 (Dj.of L4 (low1 G1)))
 replace F5_0 := F5_0.chg hc2 (Dj.of L5_0 (low1 G1))
 replace F5 := F5.chg hc2 (dj1 (Dj.of L5 (low1 G1)))
 replace F6 := F6.chg hc2 (dj1 (Dj.of L6 (low1 G1)))
 replace hB := hB.inS hc2 (inLow (low1 G1))
 replace hZ := Nat.le_trans hZ hc2.size
 replace F8 : Cl w2 b7 3 [.int .i64 (((l0_0).length : Int))] := F8
 clear F7
 refine wS_end (by rfl) ?_
 refine eX_then ?_
 refine cW_seq ?_
 refine cW_seq ?_
 refine cW_drawnTail [] 5 (by kernel_rfl) (by kernel_rfl) (fun w3 hc3 => ?_)
 replace F0_0 := F0_0.chg hc3 Dj.nil
 replace F0 := F0.chg hc3 notNil
 replace F1_0_1 := F1_0_1.chg hc3 Dj.nil
 replace F1_0_2 := F1_0_2.chg hc3 Dj.nil
 replace F1_0_3 := F1_0_3.chg hc3 Dj.nil
 replace F1_0 := F1_0.chg hc3 notNil
 replace F1 := F1.chg hc3 notNil
 replace F2_0 := F2_0.chg hc3 Dj.nil
 replace F2 := F2.chg hc3 notNil
 replace F3 := F3.chg hc3 notNil
 replace F4 := F4.chg hc3 notNil
 replace F5_0 := F5_0.chg hc3 Dj.nil
 replace F5 := F5.chg hc3 notNil
 replace F6 := F6.chg hc3 notNil
 replace F8 := F8.chg hc3 notNil
 replace hB := hB.inS hc3 inNil
 replace hZ := Nat.le_trans hZ hc3.size
 have hS := Chg.refl [] w3
 have Z1 := F0_0
 have Z2 := F0
 have Z3 := F1_0_1
 have Z4 := F1_0_2
 have Z5 := F1_0_3
 have Z6 := F1_0
 have Z7 := F1
 have Z8 := F2_0
 have Z9 := F2
 have Z10 := F3
 have Z11 := F4
 have Z12 := F5_0
 have Z13 := F5
 have Z14 := F6
 have Z15 := F8
 refine wH_load1 (i := 0) (d := 13) (T := 3) (ad := ⟨b7, 0, none⟩) (v := .int .i64 (((l0_0).length : Int))) (by kernel_rfl) (qT (qT (qT qZ))) (by kernel_rfl) (by kernel_rfl) vt3 (fun W hW => (Z15.chg hW notNil).cell 0) ?_
 refine wH_load1 (i := 1) (d := 14) (T := 87) (ad := ⟨b1, 0, none⟩) (v := .pointer (some ⟨b1_0, 0, none⟩)) (by kernel_rfl) (qT (qT (qT qZ))) (by kernel_rfl) (by kernel_rfl) vt87 (fun W hW => (Z7.chg hW notNil).cell 0) ?_
 refine wH_take [2, 3] [3, 2, 1, 0] [(16, .pointer (some ⟨b1_0, 0, none⟩)), (15, .pointer (some ⟨b1_0, 0, none⟩))] (by kernel_rfl) (qT (qT (qT qZ))) (by kernel_rfl) ?_
 refine wH_load1 (i := 4) (d := 17) (T := 2) (ad := ⟨b1_0, 0, none⟩) (v := .int .i64 (q1_0_0)) (by kernel_rfl) (qT (qT (qT qZ))) (by kernel_rfl) (by kernel_rfl) vt2 (fun W hW => (Z6.chg hW notNil).cell 0) ?_
 refine wH_done (by kernel_rfl) ?_
 refine eX_tail ?_
 refine wS_pure 1 [(18, .bool ((((l0_0).length : Int)) == q1_0_0))] (by kernel_rfl) ?_
 refine wS_end (by rfl) ?_
 refine eX_then ?_
 refine cW_cond (t := (((l0_0).length : Int)) == q1_0_0) (by kernel_rfl) (fun hb1 => ?_) (fun hb1 => ?_)
 ·have hm := condT hb1 hm
  refine cW_seq ?_
  refine cW_seq ?_
  refine cW_region ?_
  refine wS_load1 (d := 19) (T := 87) (ad := ⟨b1, 0, none⟩) (v := .pointer (some ⟨b1_0, 0, none⟩)) (by kernel_rfl) vt87 ((F1).cell 0) ?_
  refine wS_load1 (d := 20) (T := 25) (ad := ⟨b0, 0, none⟩) (v := .slice A0_0 (l0_0).length cap0_0) (by kernel_rfl) vt25 ((F0).cell 0) ?_
  obtain ⟨y1, hy1, hm⟩ := bindE hm
  refine wS_calls (d := 21) (f := 92) (vs := [.pointer (some ⟨b1_0, 0, none⟩), .slice A0_0 (l0_0).length cap0_0]) (by kernel_rfl) ent92 (c_impl_Wiring_cost_bimplWiring hy1 F1_0_1 F1_0_2 F1_0_3 F1_0 (F0_0.sl encI_ok)) ?_
  rintro _ w4 ⟨rfl, hc4⟩
  replace F0_0 := F0_0.chg hc4 Dj.nil
  replace F0 := F0.chg hc4 notNil
  replace F1_0_1 := F1_0_1.chg hc4 Dj.nil
  replace F1_0_2 := F1_0_2.chg hc4 Dj.nil
  replace F1_0_3 := F1_0_3.chg hc4 Dj.nil
  replace F1_0 := F1_0.chg hc4 notNil
  replace F1 := F1.chg hc4 notNil
  replace F2_0 := F2_0.chg hc4 Dj.nil
  replace F2 := F2.chg hc4 notNil
  replace F3 := F3.chg hc4 notNil
  replace F4 := F4.chg hc4 notNil
  replace F5_0 := F5_0.chg hc4 Dj.nil
  replace F5 := F5.chg hc4 notNil
  replace F6 := F6.chg hc4 notNil
  replace F8 := F8.chg hc4 notNil
  replace hB := hB.inS hc4 inNil
  replace hZ := Nat.le_trans hZ hc4.size
  refine ⟨.int .i64 (y1), rfl, ?_⟩
  refine wS_pure 1 [(8, .int .i64 (y1))] (by kernel_rfl) ?_
  refine wS_end (by rfl) ?_
  refine eX_then ?_
  refine cW_block ?_
  obtain ⟨s1, hs1, hm⟩ := bindE hm
  refine cW_cut (fun a' w' => ∃ x1 : Int, ∃ x2 : Int, ∃ l1 : List (Int), ∃ A1 : Option Addr, ∃ cap1 : Nat, ∃ fp1 : List Nat, ∃ z1 : Bool, (x1, x2, l1, z1) = s1 ∧ Fr 84 [] a' ∧ Ow 1 encI 2 w' fp0_0 A0_0 cap0_0 l0_0 ∧ Cl w' b0 25 [.slice A0_0 (l0_0).length cap0_0] ∧ Cl w' b2 25 [.slice A1 (l1).length cap1] ∧ Cl w' b3 2 [.int .i64 (x1)] ∧ Cl w' b4 2 [.int .i64 (x2)] ∧ Ow 1 encI 2 w' fp1 A1 cap1 l1 ∧ (A1).isNone = z1 ∧ Rt w0.heap.size fp2_0 fp1 ∧ Dj fp0_0 fp1 ∧ Dj [b0] fp1 ∧ Dj [b2] fp1 ∧ Dj [b3] fp1 ∧ Dj [b4] fp1 ∧ Chg ([b0] ++ ([b2] ++ ([b3] ++ ([b4] ++ (fp0_0 ++ (fp2_0 ++ [])))))) w0 w' ∧ w0.heap.size ≤ w'.heap.size) ?_ ?_
  ·have hm := hs1
   refine cW_seq ?_
   refine cW_region ?_
   refine wS_load1 (d := 23) (T := 25) (ad := ⟨b2, 0, none⟩) (v := .slice A2_0 (l2_0).length cap2_0) (by kernel_rfl) vt25 ((F2).cell 0) ?_
   refine wS_pure 1 [(24, .bool (z2_0))] (by rw [← Z2_0]; rcases A2_0 with _ | _ <;> kernel_rfl) ?_
   refine wS_pure 1 [(25, .bool (z2_0))] (by kernel_rfl) ?_
   refine wS_bool z2_0 (fun hb2 => ?_) (fun hb2 => ?_)
   ·have hm := condT hb2 hm
    rewrite [hb2]
    refine wS_pure 5 [(22, .bool (true)), (29, .bool (true)), (28, undef), (27, undef), (26, undef)] (by kernel_rfl) ?_
    refine wS_end (by rfl) ?_
    refine eX_then ?_
    refine cW_prune [(0, .pointer (some ⟨b0, 0, none⟩)), (2, .pointer (some ⟨b2, 0, none⟩)), (3, .pointer (some ⟨b3, 0, none⟩)), (4, .pointer (some ⟨b4, 0, none⟩)), (8, .int .i64 (y1)), (22, .bool (true))] (by kernel_rfl) (by kernel_rfl) (fun a1 => ?_)
    refine cW_cond_t (by kernel_rfl) ?_
    refine cW_region ?_
    refine wS_bs0 (α := Int) (enc := encI) (d := 30) (t := 25) (T := 2) (by kernel_rfl) el25 ?_
    intro b8 w5 G2 F9 hc5
    have D3 : Dj fp0_0 [b8] := Dj.of F0_0.low (low1 G2)
    have D4 : Dj fp2_0 [b8] := Dj.of F2_0.low (low1 G2)
    have D5 : Dj [b7] [b8] := Dj.of (lt1 F8.lt) (low1 G2)
    replace F0_0 := F0_0.chg hc5 Dj.nil
    replace F0 := F0.chg hc5 notNil
    replace F1_0_1 := F1_0_1.chg hc5 Dj.nil
    replace F1_0_2 := F1_0_2.chg hc5 Dj.nil
    replace F1_0_3 := F1_0_3.chg hc5 Dj.nil
    replace F1_0 := F1_0.chg hc5 notNil
    replace F1 := F1.chg hc5 notNil
    replace F2_0 := F2_0.chg hc5 Dj.nil
    replace F2 := F2.chg hc5 notNil
    replace F3 := F3.chg hc5 notNil
    replace F4 := F4.chg hc5 notNil
    replace F5_0 := F5_0.chg hc5 Dj.nil
    replace F5 := F5.chg hc5 notNil
    replace F6 := F6.chg hc5 notNil
    replace F8 := F8.chg hc5 notNil
    replace hB := hB.inS hc5 inNil
    replace G2 := Nat.le_trans hZ G2
    replace G2 := low1 G2
    replace hZ := Nat.le_trans hZ hc5.size
    refine wS_load1 (d := 31) (T := 25) (ad := ⟨b0, 0, none⟩) (v := .slice A0_0 (l0_0).length cap0_0) (by kernel_rfl) vt25 ((F0).cell 0) ?_
    obtain ⟨_, hk1, hm⟩ := bindE hm
    replace hk1 := apE hk1
    refine wS_appendSome (enc := encI) (l := (([] : List (Int)) : List (Int))) (l2 := (l0_0 : List (Int))) (d := 32) (t := 25) (T := 2) (A := (some ⟨b8, 0, none⟩)) (A2 := A0_0) (cap := 0) (cap2 := cap0_0) (by kernel_rfl) el25 encI_ok F9 (F0_0.sl encI_ok) rfl hk1 ?_
    intro w6 fp2 A3 cap3 F10 hc6 hp1 hzn1
    have G3 := low_ap G2 hZ hp1
    have D6 : Dj fp0_0 fp2 := Dj.ap D3 F0_0.low hp1
    have D7 : Dj fp2_0 fp2 := Dj.ap D4 F2_0.low hp1
    have D8 : Dj [b7] fp2 := Dj.ap D5 (lt1 F8.lt) hp1
    replace F0_0 := F0_0.chg hc6 D3
    replace F0 := F0.chg hc6 (dj1 (Dj.of L0 G2))
    replace F1_0_1 := F1_0_1.chg hc6 (Dj.of L1_0_1 G2)
    replace F1_0_2 := F1_0_2.chg hc6 (Dj.of L1_0_2 G2)
    replace F1_0_3 := F1_0_3.chg hc6 (Dj.of L1_0_3 G2)
    replace F1_0 := F1_0.chg hc6 (dj1 (Dj.of L1_0 G2))
    replace F1 := F1.chg hc6 (dj1 (Dj.of L1 G2))
    replace F2_0 := F2_0.chg hc6 D4
    replace F2 := F2.chg hc6 (dj1 (Dj.of L2 G2))
    replace F3 := F3.chg hc6 (dj1 (Dj.of L3 G2))
    replace F4 := F4.chg hc6 (dj1 (Dj.of L4 G2))
    replace F5_0 := F5_0.chg hc6 (Dj.of L5_0 G2)
    replace F5 := F5.chg hc6 (dj1 (Dj.of L5 G2))
    replace F6 := F6.chg hc6 (dj1 (Dj.of L6 G2))
    replace F8 := F8.chg hc6 (dj1 D5)
    replace hB := hB.inS hc6 (inLow G2)
    replace hZ := Nat.le_trans hZ hc6.size
    refine wS_pure 1 [(33, .int .i64 (y1))] (by kernel_rfl) ?_
    refine wS_store (T := 25) (g := b2) (o := 0) (ad := ⟨b2, 0, none⟩) (v := .slice A3 ((([] : List (Int))) ++ l0_0).length cap3) (vs := [.slice A3 ((([] : List (Int))) ++ l0_0).length cap3]) (by kernel_rfl) (by rfl) sz25 (by rfl) (by rfl) F2 (by simp only [List.length_cons, List.length_nil]; omega) ?_
    intro w7 F11 hc7
    replace F0_0 := F0_0.chg hc7 (J2__0_0).symm
    replace F0 := F0.chg hc7 (dj1 J0__2)
    replace F1_0_1 := F1_0_1.chg hc7 (J2__1_0_1).symm
    replace F1_0_2 := F1_0_2.chg hc7 (J2__1_0_2).symm
    replace F1_0_3 := F1_0_3.chg hc7 (J2__1_0_3).symm
    replace F1_0 := F1_0.chg hc7 (dj1 (J2__1_0).symm)
    replace F1 := F1.chg hc7 (dj1 (J2__1).symm)
    replace F2_0 := F2_0.chg hc7 (J2__2_0).symm
    replace F3 := F3.chg hc7 (dj1 (J2__3).symm)
    replace F4 := F4.chg hc7 (dj1 (J2__4).symm)
    replace F5_0 := F5_0.chg hc7 (J2__5_0).symm
    replace F5 := F5.chg hc7 (dj1 (J2__5).symm)
    replace F6 := F6.chg hc7 (dj1 (J2__6).symm)
    replace F8 := F8.chg hc7 (dj1 (Dj.of L2 (low1 G1)).symm)
    replace F10 := F10.chg hc7 (Dj.of L2 G3).symm
    replace hB := hB.inS hc7 (inMem (fun x hx => (List.mem_append_right _ (List.mem_append_left _ hx))))
    replace hZ := Nat.le_trans hZ hc7.size
    replace F11 : Cl w7 b2 25 [.slice A3 ((([] : List (Int))) ++ l0_0).length cap3] := F11
    clear F2
    refine wS_store (T := 2) (g := b3) (o := 0) (ad := ⟨b3, 0, none⟩) (v := .int .i64 (y1)) (vs := [.int .i64 (y1)]) (by kernel_rfl) (by rfl) sz2 (by rfl) (by rfl) F3 (by simp only [List.length_cons, List.length_nil]; omega) ?_
    intro w8 F12 hc8
    replace F0_0 := F0_0.chg hc8 (J3__0_0).symm
    replace F0 := F0.chg hc8 (dj1 J0__3)
    replace F1_0_1 := F1_0_1.chg hc8 (J3__1_0_1).symm
    replace F1_0_2 := F1_0_2.chg hc8 (J3__1_0_2).symm
    replace F1_0_3 := F1_0_3.chg hc8 (J3__1_0_3).symm
    replace F1_0 := F1_0.chg hc8 (dj1 (J3__1_0).symm)
    replace F1 := F1.chg hc8 (dj1 (J3__1).symm)
    replace F2_0 := F2_0.chg hc8 (J3__2_0).symm
    replace F11 := F11.chg hc8 (dj1 J2__3)
    replace F4 := F4.chg hc8 (dj1 (J3__4).symm)
    replace F5_0 := F5_0.chg hc8 (J3__5_0).symm
    replace F5 := F5.chg hc8 (dj1 (J3__5).symm)
    replace F6 := F6.chg hc8 (dj1 (J3__6).symm)
    replace F8 := F8.chg hc8 (dj1 (Dj.of L3 (low1 G1)).symm)
    replace F10 := F10.chg hc8 (Dj.of L3 G3).symm
    replace hB := hB.inS hc8 (inMem (fun x hx => (List.mem_append_right _ (List.mem_append_right _ (List.mem_append_left _ hx)))))
    replace hZ := Nat.le_trans hZ hc8.size
    replace F12 : Cl w8 b3 2 [.int .i64 (y1)] := F12
    clear F3
    refine wS_store (T := 2) (g := b4) (o := 0) (ad := ⟨b4, 0, none⟩) (v := .int .i64 (1)) (vs := [.int .i64 (1)]) (by kernel_rfl) (by rfl) sz2 (by rfl) (by rfl) F4 (by simp only [List.length_cons, List.length_nil]; omega) ?_
    intro w9 F13 hc9
    replace F0_0 := F0_0.chg hc9 (J4__0_0).symm
    replace F0 := F0.chg hc9 (dj1 J0__4)
    replace F1_0_1 := F1_0_1.chg hc9 (J4__1_0_1).symm
    replace F1_0_2 := F1_0_2.chg hc9 (J4__1_0_2).symm
    replace F1_0_3 := F1_0_3.chg hc9 (J4__1_0_3).symm
    replace F1_0 := F1_0.chg hc9 (dj1 (J4__1_0).symm)
    replace F1 := F1.chg hc9 (dj1 (J4__1).symm)
    replace F2_0 := F2_0.chg hc9 (J4__2_0).symm
    replace F11 := F11.chg hc9 (dj1 J2__4)
    replace F12 := F12.chg hc9 (dj1 J3__4)
    replace F5_0 := F5_0.chg hc9 (J4__5_0).symm
    replace F5 := F5.chg hc9 (dj1 (J4__5).symm)
    replace F6 := F6.chg hc9 (dj1 (J4__6).symm)
    replace F8 := F8.chg hc9 (dj1 (Dj.of L4 (low1 G1)).symm)
    replace F10 := F10.chg hc9 (Dj.of L4 G3).symm
    replace hB := hB.inS hc9 (inMem (fun x hx => (List.mem_append_right _ (List.mem_append_right _ (List.mem_append_right _ (List.mem_append_left _ hx))))))
    replace hZ := Nat.le_trans hZ hc9.size
    replace F13 : Cl w9 b4 2 [.int .i64 (1)] := F13
    clear F4
    refine wS_end (by rfl) ?_
    have hq : (some ((y1, 1, (([] : List (Int))) ++ l0_0, false)) : Option (Int × Int × (List (Int)) × Bool)) = some _ := hm
    replace hq := someE hq
    subst hq
    exact eX_J (fun hst => ⟨y1, 1, (([] : List (Int))) ++ l0_0, A3, cap3, fp2, false, rfl, Fr.of hst (by kernel_rfl), F0_0, F0, F11, F12, F13, F10, hzn1, (Rt.low G3), D6, (Dj.of L0 G3), (Dj.of L2 G3), (Dj.of L3 G3), (Dj.of L4 G3), hB, hZ⟩)
   ·have hm := condF hb2 hm
    rewrite [hb2]
    refine wS_pure 1 [(26, .int .i64 (y1))] (by kernel_rfl) ?_
    refine wS_load1 (d := 27) (T := 2) (ad := ⟨b3, 0, none⟩) (v := .int .i64 (q3_0)) (by kernel_rfl) vt2 ((F3).cell 0) ?_
    refine wS_pure 3 [(22, .bool (decide (y1 < q3_0))), (29, .bool (decide (y1 < q3_0))), (28, .bool (decide (y1 < q3_0)))] (by kernel_rfl) ?_
    refine wS_end (by rfl) ?_
    refine eX_then ?_
    refine cW_prune [(0, .pointer (some ⟨b0, 0, none⟩)), (2, .pointer (some ⟨b2, 0, none⟩)), (3, .pointer (some ⟨b3, 0, none⟩)), (4, .pointer (some ⟨b4, 0, none⟩)), (8, .int .i64 (y1)), (22, .bool (decide (y1 < q3_0)))] (by kernel_rfl) (by kernel_rfl) (fun a2 => ?_)
    refine cW_cond (t := decide (y1 < q3_0)) (by kernel_rfl) (fun hb3 => ?_) (fun hb3 => ?_)
    ·have hm := condT hb3 hm
     refine cW_region ?_
     refine wS_bs0 (α := Int) (enc := encI) (d := 30) (t := 25) (T := 2) (by kernel_rfl) el25 ?_
     intro b9 w10 G4 F14 hc10
     have D9 : Dj fp0_0 [b9] := Dj.of F0_0.low (low1 G4)
     have D10 : Dj fp2_0 [b9] := Dj.of F2_0.low (low1 G4)
     have D11 : Dj [b7] [b9] := Dj.of (lt1 F8.lt) (low1 G4)
     replace F0_0 := F0_0.chg hc10 Dj.nil
     replace F0 := F0.chg hc10 notNil
     replace F1_0_1 := F1_0_1.chg hc10 Dj.nil
     replace F1_0_2 := F1_0_2.chg hc10 Dj.nil
     replace F1_0_3 := F1_0_3.chg hc10 Dj.nil
     replace F1_0 := F1_0.chg hc10 notNil
     replace F1 := F1.chg hc10 notNil
     replace F2_0 := F2_0.chg hc10 Dj.nil
     replace F2 := F2.chg hc10 notNil
     replace F3 := F3.chg hc10 notNil
     replace F4 := F4.chg hc10 notNil
     replace F5_0 := F5_0.chg hc10 Dj.nil
     replace F5 := F5.chg hc10 notNil
     replace F6 := F6.chg hc10 notNil
     replace F8 := F8.chg hc10 notNil
     replace hB := hB.inS hc10 inNil
     replace G4 := Nat.le_trans hZ G4
     replace G4 := low1 G4
     replace hZ := Nat.le_trans hZ hc10.size
     refine wS_load1 (d := 31) (T := 25) (ad := ⟨b0, 0, none⟩) (v := .slice A0_0 (l0_0).length cap0_0) (by kernel_rfl) vt25 ((F0).cell 0) ?_
     obtain ⟨_, hk2, hm⟩ := bindE hm
     replace hk2 := apE hk2
     refine wS_appendSome (enc := encI) (l := (([] : List (Int)) : List (Int))) (l2 := (l0_0 : List (Int))) (d := 32) (t := 25) (T := 2) (A := (some ⟨b9, 0, none⟩)) (A2 := A0_0) (cap := 0) (cap2 := cap0_0) (by kernel_rfl) el25 encI_ok F14 (F0_0.sl encI_ok) rfl hk2 ?_
     intro w11 fp3 A4 cap4 F15 hc11 hp2 hzn2
     have G5 := low_ap G4 hZ hp2
     have D12 : Dj fp0_0 fp3 := Dj.ap D9 F0_0.low hp2
     have D13 : Dj fp2_0 fp3 := Dj.ap D10 F2_0.low hp2
     have D14 : Dj [b7] fp3 := Dj.ap D11 (lt1 F8.lt) hp2
     replace F0_0 := F0_0.chg hc11 D9
     replace F0 := F0.chg hc11 (dj1 (Dj.of L0 G4))
     replace F1_0_1 := F1_0_1.chg hc11 (Dj.of L1_0_1 G4)
     replace F1_0_2 := F1_0_2.chg hc11 (Dj.of L1_0_2 G4)
     replace F1_0_3 := F1_0_3.chg hc11 (Dj.of L1_0_3 G4)
     replace F1_0 := F1_0.chg hc11 (dj1 (Dj.of L1_0 G4))
     replace F1 := F1.chg hc11 (dj1 (Dj.of L1 G4))
     replace F2_0 := F2_0.chg hc11 D10
     replace F2 := F2.chg hc11 (dj1 (Dj.of L2 G4))
     replace F3 := F3.chg hc11 (dj1 (Dj.of L3 G4))
     replace F4 := F4.chg hc11 (dj1 (Dj.of L4 G4))
     replace F5_0 := F5_0.chg hc11 (Dj.of L5_0 G4)
     replace F5 := F5.chg hc11 (dj1 (Dj.of L5 G4))
     replace F6 := F6.chg hc11 (dj1 (Dj.of L6 G4))
     replace F8 := F8.chg hc11 (dj1 D11)
     replace hB := hB.inS hc11 (inLow G4)
     replace hZ := Nat.le_trans hZ hc11.size
     refine wS_pure 1 [(33, .int .i64 (y1))] (by kernel_rfl) ?_
     refine wS_store (T := 25) (g := b2) (o := 0) (ad := ⟨b2, 0, none⟩) (v := .slice A4 ((([] : List (Int))) ++ l0_0).length cap4) (vs := [.slice A4 ((([] : List (Int))) ++ l0_0).length cap4]) (by kernel_rfl) (by rfl) sz25 (by rfl) (by rfl) F2 (by simp only [List.length_cons, List.length_nil]; omega) ?_
     intro w12 F16 hc12
     replace F0_0 := F0_0.chg hc12 (J2__0_0).symm
     replace F0 := F0.chg hc12 (dj1 J0__2)
     replace F1_0_1 := F1_0_1.chg hc12 (J2__1_0_1).symm
     replace F1_0_2 := F1_0_2.chg hc12 (J2__1_0_2).symm
     replace F1_0_3 := F1_0_3.chg hc12 (J2__1_0_3).symm
     replace F1_0 := F1_0.chg hc12 (dj1 (J2__1_0).symm)
     replace F1 := F1.chg hc12 (dj1 (J2__1).symm)
     replace F2_0 := F2_0.chg hc12 (J2__2_0).symm
     replace F3 := F3.chg hc12 (dj1 (J2__3).symm)
     replace F4 := F4.chg hc12 (dj1 (J2__4).symm)
     replace F5_0 := F5_0.chg hc12 (J2__5_0).symm
     replace F5 := F5.chg hc12 (dj1 (J2__5).symm)
     replace F6 := F6.chg hc12 (dj1 (J2__6).symm)
     replace F8 := F8.chg hc12 (dj1 (Dj.of L2 (low1 G1)).symm)
     replace F15 := F15.chg hc12 (Dj.of L2 G5).symm
     replace hB := hB.inS hc12 (inMem (fun x hx => (List.mem_append_right _ (List.mem_append_left _ hx))))
     replace hZ := Nat.le_trans hZ hc12.size
     replace F16 : Cl w12 b2 25 [.slice A4 ((([] : List (Int))) ++ l0_0).length cap4] := F16
     clear F2
     refine wS_store (T := 2) (g := b3) (o := 0) (ad := ⟨b3, 0, none⟩) (v := .int .i64 (y1)) (vs := [.int .i64 (y1)]) (by kernel_rfl) (by rfl) sz2 (by rfl) (by rfl) F3 (by simp only [List.length_cons, List.length_nil]; omega) ?_
     intro w13 F17 hc13
     replace F0_0 := F0_0.chg hc13 (J3__0_0).symm
     replace F0 := F0.chg hc13 (dj1 J0__3)
     replace F1_0_1 := F1_0_1.chg hc13 (J3__1_0_1).symm
     replace F1_0_2 := F1_0_2.chg hc13 (J3__1_0_2).symm
     replace F1_0_3 := F1_0_3.chg hc13 (J3__1_0_3).symm
     replace F1_0 := F1_0.chg hc13 (dj1 (J3__1_0).symm)
     replace F1 := F1.chg hc13 (dj1 (J3__1).symm)
     replace F2_0 := F2_0.chg hc13 (J3__2_0).symm
     replace F16 := F16.chg hc13 (dj1 J2__3)
     replace F4 := F4.chg hc13 (dj1 (J3__4).symm)
     replace F5_0 := F5_0.chg hc13 (J3__5_0).symm
     replace F5 := F5.chg hc13 (dj1 (J3__5).symm)
     replace F6 := F6.chg hc13 (dj1 (J3__6).symm)
     replace F8 := F8.chg hc13 (dj1 (Dj.of L3 (low1 G1)).symm)
     replace F15 := F15.chg hc13 (Dj.of L3 G5).symm
     replace hB := hB.inS hc13 (inMem (fun x hx => (List.mem_append_right _ (List.mem_append_right _ (List.mem_append_left _ hx)))))
     replace hZ := Nat.le_trans hZ hc13.size
     replace F17 : Cl w13 b3 2 [.int .i64 (y1)] := F17
     clear F3
     refine wS_store (T := 2) (g := b4) (o := 0) (ad := ⟨b4, 0, none⟩) (v := .int .i64 (1)) (vs := [.int .i64 (1)]) (by kernel_rfl) (by rfl) sz2 (by rfl) (by rfl) F4 (by simp only [List.length_cons, List.length_nil]; omega) ?_
     intro w14 F18 hc14
     replace F0_0 := F0_0.chg hc14 (J4__0_0).symm
     replace F0 := F0.chg hc14 (dj1 J0__4)
     replace F1_0_1 := F1_0_1.chg hc14 (J4__1_0_1).symm
     replace F1_0_2 := F1_0_2.chg hc14 (J4__1_0_2).symm
     replace F1_0_3 := F1_0_3.chg hc14 (J4__1_0_3).symm
     replace F1_0 := F1_0.chg hc14 (dj1 (J4__1_0).symm)
     replace F1 := F1.chg hc14 (dj1 (J4__1).symm)
     replace F2_0 := F2_0.chg hc14 (J4__2_0).symm
     replace F16 := F16.chg hc14 (dj1 J2__4)
     replace F17 := F17.chg hc14 (dj1 J3__4)
     replace F5_0 := F5_0.chg hc14 (J4__5_0).symm
     replace F5 := F5.chg hc14 (dj1 (J4__5).symm)
     replace F6 := F6.chg hc14 (dj1 (J4__6).symm)
     replace F8 := F8.chg hc14 (dj1 (Dj.of L4 (low1 G1)).symm)
     replace F15 := F15.chg hc14 (Dj.of L4 G5).symm
     replace hB := hB.inS hc14 (inMem (fun x hx => (List.mem_append_right _ (List.mem_append_right _ (List.mem_append_right _ (List.mem_append_left _ hx))))))
     replace hZ := Nat.le_trans hZ hc14.size
     replace F18 : Cl w14 b4 2 [.int .i64 (1)] := F18
     clear F4
     refine wS_end (by rfl) ?_
     have hq : (some ((y1, 1, (([] : List (Int))) ++ l0_0, false)) : Option (Int × Int × (List (Int)) × Bool)) = some _ := hm
     replace hq := someE hq
     subst hq
     exact eX_J (fun hst => ⟨y1, 1, (([] : List (Int))) ++ l0_0, A4, cap4, fp3, false, rfl, Fr.of hst (by kernel_rfl), F0_0, F0, F16, F17, F18, F15, hzn2, (Rt.low G5), D12, (Dj.of L0 G5), (Dj.of L2 G5), (Dj.of L3 G5), (Dj.of L4 G5), hB, hZ⟩)
    ·have hm := condF hb3 hm
     refine cW_seq ?_
     refine cW_region ?_
     refine wS_pure 1 [(35, .int .i64 (y1))] (by kernel_rfl) ?_
     refine wS_load1 (d := 36) (T := 2) (ad := ⟨b3, 0, none⟩) (v := .int .i64 (q3_0)) (by kernel_rfl) vt2 ((F3).cell 0) ?_
     refine wS_pure 2 [(34, .bool (y1 == q3_0)), (37, .bool (y1 == q3_0))] (by kernel_rfl) ?_
     refine wS_end (by rfl) ?_
     refine eX_then ?_
     refine cW_cond (t := y1 == q3_0) (by kernel_rfl) (fun hb4 => ?_) (fun hb4 => ?_)
     ·have hm := condT hb4 hm
      refine cW_region ?_
      refine wS_load1 (d := 38) (T := 2) (ad := ⟨b4, 0, none⟩) (v := .int .i64 (q4_0)) (by kernel_rfl) vt2 ((F4).cell 0) ?_
      refine wS_pure 1 [(39, .int .i64 (wr (q4_0 + 1)))] (by kernel_rfl) ?_
      refine wS_store (T := 2) (g := b4) (o := 0) (ad := ⟨b4, 0, none⟩) (v := .int .i64 (wr (q4_0 + 1))) (vs := [.int .i64 (wr (q4_0 + 1))]) (by kernel_rfl) (by rfl) sz2 (by rfl) (by rfl) F4 (by simp only [List.length_cons, List.length_nil]; omega) ?_
      intro w15 F19 hc15
      replace F0_0 := F0_0.chg hc15 (J4__0_0).symm
      replace F0 := F0.chg hc15 (dj1 J0__4)
      replace F1_0_1 := F1_0_1.chg hc15 (J4__1_0_1).symm
      replace F1_0_2 := F1_0_2.chg hc15 (J4__1_0_2).symm
      replace F1_0_3 := F1_0_3.chg hc15 (J4__1_0_3).symm
      replace F1_0 := F1_0.chg hc15 (dj1 (J4__1_0).symm)
      replace F1 := F1.chg hc15 (dj1 (J4__1).symm)
      replace F2_0 := F2_0.chg hc15 (J4__2_0).symm
      replace F2 := F2.chg hc15 (dj1 J2__4)
      replace F3 := F3.chg hc15 (dj1 J3__4)
      replace F5_0 := F5_0.chg hc15 (J4__5_0).symm
      replace F5 := F5.chg hc15 (dj1 (J4__5).symm)
      replace F6 := F6.chg hc15 (dj1 (J4__6).symm)
      replace F8 := F8.chg hc15 (dj1 (Dj.of L4 (low1 G1)).symm)
      replace hB := hB.inS hc15 (inMem (fun x hx => (List.mem_append_right _ (List.mem_append_right _ (List.mem_append_right _ (List.mem_append_left _ hx))))))
      replace hZ := Nat.le_trans hZ hc15.size
      replace F19 : Cl w15 b4 2 [.int .i64 (wr (q4_0 + 1))] := F19
      clear F4
      refine wS_end (by rfl) ?_
      have hq : (some ((q3_0, wr (q4_0 + 1), l2_0, z2_0)) : Option (Int × Int × (List (Int)) × Bool)) = some _ := hm
      replace hq := someE hq
      subst hq
      exact eX_J (fun hst => ⟨q3_0, wr (q4_0 + 1), l2_0, A2_0, cap2_0, fp2_0, z2_0, rfl, Fr.of hst (by kernel_rfl), F0_0, F0, F2, F3, F19, F2_0, Z2_0, Rt.refl, J0_0__2_0, J0__2_0, J2__2_0, J3__2_0, J4__2_0, hB, hZ⟩)
     ·have hm := condF hb4 hm
      refine cW_skip ?_
      have hq : (some ((q3_0, q4_0, l2_0, z2_0)) : Option (Int × Int × (List (Int)) × Bool)) = some _ := hm
      replace hq := someE hq
      subst hq
      exact eX_J (fun hst => ⟨q3_0, q4_0, l2_0, A2_0, cap2_0, fp2_0, z2_0, rfl, Fr.of hst (by kernel_rfl), F0_0, F0, F2, F3, F4, F2_0, Z2_0, Rt.refl, J0_0__2_0, J0__2_0, J2__2_0, J3__2_0, J4__2_0, hB, hZ⟩)
  ·rintro a' w16 ⟨x1, x2, l1, A1, cap1, fp1, z1, hJ, hF1, F20, F21, F22, F23, F24, F25, hz1, hap1, D15, D16, D17, D18, D19, hB, hZ⟩
   subst hJ
   refine Fr.goX hF1 (by kernel_rfl) ?_
   refine eX_block ?_
   refine eX_then ?_
   refine cW_ret ?_
   refine eX_then_ret ?_
   have hq : (some ((x1, x2, l0_0, l1, z1)) : Option ((Int) × (Int) × (List (Int)) × (List (Int)) × (Bool))) = some _ := hm
   replace hq := someE hq
   subst hq
   refine eX_ret (vs := []) [] (by rfl) trivial ?_
   exact ⟨A0_0, cap0_0, fp0_0, A1, cap1, fp1, rfl, D15, F21, F22, F23, F24, F20, Rt.refl, F25, hap1, hz1, hB⟩
 ·have hm := condF hb1 hm
  refine cW_skip ?_
  refine eX_then ?_
  refine cW_seq ?_
  refine cW_region ?_
  refine wS_alloc (d := 9) (T := 2) (z := .int .i64 (0)) (by kernel_rfl) (by kernel_rfl) ?_
  intro b10 w17 G6 F26 hc16
  replace F26 : Cl w17 b10 2 [.int .i64 (0)] := F26
  have D20 : Dj fp0_0 [b10] := Dj.of F0_0.low (low1 G6)
  have D21 : Dj fp2_0 [b10] := Dj.of F2_0.low (low1 G6)
  have D22 : Dj [b7] [b10] := Dj.of (lt1 F8.lt) (low1 G6)
  replace F0_0 := F0_0.chg hc16 Dj.nil
  replace F0 := F0.chg hc16 notNil
  replace F1_0_1 := F1_0_1.chg hc16 Dj.nil
  replace F1_0_2 := F1_0_2.chg hc16 Dj.nil
  replace F1_0_3 := F1_0_3.chg hc16 Dj.nil
  replace F1_0 := F1_0.chg hc16 notNil
  replace F1 := F1.chg hc16 notNil
  replace F2_0 := F2_0.chg hc16 Dj.nil
  replace F2 := F2.chg hc16 notNil
  replace F3 := F3.chg hc16 notNil
  replace F4 := F4.chg hc16 notNil
  replace F5_0 := F5_0.chg hc16 Dj.nil
  replace F5 := F5.chg hc16 notNil
  replace F6 := F6.chg hc16 notNil
  replace F8 := F8.chg hc16 notNil
  replace hB := hB.inS hc16 inNil
  replace G6 := Nat.le_trans hZ G6
  replace hZ := Nat.le_trans hZ hc16.size
  refine wS_store (T := 2) (g := b10) (o := 0) (ad := ⟨b10, 0, none⟩) (v := .int .i64 (0)) (vs := [.int .i64 (0)]) (by kernel_rfl) (by rfl) sz2 (by rfl) (by rfl) F26 (by simp only [List.length_cons, List.length_nil]; omega) ?_
  intro w18 F27 hc17
  replace F0_0 := F0_0.chg hc17 D20
  replace F0 := F0.chg hc17 (dj1 (Dj.of L0 (low1 G6)))
  replace F1_0_1 := F1_0_1.chg hc17 (Dj.of L1_0_1 (low1 G6))
  replace F1_0_2 := F1_0_2.chg hc17 (Dj.of L1_0_2 (low1 G6))
  replace F1_0_3 := F1_0_3.chg hc17 (Dj.of L1_0_3 (low1 G6))
  replace F1_0 := F1_0.chg hc17 (dj1 (Dj.of L1_0 (low1 G6)))
  replace F1 := F1.chg hc17 (dj1 (Dj.of L1 (low1 G6)))
  replace F2_0 := F2_0.chg hc17 D21
  replace F2 := F2.chg hc17 (dj1 (Dj.of L2 (low1 G6)))
  replace F3 := F3.chg hc17 (dj1 (Dj.of L3 (low1 G6)))
  replace F4 := F4.chg hc17 (dj1 (Dj.of L4 (low1 G6)))
  replace F5_0 := F5_0.chg hc17 (Dj.of L5_0 (low1 G6))
  replace F5 := F5.chg hc17 (dj1 (Dj.of L5 (low1 G6)))
  replace F6 := F6.chg hc17 (dj1 (Dj.of L6 (low1 G6)))
  replace F8 := F8.chg hc17 (dj1 D22)
  replace hB := hB.inS hc17 (inLow (low1 G6))
  replace hZ := Nat.le_trans hZ hc17.size
  replace F27 : Cl w18 b10 2 [.int .i64 (0)] := F27
  clear F26
  refine wS_end (by rfl) ?_
  refine eX_then ?_
  obtain ⟨r1, hr1, hm⟩ := bindE hm
  have hm1 := hm
  refine cW_cut (fun a' w' => ∃ x3 : Int, ∃ x4 : Int, ∃ l3 : List (Int), ∃ A5 : Option Addr, ∃ cap5 : Nat, ∃ fp4 : List Nat, ∃ l4 : List (Int), ∃ A6 : Option Addr, ∃ cap6 : Nat, ∃ fp5 : List Nat, ∃ z2 : Bool, (x3, x4, l3, l4, z2) = r1 ∧ Fr 84 [] a' ∧ Cl w' b0 25 [.slice A5 (l3).length cap5] ∧ Cl w' b2 25 [.slice A6 (l4).length cap6] ∧ Cl w' b3 2 [.int .i64 (x3)] ∧ Cl w' b4 2 [.int .i64 (x4)] ∧ Ow 1 encI 2 w' fp4 A5 cap5 l3 ∧ Ow 1 encI 2 w' fp5 A6 cap6 l4 ∧ Rt w0.heap.size fp0_0 fp4 ∧ (A6).isNone = z2 ∧ Rt w0.heap.size fp2_0 fp5 ∧ Dj [b0] fp4 ∧ Dj [b2] fp4 ∧ Dj [b3] fp4 ∧ Dj [b4] fp4 ∧ Dj fp5 fp4 ∧ Dj [b0] fp5 ∧ Dj [b2] fp5 ∧ Dj [b3] fp5 ∧ Dj [b4] fp5 ∧ Chg ([b0] ++ ([b2] ++ ([b3] ++ ([b4] ++ (fp0_0 ++ (fp2_0 ++ [])))))) w0 w' ∧ w0.heap.size ≤ w'.heap.size) ?_ ?_
  ·refine cW_block ?_
   refine cW_loop _ (fun (s2 : Int × Int × Int × (List (Int)) × (List (Int)) × Bool) a' w' => ∃ b11 : Nat, ∃ x5 : Int, ∃ x6 : Int, ∃ x7 : Int, ∃ l5 : List (Int), ∃ A7 : Option Addr, ∃ cap7 : Nat, ∃ fp6 : List Nat, ∃ l6 : List (Int), ∃ A8 : Option Addr, ∃ cap8 : Nat, ∃ fp7 : List Nat, ∃ z3 : Bool, (x5, x6, x7, l5, l6, z3) = s2 ∧ Fr 84 [(0, .pointer (some ⟨b0, 0, none⟩)), (1, .pointer (some ⟨b1, 0, none⟩)), (5, .pointer (some ⟨b5, 0, none⟩)), (6, .pointer (some ⟨b6, 0, none⟩)), (7, .pointer (some ⟨b7, 0, none⟩)), (9, .pointer (some ⟨b11, 0, none⟩))] a' ∧ Cl w' b0 25 [.slice A7 (l5).length cap7] ∧ SlR 1 encI w' fp1_0_1 A1_0_1 l1_0_1 ∧ SlR 1 encI w' fp1_0_2 A1_0_2 l1_0_2 ∧ Sl 1 encI w' fp1_0_3 A1_0_3 l1_0_3 ∧ Cl w' b1_0 27 [.int .i64 (q1_0_0), .slice A1_0_1 (l1_0_1).length cap1_0_1, .slice A1_0_2 (l1_0_2).length cap1_0_2, .slice A1_0_3 (l1_0_3).length cap1_0_3] ∧ Cl w' b1 87 [.pointer (some ⟨b1_0, 0, none⟩)] ∧ Cl w' b2 25 [.slice A8 (l6).length cap8] ∧ Cl w' b3 2 [.int .i64 (x6)] ∧ Cl w' b4 2 [.int .i64 (x7)] ∧ SlR 1 encI w' fp5_0 A5_0 l5_0 ∧ Cl w' b5 77 [.slice A5_0 (l5_0).length cap5_0] ∧ Cl w' b6 1 [.func (.func 91) #[] #[.pointer (some ⟨b0, 0, none⟩), .pointer (some ⟨b1, 0, none⟩), .pointer (some ⟨b2, 0, none⟩), .pointer (some ⟨b3, 0, none⟩), .pointer (some ⟨b4, 0, none⟩), .pointer (some ⟨b5, 0, none⟩), .pointer (some ⟨b6, 0, none⟩)]] ∧ Cl w' b7 3 [.int .i64 (((l0_0).length : Int))] ∧ Cl w' b11 2 [.int .i64 (x5)] ∧ Ow 1 encI 2 w' fp6 A7 cap7 l5 ∧ Ow 1 encI 2 w' fp7 A8 cap8 l6 ∧ w0.heap.size ≤ b11 ∧ Rt w0.heap.size fp0_0 fp6 ∧ (A8).isNone = z3 ∧ Rt w0.heap.size fp2_0 fp7 ∧ Dj [b7] [b11] ∧ Dj fp6 [b11] ∧ Dj fp7 [b11] ∧ Dj [b0] fp6 ∧ Dj fp1_0_1 fp6 ∧ Dj fp1_0_2 fp6 ∧ Dj fp1_0_3 fp6 ∧ Dj [b1_0] fp6 ∧ Dj [b1] fp6 ∧ Dj [b2] fp6 ∧ Dj [b3] fp6 ∧ Dj [b4] fp6 ∧ Dj fp5_0 fp6 ∧ Dj [b5] fp6 ∧ Dj [b6] fp6 ∧ Dj [b7] fp6 ∧ Dj fp7 fp6 ∧ Dj [b0] fp7 ∧ Dj fp1_0_1 fp7 ∧ Dj fp1_0_2 fp7 ∧ Dj fp1_0_3 fp7 ∧ Dj [b1_0] fp7 ∧ Dj [b1] fp7 ∧ Dj [b2] fp7 ∧ Dj [b3] fp7 ∧ Dj [b4] fp7 ∧ Dj fp5_0 fp7 ∧ Dj [b5] fp7 ∧ Dj [b6] fp7 ∧ Dj [b7] fp7 ∧ Chg ([b0] ++ ([b2] ++ ([b3] ++ ([b4] ++ (fp0_0 ++ (fp2_0 ++ [])))))) w0 w' ∧ w0.heap.size ≤ w'.heap.size) hr1 (fun hst => ⟨b10, 0, q3_0, q4_0, l0_0, A0_0, cap0_0, fp0_0, l2_0, A2_0, cap2_0, fp2_0, z2_0, rfl, Fr.of hst (by kernel_rfl), F0, F1_0_1, F1_0_2, F1_0_3, F1_0, F1, F2, F3, F4, F5_0, F5, F6, F8, F27, F0_0, F2_0, G6, Rt.refl, Z2_0, Rt.refl, D22, D20, D21, J0__0_0, (J0_0__1_0_1).symm, (J0_0__1_0_2).symm, (J0_0__1_0_3).symm, (J0_0__1_0).symm, (J0_0__1).symm, J2__0_0, J3__0_0, J4__0_0, (J0_0__5_0).symm, (J0_0__5).symm, (J0_0__6).symm, (D1).symm, (J0_0__2_0).symm, J0__2_0, (J2_0__1_0_1).symm, (J2_0__1_0_2).symm, (J2_0__1_0_3).symm, (J2_0__1_0).symm, (J2_0__1).symm, J2__2_0, J3__2_0, J4__2_0, (J2_0__5_0).symm, (J2_0__5).symm, (J2_0__6).symm, (D2).symm, hB, hZ⟩) ?_
   rintro _ c1 a' w19 ⟨b11, x5, x6, x7, l5, A7, cap7, fp6, l6, A8, cap8, fp7, z3, rfl, hF2, F28, F29, F30, F31, F32, F33, F34, F35, F36, F37, F38, F39, F40, F41, F42, F43, G7, hap2, hz2, hap3, D23, D24, D25, D26, D27, D28, D29, D30, D31, D32, D33, D34, D35, D36, D37, D38, D39, D40, D41, D42, D43, D44, D45, D46, D47, D48, D49, D50, D51, D52, hB, hZ⟩ hx1
   refine Fr.goOn hF2 (by kernel_rfl) ?_
   have hm := hx1
   unfold m_impl_Wiring_best_1_bint64_bimplWiring_bimplWiring_bint64_bint64_bint64_bimplgraph_bfunc_self_s1 at hm
   refine cW_seq ?_
   refine cW_seq ?_
   refine cW_region ?_
   refine wS_load1 (d := 40) (T := 2) (ad := ⟨b11, 0, none⟩) (v := .int .i64 (x5)) (by kernel_rfl) vt2 ((F41).cell 0) ?_
   refine wS_pure 1 [(41, .bool (decide (x5 < 2)))] (by kernel_rfl) ?_
   refine wS_end (by rfl) ?_
   refine eX_then ?_
   refine cW_cond (t := decide (x5 < 2)) (by kernel_rfl) (fun hb5 => ?_) (fun hb5 => ?_)
   ·have hm := condT hb5 hm
    refine cW_skip ?_
    refine eX_then ?_
    refine cW_seq ?_
    refine cW_block ?_
    obtain ⟨s3, hs2, hm⟩ := bindE hm
    refine cW_cut (fun a' w' => ∃ x8 : Int, ∃ x9 : Int, ∃ l7 : List (Int), ∃ A9 : Option Addr, ∃ cap9 : Nat, ∃ fp8 : List Nat, ∃ l8 : List (Int), ∃ A10 : Option Addr, ∃ cap10 : Nat, ∃ fp9 : List Nat, ∃ z4 : Bool, (x8, x9, l7, l8, z4) = s3 ∧ Fr 84 [(0, .pointer (some ⟨b0, 0, none⟩)), (1, .pointer (some ⟨b1, 0, none⟩)), (5, .pointer (some ⟨b5, 0, none⟩)), (6, .pointer (some ⟨b6, 0, none⟩)), (7, .pointer (some ⟨b7, 0, none⟩)), (9, .pointer (some ⟨b11, 0, none⟩))] a' ∧ Cl w' b0 25 [.slice A9 (l7).length cap9] ∧ SlR 1 encI w' fp1_0_1 A1_0_1 l1_0_1 ∧ SlR 1 encI w' fp1_0_2 A1_0_2 l1_0_2 ∧ Sl 1 encI w' fp1_0_3 A1_0_3 l1_0_3 ∧ Cl w' b1_0 27 [.int .i64 (q1_0_0), .slice A1_0_1 (l1_0_1).length cap1_0_1, .slice A1_0_2 (l1_0_2).length cap1_0_2, .slice A1_0_3 (l1_0_3).length cap1_0_3] ∧ Cl w' b1 87 [.pointer (some ⟨b1_0, 0, none⟩)] ∧ Cl w' b2 25 [.slice A10 (l8).length cap10] ∧ Cl w' b3 2 [.int .i64 (x8)] ∧ Cl w' b4 2 [.int .i64 (x9)] ∧ SlR 1 encI w' fp5_0 A5_0 l5_0 ∧ Cl w' b5 77 [.slice A5_0 (l5_0).length cap5_0] ∧ Cl w' b6 1 [.func (.func 91) #[] #[.pointer (some ⟨b0, 0, none⟩), .pointer (some ⟨b1, 0, none⟩), .pointer (some ⟨b2, 0, none⟩), .pointer (some ⟨b3, 0, none⟩), .pointer (some ⟨b4, 0, none⟩), .pointer (some ⟨b5, 0, none⟩), .pointer (some ⟨b6, 0, none⟩)]] ∧ Cl w' b7 3 [.int .i64 (((l0_0).length : Int))] ∧ Cl w' b11 2 [.int .i64 (x5)] ∧ Ow 1 encI 2 w' fp8 A9 cap9 l7 ∧ Ow 1 encI 2 w' fp9 A10 cap10 l8 ∧ Rt w0.heap.size fp0_0 fp8 ∧ (A10).isNone = z4 ∧ Rt w0.heap.size fp2_0 fp9 ∧ Dj [b0] fp8 ∧ Dj fp1_0_1 fp8 ∧ Dj fp1_0_2 fp8 ∧ Dj fp1_0_3 fp8 ∧ Dj [b1_0] fp8 ∧ Dj [b1] fp8 ∧ Dj [b2] fp8 ∧ Dj [b3] fp8 ∧ Dj [b4] fp8 ∧ Dj fp5_0 fp8 ∧ Dj [b5] fp8 ∧ Dj [b6] fp8 ∧ Dj [b7] fp8 ∧ Dj [b11] fp8 ∧ Dj fp9 fp8 ∧ Dj [b0] fp9 ∧ Dj fp1_0_1 fp9 ∧ Dj fp1_0_2 fp9 ∧ Dj fp1_0_3 fp9 ∧ Dj [b1_0] fp9 ∧ Dj [b1] fp9 ∧ Dj [b2] fp9 ∧ Dj [b3] fp9 ∧ Dj [b4] fp9 ∧ Dj fp5_0 fp9 ∧ Dj [b5] fp9 ∧ Dj [b6] fp9 ∧ Dj [b7] fp9 ∧ Dj [b11] fp9 ∧ Chg ([b0] ++ ([b2] ++ ([b3] ++ ([b4] ++ (fp0_0 ++ (fp2_0 ++ [])))))) w0 w' ∧ w0.heap.size ≤ w'.heap.size) ?_ ?_
    ·have hm := hs2
     refine cW_seq ?_
     refine cW_drawnTail [] 17 (by kernel_rfl) (by kernel_rfl) (fun w20 hc18 => ?_)
     replace F28 := F28.chg hc18 notNil
     replace F29 := F29.chg hc18 Dj.nil
     replace F30 := F30.chg hc18 Dj.nil
     replace F31 := F31.chg hc18 Dj.nil
     replace F32 := F32.chg hc18 notNil
     replace F33 := F33.chg hc18 notNil
     replace F34 := F34.chg hc18 notNil
     replace F35 := F35.chg hc18 notNil
     replace F36 := F36.chg hc18 notNil
     replace F37 := F37.chg hc18 Dj.nil
     replace F38 := F38.chg hc18 notNil
     replace F39 := F39.chg hc18 notNil
     replace F40 := F40.chg hc18 notNil
     replace F41 := F41.chg hc18 notNil
     replace F42 := F42.chg hc18 Dj.nil
     replace F43 := F43.chg hc18 Dj.nil
     replace hB := hB.inS hc18 inNil
     replace hZ := Nat.le_trans hZ hc18.size
     have hS := Chg.refl [] w20
     have Z16 := F28
     have Z17 := F29
     have Z18 := F30
     have Z19 := F31
     have Z20 := F32
     have Z21 := F33
     have Z22 := F34
     have Z23 := F35
     have Z24 := F36
     have Z25 := F37
     have Z26 := F38
     have Z27 := F39
     have Z28 := F40
     have Z29 := F41
     have Z30 := F42
     have Z31 := F43
     refine wH_load1 (i := 0) (d := 44) (T := 87) (ad := ⟨b1, 0, none⟩) (v := .pointer (some ⟨b1_0, 0, none⟩)) (by kernel_rfl) (qT (qT (qT (qB (qT (qL (qB (qT qZ)))))))) (by kernel_rfl) (by kernel_rfl) vt87 (fun W hW => (Z21.chg hW notNil).cell 0) ?_
     refine wH_take [1, 2] [2, 1, 0] [(46, .pointer (some ⟨b1_0, 3, none⟩)), (45, .pointer (some ⟨b1_0, 0, none⟩))] (by kernel_rfl) (qT (qT (qT (qB (qT (qL (qB (qT qZ)))))))) (by kernel_rfl) ?_
     refine wH_load1 (i := 3) (d := 47) (T := 25) (ad := ⟨b1_0, 3, none⟩) (v := .slice A1_0_3 (l1_0_3).length cap1_0_3) (by kernel_rfl) (qT (qT (qT (qB (qT (qL (qB (qT qZ)))))))) (by kernel_rfl) (by kernel_rfl) vt25 (fun W hW => (Z20.chg hW notNil).cell 3) ?_
     refine wH_load1 (i := 4) (d := 48) (T := 3) (ad := ⟨b7, 0, none⟩) (v := .int .i64 (((l0_0).length : Int))) (by kernel_rfl) (qT (qT (qT (qB (qT (qL (qB (qT qZ)))))))) (by kernel_rfl) (by kernel_rfl) vt3 (fun W hW => (Z28.chg hW notNil).cell 0) ?_
     obtain ⟨x10, hx2, hm⟩ := bindE hm
     refine wH_idx (i := 5) (d := 49) (T := 25) (A := A1_0_3) (n := (l1_0_3).length) (cap := cap1_0_3) (kd := .i64) (m := ((l0_0).length : Int)) (by kernel_rfl) (qT (qT (qT (qB (qT (qL (qB (qT qZ)))))))) (by kernel_rfl) (by kernel_rfl) sl25 (F31.is hx2) ?_
     refine wH_load1 (i := 6) (d := 50) (T := 2) (ad := (elA A1_0_3 1 (((l0_0).length : Int)) 0)) (v := .int .i64 (x10)) (by kernel_rfl) (qT (qT (qT (qB (qT (qL (qB (qT qZ)))))))) (by kernel_rfl) (by kernel_rfl) vt2 (fun W hW => Sl.cell (Z19.chg hW Dj.nil) hx2 0 (by rfl)) ?_
     refine wH_take [7, 8] [8, 7, 6, 5, 4, 3, 2, 1, 0] [(52, .bool (decide (x10 ≥ 0))), (51, .bool (decide (x10 ≥ 0)))] (by kernel_rfl) (qT (qT (qT (qB (qT (qL (qB (qT qZ)))))))) (by kernel_rfl) ?_
     refine wH_bool (decide (x10 ≥ 0)) (fun hb6 => ?_) (fun hb6 => ?_)
     ·have hm := condT hb6 hm
      rewrite [hb6]
      refine wH_load1 (i := 9) (d := 53) (T := 87) (ad := ⟨b1, 0, none⟩) (v := .pointer (some ⟨b1_0, 0, none⟩)) (by kernel_rfl) (qT (qT (qT (qB (qT (qL (qB (qT qZ)))))))) (by kernel_rfl) (by kernel_rfl) vt87 (fun W hW => (Z21.chg hW notNil).cell 0) ?_
      refine wH_take [10, 11] [11, 10, 9, 8, 7, 6, 5, 4, 3, 2, 1, 0] [(55, .pointer (some ⟨b1_0, 3, none⟩)), (54, .pointer (some ⟨b1_0, 0, none⟩))] (by kernel_rfl) (qT (qT (qT (qB (qT (qL (qB (qT qZ)))))))) (by kernel_rfl) ?_
      refine wH_load1 (i := 12) (d := 56) (T := 25) (ad := ⟨b1_0, 3, none⟩) (v := .slice A1_0_3 (l1_0_3).length cap1_0_3) (by kernel_rfl) (qT (qT (qT (qB (qT (qL (qB (qT qZ)))))))) (by kernel_rfl) (by kernel_rfl) vt25 (fun W hW => (Z20.chg hW notNil).cell 3) ?_
      refine wH_load1 (i := 13) (d := 57) (T := 3) (ad := ⟨b7, 0, none⟩) (v := .int .i64 (((l0_0).length : Int))) (by kernel_rfl) (qT (qT (qT (qB (qT (qL (qB (qT qZ)))))))) (by kernel_rfl) (by kernel_rfl) vt3 (fun W hW => (Z28.chg hW notNil).cell 0) ?_
      obtain ⟨x11, hx3, hm⟩ := bindE hm
      refine wH_idx (i := 14) (d := 58) (T := 25) (A := A1_0_3) (n := (l1_0_3).length) (cap := cap1_0_3) (kd := .i64) (m := ((l0_0).length : Int)) (by kernel_rfl) (qT (qT (qT (qB (qT (qL (qB (qT qZ)))))))) (by kernel_rfl) (by kernel_rfl) sl25 (F31.is hx3) ?_
      refine wH_load1 (i := 15) (d := 59) (T := 2) (ad := (elA A1_0_3 1 (((l0_0).length : Int)) 0)) (v := .int .i64 (x11)) (by kernel_rfl) (qT (qT (qT (qB (qT (qL (qB (qT qZ)))))))) (by kernel_rfl) (by kernel_rfl) vt2 (fun W hW => Sl.cell (Z19.chg hW Dj.nil) hx3 0 (by rfl)) ?_
      refine wH_load1 (i := 16) (d := 60) (T := 2) (ad := ⟨b11, 0, none⟩) (v := .int .i64 (x5)) (by kernel_rfl) (qT (qT (qT (qB (qT (qL (qB (qT qZ)))))))) (by kernel_rfl) (by kernel_rfl) vt2 (fun W hW => (Z29.chg hW notNil).cell 0) ?_
      refine wH_done (by kernel_rfl) ?_
      refine eX_tail ?_
      refine wS_pure 3 [(10, .bool (x11 != x5)), (62, .bool (x11 != x5)), (61, .bool (x11 != x5))] (by kernel_rfl) ?_
      refine wS_end (by rfl) ?_
      refine eX_then ?_
      refine cW_prune [(0, .pointer (some ⟨b0, 0, none⟩)), (1, .pointer (some ⟨b1, 0, none⟩)), (5, .pointer (some ⟨b5, 0, none⟩)), (6, .pointer (some ⟨b6, 0, none⟩)), (7, .pointer (some ⟨b7, 0, none⟩)), (9, .pointer (some ⟨b11, 0, none⟩)), (10, .bool (x11 != x5))] (by kernel_rfl) (by kernel_rfl) (fun a3 => ?_)
      refine cW_seq ?_
      refine cW_region ?_
      refine wS_pure 2 [(64, .bool (x11 != x5)), (63, .bool (x11 != x5))] (by kernel_rfl) ?_
      refine wS_bool (x11 != x5) (fun hb7 => ?_) (fun hb7 => ?_)
      ·have hm := condT hb7 hm
       rewrite [hb7]
       refine wS_pure 8 [(10, .bool (true)), (71, .bool (true)), (70, undef), (69, undef), (68, undef), (67, undef), (66, undef), (65, undef)] (by kernel_rfl) ?_
       refine wS_end (by rfl) ?_
       refine eX_then ?_
       refine cW_seq ?_
       refine cW_region ?_
       refine wS_pure 2 [(73, .bool (false)), (72, .bool (true))] (by kernel_rfl) ?_
       refine wS_end (by rfl) ?_
       refine eX_then ?_
       refine cW_cond_f (by kernel_rfl) ?_
       refine cW_skip ?_
       have hq : (some ((x6, x7, l5, l6, z3)) : Option (Int × Int × (List (Int)) × (List (Int)) × Bool)) = some _ := hm
       replace hq := someE hq
       subst hq
       exact eX_J (fun hst => ⟨x6, x7, l5, A7, cap7, fp6, l6, A8, cap8, fp7, z3, rfl, Fr.of hst (by kernel_rfl), F28, F29, F30, F31, F32, F33, F34, F35, F36, F37, F38, F39, F40, F41, F42, F43, hap2, hz2, hap3, D26, D27, D28, D29, D30, D31, D32, D33, D34, D35, D36, D37, D38, (D24).symm, D39, D40, D41, D42, D43, D44, D45, D46, D47, D48, D49, D50, D51, D52, (D25).symm, hB, hZ⟩)
      ·have hm := condF hb7 hm
       rewrite [hb7]
       refine wS_load1 (d := 65) (T := 77) (ad := ⟨b5, 0, none⟩) (v := .slice A5_0 (l5_0).length cap5_0) (by kernel_rfl) vt77 ((F38).cell 0) ?_
       refine wS_load1 (d := 66) (T := 3) (ad := ⟨b7, 0, none⟩) (v := .int .i64 (((l0_0).length : Int))) (by kernel_rfl) vt3 ((F40).cell 0) ?_
       obtain ⟨x12, hx4, hm⟩ := bindE hm
       refine wS_idx (d := 67) (T := 77) (A := A5_0) (n := (l5_0).length) (cap := cap5_0) (kd := .i64) (m := ((l0_0).length : Int)) (by kernel_rfl) sl77 (F37.is hx4) ?_
       obtain ⟨A11, cap11, hc19, F44, K1⟩ := SlR.row F37 hx4
       refine wS_load1 (d := 68) (T := 75) (ad := (elA A5_0 1 (((l0_0).length : Int)) 0)) (v := .slice A11 (x12).length cap11) (by kernel_rfl) vt75 hc19 ?_
       refine wS_pure 1 [(69, .func (.func 94) #[] #[.pointer (some ⟨b7, 0, none⟩), .pointer (some ⟨b0, 0, none⟩), .pointer (some ⟨b11, 0, none⟩)])] (by kernel_rfl) ?_
       obtain ⟨y2, hy2, hm⟩ := bindE hm
       refine wS_calls (d := 70) (f := 93) (vs := [.slice A11 (x12).length cap11, .func (.func 94) #[] #[.pointer (some ⟨b7, 0, none⟩), .pointer (some ⟨b0, 0, none⟩), .pointer (some ⟨b11, 0, none⟩)]]) (by kernel_rfl) ent93 (c_slices_ContainsFunc_int_int_impl_Wiring_best_1_1_bint_bint64_bint64 hy2 F44 F40 (F42.sl encI_ok) F28 F41) ?_
       rintro _ w21 ⟨rfl, hc20⟩
       replace F28 := F28.chg hc20 notNil
       replace F29 := F29.chg hc20 Dj.nil
       replace F30 := F30.chg hc20 Dj.nil
       replace F31 := F31.chg hc20 Dj.nil
       replace F32 := F32.chg hc20 notNil
       replace F33 := F33.chg hc20 notNil
       replace F34 := F34.chg hc20 notNil
       replace F35 := F35.chg hc20 notNil
       replace F36 := F36.chg hc20 notNil
       replace F37 := F37.chg hc20 Dj.nil
       replace F38 := F38.chg hc20 notNil
       replace F39 := F39.chg hc20 notNil
       replace F40 := F40.chg hc20 notNil
       replace F41 := F41.chg hc20 notNil
       replace F42 := F42.chg hc20 Dj.nil
       replace F43 := F43.chg hc20 Dj.nil
       replace F44 := F44.chg hc20 Dj.nil
       replace hB := hB.inS hc20 inNil
       replace hZ := Nat.le_trans hZ hc20.size
       refine ⟨.bool (y2), rfl, ?_⟩
       refine wS_pure 2 [(10, .bool (y2)), (71, .bool (y2))] (by kernel_rfl) ?_
       refine wS_end (by rfl) ?_
       refine eX_then ?_
       refine cW_seq ?_
       refine cW_region ?_
       refine wS_pure 2 [(73, .bool (!y2)), (72, .bool (y2))] (by kernel_rfl) ?_
       refine wS_end (by rfl) ?_
       refine eX_then ?_
       refine cW_cond (t := !y2) (by kernel_rfl) (fun hb8 => ?_) (fun hb8 => ?_)
       ·have hm := condT hb8 hm
        refine cW_seq ?_
        refine cW_region ?_
        refine wS_load1 (d := 74) (T := 25) (ad := ⟨b0, 0, none⟩) (v := .slice A7 (l5).length cap7) (by kernel_rfl) vt25 ((F28).cell 0) ?_
        refine wS_load1 (d := 75) (T := 2) (ad := ⟨b11, 0, none⟩) (v := .int .i64 (x5)) (by kernel_rfl) vt2 ((F41).cell 0) ?_
        refine wS_bs (enc := encI) ([x5] : List (Int)) [.int .i64 (x5)] (d := 76) (t := 25) (T := 2) (n := 1) (ps := [(0, .int .i64 (x5))]) (by kernel_rfl) el25 encI_ok (by rfl) (by omega) (by omega) (by kernel_rfl) (by rfl) ?_
        intro b12 w22 G8 F45 hc21
        have D53 : Dj [b7] [b12] := Dj.of (lt1 F40.lt) (low1 G8)
        have D54 : Dj [b11] [b12] := Dj.of (lt1 F41.lt) (low1 G8)
        have D55 : Dj fp6 [b12] := Dj.of F42.low (low1 G8)
        have D56 : Dj fp7 [b12] := Dj.of F43.low (low1 G8)
        replace F28 := F28.chg hc21 notNil
        replace F29 := F29.chg hc21 Dj.nil
        replace F30 := F30.chg hc21 Dj.nil
        replace F31 := F31.chg hc21 Dj.nil
        replace F32 := F32.chg hc21 notNil
        replace F33 := F33.chg hc21 notNil
        replace F34 := F34.chg hc21 notNil
        replace F35 := F35.chg hc21 notNil
        replace F36 := F36.chg hc21 notNil
        replace F37 := F37.chg hc21 Dj.nil
        replace F38 := F38.chg hc21 notNil
        replace F39 := F39.chg hc21 notNil
        replace F40 := F40.chg hc21 notNil
        replace F41 := F41.chg hc21 notNil
        replace F42 := F42.chg hc21 Dj.nil
        replace F43 := F43.chg hc21 Dj.nil
        replace F44 := F44.chg hc21 Dj.nil
        replace hB := hB.inS hc21 inNil
        replace G8 := Nat.le_trans hZ G8
        replace G8 := low1 G8
        replace hZ := Nat.le_trans hZ hc21.size
        obtain ⟨_, hk3, hm⟩ := bindE hm
        replace hk3 := apE hk3
        refine wS_append (enc := encI) (l := (l5 : List (Int))) (l2 := (([x5] : List (Int)) : List (Int))) (d := 77) (t := 25) (T := 2) (A := A7) (A2 := (some ⟨b12, 0, none⟩)) (cap := cap7) (cap2 := 1) (by kernel_rfl) el25 encI_ok F42 (F45.sl encI_ok) (by rfl) hk3 ?_
        intro w23 fp10 A12 cap12 F46 hc22 hp3
        have hap4 := Rt.of hp3 hZ hap2
        have D57 : Dj [b0] fp10 := Dj.ap D26 (lt1 F28.lt) hp3
        have D58 : Dj fp1_0_1 fp10 := Dj.ap D27 F29.low hp3
        have D59 : Dj fp1_0_2 fp10 := Dj.ap D28 F30.low hp3
        have D60 : Dj fp1_0_3 fp10 := Dj.ap D29 F31.low hp3
        have D61 : Dj [b1_0] fp10 := Dj.ap D30 (lt1 F32.lt) hp3
        have D62 : Dj [b1] fp10 := Dj.ap D31 (lt1 F33.lt) hp3
        have D63 : Dj [b2] fp10 := Dj.ap D32 (lt1 F34.lt) hp3
        have D64 : Dj [b3] fp10 := Dj.ap D33 (lt1 F35.lt) hp3
        have D65 : Dj [b4] fp10 := Dj.ap D34 (lt1 F36.lt) hp3
        have D66 : Dj fp5_0 fp10 := Dj.ap D35 F37.low hp3
        have D67 : Dj [b5] fp10 := Dj.ap D36 (lt1 F38.lt) hp3
        have D68 : Dj [b6] fp10 := Dj.ap D37 (lt1 F39.lt) hp3
        have D69 : Dj [b7] fp10 := Dj.ap D38 (lt1 F40.lt) hp3
        have D70 : Dj [b11] fp10 := Dj.ap (D24).symm (lt1 F41.lt) hp3
        have D71 : Dj fp7 fp10 := Dj.ap D39 F43.low hp3
        have D72 : Dj fp5_0 fp10 := Dj.ap D35 F44.low hp3
        have D73 : Dj [b12] fp10 := Dj.ap (D55).symm F45.low hp3
        replace F28 := F28.chg hc22 (dj1 D26)
        replace F29 := F29.chg hc22 D27
        replace F30 := F30.chg hc22 D28
        replace F31 := F31.chg hc22 D29
        replace F32 := F32.chg hc22 (dj1 D30)
        replace F33 := F33.chg hc22 (dj1 D31)
        replace F34 := F34.chg hc22 (dj1 D32)
        replace F35 := F35.chg hc22 (dj1 D33)
        replace F36 := F36.chg hc22 (dj1 D34)
        replace F37 := F37.chg hc22 D35
        replace F38 := F38.chg hc22 (dj1 D36)
        replace F39 := F39.chg hc22 (dj1 D37)
        replace F40 := F40.chg hc22 (dj1 D38)
        replace F41 := F41.chg hc22 (dj1 (D24).symm)
        replace F43 := F43.chg hc22 D39
        replace F44 := F44.chg hc22 D35
        replace F45 := F45.chg hc22 (D55).symm
        replace hB := hB.inS hc22 (inRt hap2 (fun x hx => (List.mem_append_right _ (List.mem_append_right _ (List.mem_append_right _ (List.mem_append_right _ (List.mem_append_left _ hx)))))))
        replace hZ := Nat.le_trans hZ hc22.size
        refine wS_store (T := 25) (g := b0) (o := 0) (ad := ⟨b0, 0, none⟩) (v := .slice A12 (l5 ++ (([x5] : List (Int)))).length cap12) (vs := [.slice A12 (l5 ++ (([x5] : List (Int)))).length cap12]) (by kernel_rfl) (by rfl) sz25 (by rfl) (by rfl) F28 (by simp only [List.length_cons, List.length_nil]; omega) ?_
        intro w24 F47 hc23
        replace F29 := F29.chg hc23 (J0__1_0_1).symm
        replace F30 := F30.chg hc23 (J0__1_0_2).symm
        replace F31 := F31.chg hc23 (J0__1_0_3).symm
        replace F32 := F32.chg hc23 (dj1 (J0__1_0).symm)
        replace F33 := F33.chg hc23 (dj1 (J0__1).symm)
        replace F34 := F34.chg hc23 (dj1 (J0__2).symm)
        replace F35 := F35.chg hc23 (dj1 (J0__3).symm)
        replace F36 := F36.chg hc23 (dj1 (J0__4).symm)
        replace F37 := F37.chg hc23 (J0__5_0).symm
        replace F38 := F38.chg hc23 (dj1 (J0__5).symm)
        replace F39 := F39.chg hc23 (dj1 (J0__6).symm)
        replace F40 := F40.chg hc23 (dj1 (Dj.of L0 (low1 G1)).symm)
        replace F41 := F41.chg hc23 (dj1 (Dj.of L0 (low1 G7)).symm)
        replace F43 := F43.chg hc23 (D40).symm
        replace F44 := F44.chg hc23 (J0__5_0).symm
        replace F45 := F45.chg hc23 (Dj.of L0 G8).symm
        replace F46 := F46.chg hc23 (D57).symm
        replace hB := hB.inS hc23 (inMem (fun x hx => (List.mem_append_left _ hx)))
        replace hZ := Nat.le_trans hZ hc23.size
        replace F47 : Cl w24 b0 25 [.slice A12 (l5 ++ (([x5] : List (Int)))).length cap12] := F47
        clear F28
        refine wS_end (by rfl) ?_
        refine eX_then ?_
        refine cW_seq ?_
        refine cW_region ?_
        refine wS_load1 (d := 78) (T := 1) (ad := ⟨b6, 0, none⟩) (v := .func (.func 91) #[] #[.pointer (some ⟨b0, 0, none⟩), .pointer (some ⟨b1, 0, none⟩), .pointer (some ⟨b2, 0, none⟩), .pointer (some ⟨b3, 0, none⟩), .pointer (some ⟨b4, 0, none⟩), .pointer (some ⟨b5, 0, none⟩), .pointer (some ⟨b6, 0, none⟩)]) (by kernel_rfl) vt1 ((F39).cell 0) ?_
        obtain ⟨y3, hy3, hm⟩ := bindE hm
        refine wS_calls (d := 79) (f := 91) (vs := [.pointer (some ⟨b0, 0, none⟩), .pointer (some ⟨b1, 0, none⟩), .pointer (some ⟨b2, 0, none⟩), .pointer (some ⟨b3, 0, none⟩), .pointer (some ⟨b4, 0, none⟩), .pointer (some ⟨b5, 0, none⟩), .pointer (some ⟨b6, 0, none⟩)]) (by kernel_rfl) ent91 (hR hy3 F46 F47 F29 F30 F31 F32 F33 F43 hz2 F34 F35 F36 F37 F38 F39 D57 J0__1_0_1 J0__1_0_2 J0__1_0_3 J0__1_0 J0__1 D40 J0__2 J0__3 J0__4 J0__5_0 J0__5 J0__6 D63 J2__1_0_1 J2__1_0_2 J2__1_0_3 J2__1_0 J2__1 D46 J2__3 J2__4 J2__5_0 J2__5 J2__6 D64 J3__1_0_1 J3__1_0_2 J3__1_0_3 J3__1_0 J3__1 D47 J3__4 J3__5_0 J3__5 J3__6 D65 J4__1_0_1 J4__1_0_2 J4__1_0_3 J4__1_0 J4__1 D48 J4__5_0 J4__5 J4__6 (D58).symm (D59).symm (D60).symm (D61).symm (D62).symm (D71).symm (D66).symm (D67).symm (D68).symm (D41).symm (D42).symm (D43).symm (D44).symm (D45).symm (D49).symm (D50).symm (D51).symm) ?_
        rintro _ w25 ⟨A13, cap13, fp11, A14, cap14, fp12, rfl, D74, F48, F49, F50, F51, F52, hap5, F53, hap6, hz3, hc24⟩
        have hap7 := Rt.of hap5 hZ hap4
        have D75 : Dj [b0] fp11 := Dj.ap D57 (lt1 F47.lt) hap5
        have D76 : Dj fp1_0_1 fp11 := Dj.ap D58 F29.low hap5
        have D77 : Dj fp1_0_2 fp11 := Dj.ap D59 F30.low hap5
        have D78 : Dj fp1_0_3 fp11 := Dj.ap D60 F31.low hap5
        have D79 : Dj [b1_0] fp11 := Dj.ap D61 (lt1 F32.lt) hap5
        have D80 : Dj [b1] fp11 := Dj.ap D62 (lt1 F33.lt) hap5
        have D81 : Dj [b2] fp11 := Dj.ap D63 (lt1 F34.lt) hap5
        have D82 : Dj [b3] fp11 := Dj.ap D64 (lt1 F35.lt) hap5
        have D83 : Dj [b4] fp11 := Dj.ap D65 (lt1 F36.lt) hap5
        have D84 : Dj fp5_0 fp11 := Dj.ap D66 F37.low hap5
        have D85 : Dj [b5] fp11 := Dj.ap D67 (lt1 F38.lt) hap5
        have D86 : Dj [b6] fp11 := Dj.ap D68 (lt1 F39.lt) hap5
        have D87 : Dj [b7] fp11 := Dj.ap D69 (lt1 F40.lt) hap5
        have D88 : Dj [b11] fp11 := Dj.ap D70 (lt1 F41.lt) hap5
        have D89 : Dj fp5_0 fp11 := Dj.ap D72 F44.low hap5
        have D90 : Dj [b12] fp11 := Dj.ap D73 F45.low hap5
        have hap8 := Rt.of hap6 hZ hap3
        have D91 : Dj [b0] fp12 := Dj.ap D40 (lt1 F47.lt) hap6
        have D92 : Dj fp1_0_1 fp12 := Dj.ap D41 F29.low hap6
        have D93 : Dj fp1_0_2 fp12 := Dj.ap D42 F30.low hap6
        have D94 : Dj fp1_0_3 fp12 := Dj.ap D43 F31.low hap6
        have D95 : Dj [b1_0] fp12 := Dj.ap D44 (lt1 F32.lt) hap6
        have D96 : Dj [b1] fp12 := Dj.ap D45 (lt1 F33.lt) hap6
        have D97 : Dj [b2] fp12 := Dj.ap D46 (lt1 F34.lt) hap6
        have D98 : Dj [b3] fp12 := Dj.ap D47 (lt1 F35.lt) hap6
        have D99 : Dj [b4] fp12 := Dj.ap D48 (lt1 F36.lt) hap6
        have D100 : Dj fp5_0 fp12 := Dj.ap D49 F37.low hap6
        have D101 : Dj [b5] fp12 := Dj.ap D50 (lt1 F38.lt) hap6
        have D102 : Dj [b6] fp12 := Dj.ap D51 (lt1 F39.lt) hap6
        have D103 : Dj [b7] fp12 := Dj.ap D52 (lt1 F40.lt) hap6
        have D104 : Dj [b11] fp12 := Dj.ap (D25).symm (lt1 F41.lt) hap6
        have D105 : Dj fp5_0 fp12 := Dj.ap D49 F44.low hap6
        have D106 : Dj [b12] fp12 := Dj.ap (D56).symm F45.low hap6
        replace F29 := F29.chg hc24 (Dj.app (J0__1_0_1).symm (Dj.app (J2__1_0_1).symm (Dj.app (J3__1_0_1).symm (Dj.app (J4__1_0_1).symm (Dj.app D58 (Dj.app D41 Dj.nil))))))
        replace F30 := F30.chg hc24 (Dj.app (J0__1_0_2).symm (Dj.app (J2__1_0_2).symm (Dj.app (J3__1_0_2).symm (Dj.app (J4__1_0_2).symm (Dj.app D59 (Dj.app D42 Dj.nil))))))
        replace F31 := F31.chg hc24 (Dj.app (J0__1_0_3).symm (Dj.app (J2__1_0_3).symm (Dj.app (J3__1_0_3).symm (Dj.app (J4__1_0_3).symm (Dj.app D60 (Dj.app D43 Dj.nil))))))
        replace F32 := F32.chg hc24 (dj1 (Dj.app (J0__1_0).symm (Dj.app (J2__1_0).symm (Dj.app (J3__1_0).symm (Dj.app (J4__1_0).symm (Dj.app D61 (Dj.app D44 Dj.nil)))))))
        replace F33 := F33.chg hc24 (dj1 (Dj.app (J0__1).symm (Dj.app (J2__1).symm (Dj.app (J3__1).symm (Dj.app (J4__1).symm (Dj.app D62 (Dj.app D45 Dj.nil)))))))
        replace F37 := F37.chg hc24 (Dj.app (J0__5_0).symm (Dj.app (J2__5_0).symm (Dj.app (J3__5_0).symm (Dj.app (J4__5_0).symm (Dj.app D66 (Dj.app D49 Dj.nil))))))
        replace F38 := F38.chg hc24 (dj1 (Dj.app (J0__5).symm (Dj.app (J2__5).symm (Dj.app (J3__5).symm (Dj.app (J4__5).symm (Dj.app D67 (Dj.app D50 Dj.nil)))))))
        replace F39 := F39.chg hc24 (dj1 (Dj.app (J0__6).symm (Dj.app (J2__6).symm (Dj.app (J3__6).symm (Dj.app (J4__6).symm (Dj.app D68 (Dj.app D51 Dj.nil)))))))
        replace F40 := F40.chg hc24 (dj1 (Dj.app (Dj.of L0 (low1 G1)).symm (Dj.app (Dj.of L2 (low1 G1)).symm (Dj.app (Dj.of L3 (low1 G1)).symm (Dj.app (Dj.of L4 (low1 G1)).symm (Dj.app D69 (Dj.app D52 Dj.nil)))))))
        replace F41 := F41.chg hc24 (dj1 (Dj.app (Dj.of L0 (low1 G7)).symm (Dj.app (Dj.of L2 (low1 G7)).symm (Dj.app (Dj.of L3 (low1 G7)).symm (Dj.app (Dj.of L4 (low1 G7)).symm (Dj.app D70 (Dj.app (D25).symm Dj.nil)))))))
        replace F44 := F44.chg hc24 (Dj.app (J0__5_0).symm (Dj.app (J2__5_0).symm (Dj.app (J3__5_0).symm (Dj.app (J4__5_0).symm (Dj.app D72 (Dj.app D49 Dj.nil))))))
        replace F45 := F45.chg hc24 (Dj.app (Dj.of L0 G8).symm (Dj.app (Dj.of L2 G8).symm (Dj.app (Dj.of L3 G8).symm (Dj.app (Dj.of L4 G8).symm (Dj.app D73 (Dj.app (D56).symm Dj.nil))))))
        replace hB := hB.inS hc24 (inApp (inMem (fun x hx => (List.mem_append_left _ hx))) (inApp (inMem (fun x hx => (List.mem_append_right _ (List.mem_append_left _ hx)))) (inApp (inMem (fun x hx => (List.mem_append_right _ (List.mem_append_right _ (List.mem_append_left _ hx))))) (inApp (inMem (fun x hx => (List.mem_append_right _ (List.mem_append_right _ (List.mem_append_right _ (List.mem_append_left _ hx)))))) (inApp (inRt hap4 (fun x hx => (List.mem_append_right _ (List.mem_append_right _ (List.mem_append_right _ (List.mem_append_right _ (List.mem_append_left _ hx))))))) (inApp (inRt hap3 (fun x hx => (List.mem_append_right _ (List.mem_append_right _ (List.mem_append_right _ (List.mem_append_right _ (List.mem_append_right _ (List.mem_append_left _ hx)))))))) inNil))))))
        replace hZ := Nat.le_trans hZ hc24.size
        clear F47
        clear F34
        clear F35
        clear F36
        refine ⟨.tuple #[], rfl, ?_⟩
        refine wS_end (by rfl) ?_
        refine eX_then ?_
        refine cW_prune [(0, .pointer (some ⟨b0, 0, none⟩)), (1, .pointer (some ⟨b1, 0, none⟩)), (5, .pointer (some ⟨b5, 0, none⟩)), (6, .pointer (some ⟨b6, 0, none⟩)), (7, .pointer (some ⟨b7, 0, none⟩)), (9, .pointer (some ⟨b11, 0, none⟩))] (by kernel_rfl) (by kernel_rfl) (fun a4 => ?_)
        refine cW_region ?_
        refine wS_load1 (d := 80) (T := 25) (ad := ⟨b0, 0, none⟩) (v := .slice A13 (y3.2.2.1).length cap13) (by kernel_rfl) vt25 ((F48).cell 0) ?_
        refine wS_load1 (d := 81) (T := 3) (ad := ⟨b7, 0, none⟩) (v := .int .i64 (((l0_0).length : Int))) (by kernel_rfl) vt3 ((F40).cell 0) ?_
        obtain ⟨y4, hy4, hm⟩ := bindE hm
        refine wS_prefix (k := 1) (enc := encI) (U := 2) (l := y3.2.2.1) (d := 82) (T := 25) (A := A13) (cap := cap13) (hi := ((l0_0).length : Int)) (by kernel_rfl) sl25 encI_ok F52 F52.cap_le hy4 ?_
        intro hpe F54
        subst hpe
        refine wS_store (T := 25) (g := b0) (o := 0) (ad := ⟨b0, 0, none⟩) (v := .slice A13 (y3.2.2.1.take (Int.toNat (((l0_0).length : Int)))).length cap13) (vs := [.slice A13 (y3.2.2.1.take (Int.toNat (((l0_0).length : Int)))).length cap13]) (by kernel_rfl) (by rfl) sz25 (by rfl) (by rfl) F48 (by simp only [List.length_cons, List.length_nil]; omega) ?_
        intro w26 F55 hc25
        replace F29 := F29.chg hc25 (J0__1_0_1).symm
        replace F30 := F30.chg hc25 (J0__1_0_2).symm
        replace F31 := F31.chg hc25 (J0__1_0_3).symm
        replace F32 := F32.chg hc25 (dj1 (J0__1_0).symm)
        replace F33 := F33.chg hc25 (dj1 (J0__1).symm)
        replace F49 := F49.chg hc25 (dj1 (J0__2).symm)
        replace F50 := F50.chg hc25 (dj1 (J0__3).symm)
        replace F51 := F51.chg hc25 (dj1 (J0__4).symm)
        replace F37 := F37.chg hc25 (J0__5_0).symm
        replace F38 := F38.chg hc25 (dj1 (J0__5).symm)
        replace F39 := F39.chg hc25 (dj1 (J0__6).symm)
        replace F40 := F40.chg hc25 (dj1 (Dj.of L0 (low1 G1)).symm)
        replace F41 := F41.chg hc25 (dj1 (Dj.of L0 (low1 G7)).symm)
        replace F44 := F44.chg hc25 (J0__5_0).symm
        replace F45 := F45.chg hc25 (Dj.of L0 G8).symm
        replace F54 := F54.chg hc25 (D75).symm
        replace F53 := F53.chg hc25 (D91).symm
        replace hB := hB.inS hc25 (inMem (fun x hx => (List.mem_append_left _ hx)))
        replace hZ := Nat.le_trans hZ hc25.size
        replace F55 : Cl w26 b0 25 [.slice A13 (y3.2.2.1.take (Int.toNat (((l0_0).length : Int)))).length cap13] := F55
        clear F48
        refine wS_end (by rfl) ?_
        have hq : (some ((y3.1, y3.2.1, y3.2.2.1.take (Int.toNat (((l0_0).length : Int))), y3.2.2.2.1, y3.2.2.2.2)) : Option (Int × Int × (List (Int)) × (List (Int)) × Bool)) = some _ := hm
        replace hq := someE hq
        subst hq
        exact eX_J (fun hst => ⟨y3.1, y3.2.1, y3.2.2.1.take (Int.toNat (((l0_0).length : Int))), A13, cap13, fp11, y3.2.2.2.1, A14, cap14, fp12, y3.2.2.2.2, rfl, Fr.of hst (by kernel_rfl), F55, F29, F30, F31, F32, F33, F49, F50, F51, F37, F38, F39, F40, F41, F54, F53, hap7, hz3, hap8, D75, D76, D77, D78, D79, D80, D81, D82, D83, D84, D85, D86, D87, D88, (D74).symm, D91, D92, D93, D94, D95, D96, D97, D98, D99, D100, D101, D102, D103, D104, hB, hZ⟩)
       ·have hm := condF hb8 hm
        refine cW_skip ?_
        have hq : (some ((x6, x7, l5, l6, z3)) : Option (Int × Int × (List (Int)) × (List (Int)) × Bool)) = some _ := hm
        replace hq := someE hq
        subst hq
        exact eX_J (fun hst => ⟨x6, x7, l5, A7, cap7, fp6, l6, A8, cap8, fp7, z3, rfl, Fr.of hst (by kernel_rfl), F28, F29, F30, F31, F32, F33, F34, F35, F36, F37, F38, F39, F40, F41, F42, F43, hap2, hz2, hap3, D26, D27, D28, D29, D30, D31, D32, D33, D34, D35, D36, D37, D38, (D24).symm, D39, D40, D41, D42, D43, D44, D45, D46, D47, D48, D49, D50, D51, D52, (D25).symm, hB, hZ⟩)
     ·have hm := condF hb6 hm
      rewrite [hb6]
      refine wH_take [9, 10, 11, 12, 13, 14, 15, 16] [16, 15, 14, 13, 12, 11, 10, 9, 8, 7, 6, 5, 4, 3, 2, 1, 0] [(60, undef), (59, undef), (58, undef), (57, undef), (56, undef), (55, undef), (54, undef), (53, undef)] (by kernel_rfl) (qT (qT (qT (qB (qT (qL (qB (qT qZ)))))))) (by kernel_rfl) ?_
      refine wH_done (by kernel_rfl) ?_
      refine eX_tail ?_
      refine wS_pure 3 [(10, .bool (false)), (62, .bool (false)), (61, undef)] (by kernel_rfl) ?_
      refine wS_end (by rfl) ?_
      refine eX_then ?_
      refine cW_prune [(0, .pointer (some ⟨b0, 0, none⟩)), (1, .pointer (some ⟨b1, 0, none⟩)), (5, .pointer (some ⟨b5, 0, none⟩)), (6, .pointer (some ⟨b6, 0, none⟩)), (7, .pointer (some ⟨b7, 0, none⟩)), (9, .pointer (some ⟨b11, 0, none⟩)), (10, .bool (false))] (by kernel_rfl) (by kernel_rfl) (fun a5 => ?_)
      refine cW_seq ?_
      refine cW_region ?_
      refine wS_pure 2 [(64, .bool (false)), (63, .bool (false))] (by kernel_rfl) ?_
      refine wS_load1 (d := 65) (T := 77) (ad := ⟨b5, 0, none⟩) (v := .slice A5_0 (l5_0).length cap5_0) (by kernel_rfl) vt77 ((F38).cell 0) ?_
      refine wS_load1 (d := 66) (T := 3) (ad := ⟨b7, 0, none⟩) (v := .int .i64 (((l0_0).length : Int))) (by kernel_rfl) vt3 ((F40).cell 0) ?_
      obtain ⟨x13, hx5, hm⟩ := bindE hm
      refine wS_idx (d := 67) (T := 77) (A := A5_0) (n := (l5_0).length) (cap := cap5_0) (kd := .i64) (m := ((l0_0).length : Int)) (by kernel_rfl) sl77 (F37.is hx5) ?_
      obtain ⟨A15, cap15, hc26, F56, K2⟩ := SlR.row F37 hx5
      refine wS_load1 (d := 68) (T := 75) (ad := (elA A5_0 1 (((l0_0).length : Int)) 0)) (v := .slice A15 (x13).length cap15) (by kernel_rfl) vt75 hc26 ?_
      refine wS_pure 1 [(69, .func (.func 94) #[] #[.pointer (some ⟨b7, 0, none⟩), .pointer (some ⟨b0, 0, none⟩), .pointer (some ⟨b11, 0, none⟩)])] (by kernel_rfl) ?_
      obtain ⟨y5, hy5, hm⟩ := bindE hm
      refine wS_calls (d := 70) (f := 93) (vs := [.slice A15 (x13).length cap15, .func (.func 94) #[] #[.pointer (some ⟨b7, 0, none⟩), .pointer (some ⟨b0, 0, none⟩), .pointer (some ⟨b11, 0, none⟩)]]) (by kernel_rfl) ent93 (c_slices_ContainsFunc_int_int_impl_Wiring_best_1_1_bint_bint64_bint64 hy5 F56 F40 (F42.sl encI_ok) F28 F41) ?_
      rintro _ w27 ⟨rfl, hc27⟩
      replace F28 := F28.chg hc27 notNil
      replace F29 := F29.chg hc27 Dj.nil
      replace F30 := F30.chg hc27 Dj.nil
      replace F31 := F31.chg hc27 Dj.nil
      replace F32 := F32.chg hc27 notNil
      replace F33 := F33.chg hc27 notNil
      replace F34 := F34.chg hc27 notNil
      replace F35 := F35.chg hc27 notNil
      replace F36 := F36.chg hc27 notNil
      replace F37 := F37.chg hc27 Dj.nil
      replace F38 := F38.chg hc27 notNil
      replace F39 := F39.chg hc27 notNil
      replace F40 := F40.chg hc27 notNil
      replace F41 := F41.chg hc27 notNil
      replace F42 := F42.chg hc27 Dj.nil
      replace F43 := F43.chg hc27 Dj.nil
      replace F56 := F56.chg hc27 Dj.nil
      replace hB := hB.inS hc27 inNil
      replace hZ := Nat.le_trans hZ hc27.size
      refine ⟨.bool (y5), rfl, ?_⟩
      refine wS_pure 2 [(10, .bool (y5)), (71, .bool (y5))] (by kernel_rfl) ?_
      refine wS_end (by rfl) ?_
      refine eX_then ?_
      refine cW_seq ?_
      refine cW_region ?_
      refine wS_pure 2 [(73, .bool (!y5)), (72, .bool (y5))] (by kernel_rfl) ?_
      refine wS_end (by rfl) ?_
      refine eX_then ?_
      refine cW_cond (t := !y5) (by kernel_rfl) (fun hb9 => ?_) (fun hb9 => ?_)
      ·have hm := condT hb9 hm
       refine cW_seq ?_
       refine cW_region ?_
       refine wS_load1 (d := 74) (T := 25) (ad := ⟨b0, 0, none⟩) (v := .slice A7 (l5).length cap7) (by kernel_rfl) vt25 ((F28).cell 0) ?_
       refine wS_load1 (d := 75) (T := 2) (ad := ⟨b11, 0, none⟩) (v := .int .i64 (x5)) (by kernel_rfl) vt2 ((F41).cell 0) ?_
       refine wS_bs (enc := encI) ([x5] : List (Int)) [.int .i64 (x5)] (d := 76) (t := 25) (T := 2) (n := 1) (ps := [(0, .int .i64 (x5))]) (by kernel_rfl) el25 encI_ok (by rfl) (by omega) (by omega) (by kernel_rfl) (by rfl) ?_
       intro b13 w28 G9 F57 hc28
       have D107 : Dj [b7] [b13] := Dj.of (lt1 F40.lt) (low1 G9)
       have D108 : Dj [b11] [b13] := Dj.of (lt1 F41.lt) (low1 G9)
       have D109 : Dj fp6 [b13] := Dj.of F42.low (low1 G9)
       have D110 : Dj fp7 [b13] := Dj.of F43.low (low1 G9)
       replace F28 := F28.chg hc28 notNil
       replace F29 := F29.chg hc28 Dj.nil
       replace F30 := F30.chg hc28 Dj.nil
       replace F31 := F31.chg hc28 Dj.nil
       replace F32 := F32.chg hc28 notNil
       replace F33 := F33.chg hc28 notNil
       replace F34 := F34.chg hc28 notNil
       replace F35 := F35.chg hc28 notNil
       replace F36 := F36.chg hc28 notNil
       replace F37 := F37.chg hc28 Dj.nil
       replace F38 := F38.chg hc28 notNil
       replace F39 := F39.chg hc28 notNil
       replace F40 := F40.chg hc28 notNil
       replace F41 := F41.chg hc28 notNil
       replace F42 := F42.chg hc28 Dj.nil
       replace F43 := F43.chg hc28 Dj.nil
       replace F56 := F56.chg hc28 Dj.nil
       replace hB := hB.inS hc28 inNil
       replace G9 := Nat.le_trans hZ G9
       replace G9 := low1 G9
       replace hZ := Nat.le_trans hZ hc28.size
       obtain ⟨_, hk4, hm⟩ := bindE hm
       replace hk4 := apE hk4
       refine wS_append (enc := encI) (l := (l5 : List (Int))) (l2 := (([x5] : List (Int)) : List (Int))) (d := 77) (t := 25) (T := 2) (A := A7) (A2 := (some ⟨b13, 0, none⟩)) (cap := cap7) (cap2 := 1) (by kernel_rfl) el25 encI_ok F42 (F57.sl encI_ok) (by rfl) hk4 ?_
       intro w29 fp13 A16 cap16 F58 hc29 hp4
       have hap9 := Rt.of hp4 hZ hap2
       have D111 : Dj [b0] fp13 := Dj.ap D26 (lt1 F28.lt) hp4
       have D112 : Dj fp1_0_1 fp13 := Dj.ap D27 F29.low hp4
       have D113 : Dj fp1_0_2 fp13 := Dj.ap D28 F30.low hp4
       have D114 : Dj fp1_0_3 fp13 := Dj.ap D29 F31.low hp4
       have D115 : Dj [b1_0] fp13 := Dj.ap D30 (lt1 F32.lt) hp4
       have D116 : Dj [b1] fp13 := Dj.ap D31 (lt1 F33.lt) hp4
       have D117 : Dj [b2] fp13 := Dj.ap D32 (lt1 F34.lt) hp4
       have D118 : Dj [b3] fp13 := Dj.ap D33 (lt1 F35.lt) hp4
       have D119 : Dj [b4] fp13 := Dj.ap D34 (lt1 F36.lt) hp4
       have D120 : Dj fp5_0 fp13 := Dj.ap D35 F37.low hp4
       have D121 : Dj [b5] fp13 := Dj.ap D36 (lt1 F38.lt) hp4
       have D122 : Dj [b6] fp13 := Dj.ap D37 (lt1 F39.lt) hp4
       have D123 : Dj [b7] fp13 := Dj.ap D38 (lt1 F40.lt) hp4
       have D124 : Dj [b11] fp13 := Dj.ap (D24).symm (lt1 F41.lt) hp4
       have D125 : Dj fp7 fp13 := Dj.ap D39 F43.low hp4
       have D126 : Dj fp5_0 fp13 := Dj.ap D35 F56.low hp4
       have D127 : Dj [b13] fp13 := Dj.ap (D109).symm F57.low hp4
       replace F28 := F28.chg hc29 (dj1 D26)
       replace F29 := F29.chg hc29 D27
       replace F30 := F30.chg hc29 D28
       replace F31 := F31.chg hc29 D29
       replace F32 := F32.chg hc29 (dj1 D30)
       replace F33 := F33.chg hc29 (dj1 D31)
       replace F34 := F34.chg hc29 (dj1 D32)
       replace F35 := F35.chg hc29 (dj1 D33)
       replace F36 := F36.chg hc29 (dj1 D34)
       replace F37 := F37.chg hc29 D35
       replace F38 := F38.chg hc29 (dj1 D36)
       replace F39 := F39.chg hc29 (dj1 D37)
       replace F40 := F40.chg hc29 (dj1 D38)
       replace F41 := F41.chg hc29 (dj1 (D24).symm)
       replace F43 := F43.chg hc29 D39
       replace F56 := F56.chg hc29 D35
       replace F57 := F57.chg hc29 (D109).symm
       replace hB := hB.inS hc29 (inRt hap2 (fun x hx => (List.mem_append_right _ (List.mem_append_right _ (List.mem_append_right _ (List.mem_append_right _ (List.mem_append_left _ hx)))))))
       replace hZ := Nat.le_trans hZ hc29.size
       refine wS_store (T := 25) (g := b0) (o := 0) (ad := ⟨b0, 0, none⟩) (v := .slice A16 (l5 ++ (([x5] : List (Int)))).length cap16) (vs := [.slice A16 (l5 ++ (([x5] : List (Int)))).length cap16]) (by kernel_rfl) (by rfl) sz25 (by rfl) (by rfl) F28 (by simp only [List.length_cons, List.length_nil]; omega) ?_
       intro w30 F59 hc30
       replace F29 := F29.chg hc30 (J0__1_0_1).symm
       replace F30 := F30.chg hc30 (J0__1_0_2).symm
       replace F31 := F31.chg hc30 (J0__1_0_3).symm
       replace F32 := F32.chg hc30 (dj1 (J0__1_0).symm)
       replace F33 := F33.chg hc30 (dj1 (J0__1).symm)
       replace F34 := F34.chg hc30 (dj1 (J0__2).symm)
       replace F35 := F35.chg hc30 (dj1 (J0__3).symm)
       replace F36 := F36.chg hc30 (dj1 (J0__4).symm)
       replace F37 := F37.chg hc30 (J0__5_0).symm
       replace F38 := F38.chg hc30 (dj1 (J0__5).symm)
       replace F39 := F39.chg hc30 (dj1 (J0__6).symm)
       replace F40 := F40.chg hc30 (dj1 (Dj.of L0 (low1 G1)).symm)
       replace F41 := F41.chg hc30 (dj1 (Dj.of L0 (low1 G7)).symm)
       replace F43 := F43.chg hc30 (D40).symm
       replace F56 := F56.chg hc30 (J0__5_0).symm
       replace F57 := F57.chg hc30 (Dj.of L0 G9).symm
       replace F58 := F58.chg hc30 (D111).symm
       replace hB := hB.inS hc30 (inMem (fun x hx => (List.mem_append_left _ hx)))
       replace hZ := Nat.le_trans hZ hc30.size
       replace F59 : Cl w30 b0 25 [.slice A16 (l5 ++ (([x5] : List (Int)))).length cap16] := F59
       clear F28
       refine wS_end (by rfl) ?_
       refine eX_then ?_
       refine cW_seq ?_
       refine cW_region ?_
       refine wS_load1 (d := 78) (T := 1) (ad := ⟨b6, 0, none⟩) (v := .func (.func 91) #[] #[.pointer (some ⟨b0, 0, none⟩), .pointer (some ⟨b1, 0, none⟩), .pointer (some ⟨b2, 0, none⟩), .pointer (some ⟨b3, 0, none⟩), .pointer (some ⟨b4, 0, none⟩), .pointer (some ⟨b5, 0, none⟩), .pointer (some ⟨b6, 0, none⟩)]) (by kernel_rfl) vt1 ((F39).cell 0) ?_
       obtain ⟨y6, hy6, hm⟩ := bindE hm
       refine wS_calls (d := 79) (f := 91) (vs := [.pointer (some ⟨b0, 0, none⟩), .pointer (some ⟨b1, 0, none⟩), .pointer (some ⟨b2, 0, none⟩), .pointer (some ⟨b3, 0, none⟩), .pointer (some ⟨b4, 0, none⟩), .pointer (some ⟨b5, 0, none⟩), .pointer (some ⟨b6, 0, none⟩)]) (by kernel_rfl) ent91 (hR hy6 F58 F59 F29 F30 F31 F32 F33 F43 hz2 F34 F35 F36 F37 F38 F39 D111 J0__1_0_1 J0__1_0_2 J0__1_0_3 J0__1_0 J0__1 D40 J0__2 J0__3 J0__4 J0__5_0 J0__5 J0__6 D117 J2__1_0_1 J2__1_0_2 J2__1_0_3 J2__1_0 J2__1 D46 J2__3 J2__4 J2__5_0 J2__5 J2__6 D118 J3__1_0_1 J3__1_0_2 J3__1_0_3 J3__1_0 J3__1 D47 J3__4 J3__5_0 J3__5 J3__6 D119 J4__1_0_1 J4__1_0_2 J4__1_0_3 J4__1_0 J4__1 D48 J4__5_0 J4__5 J4__6 (D112).symm (D113).symm (D114).symm (D115).symm (D116).symm (D125).symm (D120).symm (D121).symm (D122).symm (D41).symm (D42).symm (D43).symm (D44).symm (D45).symm (D49).symm (D50).symm (D51).symm) ?_
       rintro _ w31 ⟨A17, cap17, fp14, A18, cap18, fp15, rfl, D128, F60, F61, F62, F63, F64, hap10, F65, hap11, hz4, hc31⟩
       have hap12 := Rt.of hap10 hZ hap9
       have D129 : Dj [b0] fp14 := Dj.ap D111 (lt1 F59.lt) hap10
       have D130 : Dj fp1_0_1 fp14 := Dj.ap D112 F29.low hap10
       have D131 : Dj fp1_0_2 fp14 := Dj.ap D113 F30.low hap10
       have D132 : Dj fp1_0_3 fp14 := Dj.ap D114 F31.low hap10
       have D133 : Dj [b1_0] fp14 := Dj.ap D115 (lt1 F32.lt) hap10
       have D134 : Dj [b1] fp14 := Dj.ap D116 (lt1 F33.lt) hap10
       have D135 : Dj [b2] fp14 := Dj.ap D117 (lt1 F34.lt) hap10
       have D136 : Dj [b3] fp14 := Dj.ap D118 (lt1 F35.lt) hap10
       have D137 : Dj [b4] fp14 := Dj.ap D119 (lt1 F36.lt) hap10
       have D138 : Dj fp5_0 fp14 := Dj.ap D120 F37.low hap10
       have D139 : Dj [b5] fp14 := Dj.ap D121 (lt1 F38.lt) hap10
       have D140 : Dj [b6] fp14 := Dj.ap D122 (lt1 F39.lt) hap10
       have D141 : Dj [b7] fp14 := Dj.ap D123 (lt1 F40.lt) hap10
       have D142 : Dj [b11] fp14 := Dj.ap D124 (lt1 F41.lt) hap10
       have D143 : Dj fp5_0 fp14 := Dj.ap D126 F56.low hap10
       have D144 : Dj [b13] fp14 := Dj.ap D127 F57.low hap10
       have hap13 := Rt.of hap11 hZ hap3
       have D145 : Dj [b0] fp15 := Dj.ap D40 (lt1 F59.lt) hap11
       have D146 : Dj fp1_0_1 fp15 := Dj.ap D41 F29.low hap11
       have D147 : Dj fp1_0_2 fp15 := Dj.ap D42 F30.low hap11
       have D148 : Dj fp1_0_3 fp15 := Dj.ap D43 F31.low hap11
       have D149 : Dj [b1_0] fp15 := Dj.ap D44 (lt1 F32.lt) hap11
       have D150 : Dj [b1] fp15 := Dj.ap D45 (lt1 F33.lt) hap11
       have D151 : Dj [b2] fp15 := Dj.ap D46 (lt1 F34.lt) hap11
       have D152 : Dj [b3] fp15 := Dj.ap D47 (lt1 F35.lt) hap11
       have D153 : Dj [b4] fp15 := Dj.ap D48 (lt1 F36.lt) hap11
       have D154 : Dj fp5_0 fp15 := Dj.ap D49 F37.low hap11
       have D155 : Dj [b5] fp15 := Dj.ap D50 (lt1 F38.lt) hap11
       have D156 : Dj [b6] fp15 := Dj.ap D51 (lt1 F39.lt) hap11
       have D157 : Dj [b7] fp15 := Dj.ap D52 (lt1 F40.lt) hap11
       have D158 : Dj [b11] fp15 := Dj.ap (D25).symm (lt1 F41.lt) hap11
       have D159 : Dj fp5_0 fp15 := Dj.ap D49 F56.low hap11
       have D160 : Dj [b13] fp15 := Dj.ap (D110).symm F57.low hap11
       replace F29 := F29.chg hc31 (Dj.app (J0__1_0_1).symm (Dj.app (J2__1_0_1).symm (Dj.app (J3__1_0_1).symm (Dj.app (J4__1_0_1).symm (Dj.app D112 (Dj.app D41 Dj.nil))))))
       replace F30 := F30.chg hc31 (Dj.app (J0__1_0_2).symm (Dj.app (J2__1_0_2).symm (Dj.app (J3__1_0_2).symm (Dj.app (J4__1_0_2).symm (Dj.app D113 (Dj.app D42 Dj.nil))))))
       replace F31 := F31.chg hc31 (Dj.app (J0__1_0_3).symm (Dj.app (J2__1_0_3).symm (Dj.app (J3__1_0_3).symm (Dj.app (J4__1_0_3).symm (Dj.app D114 (Dj.app D43 Dj.nil))))))
       replace F32 := F32.chg hc31 (dj1 (Dj.app (J0__1_0).symm (Dj.app (J2__1_0).symm (Dj.app (J3__1_0).symm (Dj.app (J4__1_0).symm (Dj.app D115 (Dj.app D44 Dj.nil)))))))
       replace F33 := F33.chg hc31 (dj1 (Dj.app (J0__1).symm (Dj.app (J2__1).symm (Dj.app (J3__1).symm (Dj.app (J4__1).symm (Dj.app D116 (Dj.app D45 Dj.nil)))))))
       replace F37 := F37.chg hc31 (Dj.app (J0__5_0).symm (Dj.app (J2__5_0).symm (Dj.app (J3__5_0).symm (Dj.app (J4__5_0).symm (Dj.app D120 (Dj.app D49 Dj.nil))))))
       replace F38 := F38.chg hc31 (dj1 (Dj.app (J0__5).symm (Dj.app (J2__5).symm (Dj.app (J3__5).symm (Dj.app (J4__5).symm (Dj.app D121 (Dj.app D50 Dj.nil)))))))
       replace F39 := F39.chg hc31 (dj1 (Dj.app (J0__6).symm (Dj.app (J2__6).symm (Dj.app (J3__6).symm (Dj.app (J4__6).symm (Dj.app D122 (Dj.app D51 Dj.nil)))))))
       replace F40 := F40.chg hc31 (dj1 (Dj.app (Dj.of L0 (low1 G1)).symm (Dj.app (Dj.of L2 (low1 G1)).symm (Dj.app (Dj.of L3 (low1 G1)).symm (Dj.app (Dj.of L4 (low1 G1)).symm (Dj.app D123 (Dj.app D52 Dj.nil)))))))
       replace F41 := F41.chg hc31 (dj1 (Dj.app (Dj.of L0 (low1 G7)).symm (Dj.app (Dj.of L2 (low1 G7)).symm (Dj.app (Dj.of L3 (low1 G7)).symm (Dj.app (Dj.of L4 (low1 G7)).symm (Dj.app D124 (Dj.app (D25).symm Dj.nil)))))))
       replace F56 := F56.chg hc31 (Dj.app (J0__5_0).symm (Dj.app (J2__5_0).symm (Dj.app (J3__5_0).symm (Dj.app (J4__5_0).symm (Dj.app D126 (Dj.app D49 Dj.nil))))))
       replace F57 := F57.chg hc31 (Dj.app (Dj.of L0 G9).symm (Dj.app (Dj.of L2 G9).symm (Dj.app (Dj.of L3 G9).symm (Dj.app (Dj.of L4 G9).symm (Dj.app D127 (Dj.app (D110).symm Dj.nil))))))
       replace hB := hB.inS hc31 (inApp (inMem (fun x hx => (List.mem_append_left _ hx))) (inApp (inMem (fun x hx => (List.mem_append_right _ (List.mem_append_left _ hx)))) (inApp (inMem (fun x hx => (List.mem_append_right _ (List.mem_append_right _ (List.mem_append_left _ hx))))) (inApp (inMem (fun x hx => (List.mem_append_right _ (List.mem_append_right _ (List.mem_append_right _ (List.mem_append_left _ hx)))))) (inApp (inRt hap9 (fun x hx => (List.mem_append_right _ (List.mem_append_right _ (List.mem_append_right _ (List.mem_append_right _ (List.mem_append_left _ hx))))))) (inApp (inRt hap3 (fun x hx => (List.mem_append_right _ (List.mem_append_right _ (List.mem_append_right _ (List.mem_append_right _ (List.mem_append_right _ (List.mem_append_left _ hx)))))))) inNil))))))
       replace hZ := Nat.le_trans hZ hc31.size
       clear F59
       clear F34
       clear F35
       clear F36
       refine ⟨.tuple #[], rfl, ?_⟩
       refine wS_end (by rfl) ?_
       refine eX_then ?_
       refine cW_prune [(0, .pointer (some ⟨b0, 0, none⟩)), (1, .pointer (some ⟨b1, 0, none⟩)), (5, .pointer (some ⟨b5, 0, none⟩)), (6, .pointer (some ⟨b6, 0, none⟩)), (7, .pointer (some ⟨b7, 0, none⟩)), (9, .pointer (some ⟨b11, 0, none⟩))] (by kernel_rfl) (by kernel_rfl) (fun a6 => ?_)
       refine cW_region ?_
       refine wS_load1 (d := 80) (T := 25) (ad := ⟨b0, 0, none⟩) (v := .slice A17 (y6.2.2.1).length cap17) (by kernel_rfl) vt25 ((F60).cell 0) ?_
       refine wS_load1 (d := 81) (T := 3) (ad := ⟨b7, 0, none⟩) (v := .int .i64 (((l0_0).length : Int))) (by kernel_rfl) vt3 ((F40).cell 0) ?_
       obtain ⟨y7, hy7, hm⟩ := bindE hm
       refine wS_prefix (k := 1) (enc := encI) (U := 2) (l := y6.2.2.1) (d := 82) (T := 25) (A := A17) (cap := cap17) (hi := ((l0_0).length : Int)) (by kernel_rfl) sl25 encI_ok F64 F64.cap_le hy7 ?_
       intro hpe F66
       subst hpe
       refine wS_store (T := 25) (g := b0) (o := 0) (ad := ⟨b0, 0, none⟩) (v := .slice A17 (y6.2.2.1.take (Int.toNat (((l0_0).length : Int)))).length cap17) (vs := [.slice A17 (y6.2.2.1.take (Int.toNat (((l0_0).length : Int)))).length cap17]) (by kernel_rfl) (by rfl) sz25 (by rfl) (by rfl) F60 (by simp only [List.length_cons, List.length_nil]; omega) ?_
       intro w32 F67 hc32
       replace F29 := F29.chg hc32 (J0__1_0_1).symm
       replace F30 := F30.chg hc32 (J0__1_0_2).symm
       replace F31 := F31.chg hc32 (J0__1_0_3).symm
       replace F32 := F32.chg hc32 (dj1 (J0__1_0).symm)
       replace F33 := F33.chg hc32 (dj1 (J0__1).symm)
       replace F61 := F61.chg hc32 (dj1 (J0__2).symm)
       replace F62 := F62.chg hc32 (dj1 (J0__3).symm)
       replace F63 := F63.chg hc32 (dj1 (J0__4).symm)
       replace F37 := F37.chg hc32 (J0__5_0).symm
       replace F38 := F38.chg hc32 (dj1 (J0__5).symm)
       replace F39 := F39.chg hc32 (dj1 (J0__6).symm)
       replace F40 := F40.chg hc32 (dj1 (Dj.of L0 (low1 G1)).symm)
       replace F41 := F41.chg hc32 (dj1 (Dj.of L0 (low1 G7)).symm)
       replace F56 := F56.chg hc32 (J0__5_0).symm
       replace F57 := F57.chg hc32 (Dj.of L0 G9).symm
       replace F66 := F66.chg hc32 (D129).symm
       replace F65 := F65.chg hc32 (D145).symm
       replace hB := hB.inS hc32 (inMem (fun x hx => (List.mem_append_left _ hx)))
       replace hZ := Nat.le_trans hZ hc32.size
       replace F67 : Cl w32 b0 25 [.slice A17 (y6.2.2.1.take (Int.toNat (((l0_0).length : Int)))).length cap17] := F67
       clear F60
       refine wS_end (by rfl) ?_
       have hq : (some ((y6.1, y6.2.1, y6.2.2.1.take (Int.toNat (((l0_0).length : Int))), y6.2.2.2.1, y6.2.2.2.2)) : Option (Int × Int × (List (Int)) × (List (Int)) × Bool)) = some _ := hm
       replace hq := someE hq
       subst hq
       exact eX_J (fun hst => ⟨y6.1, y6.2.1, y6.2.2.1.take (Int.toNat (((l0_0).length : Int))), A17, cap17, fp14, y6.2.2.2.1, A18, cap18, fp15, y6.2.2.2.2, rfl, Fr.of hst (by kernel_rfl), F67, F29, F30, F31, F32, F33, F61, F62, F63, F37, F38, F39, F40, F41, F66, F65, hap12, hz4, hap13, D129, D130, D131, D132, D133, D134, D135, D136, D137, D138, D139, D140, D141, D142, (D128).symm, D145, D146, D147, D148, D149, D150, D151, D152, D153, D154, D155, D156, D157, D158, hB, hZ⟩)
      ·have hm := condF hb9 hm
       refine cW_skip ?_
       have hq : (some ((x6, x7, l5, l6, z3)) : Option (Int × Int × (List (Int)) × (List (Int)) × Bool)) = some _ := hm
       replace hq := someE hq
       subst hq
       exact eX_J (fun hst => ⟨x6, x7, l5, A7, cap7, fp6, l6, A8, cap8, fp7, z3, rfl, Fr.of hst (by kernel_rfl), F28, F29, F30, F31, F32, F33, F34, F35, F36, F37, F38, F39, F40, F41, F42, F43, hap2, hz2, hap3, D26, D27, D28, D29, D30, D31, D32, D33, D34, D35, D36, D37, D38, (D24).symm, D39, D40, D41, D42, D43, D44, D45, D46, D47, D48, D49, D50, D51, D52, (D25).symm, hB, hZ⟩)
    ·rintro a' w33 ⟨x8, x9, l7, A9, cap9, fp8, l8, A10, cap10, fp9, z4, hJ, hF3, F68, F69, F70, F71, F72, F73, F74, F75, F76, F77, F78, F79, F80, F81, F82, F83, hap14, hz5, hap15, D161, D162, D163, D164, D165, D166, D167, D168, D169, D170, D171, D172, D173, D174, D175, D176, D177, D178, D179, D180, D181, D182, D183, D184, D185, D186, D187, D188, D189, hB, hZ⟩
     subst hJ
     refine Fr.goX hF3 (by kernel_rfl) ?_
     refine eX_block ?_
     refine eX_then ?_
     refine cW_seq ?_
     refine cW_seq ?_
     refine cW_region ?_
     refine wS_load1 (d := 83) (T := 2) (ad := ⟨b11, 0, none⟩) (v := .int .i64 (x5)) (by kernel_rfl) vt2 ((F81).cell 0) ?_
     refine wS_end (by rfl) ?_
     refine eX_then ?_
     refine cW_region ?_
     refine wS_alloc (d := 9) (T := 2) (z := .int .i64 (0)) (by kernel_rfl) (by kernel_rfl) ?_
     intro b14 w34 G10 F84 hc33
     replace F84 : Cl w34 b14 2 [.int .i64 (0)] := F84
     have D190 : Dj [b7] [b14] := Dj.of (lt1 F80.lt) (low1 G10)
     have D191 : Dj [b11] [b14] := Dj.of (lt1 F81.lt) (low1 G10)
     have D192 : Dj fp8 [b14] := Dj.of F82.low (low1 G10)
     have D193 : Dj fp9 [b14] := Dj.of F83.low (low1 G10)
     replace F68 := F68.chg hc33 notNil
     replace F69 := F69.chg hc33 Dj.nil
     replace F70 := F70.chg hc33 Dj.nil
     replace F71 := F71.chg hc33 Dj.nil
     replace F72 := F72.chg hc33 notNil
     replace F73 := F73.chg hc33 notNil
     replace F74 := F74.chg hc33 notNil
     replace F75 := F75.chg hc33 notNil
     replace F76 := F76.chg hc33 notNil
     replace F77 := F77.chg hc33 Dj.nil
     replace F78 := F78.chg hc33 notNil
     replace F79 := F79.chg hc33 notNil
     replace F80 := F80.chg hc33 notNil
     replace F81 := F81.chg hc33 notNil
     replace F82 := F82.chg hc33 Dj.nil
     replace F83 := F83.chg hc33 Dj.nil
     replace hB := hB.inS hc33 inNil
     replace G10 := Nat.le_trans hZ G10
     replace hZ := Nat.le_trans hZ hc33.size
     refine wS_store (T := 2) (g := b14) (o := 0) (ad := ⟨b14, 0, none⟩) (v := .int .i64 (x5)) (vs := [.int .i64 (x5)]) (by kernel_rfl) (by rfl) sz2 (by rfl) (by rfl) F84 (by simp only [List.length_cons, List.length_nil]; omega) ?_
     intro w35 F85 hc34
     replace F68 := F68.chg hc34 (dj1 (Dj.of L0 (low1 G10)))
     replace F69 := F69.chg hc34 (Dj.of L1_0_1 (low1 G10))
     replace F70 := F70.chg hc34 (Dj.of L1_0_2 (low1 G10))
     replace F71 := F71.chg hc34 (Dj.of L1_0_3 (low1 G10))
     replace F72 := F72.chg hc34 (dj1 (Dj.of L1_0 (low1 G10)))
     replace F73 := F73.chg hc34 (dj1 (Dj.of L1 (low1 G10)))
     replace F74 := F74.chg hc34 (dj1 (Dj.of L2 (low1 G10)))
     replace F75 := F75.chg hc34 (dj1 (Dj.of L3 (low1 G10)))
     replace F76 := F76.chg hc34 (dj1 (Dj.of L4 (low1 G10)))
     replace F77 := F77.chg hc34 (Dj.of L5_0 (low1 G10))
     replace F78 := F78.chg hc34 (dj1 (Dj.of L5 (low1 G10)))
     replace F79 := F79.chg hc34 (dj1 (Dj.of L6 (low1 G10)))
     replace F80 := F80.chg hc34 (dj1 D190)
     replace F81 := F81.chg hc34 (dj1 D191)
     replace F82 := F82.chg hc34 D192
     replace F83 := F83.chg hc34 D193
     replace hB := hB.inS hc34 (inLow (low1 G10))
     replace hZ := Nat.le_trans hZ hc34.size
     replace F85 : Cl w35 b14 2 [.int .i64 (x5)] := F85
     clear F84
     refine wS_end (by rfl) ?_
     refine eX_then ?_
     refine cW_region ?_
     refine wS_load1 (d := 42) (T := 2) (ad := ⟨b14, 0, none⟩) (v := .int .i64 (x5)) (by kernel_rfl) vt2 ((F85).cell 0) ?_
     refine wS_pure 1 [(43, .int .i64 (wr (x5 + 1)))] (by kernel_rfl) ?_
     refine wS_store (T := 2) (g := b14) (o := 0) (ad := ⟨b14, 0, none⟩) (v := .int .i64 (wr (x5 + 1))) (vs := [.int .i64 (wr (x5 + 1))]) (by kernel_rfl) (by rfl) sz2 (by rfl) (by rfl) F85 (by simp only [List.length_cons, List.length_nil]; omega) ?_
     intro w36 F86 hc35
     replace F68 := F68.chg hc35 (dj1 (Dj.of L0 (low1 G10)))
     replace F69 := F69.chg hc35 (Dj.of L1_0_1 (low1 G10))
     replace F70 := F70.chg hc35 (Dj.of L1_0_2 (low1 G10))
     replace F71 := F71.chg hc35 (Dj.of L1_0_3 (low1 G10))
     replace F72 := F72.chg hc35 (dj1 (Dj.of L1_0 (low1 G10)))
     replace F73 := F73.chg hc35 (dj1 (Dj.of L1 (low1 G10)))
     replace F74 := F74.chg hc35 (dj1 (Dj.of L2 (low1 G10)))
     replace F75 := F75.chg hc35 (dj1 (Dj.of L3 (low1 G10)))
     replace F76 := F76.chg hc35 (dj1 (Dj.of L4 (low1 G10)))
     replace F77 := F77.chg hc35 (Dj.of L5_0 (low1 G10))
     replace F78 := F78.chg hc35 (dj1 (Dj.of L5 (low1 G10)))
     replace F79 := F79.chg hc35 (dj1 (Dj.of L6 (low1 G10)))
     replace F80 := F80.chg hc35 (dj1 D190)
     replace F81 := F81.chg hc35 (dj1 D191)
     replace F82 := F82.chg hc35 D192
     replace F83 := F83.chg hc35 D193
     replace hB := hB.inS hc35 (inLow (low1 G10))
     replace hZ := Nat.le_trans hZ hc35.size
     replace F86 : Cl w36 b14 2 [.int .i64 (wr (x5 + 1))] := F86
     clear F85
     refine wS_end (by rfl) ?_
     have hq : (some (Ctl.next ((wr (x5 + 1), x8, x9, l7, l8, z4))) : Option (Ctl (Int × Int × Int × (List (Int)) × (List (Int)) × Bool) (Int × Int × (List (Int)) × (List (Int)) × Bool))) = some _ := hm
     replace hq := someE hq
     subst hq
     exact eX_next hx1 (fun hst => ⟨b14, wr (x5 + 1), x8, x9, l7, A9, cap9, fp8, l8, A10, cap10, fp9, z4, rfl, Fr.of hst (by kernel_rfl), F68, F69, F70, F71, F72, F73, F74, F75, F76, F77, F78, F79, F80, F86, F82, F83, G10, hap14, hz5, hap15, D190, D192, D193, D161, D162, D163, D164, D165, D166, D167, D168, D169, D170, D171, D172, D173, D175, D176, D177, D178, D179, D180, D181, D182, D183, D184, D185, D186, D187, D188, hB, hZ⟩)
   ·have hm := condF hb5 hm
    refine cW_exit ?_
    refine eX_then_exit ?_
    have hq : (some (Ctl.out ((x6, x7, l5, l6, z3))) : Option (Ctl (Int × Int × Int × (List (Int)) × (List (Int)) × Bool) (Int × Int × (List (Int)) × (List (Int)) × Bool))) = some _ := hm
    replace hq := someE hq
    subst hq
    refine eX_outX hx1 (fun hr2 => ?_)
    replace hr2 := hr2.symm
    subst hr2
    refine eX_block_hit ?_
    exact eX_J (fun hst => ⟨x6, x7, l5, A7, cap7, fp6, l6, A8, cap8, fp7, z3, rfl, Fr.of hst (by kernel_rfl), F28, F34, F35, F36, F42, F43, hap2, hz2, hap3, D26, D32, D33, D34, D39, D40, D46, D47, D48, hB, hZ⟩)
  ·rintro a' w37 ⟨x3, x4, l3, A5, cap5, fp4, l4, A6, cap6, fp5, z2, hJ, hF4, F87, F88, F89, F90, F91, F92, hap16, hz6, hap17, D194, D195, D196, D197, D198, D199, D200, D201, D202, hB, hZ⟩
   subst hJ
   refine Fr.goX hF4 (by kernel_rfl) ?_
   have hq : (some ((x3, x4, l3, l4, z2)) : Option ((Int) × (Int) × (List (Int)) × (List (Int)) × (Bool))) = some _ := hm
   replace hq := someE hq
   subst hq
   refine eX_fall (vs := []) [] (by rfl) trivial ?_
   exact ⟨A5, cap5, fp4, A6, cap6, fp5, rfl, (D198).symm, F87, F88, F89, F90, F91, hap16, F92, hap17, hz6, hB⟩
set_option maxRecDepth 100000 in
theorem c_impl_Wiring_best_1_bint64_bimplWiring_bimplWiring_bint64_bint64_bint64_bimplgraph_bfunc_self (n : Nat) : ∀ {w0 : World} {l0_0 : List (Int)} {A0_0 : Option Addr} {cap0_0 : Nat} {fp0_0 : List Nat} {b0 : Nat} {q1_0_0 : Int} {l1_0_1 : List (List (Int))} {A1_0_1 : Option Addr} {cap1_0_1 : Nat} {fp1_0_1 : List Nat} {l1_0_2 : List (List (Int))} {A1_0_2 : Option Addr} {cap1_0_2 : Nat} {fp1_0_2 : List Nat} {l1_0_3 : List (Int)} {A1_0_3 : Option Addr} {cap1_0_3 : Nat} {fp1_0_3 : List Nat} {b1_0 : Nat} {b1 : Nat} {l2_0 : List (Int)} {A2_0 : Option Addr} {cap2_0 : Nat} {fp2_0 : List Nat} {z2_0 : Bool} {b2 : Nat} {q3_0 : Int} {b3 : Nat} {q4_0 : Int} {b4 : Nat} {l5_0 : List (List (Int))} {A5_0 : Option Addr} {cap5_0 : Nat} {fp5_0 : List Nat} {b5 : Nat} {b6 : Nat} {r : (Int) × (Int) × (List (Int)) × (List (Int)) × (Bool)} (hm : m_impl_Wiring_best_1_bint64_bimplWiring_bimplWiring_bint64_bint64_bint64_bimplgraph_bfunc_self n l0_0 q1_0_0 l1_0_1 l1_0_2 l1_0_3 l2_0 z2_0 q3_0 q4_0 l5_0 = some r) (F0_0 : Ow 1 encI 2 w0 fp0_0 A0_0 cap0_0 l0_0) (F0 : Cl w0 b0 25 [.slice A0_0 (l0_0).length cap0_0]) (F1_0_1 : SlR 1 encI w0 fp1_0_1 A1_0_1 l1_0_1) (F1_0_2 : SlR 1 encI w0 fp1_0_2 A1_0_2 l1_0_2) (F1_0_3 : Sl 1 encI w0 fp1_0_3 A1_0_3 l1_0_3) (F1_0 : Cl w0 b1_0 27 [.int .i64 (q1_0_0), .slice A1_0_1 (l1_0_1).length cap1_0_1, .slice A1_0_2 (l1_0_2).length cap1_0_2, .slice A1_0_3 (l1_0_3).length cap1_0_3]) (F1 : Cl w0 b1 87 [.pointer (some ⟨b1_0, 0, none⟩)]) (F2_0 : Ow 1 encI 2 w0 fp2_0 A2_0 cap2_0 l2_0) (Z2_0 : A2_0.isNone = z2_0) (F2 : Cl w0 b2 25 [.slice A2_0 (l2_0).length cap2_0]) (F3 : Cl w0 b3 2 [.int .i64 (q3_0)]) (F4 : Cl w0 b4 2 [.int .i64 (q4_0)]) (F5_0 : SlR 1 encI w0 fp5_0 A5_0 l5_0) (F5 : Cl w0 b5 77 [.slice A5_0 (l5_0).length cap5_0]) (F6 : Cl w0 b6 1 [.func (.func 91) #[] #[.pointer (some ⟨b0, 0, none⟩), .pointer (some ⟨b1, 0, none⟩), .pointer (some ⟨b2, 0, none⟩), .pointer (some ⟨b3, 0, none⟩), .pointer (some ⟨b4, 0, none⟩), .pointer (some ⟨b5, 0, none⟩), .pointer (some ⟨b6, 0, none⟩)]]) (J0__0_0 : Dj [b0] fp0_0) (J0__1_0_1 : Dj [b0] fp1_0_1) (J0__1_0_2 : Dj [b0] fp1_0_2) (J0__1_0_3 : Dj [b0] fp1_0_3) (J0__1_0 : Dj [b0] [b1_0]) (J0__1 : Dj [b0] [b1]) (J0__2_0 : Dj [b0] fp2_0) (J0__2 : Dj [b0] [b2]) (J0__3 : Dj [b0] [b3]) (J0__4 : Dj [b0] [b4]) (J0__5_0 : Dj [b0] fp5_0) (J0__5 : Dj [b0] [b5]) (J0__6 : Dj [b0] [b6]) (J2__0_0 : Dj [b2] fp0_0) (J2__1_0_1 : Dj [b2] fp1_0_1) (J2__1_0_2 : Dj [b2] fp1_0_2) (J2__1_0_3 : Dj [b2] fp1_0_3) (J2__1_0 : Dj [b2] [b1_0]) (J2__1 : Dj [b2] [b1]) (J2__2_0 : Dj [b2] fp2_0) (J2__3 : Dj [b2] [b3]) (J2__4 : Dj [b2] [b4]) (J2__5_0 : Dj [b2] fp5_0) (J2__5 : Dj [b2] [b5]) (J2__6 : Dj [b2] [b6]) (J3__0_0 : Dj [b3] fp0_0) (J3__1_0_1 : Dj [b3] fp1_0_1) (J3__1_0_2 : Dj [b3] fp1_0_2) (J3__1_0_3 : Dj [b3] fp1_0_3) (J3__1_0 : Dj [b3] [b1_0]) (J3__1 : Dj [b3] [b1]) (J3__2_0 : Dj [b3] fp2_0) (J3__4 : Dj [b3] [b4]) (J3__5_0 : Dj [b3] fp5_0) (J3__5 : Dj [b3] [b5]) (J3__6 : Dj [b3] [b6]) (J4__0_0 : Dj [b4] fp0_0) (J4__1_0_1 : Dj [b4] fp1_0_1) (J4__1_0_2 : Dj [b4] fp1_0_2) (J4__1_0_3 : Dj [b4] fp1_0_3) (J4__1_0 : Dj [b4] [b1_0]) (J4__1 : Dj [b4] [b1]) (J4__2_0 : Dj [b4] fp2_0) (J4__5_0 : Dj [b4] fp5_0) (J4__5 : Dj [b4] [b5]) (J4__6 : Dj [b4] [b6]) (J0_0__1_0_1 : Dj fp0_0 fp1_0_1) (J0_0__1_0_2 : Dj fp0_0 fp1_0_2) (J0_0__1_0_3 : Dj fp0_0 fp1_0_3) (J0_0__1_0 : Dj fp0_0 [b1_0]) (J0_0__1 : Dj fp0_0 [b1]) (J0_0__2_0 : Dj fp0_0 fp2_0) (J0_0__5_0 : Dj fp0_0 fp5_0) (J0_0__5 : Dj fp0_0 [b5]) (J0_0__6 : Dj fp0_0 [b6]) (J2_0__1_0_1 : Dj fp2_0 fp1_0_1) (J2_0__1_0_2 : Dj fp2_0 fp1_0_2) (J2_0__1_0_3 : Dj fp2_0 fp1_0_3) (J2_0__1_0 : Dj fp2_0 [b1_0]) (J2_0__1 : Dj fp2_0 [b1]) (J2_0__5_0 : Dj fp2_0 fp5_0) (J2_0__5 : Dj fp2_0 [b5]) (J2_0__6 : Dj fp2_0 [b6]), Calls Try.prog 91 #[.pointer (some ⟨b0, 0, none⟩), .pointer (some ⟨b1, 0, none⟩), .pointer (some ⟨b2, 0, none⟩), .pointer (some ⟨b3, 0, none⟩), .pointer (some ⟨b4, 0, none⟩), .pointer (some ⟨b5, 0, none⟩), .pointer (some ⟨b6, 0, none⟩)] w0 fun e w' => ∃ At0_0 capt0_0 fpt0_0, ∃ At2_0 capt2_0 fpt2_0, e = .returned (.tuple #[]) ∧ Dj fpt0_0 fpt2_0 ∧ Cl w' b0 25 [.slice At0_0 (r.2.2.1).length capt0_0] ∧ Cl w' b2 25 [.slice At2_0 (r.2.2.2.1).length capt2_0] ∧ Cl w' b3 2 [.int .i64 (r.1)] ∧ Cl w' b4 2 [.int .i64 (r.2.1)] ∧ Ow 1 encI 2 w' fpt0_0 At0_0 capt0_0 r.2.2.1 ∧ Rt w0.heap.size fp0_0 fpt0_0 ∧ Ow 1 encI 2 w' fpt2_0 At2_0 capt2_0 r.2.2.2.1 ∧ Rt w0.heap.size fp2_0 fpt2_0 ∧ At2_0.isNone = r.2.2.2.2 ∧ Chg ([b0] ++ ([b2] ++ ([b3] ++ ([b4] ++ (fp0_0 ++ (fp2_0 ++ [])))))) w0 w' := by
 induction n with
 | zero => intro w0 l0_0 A0_0 cap0_0 fp0_0 b0 q1_0_0 l1_0_1 A1_0_1 cap1_0_1 fp1_0_1 l1_0_2 A1_0_2 cap1_0_2 fp1_0_2 l1_0_3 A1_0_3 cap1_0_3 fp1_0_3 b1_0 b1 l2_0 A2_0 cap2_0 fp2_0 z2_0 b2 q3_0 b3 q4_0 b4 l5_0 A5_0 cap5_0 fp5_0 b5 b6 r hm F0_0 F0 F1_0_1 F1_0_2 F1_0_3 F1_0 F1 F2_0 Z2_0 F2 F3 F4 F5_0 F5 F6 J0__0_0 J0__1_0_1 J0__1_0_2 J0__1_0_3 J0__1_0 J0__1 J0__2_0 J0__2 J0__3 J0__4 J0__5_0 J0__5 J0__6 J2__0_0 J2__1_0_1 J2__1_0_2 J2__1_0_3 J2__1_0 J2__1 J2__2_0 J2__3 J2__4 J2__5_0 J2__5 J2__6 J3__0_0 J3__1_0_1 J3__1_0_2 J3__1_0_3 J3__1_0 J3__1 J3__2_0 J3__4 J3__5_0 J3__5 J3__6 J4__0_0 J4__1_0_1 J4__1_0_2 J4__1_0_3 J4__1_0 J4__1 J4__2_0 J4__5_0 J4__5 J4__6 J0_0__1_0_1 J0_0__1_0_2 J0_0__1_0_3 J0_0__1_0 J0_0__1 J0_0__2_0 J0_0__5_0 J0_0__5 J0_0__6 J2_0__1_0_1 J2_0__1_0_2 J2_0__1_0_3 J2_0__1_0 J2_0__1 J2_0__5_0 J2_0__5 J2_0__6; exact nomatch (show (none : Option ((Int) × (Int) × (List (Int)) × (List (Int)) × (Bool))) = some r from hm)
 | succ n ih => intro w0 l0_0 A0_0 cap0_0 fp0_0 b0 q1_0_0 l1_0_1 A1_0_1 cap1_0_1 fp1_0_1 l1_0_2 A1_0_2 cap1_0_2 fp1_0_2 l1_0_3 A1_0_3 cap1_0_3 fp1_0_3 b1_0 b1 l2_0 A2_0 cap2_0 fp2_0 z2_0 b2 q3_0 b3 q4_0 b4 l5_0 A5_0 cap5_0 fp5_0 b5 b6 r hm F0_0 F0 F1_0_1 F1_0_2 F1_0_3 F1_0 F1 F2_0 Z2_0 F2 F3 F4 F5_0 F5 F6 J0__0_0 J0__1_0_1 J0__1_0_2 J0__1_0_3 J0__1_0 J0__1 J0__2_0 J0__2 J0__3 J0__4 J0__5_0 J0__5 J0__6 J2__0_0 J2__1_0_1 J2__1_0_2 J2__1_0_3 J2__1_0 J2__1 J2__2_0 J2__3 J2__4 J2__5_0 J2__5 J2__6 J3__0_0 J3__1_0_1 J3__1_0_2 J3__1_0_3 J3__1_0 J3__1 J3__2_0 J3__4 J3__5_0 J3__5 J3__6 J4__0_0 J4__1_0_1 J4__1_0_2 J4__1_0_3 J4__1_0 J4__1 J4__2_0 J4__5_0 J4__5 J4__6 J0_0__1_0_1 J0_0__1_0_2 J0_0__1_0_3 J0_0__1_0 J0_0__1 J0_0__2_0 J0_0__5_0 J0_0__5 J0_0__6 J2_0__1_0_1 J2_0__1_0_2 J2_0__1_0_3 J2_0__1_0 J2_0__1 J2_0__5_0 J2_0__5 J2_0__6; exact c_impl_Wiring_best_1_bint64_bimplWiring_bimplWiring_bint64_bint64_bint64_bimplgraph_bfunc_self_body ih hm F0_0 F0 F1_0_1 F1_0_2 F1_0_3 F1_0 F1 F2_0 Z2_0 F2 F3 F4 F5_0 F5 F6 J0__0_0 J0__1_0_1 J0__1_0_2 J0__1_0_3 J0__1_0 J0__1 J0__2_0 J0__2 J0__3 J0__4 J0__5_0 J0__5 J0__6 J2__0_0 J2__1_0_1 J2__1_0_2 J2__1_0_3 J2__1_0 J2__1 J2__2_0 J2__3 J2__4 J2__5_0 J2__5 J2__6 J3__0_0 J3__1_0_1 J3__1_0_2 J3__1_0_3 J3__1_0 J3__1 J3__2_0 J3__4 J3__5_0 J3__5 J3__6 J4__0_0 J4__1_0_1 J4__1_0_2 J4__1_0_3 J4__1_0 J4__1 J4__2_0 J4__5_0 J4__5 J4__6 J0_0__1_0_1 J0_0__1_0_2 J0_0__1_0_3 J0_0__1_0 J0_0__1 J0_0__2_0 J0_0__5_0 J0_0__5 J0_0__6 J2_0__1_0_1 J2_0__1_0_2 J2_0__1_0_3 J2_0__1_0 J2_0__1 J2_0__5_0 J2_0__5 J2_0__6


set_option maxRecDepth 100000 in
/-- impl.Wiring).best -/
theorem c_impl_Wiring_best_bimplWiring {w0 : World} {q0_0 : Int} {l0_1 : List (List (Int))} {A0_1 : Option Addr} {cap0_1 : Nat} {fp0_1 : List Nat} {l0_2 : List (List (Int))} {A0_2 : Option Addr} {cap0_2 : Nat} {fp0_2 : List Nat} {l0_3 : List (Int)} {A0_3 : Option Addr} {cap0_3 : Nat} {fp0_3 : List Nat} {b0 : Nat} {r : (List (Int)) × (Int) × (Int)} (hm : m_impl_Wiring_best_bimplWiring q0_0 l0_1 l0_2 l0_3 = some r) (F0_1 : SlR 1 encI w0 fp0_1 A0_1 l0_1) (F0_2 : SlR 1 encI w0 fp0_2 A0_2 l0_2) (F0_3 : Sl 1 encI w0 fp0_3 A0_3 l0_3) (F0 : Cl w0 b0 27 [.int .i64 (q0_0), .slice A0_1 (l0_1).length cap0_1, .slice A0_2 (l0_2).length cap0_2, .slice A0_3 (l0_3).length cap0_3]) :
  Calls Try.prog 54 #[.pointer (some ⟨b0, 0, none⟩)] w0 fun e w' => ∃ A100 cap100 fp100, e = .returned (.tuple #[.slice A100 (r.1).length cap100, .int .i64 (r.2.1), .int .i64 (r.2.2)]) ∧ Ow 1 encI 2 w' fp100 A100 cap100 r.1 ∧ (∀ x ∈ fp100, w0.heap.size ≤ x) ∧ Chg [] w0 w' := by
 have L0_1 := F0_1.low
 have L0_2 := F0_2.low
 have L0_3 := F0_3.low
 have L0 := lt1 F0.lt
 have hB : Chg [] w0 w0 := Chg.refl _ _
 have hZ := Nat.le_refl w0.heap.size
 unfold m_impl_Wiring_best_bimplWiring at hm
 refine enterE (N := 20) Try.func54 (by rfl) Try.ntmps54 (by simp) [(0, .pointer (some ⟨b0, 0, none⟩))] (by rfl) (by kernel_rfl) (fun a => ?_)
 refine cW_seq ?_
 refine cW_region ?_
 refine wS_box (d := 1) (T := 87) (x := .pointer (some ⟨b0, 0, none⟩)) (by kernel_rfl) ?_
 intro b1 w1 G1 F1 hc1
 replace F1 : Cl w1 b1 87 [.pointer (some ⟨b0, 0, none⟩)] := F1
 replace F0_1 := F0_1.chg hc1 Dj.nil
 replace F0_2 := F0_2.chg hc1 Dj.nil
 replace F0_3 := F0_3.chg hc1 Dj.nil
 replace F0 := F0.chg hc1 notNil
 replace hB := hB.inS hc1 inNil
 replace G1 := Nat.le_trans hZ G1
 replace hZ := Nat.le_trans hZ hc1.size
 refine wS_pure 3 [(4, .int .i64 (0)), (3, .int .i64 (0)), (2, .slice none 0 0)] (by kernel_rfl) ?_
 refine wS_end (by rfl) ?_
 refine eX_then ?_
 refine cW_seq ?_
 refine cW_region ?_
 refine wS_alloc (d := 5) (T := 25) (z := .slice none 0 0) (by kernel_rfl) (by kernel_rfl) ?_
 intro b2 w2 G2 F2 hc2
 replace F2 : Cl w2 b2 25 [.slice none 0 0] := F2
 have D1 : Dj [b1] [b2] := Dj.of (lt1 F1.lt) (low1 G2)
 replace F0_1 := F0_1.chg hc2 Dj.nil
 replace F0_2 := F0_2.chg hc2 Dj.nil
 replace F0_3 := F0_3.chg hc2 Dj.nil
 replace F0 := F0.chg hc2 notNil
 replace F1 := F1.chg hc2 notNil
 replace hB := hB.inS hc2 inNil
 replace G2 := Nat.le_trans hZ G2
 replace hZ := Nat.le_trans hZ hc2.size
 refine wS_alloc (d := 6) (T := 2) (z := .int .i64 (0)) (by kernel_rfl) (by kernel_rfl) ?_
 intro b3 w3 G3 F3 hc3
 replace F3 : Cl w3 b3 2 [.int .i64 (0)] := F3
 have D2 : Dj [b1] [b3] := Dj.of (lt1 F1.lt) (low1 G3)
 have D3 : Dj [b2] [b3] := Dj.of (lt1 F2.lt) (low1 G3)
 replace F0_1 := F0_1.chg hc3 Dj.nil
 replace F0_2 := F0_2.chg hc3 Dj.nil
 replace F0_3 := F0_3.chg hc3 Dj.nil
 replace F0 := F0.chg hc3 notNil
 replace F1 := F1.chg hc3 notNil
 replace F2 := F2.chg hc3 notNil
 replace hB := hB.inS hc3 inNil
 replace G3 := Nat.le_trans hZ G3
 replace hZ := Nat.le_trans hZ hc3.size
 refine wS_alloc (d := 7) (T := 2) (z := .int .i64 (0)) (by kernel_rfl) (by kernel_rfl) ?_
 intro b4 w4 G4 F4 hc4
 replace F4 : Cl w4 b4 2 [.int .i64 (0)] := F4
 have D4 : Dj [b1] [b4] := Dj.of (lt1 F1.lt) (low1 G4)
 have D5 : Dj [b2] [b4] := Dj.of (lt1 F2.lt) (low1 G4)
 have D6 : Dj [b3] [b4] := Dj.of (lt1 F3.lt) (low1 G4)
 replace F0_1 := F0_1.chg hc4 Dj.nil
 replace F0_2 := F0_2.chg hc4 Dj.nil
 replace F0_3 := F0_3.chg hc4 Dj.nil
 replace F0 := F0.chg hc4 notNil
 replace F1 := F1.chg hc4 notNil
 replace F2 := F2.chg hc4 notNil
 replace F3 := F3.chg hc4 notNil
 replace hB := hB.inS hc4 inNil
 replace G4 := Nat.le_trans hZ G4
 replace hZ := Nat.le_trans hZ hc4.size
 refine wS_store (T := 25) (g := b2) (o := 0) (ad := ⟨b2, 0, none⟩) (v := .slice none 0 0) (vs := [.slice none 0 0]) (by kernel_rfl) (by rfl) sz25 (by rfl) (by rfl) F2 (by simp only [List.length_cons, List.length_nil]; omega) ?_
 intro w5 F5 hc5
 replace F0_1 := F0_1.chg hc5 (Dj.of L0_1 (low1 G2))
 replace F0_2 := F0_2.chg hc5 (Dj.of L0_2 (low1 G2))
 replace F0_3 := F0_3.chg hc5 (Dj.of L0_3 (low1 G2))
 replace F0 := F0.chg hc5 (dj1 (Dj.of L0 (low1 G2)))
 replace F1 := F1.chg hc5 (dj1 D1)
 replace F3 := F3.chg hc5 (dj1 (D3).symm)
 replace F4 := F4.chg hc5 (dj1 (D5).symm)
 replace hB := hB.inS hc5 (inLow (low1 G2))
 replace hZ := Nat.le_trans hZ hc5.size
 replace F5 : Cl w5 b2 25 [.slice none 0 0] := F5
 clear F2
 refine wS_store (T := 2) (g := b3) (o := 0) (ad := ⟨b3, 0, none⟩) (v := .int .i64 (0)) (vs := [.int .i64 (0)]) (by kernel_rfl) (by rfl) sz2 (by rfl) (by rfl) F3 (by simp only [List.length_cons, List.length_nil]; omega) ?_
 intro w6 F6 hc6
 replace F0_1 := F0_1.chg hc6 (Dj.of L0_1 (low1 G3))
 replace F0_2 := F0_2.chg hc6 (Dj.of L0_2 (low1 G3))
 replace F0_3 := F0_3.chg hc6 (Dj.of L0_3 (low1 G3))
 replace F0 := F0.chg hc6 (dj1 (Dj.of L0 (low1 G3)))
 replace F1 := F1.chg hc6 (dj1 D2)
 replace F5 := F5.chg hc6 (dj1 D3)
 replace F4 := F4.chg hc6 (dj1 (D6).symm)
 replace hB := hB.inS hc6 (inLow (low1 G3))
 replace hZ := Nat.le_trans hZ hc6.size
 replace F6 : Cl w6 b3 2 [.int .i64 (0)] := F6
 clear F3
 refine wS_store (T := 2) (g := b4) (o := 0) (ad := ⟨b4, 0, none⟩) (v := .int .i64 (0)) (vs := [.int .i64 (0)]) (by kernel_rfl) (by rfl) sz2 (by rfl) (by rfl) F4 (by simp only [List.length_cons, List.length_nil]; omega) ?_
 intro w7 F7 hc7
 replace F0_1 := F0_1.chg hc7 (Dj.of L0_1 (low1 G4))
 replace F0_2 := F0_2.chg hc7 (Dj.of L0_2 (low1 G4))
 replace F0_3 := F0_3.chg hc7 (Dj.of L0_3 (low1 G4))
 replace F0 := F0.chg hc7 (dj1 (Dj.of L0 (low1 G4)))
 replace F1 := F1.chg hc7 (dj1 D4)
 replace F5 := F5.chg hc7 (dj1 D5)
 replace F6 := F6.chg hc7 (dj1 D6)
 replace hB := hB.inS hc7 (inLow (low1 G4))
 replace hZ := Nat.le_trans hZ hc7.size
 replace F7 : Cl w7 b4 2 [.int .i64 (0)] := F7
 clear F4
 refine wS_end (by rfl) ?_
 refine eX_then ?_
 refine cW_seq ?_
 refine cW_region ?_
 refine wS_bs0 (α := Int) (enc := encI) (d := 11) (t := 25) (T := 2) (by kernel_rfl) el25 ?_
 intro b5 w8 G5 F8 hc8
 have D7 : Dj [b1] [b5] := Dj.of (lt1 F1.lt) (low1 G5)
 have D8 : Dj [b2] [b5] := Dj.of (lt1 F5.lt) (low1 G5)
 have D9 : Dj [b3] [b5] := Dj.of (lt1 F6.lt) (low1 G5)
 have D10 : Dj [b4] [b5] := Dj.of (lt1 F7.lt) (low1 G5)
 replace F0_1 := F0_1.chg hc8 Dj.nil
 replace F0_2 := F0_2.chg hc8 Dj.nil
 replace F0_3 := F0_3.chg hc8 Dj.nil
 replace F0 := F0.chg hc8 notNil
 replace F1 := F1.chg hc8 notNil
 replace F5 := F5.chg hc8 notNil
 replace F6 := F6.chg hc8 notNil
 replace F7 := F7.chg hc8 notNil
 replace hB := hB.inS hc8 inNil
 replace G5 := Nat.le_trans hZ G5
 replace G5 := low1 G5
 replace hZ := Nat.le_trans hZ hc8.size
 refine wS_alloc (d := 8) (T := 25) (z := .slice none 0 0) (by kernel_rfl) (by kernel_rfl) ?_
 intro b6 w9 G6 F9 hc9
 replace F9 : Cl w9 b6 25 [.slice none 0 0] := F9
 have D11 : Dj [b1] [b6] := Dj.of (lt1 F1.lt) (low1 G6)
 have D12 : Dj [b2] [b6] := Dj.of (lt1 F5.lt) (low1 G6)
 have D13 : Dj [b3] [b6] := Dj.of (lt1 F6.lt) (low1 G6)
 have D14 : Dj [b4] [b6] := Dj.of (lt1 F7.lt) (low1 G6)
 have D15 : Dj [b5] [b6] := Dj.of F8.low (low1 G6)
 replace F0_1 := F0_1.chg hc9 Dj.nil
 replace F0_2 := F0_2.chg hc9 Dj.nil
 replace F0_3 := F0_3.chg hc9 Dj.nil
 replace F0 := F0.chg hc9 notNil
 replace F1 := F1.chg hc9 notNil
 replace F5 := F5.chg hc9 notNil
 replace F6 := F6.chg hc9 notNil
 replace F7 := F7.chg hc9 notNil
 replace F8 := F8.chg hc9 Dj.nil
 replace hB := hB.inS hc9 inNil
 replace G6 := Nat.le_trans hZ G6
 replace hZ := Nat.le_trans hZ hc9.size
 refine wS_store (T := 25) (g := b6) (o := 0) (ad := ⟨b6, 0, none⟩) (v := .slice (some ⟨b5, 0, none⟩) (([] : List (Int))).length 0) (vs := [.slice (some ⟨b5, 0, none⟩) (([] : List (Int))).length 0]) (by kernel_rfl) (by rfl) sz25 (by rfl) (by rfl) F9 (by simp only [List.length_cons, List.length_nil]; omega) ?_
 intro w10 F10 hc10
 replace F0_1 := F0_1.chg hc10 (Dj.of L0_1 (low1 G6))
 replace F0_2 := F0_2.chg hc10 (Dj.of L0_2 (low1 G6))
 replace F0_3 := F0_3.chg hc10 (Dj.of L0_3 (low1 G6))
 replace F0 := F0.chg hc10 (dj1 (Dj.of L0 (low1 G6)))
 replace F1 := F1.chg hc10 (dj1 D11)
 replace F5 := F5.chg hc10 (dj1 D12)
 replace F6 := F6.chg hc10 (dj1 D13)
 replace F7 := F7.chg hc10 (dj1 D14)
 replace F8 := F8.chg hc10 D15
 replace hB := hB.inS hc10 (inLow (low1 G6))
 replace hZ := Nat.le_trans hZ hc10.size
 replace F10 : Cl w10 b6 25 [.slice (some ⟨b5, 0, none⟩) (([] : List (Int))).length 0] := F10
 clear F9
 refine wS_end (by rfl) ?_
 refine eX_then ?_
 refine cW_seq ?_
 refine cW_region ?_
 refine wS_load1 (d := 12) (T := 87) (ad := ⟨b1, 0, none⟩) (v := .pointer (some ⟨b0, 0, none⟩)) (by kernel_rfl) vt87 ((F1).cell 0) ?_
 obtain ⟨y1, hy1, hm⟩ := bindE hm
 refine wS_calls (d := 13) (f := 55) (vs := [.pointer (some ⟨b0, 0, none⟩)]) (by kernel_rfl) ent55 (c_impl_Wiring_crossed_bimplWiring hy1 F0_1 F0_2 F0_3 F0) ?_
 rintro _ w11 ⟨A1, cap1, fp1, fr1, rfl, F11, G7, hc11⟩
 have D16 : Dj [b1] (fp1 ++ fr1) := Dj.of (lt1 F1.lt) G7
 have D17 : Dj [b2] (fp1 ++ fr1) := Dj.of (lt1 F5.lt) G7
 have D18 : Dj [b3] (fp1 ++ fr1) := Dj.of (lt1 F6.lt) G7
 have D19 : Dj [b4] (fp1 ++ fr1) := Dj.of (lt1 F7.lt) G7
 have D20 : Dj [b5] (fp1 ++ fr1) := Dj.of F8.low G7
 have D21 : Dj [b6] (fp1 ++ fr1) := Dj.of (lt1 F10.lt) G7
 replace F0_1 := F0_1.chg hc11 Dj.nil
 replace F0_2 := F0_2.chg hc11 Dj.nil
 replace F0_3 := F0_3.chg hc11 Dj.nil
 replace F0 := F0.chg hc11 notNil
 replace F1 := F1.chg hc11 notNil
 replace F5 := F5.chg hc11 notNil
 replace F6 := F6.chg hc11 notNil
 replace F7 := F7.chg hc11 notNil
 replace F8 := F8.chg hc11 Dj.nil
 replace F10 := F10.chg hc11 notNil
 replace hB := hB.inS hc11 inNil
 replace G7 := low_le hZ G7
 replace hZ := Nat.le_trans hZ hc11.size
 refine ⟨.slice A1 (y1).length cap1, rfl, ?_⟩
 refine wS_alloc (d := 9) (T := 77) (z := .slice none 0 0) (by kernel_rfl) (by kernel_rfl) ?_
 intro b7 w12 G8 F12 hc12
 replace F12 : Cl w12 b7 77 [.slice none 0 0] := F12
 have D22 : Dj [b1] [b7] := Dj.of (lt1 F1.lt) (low1 G8)
 have D23 : Dj [b2] [b7] := Dj.of (lt1 F5.lt) (low1 G8)
 have D24 : Dj [b3] [b7] := Dj.of (lt1 F6.lt) (low1 G8)
 have D25 : Dj [b4] [b7] := Dj.of (lt1 F7.lt) (low1 G8)
 have D26 : Dj [b5] [b7] := Dj.of F8.low (low1 G8)
 have D27 : Dj [b6] [b7] := Dj.of (lt1 F10.lt) (low1 G8)
 have D28 : Dj (fp1 ++ fr1) [b7] := Dj.of F11.low (low1 G8)
 replace F0_1 := F0_1.chg hc12 Dj.nil
 replace F0_2 := F0_2.chg hc12 Dj.nil
 replace F0_3 := F0_3.chg hc12 Dj.nil
 replace F0 := F0.chg hc12 notNil
 replace F1 := F1.chg hc12 notNil
 replace F5 := F5.chg hc12 notNil
 replace F6 := F6.chg hc12 notNil
 replace F7 := F7.chg hc12 notNil
 replace F8 := F8.chg hc12 Dj.nil
 replace F10 := F10.chg hc12 notNil
 replace F11 := F11.chg hc12 Dj.nil
 replace hB := hB.inS hc12 inNil
 replace G8 := Nat.le_trans hZ G8
 replace hZ := Nat.le_trans hZ hc12.size
 refine wS_store (T := 77) (g := b7) (o := 0) (ad := ⟨b7, 0, none⟩) (v := .slice A1 (y1).length cap1) (vs := [.slice A1 (y1).length cap1]) (by kernel_rfl) (by rfl) sz77 (by rfl) (by rfl) F12 (by simp only [List.length_cons, List.length_nil]; omega) ?_
 intro w13 F13 hc13
 replace F0_1 := F0_1.chg hc13 (Dj.of L0_1 (low1 G8))
 replace F0_2 := F0_2.chg hc13 (Dj.of L0_2 (low1 G8))
 replace F0_3 := F0_3.chg hc13 (Dj.of L0_3 (low1 G8))
 replace F0 := F0.chg hc13 (dj1 (Dj.of L0 (low1 G8)))
 replace F1 := F1.chg hc13 (dj1 D22)
 replace F5 := F5.chg hc13 (dj1 D23)
 replace F6 := F6.chg hc13 (dj1 D24)
 replace F7 := F7.chg hc13 (dj1 D25)
 replace F8 := F8.chg hc13 D26
 replace F10 := F10.chg hc13 (dj1 D27)
 replace F11 := F11.chg hc13 D28
 replace hB := hB.inS hc13 (inLow (low1 G8))
 replace hZ := Nat.le_trans hZ hc13.size
 replace F13 : Cl w13 b7 77 [.slice A1 (y1).length cap1] := F13
 clear F12
 refine wS_end (by rfl) ?_
 refine eX_then ?_
 refine cW_seq ?_
 refine cW_region ?_
 refine wS_alloc (d := 10) (T := 1) (z := .nilFunc) (by kernel_rfl) (by kernel_rfl) ?_
 intro b8 w14 G9 F14 hc14
 replace F14 : Cl w14 b8 1 [.nilFunc] := F14
 have D29 : Dj [b1] [b8] := Dj.of (lt1 F1.lt) (low1 G9)
 have D30 : Dj [b2] [b8] := Dj.of (lt1 F5.lt) (low1 G9)
 have D31 : Dj [b3] [b8] := Dj.of (lt1 F6.lt) (low1 G9)
 have D32 : Dj [b4] [b8] := Dj.of (lt1 F7.lt) (low1 G9)
 have D33 : Dj [b5] [b8] := Dj.of F8.low (low1 G9)
 have D34 : Dj [b6] [b8] := Dj.of (lt1 F10.lt) (low1 G9)
 have D35 : Dj (fp1 ++ fr1) [b8] := Dj.of F11.low (low1 G9)
 have D36 : Dj [b7] [b8] := Dj.of (lt1 F13.lt) (low1 G9)
 replace F0_1 := F0_1.chg hc14 Dj.nil
 replace F0_2 := F0_2.chg hc14 Dj.nil
 replace F0_3 := F0_3.chg hc14 Dj.nil
 replace F0 := F0.chg hc14 notNil
 replace F1 := F1.chg hc14 notNil
 replace F5 := F5.chg hc14 notNil
 replace F6 := F6.chg hc14 notNil
 replace F7 := F7.chg hc14 notNil
 replace F8 := F8.chg hc14 Dj.nil
 replace F10 := F10.chg hc14 notNil
 replace F11 := F11.chg hc14 Dj.nil
 replace F13 := F13.chg hc14 notNil
 replace hB := hB.inS hc14 inNil
 replace G9 := Nat.le_trans hZ G9
 replace hZ := Nat.le_trans hZ hc14.size
 refine wS_end (by rfl) ?_
 refine eX_then ?_
 refine cW_seq ?_
 refine cW_region ?_
 refine wS_pure 1 [(14, .func (.func 91) #[] #[.pointer (some ⟨b6, 0, none⟩), .pointer (some ⟨b1, 0, none⟩), .pointer (some ⟨b2, 0, none⟩), .pointer (some ⟨b3, 0, none⟩), .pointer (some ⟨b4, 0, none⟩), .pointer (some ⟨b7, 0, none⟩), .pointer (some ⟨b8, 0, none⟩)])] (by kernel_rfl) ?_
 refine wS_store (T := 1) (g := b8) (o := 0) (ad := ⟨b8, 0, none⟩) (v := .func (.func 91) #[] #[.pointer (some ⟨b6, 0, none⟩), .pointer (some ⟨b1, 0, none⟩), .pointer (some ⟨b2, 0, none⟩), .pointer (some ⟨b3, 0, none⟩), .pointer (some ⟨b4, 0, none⟩), .pointer (some ⟨b7, 0, none⟩), .pointer (some ⟨b8, 0, none⟩)]) (vs := [.func (.func 91) #[] #[.pointer (some ⟨b6, 0, none⟩), .pointer (some ⟨b1, 0, none⟩), .pointer (some ⟨b2, 0, none⟩), .pointer (some ⟨b3, 0, none⟩), .pointer (some ⟨b4, 0, none⟩), .pointer (some ⟨b7, 0, none⟩), .pointer (some ⟨b8, 0, none⟩)]]) (by kernel_rfl) (by rfl) sz1 (by rfl) (by rfl) F14 (by simp only [List.length_cons, List.length_nil]; omega) ?_
 intro w15 F15 hc15
 replace F0_1 := F0_1.chg hc15 (Dj.of L0_1 (low1 G9))
 replace F0_2 := F0_2.chg hc15 (Dj.of L0_2 (low1 G9))
 replace F0_3 := F0_3.chg hc15 (Dj.of L0_3 (low1 G9))
 replace F0 := F0.chg hc15 (dj1 (Dj.of L0 (low1 G9)))
 replace F1 := F1.chg hc15 (dj1 D29)
 replace F5 := F5.chg hc15 (dj1 D30)
 replace F6 := F6.chg hc15 (dj1 D31)
 replace F7 := F7.chg hc15 (dj1 D32)
 replace F8 := F8.chg hc15 D33
 replace F10 := F10.chg hc15 (dj1 D34)
 replace F11 := F11.chg hc15 D35
 replace F13 := F13.chg hc15 (dj1 D36)
 replace hB := hB.inS hc15 (inLow (low1 G9))
 replace hZ := Nat.le_trans hZ hc15.size
 replace F15 : Cl w15 b8 1 [.func (.func 91) #[] #[.pointer (some ⟨b6, 0, none⟩), .pointer (some ⟨b1, 0, none⟩), .pointer (some ⟨b2, 0, none⟩), .pointer (some ⟨b3, 0, none⟩), .pointer (some ⟨b4, 0, none⟩), .pointer (some ⟨b7, 0, none⟩), .pointer (some ⟨b8, 0, none⟩)]] := F15
 clear F14
 refine wS_end (by rfl) ?_
 refine eX_then ?_
 refine cW_seq ?_
 refine cW_region ?_
 refine wS_load1 (d := 15) (T := 1) (ad := ⟨b8, 0, none⟩) (v := .func (.func 91) #[] #[.pointer (some ⟨b6, 0, none⟩), .pointer (some ⟨b1, 0, none⟩), .pointer (some ⟨b2, 0, none⟩), .pointer (some ⟨b3, 0, none⟩), .pointer (some ⟨b4, 0, none⟩), .pointer (some ⟨b7, 0, none⟩), .pointer (some ⟨b8, 0, none⟩)]) (by kernel_rfl) vt1 ((F15).cell 0) ?_
 have F16 := Ow.nil (k := 1) (enc := encI) (T := 2) w15
 obtain ⟨y2, hy2, hm⟩ := bindE hm
 refine wS_calls (d := 16) (f := 91) (vs := [.pointer (some ⟨b6, 0, none⟩), .pointer (some ⟨b1, 0, none⟩), .pointer (some ⟨b2, 0, none⟩), .pointer (some ⟨b3, 0, none⟩), .pointer (some ⟨b4, 0, none⟩), .pointer (some ⟨b7, 0, none⟩), .pointer (some ⟨b8, 0, none⟩)]) (by kernel_rfl) ent91 (c_impl_Wiring_best_1_bint64_bimplWiring_bimplWiring_bint64_bint64_bint64_bimplgraph_bfunc_self 64 hy2 F8 F10 F0_1 F0_2 F0_3 F0 F1 F16 rfl F5 F6 F7 (F11.slr encI_ok) F13 F15 (D15).symm (Dj.of L0_1 (low1 G6)).symm (Dj.of L0_2 (low1 G6)).symm (Dj.of L0_3 (low1 G6)).symm (Dj.of L0 (low1 G6)).symm (D11).symm Dj.nil (D12).symm (D13).symm (D14).symm D21 D27 D34 D8 (Dj.of L0_1 (low1 G2)).symm (Dj.of L0_2 (low1 G2)).symm (Dj.of L0_3 (low1 G2)).symm (Dj.of L0 (low1 G2)).symm (D1).symm Dj.nil D3 D5 D17 D23 D30 D9 (Dj.of L0_1 (low1 G3)).symm (Dj.of L0_2 (low1 G3)).symm (Dj.of L0_3 (low1 G3)).symm (Dj.of L0 (low1 G3)).symm (D2).symm Dj.nil D6 D18 D24 D31 D10 (Dj.of L0_1 (low1 G4)).symm (Dj.of L0_2 (low1 G4)).symm (Dj.of L0_3 (low1 G4)).symm (Dj.of L0 (low1 G4)).symm (D4).symm Dj.nil D19 D25 D32 (Dj.of L0_1 G5).symm (Dj.of L0_2 G5).symm (Dj.of L0_3 G5).symm (Dj.of L0 G5).symm (D7).symm Dj.nil D20 D26 D33 (Dj.of L0_1 lowNil).symm (Dj.of L0_2 lowNil).symm (Dj.of L0_3 lowNil).symm (Dj.of L0 lowNil).symm (Dj.nil).symm (Dj.nil).symm (Dj.nil).symm (Dj.nil).symm) ?_
 rintro _ w16 ⟨A2, cap2, fp2, A3, cap3, fp3, rfl, D37, F17, F18, F19, F20, F21, hap1, F22, hap2, hz1, hc16⟩
 have G10 := Rt.lowof hap1 hZ G5
 have D38 : Dj [b1] fp2 := Dj.ap D7 (lt1 F1.lt) hap1
 have D39 : Dj [b2] fp2 := Dj.ap D8 (lt1 F5.lt) hap1
 have D40 : Dj [b3] fp2 := Dj.ap D9 (lt1 F6.lt) hap1
 have D41 : Dj [b4] fp2 := Dj.ap D10 (lt1 F7.lt) hap1
 have D42 : Dj [b6] fp2 := Dj.ap (D15).symm (lt1 F10.lt) hap1
 have D43 : Dj (fp1 ++ fr1) fp2 := Dj.ap (D20).symm F11.low hap1
 have D44 : Dj [b7] fp2 := Dj.ap (D26).symm (lt1 F13.lt) hap1
 have D45 : Dj [b8] fp2 := Dj.ap (D33).symm (lt1 F15.lt) hap1
 have G11 := Rt.lowof hap2 hZ lowNil
 have D46 : Dj [b1] fp3 := Dj.ap Dj.nil (lt1 F1.lt) hap2
 have D47 : Dj [b2] fp3 := Dj.ap Dj.nil (lt1 F5.lt) hap2
 have D48 : Dj [b3] fp3 := Dj.ap Dj.nil (lt1 F6.lt) hap2
 have D49 : Dj [b4] fp3 := Dj.ap Dj.nil (lt1 F7.lt) hap2
 have D50 : Dj [b6] fp3 := Dj.ap Dj.nil (lt1 F10.lt) hap2
 have D51 : Dj (fp1 ++ fr1) fp3 := Dj.ap Dj.nil F11.low hap2
 have D52 : Dj [b7] fp3 := Dj.ap Dj.nil (lt1 F13.lt) hap2
 have D53 : Dj [b8] fp3 := Dj.ap Dj.nil (lt1 F15.lt) hap2
 replace F0_1 := F0_1.chg hc16 (Dj.app (Dj.of L0_1 (low1 G6)) (Dj.app (Dj.of L0_1 (low1 G2)) (Dj.app (Dj.of L0_1 (low1 G3)) (Dj.app (Dj.of L0_1 (low1 G4)) (Dj.app (Dj.of L0_1 G5) (Dj.app (Dj.of L0_1 lowNil) Dj.nil))))))
 replace F0_2 := F0_2.chg hc16 (Dj.app (Dj.of L0_2 (low1 G6)) (Dj.app (Dj.of L0_2 (low1 G2)) (Dj.app (Dj.of L0_2 (low1 G3)) (Dj.app (Dj.of L0_2 (low1 G4)) (Dj.app (Dj.of L0_2 G5) (Dj.app (Dj.of L0_2 lowNil) Dj.nil))))))
 replace F0_3 := F0_3.chg hc16 (Dj.app (Dj.of L0_3 (low1 G6)) (Dj.app (Dj.of L0_3 (low1 G2)) (Dj.app (Dj.of L0_3 (low1 G3)) (Dj.app (Dj.of L0_3 (low1 G4)) (Dj.app (Dj.of L0_3 G5) (Dj.app (Dj.of L0_3 lowNil) Dj.nil))))))
 replace F0 := F0.chg hc16 (dj1 (Dj.app (Dj.of L0 (low1 G6)) (Dj.app (Dj.of L0 (low1 G2)) (Dj.app (Dj.of L0 (low1 G3)) (Dj.app (Dj.of L0 (low1 G4)) (Dj.app (Dj.of L0 G5) (Dj.app (Dj.of L0 lowNil) Dj.nil)))))))
 replace F1 := F1.chg hc16 (dj1 (Dj.app D11 (Dj.app D1 (Dj.app D2 (Dj.app D4 (Dj.app D7 (Dj.app Dj.nil Dj.nil)))))))
 replace F11 := F11.chg hc16 (Dj.app (D21).symm (Dj.app (D17).symm (Dj.app (D18).symm (Dj.app (D19).symm (Dj.app (D20).symm (Dj.app Dj.nil Dj.nil))))))
 replace F13 := F13.chg hc16 (dj1 (Dj.app (D27).symm (Dj.app (D23).symm (Dj.app (D24).symm (Dj.app (D25).symm (Dj.app (D26).symm (Dj.app Dj.nil Dj.nil)))))))
 replace F15 := F15.chg hc16 (dj1 (Dj.app (D34).symm (Dj.app (D30).symm (Dj.app (D31).symm (Dj.app (D32).symm (Dj.app (D33).symm (Dj.app Dj.nil Dj.nil)))))))
 replace hB := hB.inS hc16 (inApp (inLow (low1 G6)) (inApp (inLow (low1 G2)) (inApp (inLow (low1 G3)) (inApp (inLow (low1 G4)) (inApp (inLow G5) (inApp (inLow lowNil) inNil))))))
 replace hZ := Nat.le_trans hZ hc16.size
 clear F10
 clear F5
 clear F6
 clear F7
 refine ⟨.tuple #[], rfl, ?_⟩
 refine wS_end (by rfl) ?_
 refine eX_then ?_
 refine cW_seq ?_
 refine cW_drawnTail [] 5 (by kernel_rfl) (by kernel_rfl) (fun w17 hc17 => ?_)
 replace F0_1 := F0_1.chg hc17 Dj.nil
 replace F0_2 := F0_2.chg hc17 Dj.nil
 replace F0_3 := F0_3.chg hc17 Dj.nil
 replace F0 := F0.chg hc17 notNil
 replace F1 := F1.chg hc17 notNil
 replace F18 := F18.chg hc17 notNil
 replace F19 := F19.chg hc17 notNil
 replace F20 := F20.chg hc17 notNil
 replace F17 := F17.chg hc17 notNil
 replace F11 := F11.chg hc17 Dj.nil
 replace F13 := F13.chg hc17 notNil
 replace F15 := F15.chg hc17 notNil
 replace F21 := F21.chg hc17 Dj.nil
 replace F22 := F22.chg hc17 Dj.nil
 replace hB := hB.inS hc17 inNil
 replace hZ := Nat.le_trans hZ hc17.size
 have hS := Chg.refl [] w17
 have Z1 := F0_1
 have Z2 := F0_2
 have Z3 := F0_3
 have Z4 := F0
 have Z5 := F1
 have Z6 := F18
 have Z7 := F19
 have Z8 := F20
 have Z9 := F17
 have Z10 := F11
 have Z11 := F13
 have Z12 := F15
 have Z13 := F21
 have Z14 := F22
 refine wH_load1 (i := 0) (d := 17) (T := 25) (ad := ⟨b2, 0, none⟩) (v := .slice A3 (y2.2.2.2.1).length cap3) (by kernel_rfl) (qT (qT qZ)) (by kernel_rfl) (by kernel_rfl) vt25 (fun W hW => (Z6.chg hW notNil).cell 0) ?_
 refine wH_load1 (i := 1) (d := 18) (T := 2) (ad := ⟨b3, 0, none⟩) (v := .int .i64 (y2.1)) (by kernel_rfl) (qT (qT qZ)) (by kernel_rfl) (by kernel_rfl) vt2 (fun W hW => (Z7.chg hW notNil).cell 0) ?_
 refine wH_load1 (i := 2) (d := 19) (T := 2) (ad := ⟨b4, 0, none⟩) (v := .int .i64 (y2.2.1)) (by kernel_rfl) (qT (qT qZ)) (by kernel_rfl) (by kernel_rfl) vt2 (fun W hW => (Z8.chg hW notNil).cell 0) ?_
 refine wH_take [3, 4] [4, 3, 2, 1, 0] [(3, .int .i64 (y2.1)), (2, .slice A3 (y2.2.2.2.1).length cap3)] (by kernel_rfl) (qT (qT qZ)) (by kernel_rfl) ?_
 refine wH_done (by kernel_rfl) ?_
 refine eX_tail ?_
 refine wS_pure 1 [(4, .int .i64 (y2.2.1))] (by kernel_rfl) ?_
 refine wS_end (by rfl) ?_
 refine eX_then ?_
 refine cW_ret ?_
 have hq : (some ((y2.2.2.2.1, y2.1, y2.2.1)) : Option ((List (Int)) × (Int) × (Int))) = some _ := hm
 replace hq := someE hq
 subst hq
 refine eX_ret (vs := [.slice A3 (y2.2.2.2.1).length cap3, .int .i64 (y2.1), .int .i64 (y2.2.1)]) [.tmp 2, .tmp 3, .tmp 4] (by rfl) ⟨by (show lkE _ _ _ = _); kernel_rfl, ⟨by (show lkE _ _ _ = _); kernel_rfl, ⟨by (show lkE _ _ _ = _); kernel_rfl, trivial⟩⟩⟩ ?_
 exact ⟨A3, cap3, fp3, rfl, F22, G11, hB⟩

set_option maxRecDepth 100000 in
/-- impl.FewestVias -/
theorem c_impl_FewestVias {w0 : World} {p0_0 : Int} {l0_1 : List (List (Int))} {A0_1 : Option Addr} {cap0_1 : Nat} {fp0_1 : List Nat} {l0_2 : List (List (Int))} {A0_2 : Option Addr} {cap0_2 : Nat} {fp0_2 : List Nat} {l0_3 : List (Int)} {A0_3 : Option Addr} {cap0_3 : Nat} {fp0_3 : List Nat} {r : (List (Int)) × (Int) × (Bool)} (hm : m_impl_FewestVias p0_0 l0_1 l0_2 l0_3 = some r) (F0_1 : SlR 1 encI w0 fp0_1 A0_1 l0_1) (F0_2 : SlR 1 encI w0 fp0_2 A0_2 l0_2) (F0_3 : Sl 1 encI w0 fp0_3 A0_3 l0_3) :
  Calls Try.prog 13 #[.agg #[.int .i64 (p0_0), .slice A0_1 (l0_1).length cap0_1, .slice A0_2 (l0_2).length cap0_2, .slice A0_3 (l0_3).length cap0_3]] w0 fun e w' => ∃ A100 cap100 fp100, e = .returned (.tuple #[.slice A100 (r.1).length cap100, .int .i64 (r.2.1), .bool (r.2.2)]) ∧ Ow 1 encI 2 w' fp100 A100 cap100 r.1 ∧ (∀ x ∈ fp100, w0.heap.size ≤ x) ∧ Chg [] w0 w' := by
 have L0_1 := F0_1.low
 have L0_2 := F0_2.low
 have L0_3 := F0_3.low
 have hB : Chg [] w0 w0 := Chg.refl _ _
 have hZ := Nat.le_refl w0.heap.size
 unfold m_impl_FewestVias at hm
 refine enterE (N := 20) Try.func13 (by rfl) Try.ntmps13 (by simp) [(0, .agg #[.int .i64 (p0_0), .slice A0_1 (l0_1).length cap0_1, .slice A0_2 (l0_2).length cap0_2, .slice A0_3 (l0_3).length cap0_3])] (by rfl) (by kernel_rfl) (fun a => ?_)
 refine cW_seq ?_
 refine cW_region ?_
 refine wS_box (d := 1) (T := 27) (x := .agg #[.int .i64 (p0_0), .slice A0_1 (l0_1).length cap0_1, .slice A0_2 (l0_2).length cap0_2, .slice A0_3 (l0_3).length cap0_3]) (by kernel_rfl) ?_
 intro b1 w1 G1 F1 hc1
 replace F1 : Cl w1 b1 27 [.int .i64 (p0_0), .slice A0_1 (l0_1).length cap0_1, .slice A0_2 (l0_2).length cap0_2, .slice A0_3 (l0_3).length cap0_3] := F1
 replace F0_1 := F0_1.chg hc1 Dj.nil
 replace F0_2 := F0_2.chg hc1 Dj.nil
 replace F0_3 := F0_3.chg hc1 Dj.nil
 replace hB := hB.inS hc1 inNil
 replace G1 := Nat.le_trans hZ G1
 replace hZ := Nat.le_trans hZ hc1.size
 refine wS_pure 3 [(4, .bool (false)), (3, .int .i64 (0)), (2, .slice none 0 0)] (by kernel_rfl) ?_
 refine wS_end (by rfl) ?_
 refine eX_then ?_
 refine cW_seq ?_
 refine cW_seq ?_
 refine cW_region ?_
 refine wS_loadA (d := 8) (T := 27) (ad := ⟨b1, 0, none⟩) (vs := [.int .i64 (p0_0), .slice A0_1 (l0_1).length cap0_1, .slice A0_2 (l0_2).length cap0_2, .slice A0_3 (l0_3).length cap0_3]) (by kernel_rfl) vt27 (fun i u hu => box_cells F1 0 hu (by rfl)) ?_
 obtain ⟨y1, hy1, hm⟩ := bindE hm
 refine wS_calls (d := 9) (f := 16) (vs := [.agg #[.int .i64 (p0_0), .slice A0_1 (l0_1).length cap0_1, .slice A0_2 (l0_2).length cap0_2, .slice A0_3 (l0_3).length cap0_3]]) (by kernel_rfl) ent16 (c_impl_ValidWiring hy1 F0_1 F0_2 F0_3) ?_
 rintro _ w2 ⟨rfl, hc2⟩
 replace F0_1 := F0_1.chg hc2 Dj.nil
 replace F0_2 := F0_2.chg hc2 Dj.nil
 replace F0_3 := F0_3.chg hc2 Dj.nil
 replace F1 := F1.chg hc2 notNil
 replace hB := hB.inS hc2 inNil
 replace hZ := Nat.le_trans hZ hc2.size
 refine ⟨.bool (y1), rfl, ?_⟩
 refine wS_pure 1 [(10, .bool (!y1))] (by kernel_rfl) ?_
 refine wS_end (by rfl) ?_
 refine eX_then ?_
 refine cW_cond (t := !y1) (by kernel_rfl) (fun hb1 => ?_) (fun hb1 => ?_)
 ·have hm := condT hb1 hm
  refine cW_seq ?_
  refine cW_region ?_
  refine wS_pure 3 [(4, .bool (false)), (3, .int .i64 (0)), (2, .slice none 0 0)] (by kernel_rfl) ?_
  refine wS_end (by rfl) ?_
  refine eX_then ?_
  refine cW_ret ?_
  refine eX_then_ret ?_
  have hq : (some (([], 0, false)) : Option ((List (Int)) × (Int) × (Bool))) = some _ := hm
  replace hq := someE hq
  subst hq
  refine eX_ret (vs := [.slice none 0 0, .int .i64 (0), .bool (false)]) [.tmp 2, .tmp 3, .tmp 4] (by rfl) ⟨by (show lkE _ _ _ = _); kernel_rfl, ⟨by (show lkE _ _ _ = _); kernel_rfl, ⟨by (show lkE _ _ _ = _); kernel_rfl, trivial⟩⟩⟩ ?_
  exact ⟨none, 0, [], rfl, Ow.nil _, lowNil, hB⟩
 ·have hm := condF hb1 hm
  refine cW_skip ?_
  refine eX_then ?_
  refine cW_seq ?_
  refine cW_region ?_
  obtain ⟨y2, hy2, hm⟩ := bindE hm
  refine wS_calls (d := 12) (f := 54) (vs := [.pointer (some ⟨b1, 0, none⟩)]) (by kernel_rfl) ent54 (c_impl_Wiring_best_bimplWiring hy2 F0_1 F0_2 F0_3 F1) ?_
  rintro _ w3 ⟨A1, cap1, fp1, rfl, F2, G2, hc3⟩
  have D1 : Dj [b1] fp1 := Dj.of (lt1 F1.lt) G2
  replace F0_1 := F0_1.chg hc3 Dj.nil
  replace F0_2 := F0_2.chg hc3 Dj.nil
  replace F0_3 := F0_3.chg hc3 Dj.nil
  replace F1 := F1.chg hc3 notNil
  replace hB := hB.inS hc3 inNil
  replace G2 := low_le hZ G2
  replace hZ := Nat.le_trans hZ hc3.size
  refine ⟨.tuple #[.slice A1 (y2.1).length cap1, .int .i64 (y2.2.1), .int .i64 (y2.2.2)], rfl, ?_⟩
  refine wS_pure 7 [(7, .int .i64 (y2.2.2)), (6, .int .i64 (y2.2.1)), (5, .slice A1 (y2.1).length cap1), (15, .int .i64 (y2.2.2)), (14, .int .i64 (y2.2.1)), (13, .slice A1 (y2.1).length cap1), (11, .tuple #[.slice A1 (y2.1).length cap1, .int .i64 (y2.2.1), .int .i64 (y2.2.2)])] (by kernel_rfl) ?_
  refine wS_end (by rfl) ?_
  refine eX_then ?_
  refine cW_seq ?_
  refine cW_region ?_
  refine wS_pure 7 [(4, .bool (decide (y2.2.2 > 0))), (3, .int .i64 (y2.2.1)), (2, .slice A1 (y2.1).length cap1), (19, .bool (decide (y2.2.2 > 0))), (18, .int .i64 (y2.2.2)), (17, .int .i64 (y2.2.1)), (16, .slice A1 (y2.1).length cap1)] (by kernel_rfl) ?_
  refine wS_end (by rfl) ?_
  refine eX_then ?_
  refine cW_ret ?_
  have hq : (some ((y2.1, y2.2.1, decide (y2.2.2 > 0))) : Option ((List (Int)) × (Int) × (Bool))) = some _ := hm
  replace hq := someE hq
  subst hq
  refine eX_ret (vs := [.slice A1 (y2.1).length cap1, .int .i64 (y2.2.1), .bool (decide (y2.2.2 > 0))]) [.tmp 2, .tmp 3, .tmp 4] (by rfl) ⟨by (show lkE _ _ _ = _); kernel_rfl, ⟨by (show lkE _ _ _ = _); kernel_rfl, ⟨by (show lkE _ _ _ = _); kernel_rfl, trivial⟩⟩⟩ ?_
  exact ⟨A1, cap1, fp1, rfl, F2, G2, hB⟩

set_option maxRecDepth 100000 in
/-- impl.graph).twice -/
theorem c_impl_graph_twice {w0 : World} {l0 : List (List (Int))} {A0 : Option Addr} {cap0 : Nat} {fp0 : List Nat} {r : (List (List (Int)))} (hm : m_impl_graph_twice l0 = some r) (F0 : SlR 1 encI w0 fp0 A0 l0) :
  Calls Try.prog 96 #[.slice A0 (l0).length cap0] w0 fun e w' => ∃ A100 cap1 fp100 fr100, e = .returned (.slice A100 (r).length cap1) ∧ OwR 1 encI 75 3 w' fp100 fr100 A100 cap1 r ∧ (∀ x ∈ fp100 ++ fr100, w0.heap.size ≤ x) ∧ Chg [] w0 w' := by
 have L0 := F0.low
 have hB : Chg [] w0 w0 := Chg.refl _ _
 have hZ := Nat.le_refl w0.heap.size
 unfold m_impl_graph_twice at hm
 refine enterE (N := 56) Try.func96 (by rfl) Try.ntmps96 (by simp) [(0, .slice A0 (l0).length cap0)] (by rfl) (by kernel_rfl) (fun a => ?_)
 refine cW_seq ?_
 refine cW_region ?_
 refine wS_pure 1 [(2, .slice none 0 0)] (by kernel_rfl) ?_
 refine wS_end (by rfl) ?_
 refine eX_then ?_
 refine cW_seq ?_
 refine cW_region ?_
 refine wS_pure 3 [(3, .int .i64 (((l0).length : Int))), (10, .int .i64 (((l0).length : Int))), (9, .slice A0 (l0).length cap0)] (by kernel_rfl) ?_
 refine wS_end (by rfl) ?_
 refine eX_then ?_
 refine cW_seq ?_
 refine cW_region ?_
 refine wS_pure 2 [(12, .int .i64 (wr (2 * (((l0).length : Int))))), (11, .int .i64 (((l0).length : Int)))] (by kernel_rfl) ?_
 obtain ⟨_, hk1, hm⟩ := bindE hm
 replace hk1 := mkE hk1
 refine wS_makeR (T2 := 3) (k := 1) (enc := encI) (d := 13) (t := 77) (T := 75) (k1 := .i64) (k2 := .i64) (m := wr (2 * (((l0).length : Int)))) (by kernel_rfl) el77 hk1.1 hk1.2 ?_
 intro b1 w1 G1 F1 hc1
 replace F0 := F0.chg hc1 Dj.nil
 replace hB := hB.inS hc1 inNil
 replace G1 := Nat.le_trans hZ G1
 replace G1 := low1 G1
 replace hZ := Nat.le_trans hZ hc1.size
 replace G1 := lowApp G1 lowNil
 refine wS_pure 1 [(4, .slice (some ⟨b1, 0, none⟩) (List.replicate (Int.toNat (wr (2 * (((l0).length : Int))))) ([] : List (Int))).length (Int.toNat (wr (2 * (((l0).length : Int))))))] (by kernel_rfl) ?_
 refine wS_end (by rfl) ?_
 refine eX_then ?_
 refine cW_seq ?_
 refine cW_seq ?_
 refine cW_region ?_
 refine wS_pure 3 [(16, .int .i64 (0)), (15, .int .i64 (((l0).length : Int))), (14, .slice A0 (l0).length cap0)] (by kernel_rfl) ?_
 refine wS_end (by rfl) ?_
 refine eX_then ?_
 obtain ⟨r1, hr1, hm⟩ := bindE hm
 have hm1 := hm
 refine cW_cut (fun a' w' => ∃ l1 : List (List (Int)), ∃ A1 : Option Addr, ∃ cap3 : Nat, ∃ fp1 : List Nat, ∃ fr1 : List Nat, l1 = r1 ∧ Fr 56 [(4, .slice A1 (l1).length cap3)] a' ∧ OwR 1 encI 75 3 w' fp1 fr1 A1 cap3 l1 ∧ (∀ x ∈ (fp1 ++ fr1), w0.heap.size ≤ x) ∧ Chg [] w0 w' ∧ w0.heap.size ≤ w'.heap.size) ?_ ?_
 ·refine cW_block ?_
  refine cW_loop _ (fun (s1 : (List (List (Int))) × Int) a' w' => ∃ l3 : List (List (Int)), ∃ A3 : Option Addr, ∃ cap4 : Nat, ∃ fp2 : List Nat, ∃ fr2 : List Nat, ∃ x1 : Int, (l3, x1) = s1 ∧ Fr 56 [(3, .int .i64 (((l0).length : Int))), (4, .slice A3 (l3).length cap4), (14, .slice A0 (l0).length cap0), (15, .int .i64 (((l0).length : Int))), (16, .int .i64 (x1))] a' ∧ SlR 1 encI w' fp0 A0 l0 ∧ OwR 1 encI 75 3 w' fp2 fr2 A3 cap4 l3 ∧ (∀ x ∈ (fp2 ++ fr2), w0.heap.size ≤ x) ∧ Chg [] w0 w' ∧ w0.heap.size ≤ w'.heap.size) hr1 (fun hst => ⟨List.replicate (Int.toNat (wr (2 * (((l0).length : Int))))) ([] : List (Int)), (some ⟨b1, 0, none⟩), (Int.toNat (wr (2 * (((l0).length : Int))))), [b1], [], 0, rfl, Fr.of hst (by kernel_rfl), F0, F1, G1, hB, hZ⟩) ?_
  rintro _ c1 a' w2 ⟨l3, A3, cap4, fp2, fr2, x1, rfl, hF1, F2, F3, G2, hB, hZ⟩ hx1
  refine Fr.goOn hF1 (by kernel_rfl) ?_
  have hm := hx1
  unfold m_impl_graph_twice_s3 at hm
  refine cW_seq ?_
  refine cW_region ?_
  refine wS_pure 1 [(17, .bool (decide (x1 < (((l0).length : Int)))))] (by kernel_rfl) ?_
  refine wS_end (by rfl) ?_
  refine eX_then ?_
  refine cW_seq ?_
  refine cW_cond (t := decide (x1 < (((l0).length : Int)))) (by kernel_rfl) (fun hb1 => ?_) (fun hb1 => ?_)
  ·have hm := condT hb1 hm
   refine cW_skip ?_
   refine eX_then ?_
   refine cW_seq ?_
   refine cW_block ?_
   refine cW_seq ?_
   refine cW_region ?_
   refine wS_pure 1 [(18, .int .i64 (x1))] (by kernel_rfl) ?_
   obtain ⟨x2, hx2, hm⟩ := bindE hm
   refine wS_idx (d := 19) (T := 77) (A := A0) (n := (l0).length) (cap := cap0) (kd := .i64) (m := x1) (by kernel_rfl) sl77 (F2.is hx2) ?_
   obtain ⟨A4, cap5, hc2, F4, K1⟩ := SlR.row F2 hx2
   refine wS_load1 (d := 20) (T := 75) (ad := (elA A0 1 (x1) 0)) (v := .slice A4 (x2).length cap5) (by kernel_rfl) vt75 hc2 ?_
   refine wS_pure 2 [(6, .slice A4 (x2).length cap5), (5, .int .i64 (x1))] (by kernel_rfl) ?_
   refine wS_end (by rfl) ?_
   refine eX_then ?_
   refine cW_seq ?_
   refine cW_region ?_
   refine wS_pure 3 [(23, .int .i64 (0)), (22, .int .i64 (((x2).length : Int))), (21, .slice A4 (x2).length cap5)] (by kernel_rfl) ?_
   refine wS_end (by rfl) ?_
   refine eX_then ?_
   obtain ⟨r2, hr2, hm⟩ := bindE hm
   have hm2 := hm
   refine cW_cut (fun a' w' => ∃ l4 : List (List (Int)), ∃ A5 : Option Addr, ∃ cap6 : Nat, ∃ fp3 : List Nat, ∃ fr3 : List Nat, l4 = r2 ∧ Fr 56 [(3, .int .i64 (((l0).length : Int))), (4, .slice A5 (l4).length cap6), (14, .slice A0 (l0).length cap0), (15, .int .i64 (((l0).length : Int))), (16, .int .i64 (x1))] a' ∧ SlR 1 encI w' fp0 A0 l0 ∧ OwR 1 encI 75 3 w' fp3 fr3 A5 cap6 l4 ∧ (∀ x ∈ (fp3 ++ fr3), w0.heap.size ≤ x) ∧ Chg [] w0 w' ∧ w0.heap.size ≤ w'.heap.size) ?_ ?_
   ·refine cW_block ?_
    refine cW_loop _ (fun (s2 : (List (List (Int))) × Int) a' w' => ∃ l5 : List (List (Int)), ∃ A6 : Option Addr, ∃ cap7 : Nat, ∃ fp4 : List Nat, ∃ fr4 : List Nat, ∃ x3 : Int, (l5, x3) = s2 ∧ Fr 56 [(3, .int .i64 (((l0).length : Int))), (4, .slice A6 (l5).length cap7), (5, .int .i64 (x1)), (14, .slice A0 (l0).length cap0), (15, .int .i64 (((l0).length : Int))), (16, .int .i64 (x1)), (21, .slice A4 (x2).length cap5), (22, .int .i64 (((x2).length : Int))), (23, .int .i64 (x3))] a' ∧ SlR 1 encI w' fp0 A0 l0 ∧ Sl 1 encI w' fp0 A4 x2 ∧ OwR 1 encI 75 3 w' fp4 fr4 A6 cap7 l5 ∧ (∀ x ∈ (fp4 ++ fr4), w0.heap.size ≤ x) ∧ Chg [] w0 w' ∧ w0.heap.size ≤ w'.heap.size) hr2 (fun hst => ⟨l3, A3, cap4, fp2, fr2, 0, rfl, Fr.of hst (by kernel_rfl), F2, F4, F3, G2, hB, hZ⟩) ?_
    rintro _ c2 a' w3 ⟨l5, A6, cap7, fp4, fr4, x3, rfl, hF2, F5, F6, F7, G3, hB, hZ⟩ hx3
    refine Fr.goOn hF2 (by kernel_rfl) ?_
    have hm := hx3
    unfold m_impl_graph_twice_s4 at hm
    refine cW_seq ?_
    refine cW_region ?_
    refine wS_pure 1 [(24, .bool (decide (x3 < (((x2).length : Int)))))] (by kernel_rfl) ?_
    refine wS_end (by rfl) ?_
    refine eX_then ?_
    refine cW_seq ?_
    refine cW_cond (t := decide (x3 < (((x2).length : Int)))) (by kernel_rfl) (fun hb2 => ?_) (fun hb2 => ?_)
    ·have hm := condT hb2 hm
     refine cW_skip ?_
     refine eX_then ?_
     refine cW_seq ?_
     refine cW_block ?_
     refine cW_seq ?_
     refine cW_region ?_
     obtain ⟨x4, hx4, hm⟩ := bindE hm
     refine wS_idx (d := 25) (T := 75) (A := A4) (n := (x2).length) (cap := cap5) (kd := .i64) (m := x3) (by kernel_rfl) sl75 (F6.is hx4) ?_
     refine wS_load1 (d := 26) (T := 3) (ad := (elA A4 1 (x3) 0)) (v := .int .i64 (x4)) (by kernel_rfl) vt3 (Sl.cell F6 hx4 0 (by rfl)) ?_
     refine wS_pure 1 [(8, .int .i64 (x4))] (by kernel_rfl) ?_
     refine wS_end (by rfl) ?_
     refine eX_then ?_
     refine cW_seq ?_
     refine cW_region ?_
     refine wS_pure 4 [(30, .int .i64 (x1)), (29, .slice A6 (l5).length cap7), (28, .int .i64 (x1)), (27, .slice A6 (l5).length cap7)] (by kernel_rfl) ?_
     obtain ⟨x5, hx5, hm⟩ := bindE hm
     refine wS_idx (d := 31) (T := 77) (A := A6) (n := (l5).length) (cap := cap7) (kd := .i64) (m := x1) (by kernel_rfl) sl77 ((F7.slr encI_ok).is hx5) ?_
     obtain ⟨A7, cap8, hc3, F8, K2⟩ := OwR.row F7 encI_ok hx5
     have G4 := low_inr G3
     have Dm1 := (F7.dj).symm
     refine wS_load1 (d := 32) (T := 75) (ad := (elA A6 1 (x1) 0)) (v := .slice A7 (x5).length cap8) (by kernel_rfl) vt75 hc3 ?_
     refine wS_pure 3 [(35, .int .i64 (wr (x4 + (((l0).length : Int))))), (34, .int .i64 (((l0).length : Int))), (33, .int .i64 (x4))] (by kernel_rfl) ?_
     refine wS_bs (enc := encI) ([wr (x4 + (((l0).length : Int)))] : List (Int)) [.int .i64 (wr (x4 + (((l0).length : Int))))] (d := 36) (t := 75) (T := 3) (n := 1) (ps := [(0, .int .i64 (wr (x4 + (((l0).length : Int)))))]) (by kernel_rfl) el75 encI_ok (by rfl) (by omega) (by omega) (by kernel_rfl) (by rfl) ?_
     intro b2 w4 G5 F9 hc4
     have D1 : Dj (fp4 ++ fr4) [b2] := Dj.of F7.low (low1 G5)
     have D2 : Dj fr4 [b2] := Dj.of F8.low (low1 G5)
     replace F5 := F5.chg hc4 Dj.nil
     replace F6 := F6.chg hc4 Dj.nil
     replace F7 := F7.chg hc4 Dj.nil
     replace F8 := F8.chg hc4 Dj.nil
     have hc5 := hc4.keep hc3
     replace hB := hB.inS hc4 inNil
     replace G5 := Nat.le_trans hZ G5
     replace G5 := low1 G5
     replace hZ := Nat.le_trans hZ hc4.size
     obtain ⟨_, hk2, hm⟩ := bindE hm
     replace hk2 := apE hk2
     refine wS_appH (k := 1) (enc := encI) (ll := l5) (l := (x5 : List (Int))) (l2 := (([wr (x4 + (((l0).length : Int)))] : List (Int)) : List (Int))) (d := 37) (t := 75) (T2 := 3) (U := 75) (m := x1) (A := A6) (B := A7) (A2 := (some ⟨b2, 0, none⟩)) (cap := cap7) (c := cap8) (cap2 := 1) (by kernel_rfl) el75 encI_ok F7 hx5 hc5 (F9.sl encI_ok) hk2 ?_
     intro w5 fp5 A8 cap9 F10 hc6 hp1
     have D3 : Dj [b2] (fp4 ++ (fr4 ++ fp5)) := Dj.app (Dj.inl (D1).symm) (Dj.app (Dj.inr (D1).symm) (Dj.ap (Dj.inr (D1).symm) F9.low hp1))
     have G6 := lowApp (low_inl G3) (lowApp (low_inr G3) (low_ap (low_inr G3) hZ hp1))
     replace F5 := F5.chg hc6 (Dj.inr (Dj.of L0 G3))
     replace F6 := F6.chg hc6 (Dj.inr (Dj.of L0 G3))
     replace F9 := F9.chg hc6 (Dj.inr (D1).symm)
     replace hB := hB.inS hc6 (memS_inr (inLow G3))
     replace hZ := Nat.le_trans hZ hc6.size
     refine wS_idx (d := 38) (T := 77) (A := A6) (n := (l5).length) (cap := cap7) (kd := .i64) (m := x1) (by kernel_rfl) sl77 (by have h_ := F10.at; rw [List.length_set] at h_; exact h_) ?_
     refine wS_storeH (k := 1) (enc := encI) (ll := l5.set (Int.toNat x1) (x5 ++ (([wr (x4 + (((l0).length : Int)))] : List (Int))))) (T := 75) (U := 75) (T2 := 3) (cap := cap7) (c := cap9) (n := (x5 ++ (([wr (x4 + (((l0).length : Int)))] : List (Int)))).length) (A := A6) (B := A8) (m := x1) (by kernel_rfl) sz75 F10 ?_
     intro w6 F11 hc7
     replace F5 := F5.chg hc7 (Dj.inl (Dj.of L0 G6))
     replace F6 := F6.chg hc7 (Dj.inl (Dj.of L0 G6))
     replace F9 := F9.chg hc7 (Dj.inl D3)
     replace hB := hB.inS hc7 (memS_inl (inLow G6))
     replace hZ := Nat.le_trans hZ hc7.size
     rewrite [show (l5).length = (l5.set (Int.toNat x1) (x5 ++ (([wr (x4 + (((l0).length : Int)))] : List (Int))))).length from (List.length_set ..).symm]
     refine wS_end (by rfl) ?_
     refine eX_then ?_
     refine cW_prune [(3, .int .i64 (((l0).length : Int))), (4, .slice A6 (l5.set (Int.toNat x1) (x5 ++ (([wr (x4 + (((l0).length : Int)))] : List (Int))))).length cap7), (5, .int .i64 (x1)), (8, .int .i64 (x4)), (14, .slice A0 (l0).length cap0), (15, .int .i64 (((l0).length : Int))), (16, .int .i64 (x1)), (21, .slice A4 (x2).length cap5), (22, .int .i64 (((x2).length : Int))), (23, .int .i64 (x3))] (by kernel_rfl) (by kernel_rfl) (fun a1 => ?_)
     refine cW_region ?_
     refine wS_pure 8 [(46, .int .i64 (wr (x1 + (((l0).length : Int))))), (45, .int .i64 (((l0).length : Int))), (44, .int .i64 (x1)), (43, .slice A6 (l5.set (Int.toNat x1) (x5 ++ (([wr (x4 + (((l0).length : Int)))] : List (Int))))).length cap7), (42, .int .i64 (wr (x1 + (((l0).length : Int))))), (41, .int .i64 (((l0).length : Int))), (40, .int .i64 (x1)), (39, .slice A6 (l5.set (Int.toNat x1) (x5 ++ (([wr (x4 + (((l0).length : Int)))] : List (Int))))).length cap7)] (by kernel_rfl) ?_
     obtain ⟨x6, hx6, hm⟩ := bindE hm
     refine wS_idx (d := 47) (T := 77) (A := A6) (n := (l5.set (Int.toNat x1) (x5 ++ (([wr (x4 + (((l0).length : Int)))] : List (Int))))).length) (cap := cap7) (kd := .i64) (m := wr (x1 + (((l0).length : Int)))) (by kernel_rfl) sl77 ((F11.slr encI_ok).is hx6) ?_
     obtain ⟨A9, cap10, hc8, F12, K3⟩ := OwR.row F11 encI_ok hx6
     have G7 := low_inr G6
     have Dm2 := (F11.dj).symm
     refine wS_load1 (d := 48) (T := 75) (ad := (elA A6 1 (wr (x1 + (((l0).length : Int)))) 0)) (v := .slice A9 (x6).length cap10) (by kernel_rfl) vt75 hc8 ?_
     refine wS_pure 1 [(49, .int .i64 (x4))] (by kernel_rfl) ?_
     refine wS_bs (enc := encI) ([x4] : List (Int)) [.int .i64 (x4)] (d := 50) (t := 75) (T := 3) (n := 1) (ps := [(0, .int .i64 (x4))]) (by kernel_rfl) el75 encI_ok (by rfl) (by omega) (by omega) (by kernel_rfl) (by rfl) ?_
     intro b3 w7 G8 F13 hc9
     have D4 : Dj [b2] [b3] := Dj.of F9.low (low1 G8)
     have D5 : Dj (fp4 ++ (fr4 ++ fp5)) [b3] := Dj.of F11.low (low1 G8)
     have D6 : Dj (fr4 ++ fp5) [b3] := Dj.of F12.low (low1 G8)
     replace F5 := F5.chg hc9 Dj.nil
     replace F6 := F6.chg hc9 Dj.nil
     replace F9 := F9.chg hc9 Dj.nil
     replace F11 := F11.chg hc9 Dj.nil
     replace F12 := F12.chg hc9 Dj.nil
     have hc10 := hc9.keep hc8
     replace hB := hB.inS hc9 inNil
     replace G8 := Nat.le_trans hZ G8
     replace G8 := low1 G8
     replace hZ := Nat.le_trans hZ hc9.size
     obtain ⟨_, hk3, hm⟩ := bindE hm
     replace hk3 := apE hk3
     refine wS_appH (k := 1) (enc := encI) (ll := l5.set (Int.toNat x1) (x5 ++ (([wr (x4 + (((l0).length : Int)))] : List (Int))))) (l := (x6 : List (Int))) (l2 := (([x4] : List (Int)) : List (Int))) (d := 51) (t := 75) (T2 := 3) (U := 75) (m := wr (x1 + (((l0).length : Int)))) (A := A6) (B := A9) (A2 := (some ⟨b3, 0, none⟩)) (cap := cap7) (c := cap10) (cap2 := 1) (by kernel_rfl) el75 encI_ok F11 hx6 hc10 (F13.sl encI_ok) hk3 ?_
     intro w8 fp6 A10 cap11 F14 hc11 hp2
     have D7 : Dj [b2] (fp4 ++ ((fr4 ++ fp5) ++ fp6)) := Dj.app (Dj.inl D3) (Dj.app (Dj.inr D3) (Dj.ap (Dj.inr D3) F9.low hp2))
     have D8 : Dj [b3] (fp4 ++ ((fr4 ++ fp5) ++ fp6)) := Dj.app (Dj.inl (D5).symm) (Dj.app (Dj.inr (D5).symm) (Dj.ap (Dj.inr (D5).symm) F13.low hp2))
     have G9 := lowApp (low_inl G6) (lowApp (low_inr G6) (low_ap (low_inr G6) hZ hp2))
     replace F5 := F5.chg hc11 (Dj.inr (Dj.of L0 G6))
     replace F6 := F6.chg hc11 (Dj.inr (Dj.of L0 G6))
     replace F9 := F9.chg hc11 (Dj.inr D3)
     replace F13 := F13.chg hc11 (Dj.inr (D5).symm)
     replace hB := hB.inS hc11 (memS_inr (inLow G6))
     replace hZ := Nat.le_trans hZ hc11.size
     refine wS_idx (d := 52) (T := 77) (A := A6) (n := (l5.set (Int.toNat x1) (x5 ++ (([wr (x4 + (((l0).length : Int)))] : List (Int))))).length) (cap := cap7) (kd := .i64) (m := wr (x1 + (((l0).length : Int)))) (by kernel_rfl) sl77 (by have h_ := F14.at; rw [List.length_set] at h_; exact h_) ?_
     refine wS_storeH (k := 1) (enc := encI) (ll := (l5.set (Int.toNat x1) (x5 ++ (([wr (x4 + (((l0).length : Int)))] : List (Int))))).set (Int.toNat (wr (x1 + (((l0).length : Int))))) (x6 ++ (([x4] : List (Int))))) (T := 75) (U := 75) (T2 := 3) (cap := cap7) (c := cap11) (n := (x6 ++ (([x4] : List (Int)))).length) (A := A6) (B := A10) (m := wr (x1 + (((l0).length : Int)))) (by kernel_rfl) sz75 F14 ?_
     intro w9 F15 hc12
     replace F5 := F5.chg hc12 (Dj.inl (Dj.of L0 G9))
     replace F6 := F6.chg hc12 (Dj.inl (Dj.of L0 G9))
     replace F9 := F9.chg hc12 (Dj.inl D7)
     replace F13 := F13.chg hc12 (Dj.inl D8)
     replace hB := hB.inS hc12 (memS_inl (inLow G9))
     replace hZ := Nat.le_trans hZ hc12.size
     rewrite [show (l5.set (Int.toNat x1) (x5 ++ (([wr (x4 + (((l0).length : Int)))] : List (Int))))).length = ((l5.set (Int.toNat x1) (x5 ++ (([wr (x4 + (((l0).length : Int)))] : List (Int))))).set (Int.toNat (wr (x1 + (((l0).length : Int))))) (x6 ++ (([x4] : List (Int))))).length from (List.length_set ..).symm]
     refine wS_end (by rfl) ?_
     refine eX_block ?_
     refine eX_then ?_
     refine cW_prune [(3, .int .i64 (((l0).length : Int))), (4, .slice A6 ((l5.set (Int.toNat x1) (x5 ++ (([wr (x4 + (((l0).length : Int)))] : List (Int))))).set (Int.toNat (wr (x1 + (((l0).length : Int))))) (x6 ++ (([x4] : List (Int))))).length cap7), (5, .int .i64 (x1)), (14, .slice A0 (l0).length cap0), (15, .int .i64 (((l0).length : Int))), (16, .int .i64 (x1)), (21, .slice A4 (x2).length cap5), (22, .int .i64 (((x2).length : Int))), (23, .int .i64 (x3))] (by kernel_rfl) (by kernel_rfl) (fun a2 => ?_)
     refine cW_region ?_
     refine wS_pure 2 [(23, .int .i64 (wr (x3 + 1))), (53, .int .i64 (wr (x3 + 1)))] (by kernel_rfl) ?_
     refine wS_end (by rfl) ?_
     have hq : (some (Ctl.next (((l5.set (Int.toNat x1) (x5 ++ (([wr (x4 + (((l0).length : Int)))] : List (Int))))).set (Int.toNat (wr (x1 + (((l0).length : Int))))) (x6 ++ (([x4] : List (Int)))), wr (x3 + 1)))) : Option (Ctl ((List (List (Int))) × Int) ((List (List (Int)))))) = some _ := hm
     replace hq := someE hq
     subst hq
     exact eX_next hx3 (fun hst => ⟨(l5.set (Int.toNat x1) (x5 ++ (([wr (x4 + (((l0).length : Int)))] : List (Int))))).set (Int.toNat (wr (x1 + (((l0).length : Int))))) (x6 ++ (([x4] : List (Int)))), A6, cap7, fp4, ((fr4 ++ fp5) ++ fp6), wr (x3 + 1), rfl, Fr.of hst (by kernel_rfl), F5, F6, F15, G9, hB, hZ⟩)
    ·have hm := condF hb2 hm
     refine cW_exit ?_
     refine eX_then_exit ?_
     have hq : (some (Ctl.out l5) : Option (Ctl ((List (List (Int))) × Int) ((List (List (Int)))))) = some _ := hm
     replace hq := someE hq
     subst hq
     refine eX_outX hx3 (fun hr3 => ?_)
     replace hr3 := hr3.symm
     subst hr3
     refine eX_block_hit ?_
     exact eX_J (fun hst => ⟨l5, A6, cap7, fp4, fr4, rfl, Fr.of hst (by kernel_rfl), F5, F7, G3, hB, hZ⟩)
   ·rintro a' w10 ⟨l4, A5, cap6, fp3, fr3, hJ, hF3, F16, F17, G10, hB, hZ⟩
    subst hJ
    refine Fr.goX hF3 (by kernel_rfl) ?_
    refine eX_block ?_
    refine eX_then ?_
    refine cW_region ?_
    refine wS_pure 2 [(16, .int .i64 (wr (x1 + 1))), (54, .int .i64 (wr (x1 + 1)))] (by kernel_rfl) ?_
    refine wS_end (by rfl) ?_
    have hq : (some (Ctl.next ((l4, wr (x1 + 1)))) : Option (Ctl ((List (List (Int))) × Int) ((List (List (Int)))))) = some _ := hm
    replace hq := someE hq
    subst hq
    exact eX_next hx1 (fun hst => ⟨l4, A5, cap6, fp3, fr3, wr (x1 + 1), rfl, Fr.of hst (by kernel_rfl), F16, F17, G10, hB, hZ⟩)
  ·have hm := condF hb1 hm
   refine cW_exit ?_
   refine eX_then_exit ?_
   have hq : (some (Ctl.out l3) : Option (Ctl ((List (List (Int))) × Int) ((List (List (Int)))))) = some _ := hm
   replace hq := someE hq
   subst hq
   refine eX_outX hx1 (fun hr4 => ?_)
   replace hr4 := hr4.symm
   subst hr4
   refine eX_block_hit ?_
   exact eX_J (fun hst => ⟨l3, A3, cap4, fp2, fr2, rfl, Fr.of hst (by kernel_rfl), F3, G2, hB, hZ⟩)
 ·rintro a' w11 ⟨l1, A1, cap3, fp1, fr1, hJ, hF4, F18, G11, hB, hZ⟩
  subst hJ
  refine Fr.goX hF4 (by kernel_rfl) ?_
  refine eX_then ?_
  refine cW_seq ?_
  refine cW_region ?_
  refine wS_pure 2 [(2, .slice A1 (l1).length cap3), (55, .slice A1 (l1).length cap3)] (by kernel_rfl) ?_
  refine wS_end (by rfl) ?_
  refine eX_then ?_
  refine cW_ret ?_
  have hq : (some l1 : Option ((List (List (Int))))) = some _ := hm
  replace hq := someE hq
  subst hq
  refine eX_ret (vs := [.slice A1 (l1).length cap3]) [.tmp 2] (by rfl) ⟨by (show lkE _ _ _ = _); kernel_rfl, trivial⟩ ?_
  exact ⟨A1, cap3, fp1, fr1, rfl, F18, G11, hB⟩

set_option maxRecDepth 100000 in
/-- slices.Index[[]int,int] -/
theorem c_slices_Index_int_int {w0 : World} {l0 : List (Int)} {A0 : Option Addr} {cap0 : Nat} {fp0 : List Nat} {p1 : Int} {r : (Int)} (hm : m_slices_Index_int_int l0 p1 = some r) (F0 : Sl 1 encI w0 fp0 A0 l0) :
  Calls Try.prog 126 #[.slice A0 (l0).length cap0, .int .i64 (p1)] w0 fun e w' => e = .returned (.int .i64 (r)) ∧ Chg [] w0 w' := by
 have L0 := F0.low
 have hB : Chg [] w0 w0 := Chg.refl _ _
 have hZ := Nat.le_refl w0.heap.size
 unfold m_slices_Index_int_int at hm
 refine enterE (N := 19) Try.func126 (by rfl) Try.ntmps126 (by simp) [(0, .slice A0 (l0).length cap0), (1, .int .i64 (p1))] (by rfl) (by kernel_rfl) (fun a => ?_)
 refine cW_seq ?_
 refine cW_region ?_
 refine wS_pure 1 [(4, .int .i64 (0))] (by kernel_rfl) ?_
 refine wS_end (by rfl) ?_
 refine eX_then ?_
 refine cW_seq ?_
 refine cW_seq ?_
 refine cW_region ?_
 refine wS_pure 3 [(8, .int .i64 (0)), (7, .int .i64 (((l0).length : Int))), (6, .slice A0 (l0).length cap0)] (by kernel_rfl) ?_
 refine wS_end (by rfl) ?_
 refine eX_then ?_
 obtain ⟨r1, hr1, hm⟩ := bindE hm
 have hm1 := hm
 refine cW_cut (fun a' w' => Sum.inl (()) = r1 ∧ Fr 19 [] a' ∧ Chg [] w0 w' ∧ w0.heap.size ≤ w'.heap.size) ?_ ?_
 ·refine cW_block ?_
  refine cW_loop _ (fun (s1 : Int) a' w' => ∃ x1 : Int, x1 = s1 ∧ Fr 19 [(0, .slice A0 (l0).length cap0), (1, .int .i64 (p1)), (7, .int .i64 (((l0).length : Int))), (8, .int .i64 (x1))] a' ∧ Sl 1 encI w' fp0 A0 l0 ∧ Chg [] w0 w' ∧ w0.heap.size ≤ w'.heap.size) hr1 (fun hst => ⟨0, rfl, Fr.of hst (by kernel_rfl), F0, hB, hZ⟩) ?_
  rintro _ c1 a' w1 ⟨x1, rfl, hF1, F1, hB, hZ⟩ hx1
  refine Fr.goOn hF1 (by kernel_rfl) ?_
  have hm := hx1
  unfold m_slices_Index_int_int_s1 at hm
  refine cW_seq ?_
  refine cW_region ?_
  refine wS_pure 1 [(9, .bool (decide (x1 < (((l0).length : Int)))))] (by kernel_rfl) ?_
  refine wS_end (by rfl) ?_
  refine eX_then ?_
  refine cW_seq ?_
  refine cW_cond (t := decide (x1 < (((l0).length : Int)))) (by kernel_rfl) (fun hb1 => ?_) (fun hb1 => ?_)
  ·have hm := condT hb1 hm
   refine cW_skip ?_
   refine eX_then ?_
   refine cW_seq ?_
   refine cW_block ?_
   refine cW_seq ?_
   refine cW_region ?_
   refine wS_pure 2 [(5, .int .i64 (x1)), (10, .int .i64 (x1))] (by kernel_rfl) ?_
   refine wS_end (by rfl) ?_
   refine eX_then ?_
   refine cW_seq ?_
   refine cW_region ?_
   refine wS_pure 3 [(13, .int .i64 (x1)), (12, .slice A0 (l0).length cap0), (11, .int .i64 (p1))] (by kernel_rfl) ?_
   obtain ⟨x2, hx2, hm⟩ := bindE hm
   refine wS_idx (d := 14) (T := 75) (A := A0) (n := (l0).length) (cap := cap0) (kd := .i64) (m := x1) (by kernel_rfl) sl75 (F1.is hx2) ?_
   refine wS_load1 (d := 15) (T := 3) (ad := (elA A0 1 (x1) 0)) (v := .int .i64 (x2)) (by kernel_rfl) vt3 (Sl.cell F1 hx2 0 (by rfl)) ?_
   refine wS_pure 1 [(16, .bool (p1 == x2))] (by kernel_rfl) ?_
   refine wS_end (by rfl) ?_
   refine eX_then ?_
   refine cW_cond (t := p1 == x2) (by kernel_rfl) (fun hb2 => ?_) (fun hb2 => ?_)
   ·have hm := condT hb2 hm
    refine cW_seq ?_
    refine cW_region ?_
    refine wS_pure 2 [(4, .int .i64 (x1)), (17, .int .i64 (x1))] (by kernel_rfl) ?_
    refine wS_end (by rfl) ?_
    refine eX_then ?_
    refine cW_ret ?_
    refine eX_block_ret ?_
    refine eX_then_ret ?_
    have hq : (some (Ctl.out (Sum.inr x1)) : Option (Ctl (Int) (Sum (Unit) ((Int))))) = some _ := hm
    replace hq := someE hq
    subst hq
    refine eX_outR hx1 (fun hr => ?_)
    subst hr
    refine eX_block_ret ?_
    refine eX_then_ret ?_
    refine eX_then_ret ?_
    have hq : (some x1 : Option ((Int))) = some _ := hm1
    replace hq := someE hq
    subst hq
    refine eX_ret (vs := [.int .i64 (x1)]) [.tmp 4] (by rfl) ⟨by (show lkE _ _ _ = _); kernel_rfl, trivial⟩ ?_
    exact ⟨rfl, hB⟩
   ·have hm := condF hb2 hm
    refine cW_skip ?_
    refine eX_block ?_
    refine eX_then ?_
    refine cW_region ?_
    refine wS_pure 2 [(8, .int .i64 (wr (x1 + 1))), (18, .int .i64 (wr (x1 + 1)))] (by kernel_rfl) ?_
    refine wS_end (by rfl) ?_
    have hq : (some (Ctl.next (wr (x1 + 1))) : Option (Ctl (Int) (Sum (Unit) ((Int))))) = some _ := hm
    replace hq := someE hq
    subst hq
    exact eX_next hx1 (fun hst => ⟨wr (x1 + 1), rfl, Fr.of hst (by kernel_rfl), F1, hB, hZ⟩)
  ·have hm := condF hb1 hm
   refine cW_exit ?_
   refine eX_then_exit ?_
   have hq : (some (Ctl.out (Sum.inl (()))) : Option (Ctl (Int) (Sum (Unit) ((Int))))) = some _ := hm
   replace hq := someE hq
   subst hq
   refine eX_outX hx1 (fun hr2 => ?_)
   replace hr2 := hr2.symm
   subst hr2
   refine eX_block_hit ?_
   exact eX_J (fun hst => ⟨rfl, Fr.of hst (by kernel_rfl), hB, hZ⟩)
 ·rintro a' w2 ⟨hJ, hF2, hB, hZ⟩
  subst hJ
  refine Fr.goX hF2 (by kernel_rfl) ?_
  refine eX_then ?_
  refine cW_seq ?_
  refine cW_region ?_
  refine wS_pure 1 [(4, .int .i64 ((-1)))] (by kernel_rfl) ?_
  refine wS_end (by rfl) ?_
  refine eX_then ?_
  refine cW_ret ?_
  have hq : (some ((-1)) : Option ((Int))) = some _ := hm
  replace hq := someE hq
  subst hq
  refine eX_ret (vs := [.int .i64 ((-1))]) [.tmp 4] (by rfl) ⟨by (show lkE _ _ _ = _); kernel_rfl, trivial⟩ ?_
  exact ⟨rfl, hB⟩

set_option maxRecDepth 100000 in
/-- slices.Contains[[]int,int] -/
theorem c_slices_Contains_int_int {w0 : World} {l0 : List (Int)} {A0 : Option Addr} {cap0 : Nat} {fp0 : List Nat} {p1 : Int} {r : (Bool)} (hm : m_slices_Contains_int_int l0 p1 = some r) (F0 : Sl 1 encI w0 fp0 A0 l0) :
  Calls Try.prog 99 #[.slice A0 (l0).length cap0, .int .i64 (p1)] w0 fun e w' => e = .returned (.bool (r)) ∧ Chg [] w0 w' := by
 have L0 := F0.low
 have hB : Chg [] w0 w0 := Chg.refl _ _
 have hZ := Nat.le_refl w0.heap.size
 unfold m_slices_Contains_int_int at hm
 refine enterE (N := 9) Try.func99 (by rfl) Try.ntmps99 (by simp) [(0, .slice A0 (l0).length cap0), (1, .int .i64 (p1))] (by rfl) (by kernel_rfl) (fun a => ?_)
 refine cW_seq ?_
 refine cW_region ?_
 refine wS_pure 1 [(4, .bool (false))] (by kernel_rfl) ?_
 refine wS_end (by rfl) ?_
 refine eX_then ?_
 refine cW_seq ?_
 refine cW_region ?_
 refine wS_pure 2 [(6, .int .i64 (p1)), (5, .slice A0 (l0).length cap0)] (by kernel_rfl) ?_
 obtain ⟨y1, hy1, hm⟩ := bindE hm
 refine wS_calls (d := 7) (f := 126) (vs := [.slice A0 (l0).length cap0, .int .i64 (p1)]) (by kernel_rfl) ent126 (c_slices_Index_int_int hy1 F0) ?_
 rintro _ w1 ⟨rfl, hc1⟩
 replace F0 := F0.chg hc1 Dj.nil
 replace hB := hB.inS hc1 inNil
 replace hZ := Nat.le_trans hZ hc1.size
 refine ⟨.int .i64 (y1), rfl, ?_⟩
 refine wS_pure 2 [(4, .bool (decide (y1 ≥ 0))), (8, .bool (decide (y1 ≥ 0)))] (by kernel_rfl) ?_
 refine wS_end (by rfl) ?_
 refine eX_then ?_
 refine cW_ret ?_
 have hq : (some (decide (y1 ≥ 0)) : Option ((Bool))) = some _ := hm
 replace hq := someE hq
 subst hq
 refine eX_ret (vs := [.bool (decide (y1 ≥ 0))]) [.tmp 4] (by rfl) ⟨by (show lkE _ _ _ = _); kernel_rfl, trivial⟩ ?_
 exact ⟨rfl, hB⟩

set_option maxRecDepth 100000 in
/-- bits.Mul64 -/
theorem c_math_bits_Mul64 {w0 : World} {p0 : Int} {p1 : Int} {r : (Int) × (Int)} (hm : m_math_bits_Mul64 p0 p1 = some r)  :
  Calls Try.prog 158 #[.int .u64 (p0), .int .u64 (p1)] w0 fun e w' => e = .returned (.tuple #[.int .u64 (r.1), .int .u64 (r.2)]) ∧ Chg [] w0 w' := by
 have hB : Chg [] w0 w0 := Chg.refl _ _
 have hZ := Nat.le_refl w0.heap.size
 unfold m_math_bits_Mul64 at hm
 refine enterE (N := 51) Try.func158 (by rfl) Try.ntmps158 (by simp) [(0, .int .u64 (p0)), (1, .int .u64 (p1))] (by rfl) (by kernel_rfl) (fun a => ?_)
 refine cW_seq ?_
 refine cW_region ?_
 refine wS_pure 2 [(5, .int .u64 (0)), (4, .int .u64 (0))] (by kernel_rfl) ?_
 refine wS_end (by rfl) ?_
 refine eX_then ?_
 refine cW_seq ?_
 refine cW_region ?_
 refine wS_pure 3 [(6, .int .u64 (andU p0 4294967295)), (15, .int .u64 (andU p0 4294967295)), (14, .int .u64 (p0))] (by kernel_rfl) ?_
 refine wS_end (by rfl) ?_
 refine eX_then ?_
 refine cW_seq ?_
 refine cW_region ?_
 refine wS_pure 3 [(7, .int .u64 (shrU p0 32)), (17, .int .u64 (shrU p0 32)), (16, .int .u64 (p0))] (by kernel_rfl) ?_
 refine wS_end (by rfl) ?_
 refine eX_then ?_
 refine cW_seq ?_
 refine cW_region ?_
 refine wS_pure 3 [(8, .int .u64 (andU p1 4294967295)), (19, .int .u64 (andU p1 4294967295)), (18, .int .u64 (p1))] (by kernel_rfl) ?_
 refine wS_end (by rfl) ?_
 refine eX_then ?_
 refine cW_seq ?_
 refine cW_region ?_
 refine wS_pure 3 [(9, .int .u64 (shrU p1 32)), (21, .int .u64 (shrU p1 32)), (20, .int .u64 (p1))] (by kernel_rfl) ?_
 refine wS_end (by rfl) ?_
 refine eX_then ?_
 refine cW_seq ?_
 refine cW_region ?_
 refine wS_pure 4 [(10, .int .u64 (wu ((andU p0 4294967295) * (andU p1 4294967295)))), (24, .int .u64 (wu ((andU p0 4294967295) * (andU p1 4294967295)))), (23, .int .u64 (andU p1 4294967295)), (22, .int .u64 (andU p0 4294967295))] (by kernel_rfl) ?_
 refine wS_end (by rfl) ?_
 refine eX_then ?_
 refine cW_seq ?_
 refine cW_region ?_
 refine wS_pure 7 [(11, .int .u64 (wu ((wu ((shrU p0 32) * (andU p1 4294967295))) + (shrU (wu ((andU p0 4294967295) * (andU p1 4294967295))) 32)))), (30, .int .u64 (wu ((wu ((shrU p0 32) * (andU p1 4294967295))) + (shrU (wu ((andU p0 4294967295) * (andU p1 4294967295))) 32)))), (29, .int .u64 (shrU (wu ((andU p0 4294967295) * (andU p1 4294967295))) 32)), (28, .int .u64 (wu ((andU p0 4294967295) * (andU p1 4294967295)))), (27, .int .u64 (wu ((shrU p0 32) * (andU p1 4294967295)))), (26, .int .u64 (andU p1 4294967295)), (25, .int .u64 (shrU p0 32))] (by kernel_rfl) ?_
 refine wS_end (by rfl) ?_
 refine eX_then ?_
 refine cW_prune [(0, .int .u64 (p0)), (1, .int .u64 (p1)), (6, .int .u64 (andU p0 4294967295)), (7, .int .u64 (shrU p0 32)), (9, .int .u64 (shrU p1 32)), (11, .int .u64 (wu ((wu ((shrU p0 32) * (andU p1 4294967295))) + (shrU (wu ((andU p0 4294967295) * (andU p1 4294967295))) 32))))] (by kernel_rfl) (by kernel_rfl) (fun a1 => ?_)
 refine cW_seq ?_
 refine cW_region ?_
 refine wS_pure 3 [(12, .int .u64 (andU (wu ((wu ((shrU p0 32) * (andU p1 4294967295))) + (shrU (wu ((andU p0 4294967295) * (andU p1 4294967295))) 32))) 4294967295)), (32, .int .u64 (andU (wu ((wu ((shrU p0 32) * (andU p1 4294967295))) + (shrU (wu ((andU p0 4294967295) * (andU p1 4294967295))) 32))) 4294967295)), (31, .int .u64 (wu ((wu ((shrU p0 32) * (andU p1 4294967295))) + (shrU (wu ((andU p0 4294967295) * (andU p1 4294967295))) 32))))] (by kernel_rfl) ?_
 refine wS_end (by rfl) ?_
 refine eX_then ?_
 refine cW_seq ?_
 refine cW_region ?_
 refine wS_pure 3 [(13, .int .u64 (shrU (wu ((wu ((shrU p0 32) * (andU p1 4294967295))) + (shrU (wu ((andU p0 4294967295) * (andU p1 4294967295))) 32))) 32)), (34, .int .u64 (shrU (wu ((wu ((shrU p0 32) * (andU p1 4294967295))) + (shrU (wu ((andU p0 4294967295) * (andU p1 4294967295))) 32))) 32)), (33, .int .u64 (wu ((wu ((shrU p0 32) * (andU p1 4294967295))) + (shrU (wu ((andU p0 4294967295) * (andU p1 4294967295))) 32))))] (by kernel_rfl) ?_
 refine wS_end (by rfl) ?_
 refine eX_then ?_
 refine cW_seq ?_
 refine cW_region ?_
 refine wS_pure 6 [(12, .int .u64 (wu ((andU (wu ((wu ((shrU p0 32) * (andU p1 4294967295))) + (shrU (wu ((andU p0 4294967295) * (andU p1 4294967295))) 32))) 4294967295) + (wu ((andU p0 4294967295) * (shrU p1 32)))))), (39, .int .u64 (wu ((andU (wu ((wu ((shrU p0 32) * (andU p1 4294967295))) + (shrU (wu ((andU p0 4294967295) * (andU p1 4294967295))) 32))) 4294967295) + (wu ((andU p0 4294967295) * (shrU p1 32)))))), (38, .int .u64 (wu ((andU p0 4294967295) * (shrU p1 32)))), (37, .int .u64 (shrU p1 32)), (36, .int .u64 (andU p0 4294967295)), (35, .int .u64 (andU (wu ((wu ((shrU p0 32) * (andU p1 4294967295))) + (shrU (wu ((andU p0 4294967295) * (andU p1 4294967295))) 32))) 4294967295))] (by kernel_rfl) ?_
 refine wS_end (by rfl) ?_
 refine eX_then ?_
 refine cW_seq ?_
 refine cW_region ?_
 refine wS_pure 9 [(4, .int .u64 (wu ((wu ((wu ((shrU p0 32) * (shrU p1 32))) + (shrU (wu ((wu ((shrU p0 32) * (andU p1 4294967295))) + (shrU (wu ((andU p0 4294967295) * (andU p1 4294967295))) 32))) 32))) + (shrU (wu ((andU (wu ((wu ((shrU p0 32) * (andU p1 4294967295))) + (shrU (wu ((andU p0 4294967295) * (andU p1 4294967295))) 32))) 4294967295) + (wu ((andU p0 4294967295) * (shrU p1 32))))) 32)))), (47, .int .u64 (wu ((wu ((wu ((shrU p0 32) * (shrU p1 32))) + (shrU (wu ((wu ((shrU p0 32) * (andU p1 4294967295))) + (shrU (wu ((andU p0 4294967295) * (andU p1 4294967295))) 32))) 32))) + (shrU (wu ((andU (wu ((wu ((shrU p0 32) * (andU p1 4294967295))) + (shrU (wu ((andU p0 4294967295) * (andU p1 4294967295))) 32))) 4294967295) + (wu ((andU p0 4294967295) * (shrU p1 32))))) 32)))), (46, .int .u64 (shrU (wu ((andU (wu ((wu ((shrU p0 32) * (andU p1 4294967295))) + (shrU (wu ((andU p0 4294967295) * (andU p1 4294967295))) 32))) 4294967295) + (wu ((andU p0 4294967295) * (shrU p1 32))))) 32)), (45, .int .u64 (wu ((andU (wu ((wu ((shrU p0 32) * (andU p1 4294967295))) + (shrU (wu ((andU p0 4294967295) * (andU p1 4294967295))) 32))) 4294967295) + (wu ((andU p0 4294967295) * (shrU p1 32)))))), (44, .int .u64 (wu ((wu ((shrU p0 32) * (shrU p1 32))) + (shrU (wu ((wu ((shrU p0 32) * (andU p1 4294967295))) + (shrU (wu ((andU p0 4294967295) * (andU p1 4294967295))) 32))) 32)))), (43, .int .u64 (shrU (wu ((wu ((shrU p0 32) * (andU p1 4294967295))) + (shrU (wu ((andU p0 4294967295) * (andU p1 4294967295))) 32))) 32)), (42, .int .u64 (wu ((shrU p0 32) * (shrU p1 32)))), (41, .int .u64 (shrU p1 32)), (40, .int .u64 (shrU p0 32))] (by kernel_rfl) ?_
 refine wS_end (by rfl) ?_
 refine eX_then ?_
 refine cW_prune [(0, .int .u64 (p0)), (1, .int .u64 (p1)), (4, .int .u64 (wu ((wu ((wu ((shrU p0 32) * (shrU p1 32))) + (shrU (wu ((wu ((shrU p0 32) * (andU p1 4294967295))) + (shrU (wu ((andU p0 4294967295) * (andU p1 4294967295))) 32))) 32))) + (shrU (wu ((andU (wu ((wu ((shrU p0 32) * (andU p1 4294967295))) + (shrU (wu ((andU p0 4294967295) * (andU p1 4294967295))) 32))) 4294967295) + (wu ((andU p0 4294967295) * (shrU p1 32))))) 32))))] (by kernel_rfl) (by kernel_rfl) (fun a2 => ?_)
 refine cW_seq ?_
 refine cW_region ?_
 refine wS_pure 4 [(5, .int .u64 (wu (p0 * p1))), (50, .int .u64 (wu (p0 * p1))), (49, .int .u64 (p1)), (48, .int .u64 (p0))] (by kernel_rfl) ?_
 refine wS_end (by rfl) ?_
 refine eX_then ?_
 refine cW_ret ?_
 have hq : (some ((wu ((wu ((wu ((shrU p0 32) * (shrU p1 32))) + (shrU (wu ((wu ((shrU p0 32) * (andU p1 4294967295))) + (shrU (wu ((andU p0 4294967295) * (andU p1 4294967295))) 32))) 32))) + (shrU (wu ((andU (wu ((wu ((shrU p0 32) * (andU p1 4294967295))) + (shrU (wu ((andU p0 4294967295) * (andU p1 4294967295))) 32))) 4294967295) + (wu ((andU p0 4294967295) * (shrU p1 32))))) 32)), wu (p0 * p1))) : Option ((Int) × (Int))) = some _ := hm
 replace hq := someE hq
 subst hq
 refine eX_ret (vs := [.int .u64 (wu ((wu ((wu ((shrU p0 32) * (shrU p1 32))) + (shrU (wu ((wu ((shrU p0 32) * (andU p1 4294967295))) + (shrU (wu ((andU p0 4294967295) * (andU p1 4294967295))) 32))) 32))) + (shrU (wu ((andU (wu ((wu ((shrU p0 32) * (andU p1 4294967295))) + (shrU (wu ((andU p0 4294967295) * (andU p1 4294967295))) 32))) 4294967295) + (wu ((andU p0 4294967295) * (shrU p1 32))))) 32))), .int .u64 (wu (p0 * p1))]) [.tmp 4, .tmp 5] (by rfl) ⟨by (show lkE _ _ _ = _); kernel_rfl, ⟨by (show lkE _ _ _ = _); kernel_rfl, trivial⟩⟩ ?_
 exact ⟨rfl, hB⟩

end Go.Proofs.Ytngnljnfbfgfeaa
