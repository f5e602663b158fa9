/- Printed walks: (*impl.chooser).choose, impl.BestJoins, laws.szPointS. -/
import Derived.Test.YtfjpfomdoohabaaProg
import Derived.Test.YtfjpfomdoohabaaWBj01
set_option linter.unusedSimpArgs false
set_option linter.unusedVariables false
namespace Go.Proofs.Ytfjpfomdoohabaa
open Go.RowKit
attribute [local irreducible] wS cW eX wH

theorem ent23 : Ent Try.prog 23 := fun _ => by kernel_rfl
theorem ent24 : Ent Try.prog 24 := fun _ => by kernel_rfl
theorem ent25 : Ent Try.prog 25 := fun _ => by kernel_rfl
theorem ent27 : Ent Try.prog 27 := fun _ => by kernel_rfl
theorem ent42 : Ent Try.prog 42 := fun _ => by kernel_rfl
theorem ent43 : Ent Try.prog 43 := fun _ => by kernel_rfl
theorem ent44 : Ent Try.prog 44 := fun _ => by kernel_rfl
theorem vt26 : VarTy Try.prog 26 1 false := ⟨by kernel_rfl, by kernel_rfl⟩
theorem vt51 : VarTy Try.prog 51 1 false := ⟨by kernel_rfl, by kernel_rfl⟩
theorem sl26 : SlTy Try.prog 26 32 1 := ⟨Try.underlying26, by kernel_rfl⟩
theorem sl51 : SlTy Try.prog 51 58 5 := ⟨Try.underlying51, by kernel_rfl⟩
theorem el51 : ElTy Try.prog 51 58 5 (.agg #[.int .i64 (0), .int .i64 (0), .int .i64 (0), .int .i64 (0), .int .i64 (0)]) := ElTy.mk' Try.underlying51 (by kernel_rfl) (by rfl)
theorem sz26 : pureRun Try.prog (sizeOf 26) = some 1 := by kernel_rfl
theorem sz49 : pureRun Try.prog (sizeOf 49) = some 2 := by kernel_rfl
theorem sz51 : pureRun Try.prog (sizeOf 51) = some 1 := by kernel_rfl
theorem sz53 : pureRun Try.prog (sizeOf 53) = some 4 := by kernel_rfl

set_option maxHeartbeats 20000000 in
set_option maxRecDepth 100000 in
/-- impl.chooser).choose -/
theorem c_impl_chooser_choose_bimplchooser_body {R : (List (Int × Int × Int × Int × Int)) → (List (List (Int))) → (List (List (Int))) → (Bool) → (Int) → (List (Int)) → (Int) → Option ((Int) × (List (Int × Int × Int × Int × Int)) × (List (List (Int))) × (List (List (Int))) × (Bool))} (hR : ∀ {w0 : World} {l0_0 : List (Int × Int × Int × Int × Int)} {A0_0 : Option Addr} {cap0_0 : Nat} {fp0_0 : List Nat} {l0_1 : List (List (Int))} {A0_1 : Option Addr} {cap0_1 : Nat} {fp0_1 : List Nat} {fpz : List Nat} {l0_2 : List (List (Int))} {A0_2 : Option Addr} {cap0_2 : Nat} {fp0_2 : List Nat} {z0_2 : Bool} {q0_3 : Int} {b0 : Nat} {l1 : List (Int)} {A1 : Option Addr} {cap1 : Nat} {fp1 : List Nat} {p2 : Int} {r : (Int) × (List (Int × Int × Int × Int × Int)) × (List (List (Int))) × (List (List (Int))) × (Bool)} (hm : R l0_0 l0_1 l0_2 z0_2 q0_3 l1 p2 = some r) (F0_0 : Ow 5 encIIIII 58 w0 fp0_0 A0_0 cap0_0 l0_0) (F0_1 : OwR 1 encI 32 2 w0 fp0_1 fpz A0_1 cap0_1 l0_1) (F0_2 : OwR 1 encI 32 2 w0 fp0_2 fpz A0_2 cap0_2 l0_2) (Z0_2 : A0_2.isNone = z0_2) (F0 : Cl w0 b0 53 [.slice A0_0 (l0_0).length cap0_0, .slice A0_1 (l0_1).length cap0_1, .slice A0_2 (l0_2).length cap0_2, .int .i64 (q0_3)]) (F1 : Sl 1 encI w0 fp1 A1 l1) (K1 : (l1).length ≤ cap1) (FZ : ZLow w0 fpz) (J0__0_0 : Dj [b0] fp0_0) (J0__0_1 : Dj [b0] fp0_1) (J0__0_2 : Dj [b0] fp0_2) (J0__1 : Dj [b0] fp1) (J0__z : Dj [b0] fpz) (J0_0__0_1 : Dj fp0_0 fp0_1) (J0_0__0_2 : Dj fp0_0 fp0_2) (J0_0__1 : Dj fp0_0 fp1) (J0_0__z : Dj fp0_0 fpz) (J0_1__0_2 : Dj fp0_1 fp0_2) (J0_1__1 : Dj fp0_1 fp1) (J0_1__z : Dj fp0_1 fpz) (J0_2__1 : Dj fp0_2 fp1) (J0_2__z : Dj fp0_2 fpz), Calls Try.prog 25 #[.pointer (some ⟨b0, 0, none⟩), .slice A1 (l1).length cap1, .int .i64 (p2)] w0 fun e w' => ∃ At0_0 capt0_0 fpt0_0, ∃ At0_1 capt0_1 fpt0_1, ∃ At0_2 capt0_2 fpt0_2, ∃ fpzt, e = .returned (.tuple #[]) ∧ Dj fpt0_0 fpt0_1 ∧ Dj fpt0_0 fpt0_2 ∧ Dj fpt0_0 fpzt ∧ Dj fpt0_1 fpt0_2 ∧ Dj fpt0_1 fpzt ∧ Dj fpt0_2 fpzt ∧ Cl w' b0 53 [.slice At0_0 (r.2.1).length capt0_0, .slice At0_1 (r.2.2.1).length capt0_1, .slice At0_2 (r.2.2.2.1).length capt0_2, .int .i64 (r.1)] ∧ Ow 5 encIIIII 58 w' fpt0_0 At0_0 capt0_0 r.2.1 ∧ Rt w0.heap.size fp0_0 fpt0_0 ∧ OwR 1 encI 32 2 w' fpt0_1 fpzt At0_1 capt0_1 r.2.2.1 ∧ Rt w0.heap.size fp0_1 fpt0_1 ∧ OwR 1 encI 32 2 w' fpt0_2 fpzt At0_2 capt0_2 r.2.2.2.1 ∧ Rt w0.heap.size fp0_2 fpt0_2 ∧ At0_2.isNone = r.2.2.2.2 ∧ ZLow w' fpzt ∧ Rt w0.heap.size fpz fpzt ∧ Chg ([b0] ++ (fp0_0 ++ (fp0_1 ++ (fp0_2 ++ [])))) w0 w') {w0 : World} {l0_0 : List (Int × Int × Int × Int × Int)} {A0_0 : Option Addr} {cap0_0 : Nat} {fp0_0 : List Nat} {l0_1 : List (List (Int))} {A0_1 : Option Addr} {cap0_1 : Nat} {fp0_1 : List Nat} {fpz : List Nat} {l0_2 : List (List (Int))} {A0_2 : Option Addr} {cap0_2 : Nat} {fp0_2 : List Nat} {z0_2 : Bool} {q0_3 : Int} {b0 : Nat} {l1 : List (Int)} {A1 : Option Addr} {cap1 : Nat} {fp1 : List Nat} {p2 : Int} {r : (Int) × (List (Int × Int × Int × Int × Int)) × (List (List (Int))) × (List (List (Int))) × (Bool)} (hm : m_impl_chooser_choose_bimplchooser_body R l0_0 l0_1 l0_2 z0_2 q0_3 l1 p2 = some r) (F0_0 : Ow 5 encIIIII 58 w0 fp0_0 A0_0 cap0_0 l0_0) (F0_1 : OwR 1 encI 32 2 w0 fp0_1 fpz A0_1 cap0_1 l0_1) (F0_2 : OwR 1 encI 32 2 w0 fp0_2 fpz A0_2 cap0_2 l0_2) (Z0_2 : A0_2.isNone = z0_2) (F0 : Cl w0 b0 53 [.slice A0_0 (l0_0).length cap0_0, .slice A0_1 (l0_1).length cap0_1, .slice A0_2 (l0_2).length cap0_2, .int .i64 (q0_3)]) (F1 : Sl 1 encI w0 fp1 A1 l1) (K1 : (l1).length ≤ cap1) (FZ : ZLow w0 fpz) (J0__0_0 : Dj [b0] fp0_0) (J0__0_1 : Dj [b0] fp0_1) (J0__0_2 : Dj [b0] fp0_2) (J0__1 : Dj [b0] fp1) (J0__z : Dj [b0] fpz) (J0_0__0_1 : Dj fp0_0 fp0_1) (J0_0__0_2 : Dj fp0_0 fp0_2) (J0_0__1 : Dj fp0_0 fp1) (J0_0__z : Dj fp0_0 fpz) (J0_1__0_2 : Dj fp0_1 fp0_2) (J0_1__1 : Dj fp0_1 fp1) (J0_1__z : Dj fp0_1 fpz) (J0_2__1 : Dj fp0_2 fp1) (J0_2__z : Dj fp0_2 fpz) :
  Calls Try.prog 25 #[.pointer (some ⟨b0, 0, none⟩), .slice A1 (l1).length cap1, .int .i64 (p2)] w0 fun e w' => ∃ At0_0 capt0_0 fpt0_0, ∃ At0_1 capt0_1 fpt0_1, ∃ At0_2 capt0_2 fpt0_2, ∃ fpzt, e = .returned (.tuple #[]) ∧ Dj fpt0_0 fpt0_1 ∧ Dj fpt0_0 fpt0_2 ∧ Dj fpt0_0 fpzt ∧ Dj fpt0_1 fpt0_2 ∧ Dj fpt0_1 fpzt ∧ Dj fpt0_2 fpzt ∧ Cl w' b0 53 [.slice At0_0 (r.2.1).length capt0_0, .slice At0_1 (r.2.2.1).length capt0_1, .slice At0_2 (r.2.2.2.1).length capt0_2, .int .i64 (r.1)] ∧ Ow 5 encIIIII 58 w' fpt0_0 At0_0 capt0_0 r.2.1 ∧ Rt w0.heap.size fp0_0 fpt0_0 ∧ OwR 1 encI 32 2 w' fpt0_1 fpzt At0_1 capt0_1 r.2.2.1 ∧ Rt w0.heap.size fp0_1 fpt0_1 ∧ OwR 1 encI 32 2 w' fpt0_2 fpzt At0_2 capt0_2 r.2.2.2.1 ∧ Rt w0.heap.size fp0_2 fpt0_2 ∧ At0_2.isNone = r.2.2.2.2 ∧ ZLow w' fpzt ∧ Rt w0.heap.size fpz fpzt ∧ Chg ([b0] ++ (fp0_0 ++ (fp0_1 ++ (fp0_2 ++ [])))) w0 w' := by
 have L0 := lt1 F0.lt
 have L1 := F1.low
 have hB : Chg ([b0] ++ (fp0_0 ++ (fp0_1 ++ (fp0_2 ++ [])))) w0 w0 := Chg.refl _ _
 have hZ := Nat.le_refl w0.heap.size
 unfold m_impl_chooser_choose_bimplchooser_body at hm
 refine enterE (N := 153) Try.func25 (by rfl) Try.ntmps25 (by simp) [(0, .pointer (some ⟨b0, 0, none⟩)), (1, .slice A1 (l1).length cap1), (2, .int .i64 (p2))] (by rfl) (by kernel_rfl) (fun a => ?_)
 refine cW_seq ?_
 refine cW_seq ?_
 refine cW_region ?_
 refine wS_pure 3 [(17, .bool ((((l1).length : Int)) == 1)), (16, .int .i64 (((l1).length : Int))), (15, .slice A1 (l1).length cap1)] (by kernel_rfl) ?_
 refine wS_end (by rfl) ?_
 refine eX_then ?_
 refine cW_cond (t := (((l1).length : Int)) == 1) (by kernel_rfl) (fun hb1 => ?_) (fun hb1 => ?_)
 ·have hm := condT hb1 hm
  refine cW_seq ?_
  obtain ⟨s1, hs1, hm⟩ := bindE hm
  refine cW_cut (fun a' w' => ∃ l3 : List (List (Int)), ∃ A3 : Option Addr, ∃ cap3 : Nat, ∃ fp2 : List Nat, ∃ z1 : Bool, ∃ x1 : Int, ∃ fz1 : List Nat, (l3, z1, x1) = s1 ∧ Fr 153 [] a' ∧ Ow 5 encIIIII 58 w' fp0_0 A0_0 cap0_0 l0_0 ∧ ZLow w' fz1 ∧ OwR 1 encI 32 2 w' fp0_1 fz1 A0_1 cap0_1 l0_1 ∧ Cl w' b0 53 [.slice A0_0 (l0_0).length cap0_0, .slice A0_1 (l0_1).length cap0_1, .slice A3 (l3).length cap3, .int .i64 (x1)] ∧ OwR 1 encI 32 2 w' fp2 fz1 A3 cap3 l3 ∧ (A3).isNone = z1 ∧ Rt w0.heap.size fp0_2 fp2 ∧ Rt w0.heap.size fpz fz1 ∧ Dj fp0_0 fp2 ∧ Dj fz1 fp2 ∧ Dj fp0_1 fp2 ∧ Dj [b0] fp2 ∧ Dj fp0_0 fz1 ∧ Dj fp0_1 fz1 ∧ Dj [b0] fz1 ∧ Chg ([b0] ++ (fp0_0 ++ (fp0_1 ++ (fp0_2 ++ [])))) w0 w' ∧ w0.heap.size ≤ w'.heap.size) ?_ ?_
  ·have hm := hs1
   refine cW_seq ?_
   refine cW_region ?_
   refine wS_pure 3 [(20, .pointer (some ⟨b0, 2, none⟩)), (19, .pointer (some ⟨b0, 0, none⟩)), (18, .pointer (some ⟨b0, 0, none⟩))] (by kernel_rfl) ?_
   refine wS_load1 (d := 21) (T := 26) (ad := ⟨b0, 2, none⟩) (v := .slice A0_2 (l0_2).length cap0_2) (by kernel_rfl) vt26 ((F0).cell 2) ?_
   refine wS_pure 1 [(22, .bool (z0_2))] (by rw [← Z0_2]; rcases A0_2 with _ | _ <;> kernel_rfl) ?_
   refine wS_pure 1 [(23, .bool (z0_2))] (by kernel_rfl) ?_
   refine wS_bool z0_2 (fun hb2 => ?_) (fun hb2 => ?_)
   ·have hm := condT hb2 hm
    rewrite [hb2]
    refine wS_pure 7 [(30, .bool (true)), (29, undef), (28, undef), (27, undef), (26, undef), (25, undef), (24, undef)] (by kernel_rfl) ?_
    refine wS_end (by rfl) ?_
    refine eX_then ?_
    refine cW_cond_t (by kernel_rfl) ?_
    refine cW_region ?_
    refine wS_pure 5 [(35, .pointer (some ⟨b0, 1, none⟩)), (34, .pointer (some ⟨b0, 0, none⟩)), (33, .pointer (some ⟨b0, 0, none⟩)), (32, .pointer (some ⟨b0, 0, none⟩)), (31, .pointer (some ⟨b0, 0, none⟩))] (by kernel_rfl) ?_
    refine wS_load1 (d := 36) (T := 26) (ad := ⟨b0, 1, none⟩) (v := .slice A0_1 (l0_1).length cap0_1) (by kernel_rfl) vt26 ((F0).cell 1) ?_
    obtain ⟨_, hne1, hm⟩ := bindE hm
    obtain ⟨_, hk1, hm⟩ := bindE hm
    refine wS_calls (d := 37) (f := 42) (vs := [.slice A0_1 (l0_1).length cap0_1]) (by kernel_rfl) ent42 (c_slices_Clone_Z hne1 hk1 F0_1) ?_
    rintro _ w1 ⟨A4, cap4, fp3, rfl, F2, G1, hz1, hc1⟩
    have D1 : Dj fp0_0 fp3 := Dj.of F0_0.low G1
    have D2 : Dj fpz fp3 := Dj.of FZ.low G1
    have D3 : Dj fp0_1 fp3 := Dj.of (memL F0_1.low) G1
    have D4 : Dj fp0_2 fp3 := Dj.of (memL F0_2.low) G1
    replace F0_0 := F0_0.chg hc1 Dj.nil
    replace FZ := FZ.chg hc1 Dj.nil
    replace F0_1 := F0_1.chg hc1 Dj.nil
    replace F0_2 := F0_2.chg hc1 Dj.nil
    replace F0 := F0.chg hc1 notNil
    replace F1 := F1.chg hc1 Dj.nil
    replace hB := hB.inS hc1 inNil
    replace G1 := low_le hZ G1
    replace hZ := Nat.le_trans hZ hc1.size
    refine ⟨.slice A4 (l0_1).length cap4, rfl, ?_⟩
    refine wS_pure 3 [(40, .pointer (some ⟨b0, 2, none⟩)), (39, .pointer (some ⟨b0, 0, none⟩)), (38, .int .i64 (p2))] (by kernel_rfl) ?_
    refine wS_store (T := 26) (g := b0) (o := 2) (ad := ⟨b0, 2, none⟩) (v := .slice A4 (l0_1).length cap4) (vs := [.slice A4 (l0_1).length cap4]) (by kernel_rfl) (by rfl) sz26 (by rfl) (by rfl) F0 (by simp only [List.length_cons, List.length_nil]; omega) ?_
    intro w2 F3 hc2
    replace F0_0 := F0_0.chg hc2 (J0__0_0).symm
    replace FZ := FZ.chg hc2 (J0__z).symm
    replace F0_1 := F0_1.chg hc2 (djz (J0__0_1).symm (J0__z).symm)
    replace F0_2 := F0_2.chg hc2 (djz (J0__0_2).symm (J0__z).symm)
    replace F1 := F1.chg hc2 (J0__1).symm
    replace F2 := F2.chg hc2 (djz (Dj.of L0 G1).symm (J0__z).symm)
    replace hB := hB.inS hc2 (inMem (fun x hx => (List.mem_append_left _ hx)))
    replace hZ := Nat.le_trans hZ hc2.size
    replace F3 : Cl w2 b0 53 [.slice A0_0 (l0_0).length cap0_0, .slice A0_1 (l0_1).length cap0_1, .slice A4 (l0_1).length cap4, .int .i64 (q0_3)] := F3
    clear F0
    refine wS_pure 2 [(42, .pointer (some ⟨b0, 3, none⟩)), (41, .pointer (some ⟨b0, 0, none⟩))] (by kernel_rfl) ?_
    refine wS_store (T := 2) (g := b0) (o := 3) (ad := ⟨b0, 3, none⟩) (v := .int .i64 (p2)) (vs := [.int .i64 (p2)]) (by kernel_rfl) (by rfl) sz2 (by rfl) (by rfl) F3 (by simp only [List.length_cons, List.length_nil]; omega) ?_
    intro w3 F4 hc3
    replace F0_0 := F0_0.chg hc3 (J0__0_0).symm
    replace FZ := FZ.chg hc3 (J0__z).symm
    replace F0_1 := F0_1.chg hc3 (djz (J0__0_1).symm (J0__z).symm)
    replace F0_2 := F0_2.chg hc3 (djz (J0__0_2).symm (J0__z).symm)
    replace F1 := F1.chg hc3 (J0__1).symm
    replace F2 := F2.chg hc3 (djz (Dj.of L0 G1).symm (J0__z).symm)
    replace hB := hB.inS hc3 (inMem (fun x hx => (List.mem_append_left _ hx)))
    replace hZ := Nat.le_trans hZ hc3.size
    replace F4 : Cl w3 b0 53 [.slice A0_0 (l0_0).length cap0_0, .slice A0_1 (l0_1).length cap0_1, .slice A4 (l0_1).length cap4, .int .i64 (p2)] := F4
    clear F3
    refine wS_end (by rfl) ?_
    have hq : (some ((l0_1, false, p2)) : Option ((List (List (Int))) × Bool × Int)) = some _ := hm
    replace hq := someE hq
    subst hq
    exact eX_J (fun hst => ⟨l0_1, A4, cap4, fp3, false, p2, fpz, rfl, Fr.of hst (by kernel_rfl), F0_0, FZ, F0_1, F4, F2, hz1, (Rt.low G1), Rt.refl, D1, D2, D3, (Dj.of L0 G1), J0_0__z, J0_1__z, J0__z, hB, hZ⟩)
   ·have hm := condF hb2 hm
    rewrite [hb2]
    refine wS_pure 4 [(27, .pointer (some ⟨b0, 3, none⟩)), (26, .pointer (some ⟨b0, 0, none⟩)), (25, .pointer (some ⟨b0, 0, none⟩)), (24, .int .i64 (p2))] (by kernel_rfl) ?_
    refine wS_load1 (d := 28) (T := 2) (ad := ⟨b0, 3, none⟩) (v := .int .i64 (q0_3)) (by kernel_rfl) vt2 ((F0).cell 3) ?_
    refine wS_pure 2 [(30, .bool (decide (p2 < q0_3))), (29, .bool (decide (p2 < q0_3)))] (by kernel_rfl) ?_
    refine wS_end (by rfl) ?_
    refine eX_then ?_
    refine cW_cond (t := decide (p2 < q0_3)) (by kernel_rfl) (fun hb3 => ?_) (fun hb3 => ?_)
    ·have hm := condT hb3 hm
     refine cW_region ?_
     refine wS_pure 5 [(35, .pointer (some ⟨b0, 1, none⟩)), (34, .pointer (some ⟨b0, 0, none⟩)), (33, .pointer (some ⟨b0, 0, none⟩)), (32, .pointer (some ⟨b0, 0, none⟩)), (31, .pointer (some ⟨b0, 0, none⟩))] (by kernel_rfl) ?_
     refine wS_load1 (d := 36) (T := 26) (ad := ⟨b0, 1, none⟩) (v := .slice A0_1 (l0_1).length cap0_1) (by kernel_rfl) vt26 ((F0).cell 1) ?_
     obtain ⟨_, hne2, hm⟩ := bindE hm
     obtain ⟨_, hk2, hm⟩ := bindE hm
     refine wS_calls (d := 37) (f := 42) (vs := [.slice A0_1 (l0_1).length cap0_1]) (by kernel_rfl) ent42 (c_slices_Clone_Z hne2 hk2 F0_1) ?_
     rintro _ w4 ⟨A5, cap5, fp4, rfl, F5, G2, hz2, hc4⟩
     have D5 : Dj fp0_0 fp4 := Dj.of F0_0.low G2
     have D6 : Dj fpz fp4 := Dj.of FZ.low G2
     have D7 : Dj fp0_1 fp4 := Dj.of (memL F0_1.low) G2
     have D8 : Dj fp0_2 fp4 := Dj.of (memL F0_2.low) G2
     replace F0_0 := F0_0.chg hc4 Dj.nil
     replace FZ := FZ.chg hc4 Dj.nil
     replace F0_1 := F0_1.chg hc4 Dj.nil
     replace F0_2 := F0_2.chg hc4 Dj.nil
     replace F0 := F0.chg hc4 notNil
     replace F1 := F1.chg hc4 Dj.nil
     replace hB := hB.inS hc4 inNil
     replace G2 := low_le hZ G2
     replace hZ := Nat.le_trans hZ hc4.size
     refine ⟨.slice A5 (l0_1).length cap5, rfl, ?_⟩
     refine wS_pure 3 [(40, .pointer (some ⟨b0, 2, none⟩)), (39, .pointer (some ⟨b0, 0, none⟩)), (38, .int .i64 (p2))] (by kernel_rfl) ?_
     refine wS_store (T := 26) (g := b0) (o := 2) (ad := ⟨b0, 2, none⟩) (v := .slice A5 (l0_1).length cap5) (vs := [.slice A5 (l0_1).length cap5]) (by kernel_rfl) (by rfl) sz26 (by rfl) (by rfl) F0 (by simp only [List.length_cons, List.length_nil]; omega) ?_
     intro w5 F6 hc5
     replace F0_0 := F0_0.chg hc5 (J0__0_0).symm
     replace FZ := FZ.chg hc5 (J0__z).symm
     replace F0_1 := F0_1.chg hc5 (djz (J0__0_1).symm (J0__z).symm)
     replace F0_2 := F0_2.chg hc5 (djz (J0__0_2).symm (J0__z).symm)
     replace F1 := F1.chg hc5 (J0__1).symm
     replace F5 := F5.chg hc5 (djz (Dj.of L0 G2).symm (J0__z).symm)
     replace hB := hB.inS hc5 (inMem (fun x hx => (List.mem_append_left _ hx)))
     replace hZ := Nat.le_trans hZ hc5.size
     replace F6 : Cl w5 b0 53 [.slice A0_0 (l0_0).length cap0_0, .slice A0_1 (l0_1).length cap0_1, .slice A5 (l0_1).length cap5, .int .i64 (q0_3)] := F6
     clear F0
     refine wS_pure 2 [(42, .pointer (some ⟨b0, 3, none⟩)), (41, .pointer (some ⟨b0, 0, none⟩))] (by kernel_rfl) ?_
     refine wS_store (T := 2) (g := b0) (o := 3) (ad := ⟨b0, 3, none⟩) (v := .int .i64 (p2)) (vs := [.int .i64 (p2)]) (by kernel_rfl) (by rfl) sz2 (by rfl) (by rfl) F6 (by simp only [List.length_cons, List.length_nil]; omega) ?_
     intro w6 F7 hc6
     replace F0_0 := F0_0.chg hc6 (J0__0_0).symm
     replace FZ := FZ.chg hc6 (J0__z).symm
     replace F0_1 := F0_1.chg hc6 (djz (J0__0_1).symm (J0__z).symm)
     replace F0_2 := F0_2.chg hc6 (djz (J0__0_2).symm (J0__z).symm)
     replace F1 := F1.chg hc6 (J0__1).symm
     replace F5 := F5.chg hc6 (djz (Dj.of L0 G2).symm (J0__z).symm)
     replace hB := hB.inS hc6 (inMem (fun x hx => (List.mem_append_left _ hx)))
     replace hZ := Nat.le_trans hZ hc6.size
     replace F7 : Cl w6 b0 53 [.slice A0_0 (l0_0).length cap0_0, .slice A0_1 (l0_1).length cap0_1, .slice A5 (l0_1).length cap5, .int .i64 (p2)] := F7
     clear F6
     refine wS_end (by rfl) ?_
     have hq : (some ((l0_1, false, p2)) : Option ((List (List (Int))) × Bool × Int)) = some _ := hm
     replace hq := someE hq
     subst hq
     exact eX_J (fun hst => ⟨l0_1, A5, cap5, fp4, false, p2, fpz, rfl, Fr.of hst (by kernel_rfl), F0_0, FZ, F0_1, F7, F5, hz2, (Rt.low G2), Rt.refl, D5, D6, D7, (Dj.of L0 G2), J0_0__z, J0_1__z, J0__z, hB, hZ⟩)
    ·have hm := condF hb3 hm
     refine cW_skip ?_
     have hq : (some ((l0_2, z0_2, q0_3)) : Option ((List (List (Int))) × Bool × Int)) = some _ := hm
     replace hq := someE hq
     subst hq
     exact eX_J (fun hst => ⟨l0_2, A0_2, cap0_2, fp0_2, z0_2, q0_3, fpz, rfl, Fr.of hst (by kernel_rfl), F0_0, FZ, F0_1, F0, F0_2, Z0_2, Rt.refl, Rt.refl, J0_0__0_2, (J0_2__z).symm, J0_1__0_2, J0__0_2, J0_0__z, J0_1__z, J0__z, hB, hZ⟩)
  ·rintro a' w7 ⟨l3, A3, cap3, fp2, z1, x1, fz1, hJ, hF1, F8, F9, F10, F11, F12, hz3, hap1, hap2, D9, D10, D11, D12, D13, D14, D15, hB, hZ⟩
   subst hJ
   refine Fr.goX hF1 (by kernel_rfl) ?_
   refine eX_then ?_
   refine cW_ret ?_
   refine eX_then_ret ?_
   have hq : (some ((x1, l0_0, l0_1, l3, z1)) : Option ((Int) × (List (Int × Int × Int × Int × Int)) × (List (List (Int))) × (List (List (Int))) × (Bool))) = some _ := hm
   replace hq := someE hq
   subst hq
   refine eX_ret (vs := []) [] (by rfl) trivial ?_
   exact ⟨A0_0, cap0_0, fp0_0, A0_1, cap0_1, fp0_1, A3, cap3, fp2, fz1, rfl, J0_0__0_1, D9, D13, D11, D14, (D10).symm, F11, F8, Rt.refl, F10, Rt.refl, F12, hap1, hz3, F9, hap2, hB⟩
 ·have hm := condF hb1 hm
  refine cW_skip ?_
  refine eX_then ?_
  refine cW_seq ?_
  refine cW_region ?_
  refine wS_pure 3 [(45, .int .i64 (0)), (44, .int .i64 (((l1).length : Int))), (43, .slice A1 (l1).length cap1)] (by kernel_rfl) ?_
  refine wS_end (by rfl) ?_
  refine eX_then ?_
  obtain ⟨r1, hr1, hm⟩ := bindE hm
  have hm1 := hm
  refine cW_cut (fun a' w' => ∃ l4 : List (Int × Int × Int × Int × Int), ∃ A6 : Option Addr, ∃ cap6 : Nat, ∃ fp5 : List Nat, ∃ l5 : List (List (Int)), ∃ A7 : Option Addr, ∃ cap7 : Nat, ∃ fp6 : List Nat, ∃ l6 : List (List (Int)), ∃ A8 : Option Addr, ∃ cap8 : Nat, ∃ fp7 : List Nat, ∃ z2 : Bool, ∃ x2 : Int, ∃ fz2 : List Nat, (l4, l5, l6, z2, x2) = r1 ∧ Fr 153 [] a' ∧ ZLow w' fz2 ∧ Cl w' b0 53 [.slice A6 (l4).length cap6, .slice A7 (l5).length cap7, .slice A8 (l6).length cap8, .int .i64 (x2)] ∧ Ow 5 encIIIII 58 w' fp5 A6 cap6 l4 ∧ OwR 1 encI 32 2 w' fp6 fz2 A7 cap7 l5 ∧ OwR 1 encI 32 2 w' fp7 fz2 A8 cap8 l6 ∧ Rt w0.heap.size fp0_0 fp5 ∧ Rt w0.heap.size fp0_1 fp6 ∧ (A8).isNone = z2 ∧ Rt w0.heap.size fp0_2 fp7 ∧ Rt w0.heap.size fpz fz2 ∧ Dj fz2 fp5 ∧ Dj [b0] fp5 ∧ Dj fp6 fp5 ∧ Dj fp7 fp5 ∧ Dj fz2 fp6 ∧ Dj [b0] fp6 ∧ Dj fp7 fp6 ∧ Dj fz2 fp7 ∧ Dj [b0] fp7 ∧ Dj [b0] fz2 ∧ Chg ([b0] ++ (fp0_0 ++ (fp0_1 ++ (fp0_2 ++ [])))) w0 w' ∧ w0.heap.size ≤ w'.heap.size) ?_ ?_
  ·refine cW_block ?_
   refine cW_loop _ (fun (s2 : Int × (List (Int × Int × Int × Int × Int)) × (List (List (Int))) × (List (List (Int))) × Bool × Int) a' w' => ∃ x3 : Int, ∃ l7 : List (Int × Int × Int × Int × Int), ∃ A9 : Option Addr, ∃ cap9 : Nat, ∃ fp8 : List Nat, ∃ l8 : List (List (Int)), ∃ A10 : Option Addr, ∃ cap10 : Nat, ∃ fp9 : List Nat, ∃ l9 : List (List (Int)), ∃ A11 : Option Addr, ∃ cap11 : Nat, ∃ fp10 : List Nat, ∃ z3 : Bool, ∃ x4 : Int, ∃ fz3 : List Nat, (x3, l7, l8, l9, z3, x4) = s2 ∧ Fr 153 [(0, .pointer (some ⟨b0, 0, none⟩)), (1, .slice A1 (l1).length cap1), (2, .int .i64 (p2)), (43, .slice A1 (l1).length cap1), (44, .int .i64 (((l1).length : Int))), (45, .int .i64 (x3))] a' ∧ ZLow w' fz3 ∧ Cl w' b0 53 [.slice A9 (l7).length cap9, .slice A10 (l8).length cap10, .slice A11 (l9).length cap11, .int .i64 (x4)] ∧ Sl 1 encI w' fp1 A1 l1 ∧ Ow 5 encIIIII 58 w' fp8 A9 cap9 l7 ∧ OwR 1 encI 32 2 w' fp9 fz3 A10 cap10 l8 ∧ OwR 1 encI 32 2 w' fp10 fz3 A11 cap11 l9 ∧ Rt w0.heap.size fp0_0 fp8 ∧ Rt w0.heap.size fp0_1 fp9 ∧ (A11).isNone = z3 ∧ Rt w0.heap.size fp0_2 fp10 ∧ Rt w0.heap.size fpz fz3 ∧ Dj fz3 fp8 ∧ Dj [b0] fp8 ∧ Dj fp1 fp8 ∧ Dj fp9 fp8 ∧ Dj fp10 fp8 ∧ Dj fz3 fp9 ∧ Dj [b0] fp9 ∧ Dj fp1 fp9 ∧ Dj fp10 fp9 ∧ Dj fz3 fp10 ∧ Dj [b0] fp10 ∧ Dj fp1 fp10 ∧ Dj [b0] fz3 ∧ Chg ([b0] ++ (fp0_0 ++ (fp0_1 ++ (fp0_2 ++ [])))) w0 w' ∧ w0.heap.size ≤ w'.heap.size) hr1 (fun hst => ⟨0, l0_0, A0_0, cap0_0, fp0_0, l0_1, A0_1, cap0_1, fp0_1, l0_2, A0_2, cap0_2, fp0_2, z0_2, q0_3, fpz, rfl, Fr.of hst (by kernel_rfl), FZ, F0, F1, F0_0, F0_1, F0_2, Rt.refl, Rt.refl, Z0_2, Rt.refl, Rt.refl, (J0_0__z).symm, J0__0_0, (J0_0__1).symm, (J0_0__0_1).symm, (J0_0__0_2).symm, (J0_1__z).symm, J0__0_1, (J0_1__1).symm, (J0_1__0_2).symm, (J0_2__z).symm, J0__0_2, (J0_2__1).symm, J0__z, hB, hZ⟩) ?_
   rintro _ c1 a' w8 ⟨x3, l7, A9, cap9, fp8, l8, A10, cap10, fp9, l9, A11, cap11, fp10, z3, x4, fz3, rfl, hF2, F13, F14, F15, F16, F17, F18, hap3, hap4, hz4, hap5, hap6, D16, D17, D18, D19, D20, D21, D22, D23, D24, D25, D26, D27, D28, hB, hZ⟩ hx1
   refine Fr.goOn hF2 (by kernel_rfl) ?_
   have hm := hx1
   unfold m_impl_chooser_choose_bimplchooser_s3 at hm
   refine cW_seq ?_
   refine cW_region ?_
   refine wS_pure 1 [(46, .bool (decide (x3 < (((l1).length : Int)))))] (by kernel_rfl) ?_
   refine wS_end (by rfl) ?_
   refine eX_then ?_
   refine cW_seq ?_
   refine cW_cond (t := decide (x3 < (((l1).length : Int)))) (by kernel_rfl) (fun hb4 => ?_) (fun hb4 => ?_)
   ·have hm := condT hb4 hm
    refine cW_skip ?_
    refine eX_then ?_
    refine cW_seq ?_
    refine cW_block ?_
    refine cW_seq ?_
    refine cW_region ?_
    refine wS_pure 1 [(47, .int .i64 (x3))] (by kernel_rfl) ?_
    obtain ⟨x5, hx2, hm⟩ := bindE hm
    refine wS_idx (d := 48) (T := 32) (A := A1) (n := (l1).length) (cap := cap1) (kd := .i64) (m := x3) (by kernel_rfl) sl32 (F15.is hx2) ?_
    refine wS_load1 (d := 49) (T := 2) (ad := (elA A1 1 (x3) 0)) (v := .int .i64 (x5)) (by kernel_rfl) vt2 (Sl.cell F15 hx2 0 (by rfl)) ?_
    refine wS_alloc (d := 7) (T := 2) (z := .int .i64 (0)) (by kernel_rfl) (by kernel_rfl) ?_
    intro b1 w9 G3 F19 hc7
    replace F19 : Cl w9 b1 2 [.int .i64 (0)] := F19
    have D29 : Dj fz3 [b1] := Dj.of F13.low (low1 G3)
    have D30 : Dj fp8 [b1] := Dj.of F16.low (low1 G3)
    have D31 : Dj fp9 [b1] := Dj.of (memL F17.low) (low1 G3)
    have D32 : Dj fp10 [b1] := Dj.of (memL F18.low) (low1 G3)
    replace F13 := F13.chg hc7 Dj.nil
    replace F14 := F14.chg hc7 notNil
    replace F15 := F15.chg hc7 Dj.nil
    replace F16 := F16.chg hc7 Dj.nil
    replace F17 := F17.chg hc7 Dj.nil
    replace F18 := F18.chg hc7 Dj.nil
    replace hB := hB.inS hc7 inNil
    replace G3 := Nat.le_trans hZ G3
    replace hZ := Nat.le_trans hZ hc7.size
    refine wS_pure 1 [(6, .int .i64 (x3))] (by kernel_rfl) ?_
    refine wS_store (T := 2) (g := b1) (o := 0) (ad := ⟨b1, 0, none⟩) (v := .int .i64 (x5)) (vs := [.int .i64 (x5)]) (by kernel_rfl) (by rfl) sz2 (by rfl) (by rfl) F19 (by simp only [List.length_cons, List.length_nil]; omega) ?_
    intro w10 F20 hc8
    replace F13 := F13.chg hc8 D29
    replace F14 := F14.chg hc8 (dj1 (Dj.of L0 (low1 G3)))
    replace F15 := F15.chg hc8 (Dj.of L1 (low1 G3))
    replace F16 := F16.chg hc8 D30
    replace F17 := F17.chg hc8 (djz D31 D29)
    replace F18 := F18.chg hc8 (djz D32 D29)
    replace hB := hB.inS hc8 (inLow (low1 G3))
    replace hZ := Nat.le_trans hZ hc8.size
    replace F20 : Cl w10 b1 2 [.int .i64 (x5)] := F20
    clear F19
    refine wS_end (by rfl) ?_
    refine eX_then ?_
    refine cW_seq ?_
    refine cW_region ?_
    refine wS_pure 3 [(52, .int .i64 (wr (x3 + 1))), (51, .int .i64 (x3)), (50, .slice A1 (l1).length cap1)] (by kernel_rfl) ?_
    obtain ⟨y1, hy1, hm⟩ := bindE hm
    refine wS_slice (enc := encI) (l := l1) (d := 53) (T := 32) (A := A1) (cap := cap1) (vlo := some (.int .i64 (wr (x3 + 1)))) (vhi := none) (lo := wr (x3 + 1)) (hi := ((l1).length : Int)) (n := 0) (by kernel_rfl) sl32 (Or.inl rfl) (Or.inr ⟨rfl, rfl⟩) F15 K1 hy1 ?_
    intro A12 cap12 F21 hcap1
    refine wS_pure 2 [(55, .int .i64 (0)), (54, .int .i64 (((y1).length : Int)))] (by kernel_rfl) ?_
    refine wS_end (by rfl) ?_
    refine eX_then ?_
    obtain ⟨r2, hr2, hm⟩ := bindE hm
    have hm2 := hm
    refine cW_cut (fun a' w' => ∃ l10 : List (Int × Int × Int × Int × Int), ∃ A13 : Option Addr, ∃ cap13 : Nat, ∃ fp11 : List Nat, ∃ l11 : List (List (Int)), ∃ A14 : Option Addr, ∃ cap14 : Nat, ∃ fp12 : List Nat, ∃ l12 : List (List (Int)), ∃ A15 : Option Addr, ∃ cap15 : Nat, ∃ fp13 : List Nat, ∃ z4 : Bool, ∃ x6 : Int, ∃ fz4 : List Nat, (l10, l11, l12, z4, x6) = r2 ∧ Fr 153 [(0, .pointer (some ⟨b0, 0, none⟩)), (1, .slice A1 (l1).length cap1), (2, .int .i64 (p2)), (43, .slice A1 (l1).length cap1), (44, .int .i64 (((l1).length : Int))), (45, .int .i64 (x3))] a' ∧ ZLow w' fz4 ∧ Cl w' b0 53 [.slice A13 (l10).length cap13, .slice A14 (l11).length cap14, .slice A15 (l12).length cap15, .int .i64 (x6)] ∧ Sl 1 encI w' fp1 A1 l1 ∧ Ow 5 encIIIII 58 w' fp11 A13 cap13 l10 ∧ OwR 1 encI 32 2 w' fp12 fz4 A14 cap14 l11 ∧ OwR 1 encI 32 2 w' fp13 fz4 A15 cap15 l12 ∧ Rt w0.heap.size fp0_0 fp11 ∧ Rt w0.heap.size fp0_1 fp12 ∧ (A15).isNone = z4 ∧ Rt w0.heap.size fp0_2 fp13 ∧ Rt w0.heap.size fpz fz4 ∧ Dj fz4 fp11 ∧ Dj [b0] fp11 ∧ Dj fp1 fp11 ∧ Dj fp12 fp11 ∧ Dj fp13 fp11 ∧ Dj fz4 fp12 ∧ Dj [b0] fp12 ∧ Dj fp1 fp12 ∧ Dj fp13 fp12 ∧ Dj fz4 fp13 ∧ Dj [b0] fp13 ∧ Dj fp1 fp13 ∧ Dj [b0] fz4 ∧ Chg ([b0] ++ (fp0_0 ++ (fp0_1 ++ (fp0_2 ++ [])))) w0 w' ∧ w0.heap.size ≤ w'.heap.size) ?_ ?_
    ·refine cW_block ?_
     refine cW_loop _ (fun (s3 : Int × (List (Int × Int × Int × Int × Int)) × (List (List (Int))) × (List (List (Int))) × Bool × Int) a' w' => ∃ x7 : Int, ∃ l13 : List (Int × Int × Int × Int × Int), ∃ A16 : Option Addr, ∃ cap16 : Nat, ∃ fp14 : List Nat, ∃ l14 : List (List (Int)), ∃ A17 : Option Addr, ∃ cap17 : Nat, ∃ fp15 : List Nat, ∃ l15 : List (List (Int)), ∃ A18 : Option Addr, ∃ cap18 : Nat, ∃ fp16 : List Nat, ∃ z5 : Bool, ∃ x8 : Int, ∃ fz5 : List Nat, (x7, l13, l14, l15, z5, x8) = s3 ∧ Fr 153 [(0, .pointer (some ⟨b0, 0, none⟩)), (1, .slice A1 (l1).length cap1), (2, .int .i64 (p2)), (7, .pointer (some ⟨b1, 0, none⟩)), (43, .slice A1 (l1).length cap1), (44, .int .i64 (((l1).length : Int))), (45, .int .i64 (x3)), (53, .slice A12 (y1).length cap12), (54, .int .i64 (((y1).length : Int))), (55, .int .i64 (x7))] a' ∧ ZLow w' fz5 ∧ Cl w' b0 53 [.slice A16 (l13).length cap16, .slice A17 (l14).length cap17, .slice A18 (l15).length cap18, .int .i64 (x8)] ∧ Sl 1 encI w' fp1 A1 l1 ∧ Cl w' b1 2 [.int .i64 (x5)] ∧ Sl 1 encI w' fp1 A12 y1 ∧ Ow 5 encIIIII 58 w' fp14 A16 cap16 l13 ∧ OwR 1 encI 32 2 w' fp15 fz5 A17 cap17 l14 ∧ OwR 1 encI 32 2 w' fp16 fz5 A18 cap18 l15 ∧ Rt w0.heap.size fp0_0 fp14 ∧ Rt w0.heap.size fp0_1 fp15 ∧ (A18).isNone = z5 ∧ Rt w0.heap.size fp0_2 fp16 ∧ Rt w0.heap.size fpz fz5 ∧ Dj fz5 fp14 ∧ Dj [b0] fp14 ∧ Dj fp1 fp14 ∧ Dj [b1] fp14 ∧ Dj fp1 fp14 ∧ Dj fp15 fp14 ∧ Dj fp16 fp14 ∧ Dj fz5 fp15 ∧ Dj [b0] fp15 ∧ Dj fp1 fp15 ∧ Dj [b1] fp15 ∧ Dj fp1 fp15 ∧ Dj fp16 fp15 ∧ Dj fz5 fp16 ∧ Dj [b0] fp16 ∧ Dj fp1 fp16 ∧ Dj [b1] fp16 ∧ Dj fp1 fp16 ∧ Dj [b0] fz5 ∧ Dj [b1] fz5 ∧ Chg ([b0] ++ (fp0_0 ++ (fp0_1 ++ (fp0_2 ++ [])))) w0 w' ∧ w0.heap.size ≤ w'.heap.size) hr2 (fun hst => ⟨0, l7, A9, cap9, fp8, l8, A10, cap10, fp9, l9, A11, cap11, fp10, z3, x4, fz3, rfl, Fr.of hst (by kernel_rfl), F13, F14, F15, F20, F21, F16, F17, F18, hap3, hap4, hz4, hap5, hap6, D16, D17, D18, (D30).symm, D18, D19, D20, D21, D22, D23, (D31).symm, D23, D24, D25, D26, D27, (D32).symm, D27, D28, (D29).symm, hB, hZ⟩) ?_
     rintro _ c2 a' w11 ⟨x7, l13, A16, cap16, fp14, l14, A17, cap17, fp15, l15, A18, cap18, fp16, z5, x8, fz5, rfl, hF3, F22, F23, F24, F25, F26, F27, F28, F29, hap7, hap8, hz5, hap9, hap10, D33, D34, D35, D36, D37, D38, D39, D40, D41, D42, D43, D44, D45, D46, D47, D48, D49, D50, D51, D52, hB, hZ⟩ hx3
     refine Fr.goOn hF3 (by kernel_rfl) ?_
     have hm := hx3
     unfold m_impl_chooser_choose_bimplchooser_s4 at hm
     refine cW_seq ?_
     refine cW_region ?_
     refine wS_pure 1 [(56, .bool (decide (x7 < (((y1).length : Int)))))] (by kernel_rfl) ?_
     refine wS_end (by rfl) ?_
     refine eX_then ?_
     refine cW_seq ?_
     refine cW_cond (t := decide (x7 < (((y1).length : Int)))) (by kernel_rfl) (fun hb5 => ?_) (fun hb5 => ?_)
     ·have hm := condT hb5 hm
      refine cW_skip ?_
      refine eX_then ?_
      refine cW_seq ?_
      refine cW_block ?_
      refine cW_seq ?_
      refine cW_region ?_
      obtain ⟨x9, hx4, hm⟩ := bindE hm
      refine wS_idx (d := 57) (T := 32) (A := A12) (n := (y1).length) (cap := cap12) (kd := .i64) (m := x7) (by kernel_rfl) sl32 (F26.is hx4) ?_
      refine wS_load1 (d := 58) (T := 2) (ad := (elA A12 1 (x7) 0)) (v := .int .i64 (x9)) (by kernel_rfl) vt2 (Sl.cell F26 hx4 0 (by rfl)) ?_
      refine wS_alloc (d := 9) (T := 2) (z := .int .i64 (0)) (by kernel_rfl) (by kernel_rfl) ?_
      intro b2 w12 G4 F30 hc9
      replace F30 : Cl w12 b2 2 [.int .i64 (0)] := F30
      have D53 : Dj fz5 [b2] := Dj.of F22.low (low1 G4)
      have D54 : Dj [b1] [b2] := Dj.of (lt1 F25.lt) (low1 G4)
      have D55 : Dj fp14 [b2] := Dj.of F27.low (low1 G4)
      have D56 : Dj fp15 [b2] := Dj.of (memL F28.low) (low1 G4)
      have D57 : Dj fp16 [b2] := Dj.of (memL F29.low) (low1 G4)
      replace F22 := F22.chg hc9 Dj.nil
      replace F23 := F23.chg hc9 notNil
      replace F24 := F24.chg hc9 Dj.nil
      replace F25 := F25.chg hc9 notNil
      replace F26 := F26.chg hc9 Dj.nil
      replace F27 := F27.chg hc9 Dj.nil
      replace F28 := F28.chg hc9 Dj.nil
      replace F29 := F29.chg hc9 Dj.nil
      replace hB := hB.inS hc9 inNil
      replace G4 := Nat.le_trans hZ G4
      replace hZ := Nat.le_trans hZ hc9.size
      refine wS_store (T := 2) (g := b2) (o := 0) (ad := ⟨b2, 0, none⟩) (v := .int .i64 (x9)) (vs := [.int .i64 (x9)]) (by kernel_rfl) (by rfl) sz2 (by rfl) (by rfl) F30 (by simp only [List.length_cons, List.length_nil]; omega) ?_
      intro w13 F31 hc10
      replace F22 := F22.chg hc10 D53
      replace F23 := F23.chg hc10 (dj1 (Dj.of L0 (low1 G4)))
      replace F24 := F24.chg hc10 (Dj.of L1 (low1 G4))
      replace F25 := F25.chg hc10 (dj1 D54)
      replace F26 := F26.chg hc10 (Dj.of L1 (low1 G4))
      replace F27 := F27.chg hc10 D55
      replace F28 := F28.chg hc10 (djz D56 D53)
      replace F29 := F29.chg hc10 (djz D57 D53)
      replace hB := hB.inS hc10 (inLow (low1 G4))
      replace hZ := Nat.le_trans hZ hc10.size
      replace F31 : Cl w13 b2 2 [.int .i64 (x9)] := F31
      clear F30
      refine wS_end (by rfl) ?_
      refine eX_then ?_
      refine cW_seq ?_
      obtain ⟨s4, hs2, hm⟩ := bindE hm
      refine cW_cut (fun a' w' => ∃ b3 : Nat, ∃ x10 : Int, ∃ x11 : Int, ∃ x12 : Int, ∃ x13 : Int, ∃ x14 : Int, ∃ x15 : Int, ∃ x16 : Int, ∃ x17 : Bool, ∃ fz6 : List Nat, (x10, x11, x12, x13, x14, x15, x16, x17) = s4 ∧ Fr 153 [(0, .pointer (some ⟨b0, 0, none⟩)), (1, .slice A1 (l1).length cap1), (2, .int .i64 (p2)), (7, .pointer (some ⟨b1, 0, none⟩)), (9, .pointer (some ⟨b2, 0, none⟩)), (10, .pointer (some ⟨b3, 0, none⟩)), (11, .int .i64 (x15)), (12, .int .i64 (x16)), (13, .bool (x17)), (43, .slice A1 (l1).length cap1), (44, .int .i64 (((l1).length : Int))), (45, .int .i64 (x3)), (53, .slice A12 (y1).length cap12), (54, .int .i64 (((y1).length : Int))), (55, .int .i64 (x7))] a' ∧ ZLow w' fz6 ∧ Cl w' b0 53 [.slice A16 (l13).length cap16, .slice A17 (l14).length cap17, .slice A18 (l15).length cap18, .int .i64 (x8)] ∧ Sl 1 encI w' fp1 A1 l1 ∧ Cl w' b1 2 [.int .i64 (x5)] ∧ Sl 1 encI w' fp1 A12 y1 ∧ Ow 5 encIIIII 58 w' fp14 A16 cap16 l13 ∧ OwR 1 encI 32 2 w' fp15 fz6 A17 cap17 l14 ∧ OwR 1 encI 32 2 w' fp16 fz6 A18 cap18 l15 ∧ Cl w' b2 2 [.int .i64 (x9)] ∧ Cl w' b3 58 [.int .i64 (x10), .int .i64 (x11), .int .i64 (x12), .int .i64 (x13), .int .i64 (x14)] ∧ w0.heap.size ≤ b3 ∧ Rt w0.heap.size fpz fz6 ∧ Dj fz6 [b3] ∧ Dj [b1] [b3] ∧ Dj fp14 [b3] ∧ Dj fp15 [b3] ∧ Dj fp16 [b3] ∧ Dj [b2] [b3] ∧ Dj [b0] fz6 ∧ Dj [b1] fz6 ∧ Dj fp14 fz6 ∧ Dj fp15 fz6 ∧ Dj fp16 fz6 ∧ Dj [b2] fz6 ∧ Chg ([b0] ++ (fp0_0 ++ (fp0_1 ++ (fp0_2 ++ [])))) w0 w' ∧ w0.heap.size ≤ w'.heap.size) ?_ ?_
      ·have hm := hs2
       refine cW_drawnTail [] 24 (by kernel_rfl) (by kernel_rfl) (fun w14 hc11 => ?_)
       replace F22 := F22.chg hc11 Dj.nil
       replace F23 := F23.chg hc11 notNil
       replace F24 := F24.chg hc11 Dj.nil
       replace F25 := F25.chg hc11 notNil
       replace F26 := F26.chg hc11 Dj.nil
       replace F27 := F27.chg hc11 Dj.nil
       replace F28 := F28.chg hc11 Dj.nil
       replace F29 := F29.chg hc11 Dj.nil
       replace F31 := F31.chg hc11 notNil
       replace hB := hB.inS hc11 inNil
       replace hZ := Nat.le_trans hZ hc11.size
       have hS := Chg.refl [] w14
       have Z1 := F22
       have Z2 := F23
       have Z3 := F24
       have Z4 := F25
       have Z5 := F26
       have Z6 := F27
       have Z7 := F28
       have Z8 := F29
       have Z9 := F31
       refine wH_take [0, 1, 2] [2, 1, 0] [(62, .pointer (some ⟨b0, 0, none⟩)), (61, .pointer (some ⟨b0, 0, none⟩)), (60, .pointer (some ⟨b0, 0, none⟩))] (by kernel_rfl) (qT (qT (qT (qB (qT (qL (qB (qT (qB (qT (qL (qB (qT qZ))))))))))))) (by kernel_rfl) ?_
       refine wH_load1 (i := 3) (d := 63) (T := 51) (ad := ⟨b0, 0, none⟩) (v := .slice A16 (l13).length cap16) (by kernel_rfl) (qT (qT (qT (qB (qT (qL (qB (qT (qB (qT (qL (qB (qT qZ))))))))))))) (by kernel_rfl) (by kernel_rfl) vt51 (fun W hW => (Z2.chg hW notNil).cell 0) ?_
       refine wH_load1 (i := 4) (d := 64) (T := 2) (ad := ⟨b1, 0, none⟩) (v := .int .i64 (x5)) (by kernel_rfl) (qT (qT (qT (qB (qT (qL (qB (qT (qB (qT (qL (qB (qT qZ))))))))))))) (by kernel_rfl) (by kernel_rfl) vt2 (fun W hW => (Z4.chg hW notNil).cell 0) ?_
       obtain ⟨x18, hx5, hm⟩ := bindE hm
       refine wH_idx (i := 5) (d := 65) (T := 51) (A := A16) (n := (l13).length) (cap := cap16) (kd := .i64) (m := x5) (by kernel_rfl) (qT (qT (qT (qB (qT (qL (qB (qT (qB (qT (qL (qB (qT qZ))))))))))))) (by kernel_rfl) (by kernel_rfl) sl51 ((F27.sl encIIIII_ok).is hx5) ?_
       refine wH_loadA (i := 6) (d := 66) (T := 58) (ad := (elA A16 5 (x5) 0)) (vs := [.int .i64 (x18.1), .int .i64 (x18.2.1), .int .i64 (x18.2.2.1), .int .i64 (x18.2.2.2.1), .int .i64 (x18.2.2.2.2)]) (by kernel_rfl) (qT (qT (qT (qB (qT (qL (qB (qT (qB (qT (qL (qB (qT qZ))))))))))))) (by kernel_rfl) (by kernel_rfl) vt58 (fun W hW i u hu => Sl.cells_at ((Z6.chg hW Dj.nil).sl encIIIII_ok) hx5 0 hu (by rfl)) ?_
       refine wH_take [7, 8, 9] [9, 8, 7, 6, 5, 4, 3, 2, 1, 0] [(69, .pointer (some ⟨b0, 0, none⟩)), (68, .pointer (some ⟨b0, 0, none⟩)), (67, .pointer (some ⟨b0, 0, none⟩))] (by kernel_rfl) (qT (qT (qT (qB (qT (qL (qB (qT (qB (qT (qL (qB (qT qZ))))))))))))) (by kernel_rfl) ?_
       refine wH_load1 (i := 10) (d := 70) (T := 51) (ad := ⟨b0, 0, none⟩) (v := .slice A16 (l13).length cap16) (by kernel_rfl) (qT (qT (qT (qB (qT (qL (qB (qT (qB (qT (qL (qB (qT qZ))))))))))))) (by kernel_rfl) (by kernel_rfl) vt51 (fun W hW => (Z2.chg hW notNil).cell 0) ?_
       refine wH_load1 (i := 11) (d := 71) (T := 2) (ad := ⟨b2, 0, none⟩) (v := .int .i64 (x9)) (by kernel_rfl) (qT (qT (qT (qB (qT (qL (qB (qT (qB (qT (qL (qB (qT qZ))))))))))))) (by kernel_rfl) (by kernel_rfl) vt2 (fun W hW => (Z9.chg hW notNil).cell 0) ?_
       obtain ⟨x19, hx6, hm⟩ := bindE hm
       refine wH_idx (i := 12) (d := 72) (T := 51) (A := A16) (n := (l13).length) (cap := cap16) (kd := .i64) (m := x9) (by kernel_rfl) (qT (qT (qT (qB (qT (qL (qB (qT (qB (qT (qL (qB (qT qZ))))))))))))) (by kernel_rfl) (by kernel_rfl) sl51 ((F27.sl encIIIII_ok).is hx6) ?_
       refine wH_loadA (i := 13) (d := 73) (T := 58) (ad := (elA A16 5 (x9) 0)) (vs := [.int .i64 (x19.1), .int .i64 (x19.2.1), .int .i64 (x19.2.2.1), .int .i64 (x19.2.2.2.1), .int .i64 (x19.2.2.2.2)]) (by kernel_rfl) (qT (qT (qT (qB (qT (qL (qB (qT (qB (qT (qL (qB (qT qZ))))))))))))) (by kernel_rfl) (by kernel_rfl) vt58 (fun W hW i u hu => Sl.cells_at ((Z6.chg hW Dj.nil).sl encIIIII_ok) hx6 0 hu (by rfl)) ?_
       refine wH_all [14, 20] (by rfl) (by kernel_rfl) (by simp) ⟨⟨by kernel_rfl, ?_⟩, ⟨by kernel_rfl, ?_⟩, trivial⟩
       ·skip
        obtain ⟨y2, hy2, hm⟩ := bindE hm
        refine wS_calls (d := 74) (f := 27) (vs := [.agg #[.int .i64 (x18.1), .int .i64 (x18.2.1), .int .i64 (x18.2.2.1), .int .i64 (x18.2.2.2.1), .int .i64 (x18.2.2.2.2)], .agg #[.int .i64 (x19.1), .int .i64 (x19.2.1), .int .i64 (x19.2.2.1), .int .i64 (x19.2.2.2.1), .int .i64 (x19.2.2.2.2)]]) (by kernel_rfl) ent27 (c_impl_merge hy2) ?_
        rintro _ w15 ⟨rfl, hc12⟩
        replace F22 := F22.chg hc12 Dj.nil
        replace F23 := F23.chg hc12 notNil
        replace F24 := F24.chg hc12 Dj.nil
        replace F25 := F25.chg hc12 notNil
        replace F26 := F26.chg hc12 Dj.nil
        replace F27 := F27.chg hc12 Dj.nil
        replace F28 := F28.chg hc12 Dj.nil
        replace F29 := F29.chg hc12 Dj.nil
        replace F31 := F31.chg hc12 notNil
        replace hB := hB.inS hc12 inNil
        have hSz := hS
        replace hS := hS.inS hc12 inNil
        replace hZ := Nat.le_trans hZ hc12.size
        refine ⟨.tuple #[.agg #[.int .i64 (y2.1.1), .int .i64 (y2.1.2.1), .int .i64 (y2.1.2.2.1), .int .i64 (y2.1.2.2.2.1), .int .i64 (y2.1.2.2.2.2)], .int .i64 (y2.2.1), .int .i64 (y2.2.2.1), .bool (y2.2.2.2)], rfl, ?_⟩
        refine wS_end (by kernel_rfl) ?_
        refine eX_KH hS ?_
        refine wH_take [15, 16, 17, 18, 19] [19, 18, 17, 16, 15, 14, 13, 12, 11, 10, 9, 8, 7, 6, 5, 4, 3, 2, 1, 0] [(78, .bool (y2.2.2.2)), (77, .int .i64 (y2.2.2.1)), (76, .int .i64 (y2.2.1)), (75, .agg #[.int .i64 (y2.1.1), .int .i64 (y2.1.2.1), .int .i64 (y2.1.2.2.1), .int .i64 (y2.1.2.2.2.1), .int .i64 (y2.1.2.2.2.2)]), (59, .tuple #[.agg #[.int .i64 (y2.1.1), .int .i64 (y2.1.2.1), .int .i64 (y2.1.2.2.1), .int .i64 (y2.1.2.2.2.1), .int .i64 (y2.1.2.2.2.2)], .int .i64 (y2.2.1), .int .i64 (y2.2.2.1), .bool (y2.2.2.2)])] (by kernel_rfl) (qT (qT (qT (qB (qT (qL (qB (qT (qB (qT (qL (qB (qT qZ))))))))))))) (by kernel_rfl) ?_
        refine wH_all [20] (by rfl) (by kernel_rfl) (by simp) ⟨⟨by kernel_rfl, ?_⟩, trivial⟩
        refine wS_alloc (d := 10) (T := 58) (z := .agg #[.int .i64 (0), .int .i64 (0), .int .i64 (0), .int .i64 (0), .int .i64 (0)]) (by kernel_rfl) (by kernel_rfl) ?_
        intro b4 w16 G5 F32 hc13
        replace F32 : Cl w16 b4 58 [.int .i64 (0), .int .i64 (0), .int .i64 (0), .int .i64 (0), .int .i64 (0)] := F32
        have D58 : Dj fz5 [b4] := Dj.of F22.low (low1 G5)
        have D59 : Dj [b1] [b4] := Dj.of (lt1 F25.lt) (low1 G5)
        have D60 : Dj fp14 [b4] := Dj.of F27.low (low1 G5)
        have D61 : Dj fp15 [b4] := Dj.of (memL F28.low) (low1 G5)
        have D62 : Dj fp16 [b4] := Dj.of (memL F29.low) (low1 G5)
        have D63 : Dj [b2] [b4] := Dj.of (lt1 F31.lt) (low1 G5)
        replace F22 := F22.chg hc13 Dj.nil
        replace F23 := F23.chg hc13 notNil
        replace F24 := F24.chg hc13 Dj.nil
        replace F25 := F25.chg hc13 notNil
        replace F26 := F26.chg hc13 Dj.nil
        replace F27 := F27.chg hc13 Dj.nil
        replace F28 := F28.chg hc13 Dj.nil
        replace F29 := F29.chg hc13 Dj.nil
        replace F31 := F31.chg hc13 notNil
        replace hB := hB.inS hc13 inNil
        have hSz := hS
        replace hS := hS.inS hc13 inNil
        have Gz1 := low1 (Nat.le_trans hSz.size G5)
        replace G5 := Nat.le_trans hZ G5
        replace hZ := Nat.le_trans hZ hc13.size
        refine wS_end (by kernel_rfl) ?_
        refine eX_KH hS ?_
        refine wH_all [21] (by rfl) (by kernel_rfl) (by simp) ⟨⟨by kernel_rfl, ?_⟩, trivial⟩
        refine wS_store (T := 58) (g := b4) (o := 0) (ad := ⟨b4, 0, none⟩) (v := .agg #[.int .i64 (y2.1.1), .int .i64 (y2.1.2.1), .int .i64 (y2.1.2.2.1), .int .i64 (y2.1.2.2.2.1), .int .i64 (y2.1.2.2.2.2)]) (vs := [.int .i64 (y2.1.1), .int .i64 (y2.1.2.1), .int .i64 (y2.1.2.2.1), .int .i64 (y2.1.2.2.2.1), .int .i64 (y2.1.2.2.2.2)]) (by kernel_rfl) (by rfl) sz58 (by rfl) (by rfl) F32 (by simp only [List.length_cons, List.length_nil]; omega) ?_
        intro w17 F33 hc14
        replace F22 := F22.chg hc14 D58
        replace F23 := F23.chg hc14 (dj1 (Dj.of L0 (low1 G5)))
        replace F24 := F24.chg hc14 (Dj.of L1 (low1 G5))
        replace F25 := F25.chg hc14 (dj1 D59)
        replace F26 := F26.chg hc14 (Dj.of L1 (low1 G5))
        replace F27 := F27.chg hc14 D60
        replace F28 := F28.chg hc14 (djz D61 D58)
        replace F29 := F29.chg hc14 (djz D62 D58)
        replace F31 := F31.chg hc14 (dj1 D63)
        replace hB := hB.inS hc14 (inLow (low1 G5))
        have hSz := hS
        replace hS := hS.inS hc14 (inLow Gz1)
        replace hZ := Nat.le_trans hZ hc14.size
        replace F33 : Cl w17 b4 58 [.int .i64 (y2.1.1), .int .i64 (y2.1.2.1), .int .i64 (y2.1.2.2.1), .int .i64 (y2.1.2.2.2.1), .int .i64 (y2.1.2.2.2.2)] := F33
        clear F32
        refine wS_end (by kernel_rfl) ?_
        refine eX_KH hS ?_
        refine wH_take [22, 23] [23, 22, 21, 20, 19, 18, 17, 16, 15, 14, 13, 12, 11, 10, 9, 8, 7, 6, 5, 4, 3, 2, 1, 0] [(12, .int .i64 (y2.2.2.1)), (11, .int .i64 (y2.2.1))] (by kernel_rfl) (qT (qT (qT (qB (qT (qL (qB (qT (qB (qT (qL (qB (qT qZ))))))))))))) (by kernel_rfl) ?_
        refine wH_done (by kernel_rfl) ?_
        refine eX_tail ?_
        refine wS_pure 1 [(13, .bool (y2.2.2.2))] (by kernel_rfl) ?_
        refine wS_end (by rfl) ?_
        have hq : (some ((y2.1.1, y2.1.2.1, y2.1.2.2.1, y2.1.2.2.2.1, y2.1.2.2.2.2, y2.2.1, y2.2.2.1, y2.2.2.2)) : Option (Int × Int × Int × Int × Int × Int × Int × Bool)) = some _ := hm
        replace hq := someE hq
        subst hq
        exact eX_J (fun hst => ⟨b4, y2.1.1, y2.1.2.1, y2.1.2.2.1, y2.1.2.2.2.1, y2.1.2.2.2.2, y2.2.1, y2.2.2.1, y2.2.2.2, fz5, rfl, Fr.of hst (by kernel_rfl), F22, F23, F24, F25, F26, F27, F28, F29, F31, F33, G5, hap10, D58, D59, D60, D61, D62, D63, D51, D52, (D33).symm, (D40).symm, (D46).symm, (D53).symm, hB, hZ⟩)
       ·skip
        refine wS_alloc (d := 10) (T := 58) (z := .agg #[.int .i64 (0), .int .i64 (0), .int .i64 (0), .int .i64 (0), .int .i64 (0)]) (by kernel_rfl) (by kernel_rfl) ?_
        intro b5 w18 G6 F34 hc15
        replace F34 : Cl w18 b5 58 [.int .i64 (0), .int .i64 (0), .int .i64 (0), .int .i64 (0), .int .i64 (0)] := F34
        have D64 : Dj fz5 [b5] := Dj.of F22.low (low1 G6)
        have D65 : Dj [b1] [b5] := Dj.of (lt1 F25.lt) (low1 G6)
        have D66 : Dj fp14 [b5] := Dj.of F27.low (low1 G6)
        have D67 : Dj fp15 [b5] := Dj.of (memL F28.low) (low1 G6)
        have D68 : Dj fp16 [b5] := Dj.of (memL F29.low) (low1 G6)
        have D69 : Dj [b2] [b5] := Dj.of (lt1 F31.lt) (low1 G6)
        replace F22 := F22.chg hc15 Dj.nil
        replace F23 := F23.chg hc15 notNil
        replace F24 := F24.chg hc15 Dj.nil
        replace F25 := F25.chg hc15 notNil
        replace F26 := F26.chg hc15 Dj.nil
        replace F27 := F27.chg hc15 Dj.nil
        replace F28 := F28.chg hc15 Dj.nil
        replace F29 := F29.chg hc15 Dj.nil
        replace F31 := F31.chg hc15 notNil
        replace hB := hB.inS hc15 inNil
        have hSz := hS
        replace hS := hS.inS hc15 inNil
        have Gz2 := low1 (Nat.le_trans hSz.size G6)
        replace G6 := Nat.le_trans hZ G6
        replace hZ := Nat.le_trans hZ hc15.size
        refine wS_end (by kernel_rfl) ?_
        refine eX_KH hS ?_
        refine wH_all [14] (by rfl) (by kernel_rfl) (by simp) ⟨⟨by kernel_rfl, ?_⟩, trivial⟩
        obtain ⟨y3, hy3, hm⟩ := bindE hm
        refine wS_calls (d := 74) (f := 27) (vs := [.agg #[.int .i64 (x18.1), .int .i64 (x18.2.1), .int .i64 (x18.2.2.1), .int .i64 (x18.2.2.2.1), .int .i64 (x18.2.2.2.2)], .agg #[.int .i64 (x19.1), .int .i64 (x19.2.1), .int .i64 (x19.2.2.1), .int .i64 (x19.2.2.2.1), .int .i64 (x19.2.2.2.2)]]) (by kernel_rfl) ent27 (c_impl_merge hy3) ?_
        rintro _ w19 ⟨rfl, hc16⟩
        replace F22 := F22.chg hc16 Dj.nil
        replace F23 := F23.chg hc16 notNil
        replace F24 := F24.chg hc16 Dj.nil
        replace F25 := F25.chg hc16 notNil
        replace F26 := F26.chg hc16 Dj.nil
        replace F27 := F27.chg hc16 Dj.nil
        replace F28 := F28.chg hc16 Dj.nil
        replace F29 := F29.chg hc16 Dj.nil
        replace F31 := F31.chg hc16 notNil
        replace F34 := F34.chg hc16 notNil
        replace hB := hB.inS hc16 inNil
        have hSz := hS
        replace hS := hS.inS hc16 inNil
        replace hZ := Nat.le_trans hZ hc16.size
        refine ⟨.tuple #[.agg #[.int .i64 (y3.1.1), .int .i64 (y3.1.2.1), .int .i64 (y3.1.2.2.1), .int .i64 (y3.1.2.2.2.1), .int .i64 (y3.1.2.2.2.2)], .int .i64 (y3.2.1), .int .i64 (y3.2.2.1), .bool (y3.2.2.2)], rfl, ?_⟩
        refine wS_end (by kernel_rfl) ?_
        refine eX_KH hS ?_
        refine wH_take [15, 16, 17, 18, 19] [19, 18, 17, 16, 15, 14, 20, 13, 12, 11, 10, 9, 8, 7, 6, 5, 4, 3, 2, 1, 0] [(78, .bool (y3.2.2.2)), (77, .int .i64 (y3.2.2.1)), (76, .int .i64 (y3.2.1)), (75, .agg #[.int .i64 (y3.1.1), .int .i64 (y3.1.2.1), .int .i64 (y3.1.2.2.1), .int .i64 (y3.1.2.2.2.1), .int .i64 (y3.1.2.2.2.2)]), (59, .tuple #[.agg #[.int .i64 (y3.1.1), .int .i64 (y3.1.2.1), .int .i64 (y3.1.2.2.1), .int .i64 (y3.1.2.2.2.1), .int .i64 (y3.1.2.2.2.2)], .int .i64 (y3.2.1), .int .i64 (y3.2.2.1), .bool (y3.2.2.2)])] (by kernel_rfl) (qT (qT (qT (qB (qT (qL (qB (qT (qB (qT (qL (qB (qT qZ))))))))))))) (by kernel_rfl) ?_
        refine wH_all [21] (by rfl) (by kernel_rfl) (by simp) ⟨⟨by kernel_rfl, ?_⟩, trivial⟩
        refine wS_store (T := 58) (g := b5) (o := 0) (ad := ⟨b5, 0, none⟩) (v := .agg #[.int .i64 (y3.1.1), .int .i64 (y3.1.2.1), .int .i64 (y3.1.2.2.1), .int .i64 (y3.1.2.2.2.1), .int .i64 (y3.1.2.2.2.2)]) (vs := [.int .i64 (y3.1.1), .int .i64 (y3.1.2.1), .int .i64 (y3.1.2.2.1), .int .i64 (y3.1.2.2.2.1), .int .i64 (y3.1.2.2.2.2)]) (by kernel_rfl) (by rfl) sz58 (by rfl) (by rfl) F34 (by simp only [List.length_cons, List.length_nil]; omega) ?_
        intro w20 F35 hc17
        replace F22 := F22.chg hc17 D64
        replace F23 := F23.chg hc17 (dj1 (Dj.of L0 (low1 G6)))
        replace F24 := F24.chg hc17 (Dj.of L1 (low1 G6))
        replace F25 := F25.chg hc17 (dj1 D65)
        replace F26 := F26.chg hc17 (Dj.of L1 (low1 G6))
        replace F27 := F27.chg hc17 D66
        replace F28 := F28.chg hc17 (djz D67 D64)
        replace F29 := F29.chg hc17 (djz D68 D64)
        replace F31 := F31.chg hc17 (dj1 D69)
        replace hB := hB.inS hc17 (inLow (low1 G6))
        have hSz := hS
        replace hS := hS.inS hc17 (inLow Gz2)
        replace hZ := Nat.le_trans hZ hc17.size
        replace F35 : Cl w20 b5 58 [.int .i64 (y3.1.1), .int .i64 (y3.1.2.1), .int .i64 (y3.1.2.2.1), .int .i64 (y3.1.2.2.2.1), .int .i64 (y3.1.2.2.2.2)] := F35
        clear F34
        refine wS_end (by kernel_rfl) ?_
        refine eX_KH hS ?_
        refine wH_take [22, 23] [23, 22, 21, 19, 18, 17, 16, 15, 14, 20, 13, 12, 11, 10, 9, 8, 7, 6, 5, 4, 3, 2, 1, 0] [(12, .int .i64 (y3.2.2.1)), (11, .int .i64 (y3.2.1))] (by kernel_rfl) (qT (qT (qT (qB (qT (qL (qB (qT (qB (qT (qL (qB (qT qZ))))))))))))) (by kernel_rfl) ?_
        refine wH_done (by kernel_rfl) ?_
        refine eX_tail ?_
        refine wS_pure 1 [(13, .bool (y3.2.2.2))] (by kernel_rfl) ?_
        refine wS_end (by rfl) ?_
        have hq : (some ((y3.1.1, y3.1.2.1, y3.1.2.2.1, y3.1.2.2.2.1, y3.1.2.2.2.2, y3.2.1, y3.2.2.1, y3.2.2.2)) : Option (Int × Int × Int × Int × Int × Int × Int × Bool)) = some _ := hm
        replace hq := someE hq
        subst hq
        exact eX_J (fun hst => ⟨b5, y3.1.1, y3.1.2.1, y3.1.2.2.1, y3.1.2.2.2.1, y3.1.2.2.2.2, y3.2.1, y3.2.2.1, y3.2.2.2, fz5, rfl, Fr.of hst (by kernel_rfl), F22, F23, F24, F25, F26, F27, F28, F29, F31, F35, G6, hap10, D64, D65, D66, D67, D68, D69, D51, D52, (D33).symm, (D40).symm, (D46).symm, (D53).symm, hB, hZ⟩)
      ·rintro a' w21 ⟨b3, x10, x11, x12, x13, x14, x15, x16, x17, fz6, hJ, hF4, F36, F37, F38, F39, F40, F41, F42, F43, F44, F45, G7, hap11, D70, D71, D72, D73, D74, D75, D76, D77, D78, D79, D80, D81, hB, hZ⟩
       subst hJ
       refine Fr.goX hF4 (by kernel_rfl) ?_
       refine eX_then ?_
       refine cW_seq ?_
       refine cW_seq ?_
       refine cW_region ?_
       refine wS_pure 2 [(80, .bool (!x17)), (79, .bool (x17))] (by kernel_rfl) ?_
       refine wS_end (by rfl) ?_
       refine eX_then ?_
       refine cW_cond (t := !x17) (by kernel_rfl) (fun hb6 => ?_) (fun hb6 => ?_)
       ·have hm := condT hb6 hm
        refine cW_exit ?_
        refine eX_then_exit ?_
        refine eX_block_hit ?_
        refine eX_then ?_
        refine cW_region ?_
        refine wS_pure 2 [(55, .int .i64 (wr (x7 + 1))), (151, .int .i64 (wr (x7 + 1)))] (by kernel_rfl) ?_
        refine wS_end (by rfl) ?_
        have hq : (some (Ctl.next ((wr (x7 + 1), l13, l14, l15, z5, x8))) : Option (Ctl (Int × (List (Int × Int × Int × Int × Int)) × (List (List (Int))) × (List (List (Int))) × Bool × Int) ((List (Int × Int × Int × Int × Int)) × (List (List (Int))) × (List (List (Int))) × Bool × Int))) = some _ := hm
        replace hq := someE hq
        subst hq
        exact eX_next hx3 (fun hst => ⟨wr (x7 + 1), l13, A16, cap16, fp14, l14, A17, cap17, fp15, l15, A18, cap18, fp16, z5, x8, fz6, rfl, Fr.of hst (by kernel_rfl), F36, F37, F38, F39, F40, F41, F42, F43, hap7, hap8, hz5, hap9, hap11, (D78).symm, D34, D35, D36, D37, D38, D39, (D79).symm, D41, D42, D43, D44, D45, (D80).symm, D47, D48, D49, D50, D76, D77, hB, hZ⟩)
       ·have hm := condF hb6 hm
        refine cW_skip ?_
        refine eX_then ?_
        refine cW_seq ?_
        refine cW_region ?_
        refine wS_pure 1 [(81, .slice A1 (l1).length cap1)] (by kernel_rfl) ?_
        obtain ⟨y4, hy4, hm⟩ := bindE hm
        refine wS_calls (d := 82) (f := 44) (vs := [.slice A1 (l1).length cap1]) (by kernel_rfl) ent44 (c_slices_Clone_int64_int64 hy4 F38) ?_
        rintro _ w22 ⟨A19, cap19, fp17, rfl, F46, G8, hc18⟩
        have D82 : Dj fz6 fp17 := Dj.of F36.low G8
        have D83 : Dj [b1] fp17 := Dj.of (lt1 F39.lt) G8
        have D84 : Dj fp14 fp17 := Dj.of F41.low G8
        have D85 : Dj fp15 fp17 := Dj.of (memL F42.low) G8
        have D86 : Dj fp16 fp17 := Dj.of (memL F43.low) G8
        have D87 : Dj [b2] fp17 := Dj.of (lt1 F44.lt) G8
        have D88 : Dj [b3] fp17 := Dj.of (lt1 F45.lt) G8
        replace F36 := F36.chg hc18 Dj.nil
        replace F37 := F37.chg hc18 notNil
        replace F38 := F38.chg hc18 Dj.nil
        replace F39 := F39.chg hc18 notNil
        replace F40 := F40.chg hc18 Dj.nil
        replace F41 := F41.chg hc18 Dj.nil
        replace F42 := F42.chg hc18 Dj.nil
        replace F43 := F43.chg hc18 Dj.nil
        replace F44 := F44.chg hc18 notNil
        replace F45 := F45.chg hc18 notNil
        replace hB := hB.inS hc18 inNil
        replace G8 := low_le hZ G8
        replace hZ := Nat.le_trans hZ hc18.size
        refine ⟨.slice A19 (y4).length cap19, rfl, ?_⟩
        refine wS_pure 1 [(83, .func (.func 45) #[] #[.pointer (some ⟨b1, 0, none⟩), .pointer (some ⟨b2, 0, none⟩)])] (by kernel_rfl) ?_
        obtain ⟨y5, hy5, hm⟩ := bindE hm
        refine wS_calls (d := 84) (f := 43) (vs := [.slice A19 (y4).length cap19, .func (.func 45) #[] #[.pointer (some ⟨b1, 0, none⟩), .pointer (some ⟨b2, 0, none⟩)]]) (by kernel_rfl) ent43 (c_slices_DeleteFunc_int64_int64_impl_chooser_choose_1_bint64_bint64 hy5 F46 F46.cap_le F39 F44 (D83).symm (D87).symm) ?_
        rintro _ w23 ⟨rfl, F47, hc19⟩
        replace F36 := F36.chg hc19 (Dj.app D82 Dj.nil)
        replace F37 := F37.chg hc19 (dj1 (Dj.app (Dj.of L0 G8) Dj.nil))
        replace F38 := F38.chg hc19 (Dj.app (Dj.of L1 G8) Dj.nil)
        replace F39 := F39.chg hc19 (dj1 (Dj.app D83 Dj.nil))
        replace F40 := F40.chg hc19 (Dj.app (Dj.of L1 G8) Dj.nil)
        replace F41 := F41.chg hc19 (Dj.app D84 Dj.nil)
        replace F42 := F42.chg hc19 (djz (Dj.app D85 Dj.nil) (Dj.app D82 Dj.nil))
        replace F43 := F43.chg hc19 (djz (Dj.app D86 Dj.nil) (Dj.app D82 Dj.nil))
        replace F44 := F44.chg hc19 (dj1 (Dj.app D87 Dj.nil))
        replace F45 := F45.chg hc19 (dj1 (Dj.app D88 Dj.nil))
        replace hB := hB.inS hc19 (inApp (inLow G8) inNil)
        clear F46
        replace hZ := Nat.le_trans hZ hc19.size
        refine ⟨.slice A19 (y5).length cap19, rfl, ?_⟩
        refine wS_pure 1 [(14, .slice A19 (y5).length cap19)] (by kernel_rfl) ?_
        refine wS_end (by rfl) ?_
        refine eX_then ?_
        refine cW_seq ?_
        refine cW_region ?_
        refine wS_pure 4 [(88, .pointer (some ⟨b0, 0, none⟩)), (87, .pointer (some ⟨b0, 0, none⟩)), (86, .pointer (some ⟨b0, 0, none⟩)), (85, .slice A19 (y5).length cap19)] (by kernel_rfl) ?_
        refine wS_load1 (d := 89) (T := 51) (ad := ⟨b0, 0, none⟩) (v := .slice A16 (l13).length cap16) (by kernel_rfl) vt51 ((F37).cell 0) ?_
        refine wS_pure 1 [(90, .int .i64 (((l13).length : Int)))] (by kernel_rfl) ?_
        refine wS_bs (enc := encI) ([((l13).length : Int)] : List (Int)) [.int .i64 (((l13).length : Int))] (d := 91) (t := 32) (T := 2) (n := 1) (ps := [(0, .int .i64 (((l13).length : Int)))]) (by kernel_rfl) el32 encI_ok (by rfl) (by omega) (by omega) (by kernel_rfl) (by rfl) ?_
        intro b6 w24 G9 F48 hc20
        have D89 : Dj fz6 [b6] := Dj.of F36.low (low1 G9)
        have D90 : Dj [b1] [b6] := Dj.of (lt1 F39.lt) (low1 G9)
        have D91 : Dj fp14 [b6] := Dj.of F41.low (low1 G9)
        have D92 : Dj fp15 [b6] := Dj.of (memL F42.low) (low1 G9)
        have D93 : Dj fp16 [b6] := Dj.of (memL F43.low) (low1 G9)
        have D94 : Dj [b2] [b6] := Dj.of (lt1 F44.lt) (low1 G9)
        have D95 : Dj [b3] [b6] := Dj.of (lt1 F45.lt) (low1 G9)
        have D96 : Dj fp17 [b6] := Dj.of F47.low (low1 G9)
        replace F36 := F36.chg hc20 Dj.nil
        replace F37 := F37.chg hc20 notNil
        replace F38 := F38.chg hc20 Dj.nil
        replace F39 := F39.chg hc20 notNil
        replace F40 := F40.chg hc20 Dj.nil
        replace F41 := F41.chg hc20 Dj.nil
        replace F42 := F42.chg hc20 Dj.nil
        replace F43 := F43.chg hc20 Dj.nil
        replace F44 := F44.chg hc20 notNil
        replace F45 := F45.chg hc20 notNil
        replace F47 := F47.chg hc20 Dj.nil
        replace hB := hB.inS hc20 inNil
        replace G9 := Nat.le_trans hZ G9
        replace G9 := low1 G9
        replace hZ := Nat.le_trans hZ hc20.size
        obtain ⟨_, hk3, hm⟩ := bindE hm
        replace hk3 := apE hk3
        refine wS_append (enc := encI) (l := (y5 : List (Int))) (l2 := (([((l13).length : Int)] : List (Int)) : List (Int))) (d := 92) (t := 32) (T := 2) (A := A19) (A2 := (some ⟨b6, 0, none⟩)) (cap := cap19) (cap2 := 1) (by kernel_rfl) el32 encI_ok F47 (F48.sl encI_ok) (by rfl) hk3 ?_
        intro w25 fp18 A20 cap20 F49 hc21 hp1
        have G10 := low_ap G8 hZ hp1
        have D97 : Dj fz6 fp18 := Dj.ap D82 F36.low hp1
        have D98 : Dj [b1] fp18 := Dj.ap D83 (lt1 F39.lt) hp1
        have D99 : Dj fp14 fp18 := Dj.ap D84 F41.low hp1
        have D100 : Dj fp15 fp18 := Dj.ap D85 (memL F42.low) hp1
        have D101 : Dj fp16 fp18 := Dj.ap D86 (memL F43.low) hp1
        have D102 : Dj [b2] fp18 := Dj.ap D87 (lt1 F44.lt) hp1
        have D103 : Dj [b3] fp18 := Dj.ap D88 (lt1 F45.lt) hp1
        have D104 : Dj [b6] fp18 := Dj.ap (D96).symm F48.low hp1
        replace F36 := F36.chg hc21 D82
        replace F37 := F37.chg hc21 (dj1 (Dj.of L0 G8))
        replace F38 := F38.chg hc21 (Dj.of L1 G8)
        replace F39 := F39.chg hc21 (dj1 D83)
        replace F40 := F40.chg hc21 (Dj.of L1 G8)
        replace F41 := F41.chg hc21 D84
        replace F42 := F42.chg hc21 (djz D85 D82)
        replace F43 := F43.chg hc21 (djz D86 D82)
        replace F44 := F44.chg hc21 (dj1 D87)
        replace F45 := F45.chg hc21 (dj1 D88)
        replace F48 := F48.chg hc21 (D96).symm
        replace hB := hB.inS hc21 (inLow G8)
        replace hZ := Nat.le_trans hZ hc21.size
        refine wS_pure 1 [(14, .slice A20 (y5 ++ (([((l13).length : Int)] : List (Int)))).length cap20)] (by kernel_rfl) ?_
        refine wS_end (by rfl) ?_
        refine eX_then ?_
        refine cW_prune [(0, .pointer (some ⟨b0, 0, none⟩)), (1, .slice A1 (l1).length cap1), (2, .int .i64 (p2)), (7, .pointer (some ⟨b1, 0, none⟩)), (9, .pointer (some ⟨b2, 0, none⟩)), (10, .pointer (some ⟨b3, 0, none⟩)), (11, .int .i64 (x15)), (12, .int .i64 (x16)), (14, .slice A20 (y5 ++ (([((l13).length : Int)] : List (Int)))).length cap20), (43, .slice A1 (l1).length cap1), (44, .int .i64 (((l1).length : Int))), (45, .int .i64 (x3)), (53, .slice A12 (y1).length cap12), (54, .int .i64 (((y1).length : Int))), (55, .int .i64 (x7))] (by kernel_rfl) (by kernel_rfl) (fun a1 => ?_)
        refine cW_seq ?_
        obtain ⟨s5, hs3, hm⟩ := bindE hm
        refine cW_cut (fun a' w' => ∃ l16 : List (Int × Int × Int × Int × Int), ∃ A21 : Option Addr, ∃ cap21 : Nat, ∃ fp19 : List Nat, ∃ l17 : List (List (Int)), ∃ A22 : Option Addr, ∃ cap22 : Nat, ∃ fp20 : List Nat, ∃ fz7 : List Nat, (l16, l17) = s5 ∧ Fr 153 [(0, .pointer (some ⟨b0, 0, none⟩)), (1, .slice A1 (l1).length cap1), (2, .int .i64 (p2)), (7, .pointer (some ⟨b1, 0, none⟩)), (11, .int .i64 (x15)), (12, .int .i64 (x16)), (14, .slice A20 (y5 ++ (([((l13).length : Int)] : List (Int)))).length cap20), (43, .slice A1 (l1).length cap1), (44, .int .i64 (((l1).length : Int))), (45, .int .i64 (x3)), (53, .slice A12 (y1).length cap12), (54, .int .i64 (((y1).length : Int))), (55, .int .i64 (x7))] a' ∧ ZLow w' fz7 ∧ Cl w' b0 53 [.slice A21 (l16).length cap21, .slice A22 (l17).length cap22, .slice A18 (l15).length cap18, .int .i64 (x8)] ∧ Sl 1 encI w' fp1 A1 l1 ∧ Cl w' b1 2 [.int .i64 (x5)] ∧ Sl 1 encI w' fp1 A12 y1 ∧ OwR 1 encI 32 2 w' fp16 fz7 A18 cap18 l15 ∧ Ow 1 encI 2 w' fp18 A20 cap20 (y5 ++ (([((l13).length : Int)] : List (Int)))) ∧ Ow 5 encIIIII 58 w' fp19 A21 cap21 l16 ∧ OwR 1 encI 32 2 w' fp20 fz7 A22 cap22 l17 ∧ Rt w0.heap.size fp0_0 fp19 ∧ Rt w0.heap.size fp0_1 fp20 ∧ Rt w0.heap.size fpz fz7 ∧ Dj fz7 fp19 ∧ Dj [b0] fp19 ∧ Dj fp1 fp19 ∧ Dj [b1] fp19 ∧ Dj fp1 fp19 ∧ Dj fp16 fp19 ∧ Dj fp18 fp19 ∧ Dj fp20 fp19 ∧ Dj fz7 fp20 ∧ Dj [b0] fp20 ∧ Dj fp1 fp20 ∧ Dj [b1] fp20 ∧ Dj fp1 fp20 ∧ Dj fp16 fp20 ∧ Dj fp18 fp20 ∧ Dj [b0] fz7 ∧ Dj [b1] fz7 ∧ Dj fp16 fz7 ∧ Dj fp18 fz7 ∧ Chg ([b0] ++ (fp0_0 ++ (fp0_1 ++ (fp0_2 ++ [])))) w0 w' ∧ w0.heap.size ≤ w'.heap.size) ?_ ?_
        ·have hm := hs3
         refine cW_drawnTail2 fp14 17 [0, 1, 2, 3, 4, 9, 10, 11] [11, 10, 9, 4, 3, 2, 1, 0] [(104, .pointer (some ⟨b0, 1, none⟩)), (103, .pointer (some ⟨b0, 0, none⟩)), (102, .pointer (some ⟨b0, 0, none⟩)), (97, .pointer (some ⟨b0, 0, none⟩)), (96, .pointer (some ⟨b0, 0, none⟩)), (95, .pointer (some ⟨b0, 0, none⟩)), (94, .pointer (some ⟨b0, 0, none⟩)), (93, .pointer (some ⟨b0, 0, none⟩))] (by kernel_rfl) (by kernel_rfl) (qT (qT (qB (qT (qL (qB (qT (qB (qT (qL (qB (qT qZ)))))))))))) (by kernel_rfl) (by kernel_rfl) (by decide) (fun w26 hc22 => ?_)
         replace F36 := F36.chg hc22 Dj.nil
         replace F37 := F37.chg hc22 notNil
         replace F38 := F38.chg hc22 Dj.nil
         replace F39 := F39.chg hc22 notNil
         replace F40 := F40.chg hc22 Dj.nil
         replace F41 := F41.chg hc22 Dj.nil
         replace F42 := F42.chg hc22 Dj.nil
         replace F43 := F43.chg hc22 Dj.nil
         replace F44 := F44.chg hc22 notNil
         replace F45 := F45.chg hc22 notNil
         replace F48 := F48.chg hc22 Dj.nil
         replace F49 := F49.chg hc22 Dj.nil
         replace hB := hB.inS hc22 inNil
         replace hZ := Nat.le_trans hZ hc22.size
         have hS := Chg.refl fp14 w26
         have Z10 := F36
         have Z11 := F37
         have Z12 := F38
         have Z13 := F39
         have Z14 := F40
         have Z15 := F41
         have Z16 := F42
         have Z17 := F43
         have Z18 := F44
         have Z19 := F45
         have Z20 := F48
         have Z21 := F49
         refine wH_load1 (i := 5) (d := 98) (T := 51) (ad := ⟨b0, 0, none⟩) (v := .slice A16 (l13).length cap16) (by kernel_rfl) (qT (qT (qT (qB (qT (qL (qB (qT (qB (qT (qL (qB (qT qZ))))))))))))) (by kernel_rfl) (by kernel_rfl) vt51 (fun W hW => (Z11.chg hW (dj1 D34)).cell 0) ?_
         refine wH_loadA (i := 6) (d := 99) (T := 58) (ad := ⟨b3, 0, none⟩) (vs := [.int .i64 (x10), .int .i64 (x11), .int .i64 (x12), .int .i64 (x13), .int .i64 (x14)]) (by kernel_rfl) (qT (qT (qT (qB (qT (qL (qB (qT (qB (qT (qL (qB (qT qZ))))))))))))) (by kernel_rfl) (by kernel_rfl) vt58 (fun W hW i u hu => box_cells (Z19.chg hW (dj1 (D72).symm)) 0 hu (by rfl)) ?_
         refine wH_load1 (i := 12) (d := 105) (T := 26) (ad := ⟨b0, 1, none⟩) (v := .slice A17 (l14).length cap17) (by kernel_rfl) (qT (qT (qT (qB (qT (qL (qB (qT (qB (qT (qL (qB (qT qZ))))))))))))) (by kernel_rfl) (by kernel_rfl) vt26 (fun W hW => (Z11.chg hW (dj1 D34)).cell 1) ?_
         refine wH_load1 (i := 13) (d := 106) (T := 2) (ad := ⟨b1, 0, none⟩) (v := .int .i64 (x5)) (by kernel_rfl) (qT (qT (qT (qB (qT (qL (qB (qT (qB (qT (qL (qB (qT qZ))))))))))))) (by kernel_rfl) (by kernel_rfl) vt2 (fun W hW => (Z13.chg hW (dj1 D36)).cell 0) ?_
         refine wH_load1 (i := 14) (d := 107) (T := 2) (ad := ⟨b2, 0, none⟩) (v := .int .i64 (x9)) (by kernel_rfl) (qT (qT (qT (qB (qT (qL (qB (qT (qB (qT (qL (qB (qT qZ))))))))))))) (by kernel_rfl) (by kernel_rfl) vt2 (fun W hW => (Z18.chg hW (dj1 (D55).symm)).cell 0) ?_
         refine wH_all [7, 15] (by rfl) (by kernel_rfl) (by simp) ⟨⟨by kernel_rfl, ?_⟩, ⟨by kernel_rfl, ?_⟩, trivial⟩
         ·skip
          refine wS_bs (enc := encIIIII) ([(x10, x11, x12, x13, x14)] : List (Int × Int × Int × Int × Int)) [.int .i64 (x10), .int .i64 (x11), .int .i64 (x12), .int .i64 (x13), .int .i64 (x14)] (d := 100) (t := 51) (T := 58) (n := 1) (ps := [(0, .agg #[.int .i64 (x10), .int .i64 (x11), .int .i64 (x12), .int .i64 (x13), .int .i64 (x14)])]) (by kernel_rfl) el51 encIIIII_ok (by rfl) (by omega) (by omega) (by kernel_rfl) (by rfl) ?_
          intro b7 w27 G11 F50 hc23
          have D105 : Dj fz6 [b7] := Dj.of F36.low (low1 G11)
          have D106 : Dj [b1] [b7] := Dj.of (lt1 F39.lt) (low1 G11)
          have D107 : Dj fp14 [b7] := Dj.of F41.low (low1 G11)
          have D108 : Dj fp15 [b7] := Dj.of (memL F42.low) (low1 G11)
          have D109 : Dj fp16 [b7] := Dj.of (memL F43.low) (low1 G11)
          have D110 : Dj [b2] [b7] := Dj.of (lt1 F44.lt) (low1 G11)
          have D111 : Dj [b3] [b7] := Dj.of (lt1 F45.lt) (low1 G11)
          have D112 : Dj [b6] [b7] := Dj.of F48.low (low1 G11)
          have D113 : Dj fp18 [b7] := Dj.of F49.low (low1 G11)
          replace F36 := F36.chg hc23 Dj.nil
          replace F37 := F37.chg hc23 notNil
          replace F38 := F38.chg hc23 Dj.nil
          replace F39 := F39.chg hc23 notNil
          replace F40 := F40.chg hc23 Dj.nil
          replace F41 := F41.chg hc23 Dj.nil
          replace F42 := F42.chg hc23 Dj.nil
          replace F43 := F43.chg hc23 Dj.nil
          replace F44 := F44.chg hc23 notNil
          replace F45 := F45.chg hc23 notNil
          replace F48 := F48.chg hc23 Dj.nil
          replace F49 := F49.chg hc23 Dj.nil
          replace hB := hB.inS hc23 inNil
          have hSz := hS
          replace hS := hS.inS hc23 inNil
          have Gz3 := low1 (Nat.le_trans hSz.size G11)
          replace G11 := Nat.le_trans hZ G11
          replace G11 := low1 G11
          replace hZ := Nat.le_trans hZ hc23.size
          refine wS_end (by kernel_rfl) ?_
          refine eX_KH hS ?_
          refine wH_all [8, 15] (by rfl) (by kernel_rfl) (by simp) ⟨⟨by kernel_rfl, ?_⟩, ⟨by kernel_rfl, ?_⟩, trivial⟩
          ·skip
           obtain ⟨_, hk4, hm⟩ := bindE hm
           replace hk4 := apE hk4
           refine wS_append (enc := encIIIII) (l := (l13 : List (Int × Int × Int × Int × Int))) (l2 := (([(x10, x11, x12, x13, x14)] : List (Int × Int × Int × Int × Int)) : List (Int × Int × Int × Int × Int))) (d := 101) (t := 51) (T := 58) (A := A16) (A2 := (some ⟨b7, 0, none⟩)) (cap := cap16) (cap2 := 1) (by kernel_rfl) el51 encIIIII_ok F41 (F50.sl encIIIII_ok) (by rfl) hk4 ?_
           intro w28 fp21 A23 cap23 F51 hc24 hp2
           have hap12 := Rt.of hp2 hZ hap7
           have D114 : Dj fz6 fp21 := Dj.ap (D78).symm F36.low hp2
           have D115 : Dj [b0] fp21 := Dj.ap D34 (lt1 F37.lt) hp2
           have D116 : Dj fp1 fp21 := Dj.ap D35 F38.low hp2
           have D117 : Dj [b1] fp21 := Dj.ap D36 (lt1 F39.lt) hp2
           have D118 : Dj fp1 fp21 := Dj.ap D37 F40.low hp2
           have D119 : Dj fp15 fp21 := Dj.ap D38 (memL F42.low) hp2
           have D120 : Dj fp16 fp21 := Dj.ap D39 (memL F43.low) hp2
           have D121 : Dj [b2] fp21 := Dj.ap (D55).symm (lt1 F44.lt) hp2
           have D122 : Dj [b3] fp21 := Dj.ap (D72).symm (lt1 F45.lt) hp2
           have D123 : Dj [b6] fp21 := Dj.ap (D91).symm F48.low hp2
           have D124 : Dj fp18 fp21 := Dj.ap (D99).symm F49.low hp2
           have D125 : Dj [b7] fp21 := Dj.ap (D107).symm F50.low hp2
           replace F36 := F36.chg hc24 (D78).symm
           replace F37 := F37.chg hc24 (dj1 D34)
           replace F38 := F38.chg hc24 D35
           replace F39 := F39.chg hc24 (dj1 D36)
           replace F40 := F40.chg hc24 D37
           replace F42 := F42.chg hc24 (djz D38 (D78).symm)
           replace F43 := F43.chg hc24 (djz D39 (D78).symm)
           replace F44 := F44.chg hc24 (dj1 (D55).symm)
           replace F45 := F45.chg hc24 (dj1 (D72).symm)
           replace F48 := F48.chg hc24 (D91).symm
           replace F49 := F49.chg hc24 (D99).symm
           replace F50 := F50.chg hc24 (D107).symm
           replace hB := hB.inS hc24 (inRt hap7 (fun x hx => (List.mem_append_right _ (List.mem_append_left _ hx))))
           have hSz := hS
           replace hS := hS.trans hc24
           have Sn1 := sin_ap (Sg := fp14) (inMem (fun x hx => hx)) hSz.size hp2
           replace hZ := Nat.le_trans hZ hc24.size
           refine wS_end (by kernel_rfl) ?_
           refine eX_KH hS ?_
           refine wH_all [15] (by rfl) (by kernel_rfl) (by simp) ⟨⟨by kernel_rfl, ?_⟩, trivial⟩
           refine wS_bs (enc := encI) ([x5, x9] : List (Int)) [.int .i64 (x5), .int .i64 (x9)] (d := 108) (t := 32) (T := 2) (n := 2) (ps := [(0, .int .i64 (x5)), (1, .int .i64 (x9))]) (by kernel_rfl) el32 encI_ok (by rfl) (by omega) (by omega) (by kernel_rfl) (by rfl) ?_
           intro b8 w29 G12 F52 hc25
           have D126 : Dj fz6 [b8] := Dj.of F36.low (low1 G12)
           have D127 : Dj [b1] [b8] := Dj.of (lt1 F39.lt) (low1 G12)
           have D128 : Dj fp15 [b8] := Dj.of (memL F42.low) (low1 G12)
           have D129 : Dj fp16 [b8] := Dj.of (memL F43.low) (low1 G12)
           have D130 : Dj [b2] [b8] := Dj.of (lt1 F44.lt) (low1 G12)
           have D131 : Dj [b3] [b8] := Dj.of (lt1 F45.lt) (low1 G12)
           have D132 : Dj [b6] [b8] := Dj.of F48.low (low1 G12)
           have D133 : Dj fp18 [b8] := Dj.of F49.low (low1 G12)
           have D134 : Dj [b7] [b8] := Dj.of F50.low (low1 G12)
           have D135 : Dj fp21 [b8] := Dj.of F51.low (low1 G12)
           replace F36 := F36.chg hc25 Dj.nil
           replace F37 := F37.chg hc25 notNil
           replace F38 := F38.chg hc25 Dj.nil
           replace F39 := F39.chg hc25 notNil
           replace F40 := F40.chg hc25 Dj.nil
           replace F42 := F42.chg hc25 Dj.nil
           replace F43 := F43.chg hc25 Dj.nil
           replace F44 := F44.chg hc25 notNil
           replace F45 := F45.chg hc25 notNil
           replace F48 := F48.chg hc25 Dj.nil
           replace F49 := F49.chg hc25 Dj.nil
           replace F50 := F50.chg hc25 Dj.nil
           replace F51 := F51.chg hc25 Dj.nil
           replace hB := hB.inS hc25 inNil
           have hSz := hS
           replace hS := hS.inS hc25 inNil
           have Gz4 := low1 (Nat.le_trans hSz.size G12)
           replace G12 := Nat.le_trans hZ G12
           replace G12 := low1 G12
           replace hZ := Nat.le_trans hZ hc25.size
           refine wS_end (by kernel_rfl) ?_
           refine eX_KH hS ?_
           refine wH_all [16] (by rfl) (by kernel_rfl) (by simp) ⟨⟨by kernel_rfl, ?_⟩, trivial⟩
           refine wS_row1 (k := 1) (enc := encI) (l := ([x5, x9] : List (Int))) (d := 109) (t := 26) (T := 32) (B := (some ⟨b8, 0, none⟩)) (c := 2) (by kernel_rfl) el26 F52 ?_
           intro b9 w30 G13 F53 hc26
           have D136 : Dj fz6 ([b9] ++ [b8]) := Dj.app (Dj.of F36.low (low1 G13)) D126
           have D137 : Dj [b1] ([b9] ++ [b8]) := Dj.app (Dj.of (lt1 F39.lt) (low1 G13)) D127
           have D138 : Dj fp15 ([b9] ++ [b8]) := Dj.app (Dj.of (memL F42.low) (low1 G13)) D128
           have D139 : Dj fp16 ([b9] ++ [b8]) := Dj.app (Dj.of (memL F43.low) (low1 G13)) D129
           have D140 : Dj [b2] ([b9] ++ [b8]) := Dj.app (Dj.of (lt1 F44.lt) (low1 G13)) D130
           have D141 : Dj [b3] ([b9] ++ [b8]) := Dj.app (Dj.of (lt1 F45.lt) (low1 G13)) D131
           have D142 : Dj [b6] ([b9] ++ [b8]) := Dj.app (Dj.of F48.low (low1 G13)) D132
           have D143 : Dj fp18 ([b9] ++ [b8]) := Dj.app (Dj.of F49.low (low1 G13)) D133
           have D144 : Dj [b7] ([b9] ++ [b8]) := Dj.app (Dj.of F50.low (low1 G13)) D134
           have D145 : Dj fp21 ([b9] ++ [b8]) := Dj.app (Dj.of F51.low (low1 G13)) D135
           replace F36 := F36.chg hc26 Dj.nil
           replace F37 := F37.chg hc26 notNil
           replace F38 := F38.chg hc26 Dj.nil
           replace F39 := F39.chg hc26 notNil
           replace F40 := F40.chg hc26 Dj.nil
           replace F42 := F42.chg hc26 Dj.nil
           replace F43 := F43.chg hc26 Dj.nil
           replace F44 := F44.chg hc26 notNil
           replace F45 := F45.chg hc26 notNil
           replace F48 := F48.chg hc26 Dj.nil
           replace F49 := F49.chg hc26 Dj.nil
           replace F50 := F50.chg hc26 Dj.nil
           replace F51 := F51.chg hc26 Dj.nil
           replace F52 := F52.chg hc26 Dj.nil
           replace hB := hB.inS hc26 inNil
           have hSz := hS
           replace hS := hS.inS hc26 inNil
           replace G13 := Nat.le_trans hZ G13
           replace G13 := lowApp (low1 G13) G12
           replace hZ := Nat.le_trans hZ hc26.size
           replace F52 := (F52.sl encI_ok)
           refine wS_end (by kernel_rfl) ?_
           refine eX_KH hS ?_
           refine wH_done (by kernel_rfl) ?_
           refine eX_tail ?_
           obtain ⟨_, hk5, hm⟩ := bindE hm
           replace hk5 := apE hk5
           refine wS_appendR (k := 1) (enc := encI) (ll := (l14 : List (List (Int)))) (ll2 := (([([x5, x9] : List (Int))] : List (List (Int))) : List (List (Int)))) (d := 110) (t := 26) (T := 32) (A := A17) (A2 := (some ⟨b9, 0, none⟩)) (cap := cap17) (cap2 := 1) (by kernel_rfl) el26 F42 F53 (by rfl) (djz D138 D136) hk5 ?_
           intro w31 fp22 A24 cap24 F54 hc27 hp3
           have hl1 := memR F53.low
           have D146 : Dj [b0] (fz6 ++ [b8]) := Dj.app D76 (Dj.inr (Dj.of L0 G13))
           have D147 : Dj [b1] (fz6 ++ [b8]) := Dj.app D77 (Dj.inr D137)
           have D148 : Dj fp15 (fz6 ++ [b8]) := Dj.app D79 (Dj.inr D138)
           have D149 : Dj fp16 (fz6 ++ [b8]) := Dj.app D80 (Dj.inr D139)
           replace F43 := F43.zmore (Dj.inr D139) hl1
           have D150 : Dj [b2] (fz6 ++ [b8]) := Dj.app D81 (Dj.inr D140)
           have D151 : Dj [b3] (fz6 ++ [b8]) := Dj.app (D70).symm (Dj.inr D141)
           have D152 : Dj [b6] (fz6 ++ [b8]) := Dj.app (D89).symm (Dj.inr D142)
           have D153 : Dj fp18 (fz6 ++ [b8]) := Dj.app (D97).symm (Dj.inr D143)
           have D154 : Dj [b7] (fz6 ++ [b8]) := Dj.app (D105).symm (Dj.inr D144)
           have D155 : Dj fp21 (fz6 ++ [b8]) := Dj.app (D114).symm (Dj.inr D145)
           replace F36 := F36.app hl1
           have hap13 := Rt.app hap11 (Rt.low (memR G13))
           have hap14 := Rt.of hp3 hZ hap8
           have D156 : Dj (fz6 ++ [b8]) fp22 := Dj.ap (D148).symm F36.low hp3
           have D157 : Dj [b0] fp22 := Dj.ap D41 (lt1 F37.lt) hp3
           have D158 : Dj fp1 fp22 := Dj.ap D42 F38.low hp3
           have D159 : Dj [b1] fp22 := Dj.ap D43 (lt1 F39.lt) hp3
           have D160 : Dj fp1 fp22 := Dj.ap D44 F40.low hp3
           have D161 : Dj fp16 fp22 := Dj.ap D45 (memL F43.low) hp3
           have D162 : Dj [b2] fp22 := Dj.ap (D56).symm (lt1 F44.lt) hp3
           have D163 : Dj [b3] fp22 := Dj.ap (D73).symm (lt1 F45.lt) hp3
           have D164 : Dj [b6] fp22 := Dj.ap (D92).symm F48.low hp3
           have D165 : Dj fp18 fp22 := Dj.ap (D100).symm F49.low hp3
           have D166 : Dj [b7] fp22 := Dj.ap (D108).symm F50.low hp3
           have D167 : Dj fp21 fp22 := Dj.ap (D119).symm F51.low hp3
           replace F36 := F36.chg hc27 (D148).symm
           replace F37 := F37.chg hc27 (dj1 D41)
           replace F38 := F38.chg hc27 D42
           replace F39 := F39.chg hc27 (dj1 D43)
           replace F40 := F40.chg hc27 D44
           replace F43 := F43.chg hc27 (djz D45 (D148).symm)
           replace F44 := F44.chg hc27 (dj1 (D56).symm)
           replace F45 := F45.chg hc27 (dj1 (D73).symm)
           replace F48 := F48.chg hc27 (D92).symm
           replace F49 := F49.chg hc27 (D100).symm
           replace F50 := F50.chg hc27 (D108).symm
           replace F51 := F51.chg hc27 (D119).symm
           replace hB := hB.inS hc27 (inRt hap8 (fun x hx => (List.mem_append_right _ (List.mem_append_right _ (List.mem_append_left _ hx)))))
           replace hZ := Nat.le_trans hZ hc27.size
           refine wS_pure 2 [(112, .pointer (some ⟨b0, 0, none⟩)), (111, .pointer (some ⟨b0, 0, none⟩))] (by kernel_rfl) ?_
           refine wS_store (T := 51) (g := b0) (o := 0) (ad := ⟨b0, 0, none⟩) (v := .slice A23 (l13 ++ (([(x10, x11, x12, x13, x14)] : List (Int × Int × Int × Int × Int)))).length cap23) (vs := [.slice A23 (l13 ++ (([(x10, x11, x12, x13, x14)] : List (Int × Int × Int × Int × Int)))).length cap23]) (by kernel_rfl) (by rfl) sz51 (by rfl) (by rfl) F37 (by simp only [List.length_cons, List.length_nil]; omega) ?_
           intro w32 F55 hc28
           replace F36 := F36.chg hc28 (D146).symm
           replace F38 := F38.chg hc28 (J0__1).symm
           replace F39 := F39.chg hc28 (dj1 (Dj.of L0 (low1 G3)).symm)
           replace F40 := F40.chg hc28 (J0__1).symm
           replace F43 := F43.chg hc28 (djz (D47).symm (D146).symm)
           replace F44 := F44.chg hc28 (dj1 (Dj.of L0 (low1 G4)).symm)
           replace F45 := F45.chg hc28 (dj1 (Dj.of L0 (low1 G7)).symm)
           replace F48 := F48.chg hc28 (Dj.of L0 G9).symm
           replace F49 := F49.chg hc28 (Dj.of L0 G10).symm
           replace F50 := F50.chg hc28 (Dj.of L0 G11).symm
           replace F51 := F51.chg hc28 (D115).symm
           replace F54 := F54.chg hc28 (djz (D157).symm (D146).symm)
           replace hB := hB.inS hc28 (inMem (fun x hx => (List.mem_append_left _ hx)))
           replace hZ := Nat.le_trans hZ hc28.size
           replace F55 : Cl w32 b0 53 [.slice A23 (l13 ++ (([(x10, x11, x12, x13, x14)] : List (Int × Int × Int × Int × Int)))).length cap23, .slice A17 (l14).length cap17, .slice A18 (l15).length cap18, .int .i64 (x8)] := F55
           clear F37
           refine wS_pure 2 [(114, .pointer (some ⟨b0, 1, none⟩)), (113, .pointer (some ⟨b0, 0, none⟩))] (by kernel_rfl) ?_
           refine wS_store (T := 26) (g := b0) (o := 1) (ad := ⟨b0, 1, none⟩) (v := .slice A24 (l14 ++ (([([x5, x9] : List (Int))] : List (List (Int))))).length cap24) (vs := [.slice A24 (l14 ++ (([([x5, x9] : List (Int))] : List (List (Int))))).length cap24]) (by kernel_rfl) (by rfl) sz26 (by rfl) (by rfl) F55 (by simp only [List.length_cons, List.length_nil]; omega) ?_
           intro w33 F56 hc29
           replace F36 := F36.chg hc29 (D146).symm
           replace F38 := F38.chg hc29 (J0__1).symm
           replace F39 := F39.chg hc29 (dj1 (Dj.of L0 (low1 G3)).symm)
           replace F40 := F40.chg hc29 (J0__1).symm
           replace F43 := F43.chg hc29 (djz (D47).symm (D146).symm)
           replace F44 := F44.chg hc29 (dj1 (Dj.of L0 (low1 G4)).symm)
           replace F45 := F45.chg hc29 (dj1 (Dj.of L0 (low1 G7)).symm)
           replace F48 := F48.chg hc29 (Dj.of L0 G9).symm
           replace F49 := F49.chg hc29 (Dj.of L0 G10).symm
           replace F50 := F50.chg hc29 (Dj.of L0 G11).symm
           replace F51 := F51.chg hc29 (D115).symm
           replace F54 := F54.chg hc29 (djz (D157).symm (D146).symm)
           replace hB := hB.inS hc29 (inMem (fun x hx => (List.mem_append_left _ hx)))
           replace hZ := Nat.le_trans hZ hc29.size
           replace F56 : Cl w33 b0 53 [.slice A23 (l13 ++ (([(x10, x11, x12, x13, x14)] : List (Int × Int × Int × Int × Int)))).length cap23, .slice A24 (l14 ++ (([([x5, x9] : List (Int))] : List (List (Int))))).length cap24, .slice A18 (l15).length cap18, .int .i64 (x8)] := F56
           clear F55
           refine wS_end (by rfl) ?_
           have hq : (some ((l13 ++ (([(x10, x11, x12, x13, x14)] : List (Int × Int × Int × Int × Int))), l14 ++ (([([x5, x9] : List (Int))] : List (List (Int)))))) : Option ((List (Int × Int × Int × Int × Int)) × (List (List (Int))))) = some _ := hm
           replace hq := someE hq
           subst hq
           exact eX_J (fun hst => ⟨l13 ++ (([(x10, x11, x12, x13, x14)] : List (Int × Int × Int × Int × Int))), A23, cap23, fp21, l14 ++ (([([x5, x9] : List (Int))] : List (List (Int)))), A24, cap24, fp22, (fz6 ++ [b8]), rfl, Fr.of hst (by kernel_rfl), F36, F56, F38, F39, F40, F43, F49, F51, F54, hap12, hap14, hap13, (D155).symm, D115, D116, D117, D118, D120, D124, (D167).symm, D156, D157, D158, D159, D160, D161, D165, D146, D147, D149, D153, hB, hZ⟩)
          ·skip
           refine wS_bs (enc := encI) ([x5, x9] : List (Int)) [.int .i64 (x5), .int .i64 (x9)] (d := 108) (t := 32) (T := 2) (n := 2) (ps := [(0, .int .i64 (x5)), (1, .int .i64 (x9))]) (by kernel_rfl) el32 encI_ok (by rfl) (by omega) (by omega) (by kernel_rfl) (by rfl) ?_
           intro b10 w34 G14 F57 hc30
           have D168 : Dj fz6 [b10] := Dj.of F36.low (low1 G14)
           have D169 : Dj [b1] [b10] := Dj.of (lt1 F39.lt) (low1 G14)
           have D170 : Dj fp14 [b10] := Dj.of F41.low (low1 G14)
           have D171 : Dj fp15 [b10] := Dj.of (memL F42.low) (low1 G14)
           have D172 : Dj fp16 [b10] := Dj.of (memL F43.low) (low1 G14)
           have D173 : Dj [b2] [b10] := Dj.of (lt1 F44.lt) (low1 G14)
           have D174 : Dj [b3] [b10] := Dj.of (lt1 F45.lt) (low1 G14)
           have D175 : Dj [b6] [b10] := Dj.of F48.low (low1 G14)
           have D176 : Dj fp18 [b10] := Dj.of F49.low (low1 G14)
           have D177 : Dj [b7] [b10] := Dj.of F50.low (low1 G14)
           replace F36 := F36.chg hc30 Dj.nil
           replace F37 := F37.chg hc30 notNil
           replace F38 := F38.chg hc30 Dj.nil
           replace F39 := F39.chg hc30 notNil
           replace F40 := F40.chg hc30 Dj.nil
           replace F41 := F41.chg hc30 Dj.nil
           replace F42 := F42.chg hc30 Dj.nil
           replace F43 := F43.chg hc30 Dj.nil
           replace F44 := F44.chg hc30 notNil
           replace F45 := F45.chg hc30 notNil
           replace F48 := F48.chg hc30 Dj.nil
           replace F49 := F49.chg hc30 Dj.nil
           replace F50 := F50.chg hc30 Dj.nil
           replace hB := hB.inS hc30 inNil
           have hSz := hS
           replace hS := hS.inS hc30 inNil
           have Gz5 := low1 (Nat.le_trans hSz.size G14)
           replace G14 := Nat.le_trans hZ G14
           replace G14 := low1 G14
           replace hZ := Nat.le_trans hZ hc30.size
           refine wS_end (by kernel_rfl) ?_
           refine eX_KH hS ?_
           refine wH_all [8, 16] (by rfl) (by kernel_rfl) (by simp) ⟨⟨by kernel_rfl, ?_⟩, ⟨by kernel_rfl, ?_⟩, trivial⟩
           ·skip
            obtain ⟨_, hk6, hm⟩ := bindE hm
            replace hk6 := apE hk6
            refine wS_append (enc := encIIIII) (l := (l13 : List (Int × Int × Int × Int × Int))) (l2 := (([(x10, x11, x12, x13, x14)] : List (Int × Int × Int × Int × Int)) : List (Int × Int × Int × Int × Int))) (d := 101) (t := 51) (T := 58) (A := A16) (A2 := (some ⟨b7, 0, none⟩)) (cap := cap16) (cap2 := 1) (by kernel_rfl) el51 encIIIII_ok F41 (F50.sl encIIIII_ok) (by rfl) hk6 ?_
            intro w35 fp23 A25 cap25 F58 hc31 hp4
            have hap15 := Rt.of hp4 hZ hap7
            have D178 : Dj fz6 fp23 := Dj.ap (D78).symm F36.low hp4
            have D179 : Dj [b0] fp23 := Dj.ap D34 (lt1 F37.lt) hp4
            have D180 : Dj fp1 fp23 := Dj.ap D35 F38.low hp4
            have D181 : Dj [b1] fp23 := Dj.ap D36 (lt1 F39.lt) hp4
            have D182 : Dj fp1 fp23 := Dj.ap D37 F40.low hp4
            have D183 : Dj fp15 fp23 := Dj.ap D38 (memL F42.low) hp4
            have D184 : Dj fp16 fp23 := Dj.ap D39 (memL F43.low) hp4
            have D185 : Dj [b2] fp23 := Dj.ap (D55).symm (lt1 F44.lt) hp4
            have D186 : Dj [b3] fp23 := Dj.ap (D72).symm (lt1 F45.lt) hp4
            have D187 : Dj [b6] fp23 := Dj.ap (D91).symm F48.low hp4
            have D188 : Dj fp18 fp23 := Dj.ap (D99).symm F49.low hp4
            have D189 : Dj [b7] fp23 := Dj.ap (D107).symm F50.low hp4
            have D190 : Dj [b10] fp23 := Dj.ap (D170).symm F57.low hp4
            replace F36 := F36.chg hc31 (D78).symm
            replace F37 := F37.chg hc31 (dj1 D34)
            replace F38 := F38.chg hc31 D35
            replace F39 := F39.chg hc31 (dj1 D36)
            replace F40 := F40.chg hc31 D37
            replace F42 := F42.chg hc31 (djz D38 (D78).symm)
            replace F43 := F43.chg hc31 (djz D39 (D78).symm)
            replace F44 := F44.chg hc31 (dj1 (D55).symm)
            replace F45 := F45.chg hc31 (dj1 (D72).symm)
            replace F48 := F48.chg hc31 (D91).symm
            replace F49 := F49.chg hc31 (D99).symm
            replace F50 := F50.chg hc31 (D107).symm
            replace F57 := F57.chg hc31 (D170).symm
            replace hB := hB.inS hc31 (inRt hap7 (fun x hx => (List.mem_append_right _ (List.mem_append_left _ hx))))
            have hSz := hS
            replace hS := hS.trans hc31
            have Sn2 := sin_ap (Sg := fp14) (inMem (fun x hx => hx)) hSz.size hp4
            replace hZ := Nat.le_trans hZ hc31.size
            refine wS_end (by kernel_rfl) ?_
            refine eX_KH hS ?_
            refine wH_all [16] (by rfl) (by kernel_rfl) (by simp) ⟨⟨by kernel_rfl, ?_⟩, trivial⟩
            refine wS_row1 (k := 1) (enc := encI) (l := ([x5, x9] : List (Int))) (d := 109) (t := 26) (T := 32) (B := (some ⟨b10, 0, none⟩)) (c := 2) (by kernel_rfl) el26 F57 ?_
            intro b11 w36 G15 F59 hc32
            have D191 : Dj fz6 ([b11] ++ [b10]) := Dj.app (Dj.of F36.low (low1 G15)) D168
            have D192 : Dj [b1] ([b11] ++ [b10]) := Dj.app (Dj.of (lt1 F39.lt) (low1 G15)) D169
            have D193 : Dj fp15 ([b11] ++ [b10]) := Dj.app (Dj.of (memL F42.low) (low1 G15)) D171
            have D194 : Dj fp16 ([b11] ++ [b10]) := Dj.app (Dj.of (memL F43.low) (low1 G15)) D172
            have D195 : Dj [b2] ([b11] ++ [b10]) := Dj.app (Dj.of (lt1 F44.lt) (low1 G15)) D173
            have D196 : Dj [b3] ([b11] ++ [b10]) := Dj.app (Dj.of (lt1 F45.lt) (low1 G15)) D174
            have D197 : Dj [b6] ([b11] ++ [b10]) := Dj.app (Dj.of F48.low (low1 G15)) D175
            have D198 : Dj fp18 ([b11] ++ [b10]) := Dj.app (Dj.of F49.low (low1 G15)) D176
            have D199 : Dj [b7] ([b11] ++ [b10]) := Dj.app (Dj.of F50.low (low1 G15)) D177
            have D200 : Dj fp23 ([b11] ++ [b10]) := Dj.app (Dj.of F58.low (low1 G15)) (D190).symm
            replace F36 := F36.chg hc32 Dj.nil
            replace F37 := F37.chg hc32 notNil
            replace F38 := F38.chg hc32 Dj.nil
            replace F39 := F39.chg hc32 notNil
            replace F40 := F40.chg hc32 Dj.nil
            replace F42 := F42.chg hc32 Dj.nil
            replace F43 := F43.chg hc32 Dj.nil
            replace F44 := F44.chg hc32 notNil
            replace F45 := F45.chg hc32 notNil
            replace F48 := F48.chg hc32 Dj.nil
            replace F49 := F49.chg hc32 Dj.nil
            replace F50 := F50.chg hc32 Dj.nil
            replace F57 := F57.chg hc32 Dj.nil
            replace F58 := F58.chg hc32 Dj.nil
            replace hB := hB.inS hc32 inNil
            have hSz := hS
            replace hS := hS.inS hc32 inNil
            replace G15 := Nat.le_trans hZ G15
            replace G15 := lowApp (low1 G15) G14
            replace hZ := Nat.le_trans hZ hc32.size
            replace F57 := (F57.sl encI_ok)
            refine wS_end (by kernel_rfl) ?_
            refine eX_KH hS ?_
            refine wH_done (by kernel_rfl) ?_
            refine eX_tail ?_
            obtain ⟨_, hk7, hm⟩ := bindE hm
            replace hk7 := apE hk7
            refine wS_appendR (k := 1) (enc := encI) (ll := (l14 : List (List (Int)))) (ll2 := (([([x5, x9] : List (Int))] : List (List (Int))) : List (List (Int)))) (d := 110) (t := 26) (T := 32) (A := A17) (A2 := (some ⟨b11, 0, none⟩)) (cap := cap17) (cap2 := 1) (by kernel_rfl) el26 F42 F59 (by rfl) (djz D193 D191) hk7 ?_
            intro w37 fp24 A26 cap26 F60 hc33 hp5
            have hl2 := memR F59.low
            have D201 : Dj [b0] (fz6 ++ [b10]) := Dj.app D76 (Dj.inr (Dj.of L0 G15))
            have D202 : Dj [b1] (fz6 ++ [b10]) := Dj.app D77 (Dj.inr D192)
            have D203 : Dj fp15 (fz6 ++ [b10]) := Dj.app D79 (Dj.inr D193)
            have D204 : Dj fp16 (fz6 ++ [b10]) := Dj.app D80 (Dj.inr D194)
            replace F43 := F43.zmore (Dj.inr D194) hl2
            have D205 : Dj [b2] (fz6 ++ [b10]) := Dj.app D81 (Dj.inr D195)
            have D206 : Dj [b3] (fz6 ++ [b10]) := Dj.app (D70).symm (Dj.inr D196)
            have D207 : Dj [b6] (fz6 ++ [b10]) := Dj.app (D89).symm (Dj.inr D197)
            have D208 : Dj fp18 (fz6 ++ [b10]) := Dj.app (D97).symm (Dj.inr D198)
            have D209 : Dj [b7] (fz6 ++ [b10]) := Dj.app (D105).symm (Dj.inr D199)
            have D210 : Dj fp23 (fz6 ++ [b10]) := Dj.app (D178).symm (Dj.inr D200)
            replace F36 := F36.app hl2
            have hap16 := Rt.app hap11 (Rt.low (memR G15))
            have hap17 := Rt.of hp5 hZ hap8
            have D211 : Dj (fz6 ++ [b10]) fp24 := Dj.ap (D203).symm F36.low hp5
            have D212 : Dj [b0] fp24 := Dj.ap D41 (lt1 F37.lt) hp5
            have D213 : Dj fp1 fp24 := Dj.ap D42 F38.low hp5
            have D214 : Dj [b1] fp24 := Dj.ap D43 (lt1 F39.lt) hp5
            have D215 : Dj fp1 fp24 := Dj.ap D44 F40.low hp5
            have D216 : Dj fp16 fp24 := Dj.ap D45 (memL F43.low) hp5
            have D217 : Dj [b2] fp24 := Dj.ap (D56).symm (lt1 F44.lt) hp5
            have D218 : Dj [b3] fp24 := Dj.ap (D73).symm (lt1 F45.lt) hp5
            have D219 : Dj [b6] fp24 := Dj.ap (D92).symm F48.low hp5
            have D220 : Dj fp18 fp24 := Dj.ap (D100).symm F49.low hp5
            have D221 : Dj [b7] fp24 := Dj.ap (D108).symm F50.low hp5
            have D222 : Dj fp23 fp24 := Dj.ap (D183).symm F58.low hp5
            replace F36 := F36.chg hc33 (D203).symm
            replace F37 := F37.chg hc33 (dj1 D41)
            replace F38 := F38.chg hc33 D42
            replace F39 := F39.chg hc33 (dj1 D43)
            replace F40 := F40.chg hc33 D44
            replace F43 := F43.chg hc33 (djz D45 (D203).symm)
            replace F44 := F44.chg hc33 (dj1 (D56).symm)
            replace F45 := F45.chg hc33 (dj1 (D73).symm)
            replace F48 := F48.chg hc33 (D92).symm
            replace F49 := F49.chg hc33 (D100).symm
            replace F50 := F50.chg hc33 (D108).symm
            replace F58 := F58.chg hc33 (D183).symm
            replace hB := hB.inS hc33 (inRt hap8 (fun x hx => (List.mem_append_right _ (List.mem_append_right _ (List.mem_append_left _ hx)))))
            replace hZ := Nat.le_trans hZ hc33.size
            refine wS_pure 2 [(112, .pointer (some ⟨b0, 0, none⟩)), (111, .pointer (some ⟨b0, 0, none⟩))] (by kernel_rfl) ?_
            refine wS_store (T := 51) (g := b0) (o := 0) (ad := ⟨b0, 0, none⟩) (v := .slice A25 (l13 ++ (([(x10, x11, x12, x13, x14)] : List (Int × Int × Int × Int × Int)))).length cap25) (vs := [.slice A25 (l13 ++ (([(x10, x11, x12, x13, x14)] : List (Int × Int × Int × Int × Int)))).length cap25]) (by kernel_rfl) (by rfl) sz51 (by rfl) (by rfl) F37 (by simp only [List.length_cons, List.length_nil]; omega) ?_
            intro w38 F61 hc34
            replace F36 := F36.chg hc34 (D201).symm
            replace F38 := F38.chg hc34 (J0__1).symm
            replace F39 := F39.chg hc34 (dj1 (Dj.of L0 (low1 G3)).symm)
            replace F40 := F40.chg hc34 (J0__1).symm
            replace F43 := F43.chg hc34 (djz (D47).symm (D201).symm)
            replace F44 := F44.chg hc34 (dj1 (Dj.of L0 (low1 G4)).symm)
            replace F45 := F45.chg hc34 (dj1 (Dj.of L0 (low1 G7)).symm)
            replace F48 := F48.chg hc34 (Dj.of L0 G9).symm
            replace F49 := F49.chg hc34 (Dj.of L0 G10).symm
            replace F50 := F50.chg hc34 (Dj.of L0 G11).symm
            replace F58 := F58.chg hc34 (D179).symm
            replace F60 := F60.chg hc34 (djz (D212).symm (D201).symm)
            replace hB := hB.inS hc34 (inMem (fun x hx => (List.mem_append_left _ hx)))
            replace hZ := Nat.le_trans hZ hc34.size
            replace F61 : Cl w38 b0 53 [.slice A25 (l13 ++ (([(x10, x11, x12, x13, x14)] : List (Int × Int × Int × Int × Int)))).length cap25, .slice A17 (l14).length cap17, .slice A18 (l15).length cap18, .int .i64 (x8)] := F61
            clear F37
            refine wS_pure 2 [(114, .pointer (some ⟨b0, 1, none⟩)), (113, .pointer (some ⟨b0, 0, none⟩))] (by kernel_rfl) ?_
            refine wS_store (T := 26) (g := b0) (o := 1) (ad := ⟨b0, 1, none⟩) (v := .slice A26 (l14 ++ (([([x5, x9] : List (Int))] : List (List (Int))))).length cap26) (vs := [.slice A26 (l14 ++ (([([x5, x9] : List (Int))] : List (List (Int))))).length cap26]) (by kernel_rfl) (by rfl) sz26 (by rfl) (by rfl) F61 (by simp only [List.length_cons, List.length_nil]; omega) ?_
            intro w39 F62 hc35
            replace F36 := F36.chg hc35 (D201).symm
            replace F38 := F38.chg hc35 (J0__1).symm
            replace F39 := F39.chg hc35 (dj1 (Dj.of L0 (low1 G3)).symm)
            replace F40 := F40.chg hc35 (J0__1).symm
            replace F43 := F43.chg hc35 (djz (D47).symm (D201).symm)
            replace F44 := F44.chg hc35 (dj1 (Dj.of L0 (low1 G4)).symm)
            replace F45 := F45.chg hc35 (dj1 (Dj.of L0 (low1 G7)).symm)
            replace F48 := F48.chg hc35 (Dj.of L0 G9).symm
            replace F49 := F49.chg hc35 (Dj.of L0 G10).symm
            replace F50 := F50.chg hc35 (Dj.of L0 G11).symm
            replace F58 := F58.chg hc35 (D179).symm
            replace F60 := F60.chg hc35 (djz (D212).symm (D201).symm)
            replace hB := hB.inS hc35 (inMem (fun x hx => (List.mem_append_left _ hx)))
            replace hZ := Nat.le_trans hZ hc35.size
            replace F62 : Cl w39 b0 53 [.slice A25 (l13 ++ (([(x10, x11, x12, x13, x14)] : List (Int × Int × Int × Int × Int)))).length cap25, .slice A26 (l14 ++ (([([x5, x9] : List (Int))] : List (List (Int))))).length cap26, .slice A18 (l15).length cap18, .int .i64 (x8)] := F62
            clear F61
            refine wS_end (by rfl) ?_
            have hq : (some ((l13 ++ (([(x10, x11, x12, x13, x14)] : List (Int × Int × Int × Int × Int))), l14 ++ (([([x5, x9] : List (Int))] : List (List (Int)))))) : Option ((List (Int × Int × Int × Int × Int)) × (List (List (Int))))) = some _ := hm
            replace hq := someE hq
            subst hq
            exact eX_J (fun hst => ⟨l13 ++ (([(x10, x11, x12, x13, x14)] : List (Int × Int × Int × Int × Int))), A25, cap25, fp23, l14 ++ (([([x5, x9] : List (Int))] : List (List (Int)))), A26, cap26, fp24, (fz6 ++ [b10]), rfl, Fr.of hst (by kernel_rfl), F36, F62, F38, F39, F40, F43, F49, F58, F60, hap15, hap17, hap16, (D210).symm, D179, D180, D181, D182, D184, D188, (D222).symm, D211, D212, D213, D214, D215, D216, D220, D201, D202, D204, D208, hB, hZ⟩)
           ·skip
            refine wS_row1 (k := 1) (enc := encI) (l := ([x5, x9] : List (Int))) (d := 109) (t := 26) (T := 32) (B := (some ⟨b10, 0, none⟩)) (c := 2) (by kernel_rfl) el26 F57 ?_
            intro b12 w40 G16 F63 hc36
            have D223 : Dj fz6 ([b12] ++ [b10]) := Dj.app (Dj.of F36.low (low1 G16)) D168
            have D224 : Dj [b1] ([b12] ++ [b10]) := Dj.app (Dj.of (lt1 F39.lt) (low1 G16)) D169
            have D225 : Dj fp14 ([b12] ++ [b10]) := Dj.app (Dj.of F41.low (low1 G16)) D170
            have D226 : Dj fp15 ([b12] ++ [b10]) := Dj.app (Dj.of (memL F42.low) (low1 G16)) D171
            have D227 : Dj fp16 ([b12] ++ [b10]) := Dj.app (Dj.of (memL F43.low) (low1 G16)) D172
            have D228 : Dj [b2] ([b12] ++ [b10]) := Dj.app (Dj.of (lt1 F44.lt) (low1 G16)) D173
            have D229 : Dj [b3] ([b12] ++ [b10]) := Dj.app (Dj.of (lt1 F45.lt) (low1 G16)) D174
            have D230 : Dj [b6] ([b12] ++ [b10]) := Dj.app (Dj.of F48.low (low1 G16)) D175
            have D231 : Dj fp18 ([b12] ++ [b10]) := Dj.app (Dj.of F49.low (low1 G16)) D176
            have D232 : Dj [b7] ([b12] ++ [b10]) := Dj.app (Dj.of F50.low (low1 G16)) D177
            replace F36 := F36.chg hc36 Dj.nil
            replace F37 := F37.chg hc36 notNil
            replace F38 := F38.chg hc36 Dj.nil
            replace F39 := F39.chg hc36 notNil
            replace F40 := F40.chg hc36 Dj.nil
            replace F41 := F41.chg hc36 Dj.nil
            replace F42 := F42.chg hc36 Dj.nil
            replace F43 := F43.chg hc36 Dj.nil
            replace F44 := F44.chg hc36 notNil
            replace F45 := F45.chg hc36 notNil
            replace F48 := F48.chg hc36 Dj.nil
            replace F49 := F49.chg hc36 Dj.nil
            replace F50 := F50.chg hc36 Dj.nil
            replace F57 := F57.chg hc36 Dj.nil
            replace hB := hB.inS hc36 inNil
            have hSz := hS
            replace hS := hS.inS hc36 inNil
            replace G16 := Nat.le_trans hZ G16
            replace G16 := lowApp (low1 G16) G14
            replace hZ := Nat.le_trans hZ hc36.size
            replace F57 := (F57.sl encI_ok)
            refine wS_end (by kernel_rfl) ?_
            refine eX_KH hS ?_
            refine wH_all [8] (by rfl) (by kernel_rfl) (by simp) ⟨⟨by kernel_rfl, ?_⟩, trivial⟩
            obtain ⟨_, hk8, hm⟩ := bindE hm
            replace hk8 := apE hk8
            refine wS_append (enc := encIIIII) (l := (l13 : List (Int × Int × Int × Int × Int))) (l2 := (([(x10, x11, x12, x13, x14)] : List (Int × Int × Int × Int × Int)) : List (Int × Int × Int × Int × Int))) (d := 101) (t := 51) (T := 58) (A := A16) (A2 := (some ⟨b7, 0, none⟩)) (cap := cap16) (cap2 := 1) (by kernel_rfl) el51 encIIIII_ok F41 (F50.sl encIIIII_ok) (by rfl) hk8 ?_
            intro w41 fp25 A27 cap27 F64 hc37 hp6
            have hap18 := Rt.of hp6 hZ hap7
            have D233 : Dj fz6 fp25 := Dj.ap (D78).symm F36.low hp6
            have D234 : Dj [b0] fp25 := Dj.ap D34 (lt1 F37.lt) hp6
            have D235 : Dj fp1 fp25 := Dj.ap D35 F38.low hp6
            have D236 : Dj [b1] fp25 := Dj.ap D36 (lt1 F39.lt) hp6
            have D237 : Dj fp1 fp25 := Dj.ap D37 F40.low hp6
            have D238 : Dj fp15 fp25 := Dj.ap D38 (memL F42.low) hp6
            have D239 : Dj fp16 fp25 := Dj.ap D39 (memL F43.low) hp6
            have D240 : Dj [b2] fp25 := Dj.ap (D55).symm (lt1 F44.lt) hp6
            have D241 : Dj [b3] fp25 := Dj.ap (D72).symm (lt1 F45.lt) hp6
            have D242 : Dj [b6] fp25 := Dj.ap (D91).symm F48.low hp6
            have D243 : Dj fp18 fp25 := Dj.ap (D99).symm F49.low hp6
            have D244 : Dj [b7] fp25 := Dj.ap (D107).symm F50.low hp6
            have D245 : Dj [b10] fp25 := Dj.ap (D170).symm F57.low hp6
            have D246 : Dj ([b12] ++ [b10]) fp25 := Dj.ap (D225).symm F63.low hp6
            replace F36 := F36.chg hc37 (D78).symm
            replace F37 := F37.chg hc37 (dj1 D34)
            replace F38 := F38.chg hc37 D35
            replace F39 := F39.chg hc37 (dj1 D36)
            replace F40 := F40.chg hc37 D37
            replace F42 := F42.chg hc37 (djz D38 (D78).symm)
            replace F43 := F43.chg hc37 (djz D39 (D78).symm)
            replace F44 := F44.chg hc37 (dj1 (D55).symm)
            replace F45 := F45.chg hc37 (dj1 (D72).symm)
            replace F48 := F48.chg hc37 (D91).symm
            replace F49 := F49.chg hc37 (D99).symm
            replace F50 := F50.chg hc37 (D107).symm
            replace F57 := F57.chg hc37 (D170).symm
            replace F63 := F63.chg hc37 (D225).symm
            replace hB := hB.inS hc37 (inRt hap7 (fun x hx => (List.mem_append_right _ (List.mem_append_left _ hx))))
            have hSz := hS
            replace hS := hS.trans hc37
            have Sn3 := sin_ap (Sg := fp14) (inMem (fun x hx => hx)) hSz.size hp6
            replace hZ := Nat.le_trans hZ hc37.size
            refine wS_end (by kernel_rfl) ?_
            refine eX_KH hS ?_
            refine wH_done (by kernel_rfl) ?_
            refine eX_tail ?_
            obtain ⟨_, hk9, hm⟩ := bindE hm
            replace hk9 := apE hk9
            refine wS_appendR (k := 1) (enc := encI) (ll := (l14 : List (List (Int)))) (ll2 := (([([x5, x9] : List (Int))] : List (List (Int))) : List (List (Int)))) (d := 110) (t := 26) (T := 32) (A := A17) (A2 := (some ⟨b12, 0, none⟩)) (cap := cap17) (cap2 := 1) (by kernel_rfl) el26 F42 F63 (by rfl) (djz D226 D223) hk9 ?_
            intro w42 fp26 A28 cap28 F65 hc38 hp7
            have hl3 := memR F63.low
            have D247 : Dj [b0] (fz6 ++ [b10]) := Dj.app D76 (Dj.inr (Dj.of L0 G16))
            have D248 : Dj [b1] (fz6 ++ [b10]) := Dj.app D77 (Dj.inr D224)
            have D249 : Dj fp15 (fz6 ++ [b10]) := Dj.app D79 (Dj.inr D226)
            have D250 : Dj fp16 (fz6 ++ [b10]) := Dj.app D80 (Dj.inr D227)
            replace F43 := F43.zmore (Dj.inr D227) hl3
            have D251 : Dj [b2] (fz6 ++ [b10]) := Dj.app D81 (Dj.inr D228)
            have D252 : Dj [b3] (fz6 ++ [b10]) := Dj.app (D70).symm (Dj.inr D229)
            have D253 : Dj [b6] (fz6 ++ [b10]) := Dj.app (D89).symm (Dj.inr D230)
            have D254 : Dj fp18 (fz6 ++ [b10]) := Dj.app (D97).symm (Dj.inr D231)
            have D255 : Dj [b7] (fz6 ++ [b10]) := Dj.app (D105).symm (Dj.inr D232)
            have D256 : Dj fp25 (fz6 ++ [b10]) := Dj.app (D233).symm (Dj.inr (D246).symm)
            replace F36 := F36.app hl3
            have hap19 := Rt.app hap11 (Rt.low (memR G16))
            have hap20 := Rt.of hp7 hZ hap8
            have D257 : Dj (fz6 ++ [b10]) fp26 := Dj.ap (D249).symm F36.low hp7
            have D258 : Dj [b0] fp26 := Dj.ap D41 (lt1 F37.lt) hp7
            have D259 : Dj fp1 fp26 := Dj.ap D42 F38.low hp7
            have D260 : Dj [b1] fp26 := Dj.ap D43 (lt1 F39.lt) hp7
            have D261 : Dj fp1 fp26 := Dj.ap D44 F40.low hp7
            have D262 : Dj fp16 fp26 := Dj.ap D45 (memL F43.low) hp7
            have D263 : Dj [b2] fp26 := Dj.ap (D56).symm (lt1 F44.lt) hp7
            have D264 : Dj [b3] fp26 := Dj.ap (D73).symm (lt1 F45.lt) hp7
            have D265 : Dj [b6] fp26 := Dj.ap (D92).symm F48.low hp7
            have D266 : Dj fp18 fp26 := Dj.ap (D100).symm F49.low hp7
            have D267 : Dj [b7] fp26 := Dj.ap (D108).symm F50.low hp7
            have D268 : Dj fp25 fp26 := Dj.ap (D238).symm F64.low hp7
            replace F36 := F36.chg hc38 (D249).symm
            replace F37 := F37.chg hc38 (dj1 D41)
            replace F38 := F38.chg hc38 D42
            replace F39 := F39.chg hc38 (dj1 D43)
            replace F40 := F40.chg hc38 D44
            replace F43 := F43.chg hc38 (djz D45 (D249).symm)
            replace F44 := F44.chg hc38 (dj1 (D56).symm)
            replace F45 := F45.chg hc38 (dj1 (D73).symm)
            replace F48 := F48.chg hc38 (D92).symm
            replace F49 := F49.chg hc38 (D100).symm
            replace F50 := F50.chg hc38 (D108).symm
            replace F64 := F64.chg hc38 (D238).symm
            replace hB := hB.inS hc38 (inRt hap8 (fun x hx => (List.mem_append_right _ (List.mem_append_right _ (List.mem_append_left _ hx)))))
            replace hZ := Nat.le_trans hZ hc38.size
            refine wS_pure 2 [(112, .pointer (some ⟨b0, 0, none⟩)), (111, .pointer (some ⟨b0, 0, none⟩))] (by kernel_rfl) ?_
            refine wS_store (T := 51) (g := b0) (o := 0) (ad := ⟨b0, 0, none⟩) (v := .slice A27 (l13 ++ (([(x10, x11, x12, x13, x14)] : List (Int × Int × Int × Int × Int)))).length cap27) (vs := [.slice A27 (l13 ++ (([(x10, x11, x12, x13, x14)] : List (Int × Int × Int × Int × Int)))).length cap27]) (by kernel_rfl) (by rfl) sz51 (by rfl) (by rfl) F37 (by simp only [List.length_cons, List.length_nil]; omega) ?_
            intro w43 F66 hc39
            replace F36 := F36.chg hc39 (D247).symm
            replace F38 := F38.chg hc39 (J0__1).symm
            replace F39 := F39.chg hc39 (dj1 (Dj.of L0 (low1 G3)).symm)
            replace F40 := F40.chg hc39 (J0__1).symm
            replace F43 := F43.chg hc39 (djz (D47).symm (D247).symm)
            replace F44 := F44.chg hc39 (dj1 (Dj.of L0 (low1 G4)).symm)
            replace F45 := F45.chg hc39 (dj1 (Dj.of L0 (low1 G7)).symm)
            replace F48 := F48.chg hc39 (Dj.of L0 G9).symm
            replace F49 := F49.chg hc39 (Dj.of L0 G10).symm
            replace F50 := F50.chg hc39 (Dj.of L0 G11).symm
            replace F64 := F64.chg hc39 (D234).symm
            replace F65 := F65.chg hc39 (djz (D258).symm (D247).symm)
            replace hB := hB.inS hc39 (inMem (fun x hx => (List.mem_append_left _ hx)))
            replace hZ := Nat.le_trans hZ hc39.size
            replace F66 : Cl w43 b0 53 [.slice A27 (l13 ++ (([(x10, x11, x12, x13, x14)] : List (Int × Int × Int × Int × Int)))).length cap27, .slice A17 (l14).length cap17, .slice A18 (l15).length cap18, .int .i64 (x8)] := F66
            clear F37
            refine wS_pure 2 [(114, .pointer (some ⟨b0, 1, none⟩)), (113, .pointer (some ⟨b0, 0, none⟩))] (by kernel_rfl) ?_
            refine wS_store (T := 26) (g := b0) (o := 1) (ad := ⟨b0, 1, none⟩) (v := .slice A28 (l14 ++ (([([x5, x9] : List (Int))] : List (List (Int))))).length cap28) (vs := [.slice A28 (l14 ++ (([([x5, x9] : List (Int))] : List (List (Int))))).length cap28]) (by kernel_rfl) (by rfl) sz26 (by rfl) (by rfl) F66 (by simp only [List.length_cons, List.length_nil]; omega) ?_
            intro w44 F67 hc40
            replace F36 := F36.chg hc40 (D247).symm
            replace F38 := F38.chg hc40 (J0__1).symm
            replace F39 := F39.chg hc40 (dj1 (Dj.of L0 (low1 G3)).symm)
            replace F40 := F40.chg hc40 (J0__1).symm
            replace F43 := F43.chg hc40 (djz (D47).symm (D247).symm)
            replace F44 := F44.chg hc40 (dj1 (Dj.of L0 (low1 G4)).symm)
            replace F45 := F45.chg hc40 (dj1 (Dj.of L0 (low1 G7)).symm)
            replace F48 := F48.chg hc40 (Dj.of L0 G9).symm
            replace F49 := F49.chg hc40 (Dj.of L0 G10).symm
            replace F50 := F50.chg hc40 (Dj.of L0 G11).symm
            replace F64 := F64.chg hc40 (D234).symm
            replace F65 := F65.chg hc40 (djz (D258).symm (D247).symm)
            replace hB := hB.inS hc40 (inMem (fun x hx => (List.mem_append_left _ hx)))
            replace hZ := Nat.le_trans hZ hc40.size
            replace F67 : Cl w44 b0 53 [.slice A27 (l13 ++ (([(x10, x11, x12, x13, x14)] : List (Int × Int × Int × Int × Int)))).length cap27, .slice A28 (l14 ++ (([([x5, x9] : List (Int))] : List (List (Int))))).length cap28, .slice A18 (l15).length cap18, .int .i64 (x8)] := F67
            clear F66
            refine wS_end (by rfl) ?_
            have hq : (some ((l13 ++ (([(x10, x11, x12, x13, x14)] : List (Int × Int × Int × Int × Int))), l14 ++ (([([x5, x9] : List (Int))] : List (List (Int)))))) : Option ((List (Int × Int × Int × Int × Int)) × (List (List (Int))))) = some _ := hm
            replace hq := someE hq
            subst hq
            exact eX_J (fun hst => ⟨l13 ++ (([(x10, x11, x12, x13, x14)] : List (Int × Int × Int × Int × Int))), A27, cap27, fp25, l14 ++ (([([x5, x9] : List (Int))] : List (List (Int)))), A28, cap28, fp26, (fz6 ++ [b10]), rfl, Fr.of hst (by kernel_rfl), F36, F67, F38, F39, F40, F43, F49, F64, F65, hap18, hap20, hap19, (D256).symm, D234, D235, D236, D237, D239, D243, (D268).symm, D257, D258, D259, D260, D261, D262, D266, D247, D248, D250, D254, hB, hZ⟩)
         ·skip
          refine wS_bs (enc := encI) ([x5, x9] : List (Int)) [.int .i64 (x5), .int .i64 (x9)] (d := 108) (t := 32) (T := 2) (n := 2) (ps := [(0, .int .i64 (x5)), (1, .int .i64 (x9))]) (by kernel_rfl) el32 encI_ok (by rfl) (by omega) (by omega) (by kernel_rfl) (by rfl) ?_
          intro b13 w45 G17 F68 hc41
          have D269 : Dj fz6 [b13] := Dj.of F36.low (low1 G17)
          have D270 : Dj [b1] [b13] := Dj.of (lt1 F39.lt) (low1 G17)
          have D271 : Dj fp14 [b13] := Dj.of F41.low (low1 G17)
          have D272 : Dj fp15 [b13] := Dj.of (memL F42.low) (low1 G17)
          have D273 : Dj fp16 [b13] := Dj.of (memL F43.low) (low1 G17)
          have D274 : Dj [b2] [b13] := Dj.of (lt1 F44.lt) (low1 G17)
          have D275 : Dj [b3] [b13] := Dj.of (lt1 F45.lt) (low1 G17)
          have D276 : Dj [b6] [b13] := Dj.of F48.low (low1 G17)
          have D277 : Dj fp18 [b13] := Dj.of F49.low (low1 G17)
          replace F36 := F36.chg hc41 Dj.nil
          replace F37 := F37.chg hc41 notNil
          replace F38 := F38.chg hc41 Dj.nil
          replace F39 := F39.chg hc41 notNil
          replace F40 := F40.chg hc41 Dj.nil
          replace F41 := F41.chg hc41 Dj.nil
          replace F42 := F42.chg hc41 Dj.nil
          replace F43 := F43.chg hc41 Dj.nil
          replace F44 := F44.chg hc41 notNil
          replace F45 := F45.chg hc41 notNil
          replace F48 := F48.chg hc41 Dj.nil
          replace F49 := F49.chg hc41 Dj.nil
          replace hB := hB.inS hc41 inNil
          have hSz := hS
          replace hS := hS.inS hc41 inNil
          have Gz6 := low1 (Nat.le_trans hSz.size G17)
          replace G17 := Nat.le_trans hZ G17
          replace G17 := low1 G17
          replace hZ := Nat.le_trans hZ hc41.size
          refine wS_end (by kernel_rfl) ?_
          refine eX_KH hS ?_
          refine wH_all [7, 16] (by rfl) (by kernel_rfl) (by simp) ⟨⟨by kernel_rfl, ?_⟩, ⟨by kernel_rfl, ?_⟩, trivial⟩
          ·skip
           refine wS_bs (enc := encIIIII) ([(x10, x11, x12, x13, x14)] : List (Int × Int × Int × Int × Int)) [.int .i64 (x10), .int .i64 (x11), .int .i64 (x12), .int .i64 (x13), .int .i64 (x14)] (d := 100) (t := 51) (T := 58) (n := 1) (ps := [(0, .agg #[.int .i64 (x10), .int .i64 (x11), .int .i64 (x12), .int .i64 (x13), .int .i64 (x14)])]) (by kernel_rfl) el51 encIIIII_ok (by rfl) (by omega) (by omega) (by kernel_rfl) (by rfl) ?_
           intro b14 w46 G18 F69 hc42
           have D278 : Dj fz6 [b14] := Dj.of F36.low (low1 G18)
           have D279 : Dj [b1] [b14] := Dj.of (lt1 F39.lt) (low1 G18)
           have D280 : Dj fp14 [b14] := Dj.of F41.low (low1 G18)
           have D281 : Dj fp15 [b14] := Dj.of (memL F42.low) (low1 G18)
           have D282 : Dj fp16 [b14] := Dj.of (memL F43.low) (low1 G18)
           have D283 : Dj [b2] [b14] := Dj.of (lt1 F44.lt) (low1 G18)
           have D284 : Dj [b3] [b14] := Dj.of (lt1 F45.lt) (low1 G18)
           have D285 : Dj [b6] [b14] := Dj.of F48.low (low1 G18)
           have D286 : Dj fp18 [b14] := Dj.of F49.low (low1 G18)
           have D287 : Dj [b13] [b14] := Dj.of F68.low (low1 G18)
           replace F36 := F36.chg hc42 Dj.nil
           replace F37 := F37.chg hc42 notNil
           replace F38 := F38.chg hc42 Dj.nil
           replace F39 := F39.chg hc42 notNil
           replace F40 := F40.chg hc42 Dj.nil
           replace F41 := F41.chg hc42 Dj.nil
           replace F42 := F42.chg hc42 Dj.nil
           replace F43 := F43.chg hc42 Dj.nil
           replace F44 := F44.chg hc42 notNil
           replace F45 := F45.chg hc42 notNil
           replace F48 := F48.chg hc42 Dj.nil
           replace F49 := F49.chg hc42 Dj.nil
           replace F68 := F68.chg hc42 Dj.nil
           replace hB := hB.inS hc42 inNil
           have hSz := hS
           replace hS := hS.inS hc42 inNil
           have Gz7 := low1 (Nat.le_trans hSz.size G18)
           replace G18 := Nat.le_trans hZ G18
           replace G18 := low1 G18
           replace hZ := Nat.le_trans hZ hc42.size
           refine wS_end (by kernel_rfl) ?_
           refine eX_KH hS ?_
           refine wH_all [8, 16] (by rfl) (by kernel_rfl) (by simp) ⟨⟨by kernel_rfl, ?_⟩, ⟨by kernel_rfl, ?_⟩, trivial⟩
           ·skip
            obtain ⟨_, hk10, hm⟩ := bindE hm
            replace hk10 := apE hk10
            refine wS_append (enc := encIIIII) (l := (l13 : List (Int × Int × Int × Int × Int))) (l2 := (([(x10, x11, x12, x13, x14)] : List (Int × Int × Int × Int × Int)) : List (Int × Int × Int × Int × Int))) (d := 101) (t := 51) (T := 58) (A := A16) (A2 := (some ⟨b14, 0, none⟩)) (cap := cap16) (cap2 := 1) (by kernel_rfl) el51 encIIIII_ok F41 (F69.sl encIIIII_ok) (by rfl) hk10 ?_
            intro w47 fp27 A29 cap29 F70 hc43 hp8
            have hap21 := Rt.of hp8 hZ hap7
            have D288 : Dj fz6 fp27 := Dj.ap (D78).symm F36.low hp8
            have D289 : Dj [b0] fp27 := Dj.ap D34 (lt1 F37.lt) hp8
            have D290 : Dj fp1 fp27 := Dj.ap D35 F38.low hp8
            have D291 : Dj [b1] fp27 := Dj.ap D36 (lt1 F39.lt) hp8
            have D292 : Dj fp1 fp27 := Dj.ap D37 F40.low hp8
            have D293 : Dj fp15 fp27 := Dj.ap D38 (memL F42.low) hp8
            have D294 : Dj fp16 fp27 := Dj.ap D39 (memL F43.low) hp8
            have D295 : Dj [b2] fp27 := Dj.ap (D55).symm (lt1 F44.lt) hp8
            have D296 : Dj [b3] fp27 := Dj.ap (D72).symm (lt1 F45.lt) hp8
            have D297 : Dj [b6] fp27 := Dj.ap (D91).symm F48.low hp8
            have D298 : Dj fp18 fp27 := Dj.ap (D99).symm F49.low hp8
            have D299 : Dj [b13] fp27 := Dj.ap (D271).symm F68.low hp8
            have D300 : Dj [b14] fp27 := Dj.ap (D280).symm F69.low hp8
            replace F36 := F36.chg hc43 (D78).symm
            replace F37 := F37.chg hc43 (dj1 D34)
            replace F38 := F38.chg hc43 D35
            replace F39 := F39.chg hc43 (dj1 D36)
            replace F40 := F40.chg hc43 D37
            replace F42 := F42.chg hc43 (djz D38 (D78).symm)
            replace F43 := F43.chg hc43 (djz D39 (D78).symm)
            replace F44 := F44.chg hc43 (dj1 (D55).symm)
            replace F45 := F45.chg hc43 (dj1 (D72).symm)
            replace F48 := F48.chg hc43 (D91).symm
            replace F49 := F49.chg hc43 (D99).symm
            replace F68 := F68.chg hc43 (D271).symm
            replace F69 := F69.chg hc43 (D280).symm
            replace hB := hB.inS hc43 (inRt hap7 (fun x hx => (List.mem_append_right _ (List.mem_append_left _ hx))))
            have hSz := hS
            replace hS := hS.trans hc43
            have Sn4 := sin_ap (Sg := fp14) (inMem (fun x hx => hx)) hSz.size hp8
            replace hZ := Nat.le_trans hZ hc43.size
            refine wS_end (by kernel_rfl) ?_
            refine eX_KH hS ?_
            refine wH_all [16] (by rfl) (by kernel_rfl) (by simp) ⟨⟨by kernel_rfl, ?_⟩, trivial⟩
            refine wS_row1 (k := 1) (enc := encI) (l := ([x5, x9] : List (Int))) (d := 109) (t := 26) (T := 32) (B := (some ⟨b13, 0, none⟩)) (c := 2) (by kernel_rfl) el26 F68 ?_
            intro b15 w48 G19 F71 hc44
            have D301 : Dj fz6 ([b15] ++ [b13]) := Dj.app (Dj.of F36.low (low1 G19)) D269
            have D302 : Dj [b1] ([b15] ++ [b13]) := Dj.app (Dj.of (lt1 F39.lt) (low1 G19)) D270
            have D303 : Dj fp15 ([b15] ++ [b13]) := Dj.app (Dj.of (memL F42.low) (low1 G19)) D272
            have D304 : Dj fp16 ([b15] ++ [b13]) := Dj.app (Dj.of (memL F43.low) (low1 G19)) D273
            have D305 : Dj [b2] ([b15] ++ [b13]) := Dj.app (Dj.of (lt1 F44.lt) (low1 G19)) D274
            have D306 : Dj [b3] ([b15] ++ [b13]) := Dj.app (Dj.of (lt1 F45.lt) (low1 G19)) D275
            have D307 : Dj [b6] ([b15] ++ [b13]) := Dj.app (Dj.of F48.low (low1 G19)) D276
            have D308 : Dj fp18 ([b15] ++ [b13]) := Dj.app (Dj.of F49.low (low1 G19)) D277
            have D309 : Dj [b14] ([b15] ++ [b13]) := Dj.app (Dj.of F69.low (low1 G19)) (D287).symm
            have D310 : Dj fp27 ([b15] ++ [b13]) := Dj.app (Dj.of F70.low (low1 G19)) (D299).symm
            replace F36 := F36.chg hc44 Dj.nil
            replace F37 := F37.chg hc44 notNil
            replace F38 := F38.chg hc44 Dj.nil
            replace F39 := F39.chg hc44 notNil
            replace F40 := F40.chg hc44 Dj.nil
            replace F42 := F42.chg hc44 Dj.nil
            replace F43 := F43.chg hc44 Dj.nil
            replace F44 := F44.chg hc44 notNil
            replace F45 := F45.chg hc44 notNil
            replace F48 := F48.chg hc44 Dj.nil
            replace F49 := F49.chg hc44 Dj.nil
            replace F68 := F68.chg hc44 Dj.nil
            replace F69 := F69.chg hc44 Dj.nil
            replace F70 := F70.chg hc44 Dj.nil
            replace hB := hB.inS hc44 inNil
            have hSz := hS
            replace hS := hS.inS hc44 inNil
            replace G19 := Nat.le_trans hZ G19
            replace G19 := lowApp (low1 G19) G17
            replace hZ := Nat.le_trans hZ hc44.size
            replace F68 := (F68.sl encI_ok)
            refine wS_end (by kernel_rfl) ?_
            refine eX_KH hS ?_
            refine wH_done (by kernel_rfl) ?_
            refine eX_tail ?_
            obtain ⟨_, hk11, hm⟩ := bindE hm
            replace hk11 := apE hk11
            refine wS_appendR (k := 1) (enc := encI) (ll := (l14 : List (List (Int)))) (ll2 := (([([x5, x9] : List (Int))] : List (List (Int))) : List (List (Int)))) (d := 110) (t := 26) (T := 32) (A := A17) (A2 := (some ⟨b15, 0, none⟩)) (cap := cap17) (cap2 := 1) (by kernel_rfl) el26 F42 F71 (by rfl) (djz D303 D301) hk11 ?_
            intro w49 fp28 A30 cap30 F72 hc45 hp9
            have hl4 := memR F71.low
            have D311 : Dj [b0] (fz6 ++ [b13]) := Dj.app D76 (Dj.inr (Dj.of L0 G19))
            have D312 : Dj [b1] (fz6 ++ [b13]) := Dj.app D77 (Dj.inr D302)
            have D313 : Dj fp15 (fz6 ++ [b13]) := Dj.app D79 (Dj.inr D303)
            have D314 : Dj fp16 (fz6 ++ [b13]) := Dj.app D80 (Dj.inr D304)
            replace F43 := F43.zmore (Dj.inr D304) hl4
            have D315 : Dj [b2] (fz6 ++ [b13]) := Dj.app D81 (Dj.inr D305)
            have D316 : Dj [b3] (fz6 ++ [b13]) := Dj.app (D70).symm (Dj.inr D306)
            have D317 : Dj [b6] (fz6 ++ [b13]) := Dj.app (D89).symm (Dj.inr D307)
            have D318 : Dj fp18 (fz6 ++ [b13]) := Dj.app (D97).symm (Dj.inr D308)
            have D319 : Dj [b14] (fz6 ++ [b13]) := Dj.app (D278).symm (Dj.inr D309)
            have D320 : Dj fp27 (fz6 ++ [b13]) := Dj.app (D288).symm (Dj.inr D310)
            replace F36 := F36.app hl4
            have hap22 := Rt.app hap11 (Rt.low (memR G19))
            have hap23 := Rt.of hp9 hZ hap8
            have D321 : Dj (fz6 ++ [b13]) fp28 := Dj.ap (D313).symm F36.low hp9
            have D322 : Dj [b0] fp28 := Dj.ap D41 (lt1 F37.lt) hp9
            have D323 : Dj fp1 fp28 := Dj.ap D42 F38.low hp9
            have D324 : Dj [b1] fp28 := Dj.ap D43 (lt1 F39.lt) hp9
            have D325 : Dj fp1 fp28 := Dj.ap D44 F40.low hp9
            have D326 : Dj fp16 fp28 := Dj.ap D45 (memL F43.low) hp9
            have D327 : Dj [b2] fp28 := Dj.ap (D56).symm (lt1 F44.lt) hp9
            have D328 : Dj [b3] fp28 := Dj.ap (D73).symm (lt1 F45.lt) hp9
            have D329 : Dj [b6] fp28 := Dj.ap (D92).symm F48.low hp9
            have D330 : Dj fp18 fp28 := Dj.ap (D100).symm F49.low hp9
            have D331 : Dj [b14] fp28 := Dj.ap (D281).symm F69.low hp9
            have D332 : Dj fp27 fp28 := Dj.ap (D293).symm F70.low hp9
            replace F36 := F36.chg hc45 (D313).symm
            replace F37 := F37.chg hc45 (dj1 D41)
            replace F38 := F38.chg hc45 D42
            replace F39 := F39.chg hc45 (dj1 D43)
            replace F40 := F40.chg hc45 D44
            replace F43 := F43.chg hc45 (djz D45 (D313).symm)
            replace F44 := F44.chg hc45 (dj1 (D56).symm)
            replace F45 := F45.chg hc45 (dj1 (D73).symm)
            replace F48 := F48.chg hc45 (D92).symm
            replace F49 := F49.chg hc45 (D100).symm
            replace F69 := F69.chg hc45 (D281).symm
            replace F70 := F70.chg hc45 (D293).symm
            replace hB := hB.inS hc45 (inRt hap8 (fun x hx => (List.mem_append_right _ (List.mem_append_right _ (List.mem_append_left _ hx)))))
            replace hZ := Nat.le_trans hZ hc45.size
            refine wS_pure 2 [(112, .pointer (some ⟨b0, 0, none⟩)), (111, .pointer (some ⟨b0, 0, none⟩))] (by kernel_rfl) ?_
            refine wS_store (T := 51) (g := b0) (o := 0) (ad := ⟨b0, 0, none⟩) (v := .slice A29 (l13 ++ (([(x10, x11, x12, x13, x14)] : List (Int × Int × Int × Int × Int)))).length cap29) (vs := [.slice A29 (l13 ++ (([(x10, x11, x12, x13, x14)] : List (Int × Int × Int × Int × Int)))).length cap29]) (by kernel_rfl) (by rfl) sz51 (by rfl) (by rfl) F37 (by simp only [List.length_cons, List.length_nil]; omega) ?_
            intro w50 F73 hc46
            replace F36 := F36.chg hc46 (D311).symm
            replace F38 := F38.chg hc46 (J0__1).symm
            replace F39 := F39.chg hc46 (dj1 (Dj.of L0 (low1 G3)).symm)
            replace F40 := F40.chg hc46 (J0__1).symm
            replace F43 := F43.chg hc46 (djz (D47).symm (D311).symm)
            replace F44 := F44.chg hc46 (dj1 (Dj.of L0 (low1 G4)).symm)
            replace F45 := F45.chg hc46 (dj1 (Dj.of L0 (low1 G7)).symm)
            replace F48 := F48.chg hc46 (Dj.of L0 G9).symm
            replace F49 := F49.chg hc46 (Dj.of L0 G10).symm
            replace F69 := F69.chg hc46 (Dj.of L0 G18).symm
            replace F70 := F70.chg hc46 (D289).symm
            replace F72 := F72.chg hc46 (djz (D322).symm (D311).symm)
            replace hB := hB.inS hc46 (inMem (fun x hx => (List.mem_append_left _ hx)))
            replace hZ := Nat.le_trans hZ hc46.size
            replace F73 : Cl w50 b0 53 [.slice A29 (l13 ++ (([(x10, x11, x12, x13, x14)] : List (Int × Int × Int × Int × Int)))).length cap29, .slice A17 (l14).length cap17, .slice A18 (l15).length cap18, .int .i64 (x8)] := F73
            clear F37
            refine wS_pure 2 [(114, .pointer (some ⟨b0, 1, none⟩)), (113, .pointer (some ⟨b0, 0, none⟩))] (by kernel_rfl) ?_
            refine wS_store (T := 26) (g := b0) (o := 1) (ad := ⟨b0, 1, none⟩) (v := .slice A30 (l14 ++ (([([x5, x9] : List (Int))] : List (List (Int))))).length cap30) (vs := [.slice A30 (l14 ++ (([([x5, x9] : List (Int))] : List (List (Int))))).length cap30]) (by kernel_rfl) (by rfl) sz26 (by rfl) (by rfl) F73 (by simp only [List.length_cons, List.length_nil]; omega) ?_
            intro w51 F74 hc47
            replace F36 := F36.chg hc47 (D311).symm
            replace F38 := F38.chg hc47 (J0__1).symm
            replace F39 := F39.chg hc47 (dj1 (Dj.of L0 (low1 G3)).symm)
            replace F40 := F40.chg hc47 (J0__1).symm
            replace F43 := F43.chg hc47 (djz (D47).symm (D311).symm)
            replace F44 := F44.chg hc47 (dj1 (Dj.of L0 (low1 G4)).symm)
            replace F45 := F45.chg hc47 (dj1 (Dj.of L0 (low1 G7)).symm)
            replace F48 := F48.chg hc47 (Dj.of L0 G9).symm
            replace F49 := F49.chg hc47 (Dj.of L0 G10).symm
            replace F69 := F69.chg hc47 (Dj.of L0 G18).symm
            replace F70 := F70.chg hc47 (D289).symm
            replace F72 := F72.chg hc47 (djz (D322).symm (D311).symm)
            replace hB := hB.inS hc47 (inMem (fun x hx => (List.mem_append_left _ hx)))
            replace hZ := Nat.le_trans hZ hc47.size
            replace F74 : Cl w51 b0 53 [.slice A29 (l13 ++ (([(x10, x11, x12, x13, x14)] : List (Int × Int × Int × Int × Int)))).length cap29, .slice A30 (l14 ++ (([([x5, x9] : List (Int))] : List (List (Int))))).length cap30, .slice A18 (l15).length cap18, .int .i64 (x8)] := F74
            clear F73
            refine wS_end (by rfl) ?_
            have hq : (some ((l13 ++ (([(x10, x11, x12, x13, x14)] : List (Int × Int × Int × Int × Int))), l14 ++ (([([x5, x9] : List (Int))] : List (List (Int)))))) : Option ((List (Int × Int × Int × Int × Int)) × (List (List (Int))))) = some _ := hm
            replace hq := someE hq
            subst hq
            exact eX_J (fun hst => ⟨l13 ++ (([(x10, x11, x12, x13, x14)] : List (Int × Int × Int × Int × Int))), A29, cap29, fp27, l14 ++ (([([x5, x9] : List (Int))] : List (List (Int)))), A30, cap30, fp28, (fz6 ++ [b13]), rfl, Fr.of hst (by kernel_rfl), F36, F74, F38, F39, F40, F43, F49, F70, F72, hap21, hap23, hap22, (D320).symm, D289, D290, D291, D292, D294, D298, (D332).symm, D321, D322, D323, D324, D325, D326, D330, D311, D312, D314, D318, hB, hZ⟩)
           ·skip
            refine wS_row1 (k := 1) (enc := encI) (l := ([x5, x9] : List (Int))) (d := 109) (t := 26) (T := 32) (B := (some ⟨b13, 0, none⟩)) (c := 2) (by kernel_rfl) el26 F68 ?_
            intro b16 w52 G20 F75 hc48
            have D333 : Dj fz6 ([b16] ++ [b13]) := Dj.app (Dj.of F36.low (low1 G20)) D269
            have D334 : Dj [b1] ([b16] ++ [b13]) := Dj.app (Dj.of (lt1 F39.lt) (low1 G20)) D270
            have D335 : Dj fp14 ([b16] ++ [b13]) := Dj.app (Dj.of F41.low (low1 G20)) D271
            have D336 : Dj fp15 ([b16] ++ [b13]) := Dj.app (Dj.of (memL F42.low) (low1 G20)) D272
            have D337 : Dj fp16 ([b16] ++ [b13]) := Dj.app (Dj.of (memL F43.low) (low1 G20)) D273
            have D338 : Dj [b2] ([b16] ++ [b13]) := Dj.app (Dj.of (lt1 F44.lt) (low1 G20)) D274
            have D339 : Dj [b3] ([b16] ++ [b13]) := Dj.app (Dj.of (lt1 F45.lt) (low1 G20)) D275
            have D340 : Dj [b6] ([b16] ++ [b13]) := Dj.app (Dj.of F48.low (low1 G20)) D276
            have D341 : Dj fp18 ([b16] ++ [b13]) := Dj.app (Dj.of F49.low (low1 G20)) D277
            have D342 : Dj [b14] ([b16] ++ [b13]) := Dj.app (Dj.of F69.low (low1 G20)) (D287).symm
            replace F36 := F36.chg hc48 Dj.nil
            replace F37 := F37.chg hc48 notNil
            replace F38 := F38.chg hc48 Dj.nil
            replace F39 := F39.chg hc48 notNil
            replace F40 := F40.chg hc48 Dj.nil
            replace F41 := F41.chg hc48 Dj.nil
            replace F42 := F42.chg hc48 Dj.nil
            replace F43 := F43.chg hc48 Dj.nil
            replace F44 := F44.chg hc48 notNil
            replace F45 := F45.chg hc48 notNil
            replace F48 := F48.chg hc48 Dj.nil
            replace F49 := F49.chg hc48 Dj.nil
            replace F68 := F68.chg hc48 Dj.nil
            replace F69 := F69.chg hc48 Dj.nil
            replace hB := hB.inS hc48 inNil
            have hSz := hS
            replace hS := hS.inS hc48 inNil
            replace G20 := Nat.le_trans hZ G20
            replace G20 := lowApp (low1 G20) G17
            replace hZ := Nat.le_trans hZ hc48.size
            replace F68 := (F68.sl encI_ok)
            refine wS_end (by kernel_rfl) ?_
            refine eX_KH hS ?_
            refine wH_all [8] (by rfl) (by kernel_rfl) (by simp) ⟨⟨by kernel_rfl, ?_⟩, trivial⟩
            obtain ⟨_, hk12, hm⟩ := bindE hm
            replace hk12 := apE hk12
            refine wS_append (enc := encIIIII) (l := (l13 : List (Int × Int × Int × Int × Int))) (l2 := (([(x10, x11, x12, x13, x14)] : List (Int × Int × Int × Int × Int)) : List (Int × Int × Int × Int × Int))) (d := 101) (t := 51) (T := 58) (A := A16) (A2 := (some ⟨b14, 0, none⟩)) (cap := cap16) (cap2 := 1) (by kernel_rfl) el51 encIIIII_ok F41 (F69.sl encIIIII_ok) (by rfl) hk12 ?_
            intro w53 fp29 A31 cap31 F76 hc49 hp10
            have hap24 := Rt.of hp10 hZ hap7
            have D343 : Dj fz6 fp29 := Dj.ap (D78).symm F36.low hp10
            have D344 : Dj [b0] fp29 := Dj.ap D34 (lt1 F37.lt) hp10
            have D345 : Dj fp1 fp29 := Dj.ap D35 F38.low hp10
            have D346 : Dj [b1] fp29 := Dj.ap D36 (lt1 F39.lt) hp10
            have D347 : Dj fp1 fp29 := Dj.ap D37 F40.low hp10
            have D348 : Dj fp15 fp29 := Dj.ap D38 (memL F42.low) hp10
            have D349 : Dj fp16 fp29 := Dj.ap D39 (memL F43.low) hp10
            have D350 : Dj [b2] fp29 := Dj.ap (D55).symm (lt1 F44.lt) hp10
            have D351 : Dj [b3] fp29 := Dj.ap (D72).symm (lt1 F45.lt) hp10
            have D352 : Dj [b6] fp29 := Dj.ap (D91).symm F48.low hp10
            have D353 : Dj fp18 fp29 := Dj.ap (D99).symm F49.low hp10
            have D354 : Dj [b13] fp29 := Dj.ap (D271).symm F68.low hp10
            have D355 : Dj [b14] fp29 := Dj.ap (D280).symm F69.low hp10
            have D356 : Dj ([b16] ++ [b13]) fp29 := Dj.ap (D335).symm F75.low hp10
            replace F36 := F36.chg hc49 (D78).symm
            replace F37 := F37.chg hc49 (dj1 D34)
            replace F38 := F38.chg hc49 D35
            replace F39 := F39.chg hc49 (dj1 D36)
            replace F40 := F40.chg hc49 D37
            replace F42 := F42.chg hc49 (djz D38 (D78).symm)
            replace F43 := F43.chg hc49 (djz D39 (D78).symm)
            replace F44 := F44.chg hc49 (dj1 (D55).symm)
            replace F45 := F45.chg hc49 (dj1 (D72).symm)
            replace F48 := F48.chg hc49 (D91).symm
            replace F49 := F49.chg hc49 (D99).symm
            replace F68 := F68.chg hc49 (D271).symm
            replace F69 := F69.chg hc49 (D280).symm
            replace F75 := F75.chg hc49 (D335).symm
            replace hB := hB.inS hc49 (inRt hap7 (fun x hx => (List.mem_append_right _ (List.mem_append_left _ hx))))
            have hSz := hS
            replace hS := hS.trans hc49
            have Sn5 := sin_ap (Sg := fp14) (inMem (fun x hx => hx)) hSz.size hp10
            replace hZ := Nat.le_trans hZ hc49.size
            refine wS_end (by kernel_rfl) ?_
            refine eX_KH hS ?_
            refine wH_done (by kernel_rfl) ?_
            refine eX_tail ?_
            obtain ⟨_, hk13, hm⟩ := bindE hm
            replace hk13 := apE hk13
            refine wS_appendR (k := 1) (enc := encI) (ll := (l14 : List (List (Int)))) (ll2 := (([([x5, x9] : List (Int))] : List (List (Int))) : List (List (Int)))) (d := 110) (t := 26) (T := 32) (A := A17) (A2 := (some ⟨b16, 0, none⟩)) (cap := cap17) (cap2 := 1) (by kernel_rfl) el26 F42 F75 (by rfl) (djz D336 D333) hk13 ?_
            intro w54 fp30 A32 cap32 F77 hc50 hp11
            have hl5 := memR F75.low
            have D357 : Dj [b0] (fz6 ++ [b13]) := Dj.app D76 (Dj.inr (Dj.of L0 G20))
            have D358 : Dj [b1] (fz6 ++ [b13]) := Dj.app D77 (Dj.inr D334)
            have D359 : Dj fp15 (fz6 ++ [b13]) := Dj.app D79 (Dj.inr D336)
            have D360 : Dj fp16 (fz6 ++ [b13]) := Dj.app D80 (Dj.inr D337)
            replace F43 := F43.zmore (Dj.inr D337) hl5
            have D361 : Dj [b2] (fz6 ++ [b13]) := Dj.app D81 (Dj.inr D338)
            have D362 : Dj [b3] (fz6 ++ [b13]) := Dj.app (D70).symm (Dj.inr D339)
            have D363 : Dj [b6] (fz6 ++ [b13]) := Dj.app (D89).symm (Dj.inr D340)
            have D364 : Dj fp18 (fz6 ++ [b13]) := Dj.app (D97).symm (Dj.inr D341)
            have D365 : Dj [b14] (fz6 ++ [b13]) := Dj.app (D278).symm (Dj.inr D342)
            have D366 : Dj fp29 (fz6 ++ [b13]) := Dj.app (D343).symm (Dj.inr (D356).symm)
            replace F36 := F36.app hl5
            have hap25 := Rt.app hap11 (Rt.low (memR G20))
            have hap26 := Rt.of hp11 hZ hap8
            have D367 : Dj (fz6 ++ [b13]) fp30 := Dj.ap (D359).symm F36.low hp11
            have D368 : Dj [b0] fp30 := Dj.ap D41 (lt1 F37.lt) hp11
            have D369 : Dj fp1 fp30 := Dj.ap D42 F38.low hp11
            have D370 : Dj [b1] fp30 := Dj.ap D43 (lt1 F39.lt) hp11
            have D371 : Dj fp1 fp30 := Dj.ap D44 F40.low hp11
            have D372 : Dj fp16 fp30 := Dj.ap D45 (memL F43.low) hp11
            have D373 : Dj [b2] fp30 := Dj.ap (D56).symm (lt1 F44.lt) hp11
            have D374 : Dj [b3] fp30 := Dj.ap (D73).symm (lt1 F45.lt) hp11
            have D375 : Dj [b6] fp30 := Dj.ap (D92).symm F48.low hp11
            have D376 : Dj fp18 fp30 := Dj.ap (D100).symm F49.low hp11
            have D377 : Dj [b14] fp30 := Dj.ap (D281).symm F69.low hp11
            have D378 : Dj fp29 fp30 := Dj.ap (D348).symm F76.low hp11
            replace F36 := F36.chg hc50 (D359).symm
            replace F37 := F37.chg hc50 (dj1 D41)
            replace F38 := F38.chg hc50 D42
            replace F39 := F39.chg hc50 (dj1 D43)
            replace F40 := F40.chg hc50 D44
            replace F43 := F43.chg hc50 (djz D45 (D359).symm)
            replace F44 := F44.chg hc50 (dj1 (D56).symm)
            replace F45 := F45.chg hc50 (dj1 (D73).symm)
            replace F48 := F48.chg hc50 (D92).symm
            replace F49 := F49.chg hc50 (D100).symm
            replace F69 := F69.chg hc50 (D281).symm
            replace F76 := F76.chg hc50 (D348).symm
            replace hB := hB.inS hc50 (inRt hap8 (fun x hx => (List.mem_append_right _ (List.mem_append_right _ (List.mem_append_left _ hx)))))
            replace hZ := Nat.le_trans hZ hc50.size
            refine wS_pure 2 [(112, .pointer (some ⟨b0, 0, none⟩)), (111, .pointer (some ⟨b0, 0, none⟩))] (by kernel_rfl) ?_
            refine wS_store (T := 51) (g := b0) (o := 0) (ad := ⟨b0, 0, none⟩) (v := .slice A31 (l13 ++ (([(x10, x11, x12, x13, x14)] : List (Int × Int × Int × Int × Int)))).length cap31) (vs := [.slice A31 (l13 ++ (([(x10, x11, x12, x13, x14)] : List (Int × Int × Int × Int × Int)))).length cap31]) (by kernel_rfl) (by rfl) sz51 (by rfl) (by rfl) F37 (by simp only [List.length_cons, List.length_nil]; omega) ?_
            intro w55 F78 hc51
            replace F36 := F36.chg hc51 (D357).symm
            replace F38 := F38.chg hc51 (J0__1).symm
            replace F39 := F39.chg hc51 (dj1 (Dj.of L0 (low1 G3)).symm)
            replace F40 := F40.chg hc51 (J0__1).symm
            replace F43 := F43.chg hc51 (djz (D47).symm (D357).symm)
            replace F44 := F44.chg hc51 (dj1 (Dj.of L0 (low1 G4)).symm)
            replace F45 := F45.chg hc51 (dj1 (Dj.of L0 (low1 G7)).symm)
            replace F48 := F48.chg hc51 (Dj.of L0 G9).symm
            replace F49 := F49.chg hc51 (Dj.of L0 G10).symm
            replace F69 := F69.chg hc51 (Dj.of L0 G18).symm
            replace F76 := F76.chg hc51 (D344).symm
            replace F77 := F77.chg hc51 (djz (D368).symm (D357).symm)
            replace hB := hB.inS hc51 (inMem (fun x hx => (List.mem_append_left _ hx)))
            replace hZ := Nat.le_trans hZ hc51.size
            replace F78 : Cl w55 b0 53 [.slice A31 (l13 ++ (([(x10, x11, x12, x13, x14)] : List (Int × Int × Int × Int × Int)))).length cap31, .slice A17 (l14).length cap17, .slice A18 (l15).length cap18, .int .i64 (x8)] := F78
            clear F37
            refine wS_pure 2 [(114, .pointer (some ⟨b0, 1, none⟩)), (113, .pointer (some ⟨b0, 0, none⟩))] (by kernel_rfl) ?_
            refine wS_store (T := 26) (g := b0) (o := 1) (ad := ⟨b0, 1, none⟩) (v := .slice A32 (l14 ++ (([([x5, x9] : List (Int))] : List (List (Int))))).length cap32) (vs := [.slice A32 (l14 ++ (([([x5, x9] : List (Int))] : List (List (Int))))).length cap32]) (by kernel_rfl) (by rfl) sz26 (by rfl) (by rfl) F78 (by simp only [List.length_cons, List.length_nil]; omega) ?_
            intro w56 F79 hc52
            replace F36 := F36.chg hc52 (D357).symm
            replace F38 := F38.chg hc52 (J0__1).symm
            replace F39 := F39.chg hc52 (dj1 (Dj.of L0 (low1 G3)).symm)
            replace F40 := F40.chg hc52 (J0__1).symm
            replace F43 := F43.chg hc52 (djz (D47).symm (D357).symm)
            replace F44 := F44.chg hc52 (dj1 (Dj.of L0 (low1 G4)).symm)
            replace F45 := F45.chg hc52 (dj1 (Dj.of L0 (low1 G7)).symm)
            replace F48 := F48.chg hc52 (Dj.of L0 G9).symm
            replace F49 := F49.chg hc52 (Dj.of L0 G10).symm
            replace F69 := F69.chg hc52 (Dj.of L0 G18).symm
            replace F76 := F76.chg hc52 (D344).symm
            replace F77 := F77.chg hc52 (djz (D368).symm (D357).symm)
            replace hB := hB.inS hc52 (inMem (fun x hx => (List.mem_append_left _ hx)))
            replace hZ := Nat.le_trans hZ hc52.size
            replace F79 : Cl w56 b0 53 [.slice A31 (l13 ++ (([(x10, x11, x12, x13, x14)] : List (Int × Int × Int × Int × Int)))).length cap31, .slice A32 (l14 ++ (([([x5, x9] : List (Int))] : List (List (Int))))).length cap32, .slice A18 (l15).length cap18, .int .i64 (x8)] := F79
            clear F78
            refine wS_end (by rfl) ?_
            have hq : (some ((l13 ++ (([(x10, x11, x12, x13, x14)] : List (Int × Int × Int × Int × Int))), l14 ++ (([([x5, x9] : List (Int))] : List (List (Int)))))) : Option ((List (Int × Int × Int × Int × Int)) × (List (List (Int))))) = some _ := hm
            replace hq := someE hq
            subst hq
            exact eX_J (fun hst => ⟨l13 ++ (([(x10, x11, x12, x13, x14)] : List (Int × Int × Int × Int × Int))), A31, cap31, fp29, l14 ++ (([([x5, x9] : List (Int))] : List (List (Int)))), A32, cap32, fp30, (fz6 ++ [b13]), rfl, Fr.of hst (by kernel_rfl), F36, F79, F38, F39, F40, F43, F49, F76, F77, hap24, hap26, hap25, (D366).symm, D344, D345, D346, D347, D349, D353, (D378).symm, D367, D368, D369, D370, D371, D372, D376, D357, D358, D360, D364, hB, hZ⟩)
          ·skip
           refine wS_row1 (k := 1) (enc := encI) (l := ([x5, x9] : List (Int))) (d := 109) (t := 26) (T := 32) (B := (some ⟨b13, 0, none⟩)) (c := 2) (by kernel_rfl) el26 F68 ?_
           intro b17 w57 G21 F80 hc53
           have D379 : Dj fz6 ([b17] ++ [b13]) := Dj.app (Dj.of F36.low (low1 G21)) D269
           have D380 : Dj [b1] ([b17] ++ [b13]) := Dj.app (Dj.of (lt1 F39.lt) (low1 G21)) D270
           have D381 : Dj fp14 ([b17] ++ [b13]) := Dj.app (Dj.of F41.low (low1 G21)) D271
           have D382 : Dj fp15 ([b17] ++ [b13]) := Dj.app (Dj.of (memL F42.low) (low1 G21)) D272
           have D383 : Dj fp16 ([b17] ++ [b13]) := Dj.app (Dj.of (memL F43.low) (low1 G21)) D273
           have D384 : Dj [b2] ([b17] ++ [b13]) := Dj.app (Dj.of (lt1 F44.lt) (low1 G21)) D274
           have D385 : Dj [b3] ([b17] ++ [b13]) := Dj.app (Dj.of (lt1 F45.lt) (low1 G21)) D275
           have D386 : Dj [b6] ([b17] ++ [b13]) := Dj.app (Dj.of F48.low (low1 G21)) D276
           have D387 : Dj fp18 ([b17] ++ [b13]) := Dj.app (Dj.of F49.low (low1 G21)) D277
           replace F36 := F36.chg hc53 Dj.nil
           replace F37 := F37.chg hc53 notNil
           replace F38 := F38.chg hc53 Dj.nil
           replace F39 := F39.chg hc53 notNil
           replace F40 := F40.chg hc53 Dj.nil
           replace F41 := F41.chg hc53 Dj.nil
           replace F42 := F42.chg hc53 Dj.nil
           replace F43 := F43.chg hc53 Dj.nil
           replace F44 := F44.chg hc53 notNil
           replace F45 := F45.chg hc53 notNil
           replace F48 := F48.chg hc53 Dj.nil
           replace F49 := F49.chg hc53 Dj.nil
           replace F68 := F68.chg hc53 Dj.nil
           replace hB := hB.inS hc53 inNil
           have hSz := hS
           replace hS := hS.inS hc53 inNil
           replace G21 := Nat.le_trans hZ G21
           replace G21 := lowApp (low1 G21) G17
           replace hZ := Nat.le_trans hZ hc53.size
           replace F68 := (F68.sl encI_ok)
           refine wS_end (by kernel_rfl) ?_
           refine eX_KH hS ?_
           refine wH_all [7] (by rfl) (by kernel_rfl) (by simp) ⟨⟨by kernel_rfl, ?_⟩, trivial⟩
           refine wS_bs (enc := encIIIII) ([(x10, x11, x12, x13, x14)] : List (Int × Int × Int × Int × Int)) [.int .i64 (x10), .int .i64 (x11), .int .i64 (x12), .int .i64 (x13), .int .i64 (x14)] (d := 100) (t := 51) (T := 58) (n := 1) (ps := [(0, .agg #[.int .i64 (x10), .int .i64 (x11), .int .i64 (x12), .int .i64 (x13), .int .i64 (x14)])]) (by kernel_rfl) el51 encIIIII_ok (by rfl) (by omega) (by omega) (by kernel_rfl) (by rfl) ?_
           intro b18 w58 G22 F81 hc54
           have D388 : Dj fz6 [b18] := Dj.of F36.low (low1 G22)
           have D389 : Dj [b1] [b18] := Dj.of (lt1 F39.lt) (low1 G22)
           have D390 : Dj fp14 [b18] := Dj.of F41.low (low1 G22)
           have D391 : Dj fp15 [b18] := Dj.of (memL F42.low) (low1 G22)
           have D392 : Dj fp16 [b18] := Dj.of (memL F43.low) (low1 G22)
           have D393 : Dj [b2] [b18] := Dj.of (lt1 F44.lt) (low1 G22)
           have D394 : Dj [b3] [b18] := Dj.of (lt1 F45.lt) (low1 G22)
           have D395 : Dj [b6] [b18] := Dj.of F48.low (low1 G22)
           have D396 : Dj fp18 [b18] := Dj.of F49.low (low1 G22)
           have D397 : Dj [b13] [b18] := Dj.of F68.low (low1 G22)
           have D398 : Dj ([b17] ++ [b13]) [b18] := Dj.of F80.low (low1 G22)
           replace F36 := F36.chg hc54 Dj.nil
           replace F37 := F37.chg hc54 notNil
           replace F38 := F38.chg hc54 Dj.nil
           replace F39 := F39.chg hc54 notNil
           replace F40 := F40.chg hc54 Dj.nil
           replace F41 := F41.chg hc54 Dj.nil
           replace F42 := F42.chg hc54 Dj.nil
           replace F43 := F43.chg hc54 Dj.nil
           replace F44 := F44.chg hc54 notNil
           replace F45 := F45.chg hc54 notNil
           replace F48 := F48.chg hc54 Dj.nil
           replace F49 := F49.chg hc54 Dj.nil
           replace F68 := F68.chg hc54 Dj.nil
           replace F80 := F80.chg hc54 Dj.nil
           replace hB := hB.inS hc54 inNil
           have hSz := hS
           replace hS := hS.inS hc54 inNil
           have Gz8 := low1 (Nat.le_trans hSz.size G22)
           replace G22 := Nat.le_trans hZ G22
           replace G22 := low1 G22
           replace hZ := Nat.le_trans hZ hc54.size
           refine wS_end (by kernel_rfl) ?_
           refine eX_KH hS ?_
           refine wH_all [8] (by rfl) (by kernel_rfl) (by simp) ⟨⟨by kernel_rfl, ?_⟩, trivial⟩
           obtain ⟨_, hk14, hm⟩ := bindE hm
           replace hk14 := apE hk14
           refine wS_append (enc := encIIIII) (l := (l13 : List (Int × Int × Int × Int × Int))) (l2 := (([(x10, x11, x12, x13, x14)] : List (Int × Int × Int × Int × Int)) : List (Int × Int × Int × Int × Int))) (d := 101) (t := 51) (T := 58) (A := A16) (A2 := (some ⟨b18, 0, none⟩)) (cap := cap16) (cap2 := 1) (by kernel_rfl) el51 encIIIII_ok F41 (F81.sl encIIIII_ok) (by rfl) hk14 ?_
           intro w59 fp31 A33 cap33 F82 hc55 hp12
           have hap27 := Rt.of hp12 hZ hap7
           have D399 : Dj fz6 fp31 := Dj.ap (D78).symm F36.low hp12
           have D400 : Dj [b0] fp31 := Dj.ap D34 (lt1 F37.lt) hp12
           have D401 : Dj fp1 fp31 := Dj.ap D35 F38.low hp12
           have D402 : Dj [b1] fp31 := Dj.ap D36 (lt1 F39.lt) hp12
           have D403 : Dj fp1 fp31 := Dj.ap D37 F40.low hp12
           have D404 : Dj fp15 fp31 := Dj.ap D38 (memL F42.low) hp12
           have D405 : Dj fp16 fp31 := Dj.ap D39 (memL F43.low) hp12
           have D406 : Dj [b2] fp31 := Dj.ap (D55).symm (lt1 F44.lt) hp12
           have D407 : Dj [b3] fp31 := Dj.ap (D72).symm (lt1 F45.lt) hp12
           have D408 : Dj [b6] fp31 := Dj.ap (D91).symm F48.low hp12
           have D409 : Dj fp18 fp31 := Dj.ap (D99).symm F49.low hp12
           have D410 : Dj [b13] fp31 := Dj.ap (D271).symm F68.low hp12
           have D411 : Dj ([b17] ++ [b13]) fp31 := Dj.ap (D381).symm F80.low hp12
           have D412 : Dj [b18] fp31 := Dj.ap (D390).symm F81.low hp12
           replace F36 := F36.chg hc55 (D78).symm
           replace F37 := F37.chg hc55 (dj1 D34)
           replace F38 := F38.chg hc55 D35
           replace F39 := F39.chg hc55 (dj1 D36)
           replace F40 := F40.chg hc55 D37
           replace F42 := F42.chg hc55 (djz D38 (D78).symm)
           replace F43 := F43.chg hc55 (djz D39 (D78).symm)
           replace F44 := F44.chg hc55 (dj1 (D55).symm)
           replace F45 := F45.chg hc55 (dj1 (D72).symm)
           replace F48 := F48.chg hc55 (D91).symm
           replace F49 := F49.chg hc55 (D99).symm
           replace F68 := F68.chg hc55 (D271).symm
           replace F80 := F80.chg hc55 (D381).symm
           replace F81 := F81.chg hc55 (D390).symm
           replace hB := hB.inS hc55 (inRt hap7 (fun x hx => (List.mem_append_right _ (List.mem_append_left _ hx))))
           have hSz := hS
           replace hS := hS.trans hc55
           have Sn6 := sin_ap (Sg := fp14) (inMem (fun x hx => hx)) hSz.size hp12
           replace hZ := Nat.le_trans hZ hc55.size
           refine wS_end (by kernel_rfl) ?_
           refine eX_KH hS ?_
           refine wH_done (by kernel_rfl) ?_
           refine eX_tail ?_
           obtain ⟨_, hk15, hm⟩ := bindE hm
           replace hk15 := apE hk15
           refine wS_appendR (k := 1) (enc := encI) (ll := (l14 : List (List (Int)))) (ll2 := (([([x5, x9] : List (Int))] : List (List (Int))) : List (List (Int)))) (d := 110) (t := 26) (T := 32) (A := A17) (A2 := (some ⟨b17, 0, none⟩)) (cap := cap17) (cap2 := 1) (by kernel_rfl) el26 F42 F80 (by rfl) (djz D382 D379) hk15 ?_
           intro w60 fp32 A34 cap34 F83 hc56 hp13
           have hl6 := memR F80.low
           have D413 : Dj [b0] (fz6 ++ [b13]) := Dj.app D76 (Dj.inr (Dj.of L0 G21))
           have D414 : Dj [b1] (fz6 ++ [b13]) := Dj.app D77 (Dj.inr D380)
           have D415 : Dj fp15 (fz6 ++ [b13]) := Dj.app D79 (Dj.inr D382)
           have D416 : Dj fp16 (fz6 ++ [b13]) := Dj.app D80 (Dj.inr D383)
           replace F43 := F43.zmore (Dj.inr D383) hl6
           have D417 : Dj [b2] (fz6 ++ [b13]) := Dj.app D81 (Dj.inr D384)
           have D418 : Dj [b3] (fz6 ++ [b13]) := Dj.app (D70).symm (Dj.inr D385)
           have D419 : Dj [b6] (fz6 ++ [b13]) := Dj.app (D89).symm (Dj.inr D386)
           have D420 : Dj fp18 (fz6 ++ [b13]) := Dj.app (D97).symm (Dj.inr D387)
           have D421 : Dj [b18] (fz6 ++ [b13]) := Dj.app (D388).symm (Dj.inr (D398).symm)
           have D422 : Dj fp31 (fz6 ++ [b13]) := Dj.app (D399).symm (Dj.inr (D411).symm)
           replace F36 := F36.app hl6
           have hap28 := Rt.app hap11 (Rt.low (memR G21))
           have hap29 := Rt.of hp13 hZ hap8
           have D423 : Dj (fz6 ++ [b13]) fp32 := Dj.ap (D415).symm F36.low hp13
           have D424 : Dj [b0] fp32 := Dj.ap D41 (lt1 F37.lt) hp13
           have D425 : Dj fp1 fp32 := Dj.ap D42 F38.low hp13
           have D426 : Dj [b1] fp32 := Dj.ap D43 (lt1 F39.lt) hp13
           have D427 : Dj fp1 fp32 := Dj.ap D44 F40.low hp13
           have D428 : Dj fp16 fp32 := Dj.ap D45 (memL F43.low) hp13
           have D429 : Dj [b2] fp32 := Dj.ap (D56).symm (lt1 F44.lt) hp13
           have D430 : Dj [b3] fp32 := Dj.ap (D73).symm (lt1 F45.lt) hp13
           have D431 : Dj [b6] fp32 := Dj.ap (D92).symm F48.low hp13
           have D432 : Dj fp18 fp32 := Dj.ap (D100).symm F49.low hp13
           have D433 : Dj [b18] fp32 := Dj.ap (D391).symm F81.low hp13
           have D434 : Dj fp31 fp32 := Dj.ap (D404).symm F82.low hp13
           replace F36 := F36.chg hc56 (D415).symm
           replace F37 := F37.chg hc56 (dj1 D41)
           replace F38 := F38.chg hc56 D42
           replace F39 := F39.chg hc56 (dj1 D43)
           replace F40 := F40.chg hc56 D44
           replace F43 := F43.chg hc56 (djz D45 (D415).symm)
           replace F44 := F44.chg hc56 (dj1 (D56).symm)
           replace F45 := F45.chg hc56 (dj1 (D73).symm)
           replace F48 := F48.chg hc56 (D92).symm
           replace F49 := F49.chg hc56 (D100).symm
           replace F81 := F81.chg hc56 (D391).symm
           replace F82 := F82.chg hc56 (D404).symm
           replace hB := hB.inS hc56 (inRt hap8 (fun x hx => (List.mem_append_right _ (List.mem_append_right _ (List.mem_append_left _ hx)))))
           replace hZ := Nat.le_trans hZ hc56.size
           refine wS_pure 2 [(112, .pointer (some ⟨b0, 0, none⟩)), (111, .pointer (some ⟨b0, 0, none⟩))] (by kernel_rfl) ?_
           refine wS_store (T := 51) (g := b0) (o := 0) (ad := ⟨b0, 0, none⟩) (v := .slice A33 (l13 ++ (([(x10, x11, x12, x13, x14)] : List (Int × Int × Int × Int × Int)))).length cap33) (vs := [.slice A33 (l13 ++ (([(x10, x11, x12, x13, x14)] : List (Int × Int × Int × Int × Int)))).length cap33]) (by kernel_rfl) (by rfl) sz51 (by rfl) (by rfl) F37 (by simp only [List.length_cons, List.length_nil]; omega) ?_
           intro w61 F84 hc57
           replace F36 := F36.chg hc57 (D413).symm
           replace F38 := F38.chg hc57 (J0__1).symm
           replace F39 := F39.chg hc57 (dj1 (Dj.of L0 (low1 G3)).symm)
           replace F40 := F40.chg hc57 (J0__1).symm
           replace F43 := F43.chg hc57 (djz (D47).symm (D413).symm)
           replace F44 := F44.chg hc57 (dj1 (Dj.of L0 (low1 G4)).symm)
           replace F45 := F45.chg hc57 (dj1 (Dj.of L0 (low1 G7)).symm)
           replace F48 := F48.chg hc57 (Dj.of L0 G9).symm
           replace F49 := F49.chg hc57 (Dj.of L0 G10).symm
           replace F81 := F81.chg hc57 (Dj.of L0 G22).symm
           replace F82 := F82.chg hc57 (D400).symm
           replace F83 := F83.chg hc57 (djz (D424).symm (D413).symm)
           replace hB := hB.inS hc57 (inMem (fun x hx => (List.mem_append_left _ hx)))
           replace hZ := Nat.le_trans hZ hc57.size
           replace F84 : Cl w61 b0 53 [.slice A33 (l13 ++ (([(x10, x11, x12, x13, x14)] : List (Int × Int × Int × Int × Int)))).length cap33, .slice A17 (l14).length cap17, .slice A18 (l15).length cap18, .int .i64 (x8)] := F84
           clear F37
           refine wS_pure 2 [(114, .pointer (some ⟨b0, 1, none⟩)), (113, .pointer (some ⟨b0, 0, none⟩))] (by kernel_rfl) ?_
           refine wS_store (T := 26) (g := b0) (o := 1) (ad := ⟨b0, 1, none⟩) (v := .slice A34 (l14 ++ (([([x5, x9] : List (Int))] : List (List (Int))))).length cap34) (vs := [.slice A34 (l14 ++ (([([x5, x9] : List (Int))] : List (List (Int))))).length cap34]) (by kernel_rfl) (by rfl) sz26 (by rfl) (by rfl) F84 (by simp only [List.length_cons, List.length_nil]; omega) ?_
           intro w62 F85 hc58
           replace F36 := F36.chg hc58 (D413).symm
           replace F38 := F38.chg hc58 (J0__1).symm
           replace F39 := F39.chg hc58 (dj1 (Dj.of L0 (low1 G3)).symm)
           replace F40 := F40.chg hc58 (J0__1).symm
           replace F43 := F43.chg hc58 (djz (D47).symm (D413).symm)
           replace F44 := F44.chg hc58 (dj1 (Dj.of L0 (low1 G4)).symm)
           replace F45 := F45.chg hc58 (dj1 (Dj.of L0 (low1 G7)).symm)
           replace F48 := F48.chg hc58 (Dj.of L0 G9).symm
           replace F49 := F49.chg hc58 (Dj.of L0 G10).symm
           replace F81 := F81.chg hc58 (Dj.of L0 G22).symm
           replace F82 := F82.chg hc58 (D400).symm
           replace F83 := F83.chg hc58 (djz (D424).symm (D413).symm)
           replace hB := hB.inS hc58 (inMem (fun x hx => (List.mem_append_left _ hx)))
           replace hZ := Nat.le_trans hZ hc58.size
           replace F85 : Cl w62 b0 53 [.slice A33 (l13 ++ (([(x10, x11, x12, x13, x14)] : List (Int × Int × Int × Int × Int)))).length cap33, .slice A34 (l14 ++ (([([x5, x9] : List (Int))] : List (List (Int))))).length cap34, .slice A18 (l15).length cap18, .int .i64 (x8)] := F85
           clear F84
           refine wS_end (by rfl) ?_
           have hq : (some ((l13 ++ (([(x10, x11, x12, x13, x14)] : List (Int × Int × Int × Int × Int))), l14 ++ (([([x5, x9] : List (Int))] : List (List (Int)))))) : Option ((List (Int × Int × Int × Int × Int)) × (List (List (Int))))) = some _ := hm
           replace hq := someE hq
           subst hq
           exact eX_J (fun hst => ⟨l13 ++ (([(x10, x11, x12, x13, x14)] : List (Int × Int × Int × Int × Int))), A33, cap33, fp31, l14 ++ (([([x5, x9] : List (Int))] : List (List (Int)))), A34, cap34, fp32, (fz6 ++ [b13]), rfl, Fr.of hst (by kernel_rfl), F36, F85, F38, F39, F40, F43, F49, F82, F83, hap27, hap29, hap28, (D422).symm, D400, D401, D402, D403, D405, D409, (D434).symm, D423, D424, D425, D426, D427, D428, D432, D413, D414, D416, D420, hB, hZ⟩)
        ·rintro a' w63 ⟨l16, A21, cap21, fp19, l17, A22, cap22, fp20, fz7, hJ, hF5, F86, F87, F88, F89, F90, F91, F92, F93, F94, hap30, hap31, hap32, D435, D436, D437, D438, D439, D440, D441, D442, D443, D444, D445, D446, D447, D448, D449, D450, D451, D452, D453, hB, hZ⟩
         subst hJ
         refine Fr.goX hF5 (by kernel_rfl) ?_
         refine eX_then ?_
         refine cW_seq ?_
         refine cW_region ?_
         refine wS_pure 7 [(121, .int .i64 (wr ((wr (p2 + x15)) + x16))), (120, .int .i64 (x16)), (119, .int .i64 (wr (p2 + x15))), (118, .int .i64 (x15)), (117, .int .i64 (p2)), (116, .slice A20 (y5 ++ (([((l13).length : Int)] : List (Int)))).length cap20), (115, .pointer (some ⟨b0, 0, none⟩))] (by kernel_rfl) ?_
         obtain ⟨y6, hy6, hm⟩ := bindE hm
         refine wS_calls (d := 122) (f := 25) (vs := [.pointer (some ⟨b0, 0, none⟩), .slice A20 (y5 ++ (([((l13).length : Int)] : List (Int)))).length cap20, .int .i64 (wr ((wr (p2 + x15)) + x16))]) (by kernel_rfl) ent25 (hR hy6 F93 F94 F91 hz5 F87 (F92.sl encI_ok) F92.cap_le F86 D436 D444 D47 (Dj.of L0 G10) D450 (D442).symm (D440).symm (D441).symm (D435).symm (D448).symm (D449).symm (D443).symm D101 D452) ?_
         rintro _ w64 ⟨A35, cap35, fp33, A36, cap36, fp34, A37, cap37, fp35, fz8, rfl, D454, D455, D456, D457, D458, D459, F95, F96, hap33, F97, hap34, F98, hap35, hz6, FZ1, hap36, hc59⟩
         have hap37 := Rt.of hap36 hZ hap32
         have D460 : Dj [b0] fz8 := Dj.ap D450 (lt1 F87.lt) hap36
         have D461 : Dj [b1] fz8 := Dj.ap D451 (lt1 F89.lt) hap36
         have D462 : Dj fp18 fz8 := Dj.ap D453 F92.low hap36
         have hap38 := Rt.of hap33 hZ hap30
         have D463 : Dj [b0] fp33 := Dj.ap D436 (lt1 F87.lt) hap33
         have D464 : Dj fp1 fp33 := Dj.ap D437 F88.low hap33
         have D465 : Dj [b1] fp33 := Dj.ap D438 (lt1 F89.lt) hap33
         have D466 : Dj fp1 fp33 := Dj.ap D439 F90.low hap33
         have D467 : Dj fp18 fp33 := Dj.ap D441 F92.low hap33
         have hap39 := Rt.of hap34 hZ hap31
         have D468 : Dj [b0] fp34 := Dj.ap D444 (lt1 F87.lt) hap34
         have D469 : Dj fp1 fp34 := Dj.ap D445 F88.low hap34
         have D470 : Dj [b1] fp34 := Dj.ap D446 (lt1 F89.lt) hap34
         have D471 : Dj fp1 fp34 := Dj.ap D447 F90.low hap34
         have D472 : Dj fp18 fp34 := Dj.ap D449 F92.low hap34
         have hap40 := Rt.of hap35 hZ hap9
         have D473 : Dj [b0] fp35 := Dj.ap D47 (lt1 F87.lt) hap35
         have D474 : Dj fp1 fp35 := Dj.ap D48 F88.low hap35
         have D475 : Dj [b1] fp35 := Dj.ap D49 (lt1 F89.lt) hap35
         have D476 : Dj fp1 fp35 := Dj.ap D50 F90.low hap35
         have D477 : Dj fp18 fp35 := Dj.ap (D101).symm F92.low hap35
         replace F86 := F86.chg hc59 (Dj.app (D450).symm (Dj.app D435 (Dj.app D443 (Dj.app (D452).symm Dj.nil))))
         replace F88 := F88.chg hc59 (Dj.app (J0__1).symm (Dj.app D437 (Dj.app D445 (Dj.app D48 Dj.nil))))
         replace F89 := F89.chg hc59 (dj1 (Dj.app (Dj.of L0 (low1 G3)).symm (Dj.app D438 (Dj.app D446 (Dj.app D49 Dj.nil)))))
         replace F90 := F90.chg hc59 (Dj.app (J0__1).symm (Dj.app D439 (Dj.app D447 (Dj.app D50 Dj.nil))))
         replace F92 := F92.chg hc59 (Dj.app (Dj.of L0 G10).symm (Dj.app D441 (Dj.app D449 (Dj.app (D101).symm Dj.nil))))
         replace hB := hB.inS hc59 (inApp (inMem (fun x hx => (List.mem_append_left _ hx))) (inApp (inRt hap30 (fun x hx => (List.mem_append_right _ (List.mem_append_left _ hx)))) (inApp (inRt hap31 (fun x hx => (List.mem_append_right _ (List.mem_append_right _ (List.mem_append_left _ hx))))) (inApp (inRt hap9 (fun x hx => (List.mem_append_right _ (List.mem_append_right _ (List.mem_append_right _ (List.mem_append_left _ hx)))))) inNil))))
         replace hZ := Nat.le_trans hZ hc59.size
         clear F87
         refine ⟨.tuple #[], rfl, ?_⟩
         refine wS_end (by rfl) ?_
         refine eX_then ?_
         refine cW_drawnG 26 (by kernel_rfl) (fun w65 hc60 => ?_)
         replace FZ1 := FZ1.chg hc60 Dj.nil
         replace F95 := F95.chg hc60 notNil
         replace F88 := F88.chg hc60 Dj.nil
         replace F89 := F89.chg hc60 notNil
         replace F90 := F90.chg hc60 Dj.nil
         replace F92 := F92.chg hc60 Dj.nil
         replace F96 := F96.chg hc60 Dj.nil
         replace F97 := F97.chg hc60 Dj.nil
         replace F98 := F98.chg hc60 Dj.nil
         replace hB := hB.inS hc60 inNil
         replace hZ := Nat.le_trans hZ hc60.size
         have hS := Chg.refl [] w65
         have Z22 := FZ1
         have Z23 := F95
         have Z24 := F88
         have Z25 := F89
         have Z26 := F90
         have Z27 := F92
         have Z28 := F96
         have Z29 := F97
         have Z30 := F98
         refine wG_take [0, 1, 2, 3, 4] [4, 3, 2, 1, 0] [(127, .pointer (some ⟨b0, 0, none⟩)), (126, .pointer (some ⟨b0, 0, none⟩)), (125, .pointer (some ⟨b0, 0, none⟩)), (124, .pointer (some ⟨b0, 0, none⟩)), (123, .pointer (some ⟨b0, 0, none⟩))] (by kernel_rfl) (qB (qT (qL (qB (qT (qB (qT (qL (qB (qT qZ)))))))))) (by kernel_rfl) ?_
         refine wG_load1 (i := 5) (d := 128) (T := 51) (ad := ⟨b0, 0, none⟩) (v := .slice A35 (y6.2.1).length cap35) (by kernel_rfl) (qB (qT (qL (qB (qT (qB (qT (qL (qB (qT qZ)))))))))) (by kernel_rfl) (by kernel_rfl) (by kernel_rfl) vt51 (fun W hW => (Z23.chg hW notNil).cell 0) ?_
         refine wG_take [6, 7, 8] [8, 7, 6, 5, 4, 3, 2, 1, 0] [(131, .pointer (some ⟨b0, 0, none⟩)), (130, .pointer (some ⟨b0, 0, none⟩)), (129, .pointer (some ⟨b0, 0, none⟩))] (by kernel_rfl) (qB (qT (qL (qB (qT (qB (qT (qL (qB (qT qZ)))))))))) (by kernel_rfl) ?_
         refine wG_load1 (i := 9) (d := 132) (T := 51) (ad := ⟨b0, 0, none⟩) (v := .slice A35 (y6.2.1).length cap35) (by kernel_rfl) (qB (qT (qL (qB (qT (qB (qT (qL (qB (qT qZ)))))))))) (by kernel_rfl) (by kernel_rfl) (by kernel_rfl) vt51 (fun W hW => (Z23.chg hW notNil).cell 0) ?_
         refine wG_take [10, 11] [11, 10, 9, 8, 7, 6, 5, 4, 3, 2, 1, 0] [(134, .int .i64 (wr ((((y6.2.1).length : Int)) - 1))), (133, .int .i64 (((y6.2.1).length : Int)))] (by kernel_rfl) (qB (qT (qL (qB (qT (qB (qT (qL (qB (qT qZ)))))))))) (by kernel_rfl) ?_
         obtain ⟨y7, hy7, hm⟩ := bindE hm
         refine wG_prefix (k := 5) (enc := encIIIII) (l := y6.2.1) (i := 12) (d := 135) (T := 51) (A := A35) (cap := cap35) (hi := wr ((((y6.2.1).length : Int)) - 1)) (by kernel_rfl) (qB (qT (qL (qB (qT (qB (qT (qL (qB (qT qZ)))))))))) (by kernel_rfl) (by kernel_rfl) (by kernel_rfl) sl51 encIIIII_ok F96.cap_le hy7 ?_
         intro hpe hpf1
         subst hpe
         have F99 := hpf1 _ _ _ F96
         have Fz1 := hpf1 _ _ _ Z28
         refine wG_take [13, 14, 15] [15, 14, 13, 12, 11, 10, 9, 8, 7, 6, 5, 4, 3, 2, 1, 0] [(138, .pointer (some ⟨b0, 1, none⟩)), (137, .pointer (some ⟨b0, 0, none⟩)), (136, .pointer (some ⟨b0, 0, none⟩))] (by kernel_rfl) (qB (qT (qL (qB (qT (qB (qT (qL (qB (qT qZ)))))))))) (by kernel_rfl) ?_
         refine wG_load1 (i := 16) (d := 139) (T := 26) (ad := ⟨b0, 1, none⟩) (v := .slice A36 (y6.2.2.1).length cap36) (by kernel_rfl) (qB (qT (qL (qB (qT (qB (qT (qL (qB (qT qZ)))))))))) (by kernel_rfl) (by kernel_rfl) (by kernel_rfl) vt26 (fun W hW => (Z23.chg hW notNil).cell 1) ?_
         refine wG_take [17, 18, 19] [19, 18, 17, 16, 15, 14, 13, 12, 11, 10, 9, 8, 7, 6, 5, 4, 3, 2, 1, 0] [(142, .pointer (some ⟨b0, 1, none⟩)), (141, .pointer (some ⟨b0, 0, none⟩)), (140, .pointer (some ⟨b0, 0, none⟩))] (by kernel_rfl) (qB (qT (qL (qB (qT (qB (qT (qL (qB (qT qZ)))))))))) (by kernel_rfl) ?_
         refine wG_load1 (i := 20) (d := 143) (T := 26) (ad := ⟨b0, 1, none⟩) (v := .slice A36 (y6.2.2.1).length cap36) (by kernel_rfl) (qB (qT (qL (qB (qT (qB (qT (qL (qB (qT qZ)))))))))) (by kernel_rfl) (by kernel_rfl) (by kernel_rfl) vt26 (fun W hW => (Z23.chg hW notNil).cell 1) ?_
         refine wG_take [21, 22] [22, 21, 20, 19, 18, 17, 16, 15, 14, 13, 12, 11, 10, 9, 8, 7, 6, 5, 4, 3, 2, 1, 0] [(145, .int .i64 (wr ((((y6.2.2.1).length : Int)) - 1))), (144, .int .i64 (((y6.2.2.1).length : Int)))] (by kernel_rfl) (qB (qT (qL (qB (qT (qB (qT (qL (qB (qT qZ)))))))))) (by kernel_rfl) ?_
         obtain ⟨y8, hy8, hm⟩ := bindE hm
         refine wG_prefixR (k := 1) (enc := encI) (ll := y6.2.2.1) (i := 23) (d := 146) (T := 26) (A := A36) (cap := cap36) (hi := wr ((((y6.2.2.1).length : Int)) - 1)) (by kernel_rfl) (qB (qT (qL (qB (qT (qB (qT (qL (qB (qT qZ)))))))))) (by kernel_rfl) (by kernel_rfl) (by kernel_rfl) sl26 (F97.hr encI_ok).cap_le hy8 ?_
         intro hpe hpf2
         subst hpe
         have F100 := hpf2 _ _ _ _ _ F97
         have Fz2 := hpf2 _ _ _ _ _ Z29
         refine wG_take [24, 25] [25, 24, 23, 22, 21, 20, 19, 18, 17, 16, 15, 14, 13, 12, 11, 10, 9, 8, 7, 6, 5, 4, 3, 2, 1, 0] [(148, .pointer (some ⟨b0, 0, none⟩)), (147, .pointer (some ⟨b0, 0, none⟩))] (by kernel_rfl) (qB (qT (qL (qB (qT (qB (qT (qL (qB (qT qZ)))))))))) (by kernel_rfl) ?_
         refine wG_gate (by kernel_rfl) (by kernel_rfl) (by kernel_rfl) (by kernel_rfl) (fun _ => [b0]) ?_
         refine wS_store (T := 51) (g := b0) (o := 0) (ad := ⟨b0, 0, none⟩) (v := .slice A35 (y6.2.1.take (Int.toNat (wr ((((y6.2.1).length : Int)) - 1)))).length cap35) (vs := [.slice A35 (y6.2.1.take (Int.toNat (wr ((((y6.2.1).length : Int)) - 1)))).length cap35]) (by kernel_rfl) (by rfl) sz51 (by rfl) (by rfl) F95 (by simp only [List.length_cons, List.length_nil]; omega) ?_
         intro w66 F101 hc61
         replace FZ1 := FZ1.chg hc61 (D460).symm
         replace F88 := F88.chg hc61 (J0__1).symm
         replace F89 := F89.chg hc61 (dj1 (Dj.of L0 (low1 G3)).symm)
         replace F90 := F90.chg hc61 (J0__1).symm
         replace F92 := F92.chg hc61 (Dj.of L0 G10).symm
         replace F99 := F99.chg hc61 (D463).symm
         replace F100 := F100.chg hc61 (djz (D468).symm (D460).symm)
         replace F98 := F98.chg hc61 (djz (D473).symm (D460).symm)
         replace hB := hB.inS hc61 (inMem (fun x hx => (List.mem_append_left _ hx)))
         replace hZ := Nat.le_trans hZ hc61.size
         replace F101 : Cl w66 b0 53 [.slice A35 (y6.2.1.take (Int.toNat (wr ((((y6.2.1).length : Int)) - 1)))).length cap35, .slice A36 (y6.2.2.1).length cap36, .slice A37 (y6.2.2.2.1).length cap37, .int .i64 (y6.1)] := F101
         clear F95
         refine wS_end (by kernel_rfl) ?_
         refine eX_KG ?_
         have hS := Chg.refl [b0] w66
         have Z31 := FZ1
         have Z32 := F101
         have Z33 := F88
         have Z34 := F89
         have Z35 := F90
         have Z36 := F92
         have Z37 := F99
         have Z38 := F100
         have Z39 := F98
         refine wH_take [27, 28] [28, 27, 26, 25, 24, 23, 22, 21, 20, 19, 18, 17, 16, 15, 14, 13, 12, 11, 10, 9, 8, 7, 6, 5, 4, 3, 2, 1, 0] [(150, .pointer (some ⟨b0, 1, none⟩)), (149, .pointer (some ⟨b0, 0, none⟩))] (by kernel_rfl) (qB (qT (qL (qB (qT (qB (qT (qL (qB (qT qZ)))))))))) (by kernel_rfl) ?_
         refine wH_all [29] (by rfl) (by kernel_rfl) (by simp) ⟨⟨by kernel_rfl, ?_⟩, trivial⟩
         refine wS_store (T := 26) (g := b0) (o := 1) (ad := ⟨b0, 1, none⟩) (v := .slice A36 (y6.2.2.1.take (Int.toNat (wr ((((y6.2.2.1).length : Int)) - 1)))).length cap36) (vs := [.slice A36 (y6.2.2.1.take (Int.toNat (wr ((((y6.2.2.1).length : Int)) - 1)))).length cap36]) (by kernel_rfl) (by rfl) sz26 (by rfl) (by rfl) F101 (by simp only [List.length_cons, List.length_nil]; omega) ?_
         intro w67 F102 hc62
         replace FZ1 := FZ1.chg hc62 (D460).symm
         replace F88 := F88.chg hc62 (J0__1).symm
         replace F89 := F89.chg hc62 (dj1 (Dj.of L0 (low1 G3)).symm)
         replace F90 := F90.chg hc62 (J0__1).symm
         replace F92 := F92.chg hc62 (Dj.of L0 G10).symm
         replace F99 := F99.chg hc62 (D463).symm
         replace F100 := F100.chg hc62 (djz (D468).symm (D460).symm)
         replace F98 := F98.chg hc62 (djz (D473).symm (D460).symm)
         replace hB := hB.inS hc62 (inMem (fun x hx => (List.mem_append_left _ hx)))
         have hSz := hS
         replace hS := hS.trans hc62
         replace hZ := Nat.le_trans hZ hc62.size
         replace F102 : Cl w67 b0 53 [.slice A35 (y6.2.1.take (Int.toNat (wr ((((y6.2.1).length : Int)) - 1)))).length cap35, .slice A36 (y6.2.2.1.take (Int.toNat (wr ((((y6.2.2.1).length : Int)) - 1)))).length cap36, .slice A37 (y6.2.2.2.1).length cap37, .int .i64 (y6.1)] := F102
         clear F101
         refine wS_end (by kernel_rfl) ?_
         refine eX_KH hS ?_
         refine wH_done (by kernel_rfl) ?_
         refine eX_block ?_
         refine eX_then ?_
         refine cW_prune [(0, .pointer (some ⟨b0, 0, none⟩)), (1, .slice A1 (l1).length cap1), (2, .int .i64 (p2)), (7, .pointer (some ⟨b1, 0, none⟩)), (43, .slice A1 (l1).length cap1), (44, .int .i64 (((l1).length : Int))), (45, .int .i64 (x3)), (53, .slice A12 (y1).length cap12), (54, .int .i64 (((y1).length : Int))), (55, .int .i64 (x7))] (by kernel_rfl) (by kernel_rfl) (fun a2 => ?_)
         refine cW_region ?_
         refine wS_pure 2 [(55, .int .i64 (wr (x7 + 1))), (151, .int .i64 (wr (x7 + 1)))] (by kernel_rfl) ?_
         refine wS_end (by rfl) ?_
         have hq : (some (Ctl.next ((wr (x7 + 1), y6.2.1.take (Int.toNat (wr ((((y6.2.1).length : Int)) - 1))), y6.2.2.1.take (Int.toNat (wr ((((y6.2.2.1).length : Int)) - 1))), y6.2.2.2.1, y6.2.2.2.2, y6.1))) : Option (Ctl (Int × (List (Int × Int × Int × Int × Int)) × (List (List (Int))) × (List (List (Int))) × Bool × Int) ((List (Int × Int × Int × Int × Int)) × (List (List (Int))) × (List (List (Int))) × Bool × Int))) = some _ := hm
         replace hq := someE hq
         subst hq
         exact eX_next hx3 (fun hst => ⟨wr (x7 + 1), y6.2.1.take (Int.toNat (wr ((((y6.2.1).length : Int)) - 1))), A35, cap35, fp33, y6.2.2.1.take (Int.toNat (wr ((((y6.2.2.1).length : Int)) - 1))), A36, cap36, fp34, y6.2.2.2.1, A37, cap37, fp35, y6.2.2.2.2, y6.1, fz8, rfl, Fr.of hst (by kernel_rfl), FZ1, F102, F88, F89, F90, F99, F100, F98, hap38, hap39, hz6, hap40, hap37, (D456).symm, D463, D464, D465, D466, (D454).symm, (D455).symm, (D458).symm, D468, D469, D470, D471, (D457).symm, (D459).symm, D473, D474, D475, D476, D460, D461, hB, hZ⟩)
     ·have hm := condF hb5 hm
      refine cW_exit ?_
      refine eX_then_exit ?_
      have hq : (some (Ctl.out ((l13, l14, l15, z5, x8))) : Option (Ctl (Int × (List (Int × Int × Int × Int × Int)) × (List (List (Int))) × (List (List (Int))) × Bool × Int) ((List (Int × Int × Int × Int × Int)) × (List (List (Int))) × (List (List (Int))) × Bool × Int))) = some _ := hm
      replace hq := someE hq
      subst hq
      refine eX_outX hx3 (fun hr3 => ?_)
      replace hr3 := hr3.symm
      subst hr3
      refine eX_block_hit ?_
      exact eX_J (fun hst => ⟨l13, A16, cap16, fp14, l14, A17, cap17, fp15, l15, A18, cap18, fp16, z5, x8, fz5, rfl, Fr.of hst (by kernel_rfl), F22, F23, F24, F27, F28, F29, hap7, hap8, hz5, hap9, hap10, D33, D34, D35, D38, D39, D40, D41, D42, D45, D46, D47, D48, D51, hB, hZ⟩)
    ·rintro a' w68 ⟨l10, A13, cap13, fp11, l11, A14, cap14, fp12, l12, A15, cap15, fp13, z4, x6, fz4, hJ, hF6, F103, F104, F105, F106, F107, F108, hap41, hap42, hz7, hap43, hap44, D478, D479, D480, D481, D482, D483, D484, D485, D486, D487, D488, D489, D490, hB, hZ⟩
     subst hJ
     refine Fr.goX hF6 (by kernel_rfl) ?_
     refine eX_block ?_
     refine eX_then ?_
     refine cW_region ?_
     refine wS_pure 2 [(45, .int .i64 (wr (x3 + 1))), (152, .int .i64 (wr (x3 + 1)))] (by kernel_rfl) ?_
     refine wS_end (by rfl) ?_
     have hq : (some (Ctl.next ((wr (x3 + 1), l10, l11, l12, z4, x6))) : Option (Ctl (Int × (List (Int × Int × Int × Int × Int)) × (List (List (Int))) × (List (List (Int))) × Bool × Int) ((List (Int × Int × Int × Int × Int)) × (List (List (Int))) × (List (List (Int))) × Bool × Int))) = some _ := hm
     replace hq := someE hq
     subst hq
     exact eX_next hx1 (fun hst => ⟨wr (x3 + 1), l10, A13, cap13, fp11, l11, A14, cap14, fp12, l12, A15, cap15, fp13, z4, x6, fz4, rfl, Fr.of hst (by kernel_rfl), F103, F104, F105, F106, F107, F108, hap41, hap42, hz7, hap43, hap44, D478, D479, D480, D481, D482, D483, D484, D485, D486, D487, D488, D489, D490, hB, hZ⟩)
   ·have hm := condF hb4 hm
    refine cW_exit ?_
    refine eX_then_exit ?_
    have hq : (some (Ctl.out ((l7, l8, l9, z3, x4))) : Option (Ctl (Int × (List (Int × Int × Int × Int × Int)) × (List (List (Int))) × (List (List (Int))) × Bool × Int) ((List (Int × Int × Int × Int × Int)) × (List (List (Int))) × (List (List (Int))) × Bool × Int))) = some _ := hm
    replace hq := someE hq
    subst hq
    refine eX_outX hx1 (fun hr4 => ?_)
    replace hr4 := hr4.symm
    subst hr4
    refine eX_block_hit ?_
    exact eX_J (fun hst => ⟨l7, A9, cap9, fp8, l8, A10, cap10, fp9, l9, A11, cap11, fp10, z3, x4, fz3, rfl, Fr.of hst (by kernel_rfl), F13, F14, F16, F17, F18, hap3, hap4, hz4, hap5, hap6, D16, D17, D19, D20, D21, D22, D24, D25, D26, D28, hB, hZ⟩)
  ·rintro a' w69 ⟨l4, A6, cap6, fp5, l5, A7, cap7, fp6, l6, A8, cap8, fp7, z2, x2, fz2, hJ, hF7, F109, F110, F111, F112, F113, hap45, hap46, hz8, hap47, hap48, D491, D492, D493, D494, D495, D496, D497, D498, D499, D500, hB, hZ⟩
   subst hJ
   refine Fr.goX hF7 (by kernel_rfl) ?_
   have hq : (some ((x2, l4, l5, l6, z2)) : Option ((Int) × (List (Int × Int × Int × Int × Int)) × (List (List (Int))) × (List (List (Int))) × (Bool))) = some _ := hm
   replace hq := someE hq
   subst hq
   refine eX_fall (vs := []) [] (by rfl) trivial ?_
   exact ⟨A6, cap6, fp5, A7, cap7, fp6, A8, cap8, fp7, fz2, rfl, (D493).symm, (D494).symm, (D491).symm, (D497).symm, (D495).symm, (D498).symm, F110, F111, hap45, F112, hap46, F113, hap47, hz8, F109, hap48, hB⟩
set_option maxRecDepth 100000 in
theorem c_impl_chooser_choose_bimplchooser (n : Nat) : ∀ {w0 : World} {l0_0 : List (Int × Int × Int × Int × Int)} {A0_0 : Option Addr} {cap0_0 : Nat} {fp0_0 : List Nat} {l0_1 : List (List (Int))} {A0_1 : Option Addr} {cap0_1 : Nat} {fp0_1 : List Nat} {fpz : List Nat} {l0_2 : List (List (Int))} {A0_2 : Option Addr} {cap0_2 : Nat} {fp0_2 : List Nat} {z0_2 : Bool} {q0_3 : Int} {b0 : Nat} {l1 : List (Int)} {A1 : Option Addr} {cap1 : Nat} {fp1 : List Nat} {p2 : Int} {r : (Int) × (List (Int × Int × Int × Int × Int)) × (List (List (Int))) × (List (List (Int))) × (Bool)} (hm : m_impl_chooser_choose_bimplchooser n l0_0 l0_1 l0_2 z0_2 q0_3 l1 p2 = some r) (F0_0 : Ow 5 encIIIII 58 w0 fp0_0 A0_0 cap0_0 l0_0) (F0_1 : OwR 1 encI 32 2 w0 fp0_1 fpz A0_1 cap0_1 l0_1) (F0_2 : OwR 1 encI 32 2 w0 fp0_2 fpz A0_2 cap0_2 l0_2) (Z0_2 : A0_2.isNone = z0_2) (F0 : Cl w0 b0 53 [.slice A0_0 (l0_0).length cap0_0, .slice A0_1 (l0_1).length cap0_1, .slice A0_2 (l0_2).length cap0_2, .int .i64 (q0_3)]) (F1 : Sl 1 encI w0 fp1 A1 l1) (K1 : (l1).length ≤ cap1) (FZ : ZLow w0 fpz) (J0__0_0 : Dj [b0] fp0_0) (J0__0_1 : Dj [b0] fp0_1) (J0__0_2 : Dj [b0] fp0_2) (J0__1 : Dj [b0] fp1) (J0__z : Dj [b0] fpz) (J0_0__0_1 : Dj fp0_0 fp0_1) (J0_0__0_2 : Dj fp0_0 fp0_2) (J0_0__1 : Dj fp0_0 fp1) (J0_0__z : Dj fp0_0 fpz) (J0_1__0_2 : Dj fp0_1 fp0_2) (J0_1__1 : Dj fp0_1 fp1) (J0_1__z : Dj fp0_1 fpz) (J0_2__1 : Dj fp0_2 fp1) (J0_2__z : Dj fp0_2 fpz), Calls Try.prog 25 #[.pointer (some ⟨b0, 0, none⟩), .slice A1 (l1).length cap1, .int .i64 (p2)] w0 fun e w' => ∃ At0_0 capt0_0 fpt0_0, ∃ At0_1 capt0_1 fpt0_1, ∃ At0_2 capt0_2 fpt0_2, ∃ fpzt, e = .returned (.tuple #[]) ∧ Dj fpt0_0 fpt0_1 ∧ Dj fpt0_0 fpt0_2 ∧ Dj fpt0_0 fpzt ∧ Dj fpt0_1 fpt0_2 ∧ Dj fpt0_1 fpzt ∧ Dj fpt0_2 fpzt ∧ Cl w' b0 53 [.slice At0_0 (r.2.1).length capt0_0, .slice At0_1 (r.2.2.1).length capt0_1, .slice At0_2 (r.2.2.2.1).length capt0_2, .int .i64 (r.1)] ∧ Ow 5 encIIIII 58 w' fpt0_0 At0_0 capt0_0 r.2.1 ∧ Rt w0.heap.size fp0_0 fpt0_0 ∧ OwR 1 encI 32 2 w' fpt0_1 fpzt At0_1 capt0_1 r.2.2.1 ∧ Rt w0.heap.size fp0_1 fpt0_1 ∧ OwR 1 encI 32 2 w' fpt0_2 fpzt At0_2 capt0_2 r.2.2.2.1 ∧ Rt w0.heap.size fp0_2 fpt0_2 ∧ At0_2.isNone = r.2.2.2.2 ∧ ZLow w' fpzt ∧ Rt w0.heap.size fpz fpzt ∧ Chg ([b0] ++ (fp0_0 ++ (fp0_1 ++ (fp0_2 ++ [])))) w0 w' := by
 induction n with
 | zero => intro w0 l0_0 A0_0 cap0_0 fp0_0 l0_1 A0_1 cap0_1 fp0_1 fpz l0_2 A0_2 cap0_2 fp0_2 z0_2 q0_3 b0 l1 A1 cap1 fp1 p2 r hm F0_0 F0_1 F0_2 Z0_2 F0 F1 K1 FZ J0__0_0 J0__0_1 J0__0_2 J0__1 J0__z J0_0__0_1 J0_0__0_2 J0_0__1 J0_0__z J0_1__0_2 J0_1__1 J0_1__z J0_2__1 J0_2__z; exact nomatch (show (none : Option ((Int) × (List (Int × Int × Int × Int × Int)) × (List (List (Int))) × (List (List (Int))) × (Bool))) = some r from hm)
 | succ n ih => intro w0 l0_0 A0_0 cap0_0 fp0_0 l0_1 A0_1 cap0_1 fp0_1 fpz l0_2 A0_2 cap0_2 fp0_2 z0_2 q0_3 b0 l1 A1 cap1 fp1 p2 r hm F0_0 F0_1 F0_2 Z0_2 F0 F1 K1 FZ J0__0_0 J0__0_1 J0__0_2 J0__1 J0__z J0_0__0_1 J0_0__0_2 J0_0__1 J0_0__z J0_1__0_2 J0_1__1 J0_1__z J0_2__1 J0_2__z; exact c_impl_chooser_choose_bimplchooser_body ih hm F0_0 F0_1 F0_2 Z0_2 F0 F1 K1 FZ J0__0_0 J0__0_1 J0__0_2 J0__1 J0__z J0_0__0_1 J0_0__0_2 J0_0__1 J0_0__z J0_1__0_2 J0_1__1 J0_1__z J0_2__1 J0_2__z


set_option maxRecDepth 100000 in
/-- impl.BestJoins -/
theorem c_impl_BestJoins {w0 : World} {l0 : List (Int × Int)} {A0 : Option Addr} {cap0 : Nat} {fp0 : List Nat} {r : (List (List (Int))) × (Int) × (Bool)} (hm : m_impl_BestJoins l0 = some r) (F0 : Sl 2 encII w0 fp0 A0 l0) :
  Calls Try.prog 7 #[.slice A0 (l0).length cap0] w0 fun e w' => ∃ A100 cap100 fp100 fr100, e = .returned (.tuple #[.slice A100 (r.1).length cap100, .int .i64 (r.2.1), .bool (r.2.2)]) ∧ OwR 1 encI 32 2 w' fp100 fr100 A100 cap100 r.1 ∧ (∀ x ∈ fp100 ++ fr100, w0.heap.size ≤ x) ∧ Chg [] w0 w' := by
 have L0 := F0.low
 have hB : Chg [] w0 w0 := Chg.refl _ _
 have hZ := Nat.le_refl w0.heap.size
 unfold m_impl_BestJoins at hm
 refine enterE (N := 48) Try.func7 (by rfl) Try.ntmps7 (by simp) [(0, .slice A0 (l0).length cap0)] (by rfl) (by kernel_rfl) (fun a => ?_)
 refine cW_seq ?_
 refine cW_region ?_
 refine wS_pure 3 [(4, .bool (false)), (3, .int .i64 (0)), (2, .slice none 0 0)] (by kernel_rfl) ?_
 refine wS_end (by rfl) ?_
 refine eX_then ?_
 refine cW_seq ?_
 refine cW_seq ?_
 refine cW_region ?_
 refine wS_pure 1 [(9, .slice A0 (l0).length cap0)] (by kernel_rfl) ?_
 obtain ⟨y1, hy1, hm⟩ := bindE hm
 refine wS_calls (d := 10) (f := 23) (vs := [.slice A0 (l0).length cap0]) (by kernel_rfl) ent23 (c_impl_clockPins hy1 F0) ?_
 rintro _ w1 ⟨rfl, hc1⟩
 replace F0 := F0.chg hc1 Dj.nil
 replace hB := hB.inS hc1 inNil
 replace hZ := Nat.le_trans hZ hc1.size
 refine ⟨.bool (y1), rfl, ?_⟩
 refine wS_pure 2 [(12, .bool (!y1)), (11, .bool (!y1))] (by kernel_rfl) ?_
 refine wS_bool (!y1) (fun hb1 => ?_) (fun hb1 => ?_)
 ·have hm := condT hb1 hm
  rewrite [hb1]
  refine wS_pure 4 [(16, .bool (true)), (15, undef), (14, undef), (13, undef)] (by kernel_rfl) ?_
  refine wS_end (by rfl) ?_
  refine eX_then ?_
  refine cW_cond_t (by kernel_rfl) ?_
  refine cW_seq ?_
  refine cW_region ?_
  refine wS_pure 3 [(4, .bool (false)), (3, .int .i64 (0)), (2, .slice none 0 0)] (by kernel_rfl) ?_
  refine wS_end (by rfl) ?_
  refine eX_then ?_
  refine cW_ret ?_
  refine eX_then_ret ?_
  have hq : (some (([], 0, false)) : Option ((List (List (Int))) × (Int) × (Bool))) = some _ := hm
  replace hq := someE hq
  subst hq
  refine eX_ret (vs := [.slice none 0 0, .int .i64 (0), .bool (false)]) [.tmp 2, .tmp 3, .tmp 4] (by rfl) ⟨by (show lkE _ _ _ = _); kernel_rfl, ⟨by (show lkE _ _ _ = _); kernel_rfl, ⟨by (show lkE _ _ _ = _); kernel_rfl, trivial⟩⟩⟩ ?_
  exact ⟨none, 0, [], [], rfl, OwR.nil _, (lowApp lowNil lowNil), hB⟩
 ·have hm := condF hb1 hm
  rewrite [hb1]
  refine wS_pure 4 [(16, .bool (decide ((((l0).length : Int)) > 5))), (15, .bool (decide ((((l0).length : Int)) > 5))), (14, .int .i64 (((l0).length : Int))), (13, .slice A0 (l0).length cap0)] (by kernel_rfl) ?_
  refine wS_end (by rfl) ?_
  refine eX_then ?_
  refine cW_cond (t := decide ((((l0).length : Int)) > 5)) (by kernel_rfl) (fun hb2 => ?_) (fun hb2 => ?_)
  ·have hm := condT hb2 hm
   refine cW_seq ?_
   refine cW_region ?_
   refine wS_pure 3 [(4, .bool (false)), (3, .int .i64 (0)), (2, .slice none 0 0)] (by kernel_rfl) ?_
   refine wS_end (by rfl) ?_
   refine eX_then ?_
   refine cW_ret ?_
   refine eX_then_ret ?_
   have hq : (some (([], 0, false)) : Option ((List (List (Int))) × (Int) × (Bool))) = some _ := hm
   replace hq := someE hq
   subst hq
   refine eX_ret (vs := [.slice none 0 0, .int .i64 (0), .bool (false)]) [.tmp 2, .tmp 3, .tmp 4] (by rfl) ⟨by (show lkE _ _ _ = _); kernel_rfl, ⟨by (show lkE _ _ _ = _); kernel_rfl, ⟨by (show lkE _ _ _ = _); kernel_rfl, trivial⟩⟩⟩ ?_
   exact ⟨none, 0, [], [], rfl, OwR.nil _, (lowApp lowNil lowNil), hB⟩
  ·have hm := condF hb2 hm
   refine cW_skip ?_
   refine eX_then ?_
   refine cW_seq ?_
   refine cW_region ?_
   refine wS_pure 1 [(17, .agg #[.slice none 0 0, .slice none 0 0, .slice none 0 0, .int .i64 (0)])] (by kernel_rfl) ?_
   refine wS_bs0 (α := Int) (enc := encI) (d := 18) (t := 32) (T := 2) (by kernel_rfl) el32 ?_
   intro b1 w2 G1 F1 hc2
   replace F0 := F0.chg hc2 Dj.nil
   replace hB := hB.inS hc2 inNil
   replace G1 := Nat.le_trans hZ G1
   replace G1 := low1 G1
   replace hZ := Nat.le_trans hZ hc2.size
   refine wS_alloc (d := 5) (T := 53) (z := .agg #[.slice none 0 0, .slice none 0 0, .slice none 0 0, .int .i64 (0)]) (by kernel_rfl) (by kernel_rfl) ?_
   intro b2 w3 G2 F2 hc3
   replace F2 : Cl w3 b2 53 [.slice none 0 0, .slice none 0 0, .slice none 0 0, .int .i64 (0)] := F2
   have D1 : Dj [b1] [b2] := Dj.of F1.low (low1 G2)
   replace F0 := F0.chg hc3 Dj.nil
   replace F1 := F1.chg hc3 Dj.nil
   replace hB := hB.inS hc3 inNil
   replace G2 := Nat.le_trans hZ G2
   replace hZ := Nat.le_trans hZ hc3.size
   refine wS_store (T := 53) (g := b2) (o := 0) (ad := ⟨b2, 0, none⟩) (v := .agg #[.slice none 0 0, .slice none 0 0, .slice none 0 0, .int .i64 (0)]) (vs := [.slice none 0 0, .slice none 0 0, .slice none 0 0, .int .i64 (0)]) (by kernel_rfl) (by rfl) sz53 (by rfl) (by rfl) F2 (by simp only [List.length_cons, List.length_nil]; omega) ?_
   intro w4 F3 hc4
   replace F0 := F0.chg hc4 (Dj.of L0 (low1 G2))
   replace F1 := F1.chg hc4 D1
   replace hB := hB.inS hc4 (inLow (low1 G2))
   replace hZ := Nat.le_trans hZ hc4.size
   replace F3 : Cl w4 b2 53 [.slice none 0 0, .slice none 0 0, .slice none 0 0, .int .i64 (0)] := F3
   clear F2
   refine wS_pure 1 [(6, .slice (some ⟨b1, 0, none⟩) (([] : List (Int))).length 0)] (by kernel_rfl) ?_
   refine wS_end (by rfl) ?_
   refine eX_then ?_
   refine cW_seq ?_
   refine cW_seq ?_
   refine cW_region ?_
   refine wS_pure 3 [(21, .int .i64 (0)), (20, .int .i64 (((l0).length : Int))), (19, .slice A0 (l0).length cap0)] (by kernel_rfl) ?_
   refine wS_end (by rfl) ?_
   refine eX_then ?_
   obtain ⟨r1, hr1, hm⟩ := bindE hm
   have hm1 := hm
   refine cW_cut (fun a' w' => ∃ l1 : List (Int), ∃ A1 : Option Addr, ∃ cap1 : Nat, ∃ fp1 : List Nat, ∃ l3 : List (Int × Int × Int × Int × Int), ∃ A3 : Option Addr, ∃ cap3 : Nat, ∃ fp2 : List Nat, (l1, l3) = r1 ∧ Fr 48 [(5, .pointer (some ⟨b2, 0, none⟩)), (6, .slice A1 (l1).length cap1)] a' ∧ Cl w' b2 53 [.slice A3 (l3).length cap3, .slice none 0 0, .slice none 0 0, .int .i64 (0)] ∧ Ow 1 encI 2 w' fp1 A1 cap1 l1 ∧ Ow 5 encIIIII 58 w' fp2 A3 cap3 l3 ∧ (∀ x ∈ fp1, w0.heap.size ≤ x) ∧ (∀ x ∈ fp2, w0.heap.size ≤ x) ∧ Dj [b2] fp1 ∧ Dj fp2 fp1 ∧ Dj [b2] fp2 ∧ Chg [] w0 w' ∧ w0.heap.size ≤ w'.heap.size) ?_ ?_
   ·refine cW_block ?_
    refine cW_loop _ (fun (s1 : (List (Int)) × Int × (List (Int × Int × Int × Int × Int))) a' w' => ∃ l4 : List (Int), ∃ A4 : Option Addr, ∃ cap4 : Nat, ∃ fp3 : List Nat, ∃ x1 : Int, ∃ l5 : List (Int × Int × Int × Int × Int), ∃ A5 : Option Addr, ∃ cap5 : Nat, ∃ fp4 : List Nat, (l4, x1, l5) = s1 ∧ Fr 48 [(5, .pointer (some ⟨b2, 0, none⟩)), (6, .slice A4 (l4).length cap4), (19, .slice A0 (l0).length cap0), (20, .int .i64 (((l0).length : Int))), (21, .int .i64 (x1))] a' ∧ Sl 2 encII w' fp0 A0 l0 ∧ Cl w' b2 53 [.slice A5 (l5).length cap5, .slice none 0 0, .slice none 0 0, .int .i64 (0)] ∧ Ow 1 encI 2 w' fp3 A4 cap4 l4 ∧ Ow 5 encIIIII 58 w' fp4 A5 cap5 l5 ∧ (∀ x ∈ fp3, w0.heap.size ≤ x) ∧ (∀ x ∈ fp4, w0.heap.size ≤ x) ∧ Dj [b2] fp3 ∧ Dj fp4 fp3 ∧ Dj [b2] fp4 ∧ Chg [] w0 w' ∧ w0.heap.size ≤ w'.heap.size) hr1 (fun hst => ⟨([] : List (Int)), (some ⟨b1, 0, none⟩), 0, [b1], 0, [], none, 0, [], rfl, Fr.of hst (by kernel_rfl), F0, F3, F1, Ow.nil _, G1, lowNil, (D1).symm, Dj.nil.symm, Dj.nil, hB, hZ⟩) ?_
    rintro _ c1 a' w5 ⟨l4, A4, cap4, fp3, x1, l5, A5, cap5, fp4, rfl, hF1, F4, F5, F6, F7, G3, G4, D2, D3, D4, hB, hZ⟩ hx1
    refine Fr.goOn hF1 (by kernel_rfl) ?_
    have hm := hx1
    unfold m_impl_BestJoins_s1 at hm
    refine cW_seq ?_
    refine cW_region ?_
    refine wS_pure 1 [(22, .bool (decide (x1 < (((l0).length : Int)))))] (by kernel_rfl) ?_
    refine wS_end (by rfl) ?_
    refine eX_then ?_
    refine cW_seq ?_
    refine cW_cond (t := decide (x1 < (((l0).length : Int)))) (by kernel_rfl) (fun hb3 => ?_) (fun hb3 => ?_)
    ·have hm := condT hb3 hm
     refine cW_skip ?_
     refine eX_then ?_
     refine cW_seq ?_
     refine cW_block ?_
     refine cW_seq ?_
     refine cW_region ?_
     refine wS_pure 1 [(23, .int .i64 (x1))] (by kernel_rfl) ?_
     obtain ⟨x2, hx2, hm⟩ := bindE hm
     refine wS_idx (d := 24) (T := 24) (A := A0) (n := (l0).length) (cap := cap0) (kd := .i64) (m := x1) (by kernel_rfl) sl24 (F4.is hx2) ?_
     refine wS_loadA (d := 25) (T := 49) (ad := (elA A0 2 (x1) 0)) (vs := [.int .i64 (x2.1), .int .i64 (x2.2)]) (by kernel_rfl) vt49 (fun i u hu => Sl.cells_at F4 hx2 0 hu (by rfl)) ?_
     refine wS_alloc (d := 8) (T := 49) (z := .agg #[.int .i64 (0), .int .i64 (0)]) (by kernel_rfl) (by kernel_rfl) ?_
     intro b3 w6 G5 F8 hc5
     replace F8 : Cl w6 b3 49 [.int .i64 (0), .int .i64 (0)] := F8
     have D5 : Dj [b2] [b3] := Dj.of (lt1 F5.lt) (low1 G5)
     have D6 : Dj fp3 [b3] := Dj.of F6.low (low1 G5)
     have D7 : Dj fp4 [b3] := Dj.of F7.low (low1 G5)
     replace F4 := F4.chg hc5 Dj.nil
     replace F5 := F5.chg hc5 notNil
     replace F6 := F6.chg hc5 Dj.nil
     replace F7 := F7.chg hc5 Dj.nil
     replace hB := hB.inS hc5 inNil
     replace G5 := Nat.le_trans hZ G5
     replace hZ := Nat.le_trans hZ hc5.size
     refine wS_pure 1 [(7, .int .i64 (x1))] (by kernel_rfl) ?_
     refine wS_store (T := 49) (g := b3) (o := 0) (ad := ⟨b3, 0, none⟩) (v := .agg #[.int .i64 (x2.1), .int .i64 (x2.2)]) (vs := [.int .i64 (x2.1), .int .i64 (x2.2)]) (by kernel_rfl) (by rfl) sz49 (by rfl) (by rfl) F8 (by simp only [List.length_cons, List.length_nil]; omega) ?_
     intro w7 F9 hc6
     replace F4 := F4.chg hc6 (Dj.of L0 (low1 G5))
     replace F5 := F5.chg hc6 (dj1 D5)
     replace F6 := F6.chg hc6 D6
     replace F7 := F7.chg hc6 D7
     replace hB := hB.inS hc6 (inLow (low1 G5))
     replace hZ := Nat.le_trans hZ hc6.size
     replace F9 : Cl w7 b3 49 [.int .i64 (x2.1), .int .i64 (x2.2)] := F9
     clear F8
     refine wS_end (by rfl) ?_
     refine eX_then ?_
     obtain ⟨s2, hs1, hm⟩ := bindE hm
     refine cW_cut (fun a' w' => ∃ l6 : List (Int), ∃ A6 : Option Addr, ∃ cap6 : Nat, ∃ fp5 : List Nat, ∃ l7 : List (Int × Int × Int × Int × Int), ∃ A7 : Option Addr, ∃ cap7 : Nat, ∃ fp6 : List Nat, (l6, l7) = s2 ∧ Fr 48 [(5, .pointer (some ⟨b2, 0, none⟩)), (6, .slice A6 (l6).length cap6), (19, .slice A0 (l0).length cap0), (20, .int .i64 (((l0).length : Int))), (21, .int .i64 (x1))] a' ∧ Sl 2 encII w' fp0 A0 l0 ∧ Cl w' b2 53 [.slice A7 (l7).length cap7, .slice none 0 0, .slice none 0 0, .int .i64 (0)] ∧ Ow 1 encI 2 w' fp5 A6 cap6 l6 ∧ Ow 5 encIIIII 58 w' fp6 A7 cap7 l7 ∧ (∀ x ∈ fp5, w0.heap.size ≤ x) ∧ (∀ x ∈ fp6, w0.heap.size ≤ x) ∧ Dj [b2] fp5 ∧ Dj fp6 fp5 ∧ Dj [b2] fp6 ∧ Chg [] w0 w' ∧ w0.heap.size ≤ w'.heap.size) ?_ ?_
     ·have hm := hs1
      refine cW_drawnTail fp4 10 (by kernel_rfl) (by kernel_rfl) (fun w8 hc7 => ?_)
      replace F4 := F4.chg hc7 Dj.nil
      replace F5 := F5.chg hc7 notNil
      replace F6 := F6.chg hc7 Dj.nil
      replace F7 := F7.chg hc7 Dj.nil
      replace F9 := F9.chg hc7 notNil
      replace hB := hB.inS hc7 inNil
      replace hZ := Nat.le_trans hZ hc7.size
      have hS := Chg.refl fp4 w8
      have Z1 := F4
      have Z2 := F5
      have Z3 := F6
      have Z4 := F7
      have Z5 := F9
      refine wH_take [0] [0] [(26, .pointer (some ⟨b2, 0, none⟩))] (by kernel_rfl) (qT (qT (qB (qT (qL (qB (qT (qT qZ)))))))) (by kernel_rfl) ?_
      refine wH_load1 (i := 1) (d := 27) (T := 51) (ad := ⟨b2, 0, none⟩) (v := .slice A5 (l5).length cap5) (by kernel_rfl) (qT (qT (qB (qT (qL (qB (qT (qT qZ)))))))) (by kernel_rfl) (by kernel_rfl) vt51 (fun W hW => (Z2.chg hW (dj1 D4)).cell 0) ?_
      refine wH_loadA (i := 2) (d := 28) (T := 49) (ad := ⟨b3, 0, none⟩) (vs := [.int .i64 (x2.1), .int .i64 (x2.2)]) (by kernel_rfl) (qT (qT (qB (qT (qL (qB (qT (qT qZ)))))))) (by kernel_rfl) (by kernel_rfl) vt49 (fun W hW i u hu => box_cells (Z5.chg hW (dj1 (D7).symm)) 0 hu (by rfl)) ?_
      refine wH_take [7, 8] [8, 7, 2, 1, 0] [(34, .int .i64 (x1)), (33, .slice A4 (l4).length cap4)] (by kernel_rfl) (qT (qT (qB (qT (qL (qB (qT (qT qZ)))))))) (by kernel_rfl) ?_
      refine wH_all [3, 9] (by rfl) (by kernel_rfl) (by simp) ⟨⟨by kernel_rfl, ?_⟩, ⟨by kernel_rfl, ?_⟩, trivial⟩
      ·skip
       obtain ⟨y2, hy2, hm⟩ := bindE hm
       refine wS_calls (d := 29) (f := 24) (vs := [.agg #[.int .i64 (x2.1), .int .i64 (x2.2)]]) (by kernel_rfl) ent24 (c_impl_leaf hy2) ?_
       rintro _ w9 ⟨rfl, hc8⟩
       replace F4 := F4.chg hc8 Dj.nil
       replace F5 := F5.chg hc8 notNil
       replace F6 := F6.chg hc8 Dj.nil
       replace F7 := F7.chg hc8 Dj.nil
       replace F9 := F9.chg hc8 notNil
       replace hB := hB.inS hc8 inNil
       have hSz := hS
       replace hS := hS.inS hc8 inNil
       replace hZ := Nat.le_trans hZ hc8.size
       refine ⟨.agg #[.int .i64 (y2.1), .int .i64 (y2.2.1), .int .i64 (y2.2.2.1), .int .i64 (y2.2.2.2)], rfl, ?_⟩
       refine wS_end (by kernel_rfl) ?_
       refine eX_KH hS ?_
       refine wH_take [4] [4, 3, 8, 7, 2, 1, 0] [(30, .agg #[.int .i64 (y2.1), .int .i64 (y2.2.1), .int .i64 (y2.2.2.1), .int .i64 (y2.2.2.2), .int .i64 (0)])] (by kernel_rfl) (qT (qT (qB (qT (qL (qB (qT (qT qZ)))))))) (by kernel_rfl) ?_
       refine wH_all [5, 9] (by rfl) (by kernel_rfl) (by simp) ⟨⟨by kernel_rfl, ?_⟩, ⟨by kernel_rfl, ?_⟩, trivial⟩
       ·skip
        refine wS_bs (enc := encIIIII) ([(y2.1, y2.2.1, y2.2.2.1, y2.2.2.2, 0)] : List (Int × Int × Int × Int × Int)) [.int .i64 (y2.1), .int .i64 (y2.2.1), .int .i64 (y2.2.2.1), .int .i64 (y2.2.2.2), .int .i64 (0)] (d := 31) (t := 51) (T := 58) (n := 1) (ps := [(0, .agg #[.int .i64 (y2.1), .int .i64 (y2.2.1), .int .i64 (y2.2.2.1), .int .i64 (y2.2.2.2), .int .i64 (0)])]) (by kernel_rfl) el51 encIIIII_ok (by rfl) (by omega) (by omega) (by kernel_rfl) (by rfl) ?_
        intro b4 w10 G6 F10 hc9
        have D8 : Dj [b2] [b4] := Dj.of (lt1 F5.lt) (low1 G6)
        have D9 : Dj fp3 [b4] := Dj.of F6.low (low1 G6)
        have D10 : Dj fp4 [b4] := Dj.of F7.low (low1 G6)
        have D11 : Dj [b3] [b4] := Dj.of (lt1 F9.lt) (low1 G6)
        replace F4 := F4.chg hc9 Dj.nil
        replace F5 := F5.chg hc9 notNil
        replace F6 := F6.chg hc9 Dj.nil
        replace F7 := F7.chg hc9 Dj.nil
        replace F9 := F9.chg hc9 notNil
        replace hB := hB.inS hc9 inNil
        have hSz := hS
        replace hS := hS.inS hc9 inNil
        have Gz1 := low1 (Nat.le_trans hSz.size G6)
        replace G6 := Nat.le_trans hZ G6
        replace G6 := low1 G6
        replace hZ := Nat.le_trans hZ hc9.size
        refine wS_end (by kernel_rfl) ?_
        refine eX_KH hS ?_
        refine wH_all [6, 9] (by rfl) (by kernel_rfl) (by simp) ⟨⟨by kernel_rfl, ?_⟩, ⟨by kernel_rfl, ?_⟩, trivial⟩
        ·skip
         obtain ⟨_, hk1, hm⟩ := bindE hm
         replace hk1 := apE hk1
         refine wS_append (enc := encIIIII) (l := (l5 : List (Int × Int × Int × Int × Int))) (l2 := (([(y2.1, y2.2.1, y2.2.2.1, y2.2.2.2, 0)] : List (Int × Int × Int × Int × Int)) : List (Int × Int × Int × Int × Int))) (d := 32) (t := 51) (T := 58) (A := A5) (A2 := (some ⟨b4, 0, none⟩)) (cap := cap5) (cap2 := 1) (by kernel_rfl) el51 encIIIII_ok F7 (F10.sl encIIIII_ok) (by rfl) hk1 ?_
         intro w11 fp7 A8 cap8 F11 hc10 hp1
         have G7 := low_ap G4 hZ hp1
         have D12 : Dj [b2] fp7 := Dj.ap D4 (lt1 F5.lt) hp1
         have D13 : Dj fp3 fp7 := Dj.ap (D3).symm F6.low hp1
         have D14 : Dj [b3] fp7 := Dj.ap (D7).symm (lt1 F9.lt) hp1
         have D15 : Dj [b4] fp7 := Dj.ap (D10).symm F10.low hp1
         replace F4 := F4.chg hc10 (Dj.of L0 G4)
         replace F5 := F5.chg hc10 (dj1 D4)
         replace F6 := F6.chg hc10 (D3).symm
         replace F9 := F9.chg hc10 (dj1 (D7).symm)
         replace F10 := F10.chg hc10 (D10).symm
         replace hB := hB.inS hc10 (inLow G4)
         have hSz := hS
         replace hS := hS.trans hc10
         have Sn1 := sin_ap (Sg := fp4) (inMem (fun x hx => hx)) hSz.size hp1
         replace hZ := Nat.le_trans hZ hc10.size
         refine wS_end (by kernel_rfl) ?_
         refine eX_KH hS ?_
         refine wH_all [9] (by rfl) (by kernel_rfl) (by simp) ⟨⟨by kernel_rfl, ?_⟩, trivial⟩
         refine wS_bs (enc := encI) ([x1] : List (Int)) [.int .i64 (x1)] (d := 35) (t := 32) (T := 2) (n := 1) (ps := [(0, .int .i64 (x1))]) (by kernel_rfl) el32 encI_ok (by rfl) (by omega) (by omega) (by kernel_rfl) (by rfl) ?_
         intro b5 w12 G8 F12 hc11
         have D16 : Dj [b2] [b5] := Dj.of (lt1 F5.lt) (low1 G8)
         have D17 : Dj fp3 [b5] := Dj.of F6.low (low1 G8)
         have D18 : Dj [b3] [b5] := Dj.of (lt1 F9.lt) (low1 G8)
         have D19 : Dj [b4] [b5] := Dj.of F10.low (low1 G8)
         have D20 : Dj fp7 [b5] := Dj.of F11.low (low1 G8)
         replace F4 := F4.chg hc11 Dj.nil
         replace F5 := F5.chg hc11 notNil
         replace F6 := F6.chg hc11 Dj.nil
         replace F9 := F9.chg hc11 notNil
         replace F10 := F10.chg hc11 Dj.nil
         replace F11 := F11.chg hc11 Dj.nil
         replace hB := hB.inS hc11 inNil
         have hSz := hS
         replace hS := hS.inS hc11 inNil
         have Gz2 := low1 (Nat.le_trans hSz.size G8)
         replace G8 := Nat.le_trans hZ G8
         replace G8 := low1 G8
         replace hZ := Nat.le_trans hZ hc11.size
         refine wS_end (by kernel_rfl) ?_
         refine eX_KH hS ?_
         refine wH_done (by kernel_rfl) ?_
         refine eX_tail ?_
         obtain ⟨_, hk2, hm⟩ := bindE hm
         replace hk2 := apE hk2
         refine wS_append (enc := encI) (l := (l4 : List (Int))) (l2 := (([x1] : List (Int)) : List (Int))) (d := 36) (t := 32) (T := 2) (A := A4) (A2 := (some ⟨b5, 0, none⟩)) (cap := cap4) (cap2 := 1) (by kernel_rfl) el32 encI_ok F6 (F12.sl encI_ok) (by rfl) hk2 ?_
         intro w13 fp8 A9 cap9 F13 hc12 hp2
         have G9 := low_ap G3 hZ hp2
         have D21 : Dj [b2] fp8 := Dj.ap D2 (lt1 F5.lt) hp2
         have D22 : Dj [b3] fp8 := Dj.ap (D6).symm (lt1 F9.lt) hp2
         have D23 : Dj [b4] fp8 := Dj.ap (D9).symm F10.low hp2
         have D24 : Dj fp7 fp8 := Dj.ap (D13).symm F11.low hp2
         have D25 : Dj [b5] fp8 := Dj.ap (D17).symm F12.low hp2
         replace F4 := F4.chg hc12 (Dj.of L0 G3)
         replace F5 := F5.chg hc12 (dj1 D2)
         replace F9 := F9.chg hc12 (dj1 (D6).symm)
         replace F10 := F10.chg hc12 (D9).symm
         replace F11 := F11.chg hc12 (D13).symm
         replace F12 := F12.chg hc12 (D17).symm
         replace hB := hB.inS hc12 (inLow G3)
         replace hZ := Nat.le_trans hZ hc12.size
         refine wS_pure 1 [(37, .pointer (some ⟨b2, 0, none⟩))] (by kernel_rfl) ?_
         refine wS_store (T := 51) (g := b2) (o := 0) (ad := ⟨b2, 0, none⟩) (v := .slice A8 (l5 ++ (([(y2.1, y2.2.1, y2.2.2.1, y2.2.2.2, 0)] : List (Int × Int × Int × Int × Int)))).length cap8) (vs := [.slice A8 (l5 ++ (([(y2.1, y2.2.1, y2.2.2.1, y2.2.2.2, 0)] : List (Int × Int × Int × Int × Int)))).length cap8]) (by kernel_rfl) (by rfl) sz51 (by rfl) (by rfl) F5 (by simp only [List.length_cons, List.length_nil]; omega) ?_
         intro w14 F14 hc13
         replace F4 := F4.chg hc13 (Dj.of L0 (low1 G2))
         replace F9 := F9.chg hc13 (dj1 (D5).symm)
         replace F10 := F10.chg hc13 (D8).symm
         replace F11 := F11.chg hc13 (D12).symm
         replace F12 := F12.chg hc13 (D16).symm
         replace F13 := F13.chg hc13 (D21).symm
         replace hB := hB.inS hc13 (inLow (low1 G2))
         replace hZ := Nat.le_trans hZ hc13.size
         replace F14 : Cl w14 b2 53 [.slice A8 (l5 ++ (([(y2.1, y2.2.1, y2.2.2.1, y2.2.2.2, 0)] : List (Int × Int × Int × Int × Int)))).length cap8, .slice none 0 0, .slice none 0 0, .int .i64 (0)] := F14
         clear F5
         refine wS_pure 1 [(6, .slice A9 (l4 ++ (([x1] : List (Int)))).length cap9)] (by kernel_rfl) ?_
         refine wS_end (by rfl) ?_
         have hq : (some ((l4 ++ (([x1] : List (Int))), l5 ++ (([(y2.1, y2.2.1, y2.2.2.1, y2.2.2.2, 0)] : List (Int × Int × Int × Int × Int))))) : Option ((List (Int)) × (List (Int × Int × Int × Int × Int)))) = some _ := hm
         replace hq := someE hq
         subst hq
         exact eX_J (fun hst => ⟨l4 ++ (([x1] : List (Int))), A9, cap9, fp8, l5 ++ (([(y2.1, y2.2.1, y2.2.2.1, y2.2.2.2, 0)] : List (Int × Int × Int × Int × Int))), A8, cap8, fp7, rfl, Fr.of hst (by kernel_rfl), F4, F14, F13, F11, G9, G7, D21, D24, D12, hB, hZ⟩)
        ·skip
         refine wS_bs (enc := encI) ([x1] : List (Int)) [.int .i64 (x1)] (d := 35) (t := 32) (T := 2) (n := 1) (ps := [(0, .int .i64 (x1))]) (by kernel_rfl) el32 encI_ok (by rfl) (by omega) (by omega) (by kernel_rfl) (by rfl) ?_
         intro b6 w15 G10 F15 hc14
         have D26 : Dj [b2] [b6] := Dj.of (lt1 F5.lt) (low1 G10)
         have D27 : Dj fp3 [b6] := Dj.of F6.low (low1 G10)
         have D28 : Dj fp4 [b6] := Dj.of F7.low (low1 G10)
         have D29 : Dj [b3] [b6] := Dj.of (lt1 F9.lt) (low1 G10)
         have D30 : Dj [b4] [b6] := Dj.of F10.low (low1 G10)
         replace F4 := F4.chg hc14 Dj.nil
         replace F5 := F5.chg hc14 notNil
         replace F6 := F6.chg hc14 Dj.nil
         replace F7 := F7.chg hc14 Dj.nil
         replace F9 := F9.chg hc14 notNil
         replace F10 := F10.chg hc14 Dj.nil
         replace hB := hB.inS hc14 inNil
         have hSz := hS
         replace hS := hS.inS hc14 inNil
         have Gz3 := low1 (Nat.le_trans hSz.size G10)
         replace G10 := Nat.le_trans hZ G10
         replace G10 := low1 G10
         replace hZ := Nat.le_trans hZ hc14.size
         refine wS_end (by kernel_rfl) ?_
         refine eX_KH hS ?_
         refine wH_all [6] (by rfl) (by kernel_rfl) (by simp) ⟨⟨by kernel_rfl, ?_⟩, trivial⟩
         obtain ⟨_, hk3, hm⟩ := bindE hm
         replace hk3 := apE hk3
         refine wS_append (enc := encIIIII) (l := (l5 : List (Int × Int × Int × Int × Int))) (l2 := (([(y2.1, y2.2.1, y2.2.2.1, y2.2.2.2, 0)] : List (Int × Int × Int × Int × Int)) : List (Int × Int × Int × Int × Int))) (d := 32) (t := 51) (T := 58) (A := A5) (A2 := (some ⟨b4, 0, none⟩)) (cap := cap5) (cap2 := 1) (by kernel_rfl) el51 encIIIII_ok F7 (F10.sl encIIIII_ok) (by rfl) hk3 ?_
         intro w16 fp9 A10 cap10 F16 hc15 hp3
         have G11 := low_ap G4 hZ hp3
         have D31 : Dj [b2] fp9 := Dj.ap D4 (lt1 F5.lt) hp3
         have D32 : Dj fp3 fp9 := Dj.ap (D3).symm F6.low hp3
         have D33 : Dj [b3] fp9 := Dj.ap (D7).symm (lt1 F9.lt) hp3
         have D34 : Dj [b4] fp9 := Dj.ap (D10).symm F10.low hp3
         have D35 : Dj [b6] fp9 := Dj.ap (D28).symm F15.low hp3
         replace F4 := F4.chg hc15 (Dj.of L0 G4)
         replace F5 := F5.chg hc15 (dj1 D4)
         replace F6 := F6.chg hc15 (D3).symm
         replace F9 := F9.chg hc15 (dj1 (D7).symm)
         replace F10 := F10.chg hc15 (D10).symm
         replace F15 := F15.chg hc15 (D28).symm
         replace hB := hB.inS hc15 (inLow G4)
         have hSz := hS
         replace hS := hS.trans hc15
         have Sn2 := sin_ap (Sg := fp4) (inMem (fun x hx => hx)) hSz.size hp3
         replace hZ := Nat.le_trans hZ hc15.size
         refine wS_end (by kernel_rfl) ?_
         refine eX_KH hS ?_
         refine wH_done (by kernel_rfl) ?_
         refine eX_tail ?_
         obtain ⟨_, hk4, hm⟩ := bindE hm
         replace hk4 := apE hk4
         refine wS_append (enc := encI) (l := (l4 : List (Int))) (l2 := (([x1] : List (Int)) : List (Int))) (d := 36) (t := 32) (T := 2) (A := A4) (A2 := (some ⟨b6, 0, none⟩)) (cap := cap4) (cap2 := 1) (by kernel_rfl) el32 encI_ok F6 (F15.sl encI_ok) (by rfl) hk4 ?_
         intro w17 fp10 A11 cap11 F17 hc16 hp4
         have G12 := low_ap G3 hZ hp4
         have D36 : Dj [b2] fp10 := Dj.ap D2 (lt1 F5.lt) hp4
         have D37 : Dj [b3] fp10 := Dj.ap (D6).symm (lt1 F9.lt) hp4
         have D38 : Dj [b4] fp10 := Dj.ap (D9).symm F10.low hp4
         have D39 : Dj [b6] fp10 := Dj.ap (D27).symm F15.low hp4
         have D40 : Dj fp9 fp10 := Dj.ap (D32).symm F16.low hp4
         replace F4 := F4.chg hc16 (Dj.of L0 G3)
         replace F5 := F5.chg hc16 (dj1 D2)
         replace F9 := F9.chg hc16 (dj1 (D6).symm)
         replace F10 := F10.chg hc16 (D9).symm
         replace F15 := F15.chg hc16 (D27).symm
         replace F16 := F16.chg hc16 (D32).symm
         replace hB := hB.inS hc16 (inLow G3)
         replace hZ := Nat.le_trans hZ hc16.size
         refine wS_pure 1 [(37, .pointer (some ⟨b2, 0, none⟩))] (by kernel_rfl) ?_
         refine wS_store (T := 51) (g := b2) (o := 0) (ad := ⟨b2, 0, none⟩) (v := .slice A10 (l5 ++ (([(y2.1, y2.2.1, y2.2.2.1, y2.2.2.2, 0)] : List (Int × Int × Int × Int × Int)))).length cap10) (vs := [.slice A10 (l5 ++ (([(y2.1, y2.2.1, y2.2.2.1, y2.2.2.2, 0)] : List (Int × Int × Int × Int × Int)))).length cap10]) (by kernel_rfl) (by rfl) sz51 (by rfl) (by rfl) F5 (by simp only [List.length_cons, List.length_nil]; omega) ?_
         intro w18 F18 hc17
         replace F4 := F4.chg hc17 (Dj.of L0 (low1 G2))
         replace F9 := F9.chg hc17 (dj1 (D5).symm)
         replace F10 := F10.chg hc17 (D8).symm
         replace F15 := F15.chg hc17 (D26).symm
         replace F16 := F16.chg hc17 (D31).symm
         replace F17 := F17.chg hc17 (D36).symm
         replace hB := hB.inS hc17 (inLow (low1 G2))
         replace hZ := Nat.le_trans hZ hc17.size
         replace F18 : Cl w18 b2 53 [.slice A10 (l5 ++ (([(y2.1, y2.2.1, y2.2.2.1, y2.2.2.2, 0)] : List (Int × Int × Int × Int × Int)))).length cap10, .slice none 0 0, .slice none 0 0, .int .i64 (0)] := F18
         clear F5
         refine wS_pure 1 [(6, .slice A11 (l4 ++ (([x1] : List (Int)))).length cap11)] (by kernel_rfl) ?_
         refine wS_end (by rfl) ?_
         have hq : (some ((l4 ++ (([x1] : List (Int))), l5 ++ (([(y2.1, y2.2.1, y2.2.2.1, y2.2.2.2, 0)] : List (Int × Int × Int × Int × Int))))) : Option ((List (Int)) × (List (Int × Int × Int × Int × Int)))) = some _ := hm
         replace hq := someE hq
         subst hq
         exact eX_J (fun hst => ⟨l4 ++ (([x1] : List (Int))), A11, cap11, fp10, l5 ++ (([(y2.1, y2.2.1, y2.2.2.1, y2.2.2.2, 0)] : List (Int × Int × Int × Int × Int))), A10, cap10, fp9, rfl, Fr.of hst (by kernel_rfl), F4, F18, F17, F16, G12, G11, D36, D40, D31, hB, hZ⟩)
       ·skip
        refine wS_bs (enc := encI) ([x1] : List (Int)) [.int .i64 (x1)] (d := 35) (t := 32) (T := 2) (n := 1) (ps := [(0, .int .i64 (x1))]) (by kernel_rfl) el32 encI_ok (by rfl) (by omega) (by omega) (by kernel_rfl) (by rfl) ?_
        intro b7 w19 G13 F19 hc18
        have D41 : Dj [b2] [b7] := Dj.of (lt1 F5.lt) (low1 G13)
        have D42 : Dj fp3 [b7] := Dj.of F6.low (low1 G13)
        have D43 : Dj fp4 [b7] := Dj.of F7.low (low1 G13)
        have D44 : Dj [b3] [b7] := Dj.of (lt1 F9.lt) (low1 G13)
        replace F4 := F4.chg hc18 Dj.nil
        replace F5 := F5.chg hc18 notNil
        replace F6 := F6.chg hc18 Dj.nil
        replace F7 := F7.chg hc18 Dj.nil
        replace F9 := F9.chg hc18 notNil
        replace hB := hB.inS hc18 inNil
        have hSz := hS
        replace hS := hS.inS hc18 inNil
        have Gz4 := low1 (Nat.le_trans hSz.size G13)
        replace G13 := Nat.le_trans hZ G13
        replace G13 := low1 G13
        replace hZ := Nat.le_trans hZ hc18.size
        refine wS_end (by kernel_rfl) ?_
        refine eX_KH hS ?_
        refine wH_all [5] (by rfl) (by kernel_rfl) (by simp) ⟨⟨by kernel_rfl, ?_⟩, trivial⟩
        refine wS_bs (enc := encIIIII) ([(y2.1, y2.2.1, y2.2.2.1, y2.2.2.2, 0)] : List (Int × Int × Int × Int × Int)) [.int .i64 (y2.1), .int .i64 (y2.2.1), .int .i64 (y2.2.2.1), .int .i64 (y2.2.2.2), .int .i64 (0)] (d := 31) (t := 51) (T := 58) (n := 1) (ps := [(0, .agg #[.int .i64 (y2.1), .int .i64 (y2.2.1), .int .i64 (y2.2.2.1), .int .i64 (y2.2.2.2), .int .i64 (0)])]) (by kernel_rfl) el51 encIIIII_ok (by rfl) (by omega) (by omega) (by kernel_rfl) (by rfl) ?_
        intro b8 w20 G14 F20 hc19
        have D45 : Dj [b2] [b8] := Dj.of (lt1 F5.lt) (low1 G14)
        have D46 : Dj fp3 [b8] := Dj.of F6.low (low1 G14)
        have D47 : Dj fp4 [b8] := Dj.of F7.low (low1 G14)
        have D48 : Dj [b3] [b8] := Dj.of (lt1 F9.lt) (low1 G14)
        have D49 : Dj [b7] [b8] := Dj.of F19.low (low1 G14)
        replace F4 := F4.chg hc19 Dj.nil
        replace F5 := F5.chg hc19 notNil
        replace F6 := F6.chg hc19 Dj.nil
        replace F7 := F7.chg hc19 Dj.nil
        replace F9 := F9.chg hc19 notNil
        replace F19 := F19.chg hc19 Dj.nil
        replace hB := hB.inS hc19 inNil
        have hSz := hS
        replace hS := hS.inS hc19 inNil
        have Gz5 := low1 (Nat.le_trans hSz.size G14)
        replace G14 := Nat.le_trans hZ G14
        replace G14 := low1 G14
        replace hZ := Nat.le_trans hZ hc19.size
        refine wS_end (by kernel_rfl) ?_
        refine eX_KH hS ?_
        refine wH_all [6] (by rfl) (by kernel_rfl) (by simp) ⟨⟨by kernel_rfl, ?_⟩, trivial⟩
        obtain ⟨_, hk5, hm⟩ := bindE hm
        replace hk5 := apE hk5
        refine wS_append (enc := encIIIII) (l := (l5 : List (Int × Int × Int × Int × Int))) (l2 := (([(y2.1, y2.2.1, y2.2.2.1, y2.2.2.2, 0)] : List (Int × Int × Int × Int × Int)) : List (Int × Int × Int × Int × Int))) (d := 32) (t := 51) (T := 58) (A := A5) (A2 := (some ⟨b8, 0, none⟩)) (cap := cap5) (cap2 := 1) (by kernel_rfl) el51 encIIIII_ok F7 (F20.sl encIIIII_ok) (by rfl) hk5 ?_
        intro w21 fp11 A12 cap12 F21 hc20 hp5
        have G15 := low_ap G4 hZ hp5
        have D50 : Dj [b2] fp11 := Dj.ap D4 (lt1 F5.lt) hp5
        have D51 : Dj fp3 fp11 := Dj.ap (D3).symm F6.low hp5
        have D52 : Dj [b3] fp11 := Dj.ap (D7).symm (lt1 F9.lt) hp5
        have D53 : Dj [b7] fp11 := Dj.ap (D43).symm F19.low hp5
        have D54 : Dj [b8] fp11 := Dj.ap (D47).symm F20.low hp5
        replace F4 := F4.chg hc20 (Dj.of L0 G4)
        replace F5 := F5.chg hc20 (dj1 D4)
        replace F6 := F6.chg hc20 (D3).symm
        replace F9 := F9.chg hc20 (dj1 (D7).symm)
        replace F19 := F19.chg hc20 (D43).symm
        replace F20 := F20.chg hc20 (D47).symm
        replace hB := hB.inS hc20 (inLow G4)
        have hSz := hS
        replace hS := hS.trans hc20
        have Sn3 := sin_ap (Sg := fp4) (inMem (fun x hx => hx)) hSz.size hp5
        replace hZ := Nat.le_trans hZ hc20.size
        refine wS_end (by kernel_rfl) ?_
        refine eX_KH hS ?_
        refine wH_done (by kernel_rfl) ?_
        refine eX_tail ?_
        obtain ⟨_, hk6, hm⟩ := bindE hm
        replace hk6 := apE hk6
        refine wS_append (enc := encI) (l := (l4 : List (Int))) (l2 := (([x1] : List (Int)) : List (Int))) (d := 36) (t := 32) (T := 2) (A := A4) (A2 := (some ⟨b7, 0, none⟩)) (cap := cap4) (cap2 := 1) (by kernel_rfl) el32 encI_ok F6 (F19.sl encI_ok) (by rfl) hk6 ?_
        intro w22 fp12 A13 cap13 F22 hc21 hp6
        have G16 := low_ap G3 hZ hp6
        have D55 : Dj [b2] fp12 := Dj.ap D2 (lt1 F5.lt) hp6
        have D56 : Dj [b3] fp12 := Dj.ap (D6).symm (lt1 F9.lt) hp6
        have D57 : Dj [b7] fp12 := Dj.ap (D42).symm F19.low hp6
        have D58 : Dj [b8] fp12 := Dj.ap (D46).symm F20.low hp6
        have D59 : Dj fp11 fp12 := Dj.ap (D51).symm F21.low hp6
        replace F4 := F4.chg hc21 (Dj.of L0 G3)
        replace F5 := F5.chg hc21 (dj1 D2)
        replace F9 := F9.chg hc21 (dj1 (D6).symm)
        replace F19 := F19.chg hc21 (D42).symm
        replace F20 := F20.chg hc21 (D46).symm
        replace F21 := F21.chg hc21 (D51).symm
        replace hB := hB.inS hc21 (inLow G3)
        replace hZ := Nat.le_trans hZ hc21.size
        refine wS_pure 1 [(37, .pointer (some ⟨b2, 0, none⟩))] (by kernel_rfl) ?_
        refine wS_store (T := 51) (g := b2) (o := 0) (ad := ⟨b2, 0, none⟩) (v := .slice A12 (l5 ++ (([(y2.1, y2.2.1, y2.2.2.1, y2.2.2.2, 0)] : List (Int × Int × Int × Int × Int)))).length cap12) (vs := [.slice A12 (l5 ++ (([(y2.1, y2.2.1, y2.2.2.1, y2.2.2.2, 0)] : List (Int × Int × Int × Int × Int)))).length cap12]) (by kernel_rfl) (by rfl) sz51 (by rfl) (by rfl) F5 (by simp only [List.length_cons, List.length_nil]; omega) ?_
        intro w23 F23 hc22
        replace F4 := F4.chg hc22 (Dj.of L0 (low1 G2))
        replace F9 := F9.chg hc22 (dj1 (D5).symm)
        replace F19 := F19.chg hc22 (D41).symm
        replace F20 := F20.chg hc22 (D45).symm
        replace F21 := F21.chg hc22 (D50).symm
        replace F22 := F22.chg hc22 (D55).symm
        replace hB := hB.inS hc22 (inLow (low1 G2))
        replace hZ := Nat.le_trans hZ hc22.size
        replace F23 : Cl w23 b2 53 [.slice A12 (l5 ++ (([(y2.1, y2.2.1, y2.2.2.1, y2.2.2.2, 0)] : List (Int × Int × Int × Int × Int)))).length cap12, .slice none 0 0, .slice none 0 0, .int .i64 (0)] := F23
        clear F5
        refine wS_pure 1 [(6, .slice A13 (l4 ++ (([x1] : List (Int)))).length cap13)] (by kernel_rfl) ?_
        refine wS_end (by rfl) ?_
        have hq : (some ((l4 ++ (([x1] : List (Int))), l5 ++ (([(y2.1, y2.2.1, y2.2.2.1, y2.2.2.2, 0)] : List (Int × Int × Int × Int × Int))))) : Option ((List (Int)) × (List (Int × Int × Int × Int × Int)))) = some _ := hm
        replace hq := someE hq
        subst hq
        exact eX_J (fun hst => ⟨l4 ++ (([x1] : List (Int))), A13, cap13, fp12, l5 ++ (([(y2.1, y2.2.1, y2.2.2.1, y2.2.2.2, 0)] : List (Int × Int × Int × Int × Int))), A12, cap12, fp11, rfl, Fr.of hst (by kernel_rfl), F4, F23, F22, F21, G16, G15, D55, D59, D50, hB, hZ⟩)
      ·skip
       refine wS_bs (enc := encI) ([x1] : List (Int)) [.int .i64 (x1)] (d := 35) (t := 32) (T := 2) (n := 1) (ps := [(0, .int .i64 (x1))]) (by kernel_rfl) el32 encI_ok (by rfl) (by omega) (by omega) (by kernel_rfl) (by rfl) ?_
       intro b9 w24 G17 F24 hc23
       have D60 : Dj [b2] [b9] := Dj.of (lt1 F5.lt) (low1 G17)
       have D61 : Dj fp3 [b9] := Dj.of F6.low (low1 G17)
       have D62 : Dj fp4 [b9] := Dj.of F7.low (low1 G17)
       have D63 : Dj [b3] [b9] := Dj.of (lt1 F9.lt) (low1 G17)
       replace F4 := F4.chg hc23 Dj.nil
       replace F5 := F5.chg hc23 notNil
       replace F6 := F6.chg hc23 Dj.nil
       replace F7 := F7.chg hc23 Dj.nil
       replace F9 := F9.chg hc23 notNil
       replace hB := hB.inS hc23 inNil
       have hSz := hS
       replace hS := hS.inS hc23 inNil
       have Gz6 := low1 (Nat.le_trans hSz.size G17)
       replace G17 := Nat.le_trans hZ G17
       replace G17 := low1 G17
       replace hZ := Nat.le_trans hZ hc23.size
       refine wS_end (by kernel_rfl) ?_
       refine eX_KH hS ?_
       refine wH_all [3] (by rfl) (by kernel_rfl) (by simp) ⟨⟨by kernel_rfl, ?_⟩, trivial⟩
       obtain ⟨y3, hy3, hm⟩ := bindE hm
       refine wS_calls (d := 29) (f := 24) (vs := [.agg #[.int .i64 (x2.1), .int .i64 (x2.2)]]) (by kernel_rfl) ent24 (c_impl_leaf hy3) ?_
       rintro _ w25 ⟨rfl, hc24⟩
       replace F4 := F4.chg hc24 Dj.nil
       replace F5 := F5.chg hc24 notNil
       replace F6 := F6.chg hc24 Dj.nil
       replace F7 := F7.chg hc24 Dj.nil
       replace F9 := F9.chg hc24 notNil
       replace F24 := F24.chg hc24 Dj.nil
       replace hB := hB.inS hc24 inNil
       have hSz := hS
       replace hS := hS.inS hc24 inNil
       replace hZ := Nat.le_trans hZ hc24.size
       refine ⟨.agg #[.int .i64 (y3.1), .int .i64 (y3.2.1), .int .i64 (y3.2.2.1), .int .i64 (y3.2.2.2)], rfl, ?_⟩
       refine wS_end (by kernel_rfl) ?_
       refine eX_KH hS ?_
       refine wH_take [4] [4, 3, 9, 8, 7, 2, 1, 0] [(30, .agg #[.int .i64 (y3.1), .int .i64 (y3.2.1), .int .i64 (y3.2.2.1), .int .i64 (y3.2.2.2), .int .i64 (0)])] (by kernel_rfl) (qT (qT (qB (qT (qL (qB (qT (qT qZ)))))))) (by kernel_rfl) ?_
       refine wH_all [5] (by rfl) (by kernel_rfl) (by simp) ⟨⟨by kernel_rfl, ?_⟩, trivial⟩
       refine wS_bs (enc := encIIIII) ([(y3.1, y3.2.1, y3.2.2.1, y3.2.2.2, 0)] : List (Int × Int × Int × Int × Int)) [.int .i64 (y3.1), .int .i64 (y3.2.1), .int .i64 (y3.2.2.1), .int .i64 (y3.2.2.2), .int .i64 (0)] (d := 31) (t := 51) (T := 58) (n := 1) (ps := [(0, .agg #[.int .i64 (y3.1), .int .i64 (y3.2.1), .int .i64 (y3.2.2.1), .int .i64 (y3.2.2.2), .int .i64 (0)])]) (by kernel_rfl) el51 encIIIII_ok (by rfl) (by omega) (by omega) (by kernel_rfl) (by rfl) ?_
       intro b10 w26 G18 F25 hc25
       have D64 : Dj [b2] [b10] := Dj.of (lt1 F5.lt) (low1 G18)
       have D65 : Dj fp3 [b10] := Dj.of F6.low (low1 G18)
       have D66 : Dj fp4 [b10] := Dj.of F7.low (low1 G18)
       have D67 : Dj [b3] [b10] := Dj.of (lt1 F9.lt) (low1 G18)
       have D68 : Dj [b9] [b10] := Dj.of F24.low (low1 G18)
       replace F4 := F4.chg hc25 Dj.nil
       replace F5 := F5.chg hc25 notNil
       replace F6 := F6.chg hc25 Dj.nil
       replace F7 := F7.chg hc25 Dj.nil
       replace F9 := F9.chg hc25 notNil
       replace F24 := F24.chg hc25 Dj.nil
       replace hB := hB.inS hc25 inNil
       have hSz := hS
       replace hS := hS.inS hc25 inNil
       have Gz7 := low1 (Nat.le_trans hSz.size G18)
       replace G18 := Nat.le_trans hZ G18
       replace G18 := low1 G18
       replace hZ := Nat.le_trans hZ hc25.size
       refine wS_end (by kernel_rfl) ?_
       refine eX_KH hS ?_
       refine wH_all [6] (by rfl) (by kernel_rfl) (by simp) ⟨⟨by kernel_rfl, ?_⟩, trivial⟩
       obtain ⟨_, hk7, hm⟩ := bindE hm
       replace hk7 := apE hk7
       refine wS_append (enc := encIIIII) (l := (l5 : List (Int × Int × Int × Int × Int))) (l2 := (([(y3.1, y3.2.1, y3.2.2.1, y3.2.2.2, 0)] : List (Int × Int × Int × Int × Int)) : List (Int × Int × Int × Int × Int))) (d := 32) (t := 51) (T := 58) (A := A5) (A2 := (some ⟨b10, 0, none⟩)) (cap := cap5) (cap2 := 1) (by kernel_rfl) el51 encIIIII_ok F7 (F25.sl encIIIII_ok) (by rfl) hk7 ?_
       intro w27 fp13 A14 cap14 F26 hc26 hp7
       have G19 := low_ap G4 hZ hp7
       have D69 : Dj [b2] fp13 := Dj.ap D4 (lt1 F5.lt) hp7
       have D70 : Dj fp3 fp13 := Dj.ap (D3).symm F6.low hp7
       have D71 : Dj [b3] fp13 := Dj.ap (D7).symm (lt1 F9.lt) hp7
       have D72 : Dj [b9] fp13 := Dj.ap (D62).symm F24.low hp7
       have D73 : Dj [b10] fp13 := Dj.ap (D66).symm F25.low hp7
       replace F4 := F4.chg hc26 (Dj.of L0 G4)
       replace F5 := F5.chg hc26 (dj1 D4)
       replace F6 := F6.chg hc26 (D3).symm
       replace F9 := F9.chg hc26 (dj1 (D7).symm)
       replace F24 := F24.chg hc26 (D62).symm
       replace F25 := F25.chg hc26 (D66).symm
       replace hB := hB.inS hc26 (inLow G4)
       have hSz := hS
       replace hS := hS.trans hc26
       have Sn4 := sin_ap (Sg := fp4) (inMem (fun x hx => hx)) hSz.size hp7
       replace hZ := Nat.le_trans hZ hc26.size
       refine wS_end (by kernel_rfl) ?_
       refine eX_KH hS ?_
       refine wH_done (by kernel_rfl) ?_
       refine eX_tail ?_
       obtain ⟨_, hk8, hm⟩ := bindE hm
       replace hk8 := apE hk8
       refine wS_append (enc := encI) (l := (l4 : List (Int))) (l2 := (([x1] : List (Int)) : List (Int))) (d := 36) (t := 32) (T := 2) (A := A4) (A2 := (some ⟨b9, 0, none⟩)) (cap := cap4) (cap2 := 1) (by kernel_rfl) el32 encI_ok F6 (F24.sl encI_ok) (by rfl) hk8 ?_
       intro w28 fp14 A15 cap15 F27 hc27 hp8
       have G20 := low_ap G3 hZ hp8
       have D74 : Dj [b2] fp14 := Dj.ap D2 (lt1 F5.lt) hp8
       have D75 : Dj [b3] fp14 := Dj.ap (D6).symm (lt1 F9.lt) hp8
       have D76 : Dj [b9] fp14 := Dj.ap (D61).symm F24.low hp8
       have D77 : Dj [b10] fp14 := Dj.ap (D65).symm F25.low hp8
       have D78 : Dj fp13 fp14 := Dj.ap (D70).symm F26.low hp8
       replace F4 := F4.chg hc27 (Dj.of L0 G3)
       replace F5 := F5.chg hc27 (dj1 D2)
       replace F9 := F9.chg hc27 (dj1 (D6).symm)
       replace F24 := F24.chg hc27 (D61).symm
       replace F25 := F25.chg hc27 (D65).symm
       replace F26 := F26.chg hc27 (D70).symm
       replace hB := hB.inS hc27 (inLow G3)
       replace hZ := Nat.le_trans hZ hc27.size
       refine wS_pure 1 [(37, .pointer (some ⟨b2, 0, none⟩))] (by kernel_rfl) ?_
       refine wS_store (T := 51) (g := b2) (o := 0) (ad := ⟨b2, 0, none⟩) (v := .slice A14 (l5 ++ (([(y3.1, y3.2.1, y3.2.2.1, y3.2.2.2, 0)] : List (Int × Int × Int × Int × Int)))).length cap14) (vs := [.slice A14 (l5 ++ (([(y3.1, y3.2.1, y3.2.2.1, y3.2.2.2, 0)] : List (Int × Int × Int × Int × Int)))).length cap14]) (by kernel_rfl) (by rfl) sz51 (by rfl) (by rfl) F5 (by simp only [List.length_cons, List.length_nil]; omega) ?_
       intro w29 F28 hc28
       replace F4 := F4.chg hc28 (Dj.of L0 (low1 G2))
       replace F9 := F9.chg hc28 (dj1 (D5).symm)
       replace F24 := F24.chg hc28 (D60).symm
       replace F25 := F25.chg hc28 (D64).symm
       replace F26 := F26.chg hc28 (D69).symm
       replace F27 := F27.chg hc28 (D74).symm
       replace hB := hB.inS hc28 (inLow (low1 G2))
       replace hZ := Nat.le_trans hZ hc28.size
       replace F28 : Cl w29 b2 53 [.slice A14 (l5 ++ (([(y3.1, y3.2.1, y3.2.2.1, y3.2.2.2, 0)] : List (Int × Int × Int × Int × Int)))).length cap14, .slice none 0 0, .slice none 0 0, .int .i64 (0)] := F28
       clear F5
       refine wS_pure 1 [(6, .slice A15 (l4 ++ (([x1] : List (Int)))).length cap15)] (by kernel_rfl) ?_
       refine wS_end (by rfl) ?_
       have hq : (some ((l4 ++ (([x1] : List (Int))), l5 ++ (([(y3.1, y3.2.1, y3.2.2.1, y3.2.2.2, 0)] : List (Int × Int × Int × Int × Int))))) : Option ((List (Int)) × (List (Int × Int × Int × Int × Int)))) = some _ := hm
       replace hq := someE hq
       subst hq
       exact eX_J (fun hst => ⟨l4 ++ (([x1] : List (Int))), A15, cap15, fp14, l5 ++ (([(y3.1, y3.2.1, y3.2.2.1, y3.2.2.2, 0)] : List (Int × Int × Int × Int × Int))), A14, cap14, fp13, rfl, Fr.of hst (by kernel_rfl), F4, F28, F27, F26, G20, G19, D74, D78, D69, hB, hZ⟩)
     ·rintro a' w30 ⟨l6, A6, cap6, fp5, l7, A7, cap7, fp6, hJ, hF2, F29, F30, F31, F32, G21, G22, D79, D80, D81, hB, hZ⟩
      subst hJ
      refine Fr.goX hF2 (by kernel_rfl) ?_
      refine eX_block ?_
      refine eX_then ?_
      refine cW_region ?_
      refine wS_pure 2 [(21, .int .i64 (wr (x1 + 1))), (38, .int .i64 (wr (x1 + 1)))] (by kernel_rfl) ?_
      refine wS_end (by rfl) ?_
      have hq : (some (Ctl.next ((l6, wr (x1 + 1), l7))) : Option (Ctl ((List (Int)) × Int × (List (Int × Int × Int × Int × Int))) ((List (Int)) × (List (Int × Int × Int × Int × Int))))) = some _ := hm
      replace hq := someE hq
      subst hq
      exact eX_next hx1 (fun hst => ⟨l6, A6, cap6, fp5, wr (x1 + 1), l7, A7, cap7, fp6, rfl, Fr.of hst (by kernel_rfl), F29, F30, F31, F32, G21, G22, D79, D80, D81, hB, hZ⟩)
    ·have hm := condF hb3 hm
     refine cW_exit ?_
     refine eX_then_exit ?_
     have hq : (some (Ctl.out ((l4, l5))) : Option (Ctl ((List (Int)) × Int × (List (Int × Int × Int × Int × Int))) ((List (Int)) × (List (Int × Int × Int × Int × Int))))) = some _ := hm
     replace hq := someE hq
     subst hq
     refine eX_outX hx1 (fun hr2 => ?_)
     replace hr2 := hr2.symm
     subst hr2
     refine eX_block_hit ?_
     exact eX_J (fun hst => ⟨l4, A4, cap4, fp3, l5, A5, cap5, fp4, rfl, Fr.of hst (by kernel_rfl), F5, F6, F7, G3, G4, D2, D3, D4, hB, hZ⟩)
   ·rintro a' w31 ⟨l1, A1, cap1, fp1, l3, A3, cap3, fp2, hJ, hF3, F33, F34, F35, G23, G24, D82, D83, D84, hB, hZ⟩
    subst hJ
    refine Fr.goX hF3 (by kernel_rfl) ?_
    refine eX_then ?_
    refine cW_seq ?_
    refine cW_region ?_
    refine wS_pure 1 [(39, .slice A1 (l1).length cap1)] (by kernel_rfl) ?_
    have F36 := ZLow.nil (w := w31)
    have F37 := OwR.nilz (k := 1) (enc := encI) (T := 32) (T2 := 2) F36
    have F38 := OwR.nilz (k := 1) (enc := encI) (T := 32) (T2 := 2) F36
    obtain ⟨y4, hy4, hm⟩ := bindE hm
    refine wS_calls (d := 40) (f := 25) (vs := [.pointer (some ⟨b2, 0, none⟩), .slice A1 (l1).length cap1, .int .i64 (0)]) (by kernel_rfl) ent25 (c_impl_chooser_choose_bimplchooser 64 hy4 F35 F37 F38 rfl F33 (F34.sl encI_ok) F34.cap_le F36 D84 Dj.nil Dj.nil D82 Dj.nil Dj.nil Dj.nil D83 Dj.nil Dj.nil (Dj.nil).symm (Dj.nil).symm (Dj.nil).symm (Dj.nil).symm) ?_
    rintro _ w32 ⟨A16, cap16, fp15, A17, cap17, fp16, A18, cap18, fp17, fz1, rfl, D85, D86, D87, D88, D89, D90, F39, F40, hap1, F41, hap2, F42, hap3, hz1, FZ1, hap4, hc29⟩
    have G25 := Rt.lowof hap4 hZ lowNil
    have D91 : Dj [b2] fz1 := Dj.ap Dj.nil (lt1 F33.lt) hap4
    have D92 : Dj fp1 fz1 := Dj.ap Dj.nil F34.low hap4
    have G26 := Rt.lowof hap1 hZ G24
    have D93 : Dj [b2] fp15 := Dj.ap D84 (lt1 F33.lt) hap1
    have D94 : Dj fp1 fp15 := Dj.ap (D83).symm F34.low hap1
    have G27 := Rt.lowof hap2 hZ lowNil
    have D95 : Dj [b2] fp16 := Dj.ap Dj.nil (lt1 F33.lt) hap2
    have D96 : Dj fp1 fp16 := Dj.ap Dj.nil F34.low hap2
    have G28 := Rt.lowof hap3 hZ lowNil
    have D97 : Dj [b2] fp17 := Dj.ap Dj.nil (lt1 F33.lt) hap3
    have D98 : Dj fp1 fp17 := Dj.ap Dj.nil F34.low hap3
    replace F34 := F34.chg hc29 (Dj.app (D82).symm (Dj.app (D83).symm (Dj.app Dj.nil (Dj.app Dj.nil Dj.nil))))
    replace F36 := F36.chg hc29 (Dj.app (Dj.nil).symm (Dj.app (Dj.nil).symm (Dj.app Dj.nil (Dj.app Dj.nil Dj.nil))))
    replace hB := hB.inS hc29 (inApp (inLow (low1 G2)) (inApp (inLow G24) (inApp (inLow lowNil) (inApp (inLow lowNil) inNil))))
    replace hZ := Nat.le_trans hZ hc29.size
    clear F33
    refine ⟨.tuple #[], rfl, ?_⟩
    refine wS_end (by rfl) ?_
    refine eX_then ?_
    refine cW_seq ?_
    refine cW_seq ?_
    refine cW_region ?_
    refine wS_pure 1 [(41, .pointer (some ⟨b2, 2, none⟩))] (by kernel_rfl) ?_
    refine wS_load1 (d := 42) (T := 26) (ad := ⟨b2, 2, none⟩) (v := .slice A18 (y4.2.2.2.1).length cap18) (by kernel_rfl) vt26 ((F39).cell 2) ?_
    refine wS_pure 1 [(43, .bool (y4.2.2.2.2))] (by rw [← hz1]; rcases A18 with _ | _ <;> kernel_rfl) ?_
    refine wS_end (by rfl) ?_
    refine eX_then ?_
    refine cW_cond (t := y4.2.2.2.2) (by kernel_rfl) (fun hb4 => ?_) (fun hb4 => ?_)
    ·have hm := condT hb4 hm
     refine cW_seq ?_
     refine cW_region ?_
     refine wS_pure 3 [(4, .bool (false)), (3, .int .i64 (0)), (2, .slice none 0 0)] (by kernel_rfl) ?_
     refine wS_end (by rfl) ?_
     refine eX_then ?_
     refine cW_ret ?_
     refine eX_then_ret ?_
     have hq : (some (([], 0, false)) : Option ((List (List (Int))) × (Int) × (Bool))) = some _ := hm
     replace hq := someE hq
     subst hq
     refine eX_ret (vs := [.slice none 0 0, .int .i64 (0), .bool (false)]) [.tmp 2, .tmp 3, .tmp 4] (by rfl) ⟨by (show lkE _ _ _ = _); kernel_rfl, ⟨by (show lkE _ _ _ = _); kernel_rfl, ⟨by (show lkE _ _ _ = _); kernel_rfl, trivial⟩⟩⟩ ?_
     exact ⟨none, 0, [], [], rfl, OwR.nil _, (lowApp lowNil lowNil), hB⟩
    ·have hm := condF hb4 hm
     refine cW_skip ?_
     refine eX_then ?_
     refine cW_seq ?_
     refine cW_drawnTail [] 5 (by kernel_rfl) (by kernel_rfl) (fun w33 hc30 => ?_)
     replace F39 := F39.chg hc30 notNil
     replace F34 := F34.chg hc30 Dj.nil
     replace FZ1 := FZ1.chg hc30 Dj.nil
     replace F40 := F40.chg hc30 Dj.nil
     replace F41 := F41.chg hc30 Dj.nil
     replace F42 := F42.chg hc30 Dj.nil
     replace hB := hB.inS hc30 inNil
     replace hZ := Nat.le_trans hZ hc30.size
     have hS := Chg.refl [] w33
     have Z6 := F39
     have Z7 := F34
     have Z8 := FZ1
     have Z9 := F40
     have Z10 := F41
     have Z11 := F42
     refine wH_take [0] [0] [(44, .pointer (some ⟨b2, 2, none⟩))] (by kernel_rfl) (qT (qT qZ)) (by kernel_rfl) ?_
     refine wH_load1 (i := 1) (d := 45) (T := 26) (ad := ⟨b2, 2, none⟩) (v := .slice A18 (y4.2.2.2.1).length cap18) (by kernel_rfl) (qT (qT qZ)) (by kernel_rfl) (by kernel_rfl) vt26 (fun W hW => (Z6.chg hW notNil).cell 2) ?_
     refine wH_take [2] [2, 1, 0] [(46, .pointer (some ⟨b2, 3, none⟩))] (by kernel_rfl) (qT (qT qZ)) (by kernel_rfl) ?_
     refine wH_load1 (i := 3) (d := 47) (T := 2) (ad := ⟨b2, 3, none⟩) (v := .int .i64 (y4.1)) (by kernel_rfl) (qT (qT qZ)) (by kernel_rfl) (by kernel_rfl) vt2 (fun W hW => (Z6.chg hW notNil).cell 3) ?_
     refine wH_take [4] [4, 3, 2, 1, 0] [(2, .slice A18 (y4.2.2.2.1).length cap18)] (by kernel_rfl) (qT (qT qZ)) (by kernel_rfl) ?_
     refine wH_done (by kernel_rfl) ?_
     refine eX_tail ?_
     refine wS_pure 2 [(4, .bool (true)), (3, .int .i64 (y4.1))] (by kernel_rfl) ?_
     refine wS_end (by rfl) ?_
     refine eX_then ?_
     refine cW_ret ?_
     have hq : (some ((y4.2.2.2.1, y4.1, true)) : Option ((List (List (Int))) × (Int) × (Bool))) = some _ := hm
     replace hq := someE hq
     subst hq
     refine eX_ret (vs := [.slice A18 (y4.2.2.2.1).length cap18, .int .i64 (y4.1), .bool (true)]) [.tmp 2, .tmp 3, .tmp 4] (by rfl) ⟨by (show lkE _ _ _ = _); kernel_rfl, ⟨by (show lkE _ _ _ = _); kernel_rfl, ⟨by (show lkE _ _ _ = _); kernel_rfl, trivial⟩⟩⟩ ?_
     exact ⟨A18, cap18, fp17, fz1, rfl, F42, (lowApp G28 G25), hB⟩

set_option maxRecDepth 100000 in
/-- laws.szPointS -/
theorem c_laws_szPointS {w0 : World} {l0 : List (Int × Int)} {A0 : Option Addr} {cap0 : Nat} {fp0 : List Nat} {p1 : Int} {r : (Int)} (hm : m_laws_szPointS l0 p1 = some r) (F0 : Sl 2 encII w0 fp0 A0 l0) :
  Calls Try.prog 13 #[.slice A0 (l0).length cap0, .int .i64 (p1)] w0 fun e w' => e = .returned (.int .i64 (r)) ∧ Chg [] w0 w' := by
 have L0 := F0.low
 have hB : Chg [] w0 w0 := Chg.refl _ _
 have hZ := Nat.le_refl w0.heap.size
 unfold m_laws_szPointS at hm
 refine enterE (N := 12) Try.func13 (by rfl) Try.ntmps13 (by simp) [(0, .slice A0 (l0).length cap0), (1, .int .i64 (p1))] (by rfl) (by kernel_rfl) (fun a => ?_)
 refine cW_seq ?_
 refine cW_region ?_
 refine wS_pure 1 [(4, .int .i64 (0))] (by kernel_rfl) ?_
 refine wS_end (by rfl) ?_
 refine eX_then ?_
 refine cW_seq ?_
 refine cW_region ?_
 refine wS_pure 5 [(1, .int .i64 (wr (p1 - (((l0).length : Int))))), (8, .int .i64 (wr (p1 - (((l0).length : Int))))), (7, .int .i64 (((l0).length : Int))), (6, .slice A0 (l0).length cap0), (5, .int .i64 (p1))] (by kernel_rfl) ?_
 refine wS_end (by rfl) ?_
 refine eX_then ?_
 refine cW_seq ?_
 refine cW_seq ?_
 refine cW_region ?_
 refine wS_pure 2 [(10, .bool (decide ((wr (p1 - (((l0).length : Int)))) < 0))), (9, .int .i64 (wr (p1 - (((l0).length : Int)))))] (by kernel_rfl) ?_
 refine wS_end (by rfl) ?_
 refine eX_then ?_
 refine cW_cond (t := decide ((wr (p1 - (((l0).length : Int)))) < 0)) (by kernel_rfl) (fun hb1 => ?_) (fun hb1 => ?_)
 ·have hm := condT hb1 hm
  refine cW_seq ?_
  refine cW_region ?_
  refine wS_pure 1 [(4, .int .i64 ((-1)))] (by kernel_rfl) ?_
  refine wS_end (by rfl) ?_
  refine eX_then ?_
  refine cW_ret ?_
  refine eX_then_ret ?_
  have hq : (some ((-1)) : Option ((Int))) = some _ := hm
  replace hq := someE hq
  subst hq
  refine eX_ret (vs := [.int .i64 ((-1))]) [.tmp 4] (by rfl) ⟨by (show lkE _ _ _ = _); kernel_rfl, trivial⟩ ?_
  exact ⟨rfl, hB⟩
 ·have hm := condF hb1 hm
  refine cW_skip ?_
  refine eX_then ?_
  refine cW_seq ?_
  refine cW_region ?_
  refine wS_pure 2 [(4, .int .i64 (wr (p1 - (((l0).length : Int))))), (11, .int .i64 (wr (p1 - (((l0).length : Int)))))] (by kernel_rfl) ?_
  refine wS_end (by rfl) ?_
  refine eX_then ?_
  refine cW_ret ?_
  have hq : (some (wr (p1 - (((l0).length : Int)))) : Option ((Int))) = some _ := hm
  replace hq := someE hq
  subst hq
  refine eX_ret (vs := [.int .i64 (wr (p1 - (((l0).length : Int))))]) [.tmp 4] (by rfl) ⟨by (show lkE _ _ _ = _); kernel_rfl, trivial⟩ ?_
  exact ⟨rfl, hB⟩

end Go.Proofs.Ytfjpfomdoohabaa
