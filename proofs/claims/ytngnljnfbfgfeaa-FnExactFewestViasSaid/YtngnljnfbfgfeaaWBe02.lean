/- Printed walks: (*impl.Wiring).best$1, (*impl.Wiring).best, impl.FewestVias, impl.CountBest, spec.l00In, spec.l03Less, spec.l07Lists, spec.l07Is. -/
import Derived.Test.YtngnljnfbfgfeaaProg
import Derived.Test.YtngnljnfbfgfeaaWBe01
set_option linter.unusedSimpArgs false
set_option linter.unusedVariables false
namespace Go.Proofs.Ytngnljnfbfgfeaa
open Go.RowKit
attribute [local irreducible] wS cW eX wH

theorem ent16 : Ent Try.prog 16 := fun _ => by kernel_rfl
theorem ent54 : Ent Try.prog 54 := fun _ => by kernel_rfl
theorem ent55 : Ent Try.prog 55 := fun _ => by kernel_rfl
theorem ent87 : Ent Try.prog 87 := fun _ => by kernel_rfl
theorem ent91 : Ent Try.prog 91 := fun _ => by kernel_rfl
theorem ent92 : Ent Try.prog 92 := fun _ => by kernel_rfl
theorem ent93 : Ent Try.prog 93 := fun _ => by kernel_rfl
theorem ent103 : Ent Try.prog 103 := fun _ => by kernel_rfl
theorem ent128 : Ent Try.prog 128 := fun _ => by kernel_rfl
theorem vt1 : VarTy Try.prog 1 1 false := ⟨by kernel_rfl, by kernel_rfl⟩
theorem vt27 : VarTy Try.prog 27 4 true := ⟨by kernel_rfl, by kernel_rfl⟩
theorem vt77 : VarTy Try.prog 77 1 false := ⟨by kernel_rfl, by kernel_rfl⟩
theorem vt87 : VarTy Try.prog 87 1 false := ⟨by kernel_rfl, by kernel_rfl⟩
theorem el25 : ElTy Try.prog 25 2 1 (.int .i64 (0)) := ElTy.mk' Try.underlying25 (by kernel_rfl) (by rfl)
theorem sz1 : pureRun Try.prog (sizeOf 1) = some 1 := by kernel_rfl
theorem sz2 : pureRun Try.prog (sizeOf 2) = some 1 := by kernel_rfl
theorem sz3 : pureRun Try.prog (sizeOf 3) = some 1 := by kernel_rfl
theorem sz25 : pureRun Try.prog (sizeOf 25) = some 1 := by kernel_rfl
theorem sz77 : pureRun Try.prog (sizeOf 77) = some 1 := by kernel_rfl

set_option maxRecDepth 100000 in
/-- impl.Wiring).best$1 -/
theorem c_impl_Wiring_best_1_bint64_bimplWiring_bimplWiring_bint64_bint64_bint64_bimplgraph_bfunc_self_body {R : (List (Int)) → (Int) → (List (List (Int))) → (List (List (Int))) → (List (Int)) → (List (Int)) → (Bool) → (Int) → (Int) → (List (List (Int))) → Option ((Int) × (Int) × (List (Int)) × (List (Int)) × (Bool))} (hR : ∀ {w0 : World} {l0_0 : List (Int)} {A0_0 : Option Addr} {cap0_0 : Nat} {fp0_0 : List Nat} {b0 : Nat} {q1_0_0 : Int} {l1_0_1 : List (List (Int))} {A1_0_1 : Option Addr} {cap1_0_1 : Nat} {fp1_0_1 : List Nat} {l1_0_2 : List (List (Int))} {A1_0_2 : Option Addr} {cap1_0_2 : Nat} {fp1_0_2 : List Nat} {l1_0_3 : List (Int)} {A1_0_3 : Option Addr} {cap1_0_3 : Nat} {fp1_0_3 : List Nat} {b1_0 : Nat} {b1 : Nat} {l2_0 : List (Int)} {A2_0 : Option Addr} {cap2_0 : Nat} {fp2_0 : List Nat} {z2_0 : Bool} {b2 : Nat} {q3_0 : Int} {b3 : Nat} {q4_0 : Int} {b4 : Nat} {l5_0 : List (List (Int))} {A5_0 : Option Addr} {cap5_0 : Nat} {fp5_0 : List Nat} {b5 : Nat} {b6 : Nat} {r : (Int) × (Int) × (List (Int)) × (List (Int)) × (Bool)} (hm : R l0_0 q1_0_0 l1_0_1 l1_0_2 l1_0_3 l2_0 z2_0 q3_0 q4_0 l5_0 = some r) (F0_0 : Ow 1 encI 2 w0 fp0_0 A0_0 cap0_0 l0_0) (F0 : Cl w0 b0 25 [.slice A0_0 (l0_0).length cap0_0]) (F1_0_1 : SlR 1 encI w0 fp1_0_1 A1_0_1 l1_0_1) (F1_0_2 : SlR 1 encI w0 fp1_0_2 A1_0_2 l1_0_2) (F1_0_3 : Sl 1 encI w0 fp1_0_3 A1_0_3 l1_0_3) (F1_0 : Cl w0 b1_0 27 [.int .i64 (q1_0_0), .slice A1_0_1 (l1_0_1).length cap1_0_1, .slice A1_0_2 (l1_0_2).length cap1_0_2, .slice A1_0_3 (l1_0_3).length cap1_0_3]) (F1 : Cl w0 b1 87 [.pointer (some ⟨b1_0, 0, none⟩)]) (F2_0 : Ow 1 encI 2 w0 fp2_0 A2_0 cap2_0 l2_0) (Z2_0 : A2_0.isNone = z2_0) (F2 : Cl w0 b2 25 [.slice A2_0 (l2_0).length cap2_0]) (F3 : Cl w0 b3 2 [.int .i64 (q3_0)]) (F4 : Cl w0 b4 2 [.int .i64 (q4_0)]) (F5_0 : SlR 1 encI w0 fp5_0 A5_0 l5_0) (F5 : Cl w0 b5 77 [.slice A5_0 (l5_0).length cap5_0]) (F6 : Cl w0 b6 1 [.func (.func 91) #[] #[.pointer (some ⟨b0, 0, none⟩), .pointer (some ⟨b1, 0, none⟩), .pointer (some ⟨b2, 0, none⟩), .pointer (some ⟨b3, 0, none⟩), .pointer (some ⟨b4, 0, none⟩), .pointer (some ⟨b5, 0, none⟩), .pointer (some ⟨b6, 0, none⟩)]]) (J0__0_0 : Dj [b0] fp0_0) (J0__1_0_1 : Dj [b0] fp1_0_1) (J0__1_0_2 : Dj [b0] fp1_0_2) (J0__1_0_3 : Dj [b0] fp1_0_3) (J0__1_0 : Dj [b0] [b1_0]) (J0__1 : Dj [b0] [b1]) (J0__2_0 : Dj [b0] fp2_0) (J0__2 : Dj [b0] [b2]) (J0__3 : Dj [b0] [b3]) (J0__4 : Dj [b0] [b4]) (J0__5_0 : Dj [b0] fp5_0) (J0__5 : Dj [b0] [b5]) (J0__6 : Dj [b0] [b6]) (J2__0_0 : Dj [b2] fp0_0) (J2__1_0_1 : Dj [b2] fp1_0_1) (J2__1_0_2 : Dj [b2] fp1_0_2) (J2__1_0_3 : Dj [b2] fp1_0_3) (J2__1_0 : Dj [b2] [b1_0]) (J2__1 : Dj [b2] [b1]) (J2__2_0 : Dj [b2] fp2_0) (J2__3 : Dj [b2] [b3]) (J2__4 : Dj [b2] [b4]) (J2__5_0 : Dj [b2] fp5_0) (J2__5 : Dj [b2] [b5]) (J2__6 : Dj [b2] [b6]) (J3__0_0 : Dj [b3] fp0_0) (J3__1_0_1 : Dj [b3] fp1_0_1) (J3__1_0_2 : Dj [b3] fp1_0_2) (J3__1_0_3 : Dj [b3] fp1_0_3) (J3__1_0 : Dj [b3] [b1_0]) (J3__1 : Dj [b3] [b1]) (J3__2_0 : Dj [b3] fp2_0) (J3__4 : Dj [b3] [b4]) (J3__5_0 : Dj [b3] fp5_0) (J3__5 : Dj [b3] [b5]) (J3__6 : Dj [b3] [b6]) (J4__0_0 : Dj [b4] fp0_0) (J4__1_0_1 : Dj [b4] fp1_0_1) (J4__1_0_2 : Dj [b4] fp1_0_2) (J4__1_0_3 : Dj [b4] fp1_0_3) (J4__1_0 : Dj [b4] [b1_0]) (J4__1 : Dj [b4] [b1]) (J4__2_0 : Dj [b4] fp2_0) (J4__5_0 : Dj [b4] fp5_0) (J4__5 : Dj [b4] [b5]) (J4__6 : Dj [b4] [b6]) (J0_0__1_0_1 : Dj fp0_0 fp1_0_1) (J0_0__1_0_2 : Dj fp0_0 fp1_0_2) (J0_0__1_0_3 : Dj fp0_0 fp1_0_3) (J0_0__1_0 : Dj fp0_0 [b1_0]) (J0_0__1 : Dj fp0_0 [b1]) (J0_0__2_0 : Dj fp0_0 fp2_0) (J0_0__5_0 : Dj fp0_0 fp5_0) (J0_0__5 : Dj fp0_0 [b5]) (J0_0__6 : Dj fp0_0 [b6]) (J2_0__1_0_1 : Dj fp2_0 fp1_0_1) (J2_0__1_0_2 : Dj fp2_0 fp1_0_2) (J2_0__1_0_3 : Dj fp2_0 fp1_0_3) (J2_0__1_0 : Dj fp2_0 [b1_0]) (J2_0__1 : Dj fp2_0 [b1]) (J2_0__5_0 : Dj fp2_0 fp5_0) (J2_0__5 : Dj fp2_0 [b5]) (J2_0__6 : Dj fp2_0 [b6]), Calls Try.prog 91 #[.pointer (some ⟨b0, 0, none⟩), .pointer (some ⟨b1, 0, none⟩), .pointer (some ⟨b2, 0, none⟩), .pointer (some ⟨b3, 0, none⟩), .pointer (some ⟨b4, 0, none⟩), .pointer (some ⟨b5, 0, none⟩), .pointer (some ⟨b6, 0, none⟩)] w0 fun e w' => ∃ At0_0 capt0_0 fpt0_0, ∃ At2_0 capt2_0 fpt2_0, e = .returned (.tuple #[]) ∧ Dj fpt0_0 fpt2_0 ∧ Cl w' b0 25 [.slice At0_0 (r.2.2.1).length capt0_0] ∧ Cl w' b2 25 [.slice At2_0 (r.2.2.2.1).length capt2_0] ∧ Cl w' b3 2 [.int .i64 (r.1)] ∧ Cl w' b4 2 [.int .i64 (r.2.1)] ∧ Ow 1 encI 2 w' fpt0_0 At0_0 capt0_0 r.2.2.1 ∧ Rt w0.heap.size fp0_0 fpt0_0 ∧ Ow 1 encI 2 w' fpt2_0 At2_0 capt2_0 r.2.2.2.1 ∧ Rt w0.heap.size fp2_0 fpt2_0 ∧ At2_0.isNone = r.2.2.2.2 ∧ Chg ([b0] ++ ([b2] ++ ([b3] ++ ([b4] ++ (fp0_0 ++ (fp2_0 ++ [])))))) w0 w') {w0 : World} {l0_0 : List (Int)} {A0_0 : Option Addr} {cap0_0 : Nat} {fp0_0 : List Nat} {b0 : Nat} {q1_0_0 : Int} {l1_0_1 : List (List (Int))} {A1_0_1 : Option Addr} {cap1_0_1 : Nat} {fp1_0_1 : List Nat} {l1_0_2 : List (List (Int))} {A1_0_2 : Option Addr} {cap1_0_2 : Nat} {fp1_0_2 : List Nat} {l1_0_3 : List (Int)} {A1_0_3 : Option Addr} {cap1_0_3 : Nat} {fp1_0_3 : List Nat} {b1_0 : Nat} {b1 : Nat} {l2_0 : List (Int)} {A2_0 : Option Addr} {cap2_0 : Nat} {fp2_0 : List Nat} {z2_0 : Bool} {b2 : Nat} {q3_0 : Int} {b3 : Nat} {q4_0 : Int} {b4 : Nat} {l5_0 : List (List (Int))} {A5_0 : Option Addr} {cap5_0 : Nat} {fp5_0 : List Nat} {b5 : Nat} {b6 : Nat} {r : (Int) × (Int) × (List (Int)) × (List (Int)) × (Bool)} (hm : m_impl_Wiring_best_1_bint64_bimplWiring_bimplWiring_bint64_bint64_bint64_bimplgraph_bfunc_self_body R l0_0 q1_0_0 l1_0_1 l1_0_2 l1_0_3 l2_0 z2_0 q3_0 q4_0 l5_0 = some r) (F0_0 : Ow 1 encI 2 w0 fp0_0 A0_0 cap0_0 l0_0) (F0 : Cl w0 b0 25 [.slice A0_0 (l0_0).length cap0_0]) (F1_0_1 : SlR 1 encI w0 fp1_0_1 A1_0_1 l1_0_1) (F1_0_2 : SlR 1 encI w0 fp1_0_2 A1_0_2 l1_0_2) (F1_0_3 : Sl 1 encI w0 fp1_0_3 A1_0_3 l1_0_3) (F1_0 : Cl w0 b1_0 27 [.int .i64 (q1_0_0), .slice A1_0_1 (l1_0_1).length cap1_0_1, .slice A1_0_2 (l1_0_2).length cap1_0_2, .slice A1_0_3 (l1_0_3).length cap1_0_3]) (F1 : Cl w0 b1 87 [.pointer (some ⟨b1_0, 0, none⟩)]) (F2_0 : Ow 1 encI 2 w0 fp2_0 A2_0 cap2_0 l2_0) (Z2_0 : A2_0.isNone = z2_0) (F2 : Cl w0 b2 25 [.slice A2_0 (l2_0).length cap2_0]) (F3 : Cl w0 b3 2 [.int .i64 (q3_0)]) (F4 : Cl w0 b4 2 [.int .i64 (q4_0)]) (F5_0 : SlR 1 encI w0 fp5_0 A5_0 l5_0) (F5 : Cl w0 b5 77 [.slice A5_0 (l5_0).length cap5_0]) (F6 : Cl w0 b6 1 [.func (.func 91) #[] #[.pointer (some ⟨b0, 0, none⟩), .pointer (some ⟨b1, 0, none⟩), .pointer (some ⟨b2, 0, none⟩), .pointer (some ⟨b3, 0, none⟩), .pointer (some ⟨b4, 0, none⟩), .pointer (some ⟨b5, 0, none⟩), .pointer (some ⟨b6, 0, none⟩)]]) (J0__0_0 : Dj [b0] fp0_0) (J0__1_0_1 : Dj [b0] fp1_0_1) (J0__1_0_2 : Dj [b0] fp1_0_2) (J0__1_0_3 : Dj [b0] fp1_0_3) (J0__1_0 : Dj [b0] [b1_0]) (J0__1 : Dj [b0] [b1]) (J0__2_0 : Dj [b0] fp2_0) (J0__2 : Dj [b0] [b2]) (J0__3 : Dj [b0] [b3]) (J0__4 : Dj [b0] [b4]) (J0__5_0 : Dj [b0] fp5_0) (J0__5 : Dj [b0] [b5]) (J0__6 : Dj [b0] [b6]) (J2__0_0 : Dj [b2] fp0_0) (J2__1_0_1 : Dj [b2] fp1_0_1) (J2__1_0_2 : Dj [b2] fp1_0_2) (J2__1_0_3 : Dj [b2] fp1_0_3) (J2__1_0 : Dj [b2] [b1_0]) (J2__1 : Dj [b2] [b1]) (J2__2_0 : Dj [b2] fp2_0) (J2__3 : Dj [b2] [b3]) (J2__4 : Dj [b2] [b4]) (J2__5_0 : Dj [b2] fp5_0) (J2__5 : Dj [b2] [b5]) (J2__6 : Dj [b2] [b6]) (J3__0_0 : Dj [b3] fp0_0) (J3__1_0_1 : Dj [b3] fp1_0_1) (J3__1_0_2 : Dj [b3] fp1_0_2) (J3__1_0_3 : Dj [b3] fp1_0_3) (J3__1_0 : Dj [b3] [b1_0]) (J3__1 : Dj [b3] [b1]) (J3__2_0 : Dj [b3] fp2_0) (J3__4 : Dj [b3] [b4]) (J3__5_0 : Dj [b3] fp5_0) (J3__5 : Dj [b3] [b5]) (J3__6 : Dj [b3] [b6]) (J4__0_0 : Dj [b4] fp0_0) (J4__1_0_1 : Dj [b4] fp1_0_1) (J4__1_0_2 : Dj [b4] fp1_0_2) (J4__1_0_3 : Dj [b4] fp1_0_3) (J4__1_0 : Dj [b4] [b1_0]) (J4__1 : Dj [b4] [b1]) (J4__2_0 : Dj [b4] fp2_0) (J4__5_0 : Dj [b4] fp5_0) (J4__5 : Dj [b4] [b5]) (J4__6 : Dj [b4] [b6]) (J0_0__1_0_1 : Dj fp0_0 fp1_0_1) (J0_0__1_0_2 : Dj fp0_0 fp1_0_2) (J0_0__1_0_3 : Dj fp0_0 fp1_0_3) (J0_0__1_0 : Dj fp0_0 [b1_0]) (J0_0__1 : Dj fp0_0 [b1]) (J0_0__2_0 : Dj fp0_0 fp2_0) (J0_0__5_0 : Dj fp0_0 fp5_0) (J0_0__5 : Dj fp0_0 [b5]) (J0_0__6 : Dj fp0_0 [b6]) (J2_0__1_0_1 : Dj fp2_0 fp1_0_1) (J2_0__1_0_2 : Dj fp2_0 fp1_0_2) (J2_0__1_0_3 : Dj fp2_0 fp1_0_3) (J2_0__1_0 : Dj fp2_0 [b1_0]) (J2_0__1 : Dj fp2_0 [b1]) (J2_0__5_0 : Dj fp2_0 fp5_0) (J2_0__5 : Dj fp2_0 [b5]) (J2_0__6 : Dj fp2_0 [b6]) :
    Calls Try.prog 91 #[.pointer (some ⟨b0, 0, none⟩), .pointer (some ⟨b1, 0, none⟩), .pointer (some ⟨b2, 0, none⟩), .pointer (some ⟨b3, 0, none⟩), .pointer (some ⟨b4, 0, none⟩), .pointer (some ⟨b5, 0, none⟩), .pointer (some ⟨b6, 0, none⟩)] w0 fun e w' => ∃ At0_0 capt0_0 fpt0_0, ∃ At2_0 capt2_0 fpt2_0, e = .returned (.tuple #[]) ∧ Dj fpt0_0 fpt2_0 ∧ Cl w' b0 25 [.slice At0_0 (r.2.2.1).length capt0_0] ∧ Cl w' b2 25 [.slice At2_0 (r.2.2.2.1).length capt2_0] ∧ Cl w' b3 2 [.int .i64 (r.1)] ∧ Cl w' b4 2 [.int .i64 (r.2.1)] ∧ Ow 1 encI 2 w' fpt0_0 At0_0 capt0_0 r.2.2.1 ∧ Rt w0.heap.size fp0_0 fpt0_0 ∧ Ow 1 encI 2 w' fpt2_0 At2_0 capt2_0 r.2.2.2.1 ∧ Rt w0.heap.size fp2_0 fpt2_0 ∧ At2_0.isNone = r.2.2.2.2 ∧ Chg ([b0] ++ ([b2] ++ ([b3] ++ ([b4] ++ (fp0_0 ++ (fp2_0 ++ [])))))) w0 w' := by
  have L0 := lt1 F0.lt
  have L1_0_1 := F1_0_1.low
  have L1_0_2 := F1_0_2.low
  have L1_0_3 := F1_0_3.low
  have L1_0 := lt1 F1_0.lt
  have L1 := lt1 F1.lt
  have L2 := lt1 F2.lt
  have L3 := lt1 F3.lt
  have L4 := lt1 F4.lt
  have L5_0 := F5_0.low
  have L5 := lt1 F5.lt
  have L6 := lt1 F6.lt
  have hB : Chg ([b0] ++ ([b2] ++ ([b3] ++ ([b4] ++ (fp0_0 ++ (fp2_0 ++ [])))))) w0 w0 := Chg.refl _ _
  have hZ := Nat.le_refl w0.heap.size
  unfold m_impl_Wiring_best_1_bint64_bimplWiring_bimplWiring_bint64_bint64_bint64_bimplgraph_bfunc_self_body at hm
  refine enterE (N := 84) Try.func91 (by rfl) Try.ntmps91 (by simp) [(0, .pointer (some ⟨b0, 0, none⟩)), (1, .pointer (some ⟨b1, 0, none⟩)), (2, .pointer (some ⟨b2, 0, none⟩)), (3, .pointer (some ⟨b3, 0, none⟩)), (4, .pointer (some ⟨b4, 0, none⟩)), (5, .pointer (some ⟨b5, 0, none⟩)), (6, .pointer (some ⟨b6, 0, none⟩))] (by rfl) (by kernel_rfl) (fun a => ?_)
  refine cW_seq ?_
  refine cW_region ?_
  refine wS_load1 (d := 11) (T := 25) (ad := ⟨b0, 0, none⟩) (v := .slice A0_0 (l0_0).length cap0_0) (by kernel_rfl) vt25 ((F0).cell 0) ?_
  refine wS_pure 1 [(12, .int .i64 (((l0_0).length : Int)))] (by kernel_rfl) ?_
  refine wS_alloc (d := 7) (T := 3) (z := .int .i64 (0)) (by kernel_rfl) (by kernel_rfl) ?_
  intro b15 w16 G17 F18 hc19
  replace F18 : Cl w16 b15 3 [.int .i64 (0)] := F18
  have D21 : Dj fp0_0 [b15] := Dj.of F0_0.low (low1 G17)
  have D22 : Dj fp2_0 [b15] := Dj.of F2_0.low (low1 G17)
  replace F0_0 := F0_0.chg hc19 Dj.nil
  replace F0 := F0.chg hc19 notNil
  replace F1_0_1 := F1_0_1.chg hc19 Dj.nil
  replace F1_0_2 := F1_0_2.chg hc19 Dj.nil
  replace F1_0_3 := F1_0_3.chg hc19 Dj.nil
  replace F1_0 := F1_0.chg hc19 notNil
  replace F1 := F1.chg hc19 notNil
  replace F2_0 := F2_0.chg hc19 Dj.nil
  replace F2 := F2.chg hc19 notNil
  replace F3 := F3.chg hc19 notNil
  replace F4 := F4.chg hc19 notNil
  replace F5_0 := F5_0.chg hc19 Dj.nil
  replace F5 := F5.chg hc19 notNil
  replace F6 := F6.chg hc19 notNil
  replace hB := hB.inS hc19 inNil
  replace G17 := Nat.le_trans hZ G17
  replace hZ := Nat.le_trans hZ hc19.size
  refine wS_store (T := 3) (g := b15) (o := 0) (ad := ⟨b15, 0, none⟩) (v := .int .i64 (((l0_0).length : Int))) (vs := [.int .i64 (((l0_0).length : Int))]) (by kernel_rfl) (by rfl) sz3 (by rfl) (by rfl) F18 (by simp only [List.length_cons, List.length_nil]; omega) ?_
  intro w23 F24 hc25
  replace F0_0 := F0_0.chg hc25 D21
  replace F0 := F0.chg hc25 (dj1 (Dj.of L0 (low1 G17)))
  replace F1_0_1 := F1_0_1.chg hc25 (Dj.of L1_0_1 (low1 G17))
  replace F1_0_2 := F1_0_2.chg hc25 (Dj.of L1_0_2 (low1 G17))
  replace F1_0_3 := F1_0_3.chg hc25 (Dj.of L1_0_3 (low1 G17))
  replace F1_0 := F1_0.chg hc25 (dj1 (Dj.of L1_0 (low1 G17)))
  replace F1 := F1.chg hc25 (dj1 (Dj.of L1 (low1 G17)))
  replace F2_0 := F2_0.chg hc25 D22
  replace F2 := F2.chg hc25 (dj1 (Dj.of L2 (low1 G17)))
  replace F3 := F3.chg hc25 (dj1 (Dj.of L3 (low1 G17)))
  replace F4 := F4.chg hc25 (dj1 (Dj.of L4 (low1 G17)))
  replace F5_0 := F5_0.chg hc25 (Dj.of L5_0 (low1 G17))
  replace F5 := F5.chg hc25 (dj1 (Dj.of L5 (low1 G17)))
  replace F6 := F6.chg hc25 (dj1 (Dj.of L6 (low1 G17)))
  replace hB := hB.inS hc25 (inLow (low1 G17))
  replace hZ := Nat.le_trans hZ hc25.size
  replace F24 : Cl w23 b15 3 [.int .i64 (((l0_0).length : Int))] := F24
  clear F18
  refine wS_end (by rfl) ?_
  refine eX_then ?_
  refine cW_seq ?_
  refine cW_seq ?_
  refine cW_drawnTail [] 5 (by kernel_rfl) (by kernel_rfl) (fun w43 hc44 => ?_)
  replace F0_0 := F0_0.chg hc44 Dj.nil
  replace F0 := F0.chg hc44 notNil
  replace F1_0_1 := F1_0_1.chg hc44 Dj.nil
  replace F1_0_2 := F1_0_2.chg hc44 Dj.nil
  replace F1_0_3 := F1_0_3.chg hc44 Dj.nil
  replace F1_0 := F1_0.chg hc44 notNil
  replace F1 := F1.chg hc44 notNil
  replace F2_0 := F2_0.chg hc44 Dj.nil
  replace F2 := F2.chg hc44 notNil
  replace F3 := F3.chg hc44 notNil
  replace F4 := F4.chg hc44 notNil
  replace F5_0 := F5_0.chg hc44 Dj.nil
  replace F5 := F5.chg hc44 notNil
  replace F6 := F6.chg hc44 notNil
  replace F24 := F24.chg hc44 notNil
  replace hB := hB.inS hc44 inNil
  replace hZ := Nat.le_trans hZ hc44.size
  have hS := Chg.refl [] w43
  have Z45 := F0_0
  have Z46 := F0
  have Z47 := F1_0_1
  have Z48 := F1_0_2
  have Z49 := F1_0_3
  have Z50 := F1_0
  have Z51 := F1
  have Z52 := F2_0
  have Z53 := F2
  have Z54 := F3
  have Z55 := F4
  have Z56 := F5_0
  have Z57 := F5
  have Z58 := F6
  have Z59 := F24
  refine wH_load1 (i := 0) (d := 13) (T := 3) (ad := ⟨b15, 0, none⟩) (v := .int .i64 (((l0_0).length : Int))) (by kernel_rfl) (qT (qT (qT qZ))) (by kernel_rfl) (by kernel_rfl) vt3 (fun W hW => (Z59.chg hW notNil).cell 0) ?_
  refine wH_load1 (i := 1) (d := 14) (T := 87) (ad := ⟨b1, 0, none⟩) (v := .pointer (some ⟨b1_0, 0, none⟩)) (by kernel_rfl) (qT (qT (qT qZ))) (by kernel_rfl) (by kernel_rfl) vt87 (fun W hW => (Z51.chg hW notNil).cell 0) ?_
  refine wH_take [2, 3] [3, 2, 1, 0] [(16, .pointer (some ⟨b1_0, 0, none⟩)), (15, .pointer (some ⟨b1_0, 0, none⟩))] (by kernel_rfl) (qT (qT (qT qZ))) (by kernel_rfl) ?_
  refine wH_load1 (i := 4) (d := 17) (T := 2) (ad := ⟨b1_0, 0, none⟩) (v := .int .i64 (q1_0_0)) (by kernel_rfl) (qT (qT (qT qZ))) (by kernel_rfl) (by kernel_rfl) vt2 (fun W hW => (Z50.chg hW notNil).cell 0) ?_
  refine wH_done (by kernel_rfl) ?_
  refine eX_tail ?_
  refine wS_pure 1 [(18, .bool ((((l0_0).length : Int)) == q1_0_0))] (by kernel_rfl) ?_
  refine wS_end (by rfl) ?_
  refine eX_then ?_
  refine cW_cond (t := (((l0_0).length : Int)) == q1_0_0) (by kernel_rfl) (fun hb60 => ?_) (fun hb60 => ?_)
  · have hm := condT hb60 hm
    refine cW_seq ?_
    refine cW_seq ?_
    refine cW_region ?_
    refine wS_load1 (d := 19) (T := 87) (ad := ⟨b1, 0, none⟩) (v := .pointer (some ⟨b1_0, 0, none⟩)) (by kernel_rfl) vt87 ((F1).cell 0) ?_
    refine wS_load1 (d := 20) (T := 25) (ad := ⟨b0, 0, none⟩) (v := .slice A0_0 (l0_0).length cap0_0) (by kernel_rfl) vt25 ((F0).cell 0) ?_
    obtain ⟨y61, hy62, hm⟩ := bindE hm
    refine wS_calls (d := 21) (f := 92) (vs := [.pointer (some ⟨b1_0, 0, none⟩), .slice A0_0 (l0_0).length cap0_0]) (by kernel_rfl) ent92 (c_impl_Wiring_cost_bimplWiring hy62 F1_0_1 F1_0_2 F1_0_3 F1_0 (F0_0.sl encI_ok)) ?_
    rintro _ w63 ⟨rfl, hc64⟩
    replace F0_0 := F0_0.chg hc64 Dj.nil
    replace F0 := F0.chg hc64 notNil
    replace F1_0_1 := F1_0_1.chg hc64 Dj.nil
    replace F1_0_2 := F1_0_2.chg hc64 Dj.nil
    replace F1_0_3 := F1_0_3.chg hc64 Dj.nil
    replace F1_0 := F1_0.chg hc64 notNil
    replace F1 := F1.chg hc64 notNil
    replace F2_0 := F2_0.chg hc64 Dj.nil
    replace F2 := F2.chg hc64 notNil
    replace F3 := F3.chg hc64 notNil
    replace F4 := F4.chg hc64 notNil
    replace F5_0 := F5_0.chg hc64 Dj.nil
    replace F5 := F5.chg hc64 notNil
    replace F6 := F6.chg hc64 notNil
    replace F24 := F24.chg hc64 notNil
    replace hB := hB.inS hc64 inNil
    replace hZ := Nat.le_trans hZ hc64.size
    refine ⟨.int .i64 (y61), rfl, ?_⟩
    refine wS_pure 1 [(8, .int .i64 (y61))] (by kernel_rfl) ?_
    refine wS_end (by rfl) ?_
    refine eX_then ?_
    refine cW_block ?_
    obtain ⟨s160, hs161, hm⟩ := bindE hm
    refine cW_cut (fun a' w' => ∃ x138 : Int, ∃ x139 : Int, ∃ l140 : List (Int), ∃ A141 : Option Addr, ∃ cap142 : Nat, ∃ fp143 : List Nat, ∃ z145 : Bool, (x138, x139, l140, z145) = s160 ∧ Fr 84 [] a' ∧ Ow 1 encI 2 w' fp0_0 A0_0 cap0_0 l0_0 ∧ Cl w' b0 25 [.slice A0_0 (l0_0).length cap0_0] ∧ Cl w' b2 25 [.slice A141 (l140).length cap142] ∧ Cl w' b3 2 [.int .i64 (x138)] ∧ Cl w' b4 2 [.int .i64 (x139)] ∧ Ow 1 encI 2 w' fp143 A141 cap142 l140 ∧ (A141).isNone = z145 ∧ Rt w0.heap.size fp2_0 fp143 ∧ Dj fp0_0 fp143 ∧ Dj [b0] fp143 ∧ Dj [b2] fp143 ∧ Dj [b3] fp143 ∧ Dj [b4] fp143 ∧ Chg ([b0] ++ ([b2] ++ ([b3] ++ ([b4] ++ (fp0_0 ++ (fp2_0 ++ [])))))) w0 w' ∧ w0.heap.size ≤ w'.heap.size) ?_ ?_
    · have hm := hs161
      refine cW_seq ?_
      refine cW_region ?_
      refine wS_load1 (d := 23) (T := 25) (ad := ⟨b2, 0, none⟩) (v := .slice A2_0 (l2_0).length cap2_0) (by kernel_rfl) vt25 ((F2).cell 0) ?_
      refine wS_pure 1 [(24, .bool (z2_0))] (by rw [← Z2_0]; rcases A2_0 with _ | _ <;> kernel_rfl) ?_
      refine wS_pure 1 [(25, .bool (z2_0))] (by kernel_rfl) ?_
      refine wS_bool z2_0 (fun hb162 => ?_) (fun hb162 => ?_)
      · have hm := condT hb162 hm
        rewrite [hb162]
        refine wS_pure 5 [(22, .bool (true)), (29, .bool (true)), (28, undef), (27, undef), (26, undef)] (by kernel_rfl) ?_
        refine wS_end (by rfl) ?_
        refine eX_then ?_
        refine cW_prune [(0, .pointer (some ⟨b0, 0, none⟩)), (2, .pointer (some ⟨b2, 0, none⟩)), (3, .pointer (some ⟨b3, 0, none⟩)), (4, .pointer (some ⟨b4, 0, none⟩)), (8, .int .i64 (y61)), (22, .bool (true))] (by kernel_rfl) (by kernel_rfl) (fun a163 => ?_)
        refine cW_cond_t (by kernel_rfl) ?_
        refine cW_region ?_
        refine wS_bs0 (α := Int) (enc := encI) (d := 30) (t := 25) (T := 2) (by kernel_rfl) el25 ?_
        intro b164 w165 G166 F167 hc168
        have D170 : Dj fp0_0 [b164] := Dj.of F0_0.low (low1 G166)
        have D171 : Dj fp2_0 [b164] := Dj.of F2_0.low (low1 G166)
        have D172 : Dj [b15] [b164] := Dj.of (lt1 F24.lt) (low1 G166)
        replace F0_0 := F0_0.chg hc168 Dj.nil
        replace F0 := F0.chg hc168 notNil
        replace F1_0_1 := F1_0_1.chg hc168 Dj.nil
        replace F1_0_2 := F1_0_2.chg hc168 Dj.nil
        replace F1_0_3 := F1_0_3.chg hc168 Dj.nil
        replace F1_0 := F1_0.chg hc168 notNil
        replace F1 := F1.chg hc168 notNil
        replace F2_0 := F2_0.chg hc168 Dj.nil
        replace F2 := F2.chg hc168 notNil
        replace F3 := F3.chg hc168 notNil
        replace F4 := F4.chg hc168 notNil
        replace F5_0 := F5_0.chg hc168 Dj.nil
        replace F5 := F5.chg hc168 notNil
        replace F6 := F6.chg hc168 notNil
        replace F24 := F24.chg hc168 notNil
        replace hB := hB.inS hc168 inNil
        replace G166 := Nat.le_trans hZ G166
        replace G166 := low1 G166
        replace hZ := Nat.le_trans hZ hc168.size
        refine wS_load1 (d := 31) (T := 25) (ad := ⟨b0, 0, none⟩) (v := .slice A0_0 (l0_0).length cap0_0) (by kernel_rfl) vt25 ((F0).cell 0) ?_
        obtain ⟨_, hk173, hm⟩ := bindE hm
        replace hk173 := apE hk173
        refine wS_appendSome (enc := encI) (l := (([] : List (Int)) : List (Int))) (l2 := (l0_0 : List (Int))) (d := 32) (t := 25) (T := 2) (A := (some ⟨b164, 0, none⟩)) (A2 := A0_0) (cap := 0) (cap2 := cap0_0) (by kernel_rfl) el25 encI_ok F167 (F0_0.sl encI_ok) rfl hk173 ?_
        intro w174 fp175 A176 cap177 F178 hc179 hp180 hzn181
        have G183 := low_ap G166 hZ hp180
        have D184 : Dj fp0_0 fp175 := Dj.ap D170 F0_0.low hp180
        have D185 : Dj fp2_0 fp175 := Dj.ap D171 F2_0.low hp180
        have D186 : Dj [b15] fp175 := Dj.ap D172 (lt1 F24.lt) hp180
        replace F0_0 := F0_0.chg hc179 D170
        replace F0 := F0.chg hc179 (dj1 (Dj.of L0 G166))
        replace F1_0_1 := F1_0_1.chg hc179 (Dj.of L1_0_1 G166)
        replace F1_0_2 := F1_0_2.chg hc179 (Dj.of L1_0_2 G166)
        replace F1_0_3 := F1_0_3.chg hc179 (Dj.of L1_0_3 G166)
        replace F1_0 := F1_0.chg hc179 (dj1 (Dj.of L1_0 G166))
        replace F1 := F1.chg hc179 (dj1 (Dj.of L1 G166))
        replace F2_0 := F2_0.chg hc179 D171
        replace F2 := F2.chg hc179 (dj1 (Dj.of L2 G166))
        replace F3 := F3.chg hc179 (dj1 (Dj.of L3 G166))
        replace F4 := F4.chg hc179 (dj1 (Dj.of L4 G166))
        replace F5_0 := F5_0.chg hc179 (Dj.of L5_0 G166)
        replace F5 := F5.chg hc179 (dj1 (Dj.of L5 G166))
        replace F6 := F6.chg hc179 (dj1 (Dj.of L6 G166))
        replace F24 := F24.chg hc179 (dj1 D172)
        replace hB := hB.inS hc179 (inLow G166)
        replace hZ := Nat.le_trans hZ hc179.size
        refine wS_pure 1 [(33, .int .i64 (y61))] (by kernel_rfl) ?_
        refine wS_store (T := 25) (g := b2) (o := 0) (ad := ⟨b2, 0, none⟩) (v := .slice A176 ((([] : List (Int))) ++ l0_0).length cap177) (vs := [.slice A176 ((([] : List (Int))) ++ l0_0).length cap177]) (by kernel_rfl) (by rfl) sz25 (by rfl) (by rfl) F2 (by simp only [List.length_cons, List.length_nil]; omega) ?_
        intro w187 F188 hc189
        replace F0_0 := F0_0.chg hc189 (J2__0_0).symm
        replace F0 := F0.chg hc189 (dj1 J0__2)
        replace F1_0_1 := F1_0_1.chg hc189 (J2__1_0_1).symm
        replace F1_0_2 := F1_0_2.chg hc189 (J2__1_0_2).symm
        replace F1_0_3 := F1_0_3.chg hc189 (J2__1_0_3).symm
        replace F1_0 := F1_0.chg hc189 (dj1 (J2__1_0).symm)
        replace F1 := F1.chg hc189 (dj1 (J2__1).symm)
        replace F2_0 := F2_0.chg hc189 (J2__2_0).symm
        replace F3 := F3.chg hc189 (dj1 (J2__3).symm)
        replace F4 := F4.chg hc189 (dj1 (J2__4).symm)
        replace F5_0 := F5_0.chg hc189 (J2__5_0).symm
        replace F5 := F5.chg hc189 (dj1 (J2__5).symm)
        replace F6 := F6.chg hc189 (dj1 (J2__6).symm)
        replace F24 := F24.chg hc189 (dj1 (Dj.of L2 (low1 G17)).symm)
        replace F178 := F178.chg hc189 (Dj.of L2 G183).symm
        replace hB := hB.inS hc189 (inMem (fun x hx => (List.mem_append_right _ (List.mem_append_left _ hx))))
        replace hZ := Nat.le_trans hZ hc189.size
        replace F188 : Cl w187 b2 25 [.slice A176 ((([] : List (Int))) ++ l0_0).length cap177] := F188
        clear F2
        refine wS_store (T := 2) (g := b3) (o := 0) (ad := ⟨b3, 0, none⟩) (v := .int .i64 (y61)) (vs := [.int .i64 (y61)]) (by kernel_rfl) (by rfl) sz2 (by rfl) (by rfl) F3 (by simp only [List.length_cons, List.length_nil]; omega) ?_
        intro w190 F191 hc192
        replace F0_0 := F0_0.chg hc192 (J3__0_0).symm
        replace F0 := F0.chg hc192 (dj1 J0__3)
        replace F1_0_1 := F1_0_1.chg hc192 (J3__1_0_1).symm
        replace F1_0_2 := F1_0_2.chg hc192 (J3__1_0_2).symm
        replace F1_0_3 := F1_0_3.chg hc192 (J3__1_0_3).symm
        replace F1_0 := F1_0.chg hc192 (dj1 (J3__1_0).symm)
        replace F1 := F1.chg hc192 (dj1 (J3__1).symm)
        replace F2_0 := F2_0.chg hc192 (J3__2_0).symm
        replace F188 := F188.chg hc192 (dj1 J2__3)
        replace F4 := F4.chg hc192 (dj1 (J3__4).symm)
        replace F5_0 := F5_0.chg hc192 (J3__5_0).symm
        replace F5 := F5.chg hc192 (dj1 (J3__5).symm)
        replace F6 := F6.chg hc192 (dj1 (J3__6).symm)
        replace F24 := F24.chg hc192 (dj1 (Dj.of L3 (low1 G17)).symm)
        replace F178 := F178.chg hc192 (Dj.of L3 G183).symm
        replace hB := hB.inS hc192 (inMem (fun x hx => (List.mem_append_right _ (List.mem_append_right _ (List.mem_append_left _ hx)))))
        replace hZ := Nat.le_trans hZ hc192.size
        replace F191 : Cl w190 b3 2 [.int .i64 (y61)] := F191
        clear F3
        refine wS_store (T := 2) (g := b4) (o := 0) (ad := ⟨b4, 0, none⟩) (v := .int .i64 (1)) (vs := [.int .i64 (1)]) (by kernel_rfl) (by rfl) sz2 (by rfl) (by rfl) F4 (by simp only [List.length_cons, List.length_nil]; omega) ?_
        intro w193 F194 hc195
        replace F0_0 := F0_0.chg hc195 (J4__0_0).symm
        replace F0 := F0.chg hc195 (dj1 J0__4)
        replace F1_0_1 := F1_0_1.chg hc195 (J4__1_0_1).symm
        replace F1_0_2 := F1_0_2.chg hc195 (J4__1_0_2).symm
        replace F1_0_3 := F1_0_3.chg hc195 (J4__1_0_3).symm
        replace F1_0 := F1_0.chg hc195 (dj1 (J4__1_0).symm)
        replace F1 := F1.chg hc195 (dj1 (J4__1).symm)
        replace F2_0 := F2_0.chg hc195 (J4__2_0).symm
        replace F188 := F188.chg hc195 (dj1 J2__4)
        replace F191 := F191.chg hc195 (dj1 J3__4)
        replace F5_0 := F5_0.chg hc195 (J4__5_0).symm
        replace F5 := F5.chg hc195 (dj1 (J4__5).symm)
        replace F6 := F6.chg hc195 (dj1 (J4__6).symm)
        replace F24 := F24.chg hc195 (dj1 (Dj.of L4 (low1 G17)).symm)
        replace F178 := F178.chg hc195 (Dj.of L4 G183).symm
        replace hB := hB.inS hc195 (inMem (fun x hx => (List.mem_append_right _ (List.mem_append_right _ (List.mem_append_right _ (List.mem_append_left _ hx))))))
        replace hZ := Nat.le_trans hZ hc195.size
        replace F194 : Cl w193 b4 2 [.int .i64 (1)] := F194
        clear F4
        refine wS_end (by rfl) ?_
        have hq : (some ((y61, 1, (([] : List (Int))) ++ l0_0, false)) : Option (Int × Int × (List (Int)) × Bool)) = some _ := hm
        replace hq := someE hq
        subst hq
        exact eX_J (fun hst => ⟨y61, 1, (([] : List (Int))) ++ l0_0, A176, cap177, fp175, false, rfl, Fr.of hst (by kernel_rfl), F0_0, F0, F188, F191, F194, F178, hzn181, (Rt.low G183), D184, (Dj.of L0 G183), (Dj.of L2 G183), (Dj.of L3 G183), (Dj.of L4 G183), hB, hZ⟩)
      · have hm := condF hb162 hm
        rewrite [hb162]
        refine wS_pure 1 [(26, .int .i64 (y61))] (by kernel_rfl) ?_
        refine wS_load1 (d := 27) (T := 2) (ad := ⟨b3, 0, none⟩) (v := .int .i64 (q3_0)) (by kernel_rfl) vt2 ((F3).cell 0) ?_
        refine wS_pure 3 [(22, .bool (decide (y61 < q3_0))), (29, .bool (decide (y61 < q3_0))), (28, .bool (decide (y61 < q3_0)))] (by kernel_rfl) ?_
        refine wS_end (by rfl) ?_
        refine eX_then ?_
        refine cW_prune [(0, .pointer (some ⟨b0, 0, none⟩)), (2, .pointer (some ⟨b2, 0, none⟩)), (3, .pointer (some ⟨b3, 0, none⟩)), (4, .pointer (some ⟨b4, 0, none⟩)), (8, .int .i64 (y61)), (22, .bool (decide (y61 < q3_0)))] (by kernel_rfl) (by kernel_rfl) (fun a196 => ?_)
        refine cW_cond (t := decide (y61 < q3_0)) (by kernel_rfl) (fun hb197 => ?_) (fun hb197 => ?_)
        · have hm := condT hb197 hm
          refine cW_region ?_
          refine wS_bs0 (α := Int) (enc := encI) (d := 30) (t := 25) (T := 2) (by kernel_rfl) el25 ?_
          intro b198 w199 G200 F201 hc202
          have D204 : Dj fp0_0 [b198] := Dj.of F0_0.low (low1 G200)
          have D205 : Dj fp2_0 [b198] := Dj.of F2_0.low (low1 G200)
          have D206 : Dj [b15] [b198] := Dj.of (lt1 F24.lt) (low1 G200)
          replace F0_0 := F0_0.chg hc202 Dj.nil
          replace F0 := F0.chg hc202 notNil
          replace F1_0_1 := F1_0_1.chg hc202 Dj.nil
          replace F1_0_2 := F1_0_2.chg hc202 Dj.nil
          replace F1_0_3 := F1_0_3.chg hc202 Dj.nil
          replace F1_0 := F1_0.chg hc202 notNil
          replace F1 := F1.chg hc202 notNil
          replace F2_0 := F2_0.chg hc202 Dj.nil
          replace F2 := F2.chg hc202 notNil
          replace F3 := F3.chg hc202 notNil
          replace F4 := F4.chg hc202 notNil
          replace F5_0 := F5_0.chg hc202 Dj.nil
          replace F5 := F5.chg hc202 notNil
          replace F6 := F6.chg hc202 notNil
          replace F24 := F24.chg hc202 notNil
          replace hB := hB.inS hc202 inNil
          replace G200 := Nat.le_trans hZ G200
          replace G200 := low1 G200
          replace hZ := Nat.le_trans hZ hc202.size
          refine wS_load1 (d := 31) (T := 25) (ad := ⟨b0, 0, none⟩) (v := .slice A0_0 (l0_0).length cap0_0) (by kernel_rfl) vt25 ((F0).cell 0) ?_
          obtain ⟨_, hk207, hm⟩ := bindE hm
          replace hk207 := apE hk207
          refine wS_appendSome (enc := encI) (l := (([] : List (Int)) : List (Int))) (l2 := (l0_0 : List (Int))) (d := 32) (t := 25) (T := 2) (A := (some ⟨b198, 0, none⟩)) (A2 := A0_0) (cap := 0) (cap2 := cap0_0) (by kernel_rfl) el25 encI_ok F201 (F0_0.sl encI_ok) rfl hk207 ?_
          intro w208 fp209 A210 cap211 F212 hc213 hp214 hzn215
          have G217 := low_ap G200 hZ hp214
          have D218 : Dj fp0_0 fp209 := Dj.ap D204 F0_0.low hp214
          have D219 : Dj fp2_0 fp209 := Dj.ap D205 F2_0.low hp214
          have D220 : Dj [b15] fp209 := Dj.ap D206 (lt1 F24.lt) hp214
          replace F0_0 := F0_0.chg hc213 D204
          replace F0 := F0.chg hc213 (dj1 (Dj.of L0 G200))
          replace F1_0_1 := F1_0_1.chg hc213 (Dj.of L1_0_1 G200)
          replace F1_0_2 := F1_0_2.chg hc213 (Dj.of L1_0_2 G200)
          replace F1_0_3 := F1_0_3.chg hc213 (Dj.of L1_0_3 G200)
          replace F1_0 := F1_0.chg hc213 (dj1 (Dj.of L1_0 G200))
          replace F1 := F1.chg hc213 (dj1 (Dj.of L1 G200))
          replace F2_0 := F2_0.chg hc213 D205
          replace F2 := F2.chg hc213 (dj1 (Dj.of L2 G200))
          replace F3 := F3.chg hc213 (dj1 (Dj.of L3 G200))
          replace F4 := F4.chg hc213 (dj1 (Dj.of L4 G200))
          replace F5_0 := F5_0.chg hc213 (Dj.of L5_0 G200)
          replace F5 := F5.chg hc213 (dj1 (Dj.of L5 G200))
          replace F6 := F6.chg hc213 (dj1 (Dj.of L6 G200))
          replace F24 := F24.chg hc213 (dj1 D206)
          replace hB := hB.inS hc213 (inLow G200)
          replace hZ := Nat.le_trans hZ hc213.size
          refine wS_pure 1 [(33, .int .i64 (y61))] (by kernel_rfl) ?_
          refine wS_store (T := 25) (g := b2) (o := 0) (ad := ⟨b2, 0, none⟩) (v := .slice A210 ((([] : List (Int))) ++ l0_0).length cap211) (vs := [.slice A210 ((([] : List (Int))) ++ l0_0).length cap211]) (by kernel_rfl) (by rfl) sz25 (by rfl) (by rfl) F2 (by simp only [List.length_cons, List.length_nil]; omega) ?_
          intro w221 F222 hc223
          replace F0_0 := F0_0.chg hc223 (J2__0_0).symm
          replace F0 := F0.chg hc223 (dj1 J0__2)
          replace F1_0_1 := F1_0_1.chg hc223 (J2__1_0_1).symm
          replace F1_0_2 := F1_0_2.chg hc223 (J2__1_0_2).symm
          replace F1_0_3 := F1_0_3.chg hc223 (J2__1_0_3).symm
          replace F1_0 := F1_0.chg hc223 (dj1 (J2__1_0).symm)
          replace F1 := F1.chg hc223 (dj1 (J2__1).symm)
          replace F2_0 := F2_0.chg hc223 (J2__2_0).symm
          replace F3 := F3.chg hc223 (dj1 (J2__3).symm)
          replace F4 := F4.chg hc223 (dj1 (J2__4).symm)
          replace F5_0 := F5_0.chg hc223 (J2__5_0).symm
          replace F5 := F5.chg hc223 (dj1 (J2__5).symm)
          replace F6 := F6.chg hc223 (dj1 (J2__6).symm)
          replace F24 := F24.chg hc223 (dj1 (Dj.of L2 (low1 G17)).symm)
          replace F212 := F212.chg hc223 (Dj.of L2 G217).symm
          replace hB := hB.inS hc223 (inMem (fun x hx => (List.mem_append_right _ (List.mem_append_left _ hx))))
          replace hZ := Nat.le_trans hZ hc223.size
          replace F222 : Cl w221 b2 25 [.slice A210 ((([] : List (Int))) ++ l0_0).length cap211] := F222
          clear F2
          refine wS_store (T := 2) (g := b3) (o := 0) (ad := ⟨b3, 0, none⟩) (v := .int .i64 (y61)) (vs := [.int .i64 (y61)]) (by kernel_rfl) (by rfl) sz2 (by rfl) (by rfl) F3 (by simp only [List.length_cons, List.length_nil]; omega) ?_
          intro w224 F225 hc226
          replace F0_0 := F0_0.chg hc226 (J3__0_0).symm
          replace F0 := F0.chg hc226 (dj1 J0__3)
          replace F1_0_1 := F1_0_1.chg hc226 (J3__1_0_1).symm
          replace F1_0_2 := F1_0_2.chg hc226 (J3__1_0_2).symm
          replace F1_0_3 := F1_0_3.chg hc226 (J3__1_0_3).symm
          replace F1_0 := F1_0.chg hc226 (dj1 (J3__1_0).symm)
          replace F1 := F1.chg hc226 (dj1 (J3__1).symm)
          replace F2_0 := F2_0.chg hc226 (J3__2_0).symm
          replace F222 := F222.chg hc226 (dj1 J2__3)
          replace F4 := F4.chg hc226 (dj1 (J3__4).symm)
          replace F5_0 := F5_0.chg hc226 (J3__5_0).symm
          replace F5 := F5.chg hc226 (dj1 (J3__5).symm)
          replace F6 := F6.chg hc226 (dj1 (J3__6).symm)
          replace F24 := F24.chg hc226 (dj1 (Dj.of L3 (low1 G17)).symm)
          replace F212 := F212.chg hc226 (Dj.of L3 G217).symm
          replace hB := hB.inS hc226 (inMem (fun x hx => (List.mem_append_right _ (List.mem_append_right _ (List.mem_append_left _ hx)))))
          replace hZ := Nat.le_trans hZ hc226.size
          replace F225 : Cl w224 b3 2 [.int .i64 (y61)] := F225
          clear F3
          refine wS_store (T := 2) (g := b4) (o := 0) (ad := ⟨b4, 0, none⟩) (v := .int .i64 (1)) (vs := [.int .i64 (1)]) (by kernel_rfl) (by rfl) sz2 (by rfl) (by rfl) F4 (by simp only [List.length_cons, List.length_nil]; omega) ?_
          intro w227 F228 hc229
          replace F0_0 := F0_0.chg hc229 (J4__0_0).symm
          replace F0 := F0.chg hc229 (dj1 J0__4)
          replace F1_0_1 := F1_0_1.chg hc229 (J4__1_0_1).symm
          replace F1_0_2 := F1_0_2.chg hc229 (J4__1_0_2).symm
          replace F1_0_3 := F1_0_3.chg hc229 (J4__1_0_3).symm
          replace F1_0 := F1_0.chg hc229 (dj1 (J4__1_0).symm)
          replace F1 := F1.chg hc229 (dj1 (J4__1).symm)
          replace F2_0 := F2_0.chg hc229 (J4__2_0).symm
          replace F222 := F222.chg hc229 (dj1 J2__4)
          replace F225 := F225.chg hc229 (dj1 J3__4)
          replace F5_0 := F5_0.chg hc229 (J4__5_0).symm
          replace F5 := F5.chg hc229 (dj1 (J4__5).symm)
          replace F6 := F6.chg hc229 (dj1 (J4__6).symm)
          replace F24 := F24.chg hc229 (dj1 (Dj.of L4 (low1 G17)).symm)
          replace F212 := F212.chg hc229 (Dj.of L4 G217).symm
          replace hB := hB.inS hc229 (inMem (fun x hx => (List.mem_append_right _ (List.mem_append_right _ (List.mem_append_right _ (List.mem_append_left _ hx))))))
          replace hZ := Nat.le_trans hZ hc229.size
          replace F228 : Cl w227 b4 2 [.int .i64 (1)] := F228
          clear F4
          refine wS_end (by rfl) ?_
          have hq : (some ((y61, 1, (([] : List (Int))) ++ l0_0, false)) : Option (Int × Int × (List (Int)) × Bool)) = some _ := hm
          replace hq := someE hq
          subst hq
          exact eX_J (fun hst => ⟨y61, 1, (([] : List (Int))) ++ l0_0, A210, cap211, fp209, false, rfl, Fr.of hst (by kernel_rfl), F0_0, F0, F222, F225, F228, F212, hzn215, (Rt.low G217), D218, (Dj.of L0 G217), (Dj.of L2 G217), (Dj.of L3 G217), (Dj.of L4 G217), hB, hZ⟩)
        · have hm := condF hb197 hm
          refine cW_seq ?_
          refine cW_region ?_
          refine wS_pure 1 [(35, .int .i64 (y61))] (by kernel_rfl) ?_
          refine wS_load1 (d := 36) (T := 2) (ad := ⟨b3, 0, none⟩) (v := .int .i64 (q3_0)) (by kernel_rfl) vt2 ((F3).cell 0) ?_
          refine wS_pure 2 [(34, .bool (y61 == q3_0)), (37, .bool (y61 == q3_0))] (by kernel_rfl) ?_
          refine wS_end (by rfl) ?_
          refine eX_then ?_
          refine cW_cond (t := y61 == q3_0) (by kernel_rfl) (fun hb230 => ?_) (fun hb230 => ?_)
          · have hm := condT hb230 hm
            refine cW_region ?_
            refine wS_load1 (d := 38) (T := 2) (ad := ⟨b4, 0, none⟩) (v := .int .i64 (q4_0)) (by kernel_rfl) vt2 ((F4).cell 0) ?_
            refine wS_pure 1 [(39, .int .i64 (wr (q4_0 + 1)))] (by kernel_rfl) ?_
            refine wS_store (T := 2) (g := b4) (o := 0) (ad := ⟨b4, 0, none⟩) (v := .int .i64 (wr (q4_0 + 1))) (vs := [.int .i64 (wr (q4_0 + 1))]) (by kernel_rfl) (by rfl) sz2 (by rfl) (by rfl) F4 (by simp only [List.length_cons, List.length_nil]; omega) ?_
            intro w231 F232 hc233
            replace F0_0 := F0_0.chg hc233 (J4__0_0).symm
            replace F0 := F0.chg hc233 (dj1 J0__4)
            replace F1_0_1 := F1_0_1.chg hc233 (J4__1_0_1).symm
            replace F1_0_2 := F1_0_2.chg hc233 (J4__1_0_2).symm
            replace F1_0_3 := F1_0_3.chg hc233 (J4__1_0_3).symm
            replace F1_0 := F1_0.chg hc233 (dj1 (J4__1_0).symm)
            replace F1 := F1.chg hc233 (dj1 (J4__1).symm)
            replace F2_0 := F2_0.chg hc233 (J4__2_0).symm
            replace F2 := F2.chg hc233 (dj1 J2__4)
            replace F3 := F3.chg hc233 (dj1 J3__4)
            replace F5_0 := F5_0.chg hc233 (J4__5_0).symm
            replace F5 := F5.chg hc233 (dj1 (J4__5).symm)
            replace F6 := F6.chg hc233 (dj1 (J4__6).symm)
            replace F24 := F24.chg hc233 (dj1 (Dj.of L4 (low1 G17)).symm)
            replace hB := hB.inS hc233 (inMem (fun x hx => (List.mem_append_right _ (List.mem_append_right _ (List.mem_append_right _ (List.mem_append_left _ hx))))))
            replace hZ := Nat.le_trans hZ hc233.size
            replace F232 : Cl w231 b4 2 [.int .i64 (wr (q4_0 + 1))] := F232
            clear F4
            refine wS_end (by rfl) ?_
            have hq : (some ((q3_0, wr (q4_0 + 1), l2_0, z2_0)) : Option (Int × Int × (List (Int)) × Bool)) = some _ := hm
            replace hq := someE hq
            subst hq
            exact eX_J (fun hst => ⟨q3_0, wr (q4_0 + 1), l2_0, A2_0, cap2_0, fp2_0, z2_0, rfl, Fr.of hst (by kernel_rfl), F0_0, F0, F2, F3, F232, F2_0, Z2_0, Rt.refl, J0_0__2_0, J0__2_0, J2__2_0, J3__2_0, J4__2_0, hB, hZ⟩)
          · have hm := condF hb230 hm
            refine cW_skip ?_
            have hq : (some ((q3_0, q4_0, l2_0, z2_0)) : Option (Int × Int × (List (Int)) × Bool)) = some _ := hm
            replace hq := someE hq
            subst hq
            exact eX_J (fun hst => ⟨q3_0, q4_0, l2_0, A2_0, cap2_0, fp2_0, z2_0, rfl, Fr.of hst (by kernel_rfl), F0_0, F0, F2, F3, F4, F2_0, Z2_0, Rt.refl, J0_0__2_0, J0__2_0, J2__2_0, J3__2_0, J4__2_0, hB, hZ⟩)
    · rintro a' w137 ⟨x138, x139, l140, A141, cap142, fp143, z145, hJ, hF147, F148, F149, F150, F151, F152, F153, hz146, hap154, D155, D156, D157, D158, D159, hB, hZ⟩
      subst hJ
      refine Fr.goX hF147 (by kernel_rfl) ?_
      refine eX_block ?_
      refine eX_then ?_
      refine cW_ret ?_
      refine eX_then_ret ?_
      have hq : (some ((x138, x139, l0_0, l140, z145)) : Option ((Int) × (Int) × (List (Int)) × (List (Int)) × (Bool))) = some _ := hm
      replace hq := someE hq
      subst hq
      refine eX_ret (vs := []) [] (by rfl) trivial ?_
      exact ⟨A0_0, cap0_0, fp0_0, A141, cap142, fp143, rfl, D155, F149, F150, F151, F152, F148, Rt.refl, F153, hap154, hz146, hB⟩
  · have hm := condF hb60 hm
    refine cW_skip ?_
    refine eX_then ?_
    refine cW_seq ?_
    refine cW_region ?_
    refine wS_alloc (d := 9) (T := 2) (z := .int .i64 (0)) (by kernel_rfl) (by kernel_rfl) ?_
    intro b234 w235 G236 F237 hc238
    replace F237 : Cl w235 b234 2 [.int .i64 (0)] := F237
    have D240 : Dj fp0_0 [b234] := Dj.of F0_0.low (low1 G236)
    have D241 : Dj fp2_0 [b234] := Dj.of F2_0.low (low1 G236)
    have D242 : Dj [b15] [b234] := Dj.of (lt1 F24.lt) (low1 G236)
    replace F0_0 := F0_0.chg hc238 Dj.nil
    replace F0 := F0.chg hc238 notNil
    replace F1_0_1 := F1_0_1.chg hc238 Dj.nil
    replace F1_0_2 := F1_0_2.chg hc238 Dj.nil
    replace F1_0_3 := F1_0_3.chg hc238 Dj.nil
    replace F1_0 := F1_0.chg hc238 notNil
    replace F1 := F1.chg hc238 notNil
    replace F2_0 := F2_0.chg hc238 Dj.nil
    replace F2 := F2.chg hc238 notNil
    replace F3 := F3.chg hc238 notNil
    replace F4 := F4.chg hc238 notNil
    replace F5_0 := F5_0.chg hc238 Dj.nil
    replace F5 := F5.chg hc238 notNil
    replace F6 := F6.chg hc238 notNil
    replace F24 := F24.chg hc238 notNil
    replace hB := hB.inS hc238 inNil
    replace G236 := Nat.le_trans hZ G236
    replace hZ := Nat.le_trans hZ hc238.size
    refine wS_store (T := 2) (g := b234) (o := 0) (ad := ⟨b234, 0, none⟩) (v := .int .i64 (0)) (vs := [.int .i64 (0)]) (by kernel_rfl) (by rfl) sz2 (by rfl) (by rfl) F237 (by simp only [List.length_cons, List.length_nil]; omega) ?_
    intro w243 F244 hc245
    replace F0_0 := F0_0.chg hc245 D240
    replace F0 := F0.chg hc245 (dj1 (Dj.of L0 (low1 G236)))
    replace F1_0_1 := F1_0_1.chg hc245 (Dj.of L1_0_1 (low1 G236))
    replace F1_0_2 := F1_0_2.chg hc245 (Dj.of L1_0_2 (low1 G236))
    replace F1_0_3 := F1_0_3.chg hc245 (Dj.of L1_0_3 (low1 G236))
    replace F1_0 := F1_0.chg hc245 (dj1 (Dj.of L1_0 (low1 G236)))
    replace F1 := F1.chg hc245 (dj1 (Dj.of L1 (low1 G236)))
    replace F2_0 := F2_0.chg hc245 D241
    replace F2 := F2.chg hc245 (dj1 (Dj.of L2 (low1 G236)))
    replace F3 := F3.chg hc245 (dj1 (Dj.of L3 (low1 G236)))
    replace F4 := F4.chg hc245 (dj1 (Dj.of L4 (low1 G236)))
    replace F5_0 := F5_0.chg hc245 (Dj.of L5_0 (low1 G236))
    replace F5 := F5.chg hc245 (dj1 (Dj.of L5 (low1 G236)))
    replace F6 := F6.chg hc245 (dj1 (Dj.of L6 (low1 G236)))
    replace F24 := F24.chg hc245 (dj1 D242)
    replace hB := hB.inS hc245 (inLow (low1 G236))
    replace hZ := Nat.le_trans hZ hc245.size
    replace F244 : Cl w243 b234 2 [.int .i64 (0)] := F244
    clear F237
    refine wS_end (by rfl) ?_
    refine eX_then ?_
    obtain ⟨r1727, hr1728, hm⟩ := bindE hm
    have hm1729 := hm
    refine cW_cut (fun a' w' => ∃ x1627 : Int, ∃ x1628 : Int, ∃ l1629 : List (Int), ∃ A1630 : Option Addr, ∃ cap1631 : Nat, ∃ fp1632 : List Nat, ∃ l1634 : List (Int), ∃ A1635 : Option Addr, ∃ cap1636 : Nat, ∃ fp1637 : List Nat, ∃ z1639 : Bool, (x1627, x1628, l1629, l1634, z1639) = r1727 ∧ Fr 84 [] a' ∧ Cl w' b0 25 [.slice A1630 (l1629).length cap1631] ∧ Cl w' b2 25 [.slice A1635 (l1634).length cap1636] ∧ Cl w' b3 2 [.int .i64 (x1627)] ∧ Cl w' b4 2 [.int .i64 (x1628)] ∧ Ow 1 encI 2 w' fp1632 A1630 cap1631 l1629 ∧ Ow 1 encI 2 w' fp1637 A1635 cap1636 l1634 ∧ Rt w0.heap.size fp0_0 fp1632 ∧ (A1635).isNone = z1639 ∧ Rt w0.heap.size fp2_0 fp1637 ∧ Dj [b0] fp1632 ∧ Dj [b2] fp1632 ∧ Dj [b3] fp1632 ∧ Dj [b4] fp1632 ∧ Dj fp1637 fp1632 ∧ Dj [b0] fp1637 ∧ Dj [b2] fp1637 ∧ Dj [b3] fp1637 ∧ Dj [b4] fp1637 ∧ Chg ([b0] ++ ([b2] ++ ([b3] ++ ([b4] ++ (fp0_0 ++ (fp2_0 ++ [])))))) w0 w' ∧ w0.heap.size ≤ w'.heap.size) ?_ ?_
    · refine cW_block ?_
      refine cW_loop _ (fun (s1730 : Int × Int × Int × (List (Int)) × (List (Int)) × Bool) a' w' => ∃ b1660 : Nat, ∃ x1661 : Int, ∃ x1663 : Int, ∃ x1664 : Int, ∃ l1665 : List (Int), ∃ A1666 : Option Addr, ∃ cap1667 : Nat, ∃ fp1668 : List Nat, ∃ l1670 : List (Int), ∃ A1671 : Option Addr, ∃ cap1672 : Nat, ∃ fp1673 : List Nat, ∃ z1675 : Bool, (x1661, x1663, x1664, l1665, l1670, z1675) = s1730 ∧ Fr 84 [(0, .pointer (some ⟨b0, 0, none⟩)), (1, .pointer (some ⟨b1, 0, none⟩)), (5, .pointer (some ⟨b5, 0, none⟩)), (6, .pointer (some ⟨b6, 0, none⟩)), (7, .pointer (some ⟨b15, 0, none⟩)), (9, .pointer (some ⟨b1660, 0, none⟩))] a' ∧ Cl w' b0 25 [.slice A1666 (l1665).length cap1667] ∧ SlR 1 encI w' fp1_0_1 A1_0_1 l1_0_1 ∧ SlR 1 encI w' fp1_0_2 A1_0_2 l1_0_2 ∧ Sl 1 encI w' fp1_0_3 A1_0_3 l1_0_3 ∧ Cl w' b1_0 27 [.int .i64 (q1_0_0), .slice A1_0_1 (l1_0_1).length cap1_0_1, .slice A1_0_2 (l1_0_2).length cap1_0_2, .slice A1_0_3 (l1_0_3).length cap1_0_3] ∧ Cl w' b1 87 [.pointer (some ⟨b1_0, 0, none⟩)] ∧ Cl w' b2 25 [.slice A1671 (l1670).length cap1672] ∧ Cl w' b3 2 [.int .i64 (x1663)] ∧ Cl w' b4 2 [.int .i64 (x1664)] ∧ SlR 1 encI w' fp5_0 A5_0 l5_0 ∧ Cl w' b5 77 [.slice A5_0 (l5_0).length cap5_0] ∧ Cl w' b6 1 [.func (.func 91) #[] #[.pointer (some ⟨b0, 0, none⟩), .pointer (some ⟨b1, 0, none⟩), .pointer (some ⟨b2, 0, none⟩), .pointer (some ⟨b3, 0, none⟩), .pointer (some ⟨b4, 0, none⟩), .pointer (some ⟨b5, 0, none⟩), .pointer (some ⟨b6, 0, none⟩)]] ∧ Cl w' b15 3 [.int .i64 (((l0_0).length : Int))] ∧ Cl w' b1660 2 [.int .i64 (x1661)] ∧ Ow 1 encI 2 w' fp1668 A1666 cap1667 l1665 ∧ Ow 1 encI 2 w' fp1673 A1671 cap1672 l1670 ∧ w0.heap.size ≤ b1660 ∧ Rt w0.heap.size fp0_0 fp1668 ∧ (A1671).isNone = z1675 ∧ Rt w0.heap.size fp2_0 fp1673 ∧ Dj [b15] [b1660] ∧ Dj fp1668 [b1660] ∧ Dj fp1673 [b1660] ∧ Dj [b0] fp1668 ∧ Dj fp1_0_1 fp1668 ∧ Dj fp1_0_2 fp1668 ∧ Dj fp1_0_3 fp1668 ∧ Dj [b1_0] fp1668 ∧ Dj [b1] fp1668 ∧ Dj [b2] fp1668 ∧ Dj [b3] fp1668 ∧ Dj [b4] fp1668 ∧ Dj fp5_0 fp1668 ∧ Dj [b5] fp1668 ∧ Dj [b6] fp1668 ∧ Dj [b15] fp1668 ∧ Dj fp1673 fp1668 ∧ Dj [b0] fp1673 ∧ Dj fp1_0_1 fp1673 ∧ Dj fp1_0_2 fp1673 ∧ Dj fp1_0_3 fp1673 ∧ Dj [b1_0] fp1673 ∧ Dj [b1] fp1673 ∧ Dj [b2] fp1673 ∧ Dj [b3] fp1673 ∧ Dj [b4] fp1673 ∧ Dj fp5_0 fp1673 ∧ Dj [b5] fp1673 ∧ Dj [b6] fp1673 ∧ Dj [b15] fp1673 ∧ Chg ([b0] ++ ([b2] ++ ([b3] ++ ([b4] ++ (fp0_0 ++ (fp2_0 ++ [])))))) w0 w' ∧ w0.heap.size ≤ w'.heap.size) hr1728 (fun hst => ⟨b234, 0, q3_0, q4_0, l0_0, A0_0, cap0_0, fp0_0, l2_0, A2_0, cap2_0, fp2_0, z2_0, rfl, Fr.of hst (by kernel_rfl), F0, F1_0_1, F1_0_2, F1_0_3, F1_0, F1, F2, F3, F4, F5_0, F5, F6, F24, F244, F0_0, F2_0, G236, Rt.refl, Z2_0, Rt.refl, D242, D240, D241, J0__0_0, (J0_0__1_0_1).symm, (J0_0__1_0_2).symm, (J0_0__1_0_3).symm, (J0_0__1_0).symm, (J0_0__1).symm, J2__0_0, J3__0_0, J4__0_0, (J0_0__5_0).symm, (J0_0__5).symm, (J0_0__6).symm, (D21).symm, (J0_0__2_0).symm, J0__2_0, (J2_0__1_0_1).symm, (J2_0__1_0_2).symm, (J2_0__1_0_3).symm, (J2_0__1_0).symm, (J2_0__1).symm, J2__2_0, J3__2_0, J4__2_0, (J2_0__5_0).symm, (J2_0__5).symm, (J2_0__6).symm, (D22).symm, hB, hZ⟩) ?_
      rintro _ c1731 a' w1659 ⟨b1660, x1661, x1663, x1664, l1665, A1666, cap1667, fp1668, l1670, A1671, cap1672, fp1673, z1675, rfl, hF1677, F1678, F1679, F1680, F1681, F1682, F1683, F1684, F1685, F1686, F1687, F1688, F1689, F1690, F1691, F1692, F1693, G1694, hap1695, hz1676, hap1696, D1697, D1698, D1699, D1700, D1701, D1702, D1703, D1704, D1705, D1706, D1707, D1708, D1709, D1710, D1711, D1712, D1713, D1714, D1715, D1716, D1717, D1718, D1719, D1720, D1721, D1722, D1723, D1724, D1725, D1726, hB, hZ⟩ hx1732
      refine Fr.goOn hF1677 (by kernel_rfl) ?_
      have hm := hx1732
      unfold m_impl_Wiring_best_1_bint64_bimplWiring_bimplWiring_bint64_bint64_bint64_bimplgraph_bfunc_self_s1 at hm
      refine cW_seq ?_
      refine cW_seq ?_
      refine cW_region ?_
      refine wS_load1 (d := 40) (T := 2) (ad := ⟨b1660, 0, none⟩) (v := .int .i64 (x1661)) (by kernel_rfl) vt2 ((F1691).cell 0) ?_
      refine wS_pure 1 [(41, .bool (decide (x1661 < 2)))] (by kernel_rfl) ?_
      refine wS_end (by rfl) ?_
      refine eX_then ?_
      refine cW_cond (t := decide (x1661 < 2)) (by kernel_rfl) (fun hb1733 => ?_) (fun hb1733 => ?_)
      · have hm := condT hb1733 hm
        refine cW_skip ?_
        refine eX_then ?_
        refine cW_seq ?_
        refine cW_block ?_
        obtain ⟨s2080, hs2081, hm⟩ := bindE hm
        refine cW_cut (fun a' w' => ∃ x2018 : Int, ∃ x2019 : Int, ∃ l2020 : List (Int), ∃ A2021 : Option Addr, ∃ cap2022 : Nat, ∃ fp2023 : List Nat, ∃ l2025 : List (Int), ∃ A2026 : Option Addr, ∃ cap2027 : Nat, ∃ fp2028 : List Nat, ∃ z2030 : Bool, (x2018, x2019, l2020, l2025, z2030) = s2080 ∧ Fr 84 [(0, .pointer (some ⟨b0, 0, none⟩)), (1, .pointer (some ⟨b1, 0, none⟩)), (5, .pointer (some ⟨b5, 0, none⟩)), (6, .pointer (some ⟨b6, 0, none⟩)), (7, .pointer (some ⟨b15, 0, none⟩)), (9, .pointer (some ⟨b1660, 0, none⟩))] a' ∧ Cl w' b0 25 [.slice A2021 (l2020).length cap2022] ∧ SlR 1 encI w' fp1_0_1 A1_0_1 l1_0_1 ∧ SlR 1 encI w' fp1_0_2 A1_0_2 l1_0_2 ∧ Sl 1 encI w' fp1_0_3 A1_0_3 l1_0_3 ∧ Cl w' b1_0 27 [.int .i64 (q1_0_0), .slice A1_0_1 (l1_0_1).length cap1_0_1, .slice A1_0_2 (l1_0_2).length cap1_0_2, .slice A1_0_3 (l1_0_3).length cap1_0_3] ∧ Cl w' b1 87 [.pointer (some ⟨b1_0, 0, none⟩)] ∧ Cl w' b2 25 [.slice A2026 (l2025).length cap2027] ∧ Cl w' b3 2 [.int .i64 (x2018)] ∧ Cl w' b4 2 [.int .i64 (x2019)] ∧ SlR 1 encI w' fp5_0 A5_0 l5_0 ∧ Cl w' b5 77 [.slice A5_0 (l5_0).length cap5_0] ∧ Cl w' b6 1 [.func (.func 91) #[] #[.pointer (some ⟨b0, 0, none⟩), .pointer (some ⟨b1, 0, none⟩), .pointer (some ⟨b2, 0, none⟩), .pointer (some ⟨b3, 0, none⟩), .pointer (some ⟨b4, 0, none⟩), .pointer (some ⟨b5, 0, none⟩), .pointer (some ⟨b6, 0, none⟩)]] ∧ Cl w' b15 3 [.int .i64 (((l0_0).length : Int))] ∧ Cl w' b1660 2 [.int .i64 (x1661)] ∧ Ow 1 encI 2 w' fp2023 A2021 cap2022 l2020 ∧ Ow 1 encI 2 w' fp2028 A2026 cap2027 l2025 ∧ Rt w0.heap.size fp0_0 fp2023 ∧ (A2026).isNone = z2030 ∧ Rt w0.heap.size fp2_0 fp2028 ∧ Dj [b0] fp2023 ∧ Dj fp1_0_1 fp2023 ∧ Dj fp1_0_2 fp2023 ∧ Dj fp1_0_3 fp2023 ∧ Dj [b1_0] fp2023 ∧ Dj [b1] fp2023 ∧ Dj [b2] fp2023 ∧ Dj [b3] fp2023 ∧ Dj [b4] fp2023 ∧ Dj fp5_0 fp2023 ∧ Dj [b5] fp2023 ∧ Dj [b6] fp2023 ∧ Dj [b15] fp2023 ∧ Dj [b1660] fp2023 ∧ Dj fp2028 fp2023 ∧ Dj [b0] fp2028 ∧ Dj fp1_0_1 fp2028 ∧ Dj fp1_0_2 fp2028 ∧ Dj fp1_0_3 fp2028 ∧ Dj [b1_0] fp2028 ∧ Dj [b1] fp2028 ∧ Dj [b2] fp2028 ∧ Dj [b3] fp2028 ∧ Dj [b4] fp2028 ∧ Dj fp5_0 fp2028 ∧ Dj [b5] fp2028 ∧ Dj [b6] fp2028 ∧ Dj [b15] fp2028 ∧ Dj [b1660] fp2028 ∧ Chg ([b0] ++ ([b2] ++ ([b3] ++ ([b4] ++ (fp0_0 ++ (fp2_0 ++ [])))))) w0 w' ∧ w0.heap.size ≤ w'.heap.size) ?_ ?_
        · have hm := hs2081
          refine cW_seq ?_
          refine cW_drawnTail [] 17 (by kernel_rfl) (by kernel_rfl) (fun w2105 hc2106 => ?_)
          replace F1678 := F1678.chg hc2106 notNil
          replace F1679 := F1679.chg hc2106 Dj.nil
          replace F1680 := F1680.chg hc2106 Dj.nil
          replace F1681 := F1681.chg hc2106 Dj.nil
          replace F1682 := F1682.chg hc2106 notNil
          replace F1683 := F1683.chg hc2106 notNil
          replace F1684 := F1684.chg hc2106 notNil
          replace F1685 := F1685.chg hc2106 notNil
          replace F1686 := F1686.chg hc2106 notNil
          replace F1687 := F1687.chg hc2106 Dj.nil
          replace F1688 := F1688.chg hc2106 notNil
          replace F1689 := F1689.chg hc2106 notNil
          replace F1690 := F1690.chg hc2106 notNil
          replace F1691 := F1691.chg hc2106 notNil
          replace F1692 := F1692.chg hc2106 Dj.nil
          replace F1693 := F1693.chg hc2106 Dj.nil
          replace hB := hB.inS hc2106 inNil
          replace hZ := Nat.le_trans hZ hc2106.size
          have hS := Chg.refl [] w2105
          have Z2107 := F1678
          have Z2108 := F1679
          have Z2109 := F1680
          have Z2110 := F1681
          have Z2111 := F1682
          have Z2112 := F1683
          have Z2113 := F1684
          have Z2114 := F1685
          have Z2115 := F1686
          have Z2116 := F1687
          have Z2117 := F1688
          have Z2118 := F1689
          have Z2119 := F1690
          have Z2120 := F1691
          have Z2121 := F1692
          have Z2122 := F1693
          refine wH_load1 (i := 0) (d := 44) (T := 87) (ad := ⟨b1, 0, none⟩) (v := .pointer (some ⟨b1_0, 0, none⟩)) (by kernel_rfl) (qT (qT (qT (qB (qT (qL (qB (qT qZ)))))))) (by kernel_rfl) (by kernel_rfl) vt87 (fun W hW => (Z2112.chg hW notNil).cell 0) ?_
          refine wH_take [1, 2] [2, 1, 0] [(46, .pointer (some ⟨b1_0, 3, none⟩)), (45, .pointer (some ⟨b1_0, 0, none⟩))] (by kernel_rfl) (qT (qT (qT (qB (qT (qL (qB (qT qZ)))))))) (by kernel_rfl) ?_
          refine wH_load1 (i := 3) (d := 47) (T := 25) (ad := ⟨b1_0, 3, none⟩) (v := .slice A1_0_3 (l1_0_3).length cap1_0_3) (by kernel_rfl) (qT (qT (qT (qB (qT (qL (qB (qT qZ)))))))) (by kernel_rfl) (by kernel_rfl) vt25 (fun W hW => (Z2111.chg hW notNil).cell 3) ?_
          refine wH_load1 (i := 4) (d := 48) (T := 3) (ad := ⟨b15, 0, none⟩) (v := .int .i64 (((l0_0).length : Int))) (by kernel_rfl) (qT (qT (qT (qB (qT (qL (qB (qT qZ)))))))) (by kernel_rfl) (by kernel_rfl) vt3 (fun W hW => (Z2119.chg hW notNil).cell 0) ?_
          obtain ⟨x2123, hx2124, hm⟩ := bindE hm
          refine wH_idx (i := 5) (d := 49) (T := 25) (A := A1_0_3) (n := (l1_0_3).length) (cap := cap1_0_3) (kd := .i64) (m := ((l0_0).length : Int)) (by kernel_rfl) (qT (qT (qT (qB (qT (qL (qB (qT qZ)))))))) (by kernel_rfl) (by kernel_rfl) sl25 (F1681.is hx2124) ?_
          refine wH_load1 (i := 6) (d := 50) (T := 2) (ad := (elA A1_0_3 1 (((l0_0).length : Int)) 0)) (v := .int .i64 (x2123)) (by kernel_rfl) (qT (qT (qT (qB (qT (qL (qB (qT qZ)))))))) (by kernel_rfl) (by kernel_rfl) vt2 (fun W hW => Sl.cell (Z2110.chg hW Dj.nil) hx2124 0 (by rfl)) ?_
          refine wH_take [7, 8] [8, 7, 6, 5, 4, 3, 2, 1, 0] [(52, .bool (decide (x2123 ≥ 0))), (51, .bool (decide (x2123 ≥ 0)))] (by kernel_rfl) (qT (qT (qT (qB (qT (qL (qB (qT qZ)))))))) (by kernel_rfl) ?_
          refine wH_bool (decide (x2123 ≥ 0)) (fun hb2125 => ?_) (fun hb2125 => ?_)
          · have hm := condT hb2125 hm
            rewrite [hb2125]
            refine wH_load1 (i := 9) (d := 53) (T := 87) (ad := ⟨b1, 0, none⟩) (v := .pointer (some ⟨b1_0, 0, none⟩)) (by kernel_rfl) (qT (qT (qT (qB (qT (qL (qB (qT qZ)))))))) (by kernel_rfl) (by kernel_rfl) vt87 (fun W hW => (Z2112.chg hW notNil).cell 0) ?_
            refine wH_take [10, 11] [11, 10, 9, 8, 7, 6, 5, 4, 3, 2, 1, 0] [(55, .pointer (some ⟨b1_0, 3, none⟩)), (54, .pointer (some ⟨b1_0, 0, none⟩))] (by kernel_rfl) (qT (qT (qT (qB (qT (qL (qB (qT qZ)))))))) (by kernel_rfl) ?_
            refine wH_load1 (i := 12) (d := 56) (T := 25) (ad := ⟨b1_0, 3, none⟩) (v := .slice A1_0_3 (l1_0_3).length cap1_0_3) (by kernel_rfl) (qT (qT (qT (qB (qT (qL (qB (qT qZ)))))))) (by kernel_rfl) (by kernel_rfl) vt25 (fun W hW => (Z2111.chg hW notNil).cell 3) ?_
            refine wH_load1 (i := 13) (d := 57) (T := 3) (ad := ⟨b15, 0, none⟩) (v := .int .i64 (((l0_0).length : Int))) (by kernel_rfl) (qT (qT (qT (qB (qT (qL (qB (qT qZ)))))))) (by kernel_rfl) (by kernel_rfl) vt3 (fun W hW => (Z2119.chg hW notNil).cell 0) ?_
            obtain ⟨x2126, hx2127, hm⟩ := bindE hm
            refine wH_idx (i := 14) (d := 58) (T := 25) (A := A1_0_3) (n := (l1_0_3).length) (cap := cap1_0_3) (kd := .i64) (m := ((l0_0).length : Int)) (by kernel_rfl) (qT (qT (qT (qB (qT (qL (qB (qT qZ)))))))) (by kernel_rfl) (by kernel_rfl) sl25 (F1681.is hx2127) ?_
            refine wH_load1 (i := 15) (d := 59) (T := 2) (ad := (elA A1_0_3 1 (((l0_0).length : Int)) 0)) (v := .int .i64 (x2126)) (by kernel_rfl) (qT (qT (qT (qB (qT (qL (qB (qT qZ)))))))) (by kernel_rfl) (by kernel_rfl) vt2 (fun W hW => Sl.cell (Z2110.chg hW Dj.nil) hx2127 0 (by rfl)) ?_
            refine wH_load1 (i := 16) (d := 60) (T := 2) (ad := ⟨b1660, 0, none⟩) (v := .int .i64 (x1661)) (by kernel_rfl) (qT (qT (qT (qB (qT (qL (qB (qT qZ)))))))) (by kernel_rfl) (by kernel_rfl) vt2 (fun W hW => (Z2120.chg hW notNil).cell 0) ?_
            refine wH_done (by kernel_rfl) ?_
            refine eX_tail ?_
            refine wS_pure 3 [(10, .bool (x2126 != x1661)), (62, .bool (x2126 != x1661)), (61, .bool (x2126 != x1661))] (by kernel_rfl) ?_
            refine wS_end (by rfl) ?_
            refine eX_then ?_
            refine cW_prune [(0, .pointer (some ⟨b0, 0, none⟩)), (1, .pointer (some ⟨b1, 0, none⟩)), (5, .pointer (some ⟨b5, 0, none⟩)), (6, .pointer (some ⟨b6, 0, none⟩)), (7, .pointer (some ⟨b15, 0, none⟩)), (9, .pointer (some ⟨b1660, 0, none⟩)), (10, .bool (x2126 != x1661))] (by kernel_rfl) (by kernel_rfl) (fun a2128 => ?_)
            refine cW_seq ?_
            refine cW_region ?_
            refine wS_pure 2 [(64, .bool (x2126 != x1661)), (63, .bool (x2126 != x1661))] (by kernel_rfl) ?_
            refine wS_bool (x2126 != x1661) (fun hb2129 => ?_) (fun hb2129 => ?_)
            · have hm := condT hb2129 hm
              rewrite [hb2129]
              refine wS_pure 8 [(10, .bool (true)), (71, .bool (true)), (70, undef), (69, undef), (68, undef), (67, undef), (66, undef), (65, undef)] (by kernel_rfl) ?_
              refine wS_end (by rfl) ?_
              refine eX_then ?_
              refine cW_seq ?_
              refine cW_region ?_
              refine wS_pure 2 [(73, .bool (false)), (72, .bool (true))] (by kernel_rfl) ?_
              refine wS_end (by rfl) ?_
              refine eX_then ?_
              refine cW_cond_f (by kernel_rfl) ?_
              refine cW_skip ?_
              have hq : (some ((x1663, x1664, l1665, l1670, z1675)) : Option (Int × Int × (List (Int)) × (List (Int)) × Bool)) = some _ := hm
              replace hq := someE hq
              subst hq
              exact eX_J (fun hst => ⟨x1663, x1664, l1665, A1666, cap1667, fp1668, l1670, A1671, cap1672, fp1673, z1675, rfl, Fr.of hst (by kernel_rfl), F1678, F1679, F1680, F1681, F1682, F1683, F1684, F1685, F1686, F1687, F1688, F1689, F1690, F1691, F1692, F1693, hap1695, hz1676, hap1696, D1700, D1701, D1702, D1703, D1704, D1705, D1706, D1707, D1708, D1709, D1710, D1711, D1712, (D1698).symm, D1713, D1714, D1715, D1716, D1717, D1718, D1719, D1720, D1721, D1722, D1723, D1724, D1725, D1726, (D1699).symm, hB, hZ⟩)
            · have hm := condF hb2129 hm
              rewrite [hb2129]
              refine wS_load1 (d := 65) (T := 77) (ad := ⟨b5, 0, none⟩) (v := .slice A5_0 (l5_0).length cap5_0) (by kernel_rfl) vt77 ((F1688).cell 0) ?_
              refine wS_load1 (d := 66) (T := 3) (ad := ⟨b15, 0, none⟩) (v := .int .i64 (((l0_0).length : Int))) (by kernel_rfl) vt3 ((F1690).cell 0) ?_
              obtain ⟨x2130, hx2131, hm⟩ := bindE hm
              refine wS_idx (d := 67) (T := 77) (A := A5_0) (n := (l5_0).length) (cap := cap5_0) (kd := .i64) (m := ((l0_0).length : Int)) (by kernel_rfl) sl77 (F1687.is hx2131) ?_
              obtain ⟨A2132, cap2133, hc2135, F2134, K2136⟩ := SlR.row F1687 hx2131
              refine wS_load1 (d := 68) (T := 75) (ad := (elA A5_0 1 (((l0_0).length : Int)) 0)) (v := .slice A2132 (x2130).length cap2133) (by kernel_rfl) vt75 hc2135 ?_
              refine wS_pure 1 [(69, .func (.func 94) #[] #[.pointer (some ⟨b15, 0, none⟩), .pointer (some ⟨b0, 0, none⟩), .pointer (some ⟨b1660, 0, none⟩)])] (by kernel_rfl) ?_
              obtain ⟨y2138, hy2139, hm⟩ := bindE hm
              refine wS_calls (d := 70) (f := 93) (vs := [.slice A2132 (x2130).length cap2133, .func (.func 94) #[] #[.pointer (some ⟨b15, 0, none⟩), .pointer (some ⟨b0, 0, none⟩), .pointer (some ⟨b1660, 0, none⟩)]]) (by kernel_rfl) ent93 (c_slices_ContainsFunc_int_int_impl_Wiring_best_1_1_bint_bint64_bint64 hy2139 F2134 F1690 (F1692.sl encI_ok) F1678 F1691) ?_
              rintro _ w2140 ⟨rfl, hc2141⟩
              replace F1678 := F1678.chg hc2141 notNil
              replace F1679 := F1679.chg hc2141 Dj.nil
              replace F1680 := F1680.chg hc2141 Dj.nil
              replace F1681 := F1681.chg hc2141 Dj.nil
              replace F1682 := F1682.chg hc2141 notNil
              replace F1683 := F1683.chg hc2141 notNil
              replace F1684 := F1684.chg hc2141 notNil
              replace F1685 := F1685.chg hc2141 notNil
              replace F1686 := F1686.chg hc2141 notNil
              replace F1687 := F1687.chg hc2141 Dj.nil
              replace F1688 := F1688.chg hc2141 notNil
              replace F1689 := F1689.chg hc2141 notNil
              replace F1690 := F1690.chg hc2141 notNil
              replace F1691 := F1691.chg hc2141 notNil
              replace F1692 := F1692.chg hc2141 Dj.nil
              replace F1693 := F1693.chg hc2141 Dj.nil
              replace F2134 := F2134.chg hc2141 Dj.nil
              replace hB := hB.inS hc2141 inNil
              replace hZ := Nat.le_trans hZ hc2141.size
              refine ⟨.bool (y2138), rfl, ?_⟩
              refine wS_pure 2 [(10, .bool (y2138)), (71, .bool (y2138))] (by kernel_rfl) ?_
              refine wS_end (by rfl) ?_
              refine eX_then ?_
              refine cW_seq ?_
              refine cW_region ?_
              refine wS_pure 2 [(73, .bool (!y2138)), (72, .bool (y2138))] (by kernel_rfl) ?_
              refine wS_end (by rfl) ?_
              refine eX_then ?_
              refine cW_cond (t := !y2138) (by kernel_rfl) (fun hb2142 => ?_) (fun hb2142 => ?_)
              · have hm := condT hb2142 hm
                refine cW_seq ?_
                refine cW_region ?_
                refine wS_load1 (d := 74) (T := 25) (ad := ⟨b0, 0, none⟩) (v := .slice A1666 (l1665).length cap1667) (by kernel_rfl) vt25 ((F1678).cell 0) ?_
                refine wS_load1 (d := 75) (T := 2) (ad := ⟨b1660, 0, none⟩) (v := .int .i64 (x1661)) (by kernel_rfl) vt2 ((F1691).cell 0) ?_
                refine wS_bs (enc := encI) ([x1661] : List (Int)) [.int .i64 (x1661)] (d := 76) (t := 25) (T := 2) (n := 1) (ps := [(0, .int .i64 (x1661))]) (by kernel_rfl) el25 encI_ok (by rfl) (by omega) (by omega) (by kernel_rfl) (by rfl) ?_
                intro b2143 w2144 G2145 F2146 hc2147
                have D2149 : Dj [b15] [b2143] := Dj.of (lt1 F1690.lt) (low1 G2145)
                have D2150 : Dj [b1660] [b2143] := Dj.of (lt1 F1691.lt) (low1 G2145)
                have D2151 : Dj fp1668 [b2143] := Dj.of F1692.low (low1 G2145)
                have D2152 : Dj fp1673 [b2143] := Dj.of F1693.low (low1 G2145)
                replace F1678 := F1678.chg hc2147 notNil
                replace F1679 := F1679.chg hc2147 Dj.nil
                replace F1680 := F1680.chg hc2147 Dj.nil
                replace F1681 := F1681.chg hc2147 Dj.nil
                replace F1682 := F1682.chg hc2147 notNil
                replace F1683 := F1683.chg hc2147 notNil
                replace F1684 := F1684.chg hc2147 notNil
                replace F1685 := F1685.chg hc2147 notNil
                replace F1686 := F1686.chg hc2147 notNil
                replace F1687 := F1687.chg hc2147 Dj.nil
                replace F1688 := F1688.chg hc2147 notNil
                replace F1689 := F1689.chg hc2147 notNil
                replace F1690 := F1690.chg hc2147 notNil
                replace F1691 := F1691.chg hc2147 notNil
                replace F1692 := F1692.chg hc2147 Dj.nil
                replace F1693 := F1693.chg hc2147 Dj.nil
                replace F2134 := F2134.chg hc2147 Dj.nil
                replace hB := hB.inS hc2147 inNil
                replace G2145 := Nat.le_trans hZ G2145
                replace G2145 := low1 G2145
                replace hZ := Nat.le_trans hZ hc2147.size
                obtain ⟨_, hk2153, hm⟩ := bindE hm
                replace hk2153 := apE hk2153
                refine wS_append (enc := encI) (l := (l1665 : List (Int))) (l2 := (([x1661] : List (Int)) : List (Int))) (d := 77) (t := 25) (T := 2) (A := A1666) (A2 := (some ⟨b2143, 0, none⟩)) (cap := cap1667) (cap2 := 1) (by kernel_rfl) el25 encI_ok F1692 (F2146.sl encI_ok) (by rfl) hk2153 ?_
                intro w2154 fp2155 A2156 cap2157 F2158 hc2159 hp2160
                have hap2163 := Rt.of hp2160 hZ hap1695
                have D2164 : Dj [b0] fp2155 := Dj.ap D1700 (lt1 F1678.lt) hp2160
                have D2165 : Dj fp1_0_1 fp2155 := Dj.ap D1701 F1679.low hp2160
                have D2166 : Dj fp1_0_2 fp2155 := Dj.ap D1702 F1680.low hp2160
                have D2167 : Dj fp1_0_3 fp2155 := Dj.ap D1703 F1681.low hp2160
                have D2168 : Dj [b1_0] fp2155 := Dj.ap D1704 (lt1 F1682.lt) hp2160
                have D2169 : Dj [b1] fp2155 := Dj.ap D1705 (lt1 F1683.lt) hp2160
                have D2170 : Dj [b2] fp2155 := Dj.ap D1706 (lt1 F1684.lt) hp2160
                have D2171 : Dj [b3] fp2155 := Dj.ap D1707 (lt1 F1685.lt) hp2160
                have D2172 : Dj [b4] fp2155 := Dj.ap D1708 (lt1 F1686.lt) hp2160
                have D2173 : Dj fp5_0 fp2155 := Dj.ap D1709 F1687.low hp2160
                have D2174 : Dj [b5] fp2155 := Dj.ap D1710 (lt1 F1688.lt) hp2160
                have D2175 : Dj [b6] fp2155 := Dj.ap D1711 (lt1 F1689.lt) hp2160
                have D2176 : Dj [b15] fp2155 := Dj.ap D1712 (lt1 F1690.lt) hp2160
                have D2177 : Dj [b1660] fp2155 := Dj.ap (D1698).symm (lt1 F1691.lt) hp2160
                have D2178 : Dj fp1673 fp2155 := Dj.ap D1713 F1693.low hp2160
                have D2179 : Dj fp5_0 fp2155 := Dj.ap D1709 F2134.low hp2160
                have D2180 : Dj [b2143] fp2155 := Dj.ap (D2151).symm F2146.low hp2160
                replace F1678 := F1678.chg hc2159 (dj1 D1700)
                replace F1679 := F1679.chg hc2159 D1701
                replace F1680 := F1680.chg hc2159 D1702
                replace F1681 := F1681.chg hc2159 D1703
                replace F1682 := F1682.chg hc2159 (dj1 D1704)
                replace F1683 := F1683.chg hc2159 (dj1 D1705)
                replace F1684 := F1684.chg hc2159 (dj1 D1706)
                replace F1685 := F1685.chg hc2159 (dj1 D1707)
                replace F1686 := F1686.chg hc2159 (dj1 D1708)
                replace F1687 := F1687.chg hc2159 D1709
                replace F1688 := F1688.chg hc2159 (dj1 D1710)
                replace F1689 := F1689.chg hc2159 (dj1 D1711)
                replace F1690 := F1690.chg hc2159 (dj1 D1712)
                replace F1691 := F1691.chg hc2159 (dj1 (D1698).symm)
                replace F1693 := F1693.chg hc2159 D1713
                replace F2134 := F2134.chg hc2159 D1709
                replace F2146 := F2146.chg hc2159 (D2151).symm
                replace hB := hB.inS hc2159 (inRt hap1695 (fun x hx => (List.mem_append_right _ (List.mem_append_right _ (List.mem_append_right _ (List.mem_append_right _ (List.mem_append_left _ hx)))))))
                replace hZ := Nat.le_trans hZ hc2159.size
                refine wS_store (T := 25) (g := b0) (o := 0) (ad := ⟨b0, 0, none⟩) (v := .slice A2156 (l1665 ++ (([x1661] : List (Int)))).length cap2157) (vs := [.slice A2156 (l1665 ++ (([x1661] : List (Int)))).length cap2157]) (by kernel_rfl) (by rfl) sz25 (by rfl) (by rfl) F1678 (by simp only [List.length_cons, List.length_nil]; omega) ?_
                intro w2181 F2182 hc2183
                replace F1679 := F1679.chg hc2183 (J0__1_0_1).symm
                replace F1680 := F1680.chg hc2183 (J0__1_0_2).symm
                replace F1681 := F1681.chg hc2183 (J0__1_0_3).symm
                replace F1682 := F1682.chg hc2183 (dj1 (J0__1_0).symm)
                replace F1683 := F1683.chg hc2183 (dj1 (J0__1).symm)
                replace F1684 := F1684.chg hc2183 (dj1 (J0__2).symm)
                replace F1685 := F1685.chg hc2183 (dj1 (J0__3).symm)
                replace F1686 := F1686.chg hc2183 (dj1 (J0__4).symm)
                replace F1687 := F1687.chg hc2183 (J0__5_0).symm
                replace F1688 := F1688.chg hc2183 (dj1 (J0__5).symm)
                replace F1689 := F1689.chg hc2183 (dj1 (J0__6).symm)
                replace F1690 := F1690.chg hc2183 (dj1 (Dj.of L0 (low1 G17)).symm)
                replace F1691 := F1691.chg hc2183 (dj1 (Dj.of L0 (low1 G1694)).symm)
                replace F1693 := F1693.chg hc2183 (D1714).symm
                replace F2134 := F2134.chg hc2183 (J0__5_0).symm
                replace F2146 := F2146.chg hc2183 (Dj.of L0 G2145).symm
                replace F2158 := F2158.chg hc2183 (D2164).symm
                replace hB := hB.inS hc2183 (inMem (fun x hx => (List.mem_append_left _ hx)))
                replace hZ := Nat.le_trans hZ hc2183.size
                replace F2182 : Cl w2181 b0 25 [.slice A2156 (l1665 ++ (([x1661] : List (Int)))).length cap2157] := F2182
                clear F1678
                refine wS_end (by rfl) ?_
                refine eX_then ?_
                refine cW_seq ?_
                refine cW_region ?_
                refine wS_load1 (d := 78) (T := 1) (ad := ⟨b6, 0, none⟩) (v := .func (.func 91) #[] #[.pointer (some ⟨b0, 0, none⟩), .pointer (some ⟨b1, 0, none⟩), .pointer (some ⟨b2, 0, none⟩), .pointer (some ⟨b3, 0, none⟩), .pointer (some ⟨b4, 0, none⟩), .pointer (some ⟨b5, 0, none⟩), .pointer (some ⟨b6, 0, none⟩)]) (by kernel_rfl) vt1 ((F1689).cell 0) ?_
                obtain ⟨y2184, hy2185, hm⟩ := bindE hm
                refine wS_calls (d := 79) (f := 91) (vs := [.pointer (some ⟨b0, 0, none⟩), .pointer (some ⟨b1, 0, none⟩), .pointer (some ⟨b2, 0, none⟩), .pointer (some ⟨b3, 0, none⟩), .pointer (some ⟨b4, 0, none⟩), .pointer (some ⟨b5, 0, none⟩), .pointer (some ⟨b6, 0, none⟩)]) (by kernel_rfl) ent91 (hR hy2185 F2158 F2182 F1679 F1680 F1681 F1682 F1683 F1693 hz1676 F1684 F1685 F1686 F1687 F1688 F1689 D2164 J0__1_0_1 J0__1_0_2 J0__1_0_3 J0__1_0 J0__1 D1714 J0__2 J0__3 J0__4 J0__5_0 J0__5 J0__6 D2170 J2__1_0_1 J2__1_0_2 J2__1_0_3 J2__1_0 J2__1 D1720 J2__3 J2__4 J2__5_0 J2__5 J2__6 D2171 J3__1_0_1 J3__1_0_2 J3__1_0_3 J3__1_0 J3__1 D1721 J3__4 J3__5_0 J3__5 J3__6 D2172 J4__1_0_1 J4__1_0_2 J4__1_0_3 J4__1_0 J4__1 D1722 J4__5_0 J4__5 J4__6 (D2165).symm (D2166).symm (D2167).symm (D2168).symm (D2169).symm (D2178).symm (D2173).symm (D2174).symm (D2175).symm (D1715).symm (D1716).symm (D1717).symm (D1718).symm (D1719).symm (D1723).symm (D1724).symm (D1725).symm) ?_
                rintro _ w2186 ⟨A2188, cap2189, fp2190, A2193, cap2194, fp2195, rfl, D2199, F2200, F2201, F2202, F2203, F2191, hap2192, F2196, hap2197, hz2198, hc2187⟩
                have hap2205 := Rt.of hap2192 hZ hap2163
                have D2206 : Dj [b0] fp2190 := Dj.ap D2164 (lt1 F2182.lt) hap2192
                have D2207 : Dj fp1_0_1 fp2190 := Dj.ap D2165 F1679.low hap2192
                have D2208 : Dj fp1_0_2 fp2190 := Dj.ap D2166 F1680.low hap2192
                have D2209 : Dj fp1_0_3 fp2190 := Dj.ap D2167 F1681.low hap2192
                have D2210 : Dj [b1_0] fp2190 := Dj.ap D2168 (lt1 F1682.lt) hap2192
                have D2211 : Dj [b1] fp2190 := Dj.ap D2169 (lt1 F1683.lt) hap2192
                have D2212 : Dj [b2] fp2190 := Dj.ap D2170 (lt1 F1684.lt) hap2192
                have D2213 : Dj [b3] fp2190 := Dj.ap D2171 (lt1 F1685.lt) hap2192
                have D2214 : Dj [b4] fp2190 := Dj.ap D2172 (lt1 F1686.lt) hap2192
                have D2215 : Dj fp5_0 fp2190 := Dj.ap D2173 F1687.low hap2192
                have D2216 : Dj [b5] fp2190 := Dj.ap D2174 (lt1 F1688.lt) hap2192
                have D2217 : Dj [b6] fp2190 := Dj.ap D2175 (lt1 F1689.lt) hap2192
                have D2218 : Dj [b15] fp2190 := Dj.ap D2176 (lt1 F1690.lt) hap2192
                have D2219 : Dj [b1660] fp2190 := Dj.ap D2177 (lt1 F1691.lt) hap2192
                have D2220 : Dj fp5_0 fp2190 := Dj.ap D2179 F2134.low hap2192
                have D2221 : Dj [b2143] fp2190 := Dj.ap D2180 F2146.low hap2192
                have hap2223 := Rt.of hap2197 hZ hap1696
                have D2224 : Dj [b0] fp2195 := Dj.ap D1714 (lt1 F2182.lt) hap2197
                have D2225 : Dj fp1_0_1 fp2195 := Dj.ap D1715 F1679.low hap2197
                have D2226 : Dj fp1_0_2 fp2195 := Dj.ap D1716 F1680.low hap2197
                have D2227 : Dj fp1_0_3 fp2195 := Dj.ap D1717 F1681.low hap2197
                have D2228 : Dj [b1_0] fp2195 := Dj.ap D1718 (lt1 F1682.lt) hap2197
                have D2229 : Dj [b1] fp2195 := Dj.ap D1719 (lt1 F1683.lt) hap2197
                have D2230 : Dj [b2] fp2195 := Dj.ap D1720 (lt1 F1684.lt) hap2197
                have D2231 : Dj [b3] fp2195 := Dj.ap D1721 (lt1 F1685.lt) hap2197
                have D2232 : Dj [b4] fp2195 := Dj.ap D1722 (lt1 F1686.lt) hap2197
                have D2233 : Dj fp5_0 fp2195 := Dj.ap D1723 F1687.low hap2197
                have D2234 : Dj [b5] fp2195 := Dj.ap D1724 (lt1 F1688.lt) hap2197
                have D2235 : Dj [b6] fp2195 := Dj.ap D1725 (lt1 F1689.lt) hap2197
                have D2236 : Dj [b15] fp2195 := Dj.ap D1726 (lt1 F1690.lt) hap2197
                have D2237 : Dj [b1660] fp2195 := Dj.ap (D1699).symm (lt1 F1691.lt) hap2197
                have D2238 : Dj fp5_0 fp2195 := Dj.ap D1723 F2134.low hap2197
                have D2239 : Dj [b2143] fp2195 := Dj.ap (D2152).symm F2146.low hap2197
                replace F1679 := F1679.chg hc2187 (Dj.app (J0__1_0_1).symm (Dj.app (J2__1_0_1).symm (Dj.app (J3__1_0_1).symm (Dj.app (J4__1_0_1).symm (Dj.app D2165 (Dj.app D1715 Dj.nil))))))
                replace F1680 := F1680.chg hc2187 (Dj.app (J0__1_0_2).symm (Dj.app (J2__1_0_2).symm (Dj.app (J3__1_0_2).symm (Dj.app (J4__1_0_2).symm (Dj.app D2166 (Dj.app D1716 Dj.nil))))))
                replace F1681 := F1681.chg hc2187 (Dj.app (J0__1_0_3).symm (Dj.app (J2__1_0_3).symm (Dj.app (J3__1_0_3).symm (Dj.app (J4__1_0_3).symm (Dj.app D2167 (Dj.app D1717 Dj.nil))))))
                replace F1682 := F1682.chg hc2187 (dj1 (Dj.app (J0__1_0).symm (Dj.app (J2__1_0).symm (Dj.app (J3__1_0).symm (Dj.app (J4__1_0).symm (Dj.app D2168 (Dj.app D1718 Dj.nil)))))))
                replace F1683 := F1683.chg hc2187 (dj1 (Dj.app (J0__1).symm (Dj.app (J2__1).symm (Dj.app (J3__1).symm (Dj.app (J4__1).symm (Dj.app D2169 (Dj.app D1719 Dj.nil)))))))
                replace F1687 := F1687.chg hc2187 (Dj.app (J0__5_0).symm (Dj.app (J2__5_0).symm (Dj.app (J3__5_0).symm (Dj.app (J4__5_0).symm (Dj.app D2173 (Dj.app D1723 Dj.nil))))))
                replace F1688 := F1688.chg hc2187 (dj1 (Dj.app (J0__5).symm (Dj.app (J2__5).symm (Dj.app (J3__5).symm (Dj.app (J4__5).symm (Dj.app D2174 (Dj.app D1724 Dj.nil)))))))
                replace F1689 := F1689.chg hc2187 (dj1 (Dj.app (J0__6).symm (Dj.app (J2__6).symm (Dj.app (J3__6).symm (Dj.app (J4__6).symm (Dj.app D2175 (Dj.app D1725 Dj.nil)))))))
                replace F1690 := F1690.chg hc2187 (dj1 (Dj.app (Dj.of L0 (low1 G17)).symm (Dj.app (Dj.of L2 (low1 G17)).symm (Dj.app (Dj.of L3 (low1 G17)).symm (Dj.app (Dj.of L4 (low1 G17)).symm (Dj.app D2176 (Dj.app D1726 Dj.nil)))))))
                replace F1691 := F1691.chg hc2187 (dj1 (Dj.app (Dj.of L0 (low1 G1694)).symm (Dj.app (Dj.of L2 (low1 G1694)).symm (Dj.app (Dj.of L3 (low1 G1694)).symm (Dj.app (Dj.of L4 (low1 G1694)).symm (Dj.app D2177 (Dj.app (D1699).symm Dj.nil)))))))
                replace F2134 := F2134.chg hc2187 (Dj.app (J0__5_0).symm (Dj.app (J2__5_0).symm (Dj.app (J3__5_0).symm (Dj.app (J4__5_0).symm (Dj.app D2179 (Dj.app D1723 Dj.nil))))))
                replace F2146 := F2146.chg hc2187 (Dj.app (Dj.of L0 G2145).symm (Dj.app (Dj.of L2 G2145).symm (Dj.app (Dj.of L3 G2145).symm (Dj.app (Dj.of L4 G2145).symm (Dj.app D2180 (Dj.app (D2152).symm Dj.nil))))))
                replace hB := hB.inS hc2187 (inApp (inMem (fun x hx => (List.mem_append_left _ hx))) (inApp (inMem (fun x hx => (List.mem_append_right _ (List.mem_append_left _ hx)))) (inApp (inMem (fun x hx => (List.mem_append_right _ (List.mem_append_right _ (List.mem_append_left _ hx))))) (inApp (inMem (fun x hx => (List.mem_append_right _ (List.mem_append_right _ (List.mem_append_right _ (List.mem_append_left _ hx)))))) (inApp (inRt hap2163 (fun x hx => (List.mem_append_right _ (List.mem_append_right _ (List.mem_append_right _ (List.mem_append_right _ (List.mem_append_left _ hx))))))) (inApp (inRt hap1696 (fun x hx => (List.mem_append_right _ (List.mem_append_right _ (List.mem_append_right _ (List.mem_append_right _ (List.mem_append_right _ (List.mem_append_left _ hx)))))))) inNil))))))
                replace hZ := Nat.le_trans hZ hc2187.size
                clear F2182
                clear F1684
                clear F1685
                clear F1686
                refine ⟨.tuple #[], rfl, ?_⟩
                refine wS_end (by rfl) ?_
                refine eX_then ?_
                refine cW_prune [(0, .pointer (some ⟨b0, 0, none⟩)), (1, .pointer (some ⟨b1, 0, none⟩)), (5, .pointer (some ⟨b5, 0, none⟩)), (6, .pointer (some ⟨b6, 0, none⟩)), (7, .pointer (some ⟨b15, 0, none⟩)), (9, .pointer (some ⟨b1660, 0, none⟩))] (by kernel_rfl) (by kernel_rfl) (fun a2240 => ?_)
                refine cW_region ?_
                refine wS_load1 (d := 80) (T := 25) (ad := ⟨b0, 0, none⟩) (v := .slice A2188 (y2184.2.2.1).length cap2189) (by kernel_rfl) vt25 ((F2200).cell 0) ?_
                refine wS_load1 (d := 81) (T := 3) (ad := ⟨b15, 0, none⟩) (v := .int .i64 (((l0_0).length : Int))) (by kernel_rfl) vt3 ((F1690).cell 0) ?_
                obtain ⟨y2241, hy2242, hm⟩ := bindE hm
                refine wS_prefix (k := 1) (enc := encI) (U := 2) (l := y2184.2.2.1) (d := 82) (T := 25) (A := A2188) (cap := cap2189) (hi := ((l0_0).length : Int)) (by kernel_rfl) sl25 encI_ok F2191 F2191.cap_le hy2242 ?_
                intro hpe F2243
                subst hpe
                refine wS_store (T := 25) (g := b0) (o := 0) (ad := ⟨b0, 0, none⟩) (v := .slice A2188 (y2184.2.2.1.take (Int.toNat (((l0_0).length : Int)))).length cap2189) (vs := [.slice A2188 (y2184.2.2.1.take (Int.toNat (((l0_0).length : Int)))).length cap2189]) (by kernel_rfl) (by rfl) sz25 (by rfl) (by rfl) F2200 (by simp only [List.length_cons, List.length_nil]; omega) ?_
                intro w2244 F2245 hc2246
                replace F1679 := F1679.chg hc2246 (J0__1_0_1).symm
                replace F1680 := F1680.chg hc2246 (J0__1_0_2).symm
                replace F1681 := F1681.chg hc2246 (J0__1_0_3).symm
                replace F1682 := F1682.chg hc2246 (dj1 (J0__1_0).symm)
                replace F1683 := F1683.chg hc2246 (dj1 (J0__1).symm)
                replace F2201 := F2201.chg hc2246 (dj1 (J0__2).symm)
                replace F2202 := F2202.chg hc2246 (dj1 (J0__3).symm)
                replace F2203 := F2203.chg hc2246 (dj1 (J0__4).symm)
                replace F1687 := F1687.chg hc2246 (J0__5_0).symm
                replace F1688 := F1688.chg hc2246 (dj1 (J0__5).symm)
                replace F1689 := F1689.chg hc2246 (dj1 (J0__6).symm)
                replace F1690 := F1690.chg hc2246 (dj1 (Dj.of L0 (low1 G17)).symm)
                replace F1691 := F1691.chg hc2246 (dj1 (Dj.of L0 (low1 G1694)).symm)
                replace F2134 := F2134.chg hc2246 (J0__5_0).symm
                replace F2146 := F2146.chg hc2246 (Dj.of L0 G2145).symm
                replace F2243 := F2243.chg hc2246 (D2206).symm
                replace F2196 := F2196.chg hc2246 (D2224).symm
                replace hB := hB.inS hc2246 (inMem (fun x hx => (List.mem_append_left _ hx)))
                replace hZ := Nat.le_trans hZ hc2246.size
                replace F2245 : Cl w2244 b0 25 [.slice A2188 (y2184.2.2.1.take (Int.toNat (((l0_0).length : Int)))).length cap2189] := F2245
                clear F2200
                refine wS_end (by rfl) ?_
                have hq : (some ((y2184.1, y2184.2.1, y2184.2.2.1.take (Int.toNat (((l0_0).length : Int))), y2184.2.2.2.1, y2184.2.2.2.2)) : Option (Int × Int × (List (Int)) × (List (Int)) × Bool)) = some _ := hm
                replace hq := someE hq
                subst hq
                exact eX_J (fun hst => ⟨y2184.1, y2184.2.1, y2184.2.2.1.take (Int.toNat (((l0_0).length : Int))), A2188, cap2189, fp2190, y2184.2.2.2.1, A2193, cap2194, fp2195, y2184.2.2.2.2, rfl, Fr.of hst (by kernel_rfl), F2245, F1679, F1680, F1681, F1682, F1683, F2201, F2202, F2203, F1687, F1688, F1689, F1690, F1691, F2243, F2196, hap2205, hz2198, hap2223, D2206, D2207, D2208, D2209, D2210, D2211, D2212, D2213, D2214, D2215, D2216, D2217, D2218, D2219, (D2199).symm, D2224, D2225, D2226, D2227, D2228, D2229, D2230, D2231, D2232, D2233, D2234, D2235, D2236, D2237, hB, hZ⟩)
              · have hm := condF hb2142 hm
                refine cW_skip ?_
                have hq : (some ((x1663, x1664, l1665, l1670, z1675)) : Option (Int × Int × (List (Int)) × (List (Int)) × Bool)) = some _ := hm
                replace hq := someE hq
                subst hq
                exact eX_J (fun hst => ⟨x1663, x1664, l1665, A1666, cap1667, fp1668, l1670, A1671, cap1672, fp1673, z1675, rfl, Fr.of hst (by kernel_rfl), F1678, F1679, F1680, F1681, F1682, F1683, F1684, F1685, F1686, F1687, F1688, F1689, F1690, F1691, F1692, F1693, hap1695, hz1676, hap1696, D1700, D1701, D1702, D1703, D1704, D1705, D1706, D1707, D1708, D1709, D1710, D1711, D1712, (D1698).symm, D1713, D1714, D1715, D1716, D1717, D1718, D1719, D1720, D1721, D1722, D1723, D1724, D1725, D1726, (D1699).symm, hB, hZ⟩)
          · have hm := condF hb2125 hm
            rewrite [hb2125]
            refine wH_take [9, 10, 11, 12, 13, 14, 15, 16] [16, 15, 14, 13, 12, 11, 10, 9, 8, 7, 6, 5, 4, 3, 2, 1, 0] [(60, undef), (59, undef), (58, undef), (57, undef), (56, undef), (55, undef), (54, undef), (53, undef)] (by kernel_rfl) (qT (qT (qT (qB (qT (qL (qB (qT qZ)))))))) (by kernel_rfl) ?_
            refine wH_done (by kernel_rfl) ?_
            refine eX_tail ?_
            refine wS_pure 3 [(10, .bool (false)), (62, .bool (false)), (61, undef)] (by kernel_rfl) ?_
            refine wS_end (by rfl) ?_
            refine eX_then ?_
            refine cW_prune [(0, .pointer (some ⟨b0, 0, none⟩)), (1, .pointer (some ⟨b1, 0, none⟩)), (5, .pointer (some ⟨b5, 0, none⟩)), (6, .pointer (some ⟨b6, 0, none⟩)), (7, .pointer (some ⟨b15, 0, none⟩)), (9, .pointer (some ⟨b1660, 0, none⟩)), (10, .bool (false))] (by kernel_rfl) (by kernel_rfl) (fun a2247 => ?_)
            refine cW_seq ?_
            refine cW_region ?_
            refine wS_pure 2 [(64, .bool (false)), (63, .bool (false))] (by kernel_rfl) ?_
            refine wS_load1 (d := 65) (T := 77) (ad := ⟨b5, 0, none⟩) (v := .slice A5_0 (l5_0).length cap5_0) (by kernel_rfl) vt77 ((F1688).cell 0) ?_
            refine wS_load1 (d := 66) (T := 3) (ad := ⟨b15, 0, none⟩) (v := .int .i64 (((l0_0).length : Int))) (by kernel_rfl) vt3 ((F1690).cell 0) ?_
            obtain ⟨x2248, hx2249, hm⟩ := bindE hm
            refine wS_idx (d := 67) (T := 77) (A := A5_0) (n := (l5_0).length) (cap := cap5_0) (kd := .i64) (m := ((l0_0).length : Int)) (by kernel_rfl) sl77 (F1687.is hx2249) ?_
            obtain ⟨A2250, cap2251, hc2253, F2252, K2254⟩ := SlR.row F1687 hx2249
            refine wS_load1 (d := 68) (T := 75) (ad := (elA A5_0 1 (((l0_0).length : Int)) 0)) (v := .slice A2250 (x2248).length cap2251) (by kernel_rfl) vt75 hc2253 ?_
            refine wS_pure 1 [(69, .func (.func 94) #[] #[.pointer (some ⟨b15, 0, none⟩), .pointer (some ⟨b0, 0, none⟩), .pointer (some ⟨b1660, 0, none⟩)])] (by kernel_rfl) ?_
            obtain ⟨y2256, hy2257, hm⟩ := bindE hm
            refine wS_calls (d := 70) (f := 93) (vs := [.slice A2250 (x2248).length cap2251, .func (.func 94) #[] #[.pointer (some ⟨b15, 0, none⟩), .pointer (some ⟨b0, 0, none⟩), .pointer (some ⟨b1660, 0, none⟩)]]) (by kernel_rfl) ent93 (c_slices_ContainsFunc_int_int_impl_Wiring_best_1_1_bint_bint64_bint64 hy2257 F2252 F1690 (F1692.sl encI_ok) F1678 F1691) ?_
            rintro _ w2258 ⟨rfl, hc2259⟩
            replace F1678 := F1678.chg hc2259 notNil
            replace F1679 := F1679.chg hc2259 Dj.nil
            replace F1680 := F1680.chg hc2259 Dj.nil
            replace F1681 := F1681.chg hc2259 Dj.nil
            replace F1682 := F1682.chg hc2259 notNil
            replace F1683 := F1683.chg hc2259 notNil
            replace F1684 := F1684.chg hc2259 notNil
            replace F1685 := F1685.chg hc2259 notNil
            replace F1686 := F1686.chg hc2259 notNil
            replace F1687 := F1687.chg hc2259 Dj.nil
            replace F1688 := F1688.chg hc2259 notNil
            replace F1689 := F1689.chg hc2259 notNil
            replace F1690 := F1690.chg hc2259 notNil
            replace F1691 := F1691.chg hc2259 notNil
            replace F1692 := F1692.chg hc2259 Dj.nil
            replace F1693 := F1693.chg hc2259 Dj.nil
            replace F2252 := F2252.chg hc2259 Dj.nil
            replace hB := hB.inS hc2259 inNil
            replace hZ := Nat.le_trans hZ hc2259.size
            refine ⟨.bool (y2256), rfl, ?_⟩
            refine wS_pure 2 [(10, .bool (y2256)), (71, .bool (y2256))] (by kernel_rfl) ?_
            refine wS_end (by rfl) ?_
            refine eX_then ?_
            refine cW_seq ?_
            refine cW_region ?_
            refine wS_pure 2 [(73, .bool (!y2256)), (72, .bool (y2256))] (by kernel_rfl) ?_
            refine wS_end (by rfl) ?_
            refine eX_then ?_
            refine cW_cond (t := !y2256) (by kernel_rfl) (fun hb2260 => ?_) (fun hb2260 => ?_)
            · have hm := condT hb2260 hm
              refine cW_seq ?_
              refine cW_region ?_
              refine wS_load1 (d := 74) (T := 25) (ad := ⟨b0, 0, none⟩) (v := .slice A1666 (l1665).length cap1667) (by kernel_rfl) vt25 ((F1678).cell 0) ?_
              refine wS_load1 (d := 75) (T := 2) (ad := ⟨b1660, 0, none⟩) (v := .int .i64 (x1661)) (by kernel_rfl) vt2 ((F1691).cell 0) ?_
              refine wS_bs (enc := encI) ([x1661] : List (Int)) [.int .i64 (x1661)] (d := 76) (t := 25) (T := 2) (n := 1) (ps := [(0, .int .i64 (x1661))]) (by kernel_rfl) el25 encI_ok (by rfl) (by omega) (by omega) (by kernel_rfl) (by rfl) ?_
              intro b2261 w2262 G2263 F2264 hc2265
              have D2267 : Dj [b15] [b2261] := Dj.of (lt1 F1690.lt) (low1 G2263)
              have D2268 : Dj [b1660] [b2261] := Dj.of (lt1 F1691.lt) (low1 G2263)
              have D2269 : Dj fp1668 [b2261] := Dj.of F1692.low (low1 G2263)
              have D2270 : Dj fp1673 [b2261] := Dj.of F1693.low (low1 G2263)
              replace F1678 := F1678.chg hc2265 notNil
              replace F1679 := F1679.chg hc2265 Dj.nil
              replace F1680 := F1680.chg hc2265 Dj.nil
              replace F1681 := F1681.chg hc2265 Dj.nil
              replace F1682 := F1682.chg hc2265 notNil
              replace F1683 := F1683.chg hc2265 notNil
              replace F1684 := F1684.chg hc2265 notNil
              replace F1685 := F1685.chg hc2265 notNil
              replace F1686 := F1686.chg hc2265 notNil
              replace F1687 := F1687.chg hc2265 Dj.nil
              replace F1688 := F1688.chg hc2265 notNil
              replace F1689 := F1689.chg hc2265 notNil
              replace F1690 := F1690.chg hc2265 notNil
              replace F1691 := F1691.chg hc2265 notNil
              replace F1692 := F1692.chg hc2265 Dj.nil
              replace F1693 := F1693.chg hc2265 Dj.nil
              replace F2252 := F2252.chg hc2265 Dj.nil
              replace hB := hB.inS hc2265 inNil
              replace G2263 := Nat.le_trans hZ G2263
              replace G2263 := low1 G2263
              replace hZ := Nat.le_trans hZ hc2265.size
              obtain ⟨_, hk2271, hm⟩ := bindE hm
              replace hk2271 := apE hk2271
              refine wS_append (enc := encI) (l := (l1665 : List (Int))) (l2 := (([x1661] : List (Int)) : List (Int))) (d := 77) (t := 25) (T := 2) (A := A1666) (A2 := (some ⟨b2261, 0, none⟩)) (cap := cap1667) (cap2 := 1) (by kernel_rfl) el25 encI_ok F1692 (F2264.sl encI_ok) (by rfl) hk2271 ?_
              intro w2272 fp2273 A2274 cap2275 F2276 hc2277 hp2278
              have hap2281 := Rt.of hp2278 hZ hap1695
              have D2282 : Dj [b0] fp2273 := Dj.ap D1700 (lt1 F1678.lt) hp2278
              have D2283 : Dj fp1_0_1 fp2273 := Dj.ap D1701 F1679.low hp2278
              have D2284 : Dj fp1_0_2 fp2273 := Dj.ap D1702 F1680.low hp2278
              have D2285 : Dj fp1_0_3 fp2273 := Dj.ap D1703 F1681.low hp2278
              have D2286 : Dj [b1_0] fp2273 := Dj.ap D1704 (lt1 F1682.lt) hp2278
              have D2287 : Dj [b1] fp2273 := Dj.ap D1705 (lt1 F1683.lt) hp2278
              have D2288 : Dj [b2] fp2273 := Dj.ap D1706 (lt1 F1684.lt) hp2278
              have D2289 : Dj [b3] fp2273 := Dj.ap D1707 (lt1 F1685.lt) hp2278
              have D2290 : Dj [b4] fp2273 := Dj.ap D1708 (lt1 F1686.lt) hp2278
              have D2291 : Dj fp5_0 fp2273 := Dj.ap D1709 F1687.low hp2278
              have D2292 : Dj [b5] fp2273 := Dj.ap D1710 (lt1 F1688.lt) hp2278
              have D2293 : Dj [b6] fp2273 := Dj.ap D1711 (lt1 F1689.lt) hp2278
              have D2294 : Dj [b15] fp2273 := Dj.ap D1712 (lt1 F1690.lt) hp2278
              have D2295 : Dj [b1660] fp2273 := Dj.ap (D1698).symm (lt1 F1691.lt) hp2278
              have D2296 : Dj fp1673 fp2273 := Dj.ap D1713 F1693.low hp2278
              have D2297 : Dj fp5_0 fp2273 := Dj.ap D1709 F2252.low hp2278
              have D2298 : Dj [b2261] fp2273 := Dj.ap (D2269).symm F2264.low hp2278
              replace F1678 := F1678.chg hc2277 (dj1 D1700)
              replace F1679 := F1679.chg hc2277 D1701
              replace F1680 := F1680.chg hc2277 D1702
              replace F1681 := F1681.chg hc2277 D1703
              replace F1682 := F1682.chg hc2277 (dj1 D1704)
              replace F1683 := F1683.chg hc2277 (dj1 D1705)
              replace F1684 := F1684.chg hc2277 (dj1 D1706)
              replace F1685 := F1685.chg hc2277 (dj1 D1707)
              replace F1686 := F1686.chg hc2277 (dj1 D1708)
              replace F1687 := F1687.chg hc2277 D1709
              replace F1688 := F1688.chg hc2277 (dj1 D1710)
              replace F1689 := F1689.chg hc2277 (dj1 D1711)
              replace F1690 := F1690.chg hc2277 (dj1 D1712)
              replace F1691 := F1691.chg hc2277 (dj1 (D1698).symm)
              replace F1693 := F1693.chg hc2277 D1713
              replace F2252 := F2252.chg hc2277 D1709
              replace F2264 := F2264.chg hc2277 (D2269).symm
              replace hB := hB.inS hc2277 (inRt hap1695 (fun x hx => (List.mem_append_right _ (List.mem_append_right _ (List.mem_append_right _ (List.mem_append_right _ (List.mem_append_left _ hx)))))))
              replace hZ := Nat.le_trans hZ hc2277.size
              refine wS_store (T := 25) (g := b0) (o := 0) (ad := ⟨b0, 0, none⟩) (v := .slice A2274 (l1665 ++ (([x1661] : List (Int)))).length cap2275) (vs := [.slice A2274 (l1665 ++ (([x1661] : List (Int)))).length cap2275]) (by kernel_rfl) (by rfl) sz25 (by rfl) (by rfl) F1678 (by simp only [List.length_cons, List.length_nil]; omega) ?_
              intro w2299 F2300 hc2301
              replace F1679 := F1679.chg hc2301 (J0__1_0_1).symm
              replace F1680 := F1680.chg hc2301 (J0__1_0_2).symm
              replace F1681 := F1681.chg hc2301 (J0__1_0_3).symm
              replace F1682 := F1682.chg hc2301 (dj1 (J0__1_0).symm)
              replace F1683 := F1683.chg hc2301 (dj1 (J0__1).symm)
              replace F1684 := F1684.chg hc2301 (dj1 (J0__2).symm)
              replace F1685 := F1685.chg hc2301 (dj1 (J0__3).symm)
              replace F1686 := F1686.chg hc2301 (dj1 (J0__4).symm)
              replace F1687 := F1687.chg hc2301 (J0__5_0).symm
              replace F1688 := F1688.chg hc2301 (dj1 (J0__5).symm)
              replace F1689 := F1689.chg hc2301 (dj1 (J0__6).symm)
              replace F1690 := F1690.chg hc2301 (dj1 (Dj.of L0 (low1 G17)).symm)
              replace F1691 := F1691.chg hc2301 (dj1 (Dj.of L0 (low1 G1694)).symm)
              replace F1693 := F1693.chg hc2301 (D1714).symm
              replace F2252 := F2252.chg hc2301 (J0__5_0).symm
              replace F2264 := F2264.chg hc2301 (Dj.of L0 G2263).symm
              replace F2276 := F2276.chg hc2301 (D2282).symm
              replace hB := hB.inS hc2301 (inMem (fun x hx => (List.mem_append_left _ hx)))
              replace hZ := Nat.le_trans hZ hc2301.size
              replace F2300 : Cl w2299 b0 25 [.slice A2274 (l1665 ++ (([x1661] : List (Int)))).length cap2275] := F2300
              clear F1678
              refine wS_end (by rfl) ?_
              refine eX_then ?_
              refine cW_seq ?_
              refine cW_region ?_
              refine wS_load1 (d := 78) (T := 1) (ad := ⟨b6, 0, none⟩) (v := .func (.func 91) #[] #[.pointer (some ⟨b0, 0, none⟩), .pointer (some ⟨b1, 0, none⟩), .pointer (some ⟨b2, 0, none⟩), .pointer (some ⟨b3, 0, none⟩), .pointer (some ⟨b4, 0, none⟩), .pointer (some ⟨b5, 0, none⟩), .pointer (some ⟨b6, 0, none⟩)]) (by kernel_rfl) vt1 ((F1689).cell 0) ?_
              obtain ⟨y2302, hy2303, hm⟩ := bindE hm
              refine wS_calls (d := 79) (f := 91) (vs := [.pointer (some ⟨b0, 0, none⟩), .pointer (some ⟨b1, 0, none⟩), .pointer (some ⟨b2, 0, none⟩), .pointer (some ⟨b3, 0, none⟩), .pointer (some ⟨b4, 0, none⟩), .pointer (some ⟨b5, 0, none⟩), .pointer (some ⟨b6, 0, none⟩)]) (by kernel_rfl) ent91 (hR hy2303 F2276 F2300 F1679 F1680 F1681 F1682 F1683 F1693 hz1676 F1684 F1685 F1686 F1687 F1688 F1689 D2282 J0__1_0_1 J0__1_0_2 J0__1_0_3 J0__1_0 J0__1 D1714 J0__2 J0__3 J0__4 J0__5_0 J0__5 J0__6 D2288 J2__1_0_1 J2__1_0_2 J2__1_0_3 J2__1_0 J2__1 D1720 J2__3 J2__4 J2__5_0 J2__5 J2__6 D2289 J3__1_0_1 J3__1_0_2 J3__1_0_3 J3__1_0 J3__1 D1721 J3__4 J3__5_0 J3__5 J3__6 D2290 J4__1_0_1 J4__1_0_2 J4__1_0_3 J4__1_0 J4__1 D1722 J4__5_0 J4__5 J4__6 (D2283).symm (D2284).symm (D2285).symm (D2286).symm (D2287).symm (D2296).symm (D2291).symm (D2292).symm (D2293).symm (D1715).symm (D1716).symm (D1717).symm (D1718).symm (D1719).symm (D1723).symm (D1724).symm (D1725).symm) ?_
              rintro _ w2304 ⟨A2306, cap2307, fp2308, A2311, cap2312, fp2313, rfl, D2317, F2318, F2319, F2320, F2321, F2309, hap2310, F2314, hap2315, hz2316, hc2305⟩
              have hap2323 := Rt.of hap2310 hZ hap2281
              have D2324 : Dj [b0] fp2308 := Dj.ap D2282 (lt1 F2300.lt) hap2310
              have D2325 : Dj fp1_0_1 fp2308 := Dj.ap D2283 F1679.low hap2310
              have D2326 : Dj fp1_0_2 fp2308 := Dj.ap D2284 F1680.low hap2310
              have D2327 : Dj fp1_0_3 fp2308 := Dj.ap D2285 F1681.low hap2310
              have D2328 : Dj [b1_0] fp2308 := Dj.ap D2286 (lt1 F1682.lt) hap2310
              have D2329 : Dj [b1] fp2308 := Dj.ap D2287 (lt1 F1683.lt) hap2310
              have D2330 : Dj [b2] fp2308 := Dj.ap D2288 (lt1 F1684.lt) hap2310
              have D2331 : Dj [b3] fp2308 := Dj.ap D2289 (lt1 F1685.lt) hap2310
              have D2332 : Dj [b4] fp2308 := Dj.ap D2290 (lt1 F1686.lt) hap2310
              have D2333 : Dj fp5_0 fp2308 := Dj.ap D2291 F1687.low hap2310
              have D2334 : Dj [b5] fp2308 := Dj.ap D2292 (lt1 F1688.lt) hap2310
              have D2335 : Dj [b6] fp2308 := Dj.ap D2293 (lt1 F1689.lt) hap2310
              have D2336 : Dj [b15] fp2308 := Dj.ap D2294 (lt1 F1690.lt) hap2310
              have D2337 : Dj [b1660] fp2308 := Dj.ap D2295 (lt1 F1691.lt) hap2310
              have D2338 : Dj fp5_0 fp2308 := Dj.ap D2297 F2252.low hap2310
              have D2339 : Dj [b2261] fp2308 := Dj.ap D2298 F2264.low hap2310
              have hap2341 := Rt.of hap2315 hZ hap1696
              have D2342 : Dj [b0] fp2313 := Dj.ap D1714 (lt1 F2300.lt) hap2315
              have D2343 : Dj fp1_0_1 fp2313 := Dj.ap D1715 F1679.low hap2315
              have D2344 : Dj fp1_0_2 fp2313 := Dj.ap D1716 F1680.low hap2315
              have D2345 : Dj fp1_0_3 fp2313 := Dj.ap D1717 F1681.low hap2315
              have D2346 : Dj [b1_0] fp2313 := Dj.ap D1718 (lt1 F1682.lt) hap2315
              have D2347 : Dj [b1] fp2313 := Dj.ap D1719 (lt1 F1683.lt) hap2315
              have D2348 : Dj [b2] fp2313 := Dj.ap D1720 (lt1 F1684.lt) hap2315
              have D2349 : Dj [b3] fp2313 := Dj.ap D1721 (lt1 F1685.lt) hap2315
              have D2350 : Dj [b4] fp2313 := Dj.ap D1722 (lt1 F1686.lt) hap2315
              have D2351 : Dj fp5_0 fp2313 := Dj.ap D1723 F1687.low hap2315
              have D2352 : Dj [b5] fp2313 := Dj.ap D1724 (lt1 F1688.lt) hap2315
              have D2353 : Dj [b6] fp2313 := Dj.ap D1725 (lt1 F1689.lt) hap2315
              have D2354 : Dj [b15] fp2313 := Dj.ap D1726 (lt1 F1690.lt) hap2315
              have D2355 : Dj [b1660] fp2313 := Dj.ap (D1699).symm (lt1 F1691.lt) hap2315
              have D2356 : Dj fp5_0 fp2313 := Dj.ap D1723 F2252.low hap2315
              have D2357 : Dj [b2261] fp2313 := Dj.ap (D2270).symm F2264.low hap2315
              replace F1679 := F1679.chg hc2305 (Dj.app (J0__1_0_1).symm (Dj.app (J2__1_0_1).symm (Dj.app (J3__1_0_1).symm (Dj.app (J4__1_0_1).symm (Dj.app D2283 (Dj.app D1715 Dj.nil))))))
              replace F1680 := F1680.chg hc2305 (Dj.app (J0__1_0_2).symm (Dj.app (J2__1_0_2).symm (Dj.app (J3__1_0_2).symm (Dj.app (J4__1_0_2).symm (Dj.app D2284 (Dj.app D1716 Dj.nil))))))
              replace F1681 := F1681.chg hc2305 (Dj.app (J0__1_0_3).symm (Dj.app (J2__1_0_3).symm (Dj.app (J3__1_0_3).symm (Dj.app (J4__1_0_3).symm (Dj.app D2285 (Dj.app D1717 Dj.nil))))))
              replace F1682 := F1682.chg hc2305 (dj1 (Dj.app (J0__1_0).symm (Dj.app (J2__1_0).symm (Dj.app (J3__1_0).symm (Dj.app (J4__1_0).symm (Dj.app D2286 (Dj.app D1718 Dj.nil)))))))
              replace F1683 := F1683.chg hc2305 (dj1 (Dj.app (J0__1).symm (Dj.app (J2__1).symm (Dj.app (J3__1).symm (Dj.app (J4__1).symm (Dj.app D2287 (Dj.app D1719 Dj.nil)))))))
              replace F1687 := F1687.chg hc2305 (Dj.app (J0__5_0).symm (Dj.app (J2__5_0).symm (Dj.app (J3__5_0).symm (Dj.app (J4__5_0).symm (Dj.app D2291 (Dj.app D1723 Dj.nil))))))
              replace F1688 := F1688.chg hc2305 (dj1 (Dj.app (J0__5).symm (Dj.app (J2__5).symm (Dj.app (J3__5).symm (Dj.app (J4__5).symm (Dj.app D2292 (Dj.app D1724 Dj.nil)))))))
              replace F1689 := F1689.chg hc2305 (dj1 (Dj.app (J0__6).symm (Dj.app (J2__6).symm (Dj.app (J3__6).symm (Dj.app (J4__6).symm (Dj.app D2293 (Dj.app D1725 Dj.nil)))))))
              replace F1690 := F1690.chg hc2305 (dj1 (Dj.app (Dj.of L0 (low1 G17)).symm (Dj.app (Dj.of L2 (low1 G17)).symm (Dj.app (Dj.of L3 (low1 G17)).symm (Dj.app (Dj.of L4 (low1 G17)).symm (Dj.app D2294 (Dj.app D1726 Dj.nil)))))))
              replace F1691 := F1691.chg hc2305 (dj1 (Dj.app (Dj.of L0 (low1 G1694)).symm (Dj.app (Dj.of L2 (low1 G1694)).symm (Dj.app (Dj.of L3 (low1 G1694)).symm (Dj.app (Dj.of L4 (low1 G1694)).symm (Dj.app D2295 (Dj.app (D1699).symm Dj.nil)))))))
              replace F2252 := F2252.chg hc2305 (Dj.app (J0__5_0).symm (Dj.app (J2__5_0).symm (Dj.app (J3__5_0).symm (Dj.app (J4__5_0).symm (Dj.app D2297 (Dj.app D1723 Dj.nil))))))
              replace F2264 := F2264.chg hc2305 (Dj.app (Dj.of L0 G2263).symm (Dj.app (Dj.of L2 G2263).symm (Dj.app (Dj.of L3 G2263).symm (Dj.app (Dj.of L4 G2263).symm (Dj.app D2298 (Dj.app (D2270).symm Dj.nil))))))
              replace hB := hB.inS hc2305 (inApp (inMem (fun x hx => (List.mem_append_left _ hx))) (inApp (inMem (fun x hx => (List.mem_append_right _ (List.mem_append_left _ hx)))) (inApp (inMem (fun x hx => (List.mem_append_right _ (List.mem_append_right _ (List.mem_append_left _ hx))))) (inApp (inMem (fun x hx => (List.mem_append_right _ (List.mem_append_right _ (List.mem_append_right _ (List.mem_append_left _ hx)))))) (inApp (inRt hap2281 (fun x hx => (List.mem_append_right _ (List.mem_append_right _ (List.mem_append_right _ (List.mem_append_right _ (List.mem_append_left _ hx))))))) (inApp (inRt hap1696 (fun x hx => (List.mem_append_right _ (List.mem_append_right _ (List.mem_append_right _ (List.mem_append_right _ (List.mem_append_right _ (List.mem_append_left _ hx)))))))) inNil))))))
              replace hZ := Nat.le_trans hZ hc2305.size
              clear F2300
              clear F1684
              clear F1685
              clear F1686
              refine ⟨.tuple #[], rfl, ?_⟩
              refine wS_end (by rfl) ?_
              refine eX_then ?_
              refine cW_prune [(0, .pointer (some ⟨b0, 0, none⟩)), (1, .pointer (some ⟨b1, 0, none⟩)), (5, .pointer (some ⟨b5, 0, none⟩)), (6, .pointer (some ⟨b6, 0, none⟩)), (7, .pointer (some ⟨b15, 0, none⟩)), (9, .pointer (some ⟨b1660, 0, none⟩))] (by kernel_rfl) (by kernel_rfl) (fun a2358 => ?_)
              refine cW_region ?_
              refine wS_load1 (d := 80) (T := 25) (ad := ⟨b0, 0, none⟩) (v := .slice A2306 (y2302.2.2.1).length cap2307) (by kernel_rfl) vt25 ((F2318).cell 0) ?_
              refine wS_load1 (d := 81) (T := 3) (ad := ⟨b15, 0, none⟩) (v := .int .i64 (((l0_0).length : Int))) (by kernel_rfl) vt3 ((F1690).cell 0) ?_
              obtain ⟨y2359, hy2360, hm⟩ := bindE hm
              refine wS_prefix (k := 1) (enc := encI) (U := 2) (l := y2302.2.2.1) (d := 82) (T := 25) (A := A2306) (cap := cap2307) (hi := ((l0_0).length : Int)) (by kernel_rfl) sl25 encI_ok F2309 F2309.cap_le hy2360 ?_
              intro hpe F2361
              subst hpe
              refine wS_store (T := 25) (g := b0) (o := 0) (ad := ⟨b0, 0, none⟩) (v := .slice A2306 (y2302.2.2.1.take (Int.toNat (((l0_0).length : Int)))).length cap2307) (vs := [.slice A2306 (y2302.2.2.1.take (Int.toNat (((l0_0).length : Int)))).length cap2307]) (by kernel_rfl) (by rfl) sz25 (by rfl) (by rfl) F2318 (by simp only [List.length_cons, List.length_nil]; omega) ?_
              intro w2362 F2363 hc2364
              replace F1679 := F1679.chg hc2364 (J0__1_0_1).symm
              replace F1680 := F1680.chg hc2364 (J0__1_0_2).symm
              replace F1681 := F1681.chg hc2364 (J0__1_0_3).symm
              replace F1682 := F1682.chg hc2364 (dj1 (J0__1_0).symm)
              replace F1683 := F1683.chg hc2364 (dj1 (J0__1).symm)
              replace F2319 := F2319.chg hc2364 (dj1 (J0__2).symm)
              replace F2320 := F2320.chg hc2364 (dj1 (J0__3).symm)
              replace F2321 := F2321.chg hc2364 (dj1 (J0__4).symm)
              replace F1687 := F1687.chg hc2364 (J0__5_0).symm
              replace F1688 := F1688.chg hc2364 (dj1 (J0__5).symm)
              replace F1689 := F1689.chg hc2364 (dj1 (J0__6).symm)
              replace F1690 := F1690.chg hc2364 (dj1 (Dj.of L0 (low1 G17)).symm)
              replace F1691 := F1691.chg hc2364 (dj1 (Dj.of L0 (low1 G1694)).symm)
              replace F2252 := F2252.chg hc2364 (J0__5_0).symm
              replace F2264 := F2264.chg hc2364 (Dj.of L0 G2263).symm
              replace F2361 := F2361.chg hc2364 (D2324).symm
              replace F2314 := F2314.chg hc2364 (D2342).symm
              replace hB := hB.inS hc2364 (inMem (fun x hx => (List.mem_append_left _ hx)))
              replace hZ := Nat.le_trans hZ hc2364.size
              replace F2363 : Cl w2362 b0 25 [.slice A2306 (y2302.2.2.1.take (Int.toNat (((l0_0).length : Int)))).length cap2307] := F2363
              clear F2318
              refine wS_end (by rfl) ?_
              have hq : (some ((y2302.1, y2302.2.1, y2302.2.2.1.take (Int.toNat (((l0_0).length : Int))), y2302.2.2.2.1, y2302.2.2.2.2)) : Option (Int × Int × (List (Int)) × (List (Int)) × Bool)) = some _ := hm
              replace hq := someE hq
              subst hq
              exact eX_J (fun hst => ⟨y2302.1, y2302.2.1, y2302.2.2.1.take (Int.toNat (((l0_0).length : Int))), A2306, cap2307, fp2308, y2302.2.2.2.1, A2311, cap2312, fp2313, y2302.2.2.2.2, rfl, Fr.of hst (by kernel_rfl), F2363, F1679, F1680, F1681, F1682, F1683, F2319, F2320, F2321, F1687, F1688, F1689, F1690, F1691, F2361, F2314, hap2323, hz2316, hap2341, D2324, D2325, D2326, D2327, D2328, D2329, D2330, D2331, D2332, D2333, D2334, D2335, D2336, D2337, (D2317).symm, D2342, D2343, D2344, D2345, D2346, D2347, D2348, D2349, D2350, D2351, D2352, D2353, D2354, D2355, hB, hZ⟩)
            · have hm := condF hb2260 hm
              refine cW_skip ?_
              have hq : (some ((x1663, x1664, l1665, l1670, z1675)) : Option (Int × Int × (List (Int)) × (List (Int)) × Bool)) = some _ := hm
              replace hq := someE hq
              subst hq
              exact eX_J (fun hst => ⟨x1663, x1664, l1665, A1666, cap1667, fp1668, l1670, A1671, cap1672, fp1673, z1675, rfl, Fr.of hst (by kernel_rfl), F1678, F1679, F1680, F1681, F1682, F1683, F1684, F1685, F1686, F1687, F1688, F1689, F1690, F1691, F1692, F1693, hap1695, hz1676, hap1696, D1700, D1701, D1702, D1703, D1704, D1705, D1706, D1707, D1708, D1709, D1710, D1711, D1712, (D1698).symm, D1713, D1714, D1715, D1716, D1717, D1718, D1719, D1720, D1721, D1722, D1723, D1724, D1725, D1726, (D1699).symm, hB, hZ⟩)
        · rintro a' w2017 ⟨x2018, x2019, l2020, A2021, cap2022, fp2023, l2025, A2026, cap2027, fp2028, z2030, hJ, hF2032, F2033, F2034, F2035, F2036, F2037, F2038, F2039, F2040, F2041, F2042, F2043, F2044, F2045, F2046, F2047, F2048, hap2049, hz2031, hap2050, D2051, D2052, D2053, D2054, D2055, D2056, D2057, D2058, D2059, D2060, D2061, D2062, D2063, D2064, D2065, D2066, D2067, D2068, D2069, D2070, D2071, D2072, D2073, D2074, D2075, D2076, D2077, D2078, D2079, hB, hZ⟩
          subst hJ
          refine Fr.goX hF2032 (by kernel_rfl) ?_
          refine eX_block ?_
          refine eX_then ?_
          refine cW_seq ?_
          refine cW_seq ?_
          refine cW_region ?_
          refine wS_load1 (d := 83) (T := 2) (ad := ⟨b1660, 0, none⟩) (v := .int .i64 (x1661)) (by kernel_rfl) vt2 ((F2046).cell 0) ?_
          refine wS_end (by rfl) ?_
          refine eX_then ?_
          refine cW_region ?_
          refine wS_alloc (d := 9) (T := 2) (z := .int .i64 (0)) (by kernel_rfl) (by kernel_rfl) ?_
          intro b2365 w2366 G2367 F2368 hc2369
          replace F2368 : Cl w2366 b2365 2 [.int .i64 (0)] := F2368
          have D2371 : Dj [b15] [b2365] := Dj.of (lt1 F2045.lt) (low1 G2367)
          have D2372 : Dj [b1660] [b2365] := Dj.of (lt1 F2046.lt) (low1 G2367)
          have D2373 : Dj fp2023 [b2365] := Dj.of F2047.low (low1 G2367)
          have D2374 : Dj fp2028 [b2365] := Dj.of F2048.low (low1 G2367)
          replace F2033 := F2033.chg hc2369 notNil
          replace F2034 := F2034.chg hc2369 Dj.nil
          replace F2035 := F2035.chg hc2369 Dj.nil
          replace F2036 := F2036.chg hc2369 Dj.nil
          replace F2037 := F2037.chg hc2369 notNil
          replace F2038 := F2038.chg hc2369 notNil
          replace F2039 := F2039.chg hc2369 notNil
          replace F2040 := F2040.chg hc2369 notNil
          replace F2041 := F2041.chg hc2369 notNil
          replace F2042 := F2042.chg hc2369 Dj.nil
          replace F2043 := F2043.chg hc2369 notNil
          replace F2044 := F2044.chg hc2369 notNil
          replace F2045 := F2045.chg hc2369 notNil
          replace F2046 := F2046.chg hc2369 notNil
          replace F2047 := F2047.chg hc2369 Dj.nil
          replace F2048 := F2048.chg hc2369 Dj.nil
          replace hB := hB.inS hc2369 inNil
          replace G2367 := Nat.le_trans hZ G2367
          replace hZ := Nat.le_trans hZ hc2369.size
          refine wS_store (T := 2) (g := b2365) (o := 0) (ad := ⟨b2365, 0, none⟩) (v := .int .i64 (x1661)) (vs := [.int .i64 (x1661)]) (by kernel_rfl) (by rfl) sz2 (by rfl) (by rfl) F2368 (by simp only [List.length_cons, List.length_nil]; omega) ?_
          intro w2375 F2376 hc2377
          replace F2033 := F2033.chg hc2377 (dj1 (Dj.of L0 (low1 G2367)))
          replace F2034 := F2034.chg hc2377 (Dj.of L1_0_1 (low1 G2367))
          replace F2035 := F2035.chg hc2377 (Dj.of L1_0_2 (low1 G2367))
          replace F2036 := F2036.chg hc2377 (Dj.of L1_0_3 (low1 G2367))
          replace F2037 := F2037.chg hc2377 (dj1 (Dj.of L1_0 (low1 G2367)))
          replace F2038 := F2038.chg hc2377 (dj1 (Dj.of L1 (low1 G2367)))
          replace F2039 := F2039.chg hc2377 (dj1 (Dj.of L2 (low1 G2367)))
          replace F2040 := F2040.chg hc2377 (dj1 (Dj.of L3 (low1 G2367)))
          replace F2041 := F2041.chg hc2377 (dj1 (Dj.of L4 (low1 G2367)))
          replace F2042 := F2042.chg hc2377 (Dj.of L5_0 (low1 G2367))
          replace F2043 := F2043.chg hc2377 (dj1 (Dj.of L5 (low1 G2367)))
          replace F2044 := F2044.chg hc2377 (dj1 (Dj.of L6 (low1 G2367)))
          replace F2045 := F2045.chg hc2377 (dj1 D2371)
          replace F2046 := F2046.chg hc2377 (dj1 D2372)
          replace F2047 := F2047.chg hc2377 D2373
          replace F2048 := F2048.chg hc2377 D2374
          replace hB := hB.inS hc2377 (inLow (low1 G2367))
          replace hZ := Nat.le_trans hZ hc2377.size
          replace F2376 : Cl w2375 b2365 2 [.int .i64 (x1661)] := F2376
          clear F2368
          refine wS_end (by rfl) ?_
          refine eX_then ?_
          refine cW_region ?_
          refine wS_load1 (d := 42) (T := 2) (ad := ⟨b2365, 0, none⟩) (v := .int .i64 (x1661)) (by kernel_rfl) vt2 ((F2376).cell 0) ?_
          refine wS_pure 1 [(43, .int .i64 (wr (x1661 + 1)))] (by kernel_rfl) ?_
          refine wS_store (T := 2) (g := b2365) (o := 0) (ad := ⟨b2365, 0, none⟩) (v := .int .i64 (wr (x1661 + 1))) (vs := [.int .i64 (wr (x1661 + 1))]) (by kernel_rfl) (by rfl) sz2 (by rfl) (by rfl) F2376 (by simp only [List.length_cons, List.length_nil]; omega) ?_
          intro w2378 F2379 hc2380
          replace F2033 := F2033.chg hc2380 (dj1 (Dj.of L0 (low1 G2367)))
          replace F2034 := F2034.chg hc2380 (Dj.of L1_0_1 (low1 G2367))
          replace F2035 := F2035.chg hc2380 (Dj.of L1_0_2 (low1 G2367))
          replace F2036 := F2036.chg hc2380 (Dj.of L1_0_3 (low1 G2367))
          replace F2037 := F2037.chg hc2380 (dj1 (Dj.of L1_0 (low1 G2367)))
          replace F2038 := F2038.chg hc2380 (dj1 (Dj.of L1 (low1 G2367)))
          replace F2039 := F2039.chg hc2380 (dj1 (Dj.of L2 (low1 G2367)))
          replace F2040 := F2040.chg hc2380 (dj1 (Dj.of L3 (low1 G2367)))
          replace F2041 := F2041.chg hc2380 (dj1 (Dj.of L4 (low1 G2367)))
          replace F2042 := F2042.chg hc2380 (Dj.of L5_0 (low1 G2367))
          replace F2043 := F2043.chg hc2380 (dj1 (Dj.of L5 (low1 G2367)))
          replace F2044 := F2044.chg hc2380 (dj1 (Dj.of L6 (low1 G2367)))
          replace F2045 := F2045.chg hc2380 (dj1 D2371)
          replace F2046 := F2046.chg hc2380 (dj1 D2372)
          replace F2047 := F2047.chg hc2380 D2373
          replace F2048 := F2048.chg hc2380 D2374
          replace hB := hB.inS hc2380 (inLow (low1 G2367))
          replace hZ := Nat.le_trans hZ hc2380.size
          replace F2379 : Cl w2378 b2365 2 [.int .i64 (wr (x1661 + 1))] := F2379
          clear F2376
          refine wS_end (by rfl) ?_
          have hq : (some (Ctl.next ((wr (x1661 + 1), x2018, x2019, l2020, l2025, z2030))) : Option (Ctl (Int × Int × Int × (List (Int)) × (List (Int)) × Bool) (Int × Int × (List (Int)) × (List (Int)) × Bool))) = some _ := hm
          replace hq := someE hq
          subst hq
          exact eX_next hx1732 (fun hst => ⟨b2365, wr (x1661 + 1), x2018, x2019, l2020, A2021, cap2022, fp2023, l2025, A2026, cap2027, fp2028, z2030, rfl, Fr.of hst (by kernel_rfl), F2033, F2034, F2035, F2036, F2037, F2038, F2039, F2040, F2041, F2042, F2043, F2044, F2045, F2379, F2047, F2048, G2367, hap2049, hz2031, hap2050, D2371, D2373, D2374, D2051, D2052, D2053, D2054, D2055, D2056, D2057, D2058, D2059, D2060, D2061, D2062, D2063, D2065, D2066, D2067, D2068, D2069, D2070, D2071, D2072, D2073, D2074, D2075, D2076, D2077, D2078, hB, hZ⟩)
      · have hm := condF hb1733 hm
        refine cW_exit ?_
        refine eX_then_exit ?_
        have hq : (some (Ctl.out ((x1663, x1664, l1665, l1670, z1675))) : Option (Ctl (Int × Int × Int × (List (Int)) × (List (Int)) × Bool) (Int × Int × (List (Int)) × (List (Int)) × Bool))) = some _ := hm
        replace hq := someE hq
        subst hq
        refine eX_outX hx1732 (fun hr2381 => ?_)
        replace hr2381 := hr2381.symm
        subst hr2381
        refine eX_block_hit ?_
        exact eX_J (fun hst => ⟨x1663, x1664, l1665, A1666, cap1667, fp1668, l1670, A1671, cap1672, fp1673, z1675, rfl, Fr.of hst (by kernel_rfl), F1678, F1684, F1685, F1686, F1692, F1693, hap1695, hz1676, hap1696, D1700, D1706, D1707, D1708, D1713, D1714, D1720, D1721, D1722, hB, hZ⟩)
    · rintro a' w1626 ⟨x1627, x1628, l1629, A1630, cap1631, fp1632, l1634, A1635, cap1636, fp1637, z1639, hJ, hF1641, F1642, F1643, F1644, F1645, F1646, F1647, hap1648, hz1640, hap1649, D1650, D1651, D1652, D1653, D1654, D1655, D1656, D1657, D1658, hB, hZ⟩
      subst hJ
      refine Fr.goX hF1641 (by kernel_rfl) ?_
      have hq : (some ((x1627, x1628, l1629, l1634, z1639)) : Option ((Int) × (Int) × (List (Int)) × (List (Int)) × (Bool))) = some _ := hm
      replace hq := someE hq
      subst hq
      refine eX_fall (vs := []) [] (by rfl) trivial ?_
      exact ⟨A1630, cap1631, fp1632, A1635, cap1636, fp1637, rfl, (D1654).symm, F1642, F1643, F1644, F1645, F1646, hap1648, F1647, hap1649, hz1640, hB⟩
set_option maxRecDepth 100000 in
theorem c_impl_Wiring_best_1_bint64_bimplWiring_bimplWiring_bint64_bint64_bint64_bimplgraph_bfunc_self (n : Nat) : ∀ {w0 : World} {l0_0 : List (Int)} {A0_0 : Option Addr} {cap0_0 : Nat} {fp0_0 : List Nat} {b0 : Nat} {q1_0_0 : Int} {l1_0_1 : List (List (Int))} {A1_0_1 : Option Addr} {cap1_0_1 : Nat} {fp1_0_1 : List Nat} {l1_0_2 : List (List (Int))} {A1_0_2 : Option Addr} {cap1_0_2 : Nat} {fp1_0_2 : List Nat} {l1_0_3 : List (Int)} {A1_0_3 : Option Addr} {cap1_0_3 : Nat} {fp1_0_3 : List Nat} {b1_0 : Nat} {b1 : Nat} {l2_0 : List (Int)} {A2_0 : Option Addr} {cap2_0 : Nat} {fp2_0 : List Nat} {z2_0 : Bool} {b2 : Nat} {q3_0 : Int} {b3 : Nat} {q4_0 : Int} {b4 : Nat} {l5_0 : List (List (Int))} {A5_0 : Option Addr} {cap5_0 : Nat} {fp5_0 : List Nat} {b5 : Nat} {b6 : Nat} {r : (Int) × (Int) × (List (Int)) × (List (Int)) × (Bool)} (hm : m_impl_Wiring_best_1_bint64_bimplWiring_bimplWiring_bint64_bint64_bint64_bimplgraph_bfunc_self n l0_0 q1_0_0 l1_0_1 l1_0_2 l1_0_3 l2_0 z2_0 q3_0 q4_0 l5_0 = some r) (F0_0 : Ow 1 encI 2 w0 fp0_0 A0_0 cap0_0 l0_0) (F0 : Cl w0 b0 25 [.slice A0_0 (l0_0).length cap0_0]) (F1_0_1 : SlR 1 encI w0 fp1_0_1 A1_0_1 l1_0_1) (F1_0_2 : SlR 1 encI w0 fp1_0_2 A1_0_2 l1_0_2) (F1_0_3 : Sl 1 encI w0 fp1_0_3 A1_0_3 l1_0_3) (F1_0 : Cl w0 b1_0 27 [.int .i64 (q1_0_0), .slice A1_0_1 (l1_0_1).length cap1_0_1, .slice A1_0_2 (l1_0_2).length cap1_0_2, .slice A1_0_3 (l1_0_3).length cap1_0_3]) (F1 : Cl w0 b1 87 [.pointer (some ⟨b1_0, 0, none⟩)]) (F2_0 : Ow 1 encI 2 w0 fp2_0 A2_0 cap2_0 l2_0) (Z2_0 : A2_0.isNone = z2_0) (F2 : Cl w0 b2 25 [.slice A2_0 (l2_0).length cap2_0]) (F3 : Cl w0 b3 2 [.int .i64 (q3_0)]) (F4 : Cl w0 b4 2 [.int .i64 (q4_0)]) (F5_0 : SlR 1 encI w0 fp5_0 A5_0 l5_0) (F5 : Cl w0 b5 77 [.slice A5_0 (l5_0).length cap5_0]) (F6 : Cl w0 b6 1 [.func (.func 91) #[] #[.pointer (some ⟨b0, 0, none⟩), .pointer (some ⟨b1, 0, none⟩), .pointer (some ⟨b2, 0, none⟩), .pointer (some ⟨b3, 0, none⟩), .pointer (some ⟨b4, 0, none⟩), .pointer (some ⟨b5, 0, none⟩), .pointer (some ⟨b6, 0, none⟩)]]) (J0__0_0 : Dj [b0] fp0_0) (J0__1_0_1 : Dj [b0] fp1_0_1) (J0__1_0_2 : Dj [b0] fp1_0_2) (J0__1_0_3 : Dj [b0] fp1_0_3) (J0__1_0 : Dj [b0] [b1_0]) (J0__1 : Dj [b0] [b1]) (J0__2_0 : Dj [b0] fp2_0) (J0__2 : Dj [b0] [b2]) (J0__3 : Dj [b0] [b3]) (J0__4 : Dj [b0] [b4]) (J0__5_0 : Dj [b0] fp5_0) (J0__5 : Dj [b0] [b5]) (J0__6 : Dj [b0] [b6]) (J2__0_0 : Dj [b2] fp0_0) (J2__1_0_1 : Dj [b2] fp1_0_1) (J2__1_0_2 : Dj [b2] fp1_0_2) (J2__1_0_3 : Dj [b2] fp1_0_3) (J2__1_0 : Dj [b2] [b1_0]) (J2__1 : Dj [b2] [b1]) (J2__2_0 : Dj [b2] fp2_0) (J2__3 : Dj [b2] [b3]) (J2__4 : Dj [b2] [b4]) (J2__5_0 : Dj [b2] fp5_0) (J2__5 : Dj [b2] [b5]) (J2__6 : Dj [b2] [b6]) (J3__0_0 : Dj [b3] fp0_0) (J3__1_0_1 : Dj [b3] fp1_0_1) (J3__1_0_2 : Dj [b3] fp1_0_2) (J3__1_0_3 : Dj [b3] fp1_0_3) (J3__1_0 : Dj [b3] [b1_0]) (J3__1 : Dj [b3] [b1]) (J3__2_0 : Dj [b3] fp2_0) (J3__4 : Dj [b3] [b4]) (J3__5_0 : Dj [b3] fp5_0) (J3__5 : Dj [b3] [b5]) (J3__6 : Dj [b3] [b6]) (J4__0_0 : Dj [b4] fp0_0) (J4__1_0_1 : Dj [b4] fp1_0_1) (J4__1_0_2 : Dj [b4] fp1_0_2) (J4__1_0_3 : Dj [b4] fp1_0_3) (J4__1_0 : Dj [b4] [b1_0]) (J4__1 : Dj [b4] [b1]) (J4__2_0 : Dj [b4] fp2_0) (J4__5_0 : Dj [b4] fp5_0) (J4__5 : Dj [b4] [b5]) (J4__6 : Dj [b4] [b6]) (J0_0__1_0_1 : Dj fp0_0 fp1_0_1) (J0_0__1_0_2 : Dj fp0_0 fp1_0_2) (J0_0__1_0_3 : Dj fp0_0 fp1_0_3) (J0_0__1_0 : Dj fp0_0 [b1_0]) (J0_0__1 : Dj fp0_0 [b1]) (J0_0__2_0 : Dj fp0_0 fp2_0) (J0_0__5_0 : Dj fp0_0 fp5_0) (J0_0__5 : Dj fp0_0 [b5]) (J0_0__6 : Dj fp0_0 [b6]) (J2_0__1_0_1 : Dj fp2_0 fp1_0_1) (J2_0__1_0_2 : Dj fp2_0 fp1_0_2) (J2_0__1_0_3 : Dj fp2_0 fp1_0_3) (J2_0__1_0 : Dj fp2_0 [b1_0]) (J2_0__1 : Dj fp2_0 [b1]) (J2_0__5_0 : Dj fp2_0 fp5_0) (J2_0__5 : Dj fp2_0 [b5]) (J2_0__6 : Dj fp2_0 [b6]), Calls Try.prog 91 #[.pointer (some ⟨b0, 0, none⟩), .pointer (some ⟨b1, 0, none⟩), .pointer (some ⟨b2, 0, none⟩), .pointer (some ⟨b3, 0, none⟩), .pointer (some ⟨b4, 0, none⟩), .pointer (some ⟨b5, 0, none⟩), .pointer (some ⟨b6, 0, none⟩)] w0 fun e w' => ∃ At0_0 capt0_0 fpt0_0, ∃ At2_0 capt2_0 fpt2_0, e = .returned (.tuple #[]) ∧ Dj fpt0_0 fpt2_0 ∧ Cl w' b0 25 [.slice At0_0 (r.2.2.1).length capt0_0] ∧ Cl w' b2 25 [.slice At2_0 (r.2.2.2.1).length capt2_0] ∧ Cl w' b3 2 [.int .i64 (r.1)] ∧ Cl w' b4 2 [.int .i64 (r.2.1)] ∧ Ow 1 encI 2 w' fpt0_0 At0_0 capt0_0 r.2.2.1 ∧ Rt w0.heap.size fp0_0 fpt0_0 ∧ Ow 1 encI 2 w' fpt2_0 At2_0 capt2_0 r.2.2.2.1 ∧ Rt w0.heap.size fp2_0 fpt2_0 ∧ At2_0.isNone = r.2.2.2.2 ∧ Chg ([b0] ++ ([b2] ++ ([b3] ++ ([b4] ++ (fp0_0 ++ (fp2_0 ++ [])))))) w0 w' := by
  induction n with
  | zero => intro w0 l0_0 A0_0 cap0_0 fp0_0 b0 q1_0_0 l1_0_1 A1_0_1 cap1_0_1 fp1_0_1 l1_0_2 A1_0_2 cap1_0_2 fp1_0_2 l1_0_3 A1_0_3 cap1_0_3 fp1_0_3 b1_0 b1 l2_0 A2_0 cap2_0 fp2_0 z2_0 b2 q3_0 b3 q4_0 b4 l5_0 A5_0 cap5_0 fp5_0 b5 b6 r hm F0_0 F0 F1_0_1 F1_0_2 F1_0_3 F1_0 F1 F2_0 Z2_0 F2 F3 F4 F5_0 F5 F6 J0__0_0 J0__1_0_1 J0__1_0_2 J0__1_0_3 J0__1_0 J0__1 J0__2_0 J0__2 J0__3 J0__4 J0__5_0 J0__5 J0__6 J2__0_0 J2__1_0_1 J2__1_0_2 J2__1_0_3 J2__1_0 J2__1 J2__2_0 J2__3 J2__4 J2__5_0 J2__5 J2__6 J3__0_0 J3__1_0_1 J3__1_0_2 J3__1_0_3 J3__1_0 J3__1 J3__2_0 J3__4 J3__5_0 J3__5 J3__6 J4__0_0 J4__1_0_1 J4__1_0_2 J4__1_0_3 J4__1_0 J4__1 J4__2_0 J4__5_0 J4__5 J4__6 J0_0__1_0_1 J0_0__1_0_2 J0_0__1_0_3 J0_0__1_0 J0_0__1 J0_0__2_0 J0_0__5_0 J0_0__5 J0_0__6 J2_0__1_0_1 J2_0__1_0_2 J2_0__1_0_3 J2_0__1_0 J2_0__1 J2_0__5_0 J2_0__5 J2_0__6; exact nomatch (show (none : Option ((Int) × (Int) × (List (Int)) × (List (Int)) × (Bool))) = some r from hm)
  | succ n ih => intro w0 l0_0 A0_0 cap0_0 fp0_0 b0 q1_0_0 l1_0_1 A1_0_1 cap1_0_1 fp1_0_1 l1_0_2 A1_0_2 cap1_0_2 fp1_0_2 l1_0_3 A1_0_3 cap1_0_3 fp1_0_3 b1_0 b1 l2_0 A2_0 cap2_0 fp2_0 z2_0 b2 q3_0 b3 q4_0 b4 l5_0 A5_0 cap5_0 fp5_0 b5 b6 r hm F0_0 F0 F1_0_1 F1_0_2 F1_0_3 F1_0 F1 F2_0 Z2_0 F2 F3 F4 F5_0 F5 F6 J0__0_0 J0__1_0_1 J0__1_0_2 J0__1_0_3 J0__1_0 J0__1 J0__2_0 J0__2 J0__3 J0__4 J0__5_0 J0__5 J0__6 J2__0_0 J2__1_0_1 J2__1_0_2 J2__1_0_3 J2__1_0 J2__1 J2__2_0 J2__3 J2__4 J2__5_0 J2__5 J2__6 J3__0_0 J3__1_0_1 J3__1_0_2 J3__1_0_3 J3__1_0 J3__1 J3__2_0 J3__4 J3__5_0 J3__5 J3__6 J4__0_0 J4__1_0_1 J4__1_0_2 J4__1_0_3 J4__1_0 J4__1 J4__2_0 J4__5_0 J4__5 J4__6 J0_0__1_0_1 J0_0__1_0_2 J0_0__1_0_3 J0_0__1_0 J0_0__1 J0_0__2_0 J0_0__5_0 J0_0__5 J0_0__6 J2_0__1_0_1 J2_0__1_0_2 J2_0__1_0_3 J2_0__1_0 J2_0__1 J2_0__5_0 J2_0__5 J2_0__6; exact c_impl_Wiring_best_1_bint64_bimplWiring_bimplWiring_bint64_bint64_bint64_bimplgraph_bfunc_self_body ih hm F0_0 F0 F1_0_1 F1_0_2 F1_0_3 F1_0 F1 F2_0 Z2_0 F2 F3 F4 F5_0 F5 F6 J0__0_0 J0__1_0_1 J0__1_0_2 J0__1_0_3 J0__1_0 J0__1 J0__2_0 J0__2 J0__3 J0__4 J0__5_0 J0__5 J0__6 J2__0_0 J2__1_0_1 J2__1_0_2 J2__1_0_3 J2__1_0 J2__1 J2__2_0 J2__3 J2__4 J2__5_0 J2__5 J2__6 J3__0_0 J3__1_0_1 J3__1_0_2 J3__1_0_3 J3__1_0 J3__1 J3__2_0 J3__4 J3__5_0 J3__5 J3__6 J4__0_0 J4__1_0_1 J4__1_0_2 J4__1_0_3 J4__1_0 J4__1 J4__2_0 J4__5_0 J4__5 J4__6 J0_0__1_0_1 J0_0__1_0_2 J0_0__1_0_3 J0_0__1_0 J0_0__1 J0_0__2_0 J0_0__5_0 J0_0__5 J0_0__6 J2_0__1_0_1 J2_0__1_0_2 J2_0__1_0_3 J2_0__1_0 J2_0__1 J2_0__5_0 J2_0__5 J2_0__6


set_option maxRecDepth 100000 in
/-- impl.Wiring).best -/
theorem c_impl_Wiring_best_bimplWiring {w0 : World} {q0_0 : Int} {l0_1 : List (List (Int))} {A0_1 : Option Addr} {cap0_1 : Nat} {fp0_1 : List Nat} {l0_2 : List (List (Int))} {A0_2 : Option Addr} {cap0_2 : Nat} {fp0_2 : List Nat} {l0_3 : List (Int)} {A0_3 : Option Addr} {cap0_3 : Nat} {fp0_3 : List Nat} {b0 : Nat} {r : (List (Int)) × (Int) × (Int)} (hm : m_impl_Wiring_best_bimplWiring q0_0 l0_1 l0_2 l0_3 = some r) (F0_1 : SlR 1 encI w0 fp0_1 A0_1 l0_1) (F0_2 : SlR 1 encI w0 fp0_2 A0_2 l0_2) (F0_3 : Sl 1 encI w0 fp0_3 A0_3 l0_3) (F0 : Cl w0 b0 27 [.int .i64 (q0_0), .slice A0_1 (l0_1).length cap0_1, .slice A0_2 (l0_2).length cap0_2, .slice A0_3 (l0_3).length cap0_3]) :
    Calls Try.prog 54 #[.pointer (some ⟨b0, 0, none⟩)] w0 fun e w' => ∃ A100 cap100 fp100, e = .returned (.tuple #[.slice A100 (r.1).length cap100, .int .i64 (r.2.1), .int .i64 (r.2.2)]) ∧ Ow 1 encI 2 w' fp100 A100 cap100 r.1 ∧ (∀ x ∈ fp100, w0.heap.size ≤ x) ∧ Chg [] w0 w' := by
  have L0_1 := F0_1.low
  have L0_2 := F0_2.low
  have L0_3 := F0_3.low
  have L0 := lt1 F0.lt
  have hB : Chg [] w0 w0 := Chg.refl _ _
  have hZ := Nat.le_refl w0.heap.size
  unfold m_impl_Wiring_best_bimplWiring at hm
  refine enterE (N := 20) Try.func54 (by rfl) Try.ntmps54 (by simp) [(0, .pointer (some ⟨b0, 0, none⟩))] (by rfl) (by kernel_rfl) (fun a => ?_)
  refine cW_seq ?_
  refine cW_region ?_
  refine wS_box (d := 1) (T := 87) (x := .pointer (some ⟨b0, 0, none⟩)) (by kernel_rfl) ?_
  intro b5 w6 G7 F8 hc9
  replace F8 : Cl w6 b5 87 [.pointer (some ⟨b0, 0, none⟩)] := F8
  replace F0_1 := F0_1.chg hc9 Dj.nil
  replace F0_2 := F0_2.chg hc9 Dj.nil
  replace F0_3 := F0_3.chg hc9 Dj.nil
  replace F0 := F0.chg hc9 notNil
  replace hB := hB.inS hc9 inNil
  replace G7 := Nat.le_trans hZ G7
  replace hZ := Nat.le_trans hZ hc9.size
  refine wS_pure 3 [(4, .int .i64 (0)), (3, .int .i64 (0)), (2, .slice none 0 0)] (by kernel_rfl) ?_
  refine wS_end (by rfl) ?_
  refine eX_then ?_
  refine cW_seq ?_
  refine cW_region ?_
  refine wS_alloc (d := 5) (T := 25) (z := .slice none 0 0) (by kernel_rfl) (by kernel_rfl) ?_
  intro b11 w12 G13 F14 hc15
  replace F14 : Cl w12 b11 25 [.slice none 0 0] := F14
  have D17 : Dj [b5] [b11] := Dj.of (lt1 F8.lt) (low1 G13)
  replace F0_1 := F0_1.chg hc15 Dj.nil
  replace F0_2 := F0_2.chg hc15 Dj.nil
  replace F0_3 := F0_3.chg hc15 Dj.nil
  replace F0 := F0.chg hc15 notNil
  replace F8 := F8.chg hc15 notNil
  replace hB := hB.inS hc15 inNil
  replace G13 := Nat.le_trans hZ G13
  replace hZ := Nat.le_trans hZ hc15.size
  refine wS_alloc (d := 6) (T := 2) (z := .int .i64 (0)) (by kernel_rfl) (by kernel_rfl) ?_
  intro b18 w19 G20 F21 hc22
  replace F21 : Cl w19 b18 2 [.int .i64 (0)] := F21
  have D24 : Dj [b5] [b18] := Dj.of (lt1 F8.lt) (low1 G20)
  have D25 : Dj [b11] [b18] := Dj.of (lt1 F14.lt) (low1 G20)
  replace F0_1 := F0_1.chg hc22 Dj.nil
  replace F0_2 := F0_2.chg hc22 Dj.nil
  replace F0_3 := F0_3.chg hc22 Dj.nil
  replace F0 := F0.chg hc22 notNil
  replace F8 := F8.chg hc22 notNil
  replace F14 := F14.chg hc22 notNil
  replace hB := hB.inS hc22 inNil
  replace G20 := Nat.le_trans hZ G20
  replace hZ := Nat.le_trans hZ hc22.size
  refine wS_alloc (d := 7) (T := 2) (z := .int .i64 (0)) (by kernel_rfl) (by kernel_rfl) ?_
  intro b26 w27 G28 F29 hc30
  replace F29 : Cl w27 b26 2 [.int .i64 (0)] := F29
  have D32 : Dj [b5] [b26] := Dj.of (lt1 F8.lt) (low1 G28)
  have D33 : Dj [b11] [b26] := Dj.of (lt1 F14.lt) (low1 G28)
  have D34 : Dj [b18] [b26] := Dj.of (lt1 F21.lt) (low1 G28)
  replace F0_1 := F0_1.chg hc30 Dj.nil
  replace F0_2 := F0_2.chg hc30 Dj.nil
  replace F0_3 := F0_3.chg hc30 Dj.nil
  replace F0 := F0.chg hc30 notNil
  replace F8 := F8.chg hc30 notNil
  replace F14 := F14.chg hc30 notNil
  replace F21 := F21.chg hc30 notNil
  replace hB := hB.inS hc30 inNil
  replace G28 := Nat.le_trans hZ G28
  replace hZ := Nat.le_trans hZ hc30.size
  refine wS_store (T := 25) (g := b11) (o := 0) (ad := ⟨b11, 0, none⟩) (v := .slice none 0 0) (vs := [.slice none 0 0]) (by kernel_rfl) (by rfl) sz25 (by rfl) (by rfl) F14 (by simp only [List.length_cons, List.length_nil]; omega) ?_
  intro w35 F36 hc37
  replace F0_1 := F0_1.chg hc37 (Dj.of L0_1 (low1 G13))
  replace F0_2 := F0_2.chg hc37 (Dj.of L0_2 (low1 G13))
  replace F0_3 := F0_3.chg hc37 (Dj.of L0_3 (low1 G13))
  replace F0 := F0.chg hc37 (dj1 (Dj.of L0 (low1 G13)))
  replace F8 := F8.chg hc37 (dj1 D17)
  replace F21 := F21.chg hc37 (dj1 (D25).symm)
  replace F29 := F29.chg hc37 (dj1 (D33).symm)
  replace hB := hB.inS hc37 (inLow (low1 G13))
  replace hZ := Nat.le_trans hZ hc37.size
  replace F36 : Cl w35 b11 25 [.slice none 0 0] := F36
  clear F14
  refine wS_store (T := 2) (g := b18) (o := 0) (ad := ⟨b18, 0, none⟩) (v := .int .i64 (0)) (vs := [.int .i64 (0)]) (by kernel_rfl) (by rfl) sz2 (by rfl) (by rfl) F21 (by simp only [List.length_cons, List.length_nil]; omega) ?_
  intro w38 F39 hc40
  replace F0_1 := F0_1.chg hc40 (Dj.of L0_1 (low1 G20))
  replace F0_2 := F0_2.chg hc40 (Dj.of L0_2 (low1 G20))
  replace F0_3 := F0_3.chg hc40 (Dj.of L0_3 (low1 G20))
  replace F0 := F0.chg hc40 (dj1 (Dj.of L0 (low1 G20)))
  replace F8 := F8.chg hc40 (dj1 D24)
  replace F36 := F36.chg hc40 (dj1 D25)
  replace F29 := F29.chg hc40 (dj1 (D34).symm)
  replace hB := hB.inS hc40 (inLow (low1 G20))
  replace hZ := Nat.le_trans hZ hc40.size
  replace F39 : Cl w38 b18 2 [.int .i64 (0)] := F39
  clear F21
  refine wS_store (T := 2) (g := b26) (o := 0) (ad := ⟨b26, 0, none⟩) (v := .int .i64 (0)) (vs := [.int .i64 (0)]) (by kernel_rfl) (by rfl) sz2 (by rfl) (by rfl) F29 (by simp only [List.length_cons, List.length_nil]; omega) ?_
  intro w41 F42 hc43
  replace F0_1 := F0_1.chg hc43 (Dj.of L0_1 (low1 G28))
  replace F0_2 := F0_2.chg hc43 (Dj.of L0_2 (low1 G28))
  replace F0_3 := F0_3.chg hc43 (Dj.of L0_3 (low1 G28))
  replace F0 := F0.chg hc43 (dj1 (Dj.of L0 (low1 G28)))
  replace F8 := F8.chg hc43 (dj1 D32)
  replace F36 := F36.chg hc43 (dj1 D33)
  replace F39 := F39.chg hc43 (dj1 D34)
  replace hB := hB.inS hc43 (inLow (low1 G28))
  replace hZ := Nat.le_trans hZ hc43.size
  replace F42 : Cl w41 b26 2 [.int .i64 (0)] := F42
  clear F29
  refine wS_end (by rfl) ?_
  refine eX_then ?_
  refine cW_seq ?_
  refine cW_region ?_
  refine wS_bs0 (α := Int) (enc := encI) (d := 11) (t := 25) (T := 2) (by kernel_rfl) el25 ?_
  intro b44 w45 G46 F47 hc48
  have D50 : Dj [b5] [b44] := Dj.of (lt1 F8.lt) (low1 G46)
  have D51 : Dj [b11] [b44] := Dj.of (lt1 F36.lt) (low1 G46)
  have D52 : Dj [b18] [b44] := Dj.of (lt1 F39.lt) (low1 G46)
  have D53 : Dj [b26] [b44] := Dj.of (lt1 F42.lt) (low1 G46)
  replace F0_1 := F0_1.chg hc48 Dj.nil
  replace F0_2 := F0_2.chg hc48 Dj.nil
  replace F0_3 := F0_3.chg hc48 Dj.nil
  replace F0 := F0.chg hc48 notNil
  replace F8 := F8.chg hc48 notNil
  replace F36 := F36.chg hc48 notNil
  replace F39 := F39.chg hc48 notNil
  replace F42 := F42.chg hc48 notNil
  replace hB := hB.inS hc48 inNil
  replace G46 := Nat.le_trans hZ G46
  replace G46 := low1 G46
  replace hZ := Nat.le_trans hZ hc48.size
  refine wS_alloc (d := 8) (T := 25) (z := .slice none 0 0) (by kernel_rfl) (by kernel_rfl) ?_
  intro b54 w55 G56 F57 hc58
  replace F57 : Cl w55 b54 25 [.slice none 0 0] := F57
  have D60 : Dj [b5] [b54] := Dj.of (lt1 F8.lt) (low1 G56)
  have D61 : Dj [b11] [b54] := Dj.of (lt1 F36.lt) (low1 G56)
  have D62 : Dj [b18] [b54] := Dj.of (lt1 F39.lt) (low1 G56)
  have D63 : Dj [b26] [b54] := Dj.of (lt1 F42.lt) (low1 G56)
  have D64 : Dj [b44] [b54] := Dj.of F47.low (low1 G56)
  replace F0_1 := F0_1.chg hc58 Dj.nil
  replace F0_2 := F0_2.chg hc58 Dj.nil
  replace F0_3 := F0_3.chg hc58 Dj.nil
  replace F0 := F0.chg hc58 notNil
  replace F8 := F8.chg hc58 notNil
  replace F36 := F36.chg hc58 notNil
  replace F39 := F39.chg hc58 notNil
  replace F42 := F42.chg hc58 notNil
  replace F47 := F47.chg hc58 Dj.nil
  replace hB := hB.inS hc58 inNil
  replace G56 := Nat.le_trans hZ G56
  replace hZ := Nat.le_trans hZ hc58.size
  refine wS_store (T := 25) (g := b54) (o := 0) (ad := ⟨b54, 0, none⟩) (v := .slice (some ⟨b44, 0, none⟩) (([] : List (Int))).length 0) (vs := [.slice (some ⟨b44, 0, none⟩) (([] : List (Int))).length 0]) (by kernel_rfl) (by rfl) sz25 (by rfl) (by rfl) F57 (by simp only [List.length_cons, List.length_nil]; omega) ?_
  intro w65 F66 hc67
  replace F0_1 := F0_1.chg hc67 (Dj.of L0_1 (low1 G56))
  replace F0_2 := F0_2.chg hc67 (Dj.of L0_2 (low1 G56))
  replace F0_3 := F0_3.chg hc67 (Dj.of L0_3 (low1 G56))
  replace F0 := F0.chg hc67 (dj1 (Dj.of L0 (low1 G56)))
  replace F8 := F8.chg hc67 (dj1 D60)
  replace F36 := F36.chg hc67 (dj1 D61)
  replace F39 := F39.chg hc67 (dj1 D62)
  replace F42 := F42.chg hc67 (dj1 D63)
  replace F47 := F47.chg hc67 D64
  replace hB := hB.inS hc67 (inLow (low1 G56))
  replace hZ := Nat.le_trans hZ hc67.size
  replace F66 : Cl w65 b54 25 [.slice (some ⟨b44, 0, none⟩) (([] : List (Int))).length 0] := F66
  clear F57
  refine wS_end (by rfl) ?_
  refine eX_then ?_
  refine cW_seq ?_
  refine cW_region ?_
  refine wS_load1 (d := 12) (T := 87) (ad := ⟨b5, 0, none⟩) (v := .pointer (some ⟨b0, 0, none⟩)) (by kernel_rfl) vt87 ((F8).cell 0) ?_
  obtain ⟨y68, hy69, hm⟩ := bindE hm
  refine wS_calls (d := 13) (f := 55) (vs := [.pointer (some ⟨b0, 0, none⟩)]) (by kernel_rfl) ent55 (c_impl_Wiring_crossed_bimplWiring hy69 F0_1 F0_2 F0_3 F0) ?_
  rintro _ w70 ⟨A72, cap73, fp74, fr77, rfl, F75, G76, hc71⟩
  have D79 : Dj [b5] (fp74 ++ fr77) := Dj.of (lt1 F8.lt) G76
  have D80 : Dj [b11] (fp74 ++ fr77) := Dj.of (lt1 F36.lt) G76
  have D81 : Dj [b18] (fp74 ++ fr77) := Dj.of (lt1 F39.lt) G76
  have D82 : Dj [b26] (fp74 ++ fr77) := Dj.of (lt1 F42.lt) G76
  have D83 : Dj [b44] (fp74 ++ fr77) := Dj.of F47.low G76
  have D84 : Dj [b54] (fp74 ++ fr77) := Dj.of (lt1 F66.lt) G76
  replace F0_1 := F0_1.chg hc71 Dj.nil
  replace F0_2 := F0_2.chg hc71 Dj.nil
  replace F0_3 := F0_3.chg hc71 Dj.nil
  replace F0 := F0.chg hc71 notNil
  replace F8 := F8.chg hc71 notNil
  replace F36 := F36.chg hc71 notNil
  replace F39 := F39.chg hc71 notNil
  replace F42 := F42.chg hc71 notNil
  replace F47 := F47.chg hc71 Dj.nil
  replace F66 := F66.chg hc71 notNil
  replace hB := hB.inS hc71 inNil
  replace G76 := low_le hZ G76
  replace hZ := Nat.le_trans hZ hc71.size
  refine ⟨.slice A72 (y68).length cap73, rfl, ?_⟩
  refine wS_alloc (d := 9) (T := 77) (z := .slice none 0 0) (by kernel_rfl) (by kernel_rfl) ?_
  intro b85 w86 G87 F88 hc89
  replace F88 : Cl w86 b85 77 [.slice none 0 0] := F88
  have D91 : Dj [b5] [b85] := Dj.of (lt1 F8.lt) (low1 G87)
  have D92 : Dj [b11] [b85] := Dj.of (lt1 F36.lt) (low1 G87)
  have D93 : Dj [b18] [b85] := Dj.of (lt1 F39.lt) (low1 G87)
  have D94 : Dj [b26] [b85] := Dj.of (lt1 F42.lt) (low1 G87)
  have D95 : Dj [b44] [b85] := Dj.of F47.low (low1 G87)
  have D96 : Dj [b54] [b85] := Dj.of (lt1 F66.lt) (low1 G87)
  have D97 : Dj (fp74 ++ fr77) [b85] := Dj.of F75.low (low1 G87)
  replace F0_1 := F0_1.chg hc89 Dj.nil
  replace F0_2 := F0_2.chg hc89 Dj.nil
  replace F0_3 := F0_3.chg hc89 Dj.nil
  replace F0 := F0.chg hc89 notNil
  replace F8 := F8.chg hc89 notNil
  replace F36 := F36.chg hc89 notNil
  replace F39 := F39.chg hc89 notNil
  replace F42 := F42.chg hc89 notNil
  replace F47 := F47.chg hc89 Dj.nil
  replace F66 := F66.chg hc89 notNil
  replace F75 := F75.chg hc89 Dj.nil
  replace hB := hB.inS hc89 inNil
  replace G87 := Nat.le_trans hZ G87
  replace hZ := Nat.le_trans hZ hc89.size
  refine wS_store (T := 77) (g := b85) (o := 0) (ad := ⟨b85, 0, none⟩) (v := .slice A72 (y68).length cap73) (vs := [.slice A72 (y68).length cap73]) (by kernel_rfl) (by rfl) sz77 (by rfl) (by rfl) F88 (by simp only [List.length_cons, List.length_nil]; omega) ?_
  intro w98 F99 hc100
  replace F0_1 := F0_1.chg hc100 (Dj.of L0_1 (low1 G87))
  replace F0_2 := F0_2.chg hc100 (Dj.of L0_2 (low1 G87))
  replace F0_3 := F0_3.chg hc100 (Dj.of L0_3 (low1 G87))
  replace F0 := F0.chg hc100 (dj1 (Dj.of L0 (low1 G87)))
  replace F8 := F8.chg hc100 (dj1 D91)
  replace F36 := F36.chg hc100 (dj1 D92)
  replace F39 := F39.chg hc100 (dj1 D93)
  replace F42 := F42.chg hc100 (dj1 D94)
  replace F47 := F47.chg hc100 D95
  replace F66 := F66.chg hc100 (dj1 D96)
  replace F75 := F75.chg hc100 D97
  replace hB := hB.inS hc100 (inLow (low1 G87))
  replace hZ := Nat.le_trans hZ hc100.size
  replace F99 : Cl w98 b85 77 [.slice A72 (y68).length cap73] := F99
  clear F88
  refine wS_end (by rfl) ?_
  refine eX_then ?_
  refine cW_seq ?_
  refine cW_region ?_
  refine wS_alloc (d := 10) (T := 1) (z := .nilFunc) (by kernel_rfl) (by kernel_rfl) ?_
  intro b101 w102 G103 F104 hc105
  replace F104 : Cl w102 b101 1 [.nilFunc] := F104
  have D107 : Dj [b5] [b101] := Dj.of (lt1 F8.lt) (low1 G103)
  have D108 : Dj [b11] [b101] := Dj.of (lt1 F36.lt) (low1 G103)
  have D109 : Dj [b18] [b101] := Dj.of (lt1 F39.lt) (low1 G103)
  have D110 : Dj [b26] [b101] := Dj.of (lt1 F42.lt) (low1 G103)
  have D111 : Dj [b44] [b101] := Dj.of F47.low (low1 G103)
  have D112 : Dj [b54] [b101] := Dj.of (lt1 F66.lt) (low1 G103)
  have D113 : Dj (fp74 ++ fr77) [b101] := Dj.of F75.low (low1 G103)
  have D114 : Dj [b85] [b101] := Dj.of (lt1 F99.lt) (low1 G103)
  replace F0_1 := F0_1.chg hc105 Dj.nil
  replace F0_2 := F0_2.chg hc105 Dj.nil
  replace F0_3 := F0_3.chg hc105 Dj.nil
  replace F0 := F0.chg hc105 notNil
  replace F8 := F8.chg hc105 notNil
  replace F36 := F36.chg hc105 notNil
  replace F39 := F39.chg hc105 notNil
  replace F42 := F42.chg hc105 notNil
  replace F47 := F47.chg hc105 Dj.nil
  replace F66 := F66.chg hc105 notNil
  replace F75 := F75.chg hc105 Dj.nil
  replace F99 := F99.chg hc105 notNil
  replace hB := hB.inS hc105 inNil
  replace G103 := Nat.le_trans hZ G103
  replace hZ := Nat.le_trans hZ hc105.size
  refine wS_end (by rfl) ?_
  refine eX_then ?_
  refine cW_seq ?_
  refine cW_region ?_
  refine wS_pure 1 [(14, .func (.func 91) #[] #[.pointer (some ⟨b54, 0, none⟩), .pointer (some ⟨b5, 0, none⟩), .pointer (some ⟨b11, 0, none⟩), .pointer (some ⟨b18, 0, none⟩), .pointer (some ⟨b26, 0, none⟩), .pointer (some ⟨b85, 0, none⟩), .pointer (some ⟨b101, 0, none⟩)])] (by kernel_rfl) ?_
  refine wS_store (T := 1) (g := b101) (o := 0) (ad := ⟨b101, 0, none⟩) (v := .func (.func 91) #[] #[.pointer (some ⟨b54, 0, none⟩), .pointer (some ⟨b5, 0, none⟩), .pointer (some ⟨b11, 0, none⟩), .pointer (some ⟨b18, 0, none⟩), .pointer (some ⟨b26, 0, none⟩), .pointer (some ⟨b85, 0, none⟩), .pointer (some ⟨b101, 0, none⟩)]) (vs := [.func (.func 91) #[] #[.pointer (some ⟨b54, 0, none⟩), .pointer (some ⟨b5, 0, none⟩), .pointer (some ⟨b11, 0, none⟩), .pointer (some ⟨b18, 0, none⟩), .pointer (some ⟨b26, 0, none⟩), .pointer (some ⟨b85, 0, none⟩), .pointer (some ⟨b101, 0, none⟩)]]) (by kernel_rfl) (by rfl) sz1 (by rfl) (by rfl) F104 (by simp only [List.length_cons, List.length_nil]; omega) ?_
  intro w115 F116 hc117
  replace F0_1 := F0_1.chg hc117 (Dj.of L0_1 (low1 G103))
  replace F0_2 := F0_2.chg hc117 (Dj.of L0_2 (low1 G103))
  replace F0_3 := F0_3.chg hc117 (Dj.of L0_3 (low1 G103))
  replace F0 := F0.chg hc117 (dj1 (Dj.of L0 (low1 G103)))
  replace F8 := F8.chg hc117 (dj1 D107)
  replace F36 := F36.chg hc117 (dj1 D108)
  replace F39 := F39.chg hc117 (dj1 D109)
  replace F42 := F42.chg hc117 (dj1 D110)
  replace F47 := F47.chg hc117 D111
  replace F66 := F66.chg hc117 (dj1 D112)
  replace F75 := F75.chg hc117 D113
  replace F99 := F99.chg hc117 (dj1 D114)
  replace hB := hB.inS hc117 (inLow (low1 G103))
  replace hZ := Nat.le_trans hZ hc117.size
  replace F116 : Cl w115 b101 1 [.func (.func 91) #[] #[.pointer (some ⟨b54, 0, none⟩), .pointer (some ⟨b5, 0, none⟩), .pointer (some ⟨b11, 0, none⟩), .pointer (some ⟨b18, 0, none⟩), .pointer (some ⟨b26, 0, none⟩), .pointer (some ⟨b85, 0, none⟩), .pointer (some ⟨b101, 0, none⟩)]] := F116
  clear F104
  refine wS_end (by rfl) ?_
  refine eX_then ?_
  refine cW_seq ?_
  refine cW_region ?_
  refine wS_load1 (d := 15) (T := 1) (ad := ⟨b101, 0, none⟩) (v := .func (.func 91) #[] #[.pointer (some ⟨b54, 0, none⟩), .pointer (some ⟨b5, 0, none⟩), .pointer (some ⟨b11, 0, none⟩), .pointer (some ⟨b18, 0, none⟩), .pointer (some ⟨b26, 0, none⟩), .pointer (some ⟨b85, 0, none⟩), .pointer (some ⟨b101, 0, none⟩)]) (by kernel_rfl) vt1 ((F116).cell 0) ?_
  have F123 := Ow.nil (k := 1) (enc := encI) (T := 2) w115
  obtain ⟨y118, hy119, hm⟩ := bindE hm
  refine wS_calls (d := 16) (f := 91) (vs := [.pointer (some ⟨b54, 0, none⟩), .pointer (some ⟨b5, 0, none⟩), .pointer (some ⟨b11, 0, none⟩), .pointer (some ⟨b18, 0, none⟩), .pointer (some ⟨b26, 0, none⟩), .pointer (some ⟨b85, 0, none⟩), .pointer (some ⟨b101, 0, none⟩)]) (by kernel_rfl) ent91 (c_impl_Wiring_best_1_bint64_bimplWiring_bimplWiring_bint64_bint64_bint64_bimplgraph_bfunc_self 64 hy119 F47 F66 F0_1 F0_2 F0_3 F0 F8 F123 rfl F36 F39 F42 (F75.slr encI_ok) F99 F116 (D64).symm (Dj.of L0_1 (low1 G56)).symm (Dj.of L0_2 (low1 G56)).symm (Dj.of L0_3 (low1 G56)).symm (Dj.of L0 (low1 G56)).symm (D60).symm Dj.nil (D61).symm (D62).symm (D63).symm D84 D96 D112 D51 (Dj.of L0_1 (low1 G13)).symm (Dj.of L0_2 (low1 G13)).symm (Dj.of L0_3 (low1 G13)).symm (Dj.of L0 (low1 G13)).symm (D17).symm Dj.nil D25 D33 D80 D92 D108 D52 (Dj.of L0_1 (low1 G20)).symm (Dj.of L0_2 (low1 G20)).symm (Dj.of L0_3 (low1 G20)).symm (Dj.of L0 (low1 G20)).symm (D24).symm Dj.nil D34 D81 D93 D109 D53 (Dj.of L0_1 (low1 G28)).symm (Dj.of L0_2 (low1 G28)).symm (Dj.of L0_3 (low1 G28)).symm (Dj.of L0 (low1 G28)).symm (D32).symm Dj.nil D82 D94 D110 (Dj.of L0_1 G46).symm (Dj.of L0_2 G46).symm (Dj.of L0_3 G46).symm (Dj.of L0 G46).symm (D50).symm Dj.nil D83 D95 D111 (Dj.of L0_1 lowNil).symm (Dj.of L0_2 lowNil).symm (Dj.of L0_3 lowNil).symm (Dj.of L0 lowNil).symm (Dj.nil).symm (Dj.nil).symm (Dj.nil).symm (Dj.nil).symm) ?_
  rintro _ w120 ⟨A124, cap125, fp126, A129, cap130, fp131, rfl, D135, F136, F137, F138, F139, F127, hap128, F132, hap133, hz134, hc121⟩
  have G141 := Rt.lowof hap128 hZ G46
  have D142 : Dj [b5] fp126 := Dj.ap D50 (lt1 F8.lt) hap128
  have D143 : Dj [b11] fp126 := Dj.ap D51 (lt1 F36.lt) hap128
  have D144 : Dj [b18] fp126 := Dj.ap D52 (lt1 F39.lt) hap128
  have D145 : Dj [b26] fp126 := Dj.ap D53 (lt1 F42.lt) hap128
  have D146 : Dj [b54] fp126 := Dj.ap (D64).symm (lt1 F66.lt) hap128
  have D147 : Dj (fp74 ++ fr77) fp126 := Dj.ap (D83).symm F75.low hap128
  have D148 : Dj [b85] fp126 := Dj.ap (D95).symm (lt1 F99.lt) hap128
  have D149 : Dj [b101] fp126 := Dj.ap (D111).symm (lt1 F116.lt) hap128
  have G151 := Rt.lowof hap133 hZ lowNil
  have D152 : Dj [b5] fp131 := Dj.ap Dj.nil (lt1 F8.lt) hap133
  have D153 : Dj [b11] fp131 := Dj.ap Dj.nil (lt1 F36.lt) hap133
  have D154 : Dj [b18] fp131 := Dj.ap Dj.nil (lt1 F39.lt) hap133
  have D155 : Dj [b26] fp131 := Dj.ap Dj.nil (lt1 F42.lt) hap133
  have D156 : Dj [b54] fp131 := Dj.ap Dj.nil (lt1 F66.lt) hap133
  have D157 : Dj (fp74 ++ fr77) fp131 := Dj.ap Dj.nil F75.low hap133
  have D158 : Dj [b85] fp131 := Dj.ap Dj.nil (lt1 F99.lt) hap133
  have D159 : Dj [b101] fp131 := Dj.ap Dj.nil (lt1 F116.lt) hap133
  replace F0_1 := F0_1.chg hc121 (Dj.app (Dj.of L0_1 (low1 G56)) (Dj.app (Dj.of L0_1 (low1 G13)) (Dj.app (Dj.of L0_1 (low1 G20)) (Dj.app (Dj.of L0_1 (low1 G28)) (Dj.app (Dj.of L0_1 G46) (Dj.app (Dj.of L0_1 lowNil) Dj.nil))))))
  replace F0_2 := F0_2.chg hc121 (Dj.app (Dj.of L0_2 (low1 G56)) (Dj.app (Dj.of L0_2 (low1 G13)) (Dj.app (Dj.of L0_2 (low1 G20)) (Dj.app (Dj.of L0_2 (low1 G28)) (Dj.app (Dj.of L0_2 G46) (Dj.app (Dj.of L0_2 lowNil) Dj.nil))))))
  replace F0_3 := F0_3.chg hc121 (Dj.app (Dj.of L0_3 (low1 G56)) (Dj.app (Dj.of L0_3 (low1 G13)) (Dj.app (Dj.of L0_3 (low1 G20)) (Dj.app (Dj.of L0_3 (low1 G28)) (Dj.app (Dj.of L0_3 G46) (Dj.app (Dj.of L0_3 lowNil) Dj.nil))))))
  replace F0 := F0.chg hc121 (dj1 (Dj.app (Dj.of L0 (low1 G56)) (Dj.app (Dj.of L0 (low1 G13)) (Dj.app (Dj.of L0 (low1 G20)) (Dj.app (Dj.of L0 (low1 G28)) (Dj.app (Dj.of L0 G46) (Dj.app (Dj.of L0 lowNil) Dj.nil)))))))
  replace F8 := F8.chg hc121 (dj1 (Dj.app D60 (Dj.app D17 (Dj.app D24 (Dj.app D32 (Dj.app D50 (Dj.app Dj.nil Dj.nil)))))))
  replace F75 := F75.chg hc121 (Dj.app (D84).symm (Dj.app (D80).symm (Dj.app (D81).symm (Dj.app (D82).symm (Dj.app (D83).symm (Dj.app Dj.nil Dj.nil))))))
  replace F99 := F99.chg hc121 (dj1 (Dj.app (D96).symm (Dj.app (D92).symm (Dj.app (D93).symm (Dj.app (D94).symm (Dj.app (D95).symm (Dj.app Dj.nil Dj.nil)))))))
  replace F116 := F116.chg hc121 (dj1 (Dj.app (D112).symm (Dj.app (D108).symm (Dj.app (D109).symm (Dj.app (D110).symm (Dj.app (D111).symm (Dj.app Dj.nil Dj.nil)))))))
  replace hB := hB.inS hc121 (inApp (inLow (low1 G56)) (inApp (inLow (low1 G13)) (inApp (inLow (low1 G20)) (inApp (inLow (low1 G28)) (inApp (inLow G46) (inApp (inLow lowNil) inNil))))))
  replace hZ := Nat.le_trans hZ hc121.size
  clear F66
  clear F36
  clear F39
  clear F42
  refine ⟨.tuple #[], rfl, ?_⟩
  refine wS_end (by rfl) ?_
  refine eX_then ?_
  refine cW_seq ?_
  refine cW_drawnTail [] 5 (by kernel_rfl) (by kernel_rfl) (fun w176 hc177 => ?_)
  replace F0_1 := F0_1.chg hc177 Dj.nil
  replace F0_2 := F0_2.chg hc177 Dj.nil
  replace F0_3 := F0_3.chg hc177 Dj.nil
  replace F0 := F0.chg hc177 notNil
  replace F8 := F8.chg hc177 notNil
  replace F137 := F137.chg hc177 notNil
  replace F138 := F138.chg hc177 notNil
  replace F139 := F139.chg hc177 notNil
  replace F136 := F136.chg hc177 notNil
  replace F75 := F75.chg hc177 Dj.nil
  replace F99 := F99.chg hc177 notNil
  replace F116 := F116.chg hc177 notNil
  replace F127 := F127.chg hc177 Dj.nil
  replace F132 := F132.chg hc177 Dj.nil
  replace hB := hB.inS hc177 inNil
  replace hZ := Nat.le_trans hZ hc177.size
  have hS := Chg.refl [] w176
  have Z178 := F0_1
  have Z179 := F0_2
  have Z180 := F0_3
  have Z181 := F0
  have Z182 := F8
  have Z183 := F137
  have Z184 := F138
  have Z185 := F139
  have Z186 := F136
  have Z187 := F75
  have Z188 := F99
  have Z189 := F116
  have Z190 := F127
  have Z191 := F132
  refine wH_load1 (i := 0) (d := 17) (T := 25) (ad := ⟨b11, 0, none⟩) (v := .slice A129 (y118.2.2.2.1).length cap130) (by kernel_rfl) (qT (qT qZ)) (by kernel_rfl) (by kernel_rfl) vt25 (fun W hW => (Z183.chg hW notNil).cell 0) ?_
  refine wH_load1 (i := 1) (d := 18) (T := 2) (ad := ⟨b18, 0, none⟩) (v := .int .i64 (y118.1)) (by kernel_rfl) (qT (qT qZ)) (by kernel_rfl) (by kernel_rfl) vt2 (fun W hW => (Z184.chg hW notNil).cell 0) ?_
  refine wH_load1 (i := 2) (d := 19) (T := 2) (ad := ⟨b26, 0, none⟩) (v := .int .i64 (y118.2.1)) (by kernel_rfl) (qT (qT qZ)) (by kernel_rfl) (by kernel_rfl) vt2 (fun W hW => (Z185.chg hW notNil).cell 0) ?_
  refine wH_take [3, 4] [4, 3, 2, 1, 0] [(3, .int .i64 (y118.1)), (2, .slice A129 (y118.2.2.2.1).length cap130)] (by kernel_rfl) (qT (qT qZ)) (by kernel_rfl) ?_
  refine wH_done (by kernel_rfl) ?_
  refine eX_tail ?_
  refine wS_pure 1 [(4, .int .i64 (y118.2.1))] (by kernel_rfl) ?_
  refine wS_end (by rfl) ?_
  refine eX_then ?_
  refine cW_ret ?_
  have hq : (some ((y118.2.2.2.1, y118.1, y118.2.1)) : Option ((List (Int)) × (Int) × (Int))) = some _ := hm
  replace hq := someE hq
  subst hq
  refine eX_ret (vs := [.slice A129 (y118.2.2.2.1).length cap130, .int .i64 (y118.1), .int .i64 (y118.2.1)]) [.tmp 2, .tmp 3, .tmp 4] (by rfl) ⟨by (show lkE _ _ _ = _); kernel_rfl, ⟨by (show lkE _ _ _ = _); kernel_rfl, ⟨by (show lkE _ _ _ = _); kernel_rfl, trivial⟩⟩⟩ ?_
  exact ⟨A129, cap130, fp131, rfl, F132, G151, hB⟩

set_option maxRecDepth 100000 in
/-- impl.FewestVias -/
theorem c_impl_FewestVias {w0 : World} {p0_0 : Int} {l0_1 : List (List (Int))} {A0_1 : Option Addr} {cap0_1 : Nat} {fp0_1 : List Nat} {l0_2 : List (List (Int))} {A0_2 : Option Addr} {cap0_2 : Nat} {fp0_2 : List Nat} {l0_3 : List (Int)} {A0_3 : Option Addr} {cap0_3 : Nat} {fp0_3 : List Nat} {r : (List (Int)) × (Int) × (Bool)} (hm : m_impl_FewestVias p0_0 l0_1 l0_2 l0_3 = some r) (F0_1 : SlR 1 encI w0 fp0_1 A0_1 l0_1) (F0_2 : SlR 1 encI w0 fp0_2 A0_2 l0_2) (F0_3 : Sl 1 encI w0 fp0_3 A0_3 l0_3) :
    Calls Try.prog 13 #[.agg #[.int .i64 (p0_0), .slice A0_1 (l0_1).length cap0_1, .slice A0_2 (l0_2).length cap0_2, .slice A0_3 (l0_3).length cap0_3]] w0 fun e w' => ∃ A100 cap100 fp100, e = .returned (.tuple #[.slice A100 (r.1).length cap100, .int .i64 (r.2.1), .bool (r.2.2)]) ∧ Ow 1 encI 2 w' fp100 A100 cap100 r.1 ∧ (∀ x ∈ fp100, w0.heap.size ≤ x) ∧ Chg [] w0 w' := by
  have L0_1 := F0_1.low
  have L0_2 := F0_2.low
  have L0_3 := F0_3.low
  have hB : Chg [] w0 w0 := Chg.refl _ _
  have hZ := Nat.le_refl w0.heap.size
  unfold m_impl_FewestVias at hm
  refine enterE (N := 20) Try.func13 (by rfl) Try.ntmps13 (by simp) [(0, .agg #[.int .i64 (p0_0), .slice A0_1 (l0_1).length cap0_1, .slice A0_2 (l0_2).length cap0_2, .slice A0_3 (l0_3).length cap0_3])] (by rfl) (by kernel_rfl) (fun a => ?_)
  refine cW_seq ?_
  refine cW_region ?_
  refine wS_box (d := 1) (T := 27) (x := .agg #[.int .i64 (p0_0), .slice A0_1 (l0_1).length cap0_1, .slice A0_2 (l0_2).length cap0_2, .slice A0_3 (l0_3).length cap0_3]) (by kernel_rfl) ?_
  intro b4 w5 G6 F7 hc8
  replace F7 : Cl w5 b4 27 [.int .i64 (p0_0), .slice A0_1 (l0_1).length cap0_1, .slice A0_2 (l0_2).length cap0_2, .slice A0_3 (l0_3).length cap0_3] := F7
  replace F0_1 := F0_1.chg hc8 Dj.nil
  replace F0_2 := F0_2.chg hc8 Dj.nil
  replace F0_3 := F0_3.chg hc8 Dj.nil
  replace hB := hB.inS hc8 inNil
  replace G6 := Nat.le_trans hZ G6
  replace hZ := Nat.le_trans hZ hc8.size
  refine wS_pure 3 [(4, .bool (false)), (3, .int .i64 (0)), (2, .slice none 0 0)] (by kernel_rfl) ?_
  refine wS_end (by rfl) ?_
  refine eX_then ?_
  refine cW_seq ?_
  refine cW_seq ?_
  refine cW_region ?_
  refine wS_loadA (d := 8) (T := 27) (ad := ⟨b4, 0, none⟩) (vs := [.int .i64 (p0_0), .slice A0_1 (l0_1).length cap0_1, .slice A0_2 (l0_2).length cap0_2, .slice A0_3 (l0_3).length cap0_3]) (by kernel_rfl) vt27 (fun i u hu => box_cells F7 0 hu (by rfl)) ?_
  obtain ⟨y10, hy11, hm⟩ := bindE hm
  refine wS_calls (d := 9) (f := 16) (vs := [.agg #[.int .i64 (p0_0), .slice A0_1 (l0_1).length cap0_1, .slice A0_2 (l0_2).length cap0_2, .slice A0_3 (l0_3).length cap0_3]]) (by kernel_rfl) ent16 (c_impl_ValidWiring hy11 F0_1 F0_2 F0_3) ?_
  rintro _ w12 ⟨rfl, hc13⟩
  replace F0_1 := F0_1.chg hc13 Dj.nil
  replace F0_2 := F0_2.chg hc13 Dj.nil
  replace F0_3 := F0_3.chg hc13 Dj.nil
  replace F7 := F7.chg hc13 notNil
  replace hB := hB.inS hc13 inNil
  replace hZ := Nat.le_trans hZ hc13.size
  refine ⟨.bool (y10), rfl, ?_⟩
  refine wS_pure 1 [(10, .bool (!y10))] (by kernel_rfl) ?_
  refine wS_end (by rfl) ?_
  refine eX_then ?_
  refine cW_cond (t := !y10) (by kernel_rfl) (fun hb14 => ?_) (fun hb14 => ?_)
  · have hm := condT hb14 hm
    refine cW_seq ?_
    refine cW_region ?_
    refine wS_pure 3 [(4, .bool (false)), (3, .int .i64 (0)), (2, .slice none 0 0)] (by kernel_rfl) ?_
    refine wS_end (by rfl) ?_
    refine eX_then ?_
    refine cW_ret ?_
    refine eX_then_ret ?_
    have hq : (some (([], 0, false)) : Option ((List (Int)) × (Int) × (Bool))) = some _ := hm
    replace hq := someE hq
    subst hq
    refine eX_ret (vs := [.slice none 0 0, .int .i64 (0), .bool (false)]) [.tmp 2, .tmp 3, .tmp 4] (by rfl) ⟨by (show lkE _ _ _ = _); kernel_rfl, ⟨by (show lkE _ _ _ = _); kernel_rfl, ⟨by (show lkE _ _ _ = _); kernel_rfl, trivial⟩⟩⟩ ?_
    exact ⟨none, 0, [], rfl, Ow.nil _, lowNil, hB⟩
  · have hm := condF hb14 hm
    refine cW_skip ?_
    refine eX_then ?_
    refine cW_seq ?_
    refine cW_region ?_
    obtain ⟨y15, hy16, hm⟩ := bindE hm
    refine wS_calls (d := 12) (f := 54) (vs := [.pointer (some ⟨b4, 0, none⟩)]) (by kernel_rfl) ent54 (c_impl_Wiring_best_bimplWiring hy16 F0_1 F0_2 F0_3 F7) ?_
    rintro _ w17 ⟨A19, cap20, fp21, rfl, F22, G23, hc18⟩
    have D26 : Dj [b4] fp21 := Dj.of (lt1 F7.lt) G23
    replace F0_1 := F0_1.chg hc18 Dj.nil
    replace F0_2 := F0_2.chg hc18 Dj.nil
    replace F0_3 := F0_3.chg hc18 Dj.nil
    replace F7 := F7.chg hc18 notNil
    replace hB := hB.inS hc18 inNil
    replace G23 := low_le hZ G23
    replace hZ := Nat.le_trans hZ hc18.size
    refine ⟨.tuple #[.slice A19 (y15.1).length cap20, .int .i64 (y15.2.1), .int .i64 (y15.2.2)], rfl, ?_⟩
    refine wS_pure 7 [(7, .int .i64 (y15.2.2)), (6, .int .i64 (y15.2.1)), (5, .slice A19 (y15.1).length cap20), (15, .int .i64 (y15.2.2)), (14, .int .i64 (y15.2.1)), (13, .slice A19 (y15.1).length cap20), (11, .tuple #[.slice A19 (y15.1).length cap20, .int .i64 (y15.2.1), .int .i64 (y15.2.2)])] (by kernel_rfl) ?_
    refine wS_end (by rfl) ?_
    refine eX_then ?_
    refine cW_seq ?_
    refine cW_region ?_
    refine wS_pure 7 [(4, .bool (decide (y15.2.2 > 0))), (3, .int .i64 (y15.2.1)), (2, .slice A19 (y15.1).length cap20), (19, .bool (decide (y15.2.2 > 0))), (18, .int .i64 (y15.2.2)), (17, .int .i64 (y15.2.1)), (16, .slice A19 (y15.1).length cap20)] (by kernel_rfl) ?_
    refine wS_end (by rfl) ?_
    refine eX_then ?_
    refine cW_ret ?_
    have hq : (some ((y15.1, y15.2.1, decide (y15.2.2 > 0))) : Option ((List (Int)) × (Int) × (Bool))) = some _ := hm
    replace hq := someE hq
    subst hq
    refine eX_ret (vs := [.slice A19 (y15.1).length cap20, .int .i64 (y15.2.1), .bool (decide (y15.2.2 > 0))]) [.tmp 2, .tmp 3, .tmp 4] (by rfl) ⟨by (show lkE _ _ _ = _); kernel_rfl, ⟨by (show lkE _ _ _ = _); kernel_rfl, ⟨by (show lkE _ _ _ = _); kernel_rfl, trivial⟩⟩⟩ ?_
    exact ⟨A19, cap20, fp21, rfl, F22, G23, hB⟩

set_option maxRecDepth 100000 in
/-- impl.CountBest -/
theorem c_impl_CountBest {w0 : World} {p0_0 : Int} {l0_1 : List (List (Int))} {A0_1 : Option Addr} {cap0_1 : Nat} {fp0_1 : List Nat} {l0_2 : List (List (Int))} {A0_2 : Option Addr} {cap0_2 : Nat} {fp0_2 : List Nat} {l0_3 : List (Int)} {A0_3 : Option Addr} {cap0_3 : Nat} {fp0_3 : List Nat} {r : (Int) × (Bool)} (hm : m_impl_CountBest p0_0 l0_1 l0_2 l0_3 = some r) (F0_1 : SlR 1 encI w0 fp0_1 A0_1 l0_1) (F0_2 : SlR 1 encI w0 fp0_2 A0_2 l0_2) (F0_3 : Sl 1 encI w0 fp0_3 A0_3 l0_3) :
    Calls Try.prog 15 #[.agg #[.int .i64 (p0_0), .slice A0_1 (l0_1).length cap0_1, .slice A0_2 (l0_2).length cap0_2, .slice A0_3 (l0_3).length cap0_3]] w0 fun e w' => e = .returned (.tuple #[.int .i64 (r.1), .bool (r.2)]) ∧ Chg [] w0 w' := by
  have L0_1 := F0_1.low
  have L0_2 := F0_2.low
  have L0_3 := F0_3.low
  have hB : Chg [] w0 w0 := Chg.refl _ _
  have hZ := Nat.le_refl w0.heap.size
  unfold m_impl_CountBest at hm
  refine enterE (N := 16) Try.func15 (by rfl) Try.ntmps15 (by simp) [(0, .agg #[.int .i64 (p0_0), .slice A0_1 (l0_1).length cap0_1, .slice A0_2 (l0_2).length cap0_2, .slice A0_3 (l0_3).length cap0_3])] (by rfl) (by kernel_rfl) (fun a => ?_)
  refine cW_seq ?_
  refine cW_region ?_
  refine wS_box (d := 1) (T := 27) (x := .agg #[.int .i64 (p0_0), .slice A0_1 (l0_1).length cap0_1, .slice A0_2 (l0_2).length cap0_2, .slice A0_3 (l0_3).length cap0_3]) (by kernel_rfl) ?_
  intro b4 w5 G6 F7 hc8
  replace F7 : Cl w5 b4 27 [.int .i64 (p0_0), .slice A0_1 (l0_1).length cap0_1, .slice A0_2 (l0_2).length cap0_2, .slice A0_3 (l0_3).length cap0_3] := F7
  replace F0_1 := F0_1.chg hc8 Dj.nil
  replace F0_2 := F0_2.chg hc8 Dj.nil
  replace F0_3 := F0_3.chg hc8 Dj.nil
  replace hB := hB.inS hc8 inNil
  replace G6 := Nat.le_trans hZ G6
  replace hZ := Nat.le_trans hZ hc8.size
  refine wS_pure 2 [(3, .bool (false)), (2, .int .i64 (0))] (by kernel_rfl) ?_
  refine wS_end (by rfl) ?_
  refine eX_then ?_
  refine cW_seq ?_
  refine cW_seq ?_
  refine cW_region ?_
  refine wS_loadA (d := 7) (T := 27) (ad := ⟨b4, 0, none⟩) (vs := [.int .i64 (p0_0), .slice A0_1 (l0_1).length cap0_1, .slice A0_2 (l0_2).length cap0_2, .slice A0_3 (l0_3).length cap0_3]) (by kernel_rfl) vt27 (fun i u hu => box_cells F7 0 hu (by rfl)) ?_
  obtain ⟨y10, hy11, hm⟩ := bindE hm
  refine wS_calls (d := 8) (f := 16) (vs := [.agg #[.int .i64 (p0_0), .slice A0_1 (l0_1).length cap0_1, .slice A0_2 (l0_2).length cap0_2, .slice A0_3 (l0_3).length cap0_3]]) (by kernel_rfl) ent16 (c_impl_ValidWiring hy11 F0_1 F0_2 F0_3) ?_
  rintro _ w12 ⟨rfl, hc13⟩
  replace F0_1 := F0_1.chg hc13 Dj.nil
  replace F0_2 := F0_2.chg hc13 Dj.nil
  replace F0_3 := F0_3.chg hc13 Dj.nil
  replace F7 := F7.chg hc13 notNil
  replace hB := hB.inS hc13 inNil
  replace hZ := Nat.le_trans hZ hc13.size
  refine ⟨.bool (y10), rfl, ?_⟩
  refine wS_pure 1 [(9, .bool (!y10))] (by kernel_rfl) ?_
  refine wS_end (by rfl) ?_
  refine eX_then ?_
  refine cW_cond (t := !y10) (by kernel_rfl) (fun hb14 => ?_) (fun hb14 => ?_)
  · have hm := condT hb14 hm
    refine cW_seq ?_
    refine cW_region ?_
    refine wS_pure 2 [(3, .bool (false)), (2, .int .i64 (0))] (by kernel_rfl) ?_
    refine wS_end (by rfl) ?_
    refine eX_then ?_
    refine cW_ret ?_
    refine eX_then_ret ?_
    have hq : (some ((0, false)) : Option ((Int) × (Bool))) = some _ := hm
    replace hq := someE hq
    subst hq
    refine eX_ret (vs := [.int .i64 (0), .bool (false)]) [.tmp 2, .tmp 3] (by rfl) ⟨by (show lkE _ _ _ = _); kernel_rfl, ⟨by (show lkE _ _ _ = _); kernel_rfl, trivial⟩⟩ ?_
    exact ⟨rfl, hB⟩
  · have hm := condF hb14 hm
    refine cW_skip ?_
    refine eX_then ?_
    refine cW_seq ?_
    refine cW_region ?_
    obtain ⟨y15, hy16, hm⟩ := bindE hm
    refine wS_calls (d := 11) (f := 54) (vs := [.pointer (some ⟨b4, 0, none⟩)]) (by kernel_rfl) ent54 (c_impl_Wiring_best_bimplWiring hy16 F0_1 F0_2 F0_3 F7) ?_
    rintro _ w17 ⟨A19, cap20, fp21, rfl, F22, G23, hc18⟩
    have D26 : Dj [b4] fp21 := Dj.of (lt1 F7.lt) G23
    replace F0_1 := F0_1.chg hc18 Dj.nil
    replace F0_2 := F0_2.chg hc18 Dj.nil
    replace F0_3 := F0_3.chg hc18 Dj.nil
    replace F7 := F7.chg hc18 notNil
    replace hB := hB.inS hc18 inNil
    replace G23 := low_le hZ G23
    replace hZ := Nat.le_trans hZ hc18.size
    refine ⟨.tuple #[.slice A19 (y15.1).length cap20, .int .i64 (y15.2.1), .int .i64 (y15.2.2)], rfl, ?_⟩
    refine wS_pure 7 [(6, .int .i64 (y15.2.2)), (5, .int .i64 (y15.2.1)), (4, .slice A19 (y15.1).length cap20), (14, .int .i64 (y15.2.2)), (13, .int .i64 (y15.2.1)), (12, .slice A19 (y15.1).length cap20), (10, .tuple #[.slice A19 (y15.1).length cap20, .int .i64 (y15.2.1), .int .i64 (y15.2.2)])] (by kernel_rfl) ?_
    refine wS_end (by rfl) ?_
    refine eX_then ?_
    refine cW_seq ?_
    refine cW_region ?_
    refine wS_pure 3 [(3, .bool (true)), (2, .int .i64 (y15.2.2)), (15, .int .i64 (y15.2.2))] (by kernel_rfl) ?_
    refine wS_end (by rfl) ?_
    refine eX_then ?_
    refine cW_ret ?_
    have hq : (some ((y15.2.2, true)) : Option ((Int) × (Bool))) = some _ := hm
    replace hq := someE hq
    subst hq
    refine eX_ret (vs := [.int .i64 (y15.2.2), .bool (true)]) [.tmp 2, .tmp 3] (by rfl) ⟨by (show lkE _ _ _ = _); kernel_rfl, ⟨by (show lkE _ _ _ = _); kernel_rfl, trivial⟩⟩ ?_
    exact ⟨rfl, hB⟩

set_option maxRecDepth 100000 in
/-- spec.l00In -/
theorem c_spec_l00In {w0 : World} {p0 : Int} {p1 : Int} {p2 : Int} {r : (Bool)} (hm : m_spec_l00In p0 p1 p2 = some r)  :
    Calls Try.prog 87 #[.int .i64 (p0), .int .i64 (p1), .int .i64 (p2)] w0 fun e w' => e = .returned (.bool (r)) ∧ Chg [] w0 w' := by
  have hB : Chg [] w0 w0 := Chg.refl _ _
  have hZ := Nat.le_refl w0.heap.size
  unfold m_spec_l00In at hm
  refine enterE (N := 15) Try.func87 (by rfl) Try.ntmps87 (by simp) [(0, .int .i64 (p0)), (1, .int .i64 (p1)), (2, .int .i64 (p2))] (by rfl) (by kernel_rfl) (fun a => ?_)
  refine cW_seq ?_
  refine cW_region ?_
  refine wS_pure 1 [(6, .bool (false))] (by kernel_rfl) ?_
  refine wS_end (by rfl) ?_
  refine eX_then ?_
  refine cW_seq ?_
  refine cW_region ?_
  refine wS_pure 4 [(10, .bool (decide (p0 ≥ p1))), (9, .bool (decide (p0 ≥ p1))), (8, .int .i64 (p1)), (7, .int .i64 (p0))] (by kernel_rfl) ?_
  refine wS_bool (decide (p0 ≥ p1)) (fun hb1 => ?_) (fun hb1 => ?_)
  · have hm := condT hb1 hm
    rewrite [hb1]
    refine wS_pure 5 [(6, .bool (decide (p0 ≤ p2))), (14, .bool (decide (p0 ≤ p2))), (13, .bool (decide (p0 ≤ p2))), (12, .int .i64 (p2)), (11, .int .i64 (p0))] (by kernel_rfl) ?_
    refine wS_end (by rfl) ?_
    refine eX_then ?_
    refine cW_ret ?_
    have hq : (some (decide (p0 ≤ p2)) : Option ((Bool))) = some _ := hm
    replace hq := someE hq
    subst hq
    refine eX_ret (vs := [.bool (decide (p0 ≤ p2))]) [.tmp 6] (by rfl) ⟨by (show lkE _ _ _ = _); kernel_rfl, trivial⟩ ?_
    exact ⟨rfl, hB⟩
  · have hm := condF hb1 hm
    rewrite [hb1]
    refine wS_pure 5 [(6, .bool (false)), (14, .bool (false)), (13, undef), (12, undef), (11, undef)] (by kernel_rfl) ?_
    refine wS_end (by rfl) ?_
    refine eX_then ?_
    refine cW_ret ?_
    have hq : (some false : Option ((Bool))) = some _ := hm
    replace hq := someE hq
    subst hq
    refine eX_ret (vs := [.bool (false)]) [.tmp 6] (by rfl) ⟨by (show lkE _ _ _ = _); kernel_rfl, trivial⟩ ?_
    exact ⟨rfl, hB⟩

set_option maxRecDepth 100000 in
/-- spec.l03Less -/
theorem c_spec_l03Less {w0 : World} {l0 : List (Int)} {A0 : Option Addr} {cap0 : Nat} {fp0 : List Nat} {l1 : List (Int)} {A1 : Option Addr} {cap1 : Nat} {fp1 : List Nat} {r : (Bool)} (hm : m_spec_l03Less l0 l1 = some r) (F0 : Sl 1 encI w0 fp0 A0 l0) (F1 : Sl 1 encI w0 fp1 A1 l1) :
    Calls Try.prog 128 #[.slice A0 (l0).length cap0, .slice A1 (l1).length cap1] w0 fun e w' => e = .returned (.bool (r)) ∧ Chg [] w0 w' := by
  have L0 := F0.low
  have L1 := F1.low
  have hB : Chg [] w0 w0 := Chg.refl _ _
  have hZ := Nat.le_refl w0.heap.size
  unfold m_spec_l03Less at hm
  refine enterE (N := 41) Try.func128 (by rfl) Try.ntmps128 (by simp) [(0, .slice A0 (l0).length cap0), (1, .slice A1 (l1).length cap1)] (by rfl) (by kernel_rfl) (fun a => ?_)
  refine cW_seq ?_
  refine cW_region ?_
  refine wS_pure 1 [(4, .bool (false))] (by kernel_rfl) ?_
  refine wS_end (by rfl) ?_
  refine eX_then ?_
  refine cW_seq ?_
  refine cW_seq ?_
  refine cW_region ?_
  refine wS_pure 1 [(5, .int .i64 (0))] (by kernel_rfl) ?_
  refine wS_end (by rfl) ?_
  refine eX_then ?_
  obtain ⟨r91, hr92, hm⟩ := bindE hm
  have hm93 := hm
  refine cW_cut (fun a' w' => Sum.inl (()) = r91 ∧ Fr 41 [(0, .slice A0 (l0).length cap0), (1, .slice A1 (l1).length cap1)] a' ∧ Sl 1 encI w' fp0 A0 l0 ∧ Sl 1 encI w' fp1 A1 l1 ∧ Chg [] w0 w' ∧ w0.heap.size ≤ w'.heap.size) ?_ ?_
  · refine cW_block ?_
    refine cW_loop _ (fun (s94 : Int) a' w' => ∃ x87 : Int, x87 = s94 ∧ Fr 41 [(0, .slice A0 (l0).length cap0), (1, .slice A1 (l1).length cap1), (5, .int .i64 (x87))] a' ∧ Sl 1 encI w' fp0 A0 l0 ∧ Sl 1 encI w' fp1 A1 l1 ∧ Chg [] w0 w' ∧ w0.heap.size ≤ w'.heap.size) hr92 (fun hst => ⟨0, rfl, Fr.of hst (by kernel_rfl), F0, F1, hB, hZ⟩) ?_
    rintro _ c95 a' w86 ⟨x87, rfl, hF88, F89, F90, hB, hZ⟩ hx96
    refine Fr.goOn hF88 (by kernel_rfl) ?_
    have hm := hx96
    unfold m_spec_l03Less_s1 at hm
    refine cW_seq ?_
    refine cW_seq ?_
    refine cW_region ?_
    refine wS_pure 5 [(10, .bool (decide (x87 < (((l0).length : Int))))), (9, .bool (decide (x87 < (((l0).length : Int))))), (8, .int .i64 (((l0).length : Int))), (7, .slice A0 (l0).length cap0), (6, .int .i64 (x87))] (by kernel_rfl) ?_
    refine wS_bool (decide (x87 < (((l0).length : Int)))) (fun hb97 => ?_) (fun hb97 => ?_)
    · have hm := condT hb97 hm
      rewrite [hb97]
      refine wS_pure 5 [(15, .bool (decide (x87 < (((l1).length : Int))))), (14, .bool (decide (x87 < (((l1).length : Int))))), (13, .int .i64 (((l1).length : Int))), (12, .slice A1 (l1).length cap1), (11, .int .i64 (x87))] (by kernel_rfl) ?_
      refine wS_end (by rfl) ?_
      refine eX_then ?_
      refine cW_cond (t := decide (x87 < (((l1).length : Int)))) (by kernel_rfl) (fun hb98 => ?_) (fun hb98 => ?_)
      · have hm := condT hb98 hm
        refine cW_skip ?_
        refine eX_then ?_
        refine cW_seq ?_
        refine cW_block ?_
        refine cW_seq ?_
        refine cW_drawnTail [] 8 (by kernel_rfl) (by kernel_rfl) (fun w107 hc108 => ?_)
        replace F89 := F89.chg hc108 Dj.nil
        replace F90 := F90.chg hc108 Dj.nil
        replace hB := hB.inS hc108 inNil
        replace hZ := Nat.le_trans hZ hc108.size
        have hS := Chg.refl [] w107
        have Z109 := F89
        have Z110 := F90
        refine wH_take [0, 1] [1, 0] [(19, .int .i64 (x87)), (18, .slice A0 (l0).length cap0)] (by kernel_rfl) (qT (qT (qB (qT (qL (qB (qT (qT qZ)))))))) (by kernel_rfl) ?_
        obtain ⟨x111, hx112, hm⟩ := bindE hm
        refine wH_idx (i := 2) (d := 20) (T := 25) (A := A0) (n := (l0).length) (cap := cap0) (kd := .i64) (m := x87) (by kernel_rfl) (qT (qT (qB (qT (qL (qB (qT (qT qZ)))))))) (by kernel_rfl) (by kernel_rfl) sl25 (F89.is hx112) ?_
        refine wH_load1 (i := 3) (d := 21) (T := 2) (ad := (elA A0 1 (x87) 0)) (v := .int .i64 (x111)) (by kernel_rfl) (qT (qT (qB (qT (qL (qB (qT (qT qZ)))))))) (by kernel_rfl) (by kernel_rfl) vt2 (fun W hW => Sl.cell (Z109.chg hW Dj.nil) hx112 0 (by rfl)) ?_
        refine wH_take [4, 5] [5, 4, 3, 2, 1, 0] [(23, .int .i64 (x87)), (22, .slice A1 (l1).length cap1)] (by kernel_rfl) (qT (qT (qB (qT (qL (qB (qT (qT qZ)))))))) (by kernel_rfl) ?_
        obtain ⟨x113, hx114, hm⟩ := bindE hm
        refine wH_idx (i := 6) (d := 24) (T := 25) (A := A1) (n := (l1).length) (cap := cap1) (kd := .i64) (m := x87) (by kernel_rfl) (qT (qT (qB (qT (qL (qB (qT (qT qZ)))))))) (by kernel_rfl) (by kernel_rfl) sl25 (F90.is hx114) ?_
        refine wH_load1 (i := 7) (d := 25) (T := 2) (ad := (elA A1 1 (x87) 0)) (v := .int .i64 (x113)) (by kernel_rfl) (qT (qT (qB (qT (qL (qB (qT (qT qZ)))))))) (by kernel_rfl) (by kernel_rfl) vt2 (fun W hW => Sl.cell (Z110.chg hW Dj.nil) hx114 0 (by rfl)) ?_
        refine wH_done (by kernel_rfl) ?_
        refine eX_tail ?_
        refine wS_pure 1 [(26, .bool (x111 != x113))] (by kernel_rfl) ?_
        refine wS_end (by rfl) ?_
        refine eX_then ?_
        refine cW_cond (t := x111 != x113) (by kernel_rfl) (fun hb115 => ?_) (fun hb115 => ?_)
        · have hm := condT hb115 hm
          refine cW_seq ?_
          refine cW_drawnTail [] 8 (by kernel_rfl) (by kernel_rfl) (fun w124 hc125 => ?_)
          replace F89 := F89.chg hc125 Dj.nil
          replace F90 := F90.chg hc125 Dj.nil
          replace hB := hB.inS hc125 inNil
          replace hZ := Nat.le_trans hZ hc125.size
          have hS := Chg.refl [] w124
          have Z126 := F89
          have Z127 := F90
          refine wH_take [0, 1] [1, 0] [(28, .int .i64 (x87)), (27, .slice A0 (l0).length cap0)] (by kernel_rfl) (qT (qT (qB (qT (qL (qB (qT (qT qZ)))))))) (by kernel_rfl) ?_
          obtain ⟨x128, hx129, hm⟩ := bindE hm
          refine wH_idx (i := 2) (d := 29) (T := 25) (A := A0) (n := (l0).length) (cap := cap0) (kd := .i64) (m := x87) (by kernel_rfl) (qT (qT (qB (qT (qL (qB (qT (qT qZ)))))))) (by kernel_rfl) (by kernel_rfl) sl25 (F89.is hx129) ?_
          refine wH_load1 (i := 3) (d := 30) (T := 2) (ad := (elA A0 1 (x87) 0)) (v := .int .i64 (x128)) (by kernel_rfl) (qT (qT (qB (qT (qL (qB (qT (qT qZ)))))))) (by kernel_rfl) (by kernel_rfl) vt2 (fun W hW => Sl.cell (Z126.chg hW Dj.nil) hx129 0 (by rfl)) ?_
          refine wH_take [4, 5] [5, 4, 3, 2, 1, 0] [(32, .int .i64 (x87)), (31, .slice A1 (l1).length cap1)] (by kernel_rfl) (qT (qT (qB (qT (qL (qB (qT (qT qZ)))))))) (by kernel_rfl) ?_
          obtain ⟨x130, hx131, hm⟩ := bindE hm
          refine wH_idx (i := 6) (d := 33) (T := 25) (A := A1) (n := (l1).length) (cap := cap1) (kd := .i64) (m := x87) (by kernel_rfl) (qT (qT (qB (qT (qL (qB (qT (qT qZ)))))))) (by kernel_rfl) (by kernel_rfl) sl25 (F90.is hx131) ?_
          refine wH_load1 (i := 7) (d := 34) (T := 2) (ad := (elA A1 1 (x87) 0)) (v := .int .i64 (x130)) (by kernel_rfl) (qT (qT (qB (qT (qL (qB (qT (qT qZ)))))))) (by kernel_rfl) (by kernel_rfl) vt2 (fun W hW => Sl.cell (Z127.chg hW Dj.nil) hx131 0 (by rfl)) ?_
          refine wH_done (by kernel_rfl) ?_
          refine eX_tail ?_
          refine wS_pure 2 [(4, .bool (decide (x128 < x130))), (35, .bool (decide (x128 < x130)))] (by kernel_rfl) ?_
          refine wS_end (by rfl) ?_
          refine eX_then ?_
          refine cW_prune [(4, .bool (decide (x128 < x130)))] (by kernel_rfl) (by kernel_rfl) (fun a132 => ?_)
          refine cW_ret ?_
          refine eX_block_ret ?_
          refine eX_then_ret ?_
          have hq : (some (Ctl.out (Sum.inr (decide (x128 < x130)))) : Option (Ctl (Int) (Sum (Unit) ((Bool))))) = some _ := hm
          replace hq := someE hq
          subst hq
          refine eX_outR hx96 (fun hr => ?_)
          subst hr
          refine eX_block_ret ?_
          refine eX_then_ret ?_
          refine eX_then_ret ?_
          have hq : (some (decide (x128 < x130)) : Option ((Bool))) = some _ := hm93
          replace hq := someE hq
          subst hq
          refine eX_ret (vs := [.bool (decide (x128 < x130))]) [.tmp 4] (by rfl) ⟨by (show lkE _ _ _ = _); kernel_rfl, trivial⟩ ?_
          exact ⟨rfl, hB⟩
        · have hm := condF hb115 hm
          refine cW_skip ?_
          refine eX_block ?_
          refine eX_then ?_
          refine cW_region ?_
          refine wS_pure 3 [(5, .int .i64 (wr (x87 + 1))), (17, .int .i64 (wr (x87 + 1))), (16, .int .i64 (x87))] (by kernel_rfl) ?_
          refine wS_end (by rfl) ?_
          have hq : (some (Ctl.next (wr (x87 + 1))) : Option (Ctl (Int) (Sum (Unit) ((Bool))))) = some _ := hm
          replace hq := someE hq
          subst hq
          exact eX_next hx96 (fun hst => ⟨wr (x87 + 1), rfl, Fr.of hst (by kernel_rfl), F89, F90, hB, hZ⟩)
      · have hm := condF hb98 hm
        refine cW_exit ?_
        refine eX_then_exit ?_
        have hq : (some (Ctl.out (Sum.inl (()))) : Option (Ctl (Int) (Sum (Unit) ((Bool))))) = some _ := hm
        replace hq := someE hq
        subst hq
        refine eX_outX hx96 (fun hr133 => ?_)
        replace hr133 := hr133.symm
        subst hr133
        refine eX_block_hit ?_
        exact eX_J (fun hst => ⟨rfl, Fr.of hst (by kernel_rfl), F89, F90, hB, hZ⟩)
    · have hm := condF hb97 hm
      rewrite [hb97]
      refine wS_pure 5 [(15, .bool (false)), (14, undef), (13, undef), (12, undef), (11, undef)] (by kernel_rfl) ?_
      refine wS_end (by rfl) ?_
      refine eX_then ?_
      refine cW_cond_f (by kernel_rfl) ?_
      refine cW_exit ?_
      refine eX_then_exit ?_
      have hq : (some (Ctl.out (Sum.inl (()))) : Option (Ctl (Int) (Sum (Unit) ((Bool))))) = some _ := hm
      replace hq := someE hq
      subst hq
      refine eX_outX hx96 (fun hr134 => ?_)
      replace hr134 := hr134.symm
      subst hr134
      refine eX_block_hit ?_
      exact eX_J (fun hst => ⟨rfl, Fr.of hst (by kernel_rfl), F89, F90, hB, hZ⟩)
  · rintro a' w82 ⟨hJ, hF83, F84, F85, hB, hZ⟩
    subst hJ
    refine Fr.goX hF83 (by kernel_rfl) ?_
    refine eX_then ?_
    refine cW_seq ?_
    refine cW_region ?_
    refine wS_pure 6 [(4, .bool (decide ((((l0).length : Int)) < (((l1).length : Int))))), (40, .bool (decide ((((l0).length : Int)) < (((l1).length : Int))))), (39, .int .i64 (((l1).length : Int))), (38, .slice A1 (l1).length cap1), (37, .int .i64 (((l0).length : Int))), (36, .slice A0 (l0).length cap0)] (by kernel_rfl) ?_
    refine wS_end (by rfl) ?_
    refine eX_then ?_
    refine cW_ret ?_
    have hq : (some (decide ((((l0).length : Int)) < (((l1).length : Int)))) : Option ((Bool))) = some _ := hm
    replace hq := someE hq
    subst hq
    refine eX_ret (vs := [.bool (decide ((((l0).length : Int)) < (((l1).length : Int))))]) [.tmp 4] (by rfl) ⟨by (show lkE _ _ _ = _); kernel_rfl, trivial⟩ ?_
    exact ⟨rfl, hB⟩

set_option maxRecDepth 100000 in
/-- spec.l07Lists -/
theorem c_spec_l07Lists {w0 : World} {l0 : List (List (Int))} {A0 : Option Addr} {cap0 : Nat} {fp0 : List Nat} {p1 : Int} {p2 : Int} {r : (Bool)} (hm : m_spec_l07Lists l0 p1 p2 = some r) (F0 : SlR 1 encI w0 fp0 A0 l0) :
    Calls Try.prog 103 #[.slice A0 (l0).length cap0, .int .i64 (p1), .int .i64 (p2)] w0 fun e w' => e = .returned (.bool (r)) ∧ Chg [] w0 w' := by
  have L0 := F0.low
  have hB : Chg [] w0 w0 := Chg.refl _ _
  have hZ := Nat.le_refl w0.heap.size
  unfold m_spec_l07Lists at hm
  refine enterE (N := 71) Try.func103 (by rfl) Try.ntmps103 (by simp) [(0, .slice A0 (l0).length cap0), (1, .int .i64 (p1)), (2, .int .i64 (p2))] (by rfl) (by kernel_rfl) (fun a => ?_)
  refine cW_seq ?_
  refine cW_region ?_
  refine wS_pure 1 [(6, .bool (false))] (by kernel_rfl) ?_
  refine wS_end (by rfl) ?_
  refine eX_then ?_
  refine cW_seq ?_
  refine cW_seq ?_
  refine cW_region ?_
  refine wS_pure 1 [(7, .int .i64 (0))] (by kernel_rfl) ?_
  refine wS_end (by rfl) ?_
  refine eX_then ?_
  obtain ⟨r212, hr213, hm⟩ := bindE hm
  have hm214 := hm
  refine cW_cut (fun a' w' => Sum.inl (()) = r212 ∧ Fr 71 [(0, .slice A0 (l0).length cap0)] a' ∧ SlR 1 encI w' fp0 A0 l0 ∧ Chg [] w0 w' ∧ w0.heap.size ≤ w'.heap.size) ?_ ?_
  · refine cW_block ?_
    refine cW_loop _ (fun (s215 : Int) a' w' => ∃ x209 : Int, x209 = s215 ∧ Fr 71 [(0, .slice A0 (l0).length cap0), (1, .int .i64 (p1)), (2, .int .i64 (p2)), (7, .int .i64 (x209))] a' ∧ SlR 1 encI w' fp0 A0 l0 ∧ Chg [] w0 w' ∧ w0.heap.size ≤ w'.heap.size) hr213 (fun hst => ⟨0, rfl, Fr.of hst (by kernel_rfl), F0, hB, hZ⟩) ?_
    rintro _ c216 a' w208 ⟨x209, rfl, hF210, F211, hB, hZ⟩ hx217
    refine Fr.goOn hF210 (by kernel_rfl) ?_
    have hm := hx217
    unfold m_spec_l07Lists_s1 at hm
    refine cW_seq ?_
    refine cW_seq ?_
    refine cW_region ?_
    refine wS_pure 4 [(12, .bool (decide (x209 < (((l0).length : Int))))), (11, .int .i64 (((l0).length : Int))), (10, .slice A0 (l0).length cap0), (9, .int .i64 (x209))] (by kernel_rfl) ?_
    refine wS_end (by rfl) ?_
    refine eX_then ?_
    refine cW_cond (t := decide (x209 < (((l0).length : Int)))) (by kernel_rfl) (fun hb218 => ?_) (fun hb218 => ?_)
    · have hm := condT hb218 hm
      refine cW_skip ?_
      refine eX_then ?_
      refine cW_seq ?_
      refine cW_block ?_
      refine cW_seq ?_
      refine cW_region ?_
      refine wS_pure 2 [(16, .int .i64 (x209)), (15, .slice A0 (l0).length cap0)] (by kernel_rfl) ?_
      obtain ⟨x219, hx220, hm⟩ := bindE hm
      refine wS_idx (d := 17) (T := 24) (A := A0) (n := (l0).length) (cap := cap0) (kd := .i64) (m := x209) (by kernel_rfl) sl24 (F211.is hx220) ?_
      obtain ⟨A221, cap222, hc224, F223, K225⟩ := SlR.row F211 hx220
      refine wS_load1 (d := 18) (T := 25) (ad := (elA A0 1 (x209) 0)) (v := .slice A221 (x219).length cap222) (by kernel_rfl) vt25 hc224 ?_
      refine wS_pure 1 [(8, .slice A221 (x219).length cap222)] (by kernel_rfl) ?_
      refine wS_end (by rfl) ?_
      refine eX_then ?_
      refine cW_seq ?_
      refine cW_seq ?_
      refine cW_drawnTail [] 23 (by kernel_rfl) (by kernel_rfl) (fun w255 hc256 => ?_)
      replace F211 := F211.chg hc256 Dj.nil
      replace F223 := F223.chg hc256 Dj.nil
      replace hB := hB.inS hc256 inNil
      replace hZ := Nat.le_trans hZ hc256.size
      have hS := Chg.refl [] w255
      have Z257 := F211
      have Z258 := F223
      refine wH_take [0, 1, 2, 3, 4] [4, 3, 2, 1, 0] [(23, .bool ((((x219).length : Int)) != p2)), (22, .bool ((((x219).length : Int)) != p2)), (21, .int .i64 (p2)), (20, .int .i64 (((x219).length : Int))), (19, .slice A221 (x219).length cap222)] (by kernel_rfl) (qT (qT (qT (qB (qT (qL (qB (qT (qT qZ))))))))) (by kernel_rfl) ?_
      refine wH_bool ((((x219).length : Int)) != p2) (fun hb259 => ?_) (fun hb259 => ?_)
      · have hm := condT hb259 hm
        rewrite [hb259]
        refine wH_take [5, 6, 7, 8, 9, 10, 11, 12, 13, 14, 15, 16, 17, 18, 19, 20, 21, 22] [22, 21, 20, 19, 18, 17, 16, 15, 14, 13, 12, 11, 10, 9, 8, 7, 6, 5, 4, 3, 2, 1, 0] [(41, undef), (40, undef), (39, undef), (38, undef), (37, undef), (36, undef), (35, undef), (34, undef), (33, undef), (32, .bool (true)), (31, .bool (true)), (30, undef), (29, undef), (28, undef), (27, undef), (26, undef), (25, undef), (24, undef)] (by kernel_rfl) (qT (qT (qT (qB (qT (qL (qB (qT (qT qZ))))))))) (by kernel_rfl) ?_
        refine wH_done (by kernel_rfl) ?_
        refine eX_tail ?_
        refine wS_pure 14 [(55, .bool (true)), (54, undef), (53, undef), (52, undef), (51, undef), (50, undef), (49, undef), (48, undef), (47, undef), (46, undef), (45, .bool (true)), (44, .bool (true)), (43, undef), (42, undef)] (by kernel_rfl) ?_
        refine wS_end (by rfl) ?_
        refine eX_then ?_
        refine cW_prune [(0, .slice A0 (l0).length cap0), (1, .int .i64 (p1)), (2, .int .i64 (p2)), (7, .int .i64 (x209)), (8, .slice A221 (x219).length cap222), (55, .bool (true))] (by kernel_rfl) (by kernel_rfl) (fun a260 => ?_)
        refine cW_cond_t (by kernel_rfl) ?_
        refine cW_seq ?_
        refine cW_region ?_
        refine wS_pure 1 [(6, .bool (false))] (by kernel_rfl) ?_
        refine wS_end (by rfl) ?_
        refine eX_then ?_
        refine cW_ret ?_
        refine eX_then_ret ?_
        refine eX_block_ret ?_
        refine eX_then_ret ?_
        have hq : (some (Ctl.out (Sum.inr false)) : Option (Ctl (Int) (Sum (Unit) ((Bool))))) = some _ := hm
        replace hq := someE hq
        subst hq
        refine eX_outR hx217 (fun hr => ?_)
        subst hr
        refine eX_block_ret ?_
        refine eX_then_ret ?_
        refine eX_then_ret ?_
        have hq : (some false : Option ((Bool))) = some _ := hm214
        replace hq := someE hq
        subst hq
        refine eX_ret (vs := [.bool (false)]) [.tmp 6] (by rfl) ⟨by (show lkE _ _ _ = _); kernel_rfl, trivial⟩ ?_
        exact ⟨rfl, hB⟩
      · have hm := condF hb259 hm
        rewrite [hb259]
        refine wH_take [5] [5, 4, 3, 2, 1, 0] [(24, .slice A221 (x219).length cap222)] (by kernel_rfl) (qT (qT (qT (qB (qT (qL (qB (qT (qT qZ))))))))) (by kernel_rfl) ?_
        obtain ⟨x261, hx262, hm⟩ := bindE hm
        refine wH_idx (i := 6) (d := 25) (T := 25) (A := A221) (n := (x219).length) (cap := cap222) (kd := .i64) (m := 0) (by kernel_rfl) (qT (qT (qT (qB (qT (qL (qB (qT (qT qZ))))))))) (by kernel_rfl) (by kernel_rfl) sl25 (F223.is hx262) ?_
        refine wH_load1 (i := 7) (d := 26) (T := 2) (ad := (elA A221 1 (0) 0)) (v := .int .i64 (x261)) (by kernel_rfl) (qT (qT (qT (qB (qT (qL (qB (qT (qT qZ))))))))) (by kernel_rfl) (by kernel_rfl) vt2 (fun W hW => Sl.cell (Z258.chg hW Dj.nil) hx262 0 (by rfl)) ?_
        refine wH_take [8, 9] [9, 8, 7, 6, 5, 4, 3, 2, 1, 0] [(28, .int .i64 (wr (p1 - 1))), (27, .int .i64 (p1))] (by kernel_rfl) (qT (qT (qT (qB (qT (qL (qB (qT (qT qZ))))))))) (by kernel_rfl) ?_
        refine wH_all [10] (by rfl) (by kernel_rfl) (by simp) ⟨⟨by kernel_rfl, ?_⟩, trivial⟩
        obtain ⟨y263, hy264, hm⟩ := bindE hm
        refine wS_calls (d := 29) (f := 87) (vs := [.int .i64 (x261), .int .i64 (0), .int .i64 (wr (p1 - 1))]) (by kernel_rfl) ent87 (c_spec_l00In hy264) ?_
        rintro _ w265 ⟨rfl, hc266⟩
        replace F211 := F211.chg hc266 Dj.nil
        replace F223 := F223.chg hc266 Dj.nil
        replace hB := hB.inS hc266 inNil
        have hSz := hS
        replace hS := hS.inS hc266 inNil
        replace hZ := Nat.le_trans hZ hc266.size
        refine ⟨.bool (y263), rfl, ?_⟩
        refine wS_end (by kernel_rfl) ?_
        refine eX_KH hS ?_
        refine wH_take [11, 12, 13] [13, 12, 11, 10, 9, 8, 7, 6, 5, 4, 3, 2, 1, 0] [(32, .bool (!y263)), (31, .bool (!y263)), (30, .bool (!y263))] (by kernel_rfl) (qT (qT (qT (qB (qT (qL (qB (qT (qT qZ))))))))) (by kernel_rfl) ?_
        refine wH_bool (!y263) (fun hb267 => ?_) (fun hb267 => ?_)
        · have hm := condT hb267 hm
          rewrite [hb267]
          refine wH_take [14, 15, 16, 17, 18, 19, 20, 21, 22] [22, 21, 20, 19, 18, 17, 16, 15, 14, 13, 12, 11, 10, 9, 8, 7, 6, 5, 4, 3, 2, 1, 0] [(41, undef), (40, undef), (39, undef), (38, undef), (37, undef), (36, undef), (35, undef), (34, undef), (33, undef)] (by kernel_rfl) (qT (qT (qT (qB (qT (qL (qB (qT (qT qZ))))))))) (by kernel_rfl) ?_
          refine wH_done (by kernel_rfl) ?_
          refine eX_tail ?_
          refine wS_pure 14 [(55, .bool (true)), (54, undef), (53, undef), (52, undef), (51, undef), (50, undef), (49, undef), (48, undef), (47, undef), (46, undef), (45, .bool (true)), (44, .bool (true)), (43, undef), (42, undef)] (by kernel_rfl) ?_
          refine wS_end (by rfl) ?_
          refine eX_then ?_
          refine cW_prune [(0, .slice A0 (l0).length cap0), (1, .int .i64 (p1)), (2, .int .i64 (p2)), (7, .int .i64 (x209)), (8, .slice A221 (x219).length cap222), (55, .bool (true))] (by kernel_rfl) (by kernel_rfl) (fun a268 => ?_)
          refine cW_cond_t (by kernel_rfl) ?_
          refine cW_seq ?_
          refine cW_region ?_
          refine wS_pure 1 [(6, .bool (false))] (by kernel_rfl) ?_
          refine wS_end (by rfl) ?_
          refine eX_then ?_
          refine cW_ret ?_
          refine eX_then_ret ?_
          refine eX_block_ret ?_
          refine eX_then_ret ?_
          have hq : (some (Ctl.out (Sum.inr false)) : Option (Ctl (Int) (Sum (Unit) ((Bool))))) = some _ := hm
          replace hq := someE hq
          subst hq
          refine eX_outR hx217 (fun hr => ?_)
          subst hr
          refine eX_block_ret ?_
          refine eX_then_ret ?_
          refine eX_then_ret ?_
          have hq : (some false : Option ((Bool))) = some _ := hm214
          replace hq := someE hq
          subst hq
          refine eX_ret (vs := [.bool (false)]) [.tmp 6] (by rfl) ⟨by (show lkE _ _ _ = _); kernel_rfl, trivial⟩ ?_
          exact ⟨rfl, hB⟩
        · have hm := condF hb267 hm
          rewrite [hb267]
          refine wH_take [14] [14, 13, 12, 11, 10, 9, 8, 7, 6, 5, 4, 3, 2, 1, 0] [(33, .slice A221 (x219).length cap222)] (by kernel_rfl) (qT (qT (qT (qB (qT (qL (qB (qT (qT qZ))))))))) (by kernel_rfl) ?_
          obtain ⟨x269, hx270, hm⟩ := bindE hm
          refine wH_idx (i := 15) (d := 34) (T := 25) (A := A221) (n := (x219).length) (cap := cap222) (kd := .i64) (m := 1) (by kernel_rfl) (qT (qT (qT (qB (qT (qL (qB (qT (qT qZ))))))))) (by kernel_rfl) (by kernel_rfl) sl25 (F223.is hx270) ?_
          refine wH_load1 (i := 16) (d := 35) (T := 2) (ad := (elA A221 1 (1) 0)) (v := .int .i64 (x269)) (by kernel_rfl) (qT (qT (qT (qB (qT (qL (qB (qT (qT qZ))))))))) (by kernel_rfl) (by kernel_rfl) vt2 (fun W hW => Sl.cell (Z258.chg hW Dj.nil) hx270 0 (by rfl)) ?_
          refine wH_take [17] [17, 16, 15, 14, 13, 12, 11, 10, 9, 8, 7, 6, 5, 4, 3, 2, 1, 0] [(36, .slice A221 (x219).length cap222)] (by kernel_rfl) (qT (qT (qT (qB (qT (qL (qB (qT (qT qZ))))))))) (by kernel_rfl) ?_
          obtain ⟨x271, hx272, hm⟩ := bindE hm
          refine wH_idx (i := 18) (d := 37) (T := 25) (A := A221) (n := (x219).length) (cap := cap222) (kd := .i64) (m := 0) (by kernel_rfl) (qT (qT (qT (qB (qT (qL (qB (qT (qT qZ))))))))) (by kernel_rfl) (by kernel_rfl) sl25 (F223.is hx272) ?_
          refine wH_load1 (i := 19) (d := 38) (T := 2) (ad := (elA A221 1 (0) 0)) (v := .int .i64 (x271)) (by kernel_rfl) (qT (qT (qT (qB (qT (qL (qB (qT (qT qZ))))))))) (by kernel_rfl) (by kernel_rfl) vt2 (fun W hW => Sl.cell (Z258.chg hW Dj.nil) hx272 0 (by rfl)) ?_
          refine wH_take [20, 21, 22] [22, 21, 20, 19, 18, 17, 16, 15, 14, 13, 12, 11, 10, 9, 8, 7, 6, 5, 4, 3, 2, 1, 0] [(41, .int .i64 (wr (p1 - 1))), (40, .int .i64 (p1)), (39, .int .i64 (wr (x271 + 1)))] (by kernel_rfl) (qT (qT (qT (qB (qT (qL (qB (qT (qT qZ))))))))) (by kernel_rfl) ?_
          refine wH_done (by kernel_rfl) ?_
          refine eX_tail ?_
          obtain ⟨y273, hy274, hm⟩ := bindE hm
          refine wS_calls (d := 42) (f := 87) (vs := [.int .i64 (x269), .int .i64 (wr (x271 + 1)), .int .i64 (wr (p1 - 1))]) (by kernel_rfl) ent87 (c_spec_l00In hy274) ?_
          rintro _ w275 ⟨rfl, hc276⟩
          replace F211 := F211.chg hc276 Dj.nil
          replace F223 := F223.chg hc276 Dj.nil
          replace hB := hB.inS hc276 inNil
          replace hZ := Nat.le_trans hZ hc276.size
          refine ⟨.bool (y273), rfl, ?_⟩
          refine wS_pure 3 [(45, .bool (!y273)), (44, .bool (!y273)), (43, .bool (!y273))] (by kernel_rfl) ?_
          refine wS_bool (!y273) (fun hb277 => ?_) (fun hb277 => ?_)
          · have hm := condT hb277 hm
            rewrite [hb277]
            refine wS_pure 10 [(55, .bool (true)), (54, undef), (53, undef), (52, undef), (51, undef), (50, undef), (49, undef), (48, undef), (47, undef), (46, undef)] (by kernel_rfl) ?_
            refine wS_end (by rfl) ?_
            refine eX_then ?_
            refine cW_prune [(0, .slice A0 (l0).length cap0), (1, .int .i64 (p1)), (2, .int .i64 (p2)), (7, .int .i64 (x209)), (8, .slice A221 (x219).length cap222), (55, .bool (true))] (by kernel_rfl) (by kernel_rfl) (fun a278 => ?_)
            refine cW_cond_t (by kernel_rfl) ?_
            refine cW_seq ?_
            refine cW_region ?_
            refine wS_pure 1 [(6, .bool (false))] (by kernel_rfl) ?_
            refine wS_end (by rfl) ?_
            refine eX_then ?_
            refine cW_ret ?_
            refine eX_then_ret ?_
            refine eX_block_ret ?_
            refine eX_then_ret ?_
            have hq : (some (Ctl.out (Sum.inr false)) : Option (Ctl (Int) (Sum (Unit) ((Bool))))) = some _ := hm
            replace hq := someE hq
            subst hq
            refine eX_outR hx217 (fun hr => ?_)
            subst hr
            refine eX_block_ret ?_
            refine eX_then_ret ?_
            refine eX_then_ret ?_
            have hq : (some false : Option ((Bool))) = some _ := hm214
            replace hq := someE hq
            subst hq
            refine eX_ret (vs := [.bool (false)]) [.tmp 6] (by rfl) ⟨by (show lkE _ _ _ = _); kernel_rfl, trivial⟩ ?_
            exact ⟨rfl, hB⟩
          · have hm := condF hb277 hm
            rewrite [hb277]
            refine wS_pure 3 [(48, .bool (p2 == 3)), (47, .bool (p2 == 3)), (46, .int .i64 (p2))] (by kernel_rfl) ?_
            refine wS_bool (p2 == 3) (fun hb279 => ?_) (fun hb279 => ?_)
            · have hm := condT hb279 hm
              rewrite [hb279]
              refine wS_pure 1 [(49, .slice A221 (x219).length cap222)] (by kernel_rfl) ?_
              obtain ⟨x280, hx281, hm⟩ := bindE hm
              refine wS_idx (d := 50) (T := 25) (A := A221) (n := (x219).length) (cap := cap222) (kd := .i64) (m := 2) (by kernel_rfl) sl25 (F223.is hx281) ?_
              refine wS_load1 (d := 51) (T := 2) (ad := (elA A221 1 (2) 0)) (v := .int .i64 (x280)) (by kernel_rfl) vt2 (Sl.cell F223 hx281 0 (by rfl)) ?_
              obtain ⟨y282, hy283, hm⟩ := bindE hm
              refine wS_calls (d := 52) (f := 87) (vs := [.int .i64 (x280), .int .i64 (0), .int .i64 (1000)]) (by kernel_rfl) ent87 (c_spec_l00In hy283) ?_
              rintro _ w284 ⟨rfl, hc285⟩
              replace F211 := F211.chg hc285 Dj.nil
              replace F223 := F223.chg hc285 Dj.nil
              replace hB := hB.inS hc285 inNil
              replace hZ := Nat.le_trans hZ hc285.size
              refine ⟨.bool (y282), rfl, ?_⟩
              refine wS_pure 3 [(55, .bool (!y282)), (54, .bool (!y282)), (53, .bool (!y282))] (by kernel_rfl) ?_
              refine wS_end (by rfl) ?_
              refine eX_then ?_
              refine cW_prune [(0, .slice A0 (l0).length cap0), (1, .int .i64 (p1)), (2, .int .i64 (p2)), (7, .int .i64 (x209)), (8, .slice A221 (x219).length cap222), (55, .bool (!y282))] (by kernel_rfl) (by kernel_rfl) (fun a286 => ?_)
              refine cW_cond (t := !y282) (by kernel_rfl) (fun hb287 => ?_) (fun hb287 => ?_)
              · have hm := condT hb287 hm
                refine cW_seq ?_
                refine cW_region ?_
                refine wS_pure 1 [(6, .bool (false))] (by kernel_rfl) ?_
                refine wS_end (by rfl) ?_
                refine eX_then ?_
                refine cW_ret ?_
                refine eX_then_ret ?_
                refine eX_block_ret ?_
                refine eX_then_ret ?_
                have hq : (some (Ctl.out (Sum.inr false)) : Option (Ctl (Int) (Sum (Unit) ((Bool))))) = some _ := hm
                replace hq := someE hq
                subst hq
                refine eX_outR hx217 (fun hr => ?_)
                subst hr
                refine eX_block_ret ?_
                refine eX_then_ret ?_
                refine eX_then_ret ?_
                have hq : (some false : Option ((Bool))) = some _ := hm214
                replace hq := someE hq
                subst hq
                refine eX_ret (vs := [.bool (false)]) [.tmp 6] (by rfl) ⟨by (show lkE _ _ _ = _); kernel_rfl, trivial⟩ ?_
                exact ⟨rfl, hB⟩
              · have hm := condF hb287 hm
                refine cW_skip ?_
                refine eX_then ?_
                refine cW_seq ?_
                refine cW_region ?_
                refine wS_pure 3 [(58, .bool (decide (x209 > 0))), (57, .bool (decide (x209 > 0))), (56, .int .i64 (x209))] (by kernel_rfl) ?_
                refine wS_bool (decide (x209 > 0)) (fun hb288 => ?_) (fun hb288 => ?_)
                · have hm := condT hb288 hm
                  rewrite [hb288]
                  refine wS_pure 3 [(61, .int .i64 (wr (x209 - 1))), (60, .int .i64 (x209)), (59, .slice A0 (l0).length cap0)] (by kernel_rfl) ?_
                  obtain ⟨x289, hx290, hm⟩ := bindE hm
                  refine wS_idx (d := 62) (T := 24) (A := A0) (n := (l0).length) (cap := cap0) (kd := .i64) (m := wr (x209 - 1)) (by kernel_rfl) sl24 (F211.is hx290) ?_
                  obtain ⟨A291, cap292, hc294, F293, K295⟩ := SlR.row F211 hx290
                  refine wS_load1 (d := 63) (T := 25) (ad := (elA A0 1 (wr (x209 - 1)) 0)) (v := .slice A291 (x289).length cap292) (by kernel_rfl) vt25 hc294 ?_
                  refine wS_pure 1 [(64, .slice A221 (x219).length cap222)] (by kernel_rfl) ?_
                  obtain ⟨y297, hy298, hm⟩ := bindE hm
                  refine wS_calls (d := 65) (f := 128) (vs := [.slice A291 (x289).length cap292, .slice A221 (x219).length cap222]) (by kernel_rfl) ent128 (c_spec_l03Less hy298 F293 F223) ?_
                  rintro _ w299 ⟨rfl, hc300⟩
                  replace F211 := F211.chg hc300 Dj.nil
                  replace F223 := F223.chg hc300 Dj.nil
                  replace F293 := F293.chg hc300 Dj.nil
                  replace hB := hB.inS hc300 inNil
                  replace hZ := Nat.le_trans hZ hc300.size
                  refine ⟨.bool (y297), rfl, ?_⟩
                  refine wS_pure 2 [(67, .bool (!y297)), (66, .bool (!y297))] (by kernel_rfl) ?_
                  refine wS_end (by rfl) ?_
                  refine eX_then ?_
                  refine cW_cond (t := !y297) (by kernel_rfl) (fun hb301 => ?_) (fun hb301 => ?_)
                  · have hm := condT hb301 hm
                    refine cW_seq ?_
                    refine cW_region ?_
                    refine wS_pure 1 [(6, .bool (false))] (by kernel_rfl) ?_
                    refine wS_end (by rfl) ?_
                    refine eX_then ?_
                    refine cW_ret ?_
                    refine eX_block_ret ?_
                    refine eX_then_ret ?_
                    have hq : (some (Ctl.out (Sum.inr false)) : Option (Ctl (Int) (Sum (Unit) ((Bool))))) = some _ := hm
                    replace hq := someE hq
                    subst hq
                    refine eX_outR hx217 (fun hr => ?_)
                    subst hr
                    refine eX_block_ret ?_
                    refine eX_then_ret ?_
                    refine eX_then_ret ?_
                    have hq : (some false : Option ((Bool))) = some _ := hm214
                    replace hq := someE hq
                    subst hq
                    refine eX_ret (vs := [.bool (false)]) [.tmp 6] (by rfl) ⟨by (show lkE _ _ _ = _); kernel_rfl, trivial⟩ ?_
                    exact ⟨rfl, hB⟩
                  · have hm := condF hb301 hm
                    refine cW_skip ?_
                    refine eX_block ?_
                    refine eX_then ?_
                    refine cW_region ?_
                    refine wS_pure 3 [(7, .int .i64 (wr (x209 + 1))), (14, .int .i64 (wr (x209 + 1))), (13, .int .i64 (x209))] (by kernel_rfl) ?_
                    refine wS_end (by rfl) ?_
                    have hq : (some (Ctl.next (wr (x209 + 1))) : Option (Ctl (Int) (Sum (Unit) ((Bool))))) = some _ := hm
                    replace hq := someE hq
                    subst hq
                    exact eX_next hx217 (fun hst => ⟨wr (x209 + 1), rfl, Fr.of hst (by kernel_rfl), F211, hB, hZ⟩)
                · have hm := condF hb288 hm
                  rewrite [hb288]
                  refine wS_pure 9 [(67, .bool (false)), (66, undef), (65, undef), (64, undef), (63, undef), (62, undef), (61, undef), (60, undef), (59, undef)] (by kernel_rfl) ?_
                  refine wS_end (by rfl) ?_
                  refine eX_then ?_
                  refine cW_cond_f (by kernel_rfl) ?_
                  refine cW_skip ?_
                  refine eX_block ?_
                  refine eX_then ?_
                  refine cW_region ?_
                  refine wS_pure 3 [(7, .int .i64 (wr (x209 + 1))), (14, .int .i64 (wr (x209 + 1))), (13, .int .i64 (x209))] (by kernel_rfl) ?_
                  refine wS_end (by rfl) ?_
                  have hq : (some (Ctl.next (wr (x209 + 1))) : Option (Ctl (Int) (Sum (Unit) ((Bool))))) = some _ := hm
                  replace hq := someE hq
                  subst hq
                  exact eX_next hx217 (fun hst => ⟨wr (x209 + 1), rfl, Fr.of hst (by kernel_rfl), F211, hB, hZ⟩)
            · have hm := condF hb279 hm
              rewrite [hb279]
              refine wS_pure 7 [(55, .bool (false)), (54, .bool (false)), (53, undef), (52, undef), (51, undef), (50, undef), (49, undef)] (by kernel_rfl) ?_
              refine wS_end (by rfl) ?_
              refine eX_then ?_
              refine cW_prune [(0, .slice A0 (l0).length cap0), (1, .int .i64 (p1)), (2, .int .i64 (p2)), (7, .int .i64 (x209)), (8, .slice A221 (x219).length cap222), (55, .bool (false))] (by kernel_rfl) (by kernel_rfl) (fun a302 => ?_)
              refine cW_cond_f (by kernel_rfl) ?_
              refine cW_skip ?_
              refine eX_then ?_
              refine cW_seq ?_
              refine cW_region ?_
              refine wS_pure 3 [(58, .bool (decide (x209 > 0))), (57, .bool (decide (x209 > 0))), (56, .int .i64 (x209))] (by kernel_rfl) ?_
              refine wS_bool (decide (x209 > 0)) (fun hb303 => ?_) (fun hb303 => ?_)
              · have hm := condT hb303 hm
                rewrite [hb303]
                refine wS_pure 3 [(61, .int .i64 (wr (x209 - 1))), (60, .int .i64 (x209)), (59, .slice A0 (l0).length cap0)] (by kernel_rfl) ?_
                obtain ⟨x304, hx305, hm⟩ := bindE hm
                refine wS_idx (d := 62) (T := 24) (A := A0) (n := (l0).length) (cap := cap0) (kd := .i64) (m := wr (x209 - 1)) (by kernel_rfl) sl24 (F211.is hx305) ?_
                obtain ⟨A306, cap307, hc309, F308, K310⟩ := SlR.row F211 hx305
                refine wS_load1 (d := 63) (T := 25) (ad := (elA A0 1 (wr (x209 - 1)) 0)) (v := .slice A306 (x304).length cap307) (by kernel_rfl) vt25 hc309 ?_
                refine wS_pure 1 [(64, .slice A221 (x219).length cap222)] (by kernel_rfl) ?_
                obtain ⟨y312, hy313, hm⟩ := bindE hm
                refine wS_calls (d := 65) (f := 128) (vs := [.slice A306 (x304).length cap307, .slice A221 (x219).length cap222]) (by kernel_rfl) ent128 (c_spec_l03Less hy313 F308 F223) ?_
                rintro _ w314 ⟨rfl, hc315⟩
                replace F211 := F211.chg hc315 Dj.nil
                replace F223 := F223.chg hc315 Dj.nil
                replace F308 := F308.chg hc315 Dj.nil
                replace hB := hB.inS hc315 inNil
                replace hZ := Nat.le_trans hZ hc315.size
                refine ⟨.bool (y312), rfl, ?_⟩
                refine wS_pure 2 [(67, .bool (!y312)), (66, .bool (!y312))] (by kernel_rfl) ?_
                refine wS_end (by rfl) ?_
                refine eX_then ?_
                refine cW_cond (t := !y312) (by kernel_rfl) (fun hb316 => ?_) (fun hb316 => ?_)
                · have hm := condT hb316 hm
                  refine cW_seq ?_
                  refine cW_region ?_
                  refine wS_pure 1 [(6, .bool (false))] (by kernel_rfl) ?_
                  refine wS_end (by rfl) ?_
                  refine eX_then ?_
                  refine cW_ret ?_
                  refine eX_block_ret ?_
                  refine eX_then_ret ?_
                  have hq : (some (Ctl.out (Sum.inr false)) : Option (Ctl (Int) (Sum (Unit) ((Bool))))) = some _ := hm
                  replace hq := someE hq
                  subst hq
                  refine eX_outR hx217 (fun hr => ?_)
                  subst hr
                  refine eX_block_ret ?_
                  refine eX_then_ret ?_
                  refine eX_then_ret ?_
                  have hq : (some false : Option ((Bool))) = some _ := hm214
                  replace hq := someE hq
                  subst hq
                  refine eX_ret (vs := [.bool (false)]) [.tmp 6] (by rfl) ⟨by (show lkE _ _ _ = _); kernel_rfl, trivial⟩ ?_
                  exact ⟨rfl, hB⟩
                · have hm := condF hb316 hm
                  refine cW_skip ?_
                  refine eX_block ?_
                  refine eX_then ?_
                  refine cW_region ?_
                  refine wS_pure 3 [(7, .int .i64 (wr (x209 + 1))), (14, .int .i64 (wr (x209 + 1))), (13, .int .i64 (x209))] (by kernel_rfl) ?_
                  refine wS_end (by rfl) ?_
                  have hq : (some (Ctl.next (wr (x209 + 1))) : Option (Ctl (Int) (Sum (Unit) ((Bool))))) = some _ := hm
                  replace hq := someE hq
                  subst hq
                  exact eX_next hx217 (fun hst => ⟨wr (x209 + 1), rfl, Fr.of hst (by kernel_rfl), F211, hB, hZ⟩)
              · have hm := condF hb303 hm
                rewrite [hb303]
                refine wS_pure 9 [(67, .bool (false)), (66, undef), (65, undef), (64, undef), (63, undef), (62, undef), (61, undef), (60, undef), (59, undef)] (by kernel_rfl) ?_
                refine wS_end (by rfl) ?_
                refine eX_then ?_
                refine cW_cond_f (by kernel_rfl) ?_
                refine cW_skip ?_
                refine eX_block ?_
                refine eX_then ?_
                refine cW_region ?_
                refine wS_pure 3 [(7, .int .i64 (wr (x209 + 1))), (14, .int .i64 (wr (x209 + 1))), (13, .int .i64 (x209))] (by kernel_rfl) ?_
                refine wS_end (by rfl) ?_
                have hq : (some (Ctl.next (wr (x209 + 1))) : Option (Ctl (Int) (Sum (Unit) ((Bool))))) = some _ := hm
                replace hq := someE hq
                subst hq
                exact eX_next hx217 (fun hst => ⟨wr (x209 + 1), rfl, Fr.of hst (by kernel_rfl), F211, hB, hZ⟩)
    · have hm := condF hb218 hm
      refine cW_exit ?_
      refine eX_then_exit ?_
      have hq : (some (Ctl.out (Sum.inl (()))) : Option (Ctl (Int) (Sum (Unit) ((Bool))))) = some _ := hm
      replace hq := someE hq
      subst hq
      refine eX_outX hx217 (fun hr317 => ?_)
      replace hr317 := hr317.symm
      subst hr317
      refine eX_block_hit ?_
      exact eX_J (fun hst => ⟨rfl, Fr.of hst (by kernel_rfl), F211, hB, hZ⟩)
  · rintro a' w205 ⟨hJ, hF206, F207, hB, hZ⟩
    subst hJ
    refine Fr.goX hF206 (by kernel_rfl) ?_
    refine eX_then ?_
    refine cW_seq ?_
    refine cW_region ?_
    refine wS_pure 4 [(6, .bool (decide ((((l0).length : Int)) ≤ 30))), (70, .bool (decide ((((l0).length : Int)) ≤ 30))), (69, .int .i64 (((l0).length : Int))), (68, .slice A0 (l0).length cap0)] (by kernel_rfl) ?_
    refine wS_end (by rfl) ?_
    refine eX_then ?_
    refine cW_ret ?_
    have hq : (some (decide ((((l0).length : Int)) ≤ 30)) : Option ((Bool))) = some _ := hm
    replace hq := someE hq
    subst hq
    refine eX_ret (vs := [.bool (decide ((((l0).length : Int)) ≤ 30))]) [.tmp 6] (by rfl) ⟨by (show lkE _ _ _ = _); kernel_rfl, trivial⟩ ?_
    exact ⟨rfl, hB⟩

set_option maxRecDepth 100000 in
/-- spec.l07Is -/
theorem c_spec_l07Is_bimplWiring {w0 : World} {q0_0 : Int} {l0_1 : List (List (Int))} {A0_1 : Option Addr} {cap0_1 : Nat} {fp0_1 : List Nat} {l0_2 : List (List (Int))} {A0_2 : Option Addr} {cap0_2 : Nat} {fp0_2 : List Nat} {l0_3 : List (Int)} {A0_3 : Option Addr} {cap0_3 : Nat} {fp0_3 : List Nat} {b0 : Nat} {r : (Bool)} (hm : m_spec_l07Is_bimplWiring q0_0 l0_1 l0_2 l0_3 = some r) (F0_1 : SlR 1 encI w0 fp0_1 A0_1 l0_1) (F0_2 : SlR 1 encI w0 fp0_2 A0_2 l0_2) (F0_3 : Sl 1 encI w0 fp0_3 A0_3 l0_3) (F0 : Cl w0 b0 27 [.int .i64 (q0_0), .slice A0_1 (l0_1).length cap0_1, .slice A0_2 (l0_2).length cap0_2, .slice A0_3 (l0_3).length cap0_3]) :
    Calls Try.prog 63 #[.pointer (some ⟨b0, 0, none⟩)] w0 fun e w' => e = .returned (.bool (r)) ∧ Chg [] w0 w' := by
  have L0_1 := F0_1.low
  have L0_2 := F0_2.low
  have L0_3 := F0_3.low
  have L0 := lt1 F0.lt
  have hB : Chg [] w0 w0 := Chg.refl _ _
  have hZ := Nat.le_refl w0.heap.size
  unfold m_spec_l07Is_bimplWiring at hm
  refine enterE (N := 60) Try.func63 (by rfl) Try.ntmps63 (by simp) [(0, .pointer (some ⟨b0, 0, none⟩))] (by rfl) (by kernel_rfl) (fun a => ?_)
  refine cW_seq ?_
  refine cW_region ?_
  refine wS_pure 1 [(2, .bool (false))] (by kernel_rfl) ?_
  refine wS_end (by rfl) ?_
  refine eX_then ?_
  refine cW_seq ?_
  refine cW_seq ?_
  refine cW_drawnTail [] 16 (by kernel_rfl) (by kernel_rfl) (fun w16 hc17 => ?_)
  replace F0_1 := F0_1.chg hc17 Dj.nil
  replace F0_2 := F0_2.chg hc17 Dj.nil
  replace F0_3 := F0_3.chg hc17 Dj.nil
  replace F0 := F0.chg hc17 notNil
  replace hB := hB.inS hc17 inNil
  replace hZ := Nat.le_trans hZ hc17.size
  have hS := Chg.refl [] w16
  have Z18 := F0_1
  have Z19 := F0_2
  have Z20 := F0_3
  have Z21 := F0
  refine wH_take [0, 1, 2] [2, 1, 0] [(6, .pointer (some ⟨b0, 0, none⟩)), (5, .pointer (some ⟨b0, 0, none⟩)), (4, .pointer (some ⟨b0, 0, none⟩))] (by kernel_rfl) (qT (qT (qT qZ))) (by kernel_rfl) ?_
  refine wH_load1 (i := 3) (d := 7) (T := 2) (ad := ⟨b0, 0, none⟩) (v := .int .i64 (q0_0)) (by kernel_rfl) (qT (qT (qT qZ))) (by kernel_rfl) (by kernel_rfl) vt2 (fun W hW => (Z21.chg hW notNil).cell 0) ?_
  refine wH_all [4] (by rfl) (by kernel_rfl) (by simp) ⟨⟨by kernel_rfl, ?_⟩, trivial⟩
  obtain ⟨y22, hy23, hm⟩ := bindE hm
  refine wS_calls (d := 8) (f := 87) (vs := [.int .i64 (q0_0), .int .i64 (0), .int .i64 (14)]) (by kernel_rfl) ent87 (c_spec_l00In hy23) ?_
  rintro _ w24 ⟨rfl, hc25⟩
  replace F0_1 := F0_1.chg hc25 Dj.nil
  replace F0_2 := F0_2.chg hc25 Dj.nil
  replace F0_3 := F0_3.chg hc25 Dj.nil
  replace F0 := F0.chg hc25 notNil
  replace hB := hB.inS hc25 inNil
  have hSz := hS
  replace hS := hS.inS hc25 inNil
  replace hZ := Nat.le_trans hZ hc25.size
  refine ⟨.bool (y22), rfl, ?_⟩
  refine wS_end (by kernel_rfl) ?_
  refine eX_KH hS ?_
  refine wH_take [5, 6] [6, 5, 4, 3, 2, 1, 0] [(10, .bool (!y22)), (9, .bool (!y22))] (by kernel_rfl) (qT (qT (qT qZ))) (by kernel_rfl) ?_
  refine wH_bool (!y22) (fun hb26 => ?_) (fun hb26 => ?_)
  · have hm := condT hb26 hm
    rewrite [hb26]
    refine wH_take [7, 8, 9, 10, 11, 12, 13, 14, 15] [15, 14, 13, 12, 11, 10, 9, 8, 7, 6, 5, 4, 3, 2, 1, 0] [(19, undef), (18, undef), (17, undef), (16, undef), (15, undef), (14, undef), (13, undef), (12, undef), (11, undef)] (by kernel_rfl) (qT (qT (qT qZ))) (by kernel_rfl) ?_
    refine wH_done (by kernel_rfl) ?_
    refine eX_tail ?_
    refine wS_pure 2 [(21, .bool (true)), (20, undef)] (by kernel_rfl) ?_
    refine wS_end (by rfl) ?_
    refine eX_then ?_
    refine cW_cond_t (by kernel_rfl) ?_
    refine cW_seq ?_
    refine cW_region ?_
    refine wS_pure 1 [(2, .bool (false))] (by kernel_rfl) ?_
    refine wS_end (by rfl) ?_
    refine eX_then ?_
    refine cW_ret ?_
    refine eX_then_ret ?_
    have hq : (some false : Option ((Bool))) = some _ := hm
    replace hq := someE hq
    subst hq
    refine eX_ret (vs := [.bool (false)]) [.tmp 2] (by rfl) ⟨by (show lkE _ _ _ = _); kernel_rfl, trivial⟩ ?_
    exact ⟨rfl, hB⟩
  · have hm := condF hb26 hm
    rewrite [hb26]
    refine wH_take [7, 8, 9] [9, 8, 7, 6, 5, 4, 3, 2, 1, 0] [(13, .pointer (some ⟨b0, 3, none⟩)), (12, .pointer (some ⟨b0, 0, none⟩)), (11, .pointer (some ⟨b0, 0, none⟩))] (by kernel_rfl) (qT (qT (qT qZ))) (by kernel_rfl) ?_
    refine wH_load1 (i := 10) (d := 14) (T := 25) (ad := ⟨b0, 3, none⟩) (v := .slice A0_3 (l0_3).length cap0_3) (by kernel_rfl) (qT (qT (qT qZ))) (by kernel_rfl) (by kernel_rfl) vt25 (fun W hW => (Z21.chg hW notNil).cell 3) ?_
    refine wH_take [11, 12, 13, 14] [14, 13, 12, 11, 10, 9, 8, 7, 6, 5, 4, 3, 2, 1, 0] [(18, .pointer (some ⟨b0, 0, none⟩)), (17, .pointer (some ⟨b0, 0, none⟩)), (16, .pointer (some ⟨b0, 0, none⟩)), (15, .int .i64 (((l0_3).length : Int)))] (by kernel_rfl) (qT (qT (qT qZ))) (by kernel_rfl) ?_
    refine wH_load1 (i := 15) (d := 19) (T := 2) (ad := ⟨b0, 0, none⟩) (v := .int .i64 (q0_0)) (by kernel_rfl) (qT (qT (qT qZ))) (by kernel_rfl) (by kernel_rfl) vt2 (fun W hW => (Z21.chg hW notNil).cell 0) ?_
    refine wH_done (by kernel_rfl) ?_
    refine eX_tail ?_
    refine wS_pure 2 [(21, .bool ((((l0_3).length : Int)) != q0_0)), (20, .bool ((((l0_3).length : Int)) != q0_0))] (by kernel_rfl) ?_
    refine wS_end (by rfl) ?_
    refine eX_then ?_
    refine cW_cond (t := (((l0_3).length : Int)) != q0_0) (by kernel_rfl) (fun hb27 => ?_) (fun hb27 => ?_)
    · have hm := condT hb27 hm
      refine cW_seq ?_
      refine cW_region ?_
      refine wS_pure 1 [(2, .bool (false))] (by kernel_rfl) ?_
      refine wS_end (by rfl) ?_
      refine eX_then ?_
      refine cW_ret ?_
      refine eX_then_ret ?_
      have hq : (some false : Option ((Bool))) = some _ := hm
      replace hq := someE hq
      subst hq
      refine eX_ret (vs := [.bool (false)]) [.tmp 2] (by rfl) ⟨by (show lkE _ _ _ = _); kernel_rfl, trivial⟩ ?_
      exact ⟨rfl, hB⟩
    · have hm := condF hb27 hm
      refine cW_skip ?_
      refine eX_then ?_
      refine cW_seq ?_
      refine cW_seq ?_
      refine cW_region ?_
      refine wS_pure 1 [(3, .int .i64 (0))] (by kernel_rfl) ?_
      refine wS_end (by rfl) ?_
      refine eX_then ?_
      obtain ⟨r68, hr69, hm⟩ := bindE hm
      have hm70 := hm
      refine cW_cut (fun a' w' => Sum.inl (()) = r68 ∧ Fr 60 [(0, .pointer (some ⟨b0, 0, none⟩))] a' ∧ SlR 1 encI w' fp0_1 A0_1 l0_1 ∧ SlR 1 encI w' fp0_2 A0_2 l0_2 ∧ Sl 1 encI w' fp0_3 A0_3 l0_3 ∧ Cl w' b0 27 [.int .i64 (q0_0), .slice A0_1 (l0_1).length cap0_1, .slice A0_2 (l0_2).length cap0_2, .slice A0_3 (l0_3).length cap0_3] ∧ Chg [] w0 w' ∧ w0.heap.size ≤ w'.heap.size) ?_ ?_
      · refine cW_block ?_
        refine cW_loop _ (fun (s71 : Int) a' w' => ∃ x62 : Int, x62 = s71 ∧ Fr 60 [(0, .pointer (some ⟨b0, 0, none⟩)), (3, .int .i64 (x62))] a' ∧ SlR 1 encI w' fp0_1 A0_1 l0_1 ∧ SlR 1 encI w' fp0_2 A0_2 l0_2 ∧ Sl 1 encI w' fp0_3 A0_3 l0_3 ∧ Cl w' b0 27 [.int .i64 (q0_0), .slice A0_1 (l0_1).length cap0_1, .slice A0_2 (l0_2).length cap0_2, .slice A0_3 (l0_3).length cap0_3] ∧ Chg [] w0 w' ∧ w0.heap.size ≤ w'.heap.size) hr69 (fun hst => ⟨0, rfl, Fr.of hst (by kernel_rfl), F0_1, F0_2, F0_3, F0, hB, hZ⟩) ?_
        rintro _ c72 a' w61 ⟨x62, rfl, hF63, F64, F65, F66, F67, hB, hZ⟩ hx73
        refine Fr.goOn hF63 (by kernel_rfl) ?_
        have hm := hx73
        unfold m_spec_l07Is_bimplWiring_s1 at hm
        refine cW_seq ?_
        refine cW_seq ?_
        refine cW_region ?_
        refine wS_pure 4 [(25, .pointer (some ⟨b0, 3, none⟩)), (24, .pointer (some ⟨b0, 0, none⟩)), (23, .pointer (some ⟨b0, 0, none⟩)), (22, .int .i64 (x62))] (by kernel_rfl) ?_
        refine wS_load1 (d := 26) (T := 25) (ad := ⟨b0, 3, none⟩) (v := .slice A0_3 (l0_3).length cap0_3) (by kernel_rfl) vt25 ((F67).cell 3) ?_
        refine wS_pure 2 [(28, .bool (decide (x62 < (((l0_3).length : Int))))), (27, .int .i64 (((l0_3).length : Int)))] (by kernel_rfl) ?_
        refine wS_end (by rfl) ?_
        refine eX_then ?_
        refine cW_cond (t := decide (x62 < (((l0_3).length : Int)))) (by kernel_rfl) (fun hb74 => ?_) (fun hb74 => ?_)
        · have hm := condT hb74 hm
          refine cW_skip ?_
          refine eX_then ?_
          refine cW_seq ?_
          refine cW_block ?_
          refine cW_seq ?_
          refine cW_region ?_
          refine wS_pure 3 [(33, .pointer (some ⟨b0, 3, none⟩)), (32, .pointer (some ⟨b0, 0, none⟩)), (31, .pointer (some ⟨b0, 0, none⟩))] (by kernel_rfl) ?_
          refine wS_load1 (d := 34) (T := 25) (ad := ⟨b0, 3, none⟩) (v := .slice A0_3 (l0_3).length cap0_3) (by kernel_rfl) vt25 ((F67).cell 3) ?_
          refine wS_pure 1 [(35, .int .i64 (x62))] (by kernel_rfl) ?_
          obtain ⟨x75, hx76, hm⟩ := bindE hm
          refine wS_idx (d := 36) (T := 25) (A := A0_3) (n := (l0_3).length) (cap := cap0_3) (kd := .i64) (m := x62) (by kernel_rfl) sl25 (F66.is hx76) ?_
          refine wS_load1 (d := 37) (T := 2) (ad := (elA A0_3 1 (x62) 0)) (v := .int .i64 (x75)) (by kernel_rfl) vt2 (Sl.cell F66 hx76 0 (by rfl)) ?_
          obtain ⟨y77, hy78, hm⟩ := bindE hm
          refine wS_calls (d := 38) (f := 87) (vs := [.int .i64 (x75), .int .i64 ((-1)), .int .i64 (1)]) (by kernel_rfl) ent87 (c_spec_l00In hy78) ?_
          rintro _ w79 ⟨rfl, hc80⟩
          replace F64 := F64.chg hc80 Dj.nil
          replace F65 := F65.chg hc80 Dj.nil
          replace F66 := F66.chg hc80 Dj.nil
          replace F67 := F67.chg hc80 notNil
          replace hB := hB.inS hc80 inNil
          replace hZ := Nat.le_trans hZ hc80.size
          refine ⟨.bool (y77), rfl, ?_⟩
          refine wS_pure 1 [(39, .bool (!y77))] (by kernel_rfl) ?_
          refine wS_end (by rfl) ?_
          refine eX_then ?_
          refine cW_cond (t := !y77) (by kernel_rfl) (fun hb81 => ?_) (fun hb81 => ?_)
          · have hm := condT hb81 hm
            refine cW_seq ?_
            refine cW_region ?_
            refine wS_pure 1 [(2, .bool (false))] (by kernel_rfl) ?_
            refine wS_end (by rfl) ?_
            refine eX_then ?_
            refine cW_ret ?_
            refine eX_block_ret ?_
            refine eX_then_ret ?_
            have hq : (some (Ctl.out (Sum.inr false)) : Option (Ctl (Int) (Sum (Unit) ((Bool))))) = some _ := hm
            replace hq := someE hq
            subst hq
            refine eX_outR hx73 (fun hr => ?_)
            subst hr
            refine eX_block_ret ?_
            refine eX_then_ret ?_
            refine eX_then_ret ?_
            have hq : (some false : Option ((Bool))) = some _ := hm70
            replace hq := someE hq
            subst hq
            refine eX_ret (vs := [.bool (false)]) [.tmp 2] (by rfl) ⟨by (show lkE _ _ _ = _); kernel_rfl, trivial⟩ ?_
            exact ⟨rfl, hB⟩
          · have hm := condF hb81 hm
            refine cW_skip ?_
            refine eX_block ?_
            refine eX_then ?_
            refine cW_region ?_
            refine wS_pure 3 [(3, .int .i64 (wr (x62 + 1))), (30, .int .i64 (wr (x62 + 1))), (29, .int .i64 (x62))] (by kernel_rfl) ?_
            refine wS_end (by rfl) ?_
            have hq : (some (Ctl.next (wr (x62 + 1))) : Option (Ctl (Int) (Sum (Unit) ((Bool))))) = some _ := hm
            replace hq := someE hq
            subst hq
            exact eX_next hx73 (fun hst => ⟨wr (x62 + 1), rfl, Fr.of hst (by kernel_rfl), F64, F65, F66, F67, hB, hZ⟩)
        · have hm := condF hb74 hm
          refine cW_exit ?_
          refine eX_then_exit ?_
          have hq : (some (Ctl.out (Sum.inl (()))) : Option (Ctl (Int) (Sum (Unit) ((Bool))))) = some _ := hm
          replace hq := someE hq
          subst hq
          refine eX_outX hx73 (fun hr82 => ?_)
          replace hr82 := hr82.symm
          subst hr82
          refine eX_block_hit ?_
          exact eX_J (fun hst => ⟨rfl, Fr.of hst (by kernel_rfl), F64, F65, F66, F67, hB, hZ⟩)
      · rintro a' w55 ⟨hJ, hF56, F57, F58, F59, F60, hB, hZ⟩
        subst hJ
        refine Fr.goX hF56 (by kernel_rfl) ?_
        refine eX_then ?_
        refine cW_seq ?_
        refine cW_drawnTail [] 18 (by kernel_rfl) (by kernel_rfl) (fun w98 hc99 => ?_)
        replace F57 := F57.chg hc99 Dj.nil
        replace F58 := F58.chg hc99 Dj.nil
        replace F59 := F59.chg hc99 Dj.nil
        replace F60 := F60.chg hc99 notNil
        replace hB := hB.inS hc99 inNil
        replace hZ := Nat.le_trans hZ hc99.size
        have hS := Chg.refl [] w98
        have Z100 := F57
        have Z101 := F58
        have Z102 := F59
        have Z103 := F60
        refine wH_take [0, 1, 2] [2, 1, 0] [(42, .pointer (some ⟨b0, 1, none⟩)), (41, .pointer (some ⟨b0, 0, none⟩)), (40, .pointer (some ⟨b0, 0, none⟩))] (by kernel_rfl) (qT (qT qZ)) (by kernel_rfl) ?_
        refine wH_load1 (i := 3) (d := 43) (T := 24) (ad := ⟨b0, 1, none⟩) (v := .slice A0_1 (l0_1).length cap0_1) (by kernel_rfl) (qT (qT qZ)) (by kernel_rfl) (by kernel_rfl) vt24 (fun W hW => (Z103.chg hW notNil).cell 1) ?_
        refine wH_take [4, 5, 6] [6, 5, 4, 3, 2, 1, 0] [(46, .pointer (some ⟨b0, 0, none⟩)), (45, .pointer (some ⟨b0, 0, none⟩)), (44, .pointer (some ⟨b0, 0, none⟩))] (by kernel_rfl) (qT (qT qZ)) (by kernel_rfl) ?_
        refine wH_load1 (i := 7) (d := 47) (T := 2) (ad := ⟨b0, 0, none⟩) (v := .int .i64 (q0_0)) (by kernel_rfl) (qT (qT qZ)) (by kernel_rfl) (by kernel_rfl) vt2 (fun W hW => (Z103.chg hW notNil).cell 0) ?_
        refine wH_all [8] (by rfl) (by kernel_rfl) (by simp) ⟨⟨by kernel_rfl, ?_⟩, trivial⟩
        obtain ⟨y104, hy105, hm⟩ := bindE hm
        refine wS_calls (d := 48) (f := 103) (vs := [.slice A0_1 (l0_1).length cap0_1, .int .i64 (q0_0), .int .i64 (2)]) (by kernel_rfl) ent103 (c_spec_l07Lists hy105 F57) ?_
        rintro _ w106 ⟨rfl, hc107⟩
        replace F57 := F57.chg hc107 Dj.nil
        replace F58 := F58.chg hc107 Dj.nil
        replace F59 := F59.chg hc107 Dj.nil
        replace F60 := F60.chg hc107 notNil
        replace hB := hB.inS hc107 inNil
        have hSz := hS
        replace hS := hS.inS hc107 inNil
        replace hZ := Nat.le_trans hZ hc107.size
        refine ⟨.bool (y104), rfl, ?_⟩
        refine wS_end (by kernel_rfl) ?_
        refine eX_KH hS ?_
        refine wH_take [9] [9, 8, 7, 6, 5, 4, 3, 2, 1, 0] [(49, .bool (y104))] (by kernel_rfl) (qT (qT qZ)) (by kernel_rfl) ?_
        refine wH_bool y104 (fun hb108 => ?_) (fun hb108 => ?_)
        · have hm := condT hb108 hm
          rewrite [hb108]
          refine wH_take [10, 11, 12] [12, 11, 10, 9, 8, 7, 6, 5, 4, 3, 2, 1, 0] [(52, .pointer (some ⟨b0, 2, none⟩)), (51, .pointer (some ⟨b0, 0, none⟩)), (50, .pointer (some ⟨b0, 0, none⟩))] (by kernel_rfl) (qT (qT qZ)) (by kernel_rfl) ?_
          refine wH_load1 (i := 13) (d := 53) (T := 24) (ad := ⟨b0, 2, none⟩) (v := .slice A0_2 (l0_2).length cap0_2) (by kernel_rfl) (qT (qT qZ)) (by kernel_rfl) (by kernel_rfl) vt24 (fun W hW => (Z103.chg hW notNil).cell 2) ?_
          refine wH_take [14, 15, 16] [16, 15, 14, 13, 12, 11, 10, 9, 8, 7, 6, 5, 4, 3, 2, 1, 0] [(56, .pointer (some ⟨b0, 0, none⟩)), (55, .pointer (some ⟨b0, 0, none⟩)), (54, .pointer (some ⟨b0, 0, none⟩))] (by kernel_rfl) (qT (qT qZ)) (by kernel_rfl) ?_
          refine wH_load1 (i := 17) (d := 57) (T := 2) (ad := ⟨b0, 0, none⟩) (v := .int .i64 (q0_0)) (by kernel_rfl) (qT (qT qZ)) (by kernel_rfl) (by kernel_rfl) vt2 (fun W hW => (Z103.chg hW notNil).cell 0) ?_
          refine wH_done (by kernel_rfl) ?_
          refine eX_tail ?_
          obtain ⟨y109, hy110, hm⟩ := bindE hm
          refine wS_calls (d := 58) (f := 103) (vs := [.slice A0_2 (l0_2).length cap0_2, .int .i64 (q0_0), .int .i64 (3)]) (by kernel_rfl) ent103 (c_spec_l07Lists hy110 F58) ?_
          rintro _ w111 ⟨rfl, hc112⟩
          replace F57 := F57.chg hc112 Dj.nil
          replace F58 := F58.chg hc112 Dj.nil
          replace F59 := F59.chg hc112 Dj.nil
          replace F60 := F60.chg hc112 notNil
          replace hB := hB.inS hc112 inNil
          replace hZ := Nat.le_trans hZ hc112.size
          refine ⟨.bool (y109), rfl, ?_⟩
          refine wS_pure 2 [(2, .bool (y109)), (59, .bool (y109))] (by kernel_rfl) ?_
          refine wS_end (by rfl) ?_
          refine eX_then ?_
          refine cW_ret ?_
          have hq : (some y109 : Option ((Bool))) = some _ := hm
          replace hq := someE hq
          subst hq
          refine eX_ret (vs := [.bool (y109)]) [.tmp 2] (by rfl) ⟨by (show lkE _ _ _ = _); kernel_rfl, trivial⟩ ?_
          exact ⟨rfl, hB⟩
        · have hm := condF hb108 hm
          rewrite [hb108]
          refine wH_take [10, 11, 12, 13, 14, 15, 16, 17] [17, 16, 15, 14, 13, 12, 11, 10, 9, 8, 7, 6, 5, 4, 3, 2, 1, 0] [(57, undef), (56, undef), (55, undef), (54, undef), (53, undef), (52, undef), (51, undef), (50, undef)] (by kernel_rfl) (qT (qT qZ)) (by kernel_rfl) ?_
          refine wH_done (by kernel_rfl) ?_
          refine eX_tail ?_
          refine wS_pure 3 [(2, .bool (false)), (59, .bool (false)), (58, undef)] (by kernel_rfl) ?_
          refine wS_end (by rfl) ?_
          refine eX_then ?_
          refine cW_ret ?_
          have hq : (some false : Option ((Bool))) = some _ := hm
          replace hq := someE hq
          subst hq
          refine eX_ret (vs := [.bool (false)]) [.tmp 2] (by rfl) ⟨by (show lkE _ _ _ = _); kernel_rfl, trivial⟩ ?_
          exact ⟨rfl, hB⟩

end Go.Proofs.Ytngnljnfbfgfeaa
