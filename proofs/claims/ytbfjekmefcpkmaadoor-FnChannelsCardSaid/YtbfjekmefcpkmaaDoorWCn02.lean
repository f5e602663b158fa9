/- Printed walks: (impl.order).first$1, (impl.order).first, math/bits.TrailingZeros, (impl.order).best, (*impl.Channel).columns, (*impl.Channel).nets, (*impl.Channel).above, (*impl.Channel).span, (*impl.Channel).netOrder, impl.FewestTracks$1. -/
import Derived.Test.YtbfjekmefcpkmaaDoorProg
import Derived.Test.YtbfjekmefcpkmaaDoorWCn01
set_option linter.unusedSimpArgs false
set_option linter.unusedVariables false
namespace Go.Proofs.YtbfjekmefcpkmaaDoor
open Go.RowKit
attribute [local irreducible] wS cW eX wH

theorem ent39 : Ent Tryd.prog 39 := fun _ => by kernel_rfl
theorem ent47 : Ent Tryd.prog 47 := fun _ => by kernel_rfl
theorem ent50 : Ent Tryd.prog 50 := fun _ => by kernel_rfl
theorem ent73 : Ent Tryd.prog 73 := fun _ => by kernel_rfl
theorem ent77 : Ent Tryd.prog 77 := fun _ => by kernel_rfl
theorem ent80 : Ent Tryd.prog 80 := fun _ => by kernel_rfl
theorem ent81 : Ent Tryd.prog 81 := fun _ => by kernel_rfl
theorem ent86 : Ent Tryd.prog 86 := fun _ => by kernel_rfl
theorem ent105 : Ent Tryd.prog 105 := fun _ => by kernel_rfl
theorem el54 : ElTy Tryd.prog 54 56 1 (.slice none 0 0) := ElTy.mk' Tryd.underlying54 (by kernel_rfl) (by rfl)
theorem mk69 : MK Tryd.prog 78 ekII okII := by
 refine mkDeep (m := 4) (n := 176) laidOut (by omega) (of_decide_eq_true (by kernel_rfl)) (by kernel_rfl) (by kernel_rfl) (by kernel_rfl) (by kernel_rfl) (fun k hk => ?_) injII
 obtain ⟨h0, h1⟩ := okII_t hk
 exact ⟨by kernel_rfl, _, (kl_array2 (cs := [ii k.1, ii k.2]) (c0 := [ii k.1]) (c1 := [ii k.2]) Tryd.underlying78 (by kernel_rfl) (by kernel_rfl) (by kernel_rfl) (kl_int Tryd.underlying2 h0) (kl_int Tryd.underlying2 h1))⟩
theorem mp69 : MpTy Tryd.prog 69 78 4 (vB false) := ⟨Tryd.underlying69, by kernel_rfl⟩
theorem sz105 : pureRun Tryd.prog (sizeOf 105) = some 1 := by kernel_rfl

set_option maxRecDepth 100000 in
theorem c_iOrderFirst_f_b {R : (Int) → (Int) → (Int) → (List Int) → (List Int) → (Int) → (List (Int × Int)) → (Int) → (List Int) → (List Int) → (List Int) → Option ((Int) × (List (Int × Int)))} (hR : ∀ {w0 : World} {p0 : Int} {p1 : Int} {q2_0_0_0 : Int} {b2_0_0 : Nat} {l2_0_1_0 : List Int} {A2_0_1_0 : Option Addr} {cap2_0_1_0 : Nat} {fp2_0_1_0 : List Nat} {l2_0_1_1 : List Int} {A2_0_1_1 : Option Addr} {cap2_0_1_1 : Nat} {fp2_0_1_1 : List Nat} {b2_0_1 : Nat} {q2_0_2_0 : Int} {b2_0_2 : Nat} {l2_0_3_0 : List (Int × Int)} {b2_0_3_0 : Nat} {b2_0_3 : Nat} {q2_0_4_0 : Int} {b2_0_4 : Nat} {b2 : Nat} {l3_0 : List Int} {A3_0 : Option Addr} {cap3_0 : Nat} {fp3_0 : List Nat} {b3 : Nat} {l4_0 : List Int} {A4_0 : Option Addr} {cap4_0 : Nat} {fp4_0 : List Nat} {l4_1 : List Int} {A4_1 : Option Addr} {cap4_1 : Nat} {fp4_1 : List Nat} {b4 : Nat} {b5 : Nat} {r : (Int) × (List (Int × Int))} (hm : R p0 p1 q2_0_0_0 l2_0_1_0 l2_0_1_1 q2_0_2_0 l2_0_3_0 q2_0_4_0 l3_0 l4_0 l4_1 = some r) (F2_0_0 : Cl w0 b2_0_0 3 [ii q2_0_0_0]) (F2_0_1_0 : S1 w0 fp2_0_1_0 A2_0_1_0 l2_0_1_0) (F2_0_1_1 : S1 w0 fp2_0_1_1 A2_0_1_1 l2_0_1_1) (F2_0_1 : Cl w0 b2_0_1 58 [.slice A2_0_1_0 l2_0_1_0.length cap2_0_1_0, .slice A2_0_1_1 l2_0_1_1.length cap2_0_1_1]) (F2_0_2 : Cl w0 b2_0_2 3 [ii q2_0_2_0]) (F2_0_3_0 : Mp okI kI kI w0 b2_0_3_0 l2_0_3_0) (F2_0_3 : Cl w0 b2_0_3 105 [.map (some b2_0_3_0)]) (F2_0_4 : Cl w0 b2_0_4 3 [ii q2_0_4_0]) (F2 : Cl w0 b2 108 [.func (.func 80) #[] #[pt b2_0_0, pt b2_0_1, pt b2_0_2, pt b2_0_3, pt b2_0_4]]) (F3_0 : S1 w0 fp3_0 A3_0 l3_0) (F3 : Cl w0 b3 56 [.slice A3_0 l3_0.length cap3_0]) (F4_0 : S1 w0 fp4_0 A4_0 l4_0) (F4_1 : S1 w0 fp4_1 A4_1 l4_1) (F4 : Cl w0 b4 58 [.slice A4_0 l4_0.length cap4_0, .slice A4_1 l4_1.length cap4_1]) (F5 : Cl w0 b5 127 [.func (.func 103) #[] #[pt b2, pt b3, pt b4, pt b5]]) (J2_0_0__2_0_1_0 : Dj [b2_0_0] fp2_0_1_0) (J2_0_0__2_0_1_1 : Dj [b2_0_0] fp2_0_1_1) (J2_0_0__2_0_1 : Dj [b2_0_0] [b2_0_1]) (J2_0_0__2_0_2 : Dj [b2_0_0] [b2_0_2]) (J2_0_0__2_0_3_0 : Dj [b2_0_0] [b2_0_3_0]) (J2_0_0__2_0_3 : Dj [b2_0_0] [b2_0_3]) (J2_0_0__2_0_4 : Dj [b2_0_0] [b2_0_4]) (J2_0_0__2 : Dj [b2_0_0] [b2]) (J2_0_0__3_0 : Dj [b2_0_0] fp3_0) (J2_0_0__3 : Dj [b2_0_0] [b3]) (J2_0_0__4_0 : Dj [b2_0_0] fp4_0) (J2_0_0__4_1 : Dj [b2_0_0] fp4_1) (J2_0_0__4 : Dj [b2_0_0] [b4]) (J2_0_0__5 : Dj [b2_0_0] [b5]) (J2_0_3_0__2_0_1_0 : Dj [b2_0_3_0] fp2_0_1_0) (J2_0_3_0__2_0_1_1 : Dj [b2_0_3_0] fp2_0_1_1) (J2_0_3_0__2_0_1 : Dj [b2_0_3_0] [b2_0_1]) (J2_0_3_0__2_0_2 : Dj [b2_0_3_0] [b2_0_2]) (J2_0_3_0__2_0_3 : Dj [b2_0_3_0] [b2_0_3]) (J2_0_3_0__2_0_4 : Dj [b2_0_3_0] [b2_0_4]) (J2_0_3_0__2 : Dj [b2_0_3_0] [b2]) (J2_0_3_0__3_0 : Dj [b2_0_3_0] fp3_0) (J2_0_3_0__3 : Dj [b2_0_3_0] [b3]) (J2_0_3_0__4_0 : Dj [b2_0_3_0] fp4_0) (J2_0_3_0__4_1 : Dj [b2_0_3_0] fp4_1) (J2_0_3_0__4 : Dj [b2_0_3_0] [b4]) (J2_0_3_0__5 : Dj [b2_0_3_0] [b5]), Calls Tryd.prog 103 #[ii p0, ii p1, pt b2, pt b3, pt b4, pt b5] w0 fun e w' => e = .returned (.tuple #[]) ∧ Cl w' b2_0_0 3 [ii r.1] ∧ Mp okI kI kI w' b2_0_3_0 r.2 ∧ Chg ([b2_0_0] ++ ([b2_0_3_0] ++ [])) w0 w') {w0 : World} {p0 : Int} {p1 : Int} {q2_0_0_0 : Int} {b2_0_0 : Nat} {l2_0_1_0 : List Int} {A2_0_1_0 : Option Addr} {cap2_0_1_0 : Nat} {fp2_0_1_0 : List Nat} {l2_0_1_1 : List Int} {A2_0_1_1 : Option Addr} {cap2_0_1_1 : Nat} {fp2_0_1_1 : List Nat} {b2_0_1 : Nat} {q2_0_2_0 : Int} {b2_0_2 : Nat} {l2_0_3_0 : List (Int × Int)} {b2_0_3_0 : Nat} {b2_0_3 : Nat} {q2_0_4_0 : Int} {b2_0_4 : Nat} {b2 : Nat} {l3_0 : List Int} {A3_0 : Option Addr} {cap3_0 : Nat} {fp3_0 : List Nat} {b3 : Nat} {l4_0 : List Int} {A4_0 : Option Addr} {cap4_0 : Nat} {fp4_0 : List Nat} {l4_1 : List Int} {A4_1 : Option Addr} {cap4_1 : Nat} {fp4_1 : List Nat} {b4 : Nat} {b5 : Nat} {r : (Int) × (List (Int × Int))} (hm : m_iOrderFirst_f_b R p0 p1 q2_0_0_0 l2_0_1_0 l2_0_1_1 q2_0_2_0 l2_0_3_0 q2_0_4_0 l3_0 l4_0 l4_1 = some r) (F2_0_0 : Cl w0 b2_0_0 3 [ii q2_0_0_0]) (F2_0_1_0 : S1 w0 fp2_0_1_0 A2_0_1_0 l2_0_1_0) (F2_0_1_1 : S1 w0 fp2_0_1_1 A2_0_1_1 l2_0_1_1) (F2_0_1 : Cl w0 b2_0_1 58 [.slice A2_0_1_0 l2_0_1_0.length cap2_0_1_0, .slice A2_0_1_1 l2_0_1_1.length cap2_0_1_1]) (F2_0_2 : Cl w0 b2_0_2 3 [ii q2_0_2_0]) (F2_0_3_0 : Mp okI kI kI w0 b2_0_3_0 l2_0_3_0) (F2_0_3 : Cl w0 b2_0_3 105 [.map (some b2_0_3_0)]) (F2_0_4 : Cl w0 b2_0_4 3 [ii q2_0_4_0]) (F2 : Cl w0 b2 108 [.func (.func 80) #[] #[pt b2_0_0, pt b2_0_1, pt b2_0_2, pt b2_0_3, pt b2_0_4]]) (F3_0 : S1 w0 fp3_0 A3_0 l3_0) (F3 : Cl w0 b3 56 [.slice A3_0 l3_0.length cap3_0]) (F4_0 : S1 w0 fp4_0 A4_0 l4_0) (F4_1 : S1 w0 fp4_1 A4_1 l4_1) (F4 : Cl w0 b4 58 [.slice A4_0 l4_0.length cap4_0, .slice A4_1 l4_1.length cap4_1]) (F5 : Cl w0 b5 127 [.func (.func 103) #[] #[pt b2, pt b3, pt b4, pt b5]]) (J2_0_0__2_0_1_0 : Dj [b2_0_0] fp2_0_1_0) (J2_0_0__2_0_1_1 : Dj [b2_0_0] fp2_0_1_1) (J2_0_0__2_0_1 : Dj [b2_0_0] [b2_0_1]) (J2_0_0__2_0_2 : Dj [b2_0_0] [b2_0_2]) (J2_0_0__2_0_3_0 : Dj [b2_0_0] [b2_0_3_0]) (J2_0_0__2_0_3 : Dj [b2_0_0] [b2_0_3]) (J2_0_0__2_0_4 : Dj [b2_0_0] [b2_0_4]) (J2_0_0__2 : Dj [b2_0_0] [b2]) (J2_0_0__3_0 : Dj [b2_0_0] fp3_0) (J2_0_0__3 : Dj [b2_0_0] [b3]) (J2_0_0__4_0 : Dj [b2_0_0] fp4_0) (J2_0_0__4_1 : Dj [b2_0_0] fp4_1) (J2_0_0__4 : Dj [b2_0_0] [b4]) (J2_0_0__5 : Dj [b2_0_0] [b5]) (J2_0_3_0__2_0_1_0 : Dj [b2_0_3_0] fp2_0_1_0) (J2_0_3_0__2_0_1_1 : Dj [b2_0_3_0] fp2_0_1_1) (J2_0_3_0__2_0_1 : Dj [b2_0_3_0] [b2_0_1]) (J2_0_3_0__2_0_2 : Dj [b2_0_3_0] [b2_0_2]) (J2_0_3_0__2_0_3 : Dj [b2_0_3_0] [b2_0_3]) (J2_0_3_0__2_0_4 : Dj [b2_0_3_0] [b2_0_4]) (J2_0_3_0__2 : Dj [b2_0_3_0] [b2]) (J2_0_3_0__3_0 : Dj [b2_0_3_0] fp3_0) (J2_0_3_0__3 : Dj [b2_0_3_0] [b3]) (J2_0_3_0__4_0 : Dj [b2_0_3_0] fp4_0) (J2_0_3_0__4_1 : Dj [b2_0_3_0] fp4_1) (J2_0_3_0__4 : Dj [b2_0_3_0] [b4]) (J2_0_3_0__5 : Dj [b2_0_3_0] [b5]) :
  Calls Tryd.prog 103 #[ii p0, ii p1, pt b2, pt b3, pt b4, pt b5] w0 fun e w' => e = .returned (.tuple #[]) ∧ Cl w' b2_0_0 3 [ii r.1] ∧ Mp okI kI kI w' b2_0_3_0 r.2 ∧ Chg ([b2_0_0] ++ ([b2_0_3_0] ++ [])) w0 w' := by
 have L2_0_0 := lt1 F2_0_0.lt
 have L2_0_1_0 := F2_0_1_0.low
 have L2_0_1_1 := F2_0_1_1.low
 have L2_0_1 := lt1 F2_0_1.lt
 have L2_0_2 := lt1 F2_0_2.lt
 have L2_0_3_0 := F2_0_3_0.low
 have L2_0_3 := lt1 F2_0_3.lt
 have L2_0_4 := lt1 F2_0_4.lt
 have L2 := lt1 F2.lt
 have L3_0 := F3_0.low
 have L3 := lt1 F3.lt
 have L4_0 := F4_0.low
 have L4_1 := F4_1.low
 have L4 := lt1 F4.lt
 have L5 := lt1 F5.lt
 have hB : Chg ([b2_0_0] ++ ([b2_0_3_0] ++ [])) w0 w0 := Chg.refl _ _
 unfold m_iOrderFirst_f_b at hm
 refine enterE (N := 43) Tryd.func103 (by rfl) Tryd.ntmps103 (by simp) [(0, ii p0), (1, ii p1), (2, pt b2), (3, pt b3), (4, pt b4), (5, pt b5)] (by rfl) (by kernel_rfl) (fun a => ?_)
 obtain ⟨s1, hs1, hm⟩ := bindE hm
 refine cW_cut (fun a' w' => ∃ x1 : Int, ∃ l1 : List (Int × Int), (x1, l1) = s1 ∧ Fr 43 [] a' ∧ Cl w' b2_0_0 3 [ii x1] ∧ Mp okI kI kI w' b2_0_3_0 l1 ∧ Chg ([b2_0_0] ++ ([b2_0_3_0] ++ [])) w0 w') ?_ ?_
 ·have hm := hs1
  refine cW_seq ?_
  obtain ⟨s2, hs2, hm⟩ := bindE hm
  refine cW_cut (fun a' w' => ∃ x2 : Int, ∃ l2 : List (Int × Int), (x2, l2) = s2 ∧ Fr 43 [(0, ii p0), (1, ii p1), (3, pt b3), (4, pt b4), (5, pt b5)] a' ∧ Cl w' b2_0_0 3 [ii x2] ∧ S1 w' fp2_0_1_0 A2_0_1_0 l2_0_1_0 ∧ S1 w' fp2_0_1_1 A2_0_1_1 l2_0_1_1 ∧ Cl w' b2_0_1 58 [.slice A2_0_1_0 l2_0_1_0.length cap2_0_1_0, .slice A2_0_1_1 l2_0_1_1.length cap2_0_1_1] ∧ Cl w' b2_0_2 3 [ii q2_0_2_0] ∧ Mp okI kI kI w' b2_0_3_0 l2 ∧ Cl w' b2_0_3 105 [.map (some b2_0_3_0)] ∧ Cl w' b2_0_4 3 [ii q2_0_4_0] ∧ Cl w' b2 108 [.func (.func 80) #[] #[pt b2_0_0, pt b2_0_1, pt b2_0_2, pt b2_0_3, pt b2_0_4]] ∧ S1 w' fp3_0 A3_0 l3_0 ∧ Cl w' b3 56 [.slice A3_0 l3_0.length cap3_0] ∧ S1 w' fp4_0 A4_0 l4_0 ∧ S1 w' fp4_1 A4_1 l4_1 ∧ Cl w' b4 58 [.slice A4_0 l4_0.length cap4_0, .slice A4_1 l4_1.length cap4_1] ∧ Cl w' b5 127 [.func (.func 103) #[] #[pt b2, pt b3, pt b4, pt b5]] ∧ Chg ([b2_0_0] ++ ([b2_0_3_0] ++ [])) w0 w') ?_ ?_
  ·have hm := hs2
   refine sR <| wP 2 [(10, .bool (p1 != 0)), (9, ii p1)] <| wN <| cC (p1 != 0) (fun hb1 => ?_) (fun hb1 => ?_)
   ·have hm := condT hb1 hm
    refine cW_region <| sL 11 ⟨b2, 0, none⟩ (.func (.func 80) #[] #[pt b2_0_0, pt b2_0_1, pt b2_0_2, pt b2_0_3, pt b2_0_4]) vt108 ((F2).cell 0) <| wP 1 [(12, ii p1)] ?_
    obtain ⟨y1, hy1, hm⟩ := bindE hm
    refine sC 13 [ii p1, pt b2_0_0, pt b2_0_1, pt b2_0_2, pt b2_0_3, pt b2_0_4] ent80 (c_iOrderBest1 hy1 F2_0_0 F2_0_1_0 F2_0_1_1 F2_0_1 F2_0_2 F2_0_3_0 F2_0_3 F2_0_4 J2_0_0__2_0_1_0 J2_0_0__2_0_1_1 J2_0_0__2_0_1 J2_0_0__2_0_2 J2_0_0__2_0_3_0 J2_0_0__2_0_3 J2_0_0__2_0_4 J2_0_3_0__2_0_1_0 J2_0_3_0__2_0_1_1 J2_0_3_0__2_0_1 J2_0_3_0__2_0_2 J2_0_3_0__2_0_3 J2_0_3_0__2_0_4) ?_
    rintro _ w1 ⟨rfl, F1, F6, hc1⟩
    replace F2_0_1_0 := F2_0_1_0.chg hc1 (Dj.app (J2_0_0__2_0_1_0).symm (Dj.app (J2_0_3_0__2_0_1_0).symm Dj.nil))
    replace F2_0_1_1 := F2_0_1_1.chg hc1 (Dj.app (J2_0_0__2_0_1_1).symm (Dj.app (J2_0_3_0__2_0_1_1).symm Dj.nil))
    replace F2_0_1 := F2_0_1.chg hc1 (dj1 (Dj.app (J2_0_0__2_0_1).symm (Dj.app (J2_0_3_0__2_0_1).symm Dj.nil)))
    replace F2_0_2 := F2_0_2.chg hc1 (dj1 (Dj.app (J2_0_0__2_0_2).symm (Dj.app (J2_0_3_0__2_0_2).symm Dj.nil)))
    replace F2_0_3 := F2_0_3.chg hc1 (dj1 (Dj.app (J2_0_0__2_0_3).symm (Dj.app (J2_0_3_0__2_0_3).symm Dj.nil)))
    replace F2_0_4 := F2_0_4.chg hc1 (dj1 (Dj.app (J2_0_0__2_0_4).symm (Dj.app (J2_0_3_0__2_0_4).symm Dj.nil)))
    replace F2 := F2.chg hc1 (dj1 (Dj.app (J2_0_0__2).symm (Dj.app (J2_0_3_0__2).symm Dj.nil)))
    replace F3_0 := F3_0.chg hc1 (Dj.app (J2_0_0__3_0).symm (Dj.app (J2_0_3_0__3_0).symm Dj.nil))
    replace F3 := F3.chg hc1 (dj1 (Dj.app (J2_0_0__3).symm (Dj.app (J2_0_3_0__3).symm Dj.nil)))
    replace F4_0 := F4_0.chg hc1 (Dj.app (J2_0_0__4_0).symm (Dj.app (J2_0_3_0__4_0).symm Dj.nil))
    replace F4_1 := F4_1.chg hc1 (Dj.app (J2_0_0__4_1).symm (Dj.app (J2_0_3_0__4_1).symm Dj.nil))
    replace F4 := F4.chg hc1 (dj1 (Dj.app (J2_0_0__4).symm (Dj.app (J2_0_3_0__4).symm Dj.nil)))
    replace F5 := F5.chg hc1 (dj1 (Dj.app (J2_0_0__5).symm (Dj.app (J2_0_3_0__5).symm Dj.nil)))
    replace hB := hB.inS hc1 (inApp (inMem (fun x hx => (List.mem_append_left _ hx))) (inApp (inMem (fun x hx => (List.mem_append_right _ (List.mem_append_left _ hx)))) inNil))
    clear F2_0_0
    clear F2_0_3_0
    refine ⟨.tuple #[], rfl, ?_⟩
    refine wE ?_
    obtain rfl := someE (x := ((y1.1, y1.2))) hm
    exact eX_J (fun hst => ⟨y1.1, y1.2, rfl, fO hst, F1, F2_0_1_0, F2_0_1_1, F2_0_1, F2_0_2, F6, F2_0_3, F2_0_4, F2, F3_0, F3, F4_0, F4_1, F4, F5, hB⟩)
   have hm := condF hb1 hm
   refine cW_skip ?_
   obtain rfl := someE (x := ((q2_0_0_0, l2_0_3_0))) hm
   exact eX_J (fun hst => ⟨q2_0_0_0, l2_0_3_0, rfl, fO hst, F2_0_0, F2_0_1_0, F2_0_1_1, F2_0_1, F2_0_2, F2_0_3_0, F2_0_3, F2_0_4, F2, F3_0, F3, F4_0, F4_1, F4, F5, hB⟩)
  rintro a' w2 ⟨x2, l2, hJ, hF1, F7, F8, F9, F10, F11, F12, F13, F14, F15, F16, F17, F18, F19, F20, F21, hB⟩
  subst hJ
  refine gX hF1 <| eX_then <| sR <| wP 2 [(8, ii p0), (14, ii p0)] <| wN ?_
  obtain ⟨r1, hr1, hm⟩ := bindE hm
  have hm1 := hm
  refine cW_cut (fun a' w' => ∃ x3 : Int, ∃ l3 : List (Int × Int), (x3, l3) = r1 ∧ Fr 43 [] a' ∧ Cl w' b2_0_0 3 [ii x3] ∧ Mp okI kI kI w' b2_0_3_0 l3 ∧ Chg ([b2_0_0] ++ ([b2_0_3_0] ++ [])) w0 w') ?_ ?_
  ·refine cW_block ?_
   refine cW_loop _ (fun (s3 : Int × Int × (List (Int × Int))) a' w' => ∃ x4 : Int, ∃ x5 : Int, ∃ l4 : List (Int × Int), (x4, x5, l4) = s3 ∧ Fr 43 [(1, ii p1), (3, pt b3), (4, pt b4), (5, pt b5), (8, ii x4)] a' ∧ Cl w' b2_0_0 3 [ii x5] ∧ S1 w' fp2_0_1_0 A2_0_1_0 l2_0_1_0 ∧ S1 w' fp2_0_1_1 A2_0_1_1 l2_0_1_1 ∧ Cl w' b2_0_1 58 [.slice A2_0_1_0 l2_0_1_0.length cap2_0_1_0, .slice A2_0_1_1 l2_0_1_1.length cap2_0_1_1] ∧ Cl w' b2_0_2 3 [ii q2_0_2_0] ∧ Mp okI kI kI w' b2_0_3_0 l4 ∧ Cl w' b2_0_3 105 [.map (some b2_0_3_0)] ∧ Cl w' b2_0_4 3 [ii q2_0_4_0] ∧ Cl w' b2 108 [.func (.func 80) #[] #[pt b2_0_0, pt b2_0_1, pt b2_0_2, pt b2_0_3, pt b2_0_4]] ∧ S1 w' fp3_0 A3_0 l3_0 ∧ Cl w' b3 56 [.slice A3_0 l3_0.length cap3_0] ∧ S1 w' fp4_0 A4_0 l4_0 ∧ S1 w' fp4_1 A4_1 l4_1 ∧ Cl w' b4 58 [.slice A4_0 l4_0.length cap4_0, .slice A4_1 l4_1.length cap4_1] ∧ Cl w' b5 127 [.func (.func 103) #[] #[pt b2, pt b3, pt b4, pt b5]] ∧ Chg ([b2_0_0] ++ ([b2_0_3_0] ++ [])) w0 w') hr1 (fun hst => ⟨p0, x2, l2, rfl, fO hst, F7, F8, F9, F10, F11, F12, F13, F14, F15, F16, F17, F18, F19, F20, F21, hB⟩) ?_
   rintro _ c1 a' w3 ⟨x4, x5, l4, rfl, hF2, F22, F23, F24, F25, F26, F27, F28, F29, F30, F31, F32, F33, F34, F35, F36, hB⟩ hx1
   refine gO hF2 ?_
   have hm := hx1
   unfold m_iOrderFirst_f_s2 at hm
   refine cW_seq <| sR <| wP 1 [(15, ii x4)] <| sL 16 ⟨b3, 0, none⟩ (.slice A3_0 l3_0.length cap3_0) vt56 ((F32).cell 0) <| wP 2 [(18, .bool (decide (x4 < ((l3_0.length : Int))))), (17, ii (l3_0.length : Int))] <| wN <| cC (decide (x4 < ((l3_0.length : Int)))) (fun hb2 => ?_) (fun hb2 => ?_)
   ·have hm := condT hb2 hm
    refine cW_skip <| eX_then <| cW_seq <| cW_block ?_
    obtain ⟨s4, hs3, hm⟩ := bindE hm
    refine cW_cut (fun a' w' => ∃ x6 : Int, ∃ l5 : List (Int × Int), (x6, l5) = s4 ∧ Fr 43 [(1, ii p1), (3, pt b3), (4, pt b4), (5, pt b5), (8, ii x4)] a' ∧ Cl w' b2_0_0 3 [ii x6] ∧ S1 w' fp2_0_1_0 A2_0_1_0 l2_0_1_0 ∧ S1 w' fp2_0_1_1 A2_0_1_1 l2_0_1_1 ∧ Cl w' b2_0_1 58 [.slice A2_0_1_0 l2_0_1_0.length cap2_0_1_0, .slice A2_0_1_1 l2_0_1_1.length cap2_0_1_1] ∧ Cl w' b2_0_2 3 [ii q2_0_2_0] ∧ Mp okI kI kI w' b2_0_3_0 l5 ∧ Cl w' b2_0_3 105 [.map (some b2_0_3_0)] ∧ Cl w' b2_0_4 3 [ii q2_0_4_0] ∧ Cl w' b2 108 [.func (.func 80) #[] #[pt b2_0_0, pt b2_0_1, pt b2_0_2, pt b2_0_3, pt b2_0_4]] ∧ S1 w' fp3_0 A3_0 l3_0 ∧ Cl w' b3 56 [.slice A3_0 l3_0.length cap3_0] ∧ S1 w' fp4_0 A4_0 l4_0 ∧ S1 w' fp4_1 A4_1 l4_1 ∧ Cl w' b4 58 [.slice A4_0 l4_0.length cap4_0, .slice A4_1 l4_1.length cap4_1] ∧ Cl w' b5 127 [.func (.func 103) #[] #[pt b2, pt b3, pt b4, pt b5]] ∧ Chg ([b2_0_0] ++ ([b2_0_3_0] ++ [])) w0 w') ?_ ?_
    ·have hm := hs3
     refine cW_seq <| cW_drawnTail [] 9 (by kernel_rfl) (by kernel_rfl) (fun w4 hc2 => ?_)
     replace F22 := F22.c hc2
     replace F23 := F23.c hc2
     replace F24 := F24.c hc2
     replace F25 := F25.c hc2
     replace F26 := F26.c hc2
     replace F27 := F27.c hc2
     replace F28 := F28.c hc2
     replace F29 := F29.c hc2
     replace F30 := F30.c hc2
     replace F31 := F31.c hc2
     replace F32 := F32.c hc2
     replace F33 := F33.c hc2
     replace F34 := F34.c hc2
     replace F35 := F35.c hc2
     replace F36 := F36.c hc2
     replace hB := hB.q hc2
     have hS := Chg.refl [] w4
     have Z1 := F22
     have Z2 := F23
     have Z3 := F24
     have Z4 := F25
     have Z5 := F26
     have Z6 := F27
     have Z7 := F28
     have Z8 := F29
     have Z9 := F30
     have Z10 := F31
     have Z11 := F32
     have Z12 := F33
     have Z13 := F34
     have Z14 := F35
     have Z15 := F36
     refine hT [0] [(21, pt b4)] <| hL 1 22 ⟨b4, 0, none⟩ (.slice A4_0 l4_0.length cap4_0) vt56 (fun W hW => (Z14.c hW).cell 0) ?_
     refine hL 2 23 ⟨b3, 0, none⟩ (.slice A3_0 l3_0.length cap3_0) vt56 (fun W hW => (Z11.c hW).cell 0) ?_
     refine hT [3] [(24, ii x4)] ?_
     obtain ⟨x7, hx2, hm⟩ := bindE hm
     refine hI 4 25 A3_0 l3_0.length cap3_0 .i64 x4 sl56 (F31.is hx2) <| hL 5 26 (elA A3_0 1 (x4) 0) (ii x7) vt3 (fun W hW => Sl.cell (Z10.c hW) hx2 0 (by rfl)) ?_
     obtain ⟨x8, hx3, hm⟩ := bindE hm
     refine hI 6 27 A4_0 l4_0.length cap4_0 .i64 x7 sl56 (F33.is hx3) <| hL 7 28 (elA A4_0 1 (x7) 0) (ii x8) vt3 (fun W hW => Sl.cell (Z12.c hW) hx3 0 (by rfl)) ?_
     refine hT [8] [(29, ii p1)] <| wD <| eX_tail <| wP 2 [(31, .bool ((andI x8 p1) == 0)), (30, ii (andI x8 p1))] <| wN <| cC ((andI x8 p1) == 0) (fun hb3 => ?_) (fun hb3 => ?_)
     ·have hm := condT hb3 hm
      refine cW_drawnTail [] 10 (by kernel_rfl) (by kernel_rfl) (fun w5 hc3 => ?_)
      replace F22 := F22.c hc3
      replace F23 := F23.c hc3
      replace F24 := F24.c hc3
      replace F25 := F25.c hc3
      replace F26 := F26.c hc3
      replace F27 := F27.c hc3
      replace F28 := F28.c hc3
      replace F29 := F29.c hc3
      replace F30 := F30.c hc3
      replace F31 := F31.c hc3
      replace F32 := F32.c hc3
      replace F33 := F33.c hc3
      replace F34 := F34.c hc3
      replace F35 := F35.c hc3
      replace F36 := F36.c hc3
      replace hB := hB.q hc3
      have hS := Chg.refl [] w5
      have Z16 := F22
      have Z17 := F23
      have Z18 := F24
      have Z19 := F25
      have Z20 := F26
      have Z21 := F27
      have Z22 := F28
      have Z23 := F29
      have Z24 := F30
      have Z25 := F31
      have Z26 := F32
      have Z27 := F33
      have Z28 := F34
      have Z29 := F35
      have Z30 := F36
      refine hL 0 32 ⟨b5, 0, none⟩ (.func (.func 103) #[] #[pt b2, pt b3, pt b4, pt b5]) vt127 (fun W hW => (Z30.c hW).cell 0) ?_
      refine hT [1, 2, 3] [(35, ii p1), (34, ii (wr (x4 + 1))), (33, ii x4)] <| hL 4 36 ⟨b3, 0, none⟩ (.slice A3_0 l3_0.length cap3_0) vt56 (fun W hW => (Z26.c hW).cell 0) ?_
      refine hT [5] [(37, ii x4)] ?_
      obtain ⟨x9, hx4, hm⟩ := bindE hm
      refine hI 6 38 A3_0 l3_0.length cap3_0 .i64 x4 sl56 (F31.is hx4) <| hL 7 39 (elA A3_0 1 (x4) 0) (ii x9) vt3 (fun W hW => Sl.cell (Z25.c hW) hx4 0 (by rfl)) ?_
      obtain ⟨u1, hu1, hm⟩ := bindE hm
      refine wH_shl (i := 8) (d := 40) (x := 1) (y := x9) (yk := .i64) (by kernel_rfl) (qT (qT (qB (qT (qL (qB (qT (qT qZ)))))))) (by kernel_rfl) (by kernel_rfl) (p0E hu1) <| hT [9] [(41, ii (orI p1 (shlI 1 x9)))] <| wD <| eX_tail ?_
      obtain ⟨y2, hy2, hm⟩ := bindE hm
      refine sC 42 [ii (wr (x4 + 1)), ii (orI p1 (shlI 1 x9)), pt b2, pt b3, pt b4, pt b5] ent103 (hR hy2 F22 F23 F24 F25 F26 F27 F28 F29 F30 F31 F32 F33 F34 F35 F36 J2_0_0__2_0_1_0 J2_0_0__2_0_1_1 J2_0_0__2_0_1 J2_0_0__2_0_2 J2_0_0__2_0_3_0 J2_0_0__2_0_3 J2_0_0__2_0_4 J2_0_0__2 J2_0_0__3_0 J2_0_0__3 J2_0_0__4_0 J2_0_0__4_1 J2_0_0__4 J2_0_0__5 J2_0_3_0__2_0_1_0 J2_0_3_0__2_0_1_1 J2_0_3_0__2_0_1 J2_0_3_0__2_0_2 J2_0_3_0__2_0_3 J2_0_3_0__2_0_4 J2_0_3_0__2 J2_0_3_0__3_0 J2_0_3_0__3 J2_0_3_0__4_0 J2_0_3_0__4_1 J2_0_3_0__4 J2_0_3_0__5) ?_
      rintro _ w6 ⟨rfl, F37, F38, hc4⟩
      replace F23 := F23.chg hc4 (Dj.app (J2_0_0__2_0_1_0).symm (Dj.app (J2_0_3_0__2_0_1_0).symm Dj.nil))
      replace F24 := F24.chg hc4 (Dj.app (J2_0_0__2_0_1_1).symm (Dj.app (J2_0_3_0__2_0_1_1).symm Dj.nil))
      replace F25 := F25.chg hc4 (dj1 (Dj.app (J2_0_0__2_0_1).symm (Dj.app (J2_0_3_0__2_0_1).symm Dj.nil)))
      replace F26 := F26.chg hc4 (dj1 (Dj.app (J2_0_0__2_0_2).symm (Dj.app (J2_0_3_0__2_0_2).symm Dj.nil)))
      replace F28 := F28.chg hc4 (dj1 (Dj.app (J2_0_0__2_0_3).symm (Dj.app (J2_0_3_0__2_0_3).symm Dj.nil)))
      replace F29 := F29.chg hc4 (dj1 (Dj.app (J2_0_0__2_0_4).symm (Dj.app (J2_0_3_0__2_0_4).symm Dj.nil)))
      replace F30 := F30.chg hc4 (dj1 (Dj.app (J2_0_0__2).symm (Dj.app (J2_0_3_0__2).symm Dj.nil)))
      replace F31 := F31.chg hc4 (Dj.app (J2_0_0__3_0).symm (Dj.app (J2_0_3_0__3_0).symm Dj.nil))
      replace F32 := F32.chg hc4 (dj1 (Dj.app (J2_0_0__3).symm (Dj.app (J2_0_3_0__3).symm Dj.nil)))
      replace F33 := F33.chg hc4 (Dj.app (J2_0_0__4_0).symm (Dj.app (J2_0_3_0__4_0).symm Dj.nil))
      replace F34 := F34.chg hc4 (Dj.app (J2_0_0__4_1).symm (Dj.app (J2_0_3_0__4_1).symm Dj.nil))
      replace F35 := F35.chg hc4 (dj1 (Dj.app (J2_0_0__4).symm (Dj.app (J2_0_3_0__4).symm Dj.nil)))
      replace F36 := F36.chg hc4 (dj1 (Dj.app (J2_0_0__5).symm (Dj.app (J2_0_3_0__5).symm Dj.nil)))
      replace hB := hB.inS hc4 (inApp (inMem (fun x hx => (List.mem_append_left _ hx))) (inApp (inMem (fun x hx => (List.mem_append_right _ (List.mem_append_left _ hx)))) inNil))
      clear F22
      clear F27
      refine ⟨.tuple #[], rfl, ?_⟩
      refine wE ?_
      obtain rfl := someE (x := ((y2.1, y2.2))) hm
      exact eX_J (fun hst => ⟨y2.1, y2.2, rfl, fO hst, F37, F23, F24, F25, F26, F38, F28, F29, F30, F31, F32, F33, F34, F35, F36, hB⟩)
     have hm := condF hb3 hm
     refine cW_skip ?_
     obtain rfl := someE (x := ((x5, l4))) hm
     exact eX_J (fun hst => ⟨x5, l4, rfl, fO hst, F22, F23, F24, F25, F26, F27, F28, F29, F30, F31, F32, F33, F34, F35, F36, hB⟩)
    rintro a' w7 ⟨x6, l5, hJ, hF3, F39, F40, F41, F42, F43, F44, F45, F46, F47, F48, F49, F50, F51, F52, F53, hB⟩
    subst hJ
    refine gX hF3 <| eX_block <| eX_then <| cW_region <| wP 3 [(8, ii (wr (x4 + 1))), (20, ii (wr (x4 + 1))), (19, ii x4)] <| wE ?_
    obtain rfl := someE (x := (Ctl.next ((wr (x4 + 1), x6, l5)))) hm
    exact eX_next hx1 (fun hst => ⟨wr (x4 + 1), x6, l5, rfl, fO hst, F39, F40, F41, F42, F43, F44, F45, F46, F47, F48, F49, F50, F51, F52, F53, hB⟩)
   have hm := condF hb2 hm
   refine cW_exit <| eX_then_exit ?_
   obtain rfl := someE (x := (Ctl.out ((x5, l4)))) hm
   refine eX_outX hx1 (fun hr2 => ?_)
   replace hr2 := hr2.symm
   subst hr2
   refine eX_block_hit ?_
   exact eX_J (fun hst => ⟨x5, l4, rfl, fO hst, F22, F27, hB⟩)
  rintro a' w8 ⟨x3, l3, hJ, hF4, F54, F55, hB⟩
  subst hJ
  refine gX hF4 ?_
  obtain rfl := someE (x := ((x3, l3))) hm
  exact eX_J (fun hst => ⟨x3, l3, rfl, fO hst, F54, F55, hB⟩)
 rintro a' w9 ⟨x1, l1, hJ, hF5, F56, F57, hB⟩
 subst hJ
 refine gX hF5 ?_
 obtain rfl := someE (x := ((x1, l1))) hm
 refine eX_fall (vs := []) [] (by rfl) trivial ?_
 exact ⟨rfl, F56, F57, hB⟩
set_option maxRecDepth 100000 in
theorem c_iOrderFirst_f (n : Nat) : ∀ {w0 p0 p1 q2_0_0_0 b2_0_0 l2_0_1_0 A2_0_1_0 cap2_0_1_0 fp2_0_1_0 l2_0_1_1 A2_0_1_1 cap2_0_1_1 fp2_0_1_1 b2_0_1 q2_0_2_0 b2_0_2} {l2_0_3_0 : List (Int × Int)} {b2_0_3_0 : Nat} {b2_0_3 : Nat} {q2_0_4_0 : Int} {b2_0_4 : Nat} {b2 : Nat} {l3_0 : List Int} {A3_0 : Option Addr} {cap3_0 : Nat} {fp3_0 : List Nat} {b3 : Nat} {l4_0 : List Int} {A4_0 : Option Addr} {cap4_0 : Nat} {fp4_0 : List Nat} {l4_1 : List Int} {A4_1 : Option Addr} {cap4_1 : Nat} {fp4_1 : List Nat} {b4 : Nat} {b5 : Nat} {r : (Int) × (List (Int × Int))} (hm : m_iOrderFirst_f n p0 p1 q2_0_0_0 l2_0_1_0 l2_0_1_1 q2_0_2_0 l2_0_3_0 q2_0_4_0 l3_0 l4_0 l4_1 = some r) (F2_0_0 : Cl w0 b2_0_0 3 [ii q2_0_0_0]) (F2_0_1_0 : S1 w0 fp2_0_1_0 A2_0_1_0 l2_0_1_0) (F2_0_1_1 : S1 w0 fp2_0_1_1 A2_0_1_1 l2_0_1_1) (F2_0_1 : Cl w0 b2_0_1 58 [.slice A2_0_1_0 l2_0_1_0.length cap2_0_1_0, .slice A2_0_1_1 l2_0_1_1.length cap2_0_1_1]) (F2_0_2 : Cl w0 b2_0_2 3 [ii q2_0_2_0]) (F2_0_3_0 : Mp okI kI kI w0 b2_0_3_0 l2_0_3_0) (F2_0_3 : Cl w0 b2_0_3 105 [.map (some b2_0_3_0)]) (F2_0_4 : Cl w0 b2_0_4 3 [ii q2_0_4_0]) (F2 : Cl w0 b2 108 [.func (.func 80) #[] #[pt b2_0_0, pt b2_0_1, pt b2_0_2, pt b2_0_3, pt b2_0_4]]) (F3_0 : S1 w0 fp3_0 A3_0 l3_0) (F3 : Cl w0 b3 56 [.slice A3_0 l3_0.length cap3_0]) (F4_0 : S1 w0 fp4_0 A4_0 l4_0) (F4_1 : S1 w0 fp4_1 A4_1 l4_1) (F4 : Cl w0 b4 58 [.slice A4_0 l4_0.length cap4_0, .slice A4_1 l4_1.length cap4_1]) (F5 : Cl w0 b5 127 [.func (.func 103) #[] #[pt b2, pt b3, pt b4, pt b5]]) (J2_0_0__2_0_1_0 : Dj [b2_0_0] fp2_0_1_0) (J2_0_0__2_0_1_1 : Dj [b2_0_0] fp2_0_1_1) (J2_0_0__2_0_1 : Dj [b2_0_0] [b2_0_1]) (J2_0_0__2_0_2 : Dj [b2_0_0] [b2_0_2]) (J2_0_0__2_0_3_0 : Dj [b2_0_0] [b2_0_3_0]) (J2_0_0__2_0_3 : Dj [b2_0_0] [b2_0_3]) (J2_0_0__2_0_4 : Dj [b2_0_0] [b2_0_4]) (J2_0_0__2 : Dj [b2_0_0] [b2]) (J2_0_0__3_0 : Dj [b2_0_0] fp3_0) (J2_0_0__3 : Dj [b2_0_0] [b3]) (J2_0_0__4_0 : Dj [b2_0_0] fp4_0) (J2_0_0__4_1 : Dj [b2_0_0] fp4_1) (J2_0_0__4 : Dj [b2_0_0] [b4]) (J2_0_0__5 : Dj [b2_0_0] [b5]) (J2_0_3_0__2_0_1_0 : Dj [b2_0_3_0] fp2_0_1_0) (J2_0_3_0__2_0_1_1 : Dj [b2_0_3_0] fp2_0_1_1) (J2_0_3_0__2_0_1 : Dj [b2_0_3_0] [b2_0_1]) (J2_0_3_0__2_0_2 : Dj [b2_0_3_0] [b2_0_2]) (J2_0_3_0__2_0_3 : Dj [b2_0_3_0] [b2_0_3]) (J2_0_3_0__2_0_4 : Dj [b2_0_3_0] [b2_0_4]) (J2_0_3_0__2 : Dj [b2_0_3_0] [b2]) (J2_0_3_0__3_0 : Dj [b2_0_3_0] fp3_0) (J2_0_3_0__3 : Dj [b2_0_3_0] [b3]) (J2_0_3_0__4_0 : Dj [b2_0_3_0] fp4_0) (J2_0_3_0__4_1 : Dj [b2_0_3_0] fp4_1) (J2_0_3_0__4 : Dj [b2_0_3_0] [b4]) (J2_0_3_0__5 : Dj [b2_0_3_0] [b5]), Calls Tryd.prog 103 #[ii p0, ii p1, pt b2, pt b3, pt b4, pt b5] w0 fun e w' => e = .returned (.tuple #[]) ∧ Cl w' b2_0_0 3 [ii r.1] ∧ Mp okI kI kI w' b2_0_3_0 r.2 ∧ Chg ([b2_0_0] ++ ([b2_0_3_0] ++ [])) w0 w' := by
 induction n with
 | zero => intro w0 p0 p1 q2_0_0_0 b2_0_0 l2_0_1_0 A2_0_1_0 cap2_0_1_0 fp2_0_1_0 l2_0_1_1 A2_0_1_1 cap2_0_1_1 fp2_0_1_1 b2_0_1 q2_0_2_0 b2_0_2 l2_0_3_0 b2_0_3_0 b2_0_3 q2_0_4_0 b2_0_4 b2 l3_0 A3_0 cap3_0 fp3_0 b3 l4_0 A4_0 cap4_0 fp4_0 l4_1 A4_1 cap4_1 fp4_1 b4 b5 r hm F2_0_0 F2_0_1_0 F2_0_1_1 F2_0_1 F2_0_2 F2_0_3_0 F2_0_3 F2_0_4 F2 F3_0 F3 F4_0 F4_1 F4 F5 J2_0_0__2_0_1_0 J2_0_0__2_0_1_1 J2_0_0__2_0_1 J2_0_0__2_0_2 J2_0_0__2_0_3_0 J2_0_0__2_0_3 J2_0_0__2_0_4 J2_0_0__2 J2_0_0__3_0 J2_0_0__3 J2_0_0__4_0 J2_0_0__4_1 J2_0_0__4 J2_0_0__5 J2_0_3_0__2_0_1_0 J2_0_3_0__2_0_1_1 J2_0_3_0__2_0_1 J2_0_3_0__2_0_2 J2_0_3_0__2_0_3 J2_0_3_0__2_0_4 J2_0_3_0__2 J2_0_3_0__3_0 J2_0_3_0__3 J2_0_3_0__4_0 J2_0_3_0__4_1 J2_0_3_0__4 J2_0_3_0__5; exact nomatch (show (none : Option ((Int) × (List (Int × Int)))) = some r from hm)
 | succ n ih => intro w0 p0 p1 q2_0_0_0 b2_0_0 l2_0_1_0 A2_0_1_0 cap2_0_1_0 fp2_0_1_0 l2_0_1_1 A2_0_1_1 cap2_0_1_1 fp2_0_1_1 b2_0_1 q2_0_2_0 b2_0_2 l2_0_3_0 b2_0_3_0 b2_0_3 q2_0_4_0 b2_0_4 b2 l3_0 A3_0 cap3_0 fp3_0 b3 l4_0 A4_0 cap4_0 fp4_0 l4_1 A4_1 cap4_1 fp4_1 b4 b5 r hm F2_0_0 F2_0_1_0 F2_0_1_1 F2_0_1 F2_0_2 F2_0_3_0 F2_0_3 F2_0_4 F2 F3_0 F3 F4_0 F4_1 F4 F5 J2_0_0__2_0_1_0 J2_0_0__2_0_1_1 J2_0_0__2_0_1 J2_0_0__2_0_2 J2_0_0__2_0_3_0 J2_0_0__2_0_3 J2_0_0__2_0_4 J2_0_0__2 J2_0_0__3_0 J2_0_0__3 J2_0_0__4_0 J2_0_0__4_1 J2_0_0__4 J2_0_0__5 J2_0_3_0__2_0_1_0 J2_0_3_0__2_0_1_1 J2_0_3_0__2_0_1 J2_0_3_0__2_0_2 J2_0_3_0__2_0_3 J2_0_3_0__2_0_4 J2_0_3_0__2 J2_0_3_0__3_0 J2_0_3_0__3 J2_0_3_0__4_0 J2_0_3_0__4_1 J2_0_3_0__4 J2_0_3_0__5; exact c_iOrderFirst_f_b ih hm F2_0_0 F2_0_1_0 F2_0_1_1 F2_0_1 F2_0_2 F2_0_3_0 F2_0_3 F2_0_4 F2 F3_0 F3 F4_0 F4_1 F4 F5 J2_0_0__2_0_1_0 J2_0_0__2_0_1_1 J2_0_0__2_0_1 J2_0_0__2_0_2 J2_0_0__2_0_3_0 J2_0_0__2_0_3 J2_0_0__2_0_4 J2_0_0__2 J2_0_0__3_0 J2_0_0__3 J2_0_0__4_0 J2_0_0__4_1 J2_0_0__4 J2_0_0__5 J2_0_3_0__2_0_1_0 J2_0_3_0__2_0_1_1 J2_0_3_0__2_0_1 J2_0_3_0__2_0_2 J2_0_3_0__2_0_3 J2_0_3_0__2_0_4 J2_0_3_0__2 J2_0_3_0__3_0 J2_0_3_0__3 J2_0_3_0__4_0 J2_0_3_0__4_1 J2_0_3_0__4 J2_0_3_0__5


set_option maxRecDepth 100000 in
theorem c_iOrderFirst2 {w0 l0_0 A0_0 cap0_0 fp0_0 l0_1 A0_1 cap0_1 fp0_1 p1 q2_0_0 b2_0 l2_1_0 A2_1_0 cap2_1_0 fp2_1_0 l2_1_1 A2_1_1 cap2_1_1 fp2_1_1 b2_1 q2_2_0 b2_2} {l2_3_0 : List (Int × Int)} {b2_3_0 : Nat} {b2_3 : Nat} {q2_4_0 : Int} {b2_4 : Nat} {r : (Int) × (List (Int × Int))} (hm : m_iOrderFirst2 l0_0 l0_1 p1 q2_0_0 l2_1_0 l2_1_1 q2_2_0 l2_3_0 q2_4_0 = some r) (F0_0 : S1 w0 fp0_0 A0_0 l0_0) (F0_1 : S1 w0 fp0_1 A0_1 l0_1) (F2_0 : Cl w0 b2_0 3 [ii q2_0_0]) (F2_1_0 : S1 w0 fp2_1_0 A2_1_0 l2_1_0) (F2_1_1 : S1 w0 fp2_1_1 A2_1_1 l2_1_1) (F2_1 : Cl w0 b2_1 58 [.slice A2_1_0 l2_1_0.length cap2_1_0, .slice A2_1_1 l2_1_1.length cap2_1_1]) (F2_2 : Cl w0 b2_2 3 [ii q2_2_0]) (F2_3_0 : Mp okI kI kI w0 b2_3_0 l2_3_0) (F2_3 : Cl w0 b2_3 105 [.map (some b2_3_0)]) (F2_4 : Cl w0 b2_4 3 [ii q2_4_0]) (J2_0__0_0 : Dj [b2_0] fp0_0) (J2_0__0_1 : Dj [b2_0] fp0_1) (J2_0__2_1_0 : Dj [b2_0] fp2_1_0) (J2_0__2_1_1 : Dj [b2_0] fp2_1_1) (J2_0__2_1 : Dj [b2_0] [b2_1]) (J2_0__2_2 : Dj [b2_0] [b2_2]) (J2_0__2_3_0 : Dj [b2_0] [b2_3_0]) (J2_0__2_3 : Dj [b2_0] [b2_3]) (J2_0__2_4 : Dj [b2_0] [b2_4]) (J2_3_0__0_0 : Dj [b2_3_0] fp0_0) (J2_3_0__0_1 : Dj [b2_3_0] fp0_1) (J2_3_0__2_1_0 : Dj [b2_3_0] fp2_1_0) (J2_3_0__2_1_1 : Dj [b2_3_0] fp2_1_1) (J2_3_0__2_1 : Dj [b2_3_0] [b2_1]) (J2_3_0__2_2 : Dj [b2_3_0] [b2_2]) (J2_3_0__2_3 : Dj [b2_3_0] [b2_3]) (J2_3_0__2_4 : Dj [b2_3_0] [b2_4]) :
  Calls Tryd.prog 79 #[.agg #[.slice A0_0 l0_0.length cap0_0, .slice A0_1 l0_1.length cap0_1], ii p1, .func (.func 80) #[] #[pt b2_0, pt b2_1, pt b2_2, pt b2_3, pt b2_4]] w0 fun e w' => e = .returned (.tuple #[]) ∧ Cl w' b2_0 3 [ii r.1] ∧ Mp okI kI kI w' b2_3_0 r.2 ∧ Chg ([b2_0] ++ ([b2_3_0] ++ [])) w0 w' := by
 have L0_0 := F0_0.low
 have L0_1 := F0_1.low
 have L2_0 := lt1 F2_0.lt
 have L2_1_0 := F2_1_0.low
 have L2_1_1 := F2_1_1.low
 have L2_1 := lt1 F2_1.lt
 have L2_2 := lt1 F2_2.lt
 have L2_3_0 := F2_3_0.low
 have L2_3 := lt1 F2_3.lt
 have L2_4 := lt1 F2_4.lt
 have hB : Chg ([b2_0] ++ ([b2_3_0] ++ [])) w0 w0 := Chg.refl _ _
 unfold m_iOrderFirst2 at hm
 refine enterE (N := 39) Tryd.func79 (by rfl) Tryd.ntmps79 (by simp) [(0, .agg #[.slice A0_0 l0_0.length cap0_0, .slice A0_1 l0_1.length cap0_1]), (1, ii p1), (2, .func (.func 80) #[] #[pt b2_0, pt b2_1, pt b2_2, pt b2_3, pt b2_4])] (by rfl) (by kernel_rfl) (fun a => ?_)
 refine sR <| wS_box (d := 3) (T := 58) (x := .agg #[.slice A0_0 l0_0.length cap0_0, .slice A0_1 l0_1.length cap0_1]) (by kernel_rfl) ?_
 intro b1 w1 G1 F1 hc1
 replace F1 : Cl w1 b1 58 [.slice A0_0 l0_0.length cap0_0, .slice A0_1 l0_1.length cap0_1] := F1
 replace F0_0 := F0_0.c hc1
 replace F0_1 := F0_1.c hc1
 replace F2_0 := F2_0.c hc1
 replace F2_1_0 := F2_1_0.c hc1
 replace F2_1_1 := F2_1_1.c hc1
 replace F2_1 := F2_1.c hc1
 replace F2_2 := F2_2.c hc1
 replace F2_3_0 := F2_3_0.c hc1
 replace F2_3 := F2_3.c hc1
 replace F2_4 := F2_4.c hc1
 replace G1 := Nat.le_trans hB.size G1
 replace hB := hB.q hc1
 refine wS_box (d := 5) (T := 108) (x := .func (.func 80) #[] #[pt b2_0, pt b2_1, pt b2_2, pt b2_3, pt b2_4]) (by kernel_rfl) ?_
 intro b2 w2 G2 F2 hc2
 replace F2 : Cl w2 b2 108 [.func (.func 80) #[] #[pt b2_0, pt b2_1, pt b2_2, pt b2_3, pt b2_4]] := F2
 have D1 := Dj.of (lt1 F1.lt) (low1 G2)
 replace F0_0 := F0_0.c hc2
 replace F0_1 := F0_1.c hc2
 replace F2_0 := F2_0.c hc2
 replace F2_1_0 := F2_1_0.c hc2
 replace F2_1_1 := F2_1_1.c hc2
 replace F2_1 := F2_1.c hc2
 replace F2_2 := F2_2.c hc2
 replace F2_3_0 := F2_3_0.c hc2
 replace F2_3 := F2_3.c hc2
 replace F2_4 := F2_4.c hc2
 replace F1 := F1.c hc2
 replace G2 := Nat.le_trans hB.size G2
 replace hB := hB.q hc2
 refine wN <| sR <| wS_bs0 (α := Int) (enc := encI) (d := 9) (t := 56) (T := 3) (by kernel_rfl) el56 ?_
 intro b3 w3 G3 F3 hc3
 have D2 := Dj.of (lt1 F1.lt) (low1 G3)
 have D3 := Dj.of (lt1 F2.lt) (low1 G3)
 replace F0_0 := F0_0.c hc3
 replace F0_1 := F0_1.c hc3
 replace F2_0 := F2_0.c hc3
 replace F2_1_0 := F2_1_0.c hc3
 replace F2_1_1 := F2_1_1.c hc3
 replace F2_1 := F2_1.c hc3
 replace F2_2 := F2_2.c hc3
 replace F2_3_0 := F2_3_0.c hc3
 replace F2_3 := F2_3.c hc3
 replace F2_4 := F2_4.c hc3
 replace F1 := F1.c hc3
 replace F2 := F2.c hc3
 replace G3 := Nat.le_trans hB.size G3
 replace G3 := low1 G3
 replace hB := hB.q hc3
 refine wS_alloc (d := 6) (T := 56) (z := .slice none 0 0) (by kernel_rfl) (by kernel_rfl) ?_
 intro b4 w4 G4 F4 hc4
 replace F4 : Cl w4 b4 56 [.slice none 0 0] := F4
 have D4 := Dj.of (lt1 F1.lt) (low1 G4)
 have D5 := Dj.of (lt1 F2.lt) (low1 G4)
 have D6 := Dj.of F3.low (low1 G4)
 replace F0_0 := F0_0.c hc4
 replace F0_1 := F0_1.c hc4
 replace F2_0 := F2_0.c hc4
 replace F2_1_0 := F2_1_0.c hc4
 replace F2_1_1 := F2_1_1.c hc4
 replace F2_1 := F2_1.c hc4
 replace F2_2 := F2_2.c hc4
 replace F2_3_0 := F2_3_0.c hc4
 replace F2_3 := F2_3.c hc4
 replace F2_4 := F2_4.c hc4
 replace F1 := F1.c hc4
 replace F2 := F2.c hc4
 replace F3 := F3.c hc4
 replace G4 := Nat.le_trans hB.size G4
 replace hB := hB.q hc4
 refine wS_store (T := 56) (g := b4) (o := 0) (ad := ⟨b4, 0, none⟩) (v := .slice (ad b3) (([] : List Int)).length 0) (vs := [.slice (ad b3) (([] : List Int)).length 0]) (by kernel_rfl) (by rfl) sz56 (by rfl) (by rfl) F4 (bl rfl) ?_
 intro w5 F5 hc5
 replace F0_0 := F0_0.chg hc5 (Dj.of L0_0 (low1 G4))
 replace F0_1 := F0_1.chg hc5 (Dj.of L0_1 (low1 G4))
 replace F2_0 := F2_0.chg hc5 (dj1 (Dj.of L2_0 (low1 G4)))
 replace F2_1_0 := F2_1_0.chg hc5 (Dj.of L2_1_0 (low1 G4))
 replace F2_1_1 := F2_1_1.chg hc5 (Dj.of L2_1_1 (low1 G4))
 replace F2_1 := F2_1.chg hc5 (dj1 (Dj.of L2_1 (low1 G4)))
 replace F2_2 := F2_2.chg hc5 (dj1 (Dj.of L2_2 (low1 G4)))
 replace F2_3_0 := F2_3_0.chg hc5 (Dj.of L2_3_0 (low1 G4))
 replace F2_3 := F2_3.chg hc5 (dj1 (Dj.of L2_3 (low1 G4)))
 replace F2_4 := F2_4.chg hc5 (dj1 (Dj.of L2_4 (low1 G4)))
 replace F1 := F1.chg hc5 (dj1 D4)
 replace F2 := F2.chg hc5 (dj1 D5)
 replace F3 := F3.chg hc5 D6
 replace hB := hB.inS hc5 (inLow (low1 G4))
 replace F5 : Cl w5 b4 56 [.slice (ad b3) (([] : List Int)).length 0] := F5
 clear F4
 refine wN <| cW_seq <| sR <| wP 1 [(10, pt b1)] <| sL 11 ⟨b1, 0, none⟩ (.slice A0_0 l0_0.length cap0_0) vt56 ((F1).cell 0) <| wP 2 [(13, ii 0), (12, ii (l0_0.length : Int))] <| wN ?_
 obtain ⟨r1, hr1, hm⟩ := bindE hm
 have hm1 := hm
 refine cW_cut (fun a' w' => ∃ l1 : List Int, ∃ A1 : Option Addr, ∃ cap1 : Nat, ∃ fp1 : List Nat, l1 = r1 ∧ Fr 39 [(3, pt b1), (5, pt b2), (6, pt b4)] a' ∧ S1 w' fp0_0 A0_0 l0_0 ∧ S1 w' fp0_1 A0_1 l0_1 ∧ Cl w' b2_0 3 [ii q2_0_0] ∧ S1 w' fp2_1_0 A2_1_0 l2_1_0 ∧ S1 w' fp2_1_1 A2_1_1 l2_1_1 ∧ Cl w' b2_1 58 [.slice A2_1_0 l2_1_0.length cap2_1_0, .slice A2_1_1 l2_1_1.length cap2_1_1] ∧ Cl w' b2_2 3 [ii q2_2_0] ∧ Mp okI kI kI w' b2_3_0 l2_3_0 ∧ Cl w' b2_3 105 [.map (some b2_3_0)] ∧ Cl w' b2_4 3 [ii q2_4_0] ∧ Cl w' b1 58 [.slice A0_0 l0_0.length cap0_0, .slice A0_1 l0_1.length cap0_1] ∧ Cl w' b2 108 [.func (.func 80) #[] #[pt b2_0, pt b2_1, pt b2_2, pt b2_3, pt b2_4]] ∧ Cl w' b4 56 [.slice A1 l1.length cap1] ∧ O1 3 w' fp1 A1 cap1 l1 ∧ (∀ x ∈ fp1, w0.heap.size ≤ x) ∧ Dj [b1] fp1 ∧ Dj [b2] fp1 ∧ Dj [b4] fp1 ∧ Chg ([b2_0] ++ ([b2_3_0] ++ [])) w0 w') ?_ ?_
 ·refine cW_block ?_
  refine cW_loop _ (fun (s1 : Int × (List Int)) a' w' => ∃ x1 : Int, ∃ l3 : List Int, ∃ A3 : Option Addr, ∃ cap3 : Nat, ∃ fp2 : List Nat, (x1, l3) = s1 ∧ Fr 39 [(1, ii p1), (3, pt b1), (5, pt b2), (6, pt b4), (12, ii (l0_0.length : Int)), (13, ii x1)] a' ∧ S1 w' fp0_0 A0_0 l0_0 ∧ S1 w' fp0_1 A0_1 l0_1 ∧ Cl w' b2_0 3 [ii q2_0_0] ∧ S1 w' fp2_1_0 A2_1_0 l2_1_0 ∧ S1 w' fp2_1_1 A2_1_1 l2_1_1 ∧ Cl w' b2_1 58 [.slice A2_1_0 l2_1_0.length cap2_1_0, .slice A2_1_1 l2_1_1.length cap2_1_1] ∧ Cl w' b2_2 3 [ii q2_2_0] ∧ Mp okI kI kI w' b2_3_0 l2_3_0 ∧ Cl w' b2_3 105 [.map (some b2_3_0)] ∧ Cl w' b2_4 3 [ii q2_4_0] ∧ Cl w' b1 58 [.slice A0_0 l0_0.length cap0_0, .slice A0_1 l0_1.length cap0_1] ∧ Cl w' b2 108 [.func (.func 80) #[] #[pt b2_0, pt b2_1, pt b2_2, pt b2_3, pt b2_4]] ∧ Cl w' b4 56 [.slice A3 l3.length cap3] ∧ O1 3 w' fp2 A3 cap3 l3 ∧ (∀ x ∈ fp2, w0.heap.size ≤ x) ∧ Dj [b1] fp2 ∧ Dj [b2] fp2 ∧ Dj [b4] fp2 ∧ Chg ([b2_0] ++ ([b2_3_0] ++ [])) w0 w') hr1 (fun hst => ⟨0, ([] : List Int), (ad b3), 0, [b3], rfl, fO hst, F0_0, F0_1, F2_0, F2_1_0, F2_1_1, F2_1, F2_2, F2_3_0, F2_3, F2_4, F1, F2, F5, F3, G3, D2, D3, (D6).symm, hB⟩) ?_
  rintro _ c1 a' w6 ⟨x1, l3, A3, cap3, fp2, rfl, hF1, F6, F7, F8, F9, F10, F11, F12, F13, F14, F15, F16, F17, F18, F19, G5, D7, D8, D9, hB⟩ hx1
  refine gO hF1 ?_
  have hm := hx1
  unfold m_iOrderFirst2_s1 at hm
  refine sR <| wP 1 [(14, .bool (decide (x1 < ((l0_0.length : Int)))))] <| wN <| cW_seq <| cC (decide (x1 < ((l0_0.length : Int)))) (fun hb1 => ?_) (fun hb1 => ?_)
  ·have hm := condT hb1 hm
   refine cW_skip <| eX_then <| cW_seq <| cW_block ?_
   obtain ⟨s2, hs1, hm⟩ := bindE hm
   refine cW_cut (fun a' w' => ∃ l4 : List Int, ∃ A4 : Option Addr, ∃ cap4 : Nat, ∃ fp3 : List Nat, l4 = s2 ∧ Fr 39 [(1, ii p1), (3, pt b1), (5, pt b2), (6, pt b4), (12, ii (l0_0.length : Int)), (13, ii x1)] a' ∧ S1 w' fp0_0 A0_0 l0_0 ∧ S1 w' fp0_1 A0_1 l0_1 ∧ Cl w' b2_0 3 [ii q2_0_0] ∧ S1 w' fp2_1_0 A2_1_0 l2_1_0 ∧ S1 w' fp2_1_1 A2_1_1 l2_1_1 ∧ Cl w' b2_1 58 [.slice A2_1_0 l2_1_0.length cap2_1_0, .slice A2_1_1 l2_1_1.length cap2_1_1] ∧ Cl w' b2_2 3 [ii q2_2_0] ∧ Mp okI kI kI w' b2_3_0 l2_3_0 ∧ Cl w' b2_3 105 [.map (some b2_3_0)] ∧ Cl w' b2_4 3 [ii q2_4_0] ∧ Cl w' b1 58 [.slice A0_0 l0_0.length cap0_0, .slice A0_1 l0_1.length cap0_1] ∧ Cl w' b2 108 [.func (.func 80) #[] #[pt b2_0, pt b2_1, pt b2_2, pt b2_3, pt b2_4]] ∧ Cl w' b4 56 [.slice A4 l4.length cap4] ∧ O1 3 w' fp3 A4 cap4 l4 ∧ (∀ x ∈ fp3, w0.heap.size ≤ x) ∧ Dj [b1] fp3 ∧ Dj [b2] fp3 ∧ Dj [b4] fp3 ∧ Chg ([b2_0] ++ ([b2_3_0] ++ [])) w0 w') ?_ ?_
   ·have hm := hs1
    refine sR <| wP 2 [(7, ii x1), (15, ii x1)] <| wN <| sR <| wP 2 [(17, ii x1), (16, ii p1)] ?_
    obtain ⟨u1, hu1, hm⟩ := bindE hm
    refine wS_shr (d := 18) (x := p1) (y := x1) (yk := .i64) (by kernel_rfl) (p0E hu1) <| wP 3 [(21, .bool ((andI (shrI p1 x1) 1) == 1)), (20, .bool ((andI (shrI p1 x1) 1) == 1)), (19, ii (andI (shrI p1 x1) 1))] <| wS_bool ((andI (shrI p1 x1) 1) == 1) (fun hb2 => ?_) (fun hb2 => ?_)
    ·have hm := condT hb2 hm
     rewrite [hb2]
     refine wP 1 [(22, .pointer (some ⟨b1, 1, none⟩))] <| sL 23 ⟨b1, 1, none⟩ (.slice A0_1 l0_1.length cap0_1) vt56 ((F16).cell 1) <| wP 1 [(24, ii x1)] ?_
     obtain ⟨x2, hx2, hm⟩ := bindE hm
     refine sI 25 A0_1 l0_1.length cap0_1 .i64 x1 sl56 (F7.is hx2) <| sL 26 (elA A0_1 1 (x1) 0) (ii x2) vt3 (Sl.cell F7 hx2 0 (by rfl)) <| wP 4 [(30, .bool ((andI x2 p1) == 0)), (29, .bool ((andI x2 p1) == 0)), (28, ii (andI x2 p1)), (27, ii p1)] <| wN <| cP [(1, ii p1), (3, pt b1), (5, pt b2), (6, pt b4), (7, ii x1), (12, ii (l0_0.length : Int)), (13, ii x1), (30, .bool ((andI x2 p1) == 0))] (fun a1 => ?_)
     refine cC ((andI x2 p1) == 0) (fun hb3 => ?_) (fun hb3 => ?_)
     ·have hm := condT hb3 hm
      refine cW_region <| sL 31 ⟨b4, 0, none⟩ (.slice A3 l3.length cap3) vt56 ((F18).cell 0) <| wP 1 [(32, ii x1)] <| wS_bs (enc := encI) ([x1] : List Int) [ii x1] (d := 33) (t := 56) (T := 3) (n := 1) (ps := [(0, ii x1)]) (by kernel_rfl) el56 encI_ok (by rfl) (by omega) (by omega) (by kernel_rfl) (by rfl) ?_
      intro b5 w7 G6 F20 hc6
      have D10 := Dj.of (lt1 F16.lt) (low1 G6)
      have D11 := Dj.of (lt1 F17.lt) (low1 G6)
      have D12 := Dj.of (lt1 F18.lt) (low1 G6)
      have D13 := Dj.of F19.low (low1 G6)
      replace F6 := F6.c hc6
      replace F7 := F7.c hc6
      replace F8 := F8.c hc6
      replace F9 := F9.c hc6
      replace F10 := F10.c hc6
      replace F11 := F11.c hc6
      replace F12 := F12.c hc6
      replace F13 := F13.c hc6
      replace F14 := F14.c hc6
      replace F15 := F15.c hc6
      replace F16 := F16.c hc6
      replace F17 := F17.c hc6
      replace F18 := F18.c hc6
      replace F19 := F19.c hc6
      replace G6 := Nat.le_trans hB.size G6
      replace G6 := low1 G6
      replace hB := hB.q hc6
      obtain ⟨_, hk1, hm⟩ := bindE hm
      replace hk1 := apE hk1
      refine wS_append (enc := encI) (l := (l3 : List Int)) (l2 := (([x1] : List Int) : List Int)) (d := 34) (t := 56) (T := 3) (A := A3) (A2 := (ad b5)) (cap := cap3) (cap2 := 1) (by kernel_rfl) el56 encI_ok F19 (F20.sl encI_ok) (by rfl) hk1 ?_
      intro w8 fp4 A5 cap5 F21 hc7 hp1
      have G7 := low_ap G5 hB.size hp1
      have D14 : Dj [b1] fp4 := Dj.ap D7 (lt1 F16.lt) hp1
      have D15 : Dj [b2] fp4 := Dj.ap D8 (lt1 F17.lt) hp1
      have D16 : Dj [b4] fp4 := Dj.ap D9 (lt1 F18.lt) hp1
      have D17 : Dj [b5] fp4 := Dj.ap (D13).symm F20.low hp1
      replace F6 := F6.chg hc7 (Dj.of L0_0 G5)
      replace F7 := F7.chg hc7 (Dj.of L0_1 G5)
      replace F8 := F8.chg hc7 (dj1 (Dj.of L2_0 G5))
      replace F9 := F9.chg hc7 (Dj.of L2_1_0 G5)
      replace F10 := F10.chg hc7 (Dj.of L2_1_1 G5)
      replace F11 := F11.chg hc7 (dj1 (Dj.of L2_1 G5))
      replace F12 := F12.chg hc7 (dj1 (Dj.of L2_2 G5))
      replace F13 := F13.chg hc7 (Dj.of L2_3_0 G5)
      replace F14 := F14.chg hc7 (dj1 (Dj.of L2_3 G5))
      replace F15 := F15.chg hc7 (dj1 (Dj.of L2_4 G5))
      replace F16 := F16.chg hc7 (dj1 D7)
      replace F17 := F17.chg hc7 (dj1 D8)
      replace F18 := F18.chg hc7 (dj1 D9)
      replace F20 := F20.chg hc7 (D13).symm
      replace hB := hB.inS hc7 (inLow G5)
      refine wS_store (T := 56) (g := b4) (o := 0) (ad := ⟨b4, 0, none⟩) (v := .slice A5 (l3 ++ (([x1] : List Int))).length cap5) (vs := [.slice A5 (l3 ++ (([x1] : List Int))).length cap5]) (by kernel_rfl) (by rfl) sz56 (by rfl) (by rfl) F18 (bl rfl) ?_
      intro w9 F22 hc8
      replace F6 := F6.chg hc8 (Dj.of L0_0 (low1 G4))
      replace F7 := F7.chg hc8 (Dj.of L0_1 (low1 G4))
      replace F8 := F8.chg hc8 (dj1 (Dj.of L2_0 (low1 G4)))
      replace F9 := F9.chg hc8 (Dj.of L2_1_0 (low1 G4))
      replace F10 := F10.chg hc8 (Dj.of L2_1_1 (low1 G4))
      replace F11 := F11.chg hc8 (dj1 (Dj.of L2_1 (low1 G4)))
      replace F12 := F12.chg hc8 (dj1 (Dj.of L2_2 (low1 G4)))
      replace F13 := F13.chg hc8 (Dj.of L2_3_0 (low1 G4))
      replace F14 := F14.chg hc8 (dj1 (Dj.of L2_3 (low1 G4)))
      replace F15 := F15.chg hc8 (dj1 (Dj.of L2_4 (low1 G4)))
      replace F16 := F16.chg hc8 (dj1 D4)
      replace F17 := F17.chg hc8 (dj1 D5)
      replace F20 := F20.chg hc8 (D12).symm
      replace F21 := F21.chg hc8 (D16).symm
      replace hB := hB.inS hc8 (inLow (low1 G4))
      replace F22 : Cl w9 b4 56 [.slice A5 (l3 ++ (([x1] : List Int))).length cap5] := F22
      clear F18
      refine wE ?_
      obtain rfl := someE (x := (l3 ++ (([x1] : List Int)))) hm
      exact eX_J (fun hst => ⟨l3 ++ (([x1] : List Int)), A5, cap5, fp4, rfl, fO hst, F6, F7, F8, F9, F10, F11, F12, F13, F14, F15, F16, F17, F22, F21, G7, D14, D15, D16, hB⟩)
     have hm := condF hb3 hm
     refine cW_skip ?_
     obtain rfl := someE (x := l3) hm
     exact eX_J (fun hst => ⟨l3, A3, cap3, fp2, rfl, fO hst, F6, F7, F8, F9, F10, F11, F12, F13, F14, F15, F16, F17, F18, F19, G5, D7, D8, D9, hB⟩)
    have hm := condF hb2 hm
    rewrite [hb2]
    refine wP 9 [(30, .bool (false)), (29, undef), (28, undef), (27, undef), (26, undef), (25, undef), (24, undef), (23, undef), (22, undef)] <| wN <| cP [(1, ii p1), (3, pt b1), (5, pt b2), (6, pt b4), (7, ii x1), (12, ii (l0_0.length : Int)), (13, ii x1), (30, .bool (false))] (fun a2 => ?_)
    refine cCf <| cW_skip ?_
    obtain rfl := someE (x := l3) hm
    exact eX_J (fun hst => ⟨l3, A3, cap3, fp2, rfl, fO hst, F6, F7, F8, F9, F10, F11, F12, F13, F14, F15, F16, F17, F18, F19, G5, D7, D8, D9, hB⟩)
   rintro a' w10 ⟨l4, A4, cap4, fp3, hJ, hF2, F23, F24, F25, F26, F27, F28, F29, F30, F31, F32, F33, F34, F35, F36, G8, D18, D19, D20, hB⟩
   subst hJ
   refine gX hF2 <| eX_block <| eX_then <| cW_region <| wP 2 [(13, ii (wr (x1 + 1))), (35, ii (wr (x1 + 1)))] <| wE ?_
   obtain rfl := someE (x := (Ctl.next ((wr (x1 + 1), l4)))) hm
   exact eX_next hx1 (fun hst => ⟨wr (x1 + 1), l4, A4, cap4, fp3, rfl, fO hst, F23, F24, F25, F26, F27, F28, F29, F30, F31, F32, F33, F34, F35, F36, G8, D18, D19, D20, hB⟩)
  have hm := condF hb1 hm
  refine cW_exit <| eX_then_exit ?_
  obtain rfl := someE (x := Ctl.out l3) hm
  refine eX_outX hx1 (fun hr2 => ?_)
  replace hr2 := hr2.symm
  subst hr2
  refine eX_block_hit ?_
  exact eX_J (fun hst => ⟨l3, A3, cap3, fp2, rfl, fO hst, F6, F7, F8, F9, F10, F11, F12, F13, F14, F15, F16, F17, F18, F19, G5, D7, D8, D9, hB⟩)
 rintro a' w11 ⟨l1, A1, cap1, fp1, hJ, hF3, F37, F38, F39, F40, F41, F42, F43, F44, F45, F46, F47, F48, F49, F50, G9, D21, D22, D23, hB⟩
 subst hJ
 refine gX hF3 <| eX_then <| sR <| wS_alloc (d := 8) (T := 127) (z := .nilFunc) (by kernel_rfl) (by kernel_rfl) ?_
 intro b6 w12 G10 F51 hc9
 replace F51 : Cl w12 b6 127 [.nilFunc] := F51
 have D24 := Dj.of (lt1 F47.lt) (low1 G10)
 have D25 := Dj.of (lt1 F48.lt) (low1 G10)
 have D26 := Dj.of (lt1 F49.lt) (low1 G10)
 have D27 := Dj.of F50.low (low1 G10)
 replace F37 := F37.c hc9
 replace F38 := F38.c hc9
 replace F39 := F39.c hc9
 replace F40 := F40.c hc9
 replace F41 := F41.c hc9
 replace F42 := F42.c hc9
 replace F43 := F43.c hc9
 replace F44 := F44.c hc9
 replace F45 := F45.c hc9
 replace F46 := F46.c hc9
 replace F47 := F47.c hc9
 replace F48 := F48.c hc9
 replace F49 := F49.c hc9
 replace F50 := F50.c hc9
 replace G10 := Nat.le_trans hB.size G10
 replace hB := hB.q hc9
 refine wN <| sR <| wP 1 [(36, .func (.func 103) #[] #[pt b2, pt b4, pt b1, pt b6])] <| wS_store (T := 127) (g := b6) (o := 0) (ad := ⟨b6, 0, none⟩) (v := .func (.func 103) #[] #[pt b2, pt b4, pt b1, pt b6]) (vs := [.func (.func 103) #[] #[pt b2, pt b4, pt b1, pt b6]]) (by kernel_rfl) (by rfl) sz127 (by rfl) (by rfl) F51 (bl rfl) ?_
 intro w13 F52 hc10
 replace F37 := F37.chg hc10 (Dj.of L0_0 (low1 G10))
 replace F38 := F38.chg hc10 (Dj.of L0_1 (low1 G10))
 replace F39 := F39.chg hc10 (dj1 (Dj.of L2_0 (low1 G10)))
 replace F40 := F40.chg hc10 (Dj.of L2_1_0 (low1 G10))
 replace F41 := F41.chg hc10 (Dj.of L2_1_1 (low1 G10))
 replace F42 := F42.chg hc10 (dj1 (Dj.of L2_1 (low1 G10)))
 replace F43 := F43.chg hc10 (dj1 (Dj.of L2_2 (low1 G10)))
 replace F44 := F44.chg hc10 (Dj.of L2_3_0 (low1 G10))
 replace F45 := F45.chg hc10 (dj1 (Dj.of L2_3 (low1 G10)))
 replace F46 := F46.chg hc10 (dj1 (Dj.of L2_4 (low1 G10)))
 replace F47 := F47.chg hc10 (dj1 D24)
 replace F48 := F48.chg hc10 (dj1 D25)
 replace F49 := F49.chg hc10 (dj1 D26)
 replace F50 := F50.chg hc10 D27
 replace hB := hB.inS hc10 (inLow (low1 G10))
 replace F52 : Cl w13 b6 127 [.func (.func 103) #[] #[pt b2, pt b4, pt b1, pt b6]] := F52
 clear F51
 refine wN <| cW_region <| sL 37 ⟨b6, 0, none⟩ (.func (.func 103) #[] #[pt b2, pt b4, pt b1, pt b6]) vt127 ((F52).cell 0) ?_
 obtain ⟨y1, hy1, hm⟩ := bindE hm
 refine sC 38 [ii 0, ii 0, pt b2, pt b4, pt b1, pt b6] ent103 (c_iOrderFirst_f 64 hy1 F39 F40 F41 F42 F43 F44 F45 F46 F48 (F50.sl encI_ok) F49 F37 F38 F47 F52 J2_0__2_1_0 J2_0__2_1_1 J2_0__2_1 J2_0__2_2 J2_0__2_3_0 J2_0__2_3 J2_0__2_4 (Dj.of L2_0 (low1 G2)) (Dj.of L2_0 G9) (Dj.of L2_0 (low1 G4)) J2_0__0_0 J2_0__0_1 (Dj.of L2_0 (low1 G1)) (Dj.of L2_0 (low1 G10)) J2_3_0__2_1_0 J2_3_0__2_1_1 J2_3_0__2_1 J2_3_0__2_2 J2_3_0__2_3 J2_3_0__2_4 (Dj.of L2_3_0 (low1 G2)) (Dj.of L2_3_0 G9) (Dj.of L2_3_0 (low1 G4)) J2_3_0__0_0 J2_3_0__0_1 (Dj.of L2_3_0 (low1 G1)) (Dj.of L2_3_0 (low1 G10))) ?_
 rintro _ w14 ⟨rfl, F53, F54, hc11⟩
 replace F37 := F37.chg hc11 (Dj.app (J2_0__0_0).symm (Dj.app (J2_3_0__0_0).symm Dj.nil))
 replace F38 := F38.chg hc11 (Dj.app (J2_0__0_1).symm (Dj.app (J2_3_0__0_1).symm Dj.nil))
 replace F40 := F40.chg hc11 (Dj.app (J2_0__2_1_0).symm (Dj.app (J2_3_0__2_1_0).symm Dj.nil))
 replace F41 := F41.chg hc11 (Dj.app (J2_0__2_1_1).symm (Dj.app (J2_3_0__2_1_1).symm Dj.nil))
 replace F42 := F42.chg hc11 (dj1 (Dj.app (J2_0__2_1).symm (Dj.app (J2_3_0__2_1).symm Dj.nil)))
 replace F43 := F43.chg hc11 (dj1 (Dj.app (J2_0__2_2).symm (Dj.app (J2_3_0__2_2).symm Dj.nil)))
 replace F45 := F45.chg hc11 (dj1 (Dj.app (J2_0__2_3).symm (Dj.app (J2_3_0__2_3).symm Dj.nil)))
 replace F46 := F46.chg hc11 (dj1 (Dj.app (J2_0__2_4).symm (Dj.app (J2_3_0__2_4).symm Dj.nil)))
 replace F47 := F47.chg hc11 (dj1 (Dj.app (Dj.of L2_0 (low1 G1)).symm (Dj.app (Dj.of L2_3_0 (low1 G1)).symm Dj.nil)))
 replace F48 := F48.chg hc11 (dj1 (Dj.app (Dj.of L2_0 (low1 G2)).symm (Dj.app (Dj.of L2_3_0 (low1 G2)).symm Dj.nil)))
 replace F49 := F49.chg hc11 (dj1 (Dj.app (Dj.of L2_0 (low1 G4)).symm (Dj.app (Dj.of L2_3_0 (low1 G4)).symm Dj.nil)))
 replace F50 := F50.chg hc11 (Dj.app (Dj.of L2_0 G9).symm (Dj.app (Dj.of L2_3_0 G9).symm Dj.nil))
 replace F52 := F52.chg hc11 (dj1 (Dj.app (Dj.of L2_0 (low1 G10)).symm (Dj.app (Dj.of L2_3_0 (low1 G10)).symm Dj.nil)))
 replace hB := hB.inS hc11 (inApp (inMem (fun x hx => (List.mem_append_left _ hx))) (inApp (inMem (fun x hx => (List.mem_append_right _ (List.mem_append_left _ hx)))) inNil))
 clear F39
 clear F44
 refine ⟨.tuple #[], rfl, ?_⟩
 refine wE ?_
 obtain rfl := someE (x := ((y1.1, y1.2))) hm
 refine eX_fall (vs := []) [] (by rfl) trivial ?_
 exact ⟨rfl, F53, F54, hB⟩

set_option maxRecDepth 100000 in
theorem c_mTrail {w0 p0} {r : (Int)} (hm : m_mTrail p0 = some r) (FG : Sl 1 encU w0 [1] (ad 1) tab64) :
  Calls Tryd.prog 81 #[.int .u64 (p0)] w0 fun e w' => e = .returned (ii r) ∧ Chg [] w0 w' := by
 have Lg := FG.low
 have hB : Chg [] w0 w0 := Chg.refl _ _
 unfold m_mTrail at hm
 refine enterE (N := 8) Tryd.func81 (by rfl) Tryd.ntmps81 (by simp) [(0, .int .u64 (p0))] (by rfl) (by kernel_rfl) (fun a => ?_)
 refine sR <| wP 1 [(2, ii 0)] <| wN <| cW_seq <| cCf <| cW_skip <| eX_then <| sR <| wP 1 [(6, .int .u64 (p0))] ?_
 obtain ⟨y1, hy1, hm⟩ := bindE hm
 refine sC 7 [.int .u64 (p0)] ent105 (c_mTrail1 hy1 FG) ?_
 rintro _ w1 ⟨rfl, hc1⟩
 replace FG := FG.c hc1
 replace hB := hB.q hc1
 refine ⟨ii y1, rfl, ?_⟩
 refine wP 1 [(2, ii y1)] <| wN <| cW_ret ?_
 obtain rfl := someE (x := y1) hm
 refine rA (ii y1) 2 ?_
 exact ⟨rfl, hB⟩

set_option maxRecDepth 100000 in
theorem c_iOrderBest {w0 l0_0 A0_0 cap0_0 fp0_0 l0_1 A0_1 cap0_1 fp0_1} {r : (List (List Int)) × Bool} (hm : m_iOrderBest l0_0 l0_1 = some r) (F0_0 : S1 w0 fp0_0 A0_0 l0_0) (F0_1 : S1 w0 fp0_1 A0_1 l0_1) (FG : Sl 1 encU w0 [1] (ad 1) tab64) :
  Calls Tryd.prog 38 #[.agg #[.slice A0_0 l0_0.length cap0_0, .slice A0_1 l0_1.length cap0_1]] w0 fun e w' => ∃ A100 cap100 fp100 fr100, e = .returned (.tuple #[.slice A100 r.1.length cap100, .bool (r.2)]) ∧ OwR 1 encI 56 3 w' fp100 fr100 A100 cap100 r.1 ∧ (∀ x ∈ fp100 ++ fr100, w0.heap.size ≤ x) ∧ Chg [] w0 w' := by
 have L0_0 := F0_0.low
 have L0_1 := F0_1.low
 have Lg := FG.low
 have hB : Chg [] w0 w0 := Chg.refl _ _
 unfold m_iOrderBest at hm
 refine enterE (N := 59) Tryd.func38 (by rfl) Tryd.ntmps38 (by simp) [(0, .agg #[.slice A0_0 l0_0.length cap0_0, .slice A0_1 l0_1.length cap0_1])] (by rfl) (by kernel_rfl) (fun a => ?_)
 refine sR <| wS_box (d := 1) (T := 58) (x := .agg #[.slice A0_0 l0_0.length cap0_0, .slice A0_1 l0_1.length cap0_1]) (by kernel_rfl) ?_
 intro b1 w1 G1 F1 hc1
 replace F1 : Cl w1 b1 58 [.slice A0_0 l0_0.length cap0_0, .slice A0_1 l0_1.length cap0_1] := F1
 replace F0_0 := F0_0.c hc1
 replace F0_1 := F0_1.c hc1
 replace FG := FG.c hc1
 replace G1 := Nat.le_trans hB.size G1
 replace hB := hB.q hc1
 refine wP 2 [(3, .bool (false)), (2, .slice none 0 0)] <| wN <| cW_seq ?_
 obtain ⟨s1, hs1, hm⟩ := bindE hm
 refine cW_cut (fun a' w' => ∃ b2 : Nat, ∃ l1 : List (Int × Int), ∃ b3 : Nat, ∃ b4 : Nat, ∃ x1 : Int, (l1, x1) = s1 ∧ Fr 59 [(1, pt b1), (4, pt b2), (5, pt b4)] a' ∧ S1 w' fp0_0 A0_0 l0_0 ∧ S1 w' fp0_1 A0_1 l0_1 ∧ Sl 1 encU w' [1] (ad 1) tab64 ∧ Cl w' b1 58 [.slice A0_0 l0_0.length cap0_0, .slice A0_1 l0_1.length cap0_1] ∧ Cl w' b2 105 [.map (some b3)] ∧ Mp okI kI kI w' b3 l1 ∧ Cl w' b4 3 [ii x1] ∧ w0.heap.size ≤ b2 ∧ (∀ x ∈ [b3], w0.heap.size ≤ x) ∧ w0.heap.size ≤ b4 ∧ Dj [b1] [b2] ∧ Dj [b3] [b2] ∧ Dj [b4] [b2] ∧ Dj [b1] [b3] ∧ Dj [b4] [b3] ∧ Dj [b1] [b4] ∧ Chg [] w0 w') ?_ ?_
 ·have hm := hs1
  refine cW_drawnTail [] 9 (by kernel_rfl) (by kernel_rfl) (fun w2 hc2 => ?_)
  replace F0_0 := F0_0.c hc2
  replace F0_1 := F0_1.c hc2
  replace FG := FG.c hc2
  replace F1 := F1.c hc2
  replace hB := hB.q hc2
  have hS := Chg.refl [] w2
  have Z1 := F0_0
  have Z2 := F0_1
  have Z3 := FG
  have Z4 := F1
  refine hT [1] [(12, pt b1)] <| hL 2 13 ⟨b1, 0, none⟩ (.slice A0_0 l0_0.length cap0_0) vt56 (fun W hW => (Z4.c hW).cell 0) ?_
  refine hT [3] [(14, ii (l0_0.length : Int))] ?_
  obtain ⟨u1, hu1, hm⟩ := bindE hm
  refine wH_shl (i := 4) (d := 15) (x := 1) (y := (l0_0.length : Int)) (yk := .i64) (by kernel_rfl) (qT (qT (qT qZ))) (by kernel_rfl) (by kernel_rfl) (p0E hu1) <| hT [5] [(16, ii (wr ((shlI 1 ((l0_0.length : Int))) - 1)))] ?_
  refine wH_all [0, 6, 7] (by rfl) (by kernel_rfl) (by simp) ⟨⟨by kernel_rfl, ?_⟩, ⟨by kernel_rfl, ?_⟩, ⟨by kernel_rfl, ?_⟩, trivial⟩
  ·skip
   refine wS_makeMap (V := Int) (d := 11) (T := 105) (by kernel_rfl) okI kI kI ?_
   intro b5 w3 G2 F2 hc3
   have D1 := Dj.of (lt1 F1.lt) (low1 G2)
   replace F0_0 := F0_0.c hc3
   replace F0_1 := F0_1.c hc3
   replace FG := FG.c hc3
   replace F1 := F1.c hc3
   have hSz := hS
   replace hS := hS.inS hc3 inNil
   have Gz1 := low1 (Nat.le_trans hSz.size G2)
   replace G2 := Nat.le_trans hB.size G2
   replace G2 := low1 G2
   replace hB := hB.q hc3
   refine wS_end (by kernel_rfl) <| eX_KH hS ?_
   refine wH_all [6, 7] (by rfl) (by kernel_rfl) (by simp) ⟨⟨by kernel_rfl, ?_⟩, ⟨by kernel_rfl, ?_⟩, trivial⟩
   ·skip
    refine wS_alloc (d := 4) (T := 105) (z := .map none) (by kernel_rfl) (by kernel_rfl) ?_
    intro b6 w4 G3 F3 hc4
    replace F3 : Cl w4 b6 105 [.map none] := F3
    have D2 := Dj.of (lt1 F1.lt) (low1 G3)
    have D3 := Dj.of F2.low (low1 G3)
    replace F0_0 := F0_0.c hc4
    replace F0_1 := F0_1.c hc4
    replace FG := FG.c hc4
    replace F1 := F1.c hc4
    replace F2 := F2.c hc4
    have hSz := hS
    replace hS := hS.inS hc4 inNil
    have Gz2 := low1 (Nat.le_trans hSz.size G3)
    replace G3 := Nat.le_trans hB.size G3
    replace hB := hB.q hc4
    refine wS_end (by kernel_rfl) <| eX_KH hS ?_
    refine wH_all [7] (by rfl) (by kernel_rfl) (by simp) ⟨⟨by kernel_rfl, ?_⟩, trivial⟩
    refine wS_alloc (d := 5) (T := 3) (z := ii 0) (by kernel_rfl) (by kernel_rfl) ?_
    intro b7 w5 G4 F4 hc5
    replace F4 : Cl w5 b7 3 [ii 0] := F4
    have D4 := Dj.of (lt1 F1.lt) (low1 G4)
    have D5 := Dj.of F2.low (low1 G4)
    have D6 := Dj.of (lt1 F3.lt) (low1 G4)
    replace F0_0 := F0_0.c hc5
    replace F0_1 := F0_1.c hc5
    replace FG := FG.c hc5
    replace F1 := F1.c hc5
    replace F2 := F2.c hc5
    replace F3 := F3.c hc5
    have hSz := hS
    replace hS := hS.inS hc5 inNil
    have Gz3 := low1 (Nat.le_trans hSz.size G4)
    replace G4 := Nat.le_trans hB.size G4
    replace hB := hB.q hc5
    refine wS_end (by kernel_rfl) <| eX_KH hS ?_
    refine wH_all [8] (by rfl) (by kernel_rfl) (by simp) ⟨⟨by kernel_rfl, ?_⟩, trivial⟩
    refine wS_store (T := 105) (g := b6) (o := 0) (ad := ⟨b6, 0, none⟩) (v := .map (some b5)) (vs := [.map (some b5)]) (by kernel_rfl) (by rfl) sz105 (by rfl) (by rfl) F3 (bl rfl) ?_
    intro w6 F5 hc6
    replace F0_0 := F0_0.chg hc6 (Dj.of L0_0 (low1 G3))
    replace F0_1 := F0_1.chg hc6 (Dj.of L0_1 (low1 G3))
    replace FG := FG.chg hc6 (Dj.of Lg (low1 G3))
    replace F1 := F1.chg hc6 (dj1 D2)
    replace F2 := F2.chg hc6 D3
    replace F4 := F4.chg hc6 (dj1 (D6).symm)
    have hSz := hS
    replace hS := hS.inS hc6 (inLow Gz2)
    replace hB := hB.inS hc6 (inLow (low1 G3))
    replace F5 : Cl w6 b6 105 [.map (some b5)] := F5
    clear F3
    refine wS_end (by kernel_rfl) <| eX_KH hS <| wD <| eX_tail <| wS_store (T := 3) (g := b7) (o := 0) (ad := ⟨b7, 0, none⟩) (v := ii (wr ((shlI 1 ((l0_0.length : Int))) - 1))) (vs := [ii (wr ((shlI 1 ((l0_0.length : Int))) - 1))]) (by kernel_rfl) (by rfl) sz3 (by rfl) (by rfl) F4 (bl rfl) ?_
    intro w7 F6 hc7
    replace F0_0 := F0_0.chg hc7 (Dj.of L0_0 (low1 G4))
    replace F0_1 := F0_1.chg hc7 (Dj.of L0_1 (low1 G4))
    replace FG := FG.chg hc7 (Dj.of Lg (low1 G4))
    replace F1 := F1.chg hc7 (dj1 D4)
    replace F2 := F2.chg hc7 D5
    replace F5 := F5.chg hc7 (dj1 D6)
    replace hB := hB.inS hc7 (inLow (low1 G4))
    replace F6 : Cl w7 b7 3 [ii (wr ((shlI 1 ((l0_0.length : Int))) - 1))] := F6
    clear F4
    refine wE ?_
    obtain rfl := someE (x := ((([] : List (Int × Int)), wr ((shlI 1 ((l0_0.length : Int))) - 1)))) hm
    exact eX_J (fun hst => ⟨b6, ([] : List (Int × Int)), b5, b7, wr ((shlI 1 ((l0_0.length : Int))) - 1), rfl, fO hst, F0_0, F0_1, FG, F1, F5, F2, F6, G3, G2, G4, D2, D3, (D6).symm, D1, (D5).symm, D4, hB⟩)
   skip
   refine wS_alloc (d := 5) (T := 3) (z := ii 0) (by kernel_rfl) (by kernel_rfl) ?_
   intro b8 w8 G5 F7 hc8
   replace F7 : Cl w8 b8 3 [ii 0] := F7
   have D7 := Dj.of (lt1 F1.lt) (low1 G5)
   have D8 := Dj.of F2.low (low1 G5)
   replace F0_0 := F0_0.c hc8
   replace F0_1 := F0_1.c hc8
   replace FG := FG.c hc8
   replace F1 := F1.c hc8
   replace F2 := F2.c hc8
   have hSz := hS
   replace hS := hS.inS hc8 inNil
   have Gz4 := low1 (Nat.le_trans hSz.size G5)
   replace G5 := Nat.le_trans hB.size G5
   replace hB := hB.q hc8
   refine wS_end (by kernel_rfl) <| eX_KH hS ?_
   refine wH_all [6] (by rfl) (by kernel_rfl) (by simp) ⟨⟨by kernel_rfl, ?_⟩, trivial⟩
   refine wS_alloc (d := 4) (T := 105) (z := .map none) (by kernel_rfl) (by kernel_rfl) ?_
   intro b9 w9 G6 F8 hc9
   replace F8 : Cl w9 b9 105 [.map none] := F8
   have D9 := Dj.of (lt1 F1.lt) (low1 G6)
   have D10 := Dj.of F2.low (low1 G6)
   have D11 := Dj.of (lt1 F7.lt) (low1 G6)
   replace F0_0 := F0_0.c hc9
   replace F0_1 := F0_1.c hc9
   replace FG := FG.c hc9
   replace F1 := F1.c hc9
   replace F2 := F2.c hc9
   replace F7 := F7.c hc9
   have hSz := hS
   replace hS := hS.inS hc9 inNil
   have Gz5 := low1 (Nat.le_trans hSz.size G6)
   replace G6 := Nat.le_trans hB.size G6
   replace hB := hB.q hc9
   refine wS_end (by kernel_rfl) <| eX_KH hS ?_
   refine wH_all [8] (by rfl) (by kernel_rfl) (by simp) ⟨⟨by kernel_rfl, ?_⟩, trivial⟩
   refine wS_store (T := 105) (g := b9) (o := 0) (ad := ⟨b9, 0, none⟩) (v := .map (some b5)) (vs := [.map (some b5)]) (by kernel_rfl) (by rfl) sz105 (by rfl) (by rfl) F8 (bl rfl) ?_
   intro w10 F9 hc10
   replace F0_0 := F0_0.chg hc10 (Dj.of L0_0 (low1 G6))
   replace F0_1 := F0_1.chg hc10 (Dj.of L0_1 (low1 G6))
   replace FG := FG.chg hc10 (Dj.of Lg (low1 G6))
   replace F1 := F1.chg hc10 (dj1 D9)
   replace F2 := F2.chg hc10 D10
   replace F7 := F7.chg hc10 (dj1 D11)
   have hSz := hS
   replace hS := hS.inS hc10 (inLow Gz5)
   replace hB := hB.inS hc10 (inLow (low1 G6))
   replace F9 : Cl w10 b9 105 [.map (some b5)] := F9
   clear F8
   refine wS_end (by kernel_rfl) <| eX_KH hS <| wD <| eX_tail <| wS_store (T := 3) (g := b8) (o := 0) (ad := ⟨b8, 0, none⟩) (v := ii (wr ((shlI 1 ((l0_0.length : Int))) - 1))) (vs := [ii (wr ((shlI 1 ((l0_0.length : Int))) - 1))]) (by kernel_rfl) (by rfl) sz3 (by rfl) (by rfl) F7 (bl rfl) ?_
   intro w11 F10 hc11
   replace F0_0 := F0_0.chg hc11 (Dj.of L0_0 (low1 G5))
   replace F0_1 := F0_1.chg hc11 (Dj.of L0_1 (low1 G5))
   replace FG := FG.chg hc11 (Dj.of Lg (low1 G5))
   replace F1 := F1.chg hc11 (dj1 D7)
   replace F2 := F2.chg hc11 D8
   replace F9 := F9.chg hc11 (dj1 (D11).symm)
   replace hB := hB.inS hc11 (inLow (low1 G5))
   replace F10 : Cl w11 b8 3 [ii (wr ((shlI 1 ((l0_0.length : Int))) - 1))] := F10
   clear F7
   refine wE ?_
   obtain rfl := someE (x := ((([] : List (Int × Int)), wr ((shlI 1 ((l0_0.length : Int))) - 1)))) hm
   exact eX_J (fun hst => ⟨b9, ([] : List (Int × Int)), b5, b8, wr ((shlI 1 ((l0_0.length : Int))) - 1), rfl, fO hst, F0_0, F0_1, FG, F1, F9, F2, F10, G6, G2, G5, D9, D10, D11, D1, (D8).symm, D7, hB⟩)
  ·skip
   refine wS_alloc (d := 4) (T := 105) (z := .map none) (by kernel_rfl) (by kernel_rfl) ?_
   intro b10 w12 G7 F11 hc12
   replace F11 : Cl w12 b10 105 [.map none] := F11
   have D12 := Dj.of (lt1 F1.lt) (low1 G7)
   replace F0_0 := F0_0.c hc12
   replace F0_1 := F0_1.c hc12
   replace FG := FG.c hc12
   replace F1 := F1.c hc12
   have hSz := hS
   replace hS := hS.inS hc12 inNil
   have Gz6 := low1 (Nat.le_trans hSz.size G7)
   replace G7 := Nat.le_trans hB.size G7
   replace hB := hB.q hc12
   refine wS_end (by kernel_rfl) <| eX_KH hS ?_
   refine wH_all [0, 7] (by rfl) (by kernel_rfl) (by simp) ⟨⟨by kernel_rfl, ?_⟩, ⟨by kernel_rfl, ?_⟩, trivial⟩
   ·skip
    refine wS_makeMap (V := Int) (d := 11) (T := 105) (by kernel_rfl) okI kI kI ?_
    intro b11 w13 G8 F12 hc13
    have D13 := Dj.of (lt1 F1.lt) (low1 G8)
    have D14 := Dj.of (lt1 F11.lt) (low1 G8)
    replace F0_0 := F0_0.c hc13
    replace F0_1 := F0_1.c hc13
    replace FG := FG.c hc13
    replace F1 := F1.c hc13
    replace F11 := F11.c hc13
    have hSz := hS
    replace hS := hS.inS hc13 inNil
    have Gz7 := low1 (Nat.le_trans hSz.size G8)
    replace G8 := Nat.le_trans hB.size G8
    replace G8 := low1 G8
    replace hB := hB.q hc13
    refine wS_end (by kernel_rfl) <| eX_KH hS ?_
    refine wH_all [7] (by rfl) (by kernel_rfl) (by simp) ⟨⟨by kernel_rfl, ?_⟩, trivial⟩
    refine wS_alloc (d := 5) (T := 3) (z := ii 0) (by kernel_rfl) (by kernel_rfl) ?_
    intro b12 w14 G9 F13 hc14
    replace F13 : Cl w14 b12 3 [ii 0] := F13
    have D15 := Dj.of (lt1 F1.lt) (low1 G9)
    have D16 := Dj.of (lt1 F11.lt) (low1 G9)
    have D17 := Dj.of F12.low (low1 G9)
    replace F0_0 := F0_0.c hc14
    replace F0_1 := F0_1.c hc14
    replace FG := FG.c hc14
    replace F1 := F1.c hc14
    replace F11 := F11.c hc14
    replace F12 := F12.c hc14
    have hSz := hS
    replace hS := hS.inS hc14 inNil
    have Gz8 := low1 (Nat.le_trans hSz.size G9)
    replace G9 := Nat.le_trans hB.size G9
    replace hB := hB.q hc14
    refine wS_end (by kernel_rfl) <| eX_KH hS ?_
    refine wH_all [8] (by rfl) (by kernel_rfl) (by simp) ⟨⟨by kernel_rfl, ?_⟩, trivial⟩
    refine wS_store (T := 105) (g := b10) (o := 0) (ad := ⟨b10, 0, none⟩) (v := .map (some b11)) (vs := [.map (some b11)]) (by kernel_rfl) (by rfl) sz105 (by rfl) (by rfl) F11 (bl rfl) ?_
    intro w15 F14 hc15
    replace F0_0 := F0_0.chg hc15 (Dj.of L0_0 (low1 G7))
    replace F0_1 := F0_1.chg hc15 (Dj.of L0_1 (low1 G7))
    replace FG := FG.chg hc15 (Dj.of Lg (low1 G7))
    replace F1 := F1.chg hc15 (dj1 D12)
    replace F12 := F12.chg hc15 (D14).symm
    replace F13 := F13.chg hc15 (dj1 (D16).symm)
    have hSz := hS
    replace hS := hS.inS hc15 (inLow Gz6)
    replace hB := hB.inS hc15 (inLow (low1 G7))
    replace F14 : Cl w15 b10 105 [.map (some b11)] := F14
    clear F11
    refine wS_end (by kernel_rfl) <| eX_KH hS <| wD <| eX_tail <| wS_store (T := 3) (g := b12) (o := 0) (ad := ⟨b12, 0, none⟩) (v := ii (wr ((shlI 1 ((l0_0.length : Int))) - 1))) (vs := [ii (wr ((shlI 1 ((l0_0.length : Int))) - 1))]) (by kernel_rfl) (by rfl) sz3 (by rfl) (by rfl) F13 (bl rfl) ?_
    intro w16 F15 hc16
    replace F0_0 := F0_0.chg hc16 (Dj.of L0_0 (low1 G9))
    replace F0_1 := F0_1.chg hc16 (Dj.of L0_1 (low1 G9))
    replace FG := FG.chg hc16 (Dj.of Lg (low1 G9))
    replace F1 := F1.chg hc16 (dj1 D15)
    replace F14 := F14.chg hc16 (dj1 D16)
    replace F12 := F12.chg hc16 D17
    replace hB := hB.inS hc16 (inLow (low1 G9))
    replace F15 : Cl w16 b12 3 [ii (wr ((shlI 1 ((l0_0.length : Int))) - 1))] := F15
    clear F13
    refine wE ?_
    obtain rfl := someE (x := ((([] : List (Int × Int)), wr ((shlI 1 ((l0_0.length : Int))) - 1)))) hm
    exact eX_J (fun hst => ⟨b10, ([] : List (Int × Int)), b11, b12, wr ((shlI 1 ((l0_0.length : Int))) - 1), rfl, fO hst, F0_0, F0_1, FG, F1, F14, F12, F15, G7, G8, G9, D12, (D14).symm, (D16).symm, D13, (D17).symm, D15, hB⟩)
   skip
   refine wS_alloc (d := 5) (T := 3) (z := ii 0) (by kernel_rfl) (by kernel_rfl) ?_
   intro b13 w17 G10 F16 hc17
   replace F16 : Cl w17 b13 3 [ii 0] := F16
   have D18 := Dj.of (lt1 F1.lt) (low1 G10)
   have D19 := Dj.of (lt1 F11.lt) (low1 G10)
   replace F0_0 := F0_0.c hc17
   replace F0_1 := F0_1.c hc17
   replace FG := FG.c hc17
   replace F1 := F1.c hc17
   replace F11 := F11.c hc17
   have hSz := hS
   replace hS := hS.inS hc17 inNil
   have Gz9 := low1 (Nat.le_trans hSz.size G10)
   replace G10 := Nat.le_trans hB.size G10
   replace hB := hB.q hc17
   refine wS_end (by kernel_rfl) <| eX_KH hS ?_
   refine wH_all [0] (by rfl) (by kernel_rfl) (by simp) ⟨⟨by kernel_rfl, ?_⟩, trivial⟩
   refine wS_makeMap (V := Int) (d := 11) (T := 105) (by kernel_rfl) okI kI kI ?_
   intro b14 w18 G11 F17 hc18
   have D20 := Dj.of (lt1 F1.lt) (low1 G11)
   have D21 := Dj.of (lt1 F11.lt) (low1 G11)
   have D22 := Dj.of (lt1 F16.lt) (low1 G11)
   replace F0_0 := F0_0.c hc18
   replace F0_1 := F0_1.c hc18
   replace FG := FG.c hc18
   replace F1 := F1.c hc18
   replace F11 := F11.c hc18
   replace F16 := F16.c hc18
   have hSz := hS
   replace hS := hS.inS hc18 inNil
   have Gz10 := low1 (Nat.le_trans hSz.size G11)
   replace G11 := Nat.le_trans hB.size G11
   replace G11 := low1 G11
   replace hB := hB.q hc18
   refine wS_end (by kernel_rfl) <| eX_KH hS ?_
   refine wH_all [8] (by rfl) (by kernel_rfl) (by simp) ⟨⟨by kernel_rfl, ?_⟩, trivial⟩
   refine wS_store (T := 105) (g := b10) (o := 0) (ad := ⟨b10, 0, none⟩) (v := .map (some b14)) (vs := [.map (some b14)]) (by kernel_rfl) (by rfl) sz105 (by rfl) (by rfl) F11 (bl rfl) ?_
   intro w19 F18 hc19
   replace F0_0 := F0_0.chg hc19 (Dj.of L0_0 (low1 G7))
   replace F0_1 := F0_1.chg hc19 (Dj.of L0_1 (low1 G7))
   replace FG := FG.chg hc19 (Dj.of Lg (low1 G7))
   replace F1 := F1.chg hc19 (dj1 D12)
   replace F16 := F16.chg hc19 (dj1 (D19).symm)
   replace F17 := F17.chg hc19 (D21).symm
   have hSz := hS
   replace hS := hS.inS hc19 (inLow Gz6)
   replace hB := hB.inS hc19 (inLow (low1 G7))
   replace F18 : Cl w19 b10 105 [.map (some b14)] := F18
   clear F11
   refine wS_end (by kernel_rfl) <| eX_KH hS <| wD <| eX_tail <| wS_store (T := 3) (g := b13) (o := 0) (ad := ⟨b13, 0, none⟩) (v := ii (wr ((shlI 1 ((l0_0.length : Int))) - 1))) (vs := [ii (wr ((shlI 1 ((l0_0.length : Int))) - 1))]) (by kernel_rfl) (by rfl) sz3 (by rfl) (by rfl) F16 (bl rfl) ?_
   intro w20 F19 hc20
   replace F0_0 := F0_0.chg hc20 (Dj.of L0_0 (low1 G10))
   replace F0_1 := F0_1.chg hc20 (Dj.of L0_1 (low1 G10))
   replace FG := FG.chg hc20 (Dj.of Lg (low1 G10))
   replace F1 := F1.chg hc20 (dj1 D18)
   replace F18 := F18.chg hc20 (dj1 D19)
   replace F17 := F17.chg hc20 (D22).symm
   replace hB := hB.inS hc20 (inLow (low1 G10))
   replace F19 : Cl w20 b13 3 [ii (wr ((shlI 1 ((l0_0.length : Int))) - 1))] := F19
   clear F16
   refine wE ?_
   obtain rfl := someE (x := ((([] : List (Int × Int)), wr ((shlI 1 ((l0_0.length : Int))) - 1)))) hm
   exact eX_J (fun hst => ⟨b10, ([] : List (Int × Int)), b14, b13, wr ((shlI 1 ((l0_0.length : Int))) - 1), rfl, fO hst, F0_0, F0_1, FG, F1, F18, F17, F19, G7, G11, G10, D12, (D21).symm, (D19).symm, D20, D22, D18, hB⟩)
  skip
  refine wS_alloc (d := 5) (T := 3) (z := ii 0) (by kernel_rfl) (by kernel_rfl) ?_
  intro b15 w21 G12 F20 hc21
  replace F20 : Cl w21 b15 3 [ii 0] := F20
  have D23 := Dj.of (lt1 F1.lt) (low1 G12)
  replace F0_0 := F0_0.c hc21
  replace F0_1 := F0_1.c hc21
  replace FG := FG.c hc21
  replace F1 := F1.c hc21
  have hSz := hS
  replace hS := hS.inS hc21 inNil
  have Gz11 := low1 (Nat.le_trans hSz.size G12)
  replace G12 := Nat.le_trans hB.size G12
  replace hB := hB.q hc21
  refine wS_end (by kernel_rfl) <| eX_KH hS ?_
  refine wH_all [0, 6] (by rfl) (by kernel_rfl) (by simp) ⟨⟨by kernel_rfl, ?_⟩, ⟨by kernel_rfl, ?_⟩, trivial⟩
  ·skip
   refine wS_makeMap (V := Int) (d := 11) (T := 105) (by kernel_rfl) okI kI kI ?_
   intro b16 w22 G13 F21 hc22
   have D24 := Dj.of (lt1 F1.lt) (low1 G13)
   have D25 := Dj.of (lt1 F20.lt) (low1 G13)
   replace F0_0 := F0_0.c hc22
   replace F0_1 := F0_1.c hc22
   replace FG := FG.c hc22
   replace F1 := F1.c hc22
   replace F20 := F20.c hc22
   have hSz := hS
   replace hS := hS.inS hc22 inNil
   have Gz12 := low1 (Nat.le_trans hSz.size G13)
   replace G13 := Nat.le_trans hB.size G13
   replace G13 := low1 G13
   replace hB := hB.q hc22
   refine wS_end (by kernel_rfl) <| eX_KH hS ?_
   refine wH_all [6] (by rfl) (by kernel_rfl) (by simp) ⟨⟨by kernel_rfl, ?_⟩, trivial⟩
   refine wS_alloc (d := 4) (T := 105) (z := .map none) (by kernel_rfl) (by kernel_rfl) ?_
   intro b17 w23 G14 F22 hc23
   replace F22 : Cl w23 b17 105 [.map none] := F22
   have D26 := Dj.of (lt1 F1.lt) (low1 G14)
   have D27 := Dj.of (lt1 F20.lt) (low1 G14)
   have D28 := Dj.of F21.low (low1 G14)
   replace F0_0 := F0_0.c hc23
   replace F0_1 := F0_1.c hc23
   replace FG := FG.c hc23
   replace F1 := F1.c hc23
   replace F20 := F20.c hc23
   replace F21 := F21.c hc23
   have hSz := hS
   replace hS := hS.inS hc23 inNil
   have Gz13 := low1 (Nat.le_trans hSz.size G14)
   replace G14 := Nat.le_trans hB.size G14
   replace hB := hB.q hc23
   refine wS_end (by kernel_rfl) <| eX_KH hS ?_
   refine wH_all [8] (by rfl) (by kernel_rfl) (by simp) ⟨⟨by kernel_rfl, ?_⟩, trivial⟩
   refine wS_store (T := 105) (g := b17) (o := 0) (ad := ⟨b17, 0, none⟩) (v := .map (some b16)) (vs := [.map (some b16)]) (by kernel_rfl) (by rfl) sz105 (by rfl) (by rfl) F22 (bl rfl) ?_
   intro w24 F23 hc24
   replace F0_0 := F0_0.chg hc24 (Dj.of L0_0 (low1 G14))
   replace F0_1 := F0_1.chg hc24 (Dj.of L0_1 (low1 G14))
   replace FG := FG.chg hc24 (Dj.of Lg (low1 G14))
   replace F1 := F1.chg hc24 (dj1 D26)
   replace F20 := F20.chg hc24 (dj1 D27)
   replace F21 := F21.chg hc24 D28
   have hSz := hS
   replace hS := hS.inS hc24 (inLow Gz13)
   replace hB := hB.inS hc24 (inLow (low1 G14))
   replace F23 : Cl w24 b17 105 [.map (some b16)] := F23
   clear F22
   refine wS_end (by kernel_rfl) <| eX_KH hS <| wD <| eX_tail <| wS_store (T := 3) (g := b15) (o := 0) (ad := ⟨b15, 0, none⟩) (v := ii (wr ((shlI 1 ((l0_0.length : Int))) - 1))) (vs := [ii (wr ((shlI 1 ((l0_0.length : Int))) - 1))]) (by kernel_rfl) (by rfl) sz3 (by rfl) (by rfl) F20 (bl rfl) ?_
   intro w25 F24 hc25
   replace F0_0 := F0_0.chg hc25 (Dj.of L0_0 (low1 G12))
   replace F0_1 := F0_1.chg hc25 (Dj.of L0_1 (low1 G12))
   replace FG := FG.chg hc25 (Dj.of Lg (low1 G12))
   replace F1 := F1.chg hc25 (dj1 D23)
   replace F21 := F21.chg hc25 (D25).symm
   replace F23 := F23.chg hc25 (dj1 (D27).symm)
   replace hB := hB.inS hc25 (inLow (low1 G12))
   replace F24 : Cl w25 b15 3 [ii (wr ((shlI 1 ((l0_0.length : Int))) - 1))] := F24
   clear F20
   refine wE ?_
   obtain rfl := someE (x := ((([] : List (Int × Int)), wr ((shlI 1 ((l0_0.length : Int))) - 1)))) hm
   exact eX_J (fun hst => ⟨b17, ([] : List (Int × Int)), b16, b15, wr ((shlI 1 ((l0_0.length : Int))) - 1), rfl, fO hst, F0_0, F0_1, FG, F1, F23, F21, F24, G14, G13, G12, D26, D28, D27, D24, D25, D23, hB⟩)
  skip
  refine wS_alloc (d := 4) (T := 105) (z := .map none) (by kernel_rfl) (by kernel_rfl) ?_
  intro b18 w26 G15 F25 hc26
  replace F25 : Cl w26 b18 105 [.map none] := F25
  have D29 := Dj.of (lt1 F1.lt) (low1 G15)
  have D30 := Dj.of (lt1 F20.lt) (low1 G15)
  replace F0_0 := F0_0.c hc26
  replace F0_1 := F0_1.c hc26
  replace FG := FG.c hc26
  replace F1 := F1.c hc26
  replace F20 := F20.c hc26
  have hSz := hS
  replace hS := hS.inS hc26 inNil
  have Gz14 := low1 (Nat.le_trans hSz.size G15)
  replace G15 := Nat.le_trans hB.size G15
  replace hB := hB.q hc26
  refine wS_end (by kernel_rfl) <| eX_KH hS ?_
  refine wH_all [0] (by rfl) (by kernel_rfl) (by simp) ⟨⟨by kernel_rfl, ?_⟩, trivial⟩
  refine wS_makeMap (V := Int) (d := 11) (T := 105) (by kernel_rfl) okI kI kI ?_
  intro b19 w27 G16 F26 hc27
  have D31 := Dj.of (lt1 F1.lt) (low1 G16)
  have D32 := Dj.of (lt1 F20.lt) (low1 G16)
  have D33 := Dj.of (lt1 F25.lt) (low1 G16)
  replace F0_0 := F0_0.c hc27
  replace F0_1 := F0_1.c hc27
  replace FG := FG.c hc27
  replace F1 := F1.c hc27
  replace F20 := F20.c hc27
  replace F25 := F25.c hc27
  have hSz := hS
  replace hS := hS.inS hc27 inNil
  have Gz15 := low1 (Nat.le_trans hSz.size G16)
  replace G16 := Nat.le_trans hB.size G16
  replace G16 := low1 G16
  replace hB := hB.q hc27
  refine wS_end (by kernel_rfl) <| eX_KH hS ?_
  refine wH_all [8] (by rfl) (by kernel_rfl) (by simp) ⟨⟨by kernel_rfl, ?_⟩, trivial⟩
  refine wS_store (T := 105) (g := b18) (o := 0) (ad := ⟨b18, 0, none⟩) (v := .map (some b19)) (vs := [.map (some b19)]) (by kernel_rfl) (by rfl) sz105 (by rfl) (by rfl) F25 (bl rfl) ?_
  intro w28 F27 hc28
  replace F0_0 := F0_0.chg hc28 (Dj.of L0_0 (low1 G15))
  replace F0_1 := F0_1.chg hc28 (Dj.of L0_1 (low1 G15))
  replace FG := FG.chg hc28 (Dj.of Lg (low1 G15))
  replace F1 := F1.chg hc28 (dj1 D29)
  replace F20 := F20.chg hc28 (dj1 D30)
  replace F26 := F26.chg hc28 (D33).symm
  have hSz := hS
  replace hS := hS.inS hc28 (inLow Gz14)
  replace hB := hB.inS hc28 (inLow (low1 G15))
  replace F27 : Cl w28 b18 105 [.map (some b19)] := F27
  clear F25
  refine wS_end (by kernel_rfl) <| eX_KH hS <| wD <| eX_tail <| wS_store (T := 3) (g := b15) (o := 0) (ad := ⟨b15, 0, none⟩) (v := ii (wr ((shlI 1 ((l0_0.length : Int))) - 1))) (vs := [ii (wr ((shlI 1 ((l0_0.length : Int))) - 1))]) (by kernel_rfl) (by rfl) sz3 (by rfl) (by rfl) F20 (bl rfl) ?_
  intro w29 F28 hc29
  replace F0_0 := F0_0.chg hc29 (Dj.of L0_0 (low1 G12))
  replace F0_1 := F0_1.chg hc29 (Dj.of L0_1 (low1 G12))
  replace FG := FG.chg hc29 (Dj.of Lg (low1 G12))
  replace F1 := F1.chg hc29 (dj1 D23)
  replace F27 := F27.chg hc29 (dj1 (D30).symm)
  replace F26 := F26.chg hc29 (D32).symm
  replace hB := hB.inS hc29 (inLow (low1 G12))
  replace F28 : Cl w29 b15 3 [ii (wr ((shlI 1 ((l0_0.length : Int))) - 1))] := F28
  clear F20
  refine wE ?_
  obtain rfl := someE (x := ((([] : List (Int × Int)), wr ((shlI 1 ((l0_0.length : Int))) - 1)))) hm
  exact eX_J (fun hst => ⟨b18, ([] : List (Int × Int)), b19, b15, wr ((shlI 1 ((l0_0.length : Int))) - 1), rfl, fO hst, F0_0, F0_1, FG, F1, F27, F26, F28, G15, G16, G12, D29, (D33).symm, D30, D31, D32, D23, hB⟩)
 rintro a' w30 ⟨b2, l1, b3, b4, x1, hJ, hF1, F29, F30, F31, F32, F33, F34, F35, G17, G18, G19, D34, D35, D36, D37, D38, D39, hB⟩
 subst hJ
 refine gX hF1 <| eX_then <| sR <| wS_rows0 (k := 1) (enc := encI) (d := 17) (t := 54) (T := 56) (T2 := 3) (by kernel_rfl) el54 ?_
 intro b20 w31 G20 F36 hc30
 have D40 := Dj.of (lt1 F32.lt) (lowApp (low1 G20) lowNil)
 have D41 := Dj.of (lt1 F33.lt) (lowApp (low1 G20) lowNil)
 have D42 := Dj.of F34.low (lowApp (low1 G20) lowNil)
 have D43 := Dj.of (lt1 F35.lt) (lowApp (low1 G20) lowNil)
 replace F29 := F29.c hc30
 replace F30 := F30.c hc30
 replace F31 := F31.c hc30
 replace F32 := F32.c hc30
 replace F33 := F33.c hc30
 replace F34 := F34.c hc30
 replace F35 := F35.c hc30
 replace G20 := Nat.le_trans hB.size G20
 replace G20 := low1 G20
 replace hB := hB.q hc30
 replace G20 := lowApp G20 lowNil
 refine wP 1 [(6, .slice (ad b20) (([] : List (List Int))).length 0)] <| wN <| cW_seq <| cW_seq <| cW_drawnTail [b3] 7 (by kernel_rfl) (by kernel_rfl) (fun w32 hc31 => ?_)
 replace F29 := F29.c hc31
 replace F30 := F30.c hc31
 replace F31 := F31.c hc31
 replace F32 := F32.c hc31
 replace F33 := F33.c hc31
 replace F34 := F34.c hc31
 replace F35 := F35.c hc31
 replace F36 := F36.c hc31
 replace hB := hB.q hc31
 have hS := Chg.refl [b3] w32
 have Z5 := F29
 have Z6 := F30
 have Z7 := F31
 have Z8 := F32
 have Z9 := F33
 have Z10 := F34
 have Z11 := F35
 have Z12 := F36
 refine wH_loadA (i := 0) (d := 18) (T := 58) (ad := ⟨b1, 0, none⟩) (vs := [.slice A0_0 l0_0.length cap0_0, .slice A0_1 l0_1.length cap0_1]) (by kernel_rfl) (qT (qT (qT qZ))) (by kernel_rfl) (by kernel_rfl) vt58 (fun W hW i u hu => box_cells (Z8.chg hW (dj1 D37)) 0 hu (by rfl)) ?_
 refine hL 1 19 ⟨b4, 0, none⟩ (ii x1) vt3 (fun W hW => (Z11.chg hW (dj1 D38)).cell 0) ?_
 refine hL 2 20 ⟨b2, 0, none⟩ (.map (some b3)) vt105 (fun W hW => (Z9.chg hW (dj1 (D35).symm)).cell 0) ?_
 refine hT [4] [(22, pt b1)] <| hL 5 23 ⟨b1, 0, none⟩ (.slice A0_0 l0_0.length cap0_0) vt56 (fun W hW => (Z8.chg hW (dj1 D37)).cell 0) ?_
 refine hT [6] [(24, ii (l0_0.length : Int))] ?_
 refine wH_all [3] (by rfl) (by kernel_rfl) (by simp) ⟨⟨by kernel_rfl, ?_⟩, trivial⟩
 obtain ⟨y1, hy1, hm⟩ := bindE hm
 refine sC 21 [.agg #[.slice A0_0 l0_0.length cap0_0, .slice A0_1 l0_1.length cap0_1], ii x1, .map (some b3)] ent78 (c_iOrderFewes 64 hy1 F29 F30 F34 (Dj.of L0_0 G18).symm (Dj.of L0_1 G18).symm) ?_
 rintro _ w33 ⟨rfl, F37, hc32⟩
 replace F29 := F29.chg hc32 (Dj.app (Dj.of L0_0 G18) Dj.nil)
 replace F30 := F30.chg hc32 (Dj.app (Dj.of L0_1 G18) Dj.nil)
 replace F31 := F31.chg hc32 (Dj.app (Dj.of Lg G18) Dj.nil)
 replace F32 := F32.chg hc32 (dj1 (Dj.app D37 Dj.nil))
 replace F33 := F33.chg hc32 (dj1 (Dj.app (D35).symm Dj.nil))
 replace F35 := F35.chg hc32 (dj1 (Dj.app D38 Dj.nil))
 replace F36 := F36.chg hc32 (Dj.app (D42).symm Dj.nil)
 have hSz := hS
 replace hS := hS.trans (hc32.more (fun x hx => by simpa using hx))
 replace hB := hB.inS hc32 (inApp (inLow G18) inNil)
 clear F34
 refine ⟨ii y1.1, rfl, ?_⟩
 refine wS_end (by kernel_rfl) <| eX_KH hS <| wD <| eX_tail <| wP 1 [(25, .bool (decide (y1.1 > ((l0_0.length : Int)))))] <| wN <| cC (decide (y1.1 > ((l0_0.length : Int)))) (fun hb1 => ?_) (fun hb1 => ?_)
 ·have hm := condT hb1 hm
  refine sR <| wP 2 [(3, .bool (false)), (2, .slice none 0 0)] <| wN <| cW_ret <| eX_then_ret ?_
  obtain rfl := someE (x := (([], false))) hm
  refine rB (.slice none 0 0) (.bool (false)) 2 3 ?_
  exact ⟨none, 0, [], [], rfl, OwR.nil _, (lowApp lowNil lowNil), hB⟩
 have hm := condF hb1 hm
 refine cW_skip <| eX_then <| cW_seq ?_
 obtain ⟨r1, hr1, hm⟩ := bindE hm
 have hm1 := hm
 refine cW_cut (fun a' w' => ∃ l3 : List (List Int), ∃ A1 : Option Addr, ∃ cap1 : Nat, ∃ fp1 : List Nat, ∃ fr1 : List Nat, l3 = r1 ∧ Fr 59 [(6, .slice A1 l3.length cap1)] a' ∧ Sl 1 encU w' [1] (ad 1) tab64 ∧ OwR 1 encI 56 3 w' fp1 fr1 A1 cap1 l3 ∧ (∀ x ∈ (fp1 ++ fr1), w0.heap.size ≤ x) ∧ Chg [] w0 w') ?_ ?_
 ·refine cW_block ?_
  refine cW_loop _ (fun (s2 : (List (List Int)) × (List (Int × Int)) × Int) a' w' => ∃ l4 : List (List Int), ∃ A3 : Option Addr, ∃ cap3 : Nat, ∃ fp2 : List Nat, ∃ fr2 : List Nat, ∃ l5 : List (Int × Int), ∃ x2 : Int, (l4, l5, x2) = s2 ∧ Fr 59 [(1, pt b1), (4, pt b2), (5, pt b4), (6, .slice A3 l4.length cap3)] a' ∧ S1 w' fp0_0 A0_0 l0_0 ∧ S1 w' fp0_1 A0_1 l0_1 ∧ Sl 1 encU w' [1] (ad 1) tab64 ∧ Cl w' b1 58 [.slice A0_0 l0_0.length cap0_0, .slice A0_1 l0_1.length cap0_1] ∧ Cl w' b2 105 [.map (some b3)] ∧ Mp okI kI kI w' b3 l5 ∧ Cl w' b4 3 [ii x2] ∧ OwR 1 encI 56 3 w' fp2 fr2 A3 cap3 l4 ∧ (∀ x ∈ (fp2 ++ fr2), w0.heap.size ≤ x) ∧ Dj [b1] (fp2 ++ fr2) ∧ Dj [b2] (fp2 ++ fr2) ∧ Dj [b3] (fp2 ++ fr2) ∧ Dj [b4] (fp2 ++ fr2) ∧ Chg [] w0 w') hr1 (fun hst => ⟨([] : List (List Int)), (ad b20), 0, [b20], [], y1.2, x1, rfl, fO hst, F29, F30, F31, F32, F33, F37, F35, F36, G20, D40, D41, D42, D43, hB⟩) ?_
  rintro _ c1 a' w34 ⟨l4, A3, cap3, fp2, fr2, l5, x2, rfl, hF2, F38, F39, F40, F41, F42, F43, F44, F45, G21, D44, D45, D46, D47, hB⟩ hx1
  refine gO hF2 ?_
  have hm := hx1
  unfold m_iOrderBest_s3 at hm
  refine cW_seq <| sR <| sL 26 ⟨b4, 0, none⟩ (ii x2) vt3 ((F44).cell 0) <| wP 1 [(27, .bool (x2 != 0))] <| wN <| cC (x2 != 0) (fun hb2 => ?_) (fun hb2 => ?_)
  ·have hm := condT hb2 hm
   refine cW_skip <| eX_then <| cW_block <| sR <| wS_alloc (d := 7) (T := 3) (z := ii 0) (by kernel_rfl) (by kernel_rfl) ?_
   intro b21 w35 G22 F46 hc33
   replace F46 : Cl w35 b21 3 [ii 0] := F46
   have D48 := Dj.of (lt1 F41.lt) (low1 G22)
   have D49 := Dj.of (lt1 F42.lt) (low1 G22)
   have D50 := Dj.of F43.low (low1 G22)
   have D51 := Dj.of (lt1 F44.lt) (low1 G22)
   have D52 := Dj.of F45.low (low1 G22)
   replace F38 := F38.c hc33
   replace F39 := F39.c hc33
   replace F40 := F40.c hc33
   replace F41 := F41.c hc33
   replace F42 := F42.c hc33
   replace F43 := F43.c hc33
   replace F44 := F44.c hc33
   replace F45 := F45.c hc33
   replace G22 := Nat.le_trans hB.size G22
   replace hB := hB.q hc33
   refine wS_store (T := 3) (g := b21) (o := 0) (ad := ⟨b21, 0, none⟩) (v := ii 0) (vs := [ii 0]) (by kernel_rfl) (by rfl) sz3 (by rfl) (by rfl) F46 (bl rfl) ?_
   intro w36 F47 hc34
   replace F38 := F38.chg hc34 (Dj.of L0_0 (low1 G22))
   replace F39 := F39.chg hc34 (Dj.of L0_1 (low1 G22))
   replace F40 := F40.chg hc34 (Dj.of Lg (low1 G22))
   replace F41 := F41.chg hc34 (dj1 D48)
   replace F42 := F42.chg hc34 (dj1 D49)
   replace F43 := F43.chg hc34 D50
   replace F44 := F44.chg hc34 (dj1 D51)
   replace F45 := F45.chg hc34 D52
   replace hB := hB.inS hc34 (inLow (low1 G22))
   replace F47 : Cl w36 b21 3 [ii 0] := F47
   clear F46
   refine wN <| sR <| wS_loadA (d := 28) (T := 58) (ad := ⟨b1, 0, none⟩) (vs := [.slice A0_0 l0_0.length cap0_0, .slice A0_1 l0_1.length cap0_1]) (by kernel_rfl) vt58 (fun i u hu => box_cells F41 0 hu (by rfl)) ?_
   refine sL 29 ⟨b4, 0, none⟩ (ii x2) vt3 ((F44).cell 0) <| sL 30 ⟨b2, 0, none⟩ (.map (some b3)) vt105 ((F42).cell 0) ?_
   obtain ⟨y2, hy2, hm⟩ := bindE hm
   refine sC 31 [.agg #[.slice A0_0 l0_0.length cap0_0, .slice A0_1 l0_1.length cap0_1], ii x2, .map (some b3)] ent78 (c_iOrderFewes 64 hy2 F38 F39 F43 (Dj.of L0_0 G18).symm (Dj.of L0_1 G18).symm) ?_
   rintro _ w37 ⟨rfl, F48, hc35⟩
   replace F38 := F38.chg hc35 (Dj.app (Dj.of L0_0 G18) Dj.nil)
   replace F39 := F39.chg hc35 (Dj.app (Dj.of L0_1 G18) Dj.nil)
   replace F40 := F40.chg hc35 (Dj.app (Dj.of Lg G18) Dj.nil)
   replace F41 := F41.chg hc35 (dj1 (Dj.app D37 Dj.nil))
   replace F42 := F42.chg hc35 (dj1 (Dj.app (D35).symm Dj.nil))
   replace F44 := F44.chg hc35 (dj1 (Dj.app D38 Dj.nil))
   replace F45 := F45.chg hc35 (Dj.app (D46).symm Dj.nil)
   replace F47 := F47.chg hc35 (dj1 (Dj.app (D50).symm Dj.nil))
   replace hB := hB.inS hc35 (inApp (inLow G18) inNil)
   clear F43
   refine ⟨ii y2.1, rfl, ?_⟩
   refine wP 1 [(32, ii (wr (y2.1 - 1)))] <| wS_alloc (d := 8) (T := 3) (z := ii 0) (by kernel_rfl) (by kernel_rfl) ?_
   intro b22 w38 G23 F49 hc36
   replace F49 : Cl w38 b22 3 [ii 0] := F49
   have D53 := Dj.of (lt1 F41.lt) (low1 G23)
   have D54 := Dj.of (lt1 F42.lt) (low1 G23)
   have D55 := Dj.of F48.low (low1 G23)
   have D56 := Dj.of (lt1 F44.lt) (low1 G23)
   have D57 := Dj.of F45.low (low1 G23)
   have D58 := Dj.of (lt1 F47.lt) (low1 G23)
   replace F38 := F38.c hc36
   replace F39 := F39.c hc36
   replace F40 := F40.c hc36
   replace F41 := F41.c hc36
   replace F42 := F42.c hc36
   replace F48 := F48.c hc36
   replace F44 := F44.c hc36
   replace F45 := F45.c hc36
   replace F47 := F47.c hc36
   replace G23 := Nat.le_trans hB.size G23
   replace hB := hB.q hc36
   refine wS_store (T := 3) (g := b22) (o := 0) (ad := ⟨b22, 0, none⟩) (v := ii (wr (y2.1 - 1))) (vs := [ii (wr (y2.1 - 1))]) (by kernel_rfl) (by rfl) sz3 (by rfl) (by rfl) F49 (bl rfl) ?_
   intro w39 F50 hc37
   replace F38 := F38.chg hc37 (Dj.of L0_0 (low1 G23))
   replace F39 := F39.chg hc37 (Dj.of L0_1 (low1 G23))
   replace F40 := F40.chg hc37 (Dj.of Lg (low1 G23))
   replace F41 := F41.chg hc37 (dj1 D53)
   replace F42 := F42.chg hc37 (dj1 D54)
   replace F48 := F48.chg hc37 D55
   replace F44 := F44.chg hc37 (dj1 D56)
   replace F45 := F45.chg hc37 D57
   replace F47 := F47.chg hc37 (dj1 D58)
   replace hB := hB.inS hc37 (inLow (low1 G23))
   replace F50 : Cl w39 b22 3 [ii (wr (y2.1 - 1))] := F50
   clear F49
   refine wN <| sR <| wS_loadA (d := 33) (T := 58) (ad := ⟨b1, 0, none⟩) (vs := [.slice A0_0 l0_0.length cap0_0, .slice A0_1 l0_1.length cap0_1]) (by kernel_rfl) vt58 (fun i u hu => box_cells F41 0 hu (by rfl)) ?_
   refine sL 34 ⟨b4, 0, none⟩ (ii x2) vt3 ((F44).cell 0) <| wP 1 [(35, .func (.func 80) #[] #[pt b21, pt b1, pt b4, pt b2, pt b22])] ?_
   obtain ⟨y3, hy3, hm⟩ := bindE hm
   refine sC 36 [.agg #[.slice A0_0 l0_0.length cap0_0, .slice A0_1 l0_1.length cap0_1], ii x2, .func (.func 80) #[] #[pt b21, pt b1, pt b4, pt b2, pt b22]] ent79 (c_iOrderFirst2 hy3 F38 F39 F47 F38 F39 F41 F44 F48 F42 F50 (Dj.of L0_0 (low1 G22)).symm (Dj.of L0_1 (low1 G22)).symm (Dj.of L0_0 (low1 G22)).symm (Dj.of L0_1 (low1 G22)).symm (D48).symm (D51).symm (D50).symm (D49).symm D58 (Dj.of L0_0 G18).symm (Dj.of L0_1 G18).symm (Dj.of L0_0 G18).symm (Dj.of L0_1 G18).symm (D37).symm (D38).symm D35 D55) ?_
   rintro _ w40 ⟨rfl, F51, F52, hc38⟩
   replace F38 := F38.chg hc38 (Dj.app (Dj.of L0_0 (low1 G22)) (Dj.app (Dj.of L0_0 G18) Dj.nil))
   replace F39 := F39.chg hc38 (Dj.app (Dj.of L0_1 (low1 G22)) (Dj.app (Dj.of L0_1 G18) Dj.nil))
   replace F40 := F40.chg hc38 (Dj.app (Dj.of Lg (low1 G22)) (Dj.app (Dj.of Lg G18) Dj.nil))
   replace F41 := F41.chg hc38 (dj1 (Dj.app D48 (Dj.app D37 Dj.nil)))
   replace F42 := F42.chg hc38 (dj1 (Dj.app D49 (Dj.app (D35).symm Dj.nil)))
   replace F44 := F44.chg hc38 (dj1 (Dj.app D51 (Dj.app D38 Dj.nil)))
   replace F45 := F45.chg hc38 (Dj.app D52 (Dj.app (D46).symm Dj.nil))
   replace F50 := F50.chg hc38 (dj1 (Dj.app (D58).symm (Dj.app (D55).symm Dj.nil)))
   replace hB := hB.inS hc38 (inApp (inLow (low1 G22)) (inApp (inLow G18) inNil))
   clear F47
   clear F48
   refine ⟨.tuple #[], rfl, ?_⟩
   refine wN <| sR <| wS_bs0 (α := Int) (enc := encI) (d := 37) (t := 56) (T := 3) (by kernel_rfl) el56 ?_
   intro b23 w41 G24 F53 hc39
   have D59 := Dj.of (lt1 F41.lt) (low1 G24)
   have D60 := Dj.of (lt1 F42.lt) (low1 G24)
   have D61 := Dj.of F52.low (low1 G24)
   have D62 := Dj.of (lt1 F44.lt) (low1 G24)
   have D63 := Dj.of F45.low (low1 G24)
   have D64 := Dj.of (lt1 F51.lt) (low1 G24)
   have D65 := Dj.of (lt1 F50.lt) (low1 G24)
   replace F38 := F38.c hc39
   replace F39 := F39.c hc39
   replace F40 := F40.c hc39
   replace F41 := F41.c hc39
   replace F42 := F42.c hc39
   replace F52 := F52.c hc39
   replace F44 := F44.c hc39
   replace F45 := F45.c hc39
   replace F51 := F51.c hc39
   replace F50 := F50.c hc39
   replace G24 := Nat.le_trans hB.size G24
   replace G24 := low1 G24
   replace hB := hB.q hc39
   refine wP 1 [(9, .slice (ad b23) (([] : List Int)).length 0)] <| wN <| cW_seq <| sR <| sL 38 ⟨b21, 0, none⟩ (ii y3.1) vt3 ((F51).cell 0) <| wP 1 [(10, ii y3.1)] <| wN ?_
   obtain ⟨r2, hr2, hm⟩ := bindE hm
   have hm2 := hm
   refine cW_cut (fun a' w' => ∃ l6 : List Int, ∃ A4 : Option Addr, ∃ cap4 : Nat, ∃ fp3 : List Nat, l6 = r2 ∧ Fr 59 [(1, pt b1), (4, pt b2), (5, pt b4), (6, .slice A3 l4.length cap3), (7, pt b21), (9, .slice A4 l6.length cap4)] a' ∧ S1 w' fp0_0 A0_0 l0_0 ∧ S1 w' fp0_1 A0_1 l0_1 ∧ Sl 1 encU w' [1] (ad 1) tab64 ∧ Cl w' b1 58 [.slice A0_0 l0_0.length cap0_0, .slice A0_1 l0_1.length cap0_1] ∧ Cl w' b2 105 [.map (some b3)] ∧ Mp okI kI kI w' b3 y3.2 ∧ Cl w' b4 3 [ii x2] ∧ OwR 1 encI 56 3 w' fp2 fr2 A3 cap3 l4 ∧ Cl w' b21 3 [ii y3.1] ∧ O1 3 w' fp3 A4 cap4 l6 ∧ (∀ x ∈ fp3, w0.heap.size ≤ x) ∧ Dj [b1] fp3 ∧ Dj [b2] fp3 ∧ Dj [b3] fp3 ∧ Dj [b4] fp3 ∧ Dj (fp2 ++ fr2) fp3 ∧ Dj [b21] fp3 ∧ Chg [] w0 w') ?_ ?_
   ·refine cW_block ?_
    refine cW_loop _ (fun (s3 : (List Int) × Int) a' w' => ∃ l7 : List Int, ∃ A5 : Option Addr, ∃ cap5 : Nat, ∃ fp4 : List Nat, ∃ x3 : Int, (l7, x3) = s3 ∧ Fr 59 [(1, pt b1), (4, pt b2), (5, pt b4), (6, .slice A3 l4.length cap3), (7, pt b21), (9, .slice A5 l7.length cap5), (10, ii x3)] a' ∧ S1 w' fp0_0 A0_0 l0_0 ∧ S1 w' fp0_1 A0_1 l0_1 ∧ Sl 1 encU w' [1] (ad 1) tab64 ∧ Cl w' b1 58 [.slice A0_0 l0_0.length cap0_0, .slice A0_1 l0_1.length cap0_1] ∧ Cl w' b2 105 [.map (some b3)] ∧ Mp okI kI kI w' b3 y3.2 ∧ Cl w' b4 3 [ii x2] ∧ OwR 1 encI 56 3 w' fp2 fr2 A3 cap3 l4 ∧ Cl w' b21 3 [ii y3.1] ∧ O1 3 w' fp4 A5 cap5 l7 ∧ (∀ x ∈ fp4, w0.heap.size ≤ x) ∧ Dj [b1] fp4 ∧ Dj [b2] fp4 ∧ Dj [b3] fp4 ∧ Dj [b4] fp4 ∧ Dj (fp2 ++ fr2) fp4 ∧ Dj [b21] fp4 ∧ Chg [] w0 w') hr2 (fun hst => ⟨([] : List Int), (ad b23), 0, [b23], y3.1, rfl, fO hst, F38, F39, F40, F41, F42, F52, F44, F45, F51, F53, G24, D59, D60, D61, D62, D63, D64, hB⟩) ?_
    rintro _ c2 a' w42 ⟨l7, A5, cap5, fp4, x3, rfl, hF3, F54, F55, F56, F57, F58, F59, F60, F61, F62, F63, G25, D66, D67, D68, D69, D70, D71, hB⟩ hx2
    refine gO hF3 ?_
    have hm := hx2
    unfold m_iOrderBest_s4 at hm
    refine cW_seq <| sR <| wP 2 [(40, .bool (x3 != 0)), (39, ii x3)] <| wN <| cC (x3 != 0) (fun hb3 => ?_) (fun hb3 => ?_)
    ·have hm := condT hb3 hm
     refine cW_skip <| eX_then <| cW_seq <| cW_block <| cW_region <| wP 3 [(47, .int .u64 (wu x3)), (46, ii x3), (45, .slice A5 l7.length cap5)] ?_
     obtain ⟨y4, hy4, hm⟩ := bindE hm
     refine sC 48 [.int .u64 (wu x3)] ent81 (c_mTrail hy4 F56) ?_
     rintro _ w43 ⟨rfl, hc40⟩
     replace F54 := F54.c hc40
     replace F55 := F55.c hc40
     replace F56 := F56.c hc40
     replace F57 := F57.c hc40
     replace F58 := F58.c hc40
     replace F59 := F59.c hc40
     replace F60 := F60.c hc40
     replace F61 := F61.c hc40
     replace F62 := F62.c hc40
     replace F63 := F63.c hc40
     replace hB := hB.q hc40
     refine ⟨ii y4, rfl, ?_⟩
     refine wS_bs (enc := encI) ([y4] : List Int) [ii y4] (d := 49) (t := 56) (T := 3) (n := 1) (ps := [(0, ii y4)]) (by kernel_rfl) el56 encI_ok (by rfl) (by omega) (by omega) (by kernel_rfl) (by rfl) ?_
     intro b24 w44 G26 F64 hc41
     have D72 := Dj.of (lt1 F57.lt) (low1 G26)
     have D73 := Dj.of (lt1 F58.lt) (low1 G26)
     have D74 := Dj.of F59.low (low1 G26)
     have D75 := Dj.of (lt1 F60.lt) (low1 G26)
     have D76 := Dj.of F61.low (low1 G26)
     have D77 := Dj.of (lt1 F62.lt) (low1 G26)
     have D78 := Dj.of F63.low (low1 G26)
     replace F54 := F54.c hc41
     replace F55 := F55.c hc41
     replace F56 := F56.c hc41
     replace F57 := F57.c hc41
     replace F58 := F58.c hc41
     replace F59 := F59.c hc41
     replace F60 := F60.c hc41
     replace F61 := F61.c hc41
     replace F62 := F62.c hc41
     replace F63 := F63.c hc41
     replace G26 := Nat.le_trans hB.size G26
     replace G26 := low1 G26
     replace hB := hB.q hc41
     obtain ⟨_, hk1, hm⟩ := bindE hm
     replace hk1 := apE hk1
     refine wS_append (enc := encI) (l := (l7 : List Int)) (l2 := (([y4] : List Int) : List Int)) (d := 50) (t := 56) (T := 3) (A := A5) (A2 := (ad b24)) (cap := cap5) (cap2 := 1) (by kernel_rfl) el56 encI_ok F63 (F64.sl encI_ok) (by rfl) hk1 ?_
     intro w45 fp5 A6 cap6 F65 hc42 hp1
     have G27 := low_ap G25 hB.size hp1
     have D79 : Dj [b1] fp5 := Dj.ap D66 (lt1 F57.lt) hp1
     have D80 : Dj [b2] fp5 := Dj.ap D67 (lt1 F58.lt) hp1
     have D81 : Dj [b3] fp5 := Dj.ap D68 F59.low hp1
     have D82 : Dj [b4] fp5 := Dj.ap D69 (lt1 F60.lt) hp1
     have D83 : Dj (fp2 ++ fr2) fp5 := Dj.ap D70 F61.low hp1
     have D84 : Dj [b21] fp5 := Dj.ap D71 (lt1 F62.lt) hp1
     have D85 : Dj [b24] fp5 := Dj.ap (D78).symm F64.low hp1
     replace F54 := F54.chg hc42 (Dj.of L0_0 G25)
     replace F55 := F55.chg hc42 (Dj.of L0_1 G25)
     replace F56 := F56.chg hc42 (Dj.of Lg G25)
     replace F57 := F57.chg hc42 (dj1 D66)
     replace F58 := F58.chg hc42 (dj1 D67)
     replace F59 := F59.chg hc42 D68
     replace F60 := F60.chg hc42 (dj1 D69)
     replace F61 := F61.chg hc42 D70
     replace F62 := F62.chg hc42 (dj1 D71)
     replace F64 := F64.chg hc42 (D78).symm
     replace hB := hB.inS hc42 (inLow G25)
     refine wP 1 [(9, .slice A6 (l7 ++ (([y4] : List Int))).length cap6)] <| wE <| eX_block <| eX_then <| cW_region <| wP 5 [(10, ii (andI x3 (wr (x3 - 1)))), (44, ii (andI x3 (wr (x3 - 1)))), (43, ii (wr (x3 - 1))), (42, ii x3), (41, ii x3)] <| wE ?_
     obtain rfl := someE (x := (Ctl.next ((l7 ++ (([y4] : List Int)), andI x3 (wr (x3 - 1)))))) hm
     exact eX_next hx2 (fun hst => ⟨l7 ++ (([y4] : List Int)), A6, cap6, fp5, andI x3 (wr (x3 - 1)), rfl, fO hst, F54, F55, F56, F57, F58, F59, F60, F61, F62, F65, G27, D79, D80, D81, D82, D83, D84, hB⟩)
    have hm := condF hb3 hm
    refine cW_exit <| eX_then_exit ?_
    obtain rfl := someE (x := Ctl.out l7) hm
    refine eX_outX hx2 (fun hr3 => ?_)
    replace hr3 := hr3.symm
    subst hr3
    refine eX_block_hit ?_
    exact eX_J (fun hst => ⟨l7, A5, cap5, fp4, rfl, fO hst, F54, F55, F56, F57, F58, F59, F60, F61, F62, F63, G25, D66, D67, D68, D69, D70, D71, hB⟩)
   rintro a' w46 ⟨l6, A4, cap4, fp3, hJ, hF4, F66, F67, F68, F69, F70, F71, F72, F73, F74, F75, G28, D86, D87, D88, D89, D90, D91, hB⟩
   subst hJ
   refine gX hF4 <| eX_then <| cW_drawnTail (fp2 ++ fr2) 8 (by kernel_rfl) (by kernel_rfl) (fun w47 hc43 => ?_)
   replace F66 := F66.c hc43
   replace F67 := F67.c hc43
   replace F68 := F68.c hc43
   replace F69 := F69.c hc43
   replace F70 := F70.c hc43
   replace F71 := F71.c hc43
   replace F72 := F72.c hc43
   replace F73 := F73.c hc43
   replace F74 := F74.c hc43
   replace F75 := F75.c hc43
   replace hB := hB.q hc43
   have hS := Chg.refl (fp2 ++ fr2) w47
   have Z13 := F66
   have Z14 := F67
   have Z15 := F68
   have Z16 := F69
   have Z17 := F70
   have Z18 := F71
   have Z19 := F72
   have Z20 := F73
   have Z21 := F74
   have Z22 := F75
   refine hT [0, 1] [(52, .slice A4 l6.length cap4), (51, .slice A3 l4.length cap3)] <| hL 4 55 ⟨b4, 0, none⟩ (ii x2) vt3 (fun W hW => (Z19.chg hW (dj1 D47)).cell 0) ?_
   refine hL 5 56 ⟨b21, 0, none⟩ (ii y3.1) vt3 (fun W hW => (Z21.chg hW (dj1 (D52).symm)).cell 0) ?_
   refine hT [6] [(57, ii (andNI x2 y3.1))] ?_
   refine wH_all [2] (by rfl) (by kernel_rfl) (by simp) ⟨⟨by kernel_rfl, ?_⟩, trivial⟩
   refine wS_row1 (k := 1) (enc := encI) (l := l6) (d := 53) (t := 54) (T := 56) (B := A4) (c := cap4) (by kernel_rfl) el54 F75 ?_
   intro b25 w48 G29 F76 hc44
   have D92 : Dj [b1] ([b25] ++ fp3) := Dj.app (Dj.of (lt1 F69.lt) (low1 G29)) D86
   have D93 : Dj [b2] ([b25] ++ fp3) := Dj.app (Dj.of (lt1 F70.lt) (low1 G29)) D87
   have D94 : Dj [b3] ([b25] ++ fp3) := Dj.app (Dj.of F71.low (low1 G29)) D88
   have D95 : Dj [b4] ([b25] ++ fp3) := Dj.app (Dj.of (lt1 F72.lt) (low1 G29)) D89
   have D96 : Dj (fp2 ++ fr2) ([b25] ++ fp3) := Dj.app (Dj.of F73.low (low1 G29)) D90
   have D97 : Dj [b21] ([b25] ++ fp3) := Dj.app (Dj.of (lt1 F74.lt) (low1 G29)) D91
   replace F66 := F66.c hc44
   replace F67 := F67.c hc44
   replace F68 := F68.c hc44
   replace F69 := F69.c hc44
   replace F70 := F70.c hc44
   replace F71 := F71.c hc44
   replace F72 := F72.c hc44
   replace F73 := F73.c hc44
   replace F74 := F74.c hc44
   replace F75 := F75.c hc44
   have hSz := hS
   replace hS := hS.inS hc44 inNil
   replace G29 := Nat.le_trans hB.size G29
   replace G29 := lowApp (low1 G29) G28
   replace hB := hB.q hc44
   replace F75 := (F75.sl encI_ok)
   refine wS_end (by kernel_rfl) <| eX_KH hS ?_
   refine wH_all [3] (by rfl) (by kernel_rfl) (by simp) ⟨⟨by kernel_rfl, ?_⟩, trivial⟩
   obtain ⟨_, hk2, hm⟩ := bindE hm
   replace hk2 := apE hk2
   refine wS_appendR (k := 1) (enc := encI) (ll := (l4 : List (List Int))) (ll2 := (([l6] : List (List Int)) : List (List Int))) (d := 54) (t := 54) (T := 56) (A := A3) (A2 := (ad b25)) (cap := cap3) (cap2 := 1) (by kernel_rfl) el54 F73 F76 (by rfl) D96 hk2 ?_
   intro w49 fp6 A7 cap7 F77 hc45 hp2
   have G30 := lowApp (low_ap (low_inl G21) hB.size hp2) (lowApp (low_inr G21) (low_inr G29))
   have D98 : Dj [b1] (fp6 ++ (fr2 ++ fp3)) := Dj.app (Dj.ap (Dj.inl D44) (lt1 F69.lt) hp2) (Dj.app (Dj.inr D44) (Dj.inr D92))
   have D99 : Dj [b2] (fp6 ++ (fr2 ++ fp3)) := Dj.app (Dj.ap (Dj.inl D45) (lt1 F70.lt) hp2) (Dj.app (Dj.inr D45) (Dj.inr D93))
   have D100 : Dj [b3] (fp6 ++ (fr2 ++ fp3)) := Dj.app (Dj.ap (Dj.inl D46) F71.low hp2) (Dj.app (Dj.inr D46) (Dj.inr D94))
   have D101 : Dj [b4] (fp6 ++ (fr2 ++ fp3)) := Dj.app (Dj.ap (Dj.inl D47) (lt1 F72.lt) hp2) (Dj.app (Dj.inr D47) (Dj.inr D95))
   have D102 : Dj [b21] (fp6 ++ (fr2 ++ fp3)) := Dj.app (Dj.ap (Dj.inl (D52).symm) (lt1 F74.lt) hp2) (Dj.app (Dj.inr (D52).symm) (Dj.inr D97))
   replace F66 := F66.chg hc45 (Dj.inl (Dj.of L0_0 G21))
   replace F67 := F67.chg hc45 (Dj.inl (Dj.of L0_1 G21))
   replace F68 := F68.chg hc45 (Dj.inl (Dj.of Lg G21))
   replace F69 := F69.chg hc45 (dj1 (Dj.inl D44))
   replace F70 := F70.chg hc45 (dj1 (Dj.inl D45))
   replace F71 := F71.chg hc45 (Dj.inl D46)
   replace F72 := F72.chg hc45 (dj1 (Dj.inl D47))
   replace F74 := F74.chg hc45 (dj1 (Dj.inl (D52).symm))
   have hSz := hS
   replace hS := hS.trans (hc45.more (fun x hx => List.mem_append_left _ hx))
   replace hB := hB.inS hc45 (memS_inl (inLow G21))
   refine wS_end (by kernel_rfl) <| eX_KH hS <| hT [7] [(6, .slice A7 (l4 ++ (([l6] : List (List Int)))).length cap7)] <| wD <| eX_tail <| wS_store (T := 3) (g := b4) (o := 0) (ad := ⟨b4, 0, none⟩) (v := ii (andNI x2 y3.1)) (vs := [ii (andNI x2 y3.1)]) (by kernel_rfl) (by rfl) sz3 (by rfl) (by rfl) F72 (bl rfl) ?_
   intro w50 F78 hc46
   replace F66 := F66.chg hc46 (Dj.of L0_0 (low1 G19))
   replace F67 := F67.chg hc46 (Dj.of L0_1 (low1 G19))
   replace F68 := F68.chg hc46 (Dj.of Lg (low1 G19))
   replace F69 := F69.chg hc46 (dj1 D39)
   replace F70 := F70.chg hc46 (dj1 (D36).symm)
   replace F71 := F71.chg hc46 (D38).symm
   replace F74 := F74.chg hc46 (dj1 (D51).symm)
   replace F77 := F77.chg hc46 (D101).symm
   replace hB := hB.inS hc46 (inLow (low1 G19))
   replace F78 : Cl w50 b4 3 [ii (andNI x2 y3.1)] := F78
   clear F72
   refine wE <| eX_block ?_
   obtain rfl := someE (x := (Ctl.next ((l4 ++ (([l6] : List (List Int))), y3.2, andNI x2 y3.1)))) hm
   exact eX_next hx1 (fun hst => ⟨l4 ++ (([l6] : List (List Int))), A7, cap7, fp6, (fr2 ++ fp3), y3.2, andNI x2 y3.1, rfl, fO hst, F66, F67, F68, F69, F70, F71, F78, F77, G30, D98, D99, D100, D101, hB⟩)
  have hm := condF hb2 hm
  refine cW_exit <| eX_then_exit ?_
  obtain rfl := someE (x := Ctl.out l4) hm
  refine eX_outX hx1 (fun hr4 => ?_)
  replace hr4 := hr4.symm
  subst hr4
  refine eX_block_hit ?_
  exact eX_J (fun hst => ⟨l4, A3, cap3, fp2, fr2, rfl, fO hst, F40, F45, G21, hB⟩)
 rintro a' w51 ⟨l3, A1, cap1, fp1, fr1, hJ, hF5, F79, F80, G31, hB⟩
 subst hJ
 refine gX hF5 <| eX_then <| sR <| wP 3 [(3, .bool (true)), (2, .slice A1 l3.length cap1), (58, .slice A1 l3.length cap1)] <| wN <| cW_ret ?_
 obtain rfl := someE (x := ((l3, true))) hm
 refine rB (.slice A1 l3.length cap1) (.bool (true)) 2 3 ?_
 exact ⟨A1, cap1, fp1, fr1, rfl, F80, G31, hB⟩

set_option maxRecDepth 100000 in
theorem c_iChannColum {w0 l0_0 A0_0 cap0_0 fp0_0 l0_1 A0_1 cap0_1 fp0_1 b0 p1} {r : (List Int)} (hm : m_iChannColum l0_0 l0_1 p1 = some r) (F0_0 : S1 w0 fp0_0 A0_0 l0_0) (F0_1 : S1 w0 fp0_1 A0_1 l0_1) (F0 : Cl w0 b0 26 [.slice A0_0 l0_0.length cap0_0, .slice A0_1 l0_1.length cap0_1]) :
  Calls Tryd.prog 73 #[pt b0, ii p1] w0 fun e w' => ∃ A100 cap100 fp100, e = .returned (.slice A100 r.length cap100) ∧ O1 2 w' fp100 A100 cap100 r ∧ (∀ x ∈ fp100, w0.heap.size ≤ x) ∧ Chg [] w0 w' := by
 have L0_0 := F0_0.low
 have L0_1 := F0_1.low
 have L0 := lt1 F0.lt
 have hB : Chg [] w0 w0 := Chg.refl _ _
 unfold m_iChannColum at hm
 refine enterE (N := 42) Tryd.func73 (by rfl) Tryd.ntmps73 (by simp) [(0, pt b0), (1, ii p1)] (by rfl) (by kernel_rfl) (fun a => ?_)
 refine sR <| wP 1 [(4, .slice none 0 0)] <| wN <| sR <| wS_bs0 (α := Int) (enc := encI) (d := 7) (t := 24) (T := 2) (by kernel_rfl) el24 ?_
 intro b1 w1 G1 F1 hc1
 replace F0_0 := F0_0.c hc1
 replace F0_1 := F0_1.c hc1
 replace F0 := F0.c hc1
 replace G1 := Nat.le_trans hB.size G1
 replace G1 := low1 G1
 replace hB := hB.q hc1
 refine wP 1 [(5, .slice (ad b1) (([] : List Int)).length 0)] <| wN <| cW_seq <| sR <| wP 3 [(10, pt b0), (9, pt b0), (8, pt b0)] <| sL 11 ⟨b0, 0, none⟩ (.slice A0_0 l0_0.length cap0_0) vt24 ((F0).cell 0) <| wP 2 [(13, ii 0), (12, ii (l0_0.length : Int))] <| wN ?_
 obtain ⟨r1, hr1, hm⟩ := bindE hm
 have hm1 := hm
 refine cW_cut (fun a' w' => ∃ l1 : List Int, ∃ A1 : Option Addr, ∃ cap1 : Nat, ∃ fp1 : List Nat, l1 = r1 ∧ Fr 42 [(5, .slice A1 l1.length cap1)] a' ∧ O1 2 w' fp1 A1 cap1 l1 ∧ (∀ x ∈ fp1, w0.heap.size ≤ x) ∧ Chg [] w0 w') ?_ ?_
 ·refine cW_block ?_
  refine cW_loop _ (fun (s1 : (List Int) × Int) a' w' => ∃ l3 : List Int, ∃ A3 : Option Addr, ∃ cap3 : Nat, ∃ fp2 : List Nat, ∃ x1 : Int, (l3, x1) = s1 ∧ Fr 42 [(0, pt b0), (1, ii p1), (5, .slice A3 l3.length cap3), (12, ii (l0_0.length : Int)), (13, ii x1)] a' ∧ S1 w' fp0_0 A0_0 l0_0 ∧ S1 w' fp0_1 A0_1 l0_1 ∧ Cl w' b0 26 [.slice A0_0 l0_0.length cap0_0, .slice A0_1 l0_1.length cap0_1] ∧ O1 2 w' fp2 A3 cap3 l3 ∧ (∀ x ∈ fp2, w0.heap.size ≤ x) ∧ Chg [] w0 w') hr1 (fun hst => ⟨([] : List Int), (ad b1), 0, [b1], 0, rfl, fO hst, F0_0, F0_1, F0, F1, G1, hB⟩) ?_
  rintro _ c1 a' w2 ⟨l3, A3, cap3, fp2, x1, rfl, hF1, F2, F3, F4, F5, G2, hB⟩ hx1
  refine gO hF1 ?_
  have hm := hx1
  unfold m_iChannColum_s1 at hm
  refine sR <| wP 1 [(14, .bool (decide (x1 < ((l0_0.length : Int)))))] <| wN <| cW_seq <| cC (decide (x1 < ((l0_0.length : Int)))) (fun hb1 => ?_) (fun hb1 => ?_)
  ·have hm := condT hb1 hm
   refine cW_skip <| eX_then <| cW_seq <| cW_block ?_
   obtain ⟨s2, hs1, hm⟩ := bindE hm
   refine cW_cut (fun a' w' => ∃ l4 : List Int, ∃ A4 : Option Addr, ∃ cap4 : Nat, ∃ fp3 : List Nat, l4 = s2 ∧ Fr 42 [(0, pt b0), (1, ii p1), (5, .slice A4 l4.length cap4), (12, ii (l0_0.length : Int)), (13, ii x1)] a' ∧ S1 w' fp0_0 A0_0 l0_0 ∧ S1 w' fp0_1 A0_1 l0_1 ∧ Cl w' b0 26 [.slice A0_0 l0_0.length cap0_0, .slice A0_1 l0_1.length cap0_1] ∧ O1 2 w' fp3 A4 cap4 l4 ∧ (∀ x ∈ fp3, w0.heap.size ≤ x) ∧ Chg [] w0 w') ?_ ?_
   ·have hm := hs1
    refine sR <| wP 2 [(6, ii x1), (15, ii x1)] <| wN <| sR <| wP 3 [(18, pt b0), (17, pt b0), (16, pt b0)] <| sL 19 ⟨b0, 0, none⟩ (.slice A0_0 l0_0.length cap0_0) vt24 ((F4).cell 0) <| wP 1 [(20, ii x1)] ?_
    obtain ⟨x2, hx2, hm⟩ := bindE hm
    refine sI 21 A0_0 l0_0.length cap0_0 .i64 x1 sl24 (F2.is hx2) <| sL 22 (elA A0_0 1 (x1) 0) (ii x2) vt2 (Sl.cell F2 hx2 0 (by rfl)) <| wP 3 [(25, .bool (x2 == p1)), (24, .bool (x2 == p1)), (23, ii p1)] <| wS_bool (x2 == p1) (fun hb2 => ?_) (fun hb2 => ?_)
    ·have hm := condT hb2 hm
     rewrite [hb2]
     refine wP 10 [(35, .bool (true)), (34, undef), (33, undef), (32, undef), (31, undef), (30, undef), (29, undef), (28, undef), (27, undef), (26, undef)] <| wN <| cP [(0, pt b0), (1, ii p1), (5, .slice A3 l3.length cap3), (6, ii x1), (12, ii (l0_0.length : Int)), (13, ii x1), (35, .bool (true))] (fun a1 => ?_)
     refine cCt <| cW_region <| wP 2 [(37, ii x1), (36, .slice A3 l3.length cap3)] <| wS_bs (enc := encI) ([x1] : List Int) [ii x1] (d := 38) (t := 24) (T := 2) (n := 1) (ps := [(0, ii x1)]) (by kernel_rfl) el24 encI_ok (by rfl) (by omega) (by omega) (by kernel_rfl) (by rfl) ?_
     intro b2 w3 G3 F6 hc2
     have D1 := Dj.of F5.low (low1 G3)
     replace F2 := F2.c hc2
     replace F3 := F3.c hc2
     replace F4 := F4.c hc2
     replace F5 := F5.c hc2
     replace G3 := Nat.le_trans hB.size G3
     replace G3 := low1 G3
     replace hB := hB.q hc2
     obtain ⟨_, hk1, hm⟩ := bindE hm
     replace hk1 := apE hk1
     refine wS_append (enc := encI) (l := (l3 : List Int)) (l2 := (([x1] : List Int) : List Int)) (d := 39) (t := 24) (T := 2) (A := A3) (A2 := (ad b2)) (cap := cap3) (cap2 := 1) (by kernel_rfl) el24 encI_ok F5 (F6.sl encI_ok) (by rfl) hk1 ?_
     intro w4 fp4 A5 cap5 F7 hc3 hp1
     have G4 := low_ap G2 hB.size hp1
     have D2 : Dj [b2] fp4 := Dj.ap (D1).symm F6.low hp1
     replace F2 := F2.chg hc3 (Dj.of L0_0 G2)
     replace F3 := F3.chg hc3 (Dj.of L0_1 G2)
     replace F4 := F4.chg hc3 (dj1 (Dj.of L0 G2))
     replace F6 := F6.chg hc3 (D1).symm
     replace hB := hB.inS hc3 (inLow G2)
     refine wP 1 [(5, .slice A5 (l3 ++ (([x1] : List Int))).length cap5)] <| wE ?_
     obtain rfl := someE (x := (l3 ++ (([x1] : List Int)))) hm
     exact eX_J (fun hst => ⟨l3 ++ (([x1] : List Int)), A5, cap5, fp4, rfl, fO hst, F2, F3, F4, F7, G4, hB⟩)
    have hm := condF hb2 hm
    rewrite [hb2]
    refine wP 3 [(28, .pointer (some ⟨b0, 1, none⟩)), (27, pt b0), (26, pt b0)] <| sL 29 ⟨b0, 1, none⟩ (.slice A0_1 l0_1.length cap0_1) vt24 ((F4).cell 1) <| wP 1 [(30, ii x1)] ?_
    obtain ⟨x3, hx3, hm⟩ := bindE hm
    refine sI 31 A0_1 l0_1.length cap0_1 .i64 x1 sl24 (F3.is hx3) <| sL 32 (elA A0_1 1 (x1) 0) (ii x3) vt2 (Sl.cell F3 hx3 0 (by rfl)) <| wP 3 [(35, .bool (x3 == p1)), (34, .bool (x3 == p1)), (33, ii p1)] <| wN <| cP [(0, pt b0), (1, ii p1), (5, .slice A3 l3.length cap3), (6, ii x1), (12, ii (l0_0.length : Int)), (13, ii x1), (35, .bool (x3 == p1))] (fun a2 => ?_)
    refine cC (x3 == p1) (fun hb3 => ?_) (fun hb3 => ?_)
    ·have hm := condT hb3 hm
     refine cW_region <| wP 2 [(37, ii x1), (36, .slice A3 l3.length cap3)] <| wS_bs (enc := encI) ([x1] : List Int) [ii x1] (d := 38) (t := 24) (T := 2) (n := 1) (ps := [(0, ii x1)]) (by kernel_rfl) el24 encI_ok (by rfl) (by omega) (by omega) (by kernel_rfl) (by rfl) ?_
     intro b3 w5 G5 F8 hc4
     have D3 := Dj.of F5.low (low1 G5)
     replace F2 := F2.c hc4
     replace F3 := F3.c hc4
     replace F4 := F4.c hc4
     replace F5 := F5.c hc4
     replace G5 := Nat.le_trans hB.size G5
     replace G5 := low1 G5
     replace hB := hB.q hc4
     obtain ⟨_, hk2, hm⟩ := bindE hm
     replace hk2 := apE hk2
     refine wS_append (enc := encI) (l := (l3 : List Int)) (l2 := (([x1] : List Int) : List Int)) (d := 39) (t := 24) (T := 2) (A := A3) (A2 := (ad b3)) (cap := cap3) (cap2 := 1) (by kernel_rfl) el24 encI_ok F5 (F8.sl encI_ok) (by rfl) hk2 ?_
     intro w6 fp5 A6 cap6 F9 hc5 hp2
     have G6 := low_ap G2 hB.size hp2
     have D4 : Dj [b3] fp5 := Dj.ap (D3).symm F8.low hp2
     replace F2 := F2.chg hc5 (Dj.of L0_0 G2)
     replace F3 := F3.chg hc5 (Dj.of L0_1 G2)
     replace F4 := F4.chg hc5 (dj1 (Dj.of L0 G2))
     replace F8 := F8.chg hc5 (D3).symm
     replace hB := hB.inS hc5 (inLow G2)
     refine wP 1 [(5, .slice A6 (l3 ++ (([x1] : List Int))).length cap6)] <| wE ?_
     obtain rfl := someE (x := (l3 ++ (([x1] : List Int)))) hm
     exact eX_J (fun hst => ⟨l3 ++ (([x1] : List Int)), A6, cap6, fp5, rfl, fO hst, F2, F3, F4, F9, G6, hB⟩)
    have hm := condF hb3 hm
    refine cW_skip ?_
    obtain rfl := someE (x := l3) hm
    exact eX_J (fun hst => ⟨l3, A3, cap3, fp2, rfl, fO hst, F2, F3, F4, F5, G2, hB⟩)
   rintro a' w7 ⟨l4, A4, cap4, fp3, hJ, hF2, F10, F11, F12, F13, G7, hB⟩
   subst hJ
   refine gX hF2 <| eX_block <| eX_then <| cW_region <| wP 2 [(13, ii (wr (x1 + 1))), (40, ii (wr (x1 + 1)))] <| wE ?_
   obtain rfl := someE (x := (Ctl.next ((l4, wr (x1 + 1))))) hm
   exact eX_next hx1 (fun hst => ⟨l4, A4, cap4, fp3, wr (x1 + 1), rfl, fO hst, F10, F11, F12, F13, G7, hB⟩)
  have hm := condF hb1 hm
  refine cW_exit <| eX_then_exit ?_
  obtain rfl := someE (x := Ctl.out l3) hm
  refine eX_outX hx1 (fun hr2 => ?_)
  replace hr2 := hr2.symm
  subst hr2
  refine eX_block_hit ?_
  exact eX_J (fun hst => ⟨l3, A3, cap3, fp2, rfl, fO hst, F5, G2, hB⟩)
 rintro a' w8 ⟨l1, A1, cap1, fp1, hJ, hF3, F14, G8, hB⟩
 subst hJ
 refine gX hF3 <| eX_then <| sR <| wP 2 [(4, .slice A1 l1.length cap1), (41, .slice A1 l1.length cap1)] <| wN <| cW_ret ?_
 obtain rfl := someE (x := l1) hm
 refine rA (.slice A1 l1.length cap1) 4 ?_
 exact ⟨A1, cap1, fp1, rfl, F14, G8, hB⟩

set_option maxRecDepth 100000 in
theorem c_iChannNets {w0 l0_0 A0_0 cap0_0 fp0_0 l0_1 A0_1 cap0_1 fp0_1 b0} {r : (List Int)} (hm : m_iChannNets l0_0 l0_1 = some r) (F0_0 : S1 w0 fp0_0 A0_0 l0_0) (F0_1 : S1 w0 fp0_1 A0_1 l0_1) (F0 : Cl w0 b0 26 [.slice A0_0 l0_0.length cap0_0, .slice A0_1 l0_1.length cap0_1]) :
  Calls Tryd.prog 39 #[pt b0] w0 fun e w' => ∃ A100 cap100 fp100, e = .returned (.slice A100 r.length cap100) ∧ O1 2 w' fp100 A100 cap100 r ∧ (∀ x ∈ fp100, w0.heap.size ≤ x) ∧ Chg [] w0 w' := by
 have L0_0 := F0_0.low
 have L0_1 := F0_1.low
 have L0 := lt1 F0.lt
 have hB : Chg [] w0 w0 := Chg.refl _ _
 unfold m_iChannNets at hm
 refine enterE (N := 20) Tryd.func39 (by rfl) Tryd.ntmps39 (by simp) [(0, pt b0)] (by rfl) (by kernel_rfl) (fun a => ?_)
 refine sR <| wP 1 [(2, .slice none 0 0)] <| wN <| sR <| wS_bs0 (α := Int) (enc := encI) (d := 5) (t := 24) (T := 2) (by kernel_rfl) el24 ?_
 intro b1 w1 G1 F1 hc1
 replace F0_0 := F0_0.c hc1
 replace F0_1 := F0_1.c hc1
 replace F0 := F0.c hc1
 replace G1 := Nat.le_trans hB.size G1
 replace G1 := low1 G1
 replace hB := hB.q hc1
 refine wP 1 [(3, .slice (ad b1) (([] : List Int)).length 0)] <| wN <| cW_seq <| sR <| wP 1 [(4, ii 1)] <| wN ?_
 obtain ⟨r1, hr1, hm⟩ := bindE hm
 have hm1 := hm
 refine cW_cut (fun a' w' => ∃ l1 : List Int, ∃ A1 : Option Addr, ∃ cap1 : Nat, ∃ fp1 : List Nat, l1 = r1 ∧ Fr 20 [(3, .slice A1 l1.length cap1)] a' ∧ O1 2 w' fp1 A1 cap1 l1 ∧ (∀ x ∈ fp1, w0.heap.size ≤ x) ∧ Chg [] w0 w') ?_ ?_
 ·refine cW_block ?_
  refine cW_loop _ (fun (s1 : (List Int) × Int) a' w' => ∃ l3 : List Int, ∃ A3 : Option Addr, ∃ cap3 : Nat, ∃ fp2 : List Nat, ∃ x1 : Int, (l3, x1) = s1 ∧ Fr 20 [(0, pt b0), (3, .slice A3 l3.length cap3), (4, ii x1)] a' ∧ S1 w' fp0_0 A0_0 l0_0 ∧ S1 w' fp0_1 A0_1 l0_1 ∧ Cl w' b0 26 [.slice A0_0 l0_0.length cap0_0, .slice A0_1 l0_1.length cap0_1] ∧ O1 2 w' fp2 A3 cap3 l3 ∧ (∀ x ∈ fp2, w0.heap.size ≤ x) ∧ Chg [] w0 w') hr1 (fun hst => ⟨([] : List Int), (ad b1), 0, [b1], 1, rfl, fO hst, F0_0, F0_1, F0, F1, G1, hB⟩) ?_
  rintro _ c1 a' w2 ⟨l3, A3, cap3, fp2, x1, rfl, hF1, F2, F3, F4, F5, G2, hB⟩ hx1
  refine gO hF1 ?_
  have hm := hx1
  unfold m_iChannNets_s1 at hm
  refine cW_seq <| sR <| wP 2 [(7, .bool (decide (x1 ≤ 12))), (6, ii x1)] <| wN <| cC (decide (x1 ≤ 12)) (fun hb1 => ?_) (fun hb1 => ?_)
  ·have hm := condT hb1 hm
   refine cW_skip <| eX_then <| cW_seq <| cW_block ?_
   obtain ⟨s2, hs1, hm⟩ := bindE hm
   refine cW_cut (fun a' w' => ∃ l4 : List Int, ∃ A4 : Option Addr, ∃ cap4 : Nat, ∃ fp3 : List Nat, l4 = s2 ∧ Fr 20 [(0, pt b0), (3, .slice A4 l4.length cap4), (4, ii x1)] a' ∧ S1 w' fp0_0 A0_0 l0_0 ∧ S1 w' fp0_1 A0_1 l0_1 ∧ Cl w' b0 26 [.slice A0_0 l0_0.length cap0_0, .slice A0_1 l0_1.length cap0_1] ∧ O1 2 w' fp3 A4 cap4 l4 ∧ (∀ x ∈ fp3, w0.heap.size ≤ x) ∧ Chg [] w0 w') ?_ ?_
   ·have hm := hs1
    refine sR <| wP 2 [(11, ii x1), (10, pt b0)] ?_
    obtain ⟨y1, hy1, hm⟩ := bindE hm
    refine sC 12 [pt b0, ii x1] ent73 (c_iChannColum hy1 F2 F3 F4) ?_
    rintro _ w3 ⟨A5, cap5, fp4, rfl, F6, G3, hc2⟩
    have D1 := Dj.of F5.low G3
    replace F2 := F2.c hc2
    replace F3 := F3.c hc2
    replace F4 := F4.c hc2
    replace F5 := F5.c hc2
    replace G3 := low_le hB.size G3
    replace hB := hB.q hc2
    refine ⟨.slice A5 y1.length cap5, rfl, ?_⟩
    refine wP 2 [(14, .bool (decide (((y1.length : Int)) > 1))), (13, ii (y1.length : Int))] <| wN <| cC (decide (((y1.length : Int)) > 1)) (fun hb2 => ?_) (fun hb2 => ?_)
    ·have hm := condT hb2 hm
     refine cW_region <| wP 2 [(16, ii x1), (15, .slice A3 l3.length cap3)] <| wS_bs (enc := encI) ([x1] : List Int) [ii x1] (d := 17) (t := 24) (T := 2) (n := 1) (ps := [(0, ii x1)]) (by kernel_rfl) el24 encI_ok (by rfl) (by omega) (by omega) (by kernel_rfl) (by rfl) ?_
     intro b2 w4 G4 F7 hc3
     have D2 := Dj.of F5.low (low1 G4)
     have D3 := Dj.of F6.low (low1 G4)
     replace F2 := F2.c hc3
     replace F3 := F3.c hc3
     replace F4 := F4.c hc3
     replace F5 := F5.c hc3
     replace F6 := F6.c hc3
     replace G4 := Nat.le_trans hB.size G4
     replace G4 := low1 G4
     replace hB := hB.q hc3
     obtain ⟨_, hk1, hm⟩ := bindE hm
     replace hk1 := apE hk1
     refine wS_append (enc := encI) (l := (l3 : List Int)) (l2 := (([x1] : List Int) : List Int)) (d := 18) (t := 24) (T := 2) (A := A3) (A2 := (ad b2)) (cap := cap3) (cap2 := 1) (by kernel_rfl) el24 encI_ok F5 (F7.sl encI_ok) (by rfl) hk1 ?_
     intro w5 fp5 A6 cap6 F8 hc4 hp1
     have G5 := low_ap G2 hB.size hp1
     have D4 : Dj fp4 fp5 := Dj.ap (D1).symm F6.low hp1
     have D5 : Dj [b2] fp5 := Dj.ap (D2).symm F7.low hp1
     replace F2 := F2.chg hc4 (Dj.of L0_0 G2)
     replace F3 := F3.chg hc4 (Dj.of L0_1 G2)
     replace F4 := F4.chg hc4 (dj1 (Dj.of L0 G2))
     replace F6 := F6.chg hc4 (D1).symm
     replace F7 := F7.chg hc4 (D2).symm
     replace hB := hB.inS hc4 (inLow G2)
     refine wP 1 [(3, .slice A6 (l3 ++ (([x1] : List Int))).length cap6)] <| wE ?_
     obtain rfl := someE (x := (l3 ++ (([x1] : List Int)))) hm
     exact eX_J (fun hst => ⟨l3 ++ (([x1] : List Int)), A6, cap6, fp5, rfl, fO hst, F2, F3, F4, F8, G5, hB⟩)
    have hm := condF hb2 hm
    refine cW_skip ?_
    obtain rfl := someE (x := l3) hm
    exact eX_J (fun hst => ⟨l3, A3, cap3, fp2, rfl, fO hst, F2, F3, F4, F5, G2, hB⟩)
   rintro a' w6 ⟨l4, A4, cap4, fp3, hJ, hF2, F9, F10, F11, F12, G6, hB⟩
   subst hJ
   refine gX hF2 <| eX_block <| eX_then <| cW_region <| wP 3 [(4, ii (wr (x1 + 1))), (9, ii (wr (x1 + 1))), (8, ii x1)] <| wE ?_
   obtain rfl := someE (x := (Ctl.next ((l4, wr (x1 + 1))))) hm
   exact eX_next hx1 (fun hst => ⟨l4, A4, cap4, fp3, wr (x1 + 1), rfl, fO hst, F9, F10, F11, F12, G6, hB⟩)
  have hm := condF hb1 hm
  refine cW_exit <| eX_then_exit ?_
  obtain rfl := someE (x := Ctl.out l3) hm
  refine eX_outX hx1 (fun hr2 => ?_)
  replace hr2 := hr2.symm
  subst hr2
  refine eX_block_hit ?_
  exact eX_J (fun hst => ⟨l3, A3, cap3, fp2, rfl, fO hst, F5, G2, hB⟩)
 rintro a' w7 ⟨l1, A1, cap1, fp1, hJ, hF3, F13, G7, hB⟩
 subst hJ
 refine gX hF3 <| eX_then <| sR <| wP 2 [(2, .slice A1 l1.length cap1), (19, .slice A1 l1.length cap1)] <| wN <| cW_ret ?_
 obtain rfl := someE (x := l1) hm
 refine rA (.slice A1 l1.length cap1) 2 ?_
 exact ⟨A1, cap1, fp1, rfl, F13, G7, hB⟩

set_option maxRecDepth 100000 in
theorem c_iChannAbove1 {w0 l0_0 A0_0 cap0_0 fp0_0 l0_1 A0_1 cap0_1 fp0_1 b0} {r : (List ((Int × Int) × Bool))} (hm : m_iChannAbove1 l0_0 l0_1 = some r) (F0_0 : S1 w0 fp0_0 A0_0 l0_0) (F0_1 : S1 w0 fp0_1 A0_1 l0_1) (F0 : Cl w0 b0 26 [.slice A0_0 l0_0.length cap0_0, .slice A0_1 l0_1.length cap0_1]) :
  Calls Tryd.prog 47 #[pt b0] w0 fun e w' => ∃ b100, e = .returned (.map (some b100)) ∧ Mp okII ekII vB w' b100 r ∧ (∀ x ∈ [b100], w0.heap.size ≤ x) ∧ Chg [] w0 w' := by
 have L0_0 := F0_0.low
 have L0_1 := F0_1.low
 have L0 := lt1 F0.lt
 have hB : Chg [] w0 w0 := Chg.refl _ _
 unfold m_iChannAbove1 at hm
 refine enterE (N := 47) Tryd.func47 (by rfl) Tryd.ntmps47 (by simp) [(0, pt b0)] (by rfl) (by kernel_rfl) (fun a => ?_)
 refine sR <| wP 1 [(2, .map none)] <| wN <| sR <| wS_makeMap (V := Bool) (d := 8) (T := 69) (by kernel_rfl) okII ekII vB ?_
 intro b1 w1 G1 F1 hc1
 replace F0_0 := F0_0.c hc1
 replace F0_1 := F0_1.c hc1
 replace F0 := F0.c hc1
 replace G1 := Nat.le_trans hB.size G1
 replace G1 := low1 G1
 replace hB := hB.q hc1
 refine wP 1 [(9, pt b0)] ?_
 obtain ⟨y1, hy1, hm⟩ := bindE hm
 refine sC 10 [pt b0] ent39 (c_iChannNets hy1 F0_0 F0_1 F0) ?_
 rintro _ w2 ⟨A1, cap1, fp1, rfl, F2, G2, hc2⟩
 have D1 := Dj.of F1.low G2
 replace F0_0 := F0_0.c hc2
 replace F0_1 := F0_1.c hc2
 replace F0 := F0.c hc2
 replace F1 := F1.c hc2
 replace G2 := low_le hB.size G2
 replace hB := hB.q hc2
 refine ⟨.slice A1 y1.length cap1, rfl, ?_⟩
 refine wP 2 [(4, .slice A1 y1.length cap1), (3, .map (some b1))] <| wN <| cW_seq <| sR <| wP 3 [(13, pt b0), (12, pt b0), (11, pt b0)] <| sL 14 ⟨b0, 0, none⟩ (.slice A0_0 l0_0.length cap0_0) vt24 ((F0).cell 0) <| wP 2 [(16, ii 0), (15, ii (l0_0.length : Int))] <| wN ?_
 obtain ⟨r1, hr1, hm⟩ := bindE hm
 have hm1 := hm
 refine cW_cut (fun a' w' => ∃ l1 : List ((Int × Int) × Bool), l1 = r1 ∧ Fr 47 [(3, .map (some b1))] a' ∧ Mp okII ekII vB w' b1 l1 ∧ Chg [] w0 w') ?_ ?_
 ·refine cW_block ?_
  refine cW_loop _ (fun (s1 : Int × (List ((Int × Int) × Bool))) a' w' => ∃ x1 : Int, ∃ l2 : List ((Int × Int) × Bool), (x1, l2) = s1 ∧ Fr 47 [(0, pt b0), (3, .map (some b1)), (4, .slice A1 y1.length cap1), (14, .slice A0_0 l0_0.length cap0_0), (15, ii (l0_0.length : Int)), (16, ii x1)] a' ∧ S1 w' fp0_0 A0_0 l0_0 ∧ S1 w' fp0_1 A0_1 l0_1 ∧ Cl w' b0 26 [.slice A0_0 l0_0.length cap0_0, .slice A0_1 l0_1.length cap0_1] ∧ Mp okII ekII vB w' b1 l2 ∧ O1 2 w' fp1 A1 cap1 y1 ∧ Chg [] w0 w') hr1 (fun hst => ⟨0, ([] : List ((Int × Int) × Bool)), rfl, fO hst, F0_0, F0_1, F0, F1, F2, hB⟩) ?_
  rintro _ c1 a' w3 ⟨x1, l2, rfl, hF1, F3, F4, F5, F6, F7, hB⟩ hx1
  refine gO hF1 ?_
  have hm := hx1
  unfold m_iChannAbove1_s1 at hm
  refine sR <| wP 1 [(17, .bool (decide (x1 < ((l0_0.length : Int)))))] <| wN <| cW_seq <| cC (decide (x1 < ((l0_0.length : Int)))) (fun hb1 => ?_) (fun hb1 => ?_)
  ·have hm := condT hb1 hm
   refine cW_skip <| eX_then <| cW_seq <| cW_block ?_
   obtain ⟨s2, hs1, hm⟩ := bindE hm
   refine cW_cut (fun a' w' => ∃ l3 : List ((Int × Int) × Bool), l3 = s2 ∧ Fr 47 [(0, pt b0), (3, .map (some b1)), (4, .slice A1 y1.length cap1), (14, .slice A0_0 l0_0.length cap0_0), (15, ii (l0_0.length : Int)), (16, ii x1)] a' ∧ S1 w' fp0_0 A0_0 l0_0 ∧ S1 w' fp0_1 A0_1 l0_1 ∧ Cl w' b0 26 [.slice A0_0 l0_0.length cap0_0, .slice A0_1 l0_1.length cap0_1] ∧ Mp okII ekII vB w' b1 l3 ∧ O1 2 w' fp1 A1 cap1 y1 ∧ Chg [] w0 w') ?_ ?_
   ·have hm := hs1
    refine sR <| wP 1 [(18, ii x1)] ?_
    obtain ⟨x2, hx2, hm⟩ := bindE hm
    refine sI 19 A0_0 l0_0.length cap0_0 .i64 x1 sl24 (F3.is hx2) <| sL 20 (elA A0_0 1 (x1) 0) (ii x2) vt2 (Sl.cell F3 hx2 0 (by rfl)) <| wP 2 [(6, ii x2), (5, ii x1)] <| wN <| sR <| wP 3 [(23, .pointer (some ⟨b0, 1, none⟩)), (22, pt b0), (21, pt b0)] <| sL 24 ⟨b0, 1, none⟩ (.slice A0_1 l0_1.length cap0_1) vt24 ((F5).cell 1) <| wP 1 [(25, ii x1)] ?_
    obtain ⟨x3, hx3, hm⟩ := bindE hm
    refine sI 26 A0_1 l0_1.length cap0_1 .i64 x1 sl24 (F4.is hx3) <| sL 27 (elA A0_1 1 (x1) 0) (ii x3) vt2 (Sl.cell F4 hx3 0 (by rfl)) <| wP 1 [(7, ii x3)] <| wN <| sR <| wP 4 [(31, .bool (x2 != x3)), (30, .bool (x2 != x3)), (29, ii x3), (28, ii x2)] <| wS_bool (x2 != x3) (fun hb2 => ?_) (fun hb2 => ?_)
    ·have hm := condT hb2 hm
     rewrite [hb2]
     refine wP 2 [(33, ii x2), (32, .slice A1 y1.length cap1)] ?_
     obtain ⟨y2, hy2, hm⟩ := bindE hm
     refine sC 34 [.slice A1 y1.length cap1, ii x2] ent86 (c_sConta hy2 (F7.sl encI_ok)) ?_
     rintro _ w4 ⟨rfl, hc3⟩
     replace F3 := F3.c hc3
     replace F4 := F4.c hc3
     replace F5 := F5.c hc3
     replace F6 := F6.c hc3
     replace F7 := F7.c hc3
     replace hB := hB.q hc3
     refine ⟨.bool (y2), rfl, ?_⟩
     refine wP 2 [(36, .bool (y2)), (35, .bool (y2))] <| wS_bool y2 (fun hb3 => ?_) (fun hb3 => ?_)
     ·have hm := condT hb3 hm
      rewrite [hb3]
      refine wP 2 [(38, ii x3), (37, .slice A1 y1.length cap1)] ?_
      obtain ⟨y3, hy3, hm⟩ := bindE hm
      refine sC 39 [.slice A1 y1.length cap1, ii x3] ent86 (c_sConta hy3 (F7.sl encI_ok)) ?_
      rintro _ w5 ⟨rfl, hc4⟩
      replace F3 := F3.c hc4
      replace F4 := F4.c hc4
      replace F5 := F5.c hc4
      replace F6 := F6.c hc4
      replace F7 := F7.c hc4
      replace hB := hB.q hc4
      refine ⟨.bool (y3), rfl, ?_⟩
      refine wP 1 [(40, .bool (y3))] <| wN <| cP [(0, pt b0), (3, .map (some b1)), (4, .slice A1 y1.length cap1), (6, ii x2), (7, ii x3), (14, .slice A0_0 l0_0.length cap0_0), (15, ii (l0_0.length : Int)), (16, ii x1), (40, .bool (y3))] (fun a1 => ?_)
      refine cC y3 (fun hb4 => ?_) (fun hb4 => ?_)
      ·have hm := condT hb4 hm
       refine cW_region <| wP 4 [(44, .agg #[ii x2, ii x3]), (43, ii x3), (42, ii x2), (41, .map (some b1))] ?_
       obtain ⟨_, hk1, hm⟩ := bindE hm
       refine wS_mup (k := (x2, x3)) (x := true) (T := 69) (by kernel_rfl) rfl rfl mk69 mp69 F6 (mpE hk1) ?_
       intro w6 F8 hc5
       replace F3 := F3.chg hc5 (Dj.of L0_0 G1)
       replace F4 := F4.chg hc5 (Dj.of L0_1 G1)
       replace F5 := F5.chg hc5 (dj1 (Dj.of L0 G1))
       replace F7 := F7.chg hc5 (D1).symm
       replace hB := hB.inS hc5 (inLow G1)
       clear F6
       refine wE ?_
       obtain rfl := someE (x := (mup l2 ((x2, x3)) true)) hm
       exact eX_J (fun hst => ⟨mup l2 ((x2, x3)) true, rfl, fO hst, F3, F4, F5, F8, F7, hB⟩)
      have hm := condF hb4 hm
      refine cW_skip ?_
      obtain rfl := someE (x := l2) hm
      exact eX_J (fun hst => ⟨l2, rfl, fO hst, F3, F4, F5, F6, F7, hB⟩)
     have hm := condF hb3 hm
     rewrite [hb3]
     refine wP 4 [(40, .bool (false)), (39, undef), (38, undef), (37, undef)] <| wN <| cP [(0, pt b0), (3, .map (some b1)), (4, .slice A1 y1.length cap1), (6, ii x2), (7, ii x3), (14, .slice A0_0 l0_0.length cap0_0), (15, ii (l0_0.length : Int)), (16, ii x1), (40, .bool (false))] (fun a2 => ?_)
     refine cCf <| cW_skip ?_
     obtain rfl := someE (x := l2) hm
     exact eX_J (fun hst => ⟨l2, rfl, fO hst, F3, F4, F5, F6, F7, hB⟩)
    have hm := condF hb2 hm
    rewrite [hb2]
    refine wP 9 [(40, .bool (false)), (39, undef), (38, undef), (37, undef), (36, .bool (false)), (35, .bool (false)), (34, undef), (33, undef), (32, undef)] <| wN <| cP [(0, pt b0), (3, .map (some b1)), (4, .slice A1 y1.length cap1), (6, ii x2), (7, ii x3), (14, .slice A0_0 l0_0.length cap0_0), (15, ii (l0_0.length : Int)), (16, ii x1), (40, .bool (false))] (fun a3 => ?_)
    refine cCf <| cW_skip ?_
    obtain rfl := someE (x := l2) hm
    exact eX_J (fun hst => ⟨l2, rfl, fO hst, F3, F4, F5, F6, F7, hB⟩)
   rintro a' w7 ⟨l3, hJ, hF2, F9, F10, F11, F12, F13, hB⟩
   subst hJ
   refine gX hF2 <| eX_block <| eX_then <| cW_region <| wP 2 [(16, ii (wr (x1 + 1))), (45, ii (wr (x1 + 1)))] <| wE ?_
   obtain rfl := someE (x := (Ctl.next ((wr (x1 + 1), l3)))) hm
   exact eX_next hx1 (fun hst => ⟨wr (x1 + 1), l3, rfl, fO hst, F9, F10, F11, F12, F13, hB⟩)
  have hm := condF hb1 hm
  refine cW_exit <| eX_then_exit ?_
  obtain rfl := someE (x := Ctl.out l2) hm
  refine eX_outX hx1 (fun hr2 => ?_)
  replace hr2 := hr2.symm
  subst hr2
  refine eX_block_hit ?_
  exact eX_J (fun hst => ⟨l2, rfl, fO hst, F6, hB⟩)
 rintro a' w8 ⟨l1, hJ, hF3, F14, hB⟩
 subst hJ
 refine gX hF3 <| eX_then <| sR <| wP 2 [(2, .map (some b1)), (46, .map (some b1))] <| wN <| cW_ret ?_
 obtain rfl := someE (x := l1) hm
 refine rA (.map (some b1)) 2 ?_
 exact ⟨b1, rfl, F14, G1, hB⟩

set_option maxRecDepth 100000 in
theorem c_iChannSpan {w0 l0_0 A0_0 cap0_0 fp0_0 l0_1 A0_1 cap0_1 fp0_1 b0 p1} {r : (Int) × (Int)} (hm : m_iChannSpan l0_0 l0_1 p1 = some r) (F0_0 : S1 w0 fp0_0 A0_0 l0_0) (F0_1 : S1 w0 fp0_1 A0_1 l0_1) (F0 : Cl w0 b0 26 [.slice A0_0 l0_0.length cap0_0, .slice A0_1 l0_1.length cap0_1]) :
  Calls Tryd.prog 50 #[pt b0, ii p1] w0 fun e w' => e = .returned (.tuple #[ii r.1, ii r.2]) ∧ Chg [] w0 w' := by
 have L0_0 := F0_0.low
 have L0_1 := F0_1.low
 have L0 := lt1 F0.lt
 have hB : Chg [] w0 w0 := Chg.refl _ _
 unfold m_iChannSpan at hm
 refine enterE (N := 19) Tryd.func50 (by rfl) Tryd.ntmps50 (by simp) [(0, pt b0), (1, ii p1)] (by rfl) (by kernel_rfl) (fun a => ?_)
 refine sR <| wP 2 [(5, ii 0), (4, ii 0)] <| wN <| sR <| wP 2 [(8, ii p1), (7, pt b0)] ?_
 obtain ⟨y1, hy1, hm⟩ := bindE hm
 refine sC 9 [pt b0, ii p1] ent73 (c_iChannColum hy1 F0_0 F0_1 F0) ?_
 rintro _ w1 ⟨A1, cap1, fp1, rfl, F1, G1, hc1⟩
 replace F0_0 := F0_0.c hc1
 replace F0_1 := F0_1.c hc1
 replace F0 := F0.c hc1
 replace G1 := low_le hB.size G1
 replace hB := hB.q hc1
 refine ⟨.slice A1 y1.length cap1, rfl, ?_⟩
 refine wP 1 [(6, .slice A1 y1.length cap1)] <| wN <| cW_seq <| cW_drawnTail [] 10 (by kernel_rfl) (by kernel_rfl) (fun w2 hc2 => ?_)
 replace F0_0 := F0_0.c hc2
 replace F0_1 := F0_1.c hc2
 replace F0 := F0.c hc2
 replace F1 := F1.c hc2
 replace hB := hB.q hc2
 have hS := Chg.refl [] w2
 have Z1 := F0_0
 have Z2 := F0_1
 have Z3 := F0
 have Z4 := F1
 refine hT [0] [(10, .slice A1 y1.length cap1)] ?_
 obtain ⟨x1, hx1, hm⟩ := bindE hm
 refine hI 1 11 A1 y1.length cap1 .i64 0 sl24 ((F1.sl encI_ok).is hx1) <| hL 2 12 (elA A1 1 (0) 0) (ii x1) vt2 (fun W hW => Sl.cell ((Z4.c hW).sl encI_ok) hx1 0 (by rfl)) ?_
 refine hT [3, 4, 5, 6] [(16, ii (wr (((y1.length : Int)) - 1))), (15, ii (y1.length : Int)), (14, .slice A1 y1.length cap1), (13, .slice A1 y1.length cap1)] ?_
 obtain ⟨x2, hx2, hm⟩ := bindE hm
 refine hI 7 17 A1 y1.length cap1 .i64 (wr (((y1.length : Int)) - 1)) sl24 ((F1.sl encI_ok).is hx2) <| hL 8 18 (elA A1 1 (wr (((y1.length : Int)) - 1)) 0) (ii x2) vt2 (fun W hW => Sl.cell ((Z4.c hW).sl encI_ok) hx2 0 (by rfl)) ?_
 refine hT [9] [(4, ii x1)] <| wD <| eX_tail <| wP 1 [(5, ii x2)] <| wN <| cW_ret ?_
 obtain rfl := someE (x := ((x1, x2))) hm
 refine rB (ii x1) (ii x2) 4 5 ?_
 exact ⟨rfl, hB⟩

set_option maxRecDepth 100000 in
theorem c_iChannNetOr {w0 l0_0 A0_0 cap0_0 fp0_0 l0_1 A0_1 cap0_1 fp0_1 b0} {r : ((List Int) × (List Int))} (hm : m_iChannNetOr l0_0 l0_1 = some r) (F0_0 : S1 w0 fp0_0 A0_0 l0_0) (F0_1 : S1 w0 fp0_1 A0_1 l0_1) (F0 : Cl w0 b0 26 [.slice A0_0 l0_0.length cap0_0, .slice A0_1 l0_1.length cap0_1]) :
  Calls Tryd.prog 37 #[pt b0] w0 fun e w' => ∃ A100_0 cap100_0 fp100_0, ∃ A100_1 cap100_1 fp100_1, e = .returned (.agg #[.slice A100_0 r.1.length cap100_0, .slice A100_1 r.2.length cap100_1]) ∧ O1 3 w' fp100_0 A100_0 cap100_0 r.1 ∧ (∀ x ∈ fp100_0, w0.heap.size ≤ x) ∧ O1 3 w' fp100_1 A100_1 cap100_1 r.2 ∧ (∀ x ∈ fp100_1, w0.heap.size ≤ x) ∧ Dj fp100_0 fp100_1 ∧ Chg [] w0 w' := by
 have L0_0 := F0_0.low
 have L0_1 := F0_1.low
 have L0 := lt1 F0.lt
 have hB : Chg [] w0 w0 := Chg.refl _ _
 unfold m_iChannNetOr at hm
 refine enterE (N := 86) Tryd.func37 (by rfl) Tryd.ntmps37 (by simp) [(0, pt b0)] (by rfl) (by kernel_rfl) (fun a => ?_)
 refine sR <| wS_alloc (d := 2) (T := 58) (z := .agg #[.slice none 0 0, .slice none 0 0]) (by kernel_rfl) (by kernel_rfl) ?_
 intro b1 w1 G1 F1 hc1
 replace F1 : Cl w1 b1 58 [.slice none 0 0, .slice none 0 0] := F1
 replace F0_0 := F0_0.c hc1
 replace F0_1 := F0_1.c hc1
 replace F0 := F0.c hc1
 replace G1 := Nat.le_trans hB.size G1
 replace hB := hB.q hc1
 refine wN <| sR <| wP 1 [(14, pt b0)] ?_
 obtain ⟨y1, hy1, hm⟩ := bindE hm
 refine sC 15 [pt b0] ent39 (c_iChannNets hy1 F0_0 F0_1 F0) ?_
 rintro _ w2 ⟨A1, cap1, fp1, rfl, F2, G2, hc2⟩
 have D1 := Dj.of (lt1 F1.lt) G2
 replace F0_0 := F0_0.c hc2
 replace F0_1 := F0_1.c hc2
 replace F0 := F0.c hc2
 replace F1 := F1.c hc2
 replace G2 := low_le hB.size G2
 replace hB := hB.q hc2
 refine ⟨.slice A1 y1.length cap1, rfl, ?_⟩
 refine wP 1 [(16, pt b0)] ?_
 obtain ⟨y2, hy2, hm⟩ := bindE hm
 refine sC 17 [pt b0] ent47 (c_iChannAbove1 hy2 F0_0 F0_1 F0) ?_
 rintro _ w3 ⟨b2, rfl, F3, G3, hc3⟩
 have D2 := Dj.of (lt1 F1.lt) G3
 have D3 := Dj.of F2.low G3
 replace F0_0 := F0_0.c hc3
 replace F0_1 := F0_1.c hc3
 replace F0 := F0.c hc3
 replace F1 := F1.c hc3
 replace F2 := F2.c hc3
 replace G3 := low_le hB.size G3
 replace hB := hB.q hc3
 refine ⟨.map (some b2), rfl, ?_⟩
 refine wP 2 [(4, .map (some b2)), (3, .slice A1 y1.length cap1)] <| wN <| sR <| wP 2 [(19, ii (y1.length : Int)), (18, .slice A1 y1.length cap1)] ?_
 obtain ⟨y3, hy3, hm⟩ := bindE hm
 refine sC 20 [ii (y1.length : Int)] ent77 (c_iNewOr hy3) ?_
 rintro _ w4 ⟨A2, cap2, fp2, A3, cap3, fp3, rfl, F4, G4, F5, G5, D4, hc4⟩
 have D5 := Dj.of (lt1 F1.lt) G4
 have D6 := Dj.of F2.low G4
 have D7 := Dj.of F3.low G4
 have D8 := Dj.of (lt1 F1.lt) G5
 have D9 := Dj.of F2.low G5
 have D10 := Dj.of F3.low G5
 replace F0_0 := F0_0.c hc4
 replace F0_1 := F0_1.c hc4
 replace F0 := F0.c hc4
 replace F1 := F1.c hc4
 replace F2 := F2.c hc4
 replace F3 := F3.c hc4
 replace G4 := low_le hB.size G4
 replace G5 := low_le hB.size G5
 replace hB := hB.q hc4
 refine ⟨.agg #[.slice A2 y3.1.length cap2, .slice A3 y3.2.length cap3], rfl, ?_⟩
 refine wS_alloc (d := 5) (T := 58) (z := .agg #[.slice none 0 0, .slice none 0 0]) (by kernel_rfl) (by kernel_rfl) ?_
 intro b3 w5 G6 F6 hc5
 replace F6 : Cl w5 b3 58 [.slice none 0 0, .slice none 0 0] := F6
 have D11 := Dj.of (lt1 F1.lt) (low1 G6)
 have D12 := Dj.of F2.low (low1 G6)
 have D13 := Dj.of F3.low (low1 G6)
 have D14 := Dj.of F4.low (low1 G6)
 have D15 := Dj.of F5.low (low1 G6)
 replace F0_0 := F0_0.c hc5
 replace F0_1 := F0_1.c hc5
 replace F0 := F0.c hc5
 replace F1 := F1.c hc5
 replace F2 := F2.c hc5
 replace F3 := F3.c hc5
 replace F4 := F4.c hc5
 replace F5 := F5.c hc5
 replace G6 := Nat.le_trans hB.size G6
 replace hB := hB.q hc5
 refine wS_store (T := 58) (g := b3) (o := 0) (ad := ⟨b3, 0, none⟩) (v := .agg #[.slice A2 y3.1.length cap2, .slice A3 y3.2.length cap3]) (vs := [.slice A2 y3.1.length cap2, .slice A3 y3.2.length cap3]) (by kernel_rfl) (by rfl) sz58 (by rfl) (by rfl) F6 (bl rfl) ?_
 intro w6 F7 hc6
 replace F0_0 := F0_0.chg hc6 (Dj.of L0_0 (low1 G6))
 replace F0_1 := F0_1.chg hc6 (Dj.of L0_1 (low1 G6))
 replace F0 := F0.chg hc6 (dj1 (Dj.of L0 (low1 G6)))
 replace F1 := F1.chg hc6 (dj1 D11)
 replace F2 := F2.chg hc6 D12
 replace F3 := F3.chg hc6 D13
 replace F4 := F4.chg hc6 D14
 replace F5 := F5.chg hc6 D15
 replace hB := hB.inS hc6 (inLow (low1 G6))
 replace F7 : Cl w6 b3 58 [.slice A2 y3.1.length cap2, .slice A3 y3.2.length cap3] := F7
 clear F6
 refine wN <| cW_seq <| sR <| wP 3 [(23, ii 0), (22, ii (y1.length : Int)), (21, .slice A1 y1.length cap1)] <| wN ?_
 obtain ⟨r1, hr1, hm⟩ := bindE hm
 have hm1 := hm
 refine cW_cut (fun a' w' => ∃ l1 : List Int, ∃ l2 : List Int, (l1, l2) = r1 ∧ Fr 86 [(2, pt b1), (5, pt b3)] a' ∧ Cl w' b1 58 [.slice none 0 0, .slice none 0 0] ∧ O1 3 w' fp2 A2 cap2 l1 ∧ O1 3 w' fp3 A3 cap3 l2 ∧ Cl w' b3 58 [.slice A2 l1.length cap2, .slice A3 l2.length cap3] ∧ Chg [] w0 w') ?_ ?_
 ·refine cW_block ?_
  refine cW_loop _ (fun (s1 : Int × (List Int) × (List Int)) a' w' => ∃ x1 : Int, ∃ l3 : List Int, ∃ l4 : List Int, (x1, l3, l4) = s1 ∧ Fr 86 [(0, pt b0), (2, pt b1), (3, .slice A1 y1.length cap1), (4, .map (some b2)), (5, pt b3), (21, .slice A1 y1.length cap1), (22, ii (y1.length : Int)), (23, ii x1)] a' ∧ S1 w' fp0_0 A0_0 l0_0 ∧ S1 w' fp0_1 A0_1 l0_1 ∧ Cl w' b0 26 [.slice A0_0 l0_0.length cap0_0, .slice A0_1 l0_1.length cap0_1] ∧ Cl w' b1 58 [.slice none 0 0, .slice none 0 0] ∧ O1 2 w' fp1 A1 cap1 y1 ∧ Mp okII ekII vB w' b2 y2 ∧ O1 3 w' fp2 A2 cap2 l3 ∧ O1 3 w' fp3 A3 cap3 l4 ∧ Cl w' b3 58 [.slice A2 l3.length cap2, .slice A3 l4.length cap3] ∧ Chg [] w0 w') hr1 (fun hst => ⟨0, y3.1, y3.2, rfl, fO hst, F0_0, F0_1, F0, F1, F2, F3, F4, F5, F7, hB⟩) ?_
  rintro _ c1 a' w7 ⟨x1, l3, l4, rfl, hF1, F8, F9, F10, F11, F12, F13, F14, F15, F16, hB⟩ hx1
  refine gO hF1 ?_
  have hm := hx1
  unfold m_iChannNetOr_s3 at hm
  refine sR <| wP 1 [(24, .bool (decide (x1 < ((y1.length : Int)))))] <| wN <| cW_seq <| cC (decide (x1 < ((y1.length : Int)))) (fun hb1 => ?_) (fun hb1 => ?_)
  ·have hm := condT hb1 hm
   refine cW_skip <| eX_then <| cW_seq <| cW_block <| sR <| wP 1 [(25, ii x1)] ?_
   obtain ⟨x2, hx2, hm⟩ := bindE hm
   refine sI 26 A1 y1.length cap1 .i64 x1 sl24 ((F12.sl encI_ok).is hx2) <| sL 27 (elA A1 1 (x1) 0) (ii x2) vt2 (Sl.cell (F12.sl encI_ok) hx2 0 (by rfl)) <| wP 2 [(7, ii x2), (6, ii x1)] <| wN <| sR <| wP 2 [(30, ii x2), (29, pt b0)] ?_
   obtain ⟨y4, hy4, hm⟩ := bindE hm
   refine sC 31 [pt b0, ii x2] ent50 (c_iChannSpan hy4 F8 F9 F10) ?_
   rintro _ w8 ⟨rfl, hc7⟩
   replace F8 := F8.c hc7
   replace F9 := F9.c hc7
   replace F10 := F10.c hc7
   replace F11 := F11.c hc7
   replace F12 := F12.c hc7
   replace F13 := F13.c hc7
   replace F14 := F14.c hc7
   replace F15 := F15.c hc7
   replace F16 := F16.c hc7
   replace hB := hB.q hc7
   refine ⟨.tuple #[ii y4.1, ii y4.2], rfl, ?_⟩
   refine wP 5 [(9, ii y4.2), (8, ii y4.1), (33, ii y4.2), (32, ii y4.1), (28, .tuple #[ii y4.1, ii y4.2])] <| wN <| sR <| wP 3 [(36, ii 0), (35, ii (y1.length : Int)), (34, .slice A1 y1.length cap1)] <| wN <| cP [(0, pt b0), (2, pt b1), (3, .slice A1 y1.length cap1), (4, .map (some b2)), (5, pt b3), (6, ii x1), (7, ii x2), (8, ii y4.1), (9, ii y4.2), (21, .slice A1 y1.length cap1), (22, ii (y1.length : Int)), (23, ii x1), (34, .slice A1 y1.length cap1), (35, ii (y1.length : Int)), (36, ii 0)] (fun a1 => ?_)
   obtain ⟨r2, hr2, hm⟩ := bindE hm
   have hm2 := hm
   refine cW_cut (fun a' w' => ∃ l5 : List Int, ∃ l6 : List Int, (l5, l6) = r2 ∧ Fr 86 [(0, pt b0), (2, pt b1), (3, .slice A1 y1.length cap1), (4, .map (some b2)), (5, pt b3), (21, .slice A1 y1.length cap1), (22, ii (y1.length : Int)), (23, ii x1)] a' ∧ S1 w' fp0_0 A0_0 l0_0 ∧ S1 w' fp0_1 A0_1 l0_1 ∧ Cl w' b0 26 [.slice A0_0 l0_0.length cap0_0, .slice A0_1 l0_1.length cap0_1] ∧ Cl w' b1 58 [.slice none 0 0, .slice none 0 0] ∧ O1 2 w' fp1 A1 cap1 y1 ∧ Mp okII ekII vB w' b2 y2 ∧ O1 3 w' fp2 A2 cap2 l5 ∧ O1 3 w' fp3 A3 cap3 l6 ∧ Cl w' b3 58 [.slice A2 l5.length cap2, .slice A3 l6.length cap3] ∧ Chg [] w0 w') ?_ ?_
   ·refine cW_block ?_
    refine cW_loop _ (fun (s2 : Int × (List Int) × (List Int)) a' w' => ∃ x3 : Int, ∃ l7 : List Int, ∃ l8 : List Int, (x3, l7, l8) = s2 ∧ Fr 86 [(0, pt b0), (2, pt b1), (3, .slice A1 y1.length cap1), (4, .map (some b2)), (5, pt b3), (6, ii x1), (7, ii x2), (8, ii y4.1), (9, ii y4.2), (21, .slice A1 y1.length cap1), (22, ii (y1.length : Int)), (23, ii x1), (34, .slice A1 y1.length cap1), (35, ii (y1.length : Int)), (36, ii x3)] a' ∧ S1 w' fp0_0 A0_0 l0_0 ∧ S1 w' fp0_1 A0_1 l0_1 ∧ Cl w' b0 26 [.slice A0_0 l0_0.length cap0_0, .slice A0_1 l0_1.length cap0_1] ∧ Cl w' b1 58 [.slice none 0 0, .slice none 0 0] ∧ O1 2 w' fp1 A1 cap1 y1 ∧ Mp okII ekII vB w' b2 y2 ∧ O1 3 w' fp2 A2 cap2 l7 ∧ O1 3 w' fp3 A3 cap3 l8 ∧ Cl w' b3 58 [.slice A2 l7.length cap2, .slice A3 l8.length cap3] ∧ Chg [] w0 w') hr2 (fun hst => ⟨0, l3, l4, rfl, fO hst, F8, F9, F10, F11, F12, F13, F14, F15, F16, hB⟩) ?_
    rintro _ c2 a' w9 ⟨x3, l7, l8, rfl, hF2, F17, F18, F19, F20, F21, F22, F23, F24, F25, hB⟩ hx3
    refine gO hF2 ?_
    have hm := hx3
    unfold m_iChannNetOr_s4 at hm
    refine sR <| wP 1 [(37, .bool (decide (x3 < ((y1.length : Int)))))] <| wN <| cW_seq <| cC (decide (x3 < ((y1.length : Int)))) (fun hb2 => ?_) (fun hb2 => ?_)
    ·have hm := condT hb2 hm
     refine cW_skip <| eX_then <| cW_seq <| cW_block ?_
     obtain ⟨s3, hs1, hm⟩ := bindE hm
     refine cW_cut (fun a' w' => ∃ l9 : List Int, ∃ l10 : List Int, (l9, l10) = s3 ∧ Fr 86 [(0, pt b0), (2, pt b1), (3, .slice A1 y1.length cap1), (4, .map (some b2)), (5, pt b3), (6, ii x1), (7, ii x2), (8, ii y4.1), (9, ii y4.2), (21, .slice A1 y1.length cap1), (22, ii (y1.length : Int)), (23, ii x1), (34, .slice A1 y1.length cap1), (35, ii (y1.length : Int)), (36, ii x3)] a' ∧ S1 w' fp0_0 A0_0 l0_0 ∧ S1 w' fp0_1 A0_1 l0_1 ∧ Cl w' b0 26 [.slice A0_0 l0_0.length cap0_0, .slice A0_1 l0_1.length cap0_1] ∧ Cl w' b1 58 [.slice none 0 0, .slice none 0 0] ∧ O1 2 w' fp1 A1 cap1 y1 ∧ Mp okII ekII vB w' b2 y2 ∧ O1 3 w' fp2 A2 cap2 l9 ∧ O1 3 w' fp3 A3 cap3 l10 ∧ Cl w' b3 58 [.slice A2 l9.length cap2, .slice A3 l10.length cap3] ∧ Chg [] w0 w') ?_ ?_
     ·have hm := hs1
      refine sR <| wP 1 [(38, ii x3)] ?_
      obtain ⟨x4, hx4, hm⟩ := bindE hm
      refine sI 39 A1 y1.length cap1 .i64 x3 sl24 ((F21.sl encI_ok).is hx4) <| sL 40 (elA A1 1 (x3) 0) (ii x4) vt2 (Sl.cell (F21.sl encI_ok) hx4 0 (by rfl)) <| wP 2 [(11, ii x4), (10, ii x3)] <| wN <| sR <| wP 2 [(43, ii x4), (42, pt b0)] ?_
      obtain ⟨y5, hy5, hm⟩ := bindE hm
      refine sC 44 [pt b0, ii x4] ent50 (c_iChannSpan hy5 F17 F18 F19) ?_
      rintro _ w10 ⟨rfl, hc8⟩
      replace F17 := F17.c hc8
      replace F18 := F18.c hc8
      replace F19 := F19.c hc8
      replace F20 := F20.c hc8
      replace F21 := F21.c hc8
      replace F22 := F22.c hc8
      replace F23 := F23.c hc8
      replace F24 := F24.c hc8
      replace F25 := F25.c hc8
      replace hB := hB.q hc8
      refine ⟨.tuple #[ii y5.1, ii y5.2], rfl, ?_⟩
      refine wP 5 [(13, ii y5.2), (12, ii y5.1), (46, ii y5.2), (45, ii y5.1), (41, .tuple #[ii y5.1, ii y5.2])] <| wN <| cP [(0, pt b0), (2, pt b1), (3, .slice A1 y1.length cap1), (4, .map (some b2)), (5, pt b3), (6, ii x1), (7, ii x2), (8, ii y4.1), (9, ii y4.2), (10, ii x3), (11, ii x4), (12, ii y5.1), (13, ii y5.2), (21, .slice A1 y1.length cap1), (22, ii (y1.length : Int)), (23, ii x1), (34, .slice A1 y1.length cap1), (35, ii (y1.length : Int)), (36, ii x3)] (fun a2 => ?_)
      refine cW_seq ?_
      obtain ⟨s4, hs2, hm⟩ := bindE hm
      refine cW_cut (fun a' w' => ∃ l11 : List Int, l11 = s4 ∧ Fr 86 [(0, pt b0), (2, pt b1), (3, .slice A1 y1.length cap1), (4, .map (some b2)), (5, pt b3), (6, ii x1), (7, ii x2), (8, ii y4.1), (9, ii y4.2), (10, ii x3), (11, ii x4), (21, .slice A1 y1.length cap1), (22, ii (y1.length : Int)), (23, ii x1), (34, .slice A1 y1.length cap1), (35, ii (y1.length : Int)), (36, ii x3)] a' ∧ S1 w' fp0_0 A0_0 l0_0 ∧ S1 w' fp0_1 A0_1 l0_1 ∧ Cl w' b0 26 [.slice A0_0 l0_0.length cap0_0, .slice A0_1 l0_1.length cap0_1] ∧ Cl w' b1 58 [.slice none 0 0, .slice none 0 0] ∧ O1 2 w' fp1 A1 cap1 y1 ∧ Mp okII ekII vB w' b2 y2 ∧ O1 3 w' fp2 A2 cap2 l11 ∧ O1 3 w' fp3 A3 cap3 l8 ∧ Cl w' b3 58 [.slice A2 l11.length cap2, .slice A3 l8.length cap3] ∧ Chg [] w0 w') ?_ ?_
      ·have hm := hs2
       refine sR <| wP 4 [(50, .bool (x1 != x3)), (49, .bool (x1 != x3)), (48, ii x3), (47, ii x1)] <| wS_bool (x1 != x3) (fun hb3 => ?_) (fun hb3 => ?_)
       ·have hm := condT hb3 hm
        rewrite [hb3]
        refine wP 5 [(55, .bool (decide (y4.1 ≤ y5.2))), (54, .bool (decide (y4.1 ≤ y5.2))), (53, .bool (decide (y4.1 ≤ y5.2))), (52, ii y5.2), (51, ii y4.1)] <| wS_bool (decide (y4.1 ≤ y5.2)) (fun hb4 => ?_) (fun hb4 => ?_)
        ·have hm := condT hb4 hm
         rewrite [hb4]
         refine wP 4 [(59, .bool (decide (y5.1 ≤ y4.2))), (58, .bool (decide (y5.1 ≤ y4.2))), (57, ii y4.2), (56, ii y5.1)] <| wN <| cP [(0, pt b0), (2, pt b1), (3, .slice A1 y1.length cap1), (4, .map (some b2)), (5, pt b3), (6, ii x1), (7, ii x2), (8, ii y4.1), (9, ii y4.2), (10, ii x3), (11, ii x4), (21, .slice A1 y1.length cap1), (22, ii (y1.length : Int)), (23, ii x1), (34, .slice A1 y1.length cap1), (35, ii (y1.length : Int)), (36, ii x3), (59, .bool (decide (y5.1 ≤ y4.2)))] (fun a3 => ?_)
         refine cC (decide (y5.1 ≤ y4.2)) (fun hb5 => ?_) (fun hb5 => ?_)
         ·have hm := condT hb5 hm
          refine cW_drawnTail [] 7 (by kernel_rfl) (by kernel_rfl) (fun w11 hc9 => ?_)
          replace F17 := F17.c hc9
          replace F18 := F18.c hc9
          replace F19 := F19.c hc9
          replace F20 := F20.c hc9
          replace F21 := F21.c hc9
          replace F22 := F22.c hc9
          replace F23 := F23.c hc9
          replace F24 := F24.c hc9
          replace F25 := F25.c hc9
          replace hB := hB.q hc9
          have hS := Chg.refl [] w11
          have Z1 := F17
          have Z2 := F18
          have Z3 := F19
          have Z4 := F20
          have Z5 := F21
          have Z6 := F22
          have Z7 := F23
          have Z8 := F24
          have Z9 := F25
          refine hT [0] [(60, pt b3)] <| hL 1 61 ⟨b3, 0, none⟩ (.slice A2 l7.length cap2) vt56 (fun W hW => (Z9.c hW).cell 0) ?_
          refine hT [2] [(62, ii x1)] ?_
          obtain ⟨x5, hx5, hm⟩ := bindE hm
          refine hI 3 63 A2 l7.length cap2 .i64 x1 sl56 ((F23.sl encI_ok).is hx5) <| hL 4 64 (elA A2 1 (x1) 0) (ii x5) vt3 (fun W hW => Sl.cell ((Z7.c hW).sl encI_ok) hx5 0 (by rfl)) ?_
          refine hT [5] [(65, ii x3)] ?_
          obtain ⟨u1, hu1, hm⟩ := bindE hm
          refine wH_shl (i := 6) (d := 66) (x := 1) (y := x3) (yk := .i64) (by kernel_rfl) (qT (qT (qT (qT (qB (qT (qL (qB (qT (qB (qT (qL (qB (qT (qT qZ))))))))))))))) (by kernel_rfl) (by kernel_rfl) (p0E hu1) <| wD <| eX_tail <| wP 1 [(67, ii (orI x5 (shlI 1 x3)))] ?_
          obtain ⟨x6, hx6, hm⟩ := bindE hm
          refine sI 68 A2 l7.length cap2 .i64 x1 sl56 ((F23.sl encI_ok).is hx6) <| wS_storeEl (x := x6) (orI x5 (shlI 1 x3)) (T := 3) (U := 3) (cap := cap2) (j := 0) (A := A2) (v := ii (orI x5 (shlI 1 x3))) (vs := [ii (orI x5 (shlI 1 x3))]) (m := x1) (by kernel_rfl) (by rfl) sz3 (by rfl) encI_ok F23 hx6 (bl rfl) (by rfl) ?_
          intro w12 F26 hc10
          replace F17 := F17.chg hc10 (Dj.of L0_0 G4)
          replace F18 := F18.chg hc10 (Dj.of L0_1 G4)
          replace F19 := F19.chg hc10 (dj1 (Dj.of L0 G4))
          replace F20 := F20.chg hc10 (dj1 D5)
          replace F21 := F21.chg hc10 D6
          replace F22 := F22.chg hc10 D7
          replace F24 := F24.chg hc10 (D4).symm
          replace F25 := F25.chg hc10 (dj1 (D14).symm)
          replace hB := hB.inS hc10 (inLow G4)
          clear F23
          rewrite [show l7.length = (l7.set (Int.toNat x1) (orI x5 (shlI 1 x3))).length from (List.length_set ..).symm]
          rewrite [show l7.length = (l7.set (Int.toNat x1) (orI x5 (shlI 1 x3))).length from (List.length_set ..).symm] at F25
          refine wE ?_
          obtain rfl := someE (x := l7.set (Int.toNat x1) (orI x5 (shlI 1 x3))) hm
          exact eX_J (fun hst => ⟨l7.set (Int.toNat x1) (orI x5 (shlI 1 x3)), rfl, fO hst, F17, F18, F19, F20, F21, F22, F26, F24, F25, hB⟩)
         have hm := condF hb5 hm
         refine cW_skip ?_
         obtain rfl := someE (x := l7) hm
         exact eX_J (fun hst => ⟨l7, rfl, fO hst, F17, F18, F19, F20, F21, F22, F23, F24, F25, hB⟩)
        have hm := condF hb4 hm
        rewrite [hb4]
        refine wP 4 [(59, .bool (false)), (58, undef), (57, undef), (56, undef)] <| wN <| cP [(0, pt b0), (2, pt b1), (3, .slice A1 y1.length cap1), (4, .map (some b2)), (5, pt b3), (6, ii x1), (7, ii x2), (8, ii y4.1), (9, ii y4.2), (10, ii x3), (11, ii x4), (21, .slice A1 y1.length cap1), (22, ii (y1.length : Int)), (23, ii x1), (34, .slice A1 y1.length cap1), (35, ii (y1.length : Int)), (36, ii x3), (59, .bool (false))] (fun a4 => ?_)
        refine cCf <| cW_skip ?_
        obtain rfl := someE (x := l7) hm
        exact eX_J (fun hst => ⟨l7, rfl, fO hst, F17, F18, F19, F20, F21, F22, F23, F24, F25, hB⟩)
       have hm := condF hb3 hm
       rewrite [hb3]
       refine wP 9 [(59, .bool (false)), (58, undef), (57, undef), (56, undef), (55, .bool (false)), (54, .bool (false)), (53, undef), (52, undef), (51, undef)] <| wN <| cP [(0, pt b0), (2, pt b1), (3, .slice A1 y1.length cap1), (4, .map (some b2)), (5, pt b3), (6, ii x1), (7, ii x2), (8, ii y4.1), (9, ii y4.2), (10, ii x3), (11, ii x4), (21, .slice A1 y1.length cap1), (22, ii (y1.length : Int)), (23, ii x1), (34, .slice A1 y1.length cap1), (35, ii (y1.length : Int)), (36, ii x3), (59, .bool (false))] (fun a5 => ?_)
       refine cCf <| cW_skip ?_
       obtain rfl := someE (x := l7) hm
       exact eX_J (fun hst => ⟨l7, rfl, fO hst, F17, F18, F19, F20, F21, F22, F23, F24, F25, hB⟩)
      rintro a' w13 ⟨l11, hJ, hF3, F27, F28, F29, F30, F31, F32, F33, F34, F35, hB⟩
      subst hJ
      refine gX hF3 <| eX_then <| sR <| wP 4 [(72, .agg #[ii x2, ii x4]), (71, ii x4), (70, ii x2), (69, .map (some b2))] ?_
      obtain ⟨y6, hy6, hm⟩ := bindE hm
      refine wS_look (k := (x2, x4)) (d := 73) (T := 69) (by kernel_rfl) mk69 mp69 F32 hy6 <| wN <| cC y6 (fun hb6 => ?_) (fun hb6 => ?_)
      ·have hm := condT hb6 hm
       refine cW_drawnTail [] 7 (by kernel_rfl) (by kernel_rfl) (fun w14 hc11 => ?_)
       replace F27 := F27.c hc11
       replace F28 := F28.c hc11
       replace F29 := F29.c hc11
       replace F30 := F30.c hc11
       replace F31 := F31.c hc11
       replace F32 := F32.c hc11
       replace F33 := F33.c hc11
       replace F34 := F34.c hc11
       replace F35 := F35.c hc11
       replace hB := hB.q hc11
       have hS := Chg.refl [] w14
       have Z10 := F27
       have Z11 := F28
       have Z12 := F29
       have Z13 := F30
       have Z14 := F31
       have Z15 := F32
       have Z16 := F33
       have Z17 := F34
       have Z18 := F35
       refine hT [0] [(74, .pointer (some ⟨b3, 1, none⟩))] <| hL 1 75 ⟨b3, 1, none⟩ (.slice A3 l8.length cap3) vt56 (fun W hW => (Z18.c hW).cell 1) ?_
       refine hT [2] [(76, ii x3)] ?_
       obtain ⟨x7, hx7, hm⟩ := bindE hm
       refine hI 3 77 A3 l8.length cap3 .i64 x3 sl56 ((F34.sl encI_ok).is hx7) <| hL 4 78 (elA A3 1 (x3) 0) (ii x7) vt3 (fun W hW => Sl.cell ((Z17.c hW).sl encI_ok) hx7 0 (by rfl)) ?_
       refine hT [5] [(79, ii x1)] ?_
       obtain ⟨u2, hu2, hm⟩ := bindE hm
       refine wH_shl (i := 6) (d := 80) (x := 1) (y := x1) (yk := .i64) (by kernel_rfl) (qT (qT (qB (qT (qL (qB (qT (qB (qT (qL (qB (qT (qT qZ))))))))))))) (by kernel_rfl) (by kernel_rfl) (p0E hu2) <| wD <| eX_tail <| wP 1 [(81, ii (orI x7 (shlI 1 x1)))] ?_
       obtain ⟨x8, hx8, hm⟩ := bindE hm
       refine sI 82 A3 l8.length cap3 .i64 x3 sl56 ((F34.sl encI_ok).is hx8) <| wS_storeEl (x := x8) (orI x7 (shlI 1 x1)) (T := 3) (U := 3) (cap := cap3) (j := 0) (A := A3) (v := ii (orI x7 (shlI 1 x1))) (vs := [ii (orI x7 (shlI 1 x1))]) (m := x3) (by kernel_rfl) (by rfl) sz3 (by rfl) encI_ok F34 hx8 (bl rfl) (by rfl) ?_
       intro w15 F36 hc12
       replace F27 := F27.chg hc12 (Dj.of L0_0 G5)
       replace F28 := F28.chg hc12 (Dj.of L0_1 G5)
       replace F29 := F29.chg hc12 (dj1 (Dj.of L0 G5))
       replace F30 := F30.chg hc12 (dj1 D8)
       replace F31 := F31.chg hc12 D9
       replace F32 := F32.chg hc12 D10
       replace F33 := F33.chg hc12 D4
       replace F35 := F35.chg hc12 (dj1 (D15).symm)
       replace hB := hB.inS hc12 (inLow G5)
       clear F34
       rewrite [show l8.length = (l8.set (Int.toNat x3) (orI x7 (shlI 1 x1))).length from (List.length_set ..).symm]
       rewrite [show l8.length = (l8.set (Int.toNat x3) (orI x7 (shlI 1 x1))).length from (List.length_set ..).symm] at F35
       refine wE ?_
       obtain rfl := someE (x := ((l11, l8.set (Int.toNat x3) (orI x7 (shlI 1 x1))))) hm
       exact eX_J (fun hst => ⟨l11, l8.set (Int.toNat x3) (orI x7 (shlI 1 x1)), rfl, fO hst, F27, F28, F29, F30, F31, F32, F33, F36, F35, hB⟩)
      have hm := condF hb6 hm
      refine cW_skip ?_
      obtain rfl := someE (x := ((l11, l8))) hm
      exact eX_J (fun hst => ⟨l11, l8, rfl, fO hst, F27, F28, F29, F30, F31, F32, F33, F34, F35, hB⟩)
     rintro a' w16 ⟨l9, l10, hJ, hF4, F37, F38, F39, F40, F41, F42, F43, F44, F45, hB⟩
     subst hJ
     refine gX hF4 <| eX_block <| eX_then <| cW_region <| wP 2 [(36, ii (wr (x3 + 1))), (83, ii (wr (x3 + 1)))] <| wE ?_
     obtain rfl := someE (x := (Ctl.next ((wr (x3 + 1), l9, l10)))) hm
     exact eX_next hx3 (fun hst => ⟨wr (x3 + 1), l9, l10, rfl, fO hst, F37, F38, F39, F40, F41, F42, F43, F44, F45, hB⟩)
    have hm := condF hb2 hm
    refine cW_exit <| eX_then_exit ?_
    obtain rfl := someE (x := (Ctl.out ((l7, l8)))) hm
    refine eX_outX hx3 (fun hr3 => ?_)
    replace hr3 := hr3.symm
    subst hr3
    refine eX_block_hit ?_
    exact eX_J (fun hst => ⟨l7, l8, rfl, fO hst, F17, F18, F19, F20, F21, F22, F23, F24, F25, hB⟩)
   rintro a' w17 ⟨l5, l6, hJ, hF5, F46, F47, F48, F49, F50, F51, F52, F53, F54, hB⟩
   subst hJ
   refine gX hF5 <| eX_block <| eX_then <| cW_region <| wP 2 [(23, ii (wr (x1 + 1))), (84, ii (wr (x1 + 1)))] <| wE ?_
   obtain rfl := someE (x := (Ctl.next ((wr (x1 + 1), l5, l6)))) hm
   exact eX_next hx1 (fun hst => ⟨wr (x1 + 1), l5, l6, rfl, fO hst, F46, F47, F48, F49, F50, F51, F52, F53, F54, hB⟩)
  have hm := condF hb1 hm
  refine cW_exit <| eX_then_exit ?_
  obtain rfl := someE (x := (Ctl.out ((l3, l4)))) hm
  refine eX_outX hx1 (fun hr4 => ?_)
  replace hr4 := hr4.symm
  subst hr4
  refine eX_block_hit ?_
  exact eX_J (fun hst => ⟨l3, l4, rfl, fO hst, F11, F14, F15, F16, hB⟩)
 rintro a' w18 ⟨l1, l2, hJ, hF6, F55, F56, F57, F58, hB⟩
 subst hJ
 refine gX hF6 <| eX_then <| sR <| wS_loadA (d := 85) (T := 58) (ad := ⟨b3, 0, none⟩) (vs := [.slice A2 l1.length cap2, .slice A3 l2.length cap3]) (by kernel_rfl) vt58 (fun i u hu => box_cells F58 0 hu (by rfl)) ?_
 refine wS_store (T := 58) (g := b1) (o := 0) (ad := ⟨b1, 0, none⟩) (v := .agg #[.slice A2 l1.length cap2, .slice A3 l2.length cap3]) (vs := [.slice A2 l1.length cap2, .slice A3 l2.length cap3]) (by kernel_rfl) (by rfl) sz58 (by rfl) (by rfl) F55 (bl rfl) ?_
 intro w19 F59 hc13
 replace F56 := F56.chg hc13 (D5).symm
 replace F57 := F57.chg hc13 (D8).symm
 replace F58 := F58.chg hc13 (dj1 (D11).symm)
 replace hB := hB.inS hc13 (inLow (low1 G1))
 replace F59 : Cl w19 b1 58 [.slice A2 l1.length cap2, .slice A3 l2.length cap3] := F59
 clear F55
 refine wN <| cW_ret ?_
 obtain rfl := someE (x := ((l1, l2))) hm
 refine eX_ret (vs := [.agg #[.slice A2 l1.length cap2, .slice A3 l2.length cap3]]) [.cell 2 58] (by rfl) ⟨⟨⟨b1, 0, none⟩, by kernel_rfl, run_loadVarA (vs := [.slice A2 l1.length cap2, .slice A3 l2.length cap3]) vt58 (fun i u hu => by exact box_cells F59 0 hu (by rfl))⟩, trivial⟩ ?_
 exact ⟨A2, cap2, fp2, A3, cap3, fp3, rfl, F56, G4, F57, G5, D4, hB⟩

set_option maxRecDepth 100000 in
theorem c_iFewes1 {w0 p0 l1_0 A1_0 cap1_0 fp1_0 b1} {r : (Int)} (hm : m_iFewes1 p0 l1_0 = some r) (F1_0 : S1 w0 fp1_0 A1_0 l1_0) (F1 : Cl w0 b1 24 [.slice A1_0 l1_0.length cap1_0]) :
  Calls Tryd.prog 41 #[ii p0, pt b1] w0 fun e w' => e = .returned (ii r) ∧ Chg [] w0 w' := by
 have L1_0 := F1_0.low
 have L1 := lt1 F1.lt
 have hB : Chg [] w0 w0 := Chg.refl _ _
 unfold m_iFewes1 at hm
 refine enterE (N := 8) Tryd.func41 (by rfl) Tryd.ntmps41 (by simp) [(0, ii p0), (1, pt b1)] (by rfl) (by kernel_rfl) (fun a => ?_)
 refine sR <| wP 1 [(3, ii 0)] <| wN <| sR <| sL 4 ⟨b1, 0, none⟩ (.slice A1_0 l1_0.length cap1_0) vt24 ((F1).cell 0) <| wP 1 [(5, ii p0)] ?_
 obtain ⟨x1, hx1, hm⟩ := bindE hm
 refine sI 6 A1_0 l1_0.length cap1_0 .i64 p0 sl24 (F1_0.is hx1) <| sL 7 (elA A1_0 1 (p0) 0) (ii x1) vt2 (Sl.cell F1_0 hx1 0 (by rfl)) <| wP 1 [(3, ii x1)] <| wN <| cW_ret ?_
 obtain rfl := someE (x := x1) hm
 refine rA (ii x1) 3 ?_
 exact ⟨rfl, hB⟩

end Go.Proofs.YtbfjekmefcpkmaaDoor
