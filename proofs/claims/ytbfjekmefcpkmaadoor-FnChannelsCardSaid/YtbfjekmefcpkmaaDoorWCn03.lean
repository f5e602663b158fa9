/- Printed walks: impl.toldTracks, impl.FewestTracks, slices.Index[[]int,int], slices.Contains[[]int,int], math/bits.Mul64, math/bits.Mul, slices.Repeat[[]int,int], (impl.graph).back, (impl.graph).shortest, (impl.graph).ring$1, slices.IndexFunc[[]int,int], (impl.graph).ring, (*impl.Channel).aboveGraph, impl.CycleOf, (*impl.Channel).density, impl.DensityOf, slices.Max[[]int64,int64]. -/
import Derived.Test.YtbfjekmefcpkmaaDoorProg
import Derived.Test.YtbfjekmefcpkmaaDoorWCn02
set_option linter.unusedSimpArgs false
set_option linter.unusedVariables false
namespace Go.Proofs.YtbfjekmefcpkmaaDoor
open Go.RowKit
attribute [local irreducible] wS cW eX wH

theorem ent36 : Ent Tryd.prog 36 := fun _ => by kernel_rfl
theorem ent37 : Ent Tryd.prog 37 := fun _ => by kernel_rfl
theorem ent38 : Ent Tryd.prog 38 := fun _ => by kernel_rfl
theorem ent40 : Ent Tryd.prog 40 := fun _ => by kernel_rfl
theorem ent41 : Ent Tryd.prog 41 := fun _ => by kernel_rfl
theorem ent42 : Ent Tryd.prog 42 := fun _ => by kernel_rfl
theorem ent43 : Ent Tryd.prog 43 := fun _ => by kernel_rfl
theorem ent44 : Ent Tryd.prog 44 := fun _ => by kernel_rfl
theorem ent45 : Ent Tryd.prog 45 := fun _ => by kernel_rfl
theorem ent82 : Ent Tryd.prog 82 := fun _ => by kernel_rfl
theorem ent83 : Ent Tryd.prog 83 := fun _ => by kernel_rfl
theorem ent84 : Ent Tryd.prog 84 := fun _ => by kernel_rfl
theorem ent85 : Ent Tryd.prog 85 := fun _ => by kernel_rfl
theorem ent106 : Ent Tryd.prog 106 := fun _ => by kernel_rfl
theorem ent107 : Ent Tryd.prog 107 := fun _ => by kernel_rfl
theorem ent122 : Ent Tryd.prog 122 := fun _ => by kernel_rfl
theorem ent130 : Ent Tryd.prog 130 := fun _ => by kernel_rfl
theorem sl54 : SlTy Tryd.prog 54 56 1 := ⟨Tryd.underlying54, by kernel_rfl⟩
theorem sl64 : SlTy Tryd.prog 64 56 1 := ⟨Tryd.underlying64, by kernel_rfl⟩
theorem el64 : ElTy Tryd.prog 64 56 1 (.slice none 0 0) := ElTy.mk' Tryd.underlying64 (by kernel_rfl) (by rfl)

set_option maxRecDepth 100000 in
theorem c_iToldTFewes {w0} {l0 : List (List Int)} {A0 : Option Addr} {cap0 : Nat} {fp0 : List Nat} {l1_0_0 : List Int} {A1_0_0 : Option Addr} {cap1_0_0 : Nat} {fp1_0_0 : List Nat} {b1_0 : Nat} {r : (List (List Int))} (hm : m_iToldTFewes l0 l1_0_0 = some r) (F0 : SlR 1 encI w0 fp0 A0 l0) (F1_0_0 : S1 w0 fp1_0_0 A1_0_0 l1_0_0) (F1_0 : Cl w0 b1_0 24 [.slice A1_0_0 l1_0_0.length cap1_0_0]) :
  Calls Tryd.prog 40 #[.slice A0 l0.length cap0, .func (.func 41) #[] #[pt b1_0]] w0 fun e w' => ∃ A100 cap100 fp100 fr100, e = .returned (.slice A100 r.length cap100) ∧ OwR 1 encI 24 2 w' fp100 fr100 A100 cap100 r ∧ (∀ x ∈ fp100 ++ fr100, w0.heap.size ≤ x) ∧ Chg [] w0 w' := by
 have L0 := F0.low
 have L1_0_0 := F1_0_0.low
 have L1_0 := lt1 F1_0.lt
 have hB : Chg [] w0 w0 := Chg.refl _ _
 unfold m_iToldTFewes at hm
 refine enterE (N := 38) Tryd.func40 (by rfl) Tryd.ntmps40 (by simp) [(0, .slice A0 l0.length cap0), (1, .func (.func 41) #[] #[pt b1_0])] (by rfl) (by kernel_rfl) (fun a => ?_)
 refine sR <| wP 1 [(4, .slice none 0 0)] <| wN <| sR <| wS_rows0 (k := 1) (enc := encI) (d := 11) (t := 28) (T := 24) (T2 := 2) (by kernel_rfl) el28 ?_
 intro b1 w1 G1 F1 hc1
 replace F0 := F0.c hc1
 replace F1_0_0 := F1_0_0.c hc1
 replace F1_0 := F1_0.c hc1
 replace G1 := Nat.le_trans hB.size G1
 replace G1 := low1 G1
 replace hB := hB.q hc1
 replace G1 := lowApp G1 lowNil
 refine wP 1 [(5, .slice (ad b1) (([] : List (List Int))).length 0)] <| wN <| cW_seq <| sR <| wP 3 [(14, ii 0), (13, ii (l0.length : Int)), (12, .slice A0 l0.length cap0)] <| wN ?_
 obtain ⟨r1, hr1, hm⟩ := bindE hm
 have hm1 := hm
 refine cW_cut (fun a' w' => ∃ l1 : List (List Int), ∃ A1 : Option Addr, ∃ cap1 : Nat, ∃ fp1 : List Nat, ∃ fr1 : List Nat, l1 = r1 ∧ Fr 38 [(5, .slice A1 l1.length cap1)] a' ∧ OwR 1 encI 24 2 w' fp1 fr1 A1 cap1 l1 ∧ (∀ x ∈ (fp1 ++ fr1), w0.heap.size ≤ x) ∧ Chg [] w0 w') ?_ ?_
 ·refine cW_block ?_
  refine cW_loop _ (fun (s1 : (List (List Int)) × Int) a' w' => ∃ l3 : List (List Int), ∃ A3 : Option Addr, ∃ cap3 : Nat, ∃ fp2 : List Nat, ∃ fr2 : List Nat, ∃ x1 : Int, (l3, x1) = s1 ∧ Fr 38 [(1, .func (.func 41) #[] #[pt b1_0]), (5, .slice A3 l3.length cap3), (12, .slice A0 l0.length cap0), (13, ii (l0.length : Int)), (14, ii x1)] a' ∧ SlR 1 encI w' fp0 A0 l0 ∧ S1 w' fp1_0_0 A1_0_0 l1_0_0 ∧ Cl w' b1_0 24 [.slice A1_0_0 l1_0_0.length cap1_0_0] ∧ OwR 1 encI 24 2 w' fp2 fr2 A3 cap3 l3 ∧ (∀ x ∈ (fp2 ++ fr2), w0.heap.size ≤ x) ∧ Chg [] w0 w') hr1 (fun hst => ⟨([] : List (List Int)), (ad b1), 0, [b1], [], 0, rfl, fO hst, F0, F1_0_0, F1_0, F1, G1, hB⟩) ?_
  rintro _ c1 a' w2 ⟨l3, A3, cap3, fp2, fr2, x1, rfl, hF1, F2, F3, F4, F5, G2, hB⟩ hx1
  refine gO hF1 ?_
  have hm := hx1
  unfold m_iToldTFewes_s3 at hm
  refine sR <| wP 1 [(15, .bool (decide (x1 < ((l0.length : Int)))))] <| wN <| cW_seq <| cC (decide (x1 < ((l0.length : Int)))) (fun hb1 => ?_) (fun hb1 => ?_)
  ·have hm := condT hb1 hm
   refine cW_skip <| eX_then <| cW_seq <| cW_block <| sR ?_
   obtain ⟨x2, hx2, hm⟩ := bindE hm
   refine sI 16 A0 l0.length cap0 .i64 x1 sl54 (F2.is hx2) ?_
   obtain ⟨A4, cap4, hc2, F6, K1⟩ := SlR.row F2 hx2
   refine sL 17 (elA A0 1 (x1) 0) (.slice A4 x2.length cap4) vt56 hc2 <| wP 1 [(7, .slice A4 x2.length cap4)] <| wN <| sR <| wS_bs0 (α := Int) (enc := encI) (d := 18) (t := 24) (T := 2) (by kernel_rfl) el24 ?_
   intro b2 w3 G3 F7 hc3
   have D1 := Dj.of F5.low (low1 G3)
   replace F2 := F2.c hc3
   replace F3 := F3.c hc3
   replace F4 := F4.c hc3
   replace F5 := F5.c hc3
   replace F6 := F6.c hc3
   replace G3 := Nat.le_trans hB.size G3
   replace G3 := low1 G3
   replace hB := hB.q hc3
   refine wP 1 [(8, .slice (ad b2) (([] : List Int)).length 0)] <| wN <| cW_seq <| sR <| wP 3 [(21, ii 0), (20, ii (x2.length : Int)), (19, .slice A4 x2.length cap4)] <| wN ?_
   obtain ⟨r2, hr2, hm⟩ := bindE hm
   have hm2 := hm
   refine cW_cut (fun a' w' => ∃ l4 : List Int, ∃ A5 : Option Addr, ∃ cap5 : Nat, ∃ fp3 : List Nat, l4 = r2 ∧ Fr 38 [(1, .func (.func 41) #[] #[pt b1_0]), (5, .slice A3 l3.length cap3), (8, .slice A5 l4.length cap5), (12, .slice A0 l0.length cap0), (13, ii (l0.length : Int)), (14, ii x1)] a' ∧ SlR 1 encI w' fp0 A0 l0 ∧ S1 w' fp1_0_0 A1_0_0 l1_0_0 ∧ Cl w' b1_0 24 [.slice A1_0_0 l1_0_0.length cap1_0_0] ∧ OwR 1 encI 24 2 w' fp2 fr2 A3 cap3 l3 ∧ O1 2 w' fp3 A5 cap5 l4 ∧ (∀ x ∈ fp3, w0.heap.size ≤ x) ∧ Dj (fp2 ++ fr2) fp3 ∧ Chg [] w0 w') ?_ ?_
   ·refine cW_block ?_
    refine cW_loop _ (fun (s2 : (List Int) × Int) a' w' => ∃ l5 : List Int, ∃ A6 : Option Addr, ∃ cap6 : Nat, ∃ fp4 : List Nat, ∃ x3 : Int, (l5, x3) = s2 ∧ Fr 38 [(1, .func (.func 41) #[] #[pt b1_0]), (5, .slice A3 l3.length cap3), (8, .slice A6 l5.length cap6), (12, .slice A0 l0.length cap0), (13, ii (l0.length : Int)), (14, ii x1), (19, .slice A4 x2.length cap4), (20, ii (x2.length : Int)), (21, ii x3)] a' ∧ SlR 1 encI w' fp0 A0 l0 ∧ S1 w' fp1_0_0 A1_0_0 l1_0_0 ∧ Cl w' b1_0 24 [.slice A1_0_0 l1_0_0.length cap1_0_0] ∧ OwR 1 encI 24 2 w' fp2 fr2 A3 cap3 l3 ∧ S1 w' fp0 A4 x2 ∧ O1 2 w' fp4 A6 cap6 l5 ∧ (∀ x ∈ fp4, w0.heap.size ≤ x) ∧ Dj (fp2 ++ fr2) fp4 ∧ Chg [] w0 w') hr2 (fun hst => ⟨([] : List Int), (ad b2), 0, [b2], 0, rfl, fO hst, F2, F3, F4, F5, F6, F7, G3, D1, hB⟩) ?_
    rintro _ c2 a' w4 ⟨l5, A6, cap6, fp4, x3, rfl, hF2, F8, F9, F10, F11, F12, F13, G4, D2, hB⟩ hx3
    refine gO hF2 ?_
    have hm := hx3
    unfold m_iToldTFewes_s4 at hm
    refine sR <| wP 1 [(22, .bool (decide (x3 < ((x2.length : Int)))))] <| wN <| cW_seq <| cC (decide (x3 < ((x2.length : Int)))) (fun hb2 => ?_) (fun hb2 => ?_)
    ·have hm := condT hb2 hm
     refine cW_skip <| eX_then <| cW_seq <| cW_block <| sR ?_
     obtain ⟨x4, hx4, hm⟩ := bindE hm
     refine sI 23 A4 x2.length cap4 .i64 x3 sl56 (F12.is hx4) <| sL 24 (elA A4 1 (x3) 0) (ii x4) vt3 (Sl.cell F12 hx4 0 (by rfl)) <| wP 1 [(10, ii x4)] <| wN <| cW_region <| wP 3 [(27, ii x4), (26, .func (.func 41) #[] #[pt b1_0]), (25, .slice A6 l5.length cap6)] ?_
     obtain ⟨y1, hy1, hm⟩ := bindE hm
     refine sC 28 [ii x4, pt b1_0] ent41 (c_iFewes1 hy1 F9 F10) ?_
     rintro _ w5 ⟨rfl, hc4⟩
     replace F8 := F8.c hc4
     replace F9 := F9.c hc4
     replace F10 := F10.c hc4
     replace F11 := F11.c hc4
     replace F12 := F12.c hc4
     replace F13 := F13.c hc4
     replace hB := hB.q hc4
     refine ⟨ii y1, rfl, ?_⟩
     refine wS_bs (enc := encI) ([y1] : List Int) [ii y1] (d := 29) (t := 24) (T := 2) (n := 1) (ps := [(0, ii y1)]) (by kernel_rfl) el24 encI_ok (by rfl) (by omega) (by omega) (by kernel_rfl) (by rfl) ?_
     intro b3 w6 G5 F14 hc5
     have D3 := Dj.of F11.low (low1 G5)
     have D4 := Dj.of F13.low (low1 G5)
     replace F8 := F8.c hc5
     replace F9 := F9.c hc5
     replace F10 := F10.c hc5
     replace F11 := F11.c hc5
     replace F12 := F12.c hc5
     replace F13 := F13.c hc5
     replace G5 := Nat.le_trans hB.size G5
     replace G5 := low1 G5
     replace hB := hB.q hc5
     obtain ⟨_, hk1, hm⟩ := bindE hm
     replace hk1 := apE hk1
     refine wS_append (enc := encI) (l := (l5 : List Int)) (l2 := (([y1] : List Int) : List Int)) (d := 30) (t := 24) (T := 2) (A := A6) (A2 := (ad b3)) (cap := cap6) (cap2 := 1) (by kernel_rfl) el24 encI_ok F13 (F14.sl encI_ok) (by rfl) hk1 ?_
     intro w7 fp5 A7 cap7 F15 hc6 hp1
     have G6 := low_ap G4 hB.size hp1
     have D5 : Dj (fp2 ++ fr2) fp5 := Dj.ap D2 F11.low hp1
     have D6 : Dj [b3] fp5 := Dj.ap (D4).symm F14.low hp1
     replace F8 := F8.chg hc6 (Dj.of L0 G4)
     replace F9 := F9.chg hc6 (Dj.of L1_0_0 G4)
     replace F10 := F10.chg hc6 (dj1 (Dj.of L1_0 G4))
     replace F11 := F11.chg hc6 D2
     replace F12 := F12.chg hc6 (Dj.of L0 G4)
     replace F14 := F14.chg hc6 (D4).symm
     replace hB := hB.inS hc6 (inLow G4)
     refine wP 1 [(8, .slice A7 (l5 ++ (([y1] : List Int))).length cap7)] <| wE <| eX_block <| eX_then <| cW_region <| wP 2 [(21, ii (wr (x3 + 1))), (31, ii (wr (x3 + 1)))] <| wE ?_
     obtain rfl := someE (x := (Ctl.next ((l5 ++ (([y1] : List Int)), wr (x3 + 1))))) hm
     exact eX_next hx3 (fun hst => ⟨l5 ++ (([y1] : List Int)), A7, cap7, fp5, wr (x3 + 1), rfl, fO hst, F8, F9, F10, F11, F12, F15, G6, D5, hB⟩)
    have hm := condF hb2 hm
    refine cW_exit <| eX_then_exit ?_
    obtain rfl := someE (x := Ctl.out l5) hm
    refine eX_outX hx3 (fun hr3 => ?_)
    replace hr3 := hr3.symm
    subst hr3
    refine eX_block_hit ?_
    exact eX_J (fun hst => ⟨l5, A6, cap6, fp4, rfl, fO hst, F8, F9, F10, F11, F13, G4, D2, hB⟩)
   rintro a' w8 ⟨l4, A5, cap5, fp3, hJ, hF3, F16, F17, F18, F19, F20, G7, D7, hB⟩
   subst hJ
   refine gX hF3 <| eX_then <| cW_region <| wP 2 [(33, .slice A5 l4.length cap5), (32, .slice A3 l3.length cap3)] <| wS_row1 (k := 1) (enc := encI) (l := l4) (d := 34) (t := 28) (T := 24) (B := A5) (c := cap5) (by kernel_rfl) el28 F20 ?_
   intro b4 w9 G8 F21 hc7
   have D8 : Dj (fp2 ++ fr2) ([b4] ++ fp3) := Dj.app (Dj.of F19.low (low1 G8)) D7
   replace F16 := F16.c hc7
   replace F17 := F17.c hc7
   replace F18 := F18.c hc7
   replace F19 := F19.c hc7
   replace F20 := F20.c hc7
   replace G8 := Nat.le_trans hB.size G8
   replace G8 := lowApp (low1 G8) G7
   replace hB := hB.q hc7
   replace F20 := (F20.sl encI_ok)
   obtain ⟨_, hk2, hm⟩ := bindE hm
   replace hk2 := apE hk2
   refine wS_appendR (k := 1) (enc := encI) (ll := (l3 : List (List Int))) (ll2 := (([l4] : List (List Int)) : List (List Int))) (d := 35) (t := 28) (T := 24) (A := A3) (A2 := (ad b4)) (cap := cap3) (cap2 := 1) (by kernel_rfl) el28 F19 F21 (by rfl) D8 hk2 ?_
   intro w10 fp6 A8 cap8 F22 hc8 hp2
   have G9 := lowApp (low_ap (low_inl G2) hB.size hp2) (lowApp (low_inr G2) (low_inr G8))
   replace F16 := F16.chg hc8 (Dj.inl (Dj.of L0 G2))
   replace F17 := F17.chg hc8 (Dj.inl (Dj.of L1_0_0 G2))
   replace F18 := F18.chg hc8 (dj1 (Dj.inl (Dj.of L1_0 G2)))
   replace hB := hB.inS hc8 (memS_inl (inLow G2))
   refine wP 1 [(5, .slice A8 (l3 ++ (([l4] : List (List Int)))).length cap8)] <| wE <| eX_block <| eX_then <| cW_region <| wP 2 [(14, ii (wr (x1 + 1))), (36, ii (wr (x1 + 1)))] <| wE ?_
   obtain rfl := someE (x := (Ctl.next ((l3 ++ (([l4] : List (List Int))), wr (x1 + 1))))) hm
   exact eX_next hx1 (fun hst => ⟨l3 ++ (([l4] : List (List Int))), A8, cap8, fp6, (fr2 ++ fp3), wr (x1 + 1), rfl, fO hst, F16, F17, F18, F22, G9, hB⟩)
  have hm := condF hb1 hm
  refine cW_exit <| eX_then_exit ?_
  obtain rfl := someE (x := Ctl.out l3) hm
  refine eX_outX hx1 (fun hr4 => ?_)
  replace hr4 := hr4.symm
  subst hr4
  refine eX_block_hit ?_
  exact eX_J (fun hst => ⟨l3, A3, cap3, fp2, fr2, rfl, fO hst, F5, G2, hB⟩)
 rintro a' w11 ⟨l1, A1, cap1, fp1, fr1, hJ, hF4, F23, G10, hB⟩
 subst hJ
 refine gX hF4 <| eX_then <| sR <| wP 2 [(4, .slice A1 l1.length cap1), (37, .slice A1 l1.length cap1)] <| wN <| cW_ret ?_
 obtain rfl := someE (x := l1) hm
 refine rA (.slice A1 l1.length cap1) 4 ?_
 exact ⟨A1, cap1, fp1, fr1, rfl, F23, G10, hB⟩

set_option maxRecDepth 100000 in
theorem c_iFewes {w0 l0_0 A0_0 cap0_0 fp0_0 l0_1 A0_1 cap0_1 fp0_1} {r : (List (List Int)) × Bool} (hm : m_iFewes l0_0 l0_1 = some r) (F0_0 : S1 w0 fp0_0 A0_0 l0_0) (K0_0 : l0_0.length ≤ cap0_0) (F0_1 : S1 w0 fp0_1 A0_1 l0_1) (K0_1 : l0_1.length ≤ cap0_1) (FG : Sl 1 encU w0 [1] (ad 1) tab64) :
  Calls Tryd.prog 9 #[.agg #[.slice A0_0 l0_0.length cap0_0, .slice A0_1 l0_1.length cap0_1]] w0 fun e w' => ∃ A100 cap100 fp100 fr100, e = .returned (.tuple #[.slice A100 r.1.length cap100, .bool (r.2)]) ∧ OwR 1 encI 24 2 w' fp100 fr100 A100 cap100 r.1 ∧ (∀ x ∈ fp100 ++ fr100, w0.heap.size ≤ x) ∧ Chg [] w0 w' := by
 have L0_0 := F0_0.low
 have L0_1 := F0_1.low
 have Lg := FG.low
 have hB : Chg [] w0 w0 := Chg.refl _ _
 unfold m_iFewes at hm
 refine enterE (N := 21) Tryd.func9 (by rfl) Tryd.ntmps9 (by simp) [(0, .agg #[.slice A0_0 l0_0.length cap0_0, .slice A0_1 l0_1.length cap0_1])] (by rfl) (by kernel_rfl) (fun a => ?_)
 refine sR <| wS_box (d := 1) (T := 26) (x := .agg #[.slice A0_0 l0_0.length cap0_0, .slice A0_1 l0_1.length cap0_1]) (by kernel_rfl) ?_
 intro b1 w1 G1 F1 hc1
 replace F1 : Cl w1 b1 26 [.slice A0_0 l0_0.length cap0_0, .slice A0_1 l0_1.length cap0_1] := F1
 replace F0_0 := F0_0.c hc1
 replace F0_1 := F0_1.c hc1
 replace FG := FG.c hc1
 replace G1 := Nat.le_trans hB.size G1
 replace hB := hB.q hc1
 refine wP 2 [(3, .bool (false)), (2, .slice none 0 0)] <| wN <| cW_seq <| sR <| wS_loadA (d := 7) (T := 26) (ad := ⟨b1, 0, none⟩) (vs := [.slice A0_0 l0_0.length cap0_0, .slice A0_1 l0_1.length cap0_1]) (by kernel_rfl) vt26 (fun i u hu => box_cells F1 0 hu (by rfl)) ?_
 obtain ⟨y1, hy1, hm⟩ := bindE hm
 refine sC 8 [.agg #[.slice A0_0 l0_0.length cap0_0, .slice A0_1 l0_1.length cap0_1]] ent36 (c_iValid hy1 F0_0 K0_0 F0_1 K0_1) ?_
 rintro _ w2 ⟨rfl, hc2⟩
 replace F0_0 := F0_0.c hc2
 replace F0_1 := F0_1.c hc2
 replace FG := FG.c hc2
 replace F1 := F1.c hc2
 replace hB := hB.q hc2
 refine ⟨.bool (y1), rfl, ?_⟩
 refine wP 1 [(9, .bool (!y1))] <| wN <| cC (!y1) (fun hb1 => ?_) (fun hb1 => ?_)
 ·have hm := condT hb1 hm
  refine sR <| wP 2 [(3, .bool (false)), (2, .slice none 0 0)] <| wN <| cW_ret <| eX_then_ret ?_
  obtain rfl := someE (x := (([], false))) hm
  refine rB (.slice none 0 0) (.bool (false)) 2 3 ?_
  exact ⟨none, 0, [], [], rfl, OwR.nil _, (lowApp lowNil lowNil), hB⟩
 have hm := condF hb1 hm
 refine cW_skip <| eX_then <| sR ?_
 obtain ⟨y2, hy2, hm⟩ := bindE hm
 refine sC 11 [pt b1] ent37 (c_iChannNetOr hy2 F0_0 F0_1 F1) ?_
 rintro _ w3 ⟨A1, cap1, fp1, A2, cap2, fp2, rfl, F2, G2, F3, G3, D1, hc3⟩
 have D2 := Dj.of (lt1 F1.lt) G2
 have D3 := Dj.of (lt1 F1.lt) G3
 replace F0_0 := F0_0.c hc3
 replace F0_1 := F0_1.c hc3
 replace FG := FG.c hc3
 replace F1 := F1.c hc3
 replace G2 := low_le hB.size G2
 replace G3 := low_le hB.size G3
 replace hB := hB.q hc3
 refine ⟨.agg #[.slice A1 y2.1.length cap1, .slice A2 y2.2.length cap2], rfl, ?_⟩
 obtain ⟨y3, hy3, hm⟩ := bindE hm
 refine sC 12 [.agg #[.slice A1 y2.1.length cap1, .slice A2 y2.2.length cap2]] ent38 (c_iOrderBest hy3 (F2.sl encI_ok) (F3.sl encI_ok) FG) ?_
 rintro _ w4 ⟨A3, cap3, fp3, fr1, rfl, F4, G4, hc4⟩
 have D4 := Dj.of (lt1 F1.lt) G4
 have D5 := Dj.of F2.low G4
 have D6 := Dj.of F3.low G4
 replace F0_0 := F0_0.c hc4
 replace F0_1 := F0_1.c hc4
 replace FG := FG.c hc4
 replace F1 := F1.c hc4
 replace F2 := F2.c hc4
 replace F3 := F3.c hc4
 replace G4 := low_le hB.size G4
 replace hB := hB.q hc4
 refine ⟨.tuple #[.slice A3 y3.1.length cap3, .bool (y3.2)], rfl, ?_⟩
 refine wP 5 [(5, .bool (y3.2)), (4, .slice A3 y3.1.length cap3), (14, .bool (y3.2)), (13, .slice A3 y3.1.length cap3), (10, .tuple #[.slice A3 y3.1.length cap3, .bool (y3.2)])] <| wN <| cW_seq <| sR <| wP 2 [(16, .bool (!y3.2)), (15, .bool (y3.2))] <| wN <| cC (!y3.2) (fun hb2 => ?_) (fun hb2 => ?_)
 ·have hm := condT hb2 hm
  refine sR <| wP 2 [(3, .bool (false)), (2, .slice none 0 0)] <| wN <| cW_ret <| eX_then_ret ?_
  obtain rfl := someE (x := (([], false))) hm
  refine rB (.slice none 0 0) (.bool (false)) 2 3 ?_
  exact ⟨none, 0, [], [], rfl, OwR.nil _, (lowApp lowNil lowNil), hB⟩
 have hm := condF hb2 hm
 refine cW_skip <| eX_then <| sR ?_
 obtain ⟨y4, hy4, hm⟩ := bindE hm
 refine sC 17 [pt b1] ent39 (c_iChannNets hy4 F0_0 F0_1 F1) ?_
 rintro _ w5 ⟨A4, cap4, fp4, rfl, F5, G5, hc5⟩
 have D7 := Dj.of (lt1 F1.lt) G5
 have D8 := Dj.of F2.low G5
 have D9 := Dj.of F3.low G5
 have D10 := Dj.of F4.low G5
 replace F0_0 := F0_0.c hc5
 replace F0_1 := F0_1.c hc5
 replace FG := FG.c hc5
 replace F1 := F1.c hc5
 replace F2 := F2.c hc5
 replace F3 := F3.c hc5
 replace F4 := F4.c hc5
 replace G5 := low_le hB.size G5
 replace hB := hB.q hc5
 refine ⟨.slice A4 y4.length cap4, rfl, ?_⟩
 refine wS_alloc (d := 6) (T := 24) (z := .slice none 0 0) (by kernel_rfl) (by kernel_rfl) ?_
 intro b2 w6 G6 F6 hc6
 replace F6 : Cl w6 b2 24 [.slice none 0 0] := F6
 have D11 := Dj.of (lt1 F1.lt) (low1 G6)
 have D12 := Dj.of F2.low (low1 G6)
 have D13 := Dj.of F3.low (low1 G6)
 have D14 := Dj.of F4.low (low1 G6)
 have D15 := Dj.of F5.low (low1 G6)
 replace F0_0 := F0_0.c hc6
 replace F0_1 := F0_1.c hc6
 replace FG := FG.c hc6
 replace F1 := F1.c hc6
 replace F2 := F2.c hc6
 replace F3 := F3.c hc6
 replace F4 := F4.c hc6
 replace F5 := F5.c hc6
 replace G6 := Nat.le_trans hB.size G6
 replace hB := hB.q hc6
 refine wS_store (T := 24) (g := b2) (o := 0) (ad := ⟨b2, 0, none⟩) (v := .slice A4 y4.length cap4) (vs := [.slice A4 y4.length cap4]) (by kernel_rfl) (by rfl) sz24 (by rfl) (by rfl) F6 (bl rfl) ?_
 intro w7 F7 hc7
 replace F0_0 := F0_0.chg hc7 (Dj.of L0_0 (low1 G6))
 replace F0_1 := F0_1.chg hc7 (Dj.of L0_1 (low1 G6))
 replace FG := FG.chg hc7 (Dj.of Lg (low1 G6))
 replace F1 := F1.chg hc7 (dj1 D11)
 replace F2 := F2.chg hc7 D12
 replace F3 := F3.chg hc7 D13
 replace F4 := F4.chg hc7 D14
 replace F5 := F5.chg hc7 D15
 replace hB := hB.inS hc7 (inLow (low1 G6))
 replace F7 : Cl w7 b2 24 [.slice A4 y4.length cap4] := F7
 clear F6
 refine wN <| sR <| wP 2 [(19, .func (.func 41) #[] #[pt b2]), (18, .slice A3 y3.1.length cap3)] ?_
 obtain ⟨y5, hy5, hm⟩ := bindE hm
 refine sC 20 [.slice A3 y3.1.length cap3, .func (.func 41) #[] #[pt b2]] ent40 (c_iToldTFewes hy5 (F4.slr encI_ok) (F5.sl encI_ok) F7) ?_
 rintro _ w8 ⟨A5, cap5, fp5, fr2, rfl, F8, G7, hc8⟩
 have D16 := Dj.of (lt1 F1.lt) G7
 have D17 := Dj.of F2.low G7
 have D18 := Dj.of F3.low G7
 have D19 := Dj.of F4.low G7
 have D20 := Dj.of F5.low G7
 have D21 := Dj.of (lt1 F7.lt) G7
 replace F0_0 := F0_0.c hc8
 replace F0_1 := F0_1.c hc8
 replace FG := FG.c hc8
 replace F1 := F1.c hc8
 replace F2 := F2.c hc8
 replace F3 := F3.c hc8
 replace F4 := F4.c hc8
 replace F5 := F5.c hc8
 replace F7 := F7.c hc8
 replace G7 := low_le hB.size G7
 replace hB := hB.q hc8
 refine ⟨.slice A5 y5.length cap5, rfl, ?_⟩
 refine wP 2 [(3, .bool (true)), (2, .slice A5 y5.length cap5)] <| wN <| cW_ret ?_
 obtain rfl := someE (x := ((y5, true))) hm
 refine rB (.slice A5 y5.length cap5) (.bool (true)) 2 3 ?_
 exact ⟨A5, cap5, fp5, fr2, rfl, F8, G7, hB⟩

set_option maxRecDepth 100000 in
theorem c_sIndex1 {w0 l0 A0 cap0 fp0 p1} {r : (Int)} (hm : m_sIndex1 l0 p1 = some r) (F0 : S1 w0 fp0 A0 l0) :
  Calls Tryd.prog 107 #[.slice A0 l0.length cap0, ii p1] w0 fun e w' => e = .returned (ii r) ∧ Chg [] w0 w' := by
 have L0 := F0.low
 have hB : Chg [] w0 w0 := Chg.refl _ _
 unfold m_sIndex1 at hm
 refine enterE (N := 19) Tryd.func107 (by rfl) Tryd.ntmps107 (by simp) [(0, .slice A0 l0.length cap0), (1, ii p1)] (by rfl) (by kernel_rfl) (fun a => ?_)
 refine sR <| wP 1 [(4, ii 0)] <| wN <| cW_seq <| sR <| wP 3 [(8, ii 0), (7, ii (l0.length : Int)), (6, .slice A0 l0.length cap0)] <| wN ?_
 obtain ⟨r1, hr1, hm⟩ := bindE hm
 have hm1 := hm
 refine cW_cut (fun a' w' => Sum.inl (()) = r1 ∧ Fr 19 [] a' ∧ Chg [] w0 w') ?_ ?_
 ·refine cW_block ?_
  refine cW_loop _ (fun (s1 : Int) a' w' => ∃ x1 : Int, x1 = s1 ∧ Fr 19 [(0, .slice A0 l0.length cap0), (1, ii p1), (7, ii (l0.length : Int)), (8, ii x1)] a' ∧ S1 w' fp0 A0 l0 ∧ Chg [] w0 w') hr1 (fun hst => ⟨0, rfl, fO hst, F0, hB⟩) ?_
  rintro _ c1 a' w1 ⟨x1, rfl, hF1, F1, hB⟩ hx1
  refine gO hF1 ?_
  have hm := hx1
  unfold m_sIndex1_s1 at hm
  refine sR <| wP 1 [(9, .bool (decide (x1 < ((l0.length : Int)))))] <| wN <| cW_seq <| cC (decide (x1 < ((l0.length : Int)))) (fun hb1 => ?_) (fun hb1 => ?_)
  ·have hm := condT hb1 hm
   refine cW_skip <| eX_then <| cW_seq <| cW_block <| sR <| wP 2 [(5, ii x1), (10, ii x1)] <| wN <| sR <| wP 3 [(13, ii x1), (12, .slice A0 l0.length cap0), (11, ii p1)] ?_
   obtain ⟨x2, hx2, hm⟩ := bindE hm
   refine sI 14 A0 l0.length cap0 .i64 x1 sl56 (F1.is hx2) <| sL 15 (elA A0 1 (x1) 0) (ii x2) vt3 (Sl.cell F1 hx2 0 (by rfl)) <| wP 1 [(16, .bool (p1 == x2))] <| wN <| cC (p1 == x2) (fun hb2 => ?_) (fun hb2 => ?_)
   ·have hm := condT hb2 hm
    refine sR <| wP 2 [(4, ii x1), (17, ii x1)] <| wN <| cW_ret <| eX_block_ret <| eX_then_ret ?_
    obtain rfl := someE (x := Ctl.out (Sum.inr x1)) hm
    refine eX_outR hx1 (fun hr => ?_)
    subst hr
    refine eX_block_ret <| eX_then_ret <| eX_then_ret ?_
    obtain rfl := someE (x := x1) hm1
    refine rA (ii x1) 4 ?_
    exact ⟨rfl, hB⟩
   have hm := condF hb2 hm
   refine cW_skip <| eX_block <| eX_then <| cW_region <| wP 2 [(8, ii (wr (x1 + 1))), (18, ii (wr (x1 + 1)))] <| wE ?_
   obtain rfl := someE (x := Ctl.next (wr (x1 + 1))) hm
   exact eX_next hx1 (fun hst => ⟨wr (x1 + 1), rfl, fO hst, F1, hB⟩)
  have hm := condF hb1 hm
  refine cW_exit <| eX_then_exit ?_
  obtain rfl := someE (x := Ctl.out (Sum.inl (()))) hm
  refine eX_outX hx1 (fun hr2 => ?_)
  replace hr2 := hr2.symm
  subst hr2
  refine eX_block_hit ?_
  exact eX_J (fun hst => ⟨rfl, fO hst, hB⟩)
 rintro a' w2 ⟨hJ, hF2, hB⟩
 subst hJ
 refine gX hF2 <| eX_then <| sR <| wP 1 [(4, ii ((-1)))] <| wN <| cW_ret ?_
 obtain rfl := someE (x := (-1)) hm
 refine rA (ii ((-1))) 4 ?_
 exact ⟨rfl, hB⟩

set_option maxRecDepth 100000 in
theorem c_sConta1 {w0 l0 A0 cap0 fp0 p1} {r : Bool} (hm : m_sConta1 l0 p1 = some r) (F0 : S1 w0 fp0 A0 l0) :
  Calls Tryd.prog 85 #[.slice A0 l0.length cap0, ii p1] w0 fun e w' => e = .returned (.bool (r)) ∧ Chg [] w0 w' := by
 have L0 := F0.low
 have hB : Chg [] w0 w0 := Chg.refl _ _
 unfold m_sConta1 at hm
 refine enterE (N := 9) Tryd.func85 (by rfl) Tryd.ntmps85 (by simp) [(0, .slice A0 l0.length cap0), (1, ii p1)] (by rfl) (by kernel_rfl) (fun a => ?_)
 refine sR <| wP 1 [(4, .bool (false))] <| wN <| sR <| wP 2 [(6, ii p1), (5, .slice A0 l0.length cap0)] ?_
 obtain ⟨y1, hy1, hm⟩ := bindE hm
 refine sC 7 [.slice A0 l0.length cap0, ii p1] ent107 (c_sIndex1 hy1 F0) ?_
 rintro _ w1 ⟨rfl, hc1⟩
 replace F0 := F0.c hc1
 replace hB := hB.q hc1
 refine ⟨ii y1, rfl, ?_⟩
 refine wP 2 [(4, .bool (decide (y1 ≥ 0))), (8, .bool (decide (y1 ≥ 0)))] <| wN <| cW_ret ?_
 obtain rfl := someE (x := decide (y1 ≥ 0)) hm
 refine rA (.bool (decide (y1 ≥ 0))) 4 ?_
 exact ⟨rfl, hB⟩

set_option maxRecDepth 100000 in
theorem c_mMul64 {w0 p0 p1} {r : (Int) × (Int)} (hm : m_mMul64 p0 p1 = some r)  :
  Calls Tryd.prog 130 #[.int .u64 (p0), .int .u64 (p1)] w0 fun e w' => e = .returned (.tuple #[.int .u64 (r.1), .int .u64 (r.2)]) ∧ Chg [] w0 w' := by
 have hB : Chg [] w0 w0 := Chg.refl _ _
 unfold m_mMul64 at hm
 refine enterE (N := 51) Tryd.func130 (by rfl) Tryd.ntmps130 (by simp) [(0, .int .u64 (p0)), (1, .int .u64 (p1))] (by rfl) (by kernel_rfl) (fun a => ?_)
 refine sR <| wP 2 [(5, .int .u64 (0)), (4, .int .u64 (0))] <| wN <| sR <| wP 3 [(6, .int .u64 (andU p0 4294967295)), (15, .int .u64 (andU p0 4294967295)), (14, .int .u64 (p0))] <| wN <| sR <| wP 3 [(7, .int .u64 (shrU p0 32)), (17, .int .u64 (shrU p0 32)), (16, .int .u64 (p0))] <| wN <| sR <| wP 3 [(8, .int .u64 (andU p1 4294967295)), (19, .int .u64 (andU p1 4294967295)), (18, .int .u64 (p1))] <| wN <| sR <| wP 3 [(9, .int .u64 (shrU p1 32)), (21, .int .u64 (shrU p1 32)), (20, .int .u64 (p1))] <| wN <| sR <| wP 4 [(10, .int .u64 (wu ((andU p0 4294967295) * (andU p1 4294967295)))), (24, .int .u64 (wu ((andU p0 4294967295) * (andU p1 4294967295)))), (23, .int .u64 (andU p1 4294967295)), (22, .int .u64 (andU p0 4294967295))] ?_
 refine wN <| sR <| wP 7 [(11, .int .u64 (wu ((wu ((shrU p0 32) * (andU p1 4294967295))) + (shrU (wu ((andU p0 4294967295) * (andU p1 4294967295))) 32)))), (30, .int .u64 (wu ((wu ((shrU p0 32) * (andU p1 4294967295))) + (shrU (wu ((andU p0 4294967295) * (andU p1 4294967295))) 32)))), (29, .int .u64 (shrU (wu ((andU p0 4294967295) * (andU p1 4294967295))) 32)), (28, .int .u64 (wu ((andU p0 4294967295) * (andU p1 4294967295)))), (27, .int .u64 (wu ((shrU p0 32) * (andU p1 4294967295)))), (26, .int .u64 (andU p1 4294967295)), (25, .int .u64 (shrU p0 32))] <| wN <| cP [(0, .int .u64 (p0)), (1, .int .u64 (p1)), (6, .int .u64 (andU p0 4294967295)), (7, .int .u64 (shrU p0 32)), (9, .int .u64 (shrU p1 32)), (11, .int .u64 (wu ((wu ((shrU p0 32) * (andU p1 4294967295))) + (shrU (wu ((andU p0 4294967295) * (andU p1 4294967295))) 32))))] (fun a1 => ?_)
 refine sR <| wP 3 [(12, .int .u64 (andU (wu ((wu ((shrU p0 32) * (andU p1 4294967295))) + (shrU (wu ((andU p0 4294967295) * (andU p1 4294967295))) 32))) 4294967295)), (32, .int .u64 (andU (wu ((wu ((shrU p0 32) * (andU p1 4294967295))) + (shrU (wu ((andU p0 4294967295) * (andU p1 4294967295))) 32))) 4294967295)), (31, .int .u64 (wu ((wu ((shrU p0 32) * (andU p1 4294967295))) + (shrU (wu ((andU p0 4294967295) * (andU p1 4294967295))) 32))))] <| wN <| sR <| wP 3 [(13, .int .u64 (shrU (wu ((wu ((shrU p0 32) * (andU p1 4294967295))) + (shrU (wu ((andU p0 4294967295) * (andU p1 4294967295))) 32))) 32)), (34, .int .u64 (shrU (wu ((wu ((shrU p0 32) * (andU p1 4294967295))) + (shrU (wu ((andU p0 4294967295) * (andU p1 4294967295))) 32))) 32)), (33, .int .u64 (wu ((wu ((shrU p0 32) * (andU p1 4294967295))) + (shrU (wu ((andU p0 4294967295) * (andU p1 4294967295))) 32))))] ?_
 refine wN <| sR <| wP 6 [(12, .int .u64 (wu ((andU (wu ((wu ((shrU p0 32) * (andU p1 4294967295))) + (shrU (wu ((andU p0 4294967295) * (andU p1 4294967295))) 32))) 4294967295) + (wu ((andU p0 4294967295) * (shrU p1 32)))))), (39, .int .u64 (wu ((andU (wu ((wu ((shrU p0 32) * (andU p1 4294967295))) + (shrU (wu ((andU p0 4294967295) * (andU p1 4294967295))) 32))) 4294967295) + (wu ((andU p0 4294967295) * (shrU p1 32)))))), (38, .int .u64 (wu ((andU p0 4294967295) * (shrU p1 32)))), (37, .int .u64 (shrU p1 32)), (36, .int .u64 (andU p0 4294967295)), (35, .int .u64 (andU (wu ((wu ((shrU p0 32) * (andU p1 4294967295))) + (shrU (wu ((andU p0 4294967295) * (andU p1 4294967295))) 32))) 4294967295))] ?_
 refine wN <| sR <| wP 9 [(4, .int .u64 (wu ((wu ((wu ((shrU p0 32) * (shrU p1 32))) + (shrU (wu ((wu ((shrU p0 32) * (andU p1 4294967295))) + (shrU (wu ((andU p0 4294967295) * (andU p1 4294967295))) 32))) 32))) + (shrU (wu ((andU (wu ((wu ((shrU p0 32) * (andU p1 4294967295))) + (shrU (wu ((andU p0 4294967295) * (andU p1 4294967295))) 32))) 4294967295) + (wu ((andU p0 4294967295) * (shrU p1 32))))) 32)))), (47, .int .u64 (wu ((wu ((wu ((shrU p0 32) * (shrU p1 32))) + (shrU (wu ((wu ((shrU p0 32) * (andU p1 4294967295))) + (shrU (wu ((andU p0 4294967295) * (andU p1 4294967295))) 32))) 32))) + (shrU (wu ((andU (wu ((wu ((shrU p0 32) * (andU p1 4294967295))) + (shrU (wu ((andU p0 4294967295) * (andU p1 4294967295))) 32))) 4294967295) + (wu ((andU p0 4294967295) * (shrU p1 32))))) 32)))), (46, .int .u64 (shrU (wu ((andU (wu ((wu ((shrU p0 32) * (andU p1 4294967295))) + (shrU (wu ((andU p0 4294967295) * (andU p1 4294967295))) 32))) 4294967295) + (wu ((andU p0 4294967295) * (shrU p1 32))))) 32)), (45, .int .u64 (wu ((andU (wu ((wu ((shrU p0 32) * (andU p1 4294967295))) + (shrU (wu ((andU p0 4294967295) * (andU p1 4294967295))) 32))) 4294967295) + (wu ((andU p0 4294967295) * (shrU p1 32)))))), (44, .int .u64 (wu ((wu ((shrU p0 32) * (shrU p1 32))) + (shrU (wu ((wu ((shrU p0 32) * (andU p1 4294967295))) + (shrU (wu ((andU p0 4294967295) * (andU p1 4294967295))) 32))) 32)))), (43, .int .u64 (shrU (wu ((wu ((shrU p0 32) * (andU p1 4294967295))) + (shrU (wu ((andU p0 4294967295) * (andU p1 4294967295))) 32))) 32)), (42, .int .u64 (wu ((shrU p0 32) * (shrU p1 32)))), (41, .int .u64 (shrU p1 32)), (40, .int .u64 (shrU p0 32))] ?_
 refine wN <| cP [(0, .int .u64 (p0)), (1, .int .u64 (p1)), (4, .int .u64 (wu ((wu ((wu ((shrU p0 32) * (shrU p1 32))) + (shrU (wu ((wu ((shrU p0 32) * (andU p1 4294967295))) + (shrU (wu ((andU p0 4294967295) * (andU p1 4294967295))) 32))) 32))) + (shrU (wu ((andU (wu ((wu ((shrU p0 32) * (andU p1 4294967295))) + (shrU (wu ((andU p0 4294967295) * (andU p1 4294967295))) 32))) 4294967295) + (wu ((andU p0 4294967295) * (shrU p1 32))))) 32))))] (fun a2 => ?_)
 refine sR <| wP 4 [(5, .int .u64 (wu (p0 * p1))), (50, .int .u64 (wu (p0 * p1))), (49, .int .u64 (p1)), (48, .int .u64 (p0))] <| wN <| cW_ret ?_
 obtain rfl := someE (x := ((wu ((wu ((wu ((shrU p0 32) * (shrU p1 32))) + (shrU (wu ((wu ((shrU p0 32) * (andU p1 4294967295))) + (shrU (wu ((andU p0 4294967295) * (andU p1 4294967295))) 32))) 32))) + (shrU (wu ((andU (wu ((wu ((shrU p0 32) * (andU p1 4294967295))) + (shrU (wu ((andU p0 4294967295) * (andU p1 4294967295))) 32))) 4294967295) + (wu ((andU p0 4294967295) * (shrU p1 32))))) 32)), wu (p0 * p1)))) hm
 refine rB (.int .u64 (wu ((wu ((wu ((shrU p0 32) * (shrU p1 32))) + (shrU (wu ((wu ((shrU p0 32) * (andU p1 4294967295))) + (shrU (wu ((andU p0 4294967295) * (andU p1 4294967295))) 32))) 32))) + (shrU (wu ((andU (wu ((wu ((shrU p0 32) * (andU p1 4294967295))) + (shrU (wu ((andU p0 4294967295) * (andU p1 4294967295))) 32))) 4294967295) + (wu ((andU p0 4294967295) * (shrU p1 32))))) 32)))) (.int .u64 (wu (p0 * p1))) 4 5 ?_
 exact ⟨rfl, hB⟩

set_option maxRecDepth 100000 in
theorem c_mMul {w0 p0 p1} {r : (Int) × (Int)} (hm : m_mMul p0 p1 = some r)  :
  Calls Tryd.prog 122 #[.int .u64 (p0), .int .u64 (p1)] w0 fun e w' => e = .returned (.tuple #[.int .u64 (r.1), .int .u64 (r.2)]) ∧ Chg [] w0 w' := by
 have hB : Chg [] w0 w0 := Chg.refl _ _
 unfold m_mMul at hm
 refine enterE (N := 30) Tryd.func122 (by rfl) Tryd.ntmps122 (by simp) [(0, .int .u64 (p0)), (1, .int .u64 (p1))] (by rfl) (by kernel_rfl) (fun a => ?_)
 refine sR <| wP 2 [(5, .int .u64 (0)), (4, .int .u64 (0))] <| wN <| cW_seq <| cCf <| cW_skip <| eX_then <| sR <| wP 2 [(24, .int .u64 (p1)), (23, .int .u64 (p0))] ?_
 obtain ⟨y1, hy1, hm⟩ := bindE hm
 refine sC 25 [.int .u64 (p0), .int .u64 (p1)] ent130 (c_mMul64 hy1) ?_
 rintro _ w1 ⟨rfl, hc1⟩
 replace hB := hB.q hc1
 refine ⟨.tuple #[.int .u64 (y1.1), .int .u64 (y1.2)], rfl, ?_⟩
 refine wP 5 [(9, .int .u64 (y1.2)), (8, .int .u64 (y1.1)), (27, .int .u64 (y1.2)), (26, .int .u64 (y1.1)), (22, .tuple #[.int .u64 (y1.1), .int .u64 (y1.2)])] <| wN <| sR <| wP 4 [(5, .int .u64 (y1.2)), (4, .int .u64 (y1.1)), (29, .int .u64 (y1.2)), (28, .int .u64 (y1.1))] <| wN <| cW_ret ?_
 obtain rfl := someE (x := ((y1.1, y1.2))) hm
 refine rB (.int .u64 (y1.1)) (.int .u64 (y1.2)) 4 5 ?_
 exact ⟨rfl, hB⟩

set_option maxRecDepth 100000 in
theorem c_sRepea {w0 l0 A0 cap0 fp0 p1} {r : (List Int)} (hm : m_sRepea l0 p1 = some r) (F0 : S1 w0 fp0 A0 l0) :
  Calls Tryd.prog 106 #[.slice A0 l0.length cap0, ii p1] w0 fun e w' => ∃ A1 cap100 fp100, e = .returned (.slice A1 r.length cap100) ∧ O1 3 w' fp100 A1 cap100 r ∧ (∀ x ∈ fp100, w0.heap.size ≤ x) ∧ Chg [] w0 w' := by
 have L0 := F0.low
 have hB : Chg [] w0 w0 := Chg.refl _ _
 unfold m_sRepea at hm
 refine enterE (N := 48) Tryd.func106 (by rfl) Tryd.ntmps106 (by simp) [(0, .slice A0 l0.length cap0), (1, ii p1)] (by rfl) (by kernel_rfl) (fun a => ?_)
 refine sR <| wP 1 [(4, .slice none 0 0)] <| wN <| cW_seq ?_
 obtain ⟨s1, hs1, hm⟩ := bindE hm
 refine cW_cut (fun a' w' => () = s1 ∧ Fr 48 [(0, .slice A0 l0.length cap0), (1, ii p1)] a' ∧ S1 w' fp0 A0 l0 ∧ Chg [] w0 w') ?_ ?_
 ·have hm := hs1
  refine sR <| wP 2 [(10, .bool (decide (p1 < 0))), (9, ii p1)] <| wN <| cC (decide (p1 < 0)) (fun hb1 => ?_) (fun hb1 => ?_)
  ·have hm := condT hb1 hm
   refine cW_region ?_
   exact noneE hm
  have hm := condF hb1 hm
  refine cW_skip ?_
  obtain rfl := someE (x := ()) hm
  exact eX_J (fun hst => ⟨rfl, fO hst, F0, hB⟩)
 rintro a' w1 ⟨hJ, hF1, F1, hB⟩
 subst hJ
 refine gX hF1 <| eX_then <| sR <| wP 5 [(17, .int .u64 (wu p1)), (16, ii p1), (15, .int .u64 (wu ((l0.length : Int)))), (14, ii (l0.length : Int)), (13, .slice A0 l0.length cap0)] ?_
 obtain ⟨y1, hy1, hm⟩ := bindE hm
 refine sC 18 [.int .u64 (wu ((l0.length : Int))), .int .u64 (wu p1)] ent122 (c_mMul hy1) ?_
 rintro _ w2 ⟨rfl, hc1⟩
 replace F1 := F1.c hc1
 replace hB := hB.q hc1
 refine ⟨.tuple #[.int .u64 (y1.1), .int .u64 (y1.2)], rfl, ?_⟩
 refine wP 5 [(6, .int .u64 (y1.2)), (5, .int .u64 (y1.1)), (20, .int .u64 (y1.2)), (19, .int .u64 (y1.1)), (12, .tuple #[.int .u64 (y1.1), .int .u64 (y1.2)])] <| wN <| cW_seq ?_
 obtain ⟨s2, hs2, hm⟩ := bindE hm
 refine cW_cut (fun a' w' => () = s2 ∧ Fr 48 [(0, .slice A0 l0.length cap0), (6, .int .u64 (y1.2))] a' ∧ S1 w' fp0 A0 l0 ∧ Chg [] w0 w') ?_ ?_
 ·have hm := hs2
  refine sR <| wP 3 [(23, .bool (decide (y1.1 > 0))), (22, .bool (decide (y1.1 > 0))), (21, .int .u64 (y1.1))] <| wS_bool (decide (y1.1 > 0)) (fun hb2 => ?_) (fun hb2 => ?_)
  ·have hm := condT hb2 hm
   rewrite [hb2]
   refine wP 3 [(26, .bool (true)), (25, undef), (24, undef)] <| wN <| cCt <| cW_region ?_
   exact noneE hm
  have hm := condF hb2 hm
  rewrite [hb2]
  refine wP 3 [(26, .bool (decide (y1.2 > 9223372036854775807))), (25, .bool (decide (y1.2 > 9223372036854775807))), (24, .int .u64 (y1.2))] <| wN <| cC (decide (y1.2 > 9223372036854775807)) (fun hb3 => ?_) (fun hb3 => ?_)
  ·have hm := condT hb3 hm
   refine cW_region ?_
   exact noneE hm
  have hm := condF hb3 hm
  refine cW_skip ?_
  obtain rfl := someE (x := ()) hm
  exact eX_J (fun hst => ⟨rfl, fO hst, F1, hB⟩)
 rintro a' w3 ⟨hJ, hF2, F2, hB⟩
 subst hJ
 refine gX hF2 <| eX_then <| sR <| wP 2 [(29, ii (wr y1.2)), (28, .int .u64 (y1.2))] ?_
 obtain ⟨_, hk1, hm⟩ := bindE hm
 replace hk1 := mkE hk1
 refine wS_make (enc := encI) (x0 := (0 : Int)) (d := 30) (t := 56) (T := 3) (k1 := .i64) (k2 := .i64) (m := wr y1.2) (by kernel_rfl) el56 encI_ok (by rfl) hk1.1 hk1.2 ?_
 intro b1 w4 G1 F3 hc2
 replace F2 := F2.c hc2
 replace G1 := Nat.le_trans hB.size G1
 replace G1 := low1 G1
 replace hB := hB.q hc2
 refine wP 1 [(7, .slice (ad b1) (List.replicate (Int.toNat (wr y1.2)) ((0 : Int))).length (Int.toNat (wr y1.2)))] <| wN <| sR <| wP 2 [(32, .slice A0 l0.length cap0), (31, .slice (ad b1) (List.replicate (Int.toNat (wr y1.2)) ((0 : Int))).length (Int.toNat (wr y1.2)))] <| wS_copy (k := 1) (enc := encI) (l := List.replicate (Int.toNat (wr y1.2)) ((0 : Int))) (l2 := l0) (lo := 0) (d := 33) (t := 56) (T := 3) (A := (ad b1)) (A' := (ad b1)) (A2 := A0) (cap := (Int.toNat (wr y1.2))) (c' := (Int.toNat (wr y1.2))) (c2 := cap0) (by kernel_rfl) (Nat.sub_zero _).symm el56 encI_ok F3 (hA0 _ _ _) (Nat.zero_le _) F2 ?_
 intro w5 F4 hlc1 hc3
 replace F2 := F2.chg hc3 (Dj.of L0 G1)
 replace hB := hB.inS hc3 (inLow G1)
 clear F3
 rewrite [show (List.replicate (Int.toNat (wr y1.2)) ((0 : Int))).length = (cpy (List.replicate (Int.toNat (wr y1.2)) ((0 : Int))) 0 l0).length from hlc1.symm]
 refine wP 1 [(8, ii (((min l0.length ((cpy (List.replicate (Int.toNat (wr y1.2)) ((0 : Int))) 0 l0).length - Int.toNat 0) : Nat) : Int)))] <| wN <| cW_seq ?_
 obtain ⟨r1, hr1, hm⟩ := bindE hm
 have hm1 := hm
 refine cW_cut (fun a' w' => ∃ l1 : List Int, l1 = r1 ∧ Fr 48 [(7, .slice (ad b1) l1.length (Int.toNat (wr y1.2)))] a' ∧ O1 3 w' [b1] (ad b1) (Int.toNat (wr y1.2)) l1 ∧ Chg [] w0 w') ?_ ?_
 ·refine cW_block ?_
  refine cW_loop _ (fun (s3 : Int × (List Int)) a' w' => ∃ x1 : Int, ∃ l3 : List Int, (x1, l3) = s3 ∧ Fr 48 [(7, .slice (ad b1) l3.length (Int.toNat (wr y1.2))), (8, ii x1)] a' ∧ O1 3 w' [b1] (ad b1) (Int.toNat (wr y1.2)) l3 ∧ Chg [] w0 w') hr1 (fun hst => ⟨((min l0.length ((cpy (List.replicate (Int.toNat (wr y1.2)) ((0 : Int))) 0 l0).length - Int.toNat 0) : Nat) : Int), cpy (List.replicate (Int.toNat (wr y1.2)) ((0 : Int))) 0 l0, rfl, fO hst, F4, hB⟩) ?_
  rintro _ c1 a' w6 ⟨x1, l3, rfl, hF3, F5, hB⟩ hx1
  refine gO hF3 ?_
  have hm := hx1
  unfold m_sRepea_s1 at hm
  refine cW_seq <| sR <| wP 4 [(37, .bool (decide (x1 < ((l3.length : Int))))), (36, ii (l3.length : Int)), (35, .slice (ad b1) l3.length (Int.toNat (wr y1.2))), (34, ii x1)] <| wN <| cC (decide (x1 < ((l3.length : Int)))) (fun hb4 => ?_) (fun hb4 => ?_)
  ·have hm := condT hb4 hm
   refine cW_skip <| eX_then <| cW_block <| cW_drawnTail [b1] 8 (by kernel_rfl) (by kernel_rfl) (fun w7 hc4 => ?_)
   replace F5 := F5.c hc4
   replace hB := hB.q hc4
   have hS := Chg.refl [b1] w7
   have Z1 := F5
   refine hT [0, 1, 2] [(40, ii x1), (39, .slice (ad b1) l3.length (Int.toNat (wr y1.2))), (38, ii x1)] ?_
   obtain ⟨y2, hy2, hm⟩ := bindE hm
   refine wH_cutA (k := 1) (enc := encI) (fp := [b1]) (l := l3) (i := 3) (d := 41) (T := 56) (A := (ad b1)) (cap := (Int.toNat (wr y1.2))) (vlo := some (ii x1)) (vhi := none) (lo := x1) (hi := (l3.length : Int)) (n := 0) (by kernel_rfl) (qT (qB (qL (qB (qT (qT qZ)))))) (by kernel_rfl) (by kernel_rfl) sl56 (Or.inl rfl) (Or.inr ⟨rfl, rfl⟩) F5.cap_le hy2 ?_
   intro A3 cap1 hA1 hcut1 hcap1
   have F6 := hcut1 _ (F5.sl encI_ok)
   have Fz1 := hcut1 _ (Z1.sl encI_ok)
   refine hT [4, 5] [(43, ii x1), (42, .slice (ad b1) l3.length (Int.toNat (wr y1.2)))] ?_
   obtain ⟨y3, hy3, hm⟩ := bindE hm
   refine wH_cutA (k := 1) (enc := encI) (fp := [b1]) (l := l3) (i := 6) (d := 44) (T := 56) (A := (ad b1)) (cap := (Int.toNat (wr y1.2))) (vlo := none) (vhi := some (ii x1)) (lo := 0) (hi := x1) (n := 0) (by kernel_rfl) (qT (qB (qL (qB (qT (qT qZ)))))) (by kernel_rfl) (by kernel_rfl) sl56 (Or.inr ⟨rfl, rfl⟩) (Or.inl rfl) F5.cap_le hy3 ?_
   intro A4 cap2 hA2 hcut2 hcap2
   have F7 := hcut2 _ (F5.sl encI_ok)
   have Fz2 := hcut2 _ (Z1.sl encI_ok)
   refine wH_all [7] (by rfl) (by kernel_rfl) (by simp) ⟨⟨by kernel_rfl, ?_⟩, trivial⟩
   refine wS_copy (k := 1) (enc := encI) (l := l3) (l2 := y3) (lo := x1) (d := 45) (t := 56) (T := 3) (A := (ad b1)) (A' := A3) (A2 := A4) (cap := (Int.toNat (wr y1.2))) (c' := cap1) (c2 := cap2) (by kernel_rfl) (slci_len_end hy2) el56 encI_ok F5 hA1 (slci_lo hy2) F7 ?_
   intro w8 F8 hlc2 hc5
   have hSz := hS
   replace hS := hS.trans hc5
   replace hB := hB.inS hc5 (inLow G1)
   clear F5
   rewrite [show l3.length = (cpy l3 x1 y3).length from hlc2.symm]
   refine wS_end (by kernel_rfl) <| eX_KH hS <| wD <| eX_tail <| wP 2 [(8, ii (wr (x1 + (((min y3.length ((cpy l3 x1 y3).length - Int.toNat x1) : Nat) : Int))))), (46, ii (wr (x1 + (((min y3.length ((cpy l3 x1 y3).length - Int.toNat x1) : Nat) : Int)))))] <| wE <| eX_block ?_
   obtain rfl := someE (x := (Ctl.next ((wr (x1 + (((min y3.length ((cpy l3 x1 y3).length - Int.toNat x1) : Nat) : Int))), cpy l3 x1 y3)))) hm
   exact eX_next hx1 (fun hst => ⟨wr (x1 + (((min y3.length ((cpy l3 x1 y3).length - Int.toNat x1) : Nat) : Int))), cpy l3 x1 y3, rfl, fO hst, F8, hB⟩)
  have hm := condF hb4 hm
  refine cW_exit <| eX_then_exit ?_
  obtain rfl := someE (x := Ctl.out l3) hm
  refine eX_outX hx1 (fun hr2 => ?_)
  replace hr2 := hr2.symm
  subst hr2
  refine eX_block_hit ?_
  exact eX_J (fun hst => ⟨l3, rfl, fO hst, F5, hB⟩)
 rintro a' w9 ⟨l1, hJ, hF4, F9, hB⟩
 subst hJ
 refine gX hF4 <| eX_then <| sR <| wP 2 [(4, .slice (ad b1) l1.length (Int.toNat (wr y1.2))), (47, .slice (ad b1) l1.length (Int.toNat (wr y1.2)))] <| wN <| cW_ret ?_
 obtain rfl := someE (x := l1) hm
 refine rA (.slice (ad b1) l1.length (Int.toNat (wr y1.2))) 4 ?_
 exact ⟨(ad b1), (Int.toNat (wr y1.2)), [b1], rfl, F9, G1, hB⟩

set_option maxRecDepth 100000 in
theorem c_iGraphBack {w0} {l0 : List (List Int)} {A0 : Option Addr} {cap0 : Nat} {fp0 : List Nat} {p1 : Int} {r : (List Int)} (hm : m_iGraphBack l0 p1 = some r) (F0 : SlR 1 encI w0 fp0 A0 l0) :
  Calls Tryd.prog 82 #[.slice A0 l0.length cap0, ii p1] w0 fun e w' => ∃ A100 cap100 fp100, e = .returned (.slice A100 r.length cap100) ∧ O1 3 w' fp100 A100 cap100 r ∧ (∀ x ∈ fp100, w0.heap.size ≤ x) ∧ Chg [] w0 w' := by
 have L0 := F0.low
 have hB : Chg [] w0 w0 := Chg.refl _ _
 unfold m_iGraphBack at hm
 refine enterE (N := 58) Tryd.func82 (by rfl) Tryd.ntmps82 (by simp) [(0, .slice A0 l0.length cap0), (1, ii p1)] (by rfl) (by kernel_rfl) (fun a => ?_)
 refine sR <| wP 1 [(4, .slice none 0 0)] <| wN <| sR <| wS_bs (enc := encI) ([(-1)] : List Int) [ii ((-1))] (d := 9) (t := 56) (T := 3) (n := 1) (ps := [(0, ii ((-1)))]) (by kernel_rfl) el56 encI_ok (by rfl) (by omega) (by omega) (by kernel_rfl) (by rfl) ?_
 intro b1 w1 G1 F1 hc1
 replace F0 := F0.c hc1
 replace G1 := Nat.le_trans hB.size G1
 replace G1 := low1 G1
 replace hB := hB.q hc1
 refine wP 2 [(11, ii (l0.length : Int)), (10, .slice A0 l0.length cap0)] ?_
 obtain ⟨y1, hy1, hm⟩ := bindE hm
 refine sC 12 [.slice (ad b1) (([(-1)] : List Int)).length 1, ii (l0.length : Int)] ent106 (c_sRepea hy1 (F1.sl encI_ok)) ?_
 rintro _ w2 ⟨A1, cap1, fp1, rfl, F2, G2, hc2⟩
 have D1 := Dj.of F1.low G2
 replace F0 := F0.c hc2
 replace F1 := F1.c hc2
 replace G2 := low_le hB.size G2
 replace hB := hB.q hc2
 refine ⟨.slice A1 y1.length cap1, rfl, ?_⟩
 refine wP 1 [(5, .slice A1 y1.length cap1)] <| wN <| sR <| wP 2 [(14, ii p1), (13, .slice A1 y1.length cap1)] ?_
 obtain ⟨x1, hx1, hm⟩ := bindE hm
 refine sI 15 A1 y1.length cap1 .i64 p1 sl56 ((F2.sl encI_ok).is hx1) <| wS_storeEl (x := x1) 0 (T := 3) (U := 3) (cap := cap1) (j := 0) (A := A1) (v := ii 0) (vs := [ii 0]) (m := p1) (by kernel_rfl) (by rfl) sz3 (by rfl) encI_ok F2 hx1 (bl rfl) (by rfl) ?_
 intro w3 F3 hc3
 replace F0 := F0.chg hc3 (Dj.of L0 G2)
 replace F1 := F1.chg hc3 D1
 replace hB := hB.inS hc3 (inLow G2)
 clear F2
 rewrite [show y1.length = (y1.set (Int.toNat p1) 0).length from (List.length_set ..).symm]
 refine wN <| cW_seq <| sR <| wP 1 [(16, ii p1)] <| wS_bs (enc := encI) ([p1] : List Int) [ii p1] (d := 17) (t := 56) (T := 3) (n := 1) (ps := [(0, ii p1)]) (by kernel_rfl) el56 encI_ok (by rfl) (by omega) (by omega) (by kernel_rfl) (by rfl) ?_
 intro b2 w4 G3 F4 hc4
 have D2 := Dj.of F1.low (low1 G3)
 have D3 := Dj.of F3.low (low1 G3)
 replace F0 := F0.c hc4
 replace F1 := F1.c hc4
 replace F3 := F3.c hc4
 replace G3 := Nat.le_trans hB.size G3
 replace G3 := low1 G3
 replace hB := hB.q hc4
 refine wP 1 [(6, .slice (ad b2) (([p1] : List Int)).length 1)] <| wN ?_
 obtain ⟨r1, hr1, hm⟩ := bindE hm
 have hm1 := hm
 refine cW_cut (fun a' w' => ∃ l1 : List Int, l1 = r1 ∧ Fr 58 [(5, .slice A1 l1.length cap1)] a' ∧ O1 3 w' fp1 A1 cap1 l1 ∧ Chg [] w0 w') ?_ ?_
 ·refine cW_block ?_
  refine cW_loop _ (fun (s1 : (List Int) × (List Int)) a' w' => ∃ l3 : List Int, ∃ A3 : Option Addr, ∃ cap3 : Nat, ∃ fp2 : List Nat, ∃ l4 : List Int, (l3, l4) = s1 ∧ Fr 58 [(0, .slice A0 l0.length cap0), (5, .slice A1 l4.length cap1), (6, .slice A3 l3.length cap3)] a' ∧ SlR 1 encI w' fp0 A0 l0 ∧ O1 3 w' fp1 A1 cap1 l4 ∧ OwO 1 encI 3 w' fp2 A3 cap3 l3 ∧ (∀ x ∈ fp2, w0.heap.size ≤ x) ∧ Dj fp1 fp2 ∧ Chg [] w0 w') hr1 (fun hst => ⟨([p1] : List Int), (ad b2), 1, [b2], y1.set (Int.toNat p1) 0, rfl, fO hst, F0, F3, F4.off, G3, D3, hB⟩) ?_
  rintro _ c1 a' w5 ⟨l3, A3, cap3, fp2, l4, rfl, hF1, F5, F6, F7, G4, D4, hB⟩ hx2
  refine gO hF1 ?_
  have hm := hx2
  unfold m_iGraphBack_s3 at hm
  refine cW_seq <| sR <| wP 3 [(20, .bool (decide (((l3.length : Int)) > 0))), (19, ii (l3.length : Int)), (18, .slice A3 l3.length cap3)] <| wN <| cC (decide (((l3.length : Int)) > 0)) (fun hb1 => ?_) (fun hb1 => ?_)
  ·have hm := condT hb1 hm
   refine cW_skip <| eX_then <| cW_seq <| cW_block <| sR <| wP 3 [(25, ii 0), (24, ii (l0.length : Int)), (23, .slice A0 l0.length cap0)] <| wN ?_
   obtain ⟨r2, hr2, hm⟩ := bindE hm
   have hm2 := hm
   refine cW_cut (fun a' w' => ∃ l5 : List Int, ∃ A4 : Option Addr, ∃ cap4 : Nat, ∃ fp3 : List Nat, ∃ l6 : List Int, (l5, l6) = r2 ∧ Fr 58 [(0, .slice A0 l0.length cap0), (5, .slice A1 l6.length cap1), (6, .slice A4 l5.length cap4)] a' ∧ SlR 1 encI w' fp0 A0 l0 ∧ O1 3 w' fp1 A1 cap1 l6 ∧ OwO 1 encI 3 w' fp3 A4 cap4 l5 ∧ (∀ x ∈ fp3, w0.heap.size ≤ x) ∧ Dj fp1 fp3 ∧ Chg [] w0 w') ?_ ?_
   ·refine cW_block ?_
    refine cW_loop _ (fun (s2 : (List Int) × Int × (List Int)) a' w' => ∃ l7 : List Int, ∃ A5 : Option Addr, ∃ cap5 : Nat, ∃ fp4 : List Nat, ∃ x2 : Int, ∃ l8 : List Int, (l7, x2, l8) = s2 ∧ Fr 58 [(0, .slice A0 l0.length cap0), (5, .slice A1 l8.length cap1), (6, .slice A5 l7.length cap5), (23, .slice A0 l0.length cap0), (24, ii (l0.length : Int)), (25, ii x2)] a' ∧ SlR 1 encI w' fp0 A0 l0 ∧ O1 3 w' fp1 A1 cap1 l8 ∧ OwO 1 encI 3 w' fp4 A5 cap5 l7 ∧ (∀ x ∈ fp4, w0.heap.size ≤ x) ∧ Dj fp1 fp4 ∧ Chg [] w0 w') hr2 (fun hst => ⟨l3, A3, cap3, fp2, 0, l4, rfl, fO hst, F5, F6, F7, G4, D4, hB⟩) ?_
    rintro _ c2 a' w6 ⟨l7, A5, cap5, fp4, x2, l8, rfl, hF2, F8, F9, F10, G5, D5, hB⟩ hx3
    refine gO hF2 ?_
    have hm := hx3
    unfold m_iGraphBack_s4 at hm
    refine sR <| wP 1 [(26, .bool (decide (x2 < ((l0.length : Int)))))] <| wN <| cW_seq <| cC (decide (x2 < ((l0.length : Int)))) (fun hb2 => ?_) (fun hb2 => ?_)
    ·have hm := condT hb2 hm
     refine cW_skip <| eX_then <| cW_seq <| cW_block ?_
     obtain ⟨s3, hs1, hm⟩ := bindE hm
     refine cW_cut (fun a' w' => ∃ l9 : List Int, ∃ A6 : Option Addr, ∃ cap6 : Nat, ∃ fp5 : List Nat, ∃ l10 : List Int, (l9, l10) = s3 ∧ Fr 58 [(0, .slice A0 l0.length cap0), (5, .slice A1 l10.length cap1), (6, .slice A6 l9.length cap6), (23, .slice A0 l0.length cap0), (24, ii (l0.length : Int)), (25, ii x2)] a' ∧ SlR 1 encI w' fp0 A0 l0 ∧ O1 3 w' fp1 A1 cap1 l10 ∧ OwO 1 encI 3 w' fp5 A6 cap6 l9 ∧ (∀ x ∈ fp5, w0.heap.size ≤ x) ∧ Dj fp1 fp5 ∧ Chg [] w0 w') ?_ ?_
     ·have hm := hs1
      refine sR <| wP 1 [(27, ii x2)] ?_
      obtain ⟨x3, hx4, hm⟩ := bindE hm
      refine sI 28 A0 l0.length cap0 .i64 x2 sl64 (F8.is hx4) ?_
      obtain ⟨A7, cap7, hc5, F11, K1⟩ := SlR.row F8 hx4
      refine sL 29 (elA A0 1 (x2) 0) (.slice A7 x3.length cap7) vt56 hc5 <| wP 2 [(8, .slice A7 x3.length cap7), (7, ii x2)] <| wN <| sR <| wP 2 [(31, ii x2), (30, .slice A1 l8.length cap1)] ?_
      obtain ⟨x4, hx5, hm⟩ := bindE hm
      refine sI 32 A1 l8.length cap1 .i64 x2 sl56 ((F9.sl encI_ok).is hx5) <| sL 33 (elA A1 1 (x2) 0) (ii x4) vt3 (Sl.cell (F9.sl encI_ok) hx5 0 (by rfl)) <| wP 2 [(35, .bool (decide (x4 < 0))), (34, .bool (decide (x4 < 0)))] <| wS_bool (decide (x4 < 0)) (fun hb3 => ?_) (fun hb3 => ?_)
      ·have hm := condT hb3 hm
       rewrite [hb3]
       refine wP 2 [(37, .slice A5 l7.length cap5), (36, .slice A7 x3.length cap7)] ?_
       obtain ⟨x5, hx6, hm⟩ := bindE hm
       refine sI 38 A5 l7.length cap5 .i64 0 sl56 ((F10.sl encI_ok).is hx6) <| sL 39 (elA A5 1 (0) 0) (ii x5) vt3 (Sl.cell (F10.sl encI_ok) hx6 0 (by rfl)) ?_
       obtain ⟨y2, hy2, hm⟩ := bindE hm
       refine sC 40 [.slice A7 x3.length cap7, ii x5] ent85 (c_sConta1 hy2 F11) ?_
       rintro _ w7 ⟨rfl, hc6⟩
       replace F8 := F8.c hc6
       replace F9 := F9.c hc6
       replace F10 := F10.c hc6
       replace F11 := F11.c hc6
       replace hB := hB.q hc6
       refine ⟨.bool (y2), rfl, ?_⟩
       refine wP 1 [(41, .bool (y2))] <| wN <| cP [(0, .slice A0 l0.length cap0), (5, .slice A1 l8.length cap1), (6, .slice A5 l7.length cap5), (7, ii x2), (23, .slice A0 l0.length cap0), (24, ii (l0.length : Int)), (25, ii x2), (41, .bool (y2))] (fun a1 => ?_)
       refine cC y2 (fun hb4 => ?_) (fun hb4 => ?_)
       ·have hm := condT hb4 hm
        refine sR <| wP 4 [(45, .slice A5 l7.length cap5), (44, .slice A1 l8.length cap1), (43, ii x2), (42, .slice A1 l8.length cap1)] ?_
        obtain ⟨x6, hx7, hm⟩ := bindE hm
        refine sI 46 A5 l7.length cap5 .i64 0 sl56 ((F10.sl encI_ok).is hx7) <| sL 47 (elA A5 1 (0) 0) (ii x6) vt3 (Sl.cell (F10.sl encI_ok) hx7 0 (by rfl)) ?_
        obtain ⟨x7, hx8, hm⟩ := bindE hm
        refine sI 48 A1 l8.length cap1 .i64 x6 sl56 ((F9.sl encI_ok).is hx8) <| sL 49 (elA A1 1 (x6) 0) (ii x7) vt3 (Sl.cell (F9.sl encI_ok) hx8 0 (by rfl)) <| wP 1 [(50, ii (wr (x7 + 1)))] ?_
        obtain ⟨x8, hx9, hm⟩ := bindE hm
        refine sI 51 A1 l8.length cap1 .i64 x2 sl56 ((F9.sl encI_ok).is hx9) <| wS_storeEl (x := x8) (wr (x7 + 1)) (T := 3) (U := 3) (cap := cap1) (j := 0) (A := A1) (v := ii (wr (x7 + 1))) (vs := [ii (wr (x7 + 1))]) (m := x2) (by kernel_rfl) (by rfl) sz3 (by rfl) encI_ok F9 hx9 (bl rfl) (by rfl) ?_
        intro w8 F12 hc7
        replace F8 := F8.chg hc7 (Dj.of L0 G2)
        replace F10 := F10.chg hc7 (D5).symm
        replace F11 := F11.chg hc7 (Dj.of L0 G2)
        replace hB := hB.inS hc7 (inLow G2)
        clear F9
        rewrite [show l8.length = (l8.set (Int.toNat x2) (wr (x7 + 1))).length from (List.length_set ..).symm]
        refine wN <| cW_region <| wP 2 [(53, ii x2), (52, .slice A5 l7.length cap5)] <| wS_bs (enc := encI) ([x2] : List Int) [ii x2] (d := 54) (t := 56) (T := 3) (n := 1) (ps := [(0, ii x2)]) (by kernel_rfl) el56 encI_ok (by rfl) (by omega) (by omega) (by kernel_rfl) (by rfl) ?_
        intro b3 w9 G6 F13 hc8
        have D6 := Dj.of F12.low (low1 G6)
        have D7 := Dj.of F10.low (low1 G6)
        replace F8 := F8.c hc8
        replace F12 := F12.c hc8
        replace F10 := F10.c hc8
        replace F11 := F11.c hc8
        replace G6 := Nat.le_trans hB.size G6
        replace G6 := low1 G6
        replace hB := hB.q hc8
        obtain ⟨_, hk1, hm⟩ := bindE hm
        replace hk1 := apE hk1
        refine wS_appendO (enc := encI) (l := (l7 : List Int)) (l2 := (([x2] : List Int) : List Int)) (d := 55) (t := 56) (T := 3) (A := A5) (A2 := (ad b3)) (cap := cap5) (cap2 := 1) (by kernel_rfl) el56 encI_ok F10 (F13.sl encI_ok) hk1 ?_
        intro w10 fp6 A8 cap8 F14 hc9 hp1
        have G7 := low_ap G5 hB.size hp1
        have D8 : Dj fp1 fp6 := Dj.ap D5 F12.low hp1
        have D9 : Dj [b3] fp6 := Dj.ap (D7).symm F13.low hp1
        replace F8 := F8.chg hc9 (Dj.of L0 G5)
        replace F12 := F12.chg hc9 D5
        replace F11 := F11.chg hc9 (Dj.of L0 G5)
        replace F13 := F13.chg hc9 (D7).symm
        replace hB := hB.inS hc9 (inLow G5)
        refine wP 1 [(6, .slice A8 (l7 ++ (([x2] : List Int))).length cap8)] <| wE ?_
        obtain rfl := someE (x := ((l7 ++ (([x2] : List Int)), l8.set (Int.toNat x2) (wr (x7 + 1))))) hm
        exact eX_J (fun hst => ⟨l7 ++ (([x2] : List Int)), A8, cap8, fp6, l8.set (Int.toNat x2) (wr (x7 + 1)), rfl, fO hst, F8, F12, F14, G7, D8, hB⟩)
       have hm := condF hb4 hm
       refine cW_skip ?_
       obtain rfl := someE (x := ((l7, l8))) hm
       exact eX_J (fun hst => ⟨l7, A5, cap5, fp4, l8, rfl, fO hst, F8, F9, F10, G5, D5, hB⟩)
      have hm := condF hb3 hm
      rewrite [hb3]
      refine wP 6 [(41, .bool (false)), (40, undef), (39, undef), (38, undef), (37, undef), (36, undef)] <| wN <| cP [(0, .slice A0 l0.length cap0), (5, .slice A1 l8.length cap1), (6, .slice A5 l7.length cap5), (7, ii x2), (23, .slice A0 l0.length cap0), (24, ii (l0.length : Int)), (25, ii x2), (41, .bool (false))] (fun a2 => ?_)
      refine cCf <| cW_skip ?_
      obtain rfl := someE (x := ((l7, l8))) hm
      exact eX_J (fun hst => ⟨l7, A5, cap5, fp4, l8, rfl, fO hst, F8, F9, F10, G5, D5, hB⟩)
     rintro a' w11 ⟨l9, A6, cap6, fp5, l10, hJ, hF3, F15, F16, F17, G8, D10, hB⟩
     subst hJ
     refine gX hF3 <| eX_block <| eX_then <| cW_region <| wP 2 [(25, ii (wr (x2 + 1))), (56, ii (wr (x2 + 1)))] <| wE ?_
     obtain rfl := someE (x := (Ctl.next ((l9, wr (x2 + 1), l10)))) hm
     exact eX_next hx3 (fun hst => ⟨l9, A6, cap6, fp5, wr (x2 + 1), l10, rfl, fO hst, F15, F16, F17, G8, D10, hB⟩)
    have hm := condF hb2 hm
    refine cW_exit <| eX_then_exit ?_
    obtain rfl := someE (x := (Ctl.out ((l7, l8)))) hm
    refine eX_outX hx3 (fun hr3 => ?_)
    replace hr3 := hr3.symm
    subst hr3
    refine eX_block_hit ?_
    exact eX_J (fun hst => ⟨l7, A5, cap5, fp4, l8, rfl, fO hst, F8, F9, F10, G5, D5, hB⟩)
   rintro a' w12 ⟨l5, A4, cap4, fp3, l6, hJ, hF4, F18, F19, F20, G9, D11, hB⟩
   subst hJ
   refine gX hF4 <| eX_block <| eX_then <| cW_region <| wP 1 [(21, .slice A4 l5.length cap4)] ?_
   obtain ⟨y3, hy3, hm⟩ := bindE hm
   refine wS_cutO (k := 1) (enc := encI) (U := 3) (l := l5) (d := 22) (T := 56) (A := A4) (cap := cap4) (lo := 1) (by kernel_rfl) sl56 encI_ok F20 hy3 ?_
   intro A9 cap9 F21
   refine wP 1 [(6, .slice A9 (l5.drop (Int.toNat 1)).length cap9)] <| wE ?_
   obtain rfl := someE (x := (Ctl.next ((l5.drop (Int.toNat 1), l6)))) hm
   exact eX_next hx2 (fun hst => ⟨l5.drop (Int.toNat 1), A9, cap9, fp3, l6, rfl, fO hst, F18, F19, F21, G9, D11, hB⟩)
  have hm := condF hb1 hm
  refine cW_exit <| eX_then_exit ?_
  obtain rfl := someE (x := Ctl.out l4) hm
  refine eX_outX hx2 (fun hr4 => ?_)
  replace hr4 := hr4.symm
  subst hr4
  refine eX_block_hit ?_
  exact eX_J (fun hst => ⟨l4, rfl, fO hst, F6, hB⟩)
 rintro a' w13 ⟨l1, hJ, hF5, F22, hB⟩
 subst hJ
 refine gX hF5 <| eX_then <| sR <| wP 2 [(4, .slice A1 l1.length cap1), (57, .slice A1 l1.length cap1)] <| wN <| cW_ret ?_
 obtain rfl := someE (x := l1) hm
 refine rA (.slice A1 l1.length cap1) 4 ?_
 exact ⟨A1, cap1, fp1, rfl, F22, G2, hB⟩

set_option maxRecDepth 100000 in
theorem c_iGraphShort {w0} {l0 : List (List Int)} {A0 : Option Addr} {cap0 : Nat} {fp0 : List Nat} {r : (Int)} (hm : m_iGraphShort l0 = some r) (F0 : SlR 1 encI w0 fp0 A0 l0) :
  Calls Tryd.prog 45 #[.slice A0 l0.length cap0] w0 fun e w' => e = .returned (ii r) ∧ Chg [] w0 w' := by
 have L0 := F0.low
 have hB : Chg [] w0 w0 := Chg.refl _ _
 unfold m_iGraphShort at hm
 refine enterE (N := 51) Tryd.func45 (by rfl) Tryd.ntmps45 (by simp) [(0, .slice A0 l0.length cap0)] (by rfl) (by kernel_rfl) (fun a => ?_)
 refine sR <| wP 1 [(2, ii 0)] <| wN <| sR <| wP 1 [(3, ii 0)] <| wN <| cW_seq <| sR <| wP 3 [(11, ii 0), (10, ii (l0.length : Int)), (9, .slice A0 l0.length cap0)] <| wN ?_
 obtain ⟨r1, hr1, hm⟩ := bindE hm
 have hm1 := hm
 refine cW_cut (fun a' w' => ∃ x1 : Int, x1 = r1 ∧ Fr 51 [(3, ii x1)] a' ∧ Chg [] w0 w') ?_ ?_
 ·refine cW_block ?_
  refine cW_loop _ (fun (s1 : Int × Int) a' w' => ∃ x2 : Int, ∃ x3 : Int, (x2, x3) = s1 ∧ Fr 51 [(0, .slice A0 l0.length cap0), (3, ii x2), (9, .slice A0 l0.length cap0), (10, ii (l0.length : Int)), (11, ii x3)] a' ∧ SlR 1 encI w' fp0 A0 l0 ∧ Chg [] w0 w') hr1 (fun hst => ⟨0, 0, rfl, fO hst, F0, hB⟩) ?_
  rintro _ c1 a' w1 ⟨x2, x3, rfl, hF1, F1, hB⟩ hx1
  refine gO hF1 ?_
  have hm := hx1
  unfold m_iGraphShort_s3 at hm
  refine sR <| wP 1 [(12, .bool (decide (x3 < ((l0.length : Int)))))] <| wN <| cW_seq <| cC (decide (x3 < ((l0.length : Int)))) (fun hb1 => ?_) (fun hb1 => ?_)
  ·have hm := condT hb1 hm
   refine cW_skip <| eX_then <| cW_seq <| cW_block <| sR <| wP 1 [(13, ii x3)] ?_
   obtain ⟨x4, hx2, hm⟩ := bindE hm
   refine sI 14 A0 l0.length cap0 .i64 x3 sl64 (F1.is hx2) ?_
   obtain ⟨A1, cap1, hc1, F2, K1⟩ := SlR.row F1 hx2
   refine sL 15 (elA A0 1 (x3) 0) (.slice A1 x4.length cap1) vt56 hc1 <| wP 2 [(5, .slice A1 x4.length cap1), (4, ii x3)] <| wN <| sR <| wP 2 [(17, ii x3), (16, .slice A0 l0.length cap0)] ?_
   obtain ⟨y1, hy1, hm⟩ := bindE hm
   refine sC 18 [.slice A0 l0.length cap0, ii x3] ent82 (c_iGraphBack hy1 F1) ?_
   rintro _ w2 ⟨A2, cap2, fp1, rfl, F3, G1, hc2⟩
   replace F1 := F1.c hc2
   replace F2 := F2.c hc2
   replace G1 := low_le hB.size G1
   replace hB := hB.q hc2
   refine ⟨.slice A2 y1.length cap2, rfl, ?_⟩
   refine wP 1 [(6, .slice A2 y1.length cap2)] <| wN <| sR <| wP 3 [(21, ii 0), (20, ii (x4.length : Int)), (19, .slice A1 x4.length cap1)] <| wN ?_
   obtain ⟨r2, hr2, hm⟩ := bindE hm
   have hm2 := hm
   refine cW_cut (fun a' w' => ∃ x5 : Int, x5 = r2 ∧ Fr 51 [(0, .slice A0 l0.length cap0), (3, ii x5), (9, .slice A0 l0.length cap0), (10, ii (l0.length : Int)), (11, ii x3)] a' ∧ SlR 1 encI w' fp0 A0 l0 ∧ Chg [] w0 w') ?_ ?_
   ·refine cW_block ?_
    refine cW_loop _ (fun (s2 : Int × Int) a' w' => ∃ x6 : Int, ∃ x7 : Int, (x6, x7) = s2 ∧ Fr 51 [(0, .slice A0 l0.length cap0), (3, ii x6), (6, .slice A2 y1.length cap2), (9, .slice A0 l0.length cap0), (10, ii (l0.length : Int)), (11, ii x3), (19, .slice A1 x4.length cap1), (20, ii (x4.length : Int)), (21, ii x7)] a' ∧ SlR 1 encI w' fp0 A0 l0 ∧ S1 w' fp0 A1 x4 ∧ O1 3 w' fp1 A2 cap2 y1 ∧ Chg [] w0 w') hr2 (fun hst => ⟨x2, 0, rfl, fO hst, F1, F2, F3, hB⟩) ?_
    rintro _ c2 a' w3 ⟨x6, x7, rfl, hF2, F4, F5, F6, hB⟩ hx3
    refine gO hF2 ?_
    have hm := hx3
    unfold m_iGraphShort_s4 at hm
    refine sR <| wP 1 [(22, .bool (decide (x7 < ((x4.length : Int)))))] <| wN <| cW_seq <| cC (decide (x7 < ((x4.length : Int)))) (fun hb2 => ?_) (fun hb2 => ?_)
    ·have hm := condT hb2 hm
     refine cW_skip <| eX_then <| cW_seq <| cW_block ?_
     obtain ⟨s3, hs1, hm⟩ := bindE hm
     refine cW_cut (fun a' w' => ∃ x8 : Int, x8 = s3 ∧ Fr 51 [(0, .slice A0 l0.length cap0), (3, ii x8), (6, .slice A2 y1.length cap2), (9, .slice A0 l0.length cap0), (10, ii (l0.length : Int)), (11, ii x3), (19, .slice A1 x4.length cap1), (20, ii (x4.length : Int)), (21, ii x7)] a' ∧ SlR 1 encI w' fp0 A0 l0 ∧ S1 w' fp0 A1 x4 ∧ O1 3 w' fp1 A2 cap2 y1 ∧ Chg [] w0 w') ?_ ?_
     ·have hm := hs1
      refine sR ?_
      obtain ⟨x9, hx4, hm⟩ := bindE hm
      refine sI 23 A1 x4.length cap1 .i64 x7 sl56 (F5.is hx4) <| sL 24 (elA A1 1 (x7) 0) (ii x9) vt3 (Sl.cell F5 hx4 0 (by rfl)) <| wP 1 [(8, ii x9)] <| wN <| sR <| wP 2 [(26, ii x9), (25, .slice A2 y1.length cap2)] ?_
      obtain ⟨x10, hx5, hm⟩ := bindE hm
      refine sI 27 A2 y1.length cap2 .i64 x9 sl56 ((F6.sl encI_ok).is hx5) <| sL 28 (elA A2 1 (x9) 0) (ii x10) vt3 (Sl.cell (F6.sl encI_ok) hx5 0 (by rfl)) <| wP 2 [(30, .bool (decide (x10 ≥ 0))), (29, .bool (decide (x10 ≥ 0)))] <| wS_bool (decide (x10 ≥ 0)) (fun hb3 => ?_) (fun hb3 => ?_)
      ·have hm := condT hb3 hm
       rewrite [hb3]
       refine wP 3 [(33, .bool (x6 == 0)), (32, .bool (x6 == 0)), (31, ii x6)] <| wS_bool (x6 == 0) (fun hb4 => ?_) (fun hb4 => ?_)
       ·have hm := condT hb4 hm
        rewrite [hb4]
        refine wP 9 [(42, .bool (true)), (41, .bool (true)), (40, undef), (39, undef), (38, undef), (37, undef), (36, undef), (35, undef), (34, undef)] <| wN <| cP [(0, .slice A0 l0.length cap0), (3, ii x6), (6, .slice A2 y1.length cap2), (8, ii x9), (9, .slice A0 l0.length cap0), (10, ii (l0.length : Int)), (11, ii x3), (19, .slice A1 x4.length cap1), (20, ii (x4.length : Int)), (21, ii x7), (42, .bool (true))] (fun a1 => ?_)
        refine cCt <| cW_region <| wP 2 [(44, ii x9), (43, .slice A2 y1.length cap2)] ?_
        obtain ⟨x11, hx6, hm⟩ := bindE hm
        refine sI 45 A2 y1.length cap2 .i64 x9 sl56 ((F6.sl encI_ok).is hx6) <| sL 46 (elA A2 1 (x9) 0) (ii x11) vt3 (Sl.cell (F6.sl encI_ok) hx6 0 (by rfl)) <| wP 2 [(3, ii (wr (x11 + 1))), (47, ii (wr (x11 + 1)))] <| wE ?_
        obtain rfl := someE (x := wr (x11 + 1)) hm
        exact eX_J (fun hst => ⟨wr (x11 + 1), rfl, fO hst, F4, F5, F6, hB⟩)
       have hm := condF hb4 hm
       rewrite [hb4]
       refine wP 2 [(35, ii x9), (34, .slice A2 y1.length cap2)] ?_
       obtain ⟨x12, hx7, hm⟩ := bindE hm
       refine sI 36 A2 y1.length cap2 .i64 x9 sl56 ((F6.sl encI_ok).is hx7) <| sL 37 (elA A2 1 (x9) 0) (ii x12) vt3 (Sl.cell (F6.sl encI_ok) hx7 0 (by rfl)) <| wP 5 [(42, .bool (decide ((wr (x12 + 1)) < x6))), (41, .bool (decide ((wr (x12 + 1)) < x6))), (40, .bool (decide ((wr (x12 + 1)) < x6))), (39, ii x6), (38, ii (wr (x12 + 1)))] <| wN <| cP [(0, .slice A0 l0.length cap0), (3, ii x6), (6, .slice A2 y1.length cap2), (8, ii x9), (9, .slice A0 l0.length cap0), (10, ii (l0.length : Int)), (11, ii x3), (19, .slice A1 x4.length cap1), (20, ii (x4.length : Int)), (21, ii x7), (42, .bool (decide ((wr (x12 + 1)) < x6)))] (fun a2 => ?_)
       refine cC (decide ((wr (x12 + 1)) < x6)) (fun hb5 => ?_) (fun hb5 => ?_)
       ·have hm := condT hb5 hm
        refine cW_region <| wP 2 [(44, ii x9), (43, .slice A2 y1.length cap2)] ?_
        obtain ⟨x13, hx8, hm⟩ := bindE hm
        refine sI 45 A2 y1.length cap2 .i64 x9 sl56 ((F6.sl encI_ok).is hx8) <| sL 46 (elA A2 1 (x9) 0) (ii x13) vt3 (Sl.cell (F6.sl encI_ok) hx8 0 (by rfl)) <| wP 2 [(3, ii (wr (x13 + 1))), (47, ii (wr (x13 + 1)))] <| wE ?_
        obtain rfl := someE (x := wr (x13 + 1)) hm
        exact eX_J (fun hst => ⟨wr (x13 + 1), rfl, fO hst, F4, F5, F6, hB⟩)
       have hm := condF hb5 hm
       refine cW_skip ?_
       obtain rfl := someE (x := x6) hm
       exact eX_J (fun hst => ⟨x6, rfl, fO hst, F4, F5, F6, hB⟩)
      have hm := condF hb3 hm
      rewrite [hb3]
      refine wP 12 [(42, .bool (false)), (41, undef), (40, undef), (39, undef), (38, undef), (37, undef), (36, undef), (35, undef), (34, undef), (33, undef), (32, undef), (31, undef)] <| wN <| cP [(0, .slice A0 l0.length cap0), (3, ii x6), (6, .slice A2 y1.length cap2), (8, ii x9), (9, .slice A0 l0.length cap0), (10, ii (l0.length : Int)), (11, ii x3), (19, .slice A1 x4.length cap1), (20, ii (x4.length : Int)), (21, ii x7), (42, .bool (false))] (fun a3 => ?_)
      refine cCf <| cW_skip ?_
      obtain rfl := someE (x := x6) hm
      exact eX_J (fun hst => ⟨x6, rfl, fO hst, F4, F5, F6, hB⟩)
     rintro a' w4 ⟨x8, hJ, hF3, F7, F8, F9, hB⟩
     subst hJ
     refine gX hF3 <| eX_block <| eX_then <| cW_region <| wP 2 [(21, ii (wr (x7 + 1))), (48, ii (wr (x7 + 1)))] <| wE ?_
     obtain rfl := someE (x := (Ctl.next ((x8, wr (x7 + 1))))) hm
     exact eX_next hx3 (fun hst => ⟨x8, wr (x7 + 1), rfl, fO hst, F7, F8, F9, hB⟩)
    have hm := condF hb2 hm
    refine cW_exit <| eX_then_exit ?_
    obtain rfl := someE (x := Ctl.out x6) hm
    refine eX_outX hx3 (fun hr3 => ?_)
    replace hr3 := hr3.symm
    subst hr3
    refine eX_block_hit ?_
    exact eX_J (fun hst => ⟨x6, rfl, fO hst, F4, hB⟩)
   rintro a' w5 ⟨x5, hJ, hF4, F10, hB⟩
   subst hJ
   refine gX hF4 <| eX_block <| eX_then <| cW_region <| wP 2 [(11, ii (wr (x3 + 1))), (49, ii (wr (x3 + 1)))] <| wE ?_
   obtain rfl := someE (x := (Ctl.next ((x5, wr (x3 + 1))))) hm
   exact eX_next hx1 (fun hst => ⟨x5, wr (x3 + 1), rfl, fO hst, F10, hB⟩)
  have hm := condF hb1 hm
  refine cW_exit <| eX_then_exit ?_
  obtain rfl := someE (x := Ctl.out x2) hm
  refine eX_outX hx1 (fun hr4 => ?_)
  replace hr4 := hr4.symm
  subst hr4
  refine eX_block_hit ?_
  exact eX_J (fun hst => ⟨x2, rfl, fO hst, hB⟩)
 rintro a' w6 ⟨x1, hJ, hF5, hB⟩
 subst hJ
 refine gX hF5 <| eX_then <| sR <| wP 2 [(2, ii x1), (50, ii x1)] <| wN <| cW_ret ?_
 obtain rfl := someE (x := x1) hm
 refine rA (ii x1) 2 ?_
 exact ⟨rfl, hB⟩

set_option maxRecDepth 100000 in
theorem c_iGraphRing1 {w0 p0 l1_0 A1_0 cap1_0 fp1_0 b1 q2_0 b2 l3_0 A3_0 cap3_0 fp3_0 b3 q4_0 b4} {r : Bool} (hm : m_iGraphRing1 p0 l1_0 q2_0 l3_0 q4_0 = some r) (F1_0 : S1 w0 fp1_0 A1_0 l1_0) (F1 : Cl w0 b1 56 [.slice A1_0 l1_0.length cap1_0]) (F2 : Cl w0 b2 3 [ii q2_0]) (F3_0 : S1 w0 fp3_0 A3_0 l3_0) (F3 : Cl w0 b3 56 [.slice A3_0 l3_0.length cap3_0]) (F4 : Cl w0 b4 3 [ii q4_0]) :
  Calls Tryd.prog 84 #[ii p0, pt b1, pt b2, pt b3, pt b4] w0 fun e w' => e = .returned (.bool (r)) ∧ Chg [] w0 w' := by
 have L1_0 := F1_0.low
 have L1 := lt1 F1.lt
 have L2 := lt1 F2.lt
 have L3_0 := F3_0.low
 have L3 := lt1 F3.lt
 have L4 := lt1 F4.lt
 have hB : Chg [] w0 w0 := Chg.refl _ _
 unfold m_iGraphRing1 at hm
 refine enterE (N := 28) Tryd.func84 (by rfl) Tryd.ntmps84 (by simp) [(0, ii p0), (1, pt b1), (2, pt b2), (3, pt b3), (4, pt b4)] (by rfl) (by kernel_rfl) (fun a => ?_)
 refine sR <| wP 1 [(6, .bool (false))] <| wN <| cW_seq <| cW_drawnTail [] 19 (by kernel_rfl) (by kernel_rfl) (fun w1 hc1 => ?_)
 replace F1_0 := F1_0.c hc1
 replace F1 := F1.c hc1
 replace F2 := F2.c hc1
 replace F3_0 := F3_0.c hc1
 replace F3 := F3.c hc1
 replace F4 := F4.c hc1
 replace hB := hB.q hc1
 have hS := Chg.refl [] w1
 have Z1 := F1_0
 have Z2 := F1
 have Z3 := F2
 have Z4 := F3_0
 have Z5 := F3
 have Z6 := F4
 refine hL 0 7 ⟨b1, 0, none⟩ (.slice A1_0 l1_0.length cap1_0) vt56 (fun W hW => (Z2.c hW).cell 0) ?_
 refine hT [1] [(8, ii p0)] ?_
 obtain ⟨x1, hx1, hm⟩ := bindE hm
 refine hI 2 9 A1_0 l1_0.length cap1_0 .i64 p0 sl56 (F1_0.is hx1) <| hL 3 10 (elA A1_0 1 (p0) 0) (ii x1) vt3 (fun W hW => Sl.cell (Z1.c hW) hx1 0 (by rfl)) ?_
 refine hT [4, 5] [(12, .bool (decide (x1 ≥ 0))), (11, .bool (decide (x1 ≥ 0)))] <| wH_bool (decide (x1 ≥ 0)) (fun hb1 => ?_) (fun hb1 => ?_)
 ·have hm := condT hb1 hm
  rewrite [hb1]
  refine hL 6 13 ⟨b1, 0, none⟩ (.slice A1_0 l1_0.length cap1_0) vt56 (fun W hW => (Z2.c hW).cell 0) ?_
  refine hT [7] [(14, ii p0)] ?_
  obtain ⟨x2, hx2, hm⟩ := bindE hm
  refine hI 8 15 A1_0 l1_0.length cap1_0 .i64 p0 sl56 (F1_0.is hx2) <| hL 9 16 (elA A1_0 1 (p0) 0) (ii x2) vt3 (fun W hW => Sl.cell (Z1.c hW) hx2 0 (by rfl)) ?_
  refine hL 10 17 ⟨b2, 0, none⟩ (ii q2_0) vt3 (fun W hW => (Z3.c hW).cell 0) ?_
  refine hL 11 18 ⟨b3, 0, none⟩ (.slice A3_0 l3_0.length cap3_0) vt56 (fun W hW => (Z5.c hW).cell 0) ?_
  refine hT [12, 13, 14, 15, 16] [(23, .bool (decide (x2 ≤ (wr (q2_0 - ((l3_0.length : Int))))))), (22, .bool (decide (x2 ≤ (wr (q2_0 - ((l3_0.length : Int))))))), (21, .bool (decide (x2 ≤ (wr (q2_0 - ((l3_0.length : Int))))))), (20, ii (wr (q2_0 - ((l3_0.length : Int))))), (19, ii (l3_0.length : Int))] <| wH_bool (decide (x2 ≤ (wr (q2_0 - ((l3_0.length : Int)))))) (fun hb2 => ?_) (fun hb2 => ?_)
  ·have hm := condT hb2 hm
   rewrite [hb2]
   refine hT [17] [(24, ii p0)] <| hL 18 25 ⟨b4, 0, none⟩ (ii q4_0) vt3 (fun W hW => (Z6.c hW).cell 0) ?_
   refine wD <| eX_tail <| wP 3 [(6, .bool (p0 != q4_0)), (27, .bool (p0 != q4_0)), (26, .bool (p0 != q4_0))] <| wN <| cP [(6, .bool (p0 != q4_0))] (fun a1 => ?_)
   refine cW_ret ?_
   obtain rfl := someE (x := p0 != q4_0) hm
   refine rA (.bool (p0 != q4_0)) 6 ?_
   exact ⟨rfl, hB⟩
  have hm := condF hb2 hm
  rewrite [hb2]
  refine hT [17, 18] [(25, undef), (24, undef)] <| wD <| eX_tail <| wP 3 [(6, .bool (false)), (27, .bool (false)), (26, undef)] <| wN <| cP [(6, .bool (false))] (fun a2 => ?_)
  refine cW_ret ?_
  obtain rfl := someE (x := false) hm
  refine rA (.bool (false)) 6 ?_
  exact ⟨rfl, hB⟩
 have hm := condF hb1 hm
 rewrite [hb1]
 refine hT [6, 7, 8, 9, 10, 11, 12, 13, 14, 15, 16, 17, 18] [(25, undef), (24, undef), (23, .bool (false)), (22, .bool (false)), (21, undef), (20, undef), (19, undef), (18, undef), (17, undef), (16, undef), (15, undef), (14, undef), (13, undef)] <| wD <| eX_tail <| wP 3 [(6, .bool (false)), (27, .bool (false)), (26, undef)] <| wN <| cP [(6, .bool (false))] (fun a3 => ?_)
 refine cW_ret ?_
 obtain rfl := someE (x := false) hm
 refine rA (.bool (false)) 6 ?_
 exact ⟨rfl, hB⟩

set_option maxRecDepth 100000 in
theorem c_sIndexGraph {w0 l0 A0 cap0 fp0 l1_0_0 A1_0_0 cap1_0_0 fp1_0_0 b1_0 q1_1_0 b1_1 l1_2_0 A1_2_0 cap1_2_0 fp1_2_0 b1_2 q1_3_0 b1_3} {r : (Int)} (hm : m_sIndexGraph l0 l1_0_0 q1_1_0 l1_2_0 q1_3_0 = some r) (F0 : S1 w0 fp0 A0 l0) (F1_0_0 : S1 w0 fp1_0_0 A1_0_0 l1_0_0) (F1_0 : Cl w0 b1_0 56 [.slice A1_0_0 l1_0_0.length cap1_0_0]) (F1_1 : Cl w0 b1_1 3 [ii q1_1_0]) (F1_2_0 : S1 w0 fp1_2_0 A1_2_0 l1_2_0) (F1_2 : Cl w0 b1_2 56 [.slice A1_2_0 l1_2_0.length cap1_2_0]) (F1_3 : Cl w0 b1_3 3 [ii q1_3_0]) :
  Calls Tryd.prog 83 #[.slice A0 l0.length cap0, .func (.func 84) #[] #[pt b1_0, pt b1_1, pt b1_2, pt b1_3]] w0 fun e w' => e = .returned (ii r) ∧ Chg [] w0 w' := by
 have L0 := F0.low
 have L1_0_0 := F1_0_0.low
 have L1_0 := lt1 F1_0.lt
 have L1_1 := lt1 F1_1.lt
 have L1_2_0 := F1_2_0.low
 have L1_2 := lt1 F1_2.lt
 have L1_3 := lt1 F1_3.lt
 have hB : Chg [] w0 w0 := Chg.refl _ _
 unfold m_sIndexGraph at hm
 refine enterE (N := 19) Tryd.func83 (by rfl) Tryd.ntmps83 (by simp) [(0, .slice A0 l0.length cap0), (1, .func (.func 84) #[] #[pt b1_0, pt b1_1, pt b1_2, pt b1_3])] (by rfl) (by kernel_rfl) (fun a => ?_)
 refine sR <| wP 1 [(4, ii 0)] <| wN <| cW_seq <| sR <| wP 3 [(8, ii 0), (7, ii (l0.length : Int)), (6, .slice A0 l0.length cap0)] <| wN ?_
 obtain ⟨r1, hr1, hm⟩ := bindE hm
 have hm1 := hm
 refine cW_cut (fun a' w' => Sum.inl (()) = r1 ∧ Fr 19 [] a' ∧ Chg [] w0 w') ?_ ?_
 ·refine cW_block ?_
  refine cW_loop _ (fun (s1 : Int) a' w' => ∃ x1 : Int, x1 = s1 ∧ Fr 19 [(0, .slice A0 l0.length cap0), (1, .func (.func 84) #[] #[pt b1_0, pt b1_1, pt b1_2, pt b1_3]), (7, ii (l0.length : Int)), (8, ii x1)] a' ∧ S1 w' fp0 A0 l0 ∧ S1 w' fp1_0_0 A1_0_0 l1_0_0 ∧ Cl w' b1_0 56 [.slice A1_0_0 l1_0_0.length cap1_0_0] ∧ Cl w' b1_1 3 [ii q1_1_0] ∧ S1 w' fp1_2_0 A1_2_0 l1_2_0 ∧ Cl w' b1_2 56 [.slice A1_2_0 l1_2_0.length cap1_2_0] ∧ Cl w' b1_3 3 [ii q1_3_0] ∧ Chg [] w0 w') hr1 (fun hst => ⟨0, rfl, fO hst, F0, F1_0_0, F1_0, F1_1, F1_2_0, F1_2, F1_3, hB⟩) ?_
  rintro _ c1 a' w1 ⟨x1, rfl, hF1, F1, F2, F3, F4, F5, F6, F7, hB⟩ hx1
  refine gO hF1 ?_
  have hm := hx1
  unfold m_sIndexGraph_s1 at hm
  refine sR <| wP 1 [(9, .bool (decide (x1 < ((l0.length : Int)))))] <| wN <| cW_seq <| cC (decide (x1 < ((l0.length : Int)))) (fun hb1 => ?_) (fun hb1 => ?_)
  ·have hm := condT hb1 hm
   refine cW_skip <| eX_then <| cW_seq <| cW_block <| sR <| wP 2 [(5, ii x1), (10, ii x1)] <| wN <| sR <| wP 3 [(13, ii x1), (12, .slice A0 l0.length cap0), (11, .func (.func 84) #[] #[pt b1_0, pt b1_1, pt b1_2, pt b1_3])] ?_
   obtain ⟨x2, hx2, hm⟩ := bindE hm
   refine sI 14 A0 l0.length cap0 .i64 x1 sl56 (F1.is hx2) <| sL 15 (elA A0 1 (x1) 0) (ii x2) vt3 (Sl.cell F1 hx2 0 (by rfl)) ?_
   obtain ⟨y1, hy1, hm⟩ := bindE hm
   refine sC 16 [ii x2, pt b1_0, pt b1_1, pt b1_2, pt b1_3] ent84 (c_iGraphRing1 hy1 F2 F3 F4 F5 F6 F7) ?_
   rintro _ w2 ⟨rfl, hc1⟩
   replace F1 := F1.c hc1
   replace F2 := F2.c hc1
   replace F3 := F3.c hc1
   replace F4 := F4.c hc1
   replace F5 := F5.c hc1
   replace F6 := F6.c hc1
   replace F7 := F7.c hc1
   replace hB := hB.q hc1
   refine ⟨.bool (y1), rfl, ?_⟩
   refine wN <| cC y1 (fun hb2 => ?_) (fun hb2 => ?_)
   ·have hm := condT hb2 hm
    refine sR <| wP 2 [(4, ii x1), (17, ii x1)] <| wN <| cW_ret <| eX_block_ret <| eX_then_ret ?_
    obtain rfl := someE (x := Ctl.out (Sum.inr x1)) hm
    refine eX_outR hx1 (fun hr => ?_)
    subst hr
    refine eX_block_ret <| eX_then_ret <| eX_then_ret ?_
    obtain rfl := someE (x := x1) hm1
    refine rA (ii x1) 4 ?_
    exact ⟨rfl, hB⟩
   have hm := condF hb2 hm
   refine cW_skip <| eX_block <| eX_then <| cW_region <| wP 2 [(8, ii (wr (x1 + 1))), (18, ii (wr (x1 + 1)))] <| wE ?_
   obtain rfl := someE (x := Ctl.next (wr (x1 + 1))) hm
   exact eX_next hx1 (fun hst => ⟨wr (x1 + 1), rfl, fO hst, F1, F2, F3, F4, F5, F6, F7, hB⟩)
  have hm := condF hb1 hm
  refine cW_exit <| eX_then_exit ?_
  obtain rfl := someE (x := Ctl.out (Sum.inl (()))) hm
  refine eX_outX hx1 (fun hr2 => ?_)
  replace hr2 := hr2.symm
  subst hr2
  refine eX_block_hit ?_
  exact eX_J (fun hst => ⟨rfl, fO hst, hB⟩)
 rintro a' w3 ⟨hJ, hF2, hB⟩
 subst hJ
 refine gX hF2 <| eX_then <| sR <| wP 1 [(4, ii ((-1)))] <| wN <| cW_ret ?_
 obtain rfl := someE (x := (-1)) hm
 refine rA (ii ((-1))) 4 ?_
 exact ⟨rfl, hB⟩

set_option maxRecDepth 100000 in
theorem c_iGraphRing {w0} {l0 : List (List Int)} {A0 : Option Addr} {cap0 : Nat} {fp0 : List Nat} {r : (List Int)} (hm : m_iGraphRing l0 = some r) (F0 : SlR 1 encI w0 fp0 A0 l0) :
  Calls Tryd.prog 43 #[.slice A0 l0.length cap0] w0 fun e w' => ∃ A100 cap100 fp100, e = .returned (.slice A100 r.length cap100) ∧ O1 3 w' fp100 A100 cap100 r ∧ (∀ x ∈ fp100, w0.heap.size ≤ x) ∧ Chg [] w0 w' := by
 have L0 := F0.low
 have hB : Chg [] w0 w0 := Chg.refl _ _
 unfold m_iGraphRing at hm
 refine enterE (N := 74) Tryd.func43 (by rfl) Tryd.ntmps43 (by simp) [(0, .slice A0 l0.length cap0)] (by rfl) (by kernel_rfl) (fun a => ?_)
 refine sR <| wP 1 [(2, .slice none 0 0)] <| wN <| sR <| wP 1 [(8, .slice A0 l0.length cap0)] ?_
 obtain ⟨y1, hy1, hm⟩ := bindE hm
 refine sC 9 [.slice A0 l0.length cap0] ent45 (c_iGraphShort hy1 F0) ?_
 rintro _ w1 ⟨rfl, hc1⟩
 replace F0 := F0.c hc1
 replace hB := hB.q hc1
 refine ⟨ii y1, rfl, ?_⟩
 refine wS_alloc (d := 3) (T := 3) (z := ii 0) (by kernel_rfl) (by kernel_rfl) ?_
 intro b1 w2 G1 F1 hc2
 replace F1 : Cl w2 b1 3 [ii 0] := F1
 replace F0 := F0.c hc2
 replace G1 := Nat.le_trans hB.size G1
 replace hB := hB.q hc2
 refine wS_store (T := 3) (g := b1) (o := 0) (ad := ⟨b1, 0, none⟩) (v := ii y1) (vs := [ii y1]) (by kernel_rfl) (by rfl) sz3 (by rfl) (by rfl) F1 (bl rfl) ?_
 intro w3 F2 hc3
 replace F0 := F0.chg hc3 (Dj.of L0 (low1 G1))
 replace hB := hB.inS hc3 (inLow (low1 G1))
 replace F2 : Cl w3 b1 3 [ii y1] := F2
 clear F1
 refine wN <| cW_seq <| sR <| wP 3 [(12, ii 0), (11, ii (l0.length : Int)), (10, .slice A0 l0.length cap0)] <| wN ?_
 obtain ⟨r1, hr1, hm⟩ := bindE hm
 have hm1 := hm
 refine cW_cut (fun a' w' => Sum.inl (()) = r1 ∧ Fr 74 [] a' ∧ Chg [] w0 w') ?_ ?_
 ·refine cW_block ?_
  refine cW_loop _ (fun (s1 : Int) a' w' => ∃ x1 : Int, x1 = s1 ∧ Fr 74 [(0, .slice A0 l0.length cap0), (3, pt b1), (11, ii (l0.length : Int)), (12, ii x1)] a' ∧ SlR 1 encI w' fp0 A0 l0 ∧ Cl w' b1 3 [ii y1] ∧ Chg [] w0 w') hr1 (fun hst => ⟨0, rfl, fO hst, F0, F2, hB⟩) ?_
  rintro _ c1 a' w4 ⟨x1, rfl, hF1, F3, F4, hB⟩ hx1
  refine gO hF1 ?_
  have hm := hx1
  unfold m_iGraphRing_s3 at hm
  refine sR <| wP 1 [(13, .bool (decide (x1 < ((l0.length : Int)))))] <| wN <| cW_seq <| cC (decide (x1 < ((l0.length : Int)))) (fun hb1 => ?_) (fun hb1 => ?_)
  ·have hm := condT hb1 hm
   refine cW_skip <| eX_then <| cW_seq <| cW_block <| sR <| wP 1 [(14, ii x1)] <| wS_alloc (d := 4) (T := 3) (z := ii 0) (by kernel_rfl) (by kernel_rfl) ?_
   intro b2 w5 G2 F5 hc4
   replace F5 : Cl w5 b2 3 [ii 0] := F5
   have D1 := Dj.of (lt1 F4.lt) (low1 G2)
   replace F3 := F3.c hc4
   replace F4 := F4.c hc4
   replace G2 := Nat.le_trans hB.size G2
   replace hB := hB.q hc4
   refine wS_store (T := 3) (g := b2) (o := 0) (ad := ⟨b2, 0, none⟩) (v := ii x1) (vs := [ii x1]) (by kernel_rfl) (by rfl) sz3 (by rfl) (by rfl) F5 (bl rfl) ?_
   intro w6 F6 hc5
   replace F3 := F3.chg hc5 (Dj.of L0 (low1 G2))
   replace F4 := F4.chg hc5 (dj1 D1)
   replace hB := hB.inS hc5 (inLow (low1 G2))
   replace F6 : Cl w6 b2 3 [ii x1] := F6
   clear F5
   refine wN <| sR <| wP 1 [(15, .slice A0 l0.length cap0)] <| sL 16 ⟨b2, 0, none⟩ (ii x1) vt3 ((F6).cell 0) ?_
   obtain ⟨y2, hy2, hm⟩ := bindE hm
   refine sC 17 [.slice A0 l0.length cap0, ii x1] ent82 (c_iGraphBack hy2 F3) ?_
   rintro _ w7 ⟨A1, cap1, fp1, rfl, F7, G3, hc6⟩
   have D2 := Dj.of (lt1 F4.lt) G3
   have D3 := Dj.of (lt1 F6.lt) G3
   replace F3 := F3.c hc6
   replace F4 := F4.c hc6
   replace F6 := F6.c hc6
   replace G3 := low_le hB.size G3
   replace hB := hB.q hc6
   refine ⟨.slice A1 y2.length cap1, rfl, ?_⟩
   refine wS_alloc (d := 5) (T := 56) (z := .slice none 0 0) (by kernel_rfl) (by kernel_rfl) ?_
   intro b3 w8 G4 F8 hc7
   replace F8 : Cl w8 b3 56 [.slice none 0 0] := F8
   have D4 := Dj.of (lt1 F4.lt) (low1 G4)
   have D5 := Dj.of (lt1 F6.lt) (low1 G4)
   have D6 := Dj.of F7.low (low1 G4)
   replace F3 := F3.c hc7
   replace F4 := F4.c hc7
   replace F6 := F6.c hc7
   replace F7 := F7.c hc7
   replace G4 := Nat.le_trans hB.size G4
   replace hB := hB.q hc7
   refine wS_store (T := 56) (g := b3) (o := 0) (ad := ⟨b3, 0, none⟩) (v := .slice A1 y2.length cap1) (vs := [.slice A1 y2.length cap1]) (by kernel_rfl) (by rfl) sz56 (by rfl) (by rfl) F8 (bl rfl) ?_
   intro w9 F9 hc8
   replace F3 := F3.chg hc8 (Dj.of L0 (low1 G4))
   replace F4 := F4.chg hc8 (dj1 D4)
   replace F6 := F6.chg hc8 (dj1 D5)
   replace F7 := F7.chg hc8 D6
   replace hB := hB.inS hc8 (inLow (low1 G4))
   replace F9 : Cl w9 b3 56 [.slice A1 y2.length cap1] := F9
   clear F8
   refine wN <| sR <| sL 18 ⟨b2, 0, none⟩ (ii x1) vt3 ((F6).cell 0) <| wS_bs (enc := encI) ([x1] : List Int) [ii x1] (d := 19) (t := 56) (T := 3) (n := 1) (ps := [(0, ii x1)]) (by kernel_rfl) el56 encI_ok (by rfl) (by omega) (by omega) (by kernel_rfl) (by rfl) ?_
   intro b4 w10 G5 F10 hc9
   have D7 := Dj.of (lt1 F4.lt) (low1 G5)
   have D8 := Dj.of (lt1 F6.lt) (low1 G5)
   have D9 := Dj.of F7.low (low1 G5)
   have D10 := Dj.of (lt1 F9.lt) (low1 G5)
   replace F3 := F3.c hc9
   replace F4 := F4.c hc9
   replace F6 := F6.c hc9
   replace F7 := F7.c hc9
   replace F9 := F9.c hc9
   replace G5 := Nat.le_trans hB.size G5
   replace G5 := low1 G5
   replace hB := hB.q hc9
   refine wS_alloc (d := 6) (T := 56) (z := .slice none 0 0) (by kernel_rfl) (by kernel_rfl) ?_
   intro b5 w11 G6 F11 hc10
   replace F11 : Cl w11 b5 56 [.slice none 0 0] := F11
   have D11 := Dj.of (lt1 F4.lt) (low1 G6)
   have D12 := Dj.of (lt1 F6.lt) (low1 G6)
   have D13 := Dj.of F7.low (low1 G6)
   have D14 := Dj.of (lt1 F9.lt) (low1 G6)
   have D15 := Dj.of F10.low (low1 G6)
   replace F3 := F3.c hc10
   replace F4 := F4.c hc10
   replace F6 := F6.c hc10
   replace F7 := F7.c hc10
   replace F9 := F9.c hc10
   replace F10 := F10.c hc10
   replace G6 := Nat.le_trans hB.size G6
   replace hB := hB.q hc10
   refine wS_store (T := 56) (g := b5) (o := 0) (ad := ⟨b5, 0, none⟩) (v := .slice (ad b4) (([x1] : List Int)).length 1) (vs := [.slice (ad b4) (([x1] : List Int)).length 1]) (by kernel_rfl) (by rfl) sz56 (by rfl) (by rfl) F11 (bl rfl) ?_
   intro w12 F12 hc11
   replace F3 := F3.chg hc11 (Dj.of L0 (low1 G6))
   replace F4 := F4.chg hc11 (dj1 D11)
   replace F6 := F6.chg hc11 (dj1 D12)
   replace F7 := F7.chg hc11 D13
   replace F9 := F9.chg hc11 (dj1 D14)
   replace F10 := F10.chg hc11 D15
   replace hB := hB.inS hc11 (inLow (low1 G6))
   replace F12 : Cl w12 b5 56 [.slice (ad b4) (([x1] : List Int)).length 1] := F12
   clear F11
   refine wN <| cW_seq ?_
   obtain ⟨r2, hr2, hm⟩ := bindE hm
   have hm2 := hm
   refine cW_cut (fun a' w' => ∃ l1 : List Int, ∃ A3 : Option Addr, ∃ cap3 : Nat, ∃ fp2 : List Nat, l1 = r2 ∧ Fr 74 [(0, .slice A0 l0.length cap0), (3, pt b1), (4, pt b2), (6, pt b5), (11, ii (l0.length : Int)), (12, ii x1)] a' ∧ SlR 1 encI w' fp0 A0 l0 ∧ Cl w' b1 3 [ii y1] ∧ Cl w' b2 3 [ii x1] ∧ Cl w' b5 56 [.slice A3 l1.length cap3] ∧ O1 3 w' fp2 A3 cap3 l1 ∧ (∀ x ∈ fp2, w0.heap.size ≤ x) ∧ Dj [b1] fp2 ∧ Dj [b2] fp2 ∧ Dj [b5] fp2 ∧ Chg [] w0 w') ?_ ?_
   ·refine cW_block ?_
    refine cW_loop _ (fun (s2 : (List Int)) a' w' => ∃ l3 : List Int, ∃ A4 : Option Addr, ∃ cap4 : Nat, ∃ fp3 : List Nat, l3 = s2 ∧ Fr 74 [(0, .slice A0 l0.length cap0), (3, pt b1), (4, pt b2), (5, pt b3), (6, pt b5), (11, ii (l0.length : Int)), (12, ii x1)] a' ∧ SlR 1 encI w' fp0 A0 l0 ∧ Cl w' b1 3 [ii y1] ∧ Cl w' b2 3 [ii x1] ∧ O1 3 w' fp1 A1 cap1 y2 ∧ Cl w' b3 56 [.slice A1 y2.length cap1] ∧ Cl w' b5 56 [.slice A4 l3.length cap4] ∧ O1 3 w' fp3 A4 cap4 l3 ∧ (∀ x ∈ fp3, w0.heap.size ≤ x) ∧ Dj [b1] fp3 ∧ Dj [b2] fp3 ∧ Dj fp1 fp3 ∧ Dj [b3] fp3 ∧ Dj [b5] fp3 ∧ Chg [] w0 w') hr2 (fun hst => ⟨([x1] : List Int), (ad b4), 1, [b4], rfl, fO hst, F3, F4, F6, F7, F9, F12, F10, G5, D7, D8, D9, D10, (D15).symm, hB⟩) ?_
    rintro _ c2 a' w13 ⟨l3, A4, cap4, fp3, rfl, hF2, F13, F14, F15, F16, F17, F18, F19, G7, D16, D17, D18, D19, D20, hB⟩ hx2
    refine gO hF2 ?_
    have hm := hx2
    unfold m_iGraphRing_s4 at hm
    refine cW_seq <| sR <| sL 20 ⟨b5, 0, none⟩ (.slice A4 l3.length cap4) vt56 ((F18).cell 0) <| wP 1 [(21, ii (l3.length : Int))] <| sL 22 ⟨b1, 0, none⟩ (ii y1) vt3 ((F14).cell 0) <| wP 1 [(23, .bool (decide (((l3.length : Int)) < y1)))] <| wN <| cC (decide (((l3.length : Int)) < y1)) (fun hb2 => ?_) (fun hb2 => ?_)
    ·have hm := condT hb2 hm
     refine cW_skip <| eX_then <| cW_block <| sR <| wP 1 [(24, .slice A0 l0.length cap0)] <| sL 25 ⟨b5, 0, none⟩ (.slice A4 l3.length cap4) vt56 ((F18).cell 0) <| sL 26 ⟨b5, 0, none⟩ (.slice A4 l3.length cap4) vt56 ((F18).cell 0) <| wP 2 [(28, ii (wr (((l3.length : Int)) - 1))), (27, ii (l3.length : Int))] ?_
     obtain ⟨x2, hx3, hm⟩ := bindE hm
     refine sI 29 A4 l3.length cap4 .i64 (wr (((l3.length : Int)) - 1)) sl56 ((F19.sl encI_ok).is hx3) <| sL 30 (elA A4 1 (wr (((l3.length : Int)) - 1)) 0) (ii x2) vt3 (Sl.cell (F19.sl encI_ok) hx3 0 (by rfl)) ?_
     obtain ⟨x3, hx4, hm⟩ := bindE hm
     refine sI 31 A0 l0.length cap0 .i64 x2 sl64 (F13.is hx4) ?_
     obtain ⟨A5, cap5, hc12, F20, K1⟩ := SlR.row F13 hx4
     refine sL 32 (elA A0 1 (x2) 0) (.slice A5 x3.length cap5) vt56 hc12 <| wP 1 [(33, .func (.func 84) #[] #[pt b3, pt b1, pt b5, pt b2])] ?_
     obtain ⟨y3, hy3, hm⟩ := bindE hm
     refine sC 34 [.slice A5 x3.length cap5, .func (.func 84) #[] #[pt b3, pt b1, pt b5, pt b2]] ent83 (c_sIndexGraph hy3 F20 (F16.sl encI_ok) F17 F14 (F19.sl encI_ok) F18 F15) ?_
     rintro _ w14 ⟨rfl, hc13⟩
     replace F13 := F13.c hc13
     replace F14 := F14.c hc13
     replace F15 := F15.c hc13
     replace F16 := F16.c hc13
     replace F17 := F17.c hc13
     replace F18 := F18.c hc13
     replace F19 := F19.c hc13
     replace F20 := F20.c hc13
     replace hB := hB.q hc13
     refine ⟨ii y3, rfl, ?_⟩
     refine wP 1 [(7, ii y3)] <| wN <| cW_seq <| sR <| wP 2 [(36, .bool (decide (y3 < 0))), (35, ii y3)] <| wN <| cP [(0, .slice A0 l0.length cap0), (3, pt b1), (4, pt b2), (5, pt b3), (6, pt b5), (7, ii y3), (11, ii (l0.length : Int)), (12, ii x1), (36, .bool (decide (y3 < 0)))] (fun a1 => ?_)
     refine cC (decide (y3 < 0)) (fun hb3 => ?_) (fun hb3 => ?_)
     ·have hm := condT hb3 hm
      refine cW_exit <| eX_then_exit <| eX_block_miss (by rfl) ?_
      obtain rfl := someE (x := Ctl.out l3) hm
      refine eX_outX hx2 (fun hr3 => ?_)
      replace hr3 := hr3.symm
      subst hr3
      refine eX_block_hit ?_
      exact eX_J (fun hst => ⟨l3, A4, cap4, fp3, rfl, fO hst, F13, F14, F15, F18, F19, G7, D16, D17, D20, hB⟩)
     have hm := condF hb3 hm
     refine cW_skip <| eX_then <| cW_drawnTail [] 14 (by kernel_rfl) (by kernel_rfl) (fun w15 hc14 => ?_)
     replace F13 := F13.c hc14
     replace F14 := F14.c hc14
     replace F15 := F15.c hc14
     replace F16 := F16.c hc14
     replace F17 := F17.c hc14
     replace F18 := F18.c hc14
     replace F19 := F19.c hc14
     replace F20 := F20.c hc14
     replace hB := hB.q hc14
     have hS := Chg.refl [] w15
     have Z1 := F13
     have Z2 := F14
     have Z3 := F15
     have Z4 := F16
     have Z5 := F17
     have Z6 := F18
     have Z7 := F19
     have Z8 := F20
     refine hL 0 37 ⟨b5, 0, none⟩ (.slice A4 l3.length cap4) vt56 (fun W hW => (Z6.c hW).cell 0) ?_
     refine hT [1] [(38, .slice A0 l0.length cap0)] <| hL 2 39 ⟨b5, 0, none⟩ (.slice A4 l3.length cap4) vt56 (fun W hW => (Z6.c hW).cell 0) ?_
     refine hL 3 40 ⟨b5, 0, none⟩ (.slice A4 l3.length cap4) vt56 (fun W hW => (Z6.c hW).cell 0) ?_
     refine hT [4, 5] [(42, ii (wr (((l3.length : Int)) - 1))), (41, ii (l3.length : Int))] ?_
     obtain ⟨x4, hx5, hm⟩ := bindE hm
     refine hI 6 43 A4 l3.length cap4 .i64 (wr (((l3.length : Int)) - 1)) sl56 ((F19.sl encI_ok).is hx5) <| hL 7 44 (elA A4 1 (wr (((l3.length : Int)) - 1)) 0) (ii x4) vt3 (fun W hW => Sl.cell ((Z7.c hW).sl encI_ok) hx5 0 (by rfl)) ?_
     obtain ⟨x5, hx6, hm⟩ := bindE hm
     refine hI 8 45 A0 l0.length cap0 .i64 x4 sl64 (F13.is hx6) ?_
     obtain ⟨A6, cap6, hc15, F21, K2⟩ := SlR.row Z1 hx6
     refine hL 9 46 (elA A0 1 (x4) 0) (.slice A6 x5.length cap6) vt56 (fun W hW => hW.keep hc15) ?_
     refine hT [10] [(47, ii y3)] ?_
     obtain ⟨x6, hx7, hm⟩ := bindE hm
     refine hI 11 48 A6 x5.length cap6 .i64 y3 sl56 (F21.is hx7) <| hL 12 49 (elA A6 1 (y3) 0) (ii x6) vt3 (fun W hW => Sl.cell (F21.c hW) hx7 0 (by rfl)) ?_
     refine wH_all [13] (by rfl) (by kernel_rfl) (by simp) ⟨⟨by kernel_rfl, ?_⟩, trivial⟩
     refine wS_bs (enc := encI) ([x6] : List Int) [ii x6] (d := 50) (t := 56) (T := 3) (n := 1) (ps := [(0, ii x6)]) (by kernel_rfl) el56 encI_ok (by rfl) (by omega) (by omega) (by kernel_rfl) (by rfl) ?_
     intro b6 w16 G8 F22 hc16
     have D21 := Dj.of (lt1 F14.lt) (low1 G8)
     have D22 := Dj.of (lt1 F15.lt) (low1 G8)
     have D23 := Dj.of F16.low (low1 G8)
     have D24 := Dj.of (lt1 F17.lt) (low1 G8)
     have D25 := Dj.of (lt1 F18.lt) (low1 G8)
     have D26 := Dj.of F19.low (low1 G8)
     replace F13 := F13.c hc16
     replace F14 := F14.c hc16
     replace F15 := F15.c hc16
     replace F16 := F16.c hc16
     replace F17 := F17.c hc16
     replace F18 := F18.c hc16
     replace F19 := F19.c hc16
     replace F20 := F20.c hc16
     replace F21 := F21.c hc16
     have hSz := hS
     replace hS := hS.inS hc16 inNil
     have Gz1 := low1 (Nat.le_trans hSz.size G8)
     replace G8 := Nat.le_trans hB.size G8
     replace G8 := low1 G8
     replace hB := hB.q hc16
     refine wS_end (by kernel_rfl) <| eX_KH hS <| wD <| eX_tail ?_
     obtain ⟨_, hk1, hm⟩ := bindE hm
     replace hk1 := apE hk1
     refine wS_append (enc := encI) (l := (l3 : List Int)) (l2 := (([x6] : List Int) : List Int)) (d := 51) (t := 56) (T := 3) (A := A4) (A2 := (ad b6)) (cap := cap4) (cap2 := 1) (by kernel_rfl) el56 encI_ok F19 (F22.sl encI_ok) (by rfl) hk1 ?_
     intro w17 fp4 A7 cap7 F23 hc17 hp1
     have G9 := low_ap G7 hB.size hp1
     have D27 : Dj [b1] fp4 := Dj.ap D16 (lt1 F14.lt) hp1
     have D28 : Dj [b2] fp4 := Dj.ap D17 (lt1 F15.lt) hp1
     have D29 : Dj fp1 fp4 := Dj.ap D18 F16.low hp1
     have D30 : Dj [b3] fp4 := Dj.ap D19 (lt1 F17.lt) hp1
     have D31 : Dj [b5] fp4 := Dj.ap D20 (lt1 F18.lt) hp1
     have D32 : Dj [b6] fp4 := Dj.ap (D26).symm F22.low hp1
     replace F13 := F13.chg hc17 (Dj.of L0 G7)
     replace F14 := F14.chg hc17 (dj1 D16)
     replace F15 := F15.chg hc17 (dj1 D17)
     replace F16 := F16.chg hc17 D18
     replace F17 := F17.chg hc17 (dj1 D19)
     replace F18 := F18.chg hc17 (dj1 D20)
     replace F20 := F20.chg hc17 (Dj.of L0 G7)
     replace F21 := F21.chg hc17 (Dj.of L0 G7)
     replace F22 := F22.chg hc17 (D26).symm
     replace hB := hB.inS hc17 (inLow G7)
     refine wS_store (T := 56) (g := b5) (o := 0) (ad := ⟨b5, 0, none⟩) (v := .slice A7 (l3 ++ (([x6] : List Int))).length cap7) (vs := [.slice A7 (l3 ++ (([x6] : List Int))).length cap7]) (by kernel_rfl) (by rfl) sz56 (by rfl) (by rfl) F18 (bl rfl) ?_
     intro w18 F24 hc18
     replace F13 := F13.chg hc18 (Dj.of L0 (low1 G6))
     replace F14 := F14.chg hc18 (dj1 D11)
     replace F15 := F15.chg hc18 (dj1 D12)
     replace F16 := F16.chg hc18 D13
     replace F17 := F17.chg hc18 (dj1 D14)
     replace F20 := F20.chg hc18 (Dj.of L0 (low1 G6))
     replace F21 := F21.chg hc18 (Dj.of L0 (low1 G6))
     replace F22 := F22.chg hc18 (D25).symm
     replace F23 := F23.chg hc18 (D31).symm
     replace hB := hB.inS hc18 (inLow (low1 G6))
     replace F24 : Cl w18 b5 56 [.slice A7 (l3 ++ (([x6] : List Int))).length cap7] := F24
     clear F18
     refine wE <| eX_block ?_
     obtain rfl := someE (x := (Ctl.next (l3 ++ (([x6] : List Int))))) hm
     exact eX_next hx2 (fun hst => ⟨l3 ++ (([x6] : List Int)), A7, cap7, fp4, rfl, fO hst, F13, F14, F15, F16, F17, F24, F23, G9, D27, D28, D29, D30, D31, hB⟩)
    have hm := condF hb2 hm
    refine cW_exit <| eX_then_exit ?_
    obtain rfl := someE (x := Ctl.out l3) hm
    refine eX_outX hx2 (fun hr4 => ?_)
    replace hr4 := hr4.symm
    subst hr4
    refine eX_block_hit ?_
    exact eX_J (fun hst => ⟨l3, A4, cap4, fp3, rfl, fO hst, F13, F14, F15, F18, F19, G7, D16, D17, D20, hB⟩)
   rintro a' w19 ⟨l1, A3, cap3, fp2, hJ, hF3, F25, F26, F27, F28, F29, G10, D33, D34, D35, hB⟩
   subst hJ
   refine gX hF3 <| eX_then <| cW_seq <| cW_drawnTail [] 18 (by kernel_rfl) (by kernel_rfl) (fun w20 hc19 => ?_)
   replace F25 := F25.c hc19
   replace F26 := F26.c hc19
   replace F27 := F27.c hc19
   replace F28 := F28.c hc19
   replace F29 := F29.c hc19
   replace hB := hB.q hc19
   have hS := Chg.refl [] w20
   have Z9 := F25
   have Z10 := F26
   have Z11 := F27
   have Z12 := F28
   have Z13 := F29
   refine hL 0 52 ⟨b5, 0, none⟩ (.slice A3 l1.length cap3) vt56 (fun W hW => (Z12.c hW).cell 0) ?_
   refine hT [1] [(53, ii (l1.length : Int))] <| hL 2 54 ⟨b1, 0, none⟩ (ii y1) vt3 (fun W hW => (Z10.c hW).cell 0) ?_
   refine hT [3, 4] [(56, .bool (((l1.length : Int)) == y1)), (55, .bool (((l1.length : Int)) == y1))] <| wH_bool (((l1.length : Int)) == y1) (fun hb4 => ?_) (fun hb4 => ?_)
   ·have hm := condT hb4 hm
    rewrite [hb4]
    refine hL 5 57 ⟨b1, 0, none⟩ (ii y1) vt3 (fun W hW => (Z10.c hW).cell 0) ?_
    refine hT [6, 7, 8] [(60, .bool (decide (y1 > 0))), (59, .bool (decide (y1 > 0))), (58, .bool (decide (y1 > 0)))] <| wH_bool (decide (y1 > 0)) (fun hb5 => ?_) (fun hb5 => ?_)
    ·have hm := condT hb5 hm
     rewrite [hb5]
     refine hT [9] [(61, .slice A0 l0.length cap0)] <| hL 10 62 ⟨b5, 0, none⟩ (.slice A3 l1.length cap3) vt56 (fun W hW => (Z12.c hW).cell 0) ?_
     refine hL 11 63 ⟨b1, 0, none⟩ (ii y1) vt3 (fun W hW => (Z10.c hW).cell 0) ?_
     refine hT [12] [(64, ii (wr (y1 - 1)))] ?_
     obtain ⟨x7, hx8, hm⟩ := bindE hm
     refine hI 13 65 A3 l1.length cap3 .i64 (wr (y1 - 1)) sl56 ((F29.sl encI_ok).is hx8) <| hL 14 66 (elA A3 1 (wr (y1 - 1)) 0) (ii x7) vt3 (fun W hW => Sl.cell ((Z13.c hW).sl encI_ok) hx8 0 (by rfl)) ?_
     obtain ⟨x8, hx9, hm⟩ := bindE hm
     refine hI 15 67 A0 l0.length cap0 .i64 x7 sl64 (F25.is hx9) ?_
     obtain ⟨A8, cap8, hc20, F30, K3⟩ := SlR.row Z9 hx9
     refine hL 16 68 (elA A0 1 (x7) 0) (.slice A8 x8.length cap8) vt56 (fun W hW => hW.keep hc20) ?_
     refine hL 17 69 ⟨b2, 0, none⟩ (ii x1) vt3 (fun W hW => (Z11.c hW).cell 0) ?_
     refine wD <| eX_tail ?_
     obtain ⟨y4, hy4, hm⟩ := bindE hm
     refine sC 70 [.slice A8 x8.length cap8, ii x1] ent85 (c_sConta1 hy4 F30) ?_
     rintro _ w21 ⟨rfl, hc21⟩
     replace F25 := F25.c hc21
     replace F26 := F26.c hc21
     replace F27 := F27.c hc21
     replace F28 := F28.c hc21
     replace F29 := F29.c hc21
     replace F30 := F30.c hc21
     replace hB := hB.q hc21
     refine ⟨.bool (y4), rfl, ?_⟩
     refine wP 1 [(71, .bool (y4))] <| wN <| cP [(0, .slice A0 l0.length cap0), (3, pt b1), (6, pt b5), (11, ii (l0.length : Int)), (12, ii x1), (71, .bool (y4))] (fun a2 => ?_)
     refine cC y4 (fun hb6 => ?_) (fun hb6 => ?_)
     ·have hm := condT hb6 hm
      refine sR <| sL 72 ⟨b5, 0, none⟩ (.slice A3 l1.length cap3) vt56 ((F28).cell 0) <| wP 1 [(2, .slice A3 l1.length cap3)] <| wN <| cW_ret <| eX_block_ret <| eX_then_ret ?_
      obtain rfl := someE (x := Ctl.out (Sum.inr l1)) hm
      refine eX_outR hx1 (fun hr => ?_)
      subst hr
      refine eX_block_ret <| eX_then_ret <| eX_then_ret ?_
      obtain rfl := someE (x := l1) hm1
      refine rA (.slice A3 l1.length cap3) 2 ?_
      exact ⟨A3, cap3, fp2, rfl, F29, G10, hB⟩
     have hm := condF hb6 hm
     refine cW_skip <| eX_block <| eX_then <| cW_region <| wP 2 [(12, ii (wr (x1 + 1))), (73, ii (wr (x1 + 1)))] <| wE ?_
     obtain rfl := someE (x := Ctl.next (wr (x1 + 1))) hm
     exact eX_next hx1 (fun hst => ⟨wr (x1 + 1), rfl, fO hst, F25, F26, hB⟩)
    have hm := condF hb5 hm
    rewrite [hb5]
    refine hT [9, 10, 11, 12, 13, 14, 15, 16, 17] [(69, undef), (68, undef), (67, undef), (66, undef), (65, undef), (64, undef), (63, undef), (62, undef), (61, undef)] <| wD <| eX_tail <| wP 2 [(71, .bool (false)), (70, undef)] <| wN <| cP [(0, .slice A0 l0.length cap0), (3, pt b1), (6, pt b5), (11, ii (l0.length : Int)), (12, ii x1), (71, .bool (false))] (fun a3 => ?_)
    refine cCf <| cW_skip <| eX_block <| eX_then <| cW_region <| wP 2 [(12, ii (wr (x1 + 1))), (73, ii (wr (x1 + 1)))] <| wE ?_
    obtain rfl := someE (x := Ctl.next (wr (x1 + 1))) hm
    exact eX_next hx1 (fun hst => ⟨wr (x1 + 1), rfl, fO hst, F25, F26, hB⟩)
   have hm := condF hb4 hm
   rewrite [hb4]
   refine hT [5, 6, 7, 8, 9, 10, 11, 12, 13, 14, 15, 16, 17] [(69, undef), (68, undef), (67, undef), (66, undef), (65, undef), (64, undef), (63, undef), (62, undef), (61, undef), (60, .bool (false)), (59, .bool (false)), (58, undef), (57, undef)] <| wD <| eX_tail <| wP 2 [(71, .bool (false)), (70, undef)] <| wN <| cP [(0, .slice A0 l0.length cap0), (3, pt b1), (6, pt b5), (11, ii (l0.length : Int)), (12, ii x1), (71, .bool (false))] (fun a4 => ?_)
   refine cCf <| cW_skip <| eX_block <| eX_then <| cW_region <| wP 2 [(12, ii (wr (x1 + 1))), (73, ii (wr (x1 + 1)))] <| wE ?_
   obtain rfl := someE (x := Ctl.next (wr (x1 + 1))) hm
   exact eX_next hx1 (fun hst => ⟨wr (x1 + 1), rfl, fO hst, F25, F26, hB⟩)
  have hm := condF hb1 hm
  refine cW_exit <| eX_then_exit ?_
  obtain rfl := someE (x := Ctl.out (Sum.inl (()))) hm
  refine eX_outX hx1 (fun hr5 => ?_)
  replace hr5 := hr5.symm
  subst hr5
  refine eX_block_hit ?_
  exact eX_J (fun hst => ⟨rfl, fO hst, hB⟩)
 rintro a' w22 ⟨hJ, hF4, hB⟩
 subst hJ
 refine gX hF4 <| eX_then <| sR <| wP 1 [(2, .slice none 0 0)] <| wN <| cW_ret ?_
 obtain rfl := someE (x := []) hm
 refine rA (.slice none 0 0) 2 ?_
 exact ⟨none, 0, [], rfl, Ow.nil _, lowNil, hB⟩

set_option maxRecDepth 100000 in
theorem c_iChannAbove {w0 l0_0 A0_0 cap0_0 fp0_0 l0_1 A0_1 cap0_1 fp0_1 b0} {r : (List (List Int))} (hm : m_iChannAbove l0_0 l0_1 = some r) (F0_0 : S1 w0 fp0_0 A0_0 l0_0) (F0_1 : S1 w0 fp0_1 A0_1 l0_1) (F0 : Cl w0 b0 26 [.slice A0_0 l0_0.length cap0_0, .slice A0_1 l0_1.length cap0_1]) :
  Calls Tryd.prog 42 #[pt b0] w0 fun e w' => ∃ A100 cap100 fp100 fr100, e = .returned (.slice A100 r.length cap100) ∧ OwR 1 encI 56 3 w' fp100 fr100 A100 cap100 r ∧ (∀ x ∈ fp100 ++ fr100, w0.heap.size ≤ x) ∧ Chg [] w0 w' := by
 have L0_0 := F0_0.low
 have L0_1 := F0_1.low
 have L0 := lt1 F0.lt
 have hB : Chg [] w0 w0 := Chg.refl _ _
 unfold m_iChannAbove at hm
 refine enterE (N := 38) Tryd.func42 (by rfl) Tryd.ntmps42 (by simp) [(0, pt b0)] (by rfl) (by kernel_rfl) (fun a => ?_)
 refine sR <| wP 1 [(2, .slice none 0 0)] <| wN <| sR ?_
 obtain ⟨_, hk1, hm⟩ := bindE hm
 replace hk1 := mkE hk1
 refine wS_makeR (T2 := 3) (k := 1) (enc := encI) (d := 7) (t := 64) (T := 56) (k1 := .i64) (k2 := .i64) (m := 13) (by kernel_rfl) el64 hk1.1 hk1.2 ?_
 intro b1 w1 G1 F1 hc1
 replace F0_0 := F0_0.c hc1
 replace F0_1 := F0_1.c hc1
 replace F0 := F0.c hc1
 replace G1 := Nat.le_trans hB.size G1
 replace G1 := low1 G1
 replace hB := hB.q hc1
 replace G1 := lowApp G1 lowNil
 refine wP 1 [(3, .slice (ad b1) (List.replicate (Int.toNat 13) ([] : List Int)).length (Int.toNat 13))] <| wN <| sR <| wP 1 [(8, pt b0)] ?_
 obtain ⟨y1, hy1, hm⟩ := bindE hm
 refine sC 9 [pt b0] ent47 (c_iChannAbove1 hy1 F0_0 F0_1 F0) ?_
 rintro _ w2 ⟨b2, rfl, F2, G2, hc2⟩
 have D1 := Dj.of F1.low G2
 replace F0_0 := F0_0.c hc2
 replace F0_1 := F0_1.c hc2
 replace F0 := F0.c hc2
 replace F1 := F1.c hc2
 replace G2 := low_le hB.size G2
 replace hB := hB.q hc2
 refine ⟨.map (some b2), rfl, ?_⟩
 refine wP 1 [(4, .map (some b2))] <| wN <| cW_seq <| sR <| wP 3 [(12, ii 0), (11, ii (((List.replicate (Int.toNat 13) ([] : List Int)).length : Int))), (10, .slice (ad b1) (List.replicate (Int.toNat 13) ([] : List Int)).length (Int.toNat 13))] <| wN ?_
 obtain ⟨r1, hr1, hm⟩ := bindE hm
 have hm1 := hm
 refine cW_cut (fun a' w' => ∃ l1 : List (List Int), ∃ A1 : Option Addr, ∃ cap1 : Nat, ∃ fp1 : List Nat, ∃ fr1 : List Nat, l1 = r1 ∧ Fr 38 [(3, .slice A1 l1.length cap1)] a' ∧ OwR 1 encI 56 3 w' fp1 fr1 A1 cap1 l1 ∧ (∀ x ∈ (fp1 ++ fr1), w0.heap.size ≤ x) ∧ Chg [] w0 w') ?_ ?_
 ·refine cW_block ?_
  refine cW_loop _ (fun (s1 : (List (List Int)) × Int) a' w' => ∃ l3 : List (List Int), ∃ A3 : Option Addr, ∃ cap3 : Nat, ∃ fp2 : List Nat, ∃ fr2 : List Nat, ∃ x1 : Int, (l3, x1) = s1 ∧ Fr 38 [(3, .slice A3 l3.length cap3), (4, .map (some b2)), (11, ii (((List.replicate (Int.toNat 13) ([] : List Int)).length : Int))), (12, ii x1)] a' ∧ Mp okII ekII vB w' b2 y1 ∧ OwR 1 encI 56 3 w' fp2 fr2 A3 cap3 l3 ∧ (∀ x ∈ (fp2 ++ fr2), w0.heap.size ≤ x) ∧ Dj [b2] (fp2 ++ fr2) ∧ Chg [] w0 w') hr1 (fun hst => ⟨List.replicate (Int.toNat 13) ([] : List Int), (ad b1), (Int.toNat 13), [b1], [], 0, rfl, fO hst, F2, F1, G1, (D1).symm, hB⟩) ?_
  rintro _ c1 a' w3 ⟨l3, A3, cap3, fp2, fr2, x1, rfl, hF1, F3, F4, G3, D2, hB⟩ hx1
  refine gO hF1 ?_
  have hm := hx1
  unfold m_iChannAbove_s3 at hm
  refine sR <| wP 1 [(13, .bool (decide (x1 < (((List.replicate (Int.toNat 13) ([] : List Int)).length : Int)))))] <| wN <| cW_seq <| cC (decide (x1 < (((List.replicate (Int.toNat 13) ([] : List Int)).length : Int)))) (fun hb1 => ?_) (fun hb1 => ?_)
  ·have hm := condT hb1 hm
   refine cW_skip <| eX_then <| cW_seq <| cW_block <| sR <| wP 2 [(5, ii x1), (14, ii x1)] <| wN <| sR <| wP 3 [(17, ii 0), (16, ii (l3.length : Int)), (15, .slice A3 l3.length cap3)] <| wN ?_
   obtain ⟨r2, hr2, hm⟩ := bindE hm
   have hm2 := hm
   refine cW_cut (fun a' w' => ∃ l4 : List (List Int), ∃ A4 : Option Addr, ∃ cap4 : Nat, ∃ fp3 : List Nat, ∃ fr3 : List Nat, l4 = r2 ∧ Fr 38 [(3, .slice A4 l4.length cap4), (4, .map (some b2)), (11, ii (((List.replicate (Int.toNat 13) ([] : List Int)).length : Int))), (12, ii x1)] a' ∧ Mp okII ekII vB w' b2 y1 ∧ OwR 1 encI 56 3 w' fp3 fr3 A4 cap4 l4 ∧ (∀ x ∈ (fp3 ++ fr3), w0.heap.size ≤ x) ∧ Dj [b2] (fp3 ++ fr3) ∧ Chg [] w0 w') ?_ ?_
   ·refine cW_block ?_
    refine cW_loop _ (fun (s2 : (List (List Int)) × Int) a' w' => ∃ l5 : List (List Int), ∃ A5 : Option Addr, ∃ cap5 : Nat, ∃ fp4 : List Nat, ∃ fr4 : List Nat, ∃ x2 : Int, (l5, x2) = s2 ∧ Fr 38 [(3, .slice A5 l5.length cap5), (4, .map (some b2)), (5, ii x1), (11, ii (((List.replicate (Int.toNat 13) ([] : List Int)).length : Int))), (12, ii x1), (16, ii (l3.length : Int)), (17, ii x2)] a' ∧ Mp okII ekII vB w' b2 y1 ∧ OwR 1 encI 56 3 w' fp4 fr4 A5 cap5 l5 ∧ (∀ x ∈ (fp4 ++ fr4), w0.heap.size ≤ x) ∧ Dj [b2] (fp4 ++ fr4) ∧ Chg [] w0 w') hr2 (fun hst => ⟨l3, A3, cap3, fp2, fr2, 0, rfl, fO hst, F3, F4, G3, D2, hB⟩) ?_
    rintro _ c2 a' w4 ⟨l5, A5, cap5, fp4, fr4, x2, rfl, hF2, F5, F6, G4, D3, hB⟩ hx2
    refine gO hF2 ?_
    have hm := hx2
    unfold m_iChannAbove_s4 at hm
    refine sR <| wP 1 [(18, .bool (decide (x2 < ((l3.length : Int)))))] <| wN <| cW_seq <| cC (decide (x2 < ((l3.length : Int)))) (fun hb2 => ?_) (fun hb2 => ?_)
    ·have hm := condT hb2 hm
     refine cW_skip <| eX_then <| cW_seq <| cW_block ?_
     obtain ⟨s3, hs1, hm⟩ := bindE hm
     refine cW_cut (fun a' w' => ∃ l6 : List (List Int), ∃ A6 : Option Addr, ∃ cap6 : Nat, ∃ fp5 : List Nat, ∃ fr5 : List Nat, l6 = s3 ∧ Fr 38 [(3, .slice A6 l6.length cap6), (4, .map (some b2)), (5, ii x1), (11, ii (((List.replicate (Int.toNat 13) ([] : List Int)).length : Int))), (12, ii x1), (16, ii (l3.length : Int)), (17, ii x2)] a' ∧ Mp okII ekII vB w' b2 y1 ∧ OwR 1 encI 56 3 w' fp5 fr5 A6 cap6 l6 ∧ (∀ x ∈ (fp5 ++ fr5), w0.heap.size ≤ x) ∧ Dj [b2] (fp5 ++ fr5) ∧ Chg [] w0 w') ?_ ?_
     ·have hm := hs1
      refine sR <| wP 2 [(6, ii x2), (19, ii x2)] <| wN <| sR <| wP 4 [(23, .agg #[ii x1, ii x2]), (22, ii x2), (21, ii x1), (20, .map (some b2))] ?_
      obtain ⟨y2, hy2, hm⟩ := bindE hm
      refine wS_look (k := (x1, x2)) (d := 24) (T := 69) (by kernel_rfl) mk69 mp69 F5 hy2 <| wN <| cC y2 (fun hb3 => ?_) (fun hb3 => ?_)
      ·have hm := condT hb3 hm
       refine cW_region <| wP 4 [(28, ii x1), (27, .slice A5 l5.length cap5), (26, ii x1), (25, .slice A5 l5.length cap5)] ?_
       obtain ⟨x3, hx3, hm⟩ := bindE hm
       refine sI 29 A5 l5.length cap5 .i64 x1 sl64 ((F6.slr encI_ok).is hx3) ?_
       obtain ⟨A7, cap7, hc3, F7, K1⟩ := OwR.row F6 encI_ok hx3
       have G5 := low_inr G4
       have Dm1 := (F6.dj).symm
       refine sL 30 (elA A5 1 (x1) 0) (.slice A7 x3.length cap7) vt56 hc3 <| wP 1 [(31, ii x2)] <| wS_bs (enc := encI) ([x2] : List Int) [ii x2] (d := 32) (t := 56) (T := 3) (n := 1) (ps := [(0, ii x2)]) (by kernel_rfl) el56 encI_ok (by rfl) (by omega) (by omega) (by kernel_rfl) (by rfl) ?_
       intro b3 w5 G6 F8 hc4
       have D4 := Dj.of F5.low (low1 G6)
       have D5 := Dj.of F6.low (low1 G6)
       have D6 := Dj.of F7.low (low1 G6)
       replace F5 := F5.c hc4
       replace F6 := F6.c hc4
       replace F7 := F7.c hc4
       have hc5 := hc4.keep hc3
       replace G6 := Nat.le_trans hB.size G6
       replace G6 := low1 G6
       replace hB := hB.q hc4
       obtain ⟨_, hk2, hm⟩ := bindE hm
       replace hk2 := apE hk2
       refine wS_appH (k := 1) (enc := encI) (ll := l5) (l := (x3 : List Int)) (l2 := (([x2] : List Int) : List Int)) (d := 33) (t := 56) (T2 := 3) (U := 56) (m := x1) (A := A5) (B := A7) (A2 := (ad b3)) (cap := cap5) (c := cap7) (cap2 := 1) (by kernel_rfl) el56 encI_ok F6 hx3 hc5 (F8.sl encI_ok) hk2 ?_
       intro w6 fp6 A8 cap8 F9 hc6 hp1
       have D7 : Dj [b2] (fp4 ++ (fr4 ++ fp6)) := Dj.app (Dj.inl D3) (Dj.app (Dj.inr D3) (Dj.ap (Dj.inr D3) F5.low hp1))
       have D8 : Dj [b3] (fp4 ++ (fr4 ++ fp6)) := Dj.app (Dj.inl (D5).symm) (Dj.app (Dj.inr (D5).symm) (Dj.ap (Dj.inr (D5).symm) F8.low hp1))
       have G7 := lowApp (low_inl G4) (lowApp (low_inr G4) (low_ap (low_inr G4) hB.size hp1))
       replace F5 := F5.chg hc6 (Dj.inr D3)
       replace F8 := F8.chg hc6 (Dj.inr (D5).symm)
       replace hB := hB.inS hc6 (memS_inr (inLow G4))
       refine sI 34 A5 l5.length cap5 .i64 x1 sl64 (by have h_ := F9.at; rw [List.length_set] at h_; exact h_) <| wS_storeH (k := 1) (enc := encI) (ll := l5.set (Int.toNat x1) (x3 ++ (([x2] : List Int)))) (T := 56) (U := 56) (T2 := 3) (cap := cap5) (c := cap8) (n := (x3 ++ (([x2] : List Int))).length) (A := A5) (B := A8) (m := x1) (by kernel_rfl) sz56 F9 ?_
       intro w7 F10 hc7
       replace F5 := F5.chg hc7 (Dj.inl D7)
       replace F8 := F8.chg hc7 (Dj.inl D8)
       replace hB := hB.inS hc7 (memS_inl (inLow G7))
       rewrite [show l5.length = (l5.set (Int.toNat x1) (x3 ++ (([x2] : List Int)))).length from (List.length_set ..).symm]
       refine wE ?_
       obtain rfl := someE (x := (l5.set (Int.toNat x1) (x3 ++ (([x2] : List Int))))) hm
       exact eX_J (fun hst => ⟨l5.set (Int.toNat x1) (x3 ++ (([x2] : List Int))), A5, cap5, fp4, (fr4 ++ fp6), rfl, fO hst, F5, F10, G7, D7, hB⟩)
      have hm := condF hb3 hm
      refine cW_skip ?_
      obtain rfl := someE (x := l5) hm
      exact eX_J (fun hst => ⟨l5, A5, cap5, fp4, fr4, rfl, fO hst, F5, F6, G4, D3, hB⟩)
     rintro a' w8 ⟨l6, A6, cap6, fp5, fr5, hJ, hF3, F11, F12, G8, D9, hB⟩
     subst hJ
     refine gX hF3 <| eX_block <| eX_then <| cW_region <| wP 2 [(17, ii (wr (x2 + 1))), (35, ii (wr (x2 + 1)))] <| wE ?_
     obtain rfl := someE (x := (Ctl.next ((l6, wr (x2 + 1))))) hm
     exact eX_next hx2 (fun hst => ⟨l6, A6, cap6, fp5, fr5, wr (x2 + 1), rfl, fO hst, F11, F12, G8, D9, hB⟩)
    have hm := condF hb2 hm
    refine cW_exit <| eX_then_exit ?_
    obtain rfl := someE (x := Ctl.out l5) hm
    refine eX_outX hx2 (fun hr3 => ?_)
    replace hr3 := hr3.symm
    subst hr3
    refine eX_block_hit ?_
    exact eX_J (fun hst => ⟨l5, A5, cap5, fp4, fr4, rfl, fO hst, F5, F6, G4, D3, hB⟩)
   rintro a' w9 ⟨l4, A4, cap4, fp3, fr3, hJ, hF4, F13, F14, G9, D10, hB⟩
   subst hJ
   refine gX hF4 <| eX_block <| eX_then <| cW_region <| wP 2 [(12, ii (wr (x1 + 1))), (36, ii (wr (x1 + 1)))] <| wE ?_
   obtain rfl := someE (x := (Ctl.next ((l4, wr (x1 + 1))))) hm
   exact eX_next hx1 (fun hst => ⟨l4, A4, cap4, fp3, fr3, wr (x1 + 1), rfl, fO hst, F13, F14, G9, D10, hB⟩)
  have hm := condF hb1 hm
  refine cW_exit <| eX_then_exit ?_
  obtain rfl := someE (x := Ctl.out l3) hm
  refine eX_outX hx1 (fun hr4 => ?_)
  replace hr4 := hr4.symm
  subst hr4
  refine eX_block_hit ?_
  exact eX_J (fun hst => ⟨l3, A3, cap3, fp2, fr2, rfl, fO hst, F4, G3, hB⟩)
 rintro a' w10 ⟨l1, A1, cap1, fp1, fr1, hJ, hF5, F15, G10, hB⟩
 subst hJ
 refine gX hF5 <| eX_then <| sR <| wP 2 [(2, .slice A1 l1.length cap1), (37, .slice A1 l1.length cap1)] <| wN <| cW_ret ?_
 obtain rfl := someE (x := l1) hm
 refine rA (.slice A1 l1.length cap1) 2 ?_
 exact ⟨A1, cap1, fp1, fr1, rfl, F15, G10, hB⟩

set_option maxRecDepth 100000 in
theorem c_impl_CycleOf {w0 l0_0 A0_0 cap0_0 fp0_0 l0_1 A0_1 cap0_1 fp0_1} {r : (List Int) × Bool} (hm : m_impl_CycleOf l0_0 l0_1 = some r) (F0_0 : S1 w0 fp0_0 A0_0 l0_0) (K0_0 : l0_0.length ≤ cap0_0) (F0_1 : S1 w0 fp0_1 A0_1 l0_1) (K0_1 : l0_1.length ≤ cap0_1) :
  Calls Tryd.prog 10 #[.agg #[.slice A0_0 l0_0.length cap0_0, .slice A0_1 l0_1.length cap0_1]] w0 fun e w' => ∃ A100 cap1 fp100, e = .returned (.tuple #[.slice A100 r.1.length cap1, .bool (r.2)]) ∧ O1 2 w' fp100 A100 cap1 r.1 ∧ (∀ x ∈ fp100, w0.heap.size ≤ x) ∧ Chg [] w0 w' := by
 have L0_0 := F0_0.low
 have L0_1 := F0_1.low
 have hB : Chg [] w0 w0 := Chg.refl _ _
 unfold m_impl_CycleOf at hm
 refine enterE (N := 27) Tryd.func10 (by rfl) Tryd.ntmps10 (by simp) [(0, .agg #[.slice A0_0 l0_0.length cap0_0, .slice A0_1 l0_1.length cap0_1])] (by rfl) (by kernel_rfl) (fun a => ?_)
 refine sR <| wS_box (d := 1) (T := 26) (x := .agg #[.slice A0_0 l0_0.length cap0_0, .slice A0_1 l0_1.length cap0_1]) (by kernel_rfl) ?_
 intro b1 w1 G1 F1 hc1
 replace F1 : Cl w1 b1 26 [.slice A0_0 l0_0.length cap0_0, .slice A0_1 l0_1.length cap0_1] := F1
 replace F0_0 := F0_0.c hc1
 replace F0_1 := F0_1.c hc1
 replace G1 := Nat.le_trans hB.size G1
 replace hB := hB.q hc1
 refine wP 2 [(3, .bool (false)), (2, .slice none 0 0)] <| wN <| cW_seq <| sR <| wS_loadA (d := 7) (T := 26) (ad := ⟨b1, 0, none⟩) (vs := [.slice A0_0 l0_0.length cap0_0, .slice A0_1 l0_1.length cap0_1]) (by kernel_rfl) vt26 (fun i u hu => box_cells F1 0 hu (by rfl)) ?_
 obtain ⟨y1, hy1, hm⟩ := bindE hm
 refine sC 8 [.agg #[.slice A0_0 l0_0.length cap0_0, .slice A0_1 l0_1.length cap0_1]] ent36 (c_iValid hy1 F0_0 K0_0 F0_1 K0_1) ?_
 rintro _ w2 ⟨rfl, hc2⟩
 replace F0_0 := F0_0.c hc2
 replace F0_1 := F0_1.c hc2
 replace F1 := F1.c hc2
 replace hB := hB.q hc2
 refine ⟨.bool (y1), rfl, ?_⟩
 refine wP 1 [(9, .bool (!y1))] <| wN <| cC (!y1) (fun hb1 => ?_) (fun hb1 => ?_)
 ·have hm := condT hb1 hm
  refine sR <| wP 2 [(3, .bool (false)), (2, .slice none 0 0)] <| wN <| cW_ret <| eX_then_ret ?_
  obtain rfl := someE (x := (([], false))) hm
  refine rB (.slice none 0 0) (.bool (false)) 2 3 ?_
  exact ⟨none, 0, [], rfl, Ow.nil _, lowNil, hB⟩
 have hm := condF hb1 hm
 refine cW_skip <| eX_then <| sR <| wS_bs0 (α := Int) (enc := encI) (d := 10) (t := 24) (T := 2) (by kernel_rfl) el24 ?_
 intro b2 w3 G2 F2 hc3
 have D1 := Dj.of (lt1 F1.lt) (low1 G2)
 replace F0_0 := F0_0.c hc3
 replace F0_1 := F0_1.c hc3
 replace F1 := F1.c hc3
 replace G2 := Nat.le_trans hB.size G2
 replace G2 := low1 G2
 replace hB := hB.q hc3
 refine wP 1 [(4, .slice (ad b2) (([] : List Int)).length 0)] <| wN <| cW_seq <| sR ?_
 obtain ⟨y2, hy2, hm⟩ := bindE hm
 refine sC 11 [pt b1] ent42 (c_iChannAbove hy2 F0_0 F0_1 F1) ?_
 rintro _ w4 ⟨A1, cap3, fp1, fr1, rfl, F3, G3, hc4⟩
 have D2 := Dj.of (lt1 F1.lt) G3
 have D3 := Dj.of F2.low G3
 replace F0_0 := F0_0.c hc4
 replace F0_1 := F0_1.c hc4
 replace F1 := F1.c hc4
 replace F2 := F2.c hc4
 replace G3 := low_le hB.size G3
 replace hB := hB.q hc4
 refine ⟨.slice A1 y2.length cap3, rfl, ?_⟩
 obtain ⟨y3, hy3, hm⟩ := bindE hm
 refine sC 12 [.slice A1 y2.length cap3] ent43 (c_iGraphRing hy3 (F3.slr encI_ok)) ?_
 rintro _ w5 ⟨A3, cap4, fp2, rfl, F4, G4, hc5⟩
 have D4 := Dj.of (lt1 F1.lt) G4
 have D5 := Dj.of F2.low G4
 have D6 := Dj.of F3.low G4
 replace F0_0 := F0_0.c hc5
 replace F0_1 := F0_1.c hc5
 replace F1 := F1.c hc5
 replace F2 := F2.c hc5
 replace F3 := F3.c hc5
 replace G4 := low_le hB.size G4
 replace hB := hB.q hc5
 refine ⟨.slice A3 y3.length cap4, rfl, ?_⟩
 refine wP 2 [(14, ii 0), (13, ii (y3.length : Int))] <| wN ?_
 obtain ⟨r1, hr1, hm⟩ := bindE hm
 have hm1 := hm
 refine cW_cut (fun a' w' => ∃ l1 : List Int, ∃ A4 : Option Addr, ∃ cap5 : Nat, ∃ fp3 : List Nat, l1 = r1 ∧ Fr 27 [(4, .slice A4 l1.length cap5)] a' ∧ O1 2 w' fp3 A4 cap5 l1 ∧ (∀ x ∈ fp3, w0.heap.size ≤ x) ∧ Chg [] w0 w') ?_ ?_
 ·refine cW_block ?_
  refine cW_loop _ (fun (s1 : (List Int) × Int) a' w' => ∃ l3 : List Int, ∃ A5 : Option Addr, ∃ cap6 : Nat, ∃ fp4 : List Nat, ∃ x1 : Int, (l3, x1) = s1 ∧ Fr 27 [(4, .slice A5 l3.length cap6), (12, .slice A3 y3.length cap4), (13, ii (y3.length : Int)), (14, ii x1)] a' ∧ O1 3 w' fp2 A3 cap4 y3 ∧ O1 2 w' fp4 A5 cap6 l3 ∧ (∀ x ∈ fp4, w0.heap.size ≤ x) ∧ Dj fp2 fp4 ∧ Chg [] w0 w') hr1 (fun hst => ⟨([] : List Int), (ad b2), 0, [b2], 0, rfl, fO hst, F4, F2, G2, (D5).symm, hB⟩) ?_
  rintro _ c1 a' w6 ⟨l3, A5, cap6, fp4, x1, rfl, hF1, F5, F6, G5, D7, hB⟩ hx1
  refine gO hF1 ?_
  have hm := hx1
  unfold m_impl_CycleOf_s1 at hm
  refine sR <| wP 1 [(15, .bool (decide (x1 < ((y3.length : Int)))))] <| wN <| cW_seq <| cC (decide (x1 < ((y3.length : Int)))) (fun hb2 => ?_) (fun hb2 => ?_)
  ·have hm := condT hb2 hm
   refine cW_skip <| eX_then <| cW_seq <| cW_block <| sR ?_
   obtain ⟨x2, hx2, hm⟩ := bindE hm
   refine sI 16 A3 y3.length cap4 .i64 x1 sl56 ((F5.sl encI_ok).is hx2) <| sL 17 (elA A3 1 (x1) 0) (ii x2) vt3 (Sl.cell (F5.sl encI_ok) hx2 0 (by rfl)) <| wP 1 [(6, ii x2)] <| wN <| cW_region <| wP 2 [(19, ii x2), (18, .slice A5 l3.length cap6)] <| wS_bs (enc := encI) ([x2] : List Int) [ii x2] (d := 20) (t := 24) (T := 2) (n := 1) (ps := [(0, ii x2)]) (by kernel_rfl) el24 encI_ok (by rfl) (by omega) (by omega) (by kernel_rfl) (by rfl) ?_
   intro b3 w7 G6 F7 hc6
   have D8 := Dj.of F5.low (low1 G6)
   have D9 := Dj.of F6.low (low1 G6)
   replace F5 := F5.c hc6
   replace F6 := F6.c hc6
   replace G6 := Nat.le_trans hB.size G6
   replace G6 := low1 G6
   replace hB := hB.q hc6
   obtain ⟨_, hk1, hm⟩ := bindE hm
   replace hk1 := apE hk1
   refine wS_append (enc := encI) (l := (l3 : List Int)) (l2 := (([x2] : List Int) : List Int)) (d := 21) (t := 24) (T := 2) (A := A5) (A2 := (ad b3)) (cap := cap6) (cap2 := 1) (by kernel_rfl) el24 encI_ok F6 (F7.sl encI_ok) (by rfl) hk1 ?_
   intro w8 fp5 A6 cap7 F8 hc7 hp1
   have G7 := low_ap G5 hB.size hp1
   have D10 : Dj fp2 fp5 := Dj.ap D7 F5.low hp1
   have D11 : Dj [b3] fp5 := Dj.ap (D9).symm F7.low hp1
   replace F5 := F5.chg hc7 D7
   replace F7 := F7.chg hc7 (D9).symm
   replace hB := hB.inS hc7 (inLow G5)
   refine wP 1 [(4, .slice A6 (l3 ++ (([x2] : List Int))).length cap7)] <| wE <| eX_block <| eX_then <| cW_region <| wP 2 [(14, ii (wr (x1 + 1))), (22, ii (wr (x1 + 1)))] <| wE ?_
   obtain rfl := someE (x := (Ctl.next ((l3 ++ (([x2] : List Int)), wr (x1 + 1))))) hm
   exact eX_next hx1 (fun hst => ⟨l3 ++ (([x2] : List Int)), A6, cap7, fp5, wr (x1 + 1), rfl, fO hst, F5, F8, G7, D10, hB⟩)
  have hm := condF hb2 hm
  refine cW_exit <| eX_then_exit ?_
  obtain rfl := someE (x := Ctl.out l3) hm
  refine eX_outX hx1 (fun hr2 => ?_)
  replace hr2 := hr2.symm
  subst hr2
  refine eX_block_hit ?_
  exact eX_J (fun hst => ⟨l3, A5, cap6, fp4, rfl, fO hst, F6, G5, hB⟩)
 rintro a' w9 ⟨l1, A4, cap5, fp3, hJ, hF2, F9, G8, hB⟩
 subst hJ
 refine gX hF2 <| eX_then <| sR <| wP 6 [(3, .bool (decide (((l1.length : Int)) > 0))), (2, .slice A4 l1.length cap5), (26, .bool (decide (((l1.length : Int)) > 0))), (25, ii (l1.length : Int)), (24, .slice A4 l1.length cap5), (23, .slice A4 l1.length cap5)] <| wN <| cW_ret ?_
 obtain rfl := someE (x := ((l1, decide (((l1.length : Int)) > 0)))) hm
 refine rB (.slice A4 l1.length cap5) (.bool (decide (((l1.length : Int)) > 0))) 2 3 ?_
 exact ⟨A4, cap5, fp3, rfl, F9, G8, hB⟩

set_option maxRecDepth 100000 in
theorem c_iChannDensi {w0 l0_0 A0_0 cap0_0 fp0_0 l0_1 A0_1 cap0_1 fp0_1 b0 p1} {r : (Int)} (hm : m_iChannDensi l0_0 l0_1 p1 = some r) (F0_0 : S1 w0 fp0_0 A0_0 l0_0) (F0_1 : S1 w0 fp0_1 A0_1 l0_1) (F0 : Cl w0 b0 26 [.slice A0_0 l0_0.length cap0_0, .slice A0_1 l0_1.length cap0_1]) :
  Calls Tryd.prog 44 #[pt b0, ii p1] w0 fun e w' => e = .returned (ii r) ∧ Chg [] w0 w' := by
 have L0_0 := F0_0.low
 have L0_1 := F0_1.low
 have L0 := lt1 F0.lt
 have hB : Chg [] w0 w0 := Chg.refl _ _
 unfold m_iChannDensi at hm
 refine enterE (N := 31) Tryd.func44 (by rfl) Tryd.ntmps44 (by simp) [(0, pt b0), (1, ii p1)] (by rfl) (by kernel_rfl) (fun a => ?_)
 refine sR <| wP 1 [(4, ii 0)] <| wN <| sR <| wP 1 [(5, ii 0)] <| wN <| cW_seq <| sR <| wP 1 [(10, pt b0)] ?_
 obtain ⟨y1, hy1, hm⟩ := bindE hm
 refine sC 11 [pt b0] ent39 (c_iChannNets hy1 F0_0 F0_1 F0) ?_
 rintro _ w1 ⟨A1, cap1, fp1, rfl, F1, G1, hc1⟩
 replace F0_0 := F0_0.c hc1
 replace F0_1 := F0_1.c hc1
 replace F0 := F0.c hc1
 replace G1 := low_le hB.size G1
 replace hB := hB.q hc1
 refine ⟨.slice A1 y1.length cap1, rfl, ?_⟩
 refine wP 2 [(13, ii 0), (12, ii (y1.length : Int))] <| wN ?_
 obtain ⟨r1, hr1, hm⟩ := bindE hm
 have hm1 := hm
 refine cW_cut (fun a' w' => ∃ x1 : Int, x1 = r1 ∧ Fr 31 [(5, ii x1)] a' ∧ Chg [] w0 w') ?_ ?_
 ·refine cW_block ?_
  refine cW_loop _ (fun (s1 : Int × Int) a' w' => ∃ x2 : Int, ∃ x3 : Int, (x2, x3) = s1 ∧ Fr 31 [(0, pt b0), (1, ii p1), (5, ii x2), (11, .slice A1 y1.length cap1), (12, ii (y1.length : Int)), (13, ii x3)] a' ∧ S1 w' fp0_0 A0_0 l0_0 ∧ S1 w' fp0_1 A0_1 l0_1 ∧ Cl w' b0 26 [.slice A0_0 l0_0.length cap0_0, .slice A0_1 l0_1.length cap0_1] ∧ O1 2 w' fp1 A1 cap1 y1 ∧ Chg [] w0 w') hr1 (fun hst => ⟨0, 0, rfl, fO hst, F0_0, F0_1, F0, F1, hB⟩) ?_
  rintro _ c1 a' w2 ⟨x2, x3, rfl, hF1, F2, F3, F4, F5, hB⟩ hx1
  refine gO hF1 ?_
  have hm := hx1
  unfold m_iChannDensi_s1 at hm
  refine sR <| wP 1 [(14, .bool (decide (x3 < ((y1.length : Int)))))] <| wN <| cW_seq <| cC (decide (x3 < ((y1.length : Int)))) (fun hb1 => ?_) (fun hb1 => ?_)
  ·have hm := condT hb1 hm
   refine cW_skip <| eX_then <| cW_seq <| cW_block ?_
   obtain ⟨s2, hs1, hm⟩ := bindE hm
   refine cW_cut (fun a' w' => ∃ x4 : Int, x4 = s2 ∧ Fr 31 [(0, pt b0), (1, ii p1), (5, ii x4), (11, .slice A1 y1.length cap1), (12, ii (y1.length : Int)), (13, ii x3)] a' ∧ S1 w' fp0_0 A0_0 l0_0 ∧ S1 w' fp0_1 A0_1 l0_1 ∧ Cl w' b0 26 [.slice A0_0 l0_0.length cap0_0, .slice A0_1 l0_1.length cap0_1] ∧ O1 2 w' fp1 A1 cap1 y1 ∧ Chg [] w0 w') ?_ ?_
   ·have hm := hs1
    refine sR ?_
    obtain ⟨x5, hx2, hm⟩ := bindE hm
    refine sI 15 A1 y1.length cap1 .i64 x3 sl24 ((F5.sl encI_ok).is hx2) <| sL 16 (elA A1 1 (x3) 0) (ii x5) vt2 (Sl.cell (F5.sl encI_ok) hx2 0 (by rfl)) <| wP 1 [(7, ii x5)] <| wN <| sR <| wP 2 [(19, ii x5), (18, pt b0)] ?_
    obtain ⟨y2, hy2, hm⟩ := bindE hm
    refine sC 20 [pt b0, ii x5] ent50 (c_iChannSpan hy2 F2 F3 F4) ?_
    rintro _ w3 ⟨rfl, hc2⟩
    replace F2 := F2.c hc2
    replace F3 := F3.c hc2
    replace F4 := F4.c hc2
    replace F5 := F5.c hc2
    replace hB := hB.q hc2
    refine ⟨.tuple #[ii y2.1, ii y2.2], rfl, ?_⟩
    refine wP 5 [(9, ii y2.2), (8, ii y2.1), (22, ii y2.2), (21, ii y2.1), (17, .tuple #[ii y2.1, ii y2.2])] <| wN <| sR <| wP 3 [(25, ii y2.2), (24, ii y2.1), (23, ii p1)] ?_
    obtain ⟨y3, hy3, hm⟩ := bindE hm
    refine sC 26 [ii p1, ii y2.1, ii y2.2] ent75 (c_impl_in hy3) ?_
    rintro _ w4 ⟨rfl, hc3⟩
    replace F2 := F2.c hc3
    replace F3 := F3.c hc3
    replace F4 := F4.c hc3
    replace F5 := F5.c hc3
    replace hB := hB.q hc3
    refine ⟨.bool (y3), rfl, ?_⟩
    refine wN <| cC y3 (fun hb2 => ?_) (fun hb2 => ?_)
    ·have hm := condT hb2 hm
     refine cW_region <| wP 3 [(5, ii (wr (x2 + 1))), (28, ii (wr (x2 + 1))), (27, ii x2)] <| wE ?_
     obtain rfl := someE (x := wr (x2 + 1)) hm
     exact eX_J (fun hst => ⟨wr (x2 + 1), rfl, fO hst, F2, F3, F4, F5, hB⟩)
    have hm := condF hb2 hm
    refine cW_skip ?_
    obtain rfl := someE (x := x2) hm
    exact eX_J (fun hst => ⟨x2, rfl, fO hst, F2, F3, F4, F5, hB⟩)
   rintro a' w5 ⟨x4, hJ, hF2, F6, F7, F8, F9, hB⟩
   subst hJ
   refine gX hF2 <| eX_block <| eX_then <| cW_region <| wP 2 [(13, ii (wr (x3 + 1))), (29, ii (wr (x3 + 1)))] <| wE ?_
   obtain rfl := someE (x := (Ctl.next ((x4, wr (x3 + 1))))) hm
   exact eX_next hx1 (fun hst => ⟨x4, wr (x3 + 1), rfl, fO hst, F6, F7, F8, F9, hB⟩)
  have hm := condF hb1 hm
  refine cW_exit <| eX_then_exit ?_
  obtain rfl := someE (x := Ctl.out x2) hm
  refine eX_outX hx1 (fun hr2 => ?_)
  replace hr2 := hr2.symm
  subst hr2
  refine eX_block_hit ?_
  exact eX_J (fun hst => ⟨x2, rfl, fO hst, hB⟩)
 rintro a' w6 ⟨x1, hJ, hF3, hB⟩
 subst hJ
 refine gX hF3 <| eX_then <| sR <| wP 2 [(4, ii x1), (30, ii x1)] <| wN <| cW_ret ?_
 obtain rfl := someE (x := x1) hm
 refine rA (ii x1) 4 ?_
 exact ⟨rfl, hB⟩

set_option maxRecDepth 100000 in
theorem c_iDensi {w0 l0_0 A0_0 cap0_0 fp0_0 l0_1 A0_1 cap0_1 fp0_1} {r : (Int) × Bool} (hm : m_iDensi l0_0 l0_1 = some r) (F0_0 : S1 w0 fp0_0 A0_0 l0_0) (K0_0 : l0_0.length ≤ cap0_0) (F0_1 : S1 w0 fp0_1 A0_1 l0_1) (K0_1 : l0_1.length ≤ cap0_1) :
  Calls Tryd.prog 11 #[.agg #[.slice A0_0 l0_0.length cap0_0, .slice A0_1 l0_1.length cap0_1]] w0 fun e w' => e = .returned (.tuple #[ii r.1, .bool (r.2)]) ∧ Chg [] w0 w' := by
 have L0_0 := F0_0.low
 have L0_1 := F0_1.low
 have hB : Chg [] w0 w0 := Chg.refl _ _
 unfold m_iDensi at hm
 refine enterE (N := 21) Tryd.func11 (by rfl) Tryd.ntmps11 (by simp) [(0, .agg #[.slice A0_0 l0_0.length cap0_0, .slice A0_1 l0_1.length cap0_1])] (by rfl) (by kernel_rfl) (fun a => ?_)
 refine sR <| wS_box (d := 1) (T := 26) (x := .agg #[.slice A0_0 l0_0.length cap0_0, .slice A0_1 l0_1.length cap0_1]) (by kernel_rfl) ?_
 intro b1 w1 G1 F1 hc1
 replace F1 : Cl w1 b1 26 [.slice A0_0 l0_0.length cap0_0, .slice A0_1 l0_1.length cap0_1] := F1
 replace F0_0 := F0_0.c hc1
 replace F0_1 := F0_1.c hc1
 replace G1 := Nat.le_trans hB.size G1
 replace hB := hB.q hc1
 refine wP 2 [(3, .bool (false)), (2, ii 0)] <| wN <| cW_seq <| sR <| wS_loadA (d := 6) (T := 26) (ad := ⟨b1, 0, none⟩) (vs := [.slice A0_0 l0_0.length cap0_0, .slice A0_1 l0_1.length cap0_1]) (by kernel_rfl) vt26 (fun i u hu => box_cells F1 0 hu (by rfl)) ?_
 obtain ⟨y1, hy1, hm⟩ := bindE hm
 refine sC 7 [.agg #[.slice A0_0 l0_0.length cap0_0, .slice A0_1 l0_1.length cap0_1]] ent36 (c_iValid hy1 F0_0 K0_0 F0_1 K0_1) ?_
 rintro _ w2 ⟨rfl, hc2⟩
 replace F0_0 := F0_0.c hc2
 replace F0_1 := F0_1.c hc2
 replace F1 := F1.c hc2
 replace hB := hB.q hc2
 refine ⟨.bool (y1), rfl, ?_⟩
 refine wP 1 [(8, .bool (!y1))] <| wN <| cC (!y1) (fun hb1 => ?_) (fun hb1 => ?_)
 ·have hm := condT hb1 hm
  refine sR <| wP 2 [(3, .bool (false)), (2, ii 0)] <| wN <| cW_ret <| eX_then_ret ?_
  obtain rfl := someE (x := ((0, false))) hm
  refine rB (ii 0) (.bool (false)) 2 3 ?_
  exact ⟨rfl, hB⟩
 have hm := condF hb1 hm
 refine cW_skip <| eX_then <| sR <| wP 1 [(4, ii 0)] <| wN <| cW_seq <| sR <| wP 1 [(9, pt b1)] <| sL 10 ⟨b1, 0, none⟩ (.slice A0_0 l0_0.length cap0_0) vt24 ((F1).cell 0) <| wP 2 [(12, ii 0), (11, ii (l0_0.length : Int))] <| wN ?_
 obtain ⟨r1, hr1, hm⟩ := bindE hm
 have hm1 := hm
 refine cW_cut (fun a' w' => ∃ x1 : Int, x1 = r1 ∧ Fr 21 [(4, ii x1)] a' ∧ Chg [] w0 w') ?_ ?_
 ·refine cW_block ?_
  refine cW_loop _ (fun (s1 : Int × Int) a' w' => ∃ x2 : Int, ∃ x3 : Int, (x2, x3) = s1 ∧ Fr 21 [(1, pt b1), (4, ii x2), (11, ii (l0_0.length : Int)), (12, ii x3)] a' ∧ S1 w' fp0_0 A0_0 l0_0 ∧ S1 w' fp0_1 A0_1 l0_1 ∧ Cl w' b1 26 [.slice A0_0 l0_0.length cap0_0, .slice A0_1 l0_1.length cap0_1] ∧ Chg [] w0 w') hr1 (fun hst => ⟨0, 0, rfl, fO hst, F0_0, F0_1, F1, hB⟩) ?_
  rintro _ c1 a' w3 ⟨x2, x3, rfl, hF1, F2, F3, F4, hB⟩ hx1
  refine gO hF1 ?_
  have hm := hx1
  unfold m_iDensi_s1 at hm
  refine sR <| wP 1 [(13, .bool (decide (x3 < ((l0_0.length : Int)))))] <| wN <| cW_seq <| cC (decide (x3 < ((l0_0.length : Int)))) (fun hb2 => ?_) (fun hb2 => ?_)
  ·have hm := condT hb2 hm
   refine cW_skip <| eX_then <| cW_seq <| cW_block <| sR <| wP 2 [(5, ii x3), (14, ii x3)] <| wN <| cW_region <| wP 2 [(16, ii x3), (15, ii x2)] ?_
   obtain ⟨y2, hy2, hm⟩ := bindE hm
   refine sC 17 [pt b1, ii x3] ent44 (c_iChannDensi hy2 F2 F3 F4) ?_
   rintro _ w4 ⟨rfl, hc3⟩
   replace F2 := F2.c hc3
   replace F3 := F3.c hc3
   replace F4 := F4.c hc3
   replace hB := hB.q hc3
   refine ⟨ii y2, rfl, ?_⟩
   refine wP 2 [(4, ii (if y2 > x2 then y2 else x2)), (18, ii (if y2 > x2 then y2 else x2))] <| wE <| eX_block <| eX_then <| cW_region <| wP 2 [(12, ii (wr (x3 + 1))), (19, ii (wr (x3 + 1)))] <| wE ?_
   obtain rfl := someE (x := (Ctl.next ((if y2 > x2 then y2 else x2, wr (x3 + 1))))) hm
   exact eX_next hx1 (fun hst => ⟨if y2 > x2 then y2 else x2, wr (x3 + 1), rfl, fO hst, F2, F3, F4, hB⟩)
  have hm := condF hb2 hm
  refine cW_exit <| eX_then_exit ?_
  obtain rfl := someE (x := Ctl.out x2) hm
  refine eX_outX hx1 (fun hr2 => ?_)
  replace hr2 := hr2.symm
  subst hr2
  refine eX_block_hit ?_
  exact eX_J (fun hst => ⟨x2, rfl, fO hst, hB⟩)
 rintro a' w5 ⟨x1, hJ, hF2, hB⟩
 subst hJ
 refine gX hF2 <| eX_then <| sR <| wP 3 [(3, .bool (true)), (2, ii x1), (20, ii x1)] <| wN <| cW_ret ?_
 obtain rfl := someE (x := ((x1, true))) hm
 refine rB (ii x1) (.bool (true)) 2 3 ?_
 exact ⟨rfl, hB⟩

set_option maxRecDepth 100000 in
theorem c_sMax {w0 l0 A0 cap0 fp0} {r : (Int)} (hm : m_sMax l0 = some r) (F0 : S1 w0 fp0 A0 l0) :
  Calls Tryd.prog 46 #[.slice A0 l0.length cap0] w0 fun e w' => e = .returned (ii r) ∧ Chg [] w0 w' := by
 have L0 := F0.low
 have hB : Chg [] w0 w0 := Chg.refl _ _
 unfold m_sMax at hm
 refine enterE (N := 25) Tryd.func46 (by rfl) Tryd.ntmps46 (by simp) [(0, .slice A0 l0.length cap0)] (by rfl) (by kernel_rfl) (fun a => ?_)
 refine sR <| wP 1 [(2, ii 0)] <| wN <| cW_seq ?_
 obtain ⟨s1, hs1, hm⟩ := bindE hm
 refine cW_cut (fun a' w' => () = s1 ∧ Fr 25 [(0, .slice A0 l0.length cap0)] a' ∧ S1 w' fp0 A0 l0 ∧ Chg [] w0 w') ?_ ?_
 ·have hm := hs1
  refine sR <| wP 3 [(7, .bool (decide (((l0.length : Int)) < 1))), (6, ii (l0.length : Int)), (5, .slice A0 l0.length cap0)] <| wN <| cC (decide (((l0.length : Int)) < 1)) (fun hb1 => ?_) (fun hb1 => ?_)
  ·have hm := condT hb1 hm
   refine cW_region ?_
   exact noneE hm
  have hm := condF hb1 hm
  refine cW_skip ?_
  obtain rfl := someE (x := ()) hm
  exact eX_J (fun hst => ⟨rfl, fO hst, F0, hB⟩)
 rintro a' w1 ⟨hJ, hF1, F1, hB⟩
 subst hJ
 refine gX hF1 <| eX_then <| sR <| wP 1 [(9, .slice A0 l0.length cap0)] ?_
 obtain ⟨x1, hx1, hm⟩ := bindE hm
 refine sI 10 A0 l0.length cap0 .i64 0 sl24 (F1.is hx1) <| sL 11 (elA A0 1 (0) 0) (ii x1) vt2 (Sl.cell F1 hx1 0 (by rfl)) <| wP 1 [(3, ii x1)] <| wN <| cW_seq <| sR <| wP 1 [(4, ii 1)] <| wN ?_
 obtain ⟨r1, hr1, hm⟩ := bindE hm
 have hm1 := hm
 refine cW_cut (fun a' w' => ∃ x2 : Int, x2 = r1 ∧ Fr 25 [(3, ii x2)] a' ∧ Chg [] w0 w') ?_ ?_
 ·refine cW_block ?_
  refine cW_loop _ (fun (s2 : Int × Int) a' w' => ∃ x3 : Int, ∃ x4 : Int, (x3, x4) = s2 ∧ Fr 25 [(0, .slice A0 l0.length cap0), (3, ii x3), (4, ii x4)] a' ∧ S1 w' fp0 A0 l0 ∧ Chg [] w0 w') hr1 (fun hst => ⟨x1, 1, rfl, fO hst, F1, hB⟩) ?_
  rintro _ c1 a' w2 ⟨x3, x4, rfl, hF2, F2, hB⟩ hx2
  refine gO hF2 ?_
  have hm := hx2
  unfold m_sMax_s1 at hm
  refine cW_seq <| sR <| wP 4 [(15, .bool (decide (x4 < ((l0.length : Int))))), (14, ii (l0.length : Int)), (13, .slice A0 l0.length cap0), (12, ii x4)] <| wN <| cC (decide (x4 < ((l0.length : Int)))) (fun hb2 => ?_) (fun hb2 => ?_)
  ·have hm := condT hb2 hm
   refine cW_skip <| eX_then <| cW_seq <| cW_block <| cW_region <| wP 3 [(20, ii x4), (19, .slice A0 l0.length cap0), (18, ii x3)] ?_
   obtain ⟨x5, hx3, hm⟩ := bindE hm
   refine sI 21 A0 l0.length cap0 .i64 x4 sl24 (F2.is hx3) <| sL 22 (elA A0 1 (x4) 0) (ii x5) vt2 (Sl.cell F2 hx3 0 (by rfl)) <| wP 2 [(3, ii (if x5 > x3 then x5 else x3)), (23, ii (if x5 > x3 then x5 else x3))] <| wE <| eX_block <| eX_then <| cW_region <| wP 3 [(4, ii (wr (x4 + 1))), (17, ii (wr (x4 + 1))), (16, ii x4)] <| wE ?_
   obtain rfl := someE (x := (Ctl.next ((if x5 > x3 then x5 else x3, wr (x4 + 1))))) hm
   exact eX_next hx2 (fun hst => ⟨if x5 > x3 then x5 else x3, wr (x4 + 1), rfl, fO hst, F2, hB⟩)
  have hm := condF hb2 hm
  refine cW_exit <| eX_then_exit ?_
  obtain rfl := someE (x := Ctl.out x3) hm
  refine eX_outX hx2 (fun hr2 => ?_)
  replace hr2 := hr2.symm
  subst hr2
  refine eX_block_hit ?_
  exact eX_J (fun hst => ⟨x3, rfl, fO hst, hB⟩)
 rintro a' w3 ⟨x2, hJ, hF3, hB⟩
 subst hJ
 refine gX hF3 <| eX_then <| sR <| wP 2 [(2, ii x2), (24, ii x2)] <| wN <| cW_ret ?_
 obtain rfl := someE (x := x2) hm
 refine rA (ii x2) 2 ?_
 exact ⟨rfl, hB⟩

end Go.Proofs.YtbfjekmefcpkmaaDoor
