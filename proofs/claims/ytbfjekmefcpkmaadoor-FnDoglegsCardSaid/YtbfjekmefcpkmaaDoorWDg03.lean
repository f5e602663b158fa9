/- Printed walks: impl.toldTracks, impl.FewestTracks, impl.NetsOf, spec.l03Span, spec.l03Nets, impl.places, (impl.order).setsOk, spec.l00In, spec.l03Is, spec.l03Less, spec.l03Fits. -/
import Derived.Test.YtbfjekmefcpkmaaDoorProg
import Derived.Test.YtbfjekmefcpkmaaDoorWDg02
set_option linter.unusedSimpArgs false
set_option linter.unusedVariables false
namespace Go.Proofs.YtbfjekmefcpkmaaDoor
open Go.RowKit
attribute [local irreducible] wS cW eX wH

theorem ent36 : Ent Tryd.prog 36 := fun _ => by kernel_rfl
theorem ent37 : Ent Tryd.prog 37 := fun _ => by kernel_rfl
theorem ent38 : Ent Tryd.prog 38 := fun _ => by kernel_rfl
theorem ent40 : Ent Tryd.prog 40 := fun _ => by kernel_rfl
theorem ent41 : Ent Tryd.prog 41 := fun _ => by kernel_rfl
theorem ent92 : Ent Tryd.prog 92 := fun _ => by kernel_rfl
theorem ent94 : Ent Tryd.prog 94 := fun _ => by kernel_rfl
theorem vt4 : VarTy Tryd.prog 4 1 false := ⟨by kernel_rfl, by kernel_rfl⟩
theorem vt92 : VarTy Tryd.prog 92 1 false := ⟨by kernel_rfl, by kernel_rfl⟩
theorem vt120 : VarTy Tryd.prog 120 1 false := ⟨by kernel_rfl, by kernel_rfl⟩
theorem sl54 : SlTy Tryd.prog 54 56 1 := ⟨Tryd.underlying54, by kernel_rfl⟩
theorem sl92 : SlTy Tryd.prog 92 120 1 := ⟨Tryd.underlying92, by kernel_rfl⟩
theorem sl120 : SlTy Tryd.prog 120 4 1 := ⟨Tryd.underlying120, by kernel_rfl⟩

set_option maxRecDepth 100000 in
/-- impl.toldTracks -/
theorem c_impl_toldTracks_impl_FewestTracks_1_bint64 {w0 : World} {l0 : List (List Int)} {A0 : Option Addr} {cap0 : Nat} {fp0 : List Nat} {l1_0_0 : List Int} {A1_0_0 : Option Addr} {cap1_0_0 : Nat} {fp1_0_0 : List Nat} {b1_0 : Nat} {r : (List (List Int))} (hm : m_impl_toldTracks_impl_FewestTracks_1_bint64 l0 l1_0_0 = some r) (F0 : SlR 1 encI w0 fp0 A0 l0) (F1_0_0 : Sl 1 encI w0 fp1_0_0 A1_0_0 l1_0_0) (F1_0 : Cl w0 b1_0 24 [.slice A1_0_0 l1_0_0.length cap1_0_0]) :
  Calls Tryd.prog 40 #[.slice A0 l0.length cap0, .func (.func 41) #[] #[pt b1_0]] w0 fun e w' => ∃ A100 cap100 fp100 fr100, e = .returned (.slice A100 r.length cap100) ∧ OwR 1 encI 24 2 w' fp100 fr100 A100 cap100 r ∧ (∀ x ∈ fp100 ++ fr100, w0.heap.size ≤ x) ∧ Chg [] w0 w' := by
 have L0 := F0.low
 have L1_0_0 := F1_0_0.low
 have L1_0 := lt1 F1_0.lt
 have hB : Chg [] w0 w0 := Chg.refl _ _
 have hZ := Nat.le_refl w0.heap.size
 unfold m_impl_toldTracks_impl_FewestTracks_1_bint64 at hm
 refine enterE (N := 38) Tryd.func40 (by rfl) Tryd.ntmps40 (by simp) [(0, .slice A0 l0.length cap0), (1, .func (.func 41) #[] #[pt b1_0])] (by rfl) (by kernel_rfl) (fun a => ?_)
 refine sR <| wP 1 [(4, .slice none 0 0)] <| wN <| sR <| wS_rows0 (k := 1) (enc := encI) (d := 11) (t := 28) (T := 24) (T2 := 2) (by kernel_rfl) el28 ?_
 intro b1 w1 G1 F1 hc1
 replace F0 := F0.c hc1
 replace F1_0_0 := F1_0_0.c hc1
 replace F1_0 := F1_0.c hc1
 replace hB := hB.q hc1
 replace G1 := Nat.le_trans hZ G1
 replace G1 := low1 G1
 replace hZ := hc1.z hZ
 replace G1 := lowApp G1 lowNil
 refine wP 1 [(5, .slice (some ⟨b1, 0, none⟩) (([] : List (List Int))).length 0)] <| wN <| cW_seq <| sR <| wP 3 [(14, ii 0), (13, ii (l0.length : Int)), (12, .slice A0 l0.length cap0)] <| wN ?_
 obtain ⟨r1, hr1, hm⟩ := bindE hm
 have hm1 := hm
 refine cW_cut (fun a' w' => ∃ l1 : List (List Int), ∃ A1 : Option Addr, ∃ cap1 : Nat, ∃ fp1 : List Nat, ∃ fr1 : List Nat, l1 = r1 ∧ Fr 38 [(5, .slice A1 l1.length cap1)] a' ∧ OwR 1 encI 24 2 w' fp1 fr1 A1 cap1 l1 ∧ (∀ x ∈ (fp1 ++ fr1), w0.heap.size ≤ x) ∧ Chg [] w0 w' ∧ w0.heap.size ≤ w'.heap.size) ?_ ?_
 ·refine cW_block ?_
  refine cW_loop _ (fun (s1 : (List (List Int)) × Int) a' w' => ∃ l3 : List (List Int), ∃ A3 : Option Addr, ∃ cap3 : Nat, ∃ fp2 : List Nat, ∃ fr2 : List Nat, ∃ x1 : Int, (l3, x1) = s1 ∧ Fr 38 [(1, .func (.func 41) #[] #[pt b1_0]), (5, .slice A3 l3.length cap3), (12, .slice A0 l0.length cap0), (13, ii (l0.length : Int)), (14, ii x1)] a' ∧ SlR 1 encI w' fp0 A0 l0 ∧ Sl 1 encI w' fp1_0_0 A1_0_0 l1_0_0 ∧ Cl w' b1_0 24 [.slice A1_0_0 l1_0_0.length cap1_0_0] ∧ OwR 1 encI 24 2 w' fp2 fr2 A3 cap3 l3 ∧ (∀ x ∈ (fp2 ++ fr2), w0.heap.size ≤ x) ∧ Chg [] w0 w' ∧ w0.heap.size ≤ w'.heap.size) hr1 (fun hst => ⟨([] : List (List Int)), (some ⟨b1, 0, none⟩), 0, [b1], [], 0, rfl, fO hst, F0, F1_0_0, F1_0, F1, G1, hB, hZ⟩) ?_
  rintro _ c1 a' w2 ⟨l3, A3, cap3, fp2, fr2, x1, rfl, hF1, F2, F3, F4, F5, G2, hB, hZ⟩ hx1
  refine gO hF1 ?_
  have hm := hx1
  unfold m_impl_toldTracks_impl_FewestTracks_1_bint64_s3 at hm
  refine sR <| wP 1 [(15, .bool (decide (x1 < ((l0.length : Int)))))] <| wN <| cW_seq <| cC (decide (x1 < ((l0.length : Int)))) (fun hb1 => ?_) (fun hb1 => ?_)
  ·have hm := condT hb1 hm
   refine cW_skip <| eX_then <| cW_seq <| cW_block <| sR ?_
   obtain ⟨x2, hx2, hm⟩ := bindE hm
   refine sI 16 A0 l0.length cap0 .i64 x1 sl54 (F2.is hx2) ?_
   obtain ⟨A4, cap4, hc2, F6, K1⟩ := SlR.row F2 hx2
   refine sL 17 (elA A0 1 (x1) 0) (.slice A4 x2.length cap4) vt56 hc2 <| wP 1 [(7, .slice A4 x2.length cap4)] <| wN <| sR <| wS_bs0 (α := Int) (enc := encI) (d := 18) (t := 24) (T := 2) (by kernel_rfl) el24 ?_
   intro b2 w3 G3 F7 hc3
   have D1 : Dj (fp2 ++ fr2) [b2] := Dj.of F5.low (low1 G3)
   replace F2 := F2.c hc3
   replace F3 := F3.c hc3
   replace F4 := F4.c hc3
   replace F5 := F5.c hc3
   replace F6 := F6.c hc3
   replace hB := hB.q hc3
   replace G3 := Nat.le_trans hZ G3
   replace G3 := low1 G3
   replace hZ := hc3.z hZ
   refine wP 1 [(8, .slice (some ⟨b2, 0, none⟩) (([] : List Int)).length 0)] <| wN <| cW_seq <| sR <| wP 3 [(21, ii 0), (20, ii (x2.length : Int)), (19, .slice A4 x2.length cap4)] <| wN ?_
   obtain ⟨r2, hr2, hm⟩ := bindE hm
   have hm2 := hm
   refine cW_cut (fun a' w' => ∃ l4 : List Int, ∃ A5 : Option Addr, ∃ cap5 : Nat, ∃ fp3 : List Nat, l4 = r2 ∧ Fr 38 [(1, .func (.func 41) #[] #[pt b1_0]), (5, .slice A3 l3.length cap3), (8, .slice A5 l4.length cap5), (12, .slice A0 l0.length cap0), (13, ii (l0.length : Int)), (14, ii x1)] a' ∧ SlR 1 encI w' fp0 A0 l0 ∧ Sl 1 encI w' fp1_0_0 A1_0_0 l1_0_0 ∧ Cl w' b1_0 24 [.slice A1_0_0 l1_0_0.length cap1_0_0] ∧ OwR 1 encI 24 2 w' fp2 fr2 A3 cap3 l3 ∧ Ow 1 encI 2 w' fp3 A5 cap5 l4 ∧ (∀ x ∈ fp3, w0.heap.size ≤ x) ∧ Dj (fp2 ++ fr2) fp3 ∧ Chg [] w0 w' ∧ w0.heap.size ≤ w'.heap.size) ?_ ?_
   ·refine cW_block ?_
    refine cW_loop _ (fun (s2 : (List Int) × Int) a' w' => ∃ l5 : List Int, ∃ A6 : Option Addr, ∃ cap6 : Nat, ∃ fp4 : List Nat, ∃ x3 : Int, (l5, x3) = s2 ∧ Fr 38 [(1, .func (.func 41) #[] #[pt b1_0]), (5, .slice A3 l3.length cap3), (8, .slice A6 l5.length cap6), (12, .slice A0 l0.length cap0), (13, ii (l0.length : Int)), (14, ii x1), (19, .slice A4 x2.length cap4), (20, ii (x2.length : Int)), (21, ii x3)] a' ∧ SlR 1 encI w' fp0 A0 l0 ∧ Sl 1 encI w' fp1_0_0 A1_0_0 l1_0_0 ∧ Cl w' b1_0 24 [.slice A1_0_0 l1_0_0.length cap1_0_0] ∧ OwR 1 encI 24 2 w' fp2 fr2 A3 cap3 l3 ∧ Sl 1 encI w' fp0 A4 x2 ∧ Ow 1 encI 2 w' fp4 A6 cap6 l5 ∧ (∀ x ∈ fp4, w0.heap.size ≤ x) ∧ Dj (fp2 ++ fr2) fp4 ∧ Chg [] w0 w' ∧ w0.heap.size ≤ w'.heap.size) hr2 (fun hst => ⟨([] : List Int), (some ⟨b2, 0, none⟩), 0, [b2], 0, rfl, fO hst, F2, F3, F4, F5, F6, F7, G3, D1, hB, hZ⟩) ?_
    rintro _ c2 a' w4 ⟨l5, A6, cap6, fp4, x3, rfl, hF2, F8, F9, F10, F11, F12, F13, G4, D2, hB, hZ⟩ hx3
    refine gO hF2 ?_
    have hm := hx3
    unfold m_impl_toldTracks_impl_FewestTracks_1_bint64_s4 at hm
    refine sR <| wP 1 [(22, .bool (decide (x3 < ((x2.length : Int)))))] <| wN <| cW_seq <| cC (decide (x3 < ((x2.length : Int)))) (fun hb2 => ?_) (fun hb2 => ?_)
    ·have hm := condT hb2 hm
     refine cW_skip <| eX_then <| cW_seq <| cW_block <| sR ?_
     obtain ⟨x4, hx4, hm⟩ := bindE hm
     refine sI 23 A4 x2.length cap4 .i64 x3 sl56 (F12.is hx4) <| sL 24 (elA A4 1 (x3) 0) (ii x4) vt3 (Sl.cell F12 hx4 0 (by rfl)) <| wP 1 [(10, ii x4)] <| wN <| cW_region <| wP 3 [(27, ii x4), (26, .func (.func 41) #[] #[pt b1_0]), (25, .slice A6 l5.length cap6)] ?_
     obtain ⟨y1, hy1, hm⟩ := bindE hm
     refine sC 28 [ii x4, pt b1_0] ent41 (c_impl_FewestTracks_1_bint64 hy1 F9 F10) ?_
     rintro _ w5 ⟨rfl, hc4⟩
     replace F8 := F8.c hc4
     replace F9 := F9.c hc4
     replace F10 := F10.c hc4
     replace F11 := F11.c hc4
     replace F12 := F12.c hc4
     replace F13 := F13.c hc4
     replace hB := hB.q hc4
     replace hZ := hc4.z hZ
     refine ⟨ii y1, rfl, ?_⟩
     refine wS_bs (enc := encI) ([y1] : List Int) [ii y1] (d := 29) (t := 24) (T := 2) (n := 1) (ps := [(0, ii y1)]) (by kernel_rfl) el24 encI_ok (by rfl) (by omega) (by omega) (by kernel_rfl) (by rfl) ?_
     intro b3 w6 G5 F14 hc5
     have D3 : Dj (fp2 ++ fr2) [b3] := Dj.of F11.low (low1 G5)
     have D4 : Dj fp4 [b3] := Dj.of F13.low (low1 G5)
     replace F8 := F8.c hc5
     replace F9 := F9.c hc5
     replace F10 := F10.c hc5
     replace F11 := F11.c hc5
     replace F12 := F12.c hc5
     replace F13 := F13.c hc5
     replace hB := hB.q hc5
     replace G5 := Nat.le_trans hZ G5
     replace G5 := low1 G5
     replace hZ := hc5.z hZ
     obtain ⟨_, hk1, hm⟩ := bindE hm
     replace hk1 := apE hk1
     refine wS_append (enc := encI) (l := (l5 : List Int)) (l2 := (([y1] : List Int) : List Int)) (d := 30) (t := 24) (T := 2) (A := A6) (A2 := (some ⟨b3, 0, none⟩)) (cap := cap6) (cap2 := 1) (by kernel_rfl) el24 encI_ok F13 (F14.sl encI_ok) (by rfl) hk1 ?_
     intro w7 fp5 A7 cap7 F15 hc6 hp1
     have G6 := low_ap G4 hZ hp1
     have D5 : Dj (fp2 ++ fr2) fp5 := Dj.ap D2 F11.low hp1
     have D6 : Dj [b3] fp5 := Dj.ap (D4).symm F14.low hp1
     replace F8 := F8.chg hc6 (Dj.of L0 G4)
     replace F9 := F9.chg hc6 (Dj.of L1_0_0 G4)
     replace F10 := F10.chg hc6 (dj1 (Dj.of L1_0 G4))
     replace F11 := F11.chg hc6 D2
     replace F12 := F12.chg hc6 (Dj.of L0 G4)
     replace F14 := F14.chg hc6 (D4).symm
     replace hB := hB.inS hc6 (inLow G4)
     replace hZ := hc6.z hZ
     refine wP 1 [(8, .slice A7 (l5 ++ (([y1] : List Int))).length cap7)] <| wE <| eX_block <| eX_then <| cW_region <| wP 2 [(21, ii (wr (x3 + 1))), (31, ii (wr (x3 + 1)))] <| wE ?_
     obtain rfl := someE (x := (Ctl.next ((l5 ++ (([y1] : List Int)), wr (x3 + 1))))) hm
     exact eX_next hx3 (fun hst => ⟨l5 ++ (([y1] : List Int)), A7, cap7, fp5, wr (x3 + 1), rfl, fO hst, F8, F9, F10, F11, F12, F15, G6, D5, hB, hZ⟩)
    have hm := condF hb2 hm
    refine cW_exit <| eX_then_exit ?_
    obtain rfl := someE (x := Ctl.out l5) hm
    refine eX_outX hx3 (fun hr3 => ?_)
    replace hr3 := hr3.symm
    subst hr3
    refine eX_block_hit ?_
    exact eX_J (fun hst => ⟨l5, A6, cap6, fp4, rfl, fO hst, F8, F9, F10, F11, F13, G4, D2, hB, hZ⟩)
   rintro a' w8 ⟨l4, A5, cap5, fp3, hJ, hF3, F16, F17, F18, F19, F20, G7, D7, hB, hZ⟩
   subst hJ
   refine gX hF3 <| eX_then <| cW_region <| wP 2 [(33, .slice A5 l4.length cap5), (32, .slice A3 l3.length cap3)] <| wS_row1 (k := 1) (enc := encI) (l := l4) (d := 34) (t := 28) (T := 24) (B := A5) (c := cap5) (by kernel_rfl) el28 F20 ?_
   intro b4 w9 G8 F21 hc7
   have D8 : Dj (fp2 ++ fr2) ([b4] ++ fp3) := Dj.app (Dj.of F19.low (low1 G8)) D7
   replace F16 := F16.c hc7
   replace F17 := F17.c hc7
   replace F18 := F18.c hc7
   replace F19 := F19.c hc7
   replace F20 := F20.c hc7
   replace hB := hB.q hc7
   replace G8 := Nat.le_trans hZ G8
   replace G8 := lowApp (low1 G8) G7
   replace hZ := hc7.z hZ
   replace F20 := (F20.sl encI_ok)
   obtain ⟨_, hk2, hm⟩ := bindE hm
   replace hk2 := apE hk2
   refine wS_appendR (k := 1) (enc := encI) (ll := (l3 : List (List Int))) (ll2 := (([l4] : List (List Int)) : List (List Int))) (d := 35) (t := 28) (T := 24) (A := A3) (A2 := (some ⟨b4, 0, none⟩)) (cap := cap3) (cap2 := 1) (by kernel_rfl) el28 F19 F21 (by rfl) D8 hk2 ?_
   intro w10 fp6 A8 cap8 F22 hc8 hp2
   have G9 := lowApp (low_ap (low_inl G2) hZ hp2) (lowApp (low_inr G2) (low_inr G8))
   replace F16 := F16.chg hc8 (Dj.inl (Dj.of L0 G2))
   replace F17 := F17.chg hc8 (Dj.inl (Dj.of L1_0_0 G2))
   replace F18 := F18.chg hc8 (dj1 (Dj.inl (Dj.of L1_0 G2)))
   replace hB := hB.inS hc8 (memS_inl (inLow G2))
   replace hZ := hc8.z hZ
   refine wP 1 [(5, .slice A8 (l3 ++ (([l4] : List (List Int)))).length cap8)] <| wE <| eX_block <| eX_then <| cW_region <| wP 2 [(14, ii (wr (x1 + 1))), (36, ii (wr (x1 + 1)))] <| wE ?_
   obtain rfl := someE (x := (Ctl.next ((l3 ++ (([l4] : List (List Int))), wr (x1 + 1))))) hm
   exact eX_next hx1 (fun hst => ⟨l3 ++ (([l4] : List (List Int))), A8, cap8, fp6, (fr2 ++ fp3), wr (x1 + 1), rfl, fO hst, F16, F17, F18, F22, G9, hB, hZ⟩)
  have hm := condF hb1 hm
  refine cW_exit <| eX_then_exit ?_
  obtain rfl := someE (x := Ctl.out l3) hm
  refine eX_outX hx1 (fun hr4 => ?_)
  replace hr4 := hr4.symm
  subst hr4
  refine eX_block_hit ?_
  exact eX_J (fun hst => ⟨l3, A3, cap3, fp2, fr2, rfl, fO hst, F5, G2, hB, hZ⟩)
 rintro a' w11 ⟨l1, A1, cap1, fp1, fr1, hJ, hF4, F23, G10, hB, hZ⟩
 subst hJ
 refine gX hF4 <| eX_then <| sR <| wP 2 [(4, .slice A1 l1.length cap1), (37, .slice A1 l1.length cap1)] <| wN <| cW_ret ?_
 obtain rfl := someE (x := l1) hm
 refine rA (.slice A1 l1.length cap1) 4 ?_
 exact ⟨A1, cap1, fp1, fr1, rfl, F23, G10, hB⟩

set_option maxRecDepth 100000 in
/-- impl.FewestTracks -/
theorem c_impl_FewestTracks {w0 : World} {l0_0 : List Int} {A0_0 : Option Addr} {cap0_0 : Nat} {fp0_0 : List Nat} {l0_1 : List Int} {A0_1 : Option Addr} {cap0_1 : Nat} {fp0_1 : List Nat} {r : (List (List Int)) × Bool} (hm : m_impl_FewestTracks l0_0 l0_1 = some r) (F0_0 : Sl 1 encI w0 fp0_0 A0_0 l0_0) (K0_0 : l0_0.length ≤ cap0_0) (F0_1 : Sl 1 encI w0 fp0_1 A0_1 l0_1) (K0_1 : l0_1.length ≤ cap0_1) (FG : Sl 1 encU w0 [1] (some ⟨1, 0, none⟩) tab64) :
  Calls Tryd.prog 9 #[.agg #[.slice A0_0 l0_0.length cap0_0, .slice A0_1 l0_1.length cap0_1]] w0 fun e w' => ∃ A100 cap100 fp100 fr100, e = .returned (.tuple #[.slice A100 r.1.length cap100, .bool (r.2)]) ∧ OwR 1 encI 24 2 w' fp100 fr100 A100 cap100 r.1 ∧ (∀ x ∈ fp100 ++ fr100, w0.heap.size ≤ x) ∧ Chg [] w0 w' := by
 have L0_0 := F0_0.low
 have L0_1 := F0_1.low
 have Lg := FG.low
 have hB : Chg [] w0 w0 := Chg.refl _ _
 have hZ := Nat.le_refl w0.heap.size
 unfold m_impl_FewestTracks at hm
 refine enterE (N := 21) Tryd.func9 (by rfl) Tryd.ntmps9 (by simp) [(0, .agg #[.slice A0_0 l0_0.length cap0_0, .slice A0_1 l0_1.length cap0_1])] (by rfl) (by kernel_rfl) (fun a => ?_)
 refine sR <| wS_box (d := 1) (T := 26) (x := .agg #[.slice A0_0 l0_0.length cap0_0, .slice A0_1 l0_1.length cap0_1]) (by kernel_rfl) ?_
 intro b1 w1 G1 F1 hc1
 replace F1 : Cl w1 b1 26 [.slice A0_0 l0_0.length cap0_0, .slice A0_1 l0_1.length cap0_1] := F1
 replace F0_0 := F0_0.c hc1
 replace F0_1 := F0_1.c hc1
 replace FG := FG.c hc1
 replace hB := hB.q hc1
 replace G1 := Nat.le_trans hZ G1
 replace hZ := hc1.z hZ
 refine wP 2 [(3, .bool (false)), (2, .slice none 0 0)] <| wN <| cW_seq <| sR <| wS_loadA (d := 7) (T := 26) (ad := ⟨b1, 0, none⟩) (vs := [.slice A0_0 l0_0.length cap0_0, .slice A0_1 l0_1.length cap0_1]) (by kernel_rfl) vt26 (fun i u hu => box_cells F1 0 hu (by rfl)) ?_
 obtain ⟨y1, hy1, hm⟩ := bindE hm
 refine sC 8 [.agg #[.slice A0_0 l0_0.length cap0_0, .slice A0_1 l0_1.length cap0_1]] ent36 (c_impl_ValidChannel hy1 F0_0 K0_0 F0_1 K0_1) ?_
 rintro _ w2 ⟨rfl, hc2⟩
 replace F0_0 := F0_0.c hc2
 replace F0_1 := F0_1.c hc2
 replace FG := FG.c hc2
 replace F1 := F1.c hc2
 replace hB := hB.q hc2
 replace hZ := hc2.z hZ
 refine ⟨.bool (y1), rfl, ?_⟩
 refine wP 1 [(9, .bool (!y1))] <| wN <| cC (!y1) (fun hb1 => ?_) (fun hb1 => ?_)
 ·have hm := condT hb1 hm
  refine sR <| wP 2 [(3, .bool (false)), (2, .slice none 0 0)] <| wN <| cW_ret <| eX_then_ret ?_
  obtain rfl := someE (x := (([], false))) hm
  refine rB (.slice none 0 0) (.bool (false)) 2 3 ?_
  exact ⟨none, 0, [], [], rfl, OwR.nil _, (lowApp lowNil lowNil), hB⟩
 have hm := condF hb1 hm
 refine cW_skip <| eX_then <| sR ?_
 obtain ⟨y2, hy2, hm⟩ := bindE hm
 refine sC 11 [pt b1] ent37 (c_impl_Channel_netOrder_bimplChannel hy2 F0_0 F0_1 F1) ?_
 rintro _ w3 ⟨A1, cap1, fp1, A2, cap2, fp2, rfl, F2, G2, F3, G3, D1, hc3⟩
 have D2 : Dj [b1] fp1 := Dj.of (lt1 F1.lt) G2
 have D3 : Dj [b1] fp2 := Dj.of (lt1 F1.lt) G3
 replace F0_0 := F0_0.c hc3
 replace F0_1 := F0_1.c hc3
 replace FG := FG.c hc3
 replace F1 := F1.c hc3
 replace hB := hB.q hc3
 replace G2 := low_le hZ G2
 replace G3 := low_le hZ G3
 replace hZ := hc3.z hZ
 refine ⟨.agg #[.slice A1 y2.1.length cap1, .slice A2 y2.2.length cap2], rfl, ?_⟩
 obtain ⟨y3, hy3, hm⟩ := bindE hm
 refine sC 12 [.agg #[.slice A1 y2.1.length cap1, .slice A2 y2.2.length cap2]] ent38 (c_impl_order_best hy3 (F2.sl encI_ok) (F3.sl encI_ok) FG) ?_
 rintro _ w4 ⟨A3, cap3, fp3, fr1, rfl, F4, G4, hc4⟩
 have D4 : Dj [b1] (fp3 ++ fr1) := Dj.of (lt1 F1.lt) G4
 have D5 : Dj fp1 (fp3 ++ fr1) := Dj.of F2.low G4
 have D6 : Dj fp2 (fp3 ++ fr1) := Dj.of F3.low G4
 replace F0_0 := F0_0.c hc4
 replace F0_1 := F0_1.c hc4
 replace FG := FG.c hc4
 replace F1 := F1.c hc4
 replace F2 := F2.c hc4
 replace F3 := F3.c hc4
 replace hB := hB.q hc4
 replace G4 := low_le hZ G4
 replace hZ := hc4.z hZ
 refine ⟨.tuple #[.slice A3 y3.1.length cap3, .bool (y3.2)], rfl, ?_⟩
 refine wP 5 [(5, .bool (y3.2)), (4, .slice A3 y3.1.length cap3), (14, .bool (y3.2)), (13, .slice A3 y3.1.length cap3), (10, .tuple #[.slice A3 y3.1.length cap3, .bool (y3.2)])] <| wN <| cW_seq <| sR <| wP 2 [(16, .bool (!y3.2)), (15, .bool (y3.2))] <| wN <| cC (!y3.2) (fun hb2 => ?_) (fun hb2 => ?_)
 ·have hm := condT hb2 hm
  refine sR <| wP 2 [(3, .bool (false)), (2, .slice none 0 0)] <| wN <| cW_ret <| eX_then_ret ?_
  obtain rfl := someE (x := (([], false))) hm
  refine rB (.slice none 0 0) (.bool (false)) 2 3 ?_
  exact ⟨none, 0, [], [], rfl, OwR.nil _, (lowApp lowNil lowNil), hB⟩
 have hm := condF hb2 hm
 refine cW_skip <| eX_then <| sR ?_
 obtain ⟨y4, hy4, hm⟩ := bindE hm
 refine sC 17 [pt b1] ent39 (c_impl_Channel_nets_bimplChannel hy4 F0_0 F0_1 F1) ?_
 rintro _ w5 ⟨A4, cap4, fp4, rfl, F5, G5, hc5⟩
 have D7 : Dj [b1] fp4 := Dj.of (lt1 F1.lt) G5
 have D8 : Dj fp1 fp4 := Dj.of F2.low G5
 have D9 : Dj fp2 fp4 := Dj.of F3.low G5
 have D10 : Dj (fp3 ++ fr1) fp4 := Dj.of F4.low G5
 replace F0_0 := F0_0.c hc5
 replace F0_1 := F0_1.c hc5
 replace FG := FG.c hc5
 replace F1 := F1.c hc5
 replace F2 := F2.c hc5
 replace F3 := F3.c hc5
 replace F4 := F4.c hc5
 replace hB := hB.q hc5
 replace G5 := low_le hZ G5
 replace hZ := hc5.z hZ
 refine ⟨.slice A4 y4.length cap4, rfl, ?_⟩
 refine wS_alloc (d := 6) (T := 24) (z := .slice none 0 0) (by kernel_rfl) (by kernel_rfl) ?_
 intro b2 w6 G6 F6 hc6
 replace F6 : Cl w6 b2 24 [.slice none 0 0] := F6
 have D11 : Dj [b1] [b2] := Dj.of (lt1 F1.lt) (low1 G6)
 have D12 : Dj fp1 [b2] := Dj.of F2.low (low1 G6)
 have D13 : Dj fp2 [b2] := Dj.of F3.low (low1 G6)
 have D14 : Dj (fp3 ++ fr1) [b2] := Dj.of F4.low (low1 G6)
 have D15 : Dj fp4 [b2] := Dj.of F5.low (low1 G6)
 replace F0_0 := F0_0.c hc6
 replace F0_1 := F0_1.c hc6
 replace FG := FG.c hc6
 replace F1 := F1.c hc6
 replace F2 := F2.c hc6
 replace F3 := F3.c hc6
 replace F4 := F4.c hc6
 replace F5 := F5.c hc6
 replace hB := hB.q hc6
 replace G6 := Nat.le_trans hZ G6
 replace hZ := hc6.z hZ
 refine wS_store (T := 24) (g := b2) (o := 0) (ad := ⟨b2, 0, none⟩) (v := .slice A4 y4.length cap4) (vs := [.slice A4 y4.length cap4]) (by kernel_rfl) (by rfl) sz24 (by rfl) (by rfl) F6 (by simp only [List.length_cons, List.length_nil]; omega) ?_
 intro w7 F7 hc7
 replace F0_0 := F0_0.chg hc7 (Dj.of L0_0 (low1 G6))
 replace F0_1 := F0_1.chg hc7 (Dj.of L0_1 (low1 G6))
 replace FG := FG.chg hc7 (Dj.of Lg (low1 G6))
 replace F1 := F1.chg hc7 (dj1 D11)
 replace F2 := F2.chg hc7 D12
 replace F3 := F3.chg hc7 D13
 replace F4 := F4.chg hc7 D14
 replace F5 := F5.chg hc7 D15
 replace hB := hB.inS hc7 (inLow (low1 G6))
 replace hZ := hc7.z hZ
 replace F7 : Cl w7 b2 24 [.slice A4 y4.length cap4] := F7
 clear F6
 refine wN <| sR <| wP 2 [(19, .func (.func 41) #[] #[pt b2]), (18, .slice A3 y3.1.length cap3)] ?_
 obtain ⟨y5, hy5, hm⟩ := bindE hm
 refine sC 20 [.slice A3 y3.1.length cap3, .func (.func 41) #[] #[pt b2]] ent40 (c_impl_toldTracks_impl_FewestTracks_1_bint64 hy5 (F4.slr encI_ok) (F5.sl encI_ok) F7) ?_
 rintro _ w8 ⟨A5, cap5, fp5, fr2, rfl, F8, G7, hc8⟩
 have D16 : Dj [b1] (fp5 ++ fr2) := Dj.of (lt1 F1.lt) G7
 have D17 : Dj fp1 (fp5 ++ fr2) := Dj.of F2.low G7
 have D18 : Dj fp2 (fp5 ++ fr2) := Dj.of F3.low G7
 have D19 : Dj (fp3 ++ fr1) (fp5 ++ fr2) := Dj.of F4.low G7
 have D20 : Dj fp4 (fp5 ++ fr2) := Dj.of F5.low G7
 have D21 : Dj [b2] (fp5 ++ fr2) := Dj.of (lt1 F7.lt) G7
 replace F0_0 := F0_0.c hc8
 replace F0_1 := F0_1.c hc8
 replace FG := FG.c hc8
 replace F1 := F1.c hc8
 replace F2 := F2.c hc8
 replace F3 := F3.c hc8
 replace F4 := F4.c hc8
 replace F5 := F5.c hc8
 replace F7 := F7.c hc8
 replace hB := hB.q hc8
 replace G7 := low_le hZ G7
 replace hZ := hc8.z hZ
 refine ⟨.slice A5 y5.length cap5, rfl, ?_⟩
 refine wP 2 [(3, .bool (true)), (2, .slice A5 y5.length cap5)] <| wN <| cW_ret ?_
 obtain rfl := someE (x := ((y5, true))) hm
 refine rB (.slice A5 y5.length cap5) (.bool (true)) 2 3 ?_
 exact ⟨A5, cap5, fp5, fr2, rfl, F8, G7, hB⟩

set_option maxRecDepth 100000 in
/-- impl.NetsOf -/
theorem c_impl_NetsOf {w0 : World} {l0_0 : List Int} {A0_0 : Option Addr} {cap0_0 : Nat} {fp0_0 : List Nat} {l0_1 : List Int} {A0_1 : Option Addr} {cap0_1 : Nat} {fp0_1 : List Nat} {r : (List Int) × Bool} (hm : m_impl_NetsOf l0_0 l0_1 = some r) (F0_0 : Sl 1 encI w0 fp0_0 A0_0 l0_0) (K0_0 : l0_0.length ≤ cap0_0) (F0_1 : Sl 1 encI w0 fp0_1 A0_1 l0_1) (K0_1 : l0_1.length ≤ cap0_1) :
  Calls Tryd.prog 14 #[.agg #[.slice A0_0 l0_0.length cap0_0, .slice A0_1 l0_1.length cap0_1]] w0 fun e w' => ∃ A100 cap100 fp100, e = .returned (.tuple #[.slice A100 r.1.length cap100, .bool (r.2)]) ∧ Ow 1 encI 2 w' fp100 A100 cap100 r.1 ∧ (∀ x ∈ fp100, w0.heap.size ≤ x) ∧ Chg [] w0 w' := by
 have L0_0 := F0_0.low
 have L0_1 := F0_1.low
 have hB : Chg [] w0 w0 := Chg.refl _ _
 have hZ := Nat.le_refl w0.heap.size
 unfold m_impl_NetsOf at hm
 refine enterE (N := 8) Tryd.func14 (by rfl) Tryd.ntmps14 (by simp) [(0, .agg #[.slice A0_0 l0_0.length cap0_0, .slice A0_1 l0_1.length cap0_1])] (by rfl) (by kernel_rfl) (fun a => ?_)
 refine sR <| wS_box (d := 1) (T := 26) (x := .agg #[.slice A0_0 l0_0.length cap0_0, .slice A0_1 l0_1.length cap0_1]) (by kernel_rfl) ?_
 intro b1 w1 G1 F1 hc1
 replace F1 : Cl w1 b1 26 [.slice A0_0 l0_0.length cap0_0, .slice A0_1 l0_1.length cap0_1] := F1
 replace F0_0 := F0_0.c hc1
 replace F0_1 := F0_1.c hc1
 replace hB := hB.q hc1
 replace G1 := Nat.le_trans hZ G1
 replace hZ := hc1.z hZ
 refine wP 2 [(3, .bool (false)), (2, .slice none 0 0)] <| wN <| cW_seq <| sR <| wS_loadA (d := 4) (T := 26) (ad := ⟨b1, 0, none⟩) (vs := [.slice A0_0 l0_0.length cap0_0, .slice A0_1 l0_1.length cap0_1]) (by kernel_rfl) vt26 (fun i u hu => box_cells F1 0 hu (by rfl)) ?_
 obtain ⟨y1, hy1, hm⟩ := bindE hm
 refine sC 5 [.agg #[.slice A0_0 l0_0.length cap0_0, .slice A0_1 l0_1.length cap0_1]] ent36 (c_impl_ValidChannel hy1 F0_0 K0_0 F0_1 K0_1) ?_
 rintro _ w2 ⟨rfl, hc2⟩
 replace F0_0 := F0_0.c hc2
 replace F0_1 := F0_1.c hc2
 replace F1 := F1.c hc2
 replace hB := hB.q hc2
 replace hZ := hc2.z hZ
 refine ⟨.bool (y1), rfl, ?_⟩
 refine wP 1 [(6, .bool (!y1))] <| wN <| cC (!y1) (fun hb1 => ?_) (fun hb1 => ?_)
 ·have hm := condT hb1 hm
  refine sR <| wP 2 [(3, .bool (false)), (2, .slice none 0 0)] <| wN <| cW_ret <| eX_then_ret ?_
  obtain rfl := someE (x := (([], false))) hm
  refine rB (.slice none 0 0) (.bool (false)) 2 3 ?_
  exact ⟨none, 0, [], rfl, Ow.nil _, lowNil, hB⟩
 have hm := condF hb1 hm
 refine cW_skip <| eX_then <| sR ?_
 obtain ⟨y2, hy2, hm⟩ := bindE hm
 refine sC 7 [pt b1] ent39 (c_impl_Channel_nets_bimplChannel hy2 F0_0 F0_1 F1) ?_
 rintro _ w3 ⟨A1, cap1, fp1, rfl, F2, G2, hc3⟩
 have D1 : Dj [b1] fp1 := Dj.of (lt1 F1.lt) G2
 replace F0_0 := F0_0.c hc3
 replace F0_1 := F0_1.c hc3
 replace F1 := F1.c hc3
 replace hB := hB.q hc3
 replace G2 := low_le hZ G2
 replace hZ := hc3.z hZ
 refine ⟨.slice A1 y2.length cap1, rfl, ?_⟩
 refine wP 2 [(3, .bool (true)), (2, .slice A1 y2.length cap1)] <| wN <| cW_ret ?_
 obtain rfl := someE (x := ((y2, true))) hm
 refine rB (.slice A1 y2.length cap1) (.bool (true)) 2 3 ?_
 exact ⟨A1, cap1, fp1, rfl, F2, G2, hB⟩

set_option maxRecDepth 100000 in
/-- spec.l03Span -/
theorem c_spec_l03Span_bimplChannel {w0 : World} {l0_0 : List Int} {A0_0 : Option Addr} {cap0_0 : Nat} {fp0_0 : List Nat} {l0_1 : List Int} {A0_1 : Option Addr} {cap0_1 : Nat} {fp0_1 : List Nat} {b0 : Nat} {p1 : Int} {r : (Int) × (Int) × Bool} (hm : m_spec_l03Span_bimplChannel l0_0 l0_1 p1 = some r) (F0_0 : Sl 1 encI w0 fp0_0 A0_0 l0_0) (F0_1 : Sl 1 encI w0 fp0_1 A0_1 l0_1) (F0 : Cl w0 b0 26 [.slice A0_0 l0_0.length cap0_0, .slice A0_1 l0_1.length cap0_1]) :
  Calls Tryd.prog 92 #[pt b0, ii p1] w0 fun e w' => e = .returned (.tuple #[ii r.1, ii r.2.1, .bool (r.2.2)]) ∧ Chg [] w0 w' := by
 have L0_0 := F0_0.low
 have L0_1 := F0_1.low
 have L0 := lt1 F0.lt
 have hB : Chg [] w0 w0 := Chg.refl _ _
 have hZ := Nat.le_refl w0.heap.size
 unfold m_spec_l03Span_bimplChannel at hm
 refine enterE (N := 47) Tryd.func92 (by rfl) Tryd.ntmps92 (by simp) [(0, pt b0), (1, ii p1)] (by rfl) (by kernel_rfl) (fun a => ?_)
 refine sR <| wP 3 [(6, .bool (false)), (5, ii 0), (4, ii 0)] <| wN <| sR <| wP 1 [(7, ii ((-1)))] <| wN <| sR <| wP 1 [(8, ii ((-1)))] <| wN <| cW_seq <| sR <| wP 1 [(9, ii 0)] <| wN ?_
 obtain ⟨r1, hr1, hm⟩ := bindE hm
 have hm1 := hm
 refine cW_cut (fun a' w' => ∃ x1 : Int, ∃ x2 : Int, (x1, x2) = r1 ∧ Fr 47 [(7, ii x1), (8, ii x2)] a' ∧ Chg [] w0 w' ∧ w0.heap.size ≤ w'.heap.size) ?_ ?_
 ·refine cW_block ?_
  refine cW_loop _ (fun (s1 : Int × Int × Int) a' w' => ∃ x3 : Int, ∃ x4 : Int, ∃ x5 : Int, (x3, x4, x5) = s1 ∧ Fr 47 [(0, pt b0), (1, ii p1), (7, ii x3), (8, ii x4), (9, ii x5)] a' ∧ Sl 1 encI w' fp0_0 A0_0 l0_0 ∧ Sl 1 encI w' fp0_1 A0_1 l0_1 ∧ Cl w' b0 26 [.slice A0_0 l0_0.length cap0_0, .slice A0_1 l0_1.length cap0_1] ∧ Chg [] w0 w' ∧ w0.heap.size ≤ w'.heap.size) hr1 (fun hst => ⟨(-1), (-1), 0, rfl, fO hst, F0_0, F0_1, F0, hB, hZ⟩) ?_
  rintro _ c1 a' w1 ⟨x3, x4, x5, rfl, hF1, F1, F2, F3, hB, hZ⟩ hx1
  refine gO hF1 ?_
  have hm := hx1
  unfold m_spec_l03Span_bimplChannel_s1 at hm
  refine cW_seq <| sR <| wP 4 [(13, pt b0), (12, pt b0), (11, pt b0), (10, ii x5)] <| sL 14 ⟨b0, 0, none⟩ (.slice A0_0 l0_0.length cap0_0) vt24 ((F3).cell 0) <| wP 2 [(16, .bool (decide (x5 < ((l0_0.length : Int))))), (15, ii (l0_0.length : Int))] <| wN <| cC (decide (x5 < ((l0_0.length : Int)))) (fun hb1 => ?_) (fun hb1 => ?_)
  ·have hm := condT hb1 hm
   refine cW_skip <| eX_then <| cW_seq <| cW_block ?_
   obtain ⟨s2, hs1, hm⟩ := bindE hm
   refine cW_cut (fun a' w' => ∃ x6 : Int, ∃ x7 : Int, (x6, x7) = s2 ∧ Fr 47 [(0, pt b0), (1, ii p1), (7, ii x6), (8, ii x7), (9, ii x5)] a' ∧ Sl 1 encI w' fp0_0 A0_0 l0_0 ∧ Sl 1 encI w' fp0_1 A0_1 l0_1 ∧ Cl w' b0 26 [.slice A0_0 l0_0.length cap0_0, .slice A0_1 l0_1.length cap0_1] ∧ Chg [] w0 w' ∧ w0.heap.size ≤ w'.heap.size) ?_ ?_
   ·have hm := hs1
    refine sR <| wP 3 [(21, pt b0), (20, pt b0), (19, pt b0)] <| sL 22 ⟨b0, 0, none⟩ (.slice A0_0 l0_0.length cap0_0) vt24 ((F3).cell 0) <| wP 1 [(23, ii x5)] ?_
    obtain ⟨x8, hx2, hm⟩ := bindE hm
    refine sI 24 A0_0 l0_0.length cap0_0 .i64 x5 sl24 (F1.is hx2) <| sL 25 (elA A0_0 1 (x5) 0) (ii x8) vt2 (Sl.cell F1 hx2 0 (by rfl)) <| wP 3 [(28, .bool (x8 == p1)), (27, .bool (x8 == p1)), (26, ii p1)] <| wS_bool (x8 == p1) (fun hb2 => ?_) (fun hb2 => ?_)
    ·have hm := condT hb2 hm
     rewrite [hb2]
     refine wP 10 [(38, .bool (true)), (37, undef), (36, undef), (35, undef), (34, undef), (33, undef), (32, undef), (31, undef), (30, undef), (29, undef)] <| wN <| cP [(0, pt b0), (1, ii p1), (7, ii x3), (8, ii x4), (9, ii x5), (38, .bool (true))] (fun a1 => ?_)
     refine cCt <| cW_seq ?_
     obtain ⟨s3, hs2, hm⟩ := bindE hm
     refine cW_cut (fun a' w' => ∃ x9 : Int, x9 = s3 ∧ Fr 47 [(0, pt b0), (1, ii p1), (7, ii x9), (9, ii x5)] a' ∧ Sl 1 encI w' fp0_0 A0_0 l0_0 ∧ Sl 1 encI w' fp0_1 A0_1 l0_1 ∧ Cl w' b0 26 [.slice A0_0 l0_0.length cap0_0, .slice A0_1 l0_1.length cap0_1] ∧ Chg [] w0 w' ∧ w0.heap.size ≤ w'.heap.size) ?_ ?_
     ·have hm := hs2
      refine sR <| wP 2 [(40, .bool (decide (x3 < 0))), (39, ii x3)] <| wN <| cC (decide (x3 < 0)) (fun hb3 => ?_) (fun hb3 => ?_)
      ·have hm := condT hb3 hm
       refine cW_region <| wP 2 [(7, ii x5), (41, ii x5)] <| wE ?_
       obtain rfl := someE (x := x5) hm
       exact eX_J (fun hst => ⟨x5, rfl, fO hst, F1, F2, F3, hB, hZ⟩)
      have hm := condF hb3 hm
      refine cW_skip ?_
      obtain rfl := someE (x := x3) hm
      exact eX_J (fun hst => ⟨x3, rfl, fO hst, F1, F2, F3, hB, hZ⟩)
     rintro a' w2 ⟨x9, hJ, hF2, F4, F5, F6, hB, hZ⟩
     subst hJ
     refine gX hF2 <| eX_then <| cW_region <| wP 2 [(8, ii x5), (42, ii x5)] <| wE ?_
     obtain rfl := someE (x := ((x9, x5))) hm
     exact eX_J (fun hst => ⟨x9, x5, rfl, fO hst, F4, F5, F6, hB, hZ⟩)
    have hm := condF hb2 hm
    rewrite [hb2]
    refine wP 3 [(31, .pointer (some ⟨b0, 1, none⟩)), (30, pt b0), (29, pt b0)] <| sL 32 ⟨b0, 1, none⟩ (.slice A0_1 l0_1.length cap0_1) vt24 ((F3).cell 1) <| wP 1 [(33, ii x5)] ?_
    obtain ⟨x10, hx3, hm⟩ := bindE hm
    refine sI 34 A0_1 l0_1.length cap0_1 .i64 x5 sl24 (F2.is hx3) <| sL 35 (elA A0_1 1 (x5) 0) (ii x10) vt2 (Sl.cell F2 hx3 0 (by rfl)) <| wP 3 [(38, .bool (x10 == p1)), (37, .bool (x10 == p1)), (36, ii p1)] <| wN <| cP [(0, pt b0), (1, ii p1), (7, ii x3), (8, ii x4), (9, ii x5), (38, .bool (x10 == p1))] (fun a2 => ?_)
    refine cC (x10 == p1) (fun hb4 => ?_) (fun hb4 => ?_)
    ·have hm := condT hb4 hm
     refine cW_seq ?_
     obtain ⟨s4, hs3, hm⟩ := bindE hm
     refine cW_cut (fun a' w' => ∃ x11 : Int, x11 = s4 ∧ Fr 47 [(0, pt b0), (1, ii p1), (7, ii x11), (9, ii x5)] a' ∧ Sl 1 encI w' fp0_0 A0_0 l0_0 ∧ Sl 1 encI w' fp0_1 A0_1 l0_1 ∧ Cl w' b0 26 [.slice A0_0 l0_0.length cap0_0, .slice A0_1 l0_1.length cap0_1] ∧ Chg [] w0 w' ∧ w0.heap.size ≤ w'.heap.size) ?_ ?_
     ·have hm := hs3
      refine sR <| wP 2 [(40, .bool (decide (x3 < 0))), (39, ii x3)] <| wN <| cC (decide (x3 < 0)) (fun hb5 => ?_) (fun hb5 => ?_)
      ·have hm := condT hb5 hm
       refine cW_region <| wP 2 [(7, ii x5), (41, ii x5)] <| wE ?_
       obtain rfl := someE (x := x5) hm
       exact eX_J (fun hst => ⟨x5, rfl, fO hst, F1, F2, F3, hB, hZ⟩)
      have hm := condF hb5 hm
      refine cW_skip ?_
      obtain rfl := someE (x := x3) hm
      exact eX_J (fun hst => ⟨x3, rfl, fO hst, F1, F2, F3, hB, hZ⟩)
     rintro a' w3 ⟨x11, hJ, hF3, F7, F8, F9, hB, hZ⟩
     subst hJ
     refine gX hF3 <| eX_then <| cW_region <| wP 2 [(8, ii x5), (42, ii x5)] <| wE ?_
     obtain rfl := someE (x := ((x11, x5))) hm
     exact eX_J (fun hst => ⟨x11, x5, rfl, fO hst, F7, F8, F9, hB, hZ⟩)
    have hm := condF hb4 hm
    refine cW_skip ?_
    obtain rfl := someE (x := ((x3, x4))) hm
    exact eX_J (fun hst => ⟨x3, x4, rfl, fO hst, F1, F2, F3, hB, hZ⟩)
   rintro a' w4 ⟨x6, x7, hJ, hF4, F10, F11, F12, hB, hZ⟩
   subst hJ
   refine gX hF4 <| eX_block <| eX_then <| cW_region <| wP 3 [(9, ii (wr (x5 + 1))), (18, ii (wr (x5 + 1))), (17, ii x5)] <| wE ?_
   obtain rfl := someE (x := (Ctl.next ((x6, x7, wr (x5 + 1))))) hm
   exact eX_next hx1 (fun hst => ⟨x6, x7, wr (x5 + 1), rfl, fO hst, F10, F11, F12, hB, hZ⟩)
  have hm := condF hb1 hm
  refine cW_exit <| eX_then_exit ?_
  obtain rfl := someE (x := (Ctl.out ((x3, x4)))) hm
  refine eX_outX hx1 (fun hr2 => ?_)
  replace hr2 := hr2.symm
  subst hr2
  refine eX_block_hit ?_
  exact eX_J (fun hst => ⟨x3, x4, rfl, fO hst, hB, hZ⟩)
 rintro a' w5 ⟨x1, x2, hJ, hF5, hB, hZ⟩
 subst hJ
 refine gX hF5 <| eX_then <| sR <| wP 7 [(6, .bool (decide (x1 ≥ 0))), (5, ii x2), (4, ii x1), (46, .bool (decide (x1 ≥ 0))), (45, ii x1), (44, ii x2), (43, ii x1)] <| wN <| cW_ret ?_
 obtain rfl := someE (x := ((x1, x2, decide (x1 ≥ 0)))) hm
 refine eX_ret (vs := [ii x1, ii x2, .bool (decide (x1 ≥ 0))]) [.tmp 4, .tmp 5, .tmp 6] (by rfl) ⟨by (show lkE _ _ _ = _); kernel_rfl, ⟨by (show lkE _ _ _ = _); kernel_rfl, ⟨by (show lkE _ _ _ = _); kernel_rfl, trivial⟩⟩⟩ ?_
 exact ⟨rfl, hB⟩

set_option maxRecDepth 100000 in
/-- spec.l03Nets -/
theorem c_spec_l03Nets_bimplChannel {w0 : World} {l0_0 : List Int} {A0_0 : Option Addr} {cap0_0 : Nat} {fp0_0 : List Nat} {l0_1 : List Int} {A0_1 : Option Addr} {cap0_1 : Nat} {fp0_1 : List Nat} {b0 : Nat} {r : (List Int)} (hm : m_spec_l03Nets_bimplChannel l0_0 l0_1 = some r) (F0_0 : Sl 1 encI w0 fp0_0 A0_0 l0_0) (F0_1 : Sl 1 encI w0 fp0_1 A0_1 l0_1) (F0 : Cl w0 b0 26 [.slice A0_0 l0_0.length cap0_0, .slice A0_1 l0_1.length cap0_1]) :
  Calls Tryd.prog 55 #[pt b0] w0 fun e w' => ∃ A100 cap100 fp100, e = .returned (.slice A100 r.length cap100) ∧ Ow 1 encI 2 w' fp100 A100 cap100 r ∧ (∀ x ∈ fp100, w0.heap.size ≤ x) ∧ Chg [] w0 w' := by
 have L0_0 := F0_0.low
 have L0_1 := F0_1.low
 have L0 := lt1 F0.lt
 have hB : Chg [] w0 w0 := Chg.refl _ _
 have hZ := Nat.le_refl w0.heap.size
 unfold m_spec_l03Nets_bimplChannel at hm
 refine enterE (N := 31) Tryd.func55 (by rfl) Tryd.ntmps55 (by simp) [(0, pt b0)] (by rfl) (by kernel_rfl) (fun a => ?_)
 refine sR <| wP 1 [(2, .slice none 0 0)] <| wN <| sR <| wS_bs0 (α := Int) (enc := encI) (d := 8) (t := 24) (T := 2) (by kernel_rfl) el24 ?_
 intro b1 w1 G1 F1 hc1
 replace F0_0 := F0_0.c hc1
 replace F0_1 := F0_1.c hc1
 replace F0 := F0.c hc1
 replace hB := hB.q hc1
 replace G1 := Nat.le_trans hZ G1
 replace G1 := low1 G1
 replace hZ := hc1.z hZ
 refine wP 1 [(3, .slice (some ⟨b1, 0, none⟩) (([] : List Int)).length 0)] <| wN <| cW_seq <| sR <| wP 1 [(4, ii 1)] <| wN ?_
 obtain ⟨r1, hr1, hm⟩ := bindE hm
 have hm1 := hm
 refine cW_cut (fun a' w' => ∃ l1 : List Int, ∃ A1 : Option Addr, ∃ cap1 : Nat, ∃ fp1 : List Nat, l1 = r1 ∧ Fr 31 [(3, .slice A1 l1.length cap1)] a' ∧ Ow 1 encI 2 w' fp1 A1 cap1 l1 ∧ (∀ x ∈ fp1, w0.heap.size ≤ x) ∧ Chg [] w0 w' ∧ w0.heap.size ≤ w'.heap.size) ?_ ?_
 ·refine cW_block ?_
  refine cW_loop _ (fun (s1 : (List Int) × Int) a' w' => ∃ l3 : List Int, ∃ A3 : Option Addr, ∃ cap3 : Nat, ∃ fp2 : List Nat, ∃ x1 : Int, (l3, x1) = s1 ∧ Fr 31 [(0, pt b0), (3, .slice A3 l3.length cap3), (4, ii x1)] a' ∧ Sl 1 encI w' fp0_0 A0_0 l0_0 ∧ Sl 1 encI w' fp0_1 A0_1 l0_1 ∧ Cl w' b0 26 [.slice A0_0 l0_0.length cap0_0, .slice A0_1 l0_1.length cap0_1] ∧ Ow 1 encI 2 w' fp2 A3 cap3 l3 ∧ (∀ x ∈ fp2, w0.heap.size ≤ x) ∧ Chg [] w0 w' ∧ w0.heap.size ≤ w'.heap.size) hr1 (fun hst => ⟨([] : List Int), (some ⟨b1, 0, none⟩), 0, [b1], 1, rfl, fO hst, F0_0, F0_1, F0, F1, G1, hB, hZ⟩) ?_
  rintro _ c1 a' w2 ⟨l3, A3, cap3, fp2, x1, rfl, hF1, F2, F3, F4, F5, G2, hB, hZ⟩ hx1
  refine gO hF1 ?_
  have hm := hx1
  unfold m_spec_l03Nets_bimplChannel_s1 at hm
  refine cW_seq <| sR <| wP 2 [(10, .bool (decide (x1 ≤ 12))), (9, ii x1)] <| wN <| cC (decide (x1 ≤ 12)) (fun hb1 => ?_) (fun hb1 => ?_)
  ·have hm := condT hb1 hm
   refine cW_skip <| eX_then <| cW_seq <| cW_block ?_
   obtain ⟨s2, hs1, hm⟩ := bindE hm
   refine cW_cut (fun a' w' => ∃ l4 : List Int, ∃ A4 : Option Addr, ∃ cap4 : Nat, ∃ fp3 : List Nat, l4 = s2 ∧ Fr 31 [(0, pt b0), (3, .slice A4 l4.length cap4), (4, ii x1)] a' ∧ Sl 1 encI w' fp0_0 A0_0 l0_0 ∧ Sl 1 encI w' fp0_1 A0_1 l0_1 ∧ Cl w' b0 26 [.slice A0_0 l0_0.length cap0_0, .slice A0_1 l0_1.length cap0_1] ∧ Ow 1 encI 2 w' fp3 A4 cap4 l4 ∧ (∀ x ∈ fp3, w0.heap.size ≤ x) ∧ Chg [] w0 w' ∧ w0.heap.size ≤ w'.heap.size) ?_ ?_
   ·have hm := hs1
    refine sR <| wP 2 [(15, ii x1), (14, pt b0)] ?_
    obtain ⟨y1, hy1, hm⟩ := bindE hm
    refine sC 16 [pt b0, ii x1] ent92 (c_spec_l03Span_bimplChannel hy1 F2 F3 F4) ?_
    rintro _ w3 ⟨rfl, hc2⟩
    replace F2 := F2.c hc2
    replace F3 := F3.c hc2
    replace F4 := F4.c hc2
    replace F5 := F5.c hc2
    replace hB := hB.q hc2
    replace hZ := hc2.z hZ
    refine ⟨.tuple #[ii y1.1, ii y1.2.1, .bool (y1.2.2)], rfl, ?_⟩
    refine wP 7 [(7, .bool (y1.2.2)), (6, ii y1.2.1), (5, ii y1.1), (19, .bool (y1.2.2)), (18, ii y1.2.1), (17, ii y1.1), (13, .tuple #[ii y1.1, ii y1.2.1, .bool (y1.2.2)])] <| wN <| sR <| wP 2 [(21, .bool (y1.2.2)), (20, .bool (y1.2.2))] <| wS_bool y1.2.2 (fun hb2 => ?_) (fun hb2 => ?_)
    ·have hm := condT hb2 hm
     rewrite [hb2]
     refine wP 4 [(25, .bool (decide (y1.1 < y1.2.1))), (24, .bool (decide (y1.1 < y1.2.1))), (23, ii y1.2.1), (22, ii y1.1)] <| wN <| cC (decide (y1.1 < y1.2.1)) (fun hb3 => ?_) (fun hb3 => ?_)
     ·have hm := condT hb3 hm
      refine cW_region <| wP 2 [(27, ii x1), (26, .slice A3 l3.length cap3)] <| wS_bs (enc := encI) ([x1] : List Int) [ii x1] (d := 28) (t := 24) (T := 2) (n := 1) (ps := [(0, ii x1)]) (by kernel_rfl) el24 encI_ok (by rfl) (by omega) (by omega) (by kernel_rfl) (by rfl) ?_
      intro b2 w4 G3 F6 hc3
      have D1 : Dj fp2 [b2] := Dj.of F5.low (low1 G3)
      replace F2 := F2.c hc3
      replace F3 := F3.c hc3
      replace F4 := F4.c hc3
      replace F5 := F5.c hc3
      replace hB := hB.q hc3
      replace G3 := Nat.le_trans hZ G3
      replace G3 := low1 G3
      replace hZ := hc3.z hZ
      obtain ⟨_, hk1, hm⟩ := bindE hm
      replace hk1 := apE hk1
      refine wS_append (enc := encI) (l := (l3 : List Int)) (l2 := (([x1] : List Int) : List Int)) (d := 29) (t := 24) (T := 2) (A := A3) (A2 := (some ⟨b2, 0, none⟩)) (cap := cap3) (cap2 := 1) (by kernel_rfl) el24 encI_ok F5 (F6.sl encI_ok) (by rfl) hk1 ?_
      intro w5 fp4 A5 cap5 F7 hc4 hp1
      have G4 := low_ap G2 hZ hp1
      have D2 : Dj [b2] fp4 := Dj.ap (D1).symm F6.low hp1
      replace F2 := F2.chg hc4 (Dj.of L0_0 G2)
      replace F3 := F3.chg hc4 (Dj.of L0_1 G2)
      replace F4 := F4.chg hc4 (dj1 (Dj.of L0 G2))
      replace F6 := F6.chg hc4 (D1).symm
      replace hB := hB.inS hc4 (inLow G2)
      replace hZ := hc4.z hZ
      refine wP 1 [(3, .slice A5 (l3 ++ (([x1] : List Int))).length cap5)] <| wE ?_
      obtain rfl := someE (x := (l3 ++ (([x1] : List Int)))) hm
      exact eX_J (fun hst => ⟨l3 ++ (([x1] : List Int)), A5, cap5, fp4, rfl, fO hst, F2, F3, F4, F7, G4, hB, hZ⟩)
     have hm := condF hb3 hm
     refine cW_skip ?_
     obtain rfl := someE (x := l3) hm
     exact eX_J (fun hst => ⟨l3, A3, cap3, fp2, rfl, fO hst, F2, F3, F4, F5, G2, hB, hZ⟩)
    have hm := condF hb2 hm
    rewrite [hb2]
    refine wP 4 [(25, .bool (false)), (24, undef), (23, undef), (22, undef)] <| wN <| cCf <| cW_skip ?_
    obtain rfl := someE (x := l3) hm
    exact eX_J (fun hst => ⟨l3, A3, cap3, fp2, rfl, fO hst, F2, F3, F4, F5, G2, hB, hZ⟩)
   rintro a' w6 ⟨l4, A4, cap4, fp3, hJ, hF2, F8, F9, F10, F11, G5, hB, hZ⟩
   subst hJ
   refine gX hF2 <| eX_block <| eX_then <| cW_region <| wP 3 [(4, ii (wr (x1 + 1))), (12, ii (wr (x1 + 1))), (11, ii x1)] <| wE ?_
   obtain rfl := someE (x := (Ctl.next ((l4, wr (x1 + 1))))) hm
   exact eX_next hx1 (fun hst => ⟨l4, A4, cap4, fp3, wr (x1 + 1), rfl, fO hst, F8, F9, F10, F11, G5, hB, hZ⟩)
  have hm := condF hb1 hm
  refine cW_exit <| eX_then_exit ?_
  obtain rfl := someE (x := Ctl.out l3) hm
  refine eX_outX hx1 (fun hr2 => ?_)
  replace hr2 := hr2.symm
  subst hr2
  refine eX_block_hit ?_
  exact eX_J (fun hst => ⟨l3, A3, cap3, fp2, rfl, fO hst, F5, G2, hB, hZ⟩)
 rintro a' w7 ⟨l1, A1, cap1, fp1, hJ, hF3, F12, G6, hB, hZ⟩
 subst hJ
 refine gX hF3 <| eX_then <| sR <| wP 2 [(2, .slice A1 l1.length cap1), (30, .slice A1 l1.length cap1)] <| wN <| cW_ret ?_
 obtain rfl := someE (x := l1) hm
 refine rA (.slice A1 l1.length cap1) 2 ?_
 exact ⟨A1, cap1, fp1, rfl, F12, G6, hB⟩

set_option maxRecDepth 100000 in
/-- impl.places -/
theorem c_impl_places {w0 : World} {l0 : List (List Int)} {A0 : Option Addr} {cap0 : Nat} {fp0 : List Nat} {l1 : List Int} {A1 : Option Addr} {cap1 : Nat} {fp1 : List Nat} {r : (List (List Int)) × Bool} (hm : m_impl_places l0 l1 = some r) (F0 : SlR 1 encI w0 fp0 A0 l0) (F1 : Sl 1 encI w0 fp1 A1 l1) :
  Calls Tryd.prog 58 #[.slice A0 l0.length cap0, .slice A1 l1.length cap1] w0 fun e w' => ∃ A100 cap100 fp100 fr100, e = .returned (.tuple #[.slice A100 r.1.length cap100, .bool (r.2)]) ∧ OwR 1 encI 56 3 w' fp100 fr100 A100 cap100 r.1 ∧ (∀ x ∈ fp100 ++ fr100, w0.heap.size ≤ x) ∧ Chg [] w0 w' := by
 have L0 := F0.low
 have L1 := F1.low
 have hB : Chg [] w0 w0 := Chg.refl _ _
 have hZ := Nat.le_refl w0.heap.size
 unfold m_impl_places at hm
 refine enterE (N := 43) Tryd.func58 (by rfl) Tryd.ntmps58 (by simp) [(0, .slice A0 l0.length cap0), (1, .slice A1 l1.length cap1)] (by rfl) (by kernel_rfl) (fun a => ?_)
 refine sR <| wP 2 [(5, .bool (false)), (4, .slice none 0 0)] <| wN <| sR <| wS_rows0 (k := 1) (enc := encI) (d := 13) (t := 54) (T := 56) (T2 := 3) (by kernel_rfl) el54 ?_
 intro b1 w1 G1 F2 hc1
 replace F0 := F0.c hc1
 replace F1 := F1.c hc1
 replace hB := hB.q hc1
 replace G1 := Nat.le_trans hZ G1
 replace G1 := low1 G1
 replace hZ := hc1.z hZ
 replace G1 := lowApp G1 lowNil
 refine wP 1 [(6, .slice (some ⟨b1, 0, none⟩) (([] : List (List Int))).length 0)] <| wN <| cW_seq <| sR <| wP 3 [(16, ii 0), (15, ii (l0.length : Int)), (14, .slice A0 l0.length cap0)] <| wN ?_
 obtain ⟨r1, hr1, hm⟩ := bindE hm
 have hm1 := hm
 refine cW_cut (fun a' w' => ∃ l3 : List (List Int), ∃ A3 : Option Addr, ∃ cap3 : Nat, ∃ fp2 : List Nat, ∃ fr1 : List Nat, Sum.inl l3 = r1 ∧ Fr 43 [(6, .slice A3 l3.length cap3)] a' ∧ OwR 1 encI 56 3 w' fp2 fr1 A3 cap3 l3 ∧ (∀ x ∈ (fp2 ++ fr1), w0.heap.size ≤ x) ∧ Chg [] w0 w' ∧ w0.heap.size ≤ w'.heap.size) ?_ ?_
 ·refine cW_block ?_
  refine cW_loop _ (fun (s1 : (List (List Int)) × Int) a' w' => ∃ l4 : List (List Int), ∃ A4 : Option Addr, ∃ cap4 : Nat, ∃ fp3 : List Nat, ∃ fr2 : List Nat, ∃ x1 : Int, (l4, x1) = s1 ∧ Fr 43 [(1, .slice A1 l1.length cap1), (6, .slice A4 l4.length cap4), (14, .slice A0 l0.length cap0), (15, ii (l0.length : Int)), (16, ii x1)] a' ∧ SlR 1 encI w' fp0 A0 l0 ∧ Sl 1 encI w' fp1 A1 l1 ∧ OwR 1 encI 56 3 w' fp3 fr2 A4 cap4 l4 ∧ (∀ x ∈ (fp3 ++ fr2), w0.heap.size ≤ x) ∧ Chg [] w0 w' ∧ w0.heap.size ≤ w'.heap.size) hr1 (fun hst => ⟨([] : List (List Int)), (some ⟨b1, 0, none⟩), 0, [b1], [], 0, rfl, fO hst, F0, F1, F2, G1, hB, hZ⟩) ?_
  rintro _ c1 a' w2 ⟨l4, A4, cap4, fp3, fr2, x1, rfl, hF1, F3, F4, F5, G2, hB, hZ⟩ hx1
  refine gO hF1 ?_
  have hm := hx1
  unfold m_impl_places_s3 at hm
  refine sR <| wP 1 [(17, .bool (decide (x1 < ((l0.length : Int)))))] <| wN <| cW_seq <| cC (decide (x1 < ((l0.length : Int)))) (fun hb1 => ?_) (fun hb1 => ?_)
  ·have hm := condT hb1 hm
   refine cW_skip <| eX_then <| cW_seq <| cW_block <| sR ?_
   obtain ⟨x2, hx2, hm⟩ := bindE hm
   refine sI 18 A0 l0.length cap0 .i64 x1 sl28 (F3.is hx2) ?_
   obtain ⟨A5, cap5, hc2, F6, K1⟩ := SlR.row F3 hx2
   refine sL 19 (elA A0 1 (x1) 0) (.slice A5 x2.length cap5) vt24 hc2 <| wP 1 [(8, .slice A5 x2.length cap5)] <| wN <| sR <| wS_bs0 (α := Int) (enc := encI) (d := 20) (t := 56) (T := 3) (by kernel_rfl) el56 ?_
   intro b2 w3 G3 F7 hc3
   have D1 : Dj (fp3 ++ fr2) [b2] := Dj.of F5.low (low1 G3)
   replace F3 := F3.c hc3
   replace F4 := F4.c hc3
   replace F5 := F5.c hc3
   replace F6 := F6.c hc3
   replace hB := hB.q hc3
   replace G3 := Nat.le_trans hZ G3
   replace G3 := low1 G3
   replace hZ := hc3.z hZ
   refine wP 1 [(9, .slice (some ⟨b2, 0, none⟩) (([] : List Int)).length 0)] <| wN <| cW_seq <| sR <| wP 3 [(23, ii 0), (22, ii (x2.length : Int)), (21, .slice A5 x2.length cap5)] <| wN ?_
   obtain ⟨r2, hr2, hm⟩ := bindE hm
   have hm2 := hm
   refine cW_cut (fun a' w' => ∃ l5 : List Int, ∃ A6 : Option Addr, ∃ cap6 : Nat, ∃ fp4 : List Nat, Sum.inl l5 = r2 ∧ Fr 43 [(1, .slice A1 l1.length cap1), (6, .slice A4 l4.length cap4), (9, .slice A6 l5.length cap6), (14, .slice A0 l0.length cap0), (15, ii (l0.length : Int)), (16, ii x1)] a' ∧ SlR 1 encI w' fp0 A0 l0 ∧ Sl 1 encI w' fp1 A1 l1 ∧ OwR 1 encI 56 3 w' fp3 fr2 A4 cap4 l4 ∧ Ow 1 encI 3 w' fp4 A6 cap6 l5 ∧ (∀ x ∈ fp4, w0.heap.size ≤ x) ∧ Dj (fp3 ++ fr2) fp4 ∧ Chg [] w0 w' ∧ w0.heap.size ≤ w'.heap.size) ?_ ?_
   ·refine cW_block ?_
    refine cW_loop _ (fun (s2 : (List Int) × Int) a' w' => ∃ l6 : List Int, ∃ A7 : Option Addr, ∃ cap7 : Nat, ∃ fp5 : List Nat, ∃ x3 : Int, (l6, x3) = s2 ∧ Fr 43 [(1, .slice A1 l1.length cap1), (6, .slice A4 l4.length cap4), (9, .slice A7 l6.length cap7), (14, .slice A0 l0.length cap0), (15, ii (l0.length : Int)), (16, ii x1), (21, .slice A5 x2.length cap5), (22, ii (x2.length : Int)), (23, ii x3)] a' ∧ SlR 1 encI w' fp0 A0 l0 ∧ Sl 1 encI w' fp1 A1 l1 ∧ OwR 1 encI 56 3 w' fp3 fr2 A4 cap4 l4 ∧ Sl 1 encI w' fp0 A5 x2 ∧ Ow 1 encI 3 w' fp5 A7 cap7 l6 ∧ (∀ x ∈ fp5, w0.heap.size ≤ x) ∧ Dj (fp3 ++ fr2) fp5 ∧ Chg [] w0 w' ∧ w0.heap.size ≤ w'.heap.size) hr2 (fun hst => ⟨([] : List Int), (some ⟨b2, 0, none⟩), 0, [b2], 0, rfl, fO hst, F3, F4, F5, F6, F7, G3, D1, hB, hZ⟩) ?_
    rintro _ c2 a' w4 ⟨l6, A7, cap7, fp5, x3, rfl, hF2, F8, F9, F10, F11, F12, G4, D2, hB, hZ⟩ hx3
    refine gO hF2 ?_
    have hm := hx3
    unfold m_impl_places_s4 at hm
    refine sR <| wP 1 [(24, .bool (decide (x3 < ((x2.length : Int)))))] <| wN <| cW_seq <| cC (decide (x3 < ((x2.length : Int)))) (fun hb2 => ?_) (fun hb2 => ?_)
    ·have hm := condT hb2 hm
     refine cW_skip <| eX_then <| cW_seq <| cW_block <| sR ?_
     obtain ⟨x4, hx4, hm⟩ := bindE hm
     refine sI 25 A5 x2.length cap5 .i64 x3 sl24 (F11.is hx4) <| sL 26 (elA A5 1 (x3) 0) (ii x4) vt2 (Sl.cell F11 hx4 0 (by rfl)) <| wP 1 [(11, ii x4)] <| wN <| sR <| wP 2 [(28, ii x4), (27, .slice A1 l1.length cap1)] ?_
     obtain ⟨y1, hy1, hm⟩ := bindE hm
     refine sC 29 [.slice A1 l1.length cap1, ii x4] ent93 (c_slices_Index_int64_int64 hy1 F9) ?_
     rintro _ w5 ⟨rfl, hc4⟩
     replace F8 := F8.c hc4
     replace F9 := F9.c hc4
     replace F10 := F10.c hc4
     replace F11 := F11.c hc4
     replace F12 := F12.c hc4
     replace hB := hB.q hc4
     replace hZ := hc4.z hZ
     refine ⟨ii y1, rfl, ?_⟩
     refine wP 1 [(12, ii y1)] <| wN <| cW_seq <| sR <| wP 2 [(31, .bool (decide (y1 < 0))), (30, ii y1)] <| wN <| cC (decide (y1 < 0)) (fun hb3 => ?_) (fun hb3 => ?_)
     ·have hm := condT hb3 hm
      refine sR <| wP 2 [(5, .bool (false)), (4, .slice none 0 0)] <| wN <| cW_ret <| eX_then_ret <| eX_block_ret <| eX_then_ret ?_
      obtain rfl := someE (x := (Ctl.out (Sum.inr (([], false))))) hm
      refine eX_outR hx3 (fun hr => ?_)
      subst hr
      refine eX_block_ret <| eX_then_ret <| eX_then_ret <| eX_block_ret <| eX_then_ret ?_
      obtain rfl := someE (x := (Ctl.out (Sum.inr (([], false))))) hm2
      refine eX_outR hx1 (fun hr => ?_)
      subst hr
      refine eX_block_ret <| eX_then_ret <| eX_then_ret ?_
      obtain rfl := someE (x := (([], false))) hm1
      refine rB (.slice none 0 0) (.bool (false)) 4 5 ?_
      exact ⟨none, 0, [], [], rfl, OwR.nil _, (lowApp lowNil lowNil), hB⟩
     have hm := condF hb3 hm
     refine cW_skip <| eX_then <| cW_region <| wP 2 [(33, ii y1), (32, .slice A7 l6.length cap7)] <| wS_bs (enc := encI) ([y1] : List Int) [ii y1] (d := 34) (t := 56) (T := 3) (n := 1) (ps := [(0, ii y1)]) (by kernel_rfl) el56 encI_ok (by rfl) (by omega) (by omega) (by kernel_rfl) (by rfl) ?_
     intro b3 w6 G5 F13 hc5
     have D3 : Dj (fp3 ++ fr2) [b3] := Dj.of F10.low (low1 G5)
     have D4 : Dj fp5 [b3] := Dj.of F12.low (low1 G5)
     replace F8 := F8.c hc5
     replace F9 := F9.c hc5
     replace F10 := F10.c hc5
     replace F11 := F11.c hc5
     replace F12 := F12.c hc5
     replace hB := hB.q hc5
     replace G5 := Nat.le_trans hZ G5
     replace G5 := low1 G5
     replace hZ := hc5.z hZ
     obtain ⟨_, hk1, hm⟩ := bindE hm
     replace hk1 := apE hk1
     refine wS_append (enc := encI) (l := (l6 : List Int)) (l2 := (([y1] : List Int) : List Int)) (d := 35) (t := 56) (T := 3) (A := A7) (A2 := (some ⟨b3, 0, none⟩)) (cap := cap7) (cap2 := 1) (by kernel_rfl) el56 encI_ok F12 (F13.sl encI_ok) (by rfl) hk1 ?_
     intro w7 fp6 A8 cap8 F14 hc6 hp1
     have G6 := low_ap G4 hZ hp1
     have D5 : Dj (fp3 ++ fr2) fp6 := Dj.ap D2 F10.low hp1
     have D6 : Dj [b3] fp6 := Dj.ap (D4).symm F13.low hp1
     replace F8 := F8.chg hc6 (Dj.of L0 G4)
     replace F9 := F9.chg hc6 (Dj.of L1 G4)
     replace F10 := F10.chg hc6 D2
     replace F11 := F11.chg hc6 (Dj.of L0 G4)
     replace F13 := F13.chg hc6 (D4).symm
     replace hB := hB.inS hc6 (inLow G4)
     replace hZ := hc6.z hZ
     refine wP 1 [(9, .slice A8 (l6 ++ (([y1] : List Int))).length cap8)] <| wE <| eX_block <| eX_then <| cW_region <| wP 2 [(23, ii (wr (x3 + 1))), (36, ii (wr (x3 + 1)))] <| wE ?_
     obtain rfl := someE (x := (Ctl.next ((l6 ++ (([y1] : List Int)), wr (x3 + 1))))) hm
     exact eX_next hx3 (fun hst => ⟨l6 ++ (([y1] : List Int)), A8, cap8, fp6, wr (x3 + 1), rfl, fO hst, F8, F9, F10, F11, F14, G6, D5, hB, hZ⟩)
    have hm := condF hb2 hm
    refine cW_exit <| eX_then_exit ?_
    obtain rfl := someE (x := Ctl.out (Sum.inl l6)) hm
    refine eX_outX hx3 (fun hr3 => ?_)
    replace hr3 := hr3.symm
    subst hr3
    refine eX_block_hit ?_
    exact eX_J (fun hst => ⟨l6, A7, cap7, fp5, rfl, fO hst, F8, F9, F10, F12, G4, D2, hB, hZ⟩)
   rintro a' w8 ⟨l5, A6, cap6, fp4, hJ, hF3, F15, F16, F17, F18, G7, D7, hB, hZ⟩
   subst hJ
   refine gX hF3 <| eX_then <| cW_region <| wP 2 [(38, .slice A6 l5.length cap6), (37, .slice A4 l4.length cap4)] <| wS_row1 (k := 1) (enc := encI) (l := l5) (d := 39) (t := 54) (T := 56) (B := A6) (c := cap6) (by kernel_rfl) el54 F18 ?_
   intro b4 w9 G8 F19 hc7
   have D8 : Dj (fp3 ++ fr2) ([b4] ++ fp4) := Dj.app (Dj.of F17.low (low1 G8)) D7
   replace F15 := F15.c hc7
   replace F16 := F16.c hc7
   replace F17 := F17.c hc7
   replace F18 := F18.c hc7
   replace hB := hB.q hc7
   replace G8 := Nat.le_trans hZ G8
   replace G8 := lowApp (low1 G8) G7
   replace hZ := hc7.z hZ
   replace F18 := (F18.sl encI_ok)
   obtain ⟨_, hk2, hm⟩ := bindE hm
   replace hk2 := apE hk2
   refine wS_appendR (k := 1) (enc := encI) (ll := (l4 : List (List Int))) (ll2 := (([l5] : List (List Int)) : List (List Int))) (d := 40) (t := 54) (T := 56) (A := A4) (A2 := (some ⟨b4, 0, none⟩)) (cap := cap4) (cap2 := 1) (by kernel_rfl) el54 F17 F19 (by rfl) D8 hk2 ?_
   intro w10 fp7 A9 cap9 F20 hc8 hp2
   have G9 := lowApp (low_ap (low_inl G2) hZ hp2) (lowApp (low_inr G2) (low_inr G8))
   replace F15 := F15.chg hc8 (Dj.inl (Dj.of L0 G2))
   replace F16 := F16.chg hc8 (Dj.inl (Dj.of L1 G2))
   replace hB := hB.inS hc8 (memS_inl (inLow G2))
   replace hZ := hc8.z hZ
   refine wP 1 [(6, .slice A9 (l4 ++ (([l5] : List (List Int)))).length cap9)] <| wE <| eX_block <| eX_then <| cW_region <| wP 2 [(16, ii (wr (x1 + 1))), (41, ii (wr (x1 + 1)))] <| wE ?_
   obtain rfl := someE (x := (Ctl.next ((l4 ++ (([l5] : List (List Int))), wr (x1 + 1))))) hm
   exact eX_next hx1 (fun hst => ⟨l4 ++ (([l5] : List (List Int))), A9, cap9, fp7, (fr2 ++ fp4), wr (x1 + 1), rfl, fO hst, F15, F16, F20, G9, hB, hZ⟩)
  have hm := condF hb1 hm
  refine cW_exit <| eX_then_exit ?_
  obtain rfl := someE (x := Ctl.out (Sum.inl l4)) hm
  refine eX_outX hx1 (fun hr4 => ?_)
  replace hr4 := hr4.symm
  subst hr4
  refine eX_block_hit ?_
  exact eX_J (fun hst => ⟨l4, A4, cap4, fp3, fr2, rfl, fO hst, F5, G2, hB, hZ⟩)
 rintro a' w11 ⟨l3, A3, cap3, fp2, fr1, hJ, hF4, F21, G10, hB, hZ⟩
 subst hJ
 refine gX hF4 <| eX_then <| sR <| wP 3 [(5, .bool (true)), (4, .slice A3 l3.length cap3), (42, .slice A3 l3.length cap3)] <| wN <| cW_ret ?_
 obtain rfl := someE (x := ((l3, true))) hm
 refine rB (.slice A3 l3.length cap3) (.bool (true)) 4 5 ?_
 exact ⟨A3, cap3, fp2, fr1, rfl, F21, G10, hB⟩

set_option maxRecDepth 100000 in
/-- impl.order).setsOk -/
theorem c_impl_order_setsOk {w0 : World} {l0_0 : List Int} {A0_0 : Option Addr} {cap0_0 : Nat} {fp0_0 : List Nat} {l0_1 : List Int} {A0_1 : Option Addr} {cap0_1 : Nat} {fp0_1 : List Nat} {l1 : List (List Int)} {A1 : Option Addr} {cap1 : Nat} {fp1 : List Nat} {r : Bool} (hm : m_impl_order_setsOk l0_0 l0_1 l1 = some r) (F0_0 : Sl 1 encI w0 fp0_0 A0_0 l0_0) (F0_1 : Sl 1 encI w0 fp0_1 A0_1 l0_1) (F1 : SlR 1 encI w0 fp1 A1 l1) :
  Calls Tryd.prog 59 #[.agg #[.slice A0_0 l0_0.length cap0_0, .slice A0_1 l0_1.length cap0_1], .slice A1 l1.length cap1] w0 fun e w' => e = .returned (.bool (r)) ∧ Chg [] w0 w' := by
 have L0_0 := F0_0.low
 have L0_1 := F0_1.low
 have L1 := F1.low
 have hB : Chg [] w0 w0 := Chg.refl _ _
 have hZ := Nat.le_refl w0.heap.size
 unfold m_impl_order_setsOk at hm
 refine enterE (N := 87) Tryd.func59 (by rfl) Tryd.ntmps59 (by simp) [(0, .agg #[.slice A0_0 l0_0.length cap0_0, .slice A0_1 l0_1.length cap0_1]), (1, .slice A1 l1.length cap1)] (by rfl) (by kernel_rfl) (fun a => ?_)
 refine sR <| wS_box (d := 2) (T := 58) (x := .agg #[.slice A0_0 l0_0.length cap0_0, .slice A0_1 l0_1.length cap0_1]) (by kernel_rfl) ?_
 intro b1 w1 G1 F2 hc1
 replace F2 : Cl w1 b1 58 [.slice A0_0 l0_0.length cap0_0, .slice A0_1 l0_1.length cap0_1] := F2
 replace F0_0 := F0_0.c hc1
 replace F0_1 := F0_1.c hc1
 replace F1 := F1.c hc1
 replace hB := hB.q hc1
 replace G1 := Nat.le_trans hZ G1
 replace hZ := hc1.z hZ
 refine wP 1 [(4, .bool (false))] <| wN <| sR <| wP 1 [(5, ii 0)] <| wN <| cW_seq <| sR <| wP 3 [(15, ii 0), (14, ii (l1.length : Int)), (13, .slice A1 l1.length cap1)] <| wN ?_
 obtain ⟨r1, hr1, hm⟩ := bindE hm
 have hm1 := hm
 refine cW_cut (fun a' w' => ∃ x1 : Int, Sum.inl x1 = r1 ∧ Fr 87 [(2, pt b1), (5, ii x1)] a' ∧ Sl 1 encI w' fp0_0 A0_0 l0_0 ∧ Sl 1 encI w' fp0_1 A0_1 l0_1 ∧ Cl w' b1 58 [.slice A0_0 l0_0.length cap0_0, .slice A0_1 l0_1.length cap0_1] ∧ Chg [] w0 w' ∧ w0.heap.size ≤ w'.heap.size) ?_ ?_
 ·refine cW_block ?_
  refine cW_loop _ (fun (s1 : Int × Int) a' w' => ∃ x2 : Int, ∃ x3 : Int, (x2, x3) = s1 ∧ Fr 87 [(2, pt b1), (5, ii x2), (13, .slice A1 l1.length cap1), (14, ii (l1.length : Int)), (15, ii x3)] a' ∧ Sl 1 encI w' fp0_0 A0_0 l0_0 ∧ Sl 1 encI w' fp0_1 A0_1 l0_1 ∧ SlR 1 encI w' fp1 A1 l1 ∧ Cl w' b1 58 [.slice A0_0 l0_0.length cap0_0, .slice A0_1 l0_1.length cap0_1] ∧ Chg [] w0 w' ∧ w0.heap.size ≤ w'.heap.size) hr1 (fun hst => ⟨0, 0, rfl, fO hst, F0_0, F0_1, F1, F2, hB, hZ⟩) ?_
  rintro _ c1 a' w2 ⟨x2, x3, rfl, hF1, F3, F4, F5, F6, hB, hZ⟩ hx1
  refine gO hF1 ?_
  have hm := hx1
  unfold m_impl_order_setsOk_s5 at hm
  refine sR <| wP 1 [(16, .bool (decide (x3 < ((l1.length : Int)))))] <| wN <| cW_seq <| cC (decide (x3 < ((l1.length : Int)))) (fun hb1 => ?_) (fun hb1 => ?_)
  ·have hm := condT hb1 hm
   refine cW_skip <| eX_then <| cW_seq <| cW_block <| sR ?_
   obtain ⟨x4, hx2, hm⟩ := bindE hm
   refine sI 17 A1 l1.length cap1 .i64 x3 sl54 (F5.is hx2) ?_
   obtain ⟨A2, cap2, hc2, F7, K1⟩ := SlR.row F5 hx2
   refine sL 18 (elA A1 1 (x3) 0) (.slice A2 x4.length cap2) vt56 hc2 <| wP 1 [(7, .slice A2 x4.length cap2)] <| wN <| sR <| wP 1 [(8, ii 0)] <| wN <| cW_seq <| sR <| wP 3 [(21, ii 0), (20, ii (x4.length : Int)), (19, .slice A2 x4.length cap2)] <| wN ?_
   obtain ⟨r2, hr2, hm⟩ := bindE hm
   have hm2 := hm
   refine cW_cut (fun a' w' => ∃ x5 : Int, Sum.inl x5 = r2 ∧ Fr 87 [(2, pt b1), (5, ii x2), (7, .slice A2 x4.length cap2), (8, ii x5), (13, .slice A1 l1.length cap1), (14, ii (l1.length : Int)), (15, ii x3)] a' ∧ Sl 1 encI w' fp0_0 A0_0 l0_0 ∧ Sl 1 encI w' fp0_1 A0_1 l0_1 ∧ SlR 1 encI w' fp1 A1 l1 ∧ Cl w' b1 58 [.slice A0_0 l0_0.length cap0_0, .slice A0_1 l0_1.length cap0_1] ∧ Sl 1 encI w' fp1 A2 x4 ∧ Chg [] w0 w' ∧ w0.heap.size ≤ w'.heap.size) ?_ ?_
   ·refine cW_block ?_
    refine cW_loop _ (fun (s2 : Int × Int) a' w' => ∃ x6 : Int, ∃ x7 : Int, (x6, x7) = s2 ∧ Fr 87 [(2, pt b1), (5, ii x2), (7, .slice A2 x4.length cap2), (8, ii x6), (13, .slice A1 l1.length cap1), (14, ii (l1.length : Int)), (15, ii x3), (19, .slice A2 x4.length cap2), (20, ii (x4.length : Int)), (21, ii x7)] a' ∧ Sl 1 encI w' fp0_0 A0_0 l0_0 ∧ Sl 1 encI w' fp0_1 A0_1 l0_1 ∧ SlR 1 encI w' fp1 A1 l1 ∧ Cl w' b1 58 [.slice A0_0 l0_0.length cap0_0, .slice A0_1 l0_1.length cap0_1] ∧ Sl 1 encI w' fp1 A2 x4 ∧ Chg [] w0 w' ∧ w0.heap.size ≤ w'.heap.size) hr2 (fun hst => ⟨0, 0, rfl, fO hst, F3, F4, F5, F6, F7, hB, hZ⟩) ?_
    rintro _ c2 a' w3 ⟨x6, x7, rfl, hF2, F8, F9, F10, F11, F12, hB, hZ⟩ hx3
    refine gO hF2 ?_
    have hm := hx3
    unfold m_impl_order_setsOk_s6 at hm
    refine sR <| wP 1 [(22, .bool (decide (x7 < ((x4.length : Int)))))] <| wN <| cW_seq <| cC (decide (x7 < ((x4.length : Int)))) (fun hb2 => ?_) (fun hb2 => ?_)
    ·have hm := condT hb2 hm
     refine cW_skip <| eX_then <| cW_seq <| cW_block <| sR <| wP 1 [(23, ii x7)] ?_
     obtain ⟨x8, hx4, hm⟩ := bindE hm
     refine sI 24 A2 x4.length cap2 .i64 x7 sl56 (F12.is hx4) <| sL 25 (elA A2 1 (x7) 0) (ii x8) vt3 (Sl.cell F12 hx4 0 (by rfl)) <| wP 2 [(10, ii x8), (9, ii x7)] <| wN <| cW_seq <| sR <| wP 3 [(28, .bool (decide (x7 > 0))), (27, .bool (decide (x7 > 0))), (26, ii x7)] <| wS_bool (decide (x7 > 0)) (fun hb3 => ?_) (fun hb3 => ?_)
     ·have hm := condT hb3 hm
      rewrite [hb3]
      refine wP 3 [(31, ii (wr (x7 - 1))), (30, ii x7), (29, .slice A2 x4.length cap2)] ?_
      obtain ⟨x9, hx5, hm⟩ := bindE hm
      refine sI 32 A2 x4.length cap2 .i64 (wr (x7 - 1)) sl56 (F12.is hx5) <| sL 33 (elA A2 1 (wr (x7 - 1)) 0) (ii x9) vt3 (Sl.cell F12 hx5 0 (by rfl)) <| wP 4 [(37, .bool (decide (x9 ≥ x8))), (36, .bool (decide (x9 ≥ x8))), (35, .bool (decide (x9 ≥ x8))), (34, ii x8)] <| wS_bool (decide (x9 ≥ x8)) (fun hb4 => ?_) (fun hb4 => ?_)
      ·have hm := condT hb4 hm
       rewrite [hb4]
       refine wP 16 [(53, .bool (true)), (52, undef), (51, undef), (50, undef), (49, undef), (48, undef), (47, undef), (46, undef), (45, undef), (44, .bool (true)), (43, .bool (true)), (42, undef), (41, undef), (40, undef), (39, undef), (38, undef)] <| wN <| cP [(2, pt b1), (5, ii x2), (7, .slice A2 x4.length cap2), (8, ii x6), (10, ii x8), (13, .slice A1 l1.length cap1), (14, ii (l1.length : Int)), (15, ii x3), (19, .slice A2 x4.length cap2), (20, ii (x4.length : Int)), (21, ii x7), (53, .bool (true))] (fun a1 => ?_)
       refine cCt <| sR <| wP 1 [(4, .bool (false))] <| wN <| cW_ret <| eX_then_ret <| eX_block_ret <| eX_then_ret ?_
       obtain rfl := someE (x := Ctl.out (Sum.inr false)) hm
       refine eX_outR hx3 (fun hr => ?_)
       subst hr
       refine eX_block_ret <| eX_then_ret <| eX_then_ret <| eX_block_ret <| eX_then_ret ?_
       obtain rfl := someE (x := Ctl.out (Sum.inr false)) hm2
       refine eX_outR hx1 (fun hr => ?_)
       subst hr
       refine eX_block_ret <| eX_then_ret <| eX_then_ret ?_
       obtain rfl := someE (x := false) hm1
       refine rA (.bool (false)) 4 ?_
       exact ⟨rfl, hB⟩
      have hm := condF hb4 hm
      rewrite [hb4]
      refine wP 2 [(39, ii x8), (38, ii x2)] ?_
      obtain ⟨u1, hu1, hm⟩ := bindE hm
      refine wS_shr (d := 40) (x := x2) (y := x8) (yk := .i64) (by kernel_rfl) (p0E hu1) <| wP 4 [(44, .bool ((andI (shrI x2 x8) 1) == 1)), (43, .bool ((andI (shrI x2 x8) 1) == 1)), (42, .bool ((andI (shrI x2 x8) 1) == 1)), (41, ii (andI (shrI x2 x8) 1))] <| wS_bool ((andI (shrI x2 x8) 1) == 1) (fun hb5 => ?_) (fun hb5 => ?_)
      ·have hm := condT hb5 hm
       rewrite [hb5]
       refine wP 9 [(53, .bool (true)), (52, undef), (51, undef), (50, undef), (49, undef), (48, undef), (47, undef), (46, undef), (45, undef)] <| wN <| cP [(2, pt b1), (5, ii x2), (7, .slice A2 x4.length cap2), (8, ii x6), (10, ii x8), (13, .slice A1 l1.length cap1), (14, ii (l1.length : Int)), (15, ii x3), (19, .slice A2 x4.length cap2), (20, ii (x4.length : Int)), (21, ii x7), (53, .bool (true))] (fun a2 => ?_)
       refine cCt <| sR <| wP 1 [(4, .bool (false))] <| wN <| cW_ret <| eX_then_ret <| eX_block_ret <| eX_then_ret ?_
       obtain rfl := someE (x := Ctl.out (Sum.inr false)) hm
       refine eX_outR hx3 (fun hr => ?_)
       subst hr
       refine eX_block_ret <| eX_then_ret <| eX_then_ret <| eX_block_ret <| eX_then_ret ?_
       obtain rfl := someE (x := Ctl.out (Sum.inr false)) hm2
       refine eX_outR hx1 (fun hr => ?_)
       subst hr
       refine eX_block_ret <| eX_then_ret <| eX_then_ret ?_
       obtain rfl := someE (x := false) hm1
       refine rA (.bool (false)) 4 ?_
       exact ⟨rfl, hB⟩
      have hm := condF hb5 hm
      rewrite [hb5]
      refine wP 1 [(45, pt b1)] <| sL 46 ⟨b1, 0, none⟩ (.slice A0_0 l0_0.length cap0_0) vt56 ((F11).cell 0) <| wP 1 [(47, ii x8)] ?_
      obtain ⟨x10, hx6, hm⟩ := bindE hm
      refine sI 48 A0_0 l0_0.length cap0_0 .i64 x8 sl56 (F8.is hx6) <| sL 49 (elA A0_0 1 (x8) 0) (ii x10) vt3 (Sl.cell F8 hx6 0 (by rfl)) <| wP 4 [(53, .bool ((andI x10 x6) != 0)), (52, .bool ((andI x10 x6) != 0)), (51, ii (andI x10 x6)), (50, ii x6)] <| wN <| cP [(2, pt b1), (5, ii x2), (7, .slice A2 x4.length cap2), (8, ii x6), (10, ii x8), (13, .slice A1 l1.length cap1), (14, ii (l1.length : Int)), (15, ii x3), (19, .slice A2 x4.length cap2), (20, ii (x4.length : Int)), (21, ii x7), (53, .bool ((andI x10 x6) != 0))] (fun a3 => ?_)
      refine cC ((andI x10 x6) != 0) (fun hb6 => ?_) (fun hb6 => ?_)
      ·have hm := condT hb6 hm
       refine sR <| wP 1 [(4, .bool (false))] <| wN <| cW_ret <| eX_then_ret <| eX_block_ret <| eX_then_ret ?_
       obtain rfl := someE (x := Ctl.out (Sum.inr false)) hm
       refine eX_outR hx3 (fun hr => ?_)
       subst hr
       refine eX_block_ret <| eX_then_ret <| eX_then_ret <| eX_block_ret <| eX_then_ret ?_
       obtain rfl := someE (x := Ctl.out (Sum.inr false)) hm2
       refine eX_outR hx1 (fun hr => ?_)
       subst hr
       refine eX_block_ret <| eX_then_ret <| eX_then_ret ?_
       obtain rfl := someE (x := false) hm1
       refine rA (.bool (false)) 4 ?_
       exact ⟨rfl, hB⟩
      have hm := condF hb6 hm
      refine cW_skip <| eX_then <| cW_region <| wP 2 [(55, ii x8), (54, ii x6)] ?_
      obtain ⟨u2, hu2, hm⟩ := bindE hm
      refine wS_shl (d := 56) (x := 1) (y := x8) (yk := .i64) (by kernel_rfl) (p0E hu2) <| wP 2 [(8, ii (orI x6 (shlI 1 x8))), (57, ii (orI x6 (shlI 1 x8)))] <| wE <| eX_block <| eX_then <| cW_region <| wP 2 [(21, ii (wr (x7 + 1))), (58, ii (wr (x7 + 1)))] <| wE ?_
      obtain rfl := someE (x := (Ctl.next ((orI x6 (shlI 1 x8), wr (x7 + 1))))) hm
      exact eX_next hx3 (fun hst => ⟨orI x6 (shlI 1 x8), wr (x7 + 1), rfl, fO hst, F8, F9, F10, F11, F12, hB, hZ⟩)
     have hm := condF hb3 hm
     rewrite [hb3]
     refine wP 11 [(39, ii x8), (38, ii x2), (37, .bool (false)), (36, .bool (false)), (35, undef), (34, undef), (33, undef), (32, undef), (31, undef), (30, undef), (29, undef)] ?_
     obtain ⟨u3, hu3, hm⟩ := bindE hm
     refine wS_shr (d := 40) (x := x2) (y := x8) (yk := .i64) (by kernel_rfl) (p0E hu3) <| wP 4 [(44, .bool ((andI (shrI x2 x8) 1) == 1)), (43, .bool ((andI (shrI x2 x8) 1) == 1)), (42, .bool ((andI (shrI x2 x8) 1) == 1)), (41, ii (andI (shrI x2 x8) 1))] <| wS_bool ((andI (shrI x2 x8) 1) == 1) (fun hb7 => ?_) (fun hb7 => ?_)
     ·have hm := condT hb7 hm
      rewrite [hb7]
      refine wP 9 [(53, .bool (true)), (52, undef), (51, undef), (50, undef), (49, undef), (48, undef), (47, undef), (46, undef), (45, undef)] <| wN <| cP [(2, pt b1), (5, ii x2), (7, .slice A2 x4.length cap2), (8, ii x6), (10, ii x8), (13, .slice A1 l1.length cap1), (14, ii (l1.length : Int)), (15, ii x3), (19, .slice A2 x4.length cap2), (20, ii (x4.length : Int)), (21, ii x7), (53, .bool (true))] (fun a4 => ?_)
      refine cCt <| sR <| wP 1 [(4, .bool (false))] <| wN <| cW_ret <| eX_then_ret <| eX_block_ret <| eX_then_ret ?_
      obtain rfl := someE (x := Ctl.out (Sum.inr false)) hm
      refine eX_outR hx3 (fun hr => ?_)
      subst hr
      refine eX_block_ret <| eX_then_ret <| eX_then_ret <| eX_block_ret <| eX_then_ret ?_
      obtain rfl := someE (x := Ctl.out (Sum.inr false)) hm2
      refine eX_outR hx1 (fun hr => ?_)
      subst hr
      refine eX_block_ret <| eX_then_ret <| eX_then_ret ?_
      obtain rfl := someE (x := false) hm1
      refine rA (.bool (false)) 4 ?_
      exact ⟨rfl, hB⟩
     have hm := condF hb7 hm
     rewrite [hb7]
     refine wP 1 [(45, pt b1)] <| sL 46 ⟨b1, 0, none⟩ (.slice A0_0 l0_0.length cap0_0) vt56 ((F11).cell 0) <| wP 1 [(47, ii x8)] ?_
     obtain ⟨x11, hx7, hm⟩ := bindE hm
     refine sI 48 A0_0 l0_0.length cap0_0 .i64 x8 sl56 (F8.is hx7) <| sL 49 (elA A0_0 1 (x8) 0) (ii x11) vt3 (Sl.cell F8 hx7 0 (by rfl)) <| wP 4 [(53, .bool ((andI x11 x6) != 0)), (52, .bool ((andI x11 x6) != 0)), (51, ii (andI x11 x6)), (50, ii x6)] <| wN <| cP [(2, pt b1), (5, ii x2), (7, .slice A2 x4.length cap2), (8, ii x6), (10, ii x8), (13, .slice A1 l1.length cap1), (14, ii (l1.length : Int)), (15, ii x3), (19, .slice A2 x4.length cap2), (20, ii (x4.length : Int)), (21, ii x7), (53, .bool ((andI x11 x6) != 0))] (fun a5 => ?_)
     refine cC ((andI x11 x6) != 0) (fun hb8 => ?_) (fun hb8 => ?_)
     ·have hm := condT hb8 hm
      refine sR <| wP 1 [(4, .bool (false))] <| wN <| cW_ret <| eX_then_ret <| eX_block_ret <| eX_then_ret ?_
      obtain rfl := someE (x := Ctl.out (Sum.inr false)) hm
      refine eX_outR hx3 (fun hr => ?_)
      subst hr
      refine eX_block_ret <| eX_then_ret <| eX_then_ret <| eX_block_ret <| eX_then_ret ?_
      obtain rfl := someE (x := Ctl.out (Sum.inr false)) hm2
      refine eX_outR hx1 (fun hr => ?_)
      subst hr
      refine eX_block_ret <| eX_then_ret <| eX_then_ret ?_
      obtain rfl := someE (x := false) hm1
      refine rA (.bool (false)) 4 ?_
      exact ⟨rfl, hB⟩
     have hm := condF hb8 hm
     refine cW_skip <| eX_then <| cW_region <| wP 2 [(55, ii x8), (54, ii x6)] ?_
     obtain ⟨u4, hu4, hm⟩ := bindE hm
     refine wS_shl (d := 56) (x := 1) (y := x8) (yk := .i64) (by kernel_rfl) (p0E hu4) <| wP 2 [(8, ii (orI x6 (shlI 1 x8))), (57, ii (orI x6 (shlI 1 x8)))] <| wE <| eX_block <| eX_then <| cW_region <| wP 2 [(21, ii (wr (x7 + 1))), (58, ii (wr (x7 + 1)))] <| wE ?_
     obtain rfl := someE (x := (Ctl.next ((orI x6 (shlI 1 x8), wr (x7 + 1))))) hm
     exact eX_next hx3 (fun hst => ⟨orI x6 (shlI 1 x8), wr (x7 + 1), rfl, fO hst, F8, F9, F10, F11, F12, hB, hZ⟩)
    have hm := condF hb2 hm
    refine cW_exit <| eX_then_exit ?_
    obtain rfl := someE (x := Ctl.out (Sum.inl x6)) hm
    refine eX_outX hx3 (fun hr3 => ?_)
    replace hr3 := hr3.symm
    subst hr3
    refine eX_block_hit ?_
    exact eX_J (fun hst => ⟨x6, rfl, fO hst, F8, F9, F10, F11, F12, hB, hZ⟩)
   rintro a' w4 ⟨x5, hJ, hF3, F13, F14, F15, F16, F17, hB, hZ⟩
   subst hJ
   refine gX hF3 <| eX_then <| cW_seq <| sR <| wP 2 [(60, .bool (x5 == 0)), (59, ii x5)] <| wN <| cC (x5 == 0) (fun hb9 => ?_) (fun hb9 => ?_)
   ·have hm := condT hb9 hm
    refine sR <| wP 1 [(4, .bool (false))] <| wN <| cW_ret <| eX_then_ret <| eX_block_ret <| eX_then_ret ?_
    obtain rfl := someE (x := Ctl.out (Sum.inr false)) hm
    refine eX_outR hx1 (fun hr => ?_)
    subst hr
    refine eX_block_ret <| eX_then_ret <| eX_then_ret ?_
    obtain rfl := someE (x := false) hm1
    refine rA (.bool (false)) 4 ?_
    exact ⟨rfl, hB⟩
   have hm := condF hb9 hm
   refine cW_skip <| eX_then <| cW_seq <| sR <| wP 3 [(63, ii 0), (62, ii (x4.length : Int)), (61, .slice A2 x4.length cap2)] <| wN ?_
   obtain ⟨r3, hr4, hm⟩ := bindE hm
   have hm3 := hm
   refine cW_cut (fun a' w' => Sum.inl (()) = r3 ∧ Fr 87 [(2, pt b1), (5, ii x2), (8, ii x5), (13, .slice A1 l1.length cap1), (14, ii (l1.length : Int)), (15, ii x3)] a' ∧ Sl 1 encI w' fp0_0 A0_0 l0_0 ∧ Sl 1 encI w' fp0_1 A0_1 l0_1 ∧ SlR 1 encI w' fp1 A1 l1 ∧ Cl w' b1 58 [.slice A0_0 l0_0.length cap0_0, .slice A0_1 l0_1.length cap0_1] ∧ Chg [] w0 w' ∧ w0.heap.size ≤ w'.heap.size) ?_ ?_
   ·refine cW_block ?_
    refine cW_loop _ (fun (s3 : Int) a' w' => ∃ x12 : Int, x12 = s3 ∧ Fr 87 [(2, pt b1), (5, ii x2), (8, ii x5), (13, .slice A1 l1.length cap1), (14, ii (l1.length : Int)), (15, ii x3), (61, .slice A2 x4.length cap2), (62, ii (x4.length : Int)), (63, ii x12)] a' ∧ Sl 1 encI w' fp0_0 A0_0 l0_0 ∧ Sl 1 encI w' fp0_1 A0_1 l0_1 ∧ SlR 1 encI w' fp1 A1 l1 ∧ Cl w' b1 58 [.slice A0_0 l0_0.length cap0_0, .slice A0_1 l0_1.length cap0_1] ∧ Sl 1 encI w' fp1 A2 x4 ∧ Chg [] w0 w' ∧ w0.heap.size ≤ w'.heap.size) hr4 (fun hst => ⟨0, rfl, fO hst, F13, F14, F15, F16, F17, hB, hZ⟩) ?_
    rintro _ c3 a' w5 ⟨x12, rfl, hF4, F18, F19, F20, F21, F22, hB, hZ⟩ hx8
    refine gO hF4 ?_
    have hm := hx8
    unfold m_impl_order_setsOk_s7 at hm
    refine sR <| wP 1 [(64, .bool (decide (x12 < ((x4.length : Int)))))] <| wN <| cW_seq <| cC (decide (x12 < ((x4.length : Int)))) (fun hb10 => ?_) (fun hb10 => ?_)
    ·have hm := condT hb10 hm
     refine cW_skip <| eX_then <| cW_seq <| cW_block <| sR ?_
     obtain ⟨x13, hx9, hm⟩ := bindE hm
     refine sI 65 A2 x4.length cap2 .i64 x12 sl56 (F22.is hx9) <| sL 66 (elA A2 1 (x12) 0) (ii x13) vt3 (Sl.cell F22 hx9 0 (by rfl)) <| wP 1 [(12, ii x13)] <| wN <| sR <| wP 1 [(67, .pointer (some ⟨b1, 1, none⟩))] <| sL 68 ⟨b1, 1, none⟩ (.slice A0_1 l0_1.length cap0_1) vt56 ((F21).cell 1) <| wP 1 [(69, ii x13)] ?_
     obtain ⟨x14, hx10, hm⟩ := bindE hm
     refine sI 70 A0_1 l0_1.length cap0_1 .i64 x13 sl56 (F19.is hx10) <| sL 71 (elA A0_1 1 (x13) 0) (ii x14) vt3 (Sl.cell F19 hx10 0 (by rfl)) <| wP 3 [(74, .bool ((andNI x14 x2) != 0)), (73, ii (andNI x14 x2)), (72, ii x2)] <| wN <| cC ((andNI x14 x2) != 0) (fun hb11 => ?_) (fun hb11 => ?_)
     ·have hm := condT hb11 hm
      refine sR <| wP 1 [(4, .bool (false))] <| wN <| cW_ret <| eX_block_ret <| eX_then_ret ?_
      obtain rfl := someE (x := Ctl.out (Sum.inr false)) hm
      refine eX_outR hx8 (fun hr => ?_)
      subst hr
      refine eX_block_ret <| eX_then_ret <| eX_then_ret <| eX_block_ret <| eX_then_ret ?_
      obtain rfl := someE (x := Ctl.out (Sum.inr false)) hm3
      refine eX_outR hx1 (fun hr => ?_)
      subst hr
      refine eX_block_ret <| eX_then_ret <| eX_then_ret ?_
      obtain rfl := someE (x := false) hm1
      refine rA (.bool (false)) 4 ?_
      exact ⟨rfl, hB⟩
     have hm := condF hb11 hm
     refine cW_skip <| eX_block <| eX_then <| cW_region <| wP 2 [(63, ii (wr (x12 + 1))), (75, ii (wr (x12 + 1)))] <| wE ?_
     obtain rfl := someE (x := Ctl.next (wr (x12 + 1))) hm
     exact eX_next hx8 (fun hst => ⟨wr (x12 + 1), rfl, fO hst, F18, F19, F20, F21, F22, hB, hZ⟩)
    have hm := condF hb10 hm
    refine cW_exit <| eX_then_exit ?_
    obtain rfl := someE (x := Ctl.out (Sum.inl (()))) hm
    refine eX_outX hx8 (fun hr5 => ?_)
    replace hr5 := hr5.symm
    subst hr5
    refine eX_block_hit ?_
    exact eX_J (fun hst => ⟨rfl, fO hst, F18, F19, F20, F21, hB, hZ⟩)
   rintro a' w6 ⟨hJ, hF5, F23, F24, F25, F26, hB, hZ⟩
   subst hJ
   refine gX hF5 <| eX_then <| cW_region <| wP 4 [(5, ii (orI x2 x5)), (78, ii (orI x2 x5)), (77, ii x5), (76, ii x2)] <| wE <| eX_block <| eX_then <| cW_region <| wP 2 [(15, ii (wr (x3 + 1))), (79, ii (wr (x3 + 1)))] <| wE ?_
   obtain rfl := someE (x := (Ctl.next ((orI x2 x5, wr (x3 + 1))))) hm
   exact eX_next hx1 (fun hst => ⟨orI x2 x5, wr (x3 + 1), rfl, fO hst, F23, F24, F25, F26, hB, hZ⟩)
  have hm := condF hb1 hm
  refine cW_exit <| eX_then_exit ?_
  obtain rfl := someE (x := Ctl.out (Sum.inl x2)) hm
  refine eX_outX hx1 (fun hr6 => ?_)
  replace hr6 := hr6.symm
  subst hr6
  refine eX_block_hit ?_
  exact eX_J (fun hst => ⟨x2, rfl, fO hst, F3, F4, F6, hB, hZ⟩)
 rintro a' w7 ⟨x1, hJ, hF6, F27, F28, F29, hB, hZ⟩
 subst hJ
 refine gX hF6 <| eX_then <| sR <| wP 2 [(81, pt b1), (80, ii x1)] <| sL 82 ⟨b1, 0, none⟩ (.slice A0_0 l0_0.length cap0_0) vt56 ((F29).cell 0) <| wP 1 [(83, ii (l0_0.length : Int))] ?_
 obtain ⟨u5, hu5, hm⟩ := bindE hm
 refine wS_shl (d := 84) (x := 1) (y := (l0_0.length : Int)) (yk := .i64) (by kernel_rfl) (p0E hu5) <| wP 3 [(4, .bool (x1 == (wr ((shlI 1 ((l0_0.length : Int))) - 1)))), (86, .bool (x1 == (wr ((shlI 1 ((l0_0.length : Int))) - 1)))), (85, ii (wr ((shlI 1 ((l0_0.length : Int))) - 1)))] <| wN <| cW_ret ?_
 obtain rfl := someE (x := (x1 == (wr ((shlI 1 ((l0_0.length : Int))) - 1)))) hm
 refine rA (.bool (x1 == (wr ((shlI 1 ((l0_0.length : Int))) - 1)))) 4 ?_
 exact ⟨rfl, hB⟩

set_option maxRecDepth 100000 in
/-- spec.l00In -/
theorem c_spec_l00In {w0 : World} {p0 : Int} {p1 : Int} {p2 : Int} {r : Bool} (hm : m_spec_l00In p0 p1 p2 = some r)  :
  Calls Tryd.prog 94 #[ii p0, ii p1, ii p2] w0 fun e w' => e = .returned (.bool (r)) ∧ Chg [] w0 w' := by
 have hB : Chg [] w0 w0 := Chg.refl _ _
 have hZ := Nat.le_refl w0.heap.size
 unfold m_spec_l00In at hm
 refine enterE (N := 15) Tryd.func94 (by rfl) Tryd.ntmps94 (by simp) [(0, ii p0), (1, ii p1), (2, ii p2)] (by rfl) (by kernel_rfl) (fun a => ?_)
 refine sR <| wP 1 [(6, .bool (false))] <| wN <| sR <| wP 4 [(10, .bool (decide (p0 ≥ p1))), (9, .bool (decide (p0 ≥ p1))), (8, ii p1), (7, ii p0)] <| wS_bool (decide (p0 ≥ p1)) (fun hb1 => ?_) (fun hb1 => ?_)
 ·have hm := condT hb1 hm
  rewrite [hb1]
  refine wP 5 [(6, .bool (decide (p0 ≤ p2))), (14, .bool (decide (p0 ≤ p2))), (13, .bool (decide (p0 ≤ p2))), (12, ii p2), (11, ii p0)] <| wN <| cW_ret ?_
  obtain rfl := someE (x := decide (p0 ≤ p2)) hm
  refine rA (.bool (decide (p0 ≤ p2))) 6 ?_
  exact ⟨rfl, hB⟩
 have hm := condF hb1 hm
 rewrite [hb1]
 refine wP 5 [(6, .bool (false)), (14, .bool (false)), (13, undef), (12, undef), (11, undef)] <| wN <| cW_ret ?_
 obtain rfl := someE (x := false) hm
 refine rA (.bool (false)) 6 ?_
 exact ⟨rfl, hB⟩

set_option maxRecDepth 100000 in
/-- spec.l03Is -/
theorem c_spec_l03Is_bimplChannel {w0 : World} {l0_0 : List Int} {A0_0 : Option Addr} {cap0_0 : Nat} {fp0_0 : List Nat} {l0_1 : List Int} {A0_1 : Option Addr} {cap0_1 : Nat} {fp0_1 : List Nat} {b0 : Nat} {r : Bool} (hm : m_spec_l03Is_bimplChannel l0_0 l0_1 = some r) (F0_0 : Sl 1 encI w0 fp0_0 A0_0 l0_0) (F0_1 : Sl 1 encI w0 fp0_1 A0_1 l0_1) (F0 : Cl w0 b0 26 [.slice A0_0 l0_0.length cap0_0, .slice A0_1 l0_1.length cap0_1]) :
  Calls Tryd.prog 60 #[pt b0] w0 fun e w' => e = .returned (.bool (r)) ∧ Chg [] w0 w' := by
 have L0_0 := F0_0.low
 have L0_1 := F0_1.low
 have L0 := lt1 F0.lt
 have hB : Chg [] w0 w0 := Chg.refl _ _
 have hZ := Nat.le_refl w0.heap.size
 unfold m_spec_l03Is_bimplChannel at hm
 refine enterE (N := 88) Tryd.func60 (by rfl) Tryd.ntmps60 (by simp) [(0, pt b0)] (by rfl) (by kernel_rfl) (fun a => ?_)
 refine sR <| wP 1 [(2, .bool (false))] <| wN <| sR <| wP 3 [(9, pt b0), (8, pt b0), (7, pt b0)] <| sL 10 ⟨b0, 0, none⟩ (.slice A0_0 l0_0.length cap0_0) vt24 ((F0).cell 0) <| wP 2 [(3, ii (l0_0.length : Int)), (11, ii (l0_0.length : Int))] <| wN <| cW_seq <| sR <| wP 3 [(14, .bool (decide (((l0_0.length : Int)) < 1))), (13, .bool (decide (((l0_0.length : Int)) < 1))), (12, ii (l0_0.length : Int))] <| wS_bool (decide (((l0_0.length : Int)) < 1)) (fun hb1 => ?_) (fun hb1 => ?_)
 ·have hm := condT hb1 hm
  rewrite [hb1]
  refine wP 12 [(26, .bool (true)), (25, undef), (24, undef), (23, undef), (22, undef), (21, undef), (20, undef), (19, undef), (18, .bool (true)), (17, .bool (true)), (16, undef), (15, undef)] <| wN <| cCt <| sR <| wP 1 [(2, .bool (false))] <| wN <| cW_ret <| eX_then_ret ?_
  obtain rfl := someE (x := false) hm
  refine rA (.bool (false)) 2 ?_
  exact ⟨rfl, hB⟩
 have hm := condF hb1 hm
 rewrite [hb1]
 refine wP 4 [(18, .bool (decide (((l0_0.length : Int)) > 24))), (17, .bool (decide (((l0_0.length : Int)) > 24))), (16, .bool (decide (((l0_0.length : Int)) > 24))), (15, ii (l0_0.length : Int))] <| wS_bool (decide (((l0_0.length : Int)) > 24)) (fun hb2 => ?_) (fun hb2 => ?_)
 ·have hm := condT hb2 hm
  rewrite [hb2]
  refine wP 8 [(26, .bool (true)), (25, undef), (24, undef), (23, undef), (22, undef), (21, undef), (20, undef), (19, undef)] <| wN <| cCt <| sR <| wP 1 [(2, .bool (false))] <| wN <| cW_ret <| eX_then_ret ?_
  obtain rfl := someE (x := false) hm
  refine rA (.bool (false)) 2 ?_
  exact ⟨rfl, hB⟩
 have hm := condF hb2 hm
 rewrite [hb2]
 refine wP 3 [(21, .pointer (some ⟨b0, 1, none⟩)), (20, pt b0), (19, pt b0)] <| sL 22 ⟨b0, 1, none⟩ (.slice A0_1 l0_1.length cap0_1) vt24 ((F0).cell 1) <| wP 4 [(26, .bool (((l0_1.length : Int)) != ((l0_0.length : Int)))), (25, .bool (((l0_1.length : Int)) != ((l0_0.length : Int)))), (24, ii (l0_0.length : Int)), (23, ii (l0_1.length : Int))] <| wN <| cC (((l0_1.length : Int)) != ((l0_0.length : Int))) (fun hb3 => ?_) (fun hb3 => ?_)
 ·have hm := condT hb3 hm
  refine sR <| wP 1 [(2, .bool (false))] <| wN <| cW_ret <| eX_then_ret ?_
  obtain rfl := someE (x := false) hm
  refine rA (.bool (false)) 2 ?_
  exact ⟨rfl, hB⟩
 have hm := condF hb3 hm
 refine cW_skip <| eX_then <| sR ?_
 obtain ⟨_, hk1, hm⟩ := bindE hm
 replace hk1 := mkE hk1
 refine wS_make (enc := encI) (x0 := (0 : Int)) (d := 27) (t := 24) (T := 2) (k1 := .i64) (k2 := .i64) (m := 13) (by kernel_rfl) el24 encI_ok (by rfl) hk1.1 hk1.2 ?_
 intro b1 w1 G1 F1 hc1
 replace F0_0 := F0_0.c hc1
 replace F0_1 := F0_1.c hc1
 replace F0 := F0.c hc1
 replace hB := hB.q hc1
 replace G1 := Nat.le_trans hZ G1
 replace G1 := low1 G1
 replace hZ := hc1.z hZ
 refine wP 1 [(4, .slice (some ⟨b1, 0, none⟩) (List.replicate (Int.toNat 13) ((0 : Int))).length (Int.toNat 13))] <| wN <| cP [(0, pt b0), (3, ii (l0_0.length : Int)), (4, .slice (some ⟨b1, 0, none⟩) (List.replicate (Int.toNat 13) ((0 : Int))).length (Int.toNat 13))] (fun a1 => ?_)
 refine cW_seq <| sR <| wP 1 [(5, ii 0)] <| wN ?_
 obtain ⟨r1, hr1, hm⟩ := bindE hm
 have hm1 := hm
 refine cW_cut (fun a' w' => ∃ l1 : List Int, Sum.inl l1 = r1 ∧ Fr 88 [(4, .slice (some ⟨b1, 0, none⟩) l1.length (Int.toNat 13))] a' ∧ Ow 1 encI 2 w' [b1] (some ⟨b1, 0, none⟩) (Int.toNat 13) l1 ∧ Chg [] w0 w' ∧ w0.heap.size ≤ w'.heap.size) ?_ ?_
 ·refine cW_block ?_
  refine cW_loop _ (fun (s1 : Int × (List Int)) a' w' => ∃ x1 : Int, ∃ l2 : List Int, (x1, l2) = s1 ∧ Fr 88 [(0, pt b0), (3, ii (l0_0.length : Int)), (4, .slice (some ⟨b1, 0, none⟩) l2.length (Int.toNat 13)), (5, ii x1)] a' ∧ Sl 1 encI w' fp0_0 A0_0 l0_0 ∧ Sl 1 encI w' fp0_1 A0_1 l0_1 ∧ Cl w' b0 26 [.slice A0_0 l0_0.length cap0_0, .slice A0_1 l0_1.length cap0_1] ∧ Ow 1 encI 2 w' [b1] (some ⟨b1, 0, none⟩) (Int.toNat 13) l2 ∧ Chg [] w0 w' ∧ w0.heap.size ≤ w'.heap.size) hr1 (fun hst => ⟨0, List.replicate (Int.toNat 13) ((0 : Int)), rfl, fO hst, F0_0, F0_1, F0, F1, hB, hZ⟩) ?_
  rintro _ c1 a' w2 ⟨x1, l2, rfl, hF1, F2, F3, F4, F5, hB, hZ⟩ hx1
  refine gO hF1 ?_
  have hm := hx1
  unfold m_spec_l03Is_bimplChannel_s1 at hm
  refine cW_seq <| sR <| wP 3 [(30, .bool (decide (x1 < ((l0_0.length : Int))))), (29, ii (l0_0.length : Int)), (28, ii x1)] <| wN <| cC (decide (x1 < ((l0_0.length : Int)))) (fun hb4 => ?_) (fun hb4 => ?_)
  ·have hm := condT hb4 hm
   refine cW_skip <| eX_then <| cW_seq <| cW_block <| cW_seq <| sR <| wP 3 [(35, pt b0), (34, pt b0), (33, pt b0)] <| sL 36 ⟨b0, 0, none⟩ (.slice A0_0 l0_0.length cap0_0) vt24 ((F4).cell 0) <| wP 1 [(37, ii x1)] ?_
   obtain ⟨x2, hx2, hm⟩ := bindE hm
   refine sI 38 A0_0 l0_0.length cap0_0 .i64 x1 sl24 (F2.is hx2) <| sL 39 (elA A0_0 1 (x1) 0) (ii x2) vt2 (Sl.cell F2 hx2 0 (by rfl)) ?_
   obtain ⟨y1, hy1, hm⟩ := bindE hm
   refine sC 40 [ii x2, ii 0, ii 12] ent94 (c_spec_l00In hy1) ?_
   rintro _ w3 ⟨rfl, hc2⟩
   replace F2 := F2.c hc2
   replace F3 := F3.c hc2
   replace F4 := F4.c hc2
   replace F5 := F5.c hc2
   replace hB := hB.q hc2
   replace hZ := hc2.z hZ
   refine ⟨.bool (y1), rfl, ?_⟩
   refine wP 2 [(42, .bool (!y1)), (41, .bool (!y1))] <| wS_bool (!y1) (fun hb5 => ?_) (fun hb5 => ?_)
   ·have hm := condT hb5 hm
    rewrite [hb5]
    refine wP 10 [(52, .bool (true)), (51, undef), (50, undef), (49, undef), (48, undef), (47, undef), (46, undef), (45, undef), (44, undef), (43, undef)] <| wN <| cP [(0, pt b0), (3, ii (l0_0.length : Int)), (4, .slice (some ⟨b1, 0, none⟩) l2.length (Int.toNat 13)), (5, ii x1), (52, .bool (true))] (fun a2 => ?_)
    refine cCt <| sR <| wP 1 [(2, .bool (false))] <| wN <| cW_ret <| eX_then_ret <| eX_block_ret <| eX_then_ret ?_
    obtain rfl := someE (x := Ctl.out (Sum.inr false)) hm
    refine eX_outR hx1 (fun hr => ?_)
    subst hr
    refine eX_block_ret <| eX_then_ret <| eX_then_ret ?_
    obtain rfl := someE (x := false) hm1
    refine rA (.bool (false)) 2 ?_
    exact ⟨rfl, hB⟩
   have hm := condF hb5 hm
   rewrite [hb5]
   refine wP 3 [(45, .pointer (some ⟨b0, 1, none⟩)), (44, pt b0), (43, pt b0)] <| sL 46 ⟨b0, 1, none⟩ (.slice A0_1 l0_1.length cap0_1) vt24 ((F4).cell 1) <| wP 1 [(47, ii x1)] ?_
   obtain ⟨x3, hx3, hm⟩ := bindE hm
   refine sI 48 A0_1 l0_1.length cap0_1 .i64 x1 sl24 (F3.is hx3) <| sL 49 (elA A0_1 1 (x1) 0) (ii x3) vt2 (Sl.cell F3 hx3 0 (by rfl)) ?_
   obtain ⟨y2, hy2, hm⟩ := bindE hm
   refine sC 50 [ii x3, ii 0, ii 12] ent94 (c_spec_l00In hy2) ?_
   rintro _ w4 ⟨rfl, hc3⟩
   replace F2 := F2.c hc3
   replace F3 := F3.c hc3
   replace F4 := F4.c hc3
   replace F5 := F5.c hc3
   replace hB := hB.q hc3
   replace hZ := hc3.z hZ
   refine ⟨.bool (y2), rfl, ?_⟩
   refine wP 2 [(52, .bool (!y2)), (51, .bool (!y2))] <| wN <| cP [(0, pt b0), (3, ii (l0_0.length : Int)), (4, .slice (some ⟨b1, 0, none⟩) l2.length (Int.toNat 13)), (5, ii x1), (52, .bool (!y2))] (fun a3 => ?_)
   refine cC (!y2) (fun hb6 => ?_) (fun hb6 => ?_)
   ·have hm := condT hb6 hm
    refine sR <| wP 1 [(2, .bool (false))] <| wN <| cW_ret <| eX_then_ret <| eX_block_ret <| eX_then_ret ?_
    obtain rfl := someE (x := Ctl.out (Sum.inr false)) hm
    refine eX_outR hx1 (fun hr => ?_)
    subst hr
    refine eX_block_ret <| eX_then_ret <| eX_then_ret ?_
    obtain rfl := someE (x := false) hm1
    refine rA (.bool (false)) 2 ?_
    exact ⟨rfl, hB⟩
   have hm := condF hb6 hm
   refine cW_skip <| eX_then <| sR <| wP 4 [(56, pt b0), (55, pt b0), (54, pt b0), (53, .slice (some ⟨b1, 0, none⟩) l2.length (Int.toNat 13))] <| sL 57 ⟨b0, 0, none⟩ (.slice A0_0 l0_0.length cap0_0) vt24 ((F4).cell 0) <| wP 1 [(58, ii x1)] ?_
   obtain ⟨x4, hx4, hm⟩ := bindE hm
   refine sI 59 A0_0 l0_0.length cap0_0 .i64 x1 sl24 (F2.is hx4) <| sL 60 (elA A0_0 1 (x1) 0) (ii x4) vt2 (Sl.cell F2 hx4 0 (by rfl)) ?_
   obtain ⟨x5, hx5, hm⟩ := bindE hm
   refine sI 61 (some ⟨b1, 0, none⟩) l2.length (Int.toNat 13) .i64 x4 sl24 ((F5.sl encI_ok).is hx5) <| sL 62 (elA (some ⟨b1, 0, none⟩) 1 (x4) 0) (ii x5) vt2 (Sl.cell (F5.sl encI_ok) hx5 0 (by rfl)) <| wP 1 [(63, ii (wr (x5 + 1)))] ?_
   obtain ⟨x6, hx6, hm⟩ := bindE hm
   refine sI 64 (some ⟨b1, 0, none⟩) l2.length (Int.toNat 13) .i64 x4 sl24 ((F5.sl encI_ok).is hx6) ?_
   refine wS_storeEl (x := x6) (wr (x5 + 1)) (T := 2) (U := 2) (cap := (Int.toNat 13)) (j := 0) (A := (some ⟨b1, 0, none⟩)) (v := ii (wr (x5 + 1))) (vs := [ii (wr (x5 + 1))]) (m := x4) (by kernel_rfl) (by rfl) sz2 (by rfl) encI_ok F5 hx6 (by simp only [List.length_cons, List.length_nil]; omega) (by rfl) ?_
   intro w5 F6 hc4
   replace F2 := F2.chg hc4 (Dj.of L0_0 G1)
   replace F3 := F3.chg hc4 (Dj.of L0_1 G1)
   replace F4 := F4.chg hc4 (dj1 (Dj.of L0 G1))
   replace hB := hB.inS hc4 (inLow G1)
   replace hZ := hc4.z hZ
   clear F5
   rewrite [show l2.length = (l2.set (Int.toNat x4) (wr (x5 + 1))).length from (List.length_set ..).symm]
   refine wN <| cW_region <| wP 4 [(68, .pointer (some ⟨b0, 1, none⟩)), (67, pt b0), (66, pt b0), (65, .slice (some ⟨b1, 0, none⟩) (l2.set (Int.toNat x4) (wr (x5 + 1))).length (Int.toNat 13))] <| sL 69 ⟨b0, 1, none⟩ (.slice A0_1 l0_1.length cap0_1) vt24 ((F4).cell 1) <| wP 1 [(70, ii x1)] ?_
   obtain ⟨x7, hx7, hm⟩ := bindE hm
   refine sI 71 A0_1 l0_1.length cap0_1 .i64 x1 sl24 (F3.is hx7) <| sL 72 (elA A0_1 1 (x1) 0) (ii x7) vt2 (Sl.cell F3 hx7 0 (by rfl)) ?_
   obtain ⟨x8, hx8, hm⟩ := bindE hm
   refine sI 73 (some ⟨b1, 0, none⟩) ((l2.set (Int.toNat x4) (wr (x5 + 1))).length) (Int.toNat 13) .i64 x7 sl24 ((F6.sl encI_ok).is hx8) <| sL 74 (elA (some ⟨b1, 0, none⟩) 1 (x7) 0) (ii x8) vt2 (Sl.cell (F6.sl encI_ok) hx8 0 (by rfl)) <| wP 1 [(75, ii (wr (x8 + 1)))] ?_
   obtain ⟨x9, hx9, hm⟩ := bindE hm
   refine sI 76 (some ⟨b1, 0, none⟩) ((l2.set (Int.toNat x4) (wr (x5 + 1))).length) (Int.toNat 13) .i64 x7 sl24 ((F6.sl encI_ok).is hx9) ?_
   refine wS_storeEl (x := x9) (wr (x8 + 1)) (T := 2) (U := 2) (cap := (Int.toNat 13)) (j := 0) (A := (some ⟨b1, 0, none⟩)) (v := ii (wr (x8 + 1))) (vs := [ii (wr (x8 + 1))]) (m := x7) (by kernel_rfl) (by rfl) sz2 (by rfl) encI_ok F6 hx9 (by simp only [List.length_cons, List.length_nil]; omega) (by rfl) ?_
   intro w6 F7 hc5
   replace F2 := F2.chg hc5 (Dj.of L0_0 G1)
   replace F3 := F3.chg hc5 (Dj.of L0_1 G1)
   replace F4 := F4.chg hc5 (dj1 (Dj.of L0 G1))
   replace hB := hB.inS hc5 (inLow G1)
   replace hZ := hc5.z hZ
   clear F6
   rewrite [show (l2.set (Int.toNat x4) (wr (x5 + 1))).length = ((l2.set (Int.toNat x4) (wr (x5 + 1))).set (Int.toNat x7) (wr (x8 + 1))).length from (List.length_set ..).symm]
   refine wE <| eX_block <| eX_then <| cP [(0, pt b0), (3, ii (l0_0.length : Int)), (4, .slice (some ⟨b1, 0, none⟩) ((l2.set (Int.toNat x4) (wr (x5 + 1))).set (Int.toNat x7) (wr (x8 + 1))).length (Int.toNat 13)), (5, ii x1)] (fun a4 => ?_)
   refine cW_region <| wP 3 [(5, ii (wr (x1 + 1))), (32, ii (wr (x1 + 1))), (31, ii x1)] <| wE ?_
   obtain rfl := someE (x := (Ctl.next ((wr (x1 + 1), (l2.set (Int.toNat x4) (wr (x5 + 1))).set (Int.toNat x7) (wr (x8 + 1)))))) hm
   exact eX_next hx1 (fun hst => ⟨wr (x1 + 1), (l2.set (Int.toNat x4) (wr (x5 + 1))).set (Int.toNat x7) (wr (x8 + 1)), rfl, fO hst, F2, F3, F4, F7, hB, hZ⟩)
  have hm := condF hb4 hm
  refine cW_exit <| eX_then_exit ?_
  obtain rfl := someE (x := Ctl.out (Sum.inl l2)) hm
  refine eX_outX hx1 (fun hr2 => ?_)
  replace hr2 := hr2.symm
  subst hr2
  refine eX_block_hit ?_
  exact eX_J (fun hst => ⟨l2, rfl, fO hst, F5, hB, hZ⟩)
 rintro a' w7 ⟨l1, hJ, hF2, F8, hB, hZ⟩
 subst hJ
 refine gX hF2 <| eX_then <| cW_seq <| sR <| wP 1 [(6, ii 1)] <| wN ?_
 obtain ⟨r2, hr3, hm⟩ := bindE hm
 have hm2 := hm
 refine cW_cut (fun a' w' => Sum.inl (()) = r2 ∧ Fr 88 [] a' ∧ Chg [] w0 w' ∧ w0.heap.size ≤ w'.heap.size) ?_ ?_
 ·refine cW_block ?_
  refine cW_loop _ (fun (s2 : Int) a' w' => ∃ x10 : Int, x10 = s2 ∧ Fr 88 [(4, .slice (some ⟨b1, 0, none⟩) l1.length (Int.toNat 13)), (6, ii x10)] a' ∧ Ow 1 encI 2 w' [b1] (some ⟨b1, 0, none⟩) (Int.toNat 13) l1 ∧ Chg [] w0 w' ∧ w0.heap.size ≤ w'.heap.size) hr3 (fun hst => ⟨1, rfl, fO hst, F8, hB, hZ⟩) ?_
  rintro _ c2 a' w8 ⟨x10, rfl, hF3, F9, hB, hZ⟩ hx10
  refine gO hF3 ?_
  have hm := hx10
  unfold m_spec_l03Is_bimplChannel_s2 at hm
  refine cW_seq <| sR <| wP 4 [(80, .bool (decide (x10 < ((l1.length : Int))))), (79, ii (l1.length : Int)), (78, .slice (some ⟨b1, 0, none⟩) l1.length (Int.toNat 13)), (77, ii x10)] <| wN <| cC (decide (x10 < ((l1.length : Int)))) (fun hb7 => ?_) (fun hb7 => ?_)
  ·have hm := condT hb7 hm
   refine cW_skip <| eX_then <| cW_seq <| cW_block <| sR <| wP 2 [(84, ii x10), (83, .slice (some ⟨b1, 0, none⟩) l1.length (Int.toNat 13))] ?_
   obtain ⟨x11, hx11, hm⟩ := bindE hm
   refine sI 85 (some ⟨b1, 0, none⟩) l1.length (Int.toNat 13) .i64 x10 sl24 ((F9.sl encI_ok).is hx11) <| sL 86 (elA (some ⟨b1, 0, none⟩) 1 (x10) 0) (ii x11) vt2 (Sl.cell (F9.sl encI_ok) hx11 0 (by rfl)) <| wP 1 [(87, .bool (x11 == 1))] <| wN <| cC (x11 == 1) (fun hb8 => ?_) (fun hb8 => ?_)
   ·have hm := condT hb8 hm
    refine sR <| wP 1 [(2, .bool (false))] <| wN <| cW_ret <| eX_block_ret <| eX_then_ret ?_
    obtain rfl := someE (x := Ctl.out (Sum.inr false)) hm
    refine eX_outR hx10 (fun hr => ?_)
    subst hr
    refine eX_block_ret <| eX_then_ret <| eX_then_ret ?_
    obtain rfl := someE (x := false) hm2
    refine rA (.bool (false)) 2 ?_
    exact ⟨rfl, hB⟩
   have hm := condF hb8 hm
   refine cW_skip <| eX_block <| eX_then <| cW_region <| wP 3 [(6, ii (wr (x10 + 1))), (82, ii (wr (x10 + 1))), (81, ii x10)] <| wE ?_
   obtain rfl := someE (x := Ctl.next (wr (x10 + 1))) hm
   exact eX_next hx10 (fun hst => ⟨wr (x10 + 1), rfl, fO hst, F9, hB, hZ⟩)
  have hm := condF hb7 hm
  refine cW_exit <| eX_then_exit ?_
  obtain rfl := someE (x := Ctl.out (Sum.inl (()))) hm
  refine eX_outX hx10 (fun hr4 => ?_)
  replace hr4 := hr4.symm
  subst hr4
  refine eX_block_hit ?_
  exact eX_J (fun hst => ⟨rfl, fO hst, hB, hZ⟩)
 rintro a' w9 ⟨hJ, hF4, hB, hZ⟩
 subst hJ
 refine gX hF4 <| eX_then <| sR <| wP 1 [(2, .bool (true))] <| wN <| cW_ret ?_
 obtain rfl := someE (x := true) hm
 refine rA (.bool (true)) 2 ?_
 exact ⟨rfl, hB⟩

set_option maxRecDepth 100000 in
/-- spec.l03Less -/
theorem c_spec_l03Less {w0 : World} {l0 : List Int} {A0 : Option Addr} {cap0 : Nat} {fp0 : List Nat} {l1 : List Int} {A1 : Option Addr} {cap1 : Nat} {fp1 : List Nat} {r : Bool} (hm : m_spec_l03Less l0 l1 = some r) (F0 : Sl 1 encI w0 fp0 A0 l0) (F1 : Sl 1 encI w0 fp1 A1 l1) :
  Calls Tryd.prog 97 #[.slice A0 l0.length cap0, .slice A1 l1.length cap1] w0 fun e w' => e = .returned (.bool (r)) ∧ Chg [] w0 w' := by
 have L0 := F0.low
 have L1 := F1.low
 have hB : Chg [] w0 w0 := Chg.refl _ _
 have hZ := Nat.le_refl w0.heap.size
 unfold m_spec_l03Less at hm
 refine enterE (N := 41) Tryd.func97 (by rfl) Tryd.ntmps97 (by simp) [(0, .slice A0 l0.length cap0), (1, .slice A1 l1.length cap1)] (by rfl) (by kernel_rfl) (fun a => ?_)
 refine sR <| wP 1 [(4, .bool (false))] <| wN <| cW_seq <| sR <| wP 1 [(5, ii 0)] <| wN ?_
 obtain ⟨r1, hr1, hm⟩ := bindE hm
 have hm1 := hm
 refine cW_cut (fun a' w' => Sum.inl (()) = r1 ∧ Fr 41 [(0, .slice A0 l0.length cap0), (1, .slice A1 l1.length cap1)] a' ∧ Sl 1 encI w' fp0 A0 l0 ∧ Sl 1 encI w' fp1 A1 l1 ∧ Chg [] w0 w' ∧ w0.heap.size ≤ w'.heap.size) ?_ ?_
 ·refine cW_block ?_
  refine cW_loop _ (fun (s1 : Int) a' w' => ∃ x1 : Int, x1 = s1 ∧ Fr 41 [(0, .slice A0 l0.length cap0), (1, .slice A1 l1.length cap1), (5, ii x1)] a' ∧ Sl 1 encI w' fp0 A0 l0 ∧ Sl 1 encI w' fp1 A1 l1 ∧ Chg [] w0 w' ∧ w0.heap.size ≤ w'.heap.size) hr1 (fun hst => ⟨0, rfl, fO hst, F0, F1, hB, hZ⟩) ?_
  rintro _ c1 a' w1 ⟨x1, rfl, hF1, F2, F3, hB, hZ⟩ hx1
  refine gO hF1 ?_
  have hm := hx1
  unfold m_spec_l03Less_s1 at hm
  refine cW_seq <| sR <| wP 5 [(10, .bool (decide (x1 < ((l0.length : Int))))), (9, .bool (decide (x1 < ((l0.length : Int))))), (8, ii (l0.length : Int)), (7, .slice A0 l0.length cap0), (6, ii x1)] <| wS_bool (decide (x1 < ((l0.length : Int)))) (fun hb1 => ?_) (fun hb1 => ?_)
  ·have hm := condT hb1 hm
   rewrite [hb1]
   refine wP 5 [(15, .bool (decide (x1 < ((l1.length : Int))))), (14, .bool (decide (x1 < ((l1.length : Int))))), (13, ii (l1.length : Int)), (12, .slice A1 l1.length cap1), (11, ii x1)] <| wN <| cC (decide (x1 < ((l1.length : Int)))) (fun hb2 => ?_) (fun hb2 => ?_)
   ·have hm := condT hb2 hm
    refine cW_skip <| eX_then <| cW_seq <| cW_block <| cW_seq <| cW_drawnTail [] 8 (by kernel_rfl) (by kernel_rfl) (fun w2 hc1 => ?_)
    replace F2 := F2.c hc1
    replace F3 := F3.c hc1
    replace hB := hB.q hc1
    replace hZ := hc1.z hZ
    have hS := Chg.refl [] w2
    have Z1 := F2
    have Z2 := F3
    refine hT [0, 1] [(19, ii x1), (18, .slice A0 l0.length cap0)] ?_
    obtain ⟨x2, hx2, hm⟩ := bindE hm
    refine hI 2 20 A0 l0.length cap0 .i64 x1 sl24 (F2.is hx2) <| hL 3 21 (elA A0 1 (x1) 0) (ii x2) vt2 (fun W hW => Sl.cell (Z1.c hW) hx2 0 (by rfl)) ?_
    refine hT [4, 5] [(23, ii x1), (22, .slice A1 l1.length cap1)] ?_
    obtain ⟨x3, hx3, hm⟩ := bindE hm
    refine hI 6 24 A1 l1.length cap1 .i64 x1 sl24 (F3.is hx3) <| hL 7 25 (elA A1 1 (x1) 0) (ii x3) vt2 (fun W hW => Sl.cell (Z2.c hW) hx3 0 (by rfl)) ?_
    refine wD <| eX_tail <| wP 1 [(26, .bool (x2 != x3))] <| wN <| cC (x2 != x3) (fun hb3 => ?_) (fun hb3 => ?_)
    ·have hm := condT hb3 hm
     refine cW_seq <| cW_drawnTail [] 8 (by kernel_rfl) (by kernel_rfl) (fun w3 hc2 => ?_)
     replace F2 := F2.c hc2
     replace F3 := F3.c hc2
     replace hB := hB.q hc2
     replace hZ := hc2.z hZ
     have hS := Chg.refl [] w3
     have Z3 := F2
     have Z4 := F3
     refine hT [0, 1] [(28, ii x1), (27, .slice A0 l0.length cap0)] ?_
     obtain ⟨x4, hx4, hm⟩ := bindE hm
     refine hI 2 29 A0 l0.length cap0 .i64 x1 sl24 (F2.is hx4) <| hL 3 30 (elA A0 1 (x1) 0) (ii x4) vt2 (fun W hW => Sl.cell (Z3.c hW) hx4 0 (by rfl)) ?_
     refine hT [4, 5] [(32, ii x1), (31, .slice A1 l1.length cap1)] ?_
     obtain ⟨x5, hx5, hm⟩ := bindE hm
     refine hI 6 33 A1 l1.length cap1 .i64 x1 sl24 (F3.is hx5) <| hL 7 34 (elA A1 1 (x1) 0) (ii x5) vt2 (fun W hW => Sl.cell (Z4.c hW) hx5 0 (by rfl)) ?_
     refine wD <| eX_tail <| wP 2 [(4, .bool (decide (x4 < x5))), (35, .bool (decide (x4 < x5)))] <| wN <| cP [(4, .bool (decide (x4 < x5)))] (fun a1 => ?_)
     refine cW_ret <| eX_block_ret <| eX_then_ret ?_
     obtain rfl := someE (x := Ctl.out (Sum.inr (decide (x4 < x5)))) hm
     refine eX_outR hx1 (fun hr => ?_)
     subst hr
     refine eX_block_ret <| eX_then_ret <| eX_then_ret ?_
     obtain rfl := someE (x := decide (x4 < x5)) hm1
     refine rA (.bool (decide (x4 < x5))) 4 ?_
     exact ⟨rfl, hB⟩
    have hm := condF hb3 hm
    refine cW_skip <| eX_block <| eX_then <| cW_region <| wP 3 [(5, ii (wr (x1 + 1))), (17, ii (wr (x1 + 1))), (16, ii x1)] <| wE ?_
    obtain rfl := someE (x := Ctl.next (wr (x1 + 1))) hm
    exact eX_next hx1 (fun hst => ⟨wr (x1 + 1), rfl, fO hst, F2, F3, hB, hZ⟩)
   have hm := condF hb2 hm
   refine cW_exit <| eX_then_exit ?_
   obtain rfl := someE (x := Ctl.out (Sum.inl (()))) hm
   refine eX_outX hx1 (fun hr2 => ?_)
   replace hr2 := hr2.symm
   subst hr2
   refine eX_block_hit ?_
   exact eX_J (fun hst => ⟨rfl, fO hst, F2, F3, hB, hZ⟩)
  have hm := condF hb1 hm
  rewrite [hb1]
  refine wP 5 [(15, .bool (false)), (14, undef), (13, undef), (12, undef), (11, undef)] <| wN <| cCf <| cW_exit <| eX_then_exit ?_
  obtain rfl := someE (x := Ctl.out (Sum.inl (()))) hm
  refine eX_outX hx1 (fun hr3 => ?_)
  replace hr3 := hr3.symm
  subst hr3
  refine eX_block_hit ?_
  exact eX_J (fun hst => ⟨rfl, fO hst, F2, F3, hB, hZ⟩)
 rintro a' w4 ⟨hJ, hF2, F4, F5, hB, hZ⟩
 subst hJ
 refine gX hF2 <| eX_then <| sR <| wP 6 [(4, .bool (decide (((l0.length : Int)) < ((l1.length : Int))))), (40, .bool (decide (((l0.length : Int)) < ((l1.length : Int))))), (39, ii (l1.length : Int)), (38, .slice A1 l1.length cap1), (37, ii (l0.length : Int)), (36, .slice A0 l0.length cap0)] <| wN <| cW_ret ?_
 obtain rfl := someE (x := (decide (((l0.length : Int)) < ((l1.length : Int))))) hm
 refine rA (.bool (decide (((l0.length : Int)) < ((l1.length : Int))))) 4 ?_
 exact ⟨rfl, hB⟩

set_option maxRecDepth 100000 in
/-- spec.l03Fits -/
theorem c_spec_l03Fits_bspecl03Things {w0 : World} {l0_0 : List Int} {A0_0 : Option Addr} {cap0_0 : Nat} {fp0_0 : List Nat} {l0_1 : List (List Bool)} {A0_1 : Option Addr} {cap0_1 : Nat} {fp0_1 : List Nat} {l0_2 : List (List Bool)} {A0_2 : Option Addr} {cap0_2 : Nat} {fp0_2 : List Nat} {b0 : Nat} {p1 : Int} {p2 : Int} {r : Bool} (hm : m_spec_l03Fits_bspecl03Things l0_0 l0_1 l0_2 p1 p2 = some r) (F0_0 : Sl 1 encI w0 fp0_0 A0_0 l0_0) (F0_1 : SlR 1 encB w0 fp0_1 A0_1 l0_1) (F0_2 : SlR 1 encB w0 fp0_2 A0_2 l0_2) (F0 : Cl w0 b0 94 [.slice A0_0 l0_0.length cap0_0, .slice A0_1 l0_1.length cap0_1, .slice A0_2 l0_2.length cap0_2]) :
  Calls Tryd.prog 96 #[pt b0, ii p1, ii p2] w0 fun e w' => e = .returned (.bool (r)) ∧ Chg [] w0 w' := by
 have L0_0 := F0_0.low
 have L0_1 := F0_1.low
 have L0_2 := F0_2.low
 have L0 := lt1 F0.lt
 have hB : Chg [] w0 w0 := Chg.refl _ _
 have hZ := Nat.le_refl w0.heap.size
 unfold m_spec_l03Fits_bspecl03Things at hm
 refine enterE (N := 71) Tryd.func96 (by rfl) Tryd.ntmps96 (by simp) [(0, pt b0), (1, ii p1), (2, ii p2)] (by rfl) (by kernel_rfl) (fun a => ?_)
 refine sR <| wP 1 [(6, .bool (false))] <| wN <| cW_seq <| sR <| wP 1 [(7, ii 0)] <| wN ?_
 obtain ⟨r1, hr1, hm⟩ := bindE hm
 have hm1 := hm
 refine cW_cut (fun a' w' => Sum.inl (()) = r1 ∧ Fr 71 [(1, ii p1)] a' ∧ Chg [] w0 w' ∧ w0.heap.size ≤ w'.heap.size) ?_ ?_
 ·refine cW_block ?_
  refine cW_loop _ (fun (s1 : Int) a' w' => ∃ x1 : Int, x1 = s1 ∧ Fr 71 [(0, pt b0), (1, ii p1), (2, ii p2), (7, ii x1)] a' ∧ Sl 1 encI w' fp0_0 A0_0 l0_0 ∧ SlR 1 encB w' fp0_1 A0_1 l0_1 ∧ SlR 1 encB w' fp0_2 A0_2 l0_2 ∧ Cl w' b0 94 [.slice A0_0 l0_0.length cap0_0, .slice A0_1 l0_1.length cap0_1, .slice A0_2 l0_2.length cap0_2] ∧ Chg [] w0 w' ∧ w0.heap.size ≤ w'.heap.size) hr1 (fun hst => ⟨0, rfl, fO hst, F0_0, F0_1, F0_2, F0, hB, hZ⟩) ?_
  rintro _ c1 a' w1 ⟨x1, rfl, hF1, F1, F2, F3, F4, hB, hZ⟩ hx1
  refine gO hF1 ?_
  have hm := hx1
  unfold m_spec_l03Fits_bspecl03Things_s3 at hm
  refine cW_seq <| sR <| wP 4 [(12, pt b0), (11, pt b0), (10, pt b0), (9, ii x1)] <| sL 13 ⟨b0, 0, none⟩ (.slice A0_0 l0_0.length cap0_0) vt24 ((F4).cell 0) <| wP 2 [(15, .bool (decide (x1 < ((l0_0.length : Int))))), (14, ii (l0_0.length : Int))] <| wN <| cC (decide (x1 < ((l0_0.length : Int)))) (fun hb1 => ?_) (fun hb1 => ?_)
  ·have hm := condT hb1 hm
   refine cW_skip <| eX_then <| cW_seq <| cW_block <| cW_seq <| sR <| wP 3 [(20, .int .u64 (wu x1)), (19, ii x1), (18, ii p1)] ?_
   obtain ⟨u1, hu1, hm⟩ := bindE hm
   refine wS_shr (d := 21) (x := p1) (y := wu x1) (yk := .u64) (by kernel_rfl) (p0E hu1) <| wP 2 [(23, .bool ((andI (shrI p1 (wu x1)) 1) == 0)), (22, ii (andI (shrI p1 (wu x1)) 1))] <| wN <| cC ((andI (shrI p1 (wu x1)) 1) == 0) (fun hb2 => ?_) (fun hb2 => ?_)
   ·have hm := condT hb2 hm
    refine cW_exit <| eX_then_exit <| eX_block_hit <| eX_then <| cW_region <| wP 3 [(7, ii (wr (x1 + 1))), (17, ii (wr (x1 + 1))), (16, ii x1)] <| wE ?_
    obtain rfl := someE (x := Ctl.next (wr (x1 + 1))) hm
    exact eX_next hx1 (fun hst => ⟨wr (x1 + 1), rfl, fO hst, F1, F2, F3, F4, hB, hZ⟩)
   have hm := condF hb2 hm
   refine cW_skip <| eX_then <| sR <| wP 1 [(8, ii 0)] <| wN ?_
   obtain ⟨r2, hr2, hm⟩ := bindE hm
   have hm2 := hm
   refine cW_cut (fun a' w' => Sum.inl (()) = r2 ∧ Fr 71 [(0, pt b0), (1, ii p1), (2, ii p2), (7, ii x1)] a' ∧ Sl 1 encI w' fp0_0 A0_0 l0_0 ∧ SlR 1 encB w' fp0_1 A0_1 l0_1 ∧ SlR 1 encB w' fp0_2 A0_2 l0_2 ∧ Cl w' b0 94 [.slice A0_0 l0_0.length cap0_0, .slice A0_1 l0_1.length cap0_1, .slice A0_2 l0_2.length cap0_2] ∧ Chg [] w0 w' ∧ w0.heap.size ≤ w'.heap.size) ?_ ?_
   ·refine cW_block ?_
    refine cW_loop _ (fun (s2 : Int) a' w' => ∃ x2 : Int, x2 = s2 ∧ Fr 71 [(0, pt b0), (1, ii p1), (2, ii p2), (7, ii x1), (8, ii x2)] a' ∧ Sl 1 encI w' fp0_0 A0_0 l0_0 ∧ SlR 1 encB w' fp0_1 A0_1 l0_1 ∧ SlR 1 encB w' fp0_2 A0_2 l0_2 ∧ Cl w' b0 94 [.slice A0_0 l0_0.length cap0_0, .slice A0_1 l0_1.length cap0_1, .slice A0_2 l0_2.length cap0_2] ∧ Chg [] w0 w' ∧ w0.heap.size ≤ w'.heap.size) hr2 (fun hst => ⟨0, rfl, fO hst, F1, F2, F3, F4, hB, hZ⟩) ?_
    rintro _ c2 a' w2 ⟨x2, rfl, hF2, F5, F6, F7, F8, hB, hZ⟩ hx2
    refine gO hF2 ?_
    have hm := hx2
    unfold m_spec_l03Fits_bspecl03Things_s4 at hm
    refine cW_seq <| sR <| wP 4 [(27, pt b0), (26, pt b0), (25, pt b0), (24, ii x2)] <| sL 28 ⟨b0, 0, none⟩ (.slice A0_0 l0_0.length cap0_0) vt24 ((F8).cell 0) <| wP 2 [(30, .bool (decide (x2 < ((l0_0.length : Int))))), (29, ii (l0_0.length : Int))] <| wN <| cC (decide (x2 < ((l0_0.length : Int)))) (fun hb3 => ?_) (fun hb3 => ?_)
    ·have hm := condT hb3 hm
     refine cW_skip <| eX_then <| cW_seq <| cW_block <| cW_seq <| sR <| wP 3 [(35, .int .u64 (wu x2)), (34, ii x2), (33, ii p2)] ?_
     obtain ⟨u2, hu2, hm⟩ := bindE hm
     refine wS_shr (d := 36) (x := p2) (y := wu x2) (yk := .u64) (by kernel_rfl) (p0E hu2) <| wP 2 [(38, .bool ((andI (shrI p2 (wu x2)) 1) == 0)), (37, ii (andI (shrI p2 (wu x2)) 1))] <| wN <| cC ((andI (shrI p2 (wu x2)) 1) == 0) (fun hb4 => ?_) (fun hb4 => ?_)
     ·have hm := condT hb4 hm
      refine cW_exit <| eX_then_exit <| eX_block_hit <| eX_then <| cW_region <| wP 3 [(8, ii (wr (x2 + 1))), (32, ii (wr (x2 + 1))), (31, ii x2)] <| wE ?_
      obtain rfl := someE (x := Ctl.next (wr (x2 + 1))) hm
      exact eX_next hx2 (fun hst => ⟨wr (x2 + 1), rfl, fO hst, F5, F6, F7, F8, hB, hZ⟩)
     have hm := condF hb4 hm
     refine cW_skip <| eX_then <| sR <| wP 3 [(41, .pointer (some ⟨b0, 2, none⟩)), (40, pt b0), (39, pt b0)] <| sL 42 ⟨b0, 2, none⟩ (.slice A0_2 l0_2.length cap0_2) vt92 ((F8).cell 2) <| wP 1 [(43, ii x2)] ?_
     obtain ⟨x3, hx3, hm⟩ := bindE hm
     refine sI 44 A0_2 l0_2.length cap0_2 .i64 x2 sl92 (F7.is hx3) ?_
     obtain ⟨A1, cap1, hc1, F9, K1⟩ := SlR.row F7 hx3
     refine sL 45 (elA A0_2 1 (x2) 0) (.slice A1 x3.length cap1) vt120 hc1 <| wP 1 [(46, ii x1)] ?_
     obtain ⟨x4, hx4, hm⟩ := bindE hm
     refine sI 47 A1 x3.length cap1 .i64 x1 sl120 (F9.is hx4) <| sL 48 (elA A1 1 (x1) 0) (.bool (x4)) vt4 (Sl.cell F9 hx4 0 (by rfl)) <| wP 1 [(49, .bool (x4))] <| wS_bool x4 (fun hb5 => ?_) (fun hb5 => ?_)
     ·have hm := condT hb5 hm
      subst hb5
      refine wP 19 [(68, .bool (true)), (67, undef), (66, undef), (65, undef), (64, undef), (63, undef), (62, undef), (61, undef), (60, undef), (59, undef), (58, undef), (57, undef), (56, undef), (55, undef), (54, undef), (53, undef), (52, undef), (51, undef), (50, undef)] <| wN <| cP [(0, pt b0), (1, ii p1), (2, ii p2), (7, ii x1), (8, ii x2), (68, .bool (true))] (fun a1 => ?_)
      refine cCt <| sR <| wP 1 [(6, .bool (false))] <| wN <| cW_ret <| eX_block_ret <| eX_then_ret ?_
      obtain rfl := someE (x := Ctl.out (Sum.inr false)) hm
      refine eX_outR hx2 (fun hr => ?_)
      subst hr
      refine eX_block_ret <| eX_then_ret <| eX_block_ret <| eX_then_ret ?_
      obtain rfl := someE (x := Ctl.out (Sum.inr false)) hm2
      refine eX_outR hx1 (fun hr => ?_)
      subst hr
      refine eX_block_ret <| eX_then_ret <| eX_then_ret ?_
      obtain rfl := someE (x := false) hm1
      refine rA (.bool (false)) 6 ?_
      exact ⟨rfl, hB⟩
     have hm := condF hb5 hm
     subst hb5
     refine wP 3 [(52, .pointer (some ⟨b0, 1, none⟩)), (51, pt b0), (50, pt b0)] <| sL 53 ⟨b0, 1, none⟩ (.slice A0_1 l0_1.length cap0_1) vt92 ((F8).cell 1) <| wP 1 [(54, ii x1)] ?_
     obtain ⟨x5, hx5, hm⟩ := bindE hm
     refine sI 55 A0_1 l0_1.length cap0_1 .i64 x1 sl92 (F6.is hx5) ?_
     obtain ⟨A2, cap2, hc2, F10, K2⟩ := SlR.row F6 hx5
     refine sL 56 (elA A0_1 1 (x1) 0) (.slice A2 x5.length cap2) vt120 hc2 <| wP 1 [(57, ii x2)] ?_
     obtain ⟨x6, hx6, hm⟩ := bindE hm
     refine sI 58 A2 x5.length cap2 .i64 x2 sl120 (F10.is hx6) <| sL 59 (elA A2 1 (x2) 0) (.bool (x6)) vt4 (Sl.cell F10 hx6 0 (by rfl)) <| wP 1 [(60, .bool (x6))] <| wS_bool x6 (fun hb6 => ?_) (fun hb6 => ?_)
     ·have hm := condT hb6 hm
      subst hb6
      refine wP 3 [(63, .int .u64 (wu x2)), (62, ii x2), (61, ii p1)] ?_
      obtain ⟨u3, hu3, hm⟩ := bindE hm
      refine wS_shr (d := 64) (x := p1) (y := wu x2) (yk := .u64) (by kernel_rfl) (p0E hu3) <| wP 4 [(68, .bool ((andI (shrI p1 (wu x2)) 1) == 1)), (67, .bool ((andI (shrI p1 (wu x2)) 1) == 1)), (66, .bool ((andI (shrI p1 (wu x2)) 1) == 1)), (65, ii (andI (shrI p1 (wu x2)) 1))] <| wN <| cP [(0, pt b0), (1, ii p1), (2, ii p2), (7, ii x1), (8, ii x2), (68, .bool ((andI (shrI p1 (wu x2)) 1) == 1))] (fun a2 => ?_)
      refine cC ((andI (shrI p1 (wu x2)) 1) == 1) (fun hb7 => ?_) (fun hb7 => ?_)
      ·have hm := condT hb7 hm
       refine sR <| wP 1 [(6, .bool (false))] <| wN <| cW_ret <| eX_block_ret <| eX_then_ret ?_
       obtain rfl := someE (x := Ctl.out (Sum.inr false)) hm
       refine eX_outR hx2 (fun hr => ?_)
       subst hr
       refine eX_block_ret <| eX_then_ret <| eX_block_ret <| eX_then_ret ?_
       obtain rfl := someE (x := Ctl.out (Sum.inr false)) hm2
       refine eX_outR hx1 (fun hr => ?_)
       subst hr
       refine eX_block_ret <| eX_then_ret <| eX_then_ret ?_
       obtain rfl := someE (x := false) hm1
       refine rA (.bool (false)) 6 ?_
       exact ⟨rfl, hB⟩
      have hm := condF hb7 hm
      refine cW_skip <| eX_block <| eX_then <| cW_region <| wP 3 [(8, ii (wr (x2 + 1))), (32, ii (wr (x2 + 1))), (31, ii x2)] <| wE ?_
      obtain rfl := someE (x := Ctl.next (wr (x2 + 1))) hm
      exact eX_next hx2 (fun hst => ⟨wr (x2 + 1), rfl, fO hst, F5, F6, F7, F8, hB, hZ⟩)
     have hm := condF hb6 hm
     subst hb6
     refine wP 8 [(68, .bool (false)), (67, .bool (false)), (66, undef), (65, undef), (64, undef), (63, undef), (62, undef), (61, undef)] <| wN <| cP [(0, pt b0), (1, ii p1), (2, ii p2), (7, ii x1), (8, ii x2), (68, .bool (false))] (fun a3 => ?_)
     refine cCf <| cW_skip <| eX_block <| eX_then <| cW_region <| wP 3 [(8, ii (wr (x2 + 1))), (32, ii (wr (x2 + 1))), (31, ii x2)] <| wE ?_
     obtain rfl := someE (x := Ctl.next (wr (x2 + 1))) hm
     exact eX_next hx2 (fun hst => ⟨wr (x2 + 1), rfl, fO hst, F5, F6, F7, F8, hB, hZ⟩)
    have hm := condF hb3 hm
    refine cW_exit <| eX_then_exit ?_
    obtain rfl := someE (x := Ctl.out (Sum.inl (()))) hm
    refine eX_outX hx2 (fun hr3 => ?_)
    replace hr3 := hr3.symm
    subst hr3
    refine eX_block_hit ?_
    exact eX_J (fun hst => ⟨rfl, fO hst, F5, F6, F7, F8, hB, hZ⟩)
   rintro a' w3 ⟨hJ, hF3, F11, F12, F13, F14, hB, hZ⟩
   subst hJ
   refine gX hF3 <| eX_block <| eX_then <| cW_region <| wP 3 [(7, ii (wr (x1 + 1))), (17, ii (wr (x1 + 1))), (16, ii x1)] <| wE ?_
   obtain rfl := someE (x := Ctl.next (wr (x1 + 1))) hm
   exact eX_next hx1 (fun hst => ⟨wr (x1 + 1), rfl, fO hst, F11, F12, F13, F14, hB, hZ⟩)
  have hm := condF hb1 hm
  refine cW_exit <| eX_then_exit ?_
  obtain rfl := someE (x := Ctl.out (Sum.inl (()))) hm
  refine eX_outX hx1 (fun hr4 => ?_)
  replace hr4 := hr4.symm
  subst hr4
  refine eX_block_hit ?_
  exact eX_J (fun hst => ⟨rfl, fO hst, hB, hZ⟩)
 rintro a' w4 ⟨hJ, hF4, hB, hZ⟩
 subst hJ
 refine gX hF4 <| eX_then <| sR <| wP 3 [(6, .bool (p1 != 0)), (70, .bool (p1 != 0)), (69, ii p1)] <| wN <| cW_ret ?_
 obtain rfl := someE (x := p1 != 0) hm
 refine rA (.bool (p1 != 0)) 6 ?_
 exact ⟨rfl, hB⟩

end Go.Proofs.YtbfjekmefcpkmaaDoor
