/- Printed walks: (impl.graph).oddRing$1, (impl.graph).oddRing, impl.OddRing, spec.l00In, spec.l03Less, spec.l07Lists, spec.l07Is, laws.eqInt64S, laws.eqInt64SS, laws.markInt64S, laws.markInt64SS, laws.heldInt64S, laws.szInt64S, laws.szInt64SS, laws.szWiring, spec.l00Own. -/
import Derived.Test.YtngnljnfbfgfeaaProg
import Derived.Test.YtngnljnfbfgfeaaWOd01
set_option linter.unusedSimpArgs false
set_option linter.unusedVariables false
namespace Go.Proofs.Ytngnljnfbfgfeaa
open Go.RowKit
attribute [local irreducible] wS cW eX wH

theorem ent16 : Ent Try.prog 16 := fun _ => by kernel_rfl
theorem ent42 : Ent Try.prog 42 := fun _ => by kernel_rfl
theorem ent44 : Ent Try.prog 44 := fun _ => by kernel_rfl
theorem ent55 : Ent Try.prog 55 := fun _ => by kernel_rfl
theorem ent56 : Ent Try.prog 56 := fun _ => by kernel_rfl
theorem ent80 : Ent Try.prog 80 := fun _ => by kernel_rfl
theorem ent81 : Ent Try.prog 81 := fun _ => by kernel_rfl
theorem ent87 : Ent Try.prog 87 := fun _ => by kernel_rfl
theorem ent96 : Ent Try.prog 96 := fun _ => by kernel_rfl
theorem ent97 : Ent Try.prog 97 := fun _ => by kernel_rfl
theorem ent98 : Ent Try.prog 98 := fun _ => by kernel_rfl
theorem ent103 : Ent Try.prog 103 := fun _ => by kernel_rfl
theorem ent128 : Ent Try.prog 128 := fun _ => by kernel_rfl
theorem vt27 : VarTy Try.prog 27 4 true := ⟨by kernel_rfl, by kernel_rfl⟩
theorem vt77 : VarTy Try.prog 77 1 false := ⟨by kernel_rfl, by kernel_rfl⟩
theorem vt127 : VarTy Try.prog 127 1 false := ⟨by kernel_rfl, by kernel_rfl⟩
theorem el25 : ElTy Try.prog 25 2 1 (.int .i64 (0)) := ElTy.mk' Try.underlying25 (by kernel_rfl) (by rfl)
theorem sz2 : pureRun Try.prog (sizeOf 2) = some 1 := by kernel_rfl
theorem sz127 : pureRun Try.prog (sizeOf 127) = some 1 := by kernel_rfl

set_option maxRecDepth 100000 in
/-- impl.graph).oddRing$1 -/
theorem c_impl_graph_oddRing_1_bint_bint_bimplgraph_bint_bint_bint_bfuncbool_self_body {R : (List (Int)) → (Int) → (List (List (Int))) → (Int) → (List (Int)) → (Int) → Option ((Bool) × (List (Int)))} (hR : ∀ {w0 : World} {l0_0 : List (Int)} {A0_0 : Option Addr} {cap0_0 : Nat} {fp0_0 : List Nat} {b0 : Nat} {q1_0 : Int} {b1 : Nat} {l2_0 : List (List (Int))} {A2_0 : Option Addr} {cap2_0 : Nat} {fp2_0 : List Nat} {b2 : Nat} {q3_0 : Int} {b3 : Nat} {l4_0 : List (Int)} {A4_0 : Option Addr} {cap4_0 : Nat} {fp4_0 : List Nat} {b4 : Nat} {q5_0 : Int} {b5 : Nat} {b6 : Nat} {r : (Bool) × (List (Int))} (hm : R l0_0 q1_0 l2_0 q3_0 l4_0 q5_0 = some r) (F0_0 : Ow 1 encI 3 w0 fp0_0 A0_0 cap0_0 l0_0) (F0 : Cl w0 b0 75 [.slice A0_0 (l0_0).length cap0_0]) (F1 : Cl w0 b1 3 [.int .i64 (q1_0)]) (F2_0 : SlR 1 encI w0 fp2_0 A2_0 l2_0) (F2 : Cl w0 b2 77 [.slice A2_0 (l2_0).length cap2_0]) (F3 : Cl w0 b3 3 [.int .i64 (q3_0)]) (F4_0 : Sl 1 encI w0 fp4_0 A4_0 l4_0) (F4 : Cl w0 b4 75 [.slice A4_0 (l4_0).length cap4_0]) (F5 : Cl w0 b5 3 [.int .i64 (q5_0)]) (F6 : Cl w0 b6 127 [.func (.func 98) #[] #[.pointer (some ⟨b0, 0, none⟩), .pointer (some ⟨b1, 0, none⟩), .pointer (some ⟨b2, 0, none⟩), .pointer (some ⟨b3, 0, none⟩), .pointer (some ⟨b4, 0, none⟩), .pointer (some ⟨b5, 0, none⟩), .pointer (some ⟨b6, 0, none⟩)]]) (J0__0_0 : Dj [b0] fp0_0) (J0__1 : Dj [b0] [b1]) (J0__2_0 : Dj [b0] fp2_0) (J0__2 : Dj [b0] [b2]) (J0__3 : Dj [b0] [b3]) (J0__4_0 : Dj [b0] fp4_0) (J0__4 : Dj [b0] [b4]) (J0__5 : Dj [b0] [b5]) (J0__6 : Dj [b0] [b6]) (J0_0__1 : Dj fp0_0 [b1]) (J0_0__2_0 : Dj fp0_0 fp2_0) (J0_0__2 : Dj fp0_0 [b2]) (J0_0__3 : Dj fp0_0 [b3]) (J0_0__4_0 : Dj fp0_0 fp4_0) (J0_0__4 : Dj fp0_0 [b4]) (J0_0__5 : Dj fp0_0 [b5]) (J0_0__6 : Dj fp0_0 [b6]), Calls Try.prog 98 #[.pointer (some ⟨b0, 0, none⟩), .pointer (some ⟨b1, 0, none⟩), .pointer (some ⟨b2, 0, none⟩), .pointer (some ⟨b3, 0, none⟩), .pointer (some ⟨b4, 0, none⟩), .pointer (some ⟨b5, 0, none⟩), .pointer (some ⟨b6, 0, none⟩)] w0 fun e w' => ∃ At0_0 capt0_0 fpt0_0, e = .returned (.bool (r.1)) ∧ Cl w' b0 75 [.slice At0_0 (r.2).length capt0_0] ∧ Ow 1 encI 3 w' fpt0_0 At0_0 capt0_0 r.2 ∧ Rt w0.heap.size fp0_0 fpt0_0 ∧ Chg ([b0] ++ (fp0_0 ++ [])) w0 w') {w0 : World} {l0_0 : List (Int)} {A0_0 : Option Addr} {cap0_0 : Nat} {fp0_0 : List Nat} {b0 : Nat} {q1_0 : Int} {b1 : Nat} {l2_0 : List (List (Int))} {A2_0 : Option Addr} {cap2_0 : Nat} {fp2_0 : List Nat} {b2 : Nat} {q3_0 : Int} {b3 : Nat} {l4_0 : List (Int)} {A4_0 : Option Addr} {cap4_0 : Nat} {fp4_0 : List Nat} {b4 : Nat} {q5_0 : Int} {b5 : Nat} {b6 : Nat} {r : (Bool) × (List (Int))} (hm : m_impl_graph_oddRing_1_bint_bint_bimplgraph_bint_bint_bint_bfuncbool_self_body R l0_0 q1_0 l2_0 q3_0 l4_0 q5_0 = some r) (F0_0 : Ow 1 encI 3 w0 fp0_0 A0_0 cap0_0 l0_0) (F0 : Cl w0 b0 75 [.slice A0_0 (l0_0).length cap0_0]) (F1 : Cl w0 b1 3 [.int .i64 (q1_0)]) (F2_0 : SlR 1 encI w0 fp2_0 A2_0 l2_0) (F2 : Cl w0 b2 77 [.slice A2_0 (l2_0).length cap2_0]) (F3 : Cl w0 b3 3 [.int .i64 (q3_0)]) (F4_0 : Sl 1 encI w0 fp4_0 A4_0 l4_0) (F4 : Cl w0 b4 75 [.slice A4_0 (l4_0).length cap4_0]) (F5 : Cl w0 b5 3 [.int .i64 (q5_0)]) (F6 : Cl w0 b6 127 [.func (.func 98) #[] #[.pointer (some ⟨b0, 0, none⟩), .pointer (some ⟨b1, 0, none⟩), .pointer (some ⟨b2, 0, none⟩), .pointer (some ⟨b3, 0, none⟩), .pointer (some ⟨b4, 0, none⟩), .pointer (some ⟨b5, 0, none⟩), .pointer (some ⟨b6, 0, none⟩)]]) (J0__0_0 : Dj [b0] fp0_0) (J0__1 : Dj [b0] [b1]) (J0__2_0 : Dj [b0] fp2_0) (J0__2 : Dj [b0] [b2]) (J0__3 : Dj [b0] [b3]) (J0__4_0 : Dj [b0] fp4_0) (J0__4 : Dj [b0] [b4]) (J0__5 : Dj [b0] [b5]) (J0__6 : Dj [b0] [b6]) (J0_0__1 : Dj fp0_0 [b1]) (J0_0__2_0 : Dj fp0_0 fp2_0) (J0_0__2 : Dj fp0_0 [b2]) (J0_0__3 : Dj fp0_0 [b3]) (J0_0__4_0 : Dj fp0_0 fp4_0) (J0_0__4 : Dj fp0_0 [b4]) (J0_0__5 : Dj fp0_0 [b5]) (J0_0__6 : Dj fp0_0 [b6]) :
    Calls Try.prog 98 #[.pointer (some ⟨b0, 0, none⟩), .pointer (some ⟨b1, 0, none⟩), .pointer (some ⟨b2, 0, none⟩), .pointer (some ⟨b3, 0, none⟩), .pointer (some ⟨b4, 0, none⟩), .pointer (some ⟨b5, 0, none⟩), .pointer (some ⟨b6, 0, none⟩)] w0 fun e w' => ∃ At0_0 capt0_0 fpt0_0, e = .returned (.bool (r.1)) ∧ Cl w' b0 75 [.slice At0_0 (r.2).length capt0_0] ∧ Ow 1 encI 3 w' fpt0_0 At0_0 capt0_0 r.2 ∧ Rt w0.heap.size fp0_0 fpt0_0 ∧ Chg ([b0] ++ (fp0_0 ++ [])) w0 w' := by
  have L0 := lt1 F0.lt
  have L1 := lt1 F1.lt
  have L2_0 := F2_0.low
  have L2 := lt1 F2.lt
  have L3 := lt1 F3.lt
  have L4_0 := F4_0.low
  have L4 := lt1 F4.lt
  have L5 := lt1 F5.lt
  have L6 := lt1 F6.lt
  have hB : Chg ([b0] ++ (fp0_0 ++ [])) w0 w0 := Chg.refl _ _
  have hZ := Nat.le_refl w0.heap.size
  unfold m_impl_graph_oddRing_1_bint_bint_bimplgraph_bint_bint_bint_bfuncbool_self_body at hm
  refine enterE (N := 73) Try.func98 (by rfl) Try.ntmps98 (by simp) [(0, .pointer (some ⟨b0, 0, none⟩)), (1, .pointer (some ⟨b1, 0, none⟩)), (2, .pointer (some ⟨b2, 0, none⟩)), (3, .pointer (some ⟨b3, 0, none⟩)), (4, .pointer (some ⟨b4, 0, none⟩)), (5, .pointer (some ⟨b5, 0, none⟩)), (6, .pointer (some ⟨b6, 0, none⟩))] (by rfl) (by kernel_rfl) (fun a => ?_)
  refine cW_seq ?_
  refine cW_region ?_
  refine wS_pure 1 [(7, .bool (false))] (by kernel_rfl) ?_
  refine wS_end (by rfl) ?_
  refine eX_then ?_
  refine cW_seq ?_
  refine cW_region ?_
  refine wS_load1 (d := 13) (T := 75) (ad := ⟨b0, 0, none⟩) (v := .slice A0_0 (l0_0).length cap0_0) (by kernel_rfl) vt75 ((F0).cell 0) ?_
  refine wS_load1 (d := 14) (T := 75) (ad := ⟨b0, 0, none⟩) (v := .slice A0_0 (l0_0).length cap0_0) (by kernel_rfl) vt75 ((F0).cell 0) ?_
  refine wS_pure 2 [(16, .int .i64 (wr ((((l0_0).length : Int)) - 1))), (15, .int .i64 (((l0_0).length : Int)))] (by kernel_rfl) ?_
  obtain ⟨x11, hx12, hm⟩ := bindE hm
  refine wS_idx (d := 17) (T := 75) (A := A0_0) (n := (l0_0).length) (cap := cap0_0) (kd := .i64) (m := wr ((((l0_0).length : Int)) - 1)) (by kernel_rfl) sl75 ((F0_0.sl encI_ok).is hx12) ?_
  refine wS_load1 (d := 18) (T := 3) (ad := (elA A0_0 1 (wr ((((l0_0).length : Int)) - 1)) 0)) (v := .int .i64 (x11)) (by kernel_rfl) vt3 (Sl.cell (F0_0.sl encI_ok) hx12 0 (by rfl)) ?_
  refine wS_pure 1 [(8, .int .i64 (x11))] (by kernel_rfl) ?_
  refine wS_end (by rfl) ?_
  refine eX_then ?_
  refine cW_seq ?_
  refine cW_region ?_
  refine wS_load1 (d := 19) (T := 3) (ad := ⟨b1, 0, none⟩) (v := .int .i64 (q1_0)) (by kernel_rfl) vt3 ((F1).cell 0) ?_
  refine wS_load1 (d := 20) (T := 75) (ad := ⟨b0, 0, none⟩) (v := .slice A0_0 (l0_0).length cap0_0) (by kernel_rfl) vt75 ((F0).cell 0) ?_
  refine wS_pure 3 [(9, .int .i64 (wr (q1_0 - (((l0_0).length : Int))))), (22, .int .i64 (wr (q1_0 - (((l0_0).length : Int))))), (21, .int .i64 (((l0_0).length : Int)))] (by kernel_rfl) ?_
  refine wS_end (by rfl) ?_
  refine eX_then ?_
  refine cW_seq ?_
  refine cW_seq ?_
  refine cW_region ?_
  refine wS_pure 2 [(24, .bool ((wr (q1_0 - (((l0_0).length : Int)))) == 0)), (23, .int .i64 (wr (q1_0 - (((l0_0).length : Int)))))] (by kernel_rfl) ?_
  refine wS_end (by rfl) ?_
  refine eX_then ?_
  refine cW_cond (t := (wr (q1_0 - (((l0_0).length : Int)))) == 0) (by kernel_rfl) (fun hb13 => ?_) (fun hb13 => ?_)
  · have hm := condT hb13 hm
    refine cW_seq ?_
    refine cW_drawnTail [] 5 (by kernel_rfl) (by kernel_rfl) (fun w38 hc39 => ?_)
    replace F0_0 := F0_0.chg hc39 Dj.nil
    replace F0 := F0.chg hc39 notNil
    replace F1 := F1.chg hc39 notNil
    replace F2_0 := F2_0.chg hc39 Dj.nil
    replace F2 := F2.chg hc39 notNil
    replace F3 := F3.chg hc39 notNil
    replace F4_0 := F4_0.chg hc39 Dj.nil
    replace F4 := F4.chg hc39 notNil
    replace F5 := F5.chg hc39 notNil
    replace F6 := F6.chg hc39 notNil
    replace hB := hB.inS hc39 inNil
    replace hZ := Nat.le_trans hZ hc39.size
    have hS := Chg.refl [] w38
    have Z40 := F0_0
    have Z41 := F0
    have Z42 := F1
    have Z43 := F2_0
    have Z44 := F2
    have Z45 := F3
    have Z46 := F4_0
    have Z47 := F4
    have Z48 := F5
    have Z49 := F6
    refine wH_load1 (i := 0) (d := 25) (T := 77) (ad := ⟨b2, 0, none⟩) (v := .slice A2_0 (l2_0).length cap2_0) (by kernel_rfl) (qT (qT (qT qZ))) (by kernel_rfl) (by kernel_rfl) vt77 (fun W hW => (Z44.chg hW notNil).cell 0) ?_
    refine wH_take [1] [1, 0] [(26, .int .i64 (x11))] (by kernel_rfl) (qT (qT (qT qZ))) (by kernel_rfl) ?_
    obtain ⟨x50, hx51, hm⟩ := bindE hm
    refine wH_idx (i := 2) (d := 27) (T := 77) (A := A2_0) (n := (l2_0).length) (cap := cap2_0) (kd := .i64) (m := x11) (by kernel_rfl) (qT (qT (qT qZ))) (by kernel_rfl) (by kernel_rfl) sl77 (F2_0.is hx51) ?_
    obtain ⟨A52, cap53, hc55, F54, K56⟩ := SlR.row Z43 hx51
    refine wH_load1 (i := 3) (d := 28) (T := 75) (ad := (elA A2_0 1 (x11) 0)) (v := .slice A52 (x50).length cap53) (by kernel_rfl) (qT (qT (qT qZ))) (by kernel_rfl) (by kernel_rfl) vt75 (fun W hW => hW.keep hc55) ?_
    refine wH_load1 (i := 4) (d := 29) (T := 3) (ad := ⟨b3, 0, none⟩) (v := .int .i64 (q3_0)) (by kernel_rfl) (qT (qT (qT qZ))) (by kernel_rfl) (by kernel_rfl) vt3 (fun W hW => (Z45.chg hW notNil).cell 0) ?_
    refine wH_done (by kernel_rfl) ?_
    refine eX_tail ?_
    obtain ⟨y58, hy59, hm⟩ := bindE hm
    refine wS_calls (d := 30) (f := 99) (vs := [.slice A52 (x50).length cap53, .int .i64 (q3_0)]) (by kernel_rfl) ent99 (c_slices_Contains_int_int hy59 F54) ?_
    rintro _ w60 ⟨rfl, hc61⟩
    replace F0_0 := F0_0.chg hc61 Dj.nil
    replace F0 := F0.chg hc61 notNil
    replace F1 := F1.chg hc61 notNil
    replace F2_0 := F2_0.chg hc61 Dj.nil
    replace F2 := F2.chg hc61 notNil
    replace F3 := F3.chg hc61 notNil
    replace F4_0 := F4_0.chg hc61 Dj.nil
    replace F4 := F4.chg hc61 notNil
    replace F5 := F5.chg hc61 notNil
    replace F6 := F6.chg hc61 notNil
    replace F54 := F54.chg hc61 Dj.nil
    replace hB := hB.inS hc61 inNil
    replace hZ := Nat.le_trans hZ hc61.size
    refine ⟨.bool (y58), rfl, ?_⟩
    refine wS_pure 1 [(7, .bool (y58))] (by kernel_rfl) ?_
    refine wS_end (by rfl) ?_
    refine eX_then ?_
    refine cW_prune [(7, .bool (y58))] (by kernel_rfl) (by kernel_rfl) (fun a62 => ?_)
    refine cW_ret ?_
    refine eX_then_ret ?_
    have hq : (some ((y58, l0_0)) : Option ((Bool) × (List (Int)))) = some _ := hm
    replace hq := someE hq
    subst hq
    refine eX_ret (vs := [.bool (y58)]) [.tmp 7] (by rfl) ⟨by (show lkE _ _ _ = _); kernel_rfl, trivial⟩ ?_
    exact ⟨A0_0, cap0_0, fp0_0, rfl, F0, F0_0, Rt.refl, hB⟩
  · have hm := condF hb13 hm
    refine cW_skip ?_
    refine eX_then ?_
    refine cW_seq ?_
    refine cW_seq ?_
    refine cW_region ?_
    refine wS_load1 (d := 31) (T := 77) (ad := ⟨b2, 0, none⟩) (v := .slice A2_0 (l2_0).length cap2_0) (by kernel_rfl) vt77 ((F2).cell 0) ?_
    refine wS_pure 1 [(32, .int .i64 (x11))] (by kernel_rfl) ?_
    obtain ⟨x63, hx64, hm⟩ := bindE hm
    refine wS_idx (d := 33) (T := 77) (A := A2_0) (n := (l2_0).length) (cap := cap2_0) (kd := .i64) (m := x11) (by kernel_rfl) sl77 (F2_0.is hx64) ?_
    obtain ⟨A65, cap66, hc68, F67, K69⟩ := SlR.row F2_0 hx64
    refine wS_load1 (d := 34) (T := 75) (ad := (elA A2_0 1 (x11) 0)) (v := .slice A65 (x63).length cap66) (by kernel_rfl) vt75 hc68 ?_
    refine wS_pure 2 [(36, .int .i64 (0)), (35, .int .i64 (((x63).length : Int)))] (by kernel_rfl) ?_
    refine wS_end (by rfl) ?_
    refine eX_then ?_
    refine cW_prune [(0, .pointer (some ⟨b0, 0, none⟩)), (4, .pointer (some ⟨b4, 0, none⟩)), (5, .pointer (some ⟨b5, 0, none⟩)), (6, .pointer (some ⟨b6, 0, none⟩)), (9, .int .i64 (wr (q1_0 - (((l0_0).length : Int))))), (34, .slice A65 (x63).length cap66), (35, .int .i64 (((x63).length : Int))), (36, .int .i64 (0))] (by kernel_rfl) (by kernel_rfl) (fun a71 => ?_)
    obtain ⟨r308, hr309, hm⟩ := bindE hm
    have hm310 := hm
    refine cW_cut (fun a' w' => ∃ l268 : List (Int), ∃ A269 : Option Addr, ∃ cap270 : Nat, ∃ fp271 : List Nat, Sum.inl l268 = r308 ∧ Fr 73 [] a' ∧ Cl w' b0 75 [.slice A269 (l268).length cap270] ∧ Ow 1 encI 3 w' fp271 A269 cap270 l268 ∧ Rt w0.heap.size fp0_0 fp271 ∧ Dj [b0] fp271 ∧ Chg ([b0] ++ (fp0_0 ++ [])) w0 w' ∧ w0.heap.size ≤ w'.heap.size) ?_ ?_
    · refine cW_block ?_
      refine cW_loop _ (fun (s311 : Int × (List (Int))) a' w' => ∃ x279 : Int, ∃ l280 : List (Int), ∃ A281 : Option Addr, ∃ cap282 : Nat, ∃ fp283 : List Nat, (x279, l280) = s311 ∧ Fr 73 [(0, .pointer (some ⟨b0, 0, none⟩)), (4, .pointer (some ⟨b4, 0, none⟩)), (5, .pointer (some ⟨b5, 0, none⟩)), (6, .pointer (some ⟨b6, 0, none⟩)), (9, .int .i64 (wr (q1_0 - (((l0_0).length : Int))))), (34, .slice A65 (x63).length cap66), (35, .int .i64 (((x63).length : Int))), (36, .int .i64 (x279))] a' ∧ Cl w' b0 75 [.slice A281 (l280).length cap282] ∧ Cl w' b1 3 [.int .i64 (q1_0)] ∧ SlR 1 encI w' fp2_0 A2_0 l2_0 ∧ Cl w' b2 77 [.slice A2_0 (l2_0).length cap2_0] ∧ Cl w' b3 3 [.int .i64 (q3_0)] ∧ Sl 1 encI w' fp4_0 A4_0 l4_0 ∧ Cl w' b4 75 [.slice A4_0 (l4_0).length cap4_0] ∧ Cl w' b5 3 [.int .i64 (q5_0)] ∧ Cl w' b6 127 [.func (.func 98) #[] #[.pointer (some ⟨b0, 0, none⟩), .pointer (some ⟨b1, 0, none⟩), .pointer (some ⟨b2, 0, none⟩), .pointer (some ⟨b3, 0, none⟩), .pointer (some ⟨b4, 0, none⟩), .pointer (some ⟨b5, 0, none⟩), .pointer (some ⟨b6, 0, none⟩)]] ∧ Sl 1 encI w' fp2_0 A65 x63 ∧ Ow 1 encI 3 w' fp283 A281 cap282 l280 ∧ Rt w0.heap.size fp0_0 fp283 ∧ Dj [b0] fp283 ∧ Dj [b1] fp283 ∧ Dj fp2_0 fp283 ∧ Dj [b2] fp283 ∧ Dj [b3] fp283 ∧ Dj fp4_0 fp283 ∧ Dj [b4] fp283 ∧ Dj [b5] fp283 ∧ Dj [b6] fp283 ∧ Dj fp2_0 fp283 ∧ Chg ([b0] ++ (fp0_0 ++ [])) w0 w' ∧ w0.heap.size ≤ w'.heap.size) hr309 (fun hst => ⟨0, l0_0, A0_0, cap0_0, fp0_0, rfl, Fr.of hst (by kernel_rfl), F0, F1, F2_0, F2, F3, F4_0, F4, F5, F6, F67, F0_0, Rt.refl, J0__0_0, (J0_0__1).symm, (J0_0__2_0).symm, (J0_0__2).symm, (J0_0__3).symm, (J0_0__4_0).symm, (J0_0__4).symm, (J0_0__5).symm, (J0_0__6).symm, (J0_0__2_0).symm, hB, hZ⟩) ?_
      rintro _ c312 a' w278 ⟨x279, l280, A281, cap282, fp283, rfl, hF285, F286, F287, F288, F289, F290, F291, F292, F293, F294, F295, F296, hap297, D298, D299, D300, D301, D302, D303, D304, D305, D306, D307, hB, hZ⟩ hx313
      refine Fr.goOn hF285 (by kernel_rfl) ?_
      have hm := hx313
      unfold m_impl_graph_oddRing_1_bint_bint_bimplgraph_bint_bint_bint_bfuncbool_self_s1 at hm
      refine cW_seq ?_
      refine cW_region ?_
      refine wS_pure 1 [(37, .bool (decide (x279 < (((x63).length : Int)))))] (by kernel_rfl) ?_
      refine wS_end (by rfl) ?_
      refine eX_then ?_
      refine cW_seq ?_
      refine cW_cond (t := decide (x279 < (((x63).length : Int)))) (by kernel_rfl) (fun hb314 => ?_) (fun hb314 => ?_)
      · have hm := condT hb314 hm
        refine cW_skip ?_
        refine eX_then ?_
        refine cW_seq ?_
        refine cW_block ?_
        refine cW_seq ?_
        refine cW_region ?_
        obtain ⟨x315, hx316, hm⟩ := bindE hm
        refine wS_idx (d := 38) (T := 75) (A := A65) (n := (x63).length) (cap := cap66) (kd := .i64) (m := x279) (by kernel_rfl) sl75 (F295.is hx316) ?_
        refine wS_load1 (d := 39) (T := 3) (ad := (elA A65 1 (x279) 0)) (v := .int .i64 (x315)) (by kernel_rfl) vt3 (Sl.cell F295 hx316 0 (by rfl)) ?_
        refine wS_pure 1 [(11, .int .i64 (x315))] (by kernel_rfl) ?_
        refine wS_end (by rfl) ?_
        refine eX_then ?_
        refine cW_seq ?_
        refine cW_region ?_
        refine wS_load1 (d := 40) (T := 75) (ad := ⟨b4, 0, none⟩) (v := .slice A4_0 (l4_0).length cap4_0) (by kernel_rfl) vt75 ((F292).cell 0) ?_
        refine wS_pure 3 [(43, .int .i64 (Int.tmod (wr (q1_0 - (((l0_0).length : Int)))) 2)), (42, .int .i64 (wr (q1_0 - (((l0_0).length : Int))))), (41, .int .i64 (x315))] (by kernel_rfl) ?_
        refine wS_load1 (d := 44) (T := 3) (ad := ⟨b5, 0, none⟩) (v := .int .i64 (q5_0)) (by kernel_rfl) vt3 ((F293).cell 0) ?_
        refine wS_pure 2 [(46, .int .i64 (wr (x315 + (wr ((Int.tmod (wr (q1_0 - (((l0_0).length : Int)))) 2) * q5_0))))), (45, .int .i64 (wr ((Int.tmod (wr (q1_0 - (((l0_0).length : Int)))) 2) * q5_0)))] (by kernel_rfl) ?_
        obtain ⟨x317, hx318, hm⟩ := bindE hm
        refine wS_idx (d := 47) (T := 75) (A := A4_0) (n := (l4_0).length) (cap := cap4_0) (kd := .i64) (m := wr (x315 + (wr ((Int.tmod (wr (q1_0 - (((l0_0).length : Int)))) 2) * q5_0)))) (by kernel_rfl) sl75 (F291.is hx318) ?_
        refine wS_load1 (d := 48) (T := 3) (ad := (elA A4_0 1 (wr (x315 + (wr ((Int.tmod (wr (q1_0 - (((l0_0).length : Int)))) 2) * q5_0)))) 0)) (v := .int .i64 (x317)) (by kernel_rfl) vt3 (Sl.cell F291 hx318 0 (by rfl)) ?_
        refine wS_pure 1 [(12, .int .i64 (x317))] (by kernel_rfl) ?_
        refine wS_end (by rfl) ?_
        refine eX_then ?_
        refine cW_seq ?_
        refine cW_seq ?_
        refine cW_region ?_
        refine wS_load1 (d := 49) (T := 75) (ad := ⟨b0, 0, none⟩) (v := .slice A281 (l280).length cap282) (by kernel_rfl) vt75 ((F286).cell 0) ?_
        refine wS_pure 1 [(50, .int .i64 (x315))] (by kernel_rfl) ?_
        obtain ⟨y319, hy320, hm⟩ := bindE hm
        refine wS_calls (d := 51) (f := 99) (vs := [.slice A281 (l280).length cap282, .int .i64 (x315)]) (by kernel_rfl) ent99 (c_slices_Contains_int_int hy320 (F296.sl encI_ok)) ?_
        rintro _ w321 ⟨rfl, hc322⟩
        replace F286 := F286.chg hc322 notNil
        replace F287 := F287.chg hc322 notNil
        replace F288 := F288.chg hc322 Dj.nil
        replace F289 := F289.chg hc322 notNil
        replace F290 := F290.chg hc322 notNil
        replace F291 := F291.chg hc322 Dj.nil
        replace F292 := F292.chg hc322 notNil
        replace F293 := F293.chg hc322 notNil
        replace F294 := F294.chg hc322 notNil
        replace F295 := F295.chg hc322 Dj.nil
        replace F296 := F296.chg hc322 Dj.nil
        replace hB := hB.inS hc322 inNil
        replace hZ := Nat.le_trans hZ hc322.size
        refine ⟨.bool (y319), rfl, ?_⟩
        refine wS_pure 1 [(52, .bool (y319))] (by kernel_rfl) ?_
        refine wS_bool y319 (fun hb323 => ?_) (fun hb323 => ?_)
        · have hm := condT hb323 hm
          rewrite [hb323]
          refine wS_pure 8 [(60, .bool (true)), (59, undef), (58, undef), (57, undef), (56, .bool (true)), (55, .bool (true)), (54, undef), (53, undef)] (by kernel_rfl) ?_
          refine wS_end (by rfl) ?_
          refine eX_then ?_
          refine cW_prune [(0, .pointer (some ⟨b0, 0, none⟩)), (4, .pointer (some ⟨b4, 0, none⟩)), (5, .pointer (some ⟨b5, 0, none⟩)), (6, .pointer (some ⟨b6, 0, none⟩)), (9, .int .i64 (wr (q1_0 - (((l0_0).length : Int))))), (11, .int .i64 (x315)), (34, .slice A65 (x63).length cap66), (35, .int .i64 (((x63).length : Int))), (36, .int .i64 (x279)), (60, .bool (true))] (by kernel_rfl) (by kernel_rfl) (fun a324 => ?_)
          refine cW_cond_t (by kernel_rfl) ?_
          refine cW_exit ?_
          refine eX_then_exit ?_
          refine eX_block_hit ?_
          refine eX_then ?_
          refine cW_region ?_
          refine wS_pure 2 [(36, .int .i64 (wr (x279 + 1))), (72, .int .i64 (wr (x279 + 1)))] (by kernel_rfl) ?_
          refine wS_end (by rfl) ?_
          have hq : (some (Ctl.next ((wr (x279 + 1), l280))) : Option (Ctl (Int × (List (Int))) (Sum ((List (Int))) ((Bool) × (List (Int)))))) = some _ := hm
          replace hq := someE hq
          subst hq
          exact eX_next hx313 (fun hst => ⟨wr (x279 + 1), l280, A281, cap282, fp283, rfl, Fr.of hst (by kernel_rfl), F286, F287, F288, F289, F290, F291, F292, F293, F294, F295, F296, hap297, D298, D299, D300, D301, D302, D303, D304, D305, D306, D307, hB, hZ⟩)
        · have hm := condF hb323 hm
          rewrite [hb323]
          refine wS_pure 4 [(56, .bool (decide (x317 < 0))), (55, .bool (decide (x317 < 0))), (54, .bool (decide (x317 < 0))), (53, .int .i64 (x317))] (by kernel_rfl) ?_
          refine wS_bool (decide (x317 < 0)) (fun hb325 => ?_) (fun hb325 => ?_)
          · have hm := condT hb325 hm
            rewrite [hb325]
            refine wS_pure 4 [(60, .bool (true)), (59, undef), (58, undef), (57, undef)] (by kernel_rfl) ?_
            refine wS_end (by rfl) ?_
            refine eX_then ?_
            refine cW_prune [(0, .pointer (some ⟨b0, 0, none⟩)), (4, .pointer (some ⟨b4, 0, none⟩)), (5, .pointer (some ⟨b5, 0, none⟩)), (6, .pointer (some ⟨b6, 0, none⟩)), (9, .int .i64 (wr (q1_0 - (((l0_0).length : Int))))), (11, .int .i64 (x315)), (34, .slice A65 (x63).length cap66), (35, .int .i64 (((x63).length : Int))), (36, .int .i64 (x279)), (60, .bool (true))] (by kernel_rfl) (by kernel_rfl) (fun a326 => ?_)
            refine cW_cond_t (by kernel_rfl) ?_
            refine cW_exit ?_
            refine eX_then_exit ?_
            refine eX_block_hit ?_
            refine eX_then ?_
            refine cW_region ?_
            refine wS_pure 2 [(36, .int .i64 (wr (x279 + 1))), (72, .int .i64 (wr (x279 + 1)))] (by kernel_rfl) ?_
            refine wS_end (by rfl) ?_
            have hq : (some (Ctl.next ((wr (x279 + 1), l280))) : Option (Ctl (Int × (List (Int))) (Sum ((List (Int))) ((Bool) × (List (Int)))))) = some _ := hm
            replace hq := someE hq
            subst hq
            exact eX_next hx313 (fun hst => ⟨wr (x279 + 1), l280, A281, cap282, fp283, rfl, Fr.of hst (by kernel_rfl), F286, F287, F288, F289, F290, F291, F292, F293, F294, F295, F296, hap297, D298, D299, D300, D301, D302, D303, D304, D305, D306, D307, hB, hZ⟩)
          · have hm := condF hb325 hm
            rewrite [hb325]
            refine wS_pure 4 [(60, .bool (decide (x317 > (wr (q1_0 - (((l0_0).length : Int))))))), (59, .bool (decide (x317 > (wr (q1_0 - (((l0_0).length : Int))))))), (58, .int .i64 (wr (q1_0 - (((l0_0).length : Int))))), (57, .int .i64 (x317))] (by kernel_rfl) ?_
            refine wS_end (by rfl) ?_
            refine eX_then ?_
            refine cW_prune [(0, .pointer (some ⟨b0, 0, none⟩)), (4, .pointer (some ⟨b4, 0, none⟩)), (5, .pointer (some ⟨b5, 0, none⟩)), (6, .pointer (some ⟨b6, 0, none⟩)), (9, .int .i64 (wr (q1_0 - (((l0_0).length : Int))))), (11, .int .i64 (x315)), (34, .slice A65 (x63).length cap66), (35, .int .i64 (((x63).length : Int))), (36, .int .i64 (x279)), (60, .bool (decide (x317 > (wr (q1_0 - (((l0_0).length : Int)))))))] (by kernel_rfl) (by kernel_rfl) (fun a327 => ?_)
            refine cW_cond (t := decide (x317 > (wr (q1_0 - (((l0_0).length : Int)))))) (by kernel_rfl) (fun hb328 => ?_) (fun hb328 => ?_)
            · have hm := condT hb328 hm
              refine cW_exit ?_
              refine eX_then_exit ?_
              refine eX_block_hit ?_
              refine eX_then ?_
              refine cW_region ?_
              refine wS_pure 2 [(36, .int .i64 (wr (x279 + 1))), (72, .int .i64 (wr (x279 + 1)))] (by kernel_rfl) ?_
              refine wS_end (by rfl) ?_
              have hq : (some (Ctl.next ((wr (x279 + 1), l280))) : Option (Ctl (Int × (List (Int))) (Sum ((List (Int))) ((Bool) × (List (Int)))))) = some _ := hm
              replace hq := someE hq
              subst hq
              exact eX_next hx313 (fun hst => ⟨wr (x279 + 1), l280, A281, cap282, fp283, rfl, Fr.of hst (by kernel_rfl), F286, F287, F288, F289, F290, F291, F292, F293, F294, F295, F296, hap297, D298, D299, D300, D301, D302, D303, D304, D305, D306, D307, hB, hZ⟩)
            · have hm := condF hb328 hm
              refine cW_skip ?_
              refine eX_then ?_
              refine cW_seq ?_
              refine cW_region ?_
              refine wS_load1 (d := 61) (T := 75) (ad := ⟨b0, 0, none⟩) (v := .slice A281 (l280).length cap282) (by kernel_rfl) vt75 ((F286).cell 0) ?_
              refine wS_pure 1 [(62, .int .i64 (x315))] (by kernel_rfl) ?_
              refine wS_bs (enc := encI) ([x315] : List (Int)) [.int .i64 (x315)] (d := 63) (t := 75) (T := 3) (n := 1) (ps := [(0, .int .i64 (x315))]) (by kernel_rfl) el75 encI_ok (by rfl) (by omega) (by omega) (by kernel_rfl) (by rfl) ?_
              intro b329 w330 G331 F332 hc333
              have D335 : Dj fp283 [b329] := Dj.of F296.low (low1 G331)
              replace F286 := F286.chg hc333 notNil
              replace F287 := F287.chg hc333 notNil
              replace F288 := F288.chg hc333 Dj.nil
              replace F289 := F289.chg hc333 notNil
              replace F290 := F290.chg hc333 notNil
              replace F291 := F291.chg hc333 Dj.nil
              replace F292 := F292.chg hc333 notNil
              replace F293 := F293.chg hc333 notNil
              replace F294 := F294.chg hc333 notNil
              replace F295 := F295.chg hc333 Dj.nil
              replace F296 := F296.chg hc333 Dj.nil
              replace hB := hB.inS hc333 inNil
              replace G331 := Nat.le_trans hZ G331
              replace G331 := low1 G331
              replace hZ := Nat.le_trans hZ hc333.size
              obtain ⟨_, hk336, hm⟩ := bindE hm
              replace hk336 := apE hk336
              refine wS_append (enc := encI) (l := (l280 : List (Int))) (l2 := (([x315] : List (Int)) : List (Int))) (d := 64) (t := 75) (T := 3) (A := A281) (A2 := (some ⟨b329, 0, none⟩)) (cap := cap282) (cap2 := 1) (by kernel_rfl) el75 encI_ok F296 (F332.sl encI_ok) (by rfl) hk336 ?_
              intro w337 fp338 A339 cap340 F341 hc342 hp343
              have hap346 := Rt.of hp343 hZ hap297
              have D347 : Dj [b0] fp338 := Dj.ap D298 (lt1 F286.lt) hp343
              have D348 : Dj [b1] fp338 := Dj.ap D299 (lt1 F287.lt) hp343
              have D349 : Dj fp2_0 fp338 := Dj.ap D300 F288.low hp343
              have D350 : Dj [b2] fp338 := Dj.ap D301 (lt1 F289.lt) hp343
              have D351 : Dj [b3] fp338 := Dj.ap D302 (lt1 F290.lt) hp343
              have D352 : Dj fp4_0 fp338 := Dj.ap D303 F291.low hp343
              have D353 : Dj [b4] fp338 := Dj.ap D304 (lt1 F292.lt) hp343
              have D354 : Dj [b5] fp338 := Dj.ap D305 (lt1 F293.lt) hp343
              have D355 : Dj [b6] fp338 := Dj.ap D306 (lt1 F294.lt) hp343
              have D356 : Dj fp2_0 fp338 := Dj.ap D307 F295.low hp343
              have D357 : Dj [b329] fp338 := Dj.ap (D335).symm F332.low hp343
              replace F286 := F286.chg hc342 (dj1 D298)
              replace F287 := F287.chg hc342 (dj1 D299)
              replace F288 := F288.chg hc342 D300
              replace F289 := F289.chg hc342 (dj1 D301)
              replace F290 := F290.chg hc342 (dj1 D302)
              replace F291 := F291.chg hc342 D303
              replace F292 := F292.chg hc342 (dj1 D304)
              replace F293 := F293.chg hc342 (dj1 D305)
              replace F294 := F294.chg hc342 (dj1 D306)
              replace F295 := F295.chg hc342 D307
              replace F332 := F332.chg hc342 (D335).symm
              replace hB := hB.inS hc342 (inRt hap297 (fun x hx => (List.mem_append_right _ (List.mem_append_left _ hx))))
              replace hZ := Nat.le_trans hZ hc342.size
              refine wS_store (T := 75) (g := b0) (o := 0) (ad := ⟨b0, 0, none⟩) (v := .slice A339 (l280 ++ (([x315] : List (Int)))).length cap340) (vs := [.slice A339 (l280 ++ (([x315] : List (Int)))).length cap340]) (by kernel_rfl) (by rfl) sz75 (by rfl) (by rfl) F286 (by simp only [List.length_cons, List.length_nil]; omega) ?_
              intro w358 F359 hc360
              replace F287 := F287.chg hc360 (dj1 (J0__1).symm)
              replace F288 := F288.chg hc360 (J0__2_0).symm
              replace F289 := F289.chg hc360 (dj1 (J0__2).symm)
              replace F290 := F290.chg hc360 (dj1 (J0__3).symm)
              replace F291 := F291.chg hc360 (J0__4_0).symm
              replace F292 := F292.chg hc360 (dj1 (J0__4).symm)
              replace F293 := F293.chg hc360 (dj1 (J0__5).symm)
              replace F294 := F294.chg hc360 (dj1 (J0__6).symm)
              replace F295 := F295.chg hc360 (J0__2_0).symm
              replace F332 := F332.chg hc360 (Dj.of L0 G331).symm
              replace F341 := F341.chg hc360 (D347).symm
              replace hB := hB.inS hc360 (inMem (fun x hx => (List.mem_append_left _ hx)))
              replace hZ := Nat.le_trans hZ hc360.size
              replace F359 : Cl w358 b0 75 [.slice A339 (l280 ++ (([x315] : List (Int)))).length cap340] := F359
              clear F286
              refine wS_end (by rfl) ?_
              refine eX_then ?_
              refine cW_seq ?_
              refine cW_seq ?_
              refine cW_region ?_
              refine wS_load1 (d := 65) (T := 127) (ad := ⟨b6, 0, none⟩) (v := .func (.func 98) #[] #[.pointer (some ⟨b0, 0, none⟩), .pointer (some ⟨b1, 0, none⟩), .pointer (some ⟨b2, 0, none⟩), .pointer (some ⟨b3, 0, none⟩), .pointer (some ⟨b4, 0, none⟩), .pointer (some ⟨b5, 0, none⟩), .pointer (some ⟨b6, 0, none⟩)]) (by kernel_rfl) vt127 ((F294).cell 0) ?_
              obtain ⟨y361, hy362, hm⟩ := bindE hm
              refine wS_calls (d := 66) (f := 98) (vs := [.pointer (some ⟨b0, 0, none⟩), .pointer (some ⟨b1, 0, none⟩), .pointer (some ⟨b2, 0, none⟩), .pointer (some ⟨b3, 0, none⟩), .pointer (some ⟨b4, 0, none⟩), .pointer (some ⟨b5, 0, none⟩), .pointer (some ⟨b6, 0, none⟩)]) (by kernel_rfl) ent98 (hR hy362 F341 F359 F287 F288 F289 F290 F291 F292 F293 F294 D347 J0__1 J0__2_0 J0__2 J0__3 J0__4_0 J0__4 J0__5 J0__6 (D348).symm (D349).symm (D350).symm (D351).symm (D352).symm (D353).symm (D354).symm (D355).symm) ?_
              rintro _ w363 ⟨A365, cap366, fp367, rfl, F370, F368, hap369, hc364⟩
              have hap372 := Rt.of hap369 hZ hap346
              have D373 : Dj [b0] fp367 := Dj.ap D347 (lt1 F359.lt) hap369
              have D374 : Dj [b1] fp367 := Dj.ap D348 (lt1 F287.lt) hap369
              have D375 : Dj fp2_0 fp367 := Dj.ap D349 F288.low hap369
              have D376 : Dj [b2] fp367 := Dj.ap D350 (lt1 F289.lt) hap369
              have D377 : Dj [b3] fp367 := Dj.ap D351 (lt1 F290.lt) hap369
              have D378 : Dj fp4_0 fp367 := Dj.ap D352 F291.low hap369
              have D379 : Dj [b4] fp367 := Dj.ap D353 (lt1 F292.lt) hap369
              have D380 : Dj [b5] fp367 := Dj.ap D354 (lt1 F293.lt) hap369
              have D381 : Dj [b6] fp367 := Dj.ap D355 (lt1 F294.lt) hap369
              have D382 : Dj fp2_0 fp367 := Dj.ap D356 F295.low hap369
              have D383 : Dj [b329] fp367 := Dj.ap D357 F332.low hap369
              replace F287 := F287.chg hc364 (dj1 (Dj.app (J0__1).symm (Dj.app D348 Dj.nil)))
              replace F288 := F288.chg hc364 (Dj.app (J0__2_0).symm (Dj.app D349 Dj.nil))
              replace F289 := F289.chg hc364 (dj1 (Dj.app (J0__2).symm (Dj.app D350 Dj.nil)))
              replace F290 := F290.chg hc364 (dj1 (Dj.app (J0__3).symm (Dj.app D351 Dj.nil)))
              replace F291 := F291.chg hc364 (Dj.app (J0__4_0).symm (Dj.app D352 Dj.nil))
              replace F292 := F292.chg hc364 (dj1 (Dj.app (J0__4).symm (Dj.app D353 Dj.nil)))
              replace F293 := F293.chg hc364 (dj1 (Dj.app (J0__5).symm (Dj.app D354 Dj.nil)))
              replace F294 := F294.chg hc364 (dj1 (Dj.app (J0__6).symm (Dj.app D355 Dj.nil)))
              replace F295 := F295.chg hc364 (Dj.app (J0__2_0).symm (Dj.app D356 Dj.nil))
              replace F332 := F332.chg hc364 (Dj.app (Dj.of L0 G331).symm (Dj.app D357 Dj.nil))
              replace hB := hB.inS hc364 (inApp (inMem (fun x hx => (List.mem_append_left _ hx))) (inApp (inRt hap346 (fun x hx => (List.mem_append_right _ (List.mem_append_left _ hx)))) inNil))
              replace hZ := Nat.le_trans hZ hc364.size
              clear F359
              refine ⟨.bool (y361.1), rfl, ?_⟩
              refine wS_end (by rfl) ?_
              refine eX_then ?_
              refine cW_cond (t := y361.1) (by kernel_rfl) (fun hb384 => ?_) (fun hb384 => ?_)
              · have hm := condT hb384 hm
                refine cW_seq ?_
                refine cW_region ?_
                refine wS_pure 1 [(7, .bool (true))] (by kernel_rfl) ?_
                refine wS_end (by rfl) ?_
                refine eX_then ?_
                refine cW_ret ?_
                refine eX_then_ret ?_
                refine eX_block_ret ?_
                refine eX_then_ret ?_
                have hq : (some (Ctl.out (Sum.inr ((true, y361.2)))) : Option (Ctl (Int × (List (Int))) (Sum ((List (Int))) ((Bool) × (List (Int)))))) = some _ := hm
                replace hq := someE hq
                subst hq
                refine eX_outR hx313 (fun hr => ?_)
                subst hr
                refine eX_block_ret ?_
                refine eX_then_ret ?_
                refine eX_then_ret ?_
                have hq : (some ((true, y361.2)) : Option ((Bool) × (List (Int)))) = some _ := hm310
                replace hq := someE hq
                subst hq
                refine eX_ret (vs := [.bool (true)]) [.tmp 7] (by rfl) ⟨by (show lkE _ _ _ = _); kernel_rfl, trivial⟩ ?_
                exact ⟨A365, cap366, fp367, rfl, F370, F368, hap372, hB⟩
              · have hm := condF hb384 hm
                refine cW_skip ?_
                refine eX_then ?_
                refine cW_region ?_
                refine wS_load1 (d := 67) (T := 75) (ad := ⟨b0, 0, none⟩) (v := .slice A365 (y361.2).length cap366) (by kernel_rfl) vt75 ((F370).cell 0) ?_
                refine wS_load1 (d := 68) (T := 75) (ad := ⟨b0, 0, none⟩) (v := .slice A365 (y361.2).length cap366) (by kernel_rfl) vt75 ((F370).cell 0) ?_
                refine wS_pure 2 [(70, .int .i64 (wr ((((y361.2).length : Int)) - 1))), (69, .int .i64 (((y361.2).length : Int)))] (by kernel_rfl) ?_
                obtain ⟨y385, hy386, hm⟩ := bindE hm
                refine wS_prefix (k := 1) (enc := encI) (U := 3) (l := y361.2) (d := 71) (T := 75) (A := A365) (cap := cap366) (hi := wr ((((y361.2).length : Int)) - 1)) (by kernel_rfl) sl75 encI_ok F368 F368.cap_le hy386 ?_
                intro hpe F387
                subst hpe
                refine wS_store (T := 75) (g := b0) (o := 0) (ad := ⟨b0, 0, none⟩) (v := .slice A365 (y361.2.take (Int.toNat (wr ((((y361.2).length : Int)) - 1)))).length cap366) (vs := [.slice A365 (y361.2.take (Int.toNat (wr ((((y361.2).length : Int)) - 1)))).length cap366]) (by kernel_rfl) (by rfl) sz75 (by rfl) (by rfl) F370 (by simp only [List.length_cons, List.length_nil]; omega) ?_
                intro w388 F389 hc390
                replace F287 := F287.chg hc390 (dj1 (J0__1).symm)
                replace F288 := F288.chg hc390 (J0__2_0).symm
                replace F289 := F289.chg hc390 (dj1 (J0__2).symm)
                replace F290 := F290.chg hc390 (dj1 (J0__3).symm)
                replace F291 := F291.chg hc390 (J0__4_0).symm
                replace F292 := F292.chg hc390 (dj1 (J0__4).symm)
                replace F293 := F293.chg hc390 (dj1 (J0__5).symm)
                replace F294 := F294.chg hc390 (dj1 (J0__6).symm)
                replace F295 := F295.chg hc390 (J0__2_0).symm
                replace F332 := F332.chg hc390 (Dj.of L0 G331).symm
                replace F387 := F387.chg hc390 (D373).symm
                replace hB := hB.inS hc390 (inMem (fun x hx => (List.mem_append_left _ hx)))
                replace hZ := Nat.le_trans hZ hc390.size
                replace F389 : Cl w388 b0 75 [.slice A365 (y361.2.take (Int.toNat (wr ((((y361.2).length : Int)) - 1)))).length cap366] := F389
                clear F370
                refine wS_end (by rfl) ?_
                refine eX_block ?_
                refine eX_then ?_
                refine cW_region ?_
                refine wS_pure 2 [(36, .int .i64 (wr (x279 + 1))), (72, .int .i64 (wr (x279 + 1)))] (by kernel_rfl) ?_
                refine wS_end (by rfl) ?_
                have hq : (some (Ctl.next ((wr (x279 + 1), y361.2.take (Int.toNat (wr ((((y361.2).length : Int)) - 1)))))) : Option (Ctl (Int × (List (Int))) (Sum ((List (Int))) ((Bool) × (List (Int)))))) = some _ := hm
                replace hq := someE hq
                subst hq
                exact eX_next hx313 (fun hst => ⟨wr (x279 + 1), y361.2.take (Int.toNat (wr ((((y361.2).length : Int)) - 1))), A365, cap366, fp367, rfl, Fr.of hst (by kernel_rfl), F389, F287, F288, F289, F290, F291, F292, F293, F294, F295, F387, hap372, D373, D374, D375, D376, D377, D378, D379, D380, D381, D382, hB, hZ⟩)
      · have hm := condF hb314 hm
        refine cW_exit ?_
        refine eX_then_exit ?_
        have hq : (some (Ctl.out (Sum.inl l280)) : Option (Ctl (Int × (List (Int))) (Sum ((List (Int))) ((Bool) × (List (Int)))))) = some _ := hm
        replace hq := someE hq
        subst hq
        refine eX_outX hx313 (fun hr391 => ?_)
        replace hr391 := hr391.symm
        subst hr391
        refine eX_block_hit ?_
        exact eX_J (fun hst => ⟨l280, A281, cap282, fp283, rfl, Fr.of hst (by kernel_rfl), F286, F296, hap297, D298, hB, hZ⟩)
    · rintro a' w267 ⟨l268, A269, cap270, fp271, hJ, hF273, F274, F275, hap276, D277, hB, hZ⟩
      subst hJ
      refine Fr.goX hF273 (by kernel_rfl) ?_
      refine eX_then ?_
      refine cW_seq ?_
      refine cW_region ?_
      refine wS_pure 1 [(7, .bool (false))] (by kernel_rfl) ?_
      refine wS_end (by rfl) ?_
      refine eX_then ?_
      refine cW_ret ?_
      have hq : (some ((false, l268)) : Option ((Bool) × (List (Int)))) = some _ := hm
      replace hq := someE hq
      subst hq
      refine eX_ret (vs := [.bool (false)]) [.tmp 7] (by rfl) ⟨by (show lkE _ _ _ = _); kernel_rfl, trivial⟩ ?_
      exact ⟨A269, cap270, fp271, rfl, F274, F275, hap276, hB⟩
set_option maxRecDepth 100000 in
theorem c_impl_graph_oddRing_1_bint_bint_bimplgraph_bint_bint_bint_bfuncbool_self (n : Nat) : ∀ {w0 : World} {l0_0 : List (Int)} {A0_0 : Option Addr} {cap0_0 : Nat} {fp0_0 : List Nat} {b0 : Nat} {q1_0 : Int} {b1 : Nat} {l2_0 : List (List (Int))} {A2_0 : Option Addr} {cap2_0 : Nat} {fp2_0 : List Nat} {b2 : Nat} {q3_0 : Int} {b3 : Nat} {l4_0 : List (Int)} {A4_0 : Option Addr} {cap4_0 : Nat} {fp4_0 : List Nat} {b4 : Nat} {q5_0 : Int} {b5 : Nat} {b6 : Nat} {r : (Bool) × (List (Int))} (hm : m_impl_graph_oddRing_1_bint_bint_bimplgraph_bint_bint_bint_bfuncbool_self n l0_0 q1_0 l2_0 q3_0 l4_0 q5_0 = some r) (F0_0 : Ow 1 encI 3 w0 fp0_0 A0_0 cap0_0 l0_0) (F0 : Cl w0 b0 75 [.slice A0_0 (l0_0).length cap0_0]) (F1 : Cl w0 b1 3 [.int .i64 (q1_0)]) (F2_0 : SlR 1 encI w0 fp2_0 A2_0 l2_0) (F2 : Cl w0 b2 77 [.slice A2_0 (l2_0).length cap2_0]) (F3 : Cl w0 b3 3 [.int .i64 (q3_0)]) (F4_0 : Sl 1 encI w0 fp4_0 A4_0 l4_0) (F4 : Cl w0 b4 75 [.slice A4_0 (l4_0).length cap4_0]) (F5 : Cl w0 b5 3 [.int .i64 (q5_0)]) (F6 : Cl w0 b6 127 [.func (.func 98) #[] #[.pointer (some ⟨b0, 0, none⟩), .pointer (some ⟨b1, 0, none⟩), .pointer (some ⟨b2, 0, none⟩), .pointer (some ⟨b3, 0, none⟩), .pointer (some ⟨b4, 0, none⟩), .pointer (some ⟨b5, 0, none⟩), .pointer (some ⟨b6, 0, none⟩)]]) (J0__0_0 : Dj [b0] fp0_0) (J0__1 : Dj [b0] [b1]) (J0__2_0 : Dj [b0] fp2_0) (J0__2 : Dj [b0] [b2]) (J0__3 : Dj [b0] [b3]) (J0__4_0 : Dj [b0] fp4_0) (J0__4 : Dj [b0] [b4]) (J0__5 : Dj [b0] [b5]) (J0__6 : Dj [b0] [b6]) (J0_0__1 : Dj fp0_0 [b1]) (J0_0__2_0 : Dj fp0_0 fp2_0) (J0_0__2 : Dj fp0_0 [b2]) (J0_0__3 : Dj fp0_0 [b3]) (J0_0__4_0 : Dj fp0_0 fp4_0) (J0_0__4 : Dj fp0_0 [b4]) (J0_0__5 : Dj fp0_0 [b5]) (J0_0__6 : Dj fp0_0 [b6]), Calls Try.prog 98 #[.pointer (some ⟨b0, 0, none⟩), .pointer (some ⟨b1, 0, none⟩), .pointer (some ⟨b2, 0, none⟩), .pointer (some ⟨b3, 0, none⟩), .pointer (some ⟨b4, 0, none⟩), .pointer (some ⟨b5, 0, none⟩), .pointer (some ⟨b6, 0, none⟩)] w0 fun e w' => ∃ At0_0 capt0_0 fpt0_0, e = .returned (.bool (r.1)) ∧ Cl w' b0 75 [.slice At0_0 (r.2).length capt0_0] ∧ Ow 1 encI 3 w' fpt0_0 At0_0 capt0_0 r.2 ∧ Rt w0.heap.size fp0_0 fpt0_0 ∧ Chg ([b0] ++ (fp0_0 ++ [])) w0 w' := by
  induction n with
  | zero => intro w0 l0_0 A0_0 cap0_0 fp0_0 b0 q1_0 b1 l2_0 A2_0 cap2_0 fp2_0 b2 q3_0 b3 l4_0 A4_0 cap4_0 fp4_0 b4 q5_0 b5 b6 r hm F0_0 F0 F1 F2_0 F2 F3 F4_0 F4 F5 F6 J0__0_0 J0__1 J0__2_0 J0__2 J0__3 J0__4_0 J0__4 J0__5 J0__6 J0_0__1 J0_0__2_0 J0_0__2 J0_0__3 J0_0__4_0 J0_0__4 J0_0__5 J0_0__6; exact nomatch (show (none : Option ((Bool) × (List (Int)))) = some r from hm)
  | succ n ih => intro w0 l0_0 A0_0 cap0_0 fp0_0 b0 q1_0 b1 l2_0 A2_0 cap2_0 fp2_0 b2 q3_0 b3 l4_0 A4_0 cap4_0 fp4_0 b4 q5_0 b5 b6 r hm F0_0 F0 F1 F2_0 F2 F3 F4_0 F4 F5 F6 J0__0_0 J0__1 J0__2_0 J0__2 J0__3 J0__4_0 J0__4 J0__5 J0__6 J0_0__1 J0_0__2_0 J0_0__2 J0_0__3 J0_0__4_0 J0_0__4 J0_0__5 J0_0__6; exact c_impl_graph_oddRing_1_bint_bint_bimplgraph_bint_bint_bint_bfuncbool_self_body ih hm F0_0 F0 F1 F2_0 F2 F3 F4_0 F4 F5 F6 J0__0_0 J0__1 J0__2_0 J0__2 J0__3 J0__4_0 J0__4 J0__5 J0__6 J0_0__1 J0_0__2_0 J0_0__2 J0_0__3 J0_0__4_0 J0_0__4 J0_0__5 J0_0__6


set_option maxRecDepth 100000 in
/-- impl.graph).oddRing -/
theorem c_impl_graph_oddRing {w0 : World} {l0 : List (List (Int))} {A0 : Option Addr} {cap0 : Nat} {fp0 : List Nat} {r : (List (Int))} (hm : m_impl_graph_oddRing l0 = some r) (F0 : SlR 1 encI w0 fp0 A0 l0) :
    Calls Try.prog 56 #[.slice A0 (l0).length cap0] w0 fun e w' => ∃ A100 cap100 fp100, e = .returned (.slice A100 (r).length cap100) ∧ Ow 1 encI 3 w' fp100 A100 cap100 r ∧ (∀ x ∈ fp100, w0.heap.size ≤ x) ∧ Chg [] w0 w' := by
  have L0 := F0.low
  have hB : Chg [] w0 w0 := Chg.refl _ _
  have hZ := Nat.le_refl w0.heap.size
  unfold m_impl_graph_oddRing at hm
  refine enterE (N := 61) Try.func56 (by rfl) Try.ntmps56 (by simp) [(0, .slice A0 (l0).length cap0)] (by rfl) (by kernel_rfl) (fun a => ?_)
  refine cW_seq ?_
  refine cW_region ?_
  refine wS_box (d := 1) (T := 77) (x := .slice A0 (l0).length cap0) (by kernel_rfl) ?_
  intro b2 w3 G4 F5 hc6
  replace F5 : Cl w3 b2 77 [.slice A0 (l0).length cap0] := F5
  replace F0 := F0.chg hc6 Dj.nil
  replace hB := hB.inS hc6 inNil
  replace G4 := Nat.le_trans hZ G4
  replace hZ := Nat.le_trans hZ hc6.size
  refine wS_pure 1 [(2, .slice none 0 0)] (by kernel_rfl) ?_
  refine wS_end (by rfl) ?_
  refine eX_then ?_
  refine cW_seq ?_
  refine cW_region ?_
  refine wS_load1 (d := 12) (T := 77) (ad := ⟨b2, 0, none⟩) (v := .slice A0 (l0).length cap0) (by kernel_rfl) vt77 ((F5).cell 0) ?_
  refine wS_pure 1 [(13, .int .i64 (((l0).length : Int)))] (by kernel_rfl) ?_
  refine wS_alloc (d := 3) (T := 3) (z := .int .i64 (0)) (by kernel_rfl) (by kernel_rfl) ?_
  intro b8 w9 G10 F11 hc12
  replace F11 : Cl w9 b8 3 [.int .i64 (0)] := F11
  have D14 : Dj [b2] [b8] := Dj.of (lt1 F5.lt) (low1 G10)
  replace F0 := F0.chg hc12 Dj.nil
  replace F5 := F5.chg hc12 notNil
  replace hB := hB.inS hc12 inNil
  replace G10 := Nat.le_trans hZ G10
  replace hZ := Nat.le_trans hZ hc12.size
  refine wS_alloc (d := 4) (T := 3) (z := .int .i64 (0)) (by kernel_rfl) (by kernel_rfl) ?_
  intro b15 w16 G17 F18 hc19
  replace F18 : Cl w16 b15 3 [.int .i64 (0)] := F18
  have D21 : Dj [b2] [b15] := Dj.of (lt1 F5.lt) (low1 G17)
  have D22 : Dj [b8] [b15] := Dj.of (lt1 F11.lt) (low1 G17)
  replace F0 := F0.chg hc19 Dj.nil
  replace F5 := F5.chg hc19 notNil
  replace F11 := F11.chg hc19 notNil
  replace hB := hB.inS hc19 inNil
  replace G17 := Nat.le_trans hZ G17
  replace hZ := Nat.le_trans hZ hc19.size
  refine wS_store (T := 3) (g := b8) (o := 0) (ad := ⟨b8, 0, none⟩) (v := .int .i64 (((l0).length : Int))) (vs := [.int .i64 (((l0).length : Int))]) (by kernel_rfl) (by rfl) sz3 (by rfl) (by rfl) F11 (by simp only [List.length_cons, List.length_nil]; omega) ?_
  intro w23 F24 hc25
  replace F0 := F0.chg hc25 (Dj.of L0 (low1 G10))
  replace F5 := F5.chg hc25 (dj1 D14)
  replace F18 := F18.chg hc25 (dj1 (D22).symm)
  replace hB := hB.inS hc25 (inLow (low1 G10))
  replace hZ := Nat.le_trans hZ hc25.size
  replace F24 : Cl w23 b8 3 [.int .i64 (((l0).length : Int))] := F24
  clear F11
  refine wS_store (T := 3) (g := b15) (o := 0) (ad := ⟨b15, 0, none⟩) (v := .int .i64 (0)) (vs := [.int .i64 (0)]) (by kernel_rfl) (by rfl) sz3 (by rfl) (by rfl) F18 (by simp only [List.length_cons, List.length_nil]; omega) ?_
  intro w26 F27 hc28
  replace F0 := F0.chg hc28 (Dj.of L0 (low1 G17))
  replace F5 := F5.chg hc28 (dj1 D21)
  replace F24 := F24.chg hc28 (dj1 D22)
  replace hB := hB.inS hc28 (inLow (low1 G17))
  replace hZ := Nat.le_trans hZ hc28.size
  replace F27 : Cl w26 b15 3 [.int .i64 (0)] := F27
  clear F18
  refine wS_end (by rfl) ?_
  refine eX_then ?_
  refine cW_seq ?_
  refine cW_region ?_
  refine wS_load1 (d := 14) (T := 77) (ad := ⟨b2, 0, none⟩) (v := .slice A0 (l0).length cap0) (by kernel_rfl) vt77 ((F5).cell 0) ?_
  obtain ⟨y29, hy30, hm⟩ := bindE hm
  refine wS_calls (d := 15) (f := 96) (vs := [.slice A0 (l0).length cap0]) (by kernel_rfl) ent96 (c_impl_graph_twice hy30 F0) ?_
  rintro _ w31 ⟨A33, cap34, fp35, fr38, rfl, F36, G37, hc32⟩
  have D40 : Dj [b2] (fp35 ++ fr38) := Dj.of (lt1 F5.lt) G37
  have D41 : Dj [b8] (fp35 ++ fr38) := Dj.of (lt1 F24.lt) G37
  have D42 : Dj [b15] (fp35 ++ fr38) := Dj.of (lt1 F27.lt) G37
  replace F0 := F0.chg hc32 Dj.nil
  replace F5 := F5.chg hc32 notNil
  replace F24 := F24.chg hc32 notNil
  replace F27 := F27.chg hc32 notNil
  replace hB := hB.inS hc32 inNil
  replace G37 := low_le hZ G37
  replace hZ := Nat.le_trans hZ hc32.size
  refine ⟨.slice A33 (y29).length cap34, rfl, ?_⟩
  refine wS_pure 1 [(5, .slice A33 (y29).length cap34)] (by kernel_rfl) ?_
  refine wS_end (by rfl) ?_
  refine eX_then ?_
  refine cW_seq ?_
  refine cW_seq ?_
  refine cW_region ?_
  refine wS_load1 (d := 16) (T := 77) (ad := ⟨b2, 0, none⟩) (v := .slice A0 (l0).length cap0) (by kernel_rfl) vt77 ((F5).cell 0) ?_
  refine wS_pure 2 [(18, .int .i64 (0)), (17, .int .i64 (((l0).length : Int)))] (by kernel_rfl) ?_
  refine wS_end (by rfl) ?_
  refine eX_then ?_
  obtain ⟨r336, hr337, hm⟩ := bindE hm
  have hm338 := hm
  refine cW_cut (fun a' w' => ∃ x320 : Int, x320 = r336 ∧ Fr 61 [(1, .pointer (some ⟨b2, 0, none⟩)), (3, .pointer (some ⟨b8, 0, none⟩)), (4, .pointer (some ⟨b15, 0, none⟩)), (5, .slice A33 (y29).length cap34)] a' ∧ SlR 1 encI w' fp0 A0 l0 ∧ Cl w' b2 77 [.slice A0 (l0).length cap0] ∧ Cl w' b8 3 [.int .i64 (((l0).length : Int))] ∧ Cl w' b15 3 [.int .i64 (x320)] ∧ OwR 1 encI 75 3 w' fp35 fr38 A33 cap34 y29 ∧ Chg [] w0 w' ∧ w0.heap.size ≤ w'.heap.size) ?_ ?_
  · refine cW_block ?_
    refine cW_loop _ (fun (s339 : Int × Int) a' w' => ∃ x328 : Int, ∃ x329 : Int, (x328, x329) = s339 ∧ Fr 61 [(1, .pointer (some ⟨b2, 0, none⟩)), (3, .pointer (some ⟨b8, 0, none⟩)), (4, .pointer (some ⟨b15, 0, none⟩)), (5, .slice A33 (y29).length cap34), (17, .int .i64 (((l0).length : Int))), (18, .int .i64 (x328))] a' ∧ SlR 1 encI w' fp0 A0 l0 ∧ Cl w' b2 77 [.slice A0 (l0).length cap0] ∧ Cl w' b8 3 [.int .i64 (((l0).length : Int))] ∧ Cl w' b15 3 [.int .i64 (x329)] ∧ OwR 1 encI 75 3 w' fp35 fr38 A33 cap34 y29 ∧ Chg [] w0 w' ∧ w0.heap.size ≤ w'.heap.size) hr337 (fun hst => ⟨0, 0, rfl, Fr.of hst (by kernel_rfl), F0, F5, F24, F27, F36, hB, hZ⟩) ?_
    rintro _ c340 a' w327 ⟨x328, x329, rfl, hF330, F331, F332, F333, F334, F335, hB, hZ⟩ hx341
    refine Fr.goOn hF330 (by kernel_rfl) ?_
    have hm := hx341
    unfold m_impl_graph_oddRing_s1 at hm
    refine cW_seq ?_
    refine cW_region ?_
    refine wS_pure 1 [(19, .bool (decide (x328 < (((l0).length : Int)))))] (by kernel_rfl) ?_
    refine wS_end (by rfl) ?_
    refine eX_then ?_
    refine cW_seq ?_
    refine cW_cond (t := decide (x328 < (((l0).length : Int)))) (by kernel_rfl) (fun hb342 => ?_) (fun hb342 => ?_)
    · have hm := condT hb342 hm
      refine cW_skip ?_
      refine eX_then ?_
      refine cW_seq ?_
      refine cW_block ?_
      obtain ⟨s411, hs412, hm⟩ := bindE hm
      refine cW_cut (fun a' w' => ∃ x404 : Int, x404 = s411 ∧ Fr 61 [(1, .pointer (some ⟨b2, 0, none⟩)), (3, .pointer (some ⟨b8, 0, none⟩)), (4, .pointer (some ⟨b15, 0, none⟩)), (5, .slice A33 (y29).length cap34), (17, .int .i64 (((l0).length : Int))), (18, .int .i64 (x328))] a' ∧ SlR 1 encI w' fp0 A0 l0 ∧ Cl w' b2 77 [.slice A0 (l0).length cap0] ∧ Cl w' b8 3 [.int .i64 (((l0).length : Int))] ∧ Cl w' b15 3 [.int .i64 (x404)] ∧ OwR 1 encI 75 3 w' fp35 fr38 A33 cap34 y29 ∧ Chg [] w0 w' ∧ w0.heap.size ≤ w'.heap.size) ?_ ?_
      · have hm := hs412
        refine cW_seq ?_
        refine cW_region ?_
        refine wS_pure 2 [(6, .int .i64 (x328)), (20, .int .i64 (x328))] (by kernel_rfl) ?_
        refine wS_end (by rfl) ?_
        refine eX_then ?_
        refine cW_seq ?_
        refine cW_drawnTail [] 6 (by kernel_rfl) (by kernel_rfl) (fun w437 hc438 => ?_)
        replace F331 := F331.chg hc438 Dj.nil
        replace F332 := F332.chg hc438 notNil
        replace F333 := F333.chg hc438 notNil
        replace F334 := F334.chg hc438 notNil
        replace F335 := F335.chg hc438 Dj.nil
        replace hB := hB.inS hc438 inNil
        replace hZ := Nat.le_trans hZ hc438.size
        have hS := Chg.refl [] w437
        have Z439 := F331
        have Z440 := F332
        have Z441 := F333
        have Z442 := F334
        have Z443 := F335
        refine wH_take [0, 1, 3] [3, 1, 0] [(24, .int .i64 (x328)), (22, .int .i64 (x328)), (21, .slice A33 (y29).length cap34)] (by kernel_rfl) (qT (qT (qT (qB (qT (qL (qB (qT (qT qZ))))))))) (by kernel_rfl) ?_
        refine wH_load1 (i := 4) (d := 25) (T := 3) (ad := ⟨b8, 0, none⟩) (v := .int .i64 (((l0).length : Int))) (by kernel_rfl) (qT (qT (qT (qB (qT (qL (qB (qT (qT qZ))))))))) (by kernel_rfl) (by kernel_rfl) vt3 (fun W hW => (Z441.chg hW notNil).cell 0) ?_
        refine wH_take [5] [5, 4, 3, 1, 0] [(26, .int .i64 (wr (x328 + (((l0).length : Int)))))] (by kernel_rfl) (qT (qT (qT (qB (qT (qL (qB (qT (qT qZ))))))))) (by kernel_rfl) ?_
        refine wH_all [2] (by rfl) (by kernel_rfl) (by simp) ⟨⟨by kernel_rfl, ?_⟩, trivial⟩
        obtain ⟨y444, hy445, hm⟩ := bindE hm
        refine wS_calls (d := 23) (f := 97) (vs := [.slice A33 (y29).length cap34, .int .i64 (x328)]) (by kernel_rfl) ent97 (c_impl_graph_back hy445 (F335.slr encI_ok)) ?_
        rintro _ w446 ⟨A448, cap449, fp450, rfl, F451, G452, hc447⟩
        have D455 : Dj [b2] fp450 := Dj.of (lt1 F332.lt) G452
        have D456 : Dj [b8] fp450 := Dj.of (lt1 F333.lt) G452
        have D457 : Dj [b15] fp450 := Dj.of (lt1 F334.lt) G452
        have D458 : Dj (fp35 ++ fr38) fp450 := Dj.of F335.low G452
        replace F331 := F331.chg hc447 Dj.nil
        replace F332 := F332.chg hc447 notNil
        replace F333 := F333.chg hc447 notNil
        replace F334 := F334.chg hc447 notNil
        replace F335 := F335.chg hc447 Dj.nil
        replace hB := hB.inS hc447 inNil
        have hSz := hS
        replace hS := hS.inS hc447 inNil
        replace G452 := low_le hZ G452
        replace hZ := Nat.le_trans hZ hc447.size
        refine ⟨.slice A448 (y444).length cap449, rfl, ?_⟩
        refine wS_end (by kernel_rfl) ?_
        refine eX_KH hS ?_
        refine wH_done (by kernel_rfl) ?_
        refine eX_tail ?_
        obtain ⟨x459, hx460, hm⟩ := bindE hm
        refine wS_idx (d := 27) (T := 75) (A := A448) (n := (y444).length) (cap := cap449) (kd := .i64) (m := wr (x328 + (((l0).length : Int)))) (by kernel_rfl) sl75 ((F451.sl encI_ok).is hx460) ?_
        refine wS_load1 (d := 28) (T := 3) (ad := (elA A448 1 (wr (x328 + (((l0).length : Int)))) 0)) (v := .int .i64 (x459)) (by kernel_rfl) vt3 (Sl.cell (F451.sl encI_ok) hx460 0 (by rfl)) ?_
        refine wS_pure 1 [(7, .int .i64 (x459))] (by kernel_rfl) ?_
        refine wS_end (by rfl) ?_
        refine eX_then ?_
        refine cW_seq ?_
        refine cW_region ?_
        refine wS_pure 3 [(31, .bool (decide (x459 > 0))), (30, .bool (decide (x459 > 0))), (29, .int .i64 (x459))] (by kernel_rfl) ?_
        refine wS_bool (decide (x459 > 0)) (fun hb461 => ?_) (fun hb461 => ?_)
        · have hm := condT hb461 hm
          rewrite [hb461]
          refine wS_load1 (d := 32) (T := 3) (ad := ⟨b15, 0, none⟩) (v := .int .i64 (x329)) (by kernel_rfl) vt3 ((F334).cell 0) ?_
          refine wS_pure 2 [(34, .bool (x329 == 0)), (33, .bool (x329 == 0))] (by kernel_rfl) ?_
          refine wS_bool (x329 == 0) (fun hb462 => ?_) (fun hb462 => ?_)
          · have hm := condT hb462 hm
            rewrite [hb462]
            refine wS_pure 5 [(39, .bool (true)), (38, .bool (true)), (37, undef), (36, undef), (35, undef)] (by kernel_rfl) ?_
            refine wS_end (by rfl) ?_
            refine eX_then ?_
            refine cW_prune [(1, .pointer (some ⟨b2, 0, none⟩)), (3, .pointer (some ⟨b8, 0, none⟩)), (4, .pointer (some ⟨b15, 0, none⟩)), (5, .slice A33 (y29).length cap34), (7, .int .i64 (x459)), (17, .int .i64 (((l0).length : Int))), (18, .int .i64 (x328)), (39, .bool (true))] (by kernel_rfl) (by kernel_rfl) (fun a463 => ?_)
            refine cW_cond_t (by kernel_rfl) ?_
            refine cW_region ?_
            refine wS_pure 1 [(40, .int .i64 (x459))] (by kernel_rfl) ?_
            refine wS_store (T := 3) (g := b15) (o := 0) (ad := ⟨b15, 0, none⟩) (v := .int .i64 (x459)) (vs := [.int .i64 (x459)]) (by kernel_rfl) (by rfl) sz3 (by rfl) (by rfl) F334 (by simp only [List.length_cons, List.length_nil]; omega) ?_
            intro w464 F465 hc466
            replace F331 := F331.chg hc466 (Dj.of L0 (low1 G17))
            replace F332 := F332.chg hc466 (dj1 D21)
            replace F333 := F333.chg hc466 (dj1 D22)
            replace F335 := F335.chg hc466 (D42).symm
            replace F451 := F451.chg hc466 (D457).symm
            replace hB := hB.inS hc466 (inLow (low1 G17))
            replace hZ := Nat.le_trans hZ hc466.size
            replace F465 : Cl w464 b15 3 [.int .i64 (x459)] := F465
            clear F334
            refine wS_end (by rfl) ?_
            have hq : (some x459 : Option (Int)) = some _ := hm
            replace hq := someE hq
            subst hq
            exact eX_J (fun hst => ⟨x459, rfl, Fr.of hst (by kernel_rfl), F331, F332, F333, F465, F335, hB, hZ⟩)
          · have hm := condF hb462 hm
            rewrite [hb462]
            refine wS_pure 1 [(35, .int .i64 (x459))] (by kernel_rfl) ?_
            refine wS_load1 (d := 36) (T := 3) (ad := ⟨b15, 0, none⟩) (v := .int .i64 (x329)) (by kernel_rfl) vt3 ((F334).cell 0) ?_
            refine wS_pure 3 [(39, .bool (decide (x459 < x329))), (38, .bool (decide (x459 < x329))), (37, .bool (decide (x459 < x329)))] (by kernel_rfl) ?_
            refine wS_end (by rfl) ?_
            refine eX_then ?_
            refine cW_prune [(1, .pointer (some ⟨b2, 0, none⟩)), (3, .pointer (some ⟨b8, 0, none⟩)), (4, .pointer (some ⟨b15, 0, none⟩)), (5, .slice A33 (y29).length cap34), (7, .int .i64 (x459)), (17, .int .i64 (((l0).length : Int))), (18, .int .i64 (x328)), (39, .bool (decide (x459 < x329)))] (by kernel_rfl) (by kernel_rfl) (fun a467 => ?_)
            refine cW_cond (t := decide (x459 < x329)) (by kernel_rfl) (fun hb468 => ?_) (fun hb468 => ?_)
            · have hm := condT hb468 hm
              refine cW_region ?_
              refine wS_pure 1 [(40, .int .i64 (x459))] (by kernel_rfl) ?_
              refine wS_store (T := 3) (g := b15) (o := 0) (ad := ⟨b15, 0, none⟩) (v := .int .i64 (x459)) (vs := [.int .i64 (x459)]) (by kernel_rfl) (by rfl) sz3 (by rfl) (by rfl) F334 (by simp only [List.length_cons, List.length_nil]; omega) ?_
              intro w469 F470 hc471
              replace F331 := F331.chg hc471 (Dj.of L0 (low1 G17))
              replace F332 := F332.chg hc471 (dj1 D21)
              replace F333 := F333.chg hc471 (dj1 D22)
              replace F335 := F335.chg hc471 (D42).symm
              replace F451 := F451.chg hc471 (D457).symm
              replace hB := hB.inS hc471 (inLow (low1 G17))
              replace hZ := Nat.le_trans hZ hc471.size
              replace F470 : Cl w469 b15 3 [.int .i64 (x459)] := F470
              clear F334
              refine wS_end (by rfl) ?_
              have hq : (some x459 : Option (Int)) = some _ := hm
              replace hq := someE hq
              subst hq
              exact eX_J (fun hst => ⟨x459, rfl, Fr.of hst (by kernel_rfl), F331, F332, F333, F470, F335, hB, hZ⟩)
            · have hm := condF hb468 hm
              refine cW_skip ?_
              have hq : (some x329 : Option (Int)) = some _ := hm
              replace hq := someE hq
              subst hq
              exact eX_J (fun hst => ⟨x329, rfl, Fr.of hst (by kernel_rfl), F331, F332, F333, F334, F335, hB, hZ⟩)
        · have hm := condF hb461 hm
          rewrite [hb461]
          refine wS_pure 8 [(39, .bool (false)), (38, undef), (37, undef), (36, undef), (35, undef), (34, undef), (33, undef), (32, undef)] (by kernel_rfl) ?_
          refine wS_end (by rfl) ?_
          refine eX_then ?_
          refine cW_prune [(1, .pointer (some ⟨b2, 0, none⟩)), (3, .pointer (some ⟨b8, 0, none⟩)), (4, .pointer (some ⟨b15, 0, none⟩)), (5, .slice A33 (y29).length cap34), (7, .int .i64 (x459)), (17, .int .i64 (((l0).length : Int))), (18, .int .i64 (x328)), (39, .bool (false))] (by kernel_rfl) (by kernel_rfl) (fun a472 => ?_)
          refine cW_cond_f (by kernel_rfl) ?_
          refine cW_skip ?_
          have hq : (some x329 : Option (Int)) = some _ := hm
          replace hq := someE hq
          subst hq
          exact eX_J (fun hst => ⟨x329, rfl, Fr.of hst (by kernel_rfl), F331, F332, F333, F334, F335, hB, hZ⟩)
      · rintro a' w403 ⟨x404, hJ, hF405, F406, F407, F408, F409, F410, hB, hZ⟩
        subst hJ
        refine Fr.goX hF405 (by kernel_rfl) ?_
        refine eX_block ?_
        refine eX_then ?_
        refine cW_region ?_
        refine wS_pure 2 [(18, .int .i64 (wr (x328 + 1))), (41, .int .i64 (wr (x328 + 1)))] (by kernel_rfl) ?_
        refine wS_end (by rfl) ?_
        have hq : (some (Ctl.next ((wr (x328 + 1), x404))) : Option (Ctl (Int × Int) (Int))) = some _ := hm
        replace hq := someE hq
        subst hq
        exact eX_next hx341 (fun hst => ⟨wr (x328 + 1), x404, rfl, Fr.of hst (by kernel_rfl), F406, F407, F408, F409, F410, hB, hZ⟩)
    · have hm := condF hb342 hm
      refine cW_exit ?_
      refine eX_then_exit ?_
      have hq : (some (Ctl.out x329) : Option (Ctl (Int × Int) (Int))) = some _ := hm
      replace hq := someE hq
      subst hq
      refine eX_outX hx341 (fun hr473 => ?_)
      replace hr473 := hr473.symm
      subst hr473
      refine eX_block_hit ?_
      exact eX_J (fun hst => ⟨x329, rfl, Fr.of hst (by kernel_rfl), F331, F332, F333, F334, F335, hB, hZ⟩)
  · rintro a' w319 ⟨x320, hJ, hF321, F322, F323, F324, F325, F326, hB, hZ⟩
    subst hJ
    refine Fr.goX hF321 (by kernel_rfl) ?_
    refine eX_then ?_
    refine cW_seq ?_
    refine cW_seq ?_
    refine cW_region ?_
    refine wS_load1 (d := 42) (T := 77) (ad := ⟨b2, 0, none⟩) (v := .slice A0 (l0).length cap0) (by kernel_rfl) vt77 ((F323).cell 0) ?_
    refine wS_pure 2 [(44, .int .i64 (0)), (43, .int .i64 (((l0).length : Int)))] (by kernel_rfl) ?_
    refine wS_end (by rfl) ?_
    refine eX_then ?_
    obtain ⟨r733, hr734, hm⟩ := bindE hm
    have hm735 := hm
    refine cW_cut (fun a' w' => Sum.inl (()) = r733 ∧ Fr 61 [] a' ∧ Chg [] w0 w' ∧ w0.heap.size ≤ w'.heap.size) ?_ ?_
    · refine cW_block ?_
      refine cW_loop _ (fun (s736 : Int) a' w' => ∃ x726 : Int, x726 = s736 ∧ Fr 61 [(1, .pointer (some ⟨b2, 0, none⟩)), (3, .pointer (some ⟨b8, 0, none⟩)), (4, .pointer (some ⟨b15, 0, none⟩)), (5, .slice A33 (y29).length cap34), (43, .int .i64 (((l0).length : Int))), (44, .int .i64 (x726))] a' ∧ SlR 1 encI w' fp0 A0 l0 ∧ Cl w' b2 77 [.slice A0 (l0).length cap0] ∧ Cl w' b8 3 [.int .i64 (((l0).length : Int))] ∧ Cl w' b15 3 [.int .i64 (x320)] ∧ OwR 1 encI 75 3 w' fp35 fr38 A33 cap34 y29 ∧ Chg [] w0 w' ∧ w0.heap.size ≤ w'.heap.size) hr734 (fun hst => ⟨0, rfl, Fr.of hst (by kernel_rfl), F322, F323, F324, F325, F326, hB, hZ⟩) ?_
      rintro _ c737 a' w725 ⟨x726, rfl, hF727, F728, F729, F730, F731, F732, hB, hZ⟩ hx738
      refine Fr.goOn hF727 (by kernel_rfl) ?_
      have hm := hx738
      unfold m_impl_graph_oddRing_s2 at hm
      refine cW_seq ?_
      refine cW_region ?_
      refine wS_pure 1 [(45, .bool (decide (x726 < (((l0).length : Int)))))] (by kernel_rfl) ?_
      refine wS_end (by rfl) ?_
      refine eX_then ?_
      refine cW_seq ?_
      refine cW_cond (t := decide (x726 < (((l0).length : Int)))) (by kernel_rfl) (fun hb739 => ?_) (fun hb739 => ?_)
      · have hm := condT hb739 hm
        refine cW_skip ?_
        refine eX_then ?_
        refine cW_seq ?_
        refine cW_block ?_
        refine cW_seq ?_
        refine cW_region ?_
        refine wS_pure 1 [(46, .int .i64 (x726))] (by kernel_rfl) ?_
        refine wS_alloc (d := 8) (T := 3) (z := .int .i64 (0)) (by kernel_rfl) (by kernel_rfl) ?_
        intro b740 w741 G742 F743 hc744
        replace F743 : Cl w741 b740 3 [.int .i64 (0)] := F743
        have D746 : Dj [b2] [b740] := Dj.of (lt1 F729.lt) (low1 G742)
        have D747 : Dj [b8] [b740] := Dj.of (lt1 F730.lt) (low1 G742)
        have D748 : Dj [b15] [b740] := Dj.of (lt1 F731.lt) (low1 G742)
        have D749 : Dj (fp35 ++ fr38) [b740] := Dj.of F732.low (low1 G742)
        replace F728 := F728.chg hc744 Dj.nil
        replace F729 := F729.chg hc744 notNil
        replace F730 := F730.chg hc744 notNil
        replace F731 := F731.chg hc744 notNil
        replace F732 := F732.chg hc744 Dj.nil
        replace hB := hB.inS hc744 inNil
        replace G742 := Nat.le_trans hZ G742
        replace hZ := Nat.le_trans hZ hc744.size
        refine wS_store (T := 3) (g := b740) (o := 0) (ad := ⟨b740, 0, none⟩) (v := .int .i64 (x726)) (vs := [.int .i64 (x726)]) (by kernel_rfl) (by rfl) sz3 (by rfl) (by rfl) F743 (by simp only [List.length_cons, List.length_nil]; omega) ?_
        intro w750 F751 hc752
        replace F728 := F728.chg hc752 (Dj.of L0 (low1 G742))
        replace F729 := F729.chg hc752 (dj1 D746)
        replace F730 := F730.chg hc752 (dj1 D747)
        replace F731 := F731.chg hc752 (dj1 D748)
        replace F732 := F732.chg hc752 D749
        replace hB := hB.inS hc752 (inLow (low1 G742))
        replace hZ := Nat.le_trans hZ hc752.size
        replace F751 : Cl w750 b740 3 [.int .i64 (x726)] := F751
        clear F743
        refine wS_end (by rfl) ?_
        refine eX_then ?_
        refine cW_seq ?_
        refine cW_region ?_
        refine wS_pure 1 [(47, .slice A33 (y29).length cap34)] (by kernel_rfl) ?_
        refine wS_load1 (d := 48) (T := 3) (ad := ⟨b740, 0, none⟩) (v := .int .i64 (x726)) (by kernel_rfl) vt3 ((F751).cell 0) ?_
        obtain ⟨y753, hy754, hm⟩ := bindE hm
        refine wS_calls (d := 49) (f := 97) (vs := [.slice A33 (y29).length cap34, .int .i64 (x726)]) (by kernel_rfl) ent97 (c_impl_graph_back hy754 (F732.slr encI_ok)) ?_
        rintro _ w755 ⟨A757, cap758, fp759, rfl, F760, G761, hc756⟩
        have D764 : Dj [b2] fp759 := Dj.of (lt1 F729.lt) G761
        have D765 : Dj [b8] fp759 := Dj.of (lt1 F730.lt) G761
        have D766 : Dj [b15] fp759 := Dj.of (lt1 F731.lt) G761
        have D767 : Dj (fp35 ++ fr38) fp759 := Dj.of F732.low G761
        have D768 : Dj [b740] fp759 := Dj.of (lt1 F751.lt) G761
        replace F728 := F728.chg hc756 Dj.nil
        replace F729 := F729.chg hc756 notNil
        replace F730 := F730.chg hc756 notNil
        replace F731 := F731.chg hc756 notNil
        replace F732 := F732.chg hc756 Dj.nil
        replace F751 := F751.chg hc756 notNil
        replace hB := hB.inS hc756 inNil
        replace G761 := low_le hZ G761
        replace hZ := Nat.le_trans hZ hc756.size
        refine ⟨.slice A757 (y753).length cap758, rfl, ?_⟩
        refine wS_alloc (d := 9) (T := 75) (z := .slice none 0 0) (by kernel_rfl) (by kernel_rfl) ?_
        intro b769 w770 G771 F772 hc773
        replace F772 : Cl w770 b769 75 [.slice none 0 0] := F772
        have D775 : Dj [b2] [b769] := Dj.of (lt1 F729.lt) (low1 G771)
        have D776 : Dj [b8] [b769] := Dj.of (lt1 F730.lt) (low1 G771)
        have D777 : Dj [b15] [b769] := Dj.of (lt1 F731.lt) (low1 G771)
        have D778 : Dj (fp35 ++ fr38) [b769] := Dj.of F732.low (low1 G771)
        have D779 : Dj [b740] [b769] := Dj.of (lt1 F751.lt) (low1 G771)
        have D780 : Dj fp759 [b769] := Dj.of F760.low (low1 G771)
        replace F728 := F728.chg hc773 Dj.nil
        replace F729 := F729.chg hc773 notNil
        replace F730 := F730.chg hc773 notNil
        replace F731 := F731.chg hc773 notNil
        replace F732 := F732.chg hc773 Dj.nil
        replace F751 := F751.chg hc773 notNil
        replace F760 := F760.chg hc773 Dj.nil
        replace hB := hB.inS hc773 inNil
        replace G771 := Nat.le_trans hZ G771
        replace hZ := Nat.le_trans hZ hc773.size
        refine wS_store (T := 75) (g := b769) (o := 0) (ad := ⟨b769, 0, none⟩) (v := .slice A757 (y753).length cap758) (vs := [.slice A757 (y753).length cap758]) (by kernel_rfl) (by rfl) sz75 (by rfl) (by rfl) F772 (by simp only [List.length_cons, List.length_nil]; omega) ?_
        intro w781 F782 hc783
        replace F728 := F728.chg hc783 (Dj.of L0 (low1 G771))
        replace F729 := F729.chg hc783 (dj1 D775)
        replace F730 := F730.chg hc783 (dj1 D776)
        replace F731 := F731.chg hc783 (dj1 D777)
        replace F732 := F732.chg hc783 D778
        replace F751 := F751.chg hc783 (dj1 D779)
        replace F760 := F760.chg hc783 D780
        replace hB := hB.inS hc783 (inLow (low1 G771))
        replace hZ := Nat.le_trans hZ hc783.size
        replace F782 : Cl w781 b769 75 [.slice A757 (y753).length cap758] := F782
        clear F772
        refine wS_end (by rfl) ?_
        refine eX_then ?_
        refine cW_seq ?_
        refine cW_region ?_
        refine wS_load1 (d := 50) (T := 3) (ad := ⟨b740, 0, none⟩) (v := .int .i64 (x726)) (by kernel_rfl) vt3 ((F751).cell 0) ?_
        refine wS_bs (enc := encI) ([x726] : List (Int)) [.int .i64 (x726)] (d := 51) (t := 75) (T := 3) (n := 1) (ps := [(0, .int .i64 (x726))]) (by kernel_rfl) el75 encI_ok (by rfl) (by omega) (by omega) (by kernel_rfl) (by rfl) ?_
        intro b784 w785 G786 F787 hc788
        have D790 : Dj [b2] [b784] := Dj.of (lt1 F729.lt) (low1 G786)
        have D791 : Dj [b8] [b784] := Dj.of (lt1 F730.lt) (low1 G786)
        have D792 : Dj [b15] [b784] := Dj.of (lt1 F731.lt) (low1 G786)
        have D793 : Dj (fp35 ++ fr38) [b784] := Dj.of F732.low (low1 G786)
        have D794 : Dj [b740] [b784] := Dj.of (lt1 F751.lt) (low1 G786)
        have D795 : Dj fp759 [b784] := Dj.of F760.low (low1 G786)
        have D796 : Dj [b769] [b784] := Dj.of (lt1 F782.lt) (low1 G786)
        replace F728 := F728.chg hc788 Dj.nil
        replace F729 := F729.chg hc788 notNil
        replace F730 := F730.chg hc788 notNil
        replace F731 := F731.chg hc788 notNil
        replace F732 := F732.chg hc788 Dj.nil
        replace F751 := F751.chg hc788 notNil
        replace F760 := F760.chg hc788 Dj.nil
        replace F782 := F782.chg hc788 notNil
        replace hB := hB.inS hc788 inNil
        replace G786 := Nat.le_trans hZ G786
        replace G786 := low1 G786
        replace hZ := Nat.le_trans hZ hc788.size
        refine wS_alloc (d := 10) (T := 75) (z := .slice none 0 0) (by kernel_rfl) (by kernel_rfl) ?_
        intro b797 w798 G799 F800 hc801
        replace F800 : Cl w798 b797 75 [.slice none 0 0] := F800
        have D803 : Dj [b2] [b797] := Dj.of (lt1 F729.lt) (low1 G799)
        have D804 : Dj [b8] [b797] := Dj.of (lt1 F730.lt) (low1 G799)
        have D805 : Dj [b15] [b797] := Dj.of (lt1 F731.lt) (low1 G799)
        have D806 : Dj (fp35 ++ fr38) [b797] := Dj.of F732.low (low1 G799)
        have D807 : Dj [b740] [b797] := Dj.of (lt1 F751.lt) (low1 G799)
        have D808 : Dj fp759 [b797] := Dj.of F760.low (low1 G799)
        have D809 : Dj [b769] [b797] := Dj.of (lt1 F782.lt) (low1 G799)
        have D810 : Dj [b784] [b797] := Dj.of F787.low (low1 G799)
        replace F728 := F728.chg hc801 Dj.nil
        replace F729 := F729.chg hc801 notNil
        replace F730 := F730.chg hc801 notNil
        replace F731 := F731.chg hc801 notNil
        replace F732 := F732.chg hc801 Dj.nil
        replace F751 := F751.chg hc801 notNil
        replace F760 := F760.chg hc801 Dj.nil
        replace F782 := F782.chg hc801 notNil
        replace F787 := F787.chg hc801 Dj.nil
        replace hB := hB.inS hc801 inNil
        replace G799 := Nat.le_trans hZ G799
        replace hZ := Nat.le_trans hZ hc801.size
        refine wS_store (T := 75) (g := b797) (o := 0) (ad := ⟨b797, 0, none⟩) (v := .slice (some ⟨b784, 0, none⟩) (([x726] : List (Int))).length 1) (vs := [.slice (some ⟨b784, 0, none⟩) (([x726] : List (Int))).length 1]) (by kernel_rfl) (by rfl) sz75 (by rfl) (by rfl) F800 (by simp only [List.length_cons, List.length_nil]; omega) ?_
        intro w811 F812 hc813
        replace F728 := F728.chg hc813 (Dj.of L0 (low1 G799))
        replace F729 := F729.chg hc813 (dj1 D803)
        replace F730 := F730.chg hc813 (dj1 D804)
        replace F731 := F731.chg hc813 (dj1 D805)
        replace F732 := F732.chg hc813 D806
        replace F751 := F751.chg hc813 (dj1 D807)
        replace F760 := F760.chg hc813 D808
        replace F782 := F782.chg hc813 (dj1 D809)
        replace F787 := F787.chg hc813 D810
        replace hB := hB.inS hc813 (inLow (low1 G799))
        replace hZ := Nat.le_trans hZ hc813.size
        replace F812 : Cl w811 b797 75 [.slice (some ⟨b784, 0, none⟩) (([x726] : List (Int))).length 1] := F812
        clear F800
        refine wS_end (by rfl) ?_
        refine eX_then ?_
        refine cW_seq ?_
        refine cW_region ?_
        refine wS_alloc (d := 11) (T := 127) (z := .nilFunc) (by kernel_rfl) (by kernel_rfl) ?_
        intro b814 w815 G816 F817 hc818
        replace F817 : Cl w815 b814 127 [.nilFunc] := F817
        have D820 : Dj [b2] [b814] := Dj.of (lt1 F729.lt) (low1 G816)
        have D821 : Dj [b8] [b814] := Dj.of (lt1 F730.lt) (low1 G816)
        have D822 : Dj [b15] [b814] := Dj.of (lt1 F731.lt) (low1 G816)
        have D823 : Dj (fp35 ++ fr38) [b814] := Dj.of F732.low (low1 G816)
        have D824 : Dj [b740] [b814] := Dj.of (lt1 F751.lt) (low1 G816)
        have D825 : Dj fp759 [b814] := Dj.of F760.low (low1 G816)
        have D826 : Dj [b769] [b814] := Dj.of (lt1 F782.lt) (low1 G816)
        have D827 : Dj [b784] [b814] := Dj.of F787.low (low1 G816)
        have D828 : Dj [b797] [b814] := Dj.of (lt1 F812.lt) (low1 G816)
        replace F728 := F728.chg hc818 Dj.nil
        replace F729 := F729.chg hc818 notNil
        replace F730 := F730.chg hc818 notNil
        replace F731 := F731.chg hc818 notNil
        replace F732 := F732.chg hc818 Dj.nil
        replace F751 := F751.chg hc818 notNil
        replace F760 := F760.chg hc818 Dj.nil
        replace F782 := F782.chg hc818 notNil
        replace F787 := F787.chg hc818 Dj.nil
        replace F812 := F812.chg hc818 notNil
        replace hB := hB.inS hc818 inNil
        replace G816 := Nat.le_trans hZ G816
        replace hZ := Nat.le_trans hZ hc818.size
        refine wS_end (by rfl) ?_
        refine eX_then ?_
        refine cW_seq ?_
        refine cW_region ?_
        refine wS_pure 1 [(52, .func (.func 98) #[] #[.pointer (some ⟨b797, 0, none⟩), .pointer (some ⟨b15, 0, none⟩), .pointer (some ⟨b2, 0, none⟩), .pointer (some ⟨b740, 0, none⟩), .pointer (some ⟨b769, 0, none⟩), .pointer (some ⟨b8, 0, none⟩), .pointer (some ⟨b814, 0, none⟩)])] (by kernel_rfl) ?_
        refine wS_store (T := 127) (g := b814) (o := 0) (ad := ⟨b814, 0, none⟩) (v := .func (.func 98) #[] #[.pointer (some ⟨b797, 0, none⟩), .pointer (some ⟨b15, 0, none⟩), .pointer (some ⟨b2, 0, none⟩), .pointer (some ⟨b740, 0, none⟩), .pointer (some ⟨b769, 0, none⟩), .pointer (some ⟨b8, 0, none⟩), .pointer (some ⟨b814, 0, none⟩)]) (vs := [.func (.func 98) #[] #[.pointer (some ⟨b797, 0, none⟩), .pointer (some ⟨b15, 0, none⟩), .pointer (some ⟨b2, 0, none⟩), .pointer (some ⟨b740, 0, none⟩), .pointer (some ⟨b769, 0, none⟩), .pointer (some ⟨b8, 0, none⟩), .pointer (some ⟨b814, 0, none⟩)]]) (by kernel_rfl) (by rfl) sz127 (by rfl) (by rfl) F817 (by simp only [List.length_cons, List.length_nil]; omega) ?_
        intro w829 F830 hc831
        replace F728 := F728.chg hc831 (Dj.of L0 (low1 G816))
        replace F729 := F729.chg hc831 (dj1 D820)
        replace F730 := F730.chg hc831 (dj1 D821)
        replace F731 := F731.chg hc831 (dj1 D822)
        replace F732 := F732.chg hc831 D823
        replace F751 := F751.chg hc831 (dj1 D824)
        replace F760 := F760.chg hc831 D825
        replace F782 := F782.chg hc831 (dj1 D826)
        replace F787 := F787.chg hc831 D827
        replace F812 := F812.chg hc831 (dj1 D828)
        replace hB := hB.inS hc831 (inLow (low1 G816))
        replace hZ := Nat.le_trans hZ hc831.size
        replace F830 : Cl w829 b814 127 [.func (.func 98) #[] #[.pointer (some ⟨b797, 0, none⟩), .pointer (some ⟨b15, 0, none⟩), .pointer (some ⟨b2, 0, none⟩), .pointer (some ⟨b740, 0, none⟩), .pointer (some ⟨b769, 0, none⟩), .pointer (some ⟨b8, 0, none⟩), .pointer (some ⟨b814, 0, none⟩)]] := F830
        clear F817
        refine wS_end (by rfl) ?_
        refine eX_then ?_
        refine cW_seq ?_
        refine cW_region ?_
        refine wS_load1 (d := 53) (T := 3) (ad := ⟨b15, 0, none⟩) (v := .int .i64 (x320)) (by kernel_rfl) vt3 ((F731).cell 0) ?_
        refine wS_pure 2 [(55, .bool (decide (x320 > 0))), (54, .bool (decide (x320 > 0)))] (by kernel_rfl) ?_
        refine wS_bool (decide (x320 > 0)) (fun hb832 => ?_) (fun hb832 => ?_)
        · have hm := condT hb832 hm
          rewrite [hb832]
          refine wS_load1 (d := 56) (T := 127) (ad := ⟨b814, 0, none⟩) (v := .func (.func 98) #[] #[.pointer (some ⟨b797, 0, none⟩), .pointer (some ⟨b15, 0, none⟩), .pointer (some ⟨b2, 0, none⟩), .pointer (some ⟨b740, 0, none⟩), .pointer (some ⟨b769, 0, none⟩), .pointer (some ⟨b8, 0, none⟩), .pointer (some ⟨b814, 0, none⟩)]) (by kernel_rfl) vt127 ((F830).cell 0) ?_
          obtain ⟨y833, hy834, hm⟩ := bindE hm
          refine wS_calls (d := 57) (f := 98) (vs := [.pointer (some ⟨b797, 0, none⟩), .pointer (some ⟨b15, 0, none⟩), .pointer (some ⟨b2, 0, none⟩), .pointer (some ⟨b740, 0, none⟩), .pointer (some ⟨b769, 0, none⟩), .pointer (some ⟨b8, 0, none⟩), .pointer (some ⟨b814, 0, none⟩)]) (by kernel_rfl) ent98 (c_impl_graph_oddRing_1_bint_bint_bimplgraph_bint_bint_bint_bfuncbool_self 64 hy834 F787 F812 F731 F728 F729 F751 (F760.sl encI_ok) F782 F730 F830 (D810).symm (D805).symm (Dj.of L0 (low1 G799)).symm (D803).symm (D807).symm (D808).symm (D809).symm (D804).symm D828 (D792).symm (Dj.of L0 G786).symm (D790).symm (D794).symm (D795).symm (D796).symm (D791).symm D827) ?_
          rintro _ w835 ⟨A837, cap838, fp839, rfl, F842, F840, hap841, hc836⟩
          have G844 := Rt.lowof hap841 hZ G786
          have D845 : Dj [b2] fp839 := Dj.ap D790 (lt1 F729.lt) hap841
          have D846 : Dj [b8] fp839 := Dj.ap D791 (lt1 F730.lt) hap841
          have D847 : Dj [b15] fp839 := Dj.ap D792 (lt1 F731.lt) hap841
          have D848 : Dj (fp35 ++ fr38) fp839 := Dj.ap D793 F732.low hap841
          have D849 : Dj [b740] fp839 := Dj.ap D794 (lt1 F751.lt) hap841
          have D850 : Dj fp759 fp839 := Dj.ap D795 F760.low hap841
          have D851 : Dj [b769] fp839 := Dj.ap D796 (lt1 F782.lt) hap841
          have D852 : Dj [b797] fp839 := Dj.ap (D810).symm (lt1 F812.lt) hap841
          have D853 : Dj [b814] fp839 := Dj.ap (D827).symm (lt1 F830.lt) hap841
          replace F728 := F728.chg hc836 (Dj.app (Dj.of L0 (low1 G799)) (Dj.app (Dj.of L0 G786) Dj.nil))
          replace F729 := F729.chg hc836 (dj1 (Dj.app D803 (Dj.app D790 Dj.nil)))
          replace F730 := F730.chg hc836 (dj1 (Dj.app D804 (Dj.app D791 Dj.nil)))
          replace F731 := F731.chg hc836 (dj1 (Dj.app D805 (Dj.app D792 Dj.nil)))
          replace F732 := F732.chg hc836 (Dj.app D806 (Dj.app D793 Dj.nil))
          replace F751 := F751.chg hc836 (dj1 (Dj.app D807 (Dj.app D794 Dj.nil)))
          replace F760 := F760.chg hc836 (Dj.app D808 (Dj.app D795 Dj.nil))
          replace F782 := F782.chg hc836 (dj1 (Dj.app D809 (Dj.app D796 Dj.nil)))
          replace F830 := F830.chg hc836 (dj1 (Dj.app (D828).symm (Dj.app (D827).symm Dj.nil)))
          replace hB := hB.inS hc836 (inApp (inLow (low1 G799)) (inApp (inLow G786) inNil))
          replace hZ := Nat.le_trans hZ hc836.size
          clear F812
          refine ⟨.bool (y833.1), rfl, ?_⟩
          refine wS_pure 1 [(58, .bool (y833.1))] (by kernel_rfl) ?_
          refine wS_end (by rfl) ?_
          refine eX_then ?_
          refine cW_prune [(1, .pointer (some ⟨b2, 0, none⟩)), (3, .pointer (some ⟨b8, 0, none⟩)), (4, .pointer (some ⟨b15, 0, none⟩)), (5, .slice A33 (y29).length cap34), (10, .pointer (some ⟨b797, 0, none⟩)), (43, .int .i64 (((l0).length : Int))), (44, .int .i64 (x726)), (58, .bool (y833.1))] (by kernel_rfl) (by kernel_rfl) (fun a854 => ?_)
          refine cW_cond (t := y833.1) (by kernel_rfl) (fun hb855 => ?_) (fun hb855 => ?_)
          · have hm := condT hb855 hm
            refine cW_seq ?_
            refine cW_region ?_
            refine wS_load1 (d := 59) (T := 75) (ad := ⟨b797, 0, none⟩) (v := .slice A837 (y833.2).length cap838) (by kernel_rfl) vt75 ((F842).cell 0) ?_
            refine wS_pure 1 [(2, .slice A837 (y833.2).length cap838)] (by kernel_rfl) ?_
            refine wS_end (by rfl) ?_
            refine eX_then ?_
            refine cW_ret ?_
            refine eX_block_ret ?_
            refine eX_then_ret ?_
            have hq : (some (Ctl.out (Sum.inr y833.2)) : Option (Ctl (Int) (Sum (Unit) ((List (Int)))))) = some _ := hm
            replace hq := someE hq
            subst hq
            refine eX_outR hx738 (fun hr => ?_)
            subst hr
            refine eX_block_ret ?_
            refine eX_then_ret ?_
            refine eX_then_ret ?_
            have hq : (some y833.2 : Option ((List (Int)))) = some _ := hm735
            replace hq := someE hq
            subst hq
            refine eX_ret (vs := [.slice A837 (y833.2).length cap838]) [.tmp 2] (by rfl) ⟨by (show lkE _ _ _ = _); kernel_rfl, trivial⟩ ?_
            exact ⟨A837, cap838, fp839, rfl, F840, G844, hB⟩
          · have hm := condF hb855 hm
            refine cW_skip ?_
            refine eX_block ?_
            refine eX_then ?_
            refine cW_region ?_
            refine wS_pure 2 [(44, .int .i64 (wr (x726 + 1))), (60, .int .i64 (wr (x726 + 1)))] (by kernel_rfl) ?_
            refine wS_end (by rfl) ?_
            have hq : (some (Ctl.next (wr (x726 + 1))) : Option (Ctl (Int) (Sum (Unit) ((List (Int)))))) = some _ := hm
            replace hq := someE hq
            subst hq
            exact eX_next hx738 (fun hst => ⟨wr (x726 + 1), rfl, Fr.of hst (by kernel_rfl), F728, F729, F730, F731, F732, hB, hZ⟩)
        · have hm := condF hb832 hm
          rewrite [hb832]
          refine wS_pure 3 [(58, .bool (false)), (57, undef), (56, undef)] (by kernel_rfl) ?_
          refine wS_end (by rfl) ?_
          refine eX_then ?_
          refine cW_prune [(1, .pointer (some ⟨b2, 0, none⟩)), (3, .pointer (some ⟨b8, 0, none⟩)), (4, .pointer (some ⟨b15, 0, none⟩)), (5, .slice A33 (y29).length cap34), (10, .pointer (some ⟨b797, 0, none⟩)), (43, .int .i64 (((l0).length : Int))), (44, .int .i64 (x726)), (58, .bool (false))] (by kernel_rfl) (by kernel_rfl) (fun a856 => ?_)
          refine cW_cond_f (by kernel_rfl) ?_
          refine cW_skip ?_
          refine eX_block ?_
          refine eX_then ?_
          refine cW_region ?_
          refine wS_pure 2 [(44, .int .i64 (wr (x726 + 1))), (60, .int .i64 (wr (x726 + 1)))] (by kernel_rfl) ?_
          refine wS_end (by rfl) ?_
          have hq : (some (Ctl.next (wr (x726 + 1))) : Option (Ctl (Int) (Sum (Unit) ((List (Int)))))) = some _ := hm
          replace hq := someE hq
          subst hq
          exact eX_next hx738 (fun hst => ⟨wr (x726 + 1), rfl, Fr.of hst (by kernel_rfl), F728, F729, F730, F731, F732, hB, hZ⟩)
      · have hm := condF hb739 hm
        refine cW_exit ?_
        refine eX_then_exit ?_
        have hq : (some (Ctl.out (Sum.inl (()))) : Option (Ctl (Int) (Sum (Unit) ((List (Int)))))) = some _ := hm
        replace hq := someE hq
        subst hq
        refine eX_outX hx738 (fun hr857 => ?_)
        replace hr857 := hr857.symm
        subst hr857
        refine eX_block_hit ?_
        exact eX_J (fun hst => ⟨rfl, Fr.of hst (by kernel_rfl), hB, hZ⟩)
    · rintro a' w723 ⟨hJ, hF724, hB, hZ⟩
      subst hJ
      refine Fr.goX hF724 (by kernel_rfl) ?_
      refine eX_then ?_
      refine cW_seq ?_
      refine cW_region ?_
      refine wS_pure 1 [(2, .slice none 0 0)] (by kernel_rfl) ?_
      refine wS_end (by rfl) ?_
      refine eX_then ?_
      refine cW_ret ?_
      have hq : (some ([]) : Option ((List (Int)))) = some _ := hm
      replace hq := someE hq
      subst hq
      refine eX_ret (vs := [.slice none 0 0]) [.tmp 2] (by rfl) ⟨by (show lkE _ _ _ = _); kernel_rfl, trivial⟩ ?_
      exact ⟨none, 0, [], rfl, Ow.nil _, lowNil, hB⟩

set_option maxRecDepth 100000 in
/-- impl.OddRing -/
theorem c_impl_OddRing {w0 : World} {p0_0 : Int} {l0_1 : List (List (Int))} {A0_1 : Option Addr} {cap0_1 : Nat} {fp0_1 : List Nat} {l0_2 : List (List (Int))} {A0_2 : Option Addr} {cap0_2 : Nat} {fp0_2 : List Nat} {l0_3 : List (Int)} {A0_3 : Option Addr} {cap0_3 : Nat} {fp0_3 : List Nat} {r : (List (Int)) × (Bool)} (hm : m_impl_OddRing p0_0 l0_1 l0_2 l0_3 = some r) (F0_1 : SlR 1 encI w0 fp0_1 A0_1 l0_1) (F0_2 : SlR 1 encI w0 fp0_2 A0_2 l0_2) (F0_3 : Sl 1 encI w0 fp0_3 A0_3 l0_3) :
    Calls Try.prog 14 #[.agg #[.int .i64 (p0_0), .slice A0_1 (l0_1).length cap0_1, .slice A0_2 (l0_2).length cap0_2, .slice A0_3 (l0_3).length cap0_3]] w0 fun e w' => ∃ A100 cap100 fp100, e = .returned (.tuple #[.slice A100 (r.1).length cap100, .bool (r.2)]) ∧ Ow 1 encI 2 w' fp100 A100 cap100 r.1 ∧ (∀ x ∈ fp100, w0.heap.size ≤ x) ∧ Chg [] w0 w' := by
  have L0_1 := F0_1.low
  have L0_2 := F0_2.low
  have L0_3 := F0_3.low
  have hB : Chg [] w0 w0 := Chg.refl _ _
  have hZ := Nat.le_refl w0.heap.size
  unfold m_impl_OddRing at hm
  refine enterE (N := 27) Try.func14 (by rfl) Try.ntmps14 (by simp) [(0, .agg #[.int .i64 (p0_0), .slice A0_1 (l0_1).length cap0_1, .slice A0_2 (l0_2).length cap0_2, .slice A0_3 (l0_3).length cap0_3])] (by rfl) (by kernel_rfl) (fun a => ?_)
  refine cW_seq ?_
  refine cW_region ?_
  refine wS_box (d := 1) (T := 27) (x := .agg #[.int .i64 (p0_0), .slice A0_1 (l0_1).length cap0_1, .slice A0_2 (l0_2).length cap0_2, .slice A0_3 (l0_3).length cap0_3]) (by kernel_rfl) ?_
  intro b4 w5 G6 F7 hc8
  replace F7 : Cl w5 b4 27 [.int .i64 (p0_0), .slice A0_1 (l0_1).length cap0_1, .slice A0_2 (l0_2).length cap0_2, .slice A0_3 (l0_3).length cap0_3] := F7
  replace F0_1 := F0_1.chg hc8 Dj.nil
  replace F0_2 := F0_2.chg hc8 Dj.nil
  replace F0_3 := F0_3.chg hc8 Dj.nil
  replace hB := hB.inS hc8 inNil
  replace G6 := Nat.le_trans hZ G6
  replace hZ := Nat.le_trans hZ hc8.size
  refine wS_pure 2 [(3, .bool (false)), (2, .slice none 0 0)] (by kernel_rfl) ?_
  refine wS_end (by rfl) ?_
  refine eX_then ?_
  refine cW_seq ?_
  refine cW_seq ?_
  refine cW_region ?_
  refine wS_loadA (d := 7) (T := 27) (ad := ⟨b4, 0, none⟩) (vs := [.int .i64 (p0_0), .slice A0_1 (l0_1).length cap0_1, .slice A0_2 (l0_2).length cap0_2, .slice A0_3 (l0_3).length cap0_3]) (by kernel_rfl) vt27 (fun i u hu => box_cells F7 0 hu (by rfl)) ?_
  obtain ⟨y10, hy11, hm⟩ := bindE hm
  refine wS_calls (d := 8) (f := 16) (vs := [.agg #[.int .i64 (p0_0), .slice A0_1 (l0_1).length cap0_1, .slice A0_2 (l0_2).length cap0_2, .slice A0_3 (l0_3).length cap0_3]]) (by kernel_rfl) ent16 (c_impl_ValidWiring hy11 F0_1 F0_2 F0_3) ?_
  rintro _ w12 ⟨rfl, hc13⟩
  replace F0_1 := F0_1.chg hc13 Dj.nil
  replace F0_2 := F0_2.chg hc13 Dj.nil
  replace F0_3 := F0_3.chg hc13 Dj.nil
  replace F7 := F7.chg hc13 notNil
  replace hB := hB.inS hc13 inNil
  replace hZ := Nat.le_trans hZ hc13.size
  refine ⟨.bool (y10), rfl, ?_⟩
  refine wS_pure 1 [(9, .bool (!y10))] (by kernel_rfl) ?_
  refine wS_end (by rfl) ?_
  refine eX_then ?_
  refine cW_cond (t := !y10) (by kernel_rfl) (fun hb14 => ?_) (fun hb14 => ?_)
  · have hm := condT hb14 hm
    refine cW_seq ?_
    refine cW_region ?_
    refine wS_pure 2 [(3, .bool (false)), (2, .slice none 0 0)] (by kernel_rfl) ?_
    refine wS_end (by rfl) ?_
    refine eX_then ?_
    refine cW_ret ?_
    refine eX_then_ret ?_
    have hq : (some (([], false)) : Option ((List (Int)) × (Bool))) = some _ := hm
    replace hq := someE hq
    subst hq
    refine eX_ret (vs := [.slice none 0 0, .bool (false)]) [.tmp 2, .tmp 3] (by rfl) ⟨by (show lkE _ _ _ = _); kernel_rfl, ⟨by (show lkE _ _ _ = _); kernel_rfl, trivial⟩⟩ ?_
    exact ⟨none, 0, [], rfl, Ow.nil _, lowNil, hB⟩
  · have hm := condF hb14 hm
    refine cW_skip ?_
    refine eX_then ?_
    refine cW_seq ?_
    refine cW_region ?_
    refine wS_bs0 (α := Int) (enc := encI) (d := 10) (t := 25) (T := 2) (by kernel_rfl) el25 ?_
    intro b15 w16 G17 F18 hc19
    have D21 : Dj [b4] [b15] := Dj.of (lt1 F7.lt) (low1 G17)
    replace F0_1 := F0_1.chg hc19 Dj.nil
    replace F0_2 := F0_2.chg hc19 Dj.nil
    replace F0_3 := F0_3.chg hc19 Dj.nil
    replace F7 := F7.chg hc19 notNil
    replace hB := hB.inS hc19 inNil
    replace G17 := Nat.le_trans hZ G17
    replace G17 := low1 G17
    replace hZ := Nat.le_trans hZ hc19.size
    refine wS_pure 1 [(4, .slice (some ⟨b15, 0, none⟩) (([] : List (Int))).length 0)] (by kernel_rfl) ?_
    refine wS_end (by rfl) ?_
    refine eX_then ?_
    refine cW_seq ?_
    refine cW_seq ?_
    refine cW_region ?_
    obtain ⟨y22, hy23, hm⟩ := bindE hm
    refine wS_calls (d := 11) (f := 55) (vs := [.pointer (some ⟨b4, 0, none⟩)]) (by kernel_rfl) ent55 (c_impl_Wiring_crossed_bimplWiring hy23 F0_1 F0_2 F0_3 F7) ?_
    rintro _ w24 ⟨A26, cap27, fp28, fr31, rfl, F29, G30, hc25⟩
    have D33 : Dj [b4] (fp28 ++ fr31) := Dj.of (lt1 F7.lt) G30
    have D34 : Dj [b15] (fp28 ++ fr31) := Dj.of F18.low G30
    replace F0_1 := F0_1.chg hc25 Dj.nil
    replace F0_2 := F0_2.chg hc25 Dj.nil
    replace F0_3 := F0_3.chg hc25 Dj.nil
    replace F7 := F7.chg hc25 notNil
    replace F18 := F18.chg hc25 Dj.nil
    replace hB := hB.inS hc25 inNil
    replace G30 := low_le hZ G30
    replace hZ := Nat.le_trans hZ hc25.size
    refine ⟨.slice A26 (y22).length cap27, rfl, ?_⟩
    obtain ⟨y35, hy36, hm⟩ := bindE hm
    refine wS_calls (d := 12) (f := 56) (vs := [.slice A26 (y22).length cap27]) (by kernel_rfl) ent56 (c_impl_graph_oddRing hy36 (F29.slr encI_ok)) ?_
    rintro _ w37 ⟨A39, cap40, fp41, rfl, F42, G43, hc38⟩
    have D46 : Dj [b4] fp41 := Dj.of (lt1 F7.lt) G43
    have D47 : Dj [b15] fp41 := Dj.of F18.low G43
    have D48 : Dj (fp28 ++ fr31) fp41 := Dj.of F29.low G43
    replace F0_1 := F0_1.chg hc38 Dj.nil
    replace F0_2 := F0_2.chg hc38 Dj.nil
    replace F0_3 := F0_3.chg hc38 Dj.nil
    replace F7 := F7.chg hc38 notNil
    replace F18 := F18.chg hc38 Dj.nil
    replace F29 := F29.chg hc38 Dj.nil
    replace hB := hB.inS hc38 inNil
    replace G43 := low_le hZ G43
    replace hZ := Nat.le_trans hZ hc38.size
    refine ⟨.slice A39 (y35).length cap40, rfl, ?_⟩
    refine wS_pure 2 [(14, .int .i64 (0)), (13, .int .i64 (((y35).length : Int)))] (by kernel_rfl) ?_
    refine wS_end (by rfl) ?_
    refine eX_then ?_
    obtain ⟨r130, hr131, hm⟩ := bindE hm
    have hm132 := hm
    refine cW_cut (fun a' w' => ∃ l110 : List (Int), ∃ A111 : Option Addr, ∃ cap112 : Nat, ∃ fp113 : List Nat, l110 = r130 ∧ Fr 27 [(4, .slice A111 (l110).length cap112)] a' ∧ Ow 1 encI 2 w' fp113 A111 cap112 l110 ∧ (∀ x ∈ fp113, w0.heap.size ≤ x) ∧ Chg [] w0 w' ∧ w0.heap.size ≤ w'.heap.size) ?_ ?_
    · refine cW_block ?_
      refine cW_loop _ (fun (s133 : (List (Int)) × Int) a' w' => ∃ l119 : List (Int), ∃ A120 : Option Addr, ∃ cap121 : Nat, ∃ fp122 : List Nat, ∃ x124 : Int, (l119, x124) = s133 ∧ Fr 27 [(4, .slice A120 (l119).length cap121), (12, .slice A39 (y35).length cap40), (13, .int .i64 (((y35).length : Int))), (14, .int .i64 (x124))] a' ∧ Ow 1 encI 3 w' fp41 A39 cap40 y35 ∧ Ow 1 encI 2 w' fp122 A120 cap121 l119 ∧ (∀ x ∈ fp122, w0.heap.size ≤ x) ∧ Dj fp41 fp122 ∧ Chg [] w0 w' ∧ w0.heap.size ≤ w'.heap.size) hr131 (fun hst => ⟨([] : List (Int)), (some ⟨b15, 0, none⟩), 0, [b15], 0, rfl, Fr.of hst (by kernel_rfl), F42, F18, G17, (D47).symm, hB, hZ⟩) ?_
      rintro _ c134 a' w118 ⟨l119, A120, cap121, fp122, x124, rfl, hF125, F126, F127, G128, D129, hB, hZ⟩ hx135
      refine Fr.goOn hF125 (by kernel_rfl) ?_
      have hm := hx135
      unfold m_impl_OddRing_s1 at hm
      refine cW_seq ?_
      refine cW_region ?_
      refine wS_pure 1 [(15, .bool (decide (x124 < (((y35).length : Int)))))] (by kernel_rfl) ?_
      refine wS_end (by rfl) ?_
      refine eX_then ?_
      refine cW_seq ?_
      refine cW_cond (t := decide (x124 < (((y35).length : Int)))) (by kernel_rfl) (fun hb136 => ?_) (fun hb136 => ?_)
      · have hm := condT hb136 hm
        refine cW_skip ?_
        refine eX_then ?_
        refine cW_seq ?_
        refine cW_block ?_
        refine cW_seq ?_
        refine cW_region ?_
        obtain ⟨x137, hx138, hm⟩ := bindE hm
        refine wS_idx (d := 16) (T := 75) (A := A39) (n := (y35).length) (cap := cap40) (kd := .i64) (m := x124) (by kernel_rfl) sl75 ((F126.sl encI_ok).is hx138) ?_
        refine wS_load1 (d := 17) (T := 3) (ad := (elA A39 1 (x124) 0)) (v := .int .i64 (x137)) (by kernel_rfl) vt3 (Sl.cell (F126.sl encI_ok) hx138 0 (by rfl)) ?_
        refine wS_pure 1 [(6, .int .i64 (x137))] (by kernel_rfl) ?_
        refine wS_end (by rfl) ?_
        refine eX_then ?_
        refine cW_region ?_
        refine wS_pure 2 [(19, .int .i64 (x137)), (18, .slice A120 (l119).length cap121)] (by kernel_rfl) ?_
        refine wS_bs (enc := encI) ([x137] : List (Int)) [.int .i64 (x137)] (d := 20) (t := 25) (T := 2) (n := 1) (ps := [(0, .int .i64 (x137))]) (by kernel_rfl) el25 encI_ok (by rfl) (by omega) (by omega) (by kernel_rfl) (by rfl) ?_
        intro b139 w140 G141 F142 hc143
        have D145 : Dj fp41 [b139] := Dj.of F126.low (low1 G141)
        have D146 : Dj fp122 [b139] := Dj.of F127.low (low1 G141)
        replace F126 := F126.chg hc143 Dj.nil
        replace F127 := F127.chg hc143 Dj.nil
        replace hB := hB.inS hc143 inNil
        replace G141 := Nat.le_trans hZ G141
        replace G141 := low1 G141
        replace hZ := Nat.le_trans hZ hc143.size
        obtain ⟨_, hk147, hm⟩ := bindE hm
        replace hk147 := apE hk147
        refine wS_append (enc := encI) (l := (l119 : List (Int))) (l2 := (([x137] : List (Int)) : List (Int))) (d := 21) (t := 25) (T := 2) (A := A120) (A2 := (some ⟨b139, 0, none⟩)) (cap := cap121) (cap2 := 1) (by kernel_rfl) el25 encI_ok F127 (F142.sl encI_ok) (by rfl) hk147 ?_
        intro w148 fp149 A150 cap151 F152 hc153 hp154
        have G156 := low_ap G128 hZ hp154
        have D157 : Dj fp41 fp149 := Dj.ap D129 F126.low hp154
        have D158 : Dj [b139] fp149 := Dj.ap (D146).symm F142.low hp154
        replace F126 := F126.chg hc153 D129
        replace F142 := F142.chg hc153 (D146).symm
        replace hB := hB.inS hc153 (inLow G128)
        replace hZ := Nat.le_trans hZ hc153.size
        refine wS_pure 1 [(4, .slice A150 (l119 ++ (([x137] : List (Int)))).length cap151)] (by kernel_rfl) ?_
        refine wS_end (by rfl) ?_
        refine eX_block ?_
        refine eX_then ?_
        refine cW_region ?_
        refine wS_pure 2 [(14, .int .i64 (wr (x124 + 1))), (22, .int .i64 (wr (x124 + 1)))] (by kernel_rfl) ?_
        refine wS_end (by rfl) ?_
        have hq : (some (Ctl.next ((l119 ++ (([x137] : List (Int))), wr (x124 + 1)))) : Option (Ctl ((List (Int)) × Int) ((List (Int))))) = some _ := hm
        replace hq := someE hq
        subst hq
        exact eX_next hx135 (fun hst => ⟨l119 ++ (([x137] : List (Int))), A150, cap151, fp149, wr (x124 + 1), rfl, Fr.of hst (by kernel_rfl), F126, F152, G156, D157, hB, hZ⟩)
      · have hm := condF hb136 hm
        refine cW_exit ?_
        refine eX_then_exit ?_
        have hq : (some (Ctl.out l119) : Option (Ctl ((List (Int)) × Int) ((List (Int))))) = some _ := hm
        replace hq := someE hq
        subst hq
        refine eX_outX hx135 (fun hr159 => ?_)
        replace hr159 := hr159.symm
        subst hr159
        refine eX_block_hit ?_
        exact eX_J (fun hst => ⟨l119, A120, cap121, fp122, rfl, Fr.of hst (by kernel_rfl), F127, G128, hB, hZ⟩)
    · rintro a' w109 ⟨l110, A111, cap112, fp113, hJ, hF115, F116, G117, hB, hZ⟩
      subst hJ
      refine Fr.goX hF115 (by kernel_rfl) ?_
      refine eX_then ?_
      refine cW_seq ?_
      refine cW_region ?_
      refine wS_pure 6 [(3, .bool (decide ((((l110).length : Int)) > 0))), (2, .slice A111 (l110).length cap112), (26, .bool (decide ((((l110).length : Int)) > 0))), (25, .int .i64 (((l110).length : Int))), (24, .slice A111 (l110).length cap112), (23, .slice A111 (l110).length cap112)] (by kernel_rfl) ?_
      refine wS_end (by rfl) ?_
      refine eX_then ?_
      refine cW_ret ?_
      have hq : (some ((l110, decide ((((l110).length : Int)) > 0))) : Option ((List (Int)) × (Bool))) = some _ := hm
      replace hq := someE hq
      subst hq
      refine eX_ret (vs := [.slice A111 (l110).length cap112, .bool (decide ((((l110).length : Int)) > 0))]) [.tmp 2, .tmp 3] (by rfl) ⟨by (show lkE _ _ _ = _); kernel_rfl, ⟨by (show lkE _ _ _ = _); kernel_rfl, trivial⟩⟩ ?_
      exact ⟨A111, cap112, fp113, rfl, F116, G117, hB⟩

set_option maxRecDepth 100000 in
/-- spec.l00In -/
theorem c_spec_l00In {w0 : World} {p0 : Int} {p1 : Int} {p2 : Int} {r : (Bool)} (hm : m_spec_l00In p0 p1 p2 = some r)  :
    Calls Try.prog 87 #[.int .i64 (p0), .int .i64 (p1), .int .i64 (p2)] w0 fun e w' => e = .returned (.bool (r)) ∧ Chg [] w0 w' := by
  have hB : Chg [] w0 w0 := Chg.refl _ _
  have hZ := Nat.le_refl w0.heap.size
  unfold m_spec_l00In at hm
  refine enterE (N := 15) Try.func87 (by rfl) Try.ntmps87 (by simp) [(0, .int .i64 (p0)), (1, .int .i64 (p1)), (2, .int .i64 (p2))] (by rfl) (by kernel_rfl) (fun a => ?_)
  refine cW_seq ?_
  refine cW_region ?_
  refine wS_pure 1 [(6, .bool (false))] (by kernel_rfl) ?_
  refine wS_end (by rfl) ?_
  refine eX_then ?_
  refine cW_seq ?_
  refine cW_region ?_
  refine wS_pure 4 [(10, .bool (decide (p0 ≥ p1))), (9, .bool (decide (p0 ≥ p1))), (8, .int .i64 (p1)), (7, .int .i64 (p0))] (by kernel_rfl) ?_
  refine wS_bool (decide (p0 ≥ p1)) (fun hb1 => ?_) (fun hb1 => ?_)
  · have hm := condT hb1 hm
    rewrite [hb1]
    refine wS_pure 5 [(6, .bool (decide (p0 ≤ p2))), (14, .bool (decide (p0 ≤ p2))), (13, .bool (decide (p0 ≤ p2))), (12, .int .i64 (p2)), (11, .int .i64 (p0))] (by kernel_rfl) ?_
    refine wS_end (by rfl) ?_
    refine eX_then ?_
    refine cW_ret ?_
    have hq : (some (decide (p0 ≤ p2)) : Option ((Bool))) = some _ := hm
    replace hq := someE hq
    subst hq
    refine eX_ret (vs := [.bool (decide (p0 ≤ p2))]) [.tmp 6] (by rfl) ⟨by (show lkE _ _ _ = _); kernel_rfl, trivial⟩ ?_
    exact ⟨rfl, hB⟩
  · have hm := condF hb1 hm
    rewrite [hb1]
    refine wS_pure 5 [(6, .bool (false)), (14, .bool (false)), (13, undef), (12, undef), (11, undef)] (by kernel_rfl) ?_
    refine wS_end (by rfl) ?_
    refine eX_then ?_
    refine cW_ret ?_
    have hq : (some false : Option ((Bool))) = some _ := hm
    replace hq := someE hq
    subst hq
    refine eX_ret (vs := [.bool (false)]) [.tmp 6] (by rfl) ⟨by (show lkE _ _ _ = _); kernel_rfl, trivial⟩ ?_
    exact ⟨rfl, hB⟩

set_option maxRecDepth 100000 in
/-- spec.l03Less -/
theorem c_spec_l03Less {w0 : World} {l0 : List (Int)} {A0 : Option Addr} {cap0 : Nat} {fp0 : List Nat} {l1 : List (Int)} {A1 : Option Addr} {cap1 : Nat} {fp1 : List Nat} {r : (Bool)} (hm : m_spec_l03Less l0 l1 = some r) (F0 : Sl 1 encI w0 fp0 A0 l0) (F1 : Sl 1 encI w0 fp1 A1 l1) :
    Calls Try.prog 128 #[.slice A0 (l0).length cap0, .slice A1 (l1).length cap1] w0 fun e w' => e = .returned (.bool (r)) ∧ Chg [] w0 w' := by
  have L0 := F0.low
  have L1 := F1.low
  have hB : Chg [] w0 w0 := Chg.refl _ _
  have hZ := Nat.le_refl w0.heap.size
  unfold m_spec_l03Less at hm
  refine enterE (N := 41) Try.func128 (by rfl) Try.ntmps128 (by simp) [(0, .slice A0 (l0).length cap0), (1, .slice A1 (l1).length cap1)] (by rfl) (by kernel_rfl) (fun a => ?_)
  refine cW_seq ?_
  refine cW_region ?_
  refine wS_pure 1 [(4, .bool (false))] (by kernel_rfl) ?_
  refine wS_end (by rfl) ?_
  refine eX_then ?_
  refine cW_seq ?_
  refine cW_seq ?_
  refine cW_region ?_
  refine wS_pure 1 [(5, .int .i64 (0))] (by kernel_rfl) ?_
  refine wS_end (by rfl) ?_
  refine eX_then ?_
  obtain ⟨r91, hr92, hm⟩ := bindE hm
  have hm93 := hm
  refine cW_cut (fun a' w' => Sum.inl (()) = r91 ∧ Fr 41 [(0, .slice A0 (l0).length cap0), (1, .slice A1 (l1).length cap1)] a' ∧ Sl 1 encI w' fp0 A0 l0 ∧ Sl 1 encI w' fp1 A1 l1 ∧ Chg [] w0 w' ∧ w0.heap.size ≤ w'.heap.size) ?_ ?_
  · refine cW_block ?_
    refine cW_loop _ (fun (s94 : Int) a' w' => ∃ x87 : Int, x87 = s94 ∧ Fr 41 [(0, .slice A0 (l0).length cap0), (1, .slice A1 (l1).length cap1), (5, .int .i64 (x87))] a' ∧ Sl 1 encI w' fp0 A0 l0 ∧ Sl 1 encI w' fp1 A1 l1 ∧ Chg [] w0 w' ∧ w0.heap.size ≤ w'.heap.size) hr92 (fun hst => ⟨0, rfl, Fr.of hst (by kernel_rfl), F0, F1, hB, hZ⟩) ?_
    rintro _ c95 a' w86 ⟨x87, rfl, hF88, F89, F90, hB, hZ⟩ hx96
    refine Fr.goOn hF88 (by kernel_rfl) ?_
    have hm := hx96
    unfold m_spec_l03Less_s1 at hm
    refine cW_seq ?_
    refine cW_seq ?_
    refine cW_region ?_
    refine wS_pure 5 [(10, .bool (decide (x87 < (((l0).length : Int))))), (9, .bool (decide (x87 < (((l0).length : Int))))), (8, .int .i64 (((l0).length : Int))), (7, .slice A0 (l0).length cap0), (6, .int .i64 (x87))] (by kernel_rfl) ?_
    refine wS_bool (decide (x87 < (((l0).length : Int)))) (fun hb97 => ?_) (fun hb97 => ?_)
    · have hm := condT hb97 hm
      rewrite [hb97]
      refine wS_pure 5 [(15, .bool (decide (x87 < (((l1).length : Int))))), (14, .bool (decide (x87 < (((l1).length : Int))))), (13, .int .i64 (((l1).length : Int))), (12, .slice A1 (l1).length cap1), (11, .int .i64 (x87))] (by kernel_rfl) ?_
      refine wS_end (by rfl) ?_
      refine eX_then ?_
      refine cW_cond (t := decide (x87 < (((l1).length : Int)))) (by kernel_rfl) (fun hb98 => ?_) (fun hb98 => ?_)
      · have hm := condT hb98 hm
        refine cW_skip ?_
        refine eX_then ?_
        refine cW_seq ?_
        refine cW_block ?_
        refine cW_seq ?_
        refine cW_drawnTail [] 8 (by kernel_rfl) (by kernel_rfl) (fun w107 hc108 => ?_)
        replace F89 := F89.chg hc108 Dj.nil
        replace F90 := F90.chg hc108 Dj.nil
        replace hB := hB.inS hc108 inNil
        replace hZ := Nat.le_trans hZ hc108.size
        have hS := Chg.refl [] w107
        have Z109 := F89
        have Z110 := F90
        refine wH_take [0, 1] [1, 0] [(19, .int .i64 (x87)), (18, .slice A0 (l0).length cap0)] (by kernel_rfl) (qT (qT (qB (qT (qL (qB (qT (qT qZ)))))))) (by kernel_rfl) ?_
        obtain ⟨x111, hx112, hm⟩ := bindE hm
        refine wH_idx (i := 2) (d := 20) (T := 25) (A := A0) (n := (l0).length) (cap := cap0) (kd := .i64) (m := x87) (by kernel_rfl) (qT (qT (qB (qT (qL (qB (qT (qT qZ)))))))) (by kernel_rfl) (by kernel_rfl) sl25 (F89.is hx112) ?_
        refine wH_load1 (i := 3) (d := 21) (T := 2) (ad := (elA A0 1 (x87) 0)) (v := .int .i64 (x111)) (by kernel_rfl) (qT (qT (qB (qT (qL (qB (qT (qT qZ)))))))) (by kernel_rfl) (by kernel_rfl) vt2 (fun W hW => Sl.cell (Z109.chg hW Dj.nil) hx112 0 (by rfl)) ?_
        refine wH_take [4, 5] [5, 4, 3, 2, 1, 0] [(23, .int .i64 (x87)), (22, .slice A1 (l1).length cap1)] (by kernel_rfl) (qT (qT (qB (qT (qL (qB (qT (qT qZ)))))))) (by kernel_rfl) ?_
        obtain ⟨x113, hx114, hm⟩ := bindE hm
        refine wH_idx (i := 6) (d := 24) (T := 25) (A := A1) (n := (l1).length) (cap := cap1) (kd := .i64) (m := x87) (by kernel_rfl) (qT (qT (qB (qT (qL (qB (qT (qT qZ)))))))) (by kernel_rfl) (by kernel_rfl) sl25 (F90.is hx114) ?_
        refine wH_load1 (i := 7) (d := 25) (T := 2) (ad := (elA A1 1 (x87) 0)) (v := .int .i64 (x113)) (by kernel_rfl) (qT (qT (qB (qT (qL (qB (qT (qT qZ)))))))) (by kernel_rfl) (by kernel_rfl) vt2 (fun W hW => Sl.cell (Z110.chg hW Dj.nil) hx114 0 (by rfl)) ?_
        refine wH_done (by kernel_rfl) ?_
        refine eX_tail ?_
        refine wS_pure 1 [(26, .bool (x111 != x113))] (by kernel_rfl) ?_
        refine wS_end (by rfl) ?_
        refine eX_then ?_
        refine cW_cond (t := x111 != x113) (by kernel_rfl) (fun hb115 => ?_) (fun hb115 => ?_)
        · have hm := condT hb115 hm
          refine cW_seq ?_
          refine cW_drawnTail [] 8 (by kernel_rfl) (by kernel_rfl) (fun w124 hc125 => ?_)
          replace F89 := F89.chg hc125 Dj.nil
          replace F90 := F90.chg hc125 Dj.nil
          replace hB := hB.inS hc125 inNil
          replace hZ := Nat.le_trans hZ hc125.size
          have hS := Chg.refl [] w124
          have Z126 := F89
          have Z127 := F90
          refine wH_take [0, 1] [1, 0] [(28, .int .i64 (x87)), (27, .slice A0 (l0).length cap0)] (by kernel_rfl) (qT (qT (qB (qT (qL (qB (qT (qT qZ)))))))) (by kernel_rfl) ?_
          obtain ⟨x128, hx129, hm⟩ := bindE hm
          refine wH_idx (i := 2) (d := 29) (T := 25) (A := A0) (n := (l0).length) (cap := cap0) (kd := .i64) (m := x87) (by kernel_rfl) (qT (qT (qB (qT (qL (qB (qT (qT qZ)))))))) (by kernel_rfl) (by kernel_rfl) sl25 (F89.is hx129) ?_
          refine wH_load1 (i := 3) (d := 30) (T := 2) (ad := (elA A0 1 (x87) 0)) (v := .int .i64 (x128)) (by kernel_rfl) (qT (qT (qB (qT (qL (qB (qT (qT qZ)))))))) (by kernel_rfl) (by kernel_rfl) vt2 (fun W hW => Sl.cell (Z126.chg hW Dj.nil) hx129 0 (by rfl)) ?_
          refine wH_take [4, 5] [5, 4, 3, 2, 1, 0] [(32, .int .i64 (x87)), (31, .slice A1 (l1).length cap1)] (by kernel_rfl) (qT (qT (qB (qT (qL (qB (qT (qT qZ)))))))) (by kernel_rfl) ?_
          obtain ⟨x130, hx131, hm⟩ := bindE hm
          refine wH_idx (i := 6) (d := 33) (T := 25) (A := A1) (n := (l1).length) (cap := cap1) (kd := .i64) (m := x87) (by kernel_rfl) (qT (qT (qB (qT (qL (qB (qT (qT qZ)))))))) (by kernel_rfl) (by kernel_rfl) sl25 (F90.is hx131) ?_
          refine wH_load1 (i := 7) (d := 34) (T := 2) (ad := (elA A1 1 (x87) 0)) (v := .int .i64 (x130)) (by kernel_rfl) (qT (qT (qB (qT (qL (qB (qT (qT qZ)))))))) (by kernel_rfl) (by kernel_rfl) vt2 (fun W hW => Sl.cell (Z127.chg hW Dj.nil) hx131 0 (by rfl)) ?_
          refine wH_done (by kernel_rfl) ?_
          refine eX_tail ?_
          refine wS_pure 2 [(4, .bool (decide (x128 < x130))), (35, .bool (decide (x128 < x130)))] (by kernel_rfl) ?_
          refine wS_end (by rfl) ?_
          refine eX_then ?_
          refine cW_prune [(4, .bool (decide (x128 < x130)))] (by kernel_rfl) (by kernel_rfl) (fun a132 => ?_)
          refine cW_ret ?_
          refine eX_block_ret ?_
          refine eX_then_ret ?_
          have hq : (some (Ctl.out (Sum.inr (decide (x128 < x130)))) : Option (Ctl (Int) (Sum (Unit) ((Bool))))) = some _ := hm
          replace hq := someE hq
          subst hq
          refine eX_outR hx96 (fun hr => ?_)
          subst hr
          refine eX_block_ret ?_
          refine eX_then_ret ?_
          refine eX_then_ret ?_
          have hq : (some (decide (x128 < x130)) : Option ((Bool))) = some _ := hm93
          replace hq := someE hq
          subst hq
          refine eX_ret (vs := [.bool (decide (x128 < x130))]) [.tmp 4] (by rfl) ⟨by (show lkE _ _ _ = _); kernel_rfl, trivial⟩ ?_
          exact ⟨rfl, hB⟩
        · have hm := condF hb115 hm
          refine cW_skip ?_
          refine eX_block ?_
          refine eX_then ?_
          refine cW_region ?_
          refine wS_pure 3 [(5, .int .i64 (wr (x87 + 1))), (17, .int .i64 (wr (x87 + 1))), (16, .int .i64 (x87))] (by kernel_rfl) ?_
          refine wS_end (by rfl) ?_
          have hq : (some (Ctl.next (wr (x87 + 1))) : Option (Ctl (Int) (Sum (Unit) ((Bool))))) = some _ := hm
          replace hq := someE hq
          subst hq
          exact eX_next hx96 (fun hst => ⟨wr (x87 + 1), rfl, Fr.of hst (by kernel_rfl), F89, F90, hB, hZ⟩)
      · have hm := condF hb98 hm
        refine cW_exit ?_
        refine eX_then_exit ?_
        have hq : (some (Ctl.out (Sum.inl (()))) : Option (Ctl (Int) (Sum (Unit) ((Bool))))) = some _ := hm
        replace hq := someE hq
        subst hq
        refine eX_outX hx96 (fun hr133 => ?_)
        replace hr133 := hr133.symm
        subst hr133
        refine eX_block_hit ?_
        exact eX_J (fun hst => ⟨rfl, Fr.of hst (by kernel_rfl), F89, F90, hB, hZ⟩)
    · have hm := condF hb97 hm
      rewrite [hb97]
      refine wS_pure 5 [(15, .bool (false)), (14, undef), (13, undef), (12, undef), (11, undef)] (by kernel_rfl) ?_
      refine wS_end (by rfl) ?_
      refine eX_then ?_
      refine cW_cond_f (by kernel_rfl) ?_
      refine cW_exit ?_
      refine eX_then_exit ?_
      have hq : (some (Ctl.out (Sum.inl (()))) : Option (Ctl (Int) (Sum (Unit) ((Bool))))) = some _ := hm
      replace hq := someE hq
      subst hq
      refine eX_outX hx96 (fun hr134 => ?_)
      replace hr134 := hr134.symm
      subst hr134
      refine eX_block_hit ?_
      exact eX_J (fun hst => ⟨rfl, Fr.of hst (by kernel_rfl), F89, F90, hB, hZ⟩)
  · rintro a' w82 ⟨hJ, hF83, F84, F85, hB, hZ⟩
    subst hJ
    refine Fr.goX hF83 (by kernel_rfl) ?_
    refine eX_then ?_
    refine cW_seq ?_
    refine cW_region ?_
    refine wS_pure 6 [(4, .bool (decide ((((l0).length : Int)) < (((l1).length : Int))))), (40, .bool (decide ((((l0).length : Int)) < (((l1).length : Int))))), (39, .int .i64 (((l1).length : Int))), (38, .slice A1 (l1).length cap1), (37, .int .i64 (((l0).length : Int))), (36, .slice A0 (l0).length cap0)] (by kernel_rfl) ?_
    refine wS_end (by rfl) ?_
    refine eX_then ?_
    refine cW_ret ?_
    have hq : (some (decide ((((l0).length : Int)) < (((l1).length : Int)))) : Option ((Bool))) = some _ := hm
    replace hq := someE hq
    subst hq
    refine eX_ret (vs := [.bool (decide ((((l0).length : Int)) < (((l1).length : Int))))]) [.tmp 4] (by rfl) ⟨by (show lkE _ _ _ = _); kernel_rfl, trivial⟩ ?_
    exact ⟨rfl, hB⟩

set_option maxRecDepth 100000 in
/-- spec.l07Lists -/
theorem c_spec_l07Lists {w0 : World} {l0 : List (List (Int))} {A0 : Option Addr} {cap0 : Nat} {fp0 : List Nat} {p1 : Int} {p2 : Int} {r : (Bool)} (hm : m_spec_l07Lists l0 p1 p2 = some r) (F0 : SlR 1 encI w0 fp0 A0 l0) :
    Calls Try.prog 103 #[.slice A0 (l0).length cap0, .int .i64 (p1), .int .i64 (p2)] w0 fun e w' => e = .returned (.bool (r)) ∧ Chg [] w0 w' := by
  have L0 := F0.low
  have hB : Chg [] w0 w0 := Chg.refl _ _
  have hZ := Nat.le_refl w0.heap.size
  unfold m_spec_l07Lists at hm
  refine enterE (N := 71) Try.func103 (by rfl) Try.ntmps103 (by simp) [(0, .slice A0 (l0).length cap0), (1, .int .i64 (p1)), (2, .int .i64 (p2))] (by rfl) (by kernel_rfl) (fun a => ?_)
  refine cW_seq ?_
  refine cW_region ?_
  refine wS_pure 1 [(6, .bool (false))] (by kernel_rfl) ?_
  refine wS_end (by rfl) ?_
  refine eX_then ?_
  refine cW_seq ?_
  refine cW_seq ?_
  refine cW_region ?_
  refine wS_pure 1 [(7, .int .i64 (0))] (by kernel_rfl) ?_
  refine wS_end (by rfl) ?_
  refine eX_then ?_
  obtain ⟨r212, hr213, hm⟩ := bindE hm
  have hm214 := hm
  refine cW_cut (fun a' w' => Sum.inl (()) = r212 ∧ Fr 71 [(0, .slice A0 (l0).length cap0)] a' ∧ SlR 1 encI w' fp0 A0 l0 ∧ Chg [] w0 w' ∧ w0.heap.size ≤ w'.heap.size) ?_ ?_
  · refine cW_block ?_
    refine cW_loop _ (fun (s215 : Int) a' w' => ∃ x209 : Int, x209 = s215 ∧ Fr 71 [(0, .slice A0 (l0).length cap0), (1, .int .i64 (p1)), (2, .int .i64 (p2)), (7, .int .i64 (x209))] a' ∧ SlR 1 encI w' fp0 A0 l0 ∧ Chg [] w0 w' ∧ w0.heap.size ≤ w'.heap.size) hr213 (fun hst => ⟨0, rfl, Fr.of hst (by kernel_rfl), F0, hB, hZ⟩) ?_
    rintro _ c216 a' w208 ⟨x209, rfl, hF210, F211, hB, hZ⟩ hx217
    refine Fr.goOn hF210 (by kernel_rfl) ?_
    have hm := hx217
    unfold m_spec_l07Lists_s1 at hm
    refine cW_seq ?_
    refine cW_seq ?_
    refine cW_region ?_
    refine wS_pure 4 [(12, .bool (decide (x209 < (((l0).length : Int))))), (11, .int .i64 (((l0).length : Int))), (10, .slice A0 (l0).length cap0), (9, .int .i64 (x209))] (by kernel_rfl) ?_
    refine wS_end (by rfl) ?_
    refine eX_then ?_
    refine cW_cond (t := decide (x209 < (((l0).length : Int)))) (by kernel_rfl) (fun hb218 => ?_) (fun hb218 => ?_)
    · have hm := condT hb218 hm
      refine cW_skip ?_
      refine eX_then ?_
      refine cW_seq ?_
      refine cW_block ?_
      refine cW_seq ?_
      refine cW_region ?_
      refine wS_pure 2 [(16, .int .i64 (x209)), (15, .slice A0 (l0).length cap0)] (by kernel_rfl) ?_
      obtain ⟨x219, hx220, hm⟩ := bindE hm
      refine wS_idx (d := 17) (T := 24) (A := A0) (n := (l0).length) (cap := cap0) (kd := .i64) (m := x209) (by kernel_rfl) sl24 (F211.is hx220) ?_
      obtain ⟨A221, cap222, hc224, F223, K225⟩ := SlR.row F211 hx220
      refine wS_load1 (d := 18) (T := 25) (ad := (elA A0 1 (x209) 0)) (v := .slice A221 (x219).length cap222) (by kernel_rfl) vt25 hc224 ?_
      refine wS_pure 1 [(8, .slice A221 (x219).length cap222)] (by kernel_rfl) ?_
      refine wS_end (by rfl) ?_
      refine eX_then ?_
      refine cW_seq ?_
      refine cW_seq ?_
      refine cW_drawnTail [] 23 (by kernel_rfl) (by kernel_rfl) (fun w255 hc256 => ?_)
      replace F211 := F211.chg hc256 Dj.nil
      replace F223 := F223.chg hc256 Dj.nil
      replace hB := hB.inS hc256 inNil
      replace hZ := Nat.le_trans hZ hc256.size
      have hS := Chg.refl [] w255
      have Z257 := F211
      have Z258 := F223
      refine wH_take [0, 1, 2, 3, 4] [4, 3, 2, 1, 0] [(23, .bool ((((x219).length : Int)) != p2)), (22, .bool ((((x219).length : Int)) != p2)), (21, .int .i64 (p2)), (20, .int .i64 (((x219).length : Int))), (19, .slice A221 (x219).length cap222)] (by kernel_rfl) (qT (qT (qT (qB (qT (qL (qB (qT (qT qZ))))))))) (by kernel_rfl) ?_
      refine wH_bool ((((x219).length : Int)) != p2) (fun hb259 => ?_) (fun hb259 => ?_)
      · have hm := condT hb259 hm
        rewrite [hb259]
        refine wH_take [5, 6, 7, 8, 9, 10, 11, 12, 13, 14, 15, 16, 17, 18, 19, 20, 21, 22] [22, 21, 20, 19, 18, 17, 16, 15, 14, 13, 12, 11, 10, 9, 8, 7, 6, 5, 4, 3, 2, 1, 0] [(41, undef), (40, undef), (39, undef), (38, undef), (37, undef), (36, undef), (35, undef), (34, undef), (33, undef), (32, .bool (true)), (31, .bool (true)), (30, undef), (29, undef), (28, undef), (27, undef), (26, undef), (25, undef), (24, undef)] (by kernel_rfl) (qT (qT (qT (qB (qT (qL (qB (qT (qT qZ))))))))) (by kernel_rfl) ?_
        refine wH_done (by kernel_rfl) ?_
        refine eX_tail ?_
        refine wS_pure 14 [(55, .bool (true)), (54, undef), (53, undef), (52, undef), (51, undef), (50, undef), (49, undef), (48, undef), (47, undef), (46, undef), (45, .bool (true)), (44, .bool (true)), (43, undef), (42, undef)] (by kernel_rfl) ?_
        refine wS_end (by rfl) ?_
        refine eX_then ?_
        refine cW_prune [(0, .slice A0 (l0).length cap0), (1, .int .i64 (p1)), (2, .int .i64 (p2)), (7, .int .i64 (x209)), (8, .slice A221 (x219).length cap222), (55, .bool (true))] (by kernel_rfl) (by kernel_rfl) (fun a260 => ?_)
        refine cW_cond_t (by kernel_rfl) ?_
        refine cW_seq ?_
        refine cW_region ?_
        refine wS_pure 1 [(6, .bool (false))] (by kernel_rfl) ?_
        refine wS_end (by rfl) ?_
        refine eX_then ?_
        refine cW_ret ?_
        refine eX_then_ret ?_
        refine eX_block_ret ?_
        refine eX_then_ret ?_
        have hq : (some (Ctl.out (Sum.inr false)) : Option (Ctl (Int) (Sum (Unit) ((Bool))))) = some _ := hm
        replace hq := someE hq
        subst hq
        refine eX_outR hx217 (fun hr => ?_)
        subst hr
        refine eX_block_ret ?_
        refine eX_then_ret ?_
        refine eX_then_ret ?_
        have hq : (some false : Option ((Bool))) = some _ := hm214
        replace hq := someE hq
        subst hq
        refine eX_ret (vs := [.bool (false)]) [.tmp 6] (by rfl) ⟨by (show lkE _ _ _ = _); kernel_rfl, trivial⟩ ?_
        exact ⟨rfl, hB⟩
      · have hm := condF hb259 hm
        rewrite [hb259]
        refine wH_take [5] [5, 4, 3, 2, 1, 0] [(24, .slice A221 (x219).length cap222)] (by kernel_rfl) (qT (qT (qT (qB (qT (qL (qB (qT (qT qZ))))))))) (by kernel_rfl) ?_
        obtain ⟨x261, hx262, hm⟩ := bindE hm
        refine wH_idx (i := 6) (d := 25) (T := 25) (A := A221) (n := (x219).length) (cap := cap222) (kd := .i64) (m := 0) (by kernel_rfl) (qT (qT (qT (qB (qT (qL (qB (qT (qT qZ))))))))) (by kernel_rfl) (by kernel_rfl) sl25 (F223.is hx262) ?_
        refine wH_load1 (i := 7) (d := 26) (T := 2) (ad := (elA A221 1 (0) 0)) (v := .int .i64 (x261)) (by kernel_rfl) (qT (qT (qT (qB (qT (qL (qB (qT (qT qZ))))))))) (by kernel_rfl) (by kernel_rfl) vt2 (fun W hW => Sl.cell (Z258.chg hW Dj.nil) hx262 0 (by rfl)) ?_
        refine wH_take [8, 9] [9, 8, 7, 6, 5, 4, 3, 2, 1, 0] [(28, .int .i64 (wr (p1 - 1))), (27, .int .i64 (p1))] (by kernel_rfl) (qT (qT (qT (qB (qT (qL (qB (qT (qT qZ))))))))) (by kernel_rfl) ?_
        refine wH_all [10] (by rfl) (by kernel_rfl) (by simp) ⟨⟨by kernel_rfl, ?_⟩, trivial⟩
        obtain ⟨y263, hy264, hm⟩ := bindE hm
        refine wS_calls (d := 29) (f := 87) (vs := [.int .i64 (x261), .int .i64 (0), .int .i64 (wr (p1 - 1))]) (by kernel_rfl) ent87 (c_spec_l00In hy264) ?_
        rintro _ w265 ⟨rfl, hc266⟩
        replace F211 := F211.chg hc266 Dj.nil
        replace F223 := F223.chg hc266 Dj.nil
        replace hB := hB.inS hc266 inNil
        have hSz := hS
        replace hS := hS.inS hc266 inNil
        replace hZ := Nat.le_trans hZ hc266.size
        refine ⟨.bool (y263), rfl, ?_⟩
        refine wS_end (by kernel_rfl) ?_
        refine eX_KH hS ?_
        refine wH_take [11, 12, 13] [13, 12, 11, 10, 9, 8, 7, 6, 5, 4, 3, 2, 1, 0] [(32, .bool (!y263)), (31, .bool (!y263)), (30, .bool (!y263))] (by kernel_rfl) (qT (qT (qT (qB (qT (qL (qB (qT (qT qZ))))))))) (by kernel_rfl) ?_
        refine wH_bool (!y263) (fun hb267 => ?_) (fun hb267 => ?_)
        · have hm := condT hb267 hm
          rewrite [hb267]
          refine wH_take [14, 15, 16, 17, 18, 19, 20, 21, 22] [22, 21, 20, 19, 18, 17, 16, 15, 14, 13, 12, 11, 10, 9, 8, 7, 6, 5, 4, 3, 2, 1, 0] [(41, undef), (40, undef), (39, undef), (38, undef), (37, undef), (36, undef), (35, undef), (34, undef), (33, undef)] (by kernel_rfl) (qT (qT (qT (qB (qT (qL (qB (qT (qT qZ))))))))) (by kernel_rfl) ?_
          refine wH_done (by kernel_rfl) ?_
          refine eX_tail ?_
          refine wS_pure 14 [(55, .bool (true)), (54, undef), (53, undef), (52, undef), (51, undef), (50, undef), (49, undef), (48, undef), (47, undef), (46, undef), (45, .bool (true)), (44, .bool (true)), (43, undef), (42, undef)] (by kernel_rfl) ?_
          refine wS_end (by rfl) ?_
          refine eX_then ?_
          refine cW_prune [(0, .slice A0 (l0).length cap0), (1, .int .i64 (p1)), (2, .int .i64 (p2)), (7, .int .i64 (x209)), (8, .slice A221 (x219).length cap222), (55, .bool (true))] (by kernel_rfl) (by kernel_rfl) (fun a268 => ?_)
          refine cW_cond_t (by kernel_rfl) ?_
          refine cW_seq ?_
          refine cW_region ?_
          refine wS_pure 1 [(6, .bool (false))] (by kernel_rfl) ?_
          refine wS_end (by rfl) ?_
          refine eX_then ?_
          refine cW_ret ?_
          refine eX_then_ret ?_
          refine eX_block_ret ?_
          refine eX_then_ret ?_
          have hq : (some (Ctl.out (Sum.inr false)) : Option (Ctl (Int) (Sum (Unit) ((Bool))))) = some _ := hm
          replace hq := someE hq
          subst hq
          refine eX_outR hx217 (fun hr => ?_)
          subst hr
          refine eX_block_ret ?_
          refine eX_then_ret ?_
          refine eX_then_ret ?_
          have hq : (some false : Option ((Bool))) = some _ := hm214
          replace hq := someE hq
          subst hq
          refine eX_ret (vs := [.bool (false)]) [.tmp 6] (by rfl) ⟨by (show lkE _ _ _ = _); kernel_rfl, trivial⟩ ?_
          exact ⟨rfl, hB⟩
        · have hm := condF hb267 hm
          rewrite [hb267]
          refine wH_take [14] [14, 13, 12, 11, 10, 9, 8, 7, 6, 5, 4, 3, 2, 1, 0] [(33, .slice A221 (x219).length cap222)] (by kernel_rfl) (qT (qT (qT (qB (qT (qL (qB (qT (qT qZ))))))))) (by kernel_rfl) ?_
          obtain ⟨x269, hx270, hm⟩ := bindE hm
          refine wH_idx (i := 15) (d := 34) (T := 25) (A := A221) (n := (x219).length) (cap := cap222) (kd := .i64) (m := 1) (by kernel_rfl) (qT (qT (qT (qB (qT (qL (qB (qT (qT qZ))))))))) (by kernel_rfl) (by kernel_rfl) sl25 (F223.is hx270) ?_
          refine wH_load1 (i := 16) (d := 35) (T := 2) (ad := (elA A221 1 (1) 0)) (v := .int .i64 (x269)) (by kernel_rfl) (qT (qT (qT (qB (qT (qL (qB (qT (qT qZ))))))))) (by kernel_rfl) (by kernel_rfl) vt2 (fun W hW => Sl.cell (Z258.chg hW Dj.nil) hx270 0 (by rfl)) ?_
          refine wH_take [17] [17, 16, 15, 14, 13, 12, 11, 10, 9, 8, 7, 6, 5, 4, 3, 2, 1, 0] [(36, .slice A221 (x219).length cap222)] (by kernel_rfl) (qT (qT (qT (qB (qT (qL (qB (qT (qT qZ))))))))) (by kernel_rfl) ?_
          obtain ⟨x271, hx272, hm⟩ := bindE hm
          refine wH_idx (i := 18) (d := 37) (T := 25) (A := A221) (n := (x219).length) (cap := cap222) (kd := .i64) (m := 0) (by kernel_rfl) (qT (qT (qT (qB (qT (qL (qB (qT (qT qZ))))))))) (by kernel_rfl) (by kernel_rfl) sl25 (F223.is hx272) ?_
          refine wH_load1 (i := 19) (d := 38) (T := 2) (ad := (elA A221 1 (0) 0)) (v := .int .i64 (x271)) (by kernel_rfl) (qT (qT (qT (qB (qT (qL (qB (qT (qT qZ))))))))) (by kernel_rfl) (by kernel_rfl) vt2 (fun W hW => Sl.cell (Z258.chg hW Dj.nil) hx272 0 (by rfl)) ?_
          refine wH_take [20, 21, 22] [22, 21, 20, 19, 18, 17, 16, 15, 14, 13, 12, 11, 10, 9, 8, 7, 6, 5, 4, 3, 2, 1, 0] [(41, .int .i64 (wr (p1 - 1))), (40, .int .i64 (p1)), (39, .int .i64 (wr (x271 + 1)))] (by kernel_rfl) (qT (qT (qT (qB (qT (qL (qB (qT (qT qZ))))))))) (by kernel_rfl) ?_
          refine wH_done (by kernel_rfl) ?_
          refine eX_tail ?_
          obtain ⟨y273, hy274, hm⟩ := bindE hm
          refine wS_calls (d := 42) (f := 87) (vs := [.int .i64 (x269), .int .i64 (wr (x271 + 1)), .int .i64 (wr (p1 - 1))]) (by kernel_rfl) ent87 (c_spec_l00In hy274) ?_
          rintro _ w275 ⟨rfl, hc276⟩
          replace F211 := F211.chg hc276 Dj.nil
          replace F223 := F223.chg hc276 Dj.nil
          replace hB := hB.inS hc276 inNil
          replace hZ := Nat.le_trans hZ hc276.size
          refine ⟨.bool (y273), rfl, ?_⟩
          refine wS_pure 3 [(45, .bool (!y273)), (44, .bool (!y273)), (43, .bool (!y273))] (by kernel_rfl) ?_
          refine wS_bool (!y273) (fun hb277 => ?_) (fun hb277 => ?_)
          · have hm := condT hb277 hm
            rewrite [hb277]
            refine wS_pure 10 [(55, .bool (true)), (54, undef), (53, undef), (52, undef), (51, undef), (50, undef), (49, undef), (48, undef), (47, undef), (46, undef)] (by kernel_rfl) ?_
            refine wS_end (by rfl) ?_
            refine eX_then ?_
            refine cW_prune [(0, .slice A0 (l0).length cap0), (1, .int .i64 (p1)), (2, .int .i64 (p2)), (7, .int .i64 (x209)), (8, .slice A221 (x219).length cap222), (55, .bool (true))] (by kernel_rfl) (by kernel_rfl) (fun a278 => ?_)
            refine cW_cond_t (by kernel_rfl) ?_
            refine cW_seq ?_
            refine cW_region ?_
            refine wS_pure 1 [(6, .bool (false))] (by kernel_rfl) ?_
            refine wS_end (by rfl) ?_
            refine eX_then ?_
            refine cW_ret ?_
            refine eX_then_ret ?_
            refine eX_block_ret ?_
            refine eX_then_ret ?_
            have hq : (some (Ctl.out (Sum.inr false)) : Option (Ctl (Int) (Sum (Unit) ((Bool))))) = some _ := hm
            replace hq := someE hq
            subst hq
            refine eX_outR hx217 (fun hr => ?_)
            subst hr
            refine eX_block_ret ?_
            refine eX_then_ret ?_
            refine eX_then_ret ?_
            have hq : (some false : Option ((Bool))) = some _ := hm214
            replace hq := someE hq
            subst hq
            refine eX_ret (vs := [.bool (false)]) [.tmp 6] (by rfl) ⟨by (show lkE _ _ _ = _); kernel_rfl, trivial⟩ ?_
            exact ⟨rfl, hB⟩
          · have hm := condF hb277 hm
            rewrite [hb277]
            refine wS_pure 3 [(48, .bool (p2 == 3)), (47, .bool (p2 == 3)), (46, .int .i64 (p2))] (by kernel_rfl) ?_
            refine wS_bool (p2 == 3) (fun hb279 => ?_) (fun hb279 => ?_)
            · have hm := condT hb279 hm
              rewrite [hb279]
              refine wS_pure 1 [(49, .slice A221 (x219).length cap222)] (by kernel_rfl) ?_
              obtain ⟨x280, hx281, hm⟩ := bindE hm
              refine wS_idx (d := 50) (T := 25) (A := A221) (n := (x219).length) (cap := cap222) (kd := .i64) (m := 2) (by kernel_rfl) sl25 (F223.is hx281) ?_
              refine wS_load1 (d := 51) (T := 2) (ad := (elA A221 1 (2) 0)) (v := .int .i64 (x280)) (by kernel_rfl) vt2 (Sl.cell F223 hx281 0 (by rfl)) ?_
              obtain ⟨y282, hy283, hm⟩ := bindE hm
              refine wS_calls (d := 52) (f := 87) (vs := [.int .i64 (x280), .int .i64 (0), .int .i64 (1000)]) (by kernel_rfl) ent87 (c_spec_l00In hy283) ?_
              rintro _ w284 ⟨rfl, hc285⟩
              replace F211 := F211.chg hc285 Dj.nil
              replace F223 := F223.chg hc285 Dj.nil
              replace hB := hB.inS hc285 inNil
              replace hZ := Nat.le_trans hZ hc285.size
              refine ⟨.bool (y282), rfl, ?_⟩
              refine wS_pure 3 [(55, .bool (!y282)), (54, .bool (!y282)), (53, .bool (!y282))] (by kernel_rfl) ?_
              refine wS_end (by rfl) ?_
              refine eX_then ?_
              refine cW_prune [(0, .slice A0 (l0).length cap0), (1, .int .i64 (p1)), (2, .int .i64 (p2)), (7, .int .i64 (x209)), (8, .slice A221 (x219).length cap222), (55, .bool (!y282))] (by kernel_rfl) (by kernel_rfl) (fun a286 => ?_)
              refine cW_cond (t := !y282) (by kernel_rfl) (fun hb287 => ?_) (fun hb287 => ?_)
              · have hm := condT hb287 hm
                refine cW_seq ?_
                refine cW_region ?_
                refine wS_pure 1 [(6, .bool (false))] (by kernel_rfl) ?_
                refine wS_end (by rfl) ?_
                refine eX_then ?_
                refine cW_ret ?_
                refine eX_then_ret ?_
                refine eX_block_ret ?_
                refine eX_then_ret ?_
                have hq : (some (Ctl.out (Sum.inr false)) : Option (Ctl (Int) (Sum (Unit) ((Bool))))) = some _ := hm
                replace hq := someE hq
                subst hq
                refine eX_outR hx217 (fun hr => ?_)
                subst hr
                refine eX_block_ret ?_
                refine eX_then_ret ?_
                refine eX_then_ret ?_
                have hq : (some false : Option ((Bool))) = some _ := hm214
                replace hq := someE hq
                subst hq
                refine eX_ret (vs := [.bool (false)]) [.tmp 6] (by rfl) ⟨by (show lkE _ _ _ = _); kernel_rfl, trivial⟩ ?_
                exact ⟨rfl, hB⟩
              · have hm := condF hb287 hm
                refine cW_skip ?_
                refine eX_then ?_
                refine cW_seq ?_
                refine cW_region ?_
                refine wS_pure 3 [(58, .bool (decide (x209 > 0))), (57, .bool (decide (x209 > 0))), (56, .int .i64 (x209))] (by kernel_rfl) ?_
                refine wS_bool (decide (x209 > 0)) (fun hb288 => ?_) (fun hb288 => ?_)
                · have hm := condT hb288 hm
                  rewrite [hb288]
                  refine wS_pure 3 [(61, .int .i64 (wr (x209 - 1))), (60, .int .i64 (x209)), (59, .slice A0 (l0).length cap0)] (by kernel_rfl) ?_
                  obtain ⟨x289, hx290, hm⟩ := bindE hm
                  refine wS_idx (d := 62) (T := 24) (A := A0) (n := (l0).length) (cap := cap0) (kd := .i64) (m := wr (x209 - 1)) (by kernel_rfl) sl24 (F211.is hx290) ?_
                  obtain ⟨A291, cap292, hc294, F293, K295⟩ := SlR.row F211 hx290
                  refine wS_load1 (d := 63) (T := 25) (ad := (elA A0 1 (wr (x209 - 1)) 0)) (v := .slice A291 (x289).length cap292) (by kernel_rfl) vt25 hc294 ?_
                  refine wS_pure 1 [(64, .slice A221 (x219).length cap222)] (by kernel_rfl) ?_
                  obtain ⟨y297, hy298, hm⟩ := bindE hm
                  refine wS_calls (d := 65) (f := 128) (vs := [.slice A291 (x289).length cap292, .slice A221 (x219).length cap222]) (by kernel_rfl) ent128 (c_spec_l03Less hy298 F293 F223) ?_
                  rintro _ w299 ⟨rfl, hc300⟩
                  replace F211 := F211.chg hc300 Dj.nil
                  replace F223 := F223.chg hc300 Dj.nil
                  replace F293 := F293.chg hc300 Dj.nil
                  replace hB := hB.inS hc300 inNil
                  replace hZ := Nat.le_trans hZ hc300.size
                  refine ⟨.bool (y297), rfl, ?_⟩
                  refine wS_pure 2 [(67, .bool (!y297)), (66, .bool (!y297))] (by kernel_rfl) ?_
                  refine wS_end (by rfl) ?_
                  refine eX_then ?_
                  refine cW_cond (t := !y297) (by kernel_rfl) (fun hb301 => ?_) (fun hb301 => ?_)
                  · have hm := condT hb301 hm
                    refine cW_seq ?_
                    refine cW_region ?_
                    refine wS_pure 1 [(6, .bool (false))] (by kernel_rfl) ?_
                    refine wS_end (by rfl) ?_
                    refine eX_then ?_
                    refine cW_ret ?_
                    refine eX_block_ret ?_
                    refine eX_then_ret ?_
                    have hq : (some (Ctl.out (Sum.inr false)) : Option (Ctl (Int) (Sum (Unit) ((Bool))))) = some _ := hm
                    replace hq := someE hq
                    subst hq
                    refine eX_outR hx217 (fun hr => ?_)
                    subst hr
                    refine eX_block_ret ?_
                    refine eX_then_ret ?_
                    refine eX_then_ret ?_
                    have hq : (some false : Option ((Bool))) = some _ := hm214
                    replace hq := someE hq
                    subst hq
                    refine eX_ret (vs := [.bool (false)]) [.tmp 6] (by rfl) ⟨by (show lkE _ _ _ = _); kernel_rfl, trivial⟩ ?_
                    exact ⟨rfl, hB⟩
                  · have hm := condF hb301 hm
                    refine cW_skip ?_
                    refine eX_block ?_
                    refine eX_then ?_
                    refine cW_region ?_
                    refine wS_pure 3 [(7, .int .i64 (wr (x209 + 1))), (14, .int .i64 (wr (x209 + 1))), (13, .int .i64 (x209))] (by kernel_rfl) ?_
                    refine wS_end (by rfl) ?_
                    have hq : (some (Ctl.next (wr (x209 + 1))) : Option (Ctl (Int) (Sum (Unit) ((Bool))))) = some _ := hm
                    replace hq := someE hq
                    subst hq
                    exact eX_next hx217 (fun hst => ⟨wr (x209 + 1), rfl, Fr.of hst (by kernel_rfl), F211, hB, hZ⟩)
                · have hm := condF hb288 hm
                  rewrite [hb288]
                  refine wS_pure 9 [(67, .bool (false)), (66, undef), (65, undef), (64, undef), (63, undef), (62, undef), (61, undef), (60, undef), (59, undef)] (by kernel_rfl) ?_
                  refine wS_end (by rfl) ?_
                  refine eX_then ?_
                  refine cW_cond_f (by kernel_rfl) ?_
                  refine cW_skip ?_
                  refine eX_block ?_
                  refine eX_then ?_
                  refine cW_region ?_
                  refine wS_pure 3 [(7, .int .i64 (wr (x209 + 1))), (14, .int .i64 (wr (x209 + 1))), (13, .int .i64 (x209))] (by kernel_rfl) ?_
                  refine wS_end (by rfl) ?_
                  have hq : (some (Ctl.next (wr (x209 + 1))) : Option (Ctl (Int) (Sum (Unit) ((Bool))))) = some _ := hm
                  replace hq := someE hq
                  subst hq
                  exact eX_next hx217 (fun hst => ⟨wr (x209 + 1), rfl, Fr.of hst (by kernel_rfl), F211, hB, hZ⟩)
            · have hm := condF hb279 hm
              rewrite [hb279]
              refine wS_pure 7 [(55, .bool (false)), (54, .bool (false)), (53, undef), (52, undef), (51, undef), (50, undef), (49, undef)] (by kernel_rfl) ?_
              refine wS_end (by rfl) ?_
              refine eX_then ?_
              refine cW_prune [(0, .slice A0 (l0).length cap0), (1, .int .i64 (p1)), (2, .int .i64 (p2)), (7, .int .i64 (x209)), (8, .slice A221 (x219).length cap222), (55, .bool (false))] (by kernel_rfl) (by kernel_rfl) (fun a302 => ?_)
              refine cW_cond_f (by kernel_rfl) ?_
              refine cW_skip ?_
              refine eX_then ?_
              refine cW_seq ?_
              refine cW_region ?_
              refine wS_pure 3 [(58, .bool (decide (x209 > 0))), (57, .bool (decide (x209 > 0))), (56, .int .i64 (x209))] (by kernel_rfl) ?_
              refine wS_bool (decide (x209 > 0)) (fun hb303 => ?_) (fun hb303 => ?_)
              · have hm := condT hb303 hm
                rewrite [hb303]
                refine wS_pure 3 [(61, .int .i64 (wr (x209 - 1))), (60, .int .i64 (x209)), (59, .slice A0 (l0).length cap0)] (by kernel_rfl) ?_
                obtain ⟨x304, hx305, hm⟩ := bindE hm
                refine wS_idx (d := 62) (T := 24) (A := A0) (n := (l0).length) (cap := cap0) (kd := .i64) (m := wr (x209 - 1)) (by kernel_rfl) sl24 (F211.is hx305) ?_
                obtain ⟨A306, cap307, hc309, F308, K310⟩ := SlR.row F211 hx305
                refine wS_load1 (d := 63) (T := 25) (ad := (elA A0 1 (wr (x209 - 1)) 0)) (v := .slice A306 (x304).length cap307) (by kernel_rfl) vt25 hc309 ?_
                refine wS_pure 1 [(64, .slice A221 (x219).length cap222)] (by kernel_rfl) ?_
                obtain ⟨y312, hy313, hm⟩ := bindE hm
                refine wS_calls (d := 65) (f := 128) (vs := [.slice A306 (x304).length cap307, .slice A221 (x219).length cap222]) (by kernel_rfl) ent128 (c_spec_l03Less hy313 F308 F223) ?_
                rintro _ w314 ⟨rfl, hc315⟩
                replace F211 := F211.chg hc315 Dj.nil
                replace F223 := F223.chg hc315 Dj.nil
                replace F308 := F308.chg hc315 Dj.nil
                replace hB := hB.inS hc315 inNil
                replace hZ := Nat.le_trans hZ hc315.size
                refine ⟨.bool (y312), rfl, ?_⟩
                refine wS_pure 2 [(67, .bool (!y312)), (66, .bool (!y312))] (by kernel_rfl) ?_
                refine wS_end (by rfl) ?_
                refine eX_then ?_
                refine cW_cond (t := !y312) (by kernel_rfl) (fun hb316 => ?_) (fun hb316 => ?_)
                · have hm := condT hb316 hm
                  refine cW_seq ?_
                  refine cW_region ?_
                  refine wS_pure 1 [(6, .bool (false))] (by kernel_rfl) ?_
                  refine wS_end (by rfl) ?_
                  refine eX_then ?_
                  refine cW_ret ?_
                  refine eX_block_ret ?_
                  refine eX_then_ret ?_
                  have hq : (some (Ctl.out (Sum.inr false)) : Option (Ctl (Int) (Sum (Unit) ((Bool))))) = some _ := hm
                  replace hq := someE hq
                  subst hq
                  refine eX_outR hx217 (fun hr => ?_)
                  subst hr
                  refine eX_block_ret ?_
                  refine eX_then_ret ?_
                  refine eX_then_ret ?_
                  have hq : (some false : Option ((Bool))) = some _ := hm214
                  replace hq := someE hq
                  subst hq
                  refine eX_ret (vs := [.bool (false)]) [.tmp 6] (by rfl) ⟨by (show lkE _ _ _ = _); kernel_rfl, trivial⟩ ?_
                  exact ⟨rfl, hB⟩
                · have hm := condF hb316 hm
                  refine cW_skip ?_
                  refine eX_block ?_
                  refine eX_then ?_
                  refine cW_region ?_
                  refine wS_pure 3 [(7, .int .i64 (wr (x209 + 1))), (14, .int .i64 (wr (x209 + 1))), (13, .int .i64 (x209))] (by kernel_rfl) ?_
                  refine wS_end (by rfl) ?_
                  have hq : (some (Ctl.next (wr (x209 + 1))) : Option (Ctl (Int) (Sum (Unit) ((Bool))))) = some _ := hm
                  replace hq := someE hq
                  subst hq
                  exact eX_next hx217 (fun hst => ⟨wr (x209 + 1), rfl, Fr.of hst (by kernel_rfl), F211, hB, hZ⟩)
              · have hm := condF hb303 hm
                rewrite [hb303]
                refine wS_pure 9 [(67, .bool (false)), (66, undef), (65, undef), (64, undef), (63, undef), (62, undef), (61, undef), (60, undef), (59, undef)] (by kernel_rfl) ?_
                refine wS_end (by rfl) ?_
                refine eX_then ?_
                refine cW_cond_f (by kernel_rfl) ?_
                refine cW_skip ?_
                refine eX_block ?_
                refine eX_then ?_
                refine cW_region ?_
                refine wS_pure 3 [(7, .int .i64 (wr (x209 + 1))), (14, .int .i64 (wr (x209 + 1))), (13, .int .i64 (x209))] (by kernel_rfl) ?_
                refine wS_end (by rfl) ?_
                have hq : (some (Ctl.next (wr (x209 + 1))) : Option (Ctl (Int) (Sum (Unit) ((Bool))))) = some _ := hm
                replace hq := someE hq
                subst hq
                exact eX_next hx217 (fun hst => ⟨wr (x209 + 1), rfl, Fr.of hst (by kernel_rfl), F211, hB, hZ⟩)
    · have hm := condF hb218 hm
      refine cW_exit ?_
      refine eX_then_exit ?_
      have hq : (some (Ctl.out (Sum.inl (()))) : Option (Ctl (Int) (Sum (Unit) ((Bool))))) = some _ := hm
      replace hq := someE hq
      subst hq
      refine eX_outX hx217 (fun hr317 => ?_)
      replace hr317 := hr317.symm
      subst hr317
      refine eX_block_hit ?_
      exact eX_J (fun hst => ⟨rfl, Fr.of hst (by kernel_rfl), F211, hB, hZ⟩)
  · rintro a' w205 ⟨hJ, hF206, F207, hB, hZ⟩
    subst hJ
    refine Fr.goX hF206 (by kernel_rfl) ?_
    refine eX_then ?_
    refine cW_seq ?_
    refine cW_region ?_
    refine wS_pure 4 [(6, .bool (decide ((((l0).length : Int)) ≤ 30))), (70, .bool (decide ((((l0).length : Int)) ≤ 30))), (69, .int .i64 (((l0).length : Int))), (68, .slice A0 (l0).length cap0)] (by kernel_rfl) ?_
    refine wS_end (by rfl) ?_
    refine eX_then ?_
    refine cW_ret ?_
    have hq : (some (decide ((((l0).length : Int)) ≤ 30)) : Option ((Bool))) = some _ := hm
    replace hq := someE hq
    subst hq
    refine eX_ret (vs := [.bool (decide ((((l0).length : Int)) ≤ 30))]) [.tmp 6] (by rfl) ⟨by (show lkE _ _ _ = _); kernel_rfl, trivial⟩ ?_
    exact ⟨rfl, hB⟩

set_option maxRecDepth 100000 in
/-- spec.l07Is -/
theorem c_spec_l07Is_bimplWiring {w0 : World} {q0_0 : Int} {l0_1 : List (List (Int))} {A0_1 : Option Addr} {cap0_1 : Nat} {fp0_1 : List Nat} {l0_2 : List (List (Int))} {A0_2 : Option Addr} {cap0_2 : Nat} {fp0_2 : List Nat} {l0_3 : List (Int)} {A0_3 : Option Addr} {cap0_3 : Nat} {fp0_3 : List Nat} {b0 : Nat} {r : (Bool)} (hm : m_spec_l07Is_bimplWiring q0_0 l0_1 l0_2 l0_3 = some r) (F0_1 : SlR 1 encI w0 fp0_1 A0_1 l0_1) (F0_2 : SlR 1 encI w0 fp0_2 A0_2 l0_2) (F0_3 : Sl 1 encI w0 fp0_3 A0_3 l0_3) (F0 : Cl w0 b0 27 [.int .i64 (q0_0), .slice A0_1 (l0_1).length cap0_1, .slice A0_2 (l0_2).length cap0_2, .slice A0_3 (l0_3).length cap0_3]) :
    Calls Try.prog 63 #[.pointer (some ⟨b0, 0, none⟩)] w0 fun e w' => e = .returned (.bool (r)) ∧ Chg [] w0 w' := by
  have L0_1 := F0_1.low
  have L0_2 := F0_2.low
  have L0_3 := F0_3.low
  have L0 := lt1 F0.lt
  have hB : Chg [] w0 w0 := Chg.refl _ _
  have hZ := Nat.le_refl w0.heap.size
  unfold m_spec_l07Is_bimplWiring at hm
  refine enterE (N := 60) Try.func63 (by rfl) Try.ntmps63 (by simp) [(0, .pointer (some ⟨b0, 0, none⟩))] (by rfl) (by kernel_rfl) (fun a => ?_)
  refine cW_seq ?_
  refine cW_region ?_
  refine wS_pure 1 [(2, .bool (false))] (by kernel_rfl) ?_
  refine wS_end (by rfl) ?_
  refine eX_then ?_
  refine cW_seq ?_
  refine cW_seq ?_
  refine cW_drawnTail [] 16 (by kernel_rfl) (by kernel_rfl) (fun w16 hc17 => ?_)
  replace F0_1 := F0_1.chg hc17 Dj.nil
  replace F0_2 := F0_2.chg hc17 Dj.nil
  replace F0_3 := F0_3.chg hc17 Dj.nil
  replace F0 := F0.chg hc17 notNil
  replace hB := hB.inS hc17 inNil
  replace hZ := Nat.le_trans hZ hc17.size
  have hS := Chg.refl [] w16
  have Z18 := F0_1
  have Z19 := F0_2
  have Z20 := F0_3
  have Z21 := F0
  refine wH_take [0, 1, 2] [2, 1, 0] [(6, .pointer (some ⟨b0, 0, none⟩)), (5, .pointer (some ⟨b0, 0, none⟩)), (4, .pointer (some ⟨b0, 0, none⟩))] (by kernel_rfl) (qT (qT (qT qZ))) (by kernel_rfl) ?_
  refine wH_load1 (i := 3) (d := 7) (T := 2) (ad := ⟨b0, 0, none⟩) (v := .int .i64 (q0_0)) (by kernel_rfl) (qT (qT (qT qZ))) (by kernel_rfl) (by kernel_rfl) vt2 (fun W hW => (Z21.chg hW notNil).cell 0) ?_
  refine wH_all [4] (by rfl) (by kernel_rfl) (by simp) ⟨⟨by kernel_rfl, ?_⟩, trivial⟩
  obtain ⟨y22, hy23, hm⟩ := bindE hm
  refine wS_calls (d := 8) (f := 87) (vs := [.int .i64 (q0_0), .int .i64 (0), .int .i64 (14)]) (by kernel_rfl) ent87 (c_spec_l00In hy23) ?_
  rintro _ w24 ⟨rfl, hc25⟩
  replace F0_1 := F0_1.chg hc25 Dj.nil
  replace F0_2 := F0_2.chg hc25 Dj.nil
  replace F0_3 := F0_3.chg hc25 Dj.nil
  replace F0 := F0.chg hc25 notNil
  replace hB := hB.inS hc25 inNil
  have hSz := hS
  replace hS := hS.inS hc25 inNil
  replace hZ := Nat.le_trans hZ hc25.size
  refine ⟨.bool (y22), rfl, ?_⟩
  refine wS_end (by kernel_rfl) ?_
  refine eX_KH hS ?_
  refine wH_take [5, 6] [6, 5, 4, 3, 2, 1, 0] [(10, .bool (!y22)), (9, .bool (!y22))] (by kernel_rfl) (qT (qT (qT qZ))) (by kernel_rfl) ?_
  refine wH_bool (!y22) (fun hb26 => ?_) (fun hb26 => ?_)
  · have hm := condT hb26 hm
    rewrite [hb26]
    refine wH_take [7, 8, 9, 10, 11, 12, 13, 14, 15] [15, 14, 13, 12, 11, 10, 9, 8, 7, 6, 5, 4, 3, 2, 1, 0] [(19, undef), (18, undef), (17, undef), (16, undef), (15, undef), (14, undef), (13, undef), (12, undef), (11, undef)] (by kernel_rfl) (qT (qT (qT qZ))) (by kernel_rfl) ?_
    refine wH_done (by kernel_rfl) ?_
    refine eX_tail ?_
    refine wS_pure 2 [(21, .bool (true)), (20, undef)] (by kernel_rfl) ?_
    refine wS_end (by rfl) ?_
    refine eX_then ?_
    refine cW_cond_t (by kernel_rfl) ?_
    refine cW_seq ?_
    refine cW_region ?_
    refine wS_pure 1 [(2, .bool (false))] (by kernel_rfl) ?_
    refine wS_end (by rfl) ?_
    refine eX_then ?_
    refine cW_ret ?_
    refine eX_then_ret ?_
    have hq : (some false : Option ((Bool))) = some _ := hm
    replace hq := someE hq
    subst hq
    refine eX_ret (vs := [.bool (false)]) [.tmp 2] (by rfl) ⟨by (show lkE _ _ _ = _); kernel_rfl, trivial⟩ ?_
    exact ⟨rfl, hB⟩
  · have hm := condF hb26 hm
    rewrite [hb26]
    refine wH_take [7, 8, 9] [9, 8, 7, 6, 5, 4, 3, 2, 1, 0] [(13, .pointer (some ⟨b0, 3, none⟩)), (12, .pointer (some ⟨b0, 0, none⟩)), (11, .pointer (some ⟨b0, 0, none⟩))] (by kernel_rfl) (qT (qT (qT qZ))) (by kernel_rfl) ?_
    refine wH_load1 (i := 10) (d := 14) (T := 25) (ad := ⟨b0, 3, none⟩) (v := .slice A0_3 (l0_3).length cap0_3) (by kernel_rfl) (qT (qT (qT qZ))) (by kernel_rfl) (by kernel_rfl) vt25 (fun W hW => (Z21.chg hW notNil).cell 3) ?_
    refine wH_take [11, 12, 13, 14] [14, 13, 12, 11, 10, 9, 8, 7, 6, 5, 4, 3, 2, 1, 0] [(18, .pointer (some ⟨b0, 0, none⟩)), (17, .pointer (some ⟨b0, 0, none⟩)), (16, .pointer (some ⟨b0, 0, none⟩)), (15, .int .i64 (((l0_3).length : Int)))] (by kernel_rfl) (qT (qT (qT qZ))) (by kernel_rfl) ?_
    refine wH_load1 (i := 15) (d := 19) (T := 2) (ad := ⟨b0, 0, none⟩) (v := .int .i64 (q0_0)) (by kernel_rfl) (qT (qT (qT qZ))) (by kernel_rfl) (by kernel_rfl) vt2 (fun W hW => (Z21.chg hW notNil).cell 0) ?_
    refine wH_done (by kernel_rfl) ?_
    refine eX_tail ?_
    refine wS_pure 2 [(21, .bool ((((l0_3).length : Int)) != q0_0)), (20, .bool ((((l0_3).length : Int)) != q0_0))] (by kernel_rfl) ?_
    refine wS_end (by rfl) ?_
    refine eX_then ?_
    refine cW_cond (t := (((l0_3).length : Int)) != q0_0) (by kernel_rfl) (fun hb27 => ?_) (fun hb27 => ?_)
    · have hm := condT hb27 hm
      refine cW_seq ?_
      refine cW_region ?_
      refine wS_pure 1 [(2, .bool (false))] (by kernel_rfl) ?_
      refine wS_end (by rfl) ?_
      refine eX_then ?_
      refine cW_ret ?_
      refine eX_then_ret ?_
      have hq : (some false : Option ((Bool))) = some _ := hm
      replace hq := someE hq
      subst hq
      refine eX_ret (vs := [.bool (false)]) [.tmp 2] (by rfl) ⟨by (show lkE _ _ _ = _); kernel_rfl, trivial⟩ ?_
      exact ⟨rfl, hB⟩
    · have hm := condF hb27 hm
      refine cW_skip ?_
      refine eX_then ?_
      refine cW_seq ?_
      refine cW_seq ?_
      refine cW_region ?_
      refine wS_pure 1 [(3, .int .i64 (0))] (by kernel_rfl) ?_
      refine wS_end (by rfl) ?_
      refine eX_then ?_
      obtain ⟨r68, hr69, hm⟩ := bindE hm
      have hm70 := hm
      refine cW_cut (fun a' w' => Sum.inl (()) = r68 ∧ Fr 60 [(0, .pointer (some ⟨b0, 0, none⟩))] a' ∧ SlR 1 encI w' fp0_1 A0_1 l0_1 ∧ SlR 1 encI w' fp0_2 A0_2 l0_2 ∧ Sl 1 encI w' fp0_3 A0_3 l0_3 ∧ Cl w' b0 27 [.int .i64 (q0_0), .slice A0_1 (l0_1).length cap0_1, .slice A0_2 (l0_2).length cap0_2, .slice A0_3 (l0_3).length cap0_3] ∧ Chg [] w0 w' ∧ w0.heap.size ≤ w'.heap.size) ?_ ?_
      · refine cW_block ?_
        refine cW_loop _ (fun (s71 : Int) a' w' => ∃ x62 : Int, x62 = s71 ∧ Fr 60 [(0, .pointer (some ⟨b0, 0, none⟩)), (3, .int .i64 (x62))] a' ∧ SlR 1 encI w' fp0_1 A0_1 l0_1 ∧ SlR 1 encI w' fp0_2 A0_2 l0_2 ∧ Sl 1 encI w' fp0_3 A0_3 l0_3 ∧ Cl w' b0 27 [.int .i64 (q0_0), .slice A0_1 (l0_1).length cap0_1, .slice A0_2 (l0_2).length cap0_2, .slice A0_3 (l0_3).length cap0_3] ∧ Chg [] w0 w' ∧ w0.heap.size ≤ w'.heap.size) hr69 (fun hst => ⟨0, rfl, Fr.of hst (by kernel_rfl), F0_1, F0_2, F0_3, F0, hB, hZ⟩) ?_
        rintro _ c72 a' w61 ⟨x62, rfl, hF63, F64, F65, F66, F67, hB, hZ⟩ hx73
        refine Fr.goOn hF63 (by kernel_rfl) ?_
        have hm := hx73
        unfold m_spec_l07Is_bimplWiring_s1 at hm
        refine cW_seq ?_
        refine cW_seq ?_
        refine cW_region ?_
        refine wS_pure 4 [(25, .pointer (some ⟨b0, 3, none⟩)), (24, .pointer (some ⟨b0, 0, none⟩)), (23, .pointer (some ⟨b0, 0, none⟩)), (22, .int .i64 (x62))] (by kernel_rfl) ?_
        refine wS_load1 (d := 26) (T := 25) (ad := ⟨b0, 3, none⟩) (v := .slice A0_3 (l0_3).length cap0_3) (by kernel_rfl) vt25 ((F67).cell 3) ?_
        refine wS_pure 2 [(28, .bool (decide (x62 < (((l0_3).length : Int))))), (27, .int .i64 (((l0_3).length : Int)))] (by kernel_rfl) ?_
        refine wS_end (by rfl) ?_
        refine eX_then ?_
        refine cW_cond (t := decide (x62 < (((l0_3).length : Int)))) (by kernel_rfl) (fun hb74 => ?_) (fun hb74 => ?_)
        · have hm := condT hb74 hm
          refine cW_skip ?_
          refine eX_then ?_
          refine cW_seq ?_
          refine cW_block ?_
          refine cW_seq ?_
          refine cW_region ?_
          refine wS_pure 3 [(33, .pointer (some ⟨b0, 3, none⟩)), (32, .pointer (some ⟨b0, 0, none⟩)), (31, .pointer (some ⟨b0, 0, none⟩))] (by kernel_rfl) ?_
          refine wS_load1 (d := 34) (T := 25) (ad := ⟨b0, 3, none⟩) (v := .slice A0_3 (l0_3).length cap0_3) (by kernel_rfl) vt25 ((F67).cell 3) ?_
          refine wS_pure 1 [(35, .int .i64 (x62))] (by kernel_rfl) ?_
          obtain ⟨x75, hx76, hm⟩ := bindE hm
          refine wS_idx (d := 36) (T := 25) (A := A0_3) (n := (l0_3).length) (cap := cap0_3) (kd := .i64) (m := x62) (by kernel_rfl) sl25 (F66.is hx76) ?_
          refine wS_load1 (d := 37) (T := 2) (ad := (elA A0_3 1 (x62) 0)) (v := .int .i64 (x75)) (by kernel_rfl) vt2 (Sl.cell F66 hx76 0 (by rfl)) ?_
          obtain ⟨y77, hy78, hm⟩ := bindE hm
          refine wS_calls (d := 38) (f := 87) (vs := [.int .i64 (x75), .int .i64 ((-1)), .int .i64 (1)]) (by kernel_rfl) ent87 (c_spec_l00In hy78) ?_
          rintro _ w79 ⟨rfl, hc80⟩
          replace F64 := F64.chg hc80 Dj.nil
          replace F65 := F65.chg hc80 Dj.nil
          replace F66 := F66.chg hc80 Dj.nil
          replace F67 := F67.chg hc80 notNil
          replace hB := hB.inS hc80 inNil
          replace hZ := Nat.le_trans hZ hc80.size
          refine ⟨.bool (y77), rfl, ?_⟩
          refine wS_pure 1 [(39, .bool (!y77))] (by kernel_rfl) ?_
          refine wS_end (by rfl) ?_
          refine eX_then ?_
          refine cW_cond (t := !y77) (by kernel_rfl) (fun hb81 => ?_) (fun hb81 => ?_)
          · have hm := condT hb81 hm
            refine cW_seq ?_
            refine cW_region ?_
            refine wS_pure 1 [(2, .bool (false))] (by kernel_rfl) ?_
            refine wS_end (by rfl) ?_
            refine eX_then ?_
            refine cW_ret ?_
            refine eX_block_ret ?_
            refine eX_then_ret ?_
            have hq : (some (Ctl.out (Sum.inr false)) : Option (Ctl (Int) (Sum (Unit) ((Bool))))) = some _ := hm
            replace hq := someE hq
            subst hq
            refine eX_outR hx73 (fun hr => ?_)
            subst hr
            refine eX_block_ret ?_
            refine eX_then_ret ?_
            refine eX_then_ret ?_
            have hq : (some false : Option ((Bool))) = some _ := hm70
            replace hq := someE hq
            subst hq
            refine eX_ret (vs := [.bool (false)]) [.tmp 2] (by rfl) ⟨by (show lkE _ _ _ = _); kernel_rfl, trivial⟩ ?_
            exact ⟨rfl, hB⟩
          · have hm := condF hb81 hm
            refine cW_skip ?_
            refine eX_block ?_
            refine eX_then ?_
            refine cW_region ?_
            refine wS_pure 3 [(3, .int .i64 (wr (x62 + 1))), (30, .int .i64 (wr (x62 + 1))), (29, .int .i64 (x62))] (by kernel_rfl) ?_
            refine wS_end (by rfl) ?_
            have hq : (some (Ctl.next (wr (x62 + 1))) : Option (Ctl (Int) (Sum (Unit) ((Bool))))) = some _ := hm
            replace hq := someE hq
            subst hq
            exact eX_next hx73 (fun hst => ⟨wr (x62 + 1), rfl, Fr.of hst (by kernel_rfl), F64, F65, F66, F67, hB, hZ⟩)
        · have hm := condF hb74 hm
          refine cW_exit ?_
          refine eX_then_exit ?_
          have hq : (some (Ctl.out (Sum.inl (()))) : Option (Ctl (Int) (Sum (Unit) ((Bool))))) = some _ := hm
          replace hq := someE hq
          subst hq
          refine eX_outX hx73 (fun hr82 => ?_)
          replace hr82 := hr82.symm
          subst hr82
          refine eX_block_hit ?_
          exact eX_J (fun hst => ⟨rfl, Fr.of hst (by kernel_rfl), F64, F65, F66, F67, hB, hZ⟩)
      · rintro a' w55 ⟨hJ, hF56, F57, F58, F59, F60, hB, hZ⟩
        subst hJ
        refine Fr.goX hF56 (by kernel_rfl) ?_
        refine eX_then ?_
        refine cW_seq ?_
        refine cW_drawnTail [] 18 (by kernel_rfl) (by kernel_rfl) (fun w98 hc99 => ?_)
        replace F57 := F57.chg hc99 Dj.nil
        replace F58 := F58.chg hc99 Dj.nil
        replace F59 := F59.chg hc99 Dj.nil
        replace F60 := F60.chg hc99 notNil
        replace hB := hB.inS hc99 inNil
        replace hZ := Nat.le_trans hZ hc99.size
        have hS := Chg.refl [] w98
        have Z100 := F57
        have Z101 := F58
        have Z102 := F59
        have Z103 := F60
        refine wH_take [0, 1, 2] [2, 1, 0] [(42, .pointer (some ⟨b0, 1, none⟩)), (41, .pointer (some ⟨b0, 0, none⟩)), (40, .pointer (some ⟨b0, 0, none⟩))] (by kernel_rfl) (qT (qT qZ)) (by kernel_rfl) ?_
        refine wH_load1 (i := 3) (d := 43) (T := 24) (ad := ⟨b0, 1, none⟩) (v := .slice A0_1 (l0_1).length cap0_1) (by kernel_rfl) (qT (qT qZ)) (by kernel_rfl) (by kernel_rfl) vt24 (fun W hW => (Z103.chg hW notNil).cell 1) ?_
        refine wH_take [4, 5, 6] [6, 5, 4, 3, 2, 1, 0] [(46, .pointer (some ⟨b0, 0, none⟩)), (45, .pointer (some ⟨b0, 0, none⟩)), (44, .pointer (some ⟨b0, 0, none⟩))] (by kernel_rfl) (qT (qT qZ)) (by kernel_rfl) ?_
        refine wH_load1 (i := 7) (d := 47) (T := 2) (ad := ⟨b0, 0, none⟩) (v := .int .i64 (q0_0)) (by kernel_rfl) (qT (qT qZ)) (by kernel_rfl) (by kernel_rfl) vt2 (fun W hW => (Z103.chg hW notNil).cell 0) ?_
        refine wH_all [8] (by rfl) (by kernel_rfl) (by simp) ⟨⟨by kernel_rfl, ?_⟩, trivial⟩
        obtain ⟨y104, hy105, hm⟩ := bindE hm
        refine wS_calls (d := 48) (f := 103) (vs := [.slice A0_1 (l0_1).length cap0_1, .int .i64 (q0_0), .int .i64 (2)]) (by kernel_rfl) ent103 (c_spec_l07Lists hy105 F57) ?_
        rintro _ w106 ⟨rfl, hc107⟩
        replace F57 := F57.chg hc107 Dj.nil
        replace F58 := F58.chg hc107 Dj.nil
        replace F59 := F59.chg hc107 Dj.nil
        replace F60 := F60.chg hc107 notNil
        replace hB := hB.inS hc107 inNil
        have hSz := hS
        replace hS := hS.inS hc107 inNil
        replace hZ := Nat.le_trans hZ hc107.size
        refine ⟨.bool (y104), rfl, ?_⟩
        refine wS_end (by kernel_rfl) ?_
        refine eX_KH hS ?_
        refine wH_take [9] [9, 8, 7, 6, 5, 4, 3, 2, 1, 0] [(49, .bool (y104))] (by kernel_rfl) (qT (qT qZ)) (by kernel_rfl) ?_
        refine wH_bool y104 (fun hb108 => ?_) (fun hb108 => ?_)
        · have hm := condT hb108 hm
          rewrite [hb108]
          refine wH_take [10, 11, 12] [12, 11, 10, 9, 8, 7, 6, 5, 4, 3, 2, 1, 0] [(52, .pointer (some ⟨b0, 2, none⟩)), (51, .pointer (some ⟨b0, 0, none⟩)), (50, .pointer (some ⟨b0, 0, none⟩))] (by kernel_rfl) (qT (qT qZ)) (by kernel_rfl) ?_
          refine wH_load1 (i := 13) (d := 53) (T := 24) (ad := ⟨b0, 2, none⟩) (v := .slice A0_2 (l0_2).length cap0_2) (by kernel_rfl) (qT (qT qZ)) (by kernel_rfl) (by kernel_rfl) vt24 (fun W hW => (Z103.chg hW notNil).cell 2) ?_
          refine wH_take [14, 15, 16] [16, 15, 14, 13, 12, 11, 10, 9, 8, 7, 6, 5, 4, 3, 2, 1, 0] [(56, .pointer (some ⟨b0, 0, none⟩)), (55, .pointer (some ⟨b0, 0, none⟩)), (54, .pointer (some ⟨b0, 0, none⟩))] (by kernel_rfl) (qT (qT qZ)) (by kernel_rfl) ?_
          refine wH_load1 (i := 17) (d := 57) (T := 2) (ad := ⟨b0, 0, none⟩) (v := .int .i64 (q0_0)) (by kernel_rfl) (qT (qT qZ)) (by kernel_rfl) (by kernel_rfl) vt2 (fun W hW => (Z103.chg hW notNil).cell 0) ?_
          refine wH_done (by kernel_rfl) ?_
          refine eX_tail ?_
          obtain ⟨y109, hy110, hm⟩ := bindE hm
          refine wS_calls (d := 58) (f := 103) (vs := [.slice A0_2 (l0_2).length cap0_2, .int .i64 (q0_0), .int .i64 (3)]) (by kernel_rfl) ent103 (c_spec_l07Lists hy110 F58) ?_
          rintro _ w111 ⟨rfl, hc112⟩
          replace F57 := F57.chg hc112 Dj.nil
          replace F58 := F58.chg hc112 Dj.nil
          replace F59 := F59.chg hc112 Dj.nil
          replace F60 := F60.chg hc112 notNil
          replace hB := hB.inS hc112 inNil
          replace hZ := Nat.le_trans hZ hc112.size
          refine ⟨.bool (y109), rfl, ?_⟩
          refine wS_pure 2 [(2, .bool (y109)), (59, .bool (y109))] (by kernel_rfl) ?_
          refine wS_end (by rfl) ?_
          refine eX_then ?_
          refine cW_ret ?_
          have hq : (some y109 : Option ((Bool))) = some _ := hm
          replace hq := someE hq
          subst hq
          refine eX_ret (vs := [.bool (y109)]) [.tmp 2] (by rfl) ⟨by (show lkE _ _ _ = _); kernel_rfl, trivial⟩ ?_
          exact ⟨rfl, hB⟩
        · have hm := condF hb108 hm
          rewrite [hb108]
          refine wH_take [10, 11, 12, 13, 14, 15, 16, 17] [17, 16, 15, 14, 13, 12, 11, 10, 9, 8, 7, 6, 5, 4, 3, 2, 1, 0] [(57, undef), (56, undef), (55, undef), (54, undef), (53, undef), (52, undef), (51, undef), (50, undef)] (by kernel_rfl) (qT (qT qZ)) (by kernel_rfl) ?_
          refine wH_done (by kernel_rfl) ?_
          refine eX_tail ?_
          refine wS_pure 3 [(2, .bool (false)), (59, .bool (false)), (58, undef)] (by kernel_rfl) ?_
          refine wS_end (by rfl) ?_
          refine eX_then ?_
          refine cW_ret ?_
          have hq : (some false : Option ((Bool))) = some _ := hm
          replace hq := someE hq
          subst hq
          refine eX_ret (vs := [.bool (false)]) [.tmp 2] (by rfl) ⟨by (show lkE _ _ _ = _); kernel_rfl, trivial⟩ ?_
          exact ⟨rfl, hB⟩

set_option maxRecDepth 100000 in
/-- laws.eqInt64S -/
theorem c_laws_eqInt64S {w0 : World} {l0 : List (Int)} {A0 : Option Addr} {cap0 : Nat} {fp0 : List Nat} {l1 : List (Int)} {A1 : Option Addr} {cap1 : Nat} {fp1 : List Nat} {r : (Bool)} (hm : m_laws_eqInt64S l0 l1 = some r) (F0 : Sl 1 encI w0 fp0 A0 l0) (F1 : Sl 1 encI w0 fp1 A1 l1) :
    Calls Try.prog 42 #[.slice A0 (l0).length cap0, .slice A1 (l1).length cap1] w0 fun e w' => e = .returned (.bool (r)) ∧ Chg [] w0 w' := by
  have L0 := F0.low
  have L1 := F1.low
  have hB : Chg [] w0 w0 := Chg.refl _ _
  have hZ := Nat.le_refl w0.heap.size
  unfold m_laws_eqInt64S at hm
  refine enterE (N := 26) Try.func42 (by rfl) Try.ntmps42 (by simp) [(0, .slice A0 (l0).length cap0), (1, .slice A1 (l1).length cap1)] (by rfl) (by kernel_rfl) (fun a => ?_)
  refine cW_seq ?_
  refine cW_region ?_
  refine wS_pure 1 [(4, .bool (false))] (by kernel_rfl) ?_
  refine wS_end (by rfl) ?_
  refine eX_then ?_
  refine cW_seq ?_
  refine cW_seq ?_
  refine cW_region ?_
  refine wS_pure 5 [(10, .bool ((((l0).length : Int)) != (((l1).length : Int)))), (9, .int .i64 (((l1).length : Int))), (8, .slice A1 (l1).length cap1), (7, .int .i64 (((l0).length : Int))), (6, .slice A0 (l0).length cap0)] (by kernel_rfl) ?_
  refine wS_end (by rfl) ?_
  refine eX_then ?_
  refine cW_cond (t := (((l0).length : Int)) != (((l1).length : Int))) (by kernel_rfl) (fun hb3 => ?_) (fun hb3 => ?_)
  · have hm := condT hb3 hm
    refine cW_seq ?_
    refine cW_region ?_
    refine wS_pure 1 [(4, .bool (false))] (by kernel_rfl) ?_
    refine wS_end (by rfl) ?_
    refine eX_then ?_
    refine cW_ret ?_
    refine eX_then_ret ?_
    have hq : (some false : Option ((Bool))) = some _ := hm
    replace hq := someE hq
    subst hq
    refine eX_ret (vs := [.bool (false)]) [.tmp 4] (by rfl) ⟨by (show lkE _ _ _ = _); kernel_rfl, trivial⟩ ?_
    exact ⟨rfl, hB⟩
  · have hm := condF hb3 hm
    refine cW_skip ?_
    refine eX_then ?_
    refine cW_seq ?_
    refine cW_seq ?_
    refine cW_region ?_
    refine wS_pure 1 [(5, .int .i64 (0))] (by kernel_rfl) ?_
    refine wS_end (by rfl) ?_
    refine eX_then ?_
    obtain ⟨r54, hr55, hm⟩ := bindE hm
    have hm56 := hm
    refine cW_cut (fun a' w' => Sum.inl (()) = r54 ∧ Fr 26 [] a' ∧ Chg [] w0 w' ∧ w0.heap.size ≤ w'.heap.size) ?_ ?_
    · refine cW_block ?_
      refine cW_loop _ (fun (s57 : Int) a' w' => ∃ x50 : Int, x50 = s57 ∧ Fr 26 [(0, .slice A0 (l0).length cap0), (1, .slice A1 (l1).length cap1), (5, .int .i64 (x50))] a' ∧ Sl 1 encI w' fp0 A0 l0 ∧ Sl 1 encI w' fp1 A1 l1 ∧ Chg [] w0 w' ∧ w0.heap.size ≤ w'.heap.size) hr55 (fun hst => ⟨0, rfl, Fr.of hst (by kernel_rfl), F0, F1, hB, hZ⟩) ?_
      rintro _ c58 a' w49 ⟨x50, rfl, hF51, F52, F53, hB, hZ⟩ hx59
      refine Fr.goOn hF51 (by kernel_rfl) ?_
      have hm := hx59
      unfold m_laws_eqInt64S_s1 at hm
      refine cW_seq ?_
      refine cW_seq ?_
      refine cW_region ?_
      refine wS_pure 4 [(14, .bool (decide (x50 < (((l0).length : Int))))), (13, .int .i64 (((l0).length : Int))), (12, .slice A0 (l0).length cap0), (11, .int .i64 (x50))] (by kernel_rfl) ?_
      refine wS_end (by rfl) ?_
      refine eX_then ?_
      refine cW_cond (t := decide (x50 < (((l0).length : Int)))) (by kernel_rfl) (fun hb60 => ?_) (fun hb60 => ?_)
      · have hm := condT hb60 hm
        refine cW_skip ?_
        refine eX_then ?_
        refine cW_seq ?_
        refine cW_block ?_
        refine cW_seq ?_
        refine cW_drawnTail [] 8 (by kernel_rfl) (by kernel_rfl) (fun w69 hc70 => ?_)
        replace F52 := F52.chg hc70 Dj.nil
        replace F53 := F53.chg hc70 Dj.nil
        replace hB := hB.inS hc70 inNil
        replace hZ := Nat.le_trans hZ hc70.size
        have hS := Chg.refl [] w69
        have Z71 := F52
        have Z72 := F53
        refine wH_take [0, 1] [1, 0] [(18, .int .i64 (x50)), (17, .slice A0 (l0).length cap0)] (by kernel_rfl) (qT (qT (qB (qT (qL (qB (qT (qT qZ)))))))) (by kernel_rfl) ?_
        obtain ⟨x73, hx74, hm⟩ := bindE hm
        refine wH_idx (i := 2) (d := 19) (T := 25) (A := A0) (n := (l0).length) (cap := cap0) (kd := .i64) (m := x50) (by kernel_rfl) (qT (qT (qB (qT (qL (qB (qT (qT qZ)))))))) (by kernel_rfl) (by kernel_rfl) sl25 (F52.is hx74) ?_
        refine wH_load1 (i := 3) (d := 20) (T := 2) (ad := (elA A0 1 (x50) 0)) (v := .int .i64 (x73)) (by kernel_rfl) (qT (qT (qB (qT (qL (qB (qT (qT qZ)))))))) (by kernel_rfl) (by kernel_rfl) vt2 (fun W hW => Sl.cell (Z71.chg hW Dj.nil) hx74 0 (by rfl)) ?_
        refine wH_take [4, 5] [5, 4, 3, 2, 1, 0] [(22, .int .i64 (x50)), (21, .slice A1 (l1).length cap1)] (by kernel_rfl) (qT (qT (qB (qT (qL (qB (qT (qT qZ)))))))) (by kernel_rfl) ?_
        obtain ⟨x75, hx76, hm⟩ := bindE hm
        refine wH_idx (i := 6) (d := 23) (T := 25) (A := A1) (n := (l1).length) (cap := cap1) (kd := .i64) (m := x50) (by kernel_rfl) (qT (qT (qB (qT (qL (qB (qT (qT qZ)))))))) (by kernel_rfl) (by kernel_rfl) sl25 (F53.is hx76) ?_
        refine wH_load1 (i := 7) (d := 24) (T := 2) (ad := (elA A1 1 (x50) 0)) (v := .int .i64 (x75)) (by kernel_rfl) (qT (qT (qB (qT (qL (qB (qT (qT qZ)))))))) (by kernel_rfl) (by kernel_rfl) vt2 (fun W hW => Sl.cell (Z72.chg hW Dj.nil) hx76 0 (by rfl)) ?_
        refine wH_done (by kernel_rfl) ?_
        refine eX_tail ?_
        refine wS_pure 1 [(25, .bool (x73 != x75))] (by kernel_rfl) ?_
        refine wS_end (by rfl) ?_
        refine eX_then ?_
        refine cW_cond (t := x73 != x75) (by kernel_rfl) (fun hb77 => ?_) (fun hb77 => ?_)
        · have hm := condT hb77 hm
          refine cW_seq ?_
          refine cW_region ?_
          refine wS_pure 1 [(4, .bool (false))] (by kernel_rfl) ?_
          refine wS_end (by rfl) ?_
          refine eX_then ?_
          refine cW_ret ?_
          refine eX_block_ret ?_
          refine eX_then_ret ?_
          have hq : (some (Ctl.out (Sum.inr false)) : Option (Ctl (Int) (Sum (Unit) ((Bool))))) = some _ := hm
          replace hq := someE hq
          subst hq
          refine eX_outR hx59 (fun hr => ?_)
          subst hr
          refine eX_block_ret ?_
          refine eX_then_ret ?_
          refine eX_then_ret ?_
          have hq : (some false : Option ((Bool))) = some _ := hm56
          replace hq := someE hq
          subst hq
          refine eX_ret (vs := [.bool (false)]) [.tmp 4] (by rfl) ⟨by (show lkE _ _ _ = _); kernel_rfl, trivial⟩ ?_
          exact ⟨rfl, hB⟩
        · have hm := condF hb77 hm
          refine cW_skip ?_
          refine eX_block ?_
          refine eX_then ?_
          refine cW_region ?_
          refine wS_pure 3 [(5, .int .i64 (wr (x50 + 1))), (16, .int .i64 (wr (x50 + 1))), (15, .int .i64 (x50))] (by kernel_rfl) ?_
          refine wS_end (by rfl) ?_
          have hq : (some (Ctl.next (wr (x50 + 1))) : Option (Ctl (Int) (Sum (Unit) ((Bool))))) = some _ := hm
          replace hq := someE hq
          subst hq
          exact eX_next hx59 (fun hst => ⟨wr (x50 + 1), rfl, Fr.of hst (by kernel_rfl), F52, F53, hB, hZ⟩)
      · have hm := condF hb60 hm
        refine cW_exit ?_
        refine eX_then_exit ?_
        have hq : (some (Ctl.out (Sum.inl (()))) : Option (Ctl (Int) (Sum (Unit) ((Bool))))) = some _ := hm
        replace hq := someE hq
        subst hq
        refine eX_outX hx59 (fun hr78 => ?_)
        replace hr78 := hr78.symm
        subst hr78
        refine eX_block_hit ?_
        exact eX_J (fun hst => ⟨rfl, Fr.of hst (by kernel_rfl), hB, hZ⟩)
    · rintro a' w47 ⟨hJ, hF48, hB, hZ⟩
      subst hJ
      refine Fr.goX hF48 (by kernel_rfl) ?_
      refine eX_then ?_
      refine cW_seq ?_
      refine cW_region ?_
      refine wS_pure 1 [(4, .bool (true))] (by kernel_rfl) ?_
      refine wS_end (by rfl) ?_
      refine eX_then ?_
      refine cW_ret ?_
      have hq : (some true : Option ((Bool))) = some _ := hm
      replace hq := someE hq
      subst hq
      refine eX_ret (vs := [.bool (true)]) [.tmp 4] (by rfl) ⟨by (show lkE _ _ _ = _); kernel_rfl, trivial⟩ ?_
      exact ⟨rfl, hB⟩

set_option maxRecDepth 100000 in
/-- laws.eqInt64SS -/
theorem c_laws_eqInt64SS {w0 : World} {l0 : List (List (Int))} {A0 : Option Addr} {cap0 : Nat} {fp0 : List Nat} {l1 : List (List (Int))} {A1 : Option Addr} {cap1 : Nat} {fp1 : List Nat} {r : (Bool)} (hm : m_laws_eqInt64SS l0 l1 = some r) (F0 : SlR 1 encI w0 fp0 A0 l0) (F1 : SlR 1 encI w0 fp1 A1 l1) :
    Calls Try.prog 32 #[.slice A0 (l0).length cap0, .slice A1 (l1).length cap1] w0 fun e w' => e = .returned (.bool (r)) ∧ Chg [] w0 w' := by
  have L0 := F0.low
  have L1 := F1.low
  have hB : Chg [] w0 w0 := Chg.refl _ _
  have hZ := Nat.le_refl w0.heap.size
  unfold m_laws_eqInt64SS at hm
  refine enterE (N := 27) Try.func32 (by rfl) Try.ntmps32 (by simp) [(0, .slice A0 (l0).length cap0), (1, .slice A1 (l1).length cap1)] (by rfl) (by kernel_rfl) (fun a => ?_)
  refine cW_seq ?_
  refine cW_region ?_
  refine wS_pure 1 [(4, .bool (false))] (by kernel_rfl) ?_
  refine wS_end (by rfl) ?_
  refine eX_then ?_
  refine cW_seq ?_
  refine cW_seq ?_
  refine cW_region ?_
  refine wS_pure 5 [(10, .bool ((((l0).length : Int)) != (((l1).length : Int)))), (9, .int .i64 (((l1).length : Int))), (8, .slice A1 (l1).length cap1), (7, .int .i64 (((l0).length : Int))), (6, .slice A0 (l0).length cap0)] (by kernel_rfl) ?_
  refine wS_end (by rfl) ?_
  refine eX_then ?_
  refine cW_cond (t := (((l0).length : Int)) != (((l1).length : Int))) (by kernel_rfl) (fun hb3 => ?_) (fun hb3 => ?_)
  · have hm := condT hb3 hm
    refine cW_seq ?_
    refine cW_region ?_
    refine wS_pure 1 [(4, .bool (false))] (by kernel_rfl) ?_
    refine wS_end (by rfl) ?_
    refine eX_then ?_
    refine cW_ret ?_
    refine eX_then_ret ?_
    have hq : (some false : Option ((Bool))) = some _ := hm
    replace hq := someE hq
    subst hq
    refine eX_ret (vs := [.bool (false)]) [.tmp 4] (by rfl) ⟨by (show lkE _ _ _ = _); kernel_rfl, trivial⟩ ?_
    exact ⟨rfl, hB⟩
  · have hm := condF hb3 hm
    refine cW_skip ?_
    refine eX_then ?_
    refine cW_seq ?_
    refine cW_seq ?_
    refine cW_region ?_
    refine wS_pure 1 [(5, .int .i64 (0))] (by kernel_rfl) ?_
    refine wS_end (by rfl) ?_
    refine eX_then ?_
    obtain ⟨r118, hr119, hm⟩ := bindE hm
    have hm120 := hm
    refine cW_cut (fun a' w' => Sum.inl (()) = r118 ∧ Fr 27 [] a' ∧ Chg [] w0 w' ∧ w0.heap.size ≤ w'.heap.size) ?_ ?_
    · refine cW_block ?_
      refine cW_loop _ (fun (s121 : Int) a' w' => ∃ x114 : Int, x114 = s121 ∧ Fr 27 [(0, .slice A0 (l0).length cap0), (1, .slice A1 (l1).length cap1), (5, .int .i64 (x114))] a' ∧ SlR 1 encI w' fp0 A0 l0 ∧ SlR 1 encI w' fp1 A1 l1 ∧ Chg [] w0 w' ∧ w0.heap.size ≤ w'.heap.size) hr119 (fun hst => ⟨0, rfl, Fr.of hst (by kernel_rfl), F0, F1, hB, hZ⟩) ?_
      rintro _ c122 a' w113 ⟨x114, rfl, hF115, F116, F117, hB, hZ⟩ hx123
      refine Fr.goOn hF115 (by kernel_rfl) ?_
      have hm := hx123
      unfold m_laws_eqInt64SS_s1 at hm
      refine cW_seq ?_
      refine cW_seq ?_
      refine cW_region ?_
      refine wS_pure 4 [(14, .bool (decide (x114 < (((l0).length : Int))))), (13, .int .i64 (((l0).length : Int))), (12, .slice A0 (l0).length cap0), (11, .int .i64 (x114))] (by kernel_rfl) ?_
      refine wS_end (by rfl) ?_
      refine eX_then ?_
      refine cW_cond (t := decide (x114 < (((l0).length : Int)))) (by kernel_rfl) (fun hb124 => ?_) (fun hb124 => ?_)
      · have hm := condT hb124 hm
        refine cW_skip ?_
        refine eX_then ?_
        refine cW_seq ?_
        refine cW_block ?_
        refine cW_seq ?_
        refine cW_drawnTail [] 8 (by kernel_rfl) (by kernel_rfl) (fun w149 hc150 => ?_)
        replace F116 := F116.chg hc150 Dj.nil
        replace F117 := F117.chg hc150 Dj.nil
        replace hB := hB.inS hc150 inNil
        replace hZ := Nat.le_trans hZ hc150.size
        have hS := Chg.refl [] w149
        have Z151 := F116
        have Z152 := F117
        refine wH_take [0, 1] [1, 0] [(18, .int .i64 (x114)), (17, .slice A0 (l0).length cap0)] (by kernel_rfl) (qT (qT (qB (qT (qL (qB (qT (qT qZ)))))))) (by kernel_rfl) ?_
        obtain ⟨x153, hx154, hm⟩ := bindE hm
        refine wH_idx (i := 2) (d := 19) (T := 24) (A := A0) (n := (l0).length) (cap := cap0) (kd := .i64) (m := x114) (by kernel_rfl) (qT (qT (qB (qT (qL (qB (qT (qT qZ)))))))) (by kernel_rfl) (by kernel_rfl) sl24 (F116.is hx154) ?_
        obtain ⟨A155, cap156, hc158, F157, K159⟩ := SlR.row Z151 hx154
        refine wH_load1 (i := 3) (d := 20) (T := 25) (ad := (elA A0 1 (x114) 0)) (v := .slice A155 (x153).length cap156) (by kernel_rfl) (qT (qT (qB (qT (qL (qB (qT (qT qZ)))))))) (by kernel_rfl) (by kernel_rfl) vt25 (fun W hW => hW.keep hc158) ?_
        refine wH_take [4, 5] [5, 4, 3, 2, 1, 0] [(22, .int .i64 (x114)), (21, .slice A1 (l1).length cap1)] (by kernel_rfl) (qT (qT (qB (qT (qL (qB (qT (qT qZ)))))))) (by kernel_rfl) ?_
        obtain ⟨x161, hx162, hm⟩ := bindE hm
        refine wH_idx (i := 6) (d := 23) (T := 24) (A := A1) (n := (l1).length) (cap := cap1) (kd := .i64) (m := x114) (by kernel_rfl) (qT (qT (qB (qT (qL (qB (qT (qT qZ)))))))) (by kernel_rfl) (by kernel_rfl) sl24 (F117.is hx162) ?_
        obtain ⟨A163, cap164, hc166, F165, K167⟩ := SlR.row Z152 hx162
        refine wH_load1 (i := 7) (d := 24) (T := 25) (ad := (elA A1 1 (x114) 0)) (v := .slice A163 (x161).length cap164) (by kernel_rfl) (qT (qT (qB (qT (qL (qB (qT (qT qZ)))))))) (by kernel_rfl) (by kernel_rfl) vt25 (fun W hW => hW.keep hc166) ?_
        refine wH_done (by kernel_rfl) ?_
        refine eX_tail ?_
        obtain ⟨y169, hy170, hm⟩ := bindE hm
        refine wS_calls (d := 25) (f := 42) (vs := [.slice A155 (x153).length cap156, .slice A163 (x161).length cap164]) (by kernel_rfl) ent42 (c_laws_eqInt64S hy170 F157 F165) ?_
        rintro _ w171 ⟨rfl, hc172⟩
        replace F116 := F116.chg hc172 Dj.nil
        replace F117 := F117.chg hc172 Dj.nil
        replace F157 := F157.chg hc172 Dj.nil
        replace F165 := F165.chg hc172 Dj.nil
        replace hB := hB.inS hc172 inNil
        replace hZ := Nat.le_trans hZ hc172.size
        refine ⟨.bool (y169), rfl, ?_⟩
        refine wS_pure 1 [(26, .bool (!y169))] (by kernel_rfl) ?_
        refine wS_end (by rfl) ?_
        refine eX_then ?_
        refine cW_cond (t := !y169) (by kernel_rfl) (fun hb173 => ?_) (fun hb173 => ?_)
        · have hm := condT hb173 hm
          refine cW_seq ?_
          refine cW_region ?_
          refine wS_pure 1 [(4, .bool (false))] (by kernel_rfl) ?_
          refine wS_end (by rfl) ?_
          refine eX_then ?_
          refine cW_ret ?_
          refine eX_block_ret ?_
          refine eX_then_ret ?_
          have hq : (some (Ctl.out (Sum.inr false)) : Option (Ctl (Int) (Sum (Unit) ((Bool))))) = some _ := hm
          replace hq := someE hq
          subst hq
          refine eX_outR hx123 (fun hr => ?_)
          subst hr
          refine eX_block_ret ?_
          refine eX_then_ret ?_
          refine eX_then_ret ?_
          have hq : (some false : Option ((Bool))) = some _ := hm120
          replace hq := someE hq
          subst hq
          refine eX_ret (vs := [.bool (false)]) [.tmp 4] (by rfl) ⟨by (show lkE _ _ _ = _); kernel_rfl, trivial⟩ ?_
          exact ⟨rfl, hB⟩
        · have hm := condF hb173 hm
          refine cW_skip ?_
          refine eX_block ?_
          refine eX_then ?_
          refine cW_region ?_
          refine wS_pure 3 [(5, .int .i64 (wr (x114 + 1))), (16, .int .i64 (wr (x114 + 1))), (15, .int .i64 (x114))] (by kernel_rfl) ?_
          refine wS_end (by rfl) ?_
          have hq : (some (Ctl.next (wr (x114 + 1))) : Option (Ctl (Int) (Sum (Unit) ((Bool))))) = some _ := hm
          replace hq := someE hq
          subst hq
          exact eX_next hx123 (fun hst => ⟨wr (x114 + 1), rfl, Fr.of hst (by kernel_rfl), F116, F117, hB, hZ⟩)
      · have hm := condF hb124 hm
        refine cW_exit ?_
        refine eX_then_exit ?_
        have hq : (some (Ctl.out (Sum.inl (()))) : Option (Ctl (Int) (Sum (Unit) ((Bool))))) = some _ := hm
        replace hq := someE hq
        subst hq
        refine eX_outX hx123 (fun hr174 => ?_)
        replace hr174 := hr174.symm
        subst hr174
        refine eX_block_hit ?_
        exact eX_J (fun hst => ⟨rfl, Fr.of hst (by kernel_rfl), hB, hZ⟩)
    · rintro a' w111 ⟨hJ, hF112, hB, hZ⟩
      subst hJ
      refine Fr.goX hF112 (by kernel_rfl) ?_
      refine eX_then ?_
      refine cW_seq ?_
      refine cW_region ?_
      refine wS_pure 1 [(4, .bool (true))] (by kernel_rfl) ?_
      refine wS_end (by rfl) ?_
      refine eX_then ?_
      refine cW_ret ?_
      have hq : (some true : Option ((Bool))) = some _ := hm
      replace hq := someE hq
      subst hq
      refine eX_ret (vs := [.bool (true)]) [.tmp 4] (by rfl) ⟨by (show lkE _ _ _ = _); kernel_rfl, trivial⟩ ?_
      exact ⟨rfl, hB⟩

set_option maxRecDepth 100000 in
/-- laws.markInt64S -/
theorem c_laws_markInt64S {w0 : World} {l0 : List (Int)} {A0 : Option Addr} {cap0 : Nat} {fp0 : List Nat} {p1 : Int} {r : (Int) × (List (Int))} (hm : m_laws_markInt64S l0 p1 = some r) (F0 : Ow 1 encI 2 w0 fp0 A0 cap0 l0) :
    Calls Try.prog 44 #[.slice A0 (l0).length cap0, .int .i64 (p1)] w0 fun e w' => e = .returned (.int .i64 (r.1)) ∧ Ow 1 encI 2 w' fp0 A0 cap0 r.2 ∧ (r.2).length = (l0).length ∧ Chg (fp0 ++ []) w0 w' := by
  have L0 := F0.low
  have hB : Chg (fp0 ++ []) w0 w0 := Chg.refl _ _
  have hZ := Nat.le_refl w0.heap.size
  unfold m_laws_markInt64S at hm
  refine enterE (N := 19) Try.func44 (by rfl) Try.ntmps44 (by simp) [(0, .slice A0 (l0).length cap0), (1, .int .i64 (p1))] (by rfl) (by kernel_rfl) (fun a => ?_)
  refine cW_seq ?_
  refine cW_region ?_
  refine wS_pure 1 [(4, .int .i64 (0))] (by kernel_rfl) ?_
  refine wS_end (by rfl) ?_
  refine eX_then ?_
  refine cW_seq ?_
  refine cW_seq ?_
  refine cW_region ?_
  refine wS_pure 1 [(5, .int .i64 (0))] (by kernel_rfl) ?_
  refine wS_end (by rfl) ?_
  refine eX_then ?_
  obtain ⟨r37, hr38, hm⟩ := bindE hm
  have hm39 := hm
  refine cW_cut (fun a' w' => ∃ x25 : Int, ∃ l26 : List (Int), (x25, l26) = r37 ∧ Fr 19 [(1, .int .i64 (x25))] a' ∧ Ow 1 encI 2 w' fp0 A0 cap0 l26 ∧ (l26).length = (l0).length ∧ Chg (fp0 ++ []) w0 w' ∧ w0.heap.size ≤ w'.heap.size) ?_ ?_
  · refine cW_block ?_
    refine cW_loop _ (fun (s40 : Int × Int × (List (Int))) a' w' => ∃ x31 : Int, ∃ x32 : Int, ∃ l33 : List (Int), (x31, x32, l33) = s40 ∧ Fr 19 [(0, .slice A0 (l33).length cap0), (1, .int .i64 (x31)), (5, .int .i64 (x32))] a' ∧ Ow 1 encI 2 w' fp0 A0 cap0 l33 ∧ (l33).length = (l0).length ∧ Chg (fp0 ++ []) w0 w' ∧ w0.heap.size ≤ w'.heap.size) hr38 (fun hst => ⟨p1, 0, l0, rfl, Fr.of hst (by kernel_rfl), F0, (Eq.refl (l0).length), hB, hZ⟩) ?_
    rintro _ c41 a' w30 ⟨x31, x32, l33, rfl, hF34, F35, hl36, hB, hZ⟩ hx42
    refine Fr.goOn hF34 (by kernel_rfl) ?_
    have hm := hx42
    unfold m_laws_markInt64S_s1 at hm
    refine cW_seq ?_
    refine cW_seq ?_
    refine cW_region ?_
    refine wS_pure 4 [(9, .bool (decide (x32 < (((l33).length : Int))))), (8, .int .i64 (((l33).length : Int))), (7, .slice A0 (l33).length cap0), (6, .int .i64 (x32))] (by kernel_rfl) ?_
    refine wS_end (by rfl) ?_
    refine eX_then ?_
    refine cW_cond (t := decide (x32 < (((l33).length : Int)))) (by kernel_rfl) (fun hb43 => ?_) (fun hb43 => ?_)
    · have hm := condT hb43 hm
      refine cW_skip ?_
      refine eX_then ?_
      refine cW_seq ?_
      refine cW_block ?_
      refine cW_seq ?_
      refine cW_region ?_
      refine wS_pure 3 [(14, .int .i64 (x31)), (13, .int .i64 (x32)), (12, .slice A0 (l33).length cap0)] (by kernel_rfl) ?_
      obtain ⟨x44, hx45, hm⟩ := bindE hm
      refine wS_idx (d := 15) (T := 25) (A := A0) (n := (l33).length) (cap := cap0) (kd := .i64) (m := x32) (by kernel_rfl) sl25 ((F35.sl encI_ok).is hx45) ?_
      refine wS_storeEl (x := x44) x31 (T := 2) (U := 2) (cap := cap0) (j := 0) (A := A0) (v := .int .i64 (x31)) (vs := [.int .i64 (x31)]) (m := x32) (by kernel_rfl) (by rfl) sz2 (by rfl) encI_ok F35 hx45 (by simp only [List.length_cons, List.length_nil]; omega) (by rfl) ?_
      intro w46 F47 hc48
      replace hB := hB.inS hc48 (inMem (fun x hx => (List.mem_append_left _ hx)))
      replace hZ := Nat.le_trans hZ hc48.size
      clear F35
      have hl49 := (show (l33.set (Int.toNat x32) x31).length = (l33).length from List.length_set ..).trans hl36
      rewrite [show (l33).length = (l33.set (Int.toNat x32) x31).length from (List.length_set ..).symm]
      refine wS_end (by rfl) ?_
      refine eX_then ?_
      refine cW_region ?_
      refine wS_pure 3 [(1, .int .i64 (wr (x31 + 1))), (17, .int .i64 (wr (x31 + 1))), (16, .int .i64 (x31))] (by kernel_rfl) ?_
      refine wS_end (by rfl) ?_
      refine eX_block ?_
      refine eX_then ?_
      refine cW_region ?_
      refine wS_pure 3 [(5, .int .i64 (wr (x32 + 1))), (11, .int .i64 (wr (x32 + 1))), (10, .int .i64 (x32))] (by kernel_rfl) ?_
      refine wS_end (by rfl) ?_
      have hq : (some (Ctl.next ((wr (x31 + 1), wr (x32 + 1), l33.set (Int.toNat x32) x31))) : Option (Ctl (Int × Int × (List (Int))) (Int × (List (Int))))) = some _ := hm
      replace hq := someE hq
      subst hq
      exact eX_next hx42 (fun hst => ⟨wr (x31 + 1), wr (x32 + 1), l33.set (Int.toNat x32) x31, rfl, Fr.of hst (by kernel_rfl), F47, hl49, hB, hZ⟩)
    · have hm := condF hb43 hm
      refine cW_exit ?_
      refine eX_then_exit ?_
      have hq : (some (Ctl.out ((x31, l33))) : Option (Ctl (Int × Int × (List (Int))) (Int × (List (Int))))) = some _ := hm
      replace hq := someE hq
      subst hq
      refine eX_outX hx42 (fun hr50 => ?_)
      replace hr50 := hr50.symm
      subst hr50
      refine eX_block_hit ?_
      exact eX_J (fun hst => ⟨x31, l33, rfl, Fr.of hst (by kernel_rfl), F35, hl36, hB, hZ⟩)
  · rintro a' w24 ⟨x25, l26, hJ, hF27, F28, hl29, hB, hZ⟩
    subst hJ
    refine Fr.goX hF27 (by kernel_rfl) ?_
    refine eX_then ?_
    refine cW_seq ?_
    refine cW_region ?_
    refine wS_pure 2 [(4, .int .i64 (x25)), (18, .int .i64 (x25))] (by kernel_rfl) ?_
    refine wS_end (by rfl) ?_
    refine eX_then ?_
    refine cW_ret ?_
    have hq : (some ((x25, l26)) : Option ((Int) × (List (Int)))) = some _ := hm
    replace hq := someE hq
    subst hq
    refine eX_ret (vs := [.int .i64 (x25)]) [.tmp 4] (by rfl) ⟨by (show lkE _ _ _ = _); kernel_rfl, trivial⟩ ?_
    exact ⟨rfl, F28, (by first | exact hl29 | rfl), hB⟩

set_option maxRecDepth 100000 in
/-- laws.markInt64SS -/
theorem c_laws_markInt64SS {w0 : World} {l0 : List (List (Int))} {A0 : Option Addr} {cap0 : Nat} {fp0 fr0 : List Nat} {p1 : Int} {r : (Int) × (List (List (Int)))} (hm : m_laws_markInt64SS l0 p1 = some r) (F0 : OwR 1 encI 25 2 w0 fp0 fr0 A0 cap0 l0) :
    Calls Try.prog 35 #[.slice A0 (l0).length cap0, .int .i64 (p1)] w0 fun e w' => e = .returned (.int .i64 (r.1)) ∧ OwR 1 encI 25 2 w' fp0 fr0 A0 cap0 r.2 ∧ (r.2).length = (l0).length ∧ Chg ((fp0 ++ fr0) ++ []) w0 w' := by
  have L0 := F0.low
  have hB : Chg ((fp0 ++ fr0) ++ []) w0 w0 := Chg.refl _ _
  have hZ := Nat.le_refl w0.heap.size
  unfold m_laws_markInt64SS at hm
  refine enterE (N := 19) Try.func35 (by rfl) Try.ntmps35 (by simp) [(0, .slice A0 (l0).length cap0), (1, .int .i64 (p1))] (by rfl) (by kernel_rfl) (fun a => ?_)
  refine cW_seq ?_
  refine cW_region ?_
  refine wS_pure 1 [(4, .int .i64 (0))] (by kernel_rfl) ?_
  refine wS_end (by rfl) ?_
  refine eX_then ?_
  refine cW_seq ?_
  refine cW_seq ?_
  refine cW_region ?_
  refine wS_pure 1 [(5, .int .i64 (0))] (by kernel_rfl) ?_
  refine wS_end (by rfl) ?_
  refine eX_then ?_
  obtain ⟨r67, hr68, hm⟩ := bindE hm
  have hm69 := hm
  refine cW_cut (fun a' w' => ∃ x55 : Int, ∃ l56 : List (List (Int)), (x55, l56) = r67 ∧ Fr 19 [(1, .int .i64 (x55))] a' ∧ OwR 1 encI 25 2 w' fp0 fr0 A0 cap0 l56 ∧ (l56).length = (l0).length ∧ Chg ((fp0 ++ fr0) ++ []) w0 w' ∧ w0.heap.size ≤ w'.heap.size) ?_ ?_
  · refine cW_block ?_
    refine cW_loop _ (fun (s70 : Int × Int × (List (List (Int)))) a' w' => ∃ x61 : Int, ∃ x62 : Int, ∃ l63 : List (List (Int)), (x61, x62, l63) = s70 ∧ Fr 19 [(0, .slice A0 (l63).length cap0), (1, .int .i64 (x61)), (5, .int .i64 (x62))] a' ∧ OwR 1 encI 25 2 w' fp0 fr0 A0 cap0 l63 ∧ (l63).length = (l0).length ∧ Chg ((fp0 ++ fr0) ++ []) w0 w' ∧ w0.heap.size ≤ w'.heap.size) hr68 (fun hst => ⟨p1, 0, l0, rfl, Fr.of hst (by kernel_rfl), F0, (Eq.refl (l0).length), hB, hZ⟩) ?_
    rintro _ c71 a' w60 ⟨x61, x62, l63, rfl, hF64, F65, hl66, hB, hZ⟩ hx72
    refine Fr.goOn hF64 (by kernel_rfl) ?_
    have hm := hx72
    unfold m_laws_markInt64SS_s1 at hm
    refine cW_seq ?_
    refine cW_seq ?_
    refine cW_region ?_
    refine wS_pure 4 [(9, .bool (decide (x62 < (((l63).length : Int))))), (8, .int .i64 (((l63).length : Int))), (7, .slice A0 (l63).length cap0), (6, .int .i64 (x62))] (by kernel_rfl) ?_
    refine wS_end (by rfl) ?_
    refine eX_then ?_
    refine cW_cond (t := decide (x62 < (((l63).length : Int)))) (by kernel_rfl) (fun hb73 => ?_) (fun hb73 => ?_)
    · have hm := condT hb73 hm
      refine cW_skip ?_
      refine eX_then ?_
      refine cW_seq ?_
      refine cW_block ?_
      refine cW_region ?_
      refine wS_pure 2 [(13, .int .i64 (x62)), (12, .slice A0 (l63).length cap0)] (by kernel_rfl) ?_
      obtain ⟨x74, hx75, hm⟩ := bindE hm
      refine wS_idx (d := 14) (T := 24) (A := A0) (n := (l63).length) (cap := cap0) (kd := .i64) (m := x62) (by kernel_rfl) sl24 ((F65.slr encI_ok).is hx75) ?_
      obtain ⟨A76, cap77, fp81, hc79, hsub82, F78, hcl83⟩ := OwR.lend F65 hx75
      have Dm85 := (F65.dj).symm
      refine wS_load1 (d := 15) (T := 25) (ad := (elA A0 1 (x62) 0)) (v := .slice A76 (x74).length cap77) (by kernel_rfl) vt25 hc79 ?_
      refine wS_pure 1 [(16, .int .i64 (x61))] (by kernel_rfl) ?_
      obtain ⟨y86, hy87, hm⟩ := bindE hm
      refine wS_calls (d := 17) (f := 44) (vs := [.slice A76 (x74).length cap77, .int .i64 (x61)]) (by kernel_rfl) ent44 (c_laws_markInt64S hy87 F78) ?_
      rintro _ w88 ⟨rfl, F90, hl91, hc89⟩
      have F92 := hcl83 _ _ (hc89.more (fun x hx => by simpa using hx)) F90 hl91
      have hc93 := hc89.more (S' := (fp0 ++ fr0) ++ []) (fun x hx => List.mem_append_left _ (hsub82 x (by simpa using hx)))
      have hl94 := (show (l63.set (Int.toNat x62) y86.2).length = (l63).length from List.length_set ..).trans hl66
      clear F65
      replace hB := hB.inS hc93 (inApp (inMem (fun x hx => (List.mem_append_left _ hx))) inNil)
      replace hZ := Nat.le_trans hZ hc93.size
      refine ⟨.int .i64 (y86.1), rfl, ?_⟩
      rewrite [(show (l63).length = (l63.set (Int.toNat x62) y86.2).length from (List.length_set ..).symm)]
      refine wS_pure 1 [(1, .int .i64 (y86.1))] (by kernel_rfl) ?_
      refine wS_end (by rfl) ?_
      refine eX_block ?_
      refine eX_then ?_
      refine cW_region ?_
      refine wS_pure 3 [(5, .int .i64 (wr (x62 + 1))), (11, .int .i64 (wr (x62 + 1))), (10, .int .i64 (x62))] (by kernel_rfl) ?_
      refine wS_end (by rfl) ?_
      have hq : (some (Ctl.next ((y86.1, wr (x62 + 1), l63.set (Int.toNat x62) y86.2))) : Option (Ctl (Int × Int × (List (List (Int)))) (Int × (List (List (Int)))))) = some _ := hm
      replace hq := someE hq
      subst hq
      exact eX_next hx72 (fun hst => ⟨y86.1, wr (x62 + 1), l63.set (Int.toNat x62) y86.2, rfl, Fr.of hst (by kernel_rfl), F92, hl94, hB, hZ⟩)
    · have hm := condF hb73 hm
      refine cW_exit ?_
      refine eX_then_exit ?_
      have hq : (some (Ctl.out ((x61, l63))) : Option (Ctl (Int × Int × (List (List (Int)))) (Int × (List (List (Int)))))) = some _ := hm
      replace hq := someE hq
      subst hq
      refine eX_outX hx72 (fun hr95 => ?_)
      replace hr95 := hr95.symm
      subst hr95
      refine eX_block_hit ?_
      exact eX_J (fun hst => ⟨x61, l63, rfl, Fr.of hst (by kernel_rfl), F65, hl66, hB, hZ⟩)
  · rintro a' w54 ⟨x55, l56, hJ, hF57, F58, hl59, hB, hZ⟩
    subst hJ
    refine Fr.goX hF57 (by kernel_rfl) ?_
    refine eX_then ?_
    refine cW_seq ?_
    refine cW_region ?_
    refine wS_pure 2 [(4, .int .i64 (x55)), (18, .int .i64 (x55))] (by kernel_rfl) ?_
    refine wS_end (by rfl) ?_
    refine eX_then ?_
    refine cW_ret ?_
    have hq : (some ((x55, l56)) : Option ((Int) × (List (List (Int))))) = some _ := hm
    replace hq := someE hq
    subst hq
    refine eX_ret (vs := [.int .i64 (x55)]) [.tmp 4] (by rfl) ⟨by (show lkE _ _ _ = _); kernel_rfl, trivial⟩ ?_
    exact ⟨rfl, F58, (by first | exact hl59 | rfl), hB⟩

set_option maxRecDepth 100000 in
/-- laws.heldInt64S -/
theorem c_laws_heldInt64S {w0 : World} {l0 : List (Int)} {A0 : Option Addr} {cap0 : Nat} {fp0 : List Nat} {p1 : Int} {r : (Int)} (hm : m_laws_heldInt64S l0 p1 = some r) (F0 : Sl 1 encI w0 fp0 A0 l0) :
    Calls Try.prog 45 #[.slice A0 (l0).length cap0, .int .i64 (p1)] w0 fun e w' => e = .returned (.int .i64 (r)) ∧ Chg [] w0 w' := by
  have L0 := F0.low
  have hB : Chg [] w0 w0 := Chg.refl _ _
  have hZ := Nat.le_refl w0.heap.size
  unfold m_laws_heldInt64S at hm
  refine enterE (N := 21) Try.func45 (by rfl) Try.ntmps45 (by simp) [(0, .slice A0 (l0).length cap0), (1, .int .i64 (p1))] (by rfl) (by kernel_rfl) (fun a => ?_)
  refine cW_seq ?_
  refine cW_region ?_
  refine wS_pure 1 [(4, .int .i64 (0))] (by kernel_rfl) ?_
  refine wS_end (by rfl) ?_
  refine eX_then ?_
  refine cW_seq ?_
  refine cW_seq ?_
  refine cW_region ?_
  refine wS_pure 1 [(5, .int .i64 (0))] (by kernel_rfl) ?_
  refine wS_end (by rfl) ?_
  refine eX_then ?_
  obtain ⟨r24, hr25, hm⟩ := bindE hm
  have hm26 := hm
  refine cW_cut (fun a' w' => ∃ x17 : Int, Sum.inl x17 = r24 ∧ Fr 21 [(1, .int .i64 (x17))] a' ∧ Chg [] w0 w' ∧ w0.heap.size ≤ w'.heap.size) ?_ ?_
  · refine cW_block ?_
    refine cW_loop _ (fun (s27 : Int × Int) a' w' => ∃ x20 : Int, ∃ x21 : Int, (x20, x21) = s27 ∧ Fr 21 [(0, .slice A0 (l0).length cap0), (1, .int .i64 (x20)), (5, .int .i64 (x21))] a' ∧ Sl 1 encI w' fp0 A0 l0 ∧ Chg [] w0 w' ∧ w0.heap.size ≤ w'.heap.size) hr25 (fun hst => ⟨p1, 0, rfl, Fr.of hst (by kernel_rfl), F0, hB, hZ⟩) ?_
    rintro _ c28 a' w19 ⟨x20, x21, rfl, hF22, F23, hB, hZ⟩ hx29
    refine Fr.goOn hF22 (by kernel_rfl) ?_
    have hm := hx29
    unfold m_laws_heldInt64S_s1 at hm
    refine cW_seq ?_
    refine cW_seq ?_
    refine cW_region ?_
    refine wS_pure 4 [(9, .bool (decide (x21 < (((l0).length : Int))))), (8, .int .i64 (((l0).length : Int))), (7, .slice A0 (l0).length cap0), (6, .int .i64 (x21))] (by kernel_rfl) ?_
    refine wS_end (by rfl) ?_
    refine eX_then ?_
    refine cW_cond (t := decide (x21 < (((l0).length : Int)))) (by kernel_rfl) (fun hb30 => ?_) (fun hb30 => ?_)
    · have hm := condT hb30 hm
      refine cW_skip ?_
      refine eX_then ?_
      refine cW_seq ?_
      refine cW_block ?_
      refine cW_seq ?_
      refine cW_seq ?_
      refine cW_region ?_
      refine wS_pure 2 [(13, .int .i64 (x21)), (12, .slice A0 (l0).length cap0)] (by kernel_rfl) ?_
      obtain ⟨x31, hx32, hm⟩ := bindE hm
      refine wS_idx (d := 14) (T := 25) (A := A0) (n := (l0).length) (cap := cap0) (kd := .i64) (m := x21) (by kernel_rfl) sl25 (F23.is hx32) ?_
      refine wS_load1 (d := 15) (T := 2) (ad := (elA A0 1 (x21) 0)) (v := .int .i64 (x31)) (by kernel_rfl) vt2 (Sl.cell F23 hx32 0 (by rfl)) ?_
      refine wS_pure 2 [(17, .bool (x31 != x20)), (16, .int .i64 (x20))] (by kernel_rfl) ?_
      refine wS_end (by rfl) ?_
      refine eX_then ?_
      refine cW_cond (t := x31 != x20) (by kernel_rfl) (fun hb33 => ?_) (fun hb33 => ?_)
      · have hm := condT hb33 hm
        refine cW_seq ?_
        refine cW_region ?_
        refine wS_pure 1 [(4, .int .i64 ((-1)))] (by kernel_rfl) ?_
        refine wS_end (by rfl) ?_
        refine eX_then ?_
        refine cW_ret ?_
        refine eX_then_ret ?_
        refine eX_block_ret ?_
        refine eX_then_ret ?_
        have hq : (some (Ctl.out (Sum.inr ((-1)))) : Option (Ctl (Int × Int) (Sum (Int) ((Int))))) = some _ := hm
        replace hq := someE hq
        subst hq
        refine eX_outR hx29 (fun hr => ?_)
        subst hr
        refine eX_block_ret ?_
        refine eX_then_ret ?_
        refine eX_then_ret ?_
        have hq : (some ((-1)) : Option ((Int))) = some _ := hm26
        replace hq := someE hq
        subst hq
        refine eX_ret (vs := [.int .i64 ((-1))]) [.tmp 4] (by rfl) ⟨by (show lkE _ _ _ = _); kernel_rfl, trivial⟩ ?_
        exact ⟨rfl, hB⟩
      · have hm := condF hb33 hm
        refine cW_skip ?_
        refine eX_then ?_
        refine cW_region ?_
        refine wS_pure 3 [(1, .int .i64 (wr (x20 + 1))), (19, .int .i64 (wr (x20 + 1))), (18, .int .i64 (x20))] (by kernel_rfl) ?_
        refine wS_end (by rfl) ?_
        refine eX_block ?_
        refine eX_then ?_
        refine cW_region ?_
        refine wS_pure 3 [(5, .int .i64 (wr (x21 + 1))), (11, .int .i64 (wr (x21 + 1))), (10, .int .i64 (x21))] (by kernel_rfl) ?_
        refine wS_end (by rfl) ?_
        have hq : (some (Ctl.next ((wr (x20 + 1), wr (x21 + 1)))) : Option (Ctl (Int × Int) (Sum (Int) ((Int))))) = some _ := hm
        replace hq := someE hq
        subst hq
        exact eX_next hx29 (fun hst => ⟨wr (x20 + 1), wr (x21 + 1), rfl, Fr.of hst (by kernel_rfl), F23, hB, hZ⟩)
    · have hm := condF hb30 hm
      refine cW_exit ?_
      refine eX_then_exit ?_
      have hq : (some (Ctl.out (Sum.inl x20)) : Option (Ctl (Int × Int) (Sum (Int) ((Int))))) = some _ := hm
      replace hq := someE hq
      subst hq
      refine eX_outX hx29 (fun hr34 => ?_)
      replace hr34 := hr34.symm
      subst hr34
      refine eX_block_hit ?_
      exact eX_J (fun hst => ⟨x20, rfl, Fr.of hst (by kernel_rfl), hB, hZ⟩)
  · rintro a' w16 ⟨x17, hJ, hF18, hB, hZ⟩
    subst hJ
    refine Fr.goX hF18 (by kernel_rfl) ?_
    refine eX_then ?_
    refine cW_seq ?_
    refine cW_region ?_
    refine wS_pure 2 [(4, .int .i64 (x17)), (20, .int .i64 (x17))] (by kernel_rfl) ?_
    refine wS_end (by rfl) ?_
    refine eX_then ?_
    refine cW_ret ?_
    have hq : (some x17 : Option ((Int))) = some _ := hm
    replace hq := someE hq
    subst hq
    refine eX_ret (vs := [.int .i64 (x17)]) [.tmp 4] (by rfl) ⟨by (show lkE _ _ _ = _); kernel_rfl, trivial⟩ ?_
    exact ⟨rfl, hB⟩

set_option maxRecDepth 100000 in
/-- laws.szInt64S -/
theorem c_laws_szInt64S {w0 : World} {l0 : List (Int)} {A0 : Option Addr} {cap0 : Nat} {fp0 : List Nat} {p1 : Int} {r : (Int)} (hm : m_laws_szInt64S l0 p1 = some r) (F0 : Sl 1 encI w0 fp0 A0 l0) :
    Calls Try.prog 81 #[.slice A0 (l0).length cap0, .int .i64 (p1)] w0 fun e w' => e = .returned (.int .i64 (r)) ∧ Chg [] w0 w' := by
  have L0 := F0.low
  have hB : Chg [] w0 w0 := Chg.refl _ _
  have hZ := Nat.le_refl w0.heap.size
  unfold m_laws_szInt64S at hm
  refine enterE (N := 12) Try.func81 (by rfl) Try.ntmps81 (by simp) [(0, .slice A0 (l0).length cap0), (1, .int .i64 (p1))] (by rfl) (by kernel_rfl) (fun a => ?_)
  refine cW_seq ?_
  refine cW_region ?_
  refine wS_pure 1 [(4, .int .i64 (0))] (by kernel_rfl) ?_
  refine wS_end (by rfl) ?_
  refine eX_then ?_
  refine cW_seq ?_
  refine cW_region ?_
  refine wS_pure 5 [(1, .int .i64 (wr (p1 - (((l0).length : Int))))), (8, .int .i64 (wr (p1 - (((l0).length : Int))))), (7, .int .i64 (((l0).length : Int))), (6, .slice A0 (l0).length cap0), (5, .int .i64 (p1))] (by kernel_rfl) ?_
  refine wS_end (by rfl) ?_
  refine eX_then ?_
  refine cW_seq ?_
  refine cW_seq ?_
  refine cW_region ?_
  refine wS_pure 2 [(10, .bool (decide ((wr (p1 - (((l0).length : Int)))) < 0))), (9, .int .i64 (wr (p1 - (((l0).length : Int)))))] (by kernel_rfl) ?_
  refine wS_end (by rfl) ?_
  refine eX_then ?_
  refine cW_cond (t := decide ((wr (p1 - (((l0).length : Int)))) < 0)) (by kernel_rfl) (fun hb2 => ?_) (fun hb2 => ?_)
  · have hm := condT hb2 hm
    refine cW_seq ?_
    refine cW_region ?_
    refine wS_pure 1 [(4, .int .i64 ((-1)))] (by kernel_rfl) ?_
    refine wS_end (by rfl) ?_
    refine eX_then ?_
    refine cW_ret ?_
    refine eX_then_ret ?_
    have hq : (some ((-1)) : Option ((Int))) = some _ := hm
    replace hq := someE hq
    subst hq
    refine eX_ret (vs := [.int .i64 ((-1))]) [.tmp 4] (by rfl) ⟨by (show lkE _ _ _ = _); kernel_rfl, trivial⟩ ?_
    exact ⟨rfl, hB⟩
  · have hm := condF hb2 hm
    refine cW_skip ?_
    refine eX_then ?_
    refine cW_seq ?_
    refine cW_region ?_
    refine wS_pure 2 [(4, .int .i64 (wr (p1 - (((l0).length : Int))))), (11, .int .i64 (wr (p1 - (((l0).length : Int)))))] (by kernel_rfl) ?_
    refine wS_end (by rfl) ?_
    refine eX_then ?_
    refine cW_ret ?_
    have hq : (some (wr (p1 - (((l0).length : Int)))) : Option ((Int))) = some _ := hm
    replace hq := someE hq
    subst hq
    refine eX_ret (vs := [.int .i64 (wr (p1 - (((l0).length : Int))))]) [.tmp 4] (by rfl) ⟨by (show lkE _ _ _ = _); kernel_rfl, trivial⟩ ?_
    exact ⟨rfl, hB⟩

set_option maxRecDepth 100000 in
/-- laws.szInt64SS -/
theorem c_laws_szInt64SS {w0 : World} {l0 : List (List (Int))} {A0 : Option Addr} {cap0 : Nat} {fp0 : List Nat} {p1 : Int} {r : (Int)} (hm : m_laws_szInt64SS l0 p1 = some r) (F0 : SlR 1 encI w0 fp0 A0 l0) :
    Calls Try.prog 80 #[.slice A0 (l0).length cap0, .int .i64 (p1)] w0 fun e w' => e = .returned (.int .i64 (r)) ∧ Chg [] w0 w' := by
  have L0 := F0.low
  have hB : Chg [] w0 w0 := Chg.refl _ _
  have hZ := Nat.le_refl w0.heap.size
  unfold m_laws_szInt64SS at hm
  refine enterE (N := 27) Try.func80 (by rfl) Try.ntmps80 (by simp) [(0, .slice A0 (l0).length cap0), (1, .int .i64 (p1))] (by rfl) (by kernel_rfl) (fun a => ?_)
  refine cW_seq ?_
  refine cW_region ?_
  refine wS_pure 1 [(4, .int .i64 (0))] (by kernel_rfl) ?_
  refine wS_end (by rfl) ?_
  refine eX_then ?_
  refine cW_seq ?_
  refine cW_region ?_
  refine wS_pure 5 [(1, .int .i64 (wr (p1 - (((l0).length : Int))))), (9, .int .i64 (wr (p1 - (((l0).length : Int))))), (8, .int .i64 (((l0).length : Int))), (7, .slice A0 (l0).length cap0), (6, .int .i64 (p1))] (by kernel_rfl) ?_
  refine wS_end (by rfl) ?_
  refine eX_then ?_
  refine cW_seq ?_
  refine cW_seq ?_
  refine cW_region ?_
  refine wS_pure 2 [(11, .bool (decide ((wr (p1 - (((l0).length : Int)))) < 0))), (10, .int .i64 (wr (p1 - (((l0).length : Int)))))] (by kernel_rfl) ?_
  refine wS_end (by rfl) ?_
  refine eX_then ?_
  refine cW_cond (t := decide ((wr (p1 - (((l0).length : Int)))) < 0)) (by kernel_rfl) (fun hb2 => ?_) (fun hb2 => ?_)
  · have hm := condT hb2 hm
    refine cW_seq ?_
    refine cW_region ?_
    refine wS_pure 1 [(4, .int .i64 ((-1)))] (by kernel_rfl) ?_
    refine wS_end (by rfl) ?_
    refine eX_then ?_
    refine cW_ret ?_
    refine eX_then_ret ?_
    have hq : (some ((-1)) : Option ((Int))) = some _ := hm
    replace hq := someE hq
    subst hq
    refine eX_ret (vs := [.int .i64 ((-1))]) [.tmp 4] (by rfl) ⟨by (show lkE _ _ _ = _); kernel_rfl, trivial⟩ ?_
    exact ⟨rfl, hB⟩
  · have hm := condF hb2 hm
    refine cW_skip ?_
    refine eX_then ?_
    refine cW_seq ?_
    refine cW_seq ?_
    refine cW_region ?_
    refine wS_pure 1 [(5, .int .i64 (0))] (by kernel_rfl) ?_
    refine wS_end (by rfl) ?_
    refine eX_then ?_
    obtain ⟨r45, hr46, hm⟩ := bindE hm
    have hm47 := hm
    refine cW_cut (fun a' w' => ∃ x38 : Int, Sum.inl x38 = r45 ∧ Fr 27 [(1, .int .i64 (x38))] a' ∧ Chg [] w0 w' ∧ w0.heap.size ≤ w'.heap.size) ?_ ?_
    · refine cW_block ?_
      refine cW_loop _ (fun (s48 : Int × Int) a' w' => ∃ x41 : Int, ∃ x42 : Int, (x41, x42) = s48 ∧ Fr 27 [(0, .slice A0 (l0).length cap0), (1, .int .i64 (x41)), (5, .int .i64 (x42))] a' ∧ SlR 1 encI w' fp0 A0 l0 ∧ Chg [] w0 w' ∧ w0.heap.size ≤ w'.heap.size) hr46 (fun hst => ⟨wr (p1 - (((l0).length : Int))), 0, rfl, Fr.of hst (by kernel_rfl), F0, hB, hZ⟩) ?_
      rintro _ c49 a' w40 ⟨x41, x42, rfl, hF43, F44, hB, hZ⟩ hx50
      refine Fr.goOn hF43 (by kernel_rfl) ?_
      have hm := hx50
      unfold m_laws_szInt64SS_s1 at hm
      refine cW_seq ?_
      refine cW_seq ?_
      refine cW_region ?_
      refine wS_pure 4 [(15, .bool (decide (x42 < (((l0).length : Int))))), (14, .int .i64 (((l0).length : Int))), (13, .slice A0 (l0).length cap0), (12, .int .i64 (x42))] (by kernel_rfl) ?_
      refine wS_end (by rfl) ?_
      refine eX_then ?_
      refine cW_cond (t := decide (x42 < (((l0).length : Int)))) (by kernel_rfl) (fun hb51 => ?_) (fun hb51 => ?_)
      · have hm := condT hb51 hm
        refine cW_skip ?_
        refine eX_then ?_
        refine cW_seq ?_
        refine cW_block ?_
        refine cW_seq ?_
        refine cW_region ?_
        refine wS_pure 2 [(19, .int .i64 (x42)), (18, .slice A0 (l0).length cap0)] (by kernel_rfl) ?_
        obtain ⟨x52, hx53, hm⟩ := bindE hm
        refine wS_idx (d := 20) (T := 24) (A := A0) (n := (l0).length) (cap := cap0) (kd := .i64) (m := x42) (by kernel_rfl) sl24 (F44.is hx53) ?_
        obtain ⟨A54, cap55, hc57, F56, K58⟩ := SlR.row F44 hx53
        refine wS_load1 (d := 21) (T := 25) (ad := (elA A0 1 (x42) 0)) (v := .slice A54 (x52).length cap55) (by kernel_rfl) vt25 hc57 ?_
        refine wS_pure 1 [(22, .int .i64 (x41))] (by kernel_rfl) ?_
        obtain ⟨y60, hy61, hm⟩ := bindE hm
        refine wS_calls (d := 23) (f := 81) (vs := [.slice A54 (x52).length cap55, .int .i64 (x41)]) (by kernel_rfl) ent81 (c_laws_szInt64S hy61 F56) ?_
        rintro _ w62 ⟨rfl, hc63⟩
        replace F44 := F44.chg hc63 Dj.nil
        replace F56 := F56.chg hc63 Dj.nil
        replace hB := hB.inS hc63 inNil
        replace hZ := Nat.le_trans hZ hc63.size
        refine ⟨.int .i64 (y60), rfl, ?_⟩
        refine wS_pure 1 [(1, .int .i64 (y60))] (by kernel_rfl) ?_
        refine wS_end (by rfl) ?_
        refine eX_then ?_
        refine cW_seq ?_
        refine cW_region ?_
        refine wS_pure 2 [(25, .bool (decide (y60 < 0))), (24, .int .i64 (y60))] (by kernel_rfl) ?_
        refine wS_end (by rfl) ?_
        refine eX_then ?_
        refine cW_cond (t := decide (y60 < 0)) (by kernel_rfl) (fun hb64 => ?_) (fun hb64 => ?_)
        · have hm := condT hb64 hm
          refine cW_seq ?_
          refine cW_region ?_
          refine wS_pure 1 [(4, .int .i64 ((-1)))] (by kernel_rfl) ?_
          refine wS_end (by rfl) ?_
          refine eX_then ?_
          refine cW_ret ?_
          refine eX_block_ret ?_
          refine eX_then_ret ?_
          have hq : (some (Ctl.out (Sum.inr ((-1)))) : Option (Ctl (Int × Int) (Sum (Int) ((Int))))) = some _ := hm
          replace hq := someE hq
          subst hq
          refine eX_outR hx50 (fun hr => ?_)
          subst hr
          refine eX_block_ret ?_
          refine eX_then_ret ?_
          refine eX_then_ret ?_
          have hq : (some ((-1)) : Option ((Int))) = some _ := hm47
          replace hq := someE hq
          subst hq
          refine eX_ret (vs := [.int .i64 ((-1))]) [.tmp 4] (by rfl) ⟨by (show lkE _ _ _ = _); kernel_rfl, trivial⟩ ?_
          exact ⟨rfl, hB⟩
        · have hm := condF hb64 hm
          refine cW_skip ?_
          refine eX_block ?_
          refine eX_then ?_
          refine cW_region ?_
          refine wS_pure 3 [(5, .int .i64 (wr (x42 + 1))), (17, .int .i64 (wr (x42 + 1))), (16, .int .i64 (x42))] (by kernel_rfl) ?_
          refine wS_end (by rfl) ?_
          have hq : (some (Ctl.next ((y60, wr (x42 + 1)))) : Option (Ctl (Int × Int) (Sum (Int) ((Int))))) = some _ := hm
          replace hq := someE hq
          subst hq
          exact eX_next hx50 (fun hst => ⟨y60, wr (x42 + 1), rfl, Fr.of hst (by kernel_rfl), F44, hB, hZ⟩)
      · have hm := condF hb51 hm
        refine cW_exit ?_
        refine eX_then_exit ?_
        have hq : (some (Ctl.out (Sum.inl x41)) : Option (Ctl (Int × Int) (Sum (Int) ((Int))))) = some _ := hm
        replace hq := someE hq
        subst hq
        refine eX_outX hx50 (fun hr65 => ?_)
        replace hr65 := hr65.symm
        subst hr65
        refine eX_block_hit ?_
        exact eX_J (fun hst => ⟨x41, rfl, Fr.of hst (by kernel_rfl), hB, hZ⟩)
    · rintro a' w37 ⟨x38, hJ, hF39, hB, hZ⟩
      subst hJ
      refine Fr.goX hF39 (by kernel_rfl) ?_
      refine eX_then ?_
      refine cW_seq ?_
      refine cW_region ?_
      refine wS_pure 2 [(4, .int .i64 (x38)), (26, .int .i64 (x38))] (by kernel_rfl) ?_
      refine wS_end (by rfl) ?_
      refine eX_then ?_
      refine cW_ret ?_
      have hq : (some x38 : Option ((Int))) = some _ := hm
      replace hq := someE hq
      subst hq
      refine eX_ret (vs := [.int .i64 (x38)]) [.tmp 4] (by rfl) ⟨by (show lkE _ _ _ = _); kernel_rfl, trivial⟩ ?_
      exact ⟨rfl, hB⟩

set_option maxRecDepth 100000 in
/-- laws.szWiring -/
theorem c_laws_szWiring {w0 : World} {p0_0 : Int} {l0_1 : List (List (Int))} {A0_1 : Option Addr} {cap0_1 : Nat} {fp0_1 : List Nat} {l0_2 : List (List (Int))} {A0_2 : Option Addr} {cap0_2 : Nat} {fp0_2 : List Nat} {l0_3 : List (Int)} {A0_3 : Option Addr} {cap0_3 : Nat} {fp0_3 : List Nat} {p1 : Int} {r : (Int)} (hm : m_laws_szWiring p0_0 l0_1 l0_2 l0_3 p1 = some r) (F0_1 : SlR 1 encI w0 fp0_1 A0_1 l0_1) (F0_2 : SlR 1 encI w0 fp0_2 A0_2 l0_2) (F0_3 : Sl 1 encI w0 fp0_3 A0_3 l0_3) :
    Calls Try.prog 37 #[.agg #[.int .i64 (p0_0), .slice A0_1 (l0_1).length cap0_1, .slice A0_2 (l0_2).length cap0_2, .slice A0_3 (l0_3).length cap0_3], .int .i64 (p1)] w0 fun e w' => e = .returned (.int .i64 (r)) ∧ Chg [] w0 w' := by
  have L0_1 := F0_1.low
  have L0_2 := F0_2.low
  have L0_3 := F0_3.low
  have hB : Chg [] w0 w0 := Chg.refl _ _
  have hZ := Nat.le_refl w0.heap.size
  unfold m_laws_szWiring at hm
  refine enterE (N := 24) Try.func37 (by rfl) Try.ntmps37 (by simp) [(0, .agg #[.int .i64 (p0_0), .slice A0_1 (l0_1).length cap0_1, .slice A0_2 (l0_2).length cap0_2, .slice A0_3 (l0_3).length cap0_3]), (1, .int .i64 (p1))] (by rfl) (by kernel_rfl) (fun a => ?_)
  refine cW_seq ?_
  refine cW_region ?_
  refine wS_box (d := 2) (T := 59) (x := .agg #[.int .i64 (p0_0), .slice A0_1 (l0_1).length cap0_1, .slice A0_2 (l0_2).length cap0_2, .slice A0_3 (l0_3).length cap0_3]) (by kernel_rfl) ?_
  intro b4 w5 G6 F7 hc8
  replace F7 : Cl w5 b4 59 [.int .i64 (p0_0), .slice A0_1 (l0_1).length cap0_1, .slice A0_2 (l0_2).length cap0_2, .slice A0_3 (l0_3).length cap0_3] := F7
  replace F0_1 := F0_1.chg hc8 Dj.nil
  replace F0_2 := F0_2.chg hc8 Dj.nil
  replace F0_3 := F0_3.chg hc8 Dj.nil
  replace hB := hB.inS hc8 inNil
  replace G6 := Nat.le_trans hZ G6
  replace hZ := Nat.le_trans hZ hc8.size
  refine wS_pure 1 [(4, .int .i64 (0))] (by kernel_rfl) ?_
  refine wS_end (by rfl) ?_
  refine eX_then ?_
  refine cW_seq ?_
  refine cW_region ?_
  refine wS_pure 1 [(5, .pointer (some ⟨b4, 1, none⟩))] (by kernel_rfl) ?_
  refine wS_load1 (d := 6) (T := 24) (ad := ⟨b4, 1, none⟩) (v := .slice A0_1 (l0_1).length cap0_1) (by kernel_rfl) vt24 ((F7).cell 1) ?_
  refine wS_pure 1 [(7, .int .i64 (p1))] (by kernel_rfl) ?_
  obtain ⟨y10, hy11, hm⟩ := bindE hm
  refine wS_calls (d := 8) (f := 80) (vs := [.slice A0_1 (l0_1).length cap0_1, .int .i64 (p1)]) (by kernel_rfl) ent80 (c_laws_szInt64SS hy11 F0_1) ?_
  rintro _ w12 ⟨rfl, hc13⟩
  replace F0_1 := F0_1.chg hc13 Dj.nil
  replace F0_2 := F0_2.chg hc13 Dj.nil
  replace F0_3 := F0_3.chg hc13 Dj.nil
  replace F7 := F7.chg hc13 notNil
  replace hB := hB.inS hc13 inNil
  replace hZ := Nat.le_trans hZ hc13.size
  refine ⟨.int .i64 (y10), rfl, ?_⟩
  refine wS_pure 1 [(1, .int .i64 (y10))] (by kernel_rfl) ?_
  refine wS_end (by rfl) ?_
  refine eX_then ?_
  refine cW_seq ?_
  refine cW_seq ?_
  refine cW_region ?_
  refine wS_pure 2 [(10, .bool (decide (y10 < 0))), (9, .int .i64 (y10))] (by kernel_rfl) ?_
  refine wS_end (by rfl) ?_
  refine eX_then ?_
  refine cW_cond (t := decide (y10 < 0)) (by kernel_rfl) (fun hb14 => ?_) (fun hb14 => ?_)
  · have hm := condT hb14 hm
    refine cW_seq ?_
    refine cW_region ?_
    refine wS_pure 1 [(4, .int .i64 ((-1)))] (by kernel_rfl) ?_
    refine wS_end (by rfl) ?_
    refine eX_then ?_
    refine cW_ret ?_
    refine eX_then_ret ?_
    have hq : (some ((-1)) : Option ((Int))) = some _ := hm
    replace hq := someE hq
    subst hq
    refine eX_ret (vs := [.int .i64 ((-1))]) [.tmp 4] (by rfl) ⟨by (show lkE _ _ _ = _); kernel_rfl, trivial⟩ ?_
    exact ⟨rfl, hB⟩
  · have hm := condF hb14 hm
    refine cW_skip ?_
    refine eX_then ?_
    refine cW_seq ?_
    refine cW_region ?_
    refine wS_pure 1 [(11, .pointer (some ⟨b4, 2, none⟩))] (by kernel_rfl) ?_
    refine wS_load1 (d := 12) (T := 24) (ad := ⟨b4, 2, none⟩) (v := .slice A0_2 (l0_2).length cap0_2) (by kernel_rfl) vt24 ((F7).cell 2) ?_
    refine wS_pure 1 [(13, .int .i64 (y10))] (by kernel_rfl) ?_
    obtain ⟨y15, hy16, hm⟩ := bindE hm
    refine wS_calls (d := 14) (f := 80) (vs := [.slice A0_2 (l0_2).length cap0_2, .int .i64 (y10)]) (by kernel_rfl) ent80 (c_laws_szInt64SS hy16 F0_2) ?_
    rintro _ w17 ⟨rfl, hc18⟩
    replace F0_1 := F0_1.chg hc18 Dj.nil
    replace F0_2 := F0_2.chg hc18 Dj.nil
    replace F0_3 := F0_3.chg hc18 Dj.nil
    replace F7 := F7.chg hc18 notNil
    replace hB := hB.inS hc18 inNil
    replace hZ := Nat.le_trans hZ hc18.size
    refine ⟨.int .i64 (y15), rfl, ?_⟩
    refine wS_pure 1 [(1, .int .i64 (y15))] (by kernel_rfl) ?_
    refine wS_end (by rfl) ?_
    refine eX_then ?_
    refine cW_seq ?_
    refine cW_seq ?_
    refine cW_region ?_
    refine wS_pure 2 [(16, .bool (decide (y15 < 0))), (15, .int .i64 (y15))] (by kernel_rfl) ?_
    refine wS_end (by rfl) ?_
    refine eX_then ?_
    refine cW_cond (t := decide (y15 < 0)) (by kernel_rfl) (fun hb19 => ?_) (fun hb19 => ?_)
    · have hm := condT hb19 hm
      refine cW_seq ?_
      refine cW_region ?_
      refine wS_pure 1 [(4, .int .i64 ((-1)))] (by kernel_rfl) ?_
      refine wS_end (by rfl) ?_
      refine eX_then ?_
      refine cW_ret ?_
      refine eX_then_ret ?_
      have hq : (some ((-1)) : Option ((Int))) = some _ := hm
      replace hq := someE hq
      subst hq
      refine eX_ret (vs := [.int .i64 ((-1))]) [.tmp 4] (by rfl) ⟨by (show lkE _ _ _ = _); kernel_rfl, trivial⟩ ?_
      exact ⟨rfl, hB⟩
    · have hm := condF hb19 hm
      refine cW_skip ?_
      refine eX_then ?_
      refine cW_seq ?_
      refine cW_region ?_
      refine wS_pure 1 [(17, .pointer (some ⟨b4, 3, none⟩))] (by kernel_rfl) ?_
      refine wS_load1 (d := 18) (T := 25) (ad := ⟨b4, 3, none⟩) (v := .slice A0_3 (l0_3).length cap0_3) (by kernel_rfl) vt25 ((F7).cell 3) ?_
      refine wS_pure 1 [(19, .int .i64 (y15))] (by kernel_rfl) ?_
      obtain ⟨y20, hy21, hm⟩ := bindE hm
      refine wS_calls (d := 20) (f := 81) (vs := [.slice A0_3 (l0_3).length cap0_3, .int .i64 (y15)]) (by kernel_rfl) ent81 (c_laws_szInt64S hy21 F0_3) ?_
      rintro _ w22 ⟨rfl, hc23⟩
      replace F0_1 := F0_1.chg hc23 Dj.nil
      replace F0_2 := F0_2.chg hc23 Dj.nil
      replace F0_3 := F0_3.chg hc23 Dj.nil
      replace F7 := F7.chg hc23 notNil
      replace hB := hB.inS hc23 inNil
      replace hZ := Nat.le_trans hZ hc23.size
      refine ⟨.int .i64 (y20), rfl, ?_⟩
      refine wS_pure 1 [(1, .int .i64 (y20))] (by kernel_rfl) ?_
      refine wS_end (by rfl) ?_
      refine eX_then ?_
      refine cW_seq ?_
      refine cW_seq ?_
      refine cW_region ?_
      refine wS_pure 2 [(22, .bool (decide (y20 < 0))), (21, .int .i64 (y20))] (by kernel_rfl) ?_
      refine wS_end (by rfl) ?_
      refine eX_then ?_
      refine cW_cond (t := decide (y20 < 0)) (by kernel_rfl) (fun hb24 => ?_) (fun hb24 => ?_)
      · have hm := condT hb24 hm
        refine cW_seq ?_
        refine cW_region ?_
        refine wS_pure 1 [(4, .int .i64 ((-1)))] (by kernel_rfl) ?_
        refine wS_end (by rfl) ?_
        refine eX_then ?_
        refine cW_ret ?_
        refine eX_then_ret ?_
        have hq : (some ((-1)) : Option ((Int))) = some _ := hm
        replace hq := someE hq
        subst hq
        refine eX_ret (vs := [.int .i64 ((-1))]) [.tmp 4] (by rfl) ⟨by (show lkE _ _ _ = _); kernel_rfl, trivial⟩ ?_
        exact ⟨rfl, hB⟩
      · have hm := condF hb24 hm
        refine cW_skip ?_
        refine eX_then ?_
        refine cW_seq ?_
        refine cW_region ?_
        refine wS_pure 2 [(4, .int .i64 (y20)), (23, .int .i64 (y20))] (by kernel_rfl) ?_
        refine wS_end (by rfl) ?_
        refine eX_then ?_
        refine cW_ret ?_
        have hq : (some y20 : Option ((Int))) = some _ := hm
        replace hq := someE hq
        subst hq
        refine eX_ret (vs := [.int .i64 (y20)]) [.tmp 4] (by rfl) ⟨by (show lkE _ _ _ = _); kernel_rfl, trivial⟩ ?_
        exact ⟨rfl, hB⟩

set_option maxRecDepth 100000 in
/-- spec.l00Own -/
theorem c_spec_l00Own {w0 : World} {l0 : List (Int)} {A0 : Option Addr} {cap0 : Nat} {fp0 : List Nat} {r : (List (Int))} (hm : m_spec_l00Own l0 = some r) (F0 : Sl 1 encI w0 fp0 A0 l0) :
    Calls Try.prog 88 #[.slice A0 (l0).length cap0] w0 fun e w' => ∃ A100 cap100 fp100, e = .returned (.slice A100 (r).length cap100) ∧ Ow 1 encI 2 w' fp100 A100 cap100 r ∧ (∀ x ∈ fp100, w0.heap.size ≤ x) ∧ Chg [] w0 w' := by
  have L0 := F0.low
  have hB : Chg [] w0 w0 := Chg.refl _ _
  have hZ := Nat.le_refl w0.heap.size
  unfold m_spec_l00Own at hm
  refine enterE (N := 6) Try.func88 (by rfl) Try.ntmps88 (by simp) [(0, .slice A0 (l0).length cap0)] (by rfl) (by kernel_rfl) (fun a => ?_)
  refine cW_seq ?_
  refine cW_region ?_
  refine wS_pure 1 [(2, .slice none 0 0)] (by kernel_rfl) ?_
  refine wS_end (by rfl) ?_
  refine eX_then ?_
  refine cW_seq ?_
  refine cW_region ?_
  refine wS_bs0 (α := Int) (enc := encI) (d := 3) (t := 25) (T := 2) (by kernel_rfl) el25 ?_
  intro b2 w3 G4 F5 hc6
  replace F0 := F0.chg hc6 Dj.nil
  replace hB := hB.inS hc6 inNil
  replace G4 := Nat.le_trans hZ G4
  replace G4 := low1 G4
  replace hZ := Nat.le_trans hZ hc6.size
  refine wS_pure 1 [(4, .slice A0 (l0).length cap0)] (by kernel_rfl) ?_
  obtain ⟨_, hk8, hm⟩ := bindE hm
  replace hk8 := apE hk8
  refine wS_appendAny (enc := encI) (l := (([] : List (Int)) : List (Int))) (l2 := (l0 : List (Int))) (d := 5) (t := 25) (T := 2) (A := (some ⟨b2, 0, none⟩)) (A2 := A0) (cap := 0) (cap2 := cap0) (by kernel_rfl) el25 encI_ok F5 F0 hk8 ?_
  intro w9 fp10 A11 cap12 F13 hc14 hp15
  have G17 := low_ap G4 hZ hp15
  replace F0 := F0.chg hc14 (Dj.of L0 G4)
  replace hB := hB.inS hc14 (inLow G4)
  replace hZ := Nat.le_trans hZ hc14.size
  refine wS_pure 1 [(2, .slice A11 ((([] : List (Int))) ++ l0).length cap12)] (by kernel_rfl) ?_
  refine wS_end (by rfl) ?_
  refine eX_then ?_
  refine cW_ret ?_
  have hq : (some ((([] : List (Int))) ++ l0) : Option ((List (Int)))) = some _ := hm
  replace hq := someE hq
  subst hq
  refine eX_ret (vs := [.slice A11 ((([] : List (Int))) ++ l0).length cap12]) [.tmp 2] (by rfl) ⟨by (show lkE _ _ _ = _); kernel_rfl, trivial⟩ ?_
  exact ⟨A11, cap12, fp10, rfl, F13, G17, hB⟩

end Go.Proofs.Ytngnljnfbfgfeaa
