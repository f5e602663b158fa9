/- Printed walks: impl.tree, impl.ClockMerges, spec.l06Pins, spec.l06Tree, laws.markPointS, laws.markInt64S, laws.markInt64SS, spec.l06Ask, spec.ClockMerges, laws.eqMergeS, laws.markMergeS, laws.heldMergeS. -/
import Derived.Test.YtmodhpgnkbnbaaaProg
import Derived.Test.YtmodhpgnkbnbaaaWMerges02
set_option linter.unusedSimpArgs false
set_option linter.unusedVariables false
namespace Go.Proofs.Ytmodhpgnkbnbaaa
open Go.RowKit
attribute [local irreducible] wS cW eX wH

theorem ent39 : Ent Try.prog 39 := fun _ => by kernel_rfl
theorem ent51 : Ent Try.prog 51 := fun _ => by kernel_rfl
theorem ent70 : Ent Try.prog 70 := fun _ => by kernel_rfl
theorem ent86 : Ent Try.prog 86 := fun _ => by kernel_rfl
theorem ent87 : Ent Try.prog 87 := fun _ => by kernel_rfl
theorem ent94 : Ent Try.prog 94 := fun _ => by kernel_rfl
theorem ent98 : Ent Try.prog 98 := fun _ => by kernel_rfl
theorem ent99 : Ent Try.prog 99 := fun _ => by kernel_rfl
theorem ent103 : Ent Try.prog 103 := fun _ => by kernel_rfl
theorem ent110 : Ent Try.prog 110 := fun _ => by kernel_rfl
theorem ent112 : Ent Try.prog 112 := fun _ => by kernel_rfl
theorem ent116 : Ent Try.prog 116 := fun _ => by kernel_rfl
theorem ent117 : Ent Try.prog 117 := fun _ => by kernel_rfl
theorem ent119 : Ent Try.prog 119 := fun _ => by kernel_rfl
theorem sl75 : SlTy Try.prog 75 52 5 := ⟨Try.underlying75, by kernel_rfl⟩
theorem el75 : ElTy Try.prog 75 52 5 (.agg #[.int .i64 (0), .int .i64 (0), .int .i64 (0), .int .i64 (0), .int .i64 (0)]) := ElTy.mk' Try.underlying75 (by kernel_rfl) (by rfl)

set_option maxRecDepth 100000 in
/-- impl.tree -/
theorem c_impl_tree {w0 : World} {l0 : List (Int × Int)} {A0 : Option Addr} {cap0 : Nat} {fp0 : List Nat} {l1 : List (List (Int))} {A1 : Option Addr} {cap1 : Nat} {fp1 : List Nat} {r : (List (Int × Int × Int × Int × Int)) × (List (Int)) × (Bool)} (hm : m_impl_tree l0 l1 = some r) (F0 : Sl 2 encII w0 fp0 A0 l0) (F1 : SlR 1 encI w0 fp1 A1 l1) :
    Calls Try.prog 110 #[.slice A0 (l0).length cap0, .slice A1 (l1).length cap1] w0 fun e w' => ∃ A100 cap100 fp100, ∃ A101 cap101 fp101, e = .returned (.tuple #[.slice A100 (r.1).length cap100, .slice A101 (r.2.1).length cap101, .bool (r.2.2)]) ∧ Ow 5 encIIIII 52 w' fp100 A100 cap100 r.1 ∧ (∀ x ∈ fp100, w0.heap.size ≤ x) ∧ Ow 1 encI 2 w' fp101 A101 cap101 r.2.1 ∧ (∀ x ∈ fp101, w0.heap.size ≤ x) ∧ Dj fp100 fp101 ∧ Chg [] w0 w' := by
  have L0 := F0.low
  have L1 := F1.low
  have hB : Chg [] w0 w0 := Chg.refl _ _
  have hZ := Nat.le_refl w0.heap.size
  unfold m_impl_tree at hm
  refine enterE (N := 91) Try.func110 (by rfl) Try.ntmps110 (by simp) [(0, .slice A0 (l0).length cap0), (1, .slice A1 (l1).length cap1)] (by rfl) (by kernel_rfl) (fun a => ?_)
  refine cW_seq ?_
  refine cW_region ?_
  refine wS_pure 3 [(6, .bool (false)), (5, .slice none 0 0), (4, .slice none 0 0)] (by kernel_rfl) ?_
  refine wS_end (by rfl) ?_
  refine eX_then ?_
  refine cW_seq ?_
  refine cW_seq ?_
  refine cW_region ?_
  refine wS_pure 1 [(17, .slice A0 (l0).length cap0)] (by kernel_rfl) ?_
  obtain ⟨y3, hy4, hm⟩ := bindE hm
  refine wS_calls (d := 18) (f := 112) (vs := [.slice A0 (l0).length cap0]) (by kernel_rfl) ent112 (c_impl_clockPins hy4 F0) ?_
  rintro _ w5 ⟨rfl, hc6⟩
  replace F0 := F0.chg hc6 Dj.nil
  replace F1 := F1.chg hc6 Dj.nil
  replace hB := hB.inS hc6 inNil
  replace hZ := Nat.le_trans hZ hc6.size
  refine ⟨.bool (y3), rfl, ?_⟩
  refine wS_pure 2 [(20, .bool (!y3)), (19, .bool (!y3))] (by kernel_rfl) ?_
  refine wS_bool (!y3) (fun hb7 => ?_) (fun hb7 => ?_)
  · have hm := condT hb7 hm
    rewrite [hb7]
    refine wS_pure 6 [(26, .bool (true)), (25, undef), (24, undef), (23, undef), (22, undef), (21, undef)] (by kernel_rfl) ?_
    refine wS_end (by rfl) ?_
    refine eX_then ?_
    refine cW_cond_t (by kernel_rfl) ?_
    refine cW_seq ?_
    refine cW_region ?_
    refine wS_pure 3 [(6, .bool (false)), (5, .slice none 0 0), (4, .slice none 0 0)] (by kernel_rfl) ?_
    refine wS_end (by rfl) ?_
    refine eX_then ?_
    refine cW_ret ?_
    refine eX_then_ret ?_
    have hq : (some (([], [], false)) : Option ((List (Int × Int × Int × Int × Int)) × (List (Int)) × (Bool))) = some _ := hm
    replace hq := someE hq
    subst hq
    refine eX_ret (vs := [.slice none 0 0, .slice none 0 0, .bool (false)]) [.tmp 4, .tmp 5, .tmp 6] (by rfl) ⟨by (show lkE _ _ _ = _); kernel_rfl, ⟨by (show lkE _ _ _ = _); kernel_rfl, ⟨by (show lkE _ _ _ = _); kernel_rfl, trivial⟩⟩⟩ ?_
    exact ⟨none, 0, [], none, 0, [], rfl, Ow.nil _, lowNil, Ow.nil _, lowNil, Dj.nil, hB⟩
  · have hm := condF hb7 hm
    rewrite [hb7]
    refine wS_pure 3 [(23, .slice A1 (l1).length cap1), (22, .int .i64 (((l0).length : Int))), (21, .slice A0 (l0).length cap0)] (by kernel_rfl) ?_
    obtain ⟨y8, hy9, hm⟩ := bindE hm
    refine wS_calls (d := 24) (f := 39) (vs := [.int .i64 (((l0).length : Int)), .slice A1 (l1).length cap1]) (by kernel_rfl) ent39 (c_impl_IsJoins hy9 F1) ?_
    rintro _ w10 ⟨rfl, hc11⟩
    replace F0 := F0.chg hc11 Dj.nil
    replace F1 := F1.chg hc11 Dj.nil
    replace hB := hB.inS hc11 inNil
    replace hZ := Nat.le_trans hZ hc11.size
    refine ⟨.bool (y8), rfl, ?_⟩
    refine wS_pure 2 [(26, .bool (!y8)), (25, .bool (!y8))] (by kernel_rfl) ?_
    refine wS_end (by rfl) ?_
    refine eX_then ?_
    refine cW_cond (t := !y8) (by kernel_rfl) (fun hb12 => ?_) (fun hb12 => ?_)
    · have hm := condT hb12 hm
      refine cW_seq ?_
      refine cW_region ?_
      refine wS_pure 3 [(6, .bool (false)), (5, .slice none 0 0), (4, .slice none 0 0)] (by kernel_rfl) ?_
      refine wS_end (by rfl) ?_
      refine eX_then ?_
      refine cW_ret ?_
      refine eX_then_ret ?_
      have hq : (some (([], [], false)) : Option ((List (Int × Int × Int × Int × Int)) × (List (Int)) × (Bool))) = some _ := hm
      replace hq := someE hq
      subst hq
      refine eX_ret (vs := [.slice none 0 0, .slice none 0 0, .bool (false)]) [.tmp 4, .tmp 5, .tmp 6] (by rfl) ⟨by (show lkE _ _ _ = _); kernel_rfl, ⟨by (show lkE _ _ _ = _); kernel_rfl, ⟨by (show lkE _ _ _ = _); kernel_rfl, trivial⟩⟩⟩ ?_
      exact ⟨none, 0, [], none, 0, [], rfl, Ow.nil _, lowNil, Ow.nil _, lowNil, Dj.nil, hB⟩
    · have hm := condF hb12 hm
      refine cW_skip ?_
      refine eX_then ?_
      refine cW_seq ?_
      obtain ⟨s104, hs105, hm⟩ := bindE hm
      refine cW_cut (fun a' w' => ∃ l86 : List (Int × Int × Int × Int × Int), ∃ A87 : Option Addr, ∃ cap88 : Nat, ∃ fp89 : List Nat, ∃ l91 : List (Int), ∃ A92 : Option Addr, ∃ cap93 : Nat, ∃ fp94 : List Nat, (l86, l91) = s104 ∧ Fr 91 [(0, .slice A0 (l0).length cap0), (1, .slice A1 (l1).length cap1), (7, .slice A87 (l86).length cap88), (8, .slice A92 (l91).length cap93)] a' ∧ Sl 2 encII w' fp0 A0 l0 ∧ SlR 1 encI w' fp1 A1 l1 ∧ Ow 5 encIIIII 52 w' fp89 A87 cap88 l86 ∧ Ow 1 encI 2 w' fp94 A92 cap93 l91 ∧ (∀ x ∈ fp89, w0.heap.size ≤ x) ∧ (∀ x ∈ fp94, w0.heap.size ≤ x) ∧ Dj fp94 fp89 ∧ Chg [] w0 w' ∧ w0.heap.size ≤ w'.heap.size) ?_ ?_
      · have hm := hs105
        refine cW_drawnTail [] 7 (by kernel_rfl) (by kernel_rfl) (fun w106 hc107 => ?_)
        replace F0 := F0.chg hc107 Dj.nil
        replace F1 := F1.chg hc107 Dj.nil
        replace hB := hB.inS hc107 inNil
        replace hZ := Nat.le_trans hZ hc107.size
        have hS := Chg.refl [] w106
        have Z108 := F0
        have Z109 := F1
        refine wH_take [1, 2, 3, 4] [4, 3, 2, 1] [(31, .int .i64 (wr ((wr (2 * (((l0).length : Int)))) - 1))), (30, .int .i64 (wr (2 * (((l0).length : Int))))), (29, .int .i64 (((l0).length : Int))), (28, .slice A0 (l0).length cap0)] (by kernel_rfl) (qT (qT (qT qZ))) (by kernel_rfl) ?_
        refine wH_all [0, 5] (by rfl) (by kernel_rfl) (by simp) ⟨⟨by kernel_rfl, ?_⟩, ⟨by kernel_rfl, ?_⟩, trivial⟩
        · skip
          refine wS_bs0 (α := Int × Int × Int × Int × Int) (enc := encIIIII) (d := 27) (t := 75) (T := 52) (by kernel_rfl) el75 ?_
          intro b110 w111 G112 F113 hc114
          replace F0 := F0.chg hc114 Dj.nil
          replace F1 := F1.chg hc114 Dj.nil
          replace hB := hB.inS hc114 inNil
          have hSz := hS
          replace hS := hS.inS hc114 inNil
          have Gz116 := low1 (Nat.le_trans hSz.size G112)
          replace G112 := Nat.le_trans hZ G112
          replace G112 := low1 G112
          replace hZ := Nat.le_trans hZ hc114.size
          refine wS_end (by kernel_rfl) ?_
          refine eX_KH hS ?_
          refine wH_take [6] [6, 0, 4, 3, 2, 1] [(7, .slice (some ⟨b110, 0, none⟩) (([] : List (Int × Int × Int × Int × Int))).length 0)] (by kernel_rfl) (qT (qT (qT qZ))) (by kernel_rfl) ?_
          refine wH_all [5] (by rfl) (by kernel_rfl) (by simp) ⟨⟨by kernel_rfl, ?_⟩, trivial⟩
          obtain ⟨_, hk117, hm⟩ := bindE hm
          replace hk117 := mkE hk117
          refine wS_make (enc := encI) (x0 := (0 : Int)) (d := 32) (t := 68) (T := 2) (k1 := .i64) (k2 := .i64) (m := wr ((wr (2 * (((l0).length : Int)))) - 1)) (by kernel_rfl) el68 encI_ok (by rfl) hk117.1 hk117.2 ?_
          intro b118 w119 G120 F121 hc122
          have D124 : Dj [b110] [b118] := Dj.of F113.low (low1 G120)
          replace F0 := F0.chg hc122 Dj.nil
          replace F1 := F1.chg hc122 Dj.nil
          replace F113 := F113.chg hc122 Dj.nil
          replace hB := hB.inS hc122 inNil
          have hSz := hS
          replace hS := hS.inS hc122 inNil
          have Gz125 := low1 (Nat.le_trans hSz.size G120)
          replace G120 := Nat.le_trans hZ G120
          replace G120 := low1 G120
          replace hZ := Nat.le_trans hZ hc122.size
          refine wS_end (by kernel_rfl) ?_
          refine eX_KH hS ?_
          refine wH_done (by kernel_rfl) ?_
          refine eX_tail ?_
          refine wS_pure 1 [(8, .slice (some ⟨b118, 0, none⟩) (List.replicate (Int.toNat (wr ((wr (2 * (((l0).length : Int)))) - 1))) ((0 : Int))).length (Int.toNat (wr ((wr (2 * (((l0).length : Int)))) - 1))))] (by kernel_rfl) ?_
          refine wS_end (by rfl) ?_
          have hq : (some ((([] : List (Int × Int × Int × Int × Int)), List.replicate (Int.toNat (wr ((wr (2 * (((l0).length : Int)))) - 1))) ((0 : Int)))) : Option ((List (Int × Int × Int × Int × Int)) × (List (Int)))) = some _ := hm
          replace hq := someE hq
          subst hq
          exact eX_J (fun hst => ⟨([] : List (Int × Int × Int × Int × Int)), (some ⟨b110, 0, none⟩), 0, [b110], List.replicate (Int.toNat (wr ((wr (2 * (((l0).length : Int)))) - 1))) ((0 : Int)), (some ⟨b118, 0, none⟩), (Int.toNat (wr ((wr (2 * (((l0).length : Int)))) - 1))), [b118], rfl, Fr.of hst (by kernel_rfl), F0, F1, F113, F121, G112, G120, (D124).symm, hB, hZ⟩)
        · skip
          obtain ⟨_, hk126, hm⟩ := bindE hm
          replace hk126 := mkE hk126
          refine wS_make (enc := encI) (x0 := (0 : Int)) (d := 32) (t := 68) (T := 2) (k1 := .i64) (k2 := .i64) (m := wr ((wr (2 * (((l0).length : Int)))) - 1)) (by kernel_rfl) el68 encI_ok (by rfl) hk126.1 hk126.2 ?_
          intro b127 w128 G129 F130 hc131
          replace F0 := F0.chg hc131 Dj.nil
          replace F1 := F1.chg hc131 Dj.nil
          replace hB := hB.inS hc131 inNil
          have hSz := hS
          replace hS := hS.inS hc131 inNil
          have Gz133 := low1 (Nat.le_trans hSz.size G129)
          replace G129 := Nat.le_trans hZ G129
          replace G129 := low1 G129
          replace hZ := Nat.le_trans hZ hc131.size
          refine wS_end (by kernel_rfl) ?_
          refine eX_KH hS ?_
          refine wH_all [0] (by rfl) (by kernel_rfl) (by simp) ⟨⟨by kernel_rfl, ?_⟩, trivial⟩
          refine wS_bs0 (α := Int × Int × Int × Int × Int) (enc := encIIIII) (d := 27) (t := 75) (T := 52) (by kernel_rfl) el75 ?_
          intro b134 w135 G136 F137 hc138
          have D140 : Dj [b127] [b134] := Dj.of F130.low (low1 G136)
          replace F0 := F0.chg hc138 Dj.nil
          replace F1 := F1.chg hc138 Dj.nil
          replace F130 := F130.chg hc138 Dj.nil
          replace hB := hB.inS hc138 inNil
          have hSz := hS
          replace hS := hS.inS hc138 inNil
          have Gz141 := low1 (Nat.le_trans hSz.size G136)
          replace G136 := Nat.le_trans hZ G136
          replace G136 := low1 G136
          replace hZ := Nat.le_trans hZ hc138.size
          refine wS_end (by kernel_rfl) ?_
          refine eX_KH hS ?_
          refine wH_take [6] [6, 0, 5, 4, 3, 2, 1] [(7, .slice (some ⟨b134, 0, none⟩) (([] : List (Int × Int × Int × Int × Int))).length 0)] (by kernel_rfl) (qT (qT (qT qZ))) (by kernel_rfl) ?_
          refine wH_done (by kernel_rfl) ?_
          refine eX_tail ?_
          refine wS_pure 1 [(8, .slice (some ⟨b127, 0, none⟩) (List.replicate (Int.toNat (wr ((wr (2 * (((l0).length : Int)))) - 1))) ((0 : Int))).length (Int.toNat (wr ((wr (2 * (((l0).length : Int)))) - 1))))] (by kernel_rfl) ?_
          refine wS_end (by rfl) ?_
          have hq : (some ((([] : List (Int × Int × Int × Int × Int)), List.replicate (Int.toNat (wr ((wr (2 * (((l0).length : Int)))) - 1))) ((0 : Int)))) : Option ((List (Int × Int × Int × Int × Int)) × (List (Int)))) = some _ := hm
          replace hq := someE hq
          subst hq
          exact eX_J (fun hst => ⟨([] : List (Int × Int × Int × Int × Int)), (some ⟨b134, 0, none⟩), 0, [b134], List.replicate (Int.toNat (wr ((wr (2 * (((l0).length : Int)))) - 1))) ((0 : Int)), (some ⟨b127, 0, none⟩), (Int.toNat (wr ((wr (2 * (((l0).length : Int)))) - 1))), [b127], rfl, Fr.of hst (by kernel_rfl), F0, F1, F137, F130, G136, G129, D140, hB, hZ⟩)
      · rintro a' w85 ⟨l86, A87, cap88, fp89, l91, A92, cap93, fp94, hJ, hF96, F97, F98, F99, F100, G101, G102, D103, hB, hZ⟩
        subst hJ
        refine Fr.goX hF96 (by kernel_rfl) ?_
        refine eX_then ?_
        refine cW_seq ?_
        refine cW_seq ?_
        refine cW_region ?_
        refine wS_pure 3 [(35, .int .i64 (0)), (34, .int .i64 (((l0).length : Int))), (33, .slice A0 (l0).length cap0)] (by kernel_rfl) ?_
        refine wS_end (by rfl) ?_
        refine eX_then ?_
        obtain ⟨r266, hr267, hm⟩ := bindE hm
        have hm268 := hm
        refine cW_cut (fun a' w' => ∃ l241 : List (Int × Int × Int × Int × Int), ∃ A242 : Option Addr, ∃ cap243 : Nat, ∃ fp244 : List Nat, l241 = r266 ∧ Fr 91 [(1, .slice A1 (l1).length cap1), (7, .slice A242 (l241).length cap243), (8, .slice A92 (l91).length cap93)] a' ∧ SlR 1 encI w' fp1 A1 l1 ∧ Ow 1 encI 2 w' fp94 A92 cap93 l91 ∧ Ow 5 encIIIII 52 w' fp244 A242 cap243 l241 ∧ (∀ x ∈ fp244, w0.heap.size ≤ x) ∧ Dj fp94 fp244 ∧ Chg [] w0 w' ∧ w0.heap.size ≤ w'.heap.size) ?_ ?_
        · refine cW_block ?_
          refine cW_loop _ (fun (s269 : (List (Int × Int × Int × Int × Int)) × Int) a' w' => ∃ l253 : List (Int × Int × Int × Int × Int), ∃ A254 : Option Addr, ∃ cap255 : Nat, ∃ fp256 : List Nat, ∃ x258 : Int, (l253, x258) = s269 ∧ Fr 91 [(1, .slice A1 (l1).length cap1), (7, .slice A254 (l253).length cap255), (8, .slice A92 (l91).length cap93), (33, .slice A0 (l0).length cap0), (34, .int .i64 (((l0).length : Int))), (35, .int .i64 (x258))] a' ∧ Sl 2 encII w' fp0 A0 l0 ∧ SlR 1 encI w' fp1 A1 l1 ∧ Ow 1 encI 2 w' fp94 A92 cap93 l91 ∧ Ow 5 encIIIII 52 w' fp256 A254 cap255 l253 ∧ (∀ x ∈ fp256, w0.heap.size ≤ x) ∧ Dj fp94 fp256 ∧ Chg [] w0 w' ∧ w0.heap.size ≤ w'.heap.size) hr267 (fun hst => ⟨l86, A87, cap88, fp89, 0, rfl, Fr.of hst (by kernel_rfl), F97, F98, F100, F99, G101, D103, hB, hZ⟩) ?_
          rintro _ c270 a' w252 ⟨l253, A254, cap255, fp256, x258, rfl, hF259, F260, F261, F262, F263, G264, D265, hB, hZ⟩ hx271
          refine Fr.goOn hF259 (by kernel_rfl) ?_
          have hm := hx271
          unfold m_impl_tree_s1 at hm
          refine cW_seq ?_
          refine cW_region ?_
          refine wS_pure 1 [(36, .bool (decide (x258 < (((l0).length : Int)))))] (by kernel_rfl) ?_
          refine wS_end (by rfl) ?_
          refine eX_then ?_
          refine cW_seq ?_
          refine cW_cond (t := decide (x258 < (((l0).length : Int)))) (by kernel_rfl) (fun hb272 => ?_) (fun hb272 => ?_)
          · have hm := condT hb272 hm
            refine cW_skip ?_
            refine eX_then ?_
            refine cW_seq ?_
            refine cW_block ?_
            refine cW_seq ?_
            refine cW_region ?_
            obtain ⟨x273, hx274, hm⟩ := bindE hm
            refine wS_idx (d := 37) (T := 59) (A := A0) (n := (l0).length) (cap := cap0) (kd := .i64) (m := x258) (by kernel_rfl) sl59 (F260.is hx274) ?_
            refine wS_loadA (d := 38) (T := 32) (ad := (elA A0 2 (x258) 0)) (vs := [.int .i64 (x273.1), .int .i64 (x273.2)]) (by kernel_rfl) vt32 (fun i u hu => Sl.cells_at F260 hx274 0 hu (by rfl)) ?_
            refine wS_alloc (d := 10) (T := 32) (z := .agg #[.int .i64 (0), .int .i64 (0)]) (by kernel_rfl) (by kernel_rfl) ?_
            intro b275 w276 G277 F278 hc279
            replace F278 : Cl w276 b275 32 [.int .i64 (0), .int .i64 (0)] := F278
            have D281 : Dj fp94 [b275] := Dj.of F262.low (low1 G277)
            have D282 : Dj fp256 [b275] := Dj.of F263.low (low1 G277)
            replace F260 := F260.chg hc279 Dj.nil
            replace F261 := F261.chg hc279 Dj.nil
            replace F262 := F262.chg hc279 Dj.nil
            replace F263 := F263.chg hc279 Dj.nil
            replace hB := hB.inS hc279 inNil
            replace G277 := Nat.le_trans hZ G277
            replace hZ := Nat.le_trans hZ hc279.size
            refine wS_store (T := 32) (g := b275) (o := 0) (ad := ⟨b275, 0, none⟩) (v := .agg #[.int .i64 (x273.1), .int .i64 (x273.2)]) (vs := [.int .i64 (x273.1), .int .i64 (x273.2)]) (by kernel_rfl) (by rfl) sz32 (by rfl) (by rfl) F278 (by simp only [List.length_cons, List.length_nil]; omega) ?_
            intro w283 F284 hc285
            replace F260 := F260.chg hc285 (Dj.of L0 (low1 G277))
            replace F261 := F261.chg hc285 (Dj.of L1 (low1 G277))
            replace F262 := F262.chg hc285 D281
            replace F263 := F263.chg hc285 D282
            replace hB := hB.inS hc285 (inLow (low1 G277))
            replace hZ := Nat.le_trans hZ hc285.size
            replace F284 : Cl w283 b275 32 [.int .i64 (x273.1), .int .i64 (x273.2)] := F284
            clear F278
            refine wS_end (by rfl) ?_
            refine eX_then ?_
            refine cW_region ?_
            refine wS_pure 1 [(39, .slice A254 (l253).length cap255)] (by kernel_rfl) ?_
            refine wS_loadA (d := 40) (T := 32) (ad := ⟨b275, 0, none⟩) (vs := [.int .i64 (x273.1), .int .i64 (x273.2)]) (by kernel_rfl) vt32 (fun i u hu => box_cells F284 0 hu (by rfl)) ?_
            obtain ⟨y286, hy287, hm⟩ := bindE hm
            refine wS_calls (d := 41) (f := 87) (vs := [.agg #[.int .i64 (x273.1), .int .i64 (x273.2)]]) (by kernel_rfl) ent87 (c_impl_leaf hy287) ?_
            rintro _ w288 ⟨rfl, hc289⟩
            replace F260 := F260.chg hc289 Dj.nil
            replace F261 := F261.chg hc289 Dj.nil
            replace F262 := F262.chg hc289 Dj.nil
            replace F263 := F263.chg hc289 Dj.nil
            replace F284 := F284.chg hc289 notNil
            replace hB := hB.inS hc289 inNil
            replace hZ := Nat.le_trans hZ hc289.size
            refine ⟨.agg #[.int .i64 (y286.1), .int .i64 (y286.2.1), .int .i64 (y286.2.2.1), .int .i64 (y286.2.2.2)], rfl, ?_⟩
            refine wS_pure 1 [(42, .agg #[.int .i64 (y286.1), .int .i64 (y286.2.1), .int .i64 (y286.2.2.1), .int .i64 (y286.2.2.2), .int .i64 (0)])] (by kernel_rfl) ?_
            refine wS_bs (enc := encIIIII) ([(y286.1, y286.2.1, y286.2.2.1, y286.2.2.2, 0)] : List (Int × Int × Int × Int × Int)) [.int .i64 (y286.1), .int .i64 (y286.2.1), .int .i64 (y286.2.2.1), .int .i64 (y286.2.2.2), .int .i64 (0)] (d := 43) (t := 75) (T := 52) (n := 1) (ps := [(0, .agg #[.int .i64 (y286.1), .int .i64 (y286.2.1), .int .i64 (y286.2.2.1), .int .i64 (y286.2.2.2), .int .i64 (0)])]) (by kernel_rfl) el75 encIIIII_ok (by rfl) (by omega) (by omega) (by kernel_rfl) (by rfl) ?_
            intro b290 w291 G292 F293 hc294
            have D296 : Dj fp94 [b290] := Dj.of F262.low (low1 G292)
            have D297 : Dj fp256 [b290] := Dj.of F263.low (low1 G292)
            have D298 : Dj [b275] [b290] := Dj.of (lt1 F284.lt) (low1 G292)
            replace F260 := F260.chg hc294 Dj.nil
            replace F261 := F261.chg hc294 Dj.nil
            replace F262 := F262.chg hc294 Dj.nil
            replace F263 := F263.chg hc294 Dj.nil
            replace F284 := F284.chg hc294 notNil
            replace hB := hB.inS hc294 inNil
            replace G292 := Nat.le_trans hZ G292
            replace G292 := low1 G292
            replace hZ := Nat.le_trans hZ hc294.size
            obtain ⟨_, hk299, hm⟩ := bindE hm
            replace hk299 := apE hk299
            refine wS_append (enc := encIIIII) (l := (l253 : List (Int × Int × Int × Int × Int))) (l2 := (([(y286.1, y286.2.1, y286.2.2.1, y286.2.2.2, 0)] : List (Int × Int × Int × Int × Int)) : List (Int × Int × Int × Int × Int))) (d := 44) (t := 75) (T := 52) (A := A254) (A2 := (some ⟨b290, 0, none⟩)) (cap := cap255) (cap2 := 1) (by kernel_rfl) el75 encIIIII_ok F263 (F293.sl encIIIII_ok) (by rfl) hk299 ?_
            intro w300 fp301 A302 cap303 F304 hc305 hp306
            have G308 := low_ap G264 hZ hp306
            have D309 : Dj fp94 fp301 := Dj.ap D265 F262.low hp306
            have D310 : Dj [b275] fp301 := Dj.ap (D282).symm (lt1 F284.lt) hp306
            have D311 : Dj [b290] fp301 := Dj.ap (D297).symm F293.low hp306
            replace F260 := F260.chg hc305 (Dj.of L0 G264)
            replace F261 := F261.chg hc305 (Dj.of L1 G264)
            replace F262 := F262.chg hc305 D265
            replace F284 := F284.chg hc305 (dj1 (D282).symm)
            replace F293 := F293.chg hc305 (D297).symm
            replace hB := hB.inS hc305 (inLow G264)
            replace hZ := Nat.le_trans hZ hc305.size
            refine wS_pure 1 [(7, .slice A302 (l253 ++ (([(y286.1, y286.2.1, y286.2.2.1, y286.2.2.2, 0)] : List (Int × Int × Int × Int × Int)))).length cap303)] (by kernel_rfl) ?_
            refine wS_end (by rfl) ?_
            refine eX_block ?_
            refine eX_then ?_
            refine cW_region ?_
            refine wS_pure 2 [(35, .int .i64 (wr (x258 + 1))), (45, .int .i64 (wr (x258 + 1)))] (by kernel_rfl) ?_
            refine wS_end (by rfl) ?_
            have hq : (some (Ctl.next ((l253 ++ (([(y286.1, y286.2.1, y286.2.2.1, y286.2.2.2, 0)] : List (Int × Int × Int × Int × Int))), wr (x258 + 1)))) : Option (Ctl ((List (Int × Int × Int × Int × Int)) × Int) ((List (Int × Int × Int × Int × Int))))) = some _ := hm
            replace hq := someE hq
            subst hq
            exact eX_next hx271 (fun hst => ⟨l253 ++ (([(y286.1, y286.2.1, y286.2.2.1, y286.2.2.2, 0)] : List (Int × Int × Int × Int × Int))), A302, cap303, fp301, wr (x258 + 1), rfl, Fr.of hst (by kernel_rfl), F260, F261, F262, F304, G308, D309, hB, hZ⟩)
          · have hm := condF hb272 hm
            refine cW_exit ?_
            refine eX_then_exit ?_
            have hq : (some (Ctl.out l253) : Option (Ctl ((List (Int × Int × Int × Int × Int)) × Int) ((List (Int × Int × Int × Int × Int))))) = some _ := hm
            replace hq := someE hq
            subst hq
            refine eX_outX hx271 (fun hr312 => ?_)
            replace hr312 := hr312.symm
            subst hr312
            refine eX_block_hit ?_
            exact eX_J (fun hst => ⟨l253, A254, cap255, fp256, rfl, Fr.of hst (by kernel_rfl), F261, F262, F263, G264, D265, hB, hZ⟩)
        · rintro a' w240 ⟨l241, A242, cap243, fp244, hJ, hF246, F247, F248, F249, G250, D251, hB, hZ⟩
          subst hJ
          refine Fr.goX hF246 (by kernel_rfl) ?_
          refine eX_then ?_
          refine cW_seq ?_
          refine cW_seq ?_
          refine cW_region ?_
          refine wS_pure 3 [(48, .int .i64 (0)), (47, .int .i64 (((l1).length : Int))), (46, .slice A1 (l1).length cap1)] (by kernel_rfl) ?_
          refine wS_end (by rfl) ?_
          refine eX_then ?_
          obtain ⟨r828, hr829, hm⟩ := bindE hm
          have hm830 := hm
          refine cW_cut (fun a' w' => ∃ l803 : List (Int × Int × Int × Int × Int), ∃ A804 : Option Addr, ∃ cap805 : Nat, ∃ fp806 : List Nat, ∃ l808 : List (Int), Sum.inl ((l803, l808)) = r828 ∧ Fr 91 [(7, .slice A804 (l803).length cap805), (8, .slice A92 (l808).length cap93)] a' ∧ Ow 1 encI 2 w' fp94 A92 cap93 l808 ∧ Ow 5 encIIIII 52 w' fp806 A804 cap805 l803 ∧ (∀ x ∈ fp806, w0.heap.size ≤ x) ∧ Dj fp94 fp806 ∧ Chg [] w0 w' ∧ w0.heap.size ≤ w'.heap.size) ?_ ?_
          · refine cW_block ?_
            refine cW_loop _ (fun (s831 : (List (Int × Int × Int × Int × Int)) × Int × (List (Int))) a' w' => ∃ l815 : List (Int × Int × Int × Int × Int), ∃ A816 : Option Addr, ∃ cap817 : Nat, ∃ fp818 : List Nat, ∃ x820 : Int, ∃ l821 : List (Int), (l815, x820, l821) = s831 ∧ Fr 91 [(7, .slice A816 (l815).length cap817), (8, .slice A92 (l821).length cap93), (46, .slice A1 (l1).length cap1), (47, .int .i64 (((l1).length : Int))), (48, .int .i64 (x820))] a' ∧ SlR 1 encI w' fp1 A1 l1 ∧ Ow 1 encI 2 w' fp94 A92 cap93 l821 ∧ Ow 5 encIIIII 52 w' fp818 A816 cap817 l815 ∧ (∀ x ∈ fp818, w0.heap.size ≤ x) ∧ Dj fp94 fp818 ∧ Chg [] w0 w' ∧ w0.heap.size ≤ w'.heap.size) hr829 (fun hst => ⟨l241, A242, cap243, fp244, 0, l91, rfl, Fr.of hst (by kernel_rfl), F247, F248, F249, G250, D251, hB, hZ⟩) ?_
            rintro _ c832 a' w814 ⟨l815, A816, cap817, fp818, x820, l821, rfl, hF822, F823, F824, F825, G826, D827, hB, hZ⟩ hx833
            refine Fr.goOn hF822 (by kernel_rfl) ?_
            have hm := hx833
            unfold m_impl_tree_s2 at hm
            refine cW_seq ?_
            refine cW_region ?_
            refine wS_pure 1 [(49, .bool (decide (x820 < (((l1).length : Int)))))] (by kernel_rfl) ?_
            refine wS_end (by rfl) ?_
            refine eX_then ?_
            refine cW_seq ?_
            refine cW_cond (t := decide (x820 < (((l1).length : Int)))) (by kernel_rfl) (fun hb834 => ?_) (fun hb834 => ?_)
            · have hm := condT hb834 hm
              refine cW_skip ?_
              refine eX_then ?_
              refine cW_seq ?_
              refine cW_block ?_
              refine cW_seq ?_
              refine cW_region ?_
              obtain ⟨x835, hx836, hm⟩ := bindE hm
              refine wS_idx (d := 50) (T := 44) (A := A1) (n := (l1).length) (cap := cap1) (kd := .i64) (m := x820) (by kernel_rfl) sl44 (F823.is hx836) ?_
              obtain ⟨A837, cap838, hc840, F839⟩ := SlR.row F823 hx836
              refine wS_load1 (d := 51) (T := 68) (ad := (elA A1 1 (x820) 0)) (v := .slice A837 (x835).length cap838) (by kernel_rfl) vt68 hc840 ?_
              refine wS_pure 1 [(12, .slice A837 (x835).length cap838)] (by kernel_rfl) ?_
              refine wS_end (by rfl) ?_
              refine eX_then ?_
              refine cW_seq ?_
              obtain ⟨s954, hs955, hm⟩ := bindE hm
              refine cW_cut (fun a' w' => ∃ b935 : Nat, ∃ x936 : Int, ∃ x937 : Int, ∃ x938 : Int, ∃ x939 : Int, ∃ x940 : Int, ∃ x942 : Int, ∃ x943 : Int, ∃ x944 : Bool, (x936, x937, x938, x939, x940, x942, x943, x944) = s954 ∧ Fr 91 [(7, .slice A816 (l815).length cap817), (8, .slice A92 (l821).length cap93), (12, .slice A837 (x835).length cap838), (13, .pointer (some ⟨b935, 0, none⟩)), (14, .int .i64 (x942)), (15, .int .i64 (x943)), (16, .bool (x944)), (46, .slice A1 (l1).length cap1), (47, .int .i64 (((l1).length : Int))), (48, .int .i64 (x820))] a' ∧ SlR 1 encI w' fp1 A1 l1 ∧ Ow 1 encI 2 w' fp94 A92 cap93 l821 ∧ Ow 5 encIIIII 52 w' fp818 A816 cap817 l815 ∧ Sl 1 encI w' fp1 A837 x835 ∧ Cl w' b935 52 [.int .i64 (x936), .int .i64 (x937), .int .i64 (x938), .int .i64 (x939), .int .i64 (x940)] ∧ w0.heap.size ≤ b935 ∧ Dj fp94 [b935] ∧ Dj fp818 [b935] ∧ Chg [] w0 w' ∧ w0.heap.size ≤ w'.heap.size) ?_ ?_
              · have hm := hs955
                refine cW_drawnTail [] 22 (by kernel_rfl) (by kernel_rfl) (fun w956 hc957 => ?_)
                replace F823 := F823.chg hc957 Dj.nil
                replace F824 := F824.chg hc957 Dj.nil
                replace F825 := F825.chg hc957 Dj.nil
                replace F839 := F839.chg hc957 Dj.nil
                replace hB := hB.inS hc957 inNil
                replace hZ := Nat.le_trans hZ hc957.size
                have hS := Chg.refl [] w956
                have Z958 := F823
                have Z959 := F824
                have Z960 := F825
                have Z961 := F839
                refine wH_take [0, 1] [1, 0] [(54, .slice A837 (x835).length cap838), (53, .slice A816 (l815).length cap817)] (by kernel_rfl) (qT (qT (qT (qB (qT (qL (qB (qT (qT qZ))))))))) (by kernel_rfl) ?_
                obtain ⟨x962, hx963, hm⟩ := bindE hm
                refine wH_idx (i := 2) (d := 55) (T := 68) (A := A837) (n := (x835).length) (cap := cap838) (kd := .i64) (m := 0) (by kernel_rfl) (qT (qT (qT (qB (qT (qL (qB (qT (qT qZ))))))))) (by kernel_rfl) (by kernel_rfl) sl68 (F839.is hx963) ?_
                refine wH_load1 (i := 3) (d := 56) (T := 2) (ad := (elA A837 1 (0) 0)) (v := .int .i64 (x962)) (by kernel_rfl) (qT (qT (qT (qB (qT (qL (qB (qT (qT qZ))))))))) (by kernel_rfl) (by kernel_rfl) vt2 (fun W hW => Sl.cell (Z961.chg hW Dj.nil) hx963 0 (by rfl)) ?_
                obtain ⟨x964, hx965, hm⟩ := bindE hm
                refine wH_idx (i := 4) (d := 57) (T := 75) (A := A816) (n := (l815).length) (cap := cap817) (kd := .i64) (m := x962) (by kernel_rfl) (qT (qT (qT (qB (qT (qL (qB (qT (qT qZ))))))))) (by kernel_rfl) (by kernel_rfl) sl75 ((F825.sl encIIIII_ok).is hx965) ?_
                refine wH_loadA (i := 5) (d := 58) (T := 52) (ad := (elA A816 5 (x962) 0)) (vs := [.int .i64 (x964.1), .int .i64 (x964.2.1), .int .i64 (x964.2.2.1), .int .i64 (x964.2.2.2.1), .int .i64 (x964.2.2.2.2)]) (by kernel_rfl) (qT (qT (qT (qB (qT (qL (qB (qT (qT qZ))))))))) (by kernel_rfl) (by kernel_rfl) vt52 (fun W hW i u hu => Sl.cells_at ((Z960.chg hW Dj.nil).sl encIIIII_ok) hx965 0 hu (by rfl)) ?_
                refine wH_take [6, 7] [7, 6, 5, 4, 3, 2, 1, 0] [(60, .slice A837 (x835).length cap838), (59, .slice A816 (l815).length cap817)] (by kernel_rfl) (qT (qT (qT (qB (qT (qL (qB (qT (qT qZ))))))))) (by kernel_rfl) ?_
                obtain ⟨x966, hx967, hm⟩ := bindE hm
                refine wH_idx (i := 8) (d := 61) (T := 68) (A := A837) (n := (x835).length) (cap := cap838) (kd := .i64) (m := 1) (by kernel_rfl) (qT (qT (qT (qB (qT (qL (qB (qT (qT qZ))))))))) (by kernel_rfl) (by kernel_rfl) sl68 (F839.is hx967) ?_
                refine wH_load1 (i := 9) (d := 62) (T := 2) (ad := (elA A837 1 (1) 0)) (v := .int .i64 (x966)) (by kernel_rfl) (qT (qT (qT (qB (qT (qL (qB (qT (qT qZ))))))))) (by kernel_rfl) (by kernel_rfl) vt2 (fun W hW => Sl.cell (Z961.chg hW Dj.nil) hx967 0 (by rfl)) ?_
                obtain ⟨x968, hx969, hm⟩ := bindE hm
                refine wH_idx (i := 10) (d := 63) (T := 75) (A := A816) (n := (l815).length) (cap := cap817) (kd := .i64) (m := x966) (by kernel_rfl) (qT (qT (qT (qB (qT (qL (qB (qT (qT qZ))))))))) (by kernel_rfl) (by kernel_rfl) sl75 ((F825.sl encIIIII_ok).is hx969) ?_
                refine wH_loadA (i := 11) (d := 64) (T := 52) (ad := (elA A816 5 (x966) 0)) (vs := [.int .i64 (x968.1), .int .i64 (x968.2.1), .int .i64 (x968.2.2.1), .int .i64 (x968.2.2.2.1), .int .i64 (x968.2.2.2.2)]) (by kernel_rfl) (qT (qT (qT (qB (qT (qL (qB (qT (qT qZ))))))))) (by kernel_rfl) (by kernel_rfl) vt52 (fun W hW i u hu => Sl.cells_at ((Z960.chg hW Dj.nil).sl encIIIII_ok) hx969 0 hu (by rfl)) ?_
                refine wH_all [12, 18] (by rfl) (by kernel_rfl) (by simp) ⟨⟨by kernel_rfl, ?_⟩, ⟨by kernel_rfl, ?_⟩, trivial⟩
                · skip
                  obtain ⟨y970, hy971, hm⟩ := bindE hm
                  refine wS_calls (d := 65) (f := 98) (vs := [.agg #[.int .i64 (x964.1), .int .i64 (x964.2.1), .int .i64 (x964.2.2.1), .int .i64 (x964.2.2.2.1), .int .i64 (x964.2.2.2.2)], .agg #[.int .i64 (x968.1), .int .i64 (x968.2.1), .int .i64 (x968.2.2.1), .int .i64 (x968.2.2.2.1), .int .i64 (x968.2.2.2.2)]]) (by kernel_rfl) ent98 (c_impl_merge hy971) ?_
                  rintro _ w972 ⟨rfl, hc973⟩
                  replace F823 := F823.chg hc973 Dj.nil
                  replace F824 := F824.chg hc973 Dj.nil
                  replace F825 := F825.chg hc973 Dj.nil
                  replace F839 := F839.chg hc973 Dj.nil
                  replace hB := hB.inS hc973 inNil
                  have hSz := hS
                  replace hS := hS.inS hc973 inNil
                  replace hZ := Nat.le_trans hZ hc973.size
                  refine ⟨.tuple #[.agg #[.int .i64 (y970.1.1), .int .i64 (y970.1.2.1), .int .i64 (y970.1.2.2.1), .int .i64 (y970.1.2.2.2.1), .int .i64 (y970.1.2.2.2.2)], .int .i64 (y970.2.1), .int .i64 (y970.2.2.1), .bool (y970.2.2.2)], rfl, ?_⟩
                  refine wS_end (by kernel_rfl) ?_
                  refine eX_KH hS ?_
                  refine wH_take [13, 14, 15, 16, 17] [17, 16, 15, 14, 13, 12, 11, 10, 9, 8, 7, 6, 5, 4, 3, 2, 1, 0] [(69, .bool (y970.2.2.2)), (68, .int .i64 (y970.2.2.1)), (67, .int .i64 (y970.2.1)), (66, .agg #[.int .i64 (y970.1.1), .int .i64 (y970.1.2.1), .int .i64 (y970.1.2.2.1), .int .i64 (y970.1.2.2.2.1), .int .i64 (y970.1.2.2.2.2)]), (52, .tuple #[.agg #[.int .i64 (y970.1.1), .int .i64 (y970.1.2.1), .int .i64 (y970.1.2.2.1), .int .i64 (y970.1.2.2.2.1), .int .i64 (y970.1.2.2.2.2)], .int .i64 (y970.2.1), .int .i64 (y970.2.2.1), .bool (y970.2.2.2)])] (by kernel_rfl) (qT (qT (qT (qB (qT (qL (qB (qT (qT qZ))))))))) (by kernel_rfl) ?_
                  refine wH_all [18] (by rfl) (by kernel_rfl) (by simp) ⟨⟨by kernel_rfl, ?_⟩, trivial⟩
                  refine wS_alloc (d := 13) (T := 52) (z := .agg #[.int .i64 (0), .int .i64 (0), .int .i64 (0), .int .i64 (0), .int .i64 (0)]) (by kernel_rfl) (by kernel_rfl) ?_
                  intro b974 w975 G976 F977 hc978
                  replace F977 : Cl w975 b974 52 [.int .i64 (0), .int .i64 (0), .int .i64 (0), .int .i64 (0), .int .i64 (0)] := F977
                  have D980 : Dj fp94 [b974] := Dj.of F824.low (low1 G976)
                  have D981 : Dj fp818 [b974] := Dj.of F825.low (low1 G976)
                  replace F823 := F823.chg hc978 Dj.nil
                  replace F824 := F824.chg hc978 Dj.nil
                  replace F825 := F825.chg hc978 Dj.nil
                  replace F839 := F839.chg hc978 Dj.nil
                  replace hB := hB.inS hc978 inNil
                  have hSz := hS
                  replace hS := hS.inS hc978 inNil
                  have Gz982 := low1 (Nat.le_trans hSz.size G976)
                  replace G976 := Nat.le_trans hZ G976
                  replace hZ := Nat.le_trans hZ hc978.size
                  refine wS_end (by kernel_rfl) ?_
                  refine eX_KH hS ?_
                  refine wH_all [19] (by rfl) (by kernel_rfl) (by simp) ⟨⟨by kernel_rfl, ?_⟩, trivial⟩
                  refine wS_store (T := 52) (g := b974) (o := 0) (ad := ⟨b974, 0, none⟩) (v := .agg #[.int .i64 (y970.1.1), .int .i64 (y970.1.2.1), .int .i64 (y970.1.2.2.1), .int .i64 (y970.1.2.2.2.1), .int .i64 (y970.1.2.2.2.2)]) (vs := [.int .i64 (y970.1.1), .int .i64 (y970.1.2.1), .int .i64 (y970.1.2.2.1), .int .i64 (y970.1.2.2.2.1), .int .i64 (y970.1.2.2.2.2)]) (by kernel_rfl) (by rfl) sz52 (by rfl) (by rfl) F977 (by simp only [List.length_cons, List.length_nil]; omega) ?_
                  intro w983 F984 hc985
                  replace F823 := F823.chg hc985 (Dj.of L1 (low1 G976))
                  replace F824 := F824.chg hc985 D980
                  replace F825 := F825.chg hc985 D981
                  replace F839 := F839.chg hc985 (Dj.of L1 (low1 G976))
                  replace hB := hB.inS hc985 (inLow (low1 G976))
                  have hSz := hS
                  replace hS := hS.inS hc985 (inLow Gz982)
                  replace hZ := Nat.le_trans hZ hc985.size
                  replace F984 : Cl w983 b974 52 [.int .i64 (y970.1.1), .int .i64 (y970.1.2.1), .int .i64 (y970.1.2.2.1), .int .i64 (y970.1.2.2.2.1), .int .i64 (y970.1.2.2.2.2)] := F984
                  clear F977
                  refine wS_end (by kernel_rfl) ?_
                  refine eX_KH hS ?_
                  refine wH_take [20, 21] [21, 20, 19, 18, 17, 16, 15, 14, 13, 12, 11, 10, 9, 8, 7, 6, 5, 4, 3, 2, 1, 0] [(15, .int .i64 (y970.2.2.1)), (14, .int .i64 (y970.2.1))] (by kernel_rfl) (qT (qT (qT (qB (qT (qL (qB (qT (qT qZ))))))))) (by kernel_rfl) ?_
                  refine wH_done (by kernel_rfl) ?_
                  refine eX_tail ?_
                  refine wS_pure 1 [(16, .bool (y970.2.2.2))] (by kernel_rfl) ?_
                  refine wS_end (by rfl) ?_
                  have hq : (some ((y970.1.1, y970.1.2.1, y970.1.2.2.1, y970.1.2.2.2.1, y970.1.2.2.2.2, y970.2.1, y970.2.2.1, y970.2.2.2)) : Option (Int × Int × Int × Int × Int × Int × Int × Bool)) = some _ := hm
                  replace hq := someE hq
                  subst hq
                  exact eX_J (fun hst => ⟨b974, y970.1.1, y970.1.2.1, y970.1.2.2.1, y970.1.2.2.2.1, y970.1.2.2.2.2, y970.2.1, y970.2.2.1, y970.2.2.2, rfl, Fr.of hst (by kernel_rfl), F823, F824, F825, F839, F984, G976, D980, D981, hB, hZ⟩)
                · skip
                  refine wS_alloc (d := 13) (T := 52) (z := .agg #[.int .i64 (0), .int .i64 (0), .int .i64 (0), .int .i64 (0), .int .i64 (0)]) (by kernel_rfl) (by kernel_rfl) ?_
                  intro b986 w987 G988 F989 hc990
                  replace F989 : Cl w987 b986 52 [.int .i64 (0), .int .i64 (0), .int .i64 (0), .int .i64 (0), .int .i64 (0)] := F989
                  have D992 : Dj fp94 [b986] := Dj.of F824.low (low1 G988)
                  have D993 : Dj fp818 [b986] := Dj.of F825.low (low1 G988)
                  replace F823 := F823.chg hc990 Dj.nil
                  replace F824 := F824.chg hc990 Dj.nil
                  replace F825 := F825.chg hc990 Dj.nil
                  replace F839 := F839.chg hc990 Dj.nil
                  replace hB := hB.inS hc990 inNil
                  have hSz := hS
                  replace hS := hS.inS hc990 inNil
                  have Gz994 := low1 (Nat.le_trans hSz.size G988)
                  replace G988 := Nat.le_trans hZ G988
                  replace hZ := Nat.le_trans hZ hc990.size
                  refine wS_end (by kernel_rfl) ?_
                  refine eX_KH hS ?_
                  refine wH_all [12] (by rfl) (by kernel_rfl) (by simp) ⟨⟨by kernel_rfl, ?_⟩, trivial⟩
                  obtain ⟨y995, hy996, hm⟩ := bindE hm
                  refine wS_calls (d := 65) (f := 98) (vs := [.agg #[.int .i64 (x964.1), .int .i64 (x964.2.1), .int .i64 (x964.2.2.1), .int .i64 (x964.2.2.2.1), .int .i64 (x964.2.2.2.2)], .agg #[.int .i64 (x968.1), .int .i64 (x968.2.1), .int .i64 (x968.2.2.1), .int .i64 (x968.2.2.2.1), .int .i64 (x968.2.2.2.2)]]) (by kernel_rfl) ent98 (c_impl_merge hy996) ?_
                  rintro _ w997 ⟨rfl, hc998⟩
                  replace F823 := F823.chg hc998 Dj.nil
                  replace F824 := F824.chg hc998 Dj.nil
                  replace F825 := F825.chg hc998 Dj.nil
                  replace F839 := F839.chg hc998 Dj.nil
                  replace F989 := F989.chg hc998 notNil
                  replace hB := hB.inS hc998 inNil
                  have hSz := hS
                  replace hS := hS.inS hc998 inNil
                  replace hZ := Nat.le_trans hZ hc998.size
                  refine ⟨.tuple #[.agg #[.int .i64 (y995.1.1), .int .i64 (y995.1.2.1), .int .i64 (y995.1.2.2.1), .int .i64 (y995.1.2.2.2.1), .int .i64 (y995.1.2.2.2.2)], .int .i64 (y995.2.1), .int .i64 (y995.2.2.1), .bool (y995.2.2.2)], rfl, ?_⟩
                  refine wS_end (by kernel_rfl) ?_
                  refine eX_KH hS ?_
                  refine wH_take [13, 14, 15, 16, 17] [17, 16, 15, 14, 13, 12, 18, 11, 10, 9, 8, 7, 6, 5, 4, 3, 2, 1, 0] [(69, .bool (y995.2.2.2)), (68, .int .i64 (y995.2.2.1)), (67, .int .i64 (y995.2.1)), (66, .agg #[.int .i64 (y995.1.1), .int .i64 (y995.1.2.1), .int .i64 (y995.1.2.2.1), .int .i64 (y995.1.2.2.2.1), .int .i64 (y995.1.2.2.2.2)]), (52, .tuple #[.agg #[.int .i64 (y995.1.1), .int .i64 (y995.1.2.1), .int .i64 (y995.1.2.2.1), .int .i64 (y995.1.2.2.2.1), .int .i64 (y995.1.2.2.2.2)], .int .i64 (y995.2.1), .int .i64 (y995.2.2.1), .bool (y995.2.2.2)])] (by kernel_rfl) (qT (qT (qT (qB (qT (qL (qB (qT (qT qZ))))))))) (by kernel_rfl) ?_
                  refine wH_all [19] (by rfl) (by kernel_rfl) (by simp) ⟨⟨by kernel_rfl, ?_⟩, trivial⟩
                  refine wS_store (T := 52) (g := b986) (o := 0) (ad := ⟨b986, 0, none⟩) (v := .agg #[.int .i64 (y995.1.1), .int .i64 (y995.1.2.1), .int .i64 (y995.1.2.2.1), .int .i64 (y995.1.2.2.2.1), .int .i64 (y995.1.2.2.2.2)]) (vs := [.int .i64 (y995.1.1), .int .i64 (y995.1.2.1), .int .i64 (y995.1.2.2.1), .int .i64 (y995.1.2.2.2.1), .int .i64 (y995.1.2.2.2.2)]) (by kernel_rfl) (by rfl) sz52 (by rfl) (by rfl) F989 (by simp only [List.length_cons, List.length_nil]; omega) ?_
                  intro w999 F1000 hc1001
                  replace F823 := F823.chg hc1001 (Dj.of L1 (low1 G988))
                  replace F824 := F824.chg hc1001 D992
                  replace F825 := F825.chg hc1001 D993
                  replace F839 := F839.chg hc1001 (Dj.of L1 (low1 G988))
                  replace hB := hB.inS hc1001 (inLow (low1 G988))
                  have hSz := hS
                  replace hS := hS.inS hc1001 (inLow Gz994)
                  replace hZ := Nat.le_trans hZ hc1001.size
                  replace F1000 : Cl w999 b986 52 [.int .i64 (y995.1.1), .int .i64 (y995.1.2.1), .int .i64 (y995.1.2.2.1), .int .i64 (y995.1.2.2.2.1), .int .i64 (y995.1.2.2.2.2)] := F1000
                  clear F989
                  refine wS_end (by kernel_rfl) ?_
                  refine eX_KH hS ?_
                  refine wH_take [20, 21] [21, 20, 19, 17, 16, 15, 14, 13, 12, 18, 11, 10, 9, 8, 7, 6, 5, 4, 3, 2, 1, 0] [(15, .int .i64 (y995.2.2.1)), (14, .int .i64 (y995.2.1))] (by kernel_rfl) (qT (qT (qT (qB (qT (qL (qB (qT (qT qZ))))))))) (by kernel_rfl) ?_
                  refine wH_done (by kernel_rfl) ?_
                  refine eX_tail ?_
                  refine wS_pure 1 [(16, .bool (y995.2.2.2))] (by kernel_rfl) ?_
                  refine wS_end (by rfl) ?_
                  have hq : (some ((y995.1.1, y995.1.2.1, y995.1.2.2.1, y995.1.2.2.2.1, y995.1.2.2.2.2, y995.2.1, y995.2.2.1, y995.2.2.2)) : Option (Int × Int × Int × Int × Int × Int × Int × Bool)) = some _ := hm
                  replace hq := someE hq
                  subst hq
                  exact eX_J (fun hst => ⟨b986, y995.1.1, y995.1.2.1, y995.1.2.2.1, y995.1.2.2.2.1, y995.1.2.2.2.2, y995.2.1, y995.2.2.1, y995.2.2.2, rfl, Fr.of hst (by kernel_rfl), F823, F824, F825, F839, F1000, G988, D992, D993, hB, hZ⟩)
              · rintro a' w934 ⟨b935, x936, x937, x938, x939, x940, x942, x943, x944, hJ, hF945, F946, F947, F948, F949, F950, G951, D952, D953, hB, hZ⟩
                subst hJ
                refine Fr.goX hF945 (by kernel_rfl) ?_
                refine eX_then ?_
                refine cW_seq ?_
                refine cW_seq ?_
                refine cW_region ?_
                refine wS_pure 2 [(71, .bool (!x944)), (70, .bool (x944))] (by kernel_rfl) ?_
                refine wS_end (by rfl) ?_
                refine eX_then ?_
                refine cW_cond (t := !x944) (by kernel_rfl) (fun hb1002 => ?_) (fun hb1002 => ?_)
                · have hm := condT hb1002 hm
                  refine cW_seq ?_
                  refine cW_region ?_
                  refine wS_pure 3 [(6, .bool (false)), (5, .slice none 0 0), (4, .slice none 0 0)] (by kernel_rfl) ?_
                  refine wS_end (by rfl) ?_
                  refine eX_then ?_
                  refine cW_ret ?_
                  refine eX_then_ret ?_
                  refine eX_block_ret ?_
                  refine eX_then_ret ?_
                  have hq : (some (Ctl.out (Sum.inr (([], [], false)))) : Option (Ctl ((List (Int × Int × Int × Int × Int)) × Int × (List (Int))) (Sum ((List (Int × Int × Int × Int × Int)) × (List (Int))) ((List (Int × Int × Int × Int × Int)) × (List (Int)) × (Bool))))) = some _ := hm
                  replace hq := someE hq
                  subst hq
                  refine eX_outR hx833 (fun hr => ?_)
                  subst hr
                  refine eX_block_ret ?_
                  refine eX_then_ret ?_
                  refine eX_then_ret ?_
                  have hq : (some (([], [], false)) : Option ((List (Int × Int × Int × Int × Int)) × (List (Int)) × (Bool))) = some _ := hm830
                  replace hq := someE hq
                  subst hq
                  refine eX_ret (vs := [.slice none 0 0, .slice none 0 0, .bool (false)]) [.tmp 4, .tmp 5, .tmp 6] (by rfl) ⟨by (show lkE _ _ _ = _); kernel_rfl, ⟨by (show lkE _ _ _ = _); kernel_rfl, ⟨by (show lkE _ _ _ = _); kernel_rfl, trivial⟩⟩⟩ ?_
                  exact ⟨none, 0, [], none, 0, [], rfl, Ow.nil _, lowNil, Ow.nil _, lowNil, Dj.nil, hB⟩
                · have hm := condF hb1002 hm
                  refine cW_skip ?_
                  refine eX_then ?_
                  refine cW_seq ?_
                  refine cW_region ?_
                  refine wS_pure 1 [(72, .slice A816 (l815).length cap817)] (by kernel_rfl) ?_
                  refine wS_loadA (d := 73) (T := 52) (ad := ⟨b935, 0, none⟩) (vs := [.int .i64 (x936), .int .i64 (x937), .int .i64 (x938), .int .i64 (x939), .int .i64 (x940)]) (by kernel_rfl) vt52 (fun i u hu => box_cells F950 0 hu (by rfl)) ?_
                  refine wS_bs (enc := encIIIII) ([(x936, x937, x938, x939, x940)] : List (Int × Int × Int × Int × Int)) [.int .i64 (x936), .int .i64 (x937), .int .i64 (x938), .int .i64 (x939), .int .i64 (x940)] (d := 74) (t := 75) (T := 52) (n := 1) (ps := [(0, .agg #[.int .i64 (x936), .int .i64 (x937), .int .i64 (x938), .int .i64 (x939), .int .i64 (x940)])]) (by kernel_rfl) el75 encIIIII_ok (by rfl) (by omega) (by omega) (by kernel_rfl) (by rfl) ?_
                  intro b1003 w1004 G1005 F1006 hc1007
                  have D1009 : Dj fp94 [b1003] := Dj.of F947.low (low1 G1005)
                  have D1010 : Dj fp818 [b1003] := Dj.of F948.low (low1 G1005)
                  have D1011 : Dj [b935] [b1003] := Dj.of (lt1 F950.lt) (low1 G1005)
                  replace F946 := F946.chg hc1007 Dj.nil
                  replace F947 := F947.chg hc1007 Dj.nil
                  replace F948 := F948.chg hc1007 Dj.nil
                  replace F949 := F949.chg hc1007 Dj.nil
                  replace F950 := F950.chg hc1007 notNil
                  replace hB := hB.inS hc1007 inNil
                  replace G1005 := Nat.le_trans hZ G1005
                  replace G1005 := low1 G1005
                  replace hZ := Nat.le_trans hZ hc1007.size
                  obtain ⟨_, hk1012, hm⟩ := bindE hm
                  replace hk1012 := apE hk1012
                  refine wS_append (enc := encIIIII) (l := (l815 : List (Int × Int × Int × Int × Int))) (l2 := (([(x936, x937, x938, x939, x940)] : List (Int × Int × Int × Int × Int)) : List (Int × Int × Int × Int × Int))) (d := 75) (t := 75) (T := 52) (A := A816) (A2 := (some ⟨b1003, 0, none⟩)) (cap := cap817) (cap2 := 1) (by kernel_rfl) el75 encIIIII_ok F948 (F1006.sl encIIIII_ok) (by rfl) hk1012 ?_
                  intro w1013 fp1014 A1015 cap1016 F1017 hc1018 hp1019
                  have G1021 := low_ap G826 hZ hp1019
                  have D1022 : Dj fp94 fp1014 := Dj.ap D827 F947.low hp1019
                  have D1023 : Dj [b935] fp1014 := Dj.ap (D953).symm (lt1 F950.lt) hp1019
                  have D1024 : Dj [b1003] fp1014 := Dj.ap (D1010).symm F1006.low hp1019
                  replace F946 := F946.chg hc1018 (Dj.of L1 G826)
                  replace F947 := F947.chg hc1018 D827
                  replace F949 := F949.chg hc1018 (Dj.of L1 G826)
                  replace F950 := F950.chg hc1018 (dj1 (D953).symm)
                  replace F1006 := F1006.chg hc1018 (D1010).symm
                  replace hB := hB.inS hc1018 (inLow G826)
                  replace hZ := Nat.le_trans hZ hc1018.size
                  refine wS_pure 1 [(7, .slice A1015 (l815 ++ (([(x936, x937, x938, x939, x940)] : List (Int × Int × Int × Int × Int)))).length cap1016)] (by kernel_rfl) ?_
                  refine wS_end (by rfl) ?_
                  refine eX_then ?_
                  refine cW_drawnTail fp94 12 (by kernel_rfl) (by kernel_rfl) (fun w1047 hc1048 => ?_)
                  replace F946 := F946.chg hc1048 Dj.nil
                  replace F947 := F947.chg hc1048 Dj.nil
                  replace F949 := F949.chg hc1048 Dj.nil
                  replace F950 := F950.chg hc1048 notNil
                  replace F1006 := F1006.chg hc1048 Dj.nil
                  replace F1017 := F1017.chg hc1048 Dj.nil
                  replace hB := hB.inS hc1048 inNil
                  replace hZ := Nat.le_trans hZ hc1048.size
                  have hS := Chg.refl fp94 w1047
                  have Z1049 := F946
                  have Z1050 := F947
                  have Z1051 := F949
                  have Z1052 := F950
                  have Z1053 := F1006
                  have Z1054 := F1017
                  refine wH_take [0, 1] [1, 0] [(77, .slice A837 (x835).length cap838), (76, .slice A92 (l821).length cap93)] (by kernel_rfl) (qT (qB (qT (qL (qB (qT (qT qZ))))))) (by kernel_rfl) ?_
                  obtain ⟨x1055, hx1056, hm⟩ := bindE hm
                  refine wH_idx (i := 2) (d := 78) (T := 68) (A := A837) (n := (x835).length) (cap := cap838) (kd := .i64) (m := 0) (by kernel_rfl) (qT (qB (qT (qL (qB (qT (qT qZ))))))) (by kernel_rfl) (by kernel_rfl) sl68 (F949.is hx1056) ?_
                  refine wH_load1 (i := 3) (d := 79) (T := 2) (ad := (elA A837 1 (0) 0)) (v := .int .i64 (x1055)) (by kernel_rfl) (qT (qB (qT (qL (qB (qT (qT qZ))))))) (by kernel_rfl) (by kernel_rfl) vt2 (fun W hW => Sl.cell (Z1051.chg hW (Dj.of L1 G102)) hx1056 0 (by rfl)) ?_
                  refine wH_take [4, 5] [5, 4, 3, 2, 1, 0] [(81, .slice A837 (x835).length cap838), (80, .slice A92 (l821).length cap93)] (by kernel_rfl) (qT (qB (qT (qL (qB (qT (qT qZ))))))) (by kernel_rfl) ?_
                  obtain ⟨x1057, hx1058, hm⟩ := bindE hm
                  refine wH_idx (i := 6) (d := 82) (T := 68) (A := A837) (n := (x835).length) (cap := cap838) (kd := .i64) (m := 1) (by kernel_rfl) (qT (qB (qT (qL (qB (qT (qT qZ))))))) (by kernel_rfl) (by kernel_rfl) sl68 (F949.is hx1058) ?_
                  refine wH_load1 (i := 7) (d := 83) (T := 2) (ad := (elA A837 1 (1) 0)) (v := .int .i64 (x1057)) (by kernel_rfl) (qT (qB (qT (qL (qB (qT (qT qZ))))))) (by kernel_rfl) (by kernel_rfl) vt2 (fun W hW => Sl.cell (Z1051.chg hW (Dj.of L1 G102)) hx1058 0 (by rfl)) ?_
                  refine wH_take [8, 9] [9, 8, 7, 6, 5, 4, 3, 2, 1, 0] [(85, .int .i64 (x943)), (84, .int .i64 (x942))] (by kernel_rfl) (qT (qB (qT (qL (qB (qT (qT qZ))))))) (by kernel_rfl) ?_
                  obtain ⟨x1059, hx1060, hm⟩ := bindE hm
                  refine wH_idx (i := 10) (d := 86) (T := 68) (A := A92) (n := (l821).length) (cap := cap93) (kd := .i64) (m := x1055) (by kernel_rfl) (qT (qB (qT (qL (qB (qT (qT qZ))))))) (by kernel_rfl) (by kernel_rfl) sl68 ((F947.sl encI_ok).is hx1060) ?_
                  refine wH_all [11] (by rfl) (by kernel_rfl) (by simp) ⟨⟨by kernel_rfl, ?_⟩, trivial⟩
                  refine wS_storeEl (x := x1059) x942 (T := 2) (U := 2) (cap := cap93) (j := 0) (A := A92) (v := .int .i64 (x942)) (vs := [.int .i64 (x942)]) (m := x1055) (by kernel_rfl) (by rfl) sz2 (by rfl) encI_ok F947 hx1060 (by simp only [List.length_cons, List.length_nil]; omega) (by rfl) ?_
                  intro w1061 F1062 hc1063
                  replace F946 := F946.chg hc1063 (Dj.of L1 G102)
                  replace F949 := F949.chg hc1063 (Dj.of L1 G102)
                  replace F950 := F950.chg hc1063 (dj1 (D952).symm)
                  replace F1006 := F1006.chg hc1063 (D1009).symm
                  replace F1017 := F1017.chg hc1063 (D1022).symm
                  replace hB := hB.inS hc1063 (inLow G102)
                  have hSz := hS
                  replace hS := hS.trans hc1063
                  replace hZ := Nat.le_trans hZ hc1063.size
                  clear F947
                  rewrite [show (l821).length = (l821.set (Int.toNat x1055) x942).length from (List.length_set ..).symm]
                  refine wS_end (by kernel_rfl) ?_
                  refine eX_KH hS ?_
                  refine wH_done (by kernel_rfl) ?_
                  refine eX_tail ?_
                  obtain ⟨x1064, hx1065, hm⟩ := bindE hm
                  refine wS_idx (d := 87) (T := 68) (A := A92) (n := (l821.set (Int.toNat x1055) x942).length) (cap := cap93) (kd := .i64) (m := x1057) (by kernel_rfl) sl68 ((F1062.sl encI_ok).is hx1065) ?_
                  refine wS_storeEl (x := x1064) x943 (T := 2) (U := 2) (cap := cap93) (j := 0) (A := A92) (v := .int .i64 (x943)) (vs := [.int .i64 (x943)]) (m := x1057) (by kernel_rfl) (by rfl) sz2 (by rfl) encI_ok F1062 hx1065 (by simp only [List.length_cons, List.length_nil]; omega) (by rfl) ?_
                  intro w1066 F1067 hc1068
                  replace F946 := F946.chg hc1068 (Dj.of L1 G102)
                  replace F949 := F949.chg hc1068 (Dj.of L1 G102)
                  replace F950 := F950.chg hc1068 (dj1 (D952).symm)
                  replace F1006 := F1006.chg hc1068 (D1009).symm
                  replace F1017 := F1017.chg hc1068 (D1022).symm
                  replace hB := hB.inS hc1068 (inLow G102)
                  replace hZ := Nat.le_trans hZ hc1068.size
                  clear F1062
                  rewrite [show (l821.set (Int.toNat x1055) x942).length = ((l821.set (Int.toNat x1055) x942).set (Int.toNat x1057) x943).length from (List.length_set ..).symm]
                  refine wS_end (by rfl) ?_
                  refine eX_block ?_
                  refine eX_then ?_
                  refine cW_prune [(7, .slice A1015 (l815 ++ (([(x936, x937, x938, x939, x940)] : List (Int × Int × Int × Int × Int)))).length cap1016), (8, .slice A92 ((l821.set (Int.toNat x1055) x942).set (Int.toNat x1057) x943).length cap93), (46, .slice A1 (l1).length cap1), (47, .int .i64 (((l1).length : Int))), (48, .int .i64 (x820))] (by kernel_rfl) (by kernel_rfl) (fun a1069 => ?_)
                  refine cW_region ?_
                  refine wS_pure 2 [(48, .int .i64 (wr (x820 + 1))), (88, .int .i64 (wr (x820 + 1)))] (by kernel_rfl) ?_
                  refine wS_end (by rfl) ?_
                  have hq : (some (Ctl.next ((l815 ++ (([(x936, x937, x938, x939, x940)] : List (Int × Int × Int × Int × Int))), wr (x820 + 1), (l821.set (Int.toNat x1055) x942).set (Int.toNat x1057) x943))) : Option (Ctl ((List (Int × Int × Int × Int × Int)) × Int × (List (Int))) (Sum ((List (Int × Int × Int × Int × Int)) × (List (Int))) ((List (Int × Int × Int × Int × Int)) × (List (Int)) × (Bool))))) = some _ := hm
                  replace hq := someE hq
                  subst hq
                  exact eX_next hx833 (fun hst => ⟨l815 ++ (([(x936, x937, x938, x939, x940)] : List (Int × Int × Int × Int × Int))), A1015, cap1016, fp1014, wr (x820 + 1), (l821.set (Int.toNat x1055) x942).set (Int.toNat x1057) x943, rfl, Fr.of hst (by kernel_rfl), F946, F1067, F1017, G1021, D1022, hB, hZ⟩)
            · have hm := condF hb834 hm
              refine cW_exit ?_
              refine eX_then_exit ?_
              have hq : (some (Ctl.out (Sum.inl ((l815, l821)))) : Option (Ctl ((List (Int × Int × Int × Int × Int)) × Int × (List (Int))) (Sum ((List (Int × Int × Int × Int × Int)) × (List (Int))) ((List (Int × Int × Int × Int × Int)) × (List (Int)) × (Bool))))) = some _ := hm
              replace hq := someE hq
              subst hq
              refine eX_outX hx833 (fun hr1070 => ?_)
              replace hr1070 := hr1070.symm
              subst hr1070
              refine eX_block_hit ?_
              exact eX_J (fun hst => ⟨l815, A816, cap817, fp818, l821, rfl, Fr.of hst (by kernel_rfl), F824, F825, G826, D827, hB, hZ⟩)
          · rintro a' w802 ⟨l803, A804, cap805, fp806, l808, hJ, hF809, F810, F811, G812, D813, hB, hZ⟩
            subst hJ
            refine Fr.goX hF809 (by kernel_rfl) ?_
            refine eX_then ?_
            refine cW_seq ?_
            refine cW_region ?_
            refine wS_pure 5 [(6, .bool (true)), (5, .slice A92 (l808).length cap93), (4, .slice A804 (l803).length cap805), (90, .slice A92 (l808).length cap93), (89, .slice A804 (l803).length cap805)] (by kernel_rfl) ?_
            refine wS_end (by rfl) ?_
            refine eX_then ?_
            refine cW_ret ?_
            have hq : (some ((l803, l808, true)) : Option ((List (Int × Int × Int × Int × Int)) × (List (Int)) × (Bool))) = some _ := hm
            replace hq := someE hq
            subst hq
            refine eX_ret (vs := [.slice A804 (l803).length cap805, .slice A92 (l808).length cap93, .bool (true)]) [.tmp 4, .tmp 5, .tmp 6] (by rfl) ⟨by (show lkE _ _ _ = _); kernel_rfl, ⟨by (show lkE _ _ _ = _); kernel_rfl, ⟨by (show lkE _ _ _ = _); kernel_rfl, trivial⟩⟩⟩ ?_
            exact ⟨A804, cap805, fp806, A92, cap93, fp94, rfl, F811, G812, F810, G102, (D813).symm, hB⟩

set_option maxRecDepth 100000 in
/-- impl.ClockMerges -/
theorem c_impl_ClockMerges {w0 : World} {l0 : List (Int × Int)} {A0 : Option Addr} {cap0 : Nat} {fp0 : List Nat} {l1 : List (List (Int))} {A1 : Option Addr} {cap1 : Nat} {fp1 : List Nat} {r : (List (Int × Int × Int × Int × Int)) × (Bool)} (hm : m_impl_ClockMerges l0 l1 = some r) (F0 : Sl 2 encII w0 fp0 A0 l0) (F1 : SlR 1 encI w0 fp1 A1 l1) :
    Calls Try.prog 58 #[.slice A0 (l0).length cap0, .slice A1 (l1).length cap1] w0 fun e w' => ∃ A100 cap100 fp100, e = .returned (.tuple #[.slice A100 (r.1).length cap100, .bool (r.2)]) ∧ Ow 5 encIIIII 52 w' fp100 A100 cap100 r.1 ∧ (∀ x ∈ fp100, w0.heap.size ≤ x) ∧ Chg [] w0 w' := by
  have L0 := F0.low
  have L1 := F1.low
  have hB : Chg [] w0 w0 := Chg.refl _ _
  have hZ := Nat.le_refl w0.heap.size
  unfold m_impl_ClockMerges at hm
  refine enterE (N := 18) Try.func58 (by rfl) Try.ntmps58 (by simp) [(0, .slice A0 (l0).length cap0), (1, .slice A1 (l1).length cap1)] (by rfl) (by kernel_rfl) (fun a => ?_)
  refine cW_seq ?_
  refine cW_region ?_
  refine wS_pure 2 [(5, .bool (false)), (4, .slice none 0 0)] (by kernel_rfl) ?_
  refine wS_end (by rfl) ?_
  refine eX_then ?_
  refine cW_seq ?_
  refine cW_region ?_
  refine wS_pure 2 [(11, .slice A1 (l1).length cap1), (10, .slice A0 (l0).length cap0)] (by kernel_rfl) ?_
  obtain ⟨y3, hy4, hm⟩ := bindE hm
  refine wS_calls (d := 12) (f := 110) (vs := [.slice A0 (l0).length cap0, .slice A1 (l1).length cap1]) (by kernel_rfl) ent110 (c_impl_tree hy4 F0 F1) ?_
  rintro _ w5 ⟨A7, cap8, fp9, A13, cap14, fp15, rfl, F10, G11, F16, G17, D19, hc6⟩
  replace F0 := F0.chg hc6 Dj.nil
  replace F1 := F1.chg hc6 Dj.nil
  replace hB := hB.inS hc6 inNil
  replace G11 := low_le hZ G11
  replace G17 := low_le hZ G17
  replace hZ := Nat.le_trans hZ hc6.size
  refine ⟨.tuple #[.slice A7 (y3.1).length cap8, .slice A13 (y3.2.1).length cap14, .bool (y3.2.2)], rfl, ?_⟩
  refine wS_pure 7 [(8, .bool (y3.2.2)), (7, .slice A13 (y3.2.1).length cap14), (6, .slice A7 (y3.1).length cap8), (15, .bool (y3.2.2)), (14, .slice A13 (y3.2.1).length cap14), (13, .slice A7 (y3.1).length cap8), (9, .tuple #[.slice A7 (y3.1).length cap8, .slice A13 (y3.2.1).length cap14, .bool (y3.2.2)])] (by kernel_rfl) ?_
  refine wS_end (by rfl) ?_
  refine eX_then ?_
  refine cW_seq ?_
  refine cW_region ?_
  refine wS_pure 4 [(5, .bool (y3.2.2)), (4, .slice A7 (y3.1).length cap8), (17, .bool (y3.2.2)), (16, .slice A7 (y3.1).length cap8)] (by kernel_rfl) ?_
  refine wS_end (by rfl) ?_
  refine eX_then ?_
  refine cW_ret ?_
  have hq : (some ((y3.1, y3.2.2)) : Option ((List (Int × Int × Int × Int × Int)) × (Bool))) = some _ := hm
  replace hq := someE hq
  subst hq
  refine eX_ret (vs := [.slice A7 (y3.1).length cap8, .bool (y3.2.2)]) [.tmp 4, .tmp 5] (by rfl) ⟨by (show lkE _ _ _ = _); kernel_rfl, ⟨by (show lkE _ _ _ = _); kernel_rfl, trivial⟩⟩ ?_
  exact ⟨A7, cap8, fp9, rfl, F10, G11, hB⟩

set_option maxRecDepth 100000 in
/-- spec.l06Pins -/
theorem c_spec_l06Pins {w0 : World} {l0 : List (Int × Int)} {A0 : Option Addr} {cap0 : Nat} {fp0 : List Nat} {r : (Bool)} (hm : m_spec_l06Pins l0 = some r) (F0 : Sl 2 encII w0 fp0 A0 l0) :
    Calls Try.prog 116 #[.slice A0 (l0).length cap0] w0 fun e w' => e = .returned (.bool (r)) ∧ Chg [] w0 w' := by
  have L0 := F0.low
  have hB : Chg [] w0 w0 := Chg.refl _ _
  have hZ := Nat.le_refl w0.heap.size
  unfold m_spec_l06Pins at hm
  refine enterE (N := 10) Try.func116 (by rfl) Try.ntmps116 (by simp) [(0, .slice A0 (l0).length cap0)] (by rfl) (by kernel_rfl) (fun a => ?_)
  refine cW_seq ?_
  refine cW_region ?_
  refine wS_pure 1 [(2, .bool (false))] (by kernel_rfl) ?_
  refine wS_end (by rfl) ?_
  refine eX_then ?_
  refine cW_seq ?_
  refine cW_region ?_
  refine wS_pure 2 [(4, .int .i64 (((l0).length : Int))), (3, .slice A0 (l0).length cap0)] (by kernel_rfl) ?_
  obtain ⟨y2, hy3, hm⟩ := bindE hm
  refine wS_calls (d := 5) (f := 88) (vs := [.int .i64 (((l0).length : Int)), .int .i64 (2), .int .i64 (12)]) (by kernel_rfl) ent88 (c_spec_l00In hy3) ?_
  rintro _ w4 ⟨rfl, hc5⟩
  replace F0 := F0.chg hc5 Dj.nil
  replace hB := hB.inS hc5 inNil
  replace hZ := Nat.le_trans hZ hc5.size
  refine ⟨.bool (y2), rfl, ?_⟩
  refine wS_pure 1 [(6, .bool (y2))] (by kernel_rfl) ?_
  refine wS_bool y2 (fun hb6 => ?_) (fun hb6 => ?_)
  · have hm := condT hb6 hm
    rewrite [hb6]
    refine wS_pure 1 [(7, .slice A0 (l0).length cap0)] (by kernel_rfl) ?_
    obtain ⟨y7, hy8, hm⟩ := bindE hm
    refine wS_calls (d := 8) (f := 99) (vs := [.slice A0 (l0).length cap0]) (by kernel_rfl) ent99 (c_spec_l01Points hy8 F0) ?_
    rintro _ w9 ⟨rfl, hc10⟩
    replace F0 := F0.chg hc10 Dj.nil
    replace hB := hB.inS hc10 inNil
    replace hZ := Nat.le_trans hZ hc10.size
    refine ⟨.bool (y7), rfl, ?_⟩
    refine wS_pure 2 [(2, .bool (y7)), (9, .bool (y7))] (by kernel_rfl) ?_
    refine wS_end (by rfl) ?_
    refine eX_then ?_
    refine cW_ret ?_
    have hq : (some y7 : Option ((Bool))) = some _ := hm
    replace hq := someE hq
    subst hq
    refine eX_ret (vs := [.bool (y7)]) [.tmp 2] (by rfl) ⟨by (show lkE _ _ _ = _); kernel_rfl, trivial⟩ ?_
    exact ⟨rfl, hB⟩
  · have hm := condF hb6 hm
    rewrite [hb6]
    refine wS_pure 4 [(2, .bool (false)), (9, .bool (false)), (8, undef), (7, undef)] (by kernel_rfl) ?_
    refine wS_end (by rfl) ?_
    refine eX_then ?_
    refine cW_ret ?_
    have hq : (some false : Option ((Bool))) = some _ := hm
    replace hq := someE hq
    subst hq
    refine eX_ret (vs := [.bool (false)]) [.tmp 2] (by rfl) ⟨by (show lkE _ _ _ = _); kernel_rfl, trivial⟩ ?_
    exact ⟨rfl, hB⟩

set_option maxRecDepth 100000 in
/-- spec.l06Tree -/
theorem c_spec_l06Tree {w0 : World} {l0 : List (Int × Int)} {A0 : Option Addr} {cap0 : Nat} {fp0 : List Nat} {l1 : List (List (Int))} {A1 : Option Addr} {cap1 : Nat} {fp1 : List Nat} {r : (List (Int × Int × Int × Int × Int)) × (List (Int))} (hm : m_spec_l06Tree l0 l1 = some r) (F0 : Sl 2 encII w0 fp0 A0 l0) (F1 : SlR 1 encI w0 fp1 A1 l1) :
    Calls Try.prog 117 #[.slice A0 (l0).length cap0, .slice A1 (l1).length cap1] w0 fun e w' => ∃ A100 cap100 fp100, ∃ A101 cap101 fp101, e = .returned (.tuple #[.slice A100 (r.1).length cap100, .slice A101 (r.2).length cap101]) ∧ Ow 5 encIIIII 52 w' fp100 A100 cap100 r.1 ∧ (∀ x ∈ fp100, w0.heap.size ≤ x) ∧ Ow 1 encI 2 w' fp101 A101 cap101 r.2 ∧ (∀ x ∈ fp101, w0.heap.size ≤ x) ∧ Dj fp100 fp101 ∧ Chg [] w0 w' := by
  have L0 := F0.low
  have L1 := F1.low
  have hB : Chg [] w0 w0 := Chg.refl _ _
  have hZ := Nat.le_refl w0.heap.size
  unfold m_spec_l06Tree at hm
  refine enterE (N := 89) Try.func117 (by rfl) Try.ntmps117 (by simp) [(0, .slice A0 (l0).length cap0), (1, .slice A1 (l1).length cap1)] (by rfl) (by kernel_rfl) (fun a => ?_)
  refine cW_seq ?_
  refine cW_region ?_
  refine wS_pure 2 [(5, .slice none 0 0), (4, .slice none 0 0)] (by kernel_rfl) ?_
  refine wS_end (by rfl) ?_
  refine eX_then ?_
  refine cW_seq ?_
  refine cW_region ?_
  refine wS_bs0 (α := Int × Int × Int × Int × Int) (enc := encIIIII) (d := 13) (t := 75) (T := 52) (by kernel_rfl) el75 ?_
  intro b3 w4 G5 F6 hc7
  replace F0 := F0.chg hc7 Dj.nil
  replace F1 := F1.chg hc7 Dj.nil
  replace hB := hB.inS hc7 inNil
  replace G5 := Nat.le_trans hZ G5
  replace G5 := low1 G5
  replace hZ := Nat.le_trans hZ hc7.size
  refine wS_pure 1 [(6, .slice (some ⟨b3, 0, none⟩) (([] : List (Int × Int × Int × Int × Int))).length 0)] (by kernel_rfl) ?_
  refine wS_end (by rfl) ?_
  refine eX_then ?_
  refine cW_seq ?_
  refine cW_region ?_
  refine wS_bs0 (α := Int) (enc := encI) (d := 14) (t := 68) (T := 2) (by kernel_rfl) el68 ?_
  intro b9 w10 G11 F12 hc13
  have D15 : Dj [b3] [b9] := Dj.of F6.low (low1 G11)
  replace F0 := F0.chg hc13 Dj.nil
  replace F1 := F1.chg hc13 Dj.nil
  replace F6 := F6.chg hc13 Dj.nil
  replace hB := hB.inS hc13 inNil
  replace G11 := Nat.le_trans hZ G11
  replace G11 := low1 G11
  replace hZ := Nat.le_trans hZ hc13.size
  refine wS_pure 1 [(7, .slice (some ⟨b9, 0, none⟩) (([] : List (Int))).length 0)] (by kernel_rfl) ?_
  refine wS_end (by rfl) ?_
  refine eX_then ?_
  refine cW_seq ?_
  refine cW_seq ?_
  refine cW_region ?_
  refine wS_pure 1 [(8, .int .i64 (0))] (by kernel_rfl) ?_
  refine wS_end (by rfl) ?_
  refine eX_then ?_
  obtain ⟨r176, hr177, hm⟩ := bindE hm
  have hm178 := hm
  refine cW_cut (fun a' w' => ∃ l139 : List (Int × Int × Int × Int × Int), ∃ A140 : Option Addr, ∃ cap141 : Nat, ∃ fp142 : List Nat, ∃ l144 : List (Int), ∃ A145 : Option Addr, ∃ cap146 : Nat, ∃ fp147 : List Nat, (l139, l144) = r176 ∧ Fr 89 [(1, .slice A1 (l1).length cap1), (6, .slice A140 (l139).length cap141), (7, .slice A145 (l144).length cap146)] a' ∧ SlR 1 encI w' fp1 A1 l1 ∧ Ow 5 encIIIII 52 w' fp142 A140 cap141 l139 ∧ Ow 1 encI 2 w' fp147 A145 cap146 l144 ∧ (∀ x ∈ fp142, w0.heap.size ≤ x) ∧ (∀ x ∈ fp147, w0.heap.size ≤ x) ∧ Dj fp147 fp142 ∧ Chg [] w0 w' ∧ w0.heap.size ≤ w'.heap.size) ?_ ?_
  · refine cW_block ?_
    refine cW_loop _ (fun (s179 : (List (Int × Int × Int × Int × Int)) × (List (Int)) × Int) a' w' => ∃ l157 : List (Int × Int × Int × Int × Int), ∃ A158 : Option Addr, ∃ cap159 : Nat, ∃ fp160 : List Nat, ∃ l162 : List (Int), ∃ A163 : Option Addr, ∃ cap164 : Nat, ∃ fp165 : List Nat, ∃ x167 : Int, (l157, l162, x167) = s179 ∧ Fr 89 [(0, .slice A0 (l0).length cap0), (1, .slice A1 (l1).length cap1), (6, .slice A158 (l157).length cap159), (7, .slice A163 (l162).length cap164), (8, .int .i64 (x167))] a' ∧ Sl 2 encII w' fp0 A0 l0 ∧ SlR 1 encI w' fp1 A1 l1 ∧ Ow 5 encIIIII 52 w' fp160 A158 cap159 l157 ∧ Ow 1 encI 2 w' fp165 A163 cap164 l162 ∧ (∀ x ∈ fp160, w0.heap.size ≤ x) ∧ (∀ x ∈ fp165, w0.heap.size ≤ x) ∧ Dj fp165 fp160 ∧ Chg [] w0 w' ∧ w0.heap.size ≤ w'.heap.size) hr177 (fun hst => ⟨([] : List (Int × Int × Int × Int × Int)), (some ⟨b3, 0, none⟩), 0, [b3], ([] : List (Int)), (some ⟨b9, 0, none⟩), 0, [b9], 0, rfl, Fr.of hst (by kernel_rfl), F0, F1, F6, F12, G5, G11, (D15).symm, hB, hZ⟩) ?_
    rintro _ c180 a' w156 ⟨l157, A158, cap159, fp160, l162, A163, cap164, fp165, x167, rfl, hF168, F169, F170, F171, F172, G173, G174, D175, hB, hZ⟩ hx181
    refine Fr.goOn hF168 (by kernel_rfl) ?_
    have hm := hx181
    unfold m_spec_l06Tree_s1 at hm
    refine cW_seq ?_
    refine cW_seq ?_
    refine cW_region ?_
    refine wS_pure 4 [(18, .bool (decide (x167 < (((l0).length : Int))))), (17, .int .i64 (((l0).length : Int))), (16, .slice A0 (l0).length cap0), (15, .int .i64 (x167))] (by kernel_rfl) ?_
    refine wS_end (by rfl) ?_
    refine eX_then ?_
    refine cW_cond (t := decide (x167 < (((l0).length : Int)))) (by kernel_rfl) (fun hb182 => ?_) (fun hb182 => ?_)
    · have hm := condT hb182 hm
      refine cW_skip ?_
      refine eX_then ?_
      refine cW_seq ?_
      refine cW_block ?_
      refine cW_seq ?_
      refine cW_region ?_
      refine wS_pure 3 [(23, .int .i64 (x167)), (22, .slice A0 (l0).length cap0), (21, .slice A158 (l157).length cap159)] (by kernel_rfl) ?_
      obtain ⟨x183, hx184, hm⟩ := bindE hm
      refine wS_idx (d := 24) (T := 59) (A := A0) (n := (l0).length) (cap := cap0) (kd := .i64) (m := x167) (by kernel_rfl) sl59 (F169.is hx184) ?_
      refine wS_loadA (d := 25) (T := 32) (ad := (elA A0 2 (x167) 0)) (vs := [.int .i64 (x183.1), .int .i64 (x183.2)]) (by kernel_rfl) vt32 (fun i u hu => Sl.cells_at F169 hx184 0 hu (by rfl)) ?_
      obtain ⟨y185, hy186, hm⟩ := bindE hm
      refine wS_calls (d := 26) (f := 86) (vs := [.agg #[.int .i64 (x183.1), .int .i64 (x183.2)]]) (by kernel_rfl) ent86 (c_spec_l06Leaf hy186) ?_
      rintro _ w187 ⟨rfl, hc188⟩
      replace F169 := F169.chg hc188 Dj.nil
      replace F170 := F170.chg hc188 Dj.nil
      replace F171 := F171.chg hc188 Dj.nil
      replace F172 := F172.chg hc188 Dj.nil
      replace hB := hB.inS hc188 inNil
      replace hZ := Nat.le_trans hZ hc188.size
      refine ⟨.agg #[.int .i64 (y185.1), .int .i64 (y185.2.1), .int .i64 (y185.2.2.1), .int .i64 (y185.2.2.2)], rfl, ?_⟩
      refine wS_pure 1 [(27, .agg #[.int .i64 (y185.1), .int .i64 (y185.2.1), .int .i64 (y185.2.2.1), .int .i64 (y185.2.2.2), .int .i64 (0)])] (by kernel_rfl) ?_
      refine wS_bs (enc := encIIIII) ([(y185.1, y185.2.1, y185.2.2.1, y185.2.2.2, 0)] : List (Int × Int × Int × Int × Int)) [.int .i64 (y185.1), .int .i64 (y185.2.1), .int .i64 (y185.2.2.1), .int .i64 (y185.2.2.2), .int .i64 (0)] (d := 28) (t := 75) (T := 52) (n := 1) (ps := [(0, .agg #[.int .i64 (y185.1), .int .i64 (y185.2.1), .int .i64 (y185.2.2.1), .int .i64 (y185.2.2.2), .int .i64 (0)])]) (by kernel_rfl) el75 encIIIII_ok (by rfl) (by omega) (by omega) (by kernel_rfl) (by rfl) ?_
      intro b189 w190 G191 F192 hc193
      have D195 : Dj fp160 [b189] := Dj.of F171.low (low1 G191)
      have D196 : Dj fp165 [b189] := Dj.of F172.low (low1 G191)
      replace F169 := F169.chg hc193 Dj.nil
      replace F170 := F170.chg hc193 Dj.nil
      replace F171 := F171.chg hc193 Dj.nil
      replace F172 := F172.chg hc193 Dj.nil
      replace hB := hB.inS hc193 inNil
      replace G191 := Nat.le_trans hZ G191
      replace G191 := low1 G191
      replace hZ := Nat.le_trans hZ hc193.size
      obtain ⟨_, hk197, hm⟩ := bindE hm
      replace hk197 := apE hk197
      refine wS_append (enc := encIIIII) (l := (l157 : List (Int × Int × Int × Int × Int))) (l2 := (([(y185.1, y185.2.1, y185.2.2.1, y185.2.2.2, 0)] : List (Int × Int × Int × Int × Int)) : List (Int × Int × Int × Int × Int))) (d := 29) (t := 75) (T := 52) (A := A158) (A2 := (some ⟨b189, 0, none⟩)) (cap := cap159) (cap2 := 1) (by kernel_rfl) el75 encIIIII_ok F171 (F192.sl encIIIII_ok) (by rfl) hk197 ?_
      intro w198 fp199 A200 cap201 F202 hc203 hp204
      have G206 := low_ap G173 hZ hp204
      have D207 : Dj fp165 fp199 := Dj.ap D175 F172.low hp204
      have D208 : Dj [b189] fp199 := Dj.ap (D195).symm F192.low hp204
      replace F169 := F169.chg hc203 (Dj.of L0 G173)
      replace F170 := F170.chg hc203 (Dj.of L1 G173)
      replace F172 := F172.chg hc203 D175
      replace F192 := F192.chg hc203 (D195).symm
      replace hB := hB.inS hc203 (inLow G173)
      replace hZ := Nat.le_trans hZ hc203.size
      refine wS_pure 1 [(6, .slice A200 (l157 ++ (([(y185.1, y185.2.1, y185.2.2.1, y185.2.2.2, 0)] : List (Int × Int × Int × Int × Int)))).length cap201)] (by kernel_rfl) ?_
      refine wS_end (by rfl) ?_
      refine eX_then ?_
      refine cW_region ?_
      refine wS_pure 1 [(30, .slice A163 (l162).length cap164)] (by kernel_rfl) ?_
      refine wS_bs (enc := encI) ([0] : List (Int)) [.int .i64 (0)] (d := 31) (t := 68) (T := 2) (n := 1) (ps := [(0, .int .i64 (0))]) (by kernel_rfl) el68 encI_ok (by rfl) (by omega) (by omega) (by kernel_rfl) (by rfl) ?_
      intro b209 w210 G211 F212 hc213
      have D215 : Dj fp165 [b209] := Dj.of F172.low (low1 G211)
      have D216 : Dj [b189] [b209] := Dj.of F192.low (low1 G211)
      have D217 : Dj fp199 [b209] := Dj.of F202.low (low1 G211)
      replace F169 := F169.chg hc213 Dj.nil
      replace F170 := F170.chg hc213 Dj.nil
      replace F172 := F172.chg hc213 Dj.nil
      replace F192 := F192.chg hc213 Dj.nil
      replace F202 := F202.chg hc213 Dj.nil
      replace hB := hB.inS hc213 inNil
      replace G211 := Nat.le_trans hZ G211
      replace G211 := low1 G211
      replace hZ := Nat.le_trans hZ hc213.size
      obtain ⟨_, hk218, hm⟩ := bindE hm
      replace hk218 := apE hk218
      refine wS_append (enc := encI) (l := (l162 : List (Int))) (l2 := (([0] : List (Int)) : List (Int))) (d := 32) (t := 68) (T := 2) (A := A163) (A2 := (some ⟨b209, 0, none⟩)) (cap := cap164) (cap2 := 1) (by kernel_rfl) el68 encI_ok F172 (F212.sl encI_ok) (by rfl) hk218 ?_
      intro w219 fp220 A221 cap222 F223 hc224 hp225
      have G227 := low_ap G174 hZ hp225
      have D228 : Dj [b189] fp220 := Dj.ap (D196).symm F192.low hp225
      have D229 : Dj fp199 fp220 := Dj.ap (D207).symm F202.low hp225
      have D230 : Dj [b209] fp220 := Dj.ap (D215).symm F212.low hp225
      replace F169 := F169.chg hc224 (Dj.of L0 G174)
      replace F170 := F170.chg hc224 (Dj.of L1 G174)
      replace F192 := F192.chg hc224 (D196).symm
      replace F202 := F202.chg hc224 (D207).symm
      replace F212 := F212.chg hc224 (D215).symm
      replace hB := hB.inS hc224 (inLow G174)
      replace hZ := Nat.le_trans hZ hc224.size
      refine wS_pure 1 [(7, .slice A221 (l162 ++ (([0] : List (Int)))).length cap222)] (by kernel_rfl) ?_
      refine wS_end (by rfl) ?_
      refine eX_block ?_
      refine eX_then ?_
      refine cW_region ?_
      refine wS_pure 3 [(8, .int .i64 (wr (x167 + 1))), (20, .int .i64 (wr (x167 + 1))), (19, .int .i64 (x167))] (by kernel_rfl) ?_
      refine wS_end (by rfl) ?_
      have hq : (some (Ctl.next ((l157 ++ (([(y185.1, y185.2.1, y185.2.2.1, y185.2.2.2, 0)] : List (Int × Int × Int × Int × Int))), l162 ++ (([0] : List (Int))), wr (x167 + 1)))) : Option (Ctl ((List (Int × Int × Int × Int × Int)) × (List (Int)) × Int) ((List (Int × Int × Int × Int × Int)) × (List (Int))))) = some _ := hm
      replace hq := someE hq
      subst hq
      exact eX_next hx181 (fun hst => ⟨l157 ++ (([(y185.1, y185.2.1, y185.2.2.1, y185.2.2.2, 0)] : List (Int × Int × Int × Int × Int))), A200, cap201, fp199, l162 ++ (([0] : List (Int))), A221, cap222, fp220, wr (x167 + 1), rfl, Fr.of hst (by kernel_rfl), F169, F170, F202, F223, G206, G227, (D229).symm, hB, hZ⟩)
    · have hm := condF hb182 hm
      refine cW_exit ?_
      refine eX_then_exit ?_
      have hq : (some (Ctl.out ((l157, l162))) : Option (Ctl ((List (Int × Int × Int × Int × Int)) × (List (Int)) × Int) ((List (Int × Int × Int × Int × Int)) × (List (Int))))) = some _ := hm
      replace hq := someE hq
      subst hq
      refine eX_outX hx181 (fun hr231 => ?_)
      replace hr231 := hr231.symm
      subst hr231
      refine eX_block_hit ?_
      exact eX_J (fun hst => ⟨l157, A158, cap159, fp160, l162, A163, cap164, fp165, rfl, Fr.of hst (by kernel_rfl), F170, F171, F172, G173, G174, D175, hB, hZ⟩)
  · rintro a' w138 ⟨l139, A140, cap141, fp142, l144, A145, cap146, fp147, hJ, hF149, F150, F151, F152, G153, G154, D155, hB, hZ⟩
    subst hJ
    refine Fr.goX hF149 (by kernel_rfl) ?_
    refine eX_then ?_
    refine cW_seq ?_
    refine cW_seq ?_
    refine cW_region ?_
    refine wS_pure 1 [(9, .int .i64 (0))] (by kernel_rfl) ?_
    refine wS_end (by rfl) ?_
    refine eX_then ?_
    obtain ⟨r836, hr837, hm⟩ := bindE hm
    have hm838 := hm
    refine cW_cut (fun a' w' => ∃ l801 : List (Int × Int × Int × Int × Int), ∃ A802 : Option Addr, ∃ cap803 : Nat, ∃ fp804 : List Nat, ∃ l806 : List (Int), ∃ A807 : Option Addr, ∃ cap808 : Nat, ∃ fp809 : List Nat, (l801, l806) = r836 ∧ Fr 89 [(6, .slice A802 (l801).length cap803), (7, .slice A807 (l806).length cap808)] a' ∧ Ow 5 encIIIII 52 w' fp804 A802 cap803 l801 ∧ Ow 1 encI 2 w' fp809 A807 cap808 l806 ∧ (∀ x ∈ fp804, w0.heap.size ≤ x) ∧ (∀ x ∈ fp809, w0.heap.size ≤ x) ∧ Dj fp809 fp804 ∧ Chg [] w0 w' ∧ w0.heap.size ≤ w'.heap.size) ?_ ?_
    · refine cW_block ?_
      refine cW_loop _ (fun (s839 : (List (Int × Int × Int × Int × Int)) × (List (Int)) × Int) a' w' => ∃ l818 : List (Int × Int × Int × Int × Int), ∃ A819 : Option Addr, ∃ cap820 : Nat, ∃ fp821 : List Nat, ∃ l823 : List (Int), ∃ A824 : Option Addr, ∃ cap825 : Nat, ∃ fp826 : List Nat, ∃ x828 : Int, (l818, l823, x828) = s839 ∧ Fr 89 [(1, .slice A1 (l1).length cap1), (6, .slice A819 (l818).length cap820), (7, .slice A824 (l823).length cap825), (9, .int .i64 (x828))] a' ∧ SlR 1 encI w' fp1 A1 l1 ∧ Ow 5 encIIIII 52 w' fp821 A819 cap820 l818 ∧ Ow 1 encI 2 w' fp826 A824 cap825 l823 ∧ (∀ x ∈ fp821, w0.heap.size ≤ x) ∧ (∀ x ∈ fp826, w0.heap.size ≤ x) ∧ Dj fp826 fp821 ∧ Chg [] w0 w' ∧ w0.heap.size ≤ w'.heap.size) hr837 (fun hst => ⟨l139, A140, cap141, fp142, l144, A145, cap146, fp147, 0, rfl, Fr.of hst (by kernel_rfl), F150, F151, F152, G153, G154, D155, hB, hZ⟩) ?_
      rintro _ c840 a' w817 ⟨l818, A819, cap820, fp821, l823, A824, cap825, fp826, x828, rfl, hF829, F830, F831, F832, G833, G834, D835, hB, hZ⟩ hx841
      refine Fr.goOn hF829 (by kernel_rfl) ?_
      have hm := hx841
      unfold m_spec_l06Tree_s2 at hm
      refine cW_seq ?_
      refine cW_seq ?_
      refine cW_region ?_
      refine wS_pure 4 [(36, .bool (decide (x828 < (((l1).length : Int))))), (35, .int .i64 (((l1).length : Int))), (34, .slice A1 (l1).length cap1), (33, .int .i64 (x828))] (by kernel_rfl) ?_
      refine wS_end (by rfl) ?_
      refine eX_then ?_
      refine cW_cond (t := decide (x828 < (((l1).length : Int)))) (by kernel_rfl) (fun hb842 => ?_) (fun hb842 => ?_)
      · have hm := condT hb842 hm
        refine cW_skip ?_
        refine eX_then ?_
        refine cW_seq ?_
        refine cW_block ?_
        refine cW_seq ?_
        obtain ⟨s979, hs980, hm⟩ := bindE hm
        refine cW_cut (fun a' w' => ∃ b962 : Nat, ∃ x963 : Int, ∃ x964 : Int, ∃ x965 : Int, ∃ x966 : Int, ∃ x967 : Int, ∃ x969 : Int, ∃ x970 : Int, (x963, x964, x965, x966, x967, x969, x970) = s979 ∧ Fr 89 [(1, .slice A1 (l1).length cap1), (6, .slice A819 (l818).length cap820), (7, .slice A824 (l823).length cap825), (9, .int .i64 (x828)), (10, .pointer (some ⟨b962, 0, none⟩)), (11, .int .i64 (x969)), (12, .int .i64 (x970))] a' ∧ SlR 1 encI w' fp1 A1 l1 ∧ Ow 5 encIIIII 52 w' fp821 A819 cap820 l818 ∧ Ow 1 encI 2 w' fp826 A824 cap825 l823 ∧ Cl w' b962 52 [.int .i64 (x963), .int .i64 (x964), .int .i64 (x965), .int .i64 (x966), .int .i64 (x967)] ∧ w0.heap.size ≤ b962 ∧ Dj fp821 [b962] ∧ Dj fp826 [b962] ∧ Chg [] w0 w' ∧ w0.heap.size ≤ w'.heap.size) ?_ ?_
        · have hm := hs980
          refine cW_drawnTail [] 26 (by kernel_rfl) (by kernel_rfl) (fun w981 hc982 => ?_)
          replace F830 := F830.chg hc982 Dj.nil
          replace F831 := F831.chg hc982 Dj.nil
          replace F832 := F832.chg hc982 Dj.nil
          replace hB := hB.inS hc982 inNil
          replace hZ := Nat.le_trans hZ hc982.size
          have hS := Chg.refl [] w981
          have Z983 := F830
          have Z984 := F831
          have Z985 := F832
          refine wH_take [0, 1, 2] [2, 1, 0] [(42, .int .i64 (x828)), (41, .slice A1 (l1).length cap1), (40, .slice A819 (l818).length cap820)] (by kernel_rfl) (qT (qT (qT (qB (qT (qL (qB (qT (qT qZ))))))))) (by kernel_rfl) ?_
          obtain ⟨x986, hx987, hm⟩ := bindE hm
          refine wH_idx (i := 3) (d := 43) (T := 44) (A := A1) (n := (l1).length) (cap := cap1) (kd := .i64) (m := x828) (by kernel_rfl) (qT (qT (qT (qB (qT (qL (qB (qT (qT qZ))))))))) (by kernel_rfl) (by kernel_rfl) sl44 (F830.is hx987) ?_
          obtain ⟨A988, cap989, hc991, F990⟩ := SlR.row Z983 hx987
          refine wH_load1 (i := 4) (d := 44) (T := 68) (ad := (elA A1 1 (x828) 0)) (v := .slice A988 (x986).length cap989) (by kernel_rfl) (qT (qT (qT (qB (qT (qL (qB (qT (qT qZ))))))))) (by kernel_rfl) (by kernel_rfl) vt68 (fun W hW => hW.keep hc991) ?_
          obtain ⟨x993, hx994, hm⟩ := bindE hm
          refine wH_idx (i := 5) (d := 45) (T := 68) (A := A988) (n := (x986).length) (cap := cap989) (kd := .i64) (m := 0) (by kernel_rfl) (qT (qT (qT (qB (qT (qL (qB (qT (qT qZ))))))))) (by kernel_rfl) (by kernel_rfl) sl68 (F990.is hx994) ?_
          refine wH_load1 (i := 6) (d := 46) (T := 2) (ad := (elA A988 1 (0) 0)) (v := .int .i64 (x993)) (by kernel_rfl) (qT (qT (qT (qB (qT (qL (qB (qT (qT qZ))))))))) (by kernel_rfl) (by kernel_rfl) vt2 (fun W hW => Sl.cell (F990.chg hW Dj.nil) hx994 0 (by rfl)) ?_
          obtain ⟨x995, hx996, hm⟩ := bindE hm
          refine wH_idx (i := 7) (d := 47) (T := 75) (A := A819) (n := (l818).length) (cap := cap820) (kd := .i64) (m := x993) (by kernel_rfl) (qT (qT (qT (qB (qT (qL (qB (qT (qT qZ))))))))) (by kernel_rfl) (by kernel_rfl) sl75 ((F831.sl encIIIII_ok).is hx996) ?_
          refine wH_loadA (i := 8) (d := 48) (T := 52) (ad := (elA A819 5 (x993) 0)) (vs := [.int .i64 (x995.1), .int .i64 (x995.2.1), .int .i64 (x995.2.2.1), .int .i64 (x995.2.2.2.1), .int .i64 (x995.2.2.2.2)]) (by kernel_rfl) (qT (qT (qT (qB (qT (qL (qB (qT (qT qZ))))))))) (by kernel_rfl) (by kernel_rfl) vt52 (fun W hW i u hu => Sl.cells_at ((Z984.chg hW Dj.nil).sl encIIIII_ok) hx996 0 hu (by rfl)) ?_
          refine wH_take [9, 10, 11] [11, 10, 9, 8, 7, 6, 5, 4, 3, 2, 1, 0] [(51, .int .i64 (x828)), (50, .slice A1 (l1).length cap1), (49, .slice A819 (l818).length cap820)] (by kernel_rfl) (qT (qT (qT (qB (qT (qL (qB (qT (qT qZ))))))))) (by kernel_rfl) ?_
          obtain ⟨x997, hx998, hm⟩ := bindE hm
          refine wH_idx (i := 12) (d := 52) (T := 44) (A := A1) (n := (l1).length) (cap := cap1) (kd := .i64) (m := x828) (by kernel_rfl) (qT (qT (qT (qB (qT (qL (qB (qT (qT qZ))))))))) (by kernel_rfl) (by kernel_rfl) sl44 (F830.is hx998) ?_
          obtain ⟨A999, cap1000, hc1002, F1001⟩ := SlR.row Z983 hx998
          refine wH_load1 (i := 13) (d := 53) (T := 68) (ad := (elA A1 1 (x828) 0)) (v := .slice A999 (x997).length cap1000) (by kernel_rfl) (qT (qT (qT (qB (qT (qL (qB (qT (qT qZ))))))))) (by kernel_rfl) (by kernel_rfl) vt68 (fun W hW => hW.keep hc1002) ?_
          obtain ⟨x1004, hx1005, hm⟩ := bindE hm
          refine wH_idx (i := 14) (d := 54) (T := 68) (A := A999) (n := (x997).length) (cap := cap1000) (kd := .i64) (m := 1) (by kernel_rfl) (qT (qT (qT (qB (qT (qL (qB (qT (qT qZ))))))))) (by kernel_rfl) (by kernel_rfl) sl68 (F1001.is hx1005) ?_
          refine wH_load1 (i := 15) (d := 55) (T := 2) (ad := (elA A999 1 (1) 0)) (v := .int .i64 (x1004)) (by kernel_rfl) (qT (qT (qT (qB (qT (qL (qB (qT (qT qZ))))))))) (by kernel_rfl) (by kernel_rfl) vt2 (fun W hW => Sl.cell (F1001.chg hW Dj.nil) hx1005 0 (by rfl)) ?_
          obtain ⟨x1006, hx1007, hm⟩ := bindE hm
          refine wH_idx (i := 16) (d := 56) (T := 75) (A := A819) (n := (l818).length) (cap := cap820) (kd := .i64) (m := x1004) (by kernel_rfl) (qT (qT (qT (qB (qT (qL (qB (qT (qT qZ))))))))) (by kernel_rfl) (by kernel_rfl) sl75 ((F831.sl encIIIII_ok).is hx1007) ?_
          refine wH_loadA (i := 17) (d := 57) (T := 52) (ad := (elA A819 5 (x1004) 0)) (vs := [.int .i64 (x1006.1), .int .i64 (x1006.2.1), .int .i64 (x1006.2.2.1), .int .i64 (x1006.2.2.2.1), .int .i64 (x1006.2.2.2.2)]) (by kernel_rfl) (qT (qT (qT (qB (qT (qL (qB (qT (qT qZ))))))))) (by kernel_rfl) (by kernel_rfl) vt52 (fun W hW i u hu => Sl.cells_at ((Z984.chg hW Dj.nil).sl encIIIII_ok) hx1007 0 hu (by rfl)) ?_
          refine wH_all [18, 23] (by rfl) (by kernel_rfl) (by simp) ⟨⟨by kernel_rfl, ?_⟩, ⟨by kernel_rfl, ?_⟩, trivial⟩
          · skip
            obtain ⟨y1008, hy1009, hm⟩ := bindE hm
            refine wS_calls (d := 58) (f := 103) (vs := [.agg #[.int .i64 (x995.1), .int .i64 (x995.2.1), .int .i64 (x995.2.2.1), .int .i64 (x995.2.2.2.1), .int .i64 (x995.2.2.2.2)], .agg #[.int .i64 (x1006.1), .int .i64 (x1006.2.1), .int .i64 (x1006.2.2.1), .int .i64 (x1006.2.2.2.1), .int .i64 (x1006.2.2.2.2)]]) (by kernel_rfl) ent103 (c_spec_l06Pair hy1009) ?_
            rintro _ w1010 ⟨rfl, hc1011⟩
            replace F830 := F830.chg hc1011 Dj.nil
            replace F831 := F831.chg hc1011 Dj.nil
            replace F832 := F832.chg hc1011 Dj.nil
            replace F990 := F990.chg hc1011 Dj.nil
            replace F1001 := F1001.chg hc1011 Dj.nil
            replace hB := hB.inS hc1011 inNil
            have hSz := hS
            replace hS := hS.inS hc1011 inNil
            replace hZ := Nat.le_trans hZ hc1011.size
            refine ⟨.tuple #[.agg #[.int .i64 (y1008.1.1), .int .i64 (y1008.1.2.1), .int .i64 (y1008.1.2.2.1), .int .i64 (y1008.1.2.2.2.1), .int .i64 (y1008.1.2.2.2.2)], .int .i64 (y1008.2.1), .int .i64 (y1008.2.2)], rfl, ?_⟩
            refine wS_end (by kernel_rfl) ?_
            refine eX_KH hS ?_
            refine wH_take [19, 20, 21, 22] [22, 21, 20, 19, 18, 17, 16, 15, 14, 13, 12, 11, 10, 9, 8, 7, 6, 5, 4, 3, 2, 1, 0] [(61, .int .i64 (y1008.2.2)), (60, .int .i64 (y1008.2.1)), (59, .agg #[.int .i64 (y1008.1.1), .int .i64 (y1008.1.2.1), .int .i64 (y1008.1.2.2.1), .int .i64 (y1008.1.2.2.2.1), .int .i64 (y1008.1.2.2.2.2)]), (39, .tuple #[.agg #[.int .i64 (y1008.1.1), .int .i64 (y1008.1.2.1), .int .i64 (y1008.1.2.2.1), .int .i64 (y1008.1.2.2.2.1), .int .i64 (y1008.1.2.2.2.2)], .int .i64 (y1008.2.1), .int .i64 (y1008.2.2)])] (by kernel_rfl) (qT (qT (qT (qB (qT (qL (qB (qT (qT qZ))))))))) (by kernel_rfl) ?_
            refine wH_all [23] (by rfl) (by kernel_rfl) (by simp) ⟨⟨by kernel_rfl, ?_⟩, trivial⟩
            refine wS_alloc (d := 10) (T := 52) (z := .agg #[.int .i64 (0), .int .i64 (0), .int .i64 (0), .int .i64 (0), .int .i64 (0)]) (by kernel_rfl) (by kernel_rfl) ?_
            intro b1012 w1013 G1014 F1015 hc1016
            replace F1015 : Cl w1013 b1012 52 [.int .i64 (0), .int .i64 (0), .int .i64 (0), .int .i64 (0), .int .i64 (0)] := F1015
            have D1018 : Dj fp821 [b1012] := Dj.of F831.low (low1 G1014)
            have D1019 : Dj fp826 [b1012] := Dj.of F832.low (low1 G1014)
            replace F830 := F830.chg hc1016 Dj.nil
            replace F831 := F831.chg hc1016 Dj.nil
            replace F832 := F832.chg hc1016 Dj.nil
            replace F990 := F990.chg hc1016 Dj.nil
            replace F1001 := F1001.chg hc1016 Dj.nil
            replace hB := hB.inS hc1016 inNil
            have hSz := hS
            replace hS := hS.inS hc1016 inNil
            have Gz1020 := low1 (Nat.le_trans hSz.size G1014)
            replace G1014 := Nat.le_trans hZ G1014
            replace hZ := Nat.le_trans hZ hc1016.size
            refine wS_end (by kernel_rfl) ?_
            refine eX_KH hS ?_
            refine wH_all [24] (by rfl) (by kernel_rfl) (by simp) ⟨⟨by kernel_rfl, ?_⟩, trivial⟩
            refine wS_store (T := 52) (g := b1012) (o := 0) (ad := ⟨b1012, 0, none⟩) (v := .agg #[.int .i64 (y1008.1.1), .int .i64 (y1008.1.2.1), .int .i64 (y1008.1.2.2.1), .int .i64 (y1008.1.2.2.2.1), .int .i64 (y1008.1.2.2.2.2)]) (vs := [.int .i64 (y1008.1.1), .int .i64 (y1008.1.2.1), .int .i64 (y1008.1.2.2.1), .int .i64 (y1008.1.2.2.2.1), .int .i64 (y1008.1.2.2.2.2)]) (by kernel_rfl) (by rfl) sz52 (by rfl) (by rfl) F1015 (by simp only [List.length_cons, List.length_nil]; omega) ?_
            intro w1021 F1022 hc1023
            replace F830 := F830.chg hc1023 (Dj.of L1 (low1 G1014))
            replace F831 := F831.chg hc1023 D1018
            replace F832 := F832.chg hc1023 D1019
            replace F990 := F990.chg hc1023 (Dj.of L1 (low1 G1014))
            replace F1001 := F1001.chg hc1023 (Dj.of L1 (low1 G1014))
            replace hB := hB.inS hc1023 (inLow (low1 G1014))
            have hSz := hS
            replace hS := hS.inS hc1023 (inLow Gz1020)
            replace hZ := Nat.le_trans hZ hc1023.size
            replace F1022 : Cl w1021 b1012 52 [.int .i64 (y1008.1.1), .int .i64 (y1008.1.2.1), .int .i64 (y1008.1.2.2.1), .int .i64 (y1008.1.2.2.2.1), .int .i64 (y1008.1.2.2.2.2)] := F1022
            clear F1015
            refine wS_end (by kernel_rfl) ?_
            refine eX_KH hS ?_
            refine wH_take [25] [25, 24, 23, 22, 21, 20, 19, 18, 17, 16, 15, 14, 13, 12, 11, 10, 9, 8, 7, 6, 5, 4, 3, 2, 1, 0] [(11, .int .i64 (y1008.2.1))] (by kernel_rfl) (qT (qT (qT (qB (qT (qL (qB (qT (qT qZ))))))))) (by kernel_rfl) ?_
            refine wH_done (by kernel_rfl) ?_
            refine eX_tail ?_
            refine wS_pure 1 [(12, .int .i64 (y1008.2.2))] (by kernel_rfl) ?_
            refine wS_end (by rfl) ?_
            have hq : (some ((y1008.1.1, y1008.1.2.1, y1008.1.2.2.1, y1008.1.2.2.2.1, y1008.1.2.2.2.2, y1008.2.1, y1008.2.2)) : Option (Int × Int × Int × Int × Int × Int × Int)) = some _ := hm
            replace hq := someE hq
            subst hq
            exact eX_J (fun hst => ⟨b1012, y1008.1.1, y1008.1.2.1, y1008.1.2.2.1, y1008.1.2.2.2.1, y1008.1.2.2.2.2, y1008.2.1, y1008.2.2, rfl, Fr.of hst (by kernel_rfl), F830, F831, F832, F1022, G1014, D1018, D1019, hB, hZ⟩)
          · skip
            refine wS_alloc (d := 10) (T := 52) (z := .agg #[.int .i64 (0), .int .i64 (0), .int .i64 (0), .int .i64 (0), .int .i64 (0)]) (by kernel_rfl) (by kernel_rfl) ?_
            intro b1024 w1025 G1026 F1027 hc1028
            replace F1027 : Cl w1025 b1024 52 [.int .i64 (0), .int .i64 (0), .int .i64 (0), .int .i64 (0), .int .i64 (0)] := F1027
            have D1030 : Dj fp821 [b1024] := Dj.of F831.low (low1 G1026)
            have D1031 : Dj fp826 [b1024] := Dj.of F832.low (low1 G1026)
            replace F830 := F830.chg hc1028 Dj.nil
            replace F831 := F831.chg hc1028 Dj.nil
            replace F832 := F832.chg hc1028 Dj.nil
            replace F990 := F990.chg hc1028 Dj.nil
            replace F1001 := F1001.chg hc1028 Dj.nil
            replace hB := hB.inS hc1028 inNil
            have hSz := hS
            replace hS := hS.inS hc1028 inNil
            have Gz1032 := low1 (Nat.le_trans hSz.size G1026)
            replace G1026 := Nat.le_trans hZ G1026
            replace hZ := Nat.le_trans hZ hc1028.size
            refine wS_end (by kernel_rfl) ?_
            refine eX_KH hS ?_
            refine wH_all [18] (by rfl) (by kernel_rfl) (by simp) ⟨⟨by kernel_rfl, ?_⟩, trivial⟩
            obtain ⟨y1033, hy1034, hm⟩ := bindE hm
            refine wS_calls (d := 58) (f := 103) (vs := [.agg #[.int .i64 (x995.1), .int .i64 (x995.2.1), .int .i64 (x995.2.2.1), .int .i64 (x995.2.2.2.1), .int .i64 (x995.2.2.2.2)], .agg #[.int .i64 (x1006.1), .int .i64 (x1006.2.1), .int .i64 (x1006.2.2.1), .int .i64 (x1006.2.2.2.1), .int .i64 (x1006.2.2.2.2)]]) (by kernel_rfl) ent103 (c_spec_l06Pair hy1034) ?_
            rintro _ w1035 ⟨rfl, hc1036⟩
            replace F830 := F830.chg hc1036 Dj.nil
            replace F831 := F831.chg hc1036 Dj.nil
            replace F832 := F832.chg hc1036 Dj.nil
            replace F990 := F990.chg hc1036 Dj.nil
            replace F1001 := F1001.chg hc1036 Dj.nil
            replace F1027 := F1027.chg hc1036 notNil
            replace hB := hB.inS hc1036 inNil
            have hSz := hS
            replace hS := hS.inS hc1036 inNil
            replace hZ := Nat.le_trans hZ hc1036.size
            refine ⟨.tuple #[.agg #[.int .i64 (y1033.1.1), .int .i64 (y1033.1.2.1), .int .i64 (y1033.1.2.2.1), .int .i64 (y1033.1.2.2.2.1), .int .i64 (y1033.1.2.2.2.2)], .int .i64 (y1033.2.1), .int .i64 (y1033.2.2)], rfl, ?_⟩
            refine wS_end (by kernel_rfl) ?_
            refine eX_KH hS ?_
            refine wH_take [19, 20, 21, 22] [22, 21, 20, 19, 18, 23, 17, 16, 15, 14, 13, 12, 11, 10, 9, 8, 7, 6, 5, 4, 3, 2, 1, 0] [(61, .int .i64 (y1033.2.2)), (60, .int .i64 (y1033.2.1)), (59, .agg #[.int .i64 (y1033.1.1), .int .i64 (y1033.1.2.1), .int .i64 (y1033.1.2.2.1), .int .i64 (y1033.1.2.2.2.1), .int .i64 (y1033.1.2.2.2.2)]), (39, .tuple #[.agg #[.int .i64 (y1033.1.1), .int .i64 (y1033.1.2.1), .int .i64 (y1033.1.2.2.1), .int .i64 (y1033.1.2.2.2.1), .int .i64 (y1033.1.2.2.2.2)], .int .i64 (y1033.2.1), .int .i64 (y1033.2.2)])] (by kernel_rfl) (qT (qT (qT (qB (qT (qL (qB (qT (qT qZ))))))))) (by kernel_rfl) ?_
            refine wH_all [24] (by rfl) (by kernel_rfl) (by simp) ⟨⟨by kernel_rfl, ?_⟩, trivial⟩
            refine wS_store (T := 52) (g := b1024) (o := 0) (ad := ⟨b1024, 0, none⟩) (v := .agg #[.int .i64 (y1033.1.1), .int .i64 (y1033.1.2.1), .int .i64 (y1033.1.2.2.1), .int .i64 (y1033.1.2.2.2.1), .int .i64 (y1033.1.2.2.2.2)]) (vs := [.int .i64 (y1033.1.1), .int .i64 (y1033.1.2.1), .int .i64 (y1033.1.2.2.1), .int .i64 (y1033.1.2.2.2.1), .int .i64 (y1033.1.2.2.2.2)]) (by kernel_rfl) (by rfl) sz52 (by rfl) (by rfl) F1027 (by simp only [List.length_cons, List.length_nil]; omega) ?_
            intro w1037 F1038 hc1039
            replace F830 := F830.chg hc1039 (Dj.of L1 (low1 G1026))
            replace F831 := F831.chg hc1039 D1030
            replace F832 := F832.chg hc1039 D1031
            replace F990 := F990.chg hc1039 (Dj.of L1 (low1 G1026))
            replace F1001 := F1001.chg hc1039 (Dj.of L1 (low1 G1026))
            replace hB := hB.inS hc1039 (inLow (low1 G1026))
            have hSz := hS
            replace hS := hS.inS hc1039 (inLow Gz1032)
            replace hZ := Nat.le_trans hZ hc1039.size
            replace F1038 : Cl w1037 b1024 52 [.int .i64 (y1033.1.1), .int .i64 (y1033.1.2.1), .int .i64 (y1033.1.2.2.1), .int .i64 (y1033.1.2.2.2.1), .int .i64 (y1033.1.2.2.2.2)] := F1038
            clear F1027
            refine wS_end (by kernel_rfl) ?_
            refine eX_KH hS ?_
            refine wH_take [25] [25, 24, 22, 21, 20, 19, 18, 23, 17, 16, 15, 14, 13, 12, 11, 10, 9, 8, 7, 6, 5, 4, 3, 2, 1, 0] [(11, .int .i64 (y1033.2.1))] (by kernel_rfl) (qT (qT (qT (qB (qT (qL (qB (qT (qT qZ))))))))) (by kernel_rfl) ?_
            refine wH_done (by kernel_rfl) ?_
            refine eX_tail ?_
            refine wS_pure 1 [(12, .int .i64 (y1033.2.2))] (by kernel_rfl) ?_
            refine wS_end (by rfl) ?_
            have hq : (some ((y1033.1.1, y1033.1.2.1, y1033.1.2.2.1, y1033.1.2.2.2.1, y1033.1.2.2.2.2, y1033.2.1, y1033.2.2)) : Option (Int × Int × Int × Int × Int × Int × Int)) = some _ := hm
            replace hq := someE hq
            subst hq
            exact eX_J (fun hst => ⟨b1024, y1033.1.1, y1033.1.2.1, y1033.1.2.2.1, y1033.1.2.2.2.1, y1033.1.2.2.2.2, y1033.2.1, y1033.2.2, rfl, Fr.of hst (by kernel_rfl), F830, F831, F832, F1038, G1026, D1030, D1031, hB, hZ⟩)
        · rintro a' w961 ⟨b962, x963, x964, x965, x966, x967, x969, x970, hJ, hF971, F972, F973, F974, F975, G976, D977, D978, hB, hZ⟩
          subst hJ
          refine Fr.goX hF971 (by kernel_rfl) ?_
          refine eX_then ?_
          refine cW_seq ?_
          refine cW_region ?_
          refine wS_pure 3 [(64, .int .i64 (x828)), (63, .slice A1 (l1).length cap1), (62, .slice A824 (l823).length cap825)] (by kernel_rfl) ?_
          obtain ⟨x1040, hx1041, hm⟩ := bindE hm
          refine wS_idx (d := 65) (T := 44) (A := A1) (n := (l1).length) (cap := cap1) (kd := .i64) (m := x828) (by kernel_rfl) sl44 (F972.is hx1041) ?_
          obtain ⟨A1042, cap1043, hc1045, F1044⟩ := SlR.row F972 hx1041
          refine wS_load1 (d := 66) (T := 68) (ad := (elA A1 1 (x828) 0)) (v := .slice A1042 (x1040).length cap1043) (by kernel_rfl) vt68 hc1045 ?_
          obtain ⟨x1047, hx1048, hm⟩ := bindE hm
          refine wS_idx (d := 67) (T := 68) (A := A1042) (n := (x1040).length) (cap := cap1043) (kd := .i64) (m := 0) (by kernel_rfl) sl68 (F1044.is hx1048) ?_
          refine wS_load1 (d := 68) (T := 2) (ad := (elA A1042 1 (0) 0)) (v := .int .i64 (x1047)) (by kernel_rfl) vt2 (Sl.cell F1044 hx1048 0 (by rfl)) ?_
          refine wS_pure 1 [(69, .int .i64 (x969))] (by kernel_rfl) ?_
          obtain ⟨x1049, hx1050, hm⟩ := bindE hm
          refine wS_idx (d := 70) (T := 68) (A := A824) (n := (l823).length) (cap := cap825) (kd := .i64) (m := x1047) (by kernel_rfl) sl68 ((F974.sl encI_ok).is hx1050) ?_
          refine wS_storeEl (x := x1049) x969 (T := 2) (U := 2) (cap := cap825) (j := 0) (A := A824) (v := .int .i64 (x969)) (vs := [.int .i64 (x969)]) (m := x1047) (by kernel_rfl) (by rfl) sz2 (by rfl) encI_ok F974 hx1050 (by simp only [List.length_cons, List.length_nil]; omega) (by rfl) ?_
          intro w1051 F1052 hc1053
          replace F972 := F972.chg hc1053 (Dj.of L1 G834)
          replace F973 := F973.chg hc1053 (D835).symm
          replace F975 := F975.chg hc1053 (dj1 (D978).symm)
          replace F1044 := F1044.chg hc1053 (Dj.of L1 G834)
          replace hB := hB.inS hc1053 (inLow G834)
          replace hZ := Nat.le_trans hZ hc1053.size
          clear F974
          rewrite [show (l823).length = (l823.set (Int.toNat x1047) x969).length from (List.length_set ..).symm]
          refine wS_end (by rfl) ?_
          refine eX_then ?_
          refine cW_seq ?_
          refine cW_region ?_
          refine wS_pure 3 [(73, .int .i64 (x828)), (72, .slice A1 (l1).length cap1), (71, .slice A824 (l823.set (Int.toNat x1047) x969).length cap825)] (by kernel_rfl) ?_
          obtain ⟨x1054, hx1055, hm⟩ := bindE hm
          refine wS_idx (d := 74) (T := 44) (A := A1) (n := (l1).length) (cap := cap1) (kd := .i64) (m := x828) (by kernel_rfl) sl44 (F972.is hx1055) ?_
          obtain ⟨A1056, cap1057, hc1059, F1058⟩ := SlR.row F972 hx1055
          refine wS_load1 (d := 75) (T := 68) (ad := (elA A1 1 (x828) 0)) (v := .slice A1056 (x1054).length cap1057) (by kernel_rfl) vt68 hc1059 ?_
          obtain ⟨x1061, hx1062, hm⟩ := bindE hm
          refine wS_idx (d := 76) (T := 68) (A := A1056) (n := (x1054).length) (cap := cap1057) (kd := .i64) (m := 1) (by kernel_rfl) sl68 (F1058.is hx1062) ?_
          refine wS_load1 (d := 77) (T := 2) (ad := (elA A1056 1 (1) 0)) (v := .int .i64 (x1061)) (by kernel_rfl) vt2 (Sl.cell F1058 hx1062 0 (by rfl)) ?_
          refine wS_pure 1 [(78, .int .i64 (x970))] (by kernel_rfl) ?_
          obtain ⟨x1063, hx1064, hm⟩ := bindE hm
          refine wS_idx (d := 79) (T := 68) (A := A824) (n := (l823.set (Int.toNat x1047) x969).length) (cap := cap825) (kd := .i64) (m := x1061) (by kernel_rfl) sl68 ((F1052.sl encI_ok).is hx1064) ?_
          refine wS_storeEl (x := x1063) x970 (T := 2) (U := 2) (cap := cap825) (j := 0) (A := A824) (v := .int .i64 (x970)) (vs := [.int .i64 (x970)]) (m := x1061) (by kernel_rfl) (by rfl) sz2 (by rfl) encI_ok F1052 hx1064 (by simp only [List.length_cons, List.length_nil]; omega) (by rfl) ?_
          intro w1065 F1066 hc1067
          replace F972 := F972.chg hc1067 (Dj.of L1 G834)
          replace F973 := F973.chg hc1067 (D835).symm
          replace F975 := F975.chg hc1067 (dj1 (D978).symm)
          replace F1044 := F1044.chg hc1067 (Dj.of L1 G834)
          replace F1058 := F1058.chg hc1067 (Dj.of L1 G834)
          replace hB := hB.inS hc1067 (inLow G834)
          replace hZ := Nat.le_trans hZ hc1067.size
          clear F1052
          rewrite [show (l823.set (Int.toNat x1047) x969).length = ((l823.set (Int.toNat x1047) x969).set (Int.toNat x1061) x970).length from (List.length_set ..).symm]
          refine wS_end (by rfl) ?_
          refine eX_then ?_
          refine cW_prune [(1, .slice A1 (l1).length cap1), (6, .slice A819 (l818).length cap820), (7, .slice A824 ((l823.set (Int.toNat x1047) x969).set (Int.toNat x1061) x970).length cap825), (9, .int .i64 (x828)), (10, .pointer (some ⟨b962, 0, none⟩))] (by kernel_rfl) (by kernel_rfl) (fun a1068 => ?_)
          refine cW_seq ?_
          refine cW_region ?_
          refine wS_pure 1 [(80, .slice A819 (l818).length cap820)] (by kernel_rfl) ?_
          refine wS_loadA (d := 81) (T := 52) (ad := ⟨b962, 0, none⟩) (vs := [.int .i64 (x963), .int .i64 (x964), .int .i64 (x965), .int .i64 (x966), .int .i64 (x967)]) (by kernel_rfl) vt52 (fun i u hu => box_cells F975 0 hu (by rfl)) ?_
          refine wS_bs (enc := encIIIII) ([(x963, x964, x965, x966, x967)] : List (Int × Int × Int × Int × Int)) [.int .i64 (x963), .int .i64 (x964), .int .i64 (x965), .int .i64 (x966), .int .i64 (x967)] (d := 82) (t := 75) (T := 52) (n := 1) (ps := [(0, .agg #[.int .i64 (x963), .int .i64 (x964), .int .i64 (x965), .int .i64 (x966), .int .i64 (x967)])]) (by kernel_rfl) el75 encIIIII_ok (by rfl) (by omega) (by omega) (by kernel_rfl) (by rfl) ?_
          intro b1069 w1070 G1071 F1072 hc1073
          have D1075 : Dj fp821 [b1069] := Dj.of F973.low (low1 G1071)
          have D1076 : Dj fp826 [b1069] := Dj.of F1066.low (low1 G1071)
          have D1077 : Dj [b962] [b1069] := Dj.of (lt1 F975.lt) (low1 G1071)
          replace F972 := F972.chg hc1073 Dj.nil
          replace F973 := F973.chg hc1073 Dj.nil
          replace F1066 := F1066.chg hc1073 Dj.nil
          replace F975 := F975.chg hc1073 notNil
          replace F1044 := F1044.chg hc1073 Dj.nil
          replace F1058 := F1058.chg hc1073 Dj.nil
          replace hB := hB.inS hc1073 inNil
          replace G1071 := Nat.le_trans hZ G1071
          replace G1071 := low1 G1071
          replace hZ := Nat.le_trans hZ hc1073.size
          obtain ⟨_, hk1078, hm⟩ := bindE hm
          replace hk1078 := apE hk1078
          refine wS_append (enc := encIIIII) (l := (l818 : List (Int × Int × Int × Int × Int))) (l2 := (([(x963, x964, x965, x966, x967)] : List (Int × Int × Int × Int × Int)) : List (Int × Int × Int × Int × Int))) (d := 83) (t := 75) (T := 52) (A := A819) (A2 := (some ⟨b1069, 0, none⟩)) (cap := cap820) (cap2 := 1) (by kernel_rfl) el75 encIIIII_ok F973 (F1072.sl encIIIII_ok) (by rfl) hk1078 ?_
          intro w1079 fp1080 A1081 cap1082 F1083 hc1084 hp1085
          have G1087 := low_ap G833 hZ hp1085
          have D1088 : Dj fp826 fp1080 := Dj.ap D835 F1066.low hp1085
          have D1089 : Dj [b962] fp1080 := Dj.ap (D977).symm (lt1 F975.lt) hp1085
          have D1090 : Dj [b1069] fp1080 := Dj.ap (D1075).symm F1072.low hp1085
          replace F972 := F972.chg hc1084 (Dj.of L1 G833)
          replace F1066 := F1066.chg hc1084 D835
          replace F975 := F975.chg hc1084 (dj1 (D977).symm)
          replace F1044 := F1044.chg hc1084 (Dj.of L1 G833)
          replace F1058 := F1058.chg hc1084 (Dj.of L1 G833)
          replace F1072 := F1072.chg hc1084 (D1075).symm
          replace hB := hB.inS hc1084 (inLow G833)
          replace hZ := Nat.le_trans hZ hc1084.size
          refine wS_pure 1 [(6, .slice A1081 (l818 ++ (([(x963, x964, x965, x966, x967)] : List (Int × Int × Int × Int × Int)))).length cap1082)] (by kernel_rfl) ?_
          refine wS_end (by rfl) ?_
          refine eX_then ?_
          refine cW_region ?_
          refine wS_pure 1 [(84, .slice A824 ((l823.set (Int.toNat x1047) x969).set (Int.toNat x1061) x970).length cap825)] (by kernel_rfl) ?_
          refine wS_bs (enc := encI) ([0] : List (Int)) [.int .i64 (0)] (d := 85) (t := 68) (T := 2) (n := 1) (ps := [(0, .int .i64 (0))]) (by kernel_rfl) el68 encI_ok (by rfl) (by omega) (by omega) (by kernel_rfl) (by rfl) ?_
          intro b1091 w1092 G1093 F1094 hc1095
          have D1097 : Dj fp826 [b1091] := Dj.of F1066.low (low1 G1093)
          have D1098 : Dj [b962] [b1091] := Dj.of (lt1 F975.lt) (low1 G1093)
          have D1099 : Dj [b1069] [b1091] := Dj.of F1072.low (low1 G1093)
          have D1100 : Dj fp1080 [b1091] := Dj.of F1083.low (low1 G1093)
          replace F972 := F972.chg hc1095 Dj.nil
          replace F1066 := F1066.chg hc1095 Dj.nil
          replace F975 := F975.chg hc1095 notNil
          replace F1044 := F1044.chg hc1095 Dj.nil
          replace F1058 := F1058.chg hc1095 Dj.nil
          replace F1072 := F1072.chg hc1095 Dj.nil
          replace F1083 := F1083.chg hc1095 Dj.nil
          replace hB := hB.inS hc1095 inNil
          replace G1093 := Nat.le_trans hZ G1093
          replace G1093 := low1 G1093
          replace hZ := Nat.le_trans hZ hc1095.size
          obtain ⟨_, hk1101, hm⟩ := bindE hm
          replace hk1101 := apE hk1101
          refine wS_append (enc := encI) (l := ((l823.set (Int.toNat x1047) x969).set (Int.toNat x1061) x970 : List (Int))) (l2 := (([0] : List (Int)) : List (Int))) (d := 86) (t := 68) (T := 2) (A := A824) (A2 := (some ⟨b1091, 0, none⟩)) (cap := cap825) (cap2 := 1) (by kernel_rfl) el68 encI_ok F1066 (F1094.sl encI_ok) (by rfl) hk1101 ?_
          intro w1102 fp1103 A1104 cap1105 F1106 hc1107 hp1108
          have G1110 := low_ap G834 hZ hp1108
          have D1111 : Dj [b962] fp1103 := Dj.ap (D978).symm (lt1 F975.lt) hp1108
          have D1112 : Dj [b1069] fp1103 := Dj.ap (D1076).symm F1072.low hp1108
          have D1113 : Dj fp1080 fp1103 := Dj.ap (D1088).symm F1083.low hp1108
          have D1114 : Dj [b1091] fp1103 := Dj.ap (D1097).symm F1094.low hp1108
          replace F972 := F972.chg hc1107 (Dj.of L1 G834)
          replace F975 := F975.chg hc1107 (dj1 (D978).symm)
          replace F1044 := F1044.chg hc1107 (Dj.of L1 G834)
          replace F1058 := F1058.chg hc1107 (Dj.of L1 G834)
          replace F1072 := F1072.chg hc1107 (D1076).symm
          replace F1083 := F1083.chg hc1107 (D1088).symm
          replace F1094 := F1094.chg hc1107 (D1097).symm
          replace hB := hB.inS hc1107 (inLow G834)
          replace hZ := Nat.le_trans hZ hc1107.size
          refine wS_pure 1 [(7, .slice A1104 (((l823.set (Int.toNat x1047) x969).set (Int.toNat x1061) x970) ++ (([0] : List (Int)))).length cap1105)] (by kernel_rfl) ?_
          refine wS_end (by rfl) ?_
          refine eX_block ?_
          refine eX_then ?_
          refine cW_region ?_
          refine wS_pure 3 [(9, .int .i64 (wr (x828 + 1))), (38, .int .i64 (wr (x828 + 1))), (37, .int .i64 (x828))] (by kernel_rfl) ?_
          refine wS_end (by rfl) ?_
          have hq : (some (Ctl.next ((l818 ++ (([(x963, x964, x965, x966, x967)] : List (Int × Int × Int × Int × Int))), ((l823.set (Int.toNat x1047) x969).set (Int.toNat x1061) x970) ++ (([0] : List (Int))), wr (x828 + 1)))) : Option (Ctl ((List (Int × Int × Int × Int × Int)) × (List (Int)) × Int) ((List (Int × Int × Int × Int × Int)) × (List (Int))))) = some _ := hm
          replace hq := someE hq
          subst hq
          exact eX_next hx841 (fun hst => ⟨l818 ++ (([(x963, x964, x965, x966, x967)] : List (Int × Int × Int × Int × Int))), A1081, cap1082, fp1080, ((l823.set (Int.toNat x1047) x969).set (Int.toNat x1061) x970) ++ (([0] : List (Int))), A1104, cap1105, fp1103, wr (x828 + 1), rfl, Fr.of hst (by kernel_rfl), F972, F1083, F1106, G1087, G1110, (D1113).symm, hB, hZ⟩)
      · have hm := condF hb842 hm
        refine cW_exit ?_
        refine eX_then_exit ?_
        have hq : (some (Ctl.out ((l818, l823))) : Option (Ctl ((List (Int × Int × Int × Int × Int)) × (List (Int)) × Int) ((List (Int × Int × Int × Int × Int)) × (List (Int))))) = some _ := hm
        replace hq := someE hq
        subst hq
        refine eX_outX hx841 (fun hr1115 => ?_)
        replace hr1115 := hr1115.symm
        subst hr1115
        refine eX_block_hit ?_
        exact eX_J (fun hst => ⟨l818, A819, cap820, fp821, l823, A824, cap825, fp826, rfl, Fr.of hst (by kernel_rfl), F831, F832, G833, G834, D835, hB, hZ⟩)
    · rintro a' w800 ⟨l801, A802, cap803, fp804, l806, A807, cap808, fp809, hJ, hF811, F812, F813, G814, G815, D816, hB, hZ⟩
      subst hJ
      refine Fr.goX hF811 (by kernel_rfl) ?_
      refine eX_then ?_
      refine cW_seq ?_
      refine cW_region ?_
      refine wS_pure 4 [(5, .slice A807 (l806).length cap808), (4, .slice A802 (l801).length cap803), (88, .slice A807 (l806).length cap808), (87, .slice A802 (l801).length cap803)] (by kernel_rfl) ?_
      refine wS_end (by rfl) ?_
      refine eX_then ?_
      refine cW_ret ?_
      have hq : (some ((l801, l806)) : Option ((List (Int × Int × Int × Int × Int)) × (List (Int)))) = some _ := hm
      replace hq := someE hq
      subst hq
      refine eX_ret (vs := [.slice A802 (l801).length cap803, .slice A807 (l806).length cap808]) [.tmp 4, .tmp 5] (by rfl) ⟨by (show lkE _ _ _ = _); kernel_rfl, ⟨by (show lkE _ _ _ = _); kernel_rfl, trivial⟩⟩ ?_
      exact ⟨A802, cap803, fp804, A807, cap808, fp809, rfl, F812, G814, F813, G815, (D816).symm, hB⟩

set_option maxRecDepth 100000 in
/-- laws.markPointS -/
theorem c_laws_markPointS {w0 : World} {l0 : List (Int × Int)} {A0 : Option Addr} {cap0 : Nat} {fp0 : List Nat} {p1 : Int} {r : (Int) × (List (Int × Int))} (hm : m_laws_markPointS l0 p1 = some r) (F0 : Ow 2 encII 32 w0 fp0 A0 cap0 l0) :
    Calls Try.prog 66 #[.slice A0 (l0).length cap0, .int .i64 (p1)] w0 fun e w' => e = .returned (.int .i64 (r.1)) ∧ Ow 2 encII 32 w' fp0 A0 cap0 r.2 ∧ (r.2).length = (l0).length ∧ Chg (fp0 ++ []) w0 w' := by
  have L0 := F0.low
  have hB : Chg (fp0 ++ []) w0 w0 := Chg.refl _ _
  have hZ := Nat.le_refl w0.heap.size
  unfold m_laws_markPointS at hm
  refine enterE (N := 27) Try.func66 (by rfl) Try.ntmps66 (by simp) [(0, .slice A0 (l0).length cap0), (1, .int .i64 (p1))] (by rfl) (by kernel_rfl) (fun a => ?_)
  refine cW_seq ?_
  refine cW_region ?_
  refine wS_pure 1 [(4, .int .i64 (0))] (by kernel_rfl) ?_
  refine wS_end (by rfl) ?_
  refine eX_then ?_
  refine cW_seq ?_
  refine cW_seq ?_
  refine cW_region ?_
  refine wS_pure 1 [(5, .int .i64 (0))] (by kernel_rfl) ?_
  refine wS_end (by rfl) ?_
  refine eX_then ?_
  obtain ⟨r49, hr50, hm⟩ := bindE hm
  have hm51 := hm
  refine cW_cut (fun a' w' => ∃ x37 : Int, ∃ l38 : List (Int × Int), (x37, l38) = r49 ∧ Fr 27 [(1, .int .i64 (x37))] a' ∧ Ow 2 encII 32 w' fp0 A0 cap0 l38 ∧ (l38).length = (l0).length ∧ Chg (fp0 ++ []) w0 w' ∧ w0.heap.size ≤ w'.heap.size) ?_ ?_
  · refine cW_block ?_
    refine cW_loop _ (fun (s52 : Int × Int × (List (Int × Int))) a' w' => ∃ x43 : Int, ∃ x44 : Int, ∃ l45 : List (Int × Int), (x43, x44, l45) = s52 ∧ Fr 27 [(0, .slice A0 (l45).length cap0), (1, .int .i64 (x43)), (5, .int .i64 (x44))] a' ∧ Ow 2 encII 32 w' fp0 A0 cap0 l45 ∧ (l45).length = (l0).length ∧ Chg (fp0 ++ []) w0 w' ∧ w0.heap.size ≤ w'.heap.size) hr50 (fun hst => ⟨p1, 0, l0, rfl, Fr.of hst (by kernel_rfl), F0, (Eq.refl (l0).length), hB, hZ⟩) ?_
    rintro _ c53 a' w42 ⟨x43, x44, l45, rfl, hF46, F47, hl48, hB, hZ⟩ hx54
    refine Fr.goOn hF46 (by kernel_rfl) ?_
    have hm := hx54
    unfold m_laws_markPointS_s1 at hm
    refine cW_seq ?_
    refine cW_seq ?_
    refine cW_region ?_
    refine wS_pure 4 [(9, .bool (decide (x44 < (((l45).length : Int))))), (8, .int .i64 (((l45).length : Int))), (7, .slice A0 (l45).length cap0), (6, .int .i64 (x44))] (by kernel_rfl) ?_
    refine wS_end (by rfl) ?_
    refine eX_then ?_
    refine cW_cond (t := decide (x44 < (((l45).length : Int)))) (by kernel_rfl) (fun hb55 => ?_) (fun hb55 => ?_)
    · have hm := condT hb55 hm
      refine cW_skip ?_
      refine eX_then ?_
      refine cW_seq ?_
      refine cW_block ?_
      refine cW_seq ?_
      refine cW_region ?_
      refine wS_pure 3 [(14, .int .i64 (x43)), (13, .int .i64 (x44)), (12, .slice A0 (l45).length cap0)] (by kernel_rfl) ?_
      obtain ⟨x56, hx57, hm⟩ := bindE hm
      refine wS_idx (d := 15) (T := 59) (A := A0) (n := (l45).length) (cap := cap0) (kd := .i64) (m := x44) (by kernel_rfl) sl59 ((F47.sl encII_ok).is hx57) ?_
      refine wS_pure 1 [(16, .pointer (some (elA A0 2 (x44) 0)))] (by kernel_rfl) ?_
      refine wS_storeEl (x := x56) ((x43, x56.2)) (T := 2) (U := 32) (cap := cap0) (j := 0) (A := A0) (v := .int .i64 (x43)) (vs := [.int .i64 (x43)]) (m := x44) (by kernel_rfl) (by rfl) sz2 (by rfl) encII_ok F47 hx57 (by simp only [List.length_cons, List.length_nil]; omega) (by rfl) ?_
      intro w58 F59 hc60
      replace hB := hB.inS hc60 (inMem (fun x hx => (List.mem_append_left _ hx)))
      replace hZ := Nat.le_trans hZ hc60.size
      clear F47
      have hl61 := (show (l45.set (Int.toNat x44) ((x43, x56.2))).length = (l45).length from List.length_set ..).trans hl48
      rewrite [show (l45).length = (l45.set (Int.toNat x44) ((x43, x56.2))).length from (List.length_set ..).symm]
      refine wS_end (by rfl) ?_
      refine eX_then ?_
      refine cW_seq ?_
      refine cW_region ?_
      refine wS_pure 3 [(1, .int .i64 (wr (x43 + 1))), (18, .int .i64 (wr (x43 + 1))), (17, .int .i64 (x43))] (by kernel_rfl) ?_
      refine wS_end (by rfl) ?_
      refine eX_then ?_
      refine cW_seq ?_
      refine cW_region ?_
      refine wS_pure 3 [(21, .int .i64 (wr (x43 + 1))), (20, .int .i64 (x44)), (19, .slice A0 (l45.set (Int.toNat x44) ((x43, x56.2))).length cap0)] (by kernel_rfl) ?_
      obtain ⟨x62, hx63, hm⟩ := bindE hm
      refine wS_idx (d := 22) (T := 59) (A := A0) (n := (l45.set (Int.toNat x44) ((x43, x56.2))).length) (cap := cap0) (kd := .i64) (m := x44) (by kernel_rfl) sl59 ((F59.sl encII_ok).is hx63) ?_
      refine wS_pure 1 [(23, .pointer (some (elA A0 2 (x44) 1)))] (by kernel_rfl) ?_
      refine wS_storeEl (x := x62) ((x62.1, wr (x43 + 1))) (T := 2) (U := 32) (cap := cap0) (j := 1) (A := A0) (v := .int .i64 (wr (x43 + 1))) (vs := [.int .i64 (wr (x43 + 1))]) (m := x44) (by kernel_rfl) (by rfl) sz2 (by rfl) encII_ok F59 hx63 (by simp only [List.length_cons, List.length_nil]; omega) (by rfl) ?_
      intro w64 F65 hc66
      replace hB := hB.inS hc66 (inMem (fun x hx => (List.mem_append_left _ hx)))
      replace hZ := Nat.le_trans hZ hc66.size
      clear F59
      have hl67 := (show ((l45.set (Int.toNat x44) ((x43, x56.2))).set (Int.toNat x44) ((x62.1, wr (x43 + 1)))).length = (l45.set (Int.toNat x44) ((x43, x56.2))).length from List.length_set ..).trans hl61
      rewrite [show (l45.set (Int.toNat x44) ((x43, x56.2))).length = ((l45.set (Int.toNat x44) ((x43, x56.2))).set (Int.toNat x44) ((x62.1, wr (x43 + 1)))).length from (List.length_set ..).symm]
      refine wS_end (by rfl) ?_
      refine eX_then ?_
      refine cW_region ?_
      refine wS_pure 3 [(1, .int .i64 (wr ((wr (x43 + 1)) + 1))), (25, .int .i64 (wr ((wr (x43 + 1)) + 1))), (24, .int .i64 (wr (x43 + 1)))] (by kernel_rfl) ?_
      refine wS_end (by rfl) ?_
      refine eX_block ?_
      refine eX_then ?_
      refine cW_region ?_
      refine wS_pure 3 [(5, .int .i64 (wr (x44 + 1))), (11, .int .i64 (wr (x44 + 1))), (10, .int .i64 (x44))] (by kernel_rfl) ?_
      refine wS_end (by rfl) ?_
      have hq : (some (Ctl.next ((wr ((wr (x43 + 1)) + 1), wr (x44 + 1), (l45.set (Int.toNat x44) ((x43, x56.2))).set (Int.toNat x44) ((x62.1, wr (x43 + 1)))))) : Option (Ctl (Int × Int × (List (Int × Int))) (Int × (List (Int × Int))))) = some _ := hm
      replace hq := someE hq
      subst hq
      exact eX_next hx54 (fun hst => ⟨wr ((wr (x43 + 1)) + 1), wr (x44 + 1), (l45.set (Int.toNat x44) ((x43, x56.2))).set (Int.toNat x44) ((x62.1, wr (x43 + 1))), rfl, Fr.of hst (by kernel_rfl), F65, hl67, hB, hZ⟩)
    · have hm := condF hb55 hm
      refine cW_exit ?_
      refine eX_then_exit ?_
      have hq : (some (Ctl.out ((x43, l45))) : Option (Ctl (Int × Int × (List (Int × Int))) (Int × (List (Int × Int))))) = some _ := hm
      replace hq := someE hq
      subst hq
      refine eX_outX hx54 (fun hr68 => ?_)
      replace hr68 := hr68.symm
      subst hr68
      refine eX_block_hit ?_
      exact eX_J (fun hst => ⟨x43, l45, rfl, Fr.of hst (by kernel_rfl), F47, hl48, hB, hZ⟩)
  · rintro a' w36 ⟨x37, l38, hJ, hF39, F40, hl41, hB, hZ⟩
    subst hJ
    refine Fr.goX hF39 (by kernel_rfl) ?_
    refine eX_then ?_
    refine cW_seq ?_
    refine cW_region ?_
    refine wS_pure 2 [(4, .int .i64 (x37)), (26, .int .i64 (x37))] (by kernel_rfl) ?_
    refine wS_end (by rfl) ?_
    refine eX_then ?_
    refine cW_ret ?_
    have hq : (some ((x37, l38)) : Option ((Int) × (List (Int × Int)))) = some _ := hm
    replace hq := someE hq
    subst hq
    refine eX_ret (vs := [.int .i64 (x37)]) [.tmp 4] (by rfl) ⟨by (show lkE _ _ _ = _); kernel_rfl, trivial⟩ ?_
    exact ⟨rfl, F40, hl41, hB⟩

set_option maxRecDepth 100000 in
/-- laws.markInt64S -/
theorem c_laws_markInt64S {w0 : World} {l0 : List (Int)} {A0 : Option Addr} {cap0 : Nat} {fp0 : List Nat} {p1 : Int} {r : (Int) × (List (Int))} (hm : m_laws_markInt64S l0 p1 = some r) (F0 : Ow 1 encI 2 w0 fp0 A0 cap0 l0) :
    Calls Try.prog 70 #[.slice A0 (l0).length cap0, .int .i64 (p1)] w0 fun e w' => e = .returned (.int .i64 (r.1)) ∧ Ow 1 encI 2 w' fp0 A0 cap0 r.2 ∧ (r.2).length = (l0).length ∧ Chg (fp0 ++ []) w0 w' := by
  have L0 := F0.low
  have hB : Chg (fp0 ++ []) w0 w0 := Chg.refl _ _
  have hZ := Nat.le_refl w0.heap.size
  unfold m_laws_markInt64S at hm
  refine enterE (N := 19) Try.func70 (by rfl) Try.ntmps70 (by simp) [(0, .slice A0 (l0).length cap0), (1, .int .i64 (p1))] (by rfl) (by kernel_rfl) (fun a => ?_)
  refine cW_seq ?_
  refine cW_region ?_
  refine wS_pure 1 [(4, .int .i64 (0))] (by kernel_rfl) ?_
  refine wS_end (by rfl) ?_
  refine eX_then ?_
  refine cW_seq ?_
  refine cW_seq ?_
  refine cW_region ?_
  refine wS_pure 1 [(5, .int .i64 (0))] (by kernel_rfl) ?_
  refine wS_end (by rfl) ?_
  refine eX_then ?_
  obtain ⟨r37, hr38, hm⟩ := bindE hm
  have hm39 := hm
  refine cW_cut (fun a' w' => ∃ x25 : Int, ∃ l26 : List (Int), (x25, l26) = r37 ∧ Fr 19 [(1, .int .i64 (x25))] a' ∧ Ow 1 encI 2 w' fp0 A0 cap0 l26 ∧ (l26).length = (l0).length ∧ Chg (fp0 ++ []) w0 w' ∧ w0.heap.size ≤ w'.heap.size) ?_ ?_
  · refine cW_block ?_
    refine cW_loop _ (fun (s40 : Int × Int × (List (Int))) a' w' => ∃ x31 : Int, ∃ x32 : Int, ∃ l33 : List (Int), (x31, x32, l33) = s40 ∧ Fr 19 [(0, .slice A0 (l33).length cap0), (1, .int .i64 (x31)), (5, .int .i64 (x32))] a' ∧ Ow 1 encI 2 w' fp0 A0 cap0 l33 ∧ (l33).length = (l0).length ∧ Chg (fp0 ++ []) w0 w' ∧ w0.heap.size ≤ w'.heap.size) hr38 (fun hst => ⟨p1, 0, l0, rfl, Fr.of hst (by kernel_rfl), F0, (Eq.refl (l0).length), hB, hZ⟩) ?_
    rintro _ c41 a' w30 ⟨x31, x32, l33, rfl, hF34, F35, hl36, hB, hZ⟩ hx42
    refine Fr.goOn hF34 (by kernel_rfl) ?_
    have hm := hx42
    unfold m_laws_markInt64S_s1 at hm
    refine cW_seq ?_
    refine cW_seq ?_
    refine cW_region ?_
    refine wS_pure 4 [(9, .bool (decide (x32 < (((l33).length : Int))))), (8, .int .i64 (((l33).length : Int))), (7, .slice A0 (l33).length cap0), (6, .int .i64 (x32))] (by kernel_rfl) ?_
    refine wS_end (by rfl) ?_
    refine eX_then ?_
    refine cW_cond (t := decide (x32 < (((l33).length : Int)))) (by kernel_rfl) (fun hb43 => ?_) (fun hb43 => ?_)
    · have hm := condT hb43 hm
      refine cW_skip ?_
      refine eX_then ?_
      refine cW_seq ?_
      refine cW_block ?_
      refine cW_seq ?_
      refine cW_region ?_
      refine wS_pure 3 [(14, .int .i64 (x31)), (13, .int .i64 (x32)), (12, .slice A0 (l33).length cap0)] (by kernel_rfl) ?_
      obtain ⟨x44, hx45, hm⟩ := bindE hm
      refine wS_idx (d := 15) (T := 68) (A := A0) (n := (l33).length) (cap := cap0) (kd := .i64) (m := x32) (by kernel_rfl) sl68 ((F35.sl encI_ok).is hx45) ?_
      refine wS_storeEl (x := x44) x31 (T := 2) (U := 2) (cap := cap0) (j := 0) (A := A0) (v := .int .i64 (x31)) (vs := [.int .i64 (x31)]) (m := x32) (by kernel_rfl) (by rfl) sz2 (by rfl) encI_ok F35 hx45 (by simp only [List.length_cons, List.length_nil]; omega) (by rfl) ?_
      intro w46 F47 hc48
      replace hB := hB.inS hc48 (inMem (fun x hx => (List.mem_append_left _ hx)))
      replace hZ := Nat.le_trans hZ hc48.size
      clear F35
      have hl49 := (show (l33.set (Int.toNat x32) x31).length = (l33).length from List.length_set ..).trans hl36
      rewrite [show (l33).length = (l33.set (Int.toNat x32) x31).length from (List.length_set ..).symm]
      refine wS_end (by rfl) ?_
      refine eX_then ?_
      refine cW_region ?_
      refine wS_pure 3 [(1, .int .i64 (wr (x31 + 1))), (17, .int .i64 (wr (x31 + 1))), (16, .int .i64 (x31))] (by kernel_rfl) ?_
      refine wS_end (by rfl) ?_
      refine eX_block ?_
      refine eX_then ?_
      refine cW_region ?_
      refine wS_pure 3 [(5, .int .i64 (wr (x32 + 1))), (11, .int .i64 (wr (x32 + 1))), (10, .int .i64 (x32))] (by kernel_rfl) ?_
      refine wS_end (by rfl) ?_
      have hq : (some (Ctl.next ((wr (x31 + 1), wr (x32 + 1), l33.set (Int.toNat x32) x31))) : Option (Ctl (Int × Int × (List (Int))) (Int × (List (Int))))) = some _ := hm
      replace hq := someE hq
      subst hq
      exact eX_next hx42 (fun hst => ⟨wr (x31 + 1), wr (x32 + 1), l33.set (Int.toNat x32) x31, rfl, Fr.of hst (by kernel_rfl), F47, hl49, hB, hZ⟩)
    · have hm := condF hb43 hm
      refine cW_exit ?_
      refine eX_then_exit ?_
      have hq : (some (Ctl.out ((x31, l33))) : Option (Ctl (Int × Int × (List (Int))) (Int × (List (Int))))) = some _ := hm
      replace hq := someE hq
      subst hq
      refine eX_outX hx42 (fun hr50 => ?_)
      replace hr50 := hr50.symm
      subst hr50
      refine eX_block_hit ?_
      exact eX_J (fun hst => ⟨x31, l33, rfl, Fr.of hst (by kernel_rfl), F35, hl36, hB, hZ⟩)
  · rintro a' w24 ⟨x25, l26, hJ, hF27, F28, hl29, hB, hZ⟩
    subst hJ
    refine Fr.goX hF27 (by kernel_rfl) ?_
    refine eX_then ?_
    refine cW_seq ?_
    refine cW_region ?_
    refine wS_pure 2 [(4, .int .i64 (x25)), (18, .int .i64 (x25))] (by kernel_rfl) ?_
    refine wS_end (by rfl) ?_
    refine eX_then ?_
    refine cW_ret ?_
    have hq : (some ((x25, l26)) : Option ((Int) × (List (Int)))) = some _ := hm
    replace hq := someE hq
    subst hq
    refine eX_ret (vs := [.int .i64 (x25)]) [.tmp 4] (by rfl) ⟨by (show lkE _ _ _ = _); kernel_rfl, trivial⟩ ?_
    exact ⟨rfl, F28, hl29, hB⟩

set_option maxRecDepth 100000 in
/-- laws.markInt64SS -/
theorem c_laws_markInt64SS {w0 : World} {l0 : List (List (Int))} {A0 : Option Addr} {cap0 : Nat} {fp0 fr0 : List Nat} {p1 : Int} {r : (Int) × (List (List (Int)))} (hm : m_laws_markInt64SS l0 p1 = some r) (F0 : OwR 1 encI 68 2 w0 fp0 fr0 A0 cap0 l0) :
    Calls Try.prog 67 #[.slice A0 (l0).length cap0, .int .i64 (p1)] w0 fun e w' => e = .returned (.int .i64 (r.1)) ∧ OwR 1 encI 68 2 w' fp0 fr0 A0 cap0 r.2 ∧ (r.2).length = (l0).length ∧ Chg ((fp0 ++ fr0) ++ []) w0 w' := by
  have L0 := F0.low
  have hB : Chg ((fp0 ++ fr0) ++ []) w0 w0 := Chg.refl _ _
  have hZ := Nat.le_refl w0.heap.size
  unfold m_laws_markInt64SS at hm
  refine enterE (N := 19) Try.func67 (by rfl) Try.ntmps67 (by simp) [(0, .slice A0 (l0).length cap0), (1, .int .i64 (p1))] (by rfl) (by kernel_rfl) (fun a => ?_)
  refine cW_seq ?_
  refine cW_region ?_
  refine wS_pure 1 [(4, .int .i64 (0))] (by kernel_rfl) ?_
  refine wS_end (by rfl) ?_
  refine eX_then ?_
  refine cW_seq ?_
  refine cW_seq ?_
  refine cW_region ?_
  refine wS_pure 1 [(5, .int .i64 (0))] (by kernel_rfl) ?_
  refine wS_end (by rfl) ?_
  refine eX_then ?_
  obtain ⟨r65, hr66, hm⟩ := bindE hm
  have hm67 := hm
  refine cW_cut (fun a' w' => ∃ x53 : Int, ∃ l54 : List (List (Int)), (x53, l54) = r65 ∧ Fr 19 [(1, .int .i64 (x53))] a' ∧ OwR 1 encI 68 2 w' fp0 fr0 A0 cap0 l54 ∧ (l54).length = (l0).length ∧ Chg ((fp0 ++ fr0) ++ []) w0 w' ∧ w0.heap.size ≤ w'.heap.size) ?_ ?_
  · refine cW_block ?_
    refine cW_loop _ (fun (s68 : Int × Int × (List (List (Int)))) a' w' => ∃ x59 : Int, ∃ x60 : Int, ∃ l61 : List (List (Int)), (x59, x60, l61) = s68 ∧ Fr 19 [(0, .slice A0 (l61).length cap0), (1, .int .i64 (x59)), (5, .int .i64 (x60))] a' ∧ OwR 1 encI 68 2 w' fp0 fr0 A0 cap0 l61 ∧ (l61).length = (l0).length ∧ Chg ((fp0 ++ fr0) ++ []) w0 w' ∧ w0.heap.size ≤ w'.heap.size) hr66 (fun hst => ⟨p1, 0, l0, rfl, Fr.of hst (by kernel_rfl), F0, (Eq.refl (l0).length), hB, hZ⟩) ?_
    rintro _ c69 a' w58 ⟨x59, x60, l61, rfl, hF62, F63, hl64, hB, hZ⟩ hx70
    refine Fr.goOn hF62 (by kernel_rfl) ?_
    have hm := hx70
    unfold m_laws_markInt64SS_s1 at hm
    refine cW_seq ?_
    refine cW_seq ?_
    refine cW_region ?_
    refine wS_pure 4 [(9, .bool (decide (x60 < (((l61).length : Int))))), (8, .int .i64 (((l61).length : Int))), (7, .slice A0 (l61).length cap0), (6, .int .i64 (x60))] (by kernel_rfl) ?_
    refine wS_end (by rfl) ?_
    refine eX_then ?_
    refine cW_cond (t := decide (x60 < (((l61).length : Int)))) (by kernel_rfl) (fun hb71 => ?_) (fun hb71 => ?_)
    · have hm := condT hb71 hm
      refine cW_skip ?_
      refine eX_then ?_
      refine cW_seq ?_
      refine cW_block ?_
      refine cW_region ?_
      refine wS_pure 2 [(13, .int .i64 (x60)), (12, .slice A0 (l61).length cap0)] (by kernel_rfl) ?_
      obtain ⟨x72, hx73, hm⟩ := bindE hm
      refine wS_idx (d := 14) (T := 44) (A := A0) (n := (l61).length) (cap := cap0) (kd := .i64) (m := x60) (by kernel_rfl) sl44 ((F63.slr encI_ok).is hx73) ?_
      obtain ⟨A74, cap75, fp78, hc77, hsub79, F76, hcl80⟩ := OwR.lend F63 hx73
      have Dm82 := (F63.dj).symm
      refine wS_load1 (d := 15) (T := 68) (ad := (elA A0 1 (x60) 0)) (v := .slice A74 (x72).length cap75) (by kernel_rfl) vt68 hc77 ?_
      refine wS_pure 1 [(16, .int .i64 (x59))] (by kernel_rfl) ?_
      obtain ⟨y83, hy84, hm⟩ := bindE hm
      refine wS_calls (d := 17) (f := 70) (vs := [.slice A74 (x72).length cap75, .int .i64 (x59)]) (by kernel_rfl) ent70 (c_laws_markInt64S hy84 F76) ?_
      rintro _ w85 ⟨rfl, F87, hl88, hc86⟩
      have F89 := hcl80 _ _ (hc86.more (fun x hx => by simpa using hx)) F87 hl88
      have hc90 := hc86.more (S' := (fp0 ++ fr0) ++ []) (fun x hx => List.mem_append_left _ (hsub79 x (by simpa using hx)))
      have hl91 := (show (l61.set (Int.toNat x60) y83.2).length = (l61).length from List.length_set ..).trans hl64
      clear F63
      replace hB := hB.inS hc90 (inApp (inMem (fun x hx => (List.mem_append_left _ hx))) inNil)
      replace hZ := Nat.le_trans hZ hc90.size
      refine ⟨.int .i64 (y83.1), rfl, ?_⟩
      rewrite [(show (l61).length = (l61.set (Int.toNat x60) y83.2).length from (List.length_set ..).symm)]
      refine wS_pure 1 [(1, .int .i64 (y83.1))] (by kernel_rfl) ?_
      refine wS_end (by rfl) ?_
      refine eX_block ?_
      refine eX_then ?_
      refine cW_region ?_
      refine wS_pure 3 [(5, .int .i64 (wr (x60 + 1))), (11, .int .i64 (wr (x60 + 1))), (10, .int .i64 (x60))] (by kernel_rfl) ?_
      refine wS_end (by rfl) ?_
      have hq : (some (Ctl.next ((y83.1, wr (x60 + 1), l61.set (Int.toNat x60) y83.2))) : Option (Ctl (Int × Int × (List (List (Int)))) (Int × (List (List (Int)))))) = some _ := hm
      replace hq := someE hq
      subst hq
      exact eX_next hx70 (fun hst => ⟨y83.1, wr (x60 + 1), l61.set (Int.toNat x60) y83.2, rfl, Fr.of hst (by kernel_rfl), F89, hl91, hB, hZ⟩)
    · have hm := condF hb71 hm
      refine cW_exit ?_
      refine eX_then_exit ?_
      have hq : (some (Ctl.out ((x59, l61))) : Option (Ctl (Int × Int × (List (List (Int)))) (Int × (List (List (Int)))))) = some _ := hm
      replace hq := someE hq
      subst hq
      refine eX_outX hx70 (fun hr92 => ?_)
      replace hr92 := hr92.symm
      subst hr92
      refine eX_block_hit ?_
      exact eX_J (fun hst => ⟨x59, l61, rfl, Fr.of hst (by kernel_rfl), F63, hl64, hB, hZ⟩)
  · rintro a' w52 ⟨x53, l54, hJ, hF55, F56, hl57, hB, hZ⟩
    subst hJ
    refine Fr.goX hF55 (by kernel_rfl) ?_
    refine eX_then ?_
    refine cW_seq ?_
    refine cW_region ?_
    refine wS_pure 2 [(4, .int .i64 (x53)), (18, .int .i64 (x53))] (by kernel_rfl) ?_
    refine wS_end (by rfl) ?_
    refine eX_then ?_
    refine cW_ret ?_
    have hq : (some ((x53, l54)) : Option ((Int) × (List (List (Int))))) = some _ := hm
    replace hq := someE hq
    subst hq
    refine eX_ret (vs := [.int .i64 (x53)]) [.tmp 4] (by rfl) ⟨by (show lkE _ _ _ = _); kernel_rfl, trivial⟩ ?_
    exact ⟨rfl, F56, hl57, hB⟩

set_option maxRecDepth 100000 in
/-- spec.l06Ask -/
theorem c_spec_l06Ask {w0 : World} {l0 : List (Int × Int)} {A0 : Option Addr} {cap0 : Nat} {fp0 : List Nat} {l1 : List (List (Int))} {A1 : Option Addr} {cap1 : Nat} {fp1 : List Nat} {r : (Bool)} (hm : m_spec_l06Ask l0 l1 = some r) (F0 : Sl 2 encII w0 fp0 A0 l0) (F1 : SlR 1 encI w0 fp1 A1 l1) :
    Calls Try.prog 119 #[.slice A0 (l0).length cap0, .slice A1 (l1).length cap1] w0 fun e w' => e = .returned (.bool (r)) ∧ Chg [] w0 w' := by
  have L0 := F0.low
  have L1 := F1.low
  have hB : Chg [] w0 w0 := Chg.refl _ _
  have hZ := Nat.le_refl w0.heap.size
  unfold m_spec_l06Ask at hm
  refine enterE (N := 13) Try.func119 (by rfl) Try.ntmps119 (by simp) [(0, .slice A0 (l0).length cap0), (1, .slice A1 (l1).length cap1)] (by rfl) (by kernel_rfl) (fun a => ?_)
  refine cW_seq ?_
  refine cW_region ?_
  refine wS_pure 1 [(4, .bool (false))] (by kernel_rfl) ?_
  refine wS_end (by rfl) ?_
  refine eX_then ?_
  refine cW_seq ?_
  refine cW_region ?_
  refine wS_pure 1 [(5, .slice A0 (l0).length cap0)] (by kernel_rfl) ?_
  obtain ⟨y3, hy4, hm⟩ := bindE hm
  refine wS_calls (d := 6) (f := 116) (vs := [.slice A0 (l0).length cap0]) (by kernel_rfl) ent116 (c_spec_l06Pins hy4 F0) ?_
  rintro _ w5 ⟨rfl, hc6⟩
  replace F0 := F0.chg hc6 Dj.nil
  replace F1 := F1.chg hc6 Dj.nil
  replace hB := hB.inS hc6 inNil
  replace hZ := Nat.le_trans hZ hc6.size
  refine ⟨.bool (y3), rfl, ?_⟩
  refine wS_pure 1 [(7, .bool (y3))] (by kernel_rfl) ?_
  refine wS_bool y3 (fun hb7 => ?_) (fun hb7 => ?_)
  · have hm := condT hb7 hm
    rewrite [hb7]
    refine wS_pure 3 [(10, .slice A1 (l1).length cap1), (9, .int .i64 (((l0).length : Int))), (8, .slice A0 (l0).length cap0)] (by kernel_rfl) ?_
    obtain ⟨y8, hy9, hm⟩ := bindE hm
    refine wS_calls (d := 11) (f := 94) (vs := [.int .i64 (((l0).length : Int)), .slice A1 (l1).length cap1]) (by kernel_rfl) ent94 (c_spec_l06Joins hy9 F1) ?_
    rintro _ w10 ⟨rfl, hc11⟩
    replace F0 := F0.chg hc11 Dj.nil
    replace F1 := F1.chg hc11 Dj.nil
    replace hB := hB.inS hc11 inNil
    replace hZ := Nat.le_trans hZ hc11.size
    refine ⟨.bool (y8), rfl, ?_⟩
    refine wS_pure 2 [(4, .bool (y8)), (12, .bool (y8))] (by kernel_rfl) ?_
    refine wS_end (by rfl) ?_
    refine eX_then ?_
    refine cW_ret ?_
    have hq : (some y8 : Option ((Bool))) = some _ := hm
    replace hq := someE hq
    subst hq
    refine eX_ret (vs := [.bool (y8)]) [.tmp 4] (by rfl) ⟨by (show lkE _ _ _ = _); kernel_rfl, trivial⟩ ?_
    exact ⟨rfl, hB⟩
  · have hm := condF hb7 hm
    rewrite [hb7]
    refine wS_pure 6 [(4, .bool (false)), (12, .bool (false)), (11, undef), (10, undef), (9, undef), (8, undef)] (by kernel_rfl) ?_
    refine wS_end (by rfl) ?_
    refine eX_then ?_
    refine cW_ret ?_
    have hq : (some false : Option ((Bool))) = some _ := hm
    replace hq := someE hq
    subst hq
    refine eX_ret (vs := [.bool (false)]) [.tmp 4] (by rfl) ⟨by (show lkE _ _ _ = _); kernel_rfl, trivial⟩ ?_
    exact ⟨rfl, hB⟩

set_option maxRecDepth 100000 in
/-- spec.ClockMerges -/
theorem c_spec_ClockMerges {w0 : World} {l0 : List (Int × Int)} {A0 : Option Addr} {cap0 : Nat} {fp0 : List Nat} {l1 : List (List (Int))} {A1 : Option Addr} {cap1 : Nat} {fp1 : List Nat} {r : (List (Int × Int × Int × Int × Int)) × (Bool)} (hm : m_spec_ClockMerges l0 l1 = some r) (F0 : Sl 2 encII w0 fp0 A0 l0) (F1 : SlR 1 encI w0 fp1 A1 l1) :
    Calls Try.prog 74 #[.slice A0 (l0).length cap0, .slice A1 (l1).length cap1] w0 fun e w' => ∃ A100 cap100 fp100, e = .returned (.tuple #[.slice A100 (r.1).length cap100, .bool (r.2)]) ∧ Ow 5 encIIIII 52 w' fp100 A100 cap100 r.1 ∧ (∀ x ∈ fp100, w0.heap.size ≤ x) ∧ Chg [] w0 w' := by
  have L0 := F0.low
  have L1 := F1.low
  have hB : Chg [] w0 w0 := Chg.refl _ _
  have hZ := Nat.le_refl w0.heap.size
  unfold m_spec_ClockMerges at hm
  refine enterE (N := 19) Try.func74 (by rfl) Try.ntmps74 (by simp) [(0, .slice A0 (l0).length cap0), (1, .slice A1 (l1).length cap1)] (by rfl) (by kernel_rfl) (fun a => ?_)
  refine cW_seq ?_
  refine cW_region ?_
  refine wS_pure 2 [(5, .bool (false)), (4, .slice none 0 0)] (by kernel_rfl) ?_
  refine wS_end (by rfl) ?_
  refine eX_then ?_
  refine cW_seq ?_
  refine cW_seq ?_
  refine cW_region ?_
  refine wS_pure 2 [(9, .slice A1 (l1).length cap1), (8, .slice A0 (l0).length cap0)] (by kernel_rfl) ?_
  obtain ⟨y3, hy4, hm⟩ := bindE hm
  refine wS_calls (d := 10) (f := 119) (vs := [.slice A0 (l0).length cap0, .slice A1 (l1).length cap1]) (by kernel_rfl) ent119 (c_spec_l06Ask hy4 F0 F1) ?_
  rintro _ w5 ⟨rfl, hc6⟩
  replace F0 := F0.chg hc6 Dj.nil
  replace F1 := F1.chg hc6 Dj.nil
  replace hB := hB.inS hc6 inNil
  replace hZ := Nat.le_trans hZ hc6.size
  refine ⟨.bool (y3), rfl, ?_⟩
  refine wS_pure 1 [(11, .bool (!y3))] (by kernel_rfl) ?_
  refine wS_end (by rfl) ?_
  refine eX_then ?_
  refine cW_cond (t := !y3) (by kernel_rfl) (fun hb7 => ?_) (fun hb7 => ?_)
  · have hm := condT hb7 hm
    refine cW_seq ?_
    refine cW_region ?_
    refine wS_pure 2 [(5, .bool (false)), (4, .slice none 0 0)] (by kernel_rfl) ?_
    refine wS_end (by rfl) ?_
    refine eX_then ?_
    refine cW_ret ?_
    refine eX_then_ret ?_
    have hq : (some (([], false)) : Option ((List (Int × Int × Int × Int × Int)) × (Bool))) = some _ := hm
    replace hq := someE hq
    subst hq
    refine eX_ret (vs := [.slice none 0 0, .bool (false)]) [.tmp 4, .tmp 5] (by rfl) ⟨by (show lkE _ _ _ = _); kernel_rfl, ⟨by (show lkE _ _ _ = _); kernel_rfl, trivial⟩⟩ ?_
    exact ⟨none, 0, [], rfl, Ow.nil _, lowNil, hB⟩
  · have hm := condF hb7 hm
    refine cW_skip ?_
    refine eX_then ?_
    refine cW_seq ?_
    refine cW_region ?_
    refine wS_pure 2 [(14, .slice A1 (l1).length cap1), (13, .slice A0 (l0).length cap0)] (by kernel_rfl) ?_
    obtain ⟨y8, hy9, hm⟩ := bindE hm
    refine wS_calls (d := 15) (f := 117) (vs := [.slice A0 (l0).length cap0, .slice A1 (l1).length cap1]) (by kernel_rfl) ent117 (c_spec_l06Tree hy9 F0 F1) ?_
    rintro _ w10 ⟨A12, cap13, fp14, A18, cap19, fp20, rfl, F15, G16, F21, G22, D24, hc11⟩
    replace F0 := F0.chg hc11 Dj.nil
    replace F1 := F1.chg hc11 Dj.nil
    replace hB := hB.inS hc11 inNil
    replace G16 := low_le hZ G16
    replace G22 := low_le hZ G22
    replace hZ := Nat.le_trans hZ hc11.size
    refine ⟨.tuple #[.slice A12 (y8.1).length cap13, .slice A18 (y8.2).length cap19], rfl, ?_⟩
    refine wS_pure 5 [(7, .slice A18 (y8.2).length cap19), (6, .slice A12 (y8.1).length cap13), (17, .slice A18 (y8.2).length cap19), (16, .slice A12 (y8.1).length cap13), (12, .tuple #[.slice A12 (y8.1).length cap13, .slice A18 (y8.2).length cap19])] (by kernel_rfl) ?_
    refine wS_end (by rfl) ?_
    refine eX_then ?_
    refine cW_seq ?_
    refine cW_region ?_
    refine wS_pure 3 [(5, .bool (true)), (4, .slice A12 (y8.1).length cap13), (18, .slice A12 (y8.1).length cap13)] (by kernel_rfl) ?_
    refine wS_end (by rfl) ?_
    refine eX_then ?_
    refine cW_ret ?_
    have hq : (some ((y8.1, true)) : Option ((List (Int × Int × Int × Int × Int)) × (Bool))) = some _ := hm
    replace hq := someE hq
    subst hq
    refine eX_ret (vs := [.slice A12 (y8.1).length cap13, .bool (true)]) [.tmp 4, .tmp 5] (by rfl) ⟨by (show lkE _ _ _ = _); kernel_rfl, ⟨by (show lkE _ _ _ = _); kernel_rfl, trivial⟩⟩ ?_
    exact ⟨A12, cap13, fp14, rfl, F15, G16, hB⟩

set_option maxRecDepth 100000 in
/-- laws.eqMergeS -/
theorem c_laws_eqMergeS {w0 : World} {l0 : List (Int × Int × Int × Int × Int)} {A0 : Option Addr} {cap0 : Nat} {fp0 : List Nat} {l1 : List (Int × Int × Int × Int × Int)} {A1 : Option Addr} {cap1 : Nat} {fp1 : List Nat} {r : (Bool)} (hm : m_laws_eqMergeS l0 l1 = some r) (F0 : Sl 5 encIIIII w0 fp0 A0 l0) (F1 : Sl 5 encIIIII w0 fp1 A1 l1) :
    Calls Try.prog 75 #[.slice A0 (l0).length cap0, .slice A1 (l1).length cap1] w0 fun e w' => e = .returned (.bool (r)) ∧ Chg [] w0 w' := by
  have L0 := F0.low
  have L1 := F1.low
  have hB : Chg [] w0 w0 := Chg.refl _ _
  have hZ := Nat.le_refl w0.heap.size
  unfold m_laws_eqMergeS at hm
  refine enterE (N := 27) Try.func75 (by rfl) Try.ntmps75 (by simp) [(0, .slice A0 (l0).length cap0), (1, .slice A1 (l1).length cap1)] (by rfl) (by kernel_rfl) (fun a => ?_)
  refine cW_seq ?_
  refine cW_region ?_
  refine wS_pure 1 [(4, .bool (false))] (by kernel_rfl) ?_
  refine wS_end (by rfl) ?_
  refine eX_then ?_
  refine cW_seq ?_
  refine cW_seq ?_
  refine cW_region ?_
  refine wS_pure 5 [(10, .bool ((((l0).length : Int)) != (((l1).length : Int)))), (9, .int .i64 (((l1).length : Int))), (8, .slice A1 (l1).length cap1), (7, .int .i64 (((l0).length : Int))), (6, .slice A0 (l0).length cap0)] (by kernel_rfl) ?_
  refine wS_end (by rfl) ?_
  refine eX_then ?_
  refine cW_cond (t := (((l0).length : Int)) != (((l1).length : Int))) (by kernel_rfl) (fun hb3 => ?_) (fun hb3 => ?_)
  · have hm := condT hb3 hm
    refine cW_seq ?_
    refine cW_region ?_
    refine wS_pure 1 [(4, .bool (false))] (by kernel_rfl) ?_
    refine wS_end (by rfl) ?_
    refine eX_then ?_
    refine cW_ret ?_
    refine eX_then_ret ?_
    have hq : (some false : Option ((Bool))) = some _ := hm
    replace hq := someE hq
    subst hq
    refine eX_ret (vs := [.bool (false)]) [.tmp 4] (by rfl) ⟨by (show lkE _ _ _ = _); kernel_rfl, trivial⟩ ?_
    exact ⟨rfl, hB⟩
  · have hm := condF hb3 hm
    refine cW_skip ?_
    refine eX_then ?_
    refine cW_seq ?_
    refine cW_seq ?_
    refine cW_region ?_
    refine wS_pure 1 [(5, .int .i64 (0))] (by kernel_rfl) ?_
    refine wS_end (by rfl) ?_
    refine eX_then ?_
    obtain ⟨r70, hr71, hm⟩ := bindE hm
    have hm72 := hm
    refine cW_cut (fun a' w' => Sum.inl (()) = r70 ∧ Fr 27 [] a' ∧ Chg [] w0 w' ∧ w0.heap.size ≤ w'.heap.size) ?_ ?_
    · refine cW_block ?_
      refine cW_loop _ (fun (s73 : Int) a' w' => ∃ x66 : Int, x66 = s73 ∧ Fr 27 [(0, .slice A0 (l0).length cap0), (1, .slice A1 (l1).length cap1), (5, .int .i64 (x66))] a' ∧ Sl 5 encIIIII w' fp0 A0 l0 ∧ Sl 5 encIIIII w' fp1 A1 l1 ∧ Chg [] w0 w' ∧ w0.heap.size ≤ w'.heap.size) hr71 (fun hst => ⟨0, rfl, Fr.of hst (by kernel_rfl), F0, F1, hB, hZ⟩) ?_
      rintro _ c74 a' w65 ⟨x66, rfl, hF67, F68, F69, hB, hZ⟩ hx75
      refine Fr.goOn hF67 (by kernel_rfl) ?_
      have hm := hx75
      unfold m_laws_eqMergeS_s1 at hm
      refine cW_seq ?_
      refine cW_seq ?_
      refine cW_region ?_
      refine wS_pure 4 [(14, .bool (decide (x66 < (((l0).length : Int))))), (13, .int .i64 (((l0).length : Int))), (12, .slice A0 (l0).length cap0), (11, .int .i64 (x66))] (by kernel_rfl) ?_
      refine wS_end (by rfl) ?_
      refine eX_then ?_
      refine cW_cond (t := decide (x66 < (((l0).length : Int)))) (by kernel_rfl) (fun hb76 => ?_) (fun hb76 => ?_)
      · have hm := condT hb76 hm
        refine cW_skip ?_
        refine eX_then ?_
        refine cW_seq ?_
        refine cW_block ?_
        refine cW_seq ?_
        refine cW_drawnTail [] 8 (by kernel_rfl) (by kernel_rfl) (fun w89 hc90 => ?_)
        replace F68 := F68.chg hc90 Dj.nil
        replace F69 := F69.chg hc90 Dj.nil
        replace hB := hB.inS hc90 inNil
        replace hZ := Nat.le_trans hZ hc90.size
        have hS := Chg.refl [] w89
        have Z91 := F68
        have Z92 := F69
        refine wH_take [0, 1] [1, 0] [(18, .int .i64 (x66)), (17, .slice A0 (l0).length cap0)] (by kernel_rfl) (qT (qT (qB (qT (qL (qB (qT (qT qZ)))))))) (by kernel_rfl) ?_
        obtain ⟨x93, hx94, hm⟩ := bindE hm
        refine wH_idx (i := 2) (d := 19) (T := 75) (A := A0) (n := (l0).length) (cap := cap0) (kd := .i64) (m := x66) (by kernel_rfl) (qT (qT (qB (qT (qL (qB (qT (qT qZ)))))))) (by kernel_rfl) (by kernel_rfl) sl75 (F68.is hx94) ?_
        refine wH_loadA (i := 3) (d := 20) (T := 52) (ad := (elA A0 5 (x66) 0)) (vs := [.int .i64 (x93.1), .int .i64 (x93.2.1), .int .i64 (x93.2.2.1), .int .i64 (x93.2.2.2.1), .int .i64 (x93.2.2.2.2)]) (by kernel_rfl) (qT (qT (qB (qT (qL (qB (qT (qT qZ)))))))) (by kernel_rfl) (by kernel_rfl) vt52 (fun W hW i u hu => Sl.cells_at (Z91.chg hW Dj.nil) hx94 0 hu (by rfl)) ?_
        refine wH_take [4, 5] [5, 4, 3, 2, 1, 0] [(22, .int .i64 (x66)), (21, .slice A1 (l1).length cap1)] (by kernel_rfl) (qT (qT (qB (qT (qL (qB (qT (qT qZ)))))))) (by kernel_rfl) ?_
        obtain ⟨x95, hx96, hm⟩ := bindE hm
        refine wH_idx (i := 6) (d := 23) (T := 75) (A := A1) (n := (l1).length) (cap := cap1) (kd := .i64) (m := x66) (by kernel_rfl) (qT (qT (qB (qT (qL (qB (qT (qT qZ)))))))) (by kernel_rfl) (by kernel_rfl) sl75 (F69.is hx96) ?_
        refine wH_loadA (i := 7) (d := 24) (T := 52) (ad := (elA A1 5 (x66) 0)) (vs := [.int .i64 (x95.1), .int .i64 (x95.2.1), .int .i64 (x95.2.2.1), .int .i64 (x95.2.2.2.1), .int .i64 (x95.2.2.2.2)]) (by kernel_rfl) (qT (qT (qB (qT (qL (qB (qT (qT qZ)))))))) (by kernel_rfl) (by kernel_rfl) vt52 (fun W hW i u hu => Sl.cells_at (Z92.chg hW Dj.nil) hx96 0 hu (by rfl)) ?_
        refine wH_done (by kernel_rfl) ?_
        refine eX_tail ?_
        obtain ⟨y97, hy98, hm⟩ := bindE hm
        refine wS_calls (d := 25) (f := 51) (vs := [.agg #[.int .i64 (x93.1), .int .i64 (x93.2.1), .int .i64 (x93.2.2.1), .int .i64 (x93.2.2.2.1), .int .i64 (x93.2.2.2.2)], .agg #[.int .i64 (x95.1), .int .i64 (x95.2.1), .int .i64 (x95.2.2.1), .int .i64 (x95.2.2.2.1), .int .i64 (x95.2.2.2.2)]]) (by kernel_rfl) ent51 (c_laws_eqMerge hy98) ?_
        rintro _ w99 ⟨rfl, hc100⟩
        replace F68 := F68.chg hc100 Dj.nil
        replace F69 := F69.chg hc100 Dj.nil
        replace hB := hB.inS hc100 inNil
        replace hZ := Nat.le_trans hZ hc100.size
        refine ⟨.bool (y97), rfl, ?_⟩
        refine wS_pure 1 [(26, .bool (!y97))] (by kernel_rfl) ?_
        refine wS_end (by rfl) ?_
        refine eX_then ?_
        refine cW_cond (t := !y97) (by kernel_rfl) (fun hb101 => ?_) (fun hb101 => ?_)
        · have hm := condT hb101 hm
          refine cW_seq ?_
          refine cW_region ?_
          refine wS_pure 1 [(4, .bool (false))] (by kernel_rfl) ?_
          refine wS_end (by rfl) ?_
          refine eX_then ?_
          refine cW_ret ?_
          refine eX_block_ret ?_
          refine eX_then_ret ?_
          have hq : (some (Ctl.out (Sum.inr false)) : Option (Ctl (Int) (Sum (Unit) ((Bool))))) = some _ := hm
          replace hq := someE hq
          subst hq
          refine eX_outR hx75 (fun hr => ?_)
          subst hr
          refine eX_block_ret ?_
          refine eX_then_ret ?_
          refine eX_then_ret ?_
          have hq : (some false : Option ((Bool))) = some _ := hm72
          replace hq := someE hq
          subst hq
          refine eX_ret (vs := [.bool (false)]) [.tmp 4] (by rfl) ⟨by (show lkE _ _ _ = _); kernel_rfl, trivial⟩ ?_
          exact ⟨rfl, hB⟩
        · have hm := condF hb101 hm
          refine cW_skip ?_
          refine eX_block ?_
          refine eX_then ?_
          refine cW_region ?_
          refine wS_pure 3 [(5, .int .i64 (wr (x66 + 1))), (16, .int .i64 (wr (x66 + 1))), (15, .int .i64 (x66))] (by kernel_rfl) ?_
          refine wS_end (by rfl) ?_
          have hq : (some (Ctl.next (wr (x66 + 1))) : Option (Ctl (Int) (Sum (Unit) ((Bool))))) = some _ := hm
          replace hq := someE hq
          subst hq
          exact eX_next hx75 (fun hst => ⟨wr (x66 + 1), rfl, Fr.of hst (by kernel_rfl), F68, F69, hB, hZ⟩)
      · have hm := condF hb76 hm
        refine cW_exit ?_
        refine eX_then_exit ?_
        have hq : (some (Ctl.out (Sum.inl (()))) : Option (Ctl (Int) (Sum (Unit) ((Bool))))) = some _ := hm
        replace hq := someE hq
        subst hq
        refine eX_outX hx75 (fun hr102 => ?_)
        replace hr102 := hr102.symm
        subst hr102
        refine eX_block_hit ?_
        exact eX_J (fun hst => ⟨rfl, Fr.of hst (by kernel_rfl), hB, hZ⟩)
    · rintro a' w63 ⟨hJ, hF64, hB, hZ⟩
      subst hJ
      refine Fr.goX hF64 (by kernel_rfl) ?_
      refine eX_then ?_
      refine cW_seq ?_
      refine cW_region ?_
      refine wS_pure 1 [(4, .bool (true))] (by kernel_rfl) ?_
      refine wS_end (by rfl) ?_
      refine eX_then ?_
      refine cW_ret ?_
      have hq : (some true : Option ((Bool))) = some _ := hm
      replace hq := someE hq
      subst hq
      refine eX_ret (vs := [.bool (true)]) [.tmp 4] (by rfl) ⟨by (show lkE _ _ _ = _); kernel_rfl, trivial⟩ ?_
      exact ⟨rfl, hB⟩

set_option maxRecDepth 100000 in
/-- laws.markMergeS -/
theorem c_laws_markMergeS {w0 : World} {l0 : List (Int × Int × Int × Int × Int)} {A0 : Option Addr} {cap0 : Nat} {fp0 : List Nat} {p1 : Int} {r : (Int) × (List (Int × Int × Int × Int × Int))} (hm : m_laws_markMergeS l0 p1 = some r) (F0 : Ow 5 encIIIII 52 w0 fp0 A0 cap0 l0) :
    Calls Try.prog 76 #[.slice A0 (l0).length cap0, .int .i64 (p1)] w0 fun e w' => e = .returned (.int .i64 (r.1)) ∧ Ow 5 encIIIII 52 w' fp0 A0 cap0 r.2 ∧ (r.2).length = (l0).length ∧ Chg (fp0 ++ []) w0 w' := by
  have L0 := F0.low
  have hB : Chg (fp0 ++ []) w0 w0 := Chg.refl _ _
  have hZ := Nat.le_refl w0.heap.size
  unfold m_laws_markMergeS at hm
  refine enterE (N := 52) Try.func76 (by rfl) Try.ntmps76 (by simp) [(0, .slice A0 (l0).length cap0), (1, .int .i64 (p1))] (by rfl) (by kernel_rfl) (fun a => ?_)
  refine cW_seq ?_
  refine cW_region ?_
  refine wS_pure 1 [(4, .int .i64 (0))] (by kernel_rfl) ?_
  refine wS_end (by rfl) ?_
  refine eX_then ?_
  refine cW_seq ?_
  refine cW_seq ?_
  refine cW_region ?_
  refine wS_pure 1 [(5, .int .i64 (0))] (by kernel_rfl) ?_
  refine wS_end (by rfl) ?_
  refine eX_then ?_
  obtain ⟨r87, hr88, hm⟩ := bindE hm
  have hm89 := hm
  refine cW_cut (fun a' w' => ∃ x75 : Int, ∃ l76 : List (Int × Int × Int × Int × Int), (x75, l76) = r87 ∧ Fr 52 [(1, .int .i64 (x75))] a' ∧ Ow 5 encIIIII 52 w' fp0 A0 cap0 l76 ∧ (l76).length = (l0).length ∧ Chg (fp0 ++ []) w0 w' ∧ w0.heap.size ≤ w'.heap.size) ?_ ?_
  · refine cW_block ?_
    refine cW_loop _ (fun (s90 : Int × Int × (List (Int × Int × Int × Int × Int))) a' w' => ∃ x81 : Int, ∃ x82 : Int, ∃ l83 : List (Int × Int × Int × Int × Int), (x81, x82, l83) = s90 ∧ Fr 52 [(0, .slice A0 (l83).length cap0), (1, .int .i64 (x81)), (5, .int .i64 (x82))] a' ∧ Ow 5 encIIIII 52 w' fp0 A0 cap0 l83 ∧ (l83).length = (l0).length ∧ Chg (fp0 ++ []) w0 w' ∧ w0.heap.size ≤ w'.heap.size) hr88 (fun hst => ⟨p1, 0, l0, rfl, Fr.of hst (by kernel_rfl), F0, (Eq.refl (l0).length), hB, hZ⟩) ?_
    rintro _ c91 a' w80 ⟨x81, x82, l83, rfl, hF84, F85, hl86, hB, hZ⟩ hx92
    refine Fr.goOn hF84 (by kernel_rfl) ?_
    have hm := hx92
    unfold m_laws_markMergeS_s1 at hm
    refine cW_seq ?_
    refine cW_seq ?_
    refine cW_region ?_
    refine wS_pure 4 [(9, .bool (decide (x82 < (((l83).length : Int))))), (8, .int .i64 (((l83).length : Int))), (7, .slice A0 (l83).length cap0), (6, .int .i64 (x82))] (by kernel_rfl) ?_
    refine wS_end (by rfl) ?_
    refine eX_then ?_
    refine cW_cond (t := decide (x82 < (((l83).length : Int)))) (by kernel_rfl) (fun hb93 => ?_) (fun hb93 => ?_)
    · have hm := condT hb93 hm
      refine cW_skip ?_
      refine eX_then ?_
      refine cW_seq ?_
      refine cW_block ?_
      refine cW_seq ?_
      refine cW_region ?_
      refine wS_pure 3 [(14, .int .i64 (x81)), (13, .int .i64 (x82)), (12, .slice A0 (l83).length cap0)] (by kernel_rfl) ?_
      obtain ⟨x94, hx95, hm⟩ := bindE hm
      refine wS_idx (d := 15) (T := 75) (A := A0) (n := (l83).length) (cap := cap0) (kd := .i64) (m := x82) (by kernel_rfl) sl75 ((F85.sl encIIIII_ok).is hx95) ?_
      refine wS_pure 2 [(17, .pointer (some (elA A0 5 (x82) 0))), (16, .pointer (some (elA A0 5 (x82) 0)))] (by kernel_rfl) ?_
      refine wS_storeEl (x := x94) ((x81, x94.2.1, x94.2.2.1, x94.2.2.2.1, x94.2.2.2.2)) (T := 2) (U := 52) (cap := cap0) (j := 0) (A := A0) (v := .int .i64 (x81)) (vs := [.int .i64 (x81)]) (m := x82) (by kernel_rfl) (by rfl) sz2 (by rfl) encIIIII_ok F85 hx95 (by simp only [List.length_cons, List.length_nil]; omega) (by rfl) ?_
      intro w96 F97 hc98
      replace hB := hB.inS hc98 (inMem (fun x hx => (List.mem_append_left _ hx)))
      replace hZ := Nat.le_trans hZ hc98.size
      clear F85
      have hl99 := (show (l83.set (Int.toNat x82) ((x81, x94.2.1, x94.2.2.1, x94.2.2.2.1, x94.2.2.2.2))).length = (l83).length from List.length_set ..).trans hl86
      rewrite [show (l83).length = (l83.set (Int.toNat x82) ((x81, x94.2.1, x94.2.2.1, x94.2.2.2.1, x94.2.2.2.2))).length from (List.length_set ..).symm]
      refine wS_end (by rfl) ?_
      refine eX_then ?_
      refine cW_seq ?_
      refine cW_region ?_
      refine wS_pure 3 [(1, .int .i64 (wr (x81 + 1))), (19, .int .i64 (wr (x81 + 1))), (18, .int .i64 (x81))] (by kernel_rfl) ?_
      refine wS_end (by rfl) ?_
      refine eX_then ?_
      refine cW_seq ?_
      refine cW_region ?_
      refine wS_pure 3 [(22, .int .i64 (wr (x81 + 1))), (21, .int .i64 (x82)), (20, .slice A0 (l83.set (Int.toNat x82) ((x81, x94.2.1, x94.2.2.1, x94.2.2.2.1, x94.2.2.2.2))).length cap0)] (by kernel_rfl) ?_
      obtain ⟨x100, hx101, hm⟩ := bindE hm
      refine wS_idx (d := 23) (T := 75) (A := A0) (n := (l83.set (Int.toNat x82) ((x81, x94.2.1, x94.2.2.1, x94.2.2.2.1, x94.2.2.2.2))).length) (cap := cap0) (kd := .i64) (m := x82) (by kernel_rfl) sl75 ((F97.sl encIIIII_ok).is hx101) ?_
      refine wS_pure 2 [(25, .pointer (some (elA A0 5 (x82) 1))), (24, .pointer (some (elA A0 5 (x82) 0)))] (by kernel_rfl) ?_
      refine wS_storeEl (x := x100) ((x100.1, wr (x81 + 1), x100.2.2.1, x100.2.2.2.1, x100.2.2.2.2)) (T := 2) (U := 52) (cap := cap0) (j := 1) (A := A0) (v := .int .i64 (wr (x81 + 1))) (vs := [.int .i64 (wr (x81 + 1))]) (m := x82) (by kernel_rfl) (by rfl) sz2 (by rfl) encIIIII_ok F97 hx101 (by simp only [List.length_cons, List.length_nil]; omega) (by rfl) ?_
      intro w102 F103 hc104
      replace hB := hB.inS hc104 (inMem (fun x hx => (List.mem_append_left _ hx)))
      replace hZ := Nat.le_trans hZ hc104.size
      clear F97
      have hl105 := (show ((l83.set (Int.toNat x82) ((x81, x94.2.1, x94.2.2.1, x94.2.2.2.1, x94.2.2.2.2))).set (Int.toNat x82) ((x100.1, wr (x81 + 1), x100.2.2.1, x100.2.2.2.1, x100.2.2.2.2))).length = (l83.set (Int.toNat x82) ((x81, x94.2.1, x94.2.2.1, x94.2.2.2.1, x94.2.2.2.2))).length from List.length_set ..).trans hl99
      rewrite [show (l83.set (Int.toNat x82) ((x81, x94.2.1, x94.2.2.1, x94.2.2.2.1, x94.2.2.2.2))).length = ((l83.set (Int.toNat x82) ((x81, x94.2.1, x94.2.2.1, x94.2.2.2.1, x94.2.2.2.2))).set (Int.toNat x82) ((x100.1, wr (x81 + 1), x100.2.2.1, x100.2.2.2.1, x100.2.2.2.2))).length from (List.length_set ..).symm]
      refine wS_end (by rfl) ?_
      refine eX_then ?_
      refine cW_seq ?_
      refine cW_region ?_
      refine wS_pure 3 [(1, .int .i64 (wr ((wr (x81 + 1)) + 1))), (27, .int .i64 (wr ((wr (x81 + 1)) + 1))), (26, .int .i64 (wr (x81 + 1)))] (by kernel_rfl) ?_
      refine wS_end (by rfl) ?_
      refine eX_then ?_
      refine cW_seq ?_
      refine cW_region ?_
      refine wS_pure 3 [(30, .int .i64 (wr ((wr (x81 + 1)) + 1))), (29, .int .i64 (x82)), (28, .slice A0 ((l83.set (Int.toNat x82) ((x81, x94.2.1, x94.2.2.1, x94.2.2.2.1, x94.2.2.2.2))).set (Int.toNat x82) ((x100.1, wr (x81 + 1), x100.2.2.1, x100.2.2.2.1, x100.2.2.2.2))).length cap0)] (by kernel_rfl) ?_
      obtain ⟨x106, hx107, hm⟩ := bindE hm
      refine wS_idx (d := 31) (T := 75) (A := A0) (n := ((l83.set (Int.toNat x82) ((x81, x94.2.1, x94.2.2.1, x94.2.2.2.1, x94.2.2.2.2))).set (Int.toNat x82) ((x100.1, wr (x81 + 1), x100.2.2.1, x100.2.2.2.1, x100.2.2.2.2))).length) (cap := cap0) (kd := .i64) (m := x82) (by kernel_rfl) sl75 ((F103.sl encIIIII_ok).is hx107) ?_
      refine wS_pure 2 [(33, .pointer (some (elA A0 5 (x82) 2))), (32, .pointer (some (elA A0 5 (x82) 0)))] (by kernel_rfl) ?_
      refine wS_storeEl (x := x106) ((x106.1, x106.2.1, wr ((wr (x81 + 1)) + 1), x106.2.2.2.1, x106.2.2.2.2)) (T := 2) (U := 52) (cap := cap0) (j := 2) (A := A0) (v := .int .i64 (wr ((wr (x81 + 1)) + 1))) (vs := [.int .i64 (wr ((wr (x81 + 1)) + 1))]) (m := x82) (by kernel_rfl) (by rfl) sz2 (by rfl) encIIIII_ok F103 hx107 (by simp only [List.length_cons, List.length_nil]; omega) (by rfl) ?_
      intro w108 F109 hc110
      replace hB := hB.inS hc110 (inMem (fun x hx => (List.mem_append_left _ hx)))
      replace hZ := Nat.le_trans hZ hc110.size
      clear F103
      have hl111 := (show (((l83.set (Int.toNat x82) ((x81, x94.2.1, x94.2.2.1, x94.2.2.2.1, x94.2.2.2.2))).set (Int.toNat x82) ((x100.1, wr (x81 + 1), x100.2.2.1, x100.2.2.2.1, x100.2.2.2.2))).set (Int.toNat x82) ((x106.1, x106.2.1, wr ((wr (x81 + 1)) + 1), x106.2.2.2.1, x106.2.2.2.2))).length = ((l83.set (Int.toNat x82) ((x81, x94.2.1, x94.2.2.1, x94.2.2.2.1, x94.2.2.2.2))).set (Int.toNat x82) ((x100.1, wr (x81 + 1), x100.2.2.1, x100.2.2.2.1, x100.2.2.2.2))).length from List.length_set ..).trans hl105
      rewrite [show ((l83.set (Int.toNat x82) ((x81, x94.2.1, x94.2.2.1, x94.2.2.2.1, x94.2.2.2.2))).set (Int.toNat x82) ((x100.1, wr (x81 + 1), x100.2.2.1, x100.2.2.2.1, x100.2.2.2.2))).length = (((l83.set (Int.toNat x82) ((x81, x94.2.1, x94.2.2.1, x94.2.2.2.1, x94.2.2.2.2))).set (Int.toNat x82) ((x100.1, wr (x81 + 1), x100.2.2.1, x100.2.2.2.1, x100.2.2.2.2))).set (Int.toNat x82) ((x106.1, x106.2.1, wr ((wr (x81 + 1)) + 1), x106.2.2.2.1, x106.2.2.2.2))).length from (List.length_set ..).symm]
      refine wS_end (by rfl) ?_
      refine eX_then ?_
      refine cW_prune [(0, .slice A0 (((l83.set (Int.toNat x82) ((x81, x94.2.1, x94.2.2.1, x94.2.2.2.1, x94.2.2.2.2))).set (Int.toNat x82) ((x100.1, wr (x81 + 1), x100.2.2.1, x100.2.2.2.1, x100.2.2.2.2))).set (Int.toNat x82) ((x106.1, x106.2.1, wr ((wr (x81 + 1)) + 1), x106.2.2.2.1, x106.2.2.2.2))).length cap0), (1, .int .i64 (wr ((wr (x81 + 1)) + 1))), (5, .int .i64 (x82))] (by kernel_rfl) (by kernel_rfl) (fun a112 => ?_)
      refine cW_seq ?_
      refine cW_region ?_
      refine wS_pure 3 [(1, .int .i64 (wr ((wr ((wr (x81 + 1)) + 1)) + 1))), (35, .int .i64 (wr ((wr ((wr (x81 + 1)) + 1)) + 1))), (34, .int .i64 (wr ((wr (x81 + 1)) + 1)))] (by kernel_rfl) ?_
      refine wS_end (by rfl) ?_
      refine eX_then ?_
      refine cW_seq ?_
      refine cW_region ?_
      refine wS_pure 3 [(38, .int .i64 (wr ((wr ((wr (x81 + 1)) + 1)) + 1))), (37, .int .i64 (x82)), (36, .slice A0 (((l83.set (Int.toNat x82) ((x81, x94.2.1, x94.2.2.1, x94.2.2.2.1, x94.2.2.2.2))).set (Int.toNat x82) ((x100.1, wr (x81 + 1), x100.2.2.1, x100.2.2.2.1, x100.2.2.2.2))).set (Int.toNat x82) ((x106.1, x106.2.1, wr ((wr (x81 + 1)) + 1), x106.2.2.2.1, x106.2.2.2.2))).length cap0)] (by kernel_rfl) ?_
      obtain ⟨x113, hx114, hm⟩ := bindE hm
      refine wS_idx (d := 39) (T := 75) (A := A0) (n := (((l83.set (Int.toNat x82) ((x81, x94.2.1, x94.2.2.1, x94.2.2.2.1, x94.2.2.2.2))).set (Int.toNat x82) ((x100.1, wr (x81 + 1), x100.2.2.1, x100.2.2.2.1, x100.2.2.2.2))).set (Int.toNat x82) ((x106.1, x106.2.1, wr ((wr (x81 + 1)) + 1), x106.2.2.2.1, x106.2.2.2.2))).length) (cap := cap0) (kd := .i64) (m := x82) (by kernel_rfl) sl75 ((F109.sl encIIIII_ok).is hx114) ?_
      refine wS_pure 2 [(41, .pointer (some (elA A0 5 (x82) 3))), (40, .pointer (some (elA A0 5 (x82) 0)))] (by kernel_rfl) ?_
      refine wS_storeEl (x := x113) ((x113.1, x113.2.1, x113.2.2.1, wr ((wr ((wr (x81 + 1)) + 1)) + 1), x113.2.2.2.2)) (T := 2) (U := 52) (cap := cap0) (j := 3) (A := A0) (v := .int .i64 (wr ((wr ((wr (x81 + 1)) + 1)) + 1))) (vs := [.int .i64 (wr ((wr ((wr (x81 + 1)) + 1)) + 1))]) (m := x82) (by kernel_rfl) (by rfl) sz2 (by rfl) encIIIII_ok F109 hx114 (by simp only [List.length_cons, List.length_nil]; omega) (by rfl) ?_
      intro w115 F116 hc117
      replace hB := hB.inS hc117 (inMem (fun x hx => (List.mem_append_left _ hx)))
      replace hZ := Nat.le_trans hZ hc117.size
      clear F109
      have hl118 := (show ((((l83.set (Int.toNat x82) ((x81, x94.2.1, x94.2.2.1, x94.2.2.2.1, x94.2.2.2.2))).set (Int.toNat x82) ((x100.1, wr (x81 + 1), x100.2.2.1, x100.2.2.2.1, x100.2.2.2.2))).set (Int.toNat x82) ((x106.1, x106.2.1, wr ((wr (x81 + 1)) + 1), x106.2.2.2.1, x106.2.2.2.2))).set (Int.toNat x82) ((x113.1, x113.2.1, x113.2.2.1, wr ((wr ((wr (x81 + 1)) + 1)) + 1), x113.2.2.2.2))).length = (((l83.set (Int.toNat x82) ((x81, x94.2.1, x94.2.2.1, x94.2.2.2.1, x94.2.2.2.2))).set (Int.toNat x82) ((x100.1, wr (x81 + 1), x100.2.2.1, x100.2.2.2.1, x100.2.2.2.2))).set (Int.toNat x82) ((x106.1, x106.2.1, wr ((wr (x81 + 1)) + 1), x106.2.2.2.1, x106.2.2.2.2))).length from List.length_set ..).trans hl111
      rewrite [show (((l83.set (Int.toNat x82) ((x81, x94.2.1, x94.2.2.1, x94.2.2.2.1, x94.2.2.2.2))).set (Int.toNat x82) ((x100.1, wr (x81 + 1), x100.2.2.1, x100.2.2.2.1, x100.2.2.2.2))).set (Int.toNat x82) ((x106.1, x106.2.1, wr ((wr (x81 + 1)) + 1), x106.2.2.2.1, x106.2.2.2.2))).length = ((((l83.set (Int.toNat x82) ((x81, x94.2.1, x94.2.2.1, x94.2.2.2.1, x94.2.2.2.2))).set (Int.toNat x82) ((x100.1, wr (x81 + 1), x100.2.2.1, x100.2.2.2.1, x100.2.2.2.2))).set (Int.toNat x82) ((x106.1, x106.2.1, wr ((wr (x81 + 1)) + 1), x106.2.2.2.1, x106.2.2.2.2))).set (Int.toNat x82) ((x113.1, x113.2.1, x113.2.2.1, wr ((wr ((wr (x81 + 1)) + 1)) + 1), x113.2.2.2.2))).length from (List.length_set ..).symm]
      refine wS_end (by rfl) ?_
      refine eX_then ?_
      refine cW_seq ?_
      refine cW_region ?_
      refine wS_pure 3 [(1, .int .i64 (wr ((wr ((wr ((wr (x81 + 1)) + 1)) + 1)) + 1))), (43, .int .i64 (wr ((wr ((wr ((wr (x81 + 1)) + 1)) + 1)) + 1))), (42, .int .i64 (wr ((wr ((wr (x81 + 1)) + 1)) + 1)))] (by kernel_rfl) ?_
      refine wS_end (by rfl) ?_
      refine eX_then ?_
      refine cW_seq ?_
      refine cW_region ?_
      refine wS_pure 3 [(46, .int .i64 (wr ((wr ((wr ((wr (x81 + 1)) + 1)) + 1)) + 1))), (45, .int .i64 (x82)), (44, .slice A0 ((((l83.set (Int.toNat x82) ((x81, x94.2.1, x94.2.2.1, x94.2.2.2.1, x94.2.2.2.2))).set (Int.toNat x82) ((x100.1, wr (x81 + 1), x100.2.2.1, x100.2.2.2.1, x100.2.2.2.2))).set (Int.toNat x82) ((x106.1, x106.2.1, wr ((wr (x81 + 1)) + 1), x106.2.2.2.1, x106.2.2.2.2))).set (Int.toNat x82) ((x113.1, x113.2.1, x113.2.2.1, wr ((wr ((wr (x81 + 1)) + 1)) + 1), x113.2.2.2.2))).length cap0)] (by kernel_rfl) ?_
      obtain ⟨x119, hx120, hm⟩ := bindE hm
      refine wS_idx (d := 47) (T := 75) (A := A0) (n := ((((l83.set (Int.toNat x82) ((x81, x94.2.1, x94.2.2.1, x94.2.2.2.1, x94.2.2.2.2))).set (Int.toNat x82) ((x100.1, wr (x81 + 1), x100.2.2.1, x100.2.2.2.1, x100.2.2.2.2))).set (Int.toNat x82) ((x106.1, x106.2.1, wr ((wr (x81 + 1)) + 1), x106.2.2.2.1, x106.2.2.2.2))).set (Int.toNat x82) ((x113.1, x113.2.1, x113.2.2.1, wr ((wr ((wr (x81 + 1)) + 1)) + 1), x113.2.2.2.2))).length) (cap := cap0) (kd := .i64) (m := x82) (by kernel_rfl) sl75 ((F116.sl encIIIII_ok).is hx120) ?_
      refine wS_pure 1 [(48, .pointer (some (elA A0 5 (x82) 4)))] (by kernel_rfl) ?_
      refine wS_storeEl (x := x119) ((x119.1, x119.2.1, x119.2.2.1, x119.2.2.2.1, wr ((wr ((wr ((wr (x81 + 1)) + 1)) + 1)) + 1))) (T := 2) (U := 52) (cap := cap0) (j := 4) (A := A0) (v := .int .i64 (wr ((wr ((wr ((wr (x81 + 1)) + 1)) + 1)) + 1))) (vs := [.int .i64 (wr ((wr ((wr ((wr (x81 + 1)) + 1)) + 1)) + 1))]) (m := x82) (by kernel_rfl) (by rfl) sz2 (by rfl) encIIIII_ok F116 hx120 (by simp only [List.length_cons, List.length_nil]; omega) (by rfl) ?_
      intro w121 F122 hc123
      replace hB := hB.inS hc123 (inMem (fun x hx => (List.mem_append_left _ hx)))
      replace hZ := Nat.le_trans hZ hc123.size
      clear F116
      have hl124 := (show (((((l83.set (Int.toNat x82) ((x81, x94.2.1, x94.2.2.1, x94.2.2.2.1, x94.2.2.2.2))).set (Int.toNat x82) ((x100.1, wr (x81 + 1), x100.2.2.1, x100.2.2.2.1, x100.2.2.2.2))).set (Int.toNat x82) ((x106.1, x106.2.1, wr ((wr (x81 + 1)) + 1), x106.2.2.2.1, x106.2.2.2.2))).set (Int.toNat x82) ((x113.1, x113.2.1, x113.2.2.1, wr ((wr ((wr (x81 + 1)) + 1)) + 1), x113.2.2.2.2))).set (Int.toNat x82) ((x119.1, x119.2.1, x119.2.2.1, x119.2.2.2.1, wr ((wr ((wr ((wr (x81 + 1)) + 1)) + 1)) + 1)))).length = ((((l83.set (Int.toNat x82) ((x81, x94.2.1, x94.2.2.1, x94.2.2.2.1, x94.2.2.2.2))).set (Int.toNat x82) ((x100.1, wr (x81 + 1), x100.2.2.1, x100.2.2.2.1, x100.2.2.2.2))).set (Int.toNat x82) ((x106.1, x106.2.1, wr ((wr (x81 + 1)) + 1), x106.2.2.2.1, x106.2.2.2.2))).set (Int.toNat x82) ((x113.1, x113.2.1, x113.2.2.1, wr ((wr ((wr (x81 + 1)) + 1)) + 1), x113.2.2.2.2))).length from List.length_set ..).trans hl118
      rewrite [show ((((l83.set (Int.toNat x82) ((x81, x94.2.1, x94.2.2.1, x94.2.2.2.1, x94.2.2.2.2))).set (Int.toNat x82) ((x100.1, wr (x81 + 1), x100.2.2.1, x100.2.2.2.1, x100.2.2.2.2))).set (Int.toNat x82) ((x106.1, x106.2.1, wr ((wr (x81 + 1)) + 1), x106.2.2.2.1, x106.2.2.2.2))).set (Int.toNat x82) ((x113.1, x113.2.1, x113.2.2.1, wr ((wr ((wr (x81 + 1)) + 1)) + 1), x113.2.2.2.2))).length = (((((l83.set (Int.toNat x82) ((x81, x94.2.1, x94.2.2.1, x94.2.2.2.1, x94.2.2.2.2))).set (Int.toNat x82) ((x100.1, wr (x81 + 1), x100.2.2.1, x100.2.2.2.1, x100.2.2.2.2))).set (Int.toNat x82) ((x106.1, x106.2.1, wr ((wr (x81 + 1)) + 1), x106.2.2.2.1, x106.2.2.2.2))).set (Int.toNat x82) ((x113.1, x113.2.1, x113.2.2.1, wr ((wr ((wr (x81 + 1)) + 1)) + 1), x113.2.2.2.2))).set (Int.toNat x82) ((x119.1, x119.2.1, x119.2.2.1, x119.2.2.2.1, wr ((wr ((wr ((wr (x81 + 1)) + 1)) + 1)) + 1)))).length from (List.length_set ..).symm]
      refine wS_end (by rfl) ?_
      refine eX_then ?_
      refine cW_region ?_
      refine wS_pure 3 [(1, .int .i64 (wr ((wr ((wr ((wr ((wr (x81 + 1)) + 1)) + 1)) + 1)) + 1))), (50, .int .i64 (wr ((wr ((wr ((wr ((wr (x81 + 1)) + 1)) + 1)) + 1)) + 1))), (49, .int .i64 (wr ((wr ((wr ((wr (x81 + 1)) + 1)) + 1)) + 1)))] (by kernel_rfl) ?_
      refine wS_end (by rfl) ?_
      refine eX_block ?_
      refine eX_then ?_
      refine cW_region ?_
      refine wS_pure 3 [(5, .int .i64 (wr (x82 + 1))), (11, .int .i64 (wr (x82 + 1))), (10, .int .i64 (x82))] (by kernel_rfl) ?_
      refine wS_end (by rfl) ?_
      have hq : (some (Ctl.next ((wr ((wr ((wr ((wr ((wr (x81 + 1)) + 1)) + 1)) + 1)) + 1), wr (x82 + 1), ((((l83.set (Int.toNat x82) ((x81, x94.2.1, x94.2.2.1, x94.2.2.2.1, x94.2.2.2.2))).set (Int.toNat x82) ((x100.1, wr (x81 + 1), x100.2.2.1, x100.2.2.2.1, x100.2.2.2.2))).set (Int.toNat x82) ((x106.1, x106.2.1, wr ((wr (x81 + 1)) + 1), x106.2.2.2.1, x106.2.2.2.2))).set (Int.toNat x82) ((x113.1, x113.2.1, x113.2.2.1, wr ((wr ((wr (x81 + 1)) + 1)) + 1), x113.2.2.2.2))).set (Int.toNat x82) ((x119.1, x119.2.1, x119.2.2.1, x119.2.2.2.1, wr ((wr ((wr ((wr (x81 + 1)) + 1)) + 1)) + 1)))))) : Option (Ctl (Int × Int × (List (Int × Int × Int × Int × Int))) (Int × (List (Int × Int × Int × Int × Int))))) = some _ := hm
      replace hq := someE hq
      subst hq
      exact eX_next hx92 (fun hst => ⟨wr ((wr ((wr ((wr ((wr (x81 + 1)) + 1)) + 1)) + 1)) + 1), wr (x82 + 1), ((((l83.set (Int.toNat x82) ((x81, x94.2.1, x94.2.2.1, x94.2.2.2.1, x94.2.2.2.2))).set (Int.toNat x82) ((x100.1, wr (x81 + 1), x100.2.2.1, x100.2.2.2.1, x100.2.2.2.2))).set (Int.toNat x82) ((x106.1, x106.2.1, wr ((wr (x81 + 1)) + 1), x106.2.2.2.1, x106.2.2.2.2))).set (Int.toNat x82) ((x113.1, x113.2.1, x113.2.2.1, wr ((wr ((wr (x81 + 1)) + 1)) + 1), x113.2.2.2.2))).set (Int.toNat x82) ((x119.1, x119.2.1, x119.2.2.1, x119.2.2.2.1, wr ((wr ((wr ((wr (x81 + 1)) + 1)) + 1)) + 1))), rfl, Fr.of hst (by kernel_rfl), F122, hl124, hB, hZ⟩)
    · have hm := condF hb93 hm
      refine cW_exit ?_
      refine eX_then_exit ?_
      have hq : (some (Ctl.out ((x81, l83))) : Option (Ctl (Int × Int × (List (Int × Int × Int × Int × Int))) (Int × (List (Int × Int × Int × Int × Int))))) = some _ := hm
      replace hq := someE hq
      subst hq
      refine eX_outX hx92 (fun hr125 => ?_)
      replace hr125 := hr125.symm
      subst hr125
      refine eX_block_hit ?_
      exact eX_J (fun hst => ⟨x81, l83, rfl, Fr.of hst (by kernel_rfl), F85, hl86, hB, hZ⟩)
  · rintro a' w74 ⟨x75, l76, hJ, hF77, F78, hl79, hB, hZ⟩
    subst hJ
    refine Fr.goX hF77 (by kernel_rfl) ?_
    refine eX_then ?_
    refine cW_seq ?_
    refine cW_region ?_
    refine wS_pure 2 [(4, .int .i64 (x75)), (51, .int .i64 (x75))] (by kernel_rfl) ?_
    refine wS_end (by rfl) ?_
    refine eX_then ?_
    refine cW_ret ?_
    have hq : (some ((x75, l76)) : Option ((Int) × (List (Int × Int × Int × Int × Int)))) = some _ := hm
    replace hq := someE hq
    subst hq
    refine eX_ret (vs := [.int .i64 (x75)]) [.tmp 4] (by rfl) ⟨by (show lkE _ _ _ = _); kernel_rfl, trivial⟩ ?_
    exact ⟨rfl, F78, hl79, hB⟩

set_option maxRecDepth 100000 in
/-- laws.heldMergeS -/
theorem c_laws_heldMergeS {w0 : World} {l0 : List (Int × Int × Int × Int × Int)} {A0 : Option Addr} {cap0 : Nat} {fp0 : List Nat} {p1 : Int} {r : (Int)} (hm : m_laws_heldMergeS l0 p1 = some r) (F0 : Sl 5 encIIIII w0 fp0 A0 l0) :
    Calls Try.prog 77 #[.slice A0 (l0).length cap0, .int .i64 (p1)] w0 fun e w' => e = .returned (.int .i64 (r)) ∧ Chg [] w0 w' := by
  have L0 := F0.low
  have hB : Chg [] w0 w0 := Chg.refl _ _
  have hZ := Nat.le_refl w0.heap.size
  unfold m_laws_heldMergeS at hm
  refine enterE (N := 62) Try.func77 (by rfl) Try.ntmps77 (by simp) [(0, .slice A0 (l0).length cap0), (1, .int .i64 (p1))] (by rfl) (by kernel_rfl) (fun a => ?_)
  refine cW_seq ?_
  refine cW_region ?_
  refine wS_pure 1 [(4, .int .i64 (0))] (by kernel_rfl) ?_
  refine wS_end (by rfl) ?_
  refine eX_then ?_
  refine cW_seq ?_
  refine cW_seq ?_
  refine cW_region ?_
  refine wS_pure 1 [(5, .int .i64 (0))] (by kernel_rfl) ?_
  refine wS_end (by rfl) ?_
  refine eX_then ?_
  obtain ⟨r52, hr53, hm⟩ := bindE hm
  have hm54 := hm
  refine cW_cut (fun a' w' => ∃ x45 : Int, Sum.inl x45 = r52 ∧ Fr 62 [(1, .int .i64 (x45))] a' ∧ Chg [] w0 w' ∧ w0.heap.size ≤ w'.heap.size) ?_ ?_
  · refine cW_block ?_
    refine cW_loop _ (fun (s55 : Int × Int) a' w' => ∃ x48 : Int, ∃ x49 : Int, (x48, x49) = s55 ∧ Fr 62 [(0, .slice A0 (l0).length cap0), (1, .int .i64 (x48)), (5, .int .i64 (x49))] a' ∧ Sl 5 encIIIII w' fp0 A0 l0 ∧ Chg [] w0 w' ∧ w0.heap.size ≤ w'.heap.size) hr53 (fun hst => ⟨p1, 0, rfl, Fr.of hst (by kernel_rfl), F0, hB, hZ⟩) ?_
    rintro _ c56 a' w47 ⟨x48, x49, rfl, hF50, F51, hB, hZ⟩ hx57
    refine Fr.goOn hF50 (by kernel_rfl) ?_
    have hm := hx57
    unfold m_laws_heldMergeS_s1 at hm
    refine cW_seq ?_
    refine cW_seq ?_
    refine cW_region ?_
    refine wS_pure 4 [(9, .bool (decide (x49 < (((l0).length : Int))))), (8, .int .i64 (((l0).length : Int))), (7, .slice A0 (l0).length cap0), (6, .int .i64 (x49))] (by kernel_rfl) ?_
    refine wS_end (by rfl) ?_
    refine eX_then ?_
    refine cW_cond (t := decide (x49 < (((l0).length : Int)))) (by kernel_rfl) (fun hb58 => ?_) (fun hb58 => ?_)
    · have hm := condT hb58 hm
      refine cW_skip ?_
      refine eX_then ?_
      refine cW_seq ?_
      refine cW_block ?_
      refine cW_seq ?_
      refine cW_seq ?_
      refine cW_region ?_
      refine wS_pure 2 [(13, .int .i64 (x49)), (12, .slice A0 (l0).length cap0)] (by kernel_rfl) ?_
      obtain ⟨x59, hx60, hm⟩ := bindE hm
      refine wS_idx (d := 14) (T := 75) (A := A0) (n := (l0).length) (cap := cap0) (kd := .i64) (m := x49) (by kernel_rfl) sl75 (F51.is hx60) ?_
      refine wS_pure 2 [(16, .pointer (some (elA A0 5 (x49) 0))), (15, .pointer (some (elA A0 5 (x49) 0)))] (by kernel_rfl) ?_
      refine wS_load1 (d := 17) (T := 2) (ad := (elA A0 5 (x49) 0)) (v := .int .i64 (x59.1)) (by kernel_rfl) vt2 (Sl.cell F51 hx60 0 (by rfl)) ?_
      refine wS_pure 2 [(19, .bool (x59.1 != x48)), (18, .int .i64 (x48))] (by kernel_rfl) ?_
      refine wS_end (by rfl) ?_
      refine eX_then ?_
      refine cW_cond (t := x59.1 != x48) (by kernel_rfl) (fun hb61 => ?_) (fun hb61 => ?_)
      · have hm := condT hb61 hm
        refine cW_seq ?_
        refine cW_region ?_
        refine wS_pure 1 [(4, .int .i64 ((-1)))] (by kernel_rfl) ?_
        refine wS_end (by rfl) ?_
        refine eX_then ?_
        refine cW_ret ?_
        refine eX_then_ret ?_
        refine eX_block_ret ?_
        refine eX_then_ret ?_
        have hq : (some (Ctl.out (Sum.inr ((-1)))) : Option (Ctl (Int × Int) (Sum (Int) ((Int))))) = some _ := hm
        replace hq := someE hq
        subst hq
        refine eX_outR hx57 (fun hr => ?_)
        subst hr
        refine eX_block_ret ?_
        refine eX_then_ret ?_
        refine eX_then_ret ?_
        have hq : (some ((-1)) : Option ((Int))) = some _ := hm54
        replace hq := someE hq
        subst hq
        refine eX_ret (vs := [.int .i64 ((-1))]) [.tmp 4] (by rfl) ⟨by (show lkE _ _ _ = _); kernel_rfl, trivial⟩ ?_
        exact ⟨rfl, hB⟩
      · have hm := condF hb61 hm
        refine cW_skip ?_
        refine eX_then ?_
        refine cW_seq ?_
        refine cW_region ?_
        refine wS_pure 3 [(1, .int .i64 (wr (x48 + 1))), (21, .int .i64 (wr (x48 + 1))), (20, .int .i64 (x48))] (by kernel_rfl) ?_
        refine wS_end (by rfl) ?_
        refine eX_then ?_
        refine cW_seq ?_
        refine cW_seq ?_
        refine cW_region ?_
        refine wS_pure 2 [(23, .int .i64 (x49)), (22, .slice A0 (l0).length cap0)] (by kernel_rfl) ?_
        obtain ⟨x62, hx63, hm⟩ := bindE hm
        refine wS_idx (d := 24) (T := 75) (A := A0) (n := (l0).length) (cap := cap0) (kd := .i64) (m := x49) (by kernel_rfl) sl75 (F51.is hx63) ?_
        refine wS_pure 2 [(26, .pointer (some (elA A0 5 (x49) 1))), (25, .pointer (some (elA A0 5 (x49) 0)))] (by kernel_rfl) ?_
        refine wS_load1 (d := 27) (T := 2) (ad := (elA A0 5 (x49) 1)) (v := .int .i64 (x62.2.1)) (by kernel_rfl) vt2 (Sl.cell F51 hx63 1 (by rfl)) ?_
        refine wS_pure 2 [(29, .bool (x62.2.1 != (wr (x48 + 1)))), (28, .int .i64 (wr (x48 + 1)))] (by kernel_rfl) ?_
        refine wS_end (by rfl) ?_
        refine eX_then ?_
        refine cW_prune [(0, .slice A0 (l0).length cap0), (1, .int .i64 (wr (x48 + 1))), (5, .int .i64 (x49)), (29, .bool (x62.2.1 != (wr (x48 + 1))))] (by kernel_rfl) (by kernel_rfl) (fun a64 => ?_)
        refine cW_cond (t := x62.2.1 != (wr (x48 + 1))) (by kernel_rfl) (fun hb65 => ?_) (fun hb65 => ?_)
        · have hm := condT hb65 hm
          refine cW_seq ?_
          refine cW_region ?_
          refine wS_pure 1 [(4, .int .i64 ((-1)))] (by kernel_rfl) ?_
          refine wS_end (by rfl) ?_
          refine eX_then ?_
          refine cW_ret ?_
          refine eX_then_ret ?_
          refine eX_block_ret ?_
          refine eX_then_ret ?_
          have hq : (some (Ctl.out (Sum.inr ((-1)))) : Option (Ctl (Int × Int) (Sum (Int) ((Int))))) = some _ := hm
          replace hq := someE hq
          subst hq
          refine eX_outR hx57 (fun hr => ?_)
          subst hr
          refine eX_block_ret ?_
          refine eX_then_ret ?_
          refine eX_then_ret ?_
          have hq : (some ((-1)) : Option ((Int))) = some _ := hm54
          replace hq := someE hq
          subst hq
          refine eX_ret (vs := [.int .i64 ((-1))]) [.tmp 4] (by rfl) ⟨by (show lkE _ _ _ = _); kernel_rfl, trivial⟩ ?_
          exact ⟨rfl, hB⟩
        · have hm := condF hb65 hm
          refine cW_skip ?_
          refine eX_then ?_
          refine cW_seq ?_
          refine cW_region ?_
          refine wS_pure 3 [(1, .int .i64 (wr ((wr (x48 + 1)) + 1))), (31, .int .i64 (wr ((wr (x48 + 1)) + 1))), (30, .int .i64 (wr (x48 + 1)))] (by kernel_rfl) ?_
          refine wS_end (by rfl) ?_
          refine eX_then ?_
          refine cW_seq ?_
          refine cW_seq ?_
          refine cW_region ?_
          refine wS_pure 2 [(33, .int .i64 (x49)), (32, .slice A0 (l0).length cap0)] (by kernel_rfl) ?_
          obtain ⟨x66, hx67, hm⟩ := bindE hm
          refine wS_idx (d := 34) (T := 75) (A := A0) (n := (l0).length) (cap := cap0) (kd := .i64) (m := x49) (by kernel_rfl) sl75 (F51.is hx67) ?_
          refine wS_pure 2 [(36, .pointer (some (elA A0 5 (x49) 2))), (35, .pointer (some (elA A0 5 (x49) 0)))] (by kernel_rfl) ?_
          refine wS_load1 (d := 37) (T := 2) (ad := (elA A0 5 (x49) 2)) (v := .int .i64 (x66.2.2.1)) (by kernel_rfl) vt2 (Sl.cell F51 hx67 2 (by rfl)) ?_
          refine wS_pure 2 [(39, .bool (x66.2.2.1 != (wr ((wr (x48 + 1)) + 1)))), (38, .int .i64 (wr ((wr (x48 + 1)) + 1)))] (by kernel_rfl) ?_
          refine wS_end (by rfl) ?_
          refine eX_then ?_
          refine cW_cond (t := x66.2.2.1 != (wr ((wr (x48 + 1)) + 1))) (by kernel_rfl) (fun hb68 => ?_) (fun hb68 => ?_)
          · have hm := condT hb68 hm
            refine cW_seq ?_
            refine cW_region ?_
            refine wS_pure 1 [(4, .int .i64 ((-1)))] (by kernel_rfl) ?_
            refine wS_end (by rfl) ?_
            refine eX_then ?_
            refine cW_ret ?_
            refine eX_then_ret ?_
            refine eX_block_ret ?_
            refine eX_then_ret ?_
            have hq : (some (Ctl.out (Sum.inr ((-1)))) : Option (Ctl (Int × Int) (Sum (Int) ((Int))))) = some _ := hm
            replace hq := someE hq
            subst hq
            refine eX_outR hx57 (fun hr => ?_)
            subst hr
            refine eX_block_ret ?_
            refine eX_then_ret ?_
            refine eX_then_ret ?_
            have hq : (some ((-1)) : Option ((Int))) = some _ := hm54
            replace hq := someE hq
            subst hq
            refine eX_ret (vs := [.int .i64 ((-1))]) [.tmp 4] (by rfl) ⟨by (show lkE _ _ _ = _); kernel_rfl, trivial⟩ ?_
            exact ⟨rfl, hB⟩
          · have hm := condF hb68 hm
            refine cW_skip ?_
            refine eX_then ?_
            refine cW_seq ?_
            refine cW_region ?_
            refine wS_pure 3 [(1, .int .i64 (wr ((wr ((wr (x48 + 1)) + 1)) + 1))), (41, .int .i64 (wr ((wr ((wr (x48 + 1)) + 1)) + 1))), (40, .int .i64 (wr ((wr (x48 + 1)) + 1)))] (by kernel_rfl) ?_
            refine wS_end (by rfl) ?_
            refine eX_then ?_
            refine cW_seq ?_
            refine cW_seq ?_
            refine cW_region ?_
            refine wS_pure 2 [(43, .int .i64 (x49)), (42, .slice A0 (l0).length cap0)] (by kernel_rfl) ?_
            obtain ⟨x69, hx70, hm⟩ := bindE hm
            refine wS_idx (d := 44) (T := 75) (A := A0) (n := (l0).length) (cap := cap0) (kd := .i64) (m := x49) (by kernel_rfl) sl75 (F51.is hx70) ?_
            refine wS_pure 2 [(46, .pointer (some (elA A0 5 (x49) 3))), (45, .pointer (some (elA A0 5 (x49) 0)))] (by kernel_rfl) ?_
            refine wS_load1 (d := 47) (T := 2) (ad := (elA A0 5 (x49) 3)) (v := .int .i64 (x69.2.2.2.1)) (by kernel_rfl) vt2 (Sl.cell F51 hx70 3 (by rfl)) ?_
            refine wS_pure 2 [(49, .bool (x69.2.2.2.1 != (wr ((wr ((wr (x48 + 1)) + 1)) + 1)))), (48, .int .i64 (wr ((wr ((wr (x48 + 1)) + 1)) + 1)))] (by kernel_rfl) ?_
            refine wS_end (by rfl) ?_
            refine eX_then ?_
            refine cW_prune [(0, .slice A0 (l0).length cap0), (1, .int .i64 (wr ((wr ((wr (x48 + 1)) + 1)) + 1))), (5, .int .i64 (x49)), (49, .bool (x69.2.2.2.1 != (wr ((wr ((wr (x48 + 1)) + 1)) + 1))))] (by kernel_rfl) (by kernel_rfl) (fun a71 => ?_)
            refine cW_cond (t := x69.2.2.2.1 != (wr ((wr ((wr (x48 + 1)) + 1)) + 1))) (by kernel_rfl) (fun hb72 => ?_) (fun hb72 => ?_)
            · have hm := condT hb72 hm
              refine cW_seq ?_
              refine cW_region ?_
              refine wS_pure 1 [(4, .int .i64 ((-1)))] (by kernel_rfl) ?_
              refine wS_end (by rfl) ?_
              refine eX_then ?_
              refine cW_ret ?_
              refine eX_then_ret ?_
              refine eX_block_ret ?_
              refine eX_then_ret ?_
              have hq : (some (Ctl.out (Sum.inr ((-1)))) : Option (Ctl (Int × Int) (Sum (Int) ((Int))))) = some _ := hm
              replace hq := someE hq
              subst hq
              refine eX_outR hx57 (fun hr => ?_)
              subst hr
              refine eX_block_ret ?_
              refine eX_then_ret ?_
              refine eX_then_ret ?_
              have hq : (some ((-1)) : Option ((Int))) = some _ := hm54
              replace hq := someE hq
              subst hq
              refine eX_ret (vs := [.int .i64 ((-1))]) [.tmp 4] (by rfl) ⟨by (show lkE _ _ _ = _); kernel_rfl, trivial⟩ ?_
              exact ⟨rfl, hB⟩
            · have hm := condF hb72 hm
              refine cW_skip ?_
              refine eX_then ?_
              refine cW_seq ?_
              refine cW_region ?_
              refine wS_pure 3 [(1, .int .i64 (wr ((wr ((wr ((wr (x48 + 1)) + 1)) + 1)) + 1))), (51, .int .i64 (wr ((wr ((wr ((wr (x48 + 1)) + 1)) + 1)) + 1))), (50, .int .i64 (wr ((wr ((wr (x48 + 1)) + 1)) + 1)))] (by kernel_rfl) ?_
              refine wS_end (by rfl) ?_
              refine eX_then ?_
              refine cW_seq ?_
              refine cW_seq ?_
              refine cW_region ?_
              refine wS_pure 2 [(53, .int .i64 (x49)), (52, .slice A0 (l0).length cap0)] (by kernel_rfl) ?_
              obtain ⟨x73, hx74, hm⟩ := bindE hm
              refine wS_idx (d := 54) (T := 75) (A := A0) (n := (l0).length) (cap := cap0) (kd := .i64) (m := x49) (by kernel_rfl) sl75 (F51.is hx74) ?_
              refine wS_pure 1 [(55, .pointer (some (elA A0 5 (x49) 4)))] (by kernel_rfl) ?_
              refine wS_load1 (d := 56) (T := 2) (ad := (elA A0 5 (x49) 4)) (v := .int .i64 (x73.2.2.2.2)) (by kernel_rfl) vt2 (Sl.cell F51 hx74 4 (by rfl)) ?_
              refine wS_pure 2 [(58, .bool (x73.2.2.2.2 != (wr ((wr ((wr ((wr (x48 + 1)) + 1)) + 1)) + 1)))), (57, .int .i64 (wr ((wr ((wr ((wr (x48 + 1)) + 1)) + 1)) + 1)))] (by kernel_rfl) ?_
              refine wS_end (by rfl) ?_
              refine eX_then ?_
              refine cW_cond (t := x73.2.2.2.2 != (wr ((wr ((wr ((wr (x48 + 1)) + 1)) + 1)) + 1))) (by kernel_rfl) (fun hb75 => ?_) (fun hb75 => ?_)
              · have hm := condT hb75 hm
                refine cW_seq ?_
                refine cW_region ?_
                refine wS_pure 1 [(4, .int .i64 ((-1)))] (by kernel_rfl) ?_
                refine wS_end (by rfl) ?_
                refine eX_then ?_
                refine cW_ret ?_
                refine eX_then_ret ?_
                refine eX_block_ret ?_
                refine eX_then_ret ?_
                have hq : (some (Ctl.out (Sum.inr ((-1)))) : Option (Ctl (Int × Int) (Sum (Int) ((Int))))) = some _ := hm
                replace hq := someE hq
                subst hq
                refine eX_outR hx57 (fun hr => ?_)
                subst hr
                refine eX_block_ret ?_
                refine eX_then_ret ?_
                refine eX_then_ret ?_
                have hq : (some ((-1)) : Option ((Int))) = some _ := hm54
                replace hq := someE hq
                subst hq
                refine eX_ret (vs := [.int .i64 ((-1))]) [.tmp 4] (by rfl) ⟨by (show lkE _ _ _ = _); kernel_rfl, trivial⟩ ?_
                exact ⟨rfl, hB⟩
              · have hm := condF hb75 hm
                refine cW_skip ?_
                refine eX_then ?_
                refine cW_region ?_
                refine wS_pure 3 [(1, .int .i64 (wr ((wr ((wr ((wr ((wr (x48 + 1)) + 1)) + 1)) + 1)) + 1))), (60, .int .i64 (wr ((wr ((wr ((wr ((wr (x48 + 1)) + 1)) + 1)) + 1)) + 1))), (59, .int .i64 (wr ((wr ((wr ((wr (x48 + 1)) + 1)) + 1)) + 1)))] (by kernel_rfl) ?_
                refine wS_end (by rfl) ?_
                refine eX_block ?_
                refine eX_then ?_
                refine cW_region ?_
                refine wS_pure 3 [(5, .int .i64 (wr (x49 + 1))), (11, .int .i64 (wr (x49 + 1))), (10, .int .i64 (x49))] (by kernel_rfl) ?_
                refine wS_end (by rfl) ?_
                have hq : (some (Ctl.next ((wr ((wr ((wr ((wr ((wr (x48 + 1)) + 1)) + 1)) + 1)) + 1), wr (x49 + 1)))) : Option (Ctl (Int × Int) (Sum (Int) ((Int))))) = some _ := hm
                replace hq := someE hq
                subst hq
                exact eX_next hx57 (fun hst => ⟨wr ((wr ((wr ((wr ((wr (x48 + 1)) + 1)) + 1)) + 1)) + 1), wr (x49 + 1), rfl, Fr.of hst (by kernel_rfl), F51, hB, hZ⟩)
    · have hm := condF hb58 hm
      refine cW_exit ?_
      refine eX_then_exit ?_
      have hq : (some (Ctl.out (Sum.inl x48)) : Option (Ctl (Int × Int) (Sum (Int) ((Int))))) = some _ := hm
      replace hq := someE hq
      subst hq
      refine eX_outX hx57 (fun hr76 => ?_)
      replace hr76 := hr76.symm
      subst hr76
      refine eX_block_hit ?_
      exact eX_J (fun hst => ⟨x48, rfl, Fr.of hst (by kernel_rfl), hB, hZ⟩)
  · rintro a' w44 ⟨x45, hJ, hF46, hB, hZ⟩
    subst hJ
    refine Fr.goX hF46 (by kernel_rfl) ?_
    refine eX_then ?_
    refine cW_seq ?_
    refine cW_region ?_
    refine wS_pure 2 [(4, .int .i64 (x45)), (61, .int .i64 (x45))] (by kernel_rfl) ?_
    refine wS_end (by rfl) ?_
    refine eX_then ?_
    refine cW_ret ?_
    have hq : (some x45 : Option ((Int))) = some _ := hm
    replace hq := someE hq
    subst hq
    refine eX_ret (vs := [.int .i64 (x45)]) [.tmp 4] (by rfl) ⟨by (show lkE _ _ _ = _); kernel_rfl, trivial⟩ ?_
    exact ⟨rfl, hB⟩

end Go.Proofs.Ytmodhpgnkbnbaaa
