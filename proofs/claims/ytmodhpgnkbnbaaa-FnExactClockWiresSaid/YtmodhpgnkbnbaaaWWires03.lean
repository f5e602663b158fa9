/- Printed walks: impl.ClockWires, spec.l06Pins, spec.l06Tree, laws.markPointS, laws.markInt64S, laws.markInt64SS, laws.heldInt64S, spec.l06Ask, spec.ClockWires, laws.FnExactClockWires. -/
import Derived.Test.YtmodhpgnkbnbaaaProg
import Derived.Test.YtmodhpgnkbnbaaaWWires02
set_option linter.unusedSimpArgs false
set_option linter.unusedVariables false
namespace Go.Proofs.Ytmodhpgnkbnbaaa
open Go.RowKit
attribute [local irreducible] wS cW eX wH

theorem ent36 : Ent Try.prog 36 := fun _ => by kernel_rfl
theorem ent38 : Ent Try.prog 38 := fun _ => by kernel_rfl
theorem ent40 : Ent Try.prog 40 := fun _ => by kernel_rfl
theorem ent44 : Ent Try.prog 44 := fun _ => by kernel_rfl
theorem ent46 : Ent Try.prog 46 := fun _ => by kernel_rfl
theorem ent48 : Ent Try.prog 48 := fun _ => by kernel_rfl
theorem ent59 : Ent Try.prog 59 := fun _ => by kernel_rfl
theorem ent66 : Ent Try.prog 66 := fun _ => by kernel_rfl
theorem ent67 : Ent Try.prog 67 := fun _ => by kernel_rfl
theorem ent69 : Ent Try.prog 69 := fun _ => by kernel_rfl
theorem ent70 : Ent Try.prog 70 := fun _ => by kernel_rfl
theorem ent71 : Ent Try.prog 71 := fun _ => by kernel_rfl
theorem ent86 : Ent Try.prog 86 := fun _ => by kernel_rfl
theorem ent94 : Ent Try.prog 94 := fun _ => by kernel_rfl
theorem ent99 : Ent Try.prog 99 := fun _ => by kernel_rfl
theorem ent103 : Ent Try.prog 103 := fun _ => by kernel_rfl
theorem ent110 : Ent Try.prog 110 := fun _ => by kernel_rfl
theorem ent116 : Ent Try.prog 116 := fun _ => by kernel_rfl
theorem ent117 : Ent Try.prog 117 := fun _ => by kernel_rfl
theorem ent119 : Ent Try.prog 119 := fun _ => by kernel_rfl

set_option maxRecDepth 100000 in
/-- impl.ClockWires -/
theorem c_impl_ClockWires {w0 : World} {l0 : List (Int × Int)} {A0 : Option Addr} {cap0 : Nat} {fp0 : List Nat} {l1 : List (List (Int))} {A1 : Option Addr} {cap1 : Nat} {fp1 : List Nat} {r : (List (Int)) × (Bool)} (hm : m_impl_ClockWires l0 l1 = some r) (F0 : Sl 2 encII w0 fp0 A0 l0) (F1 : SlR 1 encI w0 fp1 A1 l1) :
    Calls Try.prog 59 #[.slice A0 (l0).length cap0, .slice A1 (l1).length cap1] w0 fun e w' => ∃ A100 cap100 fp100, e = .returned (.tuple #[.slice A100 (r.1).length cap100, .bool (r.2)]) ∧ Ow 1 encI 2 w' fp100 A100 cap100 r.1 ∧ (∀ x ∈ fp100, w0.heap.size ≤ x) ∧ Chg [] w0 w' := by
  have L0 := F0.low
  have L1 := F1.low
  have hB : Chg [] w0 w0 := Chg.refl _ _
  have hZ := Nat.le_refl w0.heap.size
  unfold m_impl_ClockWires at hm
  refine enterE (N := 18) Try.func59 (by rfl) Try.ntmps59 (by simp) [(0, .slice A0 (l0).length cap0), (1, .slice A1 (l1).length cap1)] (by rfl) (by kernel_rfl) (fun a => ?_)
  refine cW_seq ?_
  refine cW_region ?_
  refine wS_pure 2 [(5, .bool (false)), (4, .slice none 0 0)] (by kernel_rfl) ?_
  refine wS_end (by rfl) ?_
  refine eX_then ?_
  refine cW_seq ?_
  refine cW_region ?_
  refine wS_pure 2 [(11, .slice A1 (l1).length cap1), (10, .slice A0 (l0).length cap0)] (by kernel_rfl) ?_
  obtain ⟨y3, hy4, hm⟩ := bindE hm
  refine wS_calls (d := 12) (f := 110) (vs := [.slice A0 (l0).length cap0, .slice A1 (l1).length cap1]) (by kernel_rfl) ent110 (c_impl_tree hy4 F0 F1) ?_
  rintro _ w5 ⟨A7, cap8, fp9, A13, cap14, fp15, rfl, F10, G11, F16, G17, D19, hc6⟩
  replace F0 := F0.chg hc6 Dj.nil
  replace F1 := F1.chg hc6 Dj.nil
  replace hB := hB.inS hc6 inNil
  replace G11 := low_le hZ G11
  replace G17 := low_le hZ G17
  replace hZ := Nat.le_trans hZ hc6.size
  refine ⟨.tuple #[.slice A7 (y3.1).length cap8, .slice A13 (y3.2.1).length cap14, .bool (y3.2.2)], rfl, ?_⟩
  refine wS_pure 7 [(8, .bool (y3.2.2)), (7, .slice A13 (y3.2.1).length cap14), (6, .slice A7 (y3.1).length cap8), (15, .bool (y3.2.2)), (14, .slice A13 (y3.2.1).length cap14), (13, .slice A7 (y3.1).length cap8), (9, .tuple #[.slice A7 (y3.1).length cap8, .slice A13 (y3.2.1).length cap14, .bool (y3.2.2)])] (by kernel_rfl) ?_
  refine wS_end (by rfl) ?_
  refine eX_then ?_
  refine cW_seq ?_
  refine cW_region ?_
  refine wS_pure 4 [(5, .bool (y3.2.2)), (4, .slice A13 (y3.2.1).length cap14), (17, .bool (y3.2.2)), (16, .slice A13 (y3.2.1).length cap14)] (by kernel_rfl) ?_
  refine wS_end (by rfl) ?_
  refine eX_then ?_
  refine cW_ret ?_
  have hq : (some ((y3.2.1, y3.2.2)) : Option ((List (Int)) × (Bool))) = some _ := hm
  replace hq := someE hq
  subst hq
  refine eX_ret (vs := [.slice A13 (y3.2.1).length cap14, .bool (y3.2.2)]) [.tmp 4, .tmp 5] (by rfl) ⟨by (show lkE _ _ _ = _); kernel_rfl, ⟨by (show lkE _ _ _ = _); kernel_rfl, trivial⟩⟩ ?_
  exact ⟨A13, cap14, fp15, rfl, F16, G17, hB⟩

set_option maxRecDepth 100000 in
/-- spec.l06Pins -/
theorem c_spec_l06Pins {w0 : World} {l0 : List (Int × Int)} {A0 : Option Addr} {cap0 : Nat} {fp0 : List Nat} {r : (Bool)} (hm : m_spec_l06Pins l0 = some r) (F0 : Sl 2 encII w0 fp0 A0 l0) :
    Calls Try.prog 116 #[.slice A0 (l0).length cap0] w0 fun e w' => e = .returned (.bool (r)) ∧ Chg [] w0 w' := by
  have L0 := F0.low
  have hB : Chg [] w0 w0 := Chg.refl _ _
  have hZ := Nat.le_refl w0.heap.size
  unfold m_spec_l06Pins at hm
  refine enterE (N := 10) Try.func116 (by rfl) Try.ntmps116 (by simp) [(0, .slice A0 (l0).length cap0)] (by rfl) (by kernel_rfl) (fun a => ?_)
  refine cW_seq ?_
  refine cW_region ?_
  refine wS_pure 1 [(2, .bool (false))] (by kernel_rfl) ?_
  refine wS_end (by rfl) ?_
  refine eX_then ?_
  refine cW_seq ?_
  refine cW_region ?_
  refine wS_pure 2 [(4, .int .i64 (((l0).length : Int))), (3, .slice A0 (l0).length cap0)] (by kernel_rfl) ?_
  obtain ⟨y2, hy3, hm⟩ := bindE hm
  refine wS_calls (d := 5) (f := 88) (vs := [.int .i64 (((l0).length : Int)), .int .i64 (2), .int .i64 (12)]) (by kernel_rfl) ent88 (c_spec_l00In hy3) ?_
  rintro _ w4 ⟨rfl, hc5⟩
  replace F0 := F0.chg hc5 Dj.nil
  replace hB := hB.inS hc5 inNil
  replace hZ := Nat.le_trans hZ hc5.size
  refine ⟨.bool (y2), rfl, ?_⟩
  refine wS_pure 1 [(6, .bool (y2))] (by kernel_rfl) ?_
  refine wS_bool y2 (fun hb6 => ?_) (fun hb6 => ?_)
  · have hm := condT hb6 hm
    rewrite [hb6]
    refine wS_pure 1 [(7, .slice A0 (l0).length cap0)] (by kernel_rfl) ?_
    obtain ⟨y7, hy8, hm⟩ := bindE hm
    refine wS_calls (d := 8) (f := 99) (vs := [.slice A0 (l0).length cap0]) (by kernel_rfl) ent99 (c_spec_l01Points hy8 F0) ?_
    rintro _ w9 ⟨rfl, hc10⟩
    replace F0 := F0.chg hc10 Dj.nil
    replace hB := hB.inS hc10 inNil
    replace hZ := Nat.le_trans hZ hc10.size
    refine ⟨.bool (y7), rfl, ?_⟩
    refine wS_pure 2 [(2, .bool (y7)), (9, .bool (y7))] (by kernel_rfl) ?_
    refine wS_end (by rfl) ?_
    refine eX_then ?_
    refine cW_ret ?_
    have hq : (some y7 : Option ((Bool))) = some _ := hm
    replace hq := someE hq
    subst hq
    refine eX_ret (vs := [.bool (y7)]) [.tmp 2] (by rfl) ⟨by (show lkE _ _ _ = _); kernel_rfl, trivial⟩ ?_
    exact ⟨rfl, hB⟩
  · have hm := condF hb6 hm
    rewrite [hb6]
    refine wS_pure 4 [(2, .bool (false)), (9, .bool (false)), (8, undef), (7, undef)] (by kernel_rfl) ?_
    refine wS_end (by rfl) ?_
    refine eX_then ?_
    refine cW_ret ?_
    have hq : (some false : Option ((Bool))) = some _ := hm
    replace hq := someE hq
    subst hq
    refine eX_ret (vs := [.bool (false)]) [.tmp 2] (by rfl) ⟨by (show lkE _ _ _ = _); kernel_rfl, trivial⟩ ?_
    exact ⟨rfl, hB⟩

set_option maxRecDepth 100000 in
/-- spec.l06Tree -/
theorem c_spec_l06Tree {w0 : World} {l0 : List (Int × Int)} {A0 : Option Addr} {cap0 : Nat} {fp0 : List Nat} {l1 : List (List (Int))} {A1 : Option Addr} {cap1 : Nat} {fp1 : List Nat} {r : (List (Int × Int × Int × Int × Int)) × (List (Int))} (hm : m_spec_l06Tree l0 l1 = some r) (F0 : Sl 2 encII w0 fp0 A0 l0) (F1 : SlR 1 encI w0 fp1 A1 l1) :
    Calls Try.prog 117 #[.slice A0 (l0).length cap0, .slice A1 (l1).length cap1] w0 fun e w' => ∃ A100 cap100 fp100, ∃ A101 cap101 fp101, e = .returned (.tuple #[.slice A100 (r.1).length cap100, .slice A101 (r.2).length cap101]) ∧ Ow 5 encIIIII 52 w' fp100 A100 cap100 r.1 ∧ (∀ x ∈ fp100, w0.heap.size ≤ x) ∧ Ow 1 encI 2 w' fp101 A101 cap101 r.2 ∧ (∀ x ∈ fp101, w0.heap.size ≤ x) ∧ Dj fp100 fp101 ∧ Chg [] w0 w' := by
  have L0 := F0.low
  have L1 := F1.low
  have hB : Chg [] w0 w0 := Chg.refl _ _
  have hZ := Nat.le_refl w0.heap.size
  unfold m_spec_l06Tree at hm
  refine enterE (N := 89) Try.func117 (by rfl) Try.ntmps117 (by simp) [(0, .slice A0 (l0).length cap0), (1, .slice A1 (l1).length cap1)] (by rfl) (by kernel_rfl) (fun a => ?_)
  refine cW_seq ?_
  refine cW_region ?_
  refine wS_pure 2 [(5, .slice none 0 0), (4, .slice none 0 0)] (by kernel_rfl) ?_
  refine wS_end (by rfl) ?_
  refine eX_then ?_
  refine cW_seq ?_
  refine cW_region ?_
  refine wS_bs0 (α := Int × Int × Int × Int × Int) (enc := encIIIII) (d := 13) (t := 75) (T := 52) (by kernel_rfl) el75 ?_
  intro b3 w4 G5 F6 hc7
  replace F0 := F0.chg hc7 Dj.nil
  replace F1 := F1.chg hc7 Dj.nil
  replace hB := hB.inS hc7 inNil
  replace G5 := Nat.le_trans hZ G5
  replace G5 := low1 G5
  replace hZ := Nat.le_trans hZ hc7.size
  refine wS_pure 1 [(6, .slice (some ⟨b3, 0, none⟩) (([] : List (Int × Int × Int × Int × Int))).length 0)] (by kernel_rfl) ?_
  refine wS_end (by rfl) ?_
  refine eX_then ?_
  refine cW_seq ?_
  refine cW_region ?_
  refine wS_bs0 (α := Int) (enc := encI) (d := 14) (t := 68) (T := 2) (by kernel_rfl) el68 ?_
  intro b9 w10 G11 F12 hc13
  have D15 : Dj [b3] [b9] := Dj.of F6.low (low1 G11)
  replace F0 := F0.chg hc13 Dj.nil
  replace F1 := F1.chg hc13 Dj.nil
  replace F6 := F6.chg hc13 Dj.nil
  replace hB := hB.inS hc13 inNil
  replace G11 := Nat.le_trans hZ G11
  replace G11 := low1 G11
  replace hZ := Nat.le_trans hZ hc13.size
  refine wS_pure 1 [(7, .slice (some ⟨b9, 0, none⟩) (([] : List (Int))).length 0)] (by kernel_rfl) ?_
  refine wS_end (by rfl) ?_
  refine eX_then ?_
  refine cW_seq ?_
  refine cW_seq ?_
  refine cW_region ?_
  refine wS_pure 1 [(8, .int .i64 (0))] (by kernel_rfl) ?_
  refine wS_end (by rfl) ?_
  refine eX_then ?_
  obtain ⟨r176, hr177, hm⟩ := bindE hm
  have hm178 := hm
  refine cW_cut (fun a' w' => ∃ l139 : List (Int × Int × Int × Int × Int), ∃ A140 : Option Addr, ∃ cap141 : Nat, ∃ fp142 : List Nat, ∃ l144 : List (Int), ∃ A145 : Option Addr, ∃ cap146 : Nat, ∃ fp147 : List Nat, (l139, l144) = r176 ∧ Fr 89 [(1, .slice A1 (l1).length cap1), (6, .slice A140 (l139).length cap141), (7, .slice A145 (l144).length cap146)] a' ∧ SlR 1 encI w' fp1 A1 l1 ∧ Ow 5 encIIIII 52 w' fp142 A140 cap141 l139 ∧ Ow 1 encI 2 w' fp147 A145 cap146 l144 ∧ (∀ x ∈ fp142, w0.heap.size ≤ x) ∧ (∀ x ∈ fp147, w0.heap.size ≤ x) ∧ Dj fp147 fp142 ∧ Chg [] w0 w' ∧ w0.heap.size ≤ w'.heap.size) ?_ ?_
  · refine cW_block ?_
    refine cW_loop _ (fun (s179 : (List (Int × Int × Int × Int × Int)) × (List (Int)) × Int) a' w' => ∃ l157 : List (Int × Int × Int × Int × Int), ∃ A158 : Option Addr, ∃ cap159 : Nat, ∃ fp160 : List Nat, ∃ l162 : List (Int), ∃ A163 : Option Addr, ∃ cap164 : Nat, ∃ fp165 : List Nat, ∃ x167 : Int, (l157, l162, x167) = s179 ∧ Fr 89 [(0, .slice A0 (l0).length cap0), (1, .slice A1 (l1).length cap1), (6, .slice A158 (l157).length cap159), (7, .slice A163 (l162).length cap164), (8, .int .i64 (x167))] a' ∧ Sl 2 encII w' fp0 A0 l0 ∧ SlR 1 encI w' fp1 A1 l1 ∧ Ow 5 encIIIII 52 w' fp160 A158 cap159 l157 ∧ Ow 1 encI 2 w' fp165 A163 cap164 l162 ∧ (∀ x ∈ fp160, w0.heap.size ≤ x) ∧ (∀ x ∈ fp165, w0.heap.size ≤ x) ∧ Dj fp165 fp160 ∧ Chg [] w0 w' ∧ w0.heap.size ≤ w'.heap.size) hr177 (fun hst => ⟨([] : List (Int × Int × Int × Int × Int)), (some ⟨b3, 0, none⟩), 0, [b3], ([] : List (Int)), (some ⟨b9, 0, none⟩), 0, [b9], 0, rfl, Fr.of hst (by kernel_rfl), F0, F1, F6, F12, G5, G11, (D15).symm, hB, hZ⟩) ?_
    rintro _ c180 a' w156 ⟨l157, A158, cap159, fp160, l162, A163, cap164, fp165, x167, rfl, hF168, F169, F170, F171, F172, G173, G174, D175, hB, hZ⟩ hx181
    refine Fr.goOn hF168 (by kernel_rfl) ?_
    have hm := hx181
    unfold m_spec_l06Tree_s1 at hm
    refine cW_seq ?_
    refine cW_seq ?_
    refine cW_region ?_
    refine wS_pure 4 [(18, .bool (decide (x167 < (((l0).length : Int))))), (17, .int .i64 (((l0).length : Int))), (16, .slice A0 (l0).length cap0), (15, .int .i64 (x167))] (by kernel_rfl) ?_
    refine wS_end (by rfl) ?_
    refine eX_then ?_
    refine cW_cond (t := decide (x167 < (((l0).length : Int)))) (by kernel_rfl) (fun hb182 => ?_) (fun hb182 => ?_)
    · have hm := condT hb182 hm
      refine cW_skip ?_
      refine eX_then ?_
      refine cW_seq ?_
      refine cW_block ?_
      refine cW_seq ?_
      refine cW_region ?_
      refine wS_pure 3 [(23, .int .i64 (x167)), (22, .slice A0 (l0).length cap0), (21, .slice A158 (l157).length cap159)] (by kernel_rfl) ?_
      obtain ⟨x183, hx184, hm⟩ := bindE hm
      refine wS_idx (d := 24) (T := 59) (A := A0) (n := (l0).length) (cap := cap0) (kd := .i64) (m := x167) (by kernel_rfl) sl59 (F169.is hx184) ?_
      refine wS_loadA (d := 25) (T := 32) (ad := (elA A0 2 (x167) 0)) (vs := [.int .i64 (x183.1), .int .i64 (x183.2)]) (by kernel_rfl) vt32 (fun i u hu => Sl.cells_at F169 hx184 0 hu (by rfl)) ?_
      obtain ⟨y185, hy186, hm⟩ := bindE hm
      refine wS_calls (d := 26) (f := 86) (vs := [.agg #[.int .i64 (x183.1), .int .i64 (x183.2)]]) (by kernel_rfl) ent86 (c_spec_l06Leaf hy186) ?_
      rintro _ w187 ⟨rfl, hc188⟩
      replace F169 := F169.chg hc188 Dj.nil
      replace F170 := F170.chg hc188 Dj.nil
      replace F171 := F171.chg hc188 Dj.nil
      replace F172 := F172.chg hc188 Dj.nil
      replace hB := hB.inS hc188 inNil
      replace hZ := Nat.le_trans hZ hc188.size
      refine ⟨.agg #[.int .i64 (y185.1), .int .i64 (y185.2.1), .int .i64 (y185.2.2.1), .int .i64 (y185.2.2.2)], rfl, ?_⟩
      refine wS_pure 1 [(27, .agg #[.int .i64 (y185.1), .int .i64 (y185.2.1), .int .i64 (y185.2.2.1), .int .i64 (y185.2.2.2), .int .i64 (0)])] (by kernel_rfl) ?_
      refine wS_bs (enc := encIIIII) ([(y185.1, y185.2.1, y185.2.2.1, y185.2.2.2, 0)] : List (Int × Int × Int × Int × Int)) [.int .i64 (y185.1), .int .i64 (y185.2.1), .int .i64 (y185.2.2.1), .int .i64 (y185.2.2.2), .int .i64 (0)] (d := 28) (t := 75) (T := 52) (n := 1) (ps := [(0, .agg #[.int .i64 (y185.1), .int .i64 (y185.2.1), .int .i64 (y185.2.2.1), .int .i64 (y185.2.2.2), .int .i64 (0)])]) (by kernel_rfl) el75 encIIIII_ok (by rfl) (by omega) (by omega) (by kernel_rfl) (by rfl) ?_
      intro b189 w190 G191 F192 hc193
      have D195 : Dj fp160 [b189] := Dj.of F171.low (low1 G191)
      have D196 : Dj fp165 [b189] := Dj.of F172.low (low1 G191)
      replace F169 := F169.chg hc193 Dj.nil
      replace F170 := F170.chg hc193 Dj.nil
      replace F171 := F171.chg hc193 Dj.nil
      replace F172 := F172.chg hc193 Dj.nil
      replace hB := hB.inS hc193 inNil
      replace G191 := Nat.le_trans hZ G191
      replace G191 := low1 G191
      replace hZ := Nat.le_trans hZ hc193.size
      obtain ⟨_, hk197, hm⟩ := bindE hm
      replace hk197 := apE hk197
      refine wS_append (enc := encIIIII) (l := (l157 : List (Int × Int × Int × Int × Int))) (l2 := (([(y185.1, y185.2.1, y185.2.2.1, y185.2.2.2, 0)] : List (Int × Int × Int × Int × Int)) : List (Int × Int × Int × Int × Int))) (d := 29) (t := 75) (T := 52) (A := A158) (A2 := (some ⟨b189, 0, none⟩)) (cap := cap159) (cap2 := 1) (by kernel_rfl) el75 encIIIII_ok F171 (F192.sl encIIIII_ok) (by rfl) hk197 ?_
      intro w198 fp199 A200 cap201 F202 hc203 hp204
      have G206 := low_ap G173 hZ hp204
      have D207 : Dj fp165 fp199 := Dj.ap D175 F172.low hp204
      have D208 : Dj [b189] fp199 := Dj.ap (D195).symm F192.low hp204
      replace F169 := F169.chg hc203 (Dj.of L0 G173)
      replace F170 := F170.chg hc203 (Dj.of L1 G173)
      replace F172 := F172.chg hc203 D175
      replace F192 := F192.chg hc203 (D195).symm
      replace hB := hB.inS hc203 (inLow G173)
      replace hZ := Nat.le_trans hZ hc203.size
      refine wS_pure 1 [(6, .slice A200 (l157 ++ (([(y185.1, y185.2.1, y185.2.2.1, y185.2.2.2, 0)] : List (Int × Int × Int × Int × Int)))).length cap201)] (by kernel_rfl) ?_
      refine wS_end (by rfl) ?_
      refine eX_then ?_
      refine cW_region ?_
      refine wS_pure 1 [(30, .slice A163 (l162).length cap164)] (by kernel_rfl) ?_
      refine wS_bs (enc := encI) ([0] : List (Int)) [.int .i64 (0)] (d := 31) (t := 68) (T := 2) (n := 1) (ps := [(0, .int .i64 (0))]) (by kernel_rfl) el68 encI_ok (by rfl) (by omega) (by omega) (by kernel_rfl) (by rfl) ?_
      intro b209 w210 G211 F212 hc213
      have D215 : Dj fp165 [b209] := Dj.of F172.low (low1 G211)
      have D216 : Dj [b189] [b209] := Dj.of F192.low (low1 G211)
      have D217 : Dj fp199 [b209] := Dj.of F202.low (low1 G211)
      replace F169 := F169.chg hc213 Dj.nil
      replace F170 := F170.chg hc213 Dj.nil
      replace F172 := F172.chg hc213 Dj.nil
      replace F192 := F192.chg hc213 Dj.nil
      replace F202 := F202.chg hc213 Dj.nil
      replace hB := hB.inS hc213 inNil
      replace G211 := Nat.le_trans hZ G211
      replace G211 := low1 G211
      replace hZ := Nat.le_trans hZ hc213.size
      obtain ⟨_, hk218, hm⟩ := bindE hm
      replace hk218 := apE hk218
      refine wS_append (enc := encI) (l := (l162 : List (Int))) (l2 := (([0] : List (Int)) : List (Int))) (d := 32) (t := 68) (T := 2) (A := A163) (A2 := (some ⟨b209, 0, none⟩)) (cap := cap164) (cap2 := 1) (by kernel_rfl) el68 encI_ok F172 (F212.sl encI_ok) (by rfl) hk218 ?_
      intro w219 fp220 A221 cap222 F223 hc224 hp225
      have G227 := low_ap G174 hZ hp225
      have D228 : Dj [b189] fp220 := Dj.ap (D196).symm F192.low hp225
      have D229 : Dj fp199 fp220 := Dj.ap (D207).symm F202.low hp225
      have D230 : Dj [b209] fp220 := Dj.ap (D215).symm F212.low hp225
      replace F169 := F169.chg hc224 (Dj.of L0 G174)
      replace F170 := F170.chg hc224 (Dj.of L1 G174)
      replace F192 := F192.chg hc224 (D196).symm
      replace F202 := F202.chg hc224 (D207).symm
      replace F212 := F212.chg hc224 (D215).symm
      replace hB := hB.inS hc224 (inLow G174)
      replace hZ := Nat.le_trans hZ hc224.size
      refine wS_pure 1 [(7, .slice A221 (l162 ++ (([0] : List (Int)))).length cap222)] (by kernel_rfl) ?_
      refine wS_end (by rfl) ?_
      refine eX_block ?_
      refine eX_then ?_
      refine cW_region ?_
      refine wS_pure 3 [(8, .int .i64 (wr (x167 + 1))), (20, .int .i64 (wr (x167 + 1))), (19, .int .i64 (x167))] (by kernel_rfl) ?_
      refine wS_end (by rfl) ?_
      have hq : (some (Ctl.next ((l157 ++ (([(y185.1, y185.2.1, y185.2.2.1, y185.2.2.2, 0)] : List (Int × Int × Int × Int × Int))), l162 ++ (([0] : List (Int))), wr (x167 + 1)))) : Option (Ctl ((List (Int × Int × Int × Int × Int)) × (List (Int)) × Int) ((List (Int × Int × Int × Int × Int)) × (List (Int))))) = some _ := hm
      replace hq := someE hq
      subst hq
      exact eX_next hx181 (fun hst => ⟨l157 ++ (([(y185.1, y185.2.1, y185.2.2.1, y185.2.2.2, 0)] : List (Int × Int × Int × Int × Int))), A200, cap201, fp199, l162 ++ (([0] : List (Int))), A221, cap222, fp220, wr (x167 + 1), rfl, Fr.of hst (by kernel_rfl), F169, F170, F202, F223, G206, G227, (D229).symm, hB, hZ⟩)
    · have hm := condF hb182 hm
      refine cW_exit ?_
      refine eX_then_exit ?_
      have hq : (some (Ctl.out ((l157, l162))) : Option (Ctl ((List (Int × Int × Int × Int × Int)) × (List (Int)) × Int) ((List (Int × Int × Int × Int × Int)) × (List (Int))))) = some _ := hm
      replace hq := someE hq
      subst hq
      refine eX_outX hx181 (fun hr231 => ?_)
      replace hr231 := hr231.symm
      subst hr231
      refine eX_block_hit ?_
      exact eX_J (fun hst => ⟨l157, A158, cap159, fp160, l162, A163, cap164, fp165, rfl, Fr.of hst (by kernel_rfl), F170, F171, F172, G173, G174, D175, hB, hZ⟩)
  · rintro a' w138 ⟨l139, A140, cap141, fp142, l144, A145, cap146, fp147, hJ, hF149, F150, F151, F152, G153, G154, D155, hB, hZ⟩
    subst hJ
    refine Fr.goX hF149 (by kernel_rfl) ?_
    refine eX_then ?_
    refine cW_seq ?_
    refine cW_seq ?_
    refine cW_region ?_
    refine wS_pure 1 [(9, .int .i64 (0))] (by kernel_rfl) ?_
    refine wS_end (by rfl) ?_
    refine eX_then ?_
    obtain ⟨r836, hr837, hm⟩ := bindE hm
    have hm838 := hm
    refine cW_cut (fun a' w' => ∃ l801 : List (Int × Int × Int × Int × Int), ∃ A802 : Option Addr, ∃ cap803 : Nat, ∃ fp804 : List Nat, ∃ l806 : List (Int), ∃ A807 : Option Addr, ∃ cap808 : Nat, ∃ fp809 : List Nat, (l801, l806) = r836 ∧ Fr 89 [(6, .slice A802 (l801).length cap803), (7, .slice A807 (l806).length cap808)] a' ∧ Ow 5 encIIIII 52 w' fp804 A802 cap803 l801 ∧ Ow 1 encI 2 w' fp809 A807 cap808 l806 ∧ (∀ x ∈ fp804, w0.heap.size ≤ x) ∧ (∀ x ∈ fp809, w0.heap.size ≤ x) ∧ Dj fp809 fp804 ∧ Chg [] w0 w' ∧ w0.heap.size ≤ w'.heap.size) ?_ ?_
    · refine cW_block ?_
      refine cW_loop _ (fun (s839 : (List (Int × Int × Int × Int × Int)) × (List (Int)) × Int) a' w' => ∃ l818 : List (Int × Int × Int × Int × Int), ∃ A819 : Option Addr, ∃ cap820 : Nat, ∃ fp821 : List Nat, ∃ l823 : List (Int), ∃ A824 : Option Addr, ∃ cap825 : Nat, ∃ fp826 : List Nat, ∃ x828 : Int, (l818, l823, x828) = s839 ∧ Fr 89 [(1, .slice A1 (l1).length cap1), (6, .slice A819 (l818).length cap820), (7, .slice A824 (l823).length cap825), (9, .int .i64 (x828))] a' ∧ SlR 1 encI w' fp1 A1 l1 ∧ Ow 5 encIIIII 52 w' fp821 A819 cap820 l818 ∧ Ow 1 encI 2 w' fp826 A824 cap825 l823 ∧ (∀ x ∈ fp821, w0.heap.size ≤ x) ∧ (∀ x ∈ fp826, w0.heap.size ≤ x) ∧ Dj fp826 fp821 ∧ Chg [] w0 w' ∧ w0.heap.size ≤ w'.heap.size) hr837 (fun hst => ⟨l139, A140, cap141, fp142, l144, A145, cap146, fp147, 0, rfl, Fr.of hst (by kernel_rfl), F150, F151, F152, G153, G154, D155, hB, hZ⟩) ?_
      rintro _ c840 a' w817 ⟨l818, A819, cap820, fp821, l823, A824, cap825, fp826, x828, rfl, hF829, F830, F831, F832, G833, G834, D835, hB, hZ⟩ hx841
      refine Fr.goOn hF829 (by kernel_rfl) ?_
      have hm := hx841
      unfold m_spec_l06Tree_s2 at hm
      refine cW_seq ?_
      refine cW_seq ?_
      refine cW_region ?_
      refine wS_pure 4 [(36, .bool (decide (x828 < (((l1).length : Int))))), (35, .int .i64 (((l1).length : Int))), (34, .slice A1 (l1).length cap1), (33, .int .i64 (x828))] (by kernel_rfl) ?_
      refine wS_end (by rfl) ?_
      refine eX_then ?_
      refine cW_cond (t := decide (x828 < (((l1).length : Int)))) (by kernel_rfl) (fun hb842 => ?_) (fun hb842 => ?_)
      · have hm := condT hb842 hm
        refine cW_skip ?_
        refine eX_then ?_
        refine cW_seq ?_
        refine cW_block ?_
        refine cW_seq ?_
        obtain ⟨s979, hs980, hm⟩ := bindE hm
        refine cW_cut (fun a' w' => ∃ b962 : Nat, ∃ x963 : Int, ∃ x964 : Int, ∃ x965 : Int, ∃ x966 : Int, ∃ x967 : Int, ∃ x969 : Int, ∃ x970 : Int, (x963, x964, x965, x966, x967, x969, x970) = s979 ∧ Fr 89 [(1, .slice A1 (l1).length cap1), (6, .slice A819 (l818).length cap820), (7, .slice A824 (l823).length cap825), (9, .int .i64 (x828)), (10, .pointer (some ⟨b962, 0, none⟩)), (11, .int .i64 (x969)), (12, .int .i64 (x970))] a' ∧ SlR 1 encI w' fp1 A1 l1 ∧ Ow 5 encIIIII 52 w' fp821 A819 cap820 l818 ∧ Ow 1 encI 2 w' fp826 A824 cap825 l823 ∧ Cl w' b962 52 [.int .i64 (x963), .int .i64 (x964), .int .i64 (x965), .int .i64 (x966), .int .i64 (x967)] ∧ w0.heap.size ≤ b962 ∧ Dj fp821 [b962] ∧ Dj fp826 [b962] ∧ Chg [] w0 w' ∧ w0.heap.size ≤ w'.heap.size) ?_ ?_
        · have hm := hs980
          refine cW_drawnTail [] 26 (by kernel_rfl) (by kernel_rfl) (fun w981 hc982 => ?_)
          replace F830 := F830.chg hc982 Dj.nil
          replace F831 := F831.chg hc982 Dj.nil
          replace F832 := F832.chg hc982 Dj.nil
          replace hB := hB.inS hc982 inNil
          replace hZ := Nat.le_trans hZ hc982.size
          have hS := Chg.refl [] w981
          have Z983 := F830
          have Z984 := F831
          have Z985 := F832
          refine wH_take [0, 1, 2] [2, 1, 0] [(42, .int .i64 (x828)), (41, .slice A1 (l1).length cap1), (40, .slice A819 (l818).length cap820)] (by kernel_rfl) (qT (qT (qT (qB (qT (qL (qB (qT (qT qZ))))))))) (by kernel_rfl) ?_
          obtain ⟨x986, hx987, hm⟩ := bindE hm
          refine wH_idx (i := 3) (d := 43) (T := 44) (A := A1) (n := (l1).length) (cap := cap1) (kd := .i64) (m := x828) (by kernel_rfl) (qT (qT (qT (qB (qT (qL (qB (qT (qT qZ))))))))) (by kernel_rfl) (by kernel_rfl) sl44 (F830.is hx987) ?_
          obtain ⟨A988, cap989, hc991, F990⟩ := SlR.row Z983 hx987
          refine wH_load1 (i := 4) (d := 44) (T := 68) (ad := (elA A1 1 (x828) 0)) (v := .slice A988 (x986).length cap989) (by kernel_rfl) (qT (qT (qT (qB (qT (qL (qB (qT (qT qZ))))))))) (by kernel_rfl) (by kernel_rfl) vt68 (fun W hW => hW.keep hc991) ?_
          obtain ⟨x993, hx994, hm⟩ := bindE hm
          refine wH_idx (i := 5) (d := 45) (T := 68) (A := A988) (n := (x986).length) (cap := cap989) (kd := .i64) (m := 0) (by kernel_rfl) (qT (qT (qT (qB (qT (qL (qB (qT (qT qZ))))))))) (by kernel_rfl) (by kernel_rfl) sl68 (F990.is hx994) ?_
          refine wH_load1 (i := 6) (d := 46) (T := 2) (ad := (elA A988 1 (0) 0)) (v := .int .i64 (x993)) (by kernel_rfl) (qT (qT (qT (qB (qT (qL (qB (qT (qT qZ))))))))) (by kernel_rfl) (by kernel_rfl) vt2 (fun W hW => Sl.cell (F990.chg hW Dj.nil) hx994 0 (by rfl)) ?_
          obtain ⟨x995, hx996, hm⟩ := bindE hm
          refine wH_idx (i := 7) (d := 47) (T := 75) (A := A819) (n := (l818).length) (cap := cap820) (kd := .i64) (m := x993) (by kernel_rfl) (qT (qT (qT (qB (qT (qL (qB (qT (qT qZ))))))))) (by kernel_rfl) (by kernel_rfl) sl75 ((F831.sl encIIIII_ok).is hx996) ?_
          refine wH_loadA (i := 8) (d := 48) (T := 52) (ad := (elA A819 5 (x993) 0)) (vs := [.int .i64 (x995.1), .int .i64 (x995.2.1), .int .i64 (x995.2.2.1), .int .i64 (x995.2.2.2.1), .int .i64 (x995.2.2.2.2)]) (by kernel_rfl) (qT (qT (qT (qB (qT (qL (qB (qT (qT qZ))))))))) (by kernel_rfl) (by kernel_rfl) vt52 (fun W hW i u hu => Sl.cells_at ((Z984.chg hW Dj.nil).sl encIIIII_ok) hx996 0 hu (by rfl)) ?_
          refine wH_take [9, 10, 11] [11, 10, 9, 8, 7, 6, 5, 4, 3, 2, 1, 0] [(51, .int .i64 (x828)), (50, .slice A1 (l1).length cap1), (49, .slice A819 (l818).length cap820)] (by kernel_rfl) (qT (qT (qT (qB (qT (qL (qB (qT (qT qZ))))))))) (by kernel_rfl) ?_
          obtain ⟨x997, hx998, hm⟩ := bindE hm
          refine wH_idx (i := 12) (d := 52) (T := 44) (A := A1) (n := (l1).length) (cap := cap1) (kd := .i64) (m := x828) (by kernel_rfl) (qT (qT (qT (qB (qT (qL (qB (qT (qT qZ))))))))) (by kernel_rfl) (by kernel_rfl) sl44 (F830.is hx998) ?_
          obtain ⟨A999, cap1000, hc1002, F1001⟩ := SlR.row Z983 hx998
          refine wH_load1 (i := 13) (d := 53) (T := 68) (ad := (elA A1 1 (x828) 0)) (v := .slice A999 (x997).length cap1000) (by kernel_rfl) (qT (qT (qT (qB (qT (qL (qB (qT (qT qZ))))))))) (by kernel_rfl) (by kernel_rfl) vt68 (fun W hW => hW.keep hc1002) ?_
          obtain ⟨x1004, hx1005, hm⟩ := bindE hm
          refine wH_idx (i := 14) (d := 54) (T := 68) (A := A999) (n := (x997).length) (cap := cap1000) (kd := .i64) (m := 1) (by kernel_rfl) (qT (qT (qT (qB (qT (qL (qB (qT (qT qZ))))))))) (by kernel_rfl) (by kernel_rfl) sl68 (F1001.is hx1005) ?_
          refine wH_load1 (i := 15) (d := 55) (T := 2) (ad := (elA A999 1 (1) 0)) (v := .int .i64 (x1004)) (by kernel_rfl) (qT (qT (qT (qB (qT (qL (qB (qT (qT qZ))))))))) (by kernel_rfl) (by kernel_rfl) vt2 (fun W hW => Sl.cell (F1001.chg hW Dj.nil) hx1005 0 (by rfl)) ?_
          obtain ⟨x1006, hx1007, hm⟩ := bindE hm
          refine wH_idx (i := 16) (d := 56) (T := 75) (A := A819) (n := (l818).length) (cap := cap820) (kd := .i64) (m := x1004) (by kernel_rfl) (qT (qT (qT (qB (qT (qL (qB (qT (qT qZ))))))))) (by kernel_rfl) (by kernel_rfl) sl75 ((F831.sl encIIIII_ok).is hx1007) ?_
          refine wH_loadA (i := 17) (d := 57) (T := 52) (ad := (elA A819 5 (x1004) 0)) (vs := [.int .i64 (x1006.1), .int .i64 (x1006.2.1), .int .i64 (x1006.2.2.1), .int .i64 (x1006.2.2.2.1), .int .i64 (x1006.2.2.2.2)]) (by kernel_rfl) (qT (qT (qT (qB (qT (qL (qB (qT (qT qZ))))))))) (by kernel_rfl) (by kernel_rfl) vt52 (fun W hW i u hu => Sl.cells_at ((Z984.chg hW Dj.nil).sl encIIIII_ok) hx1007 0 hu (by rfl)) ?_
          refine wH_all [18, 23] (by rfl) (by kernel_rfl) (by simp) ⟨⟨by kernel_rfl, ?_⟩, ⟨by kernel_rfl, ?_⟩, trivial⟩
          · skip
            obtain ⟨y1008, hy1009, hm⟩ := bindE hm
            refine wS_calls (d := 58) (f := 103) (vs := [.agg #[.int .i64 (x995.1), .int .i64 (x995.2.1), .int .i64 (x995.2.2.1), .int .i64 (x995.2.2.2.1), .int .i64 (x995.2.2.2.2)], .agg #[.int .i64 (x1006.1), .int .i64 (x1006.2.1), .int .i64 (x1006.2.2.1), .int .i64 (x1006.2.2.2.1), .int .i64 (x1006.2.2.2.2)]]) (by kernel_rfl) ent103 (c_spec_l06Pair hy1009) ?_
            rintro _ w1010 ⟨rfl, hc1011⟩
            replace F830 := F830.chg hc1011 Dj.nil
            replace F831 := F831.chg hc1011 Dj.nil
            replace F832 := F832.chg hc1011 Dj.nil
            replace F990 := F990.chg hc1011 Dj.nil
            replace F1001 := F1001.chg hc1011 Dj.nil
            replace hB := hB.inS hc1011 inNil
            have hSz := hS
            replace hS := hS.inS hc1011 inNil
            replace hZ := Nat.le_trans hZ hc1011.size
            refine ⟨.tuple #[.agg #[.int .i64 (y1008.1.1), .int .i64 (y1008.1.2.1), .int .i64 (y1008.1.2.2.1), .int .i64 (y1008.1.2.2.2.1), .int .i64 (y1008.1.2.2.2.2)], .int .i64 (y1008.2.1), .int .i64 (y1008.2.2)], rfl, ?_⟩
            refine wS_end (by kernel_rfl) ?_
            refine eX_KH hS ?_
            refine wH_take [19, 20, 21, 22] [22, 21, 20, 19, 18, 17, 16, 15, 14, 13, 12, 11, 10, 9, 8, 7, 6, 5, 4, 3, 2, 1, 0] [(61, .int .i64 (y1008.2.2)), (60, .int .i64 (y1008.2.1)), (59, .agg #[.int .i64 (y1008.1.1), .int .i64 (y1008.1.2.1), .int .i64 (y1008.1.2.2.1), .int .i64 (y1008.1.2.2.2.1), .int .i64 (y1008.1.2.2.2.2)]), (39, .tuple #[.agg #[.int .i64 (y1008.1.1), .int .i64 (y1008.1.2.1), .int .i64 (y1008.1.2.2.1), .int .i64 (y1008.1.2.2.2.1), .int .i64 (y1008.1.2.2.2.2)], .int .i64 (y1008.2.1), .int .i64 (y1008.2.2)])] (by kernel_rfl) (qT (qT (qT (qB (qT (qL (qB (qT (qT qZ))))))))) (by kernel_rfl) ?_
            refine wH_all [23] (by rfl) (by kernel_rfl) (by simp) ⟨⟨by kernel_rfl, ?_⟩, trivial⟩
            refine wS_alloc (d := 10) (T := 52) (z := .agg #[.int .i64 (0), .int .i64 (0), .int .i64 (0), .int .i64 (0), .int .i64 (0)]) (by kernel_rfl) (by kernel_rfl) ?_
            intro b1012 w1013 G1014 F1015 hc1016
            replace F1015 : Cl w1013 b1012 52 [.int .i64 (0), .int .i64 (0), .int .i64 (0), .int .i64 (0), .int .i64 (0)] := F1015
            have D1018 : Dj fp821 [b1012] := Dj.of F831.low (low1 G1014)
            have D1019 : Dj fp826 [b1012] := Dj.of F832.low (low1 G1014)
            replace F830 := F830.chg hc1016 Dj.nil
            replace F831 := F831.chg hc1016 Dj.nil
            replace F832 := F832.chg hc1016 Dj.nil
            replace F990 := F990.chg hc1016 Dj.nil
            replace F1001 := F1001.chg hc1016 Dj.nil
            replace hB := hB.inS hc1016 inNil
            have hSz := hS
            replace hS := hS.inS hc1016 inNil
            have Gz1020 := low1 (Nat.le_trans hSz.size G1014)
            replace G1014 := Nat.le_trans hZ G1014
            replace hZ := Nat.le_trans hZ hc1016.size
            refine wS_end (by kernel_rfl) ?_
            refine eX_KH hS ?_
            refine wH_all [24] (by rfl) (by kernel_rfl) (by simp) ⟨⟨by kernel_rfl, ?_⟩, trivial⟩
            refine wS_store (T := 52) (g := b1012) (o := 0) (ad := ⟨b1012, 0, none⟩) (v := .agg #[.int .i64 (y1008.1.1), .int .i64 (y1008.1.2.1), .int .i64 (y1008.1.2.2.1), .int .i64 (y1008.1.2.2.2.1), .int .i64 (y1008.1.2.2.2.2)]) (vs := [.int .i64 (y1008.1.1), .int .i64 (y1008.1.2.1), .int .i64 (y1008.1.2.2.1), .int .i64 (y1008.1.2.2.2.1), .int .i64 (y1008.1.2.2.2.2)]) (by kernel_rfl) (by rfl) sz52 (by rfl) (by rfl) F1015 (by simp only [List.length_cons, List.length_nil]; omega) ?_
            intro w1021 F1022 hc1023
            replace F830 := F830.chg hc1023 (Dj.of L1 (low1 G1014))
            replace F831 := F831.chg hc1023 D1018
            replace F832 := F832.chg hc1023 D1019
            replace F990 := F990.chg hc1023 (Dj.of L1 (low1 G1014))
            replace F1001 := F1001.chg hc1023 (Dj.of L1 (low1 G1014))
            replace hB := hB.inS hc1023 (inLow (low1 G1014))
            have hSz := hS
            replace hS := hS.inS hc1023 (inLow Gz1020)
            replace hZ := Nat.le_trans hZ hc1023.size
            replace F1022 : Cl w1021 b1012 52 [.int .i64 (y1008.1.1), .int .i64 (y1008.1.2.1), .int .i64 (y1008.1.2.2.1), .int .i64 (y1008.1.2.2.2.1), .int .i64 (y1008.1.2.2.2.2)] := F1022
            clear F1015
            refine wS_end (by kernel_rfl) ?_
            refine eX_KH hS ?_
            refine wH_take [25] [25, 24, 23, 22, 21, 20, 19, 18, 17, 16, 15, 14, 13, 12, 11, 10, 9, 8, 7, 6, 5, 4, 3, 2, 1, 0] [(11, .int .i64 (y1008.2.1))] (by kernel_rfl) (qT (qT (qT (qB (qT (qL (qB (qT (qT qZ))))))))) (by kernel_rfl) ?_
            refine wH_done (by kernel_rfl) ?_
            refine eX_tail ?_
            refine wS_pure 1 [(12, .int .i64 (y1008.2.2))] (by kernel_rfl) ?_
            refine wS_end (by rfl) ?_
            have hq : (some ((y1008.1.1, y1008.1.2.1, y1008.1.2.2.1, y1008.1.2.2.2.1, y1008.1.2.2.2.2, y1008.2.1, y1008.2.2)) : Option (Int × Int × Int × Int × Int × Int × Int)) = some _ := hm
            replace hq := someE hq
            subst hq
            exact eX_J (fun hst => ⟨b1012, y1008.1.1, y1008.1.2.1, y1008.1.2.2.1, y1008.1.2.2.2.1, y1008.1.2.2.2.2, y1008.2.1, y1008.2.2, rfl, Fr.of hst (by kernel_rfl), F830, F831, F832, F1022, G1014, D1018, D1019, hB, hZ⟩)
          · skip
            refine wS_alloc (d := 10) (T := 52) (z := .agg #[.int .i64 (0), .int .i64 (0), .int .i64 (0), .int .i64 (0), .int .i64 (0)]) (by kernel_rfl) (by kernel_rfl) ?_
            intro b1024 w1025 G1026 F1027 hc1028
            replace F1027 : Cl w1025 b1024 52 [.int .i64 (0), .int .i64 (0), .int .i64 (0), .int .i64 (0), .int .i64 (0)] := F1027
            have D1030 : Dj fp821 [b1024] := Dj.of F831.low (low1 G1026)
            have D1031 : Dj fp826 [b1024] := Dj.of F832.low (low1 G1026)
            replace F830 := F830.chg hc1028 Dj.nil
            replace F831 := F831.chg hc1028 Dj.nil
            replace F832 := F832.chg hc1028 Dj.nil
            replace F990 := F990.chg hc1028 Dj.nil
            replace F1001 := F1001.chg hc1028 Dj.nil
            replace hB := hB.inS hc1028 inNil
            have hSz := hS
            replace hS := hS.inS hc1028 inNil
            have Gz1032 := low1 (Nat.le_trans hSz.size G1026)
            replace G1026 := Nat.le_trans hZ G1026
            replace hZ := Nat.le_trans hZ hc1028.size
            refine wS_end (by kernel_rfl) ?_
            refine eX_KH hS ?_
            refine wH_all [18] (by rfl) (by kernel_rfl) (by simp) ⟨⟨by kernel_rfl, ?_⟩, trivial⟩
            obtain ⟨y1033, hy1034, hm⟩ := bindE hm
            refine wS_calls (d := 58) (f := 103) (vs := [.agg #[.int .i64 (x995.1), .int .i64 (x995.2.1), .int .i64 (x995.2.2.1), .int .i64 (x995.2.2.2.1), .int .i64 (x995.2.2.2.2)], .agg #[.int .i64 (x1006.1), .int .i64 (x1006.2.1), .int .i64 (x1006.2.2.1), .int .i64 (x1006.2.2.2.1), .int .i64 (x1006.2.2.2.2)]]) (by kernel_rfl) ent103 (c_spec_l06Pair hy1034) ?_
            rintro _ w1035 ⟨rfl, hc1036⟩
            replace F830 := F830.chg hc1036 Dj.nil
            replace F831 := F831.chg hc1036 Dj.nil
            replace F832 := F832.chg hc1036 Dj.nil
            replace F990 := F990.chg hc1036 Dj.nil
            replace F1001 := F1001.chg hc1036 Dj.nil
            replace F1027 := F1027.chg hc1036 notNil
            replace hB := hB.inS hc1036 inNil
            have hSz := hS
            replace hS := hS.inS hc1036 inNil
            replace hZ := Nat.le_trans hZ hc1036.size
            refine ⟨.tuple #[.agg #[.int .i64 (y1033.1.1), .int .i64 (y1033.1.2.1), .int .i64 (y1033.1.2.2.1), .int .i64 (y1033.1.2.2.2.1), .int .i64 (y1033.1.2.2.2.2)], .int .i64 (y1033.2.1), .int .i64 (y1033.2.2)], rfl, ?_⟩
            refine wS_end (by kernel_rfl) ?_
            refine eX_KH hS ?_
            refine wH_take [19, 20, 21, 22] [22, 21, 20, 19, 18, 23, 17, 16, 15, 14, 13, 12, 11, 10, 9, 8, 7, 6, 5, 4, 3, 2, 1, 0] [(61, .int .i64 (y1033.2.2)), (60, .int .i64 (y1033.2.1)), (59, .agg #[.int .i64 (y1033.1.1), .int .i64 (y1033.1.2.1), .int .i64 (y1033.1.2.2.1), .int .i64 (y1033.1.2.2.2.1), .int .i64 (y1033.1.2.2.2.2)]), (39, .tuple #[.agg #[.int .i64 (y1033.1.1), .int .i64 (y1033.1.2.1), .int .i64 (y1033.1.2.2.1), .int .i64 (y1033.1.2.2.2.1), .int .i64 (y1033.1.2.2.2.2)], .int .i64 (y1033.2.1), .int .i64 (y1033.2.2)])] (by kernel_rfl) (qT (qT (qT (qB (qT (qL (qB (qT (qT qZ))))))))) (by kernel_rfl) ?_
            refine wH_all [24] (by rfl) (by kernel_rfl) (by simp) ⟨⟨by kernel_rfl, ?_⟩, trivial⟩
            refine wS_store (T := 52) (g := b1024) (o := 0) (ad := ⟨b1024, 0, none⟩) (v := .agg #[.int .i64 (y1033.1.1), .int .i64 (y1033.1.2.1), .int .i64 (y1033.1.2.2.1), .int .i64 (y1033.1.2.2.2.1), .int .i64 (y1033.1.2.2.2.2)]) (vs := [.int .i64 (y1033.1.1), .int .i64 (y1033.1.2.1), .int .i64 (y1033.1.2.2.1), .int .i64 (y1033.1.2.2.2.1), .int .i64 (y1033.1.2.2.2.2)]) (by kernel_rfl) (by rfl) sz52 (by rfl) (by rfl) F1027 (by simp only [List.length_cons, List.length_nil]; omega) ?_
            intro w1037 F1038 hc1039
            replace F830 := F830.chg hc1039 (Dj.of L1 (low1 G1026))
            replace F831 := F831.chg hc1039 D1030
            replace F832 := F832.chg hc1039 D1031
            replace F990 := F990.chg hc1039 (Dj.of L1 (low1 G1026))
            replace F1001 := F1001.chg hc1039 (Dj.of L1 (low1 G1026))
            replace hB := hB.inS hc1039 (inLow (low1 G1026))
            have hSz := hS
            replace hS := hS.inS hc1039 (inLow Gz1032)
            replace hZ := Nat.le_trans hZ hc1039.size
            replace F1038 : Cl w1037 b1024 52 [.int .i64 (y1033.1.1), .int .i64 (y1033.1.2.1), .int .i64 (y1033.1.2.2.1), .int .i64 (y1033.1.2.2.2.1), .int .i64 (y1033.1.2.2.2.2)] := F1038
            clear F1027
            refine wS_end (by kernel_rfl) ?_
            refine eX_KH hS ?_
            refine wH_take [25] [25, 24, 22, 21, 20, 19, 18, 23, 17, 16, 15, 14, 13, 12, 11, 10, 9, 8, 7, 6, 5, 4, 3, 2, 1, 0] [(11, .int .i64 (y1033.2.1))] (by kernel_rfl) (qT (qT (qT (qB (qT (qL (qB (qT (qT qZ))))))))) (by kernel_rfl) ?_
            refine wH_done (by kernel_rfl) ?_
            refine eX_tail ?_
            refine wS_pure 1 [(12, .int .i64 (y1033.2.2))] (by kernel_rfl) ?_
            refine wS_end (by rfl) ?_
            have hq : (some ((y1033.1.1, y1033.1.2.1, y1033.1.2.2.1, y1033.1.2.2.2.1, y1033.1.2.2.2.2, y1033.2.1, y1033.2.2)) : Option (Int × Int × Int × Int × Int × Int × Int)) = some _ := hm
            replace hq := someE hq
            subst hq
            exact eX_J (fun hst => ⟨b1024, y1033.1.1, y1033.1.2.1, y1033.1.2.2.1, y1033.1.2.2.2.1, y1033.1.2.2.2.2, y1033.2.1, y1033.2.2, rfl, Fr.of hst (by kernel_rfl), F830, F831, F832, F1038, G1026, D1030, D1031, hB, hZ⟩)
        · rintro a' w961 ⟨b962, x963, x964, x965, x966, x967, x969, x970, hJ, hF971, F972, F973, F974, F975, G976, D977, D978, hB, hZ⟩
          subst hJ
          refine Fr.goX hF971 (by kernel_rfl) ?_
          refine eX_then ?_
          refine cW_seq ?_
          refine cW_region ?_
          refine wS_pure 3 [(64, .int .i64 (x828)), (63, .slice A1 (l1).length cap1), (62, .slice A824 (l823).length cap825)] (by kernel_rfl) ?_
          obtain ⟨x1040, hx1041, hm⟩ := bindE hm
          refine wS_idx (d := 65) (T := 44) (A := A1) (n := (l1).length) (cap := cap1) (kd := .i64) (m := x828) (by kernel_rfl) sl44 (F972.is hx1041) ?_
          obtain ⟨A1042, cap1043, hc1045, F1044⟩ := SlR.row F972 hx1041
          refine wS_load1 (d := 66) (T := 68) (ad := (elA A1 1 (x828) 0)) (v := .slice A1042 (x1040).length cap1043) (by kernel_rfl) vt68 hc1045 ?_
          obtain ⟨x1047, hx1048, hm⟩ := bindE hm
          refine wS_idx (d := 67) (T := 68) (A := A1042) (n := (x1040).length) (cap := cap1043) (kd := .i64) (m := 0) (by kernel_rfl) sl68 (F1044.is hx1048) ?_
          refine wS_load1 (d := 68) (T := 2) (ad := (elA A1042 1 (0) 0)) (v := .int .i64 (x1047)) (by kernel_rfl) vt2 (Sl.cell F1044 hx1048 0 (by rfl)) ?_
          refine wS_pure 1 [(69, .int .i64 (x969))] (by kernel_rfl) ?_
          obtain ⟨x1049, hx1050, hm⟩ := bindE hm
          refine wS_idx (d := 70) (T := 68) (A := A824) (n := (l823).length) (cap := cap825) (kd := .i64) (m := x1047) (by kernel_rfl) sl68 ((F974.sl encI_ok).is hx1050) ?_
          refine wS_storeEl (x := x1049) x969 (T := 2) (U := 2) (cap := cap825) (j := 0) (A := A824) (v := .int .i64 (x969)) (vs := [.int .i64 (x969)]) (m := x1047) (by kernel_rfl) (by rfl) sz2 (by rfl) encI_ok F974 hx1050 (by simp only [List.length_cons, List.length_nil]; omega) (by rfl) ?_
          intro w1051 F1052 hc1053
          replace F972 := F972.chg hc1053 (Dj.of L1 G834)
          replace F973 := F973.chg hc1053 (D835).symm
          replace F975 := F975.chg hc1053 (dj1 (D978).symm)
          replace F1044 := F1044.chg hc1053 (Dj.of L1 G834)
          replace hB := hB.inS hc1053 (inLow G834)
          replace hZ := Nat.le_trans hZ hc1053.size
          clear F974
          rewrite [show (l823).length = (l823.set (Int.toNat x1047) x969).length from (List.length_set ..).symm]
          refine wS_end (by rfl) ?_
          refine eX_then ?_
          refine cW_seq ?_
          refine cW_region ?_
          refine wS_pure 3 [(73, .int .i64 (x828)), (72, .slice A1 (l1).length cap1), (71, .slice A824 (l823.set (Int.toNat x1047) x969).length cap825)] (by kernel_rfl) ?_
          obtain ⟨x1054, hx1055, hm⟩ := bindE hm
          refine wS_idx (d := 74) (T := 44) (A := A1) (n := (l1).length) (cap := cap1) (kd := .i64) (m := x828) (by kernel_rfl) sl44 (F972.is hx1055) ?_
          obtain ⟨A1056, cap1057, hc1059, F1058⟩ := SlR.row F972 hx1055
          refine wS_load1 (d := 75) (T := 68) (ad := (elA A1 1 (x828) 0)) (v := .slice A1056 (x1054).length cap1057) (by kernel_rfl) vt68 hc1059 ?_
          obtain ⟨x1061, hx1062, hm⟩ := bindE hm
          refine wS_idx (d := 76) (T := 68) (A := A1056) (n := (x1054).length) (cap := cap1057) (kd := .i64) (m := 1) (by kernel_rfl) sl68 (F1058.is hx1062) ?_
          refine wS_load1 (d := 77) (T := 2) (ad := (elA A1056 1 (1) 0)) (v := .int .i64 (x1061)) (by kernel_rfl) vt2 (Sl.cell F1058 hx1062 0 (by rfl)) ?_
          refine wS_pure 1 [(78, .int .i64 (x970))] (by kernel_rfl) ?_
          obtain ⟨x1063, hx1064, hm⟩ := bindE hm
          refine wS_idx (d := 79) (T := 68) (A := A824) (n := (l823.set (Int.toNat x1047) x969).length) (cap := cap825) (kd := .i64) (m := x1061) (by kernel_rfl) sl68 ((F1052.sl encI_ok).is hx1064) ?_
          refine wS_storeEl (x := x1063) x970 (T := 2) (U := 2) (cap := cap825) (j := 0) (A := A824) (v := .int .i64 (x970)) (vs := [.int .i64 (x970)]) (m := x1061) (by kernel_rfl) (by rfl) sz2 (by rfl) encI_ok F1052 hx1064 (by simp only [List.length_cons, List.length_nil]; omega) (by rfl) ?_
          intro w1065 F1066 hc1067
          replace F972 := F972.chg hc1067 (Dj.of L1 G834)
          replace F973 := F973.chg hc1067 (D835).symm
          replace F975 := F975.chg hc1067 (dj1 (D978).symm)
          replace F1044 := F1044.chg hc1067 (Dj.of L1 G834)
          replace F1058 := F1058.chg hc1067 (Dj.of L1 G834)
          replace hB := hB.inS hc1067 (inLow G834)
          replace hZ := Nat.le_trans hZ hc1067.size
          clear F1052
          rewrite [show (l823.set (Int.toNat x1047) x969).length = ((l823.set (Int.toNat x1047) x969).set (Int.toNat x1061) x970).length from (List.length_set ..).symm]
          refine wS_end (by rfl) ?_
          refine eX_then ?_
          refine cW_prune [(1, .slice A1 (l1).length cap1), (6, .slice A819 (l818).length cap820), (7, .slice A824 ((l823.set (Int.toNat x1047) x969).set (Int.toNat x1061) x970).length cap825), (9, .int .i64 (x828)), (10, .pointer (some ⟨b962, 0, none⟩))] (by kernel_rfl) (by kernel_rfl) (fun a1068 => ?_)
          refine cW_seq ?_
          refine cW_region ?_
          refine wS_pure 1 [(80, .slice A819 (l818).length cap820)] (by kernel_rfl) ?_
          refine wS_loadA (d := 81) (T := 52) (ad := ⟨b962, 0, none⟩) (vs := [.int .i64 (x963), .int .i64 (x964), .int .i64 (x965), .int .i64 (x966), .int .i64 (x967)]) (by kernel_rfl) vt52 (fun i u hu => box_cells F975 0 hu (by rfl)) ?_
          refine wS_bs (enc := encIIIII) ([(x963, x964, x965, x966, x967)] : List (Int × Int × Int × Int × Int)) [.int .i64 (x963), .int .i64 (x964), .int .i64 (x965), .int .i64 (x966), .int .i64 (x967)] (d := 82) (t := 75) (T := 52) (n := 1) (ps := [(0, .agg #[.int .i64 (x963), .int .i64 (x964), .int .i64 (x965), .int .i64 (x966), .int .i64 (x967)])]) (by kernel_rfl) el75 encIIIII_ok (by rfl) (by omega) (by omega) (by kernel_rfl) (by rfl) ?_
          intro b1069 w1070 G1071 F1072 hc1073
          have D1075 : Dj fp821 [b1069] := Dj.of F973.low (low1 G1071)
          have D1076 : Dj fp826 [b1069] := Dj.of F1066.low (low1 G1071)
          have D1077 : Dj [b962] [b1069] := Dj.of (lt1 F975.lt) (low1 G1071)
          replace F972 := F972.chg hc1073 Dj.nil
          replace F973 := F973.chg hc1073 Dj.nil
          replace F1066 := F1066.chg hc1073 Dj.nil
          replace F975 := F975.chg hc1073 notNil
          replace F1044 := F1044.chg hc1073 Dj.nil
          replace F1058 := F1058.chg hc1073 Dj.nil
          replace hB := hB.inS hc1073 inNil
          replace G1071 := Nat.le_trans hZ G1071
          replace G1071 := low1 G1071
          replace hZ := Nat.le_trans hZ hc1073.size
          obtain ⟨_, hk1078, hm⟩ := bindE hm
          replace hk1078 := apE hk1078
          refine wS_append (enc := encIIIII) (l := (l818 : List (Int × Int × Int × Int × Int))) (l2 := (([(x963, x964, x965, x966, x967)] : List (Int × Int × Int × Int × Int)) : List (Int × Int × Int × Int × Int))) (d := 83) (t := 75) (T := 52) (A := A819) (A2 := (some ⟨b1069, 0, none⟩)) (cap := cap820) (cap2 := 1) (by kernel_rfl) el75 encIIIII_ok F973 (F1072.sl encIIIII_ok) (by rfl) hk1078 ?_
          intro w1079 fp1080 A1081 cap1082 F1083 hc1084 hp1085
          have G1087 := low_ap G833 hZ hp1085
          have D1088 : Dj fp826 fp1080 := Dj.ap D835 F1066.low hp1085
          have D1089 : Dj [b962] fp1080 := Dj.ap (D977).symm (lt1 F975.lt) hp1085
          have D1090 : Dj [b1069] fp1080 := Dj.ap (D1075).symm F1072.low hp1085
          replace F972 := F972.chg hc1084 (Dj.of L1 G833)
          replace F1066 := F1066.chg hc1084 D835
          replace F975 := F975.chg hc1084 (dj1 (D977).symm)
          replace F1044 := F1044.chg hc1084 (Dj.of L1 G833)
          replace F1058 := F1058.chg hc1084 (Dj.of L1 G833)
          replace F1072 := F1072.chg hc1084 (D1075).symm
          replace hB := hB.inS hc1084 (inLow G833)
          replace hZ := Nat.le_trans hZ hc1084.size
          refine wS_pure 1 [(6, .slice A1081 (l818 ++ (([(x963, x964, x965, x966, x967)] : List (Int × Int × Int × Int × Int)))).length cap1082)] (by kernel_rfl) ?_
          refine wS_end (by rfl) ?_
          refine eX_then ?_
          refine cW_region ?_
          refine wS_pure 1 [(84, .slice A824 ((l823.set (Int.toNat x1047) x969).set (Int.toNat x1061) x970).length cap825)] (by kernel_rfl) ?_
          refine wS_bs (enc := encI) ([0] : List (Int)) [.int .i64 (0)] (d := 85) (t := 68) (T := 2) (n := 1) (ps := [(0, .int .i64 (0))]) (by kernel_rfl) el68 encI_ok (by rfl) (by omega) (by omega) (by kernel_rfl) (by rfl) ?_
          intro b1091 w1092 G1093 F1094 hc1095
          have D1097 : Dj fp826 [b1091] := Dj.of F1066.low (low1 G1093)
          have D1098 : Dj [b962] [b1091] := Dj.of (lt1 F975.lt) (low1 G1093)
          have D1099 : Dj [b1069] [b1091] := Dj.of F1072.low (low1 G1093)
          have D1100 : Dj fp1080 [b1091] := Dj.of F1083.low (low1 G1093)
          replace F972 := F972.chg hc1095 Dj.nil
          replace F1066 := F1066.chg hc1095 Dj.nil
          replace F975 := F975.chg hc1095 notNil
          replace F1044 := F1044.chg hc1095 Dj.nil
          replace F1058 := F1058.chg hc1095 Dj.nil
          replace F1072 := F1072.chg hc1095 Dj.nil
          replace F1083 := F1083.chg hc1095 Dj.nil
          replace hB := hB.inS hc1095 inNil
          replace G1093 := Nat.le_trans hZ G1093
          replace G1093 := low1 G1093
          replace hZ := Nat.le_trans hZ hc1095.size
          obtain ⟨_, hk1101, hm⟩ := bindE hm
          replace hk1101 := apE hk1101
          refine wS_append (enc := encI) (l := ((l823.set (Int.toNat x1047) x969).set (Int.toNat x1061) x970 : List (Int))) (l2 := (([0] : List (Int)) : List (Int))) (d := 86) (t := 68) (T := 2) (A := A824) (A2 := (some ⟨b1091, 0, none⟩)) (cap := cap825) (cap2 := 1) (by kernel_rfl) el68 encI_ok F1066 (F1094.sl encI_ok) (by rfl) hk1101 ?_
          intro w1102 fp1103 A1104 cap1105 F1106 hc1107 hp1108
          have G1110 := low_ap G834 hZ hp1108
          have D1111 : Dj [b962] fp1103 := Dj.ap (D978).symm (lt1 F975.lt) hp1108
          have D1112 : Dj [b1069] fp1103 := Dj.ap (D1076).symm F1072.low hp1108
          have D1113 : Dj fp1080 fp1103 := Dj.ap (D1088).symm F1083.low hp1108
          have D1114 : Dj [b1091] fp1103 := Dj.ap (D1097).symm F1094.low hp1108
          replace F972 := F972.chg hc1107 (Dj.of L1 G834)
          replace F975 := F975.chg hc1107 (dj1 (D978).symm)
          replace F1044 := F1044.chg hc1107 (Dj.of L1 G834)
          replace F1058 := F1058.chg hc1107 (Dj.of L1 G834)
          replace F1072 := F1072.chg hc1107 (D1076).symm
          replace F1083 := F1083.chg hc1107 (D1088).symm
          replace F1094 := F1094.chg hc1107 (D1097).symm
          replace hB := hB.inS hc1107 (inLow G834)
          replace hZ := Nat.le_trans hZ hc1107.size
          refine wS_pure 1 [(7, .slice A1104 (((l823.set (Int.toNat x1047) x969).set (Int.toNat x1061) x970) ++ (([0] : List (Int)))).length cap1105)] (by kernel_rfl) ?_
          refine wS_end (by rfl) ?_
          refine eX_block ?_
          refine eX_then ?_
          refine cW_region ?_
          refine wS_pure 3 [(9, .int .i64 (wr (x828 + 1))), (38, .int .i64 (wr (x828 + 1))), (37, .int .i64 (x828))] (by kernel_rfl) ?_
          refine wS_end (by rfl) ?_
          have hq : (some (Ctl.next ((l818 ++ (([(x963, x964, x965, x966, x967)] : List (Int × Int × Int × Int × Int))), ((l823.set (Int.toNat x1047) x969).set (Int.toNat x1061) x970) ++ (([0] : List (Int))), wr (x828 + 1)))) : Option (Ctl ((List (Int × Int × Int × Int × Int)) × (List (Int)) × Int) ((List (Int × Int × Int × Int × Int)) × (List (Int))))) = some _ := hm
          replace hq := someE hq
          subst hq
          exact eX_next hx841 (fun hst => ⟨l818 ++ (([(x963, x964, x965, x966, x967)] : List (Int × Int × Int × Int × Int))), A1081, cap1082, fp1080, ((l823.set (Int.toNat x1047) x969).set (Int.toNat x1061) x970) ++ (([0] : List (Int))), A1104, cap1105, fp1103, wr (x828 + 1), rfl, Fr.of hst (by kernel_rfl), F972, F1083, F1106, G1087, G1110, (D1113).symm, hB, hZ⟩)
      · have hm := condF hb842 hm
        refine cW_exit ?_
        refine eX_then_exit ?_
        have hq : (some (Ctl.out ((l818, l823))) : Option (Ctl ((List (Int × Int × Int × Int × Int)) × (List (Int)) × Int) ((List (Int × Int × Int × Int × Int)) × (List (Int))))) = some _ := hm
        replace hq := someE hq
        subst hq
        refine eX_outX hx841 (fun hr1115 => ?_)
        replace hr1115 := hr1115.symm
        subst hr1115
        refine eX_block_hit ?_
        exact eX_J (fun hst => ⟨l818, A819, cap820, fp821, l823, A824, cap825, fp826, rfl, Fr.of hst (by kernel_rfl), F831, F832, G833, G834, D835, hB, hZ⟩)
    · rintro a' w800 ⟨l801, A802, cap803, fp804, l806, A807, cap808, fp809, hJ, hF811, F812, F813, G814, G815, D816, hB, hZ⟩
      subst hJ
      refine Fr.goX hF811 (by kernel_rfl) ?_
      refine eX_then ?_
      refine cW_seq ?_
      refine cW_region ?_
      refine wS_pure 4 [(5, .slice A807 (l806).length cap808), (4, .slice A802 (l801).length cap803), (88, .slice A807 (l806).length cap808), (87, .slice A802 (l801).length cap803)] (by kernel_rfl) ?_
      refine wS_end (by rfl) ?_
      refine eX_then ?_
      refine cW_ret ?_
      have hq : (some ((l801, l806)) : Option ((List (Int × Int × Int × Int × Int)) × (List (Int)))) = some _ := hm
      replace hq := someE hq
      subst hq
      refine eX_ret (vs := [.slice A802 (l801).length cap803, .slice A807 (l806).length cap808]) [.tmp 4, .tmp 5] (by rfl) ⟨by (show lkE _ _ _ = _); kernel_rfl, ⟨by (show lkE _ _ _ = _); kernel_rfl, trivial⟩⟩ ?_
      exact ⟨A802, cap803, fp804, A807, cap808, fp809, rfl, F812, G814, F813, G815, (D816).symm, hB⟩

set_option maxRecDepth 100000 in
/-- laws.markPointS -/
theorem c_laws_markPointS {w0 : World} {l0 : List (Int × Int)} {A0 : Option Addr} {cap0 : Nat} {fp0 : List Nat} {p1 : Int} {r : (Int) × (List (Int × Int))} (hm : m_laws_markPointS l0 p1 = some r) (F0 : Ow 2 encII 32 w0 fp0 A0 cap0 l0) :
    Calls Try.prog 66 #[.slice A0 (l0).length cap0, .int .i64 (p1)] w0 fun e w' => e = .returned (.int .i64 (r.1)) ∧ Ow 2 encII 32 w' fp0 A0 cap0 r.2 ∧ (r.2).length = (l0).length ∧ Chg (fp0 ++ []) w0 w' := by
  have L0 := F0.low
  have hB : Chg (fp0 ++ []) w0 w0 := Chg.refl _ _
  have hZ := Nat.le_refl w0.heap.size
  unfold m_laws_markPointS at hm
  refine enterE (N := 27) Try.func66 (by rfl) Try.ntmps66 (by simp) [(0, .slice A0 (l0).length cap0), (1, .int .i64 (p1))] (by rfl) (by kernel_rfl) (fun a => ?_)
  refine cW_seq ?_
  refine cW_region ?_
  refine wS_pure 1 [(4, .int .i64 (0))] (by kernel_rfl) ?_
  refine wS_end (by rfl) ?_
  refine eX_then ?_
  refine cW_seq ?_
  refine cW_seq ?_
  refine cW_region ?_
  refine wS_pure 1 [(5, .int .i64 (0))] (by kernel_rfl) ?_
  refine wS_end (by rfl) ?_
  refine eX_then ?_
  obtain ⟨r49, hr50, hm⟩ := bindE hm
  have hm51 := hm
  refine cW_cut (fun a' w' => ∃ x37 : Int, ∃ l38 : List (Int × Int), (x37, l38) = r49 ∧ Fr 27 [(1, .int .i64 (x37))] a' ∧ Ow 2 encII 32 w' fp0 A0 cap0 l38 ∧ (l38).length = (l0).length ∧ Chg (fp0 ++ []) w0 w' ∧ w0.heap.size ≤ w'.heap.size) ?_ ?_
  · refine cW_block ?_
    refine cW_loop _ (fun (s52 : Int × Int × (List (Int × Int))) a' w' => ∃ x43 : Int, ∃ x44 : Int, ∃ l45 : List (Int × Int), (x43, x44, l45) = s52 ∧ Fr 27 [(0, .slice A0 (l45).length cap0), (1, .int .i64 (x43)), (5, .int .i64 (x44))] a' ∧ Ow 2 encII 32 w' fp0 A0 cap0 l45 ∧ (l45).length = (l0).length ∧ Chg (fp0 ++ []) w0 w' ∧ w0.heap.size ≤ w'.heap.size) hr50 (fun hst => ⟨p1, 0, l0, rfl, Fr.of hst (by kernel_rfl), F0, (Eq.refl (l0).length), hB, hZ⟩) ?_
    rintro _ c53 a' w42 ⟨x43, x44, l45, rfl, hF46, F47, hl48, hB, hZ⟩ hx54
    refine Fr.goOn hF46 (by kernel_rfl) ?_
    have hm := hx54
    unfold m_laws_markPointS_s1 at hm
    refine cW_seq ?_
    refine cW_seq ?_
    refine cW_region ?_
    refine wS_pure 4 [(9, .bool (decide (x44 < (((l45).length : Int))))), (8, .int .i64 (((l45).length : Int))), (7, .slice A0 (l45).length cap0), (6, .int .i64 (x44))] (by kernel_rfl) ?_
    refine wS_end (by rfl) ?_
    refine eX_then ?_
    refine cW_cond (t := decide (x44 < (((l45).length : Int)))) (by kernel_rfl) (fun hb55 => ?_) (fun hb55 => ?_)
    · have hm := condT hb55 hm
      refine cW_skip ?_
      refine eX_then ?_
      refine cW_seq ?_
      refine cW_block ?_
      refine cW_seq ?_
      refine cW_region ?_
      refine wS_pure 3 [(14, .int .i64 (x43)), (13, .int .i64 (x44)), (12, .slice A0 (l45).length cap0)] (by kernel_rfl) ?_
      obtain ⟨x56, hx57, hm⟩ := bindE hm
      refine wS_idx (d := 15) (T := 59) (A := A0) (n := (l45).length) (cap := cap0) (kd := .i64) (m := x44) (by kernel_rfl) sl59 ((F47.sl encII_ok).is hx57) ?_
      refine wS_pure 1 [(16, .pointer (some (elA A0 2 (x44) 0)))] (by kernel_rfl) ?_
      refine wS_storeEl (x := x56) ((x43, x56.2)) (T := 2) (U := 32) (cap := cap0) (j := 0) (A := A0) (v := .int .i64 (x43)) (vs := [.int .i64 (x43)]) (m := x44) (by kernel_rfl) (by rfl) sz2 (by rfl) encII_ok F47 hx57 (by simp only [List.length_cons, List.length_nil]; omega) (by rfl) ?_
      intro w58 F59 hc60
      replace hB := hB.inS hc60 (inMem (fun x hx => (List.mem_append_left _ hx)))
      replace hZ := Nat.le_trans hZ hc60.size
      clear F47
      have hl61 := (show (l45.set (Int.toNat x44) ((x43, x56.2))).length = (l45).length from List.length_set ..).trans hl48
      rewrite [show (l45).length = (l45.set (Int.toNat x44) ((x43, x56.2))).length from (List.length_set ..).symm]
      refine wS_end (by rfl) ?_
      refine eX_then ?_
      refine cW_seq ?_
      refine cW_region ?_
      refine wS_pure 3 [(1, .int .i64 (wr (x43 + 1))), (18, .int .i64 (wr (x43 + 1))), (17, .int .i64 (x43))] (by kernel_rfl) ?_
      refine wS_end (by rfl) ?_
      refine eX_then ?_
      refine cW_seq ?_
      refine cW_region ?_
      refine wS_pure 3 [(21, .int .i64 (wr (x43 + 1))), (20, .int .i64 (x44)), (19, .slice A0 (l45.set (Int.toNat x44) ((x43, x56.2))).length cap0)] (by kernel_rfl) ?_
      obtain ⟨x62, hx63, hm⟩ := bindE hm
      refine wS_idx (d := 22) (T := 59) (A := A0) (n := (l45.set (Int.toNat x44) ((x43, x56.2))).length) (cap := cap0) (kd := .i64) (m := x44) (by kernel_rfl) sl59 ((F59.sl encII_ok).is hx63) ?_
      refine wS_pure 1 [(23, .pointer (some (elA A0 2 (x44) 1)))] (by kernel_rfl) ?_
      refine wS_storeEl (x := x62) ((x62.1, wr (x43 + 1))) (T := 2) (U := 32) (cap := cap0) (j := 1) (A := A0) (v := .int .i64 (wr (x43 + 1))) (vs := [.int .i64 (wr (x43 + 1))]) (m := x44) (by kernel_rfl) (by rfl) sz2 (by rfl) encII_ok F59 hx63 (by simp only [List.length_cons, List.length_nil]; omega) (by rfl) ?_
      intro w64 F65 hc66
      replace hB := hB.inS hc66 (inMem (fun x hx => (List.mem_append_left _ hx)))
      replace hZ := Nat.le_trans hZ hc66.size
      clear F59
      have hl67 := (show ((l45.set (Int.toNat x44) ((x43, x56.2))).set (Int.toNat x44) ((x62.1, wr (x43 + 1)))).length = (l45.set (Int.toNat x44) ((x43, x56.2))).length from List.length_set ..).trans hl61
      rewrite [show (l45.set (Int.toNat x44) ((x43, x56.2))).length = ((l45.set (Int.toNat x44) ((x43, x56.2))).set (Int.toNat x44) ((x62.1, wr (x43 + 1)))).length from (List.length_set ..).symm]
      refine wS_end (by rfl) ?_
      refine eX_then ?_
      refine cW_region ?_
      refine wS_pure 3 [(1, .int .i64 (wr ((wr (x43 + 1)) + 1))), (25, .int .i64 (wr ((wr (x43 + 1)) + 1))), (24, .int .i64 (wr (x43 + 1)))] (by kernel_rfl) ?_
      refine wS_end (by rfl) ?_
      refine eX_block ?_
      refine eX_then ?_
      refine cW_region ?_
      refine wS_pure 3 [(5, .int .i64 (wr (x44 + 1))), (11, .int .i64 (wr (x44 + 1))), (10, .int .i64 (x44))] (by kernel_rfl) ?_
      refine wS_end (by rfl) ?_
      have hq : (some (Ctl.next ((wr ((wr (x43 + 1)) + 1), wr (x44 + 1), (l45.set (Int.toNat x44) ((x43, x56.2))).set (Int.toNat x44) ((x62.1, wr (x43 + 1)))))) : Option (Ctl (Int × Int × (List (Int × Int))) (Int × (List (Int × Int))))) = some _ := hm
      replace hq := someE hq
      subst hq
      exact eX_next hx54 (fun hst => ⟨wr ((wr (x43 + 1)) + 1), wr (x44 + 1), (l45.set (Int.toNat x44) ((x43, x56.2))).set (Int.toNat x44) ((x62.1, wr (x43 + 1))), rfl, Fr.of hst (by kernel_rfl), F65, hl67, hB, hZ⟩)
    · have hm := condF hb55 hm
      refine cW_exit ?_
      refine eX_then_exit ?_
      have hq : (some (Ctl.out ((x43, l45))) : Option (Ctl (Int × Int × (List (Int × Int))) (Int × (List (Int × Int))))) = some _ := hm
      replace hq := someE hq
      subst hq
      refine eX_outX hx54 (fun hr68 => ?_)
      replace hr68 := hr68.symm
      subst hr68
      refine eX_block_hit ?_
      exact eX_J (fun hst => ⟨x43, l45, rfl, Fr.of hst (by kernel_rfl), F47, hl48, hB, hZ⟩)
  · rintro a' w36 ⟨x37, l38, hJ, hF39, F40, hl41, hB, hZ⟩
    subst hJ
    refine Fr.goX hF39 (by kernel_rfl) ?_
    refine eX_then ?_
    refine cW_seq ?_
    refine cW_region ?_
    refine wS_pure 2 [(4, .int .i64 (x37)), (26, .int .i64 (x37))] (by kernel_rfl) ?_
    refine wS_end (by rfl) ?_
    refine eX_then ?_
    refine cW_ret ?_
    have hq : (some ((x37, l38)) : Option ((Int) × (List (Int × Int)))) = some _ := hm
    replace hq := someE hq
    subst hq
    refine eX_ret (vs := [.int .i64 (x37)]) [.tmp 4] (by rfl) ⟨by (show lkE _ _ _ = _); kernel_rfl, trivial⟩ ?_
    exact ⟨rfl, F40, hl41, hB⟩

set_option maxRecDepth 100000 in
/-- laws.markInt64S -/
theorem c_laws_markInt64S {w0 : World} {l0 : List (Int)} {A0 : Option Addr} {cap0 : Nat} {fp0 : List Nat} {p1 : Int} {r : (Int) × (List (Int))} (hm : m_laws_markInt64S l0 p1 = some r) (F0 : Ow 1 encI 2 w0 fp0 A0 cap0 l0) :
    Calls Try.prog 70 #[.slice A0 (l0).length cap0, .int .i64 (p1)] w0 fun e w' => e = .returned (.int .i64 (r.1)) ∧ Ow 1 encI 2 w' fp0 A0 cap0 r.2 ∧ (r.2).length = (l0).length ∧ Chg (fp0 ++ []) w0 w' := by
  have L0 := F0.low
  have hB : Chg (fp0 ++ []) w0 w0 := Chg.refl _ _
  have hZ := Nat.le_refl w0.heap.size
  unfold m_laws_markInt64S at hm
  refine enterE (N := 19) Try.func70 (by rfl) Try.ntmps70 (by simp) [(0, .slice A0 (l0).length cap0), (1, .int .i64 (p1))] (by rfl) (by kernel_rfl) (fun a => ?_)
  refine cW_seq ?_
  refine cW_region ?_
  refine wS_pure 1 [(4, .int .i64 (0))] (by kernel_rfl) ?_
  refine wS_end (by rfl) ?_
  refine eX_then ?_
  refine cW_seq ?_
  refine cW_seq ?_
  refine cW_region ?_
  refine wS_pure 1 [(5, .int .i64 (0))] (by kernel_rfl) ?_
  refine wS_end (by rfl) ?_
  refine eX_then ?_
  obtain ⟨r37, hr38, hm⟩ := bindE hm
  have hm39 := hm
  refine cW_cut (fun a' w' => ∃ x25 : Int, ∃ l26 : List (Int), (x25, l26) = r37 ∧ Fr 19 [(1, .int .i64 (x25))] a' ∧ Ow 1 encI 2 w' fp0 A0 cap0 l26 ∧ (l26).length = (l0).length ∧ Chg (fp0 ++ []) w0 w' ∧ w0.heap.size ≤ w'.heap.size) ?_ ?_
  · refine cW_block ?_
    refine cW_loop _ (fun (s40 : Int × Int × (List (Int))) a' w' => ∃ x31 : Int, ∃ x32 : Int, ∃ l33 : List (Int), (x31, x32, l33) = s40 ∧ Fr 19 [(0, .slice A0 (l33).length cap0), (1, .int .i64 (x31)), (5, .int .i64 (x32))] a' ∧ Ow 1 encI 2 w' fp0 A0 cap0 l33 ∧ (l33).length = (l0).length ∧ Chg (fp0 ++ []) w0 w' ∧ w0.heap.size ≤ w'.heap.size) hr38 (fun hst => ⟨p1, 0, l0, rfl, Fr.of hst (by kernel_rfl), F0, (Eq.refl (l0).length), hB, hZ⟩) ?_
    rintro _ c41 a' w30 ⟨x31, x32, l33, rfl, hF34, F35, hl36, hB, hZ⟩ hx42
    refine Fr.goOn hF34 (by kernel_rfl) ?_
    have hm := hx42
    unfold m_laws_markInt64S_s1 at hm
    refine cW_seq ?_
    refine cW_seq ?_
    refine cW_region ?_
    refine wS_pure 4 [(9, .bool (decide (x32 < (((l33).length : Int))))), (8, .int .i64 (((l33).length : Int))), (7, .slice A0 (l33).length cap0), (6, .int .i64 (x32))] (by kernel_rfl) ?_
    refine wS_end (by rfl) ?_
    refine eX_then ?_
    refine cW_cond (t := decide (x32 < (((l33).length : Int)))) (by kernel_rfl) (fun hb43 => ?_) (fun hb43 => ?_)
    · have hm := condT hb43 hm
      refine cW_skip ?_
      refine eX_then ?_
      refine cW_seq ?_
      refine cW_block ?_
      refine cW_seq ?_
      refine cW_region ?_
      refine wS_pure 3 [(14, .int .i64 (x31)), (13, .int .i64 (x32)), (12, .slice A0 (l33).length cap0)] (by kernel_rfl) ?_
      obtain ⟨x44, hx45, hm⟩ := bindE hm
      refine wS_idx (d := 15) (T := 68) (A := A0) (n := (l33).length) (cap := cap0) (kd := .i64) (m := x32) (by kernel_rfl) sl68 ((F35.sl encI_ok).is hx45) ?_
      refine wS_storeEl (x := x44) x31 (T := 2) (U := 2) (cap := cap0) (j := 0) (A := A0) (v := .int .i64 (x31)) (vs := [.int .i64 (x31)]) (m := x32) (by kernel_rfl) (by rfl) sz2 (by rfl) encI_ok F35 hx45 (by simp only [List.length_cons, List.length_nil]; omega) (by rfl) ?_
      intro w46 F47 hc48
      replace hB := hB.inS hc48 (inMem (fun x hx => (List.mem_append_left _ hx)))
      replace hZ := Nat.le_trans hZ hc48.size
      clear F35
      have hl49 := (show (l33.set (Int.toNat x32) x31).length = (l33).length from List.length_set ..).trans hl36
      rewrite [show (l33).length = (l33.set (Int.toNat x32) x31).length from (List.length_set ..).symm]
      refine wS_end (by rfl) ?_
      refine eX_then ?_
      refine cW_region ?_
      refine wS_pure 3 [(1, .int .i64 (wr (x31 + 1))), (17, .int .i64 (wr (x31 + 1))), (16, .int .i64 (x31))] (by kernel_rfl) ?_
      refine wS_end (by rfl) ?_
      refine eX_block ?_
      refine eX_then ?_
      refine cW_region ?_
      refine wS_pure 3 [(5, .int .i64 (wr (x32 + 1))), (11, .int .i64 (wr (x32 + 1))), (10, .int .i64 (x32))] (by kernel_rfl) ?_
      refine wS_end (by rfl) ?_
      have hq : (some (Ctl.next ((wr (x31 + 1), wr (x32 + 1), l33.set (Int.toNat x32) x31))) : Option (Ctl (Int × Int × (List (Int))) (Int × (List (Int))))) = some _ := hm
      replace hq := someE hq
      subst hq
      exact eX_next hx42 (fun hst => ⟨wr (x31 + 1), wr (x32 + 1), l33.set (Int.toNat x32) x31, rfl, Fr.of hst (by kernel_rfl), F47, hl49, hB, hZ⟩)
    · have hm := condF hb43 hm
      refine cW_exit ?_
      refine eX_then_exit ?_
      have hq : (some (Ctl.out ((x31, l33))) : Option (Ctl (Int × Int × (List (Int))) (Int × (List (Int))))) = some _ := hm
      replace hq := someE hq
      subst hq
      refine eX_outX hx42 (fun hr50 => ?_)
      replace hr50 := hr50.symm
      subst hr50
      refine eX_block_hit ?_
      exact eX_J (fun hst => ⟨x31, l33, rfl, Fr.of hst (by kernel_rfl), F35, hl36, hB, hZ⟩)
  · rintro a' w24 ⟨x25, l26, hJ, hF27, F28, hl29, hB, hZ⟩
    subst hJ
    refine Fr.goX hF27 (by kernel_rfl) ?_
    refine eX_then ?_
    refine cW_seq ?_
    refine cW_region ?_
    refine wS_pure 2 [(4, .int .i64 (x25)), (18, .int .i64 (x25))] (by kernel_rfl) ?_
    refine wS_end (by rfl) ?_
    refine eX_then ?_
    refine cW_ret ?_
    have hq : (some ((x25, l26)) : Option ((Int) × (List (Int)))) = some _ := hm
    replace hq := someE hq
    subst hq
    refine eX_ret (vs := [.int .i64 (x25)]) [.tmp 4] (by rfl) ⟨by (show lkE _ _ _ = _); kernel_rfl, trivial⟩ ?_
    exact ⟨rfl, F28, hl29, hB⟩

set_option maxRecDepth 100000 in
/-- laws.markInt64SS -/
theorem c_laws_markInt64SS {w0 : World} {l0 : List (List (Int))} {A0 : Option Addr} {cap0 : Nat} {fp0 fr0 : List Nat} {p1 : Int} {r : (Int) × (List (List (Int)))} (hm : m_laws_markInt64SS l0 p1 = some r) (F0 : OwR 1 encI 68 2 w0 fp0 fr0 A0 cap0 l0) :
    Calls Try.prog 67 #[.slice A0 (l0).length cap0, .int .i64 (p1)] w0 fun e w' => e = .returned (.int .i64 (r.1)) ∧ OwR 1 encI 68 2 w' fp0 fr0 A0 cap0 r.2 ∧ (r.2).length = (l0).length ∧ Chg ((fp0 ++ fr0) ++ []) w0 w' := by
  have L0 := F0.low
  have hB : Chg ((fp0 ++ fr0) ++ []) w0 w0 := Chg.refl _ _
  have hZ := Nat.le_refl w0.heap.size
  unfold m_laws_markInt64SS at hm
  refine enterE (N := 19) Try.func67 (by rfl) Try.ntmps67 (by simp) [(0, .slice A0 (l0).length cap0), (1, .int .i64 (p1))] (by rfl) (by kernel_rfl) (fun a => ?_)
  refine cW_seq ?_
  refine cW_region ?_
  refine wS_pure 1 [(4, .int .i64 (0))] (by kernel_rfl) ?_
  refine wS_end (by rfl) ?_
  refine eX_then ?_
  refine cW_seq ?_
  refine cW_seq ?_
  refine cW_region ?_
  refine wS_pure 1 [(5, .int .i64 (0))] (by kernel_rfl) ?_
  refine wS_end (by rfl) ?_
  refine eX_then ?_
  obtain ⟨r65, hr66, hm⟩ := bindE hm
  have hm67 := hm
  refine cW_cut (fun a' w' => ∃ x53 : Int, ∃ l54 : List (List (Int)), (x53, l54) = r65 ∧ Fr 19 [(1, .int .i64 (x53))] a' ∧ OwR 1 encI 68 2 w' fp0 fr0 A0 cap0 l54 ∧ (l54).length = (l0).length ∧ Chg ((fp0 ++ fr0) ++ []) w0 w' ∧ w0.heap.size ≤ w'.heap.size) ?_ ?_
  · refine cW_block ?_
    refine cW_loop _ (fun (s68 : Int × Int × (List (List (Int)))) a' w' => ∃ x59 : Int, ∃ x60 : Int, ∃ l61 : List (List (Int)), (x59, x60, l61) = s68 ∧ Fr 19 [(0, .slice A0 (l61).length cap0), (1, .int .i64 (x59)), (5, .int .i64 (x60))] a' ∧ OwR 1 encI 68 2 w' fp0 fr0 A0 cap0 l61 ∧ (l61).length = (l0).length ∧ Chg ((fp0 ++ fr0) ++ []) w0 w' ∧ w0.heap.size ≤ w'.heap.size) hr66 (fun hst => ⟨p1, 0, l0, rfl, Fr.of hst (by kernel_rfl), F0, (Eq.refl (l0).length), hB, hZ⟩) ?_
    rintro _ c69 a' w58 ⟨x59, x60, l61, rfl, hF62, F63, hl64, hB, hZ⟩ hx70
    refine Fr.goOn hF62 (by kernel_rfl) ?_
    have hm := hx70
    unfold m_laws_markInt64SS_s1 at hm
    refine cW_seq ?_
    refine cW_seq ?_
    refine cW_region ?_
    refine wS_pure 4 [(9, .bool (decide (x60 < (((l61).length : Int))))), (8, .int .i64 (((l61).length : Int))), (7, .slice A0 (l61).length cap0), (6, .int .i64 (x60))] (by kernel_rfl) ?_
    refine wS_end (by rfl) ?_
    refine eX_then ?_
    refine cW_cond (t := decide (x60 < (((l61).length : Int)))) (by kernel_rfl) (fun hb71 => ?_) (fun hb71 => ?_)
    · have hm := condT hb71 hm
      refine cW_skip ?_
      refine eX_then ?_
      refine cW_seq ?_
      refine cW_block ?_
      refine cW_region ?_
      refine wS_pure 2 [(13, .int .i64 (x60)), (12, .slice A0 (l61).length cap0)] (by kernel_rfl) ?_
      obtain ⟨x72, hx73, hm⟩ := bindE hm
      refine wS_idx (d := 14) (T := 44) (A := A0) (n := (l61).length) (cap := cap0) (kd := .i64) (m := x60) (by kernel_rfl) sl44 ((F63.slr encI_ok).is hx73) ?_
      obtain ⟨A74, cap75, fp78, hc77, hsub79, F76, hcl80⟩ := OwR.lend F63 hx73
      have Dm82 := (F63.dj).symm
      refine wS_load1 (d := 15) (T := 68) (ad := (elA A0 1 (x60) 0)) (v := .slice A74 (x72).length cap75) (by kernel_rfl) vt68 hc77 ?_
      refine wS_pure 1 [(16, .int .i64 (x59))] (by kernel_rfl) ?_
      obtain ⟨y83, hy84, hm⟩ := bindE hm
      refine wS_calls (d := 17) (f := 70) (vs := [.slice A74 (x72).length cap75, .int .i64 (x59)]) (by kernel_rfl) ent70 (c_laws_markInt64S hy84 F76) ?_
      rintro _ w85 ⟨rfl, F87, hl88, hc86⟩
      have F89 := hcl80 _ _ (hc86.more (fun x hx => by simpa using hx)) F87 hl88
      have hc90 := hc86.more (S' := (fp0 ++ fr0) ++ []) (fun x hx => List.mem_append_left _ (hsub79 x (by simpa using hx)))
      have hl91 := (show (l61.set (Int.toNat x60) y83.2).length = (l61).length from List.length_set ..).trans hl64
      clear F63
      replace hB := hB.inS hc90 (inApp (inMem (fun x hx => (List.mem_append_left _ hx))) inNil)
      replace hZ := Nat.le_trans hZ hc90.size
      refine ⟨.int .i64 (y83.1), rfl, ?_⟩
      rewrite [(show (l61).length = (l61.set (Int.toNat x60) y83.2).length from (List.length_set ..).symm)]
      refine wS_pure 1 [(1, .int .i64 (y83.1))] (by kernel_rfl) ?_
      refine wS_end (by rfl) ?_
      refine eX_block ?_
      refine eX_then ?_
      refine cW_region ?_
      refine wS_pure 3 [(5, .int .i64 (wr (x60 + 1))), (11, .int .i64 (wr (x60 + 1))), (10, .int .i64 (x60))] (by kernel_rfl) ?_
      refine wS_end (by rfl) ?_
      have hq : (some (Ctl.next ((y83.1, wr (x60 + 1), l61.set (Int.toNat x60) y83.2))) : Option (Ctl (Int × Int × (List (List (Int)))) (Int × (List (List (Int)))))) = some _ := hm
      replace hq := someE hq
      subst hq
      exact eX_next hx70 (fun hst => ⟨y83.1, wr (x60 + 1), l61.set (Int.toNat x60) y83.2, rfl, Fr.of hst (by kernel_rfl), F89, hl91, hB, hZ⟩)
    · have hm := condF hb71 hm
      refine cW_exit ?_
      refine eX_then_exit ?_
      have hq : (some (Ctl.out ((x59, l61))) : Option (Ctl (Int × Int × (List (List (Int)))) (Int × (List (List (Int)))))) = some _ := hm
      replace hq := someE hq
      subst hq
      refine eX_outX hx70 (fun hr92 => ?_)
      replace hr92 := hr92.symm
      subst hr92
      refine eX_block_hit ?_
      exact eX_J (fun hst => ⟨x59, l61, rfl, Fr.of hst (by kernel_rfl), F63, hl64, hB, hZ⟩)
  · rintro a' w52 ⟨x53, l54, hJ, hF55, F56, hl57, hB, hZ⟩
    subst hJ
    refine Fr.goX hF55 (by kernel_rfl) ?_
    refine eX_then ?_
    refine cW_seq ?_
    refine cW_region ?_
    refine wS_pure 2 [(4, .int .i64 (x53)), (18, .int .i64 (x53))] (by kernel_rfl) ?_
    refine wS_end (by rfl) ?_
    refine eX_then ?_
    refine cW_ret ?_
    have hq : (some ((x53, l54)) : Option ((Int) × (List (List (Int))))) = some _ := hm
    replace hq := someE hq
    subst hq
    refine eX_ret (vs := [.int .i64 (x53)]) [.tmp 4] (by rfl) ⟨by (show lkE _ _ _ = _); kernel_rfl, trivial⟩ ?_
    exact ⟨rfl, F56, hl57, hB⟩

set_option maxRecDepth 100000 in
/-- laws.heldInt64S -/
theorem c_laws_heldInt64S {w0 : World} {l0 : List (Int)} {A0 : Option Addr} {cap0 : Nat} {fp0 : List Nat} {p1 : Int} {r : (Int)} (hm : m_laws_heldInt64S l0 p1 = some r) (F0 : Sl 1 encI w0 fp0 A0 l0) :
    Calls Try.prog 71 #[.slice A0 (l0).length cap0, .int .i64 (p1)] w0 fun e w' => e = .returned (.int .i64 (r)) ∧ Chg [] w0 w' := by
  have L0 := F0.low
  have hB : Chg [] w0 w0 := Chg.refl _ _
  have hZ := Nat.le_refl w0.heap.size
  unfold m_laws_heldInt64S at hm
  refine enterE (N := 21) Try.func71 (by rfl) Try.ntmps71 (by simp) [(0, .slice A0 (l0).length cap0), (1, .int .i64 (p1))] (by rfl) (by kernel_rfl) (fun a => ?_)
  refine cW_seq ?_
  refine cW_region ?_
  refine wS_pure 1 [(4, .int .i64 (0))] (by kernel_rfl) ?_
  refine wS_end (by rfl) ?_
  refine eX_then ?_
  refine cW_seq ?_
  refine cW_seq ?_
  refine cW_region ?_
  refine wS_pure 1 [(5, .int .i64 (0))] (by kernel_rfl) ?_
  refine wS_end (by rfl) ?_
  refine eX_then ?_
  obtain ⟨r24, hr25, hm⟩ := bindE hm
  have hm26 := hm
  refine cW_cut (fun a' w' => ∃ x17 : Int, Sum.inl x17 = r24 ∧ Fr 21 [(1, .int .i64 (x17))] a' ∧ Chg [] w0 w' ∧ w0.heap.size ≤ w'.heap.size) ?_ ?_
  · refine cW_block ?_
    refine cW_loop _ (fun (s27 : Int × Int) a' w' => ∃ x20 : Int, ∃ x21 : Int, (x20, x21) = s27 ∧ Fr 21 [(0, .slice A0 (l0).length cap0), (1, .int .i64 (x20)), (5, .int .i64 (x21))] a' ∧ Sl 1 encI w' fp0 A0 l0 ∧ Chg [] w0 w' ∧ w0.heap.size ≤ w'.heap.size) hr25 (fun hst => ⟨p1, 0, rfl, Fr.of hst (by kernel_rfl), F0, hB, hZ⟩) ?_
    rintro _ c28 a' w19 ⟨x20, x21, rfl, hF22, F23, hB, hZ⟩ hx29
    refine Fr.goOn hF22 (by kernel_rfl) ?_
    have hm := hx29
    unfold m_laws_heldInt64S_s1 at hm
    refine cW_seq ?_
    refine cW_seq ?_
    refine cW_region ?_
    refine wS_pure 4 [(9, .bool (decide (x21 < (((l0).length : Int))))), (8, .int .i64 (((l0).length : Int))), (7, .slice A0 (l0).length cap0), (6, .int .i64 (x21))] (by kernel_rfl) ?_
    refine wS_end (by rfl) ?_
    refine eX_then ?_
    refine cW_cond (t := decide (x21 < (((l0).length : Int)))) (by kernel_rfl) (fun hb30 => ?_) (fun hb30 => ?_)
    · have hm := condT hb30 hm
      refine cW_skip ?_
      refine eX_then ?_
      refine cW_seq ?_
      refine cW_block ?_
      refine cW_seq ?_
      refine cW_seq ?_
      refine cW_region ?_
      refine wS_pure 2 [(13, .int .i64 (x21)), (12, .slice A0 (l0).length cap0)] (by kernel_rfl) ?_
      obtain ⟨x31, hx32, hm⟩ := bindE hm
      refine wS_idx (d := 14) (T := 68) (A := A0) (n := (l0).length) (cap := cap0) (kd := .i64) (m := x21) (by kernel_rfl) sl68 (F23.is hx32) ?_
      refine wS_load1 (d := 15) (T := 2) (ad := (elA A0 1 (x21) 0)) (v := .int .i64 (x31)) (by kernel_rfl) vt2 (Sl.cell F23 hx32 0 (by rfl)) ?_
      refine wS_pure 2 [(17, .bool (x31 != x20)), (16, .int .i64 (x20))] (by kernel_rfl) ?_
      refine wS_end (by rfl) ?_
      refine eX_then ?_
      refine cW_cond (t := x31 != x20) (by kernel_rfl) (fun hb33 => ?_) (fun hb33 => ?_)
      · have hm := condT hb33 hm
        refine cW_seq ?_
        refine cW_region ?_
        refine wS_pure 1 [(4, .int .i64 ((-1)))] (by kernel_rfl) ?_
        refine wS_end (by rfl) ?_
        refine eX_then ?_
        refine cW_ret ?_
        refine eX_then_ret ?_
        refine eX_block_ret ?_
        refine eX_then_ret ?_
        have hq : (some (Ctl.out (Sum.inr ((-1)))) : Option (Ctl (Int × Int) (Sum (Int) ((Int))))) = some _ := hm
        replace hq := someE hq
        subst hq
        refine eX_outR hx29 (fun hr => ?_)
        subst hr
        refine eX_block_ret ?_
        refine eX_then_ret ?_
        refine eX_then_ret ?_
        have hq : (some ((-1)) : Option ((Int))) = some _ := hm26
        replace hq := someE hq
        subst hq
        refine eX_ret (vs := [.int .i64 ((-1))]) [.tmp 4] (by rfl) ⟨by (show lkE _ _ _ = _); kernel_rfl, trivial⟩ ?_
        exact ⟨rfl, hB⟩
      · have hm := condF hb33 hm
        refine cW_skip ?_
        refine eX_then ?_
        refine cW_region ?_
        refine wS_pure 3 [(1, .int .i64 (wr (x20 + 1))), (19, .int .i64 (wr (x20 + 1))), (18, .int .i64 (x20))] (by kernel_rfl) ?_
        refine wS_end (by rfl) ?_
        refine eX_block ?_
        refine eX_then ?_
        refine cW_region ?_
        refine wS_pure 3 [(5, .int .i64 (wr (x21 + 1))), (11, .int .i64 (wr (x21 + 1))), (10, .int .i64 (x21))] (by kernel_rfl) ?_
        refine wS_end (by rfl) ?_
        have hq : (some (Ctl.next ((wr (x20 + 1), wr (x21 + 1)))) : Option (Ctl (Int × Int) (Sum (Int) ((Int))))) = some _ := hm
        replace hq := someE hq
        subst hq
        exact eX_next hx29 (fun hst => ⟨wr (x20 + 1), wr (x21 + 1), rfl, Fr.of hst (by kernel_rfl), F23, hB, hZ⟩)
    · have hm := condF hb30 hm
      refine cW_exit ?_
      refine eX_then_exit ?_
      have hq : (some (Ctl.out (Sum.inl x20)) : Option (Ctl (Int × Int) (Sum (Int) ((Int))))) = some _ := hm
      replace hq := someE hq
      subst hq
      refine eX_outX hx29 (fun hr34 => ?_)
      replace hr34 := hr34.symm
      subst hr34
      refine eX_block_hit ?_
      exact eX_J (fun hst => ⟨x20, rfl, Fr.of hst (by kernel_rfl), hB, hZ⟩)
  · rintro a' w16 ⟨x17, hJ, hF18, hB, hZ⟩
    subst hJ
    refine Fr.goX hF18 (by kernel_rfl) ?_
    refine eX_then ?_
    refine cW_seq ?_
    refine cW_region ?_
    refine wS_pure 2 [(4, .int .i64 (x17)), (20, .int .i64 (x17))] (by kernel_rfl) ?_
    refine wS_end (by rfl) ?_
    refine eX_then ?_
    refine cW_ret ?_
    have hq : (some x17 : Option ((Int))) = some _ := hm
    replace hq := someE hq
    subst hq
    refine eX_ret (vs := [.int .i64 (x17)]) [.tmp 4] (by rfl) ⟨by (show lkE _ _ _ = _); kernel_rfl, trivial⟩ ?_
    exact ⟨rfl, hB⟩

set_option maxRecDepth 100000 in
/-- spec.l06Ask -/
theorem c_spec_l06Ask {w0 : World} {l0 : List (Int × Int)} {A0 : Option Addr} {cap0 : Nat} {fp0 : List Nat} {l1 : List (List (Int))} {A1 : Option Addr} {cap1 : Nat} {fp1 : List Nat} {r : (Bool)} (hm : m_spec_l06Ask l0 l1 = some r) (F0 : Sl 2 encII w0 fp0 A0 l0) (F1 : SlR 1 encI w0 fp1 A1 l1) :
    Calls Try.prog 119 #[.slice A0 (l0).length cap0, .slice A1 (l1).length cap1] w0 fun e w' => e = .returned (.bool (r)) ∧ Chg [] w0 w' := by
  have L0 := F0.low
  have L1 := F1.low
  have hB : Chg [] w0 w0 := Chg.refl _ _
  have hZ := Nat.le_refl w0.heap.size
  unfold m_spec_l06Ask at hm
  refine enterE (N := 13) Try.func119 (by rfl) Try.ntmps119 (by simp) [(0, .slice A0 (l0).length cap0), (1, .slice A1 (l1).length cap1)] (by rfl) (by kernel_rfl) (fun a => ?_)
  refine cW_seq ?_
  refine cW_region ?_
  refine wS_pure 1 [(4, .bool (false))] (by kernel_rfl) ?_
  refine wS_end (by rfl) ?_
  refine eX_then ?_
  refine cW_seq ?_
  refine cW_region ?_
  refine wS_pure 1 [(5, .slice A0 (l0).length cap0)] (by kernel_rfl) ?_
  obtain ⟨y3, hy4, hm⟩ := bindE hm
  refine wS_calls (d := 6) (f := 116) (vs := [.slice A0 (l0).length cap0]) (by kernel_rfl) ent116 (c_spec_l06Pins hy4 F0) ?_
  rintro _ w5 ⟨rfl, hc6⟩
  replace F0 := F0.chg hc6 Dj.nil
  replace F1 := F1.chg hc6 Dj.nil
  replace hB := hB.inS hc6 inNil
  replace hZ := Nat.le_trans hZ hc6.size
  refine ⟨.bool (y3), rfl, ?_⟩
  refine wS_pure 1 [(7, .bool (y3))] (by kernel_rfl) ?_
  refine wS_bool y3 (fun hb7 => ?_) (fun hb7 => ?_)
  · have hm := condT hb7 hm
    rewrite [hb7]
    refine wS_pure 3 [(10, .slice A1 (l1).length cap1), (9, .int .i64 (((l0).length : Int))), (8, .slice A0 (l0).length cap0)] (by kernel_rfl) ?_
    obtain ⟨y8, hy9, hm⟩ := bindE hm
    refine wS_calls (d := 11) (f := 94) (vs := [.int .i64 (((l0).length : Int)), .slice A1 (l1).length cap1]) (by kernel_rfl) ent94 (c_spec_l06Joins hy9 F1) ?_
    rintro _ w10 ⟨rfl, hc11⟩
    replace F0 := F0.chg hc11 Dj.nil
    replace F1 := F1.chg hc11 Dj.nil
    replace hB := hB.inS hc11 inNil
    replace hZ := Nat.le_trans hZ hc11.size
    refine ⟨.bool (y8), rfl, ?_⟩
    refine wS_pure 2 [(4, .bool (y8)), (12, .bool (y8))] (by kernel_rfl) ?_
    refine wS_end (by rfl) ?_
    refine eX_then ?_
    refine cW_ret ?_
    have hq : (some y8 : Option ((Bool))) = some _ := hm
    replace hq := someE hq
    subst hq
    refine eX_ret (vs := [.bool (y8)]) [.tmp 4] (by rfl) ⟨by (show lkE _ _ _ = _); kernel_rfl, trivial⟩ ?_
    exact ⟨rfl, hB⟩
  · have hm := condF hb7 hm
    rewrite [hb7]
    refine wS_pure 6 [(4, .bool (false)), (12, .bool (false)), (11, undef), (10, undef), (9, undef), (8, undef)] (by kernel_rfl) ?_
    refine wS_end (by rfl) ?_
    refine eX_then ?_
    refine cW_ret ?_
    have hq : (some false : Option ((Bool))) = some _ := hm
    replace hq := someE hq
    subst hq
    refine eX_ret (vs := [.bool (false)]) [.tmp 4] (by rfl) ⟨by (show lkE _ _ _ = _); kernel_rfl, trivial⟩ ?_
    exact ⟨rfl, hB⟩

set_option maxRecDepth 100000 in
/-- spec.ClockWires -/
theorem c_spec_ClockWires {w0 : World} {l0 : List (Int × Int)} {A0 : Option Addr} {cap0 : Nat} {fp0 : List Nat} {l1 : List (List (Int))} {A1 : Option Addr} {cap1 : Nat} {fp1 : List Nat} {r : (List (Int)) × (Bool)} (hm : m_spec_ClockWires l0 l1 = some r) (F0 : Sl 2 encII w0 fp0 A0 l0) (F1 : SlR 1 encI w0 fp1 A1 l1) :
    Calls Try.prog 69 #[.slice A0 (l0).length cap0, .slice A1 (l1).length cap1] w0 fun e w' => ∃ A100 cap100 fp100, e = .returned (.tuple #[.slice A100 (r.1).length cap100, .bool (r.2)]) ∧ Ow 1 encI 2 w' fp100 A100 cap100 r.1 ∧ (∀ x ∈ fp100, w0.heap.size ≤ x) ∧ Chg [] w0 w' := by
  have L0 := F0.low
  have L1 := F1.low
  have hB : Chg [] w0 w0 := Chg.refl _ _
  have hZ := Nat.le_refl w0.heap.size
  unfold m_spec_ClockWires at hm
  refine enterE (N := 19) Try.func69 (by rfl) Try.ntmps69 (by simp) [(0, .slice A0 (l0).length cap0), (1, .slice A1 (l1).length cap1)] (by rfl) (by kernel_rfl) (fun a => ?_)
  refine cW_seq ?_
  refine cW_region ?_
  refine wS_pure 2 [(5, .bool (false)), (4, .slice none 0 0)] (by kernel_rfl) ?_
  refine wS_end (by rfl) ?_
  refine eX_then ?_
  refine cW_seq ?_
  refine cW_seq ?_
  refine cW_region ?_
  refine wS_pure 2 [(9, .slice A1 (l1).length cap1), (8, .slice A0 (l0).length cap0)] (by kernel_rfl) ?_
  obtain ⟨y3, hy4, hm⟩ := bindE hm
  refine wS_calls (d := 10) (f := 119) (vs := [.slice A0 (l0).length cap0, .slice A1 (l1).length cap1]) (by kernel_rfl) ent119 (c_spec_l06Ask hy4 F0 F1) ?_
  rintro _ w5 ⟨rfl, hc6⟩
  replace F0 := F0.chg hc6 Dj.nil
  replace F1 := F1.chg hc6 Dj.nil
  replace hB := hB.inS hc6 inNil
  replace hZ := Nat.le_trans hZ hc6.size
  refine ⟨.bool (y3), rfl, ?_⟩
  refine wS_pure 1 [(11, .bool (!y3))] (by kernel_rfl) ?_
  refine wS_end (by rfl) ?_
  refine eX_then ?_
  refine cW_cond (t := !y3) (by kernel_rfl) (fun hb7 => ?_) (fun hb7 => ?_)
  · have hm := condT hb7 hm
    refine cW_seq ?_
    refine cW_region ?_
    refine wS_pure 2 [(5, .bool (false)), (4, .slice none 0 0)] (by kernel_rfl) ?_
    refine wS_end (by rfl) ?_
    refine eX_then ?_
    refine cW_ret ?_
    refine eX_then_ret ?_
    have hq : (some (([], false)) : Option ((List (Int)) × (Bool))) = some _ := hm
    replace hq := someE hq
    subst hq
    refine eX_ret (vs := [.slice none 0 0, .bool (false)]) [.tmp 4, .tmp 5] (by rfl) ⟨by (show lkE _ _ _ = _); kernel_rfl, ⟨by (show lkE _ _ _ = _); kernel_rfl, trivial⟩⟩ ?_
    exact ⟨none, 0, [], rfl, Ow.nil _, lowNil, hB⟩
  · have hm := condF hb7 hm
    refine cW_skip ?_
    refine eX_then ?_
    refine cW_seq ?_
    refine cW_region ?_
    refine wS_pure 2 [(14, .slice A1 (l1).length cap1), (13, .slice A0 (l0).length cap0)] (by kernel_rfl) ?_
    obtain ⟨y8, hy9, hm⟩ := bindE hm
    refine wS_calls (d := 15) (f := 117) (vs := [.slice A0 (l0).length cap0, .slice A1 (l1).length cap1]) (by kernel_rfl) ent117 (c_spec_l06Tree hy9 F0 F1) ?_
    rintro _ w10 ⟨A12, cap13, fp14, A18, cap19, fp20, rfl, F15, G16, F21, G22, D24, hc11⟩
    replace F0 := F0.chg hc11 Dj.nil
    replace F1 := F1.chg hc11 Dj.nil
    replace hB := hB.inS hc11 inNil
    replace G16 := low_le hZ G16
    replace G22 := low_le hZ G22
    replace hZ := Nat.le_trans hZ hc11.size
    refine ⟨.tuple #[.slice A12 (y8.1).length cap13, .slice A18 (y8.2).length cap19], rfl, ?_⟩
    refine wS_pure 5 [(7, .slice A18 (y8.2).length cap19), (6, .slice A12 (y8.1).length cap13), (17, .slice A18 (y8.2).length cap19), (16, .slice A12 (y8.1).length cap13), (12, .tuple #[.slice A12 (y8.1).length cap13, .slice A18 (y8.2).length cap19])] (by kernel_rfl) ?_
    refine wS_end (by rfl) ?_
    refine eX_then ?_
    refine cW_seq ?_
    refine cW_region ?_
    refine wS_pure 3 [(5, .bool (true)), (4, .slice A18 (y8.2).length cap19), (18, .slice A18 (y8.2).length cap19)] (by kernel_rfl) ?_
    refine wS_end (by rfl) ?_
    refine eX_then ?_
    refine cW_ret ?_
    have hq : (some ((y8.2, true)) : Option ((List (Int)) × (Bool))) = some _ := hm
    replace hq := someE hq
    subst hq
    refine eX_ret (vs := [.slice A18 (y8.2).length cap19, .bool (true)]) [.tmp 4, .tmp 5] (by rfl) ⟨by (show lkE _ _ _ = _); kernel_rfl, ⟨by (show lkE _ _ _ = _); kernel_rfl, trivial⟩⟩ ?_
    exact ⟨A18, cap19, fp20, rfl, F21, G22, hB⟩

set_option maxRecDepth 100000 in
/-- laws.FnExactClockWires -/
theorem c_laws_FnExactClockWires {w0 : World} {l0 : List (Int × Int)} {A0 : Option Addr} {cap0 : Nat} {fp0 : List Nat} {l1 : List (List (Int))} {A1 : Option Addr} {cap1 : Nat} {fp1 : List Nat} {r : (Bool)} (hm : m_laws_FnExactClockWires l0 l1 = some r) (F0 : Sl 2 encII w0 fp0 A0 l0) (F1 : SlR 1 encI w0 fp1 A1 l1) :
    Calls Try.prog 17 #[.slice A0 (l0).length cap0, .slice A1 (l1).length cap1] w0 fun e w' => e = .returned (.bool (r)) ∧ Chg [] w0 w' := by
  have L0 := F0.low
  have L1 := F1.low
  have hB : Chg [] w0 w0 := Chg.refl _ _
  have hZ := Nat.le_refl w0.heap.size
  unfold m_laws_FnExactClockWires at hm
  refine enterE (N := 119) Try.func17 (by rfl) Try.ntmps17 (by simp) [(0, .slice A0 (l0).length cap0), (1, .slice A1 (l1).length cap1)] (by rfl) (by kernel_rfl) (fun a => ?_)
  refine cW_seq ?_
  refine cW_region ?_
  refine wS_pure 1 [(4, .bool (false))] (by kernel_rfl) ?_
  refine wS_end (by rfl) ?_
  refine eX_then ?_
  refine cW_seq ?_
  refine cW_region ?_
  refine wS_pure 1 [(5, .int .i64 (1048576))] (by kernel_rfl) ?_
  refine wS_end (by rfl) ?_
  refine eX_then ?_
  refine cW_seq ?_
  refine cW_region ?_
  refine wS_pure 2 [(18, .int .i64 (1048576)), (17, .slice A0 (l0).length cap0)] (by kernel_rfl) ?_
  obtain ⟨y3, hy4, hm⟩ := bindE hm
  refine wS_calls (d := 19) (f := 44) (vs := [.slice A0 (l0).length cap0, .int .i64 (1048576)]) (by kernel_rfl) ent44 (c_laws_szPointS hy4 F0) ?_
  rintro _ w5 ⟨rfl, hc6⟩
  replace F0 := F0.chg hc6 Dj.nil
  replace F1 := F1.chg hc6 Dj.nil
  replace hB := hB.inS hc6 inNil
  replace hZ := Nat.le_trans hZ hc6.size
  refine ⟨.int .i64 (y3), rfl, ?_⟩
  refine wS_pure 1 [(5, .int .i64 (y3))] (by kernel_rfl) ?_
  refine wS_end (by rfl) ?_
  refine eX_then ?_
  refine cW_seq ?_
  refine cW_seq ?_
  refine cW_region ?_
  refine wS_pure 2 [(21, .bool (decide (y3 < 0))), (20, .int .i64 (y3))] (by kernel_rfl) ?_
  refine wS_end (by rfl) ?_
  refine eX_then ?_
  refine cW_cond (t := decide (y3 < 0)) (by kernel_rfl) (fun hb7 => ?_) (fun hb7 => ?_)
  · have hm := condT hb7 hm
    refine cW_seq ?_
    refine cW_region ?_
    refine wS_pure 1 [(4, .bool (true))] (by kernel_rfl) ?_
    refine wS_end (by rfl) ?_
    refine eX_then ?_
    refine cW_ret ?_
    refine eX_then_ret ?_
    have hq : (some true : Option ((Bool))) = some _ := hm
    replace hq := someE hq
    subst hq
    refine eX_ret (vs := [.bool (true)]) [.tmp 4] (by rfl) ⟨by (show lkE _ _ _ = _); kernel_rfl, trivial⟩ ?_
    exact ⟨rfl, hB⟩
  · have hm := condF hb7 hm
    refine cW_skip ?_
    refine eX_then ?_
    refine cW_seq ?_
    refine cW_region ?_
    refine wS_pure 2 [(23, .int .i64 (y3)), (22, .slice A1 (l1).length cap1)] (by kernel_rfl) ?_
    obtain ⟨y8, hy9, hm⟩ := bindE hm
    refine wS_calls (d := 24) (f := 36) (vs := [.slice A1 (l1).length cap1, .int .i64 (y3)]) (by kernel_rfl) ent36 (c_laws_szInt64SS hy9 F1) ?_
    rintro _ w10 ⟨rfl, hc11⟩
    replace F0 := F0.chg hc11 Dj.nil
    replace F1 := F1.chg hc11 Dj.nil
    replace hB := hB.inS hc11 inNil
    replace hZ := Nat.le_trans hZ hc11.size
    refine ⟨.int .i64 (y8), rfl, ?_⟩
    refine wS_pure 1 [(5, .int .i64 (y8))] (by kernel_rfl) ?_
    refine wS_end (by rfl) ?_
    refine eX_then ?_
    refine cW_seq ?_
    refine cW_seq ?_
    refine cW_region ?_
    refine wS_pure 2 [(26, .bool (decide (y8 < 0))), (25, .int .i64 (y8))] (by kernel_rfl) ?_
    refine wS_end (by rfl) ?_
    refine eX_then ?_
    refine cW_cond (t := decide (y8 < 0)) (by kernel_rfl) (fun hb12 => ?_) (fun hb12 => ?_)
    · have hm := condT hb12 hm
      refine cW_seq ?_
      refine cW_region ?_
      refine wS_pure 1 [(4, .bool (true))] (by kernel_rfl) ?_
      refine wS_end (by rfl) ?_
      refine eX_then ?_
      refine cW_ret ?_
      refine eX_then_ret ?_
      have hq : (some true : Option ((Bool))) = some _ := hm
      replace hq := someE hq
      subst hq
      refine eX_ret (vs := [.bool (true)]) [.tmp 4] (by rfl) ⟨by (show lkE _ _ _ = _); kernel_rfl, trivial⟩ ?_
      exact ⟨rfl, hB⟩
    · have hm := condF hb12 hm
      refine cW_skip ?_
      refine eX_then ?_
      refine cW_seq ?_
      refine cW_region ?_
      refine wS_pure 1 [(28, .slice A0 (l0).length cap0)] (by kernel_rfl) ?_
      obtain ⟨y13, hy14, hm⟩ := bindE hm
      refine wS_calls (d := 29) (f := 46) (vs := [.slice A0 (l0).length cap0]) (by kernel_rfl) ent46 (c_laws_toPointS hy14 F0) ?_
      rintro _ w15 ⟨A17, cap18, fp19, rfl, F20, G21, hc16⟩
      replace F0 := F0.chg hc16 Dj.nil
      replace F1 := F1.chg hc16 Dj.nil
      replace hB := hB.inS hc16 inNil
      replace G21 := low_le hZ G21
      replace hZ := Nat.le_trans hZ hc16.size
      refine ⟨.slice A17 (y13).length cap18, rfl, ?_⟩
      refine wS_pure 1 [(30, .slice A1 (l1).length cap1)] (by kernel_rfl) ?_
      obtain ⟨y24, hy25, hm⟩ := bindE hm
      refine wS_calls (d := 31) (f := 38) (vs := [.slice A1 (l1).length cap1]) (by kernel_rfl) ent38 (c_laws_toInt64SS hy25 F1) ?_
      rintro _ w26 ⟨A28, cap29, fp30, fr33, rfl, F31, G32, hc27⟩
      have D35 : Dj fp19 (fp30 ++ fr33) := Dj.of F20.low G32
      replace F0 := F0.chg hc27 Dj.nil
      replace F1 := F1.chg hc27 Dj.nil
      replace F20 := F20.chg hc27 Dj.nil
      replace hB := hB.inS hc27 inNil
      replace G32 := low_le hZ G32
      replace hZ := Nat.le_trans hZ hc27.size
      refine ⟨.slice A28 (y24).length cap29, rfl, ?_⟩
      obtain ⟨y36, hy37, hm⟩ := bindE hm
      refine wS_calls (d := 32) (f := 69) (vs := [.slice A17 (y13).length cap18, .slice A28 (y24).length cap29]) (by kernel_rfl) ent69 (c_spec_ClockWires hy37 (F20.sl encII_ok) (F31.slr encI_ok)) ?_
      rintro _ w38 ⟨A40, cap41, fp42, rfl, F43, G44, hc39⟩
      have D47 : Dj fp19 fp42 := Dj.of F20.low G44
      have D48 : Dj (fp30 ++ fr33) fp42 := Dj.of F31.low G44
      replace F0 := F0.chg hc39 Dj.nil
      replace F1 := F1.chg hc39 Dj.nil
      replace F20 := F20.chg hc39 Dj.nil
      replace F31 := F31.chg hc39 Dj.nil
      replace hB := hB.inS hc39 inNil
      replace G44 := low_le hZ G44
      replace hZ := Nat.le_trans hZ hc39.size
      refine ⟨.tuple #[.slice A40 (y36.1).length cap41, .bool (y36.2)], rfl, ?_⟩
      refine wS_pure 5 [(7, .bool (y36.2)), (6, .slice A40 (y36.1).length cap41), (34, .bool (y36.2)), (33, .slice A40 (y36.1).length cap41), (27, .tuple #[.slice A40 (y36.1).length cap41, .bool (y36.2)])] (by kernel_rfl) ?_
      refine wS_end (by rfl) ?_
      refine eX_then ?_
      refine cW_prune [(0, .slice A0 (l0).length cap0), (1, .slice A1 (l1).length cap1), (6, .slice A40 (y36.1).length cap41), (7, .bool (y36.2))] (by kernel_rfl) (by kernel_rfl) (fun a49 => ?_)
      refine cW_seq ?_
      refine cW_region ?_
      refine wS_pure 1 [(35, .slice A0 (l0).length cap0)] (by kernel_rfl) ?_
      obtain ⟨y50, hy51, hm⟩ := bindE hm
      refine wS_calls (d := 36) (f := 46) (vs := [.slice A0 (l0).length cap0]) (by kernel_rfl) ent46 (c_laws_toPointS hy51 F0) ?_
      rintro _ w52 ⟨A54, cap55, fp56, rfl, F57, G58, hc53⟩
      have D61 : Dj fp19 fp56 := Dj.of F20.low G58
      have D62 : Dj (fp30 ++ fr33) fp56 := Dj.of F31.low G58
      have D63 : Dj fp42 fp56 := Dj.of F43.low G58
      replace F0 := F0.chg hc53 Dj.nil
      replace F1 := F1.chg hc53 Dj.nil
      replace F20 := F20.chg hc53 Dj.nil
      replace F31 := F31.chg hc53 Dj.nil
      replace F43 := F43.chg hc53 Dj.nil
      replace hB := hB.inS hc53 inNil
      replace G58 := low_le hZ G58
      replace hZ := Nat.le_trans hZ hc53.size
      refine ⟨.slice A54 (y50).length cap55, rfl, ?_⟩
      refine wS_pure 1 [(8, .slice A54 (y50).length cap55)] (by kernel_rfl) ?_
      refine wS_end (by rfl) ?_
      refine eX_then ?_
      refine cW_seq ?_
      refine cW_region ?_
      refine wS_pure 1 [(37, .slice A1 (l1).length cap1)] (by kernel_rfl) ?_
      obtain ⟨y64, hy65, hm⟩ := bindE hm
      refine wS_calls (d := 38) (f := 38) (vs := [.slice A1 (l1).length cap1]) (by kernel_rfl) ent38 (c_laws_toInt64SS hy65 F1) ?_
      rintro _ w66 ⟨A68, cap69, fp70, fr73, rfl, F71, G72, hc67⟩
      have D75 : Dj fp19 (fp70 ++ fr73) := Dj.of F20.low G72
      have D76 : Dj (fp30 ++ fr33) (fp70 ++ fr73) := Dj.of F31.low G72
      have D77 : Dj fp42 (fp70 ++ fr73) := Dj.of F43.low G72
      have D78 : Dj fp56 (fp70 ++ fr73) := Dj.of F57.low G72
      replace F0 := F0.chg hc67 Dj.nil
      replace F1 := F1.chg hc67 Dj.nil
      replace F20 := F20.chg hc67 Dj.nil
      replace F31 := F31.chg hc67 Dj.nil
      replace F43 := F43.chg hc67 Dj.nil
      replace F57 := F57.chg hc67 Dj.nil
      replace hB := hB.inS hc67 inNil
      replace G72 := low_le hZ G72
      replace hZ := Nat.le_trans hZ hc67.size
      refine ⟨.slice A68 (y64).length cap69, rfl, ?_⟩
      refine wS_pure 1 [(9, .slice A68 (y64).length cap69)] (by kernel_rfl) ?_
      refine wS_end (by rfl) ?_
      refine eX_then ?_
      refine cW_seq ?_
      refine cW_region ?_
      refine wS_pure 2 [(41, .slice A68 (y64).length cap69), (40, .slice A54 (y50).length cap55)] (by kernel_rfl) ?_
      obtain ⟨y79, hy80, hm⟩ := bindE hm
      refine wS_calls (d := 42) (f := 59) (vs := [.slice A54 (y50).length cap55, .slice A68 (y64).length cap69]) (by kernel_rfl) ent59 (c_impl_ClockWires hy80 (F57.sl encII_ok) (F71.slr encI_ok)) ?_
      rintro _ w81 ⟨A83, cap84, fp85, rfl, F86, G87, hc82⟩
      have D90 : Dj fp19 fp85 := Dj.of F20.low G87
      have D91 : Dj (fp30 ++ fr33) fp85 := Dj.of F31.low G87
      have D92 : Dj fp42 fp85 := Dj.of F43.low G87
      have D93 : Dj fp56 fp85 := Dj.of F57.low G87
      have D94 : Dj (fp70 ++ fr73) fp85 := Dj.of F71.low G87
      replace F0 := F0.chg hc82 Dj.nil
      replace F1 := F1.chg hc82 Dj.nil
      replace F20 := F20.chg hc82 Dj.nil
      replace F31 := F31.chg hc82 Dj.nil
      replace F43 := F43.chg hc82 Dj.nil
      replace F57 := F57.chg hc82 Dj.nil
      replace F71 := F71.chg hc82 Dj.nil
      replace hB := hB.inS hc82 inNil
      replace G87 := low_le hZ G87
      replace hZ := Nat.le_trans hZ hc82.size
      refine ⟨.tuple #[.slice A83 (y79.1).length cap84, .bool (y79.2)], rfl, ?_⟩
      refine wS_pure 5 [(11, .bool (y79.2)), (10, .slice A83 (y79.1).length cap84), (44, .bool (y79.2)), (43, .slice A83 (y79.1).length cap84), (39, .tuple #[.slice A83 (y79.1).length cap84, .bool (y79.2)])] (by kernel_rfl) ?_
      refine wS_end (by rfl) ?_
      refine eX_then ?_
      refine cW_seq ?_
      refine cW_seq ?_
      refine cW_region ?_
      refine wS_pure 2 [(46, .slice A40 (y36.1).length cap41), (45, .slice A83 (y79.1).length cap84)] (by kernel_rfl) ?_
      obtain ⟨y95, hy96, hm⟩ := bindE hm
      refine wS_calls (d := 47) (f := 55) (vs := [.slice A83 (y79.1).length cap84, .slice A40 (y36.1).length cap41]) (by kernel_rfl) ent55 (c_laws_eqInt64S hy96 (F86.sl encI_ok) (F43.sl encI_ok)) ?_
      rintro _ w97 ⟨rfl, hc98⟩
      replace F0 := F0.chg hc98 Dj.nil
      replace F1 := F1.chg hc98 Dj.nil
      replace F20 := F20.chg hc98 Dj.nil
      replace F31 := F31.chg hc98 Dj.nil
      replace F43 := F43.chg hc98 Dj.nil
      replace F57 := F57.chg hc98 Dj.nil
      replace F71 := F71.chg hc98 Dj.nil
      replace F86 := F86.chg hc98 Dj.nil
      replace hB := hB.inS hc98 inNil
      replace hZ := Nat.le_trans hZ hc98.size
      refine ⟨.bool (y95), rfl, ?_⟩
      refine wS_pure 2 [(49, .bool (!y95)), (48, .bool (!y95))] (by kernel_rfl) ?_
      refine wS_bool (!y95) (fun hb99 => ?_) (fun hb99 => ?_)
      · have hm := condT hb99 hm
        rewrite [hb99]
        refine wS_pure 4 [(53, .bool (true)), (52, undef), (51, undef), (50, undef)] (by kernel_rfl) ?_
        refine wS_end (by rfl) ?_
        refine eX_then ?_
        refine cW_prune [(0, .slice A0 (l0).length cap0), (1, .slice A1 (l1).length cap1), (6, .slice A40 (y36.1).length cap41), (7, .bool (y36.2)), (8, .slice A54 (y50).length cap55), (9, .slice A68 (y64).length cap69), (10, .slice A83 (y79.1).length cap84), (11, .bool (y79.2)), (53, .bool (true))] (by kernel_rfl) (by kernel_rfl) (fun a100 => ?_)
        refine cW_cond_t (by kernel_rfl) ?_
        refine cW_seq ?_
        refine cW_region ?_
        refine wS_pure 1 [(4, .bool (false))] (by kernel_rfl) ?_
        refine wS_end (by rfl) ?_
        refine eX_then ?_
        refine cW_ret ?_
        refine eX_then_ret ?_
        have hq : (some false : Option ((Bool))) = some _ := hm
        replace hq := someE hq
        subst hq
        refine eX_ret (vs := [.bool (false)]) [.tmp 4] (by rfl) ⟨by (show lkE _ _ _ = _); kernel_rfl, trivial⟩ ?_
        exact ⟨rfl, hB⟩
      · have hm := condF hb99 hm
        rewrite [hb99]
        refine wS_pure 4 [(53, .bool (!(y79.2 == y36.2))), (52, .bool (!(y79.2 == y36.2))), (51, .bool (y36.2)), (50, .bool (y79.2))] (by kernel_rfl) ?_
        refine wS_end (by rfl) ?_
        refine eX_then ?_
        refine cW_prune [(0, .slice A0 (l0).length cap0), (1, .slice A1 (l1).length cap1), (6, .slice A40 (y36.1).length cap41), (7, .bool (y36.2)), (8, .slice A54 (y50).length cap55), (9, .slice A68 (y64).length cap69), (10, .slice A83 (y79.1).length cap84), (11, .bool (y79.2)), (53, .bool (!(y79.2 == y36.2)))] (by kernel_rfl) (by kernel_rfl) (fun a101 => ?_)
        refine cW_cond (t := !(y79.2 == y36.2)) (by kernel_rfl) (fun hb102 => ?_) (fun hb102 => ?_)
        · have hm := condT hb102 hm
          refine cW_seq ?_
          refine cW_region ?_
          refine wS_pure 1 [(4, .bool (false))] (by kernel_rfl) ?_
          refine wS_end (by rfl) ?_
          refine eX_then ?_
          refine cW_ret ?_
          refine eX_then_ret ?_
          have hq : (some false : Option ((Bool))) = some _ := hm
          replace hq := someE hq
          subst hq
          refine eX_ret (vs := [.bool (false)]) [.tmp 4] (by rfl) ⟨by (show lkE _ _ _ = _); kernel_rfl, trivial⟩ ?_
          exact ⟨rfl, hB⟩
        · have hm := condF hb102 hm
          refine cW_skip ?_
          refine eX_then ?_
          refine cW_seq ?_
          refine cW_seq ?_
          refine cW_region ?_
          refine wS_pure 2 [(55, .slice A0 (l0).length cap0), (54, .slice A54 (y50).length cap55)] (by kernel_rfl) ?_
          obtain ⟨y103, hy104, hm⟩ := bindE hm
          refine wS_calls (d := 56) (f := 46) (vs := [.slice A0 (l0).length cap0]) (by kernel_rfl) ent46 (c_laws_toPointS hy104 F0) ?_
          rintro _ w105 ⟨A107, cap108, fp109, rfl, F110, G111, hc106⟩
          have D114 : Dj fp19 fp109 := Dj.of F20.low G111
          have D115 : Dj (fp30 ++ fr33) fp109 := Dj.of F31.low G111
          have D116 : Dj fp42 fp109 := Dj.of F43.low G111
          have D117 : Dj fp56 fp109 := Dj.of F57.low G111
          have D118 : Dj (fp70 ++ fr73) fp109 := Dj.of F71.low G111
          have D119 : Dj fp85 fp109 := Dj.of F86.low G111
          replace F0 := F0.chg hc106 Dj.nil
          replace F1 := F1.chg hc106 Dj.nil
          replace F20 := F20.chg hc106 Dj.nil
          replace F31 := F31.chg hc106 Dj.nil
          replace F43 := F43.chg hc106 Dj.nil
          replace F57 := F57.chg hc106 Dj.nil
          replace F71 := F71.chg hc106 Dj.nil
          replace F86 := F86.chg hc106 Dj.nil
          replace hB := hB.inS hc106 inNil
          replace G111 := low_le hZ G111
          replace hZ := Nat.le_trans hZ hc106.size
          refine ⟨.slice A107 (y103).length cap108, rfl, ?_⟩
          obtain ⟨y120, hy121, hm⟩ := bindE hm
          refine wS_calls (d := 57) (f := 48) (vs := [.slice A54 (y50).length cap55, .slice A107 (y103).length cap108]) (by kernel_rfl) ent48 (c_laws_eqPointS hy121 (F57.sl encII_ok) (F110.sl encII_ok)) ?_
          rintro _ w122 ⟨rfl, hc123⟩
          replace F0 := F0.chg hc123 Dj.nil
          replace F1 := F1.chg hc123 Dj.nil
          replace F20 := F20.chg hc123 Dj.nil
          replace F31 := F31.chg hc123 Dj.nil
          replace F43 := F43.chg hc123 Dj.nil
          replace F57 := F57.chg hc123 Dj.nil
          replace F71 := F71.chg hc123 Dj.nil
          replace F86 := F86.chg hc123 Dj.nil
          replace F110 := F110.chg hc123 Dj.nil
          replace hB := hB.inS hc123 inNil
          replace hZ := Nat.le_trans hZ hc123.size
          refine ⟨.bool (y120), rfl, ?_⟩
          refine wS_pure 1 [(58, .bool (!y120))] (by kernel_rfl) ?_
          refine wS_end (by rfl) ?_
          refine eX_then ?_
          refine cW_cond (t := !y120) (by kernel_rfl) (fun hb124 => ?_) (fun hb124 => ?_)
          · have hm := condT hb124 hm
            refine cW_seq ?_
            refine cW_region ?_
            refine wS_pure 1 [(4, .bool (false))] (by kernel_rfl) ?_
            refine wS_end (by rfl) ?_
            refine eX_then ?_
            refine cW_ret ?_
            refine eX_then_ret ?_
            have hq : (some false : Option ((Bool))) = some _ := hm
            replace hq := someE hq
            subst hq
            refine eX_ret (vs := [.bool (false)]) [.tmp 4] (by rfl) ⟨by (show lkE _ _ _ = _); kernel_rfl, trivial⟩ ?_
            exact ⟨rfl, hB⟩
          · have hm := condF hb124 hm
            refine cW_skip ?_
            refine eX_then ?_
            refine cW_seq ?_
            refine cW_seq ?_
            refine cW_region ?_
            refine wS_pure 2 [(60, .slice A1 (l1).length cap1), (59, .slice A68 (y64).length cap69)] (by kernel_rfl) ?_
            obtain ⟨y125, hy126, hm⟩ := bindE hm
            refine wS_calls (d := 61) (f := 38) (vs := [.slice A1 (l1).length cap1]) (by kernel_rfl) ent38 (c_laws_toInt64SS hy126 F1) ?_
            rintro _ w127 ⟨A129, cap130, fp131, fr134, rfl, F132, G133, hc128⟩
            have D136 : Dj fp19 (fp131 ++ fr134) := Dj.of F20.low G133
            have D137 : Dj (fp30 ++ fr33) (fp131 ++ fr134) := Dj.of F31.low G133
            have D138 : Dj fp42 (fp131 ++ fr134) := Dj.of F43.low G133
            have D139 : Dj fp56 (fp131 ++ fr134) := Dj.of F57.low G133
            have D140 : Dj (fp70 ++ fr73) (fp131 ++ fr134) := Dj.of F71.low G133
            have D141 : Dj fp85 (fp131 ++ fr134) := Dj.of F86.low G133
            have D142 : Dj fp109 (fp131 ++ fr134) := Dj.of F110.low G133
            replace F0 := F0.chg hc128 Dj.nil
            replace F1 := F1.chg hc128 Dj.nil
            replace F20 := F20.chg hc128 Dj.nil
            replace F31 := F31.chg hc128 Dj.nil
            replace F43 := F43.chg hc128 Dj.nil
            replace F57 := F57.chg hc128 Dj.nil
            replace F71 := F71.chg hc128 Dj.nil
            replace F86 := F86.chg hc128 Dj.nil
            replace F110 := F110.chg hc128 Dj.nil
            replace hB := hB.inS hc128 inNil
            replace G133 := low_le hZ G133
            replace hZ := Nat.le_trans hZ hc128.size
            refine ⟨.slice A129 (y125).length cap130, rfl, ?_⟩
            obtain ⟨y143, hy144, hm⟩ := bindE hm
            refine wS_calls (d := 62) (f := 40) (vs := [.slice A68 (y64).length cap69, .slice A129 (y125).length cap130]) (by kernel_rfl) ent40 (c_laws_eqInt64SS hy144 (F71.slr encI_ok) (F132.slr encI_ok)) ?_
            rintro _ w145 ⟨rfl, hc146⟩
            replace F0 := F0.chg hc146 Dj.nil
            replace F1 := F1.chg hc146 Dj.nil
            replace F20 := F20.chg hc146 Dj.nil
            replace F31 := F31.chg hc146 Dj.nil
            replace F43 := F43.chg hc146 Dj.nil
            replace F57 := F57.chg hc146 Dj.nil
            replace F71 := F71.chg hc146 Dj.nil
            replace F86 := F86.chg hc146 Dj.nil
            replace F110 := F110.chg hc146 Dj.nil
            replace F132 := F132.chg hc146 Dj.nil
            replace hB := hB.inS hc146 inNil
            replace hZ := Nat.le_trans hZ hc146.size
            refine ⟨.bool (y143), rfl, ?_⟩
            refine wS_pure 1 [(63, .bool (!y143))] (by kernel_rfl) ?_
            refine wS_end (by rfl) ?_
            refine eX_then ?_
            refine cW_cond (t := !y143) (by kernel_rfl) (fun hb147 => ?_) (fun hb147 => ?_)
            · have hm := condT hb147 hm
              refine cW_seq ?_
              refine cW_region ?_
              refine wS_pure 1 [(4, .bool (false))] (by kernel_rfl) ?_
              refine wS_end (by rfl) ?_
              refine eX_then ?_
              refine cW_ret ?_
              refine eX_then_ret ?_
              have hq : (some false : Option ((Bool))) = some _ := hm
              replace hq := someE hq
              subst hq
              refine eX_ret (vs := [.bool (false)]) [.tmp 4] (by rfl) ⟨by (show lkE _ _ _ = _); kernel_rfl, trivial⟩ ?_
              exact ⟨rfl, hB⟩
            · have hm := condF hb147 hm
              refine cW_skip ?_
              refine eX_then ?_
              refine cW_seq ?_
              refine cW_region ?_
              refine wS_pure 1 [(12, .int .i64 (1))] (by kernel_rfl) ?_
              refine wS_end (by rfl) ?_
              refine eX_then ?_
              refine cW_seq ?_
              refine cW_region ?_
              refine wS_pure 2 [(65, .int .i64 (1)), (64, .slice A54 (y50).length cap55)] (by kernel_rfl) ?_
              obtain ⟨y148, hy149, hm⟩ := bindE hm
              refine wS_calls (d := 66) (f := 66) (vs := [.slice A54 (y50).length cap55, .int .i64 (1)]) (by kernel_rfl) ent66 (c_laws_markPointS hy149 F57) ?_
              rintro _ w150 ⟨rfl, F152, hl153, hc151⟩
              replace F0 := F0.chg hc151 (Dj.app (Dj.of L0 G58) Dj.nil)
              replace F1 := F1.chg hc151 (Dj.app (Dj.of L1 G58) Dj.nil)
              replace F20 := F20.chg hc151 (Dj.app D61 Dj.nil)
              replace F31 := F31.chg hc151 (Dj.app D62 Dj.nil)
              replace F43 := F43.chg hc151 (Dj.app D63 Dj.nil)
              replace F71 := F71.chg hc151 (Dj.app (D78).symm Dj.nil)
              replace F86 := F86.chg hc151 (Dj.app (D93).symm Dj.nil)
              replace F110 := F110.chg hc151 (Dj.app (D117).symm Dj.nil)
              replace F132 := F132.chg hc151 (Dj.app (D139).symm Dj.nil)
              replace hB := hB.inS hc151 (inApp (inLow G58) inNil)
              replace hZ := Nat.le_trans hZ hc151.size
              clear F57
              refine ⟨.int .i64 (y148.1), rfl, ?_⟩
              rewrite [(show (y50).length = (y148.2).length from hl153.symm)]
              refine wS_pure 1 [(12, .int .i64 (y148.1))] (by kernel_rfl) ?_
              refine wS_end (by rfl) ?_
              refine eX_then ?_
              refine cW_seq ?_
              refine cW_region ?_
              refine wS_pure 2 [(68, .int .i64 (y148.1)), (67, .slice A68 (y64).length cap69)] (by kernel_rfl) ?_
              obtain ⟨y154, hy155, hm⟩ := bindE hm
              refine wS_calls (d := 69) (f := 67) (vs := [.slice A68 (y64).length cap69, .int .i64 (y148.1)]) (by kernel_rfl) ent67 (c_laws_markInt64SS hy155 F71) ?_
              rintro _ w156 ⟨rfl, F158, hl159, hc157⟩
              replace F0 := F0.chg hc157 (Dj.app (Dj.of L0 G72) Dj.nil)
              replace F1 := F1.chg hc157 (Dj.app (Dj.of L1 G72) Dj.nil)
              replace F20 := F20.chg hc157 (Dj.app D75 Dj.nil)
              replace F31 := F31.chg hc157 (Dj.app D76 Dj.nil)
              replace F43 := F43.chg hc157 (Dj.app D77 Dj.nil)
              replace F152 := F152.chg hc157 (Dj.app D78 Dj.nil)
              replace F86 := F86.chg hc157 (Dj.app (D94).symm Dj.nil)
              replace F110 := F110.chg hc157 (Dj.app (D118).symm Dj.nil)
              replace F132 := F132.chg hc157 (Dj.app (D140).symm Dj.nil)
              replace hB := hB.inS hc157 (inApp (inLow G72) inNil)
              replace hZ := Nat.le_trans hZ hc157.size
              clear F71
              refine ⟨.int .i64 (y154.1), rfl, ?_⟩
              rewrite [(show (y64).length = (y154.2).length from hl159.symm)]
              refine wS_pure 1 [(12, .int .i64 (y154.1))] (by kernel_rfl) ?_
              refine wS_end (by rfl) ?_
              refine eX_then ?_
              refine cW_prune [(0, .slice A0 (l0).length cap0), (1, .slice A1 (l1).length cap1), (6, .slice A40 (y36.1).length cap41), (7, .bool (y36.2)), (10, .slice A83 (y79.1).length cap84), (11, .bool (y79.2)), (12, .int .i64 (y154.1))] (by kernel_rfl) (by kernel_rfl) (fun a160 => ?_)
              refine cW_seq ?_
              refine cW_seq ?_
              refine cW_region ?_
              refine wS_pure 3 [(72, .bool (decide (y154.1 < 0))), (71, .bool (decide (y154.1 < 0))), (70, .int .i64 (y154.1))] (by kernel_rfl) ?_
              refine wS_bool (decide (y154.1 < 0)) (fun hb161 => ?_) (fun hb161 => ?_)
              · have hm := condT hb161 hm
                rewrite [hb161]
                refine wS_pure 10 [(82, .bool (true)), (81, undef), (80, undef), (79, undef), (78, .bool (true)), (77, .bool (true)), (76, undef), (75, undef), (74, undef), (73, undef)] (by kernel_rfl) ?_
                refine wS_end (by rfl) ?_
                refine eX_then ?_
                refine cW_cond_t (by kernel_rfl) ?_
                refine cW_seq ?_
                refine cW_region ?_
                refine wS_pure 1 [(4, .bool (false))] (by kernel_rfl) ?_
                refine wS_end (by rfl) ?_
                refine eX_then ?_
                refine cW_ret ?_
                refine eX_then_ret ?_
                have hq : (some false : Option ((Bool))) = some _ := hm
                replace hq := someE hq
                subst hq
                refine eX_ret (vs := [.bool (false)]) [.tmp 4] (by rfl) ⟨by (show lkE _ _ _ = _); kernel_rfl, trivial⟩ ?_
                exact ⟨rfl, hB⟩
              · have hm := condF hb161 hm
                rewrite [hb161]
                refine wS_pure 2 [(74, .slice A40 (y36.1).length cap41), (73, .slice A83 (y79.1).length cap84)] (by kernel_rfl) ?_
                obtain ⟨y162, hy163, hm⟩ := bindE hm
                refine wS_calls (d := 75) (f := 55) (vs := [.slice A83 (y79.1).length cap84, .slice A40 (y36.1).length cap41]) (by kernel_rfl) ent55 (c_laws_eqInt64S hy163 (F86.sl encI_ok) (F43.sl encI_ok)) ?_
                rintro _ w164 ⟨rfl, hc165⟩
                replace F0 := F0.chg hc165 Dj.nil
                replace F1 := F1.chg hc165 Dj.nil
                replace F20 := F20.chg hc165 Dj.nil
                replace F31 := F31.chg hc165 Dj.nil
                replace F43 := F43.chg hc165 Dj.nil
                replace F152 := F152.chg hc165 Dj.nil
                replace F158 := F158.chg hc165 Dj.nil
                replace F86 := F86.chg hc165 Dj.nil
                replace F110 := F110.chg hc165 Dj.nil
                replace F132 := F132.chg hc165 Dj.nil
                replace hB := hB.inS hc165 inNil
                replace hZ := Nat.le_trans hZ hc165.size
                refine ⟨.bool (y162), rfl, ?_⟩
                refine wS_pure 3 [(78, .bool (!y162)), (77, .bool (!y162)), (76, .bool (!y162))] (by kernel_rfl) ?_
                refine wS_bool (!y162) (fun hb166 => ?_) (fun hb166 => ?_)
                · have hm := condT hb166 hm
                  rewrite [hb166]
                  refine wS_pure 4 [(82, .bool (true)), (81, undef), (80, undef), (79, undef)] (by kernel_rfl) ?_
                  refine wS_end (by rfl) ?_
                  refine eX_then ?_
                  refine cW_cond_t (by kernel_rfl) ?_
                  refine cW_seq ?_
                  refine cW_region ?_
                  refine wS_pure 1 [(4, .bool (false))] (by kernel_rfl) ?_
                  refine wS_end (by rfl) ?_
                  refine eX_then ?_
                  refine cW_ret ?_
                  refine eX_then_ret ?_
                  have hq : (some false : Option ((Bool))) = some _ := hm
                  replace hq := someE hq
                  subst hq
                  refine eX_ret (vs := [.bool (false)]) [.tmp 4] (by rfl) ⟨by (show lkE _ _ _ = _); kernel_rfl, trivial⟩ ?_
                  exact ⟨rfl, hB⟩
                · have hm := condF hb166 hm
                  rewrite [hb166]
                  refine wS_pure 4 [(82, .bool (!(y79.2 == y36.2))), (81, .bool (!(y79.2 == y36.2))), (80, .bool (y36.2)), (79, .bool (y79.2))] (by kernel_rfl) ?_
                  refine wS_end (by rfl) ?_
                  refine eX_then ?_
                  refine cW_cond (t := !(y79.2 == y36.2)) (by kernel_rfl) (fun hb167 => ?_) (fun hb167 => ?_)
                  · have hm := condT hb167 hm
                    refine cW_seq ?_
                    refine cW_region ?_
                    refine wS_pure 1 [(4, .bool (false))] (by kernel_rfl) ?_
                    refine wS_end (by rfl) ?_
                    refine eX_then ?_
                    refine cW_ret ?_
                    refine eX_then_ret ?_
                    have hq : (some false : Option ((Bool))) = some _ := hm
                    replace hq := someE hq
                    subst hq
                    refine eX_ret (vs := [.bool (false)]) [.tmp 4] (by rfl) ⟨by (show lkE _ _ _ = _); kernel_rfl, trivial⟩ ?_
                    exact ⟨rfl, hB⟩
                  · have hm := condF hb167 hm
                    refine cW_skip ?_
                    refine eX_then ?_
                    refine cW_seq ?_
                    refine cW_region ?_
                    refine wS_pure 1 [(13, .int .i64 (1))] (by kernel_rfl) ?_
                    refine wS_end (by rfl) ?_
                    refine eX_then ?_
                    refine cW_seq ?_
                    refine cW_region ?_
                    refine wS_pure 2 [(84, .int .i64 (1)), (83, .slice A83 (y79.1).length cap84)] (by kernel_rfl) ?_
                    obtain ⟨y168, hy169, hm⟩ := bindE hm
                    refine wS_calls (d := 85) (f := 70) (vs := [.slice A83 (y79.1).length cap84, .int .i64 (1)]) (by kernel_rfl) ent70 (c_laws_markInt64S hy169 F86) ?_
                    rintro _ w170 ⟨rfl, F172, hl173, hc171⟩
                    replace F0 := F0.chg hc171 (Dj.app (Dj.of L0 G87) Dj.nil)
                    replace F1 := F1.chg hc171 (Dj.app (Dj.of L1 G87) Dj.nil)
                    replace F20 := F20.chg hc171 (Dj.app D90 Dj.nil)
                    replace F31 := F31.chg hc171 (Dj.app D91 Dj.nil)
                    replace F43 := F43.chg hc171 (Dj.app D92 Dj.nil)
                    replace F152 := F152.chg hc171 (Dj.app D93 Dj.nil)
                    replace F158 := F158.chg hc171 (Dj.app D94 Dj.nil)
                    replace F110 := F110.chg hc171 (Dj.app (D119).symm Dj.nil)
                    replace F132 := F132.chg hc171 (Dj.app (D141).symm Dj.nil)
                    replace hB := hB.inS hc171 (inApp (inLow G87) inNil)
                    replace hZ := Nat.le_trans hZ hc171.size
                    clear F86
                    refine ⟨.int .i64 (y168.1), rfl, ?_⟩
                    rewrite [(show (y79.1).length = (y168.2).length from hl173.symm)]
                    refine wS_pure 1 [(13, .int .i64 (y168.1))] (by kernel_rfl) ?_
                    refine wS_end (by rfl) ?_
                    refine eX_then ?_
                    refine cW_prune [(0, .slice A0 (l0).length cap0), (1, .slice A1 (l1).length cap1), (6, .slice A40 (y36.1).length cap41), (7, .bool (y36.2)), (10, .slice A83 (y168.2).length cap84), (13, .int .i64 (y168.1))] (by kernel_rfl) (by kernel_rfl) (fun a174 => ?_)
                    refine cW_seq ?_
                    refine cW_region ?_
                    refine wS_pure 1 [(14, .int .i64 (1))] (by kernel_rfl) ?_
                    refine wS_end (by rfl) ?_
                    refine eX_then ?_
                    refine cW_seq ?_
                    refine cW_region ?_
                    refine wS_pure 2 [(87, .int .i64 (1)), (86, .slice A83 (y168.2).length cap84)] (by kernel_rfl) ?_
                    obtain ⟨y175, hy176, hm⟩ := bindE hm
                    refine wS_calls (d := 88) (f := 71) (vs := [.slice A83 (y168.2).length cap84, .int .i64 (1)]) (by kernel_rfl) ent71 (c_laws_heldInt64S hy176 (F172.sl encI_ok)) ?_
                    rintro _ w177 ⟨rfl, hc178⟩
                    replace F0 := F0.chg hc178 Dj.nil
                    replace F1 := F1.chg hc178 Dj.nil
                    replace F20 := F20.chg hc178 Dj.nil
                    replace F31 := F31.chg hc178 Dj.nil
                    replace F43 := F43.chg hc178 Dj.nil
                    replace F152 := F152.chg hc178 Dj.nil
                    replace F158 := F158.chg hc178 Dj.nil
                    replace F172 := F172.chg hc178 Dj.nil
                    replace F110 := F110.chg hc178 Dj.nil
                    replace F132 := F132.chg hc178 Dj.nil
                    replace hB := hB.inS hc178 inNil
                    replace hZ := Nat.le_trans hZ hc178.size
                    refine ⟨.int .i64 (y175), rfl, ?_⟩
                    refine wS_pure 1 [(14, .int .i64 (y175))] (by kernel_rfl) ?_
                    refine wS_end (by rfl) ?_
                    refine eX_then ?_
                    refine cW_seq ?_
                    refine cW_seq ?_
                    refine cW_region ?_
                    refine wS_pure 2 [(90, .bool (decide (y175 < 0))), (89, .int .i64 (y175))] (by kernel_rfl) ?_
                    refine wS_end (by rfl) ?_
                    refine eX_then ?_
                    refine cW_cond (t := decide (y175 < 0)) (by kernel_rfl) (fun hb179 => ?_) (fun hb179 => ?_)
                    · have hm := condT hb179 hm
                      refine cW_seq ?_
                      refine cW_region ?_
                      refine wS_pure 1 [(4, .bool (false))] (by kernel_rfl) ?_
                      refine wS_end (by rfl) ?_
                      refine eX_then ?_
                      refine cW_ret ?_
                      refine eX_then_ret ?_
                      have hq : (some false : Option ((Bool))) = some _ := hm
                      replace hq := someE hq
                      subst hq
                      refine eX_ret (vs := [.bool (false)]) [.tmp 4] (by rfl) ⟨by (show lkE _ _ _ = _); kernel_rfl, trivial⟩ ?_
                      exact ⟨rfl, hB⟩
                    · have hm := condF hb179 hm
                      refine cW_skip ?_
                      refine eX_then ?_
                      refine cW_seq ?_
                      refine cW_seq ?_
                      refine cW_region ?_
                      refine wS_pure 3 [(93, .bool (y175 != y168.1)), (92, .int .i64 (y168.1)), (91, .int .i64 (y175))] (by kernel_rfl) ?_
                      refine wS_end (by rfl) ?_
                      refine eX_then ?_
                      refine cW_cond (t := y175 != y168.1) (by kernel_rfl) (fun hb180 => ?_) (fun hb180 => ?_)
                      · have hm := condT hb180 hm
                        refine cW_seq ?_
                        refine cW_region ?_
                        refine wS_pure 1 [(4, .bool (false))] (by kernel_rfl) ?_
                        refine wS_end (by rfl) ?_
                        refine eX_then ?_
                        refine cW_ret ?_
                        refine eX_then_ret ?_
                        have hq : (some false : Option ((Bool))) = some _ := hm
                        replace hq := someE hq
                        subst hq
                        refine eX_ret (vs := [.bool (false)]) [.tmp 4] (by rfl) ⟨by (show lkE _ _ _ = _); kernel_rfl, trivial⟩ ?_
                        exact ⟨rfl, hB⟩
                      · have hm := condF hb180 hm
                        refine cW_skip ?_
                        refine eX_then ?_
                        refine cW_seq ?_
                        refine cW_region ?_
                        refine wS_pure 1 [(95, .slice A0 (l0).length cap0)] (by kernel_rfl) ?_
                        obtain ⟨y181, hy182, hm⟩ := bindE hm
                        refine wS_calls (d := 96) (f := 46) (vs := [.slice A0 (l0).length cap0]) (by kernel_rfl) ent46 (c_laws_toPointS hy182 F0) ?_
                        rintro _ w183 ⟨A185, cap186, fp187, rfl, F188, G189, hc184⟩
                        have D192 : Dj fp19 fp187 := Dj.of F20.low G189
                        have D193 : Dj (fp30 ++ fr33) fp187 := Dj.of F31.low G189
                        have D194 : Dj fp42 fp187 := Dj.of F43.low G189
                        have D195 : Dj fp56 fp187 := Dj.of F152.low G189
                        have D196 : Dj (fp70 ++ fr73) fp187 := Dj.of F158.low G189
                        have D197 : Dj fp85 fp187 := Dj.of F172.low G189
                        have D198 : Dj fp109 fp187 := Dj.of F110.low G189
                        have D199 : Dj (fp131 ++ fr134) fp187 := Dj.of F132.low G189
                        replace F0 := F0.chg hc184 Dj.nil
                        replace F1 := F1.chg hc184 Dj.nil
                        replace F20 := F20.chg hc184 Dj.nil
                        replace F31 := F31.chg hc184 Dj.nil
                        replace F43 := F43.chg hc184 Dj.nil
                        replace F152 := F152.chg hc184 Dj.nil
                        replace F158 := F158.chg hc184 Dj.nil
                        replace F172 := F172.chg hc184 Dj.nil
                        replace F110 := F110.chg hc184 Dj.nil
                        replace F132 := F132.chg hc184 Dj.nil
                        replace hB := hB.inS hc184 inNil
                        replace G189 := low_le hZ G189
                        replace hZ := Nat.le_trans hZ hc184.size
                        refine ⟨.slice A185 (y181).length cap186, rfl, ?_⟩
                        refine wS_pure 1 [(97, .slice A1 (l1).length cap1)] (by kernel_rfl) ?_
                        obtain ⟨y200, hy201, hm⟩ := bindE hm
                        refine wS_calls (d := 98) (f := 38) (vs := [.slice A1 (l1).length cap1]) (by kernel_rfl) ent38 (c_laws_toInt64SS hy201 F1) ?_
                        rintro _ w202 ⟨A204, cap205, fp206, fr209, rfl, F207, G208, hc203⟩
                        have D211 : Dj fp19 (fp206 ++ fr209) := Dj.of F20.low G208
                        have D212 : Dj (fp30 ++ fr33) (fp206 ++ fr209) := Dj.of F31.low G208
                        have D213 : Dj fp42 (fp206 ++ fr209) := Dj.of F43.low G208
                        have D214 : Dj fp56 (fp206 ++ fr209) := Dj.of F152.low G208
                        have D215 : Dj (fp70 ++ fr73) (fp206 ++ fr209) := Dj.of F158.low G208
                        have D216 : Dj fp85 (fp206 ++ fr209) := Dj.of F172.low G208
                        have D217 : Dj fp109 (fp206 ++ fr209) := Dj.of F110.low G208
                        have D218 : Dj (fp131 ++ fr134) (fp206 ++ fr209) := Dj.of F132.low G208
                        have D219 : Dj fp187 (fp206 ++ fr209) := Dj.of F188.low G208
                        replace F0 := F0.chg hc203 Dj.nil
                        replace F1 := F1.chg hc203 Dj.nil
                        replace F20 := F20.chg hc203 Dj.nil
                        replace F31 := F31.chg hc203 Dj.nil
                        replace F43 := F43.chg hc203 Dj.nil
                        replace F152 := F152.chg hc203 Dj.nil
                        replace F158 := F158.chg hc203 Dj.nil
                        replace F172 := F172.chg hc203 Dj.nil
                        replace F110 := F110.chg hc203 Dj.nil
                        replace F132 := F132.chg hc203 Dj.nil
                        replace F188 := F188.chg hc203 Dj.nil
                        replace hB := hB.inS hc203 inNil
                        replace G208 := low_le hZ G208
                        replace hZ := Nat.le_trans hZ hc203.size
                        refine ⟨.slice A204 (y200).length cap205, rfl, ?_⟩
                        obtain ⟨y220, hy221, hm⟩ := bindE hm
                        refine wS_calls (d := 99) (f := 59) (vs := [.slice A185 (y181).length cap186, .slice A204 (y200).length cap205]) (by kernel_rfl) ent59 (c_impl_ClockWires hy221 (F188.sl encII_ok) (F207.slr encI_ok)) ?_
                        rintro _ w222 ⟨A224, cap225, fp226, rfl, F227, G228, hc223⟩
                        have D231 : Dj fp19 fp226 := Dj.of F20.low G228
                        have D232 : Dj (fp30 ++ fr33) fp226 := Dj.of F31.low G228
                        have D233 : Dj fp42 fp226 := Dj.of F43.low G228
                        have D234 : Dj fp56 fp226 := Dj.of F152.low G228
                        have D235 : Dj (fp70 ++ fr73) fp226 := Dj.of F158.low G228
                        have D236 : Dj fp85 fp226 := Dj.of F172.low G228
                        have D237 : Dj fp109 fp226 := Dj.of F110.low G228
                        have D238 : Dj (fp131 ++ fr134) fp226 := Dj.of F132.low G228
                        have D239 : Dj fp187 fp226 := Dj.of F188.low G228
                        have D240 : Dj (fp206 ++ fr209) fp226 := Dj.of F207.low G228
                        replace F0 := F0.chg hc223 Dj.nil
                        replace F1 := F1.chg hc223 Dj.nil
                        replace F20 := F20.chg hc223 Dj.nil
                        replace F31 := F31.chg hc223 Dj.nil
                        replace F43 := F43.chg hc223 Dj.nil
                        replace F152 := F152.chg hc223 Dj.nil
                        replace F158 := F158.chg hc223 Dj.nil
                        replace F172 := F172.chg hc223 Dj.nil
                        replace F110 := F110.chg hc223 Dj.nil
                        replace F132 := F132.chg hc223 Dj.nil
                        replace F188 := F188.chg hc223 Dj.nil
                        replace F207 := F207.chg hc223 Dj.nil
                        replace hB := hB.inS hc223 inNil
                        replace G228 := low_le hZ G228
                        replace hZ := Nat.le_trans hZ hc223.size
                        refine ⟨.tuple #[.slice A224 (y220.1).length cap225, .bool (y220.2)], rfl, ?_⟩
                        refine wS_pure 5 [(16, .bool (y220.2)), (15, .slice A224 (y220.1).length cap225), (101, .bool (y220.2)), (100, .slice A224 (y220.1).length cap225), (94, .tuple #[.slice A224 (y220.1).length cap225, .bool (y220.2)])] (by kernel_rfl) ?_
                        refine wS_end (by rfl) ?_
                        refine eX_then ?_
                        refine cW_prune [(6, .slice A40 (y36.1).length cap41), (7, .bool (y36.2)), (10, .slice A83 (y168.2).length cap84), (13, .int .i64 (y168.1)), (15, .slice A224 (y220.1).length cap225), (16, .bool (y220.2))] (by kernel_rfl) (by kernel_rfl) (fun a241 => ?_)
                        refine cW_seq ?_
                        refine cW_seq ?_
                        refine cW_region ?_
                        refine wS_pure 2 [(103, .slice A40 (y36.1).length cap41), (102, .slice A224 (y220.1).length cap225)] (by kernel_rfl) ?_
                        obtain ⟨y242, hy243, hm⟩ := bindE hm
                        refine wS_calls (d := 104) (f := 55) (vs := [.slice A224 (y220.1).length cap225, .slice A40 (y36.1).length cap41]) (by kernel_rfl) ent55 (c_laws_eqInt64S hy243 (F227.sl encI_ok) (F43.sl encI_ok)) ?_
                        rintro _ w244 ⟨rfl, hc245⟩
                        replace F0 := F0.chg hc245 Dj.nil
                        replace F1 := F1.chg hc245 Dj.nil
                        replace F20 := F20.chg hc245 Dj.nil
                        replace F31 := F31.chg hc245 Dj.nil
                        replace F43 := F43.chg hc245 Dj.nil
                        replace F152 := F152.chg hc245 Dj.nil
                        replace F158 := F158.chg hc245 Dj.nil
                        replace F172 := F172.chg hc245 Dj.nil
                        replace F110 := F110.chg hc245 Dj.nil
                        replace F132 := F132.chg hc245 Dj.nil
                        replace F188 := F188.chg hc245 Dj.nil
                        replace F207 := F207.chg hc245 Dj.nil
                        replace F227 := F227.chg hc245 Dj.nil
                        replace hB := hB.inS hc245 inNil
                        replace hZ := Nat.le_trans hZ hc245.size
                        refine ⟨.bool (y242), rfl, ?_⟩
                        refine wS_pure 2 [(106, .bool (!y242)), (105, .bool (!y242))] (by kernel_rfl) ?_
                        refine wS_bool (!y242) (fun hb246 => ?_) (fun hb246 => ?_)
                        · have hm := condT hb246 hm
                          rewrite [hb246]
                          refine wS_pure 4 [(110, .bool (true)), (109, undef), (108, undef), (107, undef)] (by kernel_rfl) ?_
                          refine wS_end (by rfl) ?_
                          refine eX_then ?_
                          refine cW_cond_t (by kernel_rfl) ?_
                          refine cW_seq ?_
                          refine cW_region ?_
                          refine wS_pure 1 [(4, .bool (false))] (by kernel_rfl) ?_
                          refine wS_end (by rfl) ?_
                          refine eX_then ?_
                          refine cW_ret ?_
                          refine eX_then_ret ?_
                          have hq : (some false : Option ((Bool))) = some _ := hm
                          replace hq := someE hq
                          subst hq
                          refine eX_ret (vs := [.bool (false)]) [.tmp 4] (by rfl) ⟨by (show lkE _ _ _ = _); kernel_rfl, trivial⟩ ?_
                          exact ⟨rfl, hB⟩
                        · have hm := condF hb246 hm
                          rewrite [hb246]
                          refine wS_pure 4 [(110, .bool (!(y220.2 == y36.2))), (109, .bool (!(y220.2 == y36.2))), (108, .bool (y36.2)), (107, .bool (y220.2))] (by kernel_rfl) ?_
                          refine wS_end (by rfl) ?_
                          refine eX_then ?_
                          refine cW_cond (t := !(y220.2 == y36.2)) (by kernel_rfl) (fun hb247 => ?_) (fun hb247 => ?_)
                          · have hm := condT hb247 hm
                            refine cW_seq ?_
                            refine cW_region ?_
                            refine wS_pure 1 [(4, .bool (false))] (by kernel_rfl) ?_
                            refine wS_end (by rfl) ?_
                            refine eX_then ?_
                            refine cW_ret ?_
                            refine eX_then_ret ?_
                            have hq : (some false : Option ((Bool))) = some _ := hm
                            replace hq := someE hq
                            subst hq
                            refine eX_ret (vs := [.bool (false)]) [.tmp 4] (by rfl) ⟨by (show lkE _ _ _ = _); kernel_rfl, trivial⟩ ?_
                            exact ⟨rfl, hB⟩
                          · have hm := condF hb247 hm
                            refine cW_skip ?_
                            refine eX_then ?_
                            refine cW_seq ?_
                            refine cW_region ?_
                            refine wS_pure 1 [(14, .int .i64 (1))] (by kernel_rfl) ?_
                            refine wS_end (by rfl) ?_
                            refine eX_then ?_
                            refine cW_seq ?_
                            refine cW_region ?_
                            refine wS_pure 2 [(112, .int .i64 (1)), (111, .slice A83 (y168.2).length cap84)] (by kernel_rfl) ?_
                            obtain ⟨y248, hy249, hm⟩ := bindE hm
                            refine wS_calls (d := 113) (f := 71) (vs := [.slice A83 (y168.2).length cap84, .int .i64 (1)]) (by kernel_rfl) ent71 (c_laws_heldInt64S hy249 (F172.sl encI_ok)) ?_
                            rintro _ w250 ⟨rfl, hc251⟩
                            replace F0 := F0.chg hc251 Dj.nil
                            replace F1 := F1.chg hc251 Dj.nil
                            replace F20 := F20.chg hc251 Dj.nil
                            replace F31 := F31.chg hc251 Dj.nil
                            replace F43 := F43.chg hc251 Dj.nil
                            replace F152 := F152.chg hc251 Dj.nil
                            replace F158 := F158.chg hc251 Dj.nil
                            replace F172 := F172.chg hc251 Dj.nil
                            replace F110 := F110.chg hc251 Dj.nil
                            replace F132 := F132.chg hc251 Dj.nil
                            replace F188 := F188.chg hc251 Dj.nil
                            replace F207 := F207.chg hc251 Dj.nil
                            replace F227 := F227.chg hc251 Dj.nil
                            replace hB := hB.inS hc251 inNil
                            replace hZ := Nat.le_trans hZ hc251.size
                            refine ⟨.int .i64 (y248), rfl, ?_⟩
                            refine wS_pure 1 [(14, .int .i64 (y248))] (by kernel_rfl) ?_
                            refine wS_end (by rfl) ?_
                            refine eX_then ?_
                            refine cW_seq ?_
                            refine cW_seq ?_
                            refine cW_region ?_
                            refine wS_pure 2 [(115, .bool (decide (y248 < 0))), (114, .int .i64 (y248))] (by kernel_rfl) ?_
                            refine wS_end (by rfl) ?_
                            refine eX_then ?_
                            refine cW_cond (t := decide (y248 < 0)) (by kernel_rfl) (fun hb252 => ?_) (fun hb252 => ?_)
                            · have hm := condT hb252 hm
                              refine cW_seq ?_
                              refine cW_region ?_
                              refine wS_pure 1 [(4, .bool (false))] (by kernel_rfl) ?_
                              refine wS_end (by rfl) ?_
                              refine eX_then ?_
                              refine cW_ret ?_
                              refine eX_then_ret ?_
                              have hq : (some false : Option ((Bool))) = some _ := hm
                              replace hq := someE hq
                              subst hq
                              refine eX_ret (vs := [.bool (false)]) [.tmp 4] (by rfl) ⟨by (show lkE _ _ _ = _); kernel_rfl, trivial⟩ ?_
                              exact ⟨rfl, hB⟩
                            · have hm := condF hb252 hm
                              refine cW_skip ?_
                              refine eX_then ?_
                              refine cW_seq ?_
                              refine cW_seq ?_
                              refine cW_region ?_
                              refine wS_pure 3 [(118, .bool (y248 != y168.1)), (117, .int .i64 (y168.1)), (116, .int .i64 (y248))] (by kernel_rfl) ?_
                              refine wS_end (by rfl) ?_
                              refine eX_then ?_
                              refine cW_prune [(118, .bool (y248 != y168.1))] (by kernel_rfl) (by kernel_rfl) (fun a253 => ?_)
                              refine cW_cond (t := y248 != y168.1) (by kernel_rfl) (fun hb254 => ?_) (fun hb254 => ?_)
                              · have hm := condT hb254 hm
                                refine cW_seq ?_
                                refine cW_region ?_
                                refine wS_pure 1 [(4, .bool (false))] (by kernel_rfl) ?_
                                refine wS_end (by rfl) ?_
                                refine eX_then ?_
                                refine cW_ret ?_
                                refine eX_then_ret ?_
                                have hq : (some false : Option ((Bool))) = some _ := hm
                                replace hq := someE hq
                                subst hq
                                refine eX_ret (vs := [.bool (false)]) [.tmp 4] (by rfl) ⟨by (show lkE _ _ _ = _); kernel_rfl, trivial⟩ ?_
                                exact ⟨rfl, hB⟩
                              · have hm := condF hb254 hm
                                refine cW_skip ?_
                                refine eX_then ?_
                                refine cW_seq ?_
                                refine cW_region ?_
                                refine wS_pure 1 [(4, .bool (true))] (by kernel_rfl) ?_
                                refine wS_end (by rfl) ?_
                                refine eX_then ?_
                                refine cW_ret ?_
                                have hq : (some true : Option ((Bool))) = some _ := hm
                                replace hq := someE hq
                                subst hq
                                refine eX_ret (vs := [.bool (true)]) [.tmp 4] (by rfl) ⟨by (show lkE _ _ _ = _); kernel_rfl, trivial⟩ ?_
                                exact ⟨rfl, hB⟩

end Go.Proofs.Ytmodhpgnkbnbaaa
