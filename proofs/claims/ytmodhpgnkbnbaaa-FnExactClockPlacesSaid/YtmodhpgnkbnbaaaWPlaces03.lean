/- Printed walks: impl.nearest, spec.l06Pins, spec.l06Tree, laws.markPointS, laws.markInt64S, laws.markInt64SS, laws.heldInt64S, laws.heldInt64SS, spec.l06Ask, impl.ClockPlaces, spec.ClockPlaces. -/
import Derived.Test.YtmodhpgnkbnbaaaProg
import Derived.Test.YtmodhpgnkbnbaaaWPlaces02
set_option linter.unusedSimpArgs false
set_option linter.unusedVariables false
namespace Go.Proofs.Ytmodhpgnkbnbaaa
open Go.RowKit
attribute [local irreducible] wS cW eX wH

theorem ent70 : Ent Try.prog 70 := fun _ => by kernel_rfl
theorem ent71 : Ent Try.prog 71 := fun _ => by kernel_rfl
theorem ent86 : Ent Try.prog 86 := fun _ => by kernel_rfl
theorem ent94 : Ent Try.prog 94 := fun _ => by kernel_rfl
theorem ent99 : Ent Try.prog 99 := fun _ => by kernel_rfl
theorem ent103 : Ent Try.prog 103 := fun _ => by kernel_rfl
theorem ent110 : Ent Try.prog 110 := fun _ => by kernel_rfl
theorem ent111 : Ent Try.prog 111 := fun _ => by kernel_rfl
theorem ent116 : Ent Try.prog 116 := fun _ => by kernel_rfl
theorem ent117 : Ent Try.prog 117 := fun _ => by kernel_rfl
theorem ent119 : Ent Try.prog 119 := fun _ => by kernel_rfl

set_option maxRecDepth 100000 in
/-- impl.nearest -/
theorem c_impl_nearest {w0 : World} {p0 : Int} {p1 : Int} {p2 : Int} {r : (Int)} (hm : m_impl_nearest p0 p1 p2 = some r)  :
    Calls Try.prog 111 #[.int .i64 (p0), .int .i64 (p1), .int .i64 (p2)] w0 fun e w' => e = .returned (.int .i64 (r)) ∧ Chg [] w0 w' := by
  have hB : Chg [] w0 w0 := Chg.refl _ _
  have hZ := Nat.le_refl w0.heap.size
  unfold m_impl_nearest at hm
  refine enterE (N := 12) Try.func111 (by rfl) Try.ntmps111 (by simp) [(0, .int .i64 (p0)), (1, .int .i64 (p1)), (2, .int .i64 (p2))] (by rfl) (by kernel_rfl) (fun a => ?_)
  refine cW_seq ?_
  refine cW_region ?_
  refine wS_pure 1 [(6, .int .i64 (0))] (by kernel_rfl) ?_
  refine wS_end (by rfl) ?_
  refine eX_then ?_
  refine cW_seq ?_
  refine cW_region ?_
  refine wS_pure 6 [(6, .int .i64 (if (if p2 < p0 then p2 else p0) > p1 then (if p2 < p0 then p2 else p0) else p1)), (11, .int .i64 (if (if p2 < p0 then p2 else p0) > p1 then (if p2 < p0 then p2 else p0) else p1)), (10, .int .i64 (if p2 < p0 then p2 else p0)), (9, .int .i64 (p2)), (8, .int .i64 (p0)), (7, .int .i64 (p1))] (by kernel_rfl) ?_
  refine wS_end (by rfl) ?_
  refine eX_then ?_
  refine cW_ret ?_
  have hq : (some (if (if p2 < p0 then p2 else p0) > p1 then (if p2 < p0 then p2 else p0) else p1) : Option ((Int))) = some _ := hm
  replace hq := someE hq
  subst hq
  refine eX_ret (vs := [.int .i64 (if (if p2 < p0 then p2 else p0) > p1 then (if p2 < p0 then p2 else p0) else p1)]) [.tmp 6] (by rfl) ⟨by (show lkE _ _ _ = _); kernel_rfl, trivial⟩ ?_
  exact ⟨rfl, hB⟩

set_option maxRecDepth 100000 in
/-- spec.l06Pins -/
theorem c_spec_l06Pins {w0 : World} {l0 : List (Int × Int)} {A0 : Option Addr} {cap0 : Nat} {fp0 : List Nat} {r : (Bool)} (hm : m_spec_l06Pins l0 = some r) (F0 : Sl 2 encII w0 fp0 A0 l0) :
    Calls Try.prog 116 #[.slice A0 (l0).length cap0] w0 fun e w' => e = .returned (.bool (r)) ∧ Chg [] w0 w' := by
  have L0 := F0.low
  have hB : Chg [] w0 w0 := Chg.refl _ _
  have hZ := Nat.le_refl w0.heap.size
  unfold m_spec_l06Pins at hm
  refine enterE (N := 10) Try.func116 (by rfl) Try.ntmps116 (by simp) [(0, .slice A0 (l0).length cap0)] (by rfl) (by kernel_rfl) (fun a => ?_)
  refine cW_seq ?_
  refine cW_region ?_
  refine wS_pure 1 [(2, .bool (false))] (by kernel_rfl) ?_
  refine wS_end (by rfl) ?_
  refine eX_then ?_
  refine cW_seq ?_
  refine cW_region ?_
  refine wS_pure 2 [(4, .int .i64 (((l0).length : Int))), (3, .slice A0 (l0).length cap0)] (by kernel_rfl) ?_
  obtain ⟨y2, hy3, hm⟩ := bindE hm
  refine wS_calls (d := 5) (f := 88) (vs := [.int .i64 (((l0).length : Int)), .int .i64 (2), .int .i64 (12)]) (by kernel_rfl) ent88 (c_spec_l00In hy3) ?_
  rintro _ w4 ⟨rfl, hc5⟩
  replace F0 := F0.chg hc5 Dj.nil
  replace hB := hB.inS hc5 inNil
  replace hZ := Nat.le_trans hZ hc5.size
  refine ⟨.bool (y2), rfl, ?_⟩
  refine wS_pure 1 [(6, .bool (y2))] (by kernel_rfl) ?_
  refine wS_bool y2 (fun hb6 => ?_) (fun hb6 => ?_)
  · have hm := condT hb6 hm
    rewrite [hb6]
    refine wS_pure 1 [(7, .slice A0 (l0).length cap0)] (by kernel_rfl) ?_
    obtain ⟨y7, hy8, hm⟩ := bindE hm
    refine wS_calls (d := 8) (f := 99) (vs := [.slice A0 (l0).length cap0]) (by kernel_rfl) ent99 (c_spec_l01Points hy8 F0) ?_
    rintro _ w9 ⟨rfl, hc10⟩
    replace F0 := F0.chg hc10 Dj.nil
    replace hB := hB.inS hc10 inNil
    replace hZ := Nat.le_trans hZ hc10.size
    refine ⟨.bool (y7), rfl, ?_⟩
    refine wS_pure 2 [(2, .bool (y7)), (9, .bool (y7))] (by kernel_rfl) ?_
    refine wS_end (by rfl) ?_
    refine eX_then ?_
    refine cW_ret ?_
    have hq : (some y7 : Option ((Bool))) = some _ := hm
    replace hq := someE hq
    subst hq
    refine eX_ret (vs := [.bool (y7)]) [.tmp 2] (by rfl) ⟨by (show lkE _ _ _ = _); kernel_rfl, trivial⟩ ?_
    exact ⟨rfl, hB⟩
  · have hm := condF hb6 hm
    rewrite [hb6]
    refine wS_pure 4 [(2, .bool (false)), (9, .bool (false)), (8, undef), (7, undef)] (by kernel_rfl) ?_
    refine wS_end (by rfl) ?_
    refine eX_then ?_
    refine cW_ret ?_
    have hq : (some false : Option ((Bool))) = some _ := hm
    replace hq := someE hq
    subst hq
    refine eX_ret (vs := [.bool (false)]) [.tmp 2] (by rfl) ⟨by (show lkE _ _ _ = _); kernel_rfl, trivial⟩ ?_
    exact ⟨rfl, hB⟩

set_option maxRecDepth 100000 in
/-- spec.l06Tree -/
theorem c_spec_l06Tree {w0 : World} {l0 : List (Int × Int)} {A0 : Option Addr} {cap0 : Nat} {fp0 : List Nat} {l1 : List (List (Int))} {A1 : Option Addr} {cap1 : Nat} {fp1 : List Nat} {r : (List (Int × Int × Int × Int × Int)) × (List (Int))} (hm : m_spec_l06Tree l0 l1 = some r) (F0 : Sl 2 encII w0 fp0 A0 l0) (F1 : SlR 1 encI w0 fp1 A1 l1) :
    Calls Try.prog 117 #[.slice A0 (l0).length cap0, .slice A1 (l1).length cap1] w0 fun e w' => ∃ A100 cap100 fp100, ∃ A101 cap101 fp101, e = .returned (.tuple #[.slice A100 (r.1).length cap100, .slice A101 (r.2).length cap101]) ∧ Ow 5 encIIIII 52 w' fp100 A100 cap100 r.1 ∧ (∀ x ∈ fp100, w0.heap.size ≤ x) ∧ Ow 1 encI 2 w' fp101 A101 cap101 r.2 ∧ (∀ x ∈ fp101, w0.heap.size ≤ x) ∧ Dj fp100 fp101 ∧ Chg [] w0 w' := by
  have L0 := F0.low
  have L1 := F1.low
  have hB : Chg [] w0 w0 := Chg.refl _ _
  have hZ := Nat.le_refl w0.heap.size
  unfold m_spec_l06Tree at hm
  refine enterE (N := 89) Try.func117 (by rfl) Try.ntmps117 (by simp) [(0, .slice A0 (l0).length cap0), (1, .slice A1 (l1).length cap1)] (by rfl) (by kernel_rfl) (fun a => ?_)
  refine cW_seq ?_
  refine cW_region ?_
  refine wS_pure 2 [(5, .slice none 0 0), (4, .slice none 0 0)] (by kernel_rfl) ?_
  refine wS_end (by rfl) ?_
  refine eX_then ?_
  refine cW_seq ?_
  refine cW_region ?_
  refine wS_bs0 (α := Int × Int × Int × Int × Int) (enc := encIIIII) (d := 13) (t := 75) (T := 52) (by kernel_rfl) el75 ?_
  intro b3 w4 G5 F6 hc7
  replace F0 := F0.chg hc7 Dj.nil
  replace F1 := F1.chg hc7 Dj.nil
  replace hB := hB.inS hc7 inNil
  replace G5 := Nat.le_trans hZ G5
  replace G5 := low1 G5
  replace hZ := Nat.le_trans hZ hc7.size
  refine wS_pure 1 [(6, .slice (some ⟨b3, 0, none⟩) (([] : List (Int × Int × Int × Int × Int))).length 0)] (by kernel_rfl) ?_
  refine wS_end (by rfl) ?_
  refine eX_then ?_
  refine cW_seq ?_
  refine cW_region ?_
  refine wS_bs0 (α := Int) (enc := encI) (d := 14) (t := 68) (T := 2) (by kernel_rfl) el68 ?_
  intro b9 w10 G11 F12 hc13
  have D15 : Dj [b3] [b9] := Dj.of F6.low (low1 G11)
  replace F0 := F0.chg hc13 Dj.nil
  replace F1 := F1.chg hc13 Dj.nil
  replace F6 := F6.chg hc13 Dj.nil
  replace hB := hB.inS hc13 inNil
  replace G11 := Nat.le_trans hZ G11
  replace G11 := low1 G11
  replace hZ := Nat.le_trans hZ hc13.size
  refine wS_pure 1 [(7, .slice (some ⟨b9, 0, none⟩) (([] : List (Int))).length 0)] (by kernel_rfl) ?_
  refine wS_end (by rfl) ?_
  refine eX_then ?_
  refine cW_seq ?_
  refine cW_seq ?_
  refine cW_region ?_
  refine wS_pure 1 [(8, .int .i64 (0))] (by kernel_rfl) ?_
  refine wS_end (by rfl) ?_
  refine eX_then ?_
  obtain ⟨r176, hr177, hm⟩ := bindE hm
  have hm178 := hm
  refine cW_cut (fun a' w' => ∃ l139 : List (Int × Int × Int × Int × Int), ∃ A140 : Option Addr, ∃ cap141 : Nat, ∃ fp142 : List Nat, ∃ l144 : List (Int), ∃ A145 : Option Addr, ∃ cap146 : Nat, ∃ fp147 : List Nat, (l139, l144) = r176 ∧ Fr 89 [(1, .slice A1 (l1).length cap1), (6, .slice A140 (l139).length cap141), (7, .slice A145 (l144).length cap146)] a' ∧ SlR 1 encI w' fp1 A1 l1 ∧ Ow 5 encIIIII 52 w' fp142 A140 cap141 l139 ∧ Ow 1 encI 2 w' fp147 A145 cap146 l144 ∧ (∀ x ∈ fp142, w0.heap.size ≤ x) ∧ (∀ x ∈ fp147, w0.heap.size ≤ x) ∧ Dj fp147 fp142 ∧ Chg [] w0 w' ∧ w0.heap.size ≤ w'.heap.size) ?_ ?_
  · refine cW_block ?_
    refine cW_loop _ (fun (s179 : (List (Int × Int × Int × Int × Int)) × (List (Int)) × Int) a' w' => ∃ l157 : List (Int × Int × Int × Int × Int), ∃ A158 : Option Addr, ∃ cap159 : Nat, ∃ fp160 : List Nat, ∃ l162 : List (Int), ∃ A163 : Option Addr, ∃ cap164 : Nat, ∃ fp165 : List Nat, ∃ x167 : Int, (l157, l162, x167) = s179 ∧ Fr 89 [(0, .slice A0 (l0).length cap0), (1, .slice A1 (l1).length cap1), (6, .slice A158 (l157).length cap159), (7, .slice A163 (l162).length cap164), (8, .int .i64 (x167))] a' ∧ Sl 2 encII w' fp0 A0 l0 ∧ SlR 1 encI w' fp1 A1 l1 ∧ Ow 5 encIIIII 52 w' fp160 A158 cap159 l157 ∧ Ow 1 encI 2 w' fp165 A163 cap164 l162 ∧ (∀ x ∈ fp160, w0.heap.size ≤ x) ∧ (∀ x ∈ fp165, w0.heap.size ≤ x) ∧ Dj fp165 fp160 ∧ Chg [] w0 w' ∧ w0.heap.size ≤ w'.heap.size) hr177 (fun hst => ⟨([] : List (Int × Int × Int × Int × Int)), (some ⟨b3, 0, none⟩), 0, [b3], ([] : List (Int)), (some ⟨b9, 0, none⟩), 0, [b9], 0, rfl, Fr.of hst (by kernel_rfl), F0, F1, F6, F12, G5, G11, (D15).symm, hB, hZ⟩) ?_
    rintro _ c180 a' w156 ⟨l157, A158, cap159, fp160, l162, A163, cap164, fp165, x167, rfl, hF168, F169, F170, F171, F172, G173, G174, D175, hB, hZ⟩ hx181
    refine Fr.goOn hF168 (by kernel_rfl) ?_
    have hm := hx181
    unfold m_spec_l06Tree_s1 at hm
    refine cW_seq ?_
    refine cW_seq ?_
    refine cW_region ?_
    refine wS_pure 4 [(18, .bool (decide (x167 < (((l0).length : Int))))), (17, .int .i64 (((l0).length : Int))), (16, .slice A0 (l0).length cap0), (15, .int .i64 (x167))] (by kernel_rfl) ?_
    refine wS_end (by rfl) ?_
    refine eX_then ?_
    refine cW_cond (t := decide (x167 < (((l0).length : Int)))) (by kernel_rfl) (fun hb182 => ?_) (fun hb182 => ?_)
    · have hm := condT hb182 hm
      refine cW_skip ?_
      refine eX_then ?_
      refine cW_seq ?_
      refine cW_block ?_
      refine cW_seq ?_
      refine cW_region ?_
      refine wS_pure 3 [(23, .int .i64 (x167)), (22, .slice A0 (l0).length cap0), (21, .slice A158 (l157).length cap159)] (by kernel_rfl) ?_
      obtain ⟨x183, hx184, hm⟩ := bindE hm
      refine wS_idx (d := 24) (T := 59) (A := A0) (n := (l0).length) (cap := cap0) (kd := .i64) (m := x167) (by kernel_rfl) sl59 (F169.is hx184) ?_
      refine wS_loadA (d := 25) (T := 32) (ad := (elA A0 2 (x167) 0)) (vs := [.int .i64 (x183.1), .int .i64 (x183.2)]) (by kernel_rfl) vt32 (fun i u hu => Sl.cells_at F169 hx184 0 hu (by rfl)) ?_
      obtain ⟨y185, hy186, hm⟩ := bindE hm
      refine wS_calls (d := 26) (f := 86) (vs := [.agg #[.int .i64 (x183.1), .int .i64 (x183.2)]]) (by kernel_rfl) ent86 (c_spec_l06Leaf hy186) ?_
      rintro _ w187 ⟨rfl, hc188⟩
      replace F169 := F169.chg hc188 Dj.nil
      replace F170 := F170.chg hc188 Dj.nil
      replace F171 := F171.chg hc188 Dj.nil
      replace F172 := F172.chg hc188 Dj.nil
      replace hB := hB.inS hc188 inNil
      replace hZ := Nat.le_trans hZ hc188.size
      refine ⟨.agg #[.int .i64 (y185.1), .int .i64 (y185.2.1), .int .i64 (y185.2.2.1), .int .i64 (y185.2.2.2)], rfl, ?_⟩
      refine wS_pure 1 [(27, .agg #[.int .i64 (y185.1), .int .i64 (y185.2.1), .int .i64 (y185.2.2.1), .int .i64 (y185.2.2.2), .int .i64 (0)])] (by kernel_rfl) ?_
      refine wS_bs (enc := encIIIII) ([(y185.1, y185.2.1, y185.2.2.1, y185.2.2.2, 0)] : List (Int × Int × Int × Int × Int)) [.int .i64 (y185.1), .int .i64 (y185.2.1), .int .i64 (y185.2.2.1), .int .i64 (y185.2.2.2), .int .i64 (0)] (d := 28) (t := 75) (T := 52) (n := 1) (ps := [(0, .agg #[.int .i64 (y185.1), .int .i64 (y185.2.1), .int .i64 (y185.2.2.1), .int .i64 (y185.2.2.2), .int .i64 (0)])]) (by kernel_rfl) el75 encIIIII_ok (by rfl) (by omega) (by omega) (by kernel_rfl) (by rfl) ?_
      intro b189 w190 G191 F192 hc193
      have D195 : Dj fp160 [b189] := Dj.of F171.low (low1 G191)
      have D196 : Dj fp165 [b189] := Dj.of F172.low (low1 G191)
      replace F169 := F169.chg hc193 Dj.nil
      replace F170 := F170.chg hc193 Dj.nil
      replace F171 := F171.chg hc193 Dj.nil
      replace F172 := F172.chg hc193 Dj.nil
      replace hB := hB.inS hc193 inNil
      replace G191 := Nat.le_trans hZ G191
      replace G191 := low1 G191
      replace hZ := Nat.le_trans hZ hc193.size
      obtain ⟨_, hk197, hm⟩ := bindE hm
      replace hk197 := apE hk197
      refine wS_append (enc := encIIIII) (l := (l157 : List (Int × Int × Int × Int × Int))) (l2 := (([(y185.1, y185.2.1, y185.2.2.1, y185.2.2.2, 0)] : List (Int × Int × Int × Int × Int)) : List (Int × Int × Int × Int × Int))) (d := 29) (t := 75) (T := 52) (A := A158) (A2 := (some ⟨b189, 0, none⟩)) (cap := cap159) (cap2 := 1) (by kernel_rfl) el75 encIIIII_ok F171 (F192.sl encIIIII_ok) (by rfl) hk197 ?_
      intro w198 fp199 A200 cap201 F202 hc203 hp204
      have G206 := low_ap G173 hZ hp204
      have D207 : Dj fp165 fp199 := Dj.ap D175 F172.low hp204
      have D208 : Dj [b189] fp199 := Dj.ap (D195).symm F192.low hp204
      replace F169 := F169.chg hc203 (Dj.of L0 G173)
      replace F170 := F170.chg hc203 (Dj.of L1 G173)
      replace F172 := F172.chg hc203 D175
      replace F192 := F192.chg hc203 (D195).symm
      replace hB := hB.inS hc203 (inLow G173)
      replace hZ := Nat.le_trans hZ hc203.size
      refine wS_pure 1 [(6, .slice A200 (l157 ++ (([(y185.1, y185.2.1, y185.2.2.1, y185.2.2.2, 0)] : List (Int × Int × Int × Int × Int)))).length cap201)] (by kernel_rfl) ?_
      refine wS_end (by rfl) ?_
      refine eX_then ?_
      refine cW_region ?_
      refine wS_pure 1 [(30, .slice A163 (l162).length cap164)] (by kernel_rfl) ?_
      refine wS_bs (enc := encI) ([0] : List (Int)) [.int .i64 (0)] (d := 31) (t := 68) (T := 2) (n := 1) (ps := [(0, .int .i64 (0))]) (by kernel_rfl) el68 encI_ok (by rfl) (by omega) (by omega) (by kernel_rfl) (by rfl) ?_
      intro b209 w210 G211 F212 hc213
      have D215 : Dj fp165 [b209] := Dj.of F172.low (low1 G211)
      have D216 : Dj [b189] [b209] := Dj.of F192.low (low1 G211)
      have D217 : Dj fp199 [b209] := Dj.of F202.low (low1 G211)
      replace F169 := F169.chg hc213 Dj.nil
      replace F170 := F170.chg hc213 Dj.nil
      replace F172 := F172.chg hc213 Dj.nil
      replace F192 := F192.chg hc213 Dj.nil
      replace F202 := F202.chg hc213 Dj.nil
      replace hB := hB.inS hc213 inNil
      replace G211 := Nat.le_trans hZ G211
      replace G211 := low1 G211
      replace hZ := Nat.le_trans hZ hc213.size
      obtain ⟨_, hk218, hm⟩ := bindE hm
      replace hk218 := apE hk218
      refine wS_append (enc := encI) (l := (l162 : List (Int))) (l2 := (([0] : List (Int)) : List (Int))) (d := 32) (t := 68) (T := 2) (A := A163) (A2 := (some ⟨b209, 0, none⟩)) (cap := cap164) (cap2 := 1) (by kernel_rfl) el68 encI_ok F172 (F212.sl encI_ok) (by rfl) hk218 ?_
      intro w219 fp220 A221 cap222 F223 hc224 hp225
      have G227 := low_ap G174 hZ hp225
      have D228 : Dj [b189] fp220 := Dj.ap (D196).symm F192.low hp225
      have D229 : Dj fp199 fp220 := Dj.ap (D207).symm F202.low hp225
      have D230 : Dj [b209] fp220 := Dj.ap (D215).symm F212.low hp225
      replace F169 := F169.chg hc224 (Dj.of L0 G174)
      replace F170 := F170.chg hc224 (Dj.of L1 G174)
      replace F192 := F192.chg hc224 (D196).symm
      replace F202 := F202.chg hc224 (D207).symm
      replace F212 := F212.chg hc224 (D215).symm
      replace hB := hB.inS hc224 (inLow G174)
      replace hZ := Nat.le_trans hZ hc224.size
      refine wS_pure 1 [(7, .slice A221 (l162 ++ (([0] : List (Int)))).length cap222)] (by kernel_rfl) ?_
      refine wS_end (by rfl) ?_
      refine eX_block ?_
      refine eX_then ?_
      refine cW_region ?_
      refine wS_pure 3 [(8, .int .i64 (wr (x167 + 1))), (20, .int .i64 (wr (x167 + 1))), (19, .int .i64 (x167))] (by kernel_rfl) ?_
      refine wS_end (by rfl) ?_
      have hq : (some (Ctl.next ((l157 ++ (([(y185.1, y185.2.1, y185.2.2.1, y185.2.2.2, 0)] : List (Int × Int × Int × Int × Int))), l162 ++ (([0] : List (Int))), wr (x167 + 1)))) : Option (Ctl ((List (Int × Int × Int × Int × Int)) × (List (Int)) × Int) ((List (Int × Int × Int × Int × Int)) × (List (Int))))) = some _ := hm
      replace hq := someE hq
      subst hq
      exact eX_next hx181 (fun hst => ⟨l157 ++ (([(y185.1, y185.2.1, y185.2.2.1, y185.2.2.2, 0)] : List (Int × Int × Int × Int × Int))), A200, cap201, fp199, l162 ++ (([0] : List (Int))), A221, cap222, fp220, wr (x167 + 1), rfl, Fr.of hst (by kernel_rfl), F169, F170, F202, F223, G206, G227, (D229).symm, hB, hZ⟩)
    · have hm := condF hb182 hm
      refine cW_exit ?_
      refine eX_then_exit ?_
      have hq : (some (Ctl.out ((l157, l162))) : Option (Ctl ((List (Int × Int × Int × Int × Int)) × (List (Int)) × Int) ((List (Int × Int × Int × Int × Int)) × (List (Int))))) = some _ := hm
      replace hq := someE hq
      subst hq
      refine eX_outX hx181 (fun hr231 => ?_)
      replace hr231 := hr231.symm
      subst hr231
      refine eX_block_hit ?_
      exact eX_J (fun hst => ⟨l157, A158, cap159, fp160, l162, A163, cap164, fp165, rfl, Fr.of hst (by kernel_rfl), F170, F171, F172, G173, G174, D175, hB, hZ⟩)
  · rintro a' w138 ⟨l139, A140, cap141, fp142, l144, A145, cap146, fp147, hJ, hF149, F150, F151, F152, G153, G154, D155, hB, hZ⟩
    subst hJ
    refine Fr.goX hF149 (by kernel_rfl) ?_
    refine eX_then ?_
    refine cW_seq ?_
    refine cW_seq ?_
    refine cW_region ?_
    refine wS_pure 1 [(9, .int .i64 (0))] (by kernel_rfl) ?_
    refine wS_end (by rfl) ?_
    refine eX_then ?_
    obtain ⟨r836, hr837, hm⟩ := bindE hm
    have hm838 := hm
    refine cW_cut (fun a' w' => ∃ l801 : List (Int × Int × Int × Int × Int), ∃ A802 : Option Addr, ∃ cap803 : Nat, ∃ fp804 : List Nat, ∃ l806 : List (Int), ∃ A807 : Option Addr, ∃ cap808 : Nat, ∃ fp809 : List Nat, (l801, l806) = r836 ∧ Fr 89 [(6, .slice A802 (l801).length cap803), (7, .slice A807 (l806).length cap808)] a' ∧ Ow 5 encIIIII 52 w' fp804 A802 cap803 l801 ∧ Ow 1 encI 2 w' fp809 A807 cap808 l806 ∧ (∀ x ∈ fp804, w0.heap.size ≤ x) ∧ (∀ x ∈ fp809, w0.heap.size ≤ x) ∧ Dj fp809 fp804 ∧ Chg [] w0 w' ∧ w0.heap.size ≤ w'.heap.size) ?_ ?_
    · refine cW_block ?_
      refine cW_loop _ (fun (s839 : (List (Int × Int × Int × Int × Int)) × (List (Int)) × Int) a' w' => ∃ l818 : List (Int × Int × Int × Int × Int), ∃ A819 : Option Addr, ∃ cap820 : Nat, ∃ fp821 : List Nat, ∃ l823 : List (Int), ∃ A824 : Option Addr, ∃ cap825 : Nat, ∃ fp826 : List Nat, ∃ x828 : Int, (l818, l823, x828) = s839 ∧ Fr 89 [(1, .slice A1 (l1).length cap1), (6, .slice A819 (l818).length cap820), (7, .slice A824 (l823).length cap825), (9, .int .i64 (x828))] a' ∧ SlR 1 encI w' fp1 A1 l1 ∧ Ow 5 encIIIII 52 w' fp821 A819 cap820 l818 ∧ Ow 1 encI 2 w' fp826 A824 cap825 l823 ∧ (∀ x ∈ fp821, w0.heap.size ≤ x) ∧ (∀ x ∈ fp826, w0.heap.size ≤ x) ∧ Dj fp826 fp821 ∧ Chg [] w0 w' ∧ w0.heap.size ≤ w'.heap.size) hr837 (fun hst => ⟨l139, A140, cap141, fp142, l144, A145, cap146, fp147, 0, rfl, Fr.of hst (by kernel_rfl), F150, F151, F152, G153, G154, D155, hB, hZ⟩) ?_
      rintro _ c840 a' w817 ⟨l818, A819, cap820, fp821, l823, A824, cap825, fp826, x828, rfl, hF829, F830, F831, F832, G833, G834, D835, hB, hZ⟩ hx841
      refine Fr.goOn hF829 (by kernel_rfl) ?_
      have hm := hx841
      unfold m_spec_l06Tree_s2 at hm
      refine cW_seq ?_
      refine cW_seq ?_
      refine cW_region ?_
      refine wS_pure 4 [(36, .bool (decide (x828 < (((l1).length : Int))))), (35, .int .i64 (((l1).length : Int))), (34, .slice A1 (l1).length cap1), (33, .int .i64 (x828))] (by kernel_rfl) ?_
      refine wS_end (by rfl) ?_
      refine eX_then ?_
      refine cW_cond (t := decide (x828 < (((l1).length : Int)))) (by kernel_rfl) (fun hb842 => ?_) (fun hb842 => ?_)
      · have hm := condT hb842 hm
        refine cW_skip ?_
        refine eX_then ?_
        refine cW_seq ?_
        refine cW_block ?_
        refine cW_seq ?_
        obtain ⟨s979, hs980, hm⟩ := bindE hm
        refine cW_cut (fun a' w' => ∃ b962 : Nat, ∃ x963 : Int, ∃ x964 : Int, ∃ x965 : Int, ∃ x966 : Int, ∃ x967 : Int, ∃ x969 : Int, ∃ x970 : Int, (x963, x964, x965, x966, x967, x969, x970) = s979 ∧ Fr 89 [(1, .slice A1 (l1).length cap1), (6, .slice A819 (l818).length cap820), (7, .slice A824 (l823).length cap825), (9, .int .i64 (x828)), (10, .pointer (some ⟨b962, 0, none⟩)), (11, .int .i64 (x969)), (12, .int .i64 (x970))] a' ∧ SlR 1 encI w' fp1 A1 l1 ∧ Ow 5 encIIIII 52 w' fp821 A819 cap820 l818 ∧ Ow 1 encI 2 w' fp826 A824 cap825 l823 ∧ Cl w' b962 52 [.int .i64 (x963), .int .i64 (x964), .int .i64 (x965), .int .i64 (x966), .int .i64 (x967)] ∧ w0.heap.size ≤ b962 ∧ Dj fp821 [b962] ∧ Dj fp826 [b962] ∧ Chg [] w0 w' ∧ w0.heap.size ≤ w'.heap.size) ?_ ?_
        · have hm := hs980
          refine cW_drawnTail [] 26 (by kernel_rfl) (by kernel_rfl) (fun w981 hc982 => ?_)
          replace F830 := F830.chg hc982 Dj.nil
          replace F831 := F831.chg hc982 Dj.nil
          replace F832 := F832.chg hc982 Dj.nil
          replace hB := hB.inS hc982 inNil
          replace hZ := Nat.le_trans hZ hc982.size
          have hS := Chg.refl [] w981
          have Z983 := F830
          have Z984 := F831
          have Z985 := F832
          refine wH_take [0, 1, 2] [2, 1, 0] [(42, .int .i64 (x828)), (41, .slice A1 (l1).length cap1), (40, .slice A819 (l818).length cap820)] (by kernel_rfl) (qT (qT (qT (qB (qT (qL (qB (qT (qT qZ))))))))) (by kernel_rfl) ?_
          obtain ⟨x986, hx987, hm⟩ := bindE hm
          refine wH_idx (i := 3) (d := 43) (T := 44) (A := A1) (n := (l1).length) (cap := cap1) (kd := .i64) (m := x828) (by kernel_rfl) (qT (qT (qT (qB (qT (qL (qB (qT (qT qZ))))))))) (by kernel_rfl) (by kernel_rfl) sl44 (F830.is hx987) ?_
          obtain ⟨A988, cap989, hc991, F990⟩ := SlR.row Z983 hx987
          refine wH_load1 (i := 4) (d := 44) (T := 68) (ad := (elA A1 1 (x828) 0)) (v := .slice A988 (x986).length cap989) (by kernel_rfl) (qT (qT (qT (qB (qT (qL (qB (qT (qT qZ))))))))) (by kernel_rfl) (by kernel_rfl) vt68 (fun W hW => hW.keep hc991) ?_
          obtain ⟨x993, hx994, hm⟩ := bindE hm
          refine wH_idx (i := 5) (d := 45) (T := 68) (A := A988) (n := (x986).length) (cap := cap989) (kd := .i64) (m := 0) (by kernel_rfl) (qT (qT (qT (qB (qT (qL (qB (qT (qT qZ))))))))) (by kernel_rfl) (by kernel_rfl) sl68 (F990.is hx994) ?_
          refine wH_load1 (i := 6) (d := 46) (T := 2) (ad := (elA A988 1 (0) 0)) (v := .int .i64 (x993)) (by kernel_rfl) (qT (qT (qT (qB (qT (qL (qB (qT (qT qZ))))))))) (by kernel_rfl) (by kernel_rfl) vt2 (fun W hW => Sl.cell (F990.chg hW Dj.nil) hx994 0 (by rfl)) ?_
          obtain ⟨x995, hx996, hm⟩ := bindE hm
          refine wH_idx (i := 7) (d := 47) (T := 75) (A := A819) (n := (l818).length) (cap := cap820) (kd := .i64) (m := x993) (by kernel_rfl) (qT (qT (qT (qB (qT (qL (qB (qT (qT qZ))))))))) (by kernel_rfl) (by kernel_rfl) sl75 ((F831.sl encIIIII_ok).is hx996) ?_
          refine wH_loadA (i := 8) (d := 48) (T := 52) (ad := (elA A819 5 (x993) 0)) (vs := [.int .i64 (x995.1), .int .i64 (x995.2.1), .int .i64 (x995.2.2.1), .int .i64 (x995.2.2.2.1), .int .i64 (x995.2.2.2.2)]) (by kernel_rfl) (qT (qT (qT (qB (qT (qL (qB (qT (qT qZ))))))))) (by kernel_rfl) (by kernel_rfl) vt52 (fun W hW i u hu => Sl.cells_at ((Z984.chg hW Dj.nil).sl encIIIII_ok) hx996 0 hu (by rfl)) ?_
          refine wH_take [9, 10, 11] [11, 10, 9, 8, 7, 6, 5, 4, 3, 2, 1, 0] [(51, .int .i64 (x828)), (50, .slice A1 (l1).length cap1), (49, .slice A819 (l818).length cap820)] (by kernel_rfl) (qT (qT (qT (qB (qT (qL (qB (qT (qT qZ))))))))) (by kernel_rfl) ?_
          obtain ⟨x997, hx998, hm⟩ := bindE hm
          refine wH_idx (i := 12) (d := 52) (T := 44) (A := A1) (n := (l1).length) (cap := cap1) (kd := .i64) (m := x828) (by kernel_rfl) (qT (qT (qT (qB (qT (qL (qB (qT (qT qZ))))))))) (by kernel_rfl) (by kernel_rfl) sl44 (F830.is hx998) ?_
          obtain ⟨A999, cap1000, hc1002, F1001⟩ := SlR.row Z983 hx998
          refine wH_load1 (i := 13) (d := 53) (T := 68) (ad := (elA A1 1 (x828) 0)) (v := .slice A999 (x997).length cap1000) (by kernel_rfl) (qT (qT (qT (qB (qT (qL (qB (qT (qT qZ))))))))) (by kernel_rfl) (by kernel_rfl) vt68 (fun W hW => hW.keep hc1002) ?_
          obtain ⟨x1004, hx1005, hm⟩ := bindE hm
          refine wH_idx (i := 14) (d := 54) (T := 68) (A := A999) (n := (x997).length) (cap := cap1000) (kd := .i64) (m := 1) (by kernel_rfl) (qT (qT (qT (qB (qT (qL (qB (qT (qT qZ))))))))) (by kernel_rfl) (by kernel_rfl) sl68 (F1001.is hx1005) ?_
          refine wH_load1 (i := 15) (d := 55) (T := 2) (ad := (elA A999 1 (1) 0)) (v := .int .i64 (x1004)) (by kernel_rfl) (qT (qT (qT (qB (qT (qL (qB (qT (qT qZ))))))))) (by kernel_rfl) (by kernel_rfl) vt2 (fun W hW => Sl.cell (F1001.chg hW Dj.nil) hx1005 0 (by rfl)) ?_
          obtain ⟨x1006, hx1007, hm⟩ := bindE hm
          refine wH_idx (i := 16) (d := 56) (T := 75) (A := A819) (n := (l818).length) (cap := cap820) (kd := .i64) (m := x1004) (by kernel_rfl) (qT (qT (qT (qB (qT (qL (qB (qT (qT qZ))))))))) (by kernel_rfl) (by kernel_rfl) sl75 ((F831.sl encIIIII_ok).is hx1007) ?_
          refine wH_loadA (i := 17) (d := 57) (T := 52) (ad := (elA A819 5 (x1004) 0)) (vs := [.int .i64 (x1006.1), .int .i64 (x1006.2.1), .int .i64 (x1006.2.2.1), .int .i64 (x1006.2.2.2.1), .int .i64 (x1006.2.2.2.2)]) (by kernel_rfl) (qT (qT (qT (qB (qT (qL (qB (qT (qT qZ))))))))) (by kernel_rfl) (by kernel_rfl) vt52 (fun W hW i u hu => Sl.cells_at ((Z984.chg hW Dj.nil).sl encIIIII_ok) hx1007 0 hu (by rfl)) ?_
          refine wH_all [18, 23] (by rfl) (by kernel_rfl) (by simp) ⟨⟨by kernel_rfl, ?_⟩, ⟨by kernel_rfl, ?_⟩, trivial⟩
          · skip
            obtain ⟨y1008, hy1009, hm⟩ := bindE hm
            refine wS_calls (d := 58) (f := 103) (vs := [.agg #[.int .i64 (x995.1), .int .i64 (x995.2.1), .int .i64 (x995.2.2.1), .int .i64 (x995.2.2.2.1), .int .i64 (x995.2.2.2.2)], .agg #[.int .i64 (x1006.1), .int .i64 (x1006.2.1), .int .i64 (x1006.2.2.1), .int .i64 (x1006.2.2.2.1), .int .i64 (x1006.2.2.2.2)]]) (by kernel_rfl) ent103 (c_spec_l06Pair hy1009) ?_
            rintro _ w1010 ⟨rfl, hc1011⟩
            replace F830 := F830.chg hc1011 Dj.nil
            replace F831 := F831.chg hc1011 Dj.nil
            replace F832 := F832.chg hc1011 Dj.nil
            replace F990 := F990.chg hc1011 Dj.nil
            replace F1001 := F1001.chg hc1011 Dj.nil
            replace hB := hB.inS hc1011 inNil
            have hSz := hS
            replace hS := hS.inS hc1011 inNil
            replace hZ := Nat.le_trans hZ hc1011.size
            refine ⟨.tuple #[.agg #[.int .i64 (y1008.1.1), .int .i64 (y1008.1.2.1), .int .i64 (y1008.1.2.2.1), .int .i64 (y1008.1.2.2.2.1), .int .i64 (y1008.1.2.2.2.2)], .int .i64 (y1008.2.1), .int .i64 (y1008.2.2)], rfl, ?_⟩
            refine wS_end (by kernel_rfl) ?_
            refine eX_KH hS ?_
            refine wH_take [19, 20, 21, 22] [22, 21, 20, 19, 18, 17, 16, 15, 14, 13, 12, 11, 10, 9, 8, 7, 6, 5, 4, 3, 2, 1, 0] [(61, .int .i64 (y1008.2.2)), (60, .int .i64 (y1008.2.1)), (59, .agg #[.int .i64 (y1008.1.1), .int .i64 (y1008.1.2.1), .int .i64 (y1008.1.2.2.1), .int .i64 (y1008.1.2.2.2.1), .int .i64 (y1008.1.2.2.2.2)]), (39, .tuple #[.agg #[.int .i64 (y1008.1.1), .int .i64 (y1008.1.2.1), .int .i64 (y1008.1.2.2.1), .int .i64 (y1008.1.2.2.2.1), .int .i64 (y1008.1.2.2.2.2)], .int .i64 (y1008.2.1), .int .i64 (y1008.2.2)])] (by kernel_rfl) (qT (qT (qT (qB (qT (qL (qB (qT (qT qZ))))))))) (by kernel_rfl) ?_
            refine wH_all [23] (by rfl) (by kernel_rfl) (by simp) ⟨⟨by kernel_rfl, ?_⟩, trivial⟩
            refine wS_alloc (d := 10) (T := 52) (z := .agg #[.int .i64 (0), .int .i64 (0), .int .i64 (0), .int .i64 (0), .int .i64 (0)]) (by kernel_rfl) (by kernel_rfl) ?_
            intro b1012 w1013 G1014 F1015 hc1016
            replace F1015 : Cl w1013 b1012 52 [.int .i64 (0), .int .i64 (0), .int .i64 (0), .int .i64 (0), .int .i64 (0)] := F1015
            have D1018 : Dj fp821 [b1012] := Dj.of F831.low (low1 G1014)
            have D1019 : Dj fp826 [b1012] := Dj.of F832.low (low1 G1014)
            replace F830 := F830.chg hc1016 Dj.nil
            replace F831 := F831.chg hc1016 Dj.nil
            replace F832 := F832.chg hc1016 Dj.nil
            replace F990 := F990.chg hc1016 Dj.nil
            replace F1001 := F1001.chg hc1016 Dj.nil
            replace hB := hB.inS hc1016 inNil
            have hSz := hS
            replace hS := hS.inS hc1016 inNil
            have Gz1020 := low1 (Nat.le_trans hSz.size G1014)
            replace G1014 := Nat.le_trans hZ G1014
            replace hZ := Nat.le_trans hZ hc1016.size
            refine wS_end (by kernel_rfl) ?_
            refine eX_KH hS ?_
            refine wH_all [24] (by rfl) (by kernel_rfl) (by simp) ⟨⟨by kernel_rfl, ?_⟩, trivial⟩
            refine wS_store (T := 52) (g := b1012) (o := 0) (ad := ⟨b1012, 0, none⟩) (v := .agg #[.int .i64 (y1008.1.1), .int .i64 (y1008.1.2.1), .int .i64 (y1008.1.2.2.1), .int .i64 (y1008.1.2.2.2.1), .int .i64 (y1008.1.2.2.2.2)]) (vs := [.int .i64 (y1008.1.1), .int .i64 (y1008.1.2.1), .int .i64 (y1008.1.2.2.1), .int .i64 (y1008.1.2.2.2.1), .int .i64 (y1008.1.2.2.2.2)]) (by kernel_rfl) (by rfl) sz52 (by rfl) (by rfl) F1015 (by simp only [List.length_cons, List.length_nil]; omega) ?_
            intro w1021 F1022 hc1023
            replace F830 := F830.chg hc1023 (Dj.of L1 (low1 G1014))
            replace F831 := F831.chg hc1023 D1018
            replace F832 := F832.chg hc1023 D1019
            replace F990 := F990.chg hc1023 (Dj.of L1 (low1 G1014))
            replace F1001 := F1001.chg hc1023 (Dj.of L1 (low1 G1014))
            replace hB := hB.inS hc1023 (inLow (low1 G1014))
            have hSz := hS
            replace hS := hS.inS hc1023 (inLow Gz1020)
            replace hZ := Nat.le_trans hZ hc1023.size
            replace F1022 : Cl w1021 b1012 52 [.int .i64 (y1008.1.1), .int .i64 (y1008.1.2.1), .int .i64 (y1008.1.2.2.1), .int .i64 (y1008.1.2.2.2.1), .int .i64 (y1008.1.2.2.2.2)] := F1022
            clear F1015
            refine wS_end (by kernel_rfl) ?_
            refine eX_KH hS ?_
            refine wH_take [25] [25, 24, 23, 22, 21, 20, 19, 18, 17, 16, 15, 14, 13, 12, 11, 10, 9, 8, 7, 6, 5, 4, 3, 2, 1, 0] [(11, .int .i64 (y1008.2.1))] (by kernel_rfl) (qT (qT (qT (qB (qT (qL (qB (qT (qT qZ))))))))) (by kernel_rfl) ?_
            refine wH_done (by kernel_rfl) ?_
            refine eX_tail ?_
            refine wS_pure 1 [(12, .int .i64 (y1008.2.2))] (by kernel_rfl) ?_
            refine wS_end (by rfl) ?_
            have hq : (some ((y1008.1.1, y1008.1.2.1, y1008.1.2.2.1, y1008.1.2.2.2.1, y1008.1.2.2.2.2, y1008.2.1, y1008.2.2)) : Option (Int × Int × Int × Int × Int × Int × Int)) = some _ := hm
            replace hq := someE hq
            subst hq
            exact eX_J (fun hst => ⟨b1012, y1008.1.1, y1008.1.2.1, y1008.1.2.2.1, y1008.1.2.2.2.1, y1008.1.2.2.2.2, y1008.2.1, y1008.2.2, rfl, Fr.of hst (by kernel_rfl), F830, F831, F832, F1022, G1014, D1018, D1019, hB, hZ⟩)
          · skip
            refine wS_alloc (d := 10) (T := 52) (z := .agg #[.int .i64 (0), .int .i64 (0), .int .i64 (0), .int .i64 (0), .int .i64 (0)]) (by kernel_rfl) (by kernel_rfl) ?_
            intro b1024 w1025 G1026 F1027 hc1028
            replace F1027 : Cl w1025 b1024 52 [.int .i64 (0), .int .i64 (0), .int .i64 (0), .int .i64 (0), .int .i64 (0)] := F1027
            have D1030 : Dj fp821 [b1024] := Dj.of F831.low (low1 G1026)
            have D1031 : Dj fp826 [b1024] := Dj.of F832.low (low1 G1026)
            replace F830 := F830.chg hc1028 Dj.nil
            replace F831 := F831.chg hc1028 Dj.nil
            replace F832 := F832.chg hc1028 Dj.nil
            replace F990 := F990.chg hc1028 Dj.nil
            replace F1001 := F1001.chg hc1028 Dj.nil
            replace hB := hB.inS hc1028 inNil
            have hSz := hS
            replace hS := hS.inS hc1028 inNil
            have Gz1032 := low1 (Nat.le_trans hSz.size G1026)
            replace G1026 := Nat.le_trans hZ G1026
            replace hZ := Nat.le_trans hZ hc1028.size
            refine wS_end (by kernel_rfl) ?_
            refine eX_KH hS ?_
            refine wH_all [18] (by rfl) (by kernel_rfl) (by simp) ⟨⟨by kernel_rfl, ?_⟩, trivial⟩
            obtain ⟨y1033, hy1034, hm⟩ := bindE hm
            refine wS_calls (d := 58) (f := 103) (vs := [.agg #[.int .i64 (x995.1), .int .i64 (x995.2.1), .int .i64 (x995.2.2.1), .int .i64 (x995.2.2.2.1), .int .i64 (x995.2.2.2.2)], .agg #[.int .i64 (x1006.1), .int .i64 (x1006.2.1), .int .i64 (x1006.2.2.1), .int .i64 (x1006.2.2.2.1), .int .i64 (x1006.2.2.2.2)]]) (by kernel_rfl) ent103 (c_spec_l06Pair hy1034) ?_
            rintro _ w1035 ⟨rfl, hc1036⟩
            replace F830 := F830.chg hc1036 Dj.nil
            replace F831 := F831.chg hc1036 Dj.nil
            replace F832 := F832.chg hc1036 Dj.nil
            replace F990 := F990.chg hc1036 Dj.nil
            replace F1001 := F1001.chg hc1036 Dj.nil
            replace F1027 := F1027.chg hc1036 notNil
            replace hB := hB.inS hc1036 inNil
            have hSz := hS
            replace hS := hS.inS hc1036 inNil
            replace hZ := Nat.le_trans hZ hc1036.size
            refine ⟨.tuple #[.agg #[.int .i64 (y1033.1.1), .int .i64 (y1033.1.2.1), .int .i64 (y1033.1.2.2.1), .int .i64 (y1033.1.2.2.2.1), .int .i64 (y1033.1.2.2.2.2)], .int .i64 (y1033.2.1), .int .i64 (y1033.2.2)], rfl, ?_⟩
            refine wS_end (by kernel_rfl) ?_
            refine eX_KH hS ?_
            refine wH_take [19, 20, 21, 22] [22, 21, 20, 19, 18, 23, 17, 16, 15, 14, 13, 12, 11, 10, 9, 8, 7, 6, 5, 4, 3, 2, 1, 0] [(61, .int .i64 (y1033.2.2)), (60, .int .i64 (y1033.2.1)), (59, .agg #[.int .i64 (y1033.1.1), .int .i64 (y1033.1.2.1), .int .i64 (y1033.1.2.2.1), .int .i64 (y1033.1.2.2.2.1), .int .i64 (y1033.1.2.2.2.2)]), (39, .tuple #[.agg #[.int .i64 (y1033.1.1), .int .i64 (y1033.1.2.1), .int .i64 (y1033.1.2.2.1), .int .i64 (y1033.1.2.2.2.1), .int .i64 (y1033.1.2.2.2.2)], .int .i64 (y1033.2.1), .int .i64 (y1033.2.2)])] (by kernel_rfl) (qT (qT (qT (qB (qT (qL (qB (qT (qT qZ))))))))) (by kernel_rfl) ?_
            refine wH_all [24] (by rfl) (by kernel_rfl) (by simp) ⟨⟨by kernel_rfl, ?_⟩, trivial⟩
            refine wS_store (T := 52) (g := b1024) (o := 0) (ad := ⟨b1024, 0, none⟩) (v := .agg #[.int .i64 (y1033.1.1), .int .i64 (y1033.1.2.1), .int .i64 (y1033.1.2.2.1), .int .i64 (y1033.1.2.2.2.1), .int .i64 (y1033.1.2.2.2.2)]) (vs := [.int .i64 (y1033.1.1), .int .i64 (y1033.1.2.1), .int .i64 (y1033.1.2.2.1), .int .i64 (y1033.1.2.2.2.1), .int .i64 (y1033.1.2.2.2.2)]) (by kernel_rfl) (by rfl) sz52 (by rfl) (by rfl) F1027 (by simp only [List.length_cons, List.length_nil]; omega) ?_
            intro w1037 F1038 hc1039
            replace F830 := F830.chg hc1039 (Dj.of L1 (low1 G1026))
            replace F831 := F831.chg hc1039 D1030
            replace F832 := F832.chg hc1039 D1031
            replace F990 := F990.chg hc1039 (Dj.of L1 (low1 G1026))
            replace F1001 := F1001.chg hc1039 (Dj.of L1 (low1 G1026))
            replace hB := hB.inS hc1039 (inLow (low1 G1026))
            have hSz := hS
            replace hS := hS.inS hc1039 (inLow Gz1032)
            replace hZ := Nat.le_trans hZ hc1039.size
            replace F1038 : Cl w1037 b1024 52 [.int .i64 (y1033.1.1), .int .i64 (y1033.1.2.1), .int .i64 (y1033.1.2.2.1), .int .i64 (y1033.1.2.2.2.1), .int .i64 (y1033.1.2.2.2.2)] := F1038
            clear F1027
            refine wS_end (by kernel_rfl) ?_
            refine eX_KH hS ?_
            refine wH_take [25] [25, 24, 22, 21, 20, 19, 18, 23, 17, 16, 15, 14, 13, 12, 11, 10, 9, 8, 7, 6, 5, 4, 3, 2, 1, 0] [(11, .int .i64 (y1033.2.1))] (by kernel_rfl) (qT (qT (qT (qB (qT (qL (qB (qT (qT qZ))))))))) (by kernel_rfl) ?_
            refine wH_done (by kernel_rfl) ?_
            refine eX_tail ?_
            refine wS_pure 1 [(12, .int .i64 (y1033.2.2))] (by kernel_rfl) ?_
            refine wS_end (by rfl) ?_
            have hq : (some ((y1033.1.1, y1033.1.2.1, y1033.1.2.2.1, y1033.1.2.2.2.1, y1033.1.2.2.2.2, y1033.2.1, y1033.2.2)) : Option (Int × Int × Int × Int × Int × Int × Int)) = some _ := hm
            replace hq := someE hq
            subst hq
            exact eX_J (fun hst => ⟨b1024, y1033.1.1, y1033.1.2.1, y1033.1.2.2.1, y1033.1.2.2.2.1, y1033.1.2.2.2.2, y1033.2.1, y1033.2.2, rfl, Fr.of hst (by kernel_rfl), F830, F831, F832, F1038, G1026, D1030, D1031, hB, hZ⟩)
        · rintro a' w961 ⟨b962, x963, x964, x965, x966, x967, x969, x970, hJ, hF971, F972, F973, F974, F975, G976, D977, D978, hB, hZ⟩
          subst hJ
          refine Fr.goX hF971 (by kernel_rfl) ?_
          refine eX_then ?_
          refine cW_seq ?_
          refine cW_region ?_
          refine wS_pure 3 [(64, .int .i64 (x828)), (63, .slice A1 (l1).length cap1), (62, .slice A824 (l823).length cap825)] (by kernel_rfl) ?_
          obtain ⟨x1040, hx1041, hm⟩ := bindE hm
          refine wS_idx (d := 65) (T := 44) (A := A1) (n := (l1).length) (cap := cap1) (kd := .i64) (m := x828) (by kernel_rfl) sl44 (F972.is hx1041) ?_
          obtain ⟨A1042, cap1043, hc1045, F1044⟩ := SlR.row F972 hx1041
          refine wS_load1 (d := 66) (T := 68) (ad := (elA A1 1 (x828) 0)) (v := .slice A1042 (x1040).length cap1043) (by kernel_rfl) vt68 hc1045 ?_
          obtain ⟨x1047, hx1048, hm⟩ := bindE hm
          refine wS_idx (d := 67) (T := 68) (A := A1042) (n := (x1040).length) (cap := cap1043) (kd := .i64) (m := 0) (by kernel_rfl) sl68 (F1044.is hx1048) ?_
          refine wS_load1 (d := 68) (T := 2) (ad := (elA A1042 1 (0) 0)) (v := .int .i64 (x1047)) (by kernel_rfl) vt2 (Sl.cell F1044 hx1048 0 (by rfl)) ?_
          refine wS_pure 1 [(69, .int .i64 (x969))] (by kernel_rfl) ?_
          obtain ⟨x1049, hx1050, hm⟩ := bindE hm
          refine wS_idx (d := 70) (T := 68) (A := A824) (n := (l823).length) (cap := cap825) (kd := .i64) (m := x1047) (by kernel_rfl) sl68 ((F974.sl encI_ok).is hx1050) ?_
          refine wS_storeEl (x := x1049) x969 (T := 2) (U := 2) (cap := cap825) (j := 0) (A := A824) (v := .int .i64 (x969)) (vs := [.int .i64 (x969)]) (m := x1047) (by kernel_rfl) (by rfl) sz2 (by rfl) encI_ok F974 hx1050 (by simp only [List.length_cons, List.length_nil]; omega) (by rfl) ?_
          intro w1051 F1052 hc1053
          replace F972 := F972.chg hc1053 (Dj.of L1 G834)
          replace F973 := F973.chg hc1053 (D835).symm
          replace F975 := F975.chg hc1053 (dj1 (D978).symm)
          replace F1044 := F1044.chg hc1053 (Dj.of L1 G834)
          replace hB := hB.inS hc1053 (inLow G834)
          replace hZ := Nat.le_trans hZ hc1053.size
          clear F974
          rewrite [show (l823).length = (l823.set (Int.toNat x1047) x969).length from (List.length_set ..).symm]
          refine wS_end (by rfl) ?_
          refine eX_then ?_
          refine cW_seq ?_
          refine cW_region ?_
          refine wS_pure 3 [(73, .int .i64 (x828)), (72, .slice A1 (l1).length cap1), (71, .slice A824 (l823.set (Int.toNat x1047) x969).length cap825)] (by kernel_rfl) ?_
          obtain ⟨x1054, hx1055, hm⟩ := bindE hm
          refine wS_idx (d := 74) (T := 44) (A := A1) (n := (l1).length) (cap := cap1) (kd := .i64) (m := x828) (by kernel_rfl) sl44 (F972.is hx1055) ?_
          obtain ⟨A1056, cap1057, hc1059, F1058⟩ := SlR.row F972 hx1055
          refine wS_load1 (d := 75) (T := 68) (ad := (elA A1 1 (x828) 0)) (v := .slice A1056 (x1054).length cap1057) (by kernel_rfl) vt68 hc1059 ?_
          obtain ⟨x1061, hx1062, hm⟩ := bindE hm
          refine wS_idx (d := 76) (T := 68) (A := A1056) (n := (x1054).length) (cap := cap1057) (kd := .i64) (m := 1) (by kernel_rfl) sl68 (F1058.is hx1062) ?_
          refine wS_load1 (d := 77) (T := 2) (ad := (elA A1056 1 (1) 0)) (v := .int .i64 (x1061)) (by kernel_rfl) vt2 (Sl.cell F1058 hx1062 0 (by rfl)) ?_
          refine wS_pure 1 [(78, .int .i64 (x970))] (by kernel_rfl) ?_
          obtain ⟨x1063, hx1064, hm⟩ := bindE hm
          refine wS_idx (d := 79) (T := 68) (A := A824) (n := (l823.set (Int.toNat x1047) x969).length) (cap := cap825) (kd := .i64) (m := x1061) (by kernel_rfl) sl68 ((F1052.sl encI_ok).is hx1064) ?_
          refine wS_storeEl (x := x1063) x970 (T := 2) (U := 2) (cap := cap825) (j := 0) (A := A824) (v := .int .i64 (x970)) (vs := [.int .i64 (x970)]) (m := x1061) (by kernel_rfl) (by rfl) sz2 (by rfl) encI_ok F1052 hx1064 (by simp only [List.length_cons, List.length_nil]; omega) (by rfl) ?_
          intro w1065 F1066 hc1067
          replace F972 := F972.chg hc1067 (Dj.of L1 G834)
          replace F973 := F973.chg hc1067 (D835).symm
          replace F975 := F975.chg hc1067 (dj1 (D978).symm)
          replace F1044 := F1044.chg hc1067 (Dj.of L1 G834)
          replace F1058 := F1058.chg hc1067 (Dj.of L1 G834)
          replace hB := hB.inS hc1067 (inLow G834)
          replace hZ := Nat.le_trans hZ hc1067.size
          clear F1052
          rewrite [show (l823.set (Int.toNat x1047) x969).length = ((l823.set (Int.toNat x1047) x969).set (Int.toNat x1061) x970).length from (List.length_set ..).symm]
          refine wS_end (by rfl) ?_
          refine eX_then ?_
          refine cW_prune [(1, .slice A1 (l1).length cap1), (6, .slice A819 (l818).length cap820), (7, .slice A824 ((l823.set (Int.toNat x1047) x969).set (Int.toNat x1061) x970).length cap825), (9, .int .i64 (x828)), (10, .pointer (some ⟨b962, 0, none⟩))] (by kernel_rfl) (by kernel_rfl) (fun a1068 => ?_)
          refine cW_seq ?_
          refine cW_region ?_
          refine wS_pure 1 [(80, .slice A819 (l818).length cap820)] (by kernel_rfl) ?_
          refine wS_loadA (d := 81) (T := 52) (ad := ⟨b962, 0, none⟩) (vs := [.int .i64 (x963), .int .i64 (x964), .int .i64 (x965), .int .i64 (x966), .int .i64 (x967)]) (by kernel_rfl) vt52 (fun i u hu => box_cells F975 0 hu (by rfl)) ?_
          refine wS_bs (enc := encIIIII) ([(x963, x964, x965, x966, x967)] : List (Int × Int × Int × Int × Int)) [.int .i64 (x963), .int .i64 (x964), .int .i64 (x965), .int .i64 (x966), .int .i64 (x967)] (d := 82) (t := 75) (T := 52) (n := 1) (ps := [(0, .agg #[.int .i64 (x963), .int .i64 (x964), .int .i64 (x965), .int .i64 (x966), .int .i64 (x967)])]) (by kernel_rfl) el75 encIIIII_ok (by rfl) (by omega) (by omega) (by kernel_rfl) (by rfl) ?_
          intro b1069 w1070 G1071 F1072 hc1073
          have D1075 : Dj fp821 [b1069] := Dj.of F973.low (low1 G1071)
          have D1076 : Dj fp826 [b1069] := Dj.of F1066.low (low1 G1071)
          have D1077 : Dj [b962] [b1069] := Dj.of (lt1 F975.lt) (low1 G1071)
          replace F972 := F972.chg hc1073 Dj.nil
          replace F973 := F973.chg hc1073 Dj.nil
          replace F1066 := F1066.chg hc1073 Dj.nil
          replace F975 := F975.chg hc1073 notNil
          replace F1044 := F1044.chg hc1073 Dj.nil
          replace F1058 := F1058.chg hc1073 Dj.nil
          replace hB := hB.inS hc1073 inNil
          replace G1071 := Nat.le_trans hZ G1071
          replace G1071 := low1 G1071
          replace hZ := Nat.le_trans hZ hc1073.size
          obtain ⟨_, hk1078, hm⟩ := bindE hm
          replace hk1078 := apE hk1078
          refine wS_append (enc := encIIIII) (l := (l818 : List (Int × Int × Int × Int × Int))) (l2 := (([(x963, x964, x965, x966, x967)] : List (Int × Int × Int × Int × Int)) : List (Int × Int × Int × Int × Int))) (d := 83) (t := 75) (T := 52) (A := A819) (A2 := (some ⟨b1069, 0, none⟩)) (cap := cap820) (cap2 := 1) (by kernel_rfl) el75 encIIIII_ok F973 (F1072.sl encIIIII_ok) (by rfl) hk1078 ?_
          intro w1079 fp1080 A1081 cap1082 F1083 hc1084 hp1085
          have G1087 := low_ap G833 hZ hp1085
          have D1088 : Dj fp826 fp1080 := Dj.ap D835 F1066.low hp1085
          have D1089 : Dj [b962] fp1080 := Dj.ap (D977).symm (lt1 F975.lt) hp1085
          have D1090 : Dj [b1069] fp1080 := Dj.ap (D1075).symm F1072.low hp1085
          replace F972 := F972.chg hc1084 (Dj.of L1 G833)
          replace F1066 := F1066.chg hc1084 D835
          replace F975 := F975.chg hc1084 (dj1 (D977).symm)
          replace F1044 := F1044.chg hc1084 (Dj.of L1 G833)
          replace F1058 := F1058.chg hc1084 (Dj.of L1 G833)
          replace F1072 := F1072.chg hc1084 (D1075).symm
          replace hB := hB.inS hc1084 (inLow G833)
          replace hZ := Nat.le_trans hZ hc1084.size
          refine wS_pure 1 [(6, .slice A1081 (l818 ++ (([(x963, x964, x965, x966, x967)] : List (Int × Int × Int × Int × Int)))).length cap1082)] (by kernel_rfl) ?_
          refine wS_end (by rfl) ?_
          refine eX_then ?_
          refine cW_region ?_
          refine wS_pure 1 [(84, .slice A824 ((l823.set (Int.toNat x1047) x969).set (Int.toNat x1061) x970).length cap825)] (by kernel_rfl) ?_
          refine wS_bs (enc := encI) ([0] : List (Int)) [.int .i64 (0)] (d := 85) (t := 68) (T := 2) (n := 1) (ps := [(0, .int .i64 (0))]) (by kernel_rfl) el68 encI_ok (by rfl) (by omega) (by omega) (by kernel_rfl) (by rfl) ?_
          intro b1091 w1092 G1093 F1094 hc1095
          have D1097 : Dj fp826 [b1091] := Dj.of F1066.low (low1 G1093)
          have D1098 : Dj [b962] [b1091] := Dj.of (lt1 F975.lt) (low1 G1093)
          have D1099 : Dj [b1069] [b1091] := Dj.of F1072.low (low1 G1093)
          have D1100 : Dj fp1080 [b1091] := Dj.of F1083.low (low1 G1093)
          replace F972 := F972.chg hc1095 Dj.nil
          replace F1066 := F1066.chg hc1095 Dj.nil
          replace F975 := F975.chg hc1095 notNil
          replace F1044 := F1044.chg hc1095 Dj.nil
          replace F1058 := F1058.chg hc1095 Dj.nil
          replace F1072 := F1072.chg hc1095 Dj.nil
          replace F1083 := F1083.chg hc1095 Dj.nil
          replace hB := hB.inS hc1095 inNil
          replace G1093 := Nat.le_trans hZ G1093
          replace G1093 := low1 G1093
          replace hZ := Nat.le_trans hZ hc1095.size
          obtain ⟨_, hk1101, hm⟩ := bindE hm
          replace hk1101 := apE hk1101
          refine wS_append (enc := encI) (l := ((l823.set (Int.toNat x1047) x969).set (Int.toNat x1061) x970 : List (Int))) (l2 := (([0] : List (Int)) : List (Int))) (d := 86) (t := 68) (T := 2) (A := A824) (A2 := (some ⟨b1091, 0, none⟩)) (cap := cap825) (cap2 := 1) (by kernel_rfl) el68 encI_ok F1066 (F1094.sl encI_ok) (by rfl) hk1101 ?_
          intro w1102 fp1103 A1104 cap1105 F1106 hc1107 hp1108
          have G1110 := low_ap G834 hZ hp1108
          have D1111 : Dj [b962] fp1103 := Dj.ap (D978).symm (lt1 F975.lt) hp1108
          have D1112 : Dj [b1069] fp1103 := Dj.ap (D1076).symm F1072.low hp1108
          have D1113 : Dj fp1080 fp1103 := Dj.ap (D1088).symm F1083.low hp1108
          have D1114 : Dj [b1091] fp1103 := Dj.ap (D1097).symm F1094.low hp1108
          replace F972 := F972.chg hc1107 (Dj.of L1 G834)
          replace F975 := F975.chg hc1107 (dj1 (D978).symm)
          replace F1044 := F1044.chg hc1107 (Dj.of L1 G834)
          replace F1058 := F1058.chg hc1107 (Dj.of L1 G834)
          replace F1072 := F1072.chg hc1107 (D1076).symm
          replace F1083 := F1083.chg hc1107 (D1088).symm
          replace F1094 := F1094.chg hc1107 (D1097).symm
          replace hB := hB.inS hc1107 (inLow G834)
          replace hZ := Nat.le_trans hZ hc1107.size
          refine wS_pure 1 [(7, .slice A1104 (((l823.set (Int.toNat x1047) x969).set (Int.toNat x1061) x970) ++ (([0] : List (Int)))).length cap1105)] (by kernel_rfl) ?_
          refine wS_end (by rfl) ?_
          refine eX_block ?_
          refine eX_then ?_
          refine cW_region ?_
          refine wS_pure 3 [(9, .int .i64 (wr (x828 + 1))), (38, .int .i64 (wr (x828 + 1))), (37, .int .i64 (x828))] (by kernel_rfl) ?_
          refine wS_end (by rfl) ?_
          have hq : (some (Ctl.next ((l818 ++ (([(x963, x964, x965, x966, x967)] : List (Int × Int × Int × Int × Int))), ((l823.set (Int.toNat x1047) x969).set (Int.toNat x1061) x970) ++ (([0] : List (Int))), wr (x828 + 1)))) : Option (Ctl ((List (Int × Int × Int × Int × Int)) × (List (Int)) × Int) ((List (Int × Int × Int × Int × Int)) × (List (Int))))) = some _ := hm
          replace hq := someE hq
          subst hq
          exact eX_next hx841 (fun hst => ⟨l818 ++ (([(x963, x964, x965, x966, x967)] : List (Int × Int × Int × Int × Int))), A1081, cap1082, fp1080, ((l823.set (Int.toNat x1047) x969).set (Int.toNat x1061) x970) ++ (([0] : List (Int))), A1104, cap1105, fp1103, wr (x828 + 1), rfl, Fr.of hst (by kernel_rfl), F972, F1083, F1106, G1087, G1110, (D1113).symm, hB, hZ⟩)
      · have hm := condF hb842 hm
        refine cW_exit ?_
        refine eX_then_exit ?_
        have hq : (some (Ctl.out ((l818, l823))) : Option (Ctl ((List (Int × Int × Int × Int × Int)) × (List (Int)) × Int) ((List (Int × Int × Int × Int × Int)) × (List (Int))))) = some _ := hm
        replace hq := someE hq
        subst hq
        refine eX_outX hx841 (fun hr1115 => ?_)
        replace hr1115 := hr1115.symm
        subst hr1115
        refine eX_block_hit ?_
        exact eX_J (fun hst => ⟨l818, A819, cap820, fp821, l823, A824, cap825, fp826, rfl, Fr.of hst (by kernel_rfl), F831, F832, G833, G834, D835, hB, hZ⟩)
    · rintro a' w800 ⟨l801, A802, cap803, fp804, l806, A807, cap808, fp809, hJ, hF811, F812, F813, G814, G815, D816, hB, hZ⟩
      subst hJ
      refine Fr.goX hF811 (by kernel_rfl) ?_
      refine eX_then ?_
      refine cW_seq ?_
      refine cW_region ?_
      refine wS_pure 4 [(5, .slice A807 (l806).length cap808), (4, .slice A802 (l801).length cap803), (88, .slice A807 (l806).length cap808), (87, .slice A802 (l801).length cap803)] (by kernel_rfl) ?_
      refine wS_end (by rfl) ?_
      refine eX_then ?_
      refine cW_ret ?_
      have hq : (some ((l801, l806)) : Option ((List (Int × Int × Int × Int × Int)) × (List (Int)))) = some _ := hm
      replace hq := someE hq
      subst hq
      refine eX_ret (vs := [.slice A802 (l801).length cap803, .slice A807 (l806).length cap808]) [.tmp 4, .tmp 5] (by rfl) ⟨by (show lkE _ _ _ = _); kernel_rfl, ⟨by (show lkE _ _ _ = _); kernel_rfl, trivial⟩⟩ ?_
      exact ⟨A802, cap803, fp804, A807, cap808, fp809, rfl, F812, G814, F813, G815, (D816).symm, hB⟩

set_option maxRecDepth 100000 in
/-- laws.markPointS -/
theorem c_laws_markPointS {w0 : World} {l0 : List (Int × Int)} {A0 : Option Addr} {cap0 : Nat} {fp0 : List Nat} {p1 : Int} {r : (Int) × (List (Int × Int))} (hm : m_laws_markPointS l0 p1 = some r) (F0 : Ow 2 encII 32 w0 fp0 A0 cap0 l0) :
    Calls Try.prog 66 #[.slice A0 (l0).length cap0, .int .i64 (p1)] w0 fun e w' => e = .returned (.int .i64 (r.1)) ∧ Ow 2 encII 32 w' fp0 A0 cap0 r.2 ∧ (r.2).length = (l0).length ∧ Chg (fp0 ++ []) w0 w' := by
  have L0 := F0.low
  have hB : Chg (fp0 ++ []) w0 w0 := Chg.refl _ _
  have hZ := Nat.le_refl w0.heap.size
  unfold m_laws_markPointS at hm
  refine enterE (N := 27) Try.func66 (by rfl) Try.ntmps66 (by simp) [(0, .slice A0 (l0).length cap0), (1, .int .i64 (p1))] (by rfl) (by kernel_rfl) (fun a => ?_)
  refine cW_seq ?_
  refine cW_region ?_
  refine wS_pure 1 [(4, .int .i64 (0))] (by kernel_rfl) ?_
  refine wS_end (by rfl) ?_
  refine eX_then ?_
  refine cW_seq ?_
  refine cW_seq ?_
  refine cW_region ?_
  refine wS_pure 1 [(5, .int .i64 (0))] (by kernel_rfl) ?_
  refine wS_end (by rfl) ?_
  refine eX_then ?_
  obtain ⟨r49, hr50, hm⟩ := bindE hm
  have hm51 := hm
  refine cW_cut (fun a' w' => ∃ x37 : Int, ∃ l38 : List (Int × Int), (x37, l38) = r49 ∧ Fr 27 [(1, .int .i64 (x37))] a' ∧ Ow 2 encII 32 w' fp0 A0 cap0 l38 ∧ (l38).length = (l0).length ∧ Chg (fp0 ++ []) w0 w' ∧ w0.heap.size ≤ w'.heap.size) ?_ ?_
  · refine cW_block ?_
    refine cW_loop _ (fun (s52 : Int × Int × (List (Int × Int))) a' w' => ∃ x43 : Int, ∃ x44 : Int, ∃ l45 : List (Int × Int), (x43, x44, l45) = s52 ∧ Fr 27 [(0, .slice A0 (l45).length cap0), (1, .int .i64 (x43)), (5, .int .i64 (x44))] a' ∧ Ow 2 encII 32 w' fp0 A0 cap0 l45 ∧ (l45).length = (l0).length ∧ Chg (fp0 ++ []) w0 w' ∧ w0.heap.size ≤ w'.heap.size) hr50 (fun hst => ⟨p1, 0, l0, rfl, Fr.of hst (by kernel_rfl), F0, (Eq.refl (l0).length), hB, hZ⟩) ?_
    rintro _ c53 a' w42 ⟨x43, x44, l45, rfl, hF46, F47, hl48, hB, hZ⟩ hx54
    refine Fr.goOn hF46 (by kernel_rfl) ?_
    have hm := hx54
    unfold m_laws_markPointS_s1 at hm
    refine cW_seq ?_
    refine cW_seq ?_
    refine cW_region ?_
    refine wS_pure 4 [(9, .bool (decide (x44 < (((l45).length : Int))))), (8, .int .i64 (((l45).length : Int))), (7, .slice A0 (l45).length cap0), (6, .int .i64 (x44))] (by kernel_rfl) ?_
    refine wS_end (by rfl) ?_
    refine eX_then ?_
    refine cW_cond (t := decide (x44 < (((l45).length : Int)))) (by kernel_rfl) (fun hb55 => ?_) (fun hb55 => ?_)
    · have hm := condT hb55 hm
      refine cW_skip ?_
      refine eX_then ?_
      refine cW_seq ?_
      refine cW_block ?_
      refine cW_seq ?_
      refine cW_region ?_
      refine wS_pure 3 [(14, .int .i64 (x43)), (13, .int .i64 (x44)), (12, .slice A0 (l45).length cap0)] (by kernel_rfl) ?_
      obtain ⟨x56, hx57, hm⟩ := bindE hm
      refine wS_idx (d := 15) (T := 59) (A := A0) (n := (l45).length) (cap := cap0) (kd := .i64) (m := x44) (by kernel_rfl) sl59 ((F47.sl encII_ok).is hx57) ?_
      refine wS_pure 1 [(16, .pointer (some (elA A0 2 (x44) 0)))] (by kernel_rfl) ?_
      refine wS_storeEl (x := x56) ((x43, x56.2)) (T := 2) (U := 32) (cap := cap0) (j := 0) (A := A0) (v := .int .i64 (x43)) (vs := [.int .i64 (x43)]) (m := x44) (by kernel_rfl) (by rfl) sz2 (by rfl) encII_ok F47 hx57 (by simp only [List.length_cons, List.length_nil]; omega) (by rfl) ?_
      intro w58 F59 hc60
      replace hB := hB.inS hc60 (inMem (fun x hx => (List.mem_append_left _ hx)))
      replace hZ := Nat.le_trans hZ hc60.size
      clear F47
      have hl61 := (show (l45.set (Int.toNat x44) ((x43, x56.2))).length = (l45).length from List.length_set ..).trans hl48
      rewrite [show (l45).length = (l45.set (Int.toNat x44) ((x43, x56.2))).length from (List.length_set ..).symm]
      refine wS_end (by rfl) ?_
      refine eX_then ?_
      refine cW_seq ?_
      refine cW_region ?_
      refine wS_pure 3 [(1, .int .i64 (wr (x43 + 1))), (18, .int .i64 (wr (x43 + 1))), (17, .int .i64 (x43))] (by kernel_rfl) ?_
      refine wS_end (by rfl) ?_
      refine eX_then ?_
      refine cW_seq ?_
      refine cW_region ?_
      refine wS_pure 3 [(21, .int .i64 (wr (x43 + 1))), (20, .int .i64 (x44)), (19, .slice A0 (l45.set (Int.toNat x44) ((x43, x56.2))).length cap0)] (by kernel_rfl) ?_
      obtain ⟨x62, hx63, hm⟩ := bindE hm
      refine wS_idx (d := 22) (T := 59) (A := A0) (n := (l45.set (Int.toNat x44) ((x43, x56.2))).length) (cap := cap0) (kd := .i64) (m := x44) (by kernel_rfl) sl59 ((F59.sl encII_ok).is hx63) ?_
      refine wS_pure 1 [(23, .pointer (some (elA A0 2 (x44) 1)))] (by kernel_rfl) ?_
      refine wS_storeEl (x := x62) ((x62.1, wr (x43 + 1))) (T := 2) (U := 32) (cap := cap0) (j := 1) (A := A0) (v := .int .i64 (wr (x43 + 1))) (vs := [.int .i64 (wr (x43 + 1))]) (m := x44) (by kernel_rfl) (by rfl) sz2 (by rfl) encII_ok F59 hx63 (by simp only [List.length_cons, List.length_nil]; omega) (by rfl) ?_
      intro w64 F65 hc66
      replace hB := hB.inS hc66 (inMem (fun x hx => (List.mem_append_left _ hx)))
      replace hZ := Nat.le_trans hZ hc66.size
      clear F59
      have hl67 := (show ((l45.set (Int.toNat x44) ((x43, x56.2))).set (Int.toNat x44) ((x62.1, wr (x43 + 1)))).length = (l45.set (Int.toNat x44) ((x43, x56.2))).length from List.length_set ..).trans hl61
      rewrite [show (l45.set (Int.toNat x44) ((x43, x56.2))).length = ((l45.set (Int.toNat x44) ((x43, x56.2))).set (Int.toNat x44) ((x62.1, wr (x43 + 1)))).length from (List.length_set ..).symm]
      refine wS_end (by rfl) ?_
      refine eX_then ?_
      refine cW_region ?_
      refine wS_pure 3 [(1, .int .i64 (wr ((wr (x43 + 1)) + 1))), (25, .int .i64 (wr ((wr (x43 + 1)) + 1))), (24, .int .i64 (wr (x43 + 1)))] (by kernel_rfl) ?_
      refine wS_end (by rfl) ?_
      refine eX_block ?_
      refine eX_then ?_
      refine cW_region ?_
      refine wS_pure 3 [(5, .int .i64 (wr (x44 + 1))), (11, .int .i64 (wr (x44 + 1))), (10, .int .i64 (x44))] (by kernel_rfl) ?_
      refine wS_end (by rfl) ?_
      have hq : (some (Ctl.next ((wr ((wr (x43 + 1)) + 1), wr (x44 + 1), (l45.set (Int.toNat x44) ((x43, x56.2))).set (Int.toNat x44) ((x62.1, wr (x43 + 1)))))) : Option (Ctl (Int × Int × (List (Int × Int))) (Int × (List (Int × Int))))) = some _ := hm
      replace hq := someE hq
      subst hq
      exact eX_next hx54 (fun hst => ⟨wr ((wr (x43 + 1)) + 1), wr (x44 + 1), (l45.set (Int.toNat x44) ((x43, x56.2))).set (Int.toNat x44) ((x62.1, wr (x43 + 1))), rfl, Fr.of hst (by kernel_rfl), F65, hl67, hB, hZ⟩)
    · have hm := condF hb55 hm
      refine cW_exit ?_
      refine eX_then_exit ?_
      have hq : (some (Ctl.out ((x43, l45))) : Option (Ctl (Int × Int × (List (Int × Int))) (Int × (List (Int × Int))))) = some _ := hm
      replace hq := someE hq
      subst hq
      refine eX_outX hx54 (fun hr68 => ?_)
      replace hr68 := hr68.symm
      subst hr68
      refine eX_block_hit ?_
      exact eX_J (fun hst => ⟨x43, l45, rfl, Fr.of hst (by kernel_rfl), F47, hl48, hB, hZ⟩)
  · rintro a' w36 ⟨x37, l38, hJ, hF39, F40, hl41, hB, hZ⟩
    subst hJ
    refine Fr.goX hF39 (by kernel_rfl) ?_
    refine eX_then ?_
    refine cW_seq ?_
    refine cW_region ?_
    refine wS_pure 2 [(4, .int .i64 (x37)), (26, .int .i64 (x37))] (by kernel_rfl) ?_
    refine wS_end (by rfl) ?_
    refine eX_then ?_
    refine cW_ret ?_
    have hq : (some ((x37, l38)) : Option ((Int) × (List (Int × Int)))) = some _ := hm
    replace hq := someE hq
    subst hq
    refine eX_ret (vs := [.int .i64 (x37)]) [.tmp 4] (by rfl) ⟨by (show lkE _ _ _ = _); kernel_rfl, trivial⟩ ?_
    exact ⟨rfl, F40, hl41, hB⟩

set_option maxRecDepth 100000 in
/-- laws.markInt64S -/
theorem c_laws_markInt64S {w0 : World} {l0 : List (Int)} {A0 : Option Addr} {cap0 : Nat} {fp0 : List Nat} {p1 : Int} {r : (Int) × (List (Int))} (hm : m_laws_markInt64S l0 p1 = some r) (F0 : Ow 1 encI 2 w0 fp0 A0 cap0 l0) :
    Calls Try.prog 70 #[.slice A0 (l0).length cap0, .int .i64 (p1)] w0 fun e w' => e = .returned (.int .i64 (r.1)) ∧ Ow 1 encI 2 w' fp0 A0 cap0 r.2 ∧ (r.2).length = (l0).length ∧ Chg (fp0 ++ []) w0 w' := by
  have L0 := F0.low
  have hB : Chg (fp0 ++ []) w0 w0 := Chg.refl _ _
  have hZ := Nat.le_refl w0.heap.size
  unfold m_laws_markInt64S at hm
  refine enterE (N := 19) Try.func70 (by rfl) Try.ntmps70 (by simp) [(0, .slice A0 (l0).length cap0), (1, .int .i64 (p1))] (by rfl) (by kernel_rfl) (fun a => ?_)
  refine cW_seq ?_
  refine cW_region ?_
  refine wS_pure 1 [(4, .int .i64 (0))] (by kernel_rfl) ?_
  refine wS_end (by rfl) ?_
  refine eX_then ?_
  refine cW_seq ?_
  refine cW_seq ?_
  refine cW_region ?_
  refine wS_pure 1 [(5, .int .i64 (0))] (by kernel_rfl) ?_
  refine wS_end (by rfl) ?_
  refine eX_then ?_
  obtain ⟨r37, hr38, hm⟩ := bindE hm
  have hm39 := hm
  refine cW_cut (fun a' w' => ∃ x25 : Int, ∃ l26 : List (Int), (x25, l26) = r37 ∧ Fr 19 [(1, .int .i64 (x25))] a' ∧ Ow 1 encI 2 w' fp0 A0 cap0 l26 ∧ (l26).length = (l0).length ∧ Chg (fp0 ++ []) w0 w' ∧ w0.heap.size ≤ w'.heap.size) ?_ ?_
  · refine cW_block ?_
    refine cW_loop _ (fun (s40 : Int × Int × (List (Int))) a' w' => ∃ x31 : Int, ∃ x32 : Int, ∃ l33 : List (Int), (x31, x32, l33) = s40 ∧ Fr 19 [(0, .slice A0 (l33).length cap0), (1, .int .i64 (x31)), (5, .int .i64 (x32))] a' ∧ Ow 1 encI 2 w' fp0 A0 cap0 l33 ∧ (l33).length = (l0).length ∧ Chg (fp0 ++ []) w0 w' ∧ w0.heap.size ≤ w'.heap.size) hr38 (fun hst => ⟨p1, 0, l0, rfl, Fr.of hst (by kernel_rfl), F0, (Eq.refl (l0).length), hB, hZ⟩) ?_
    rintro _ c41 a' w30 ⟨x31, x32, l33, rfl, hF34, F35, hl36, hB, hZ⟩ hx42
    refine Fr.goOn hF34 (by kernel_rfl) ?_
    have hm := hx42
    unfold m_laws_markInt64S_s1 at hm
    refine cW_seq ?_
    refine cW_seq ?_
    refine cW_region ?_
    refine wS_pure 4 [(9, .bool (decide (x32 < (((l33).length : Int))))), (8, .int .i64 (((l33).length : Int))), (7, .slice A0 (l33).length cap0), (6, .int .i64 (x32))] (by kernel_rfl) ?_
    refine wS_end (by rfl) ?_
    refine eX_then ?_
    refine cW_cond (t := decide (x32 < (((l33).length : Int)))) (by kernel_rfl) (fun hb43 => ?_) (fun hb43 => ?_)
    · have hm := condT hb43 hm
      refine cW_skip ?_
      refine eX_then ?_
      refine cW_seq ?_
      refine cW_block ?_
      refine cW_seq ?_
      refine cW_region ?_
      refine wS_pure 3 [(14, .int .i64 (x31)), (13, .int .i64 (x32)), (12, .slice A0 (l33).length cap0)] (by kernel_rfl) ?_
      obtain ⟨x44, hx45, hm⟩ := bindE hm
      refine wS_idx (d := 15) (T := 68) (A := A0) (n := (l33).length) (cap := cap0) (kd := .i64) (m := x32) (by kernel_rfl) sl68 ((F35.sl encI_ok).is hx45) ?_
      refine wS_storeEl (x := x44) x31 (T := 2) (U := 2) (cap := cap0) (j := 0) (A := A0) (v := .int .i64 (x31)) (vs := [.int .i64 (x31)]) (m := x32) (by kernel_rfl) (by rfl) sz2 (by rfl) encI_ok F35 hx45 (by simp only [List.length_cons, List.length_nil]; omega) (by rfl) ?_
      intro w46 F47 hc48
      replace hB := hB.inS hc48 (inMem (fun x hx => (List.mem_append_left _ hx)))
      replace hZ := Nat.le_trans hZ hc48.size
      clear F35
      have hl49 := (show (l33.set (Int.toNat x32) x31).length = (l33).length from List.length_set ..).trans hl36
      rewrite [show (l33).length = (l33.set (Int.toNat x32) x31).length from (List.length_set ..).symm]
      refine wS_end (by rfl) ?_
      refine eX_then ?_
      refine cW_region ?_
      refine wS_pure 3 [(1, .int .i64 (wr (x31 + 1))), (17, .int .i64 (wr (x31 + 1))), (16, .int .i64 (x31))] (by kernel_rfl) ?_
      refine wS_end (by rfl) ?_
      refine eX_block ?_
      refine eX_then ?_
      refine cW_region ?_
      refine wS_pure 3 [(5, .int .i64 (wr (x32 + 1))), (11, .int .i64 (wr (x32 + 1))), (10, .int .i64 (x32))] (by kernel_rfl) ?_
      refine wS_end (by rfl) ?_
      have hq : (some (Ctl.next ((wr (x31 + 1), wr (x32 + 1), l33.set (Int.toNat x32) x31))) : Option (Ctl (Int × Int × (List (Int))) (Int × (List (Int))))) = some _ := hm
      replace hq := someE hq
      subst hq
      exact eX_next hx42 (fun hst => ⟨wr (x31 + 1), wr (x32 + 1), l33.set (Int.toNat x32) x31, rfl, Fr.of hst (by kernel_rfl), F47, hl49, hB, hZ⟩)
    · have hm := condF hb43 hm
      refine cW_exit ?_
      refine eX_then_exit ?_
      have hq : (some (Ctl.out ((x31, l33))) : Option (Ctl (Int × Int × (List (Int))) (Int × (List (Int))))) = some _ := hm
      replace hq := someE hq
      subst hq
      refine eX_outX hx42 (fun hr50 => ?_)
      replace hr50 := hr50.symm
      subst hr50
      refine eX_block_hit ?_
      exact eX_J (fun hst => ⟨x31, l33, rfl, Fr.of hst (by kernel_rfl), F35, hl36, hB, hZ⟩)
  · rintro a' w24 ⟨x25, l26, hJ, hF27, F28, hl29, hB, hZ⟩
    subst hJ
    refine Fr.goX hF27 (by kernel_rfl) ?_
    refine eX_then ?_
    refine cW_seq ?_
    refine cW_region ?_
    refine wS_pure 2 [(4, .int .i64 (x25)), (18, .int .i64 (x25))] (by kernel_rfl) ?_
    refine wS_end (by rfl) ?_
    refine eX_then ?_
    refine cW_ret ?_
    have hq : (some ((x25, l26)) : Option ((Int) × (List (Int)))) = some _ := hm
    replace hq := someE hq
    subst hq
    refine eX_ret (vs := [.int .i64 (x25)]) [.tmp 4] (by rfl) ⟨by (show lkE _ _ _ = _); kernel_rfl, trivial⟩ ?_
    exact ⟨rfl, F28, hl29, hB⟩

set_option maxRecDepth 100000 in
/-- laws.markInt64SS -/
theorem c_laws_markInt64SS {w0 : World} {l0 : List (List (Int))} {A0 : Option Addr} {cap0 : Nat} {fp0 fr0 : List Nat} {p1 : Int} {r : (Int) × (List (List (Int)))} (hm : m_laws_markInt64SS l0 p1 = some r) (F0 : OwR 1 encI 68 2 w0 fp0 fr0 A0 cap0 l0) :
    Calls Try.prog 67 #[.slice A0 (l0).length cap0, .int .i64 (p1)] w0 fun e w' => e = .returned (.int .i64 (r.1)) ∧ OwR 1 encI 68 2 w' fp0 fr0 A0 cap0 r.2 ∧ (r.2).length = (l0).length ∧ Chg ((fp0 ++ fr0) ++ []) w0 w' := by
  have L0 := F0.low
  have hB : Chg ((fp0 ++ fr0) ++ []) w0 w0 := Chg.refl _ _
  have hZ := Nat.le_refl w0.heap.size
  unfold m_laws_markInt64SS at hm
  refine enterE (N := 19) Try.func67 (by rfl) Try.ntmps67 (by simp) [(0, .slice A0 (l0).length cap0), (1, .int .i64 (p1))] (by rfl) (by kernel_rfl) (fun a => ?_)
  refine cW_seq ?_
  refine cW_region ?_
  refine wS_pure 1 [(4, .int .i64 (0))] (by kernel_rfl) ?_
  refine wS_end (by rfl) ?_
  refine eX_then ?_
  refine cW_seq ?_
  refine cW_seq ?_
  refine cW_region ?_
  refine wS_pure 1 [(5, .int .i64 (0))] (by kernel_rfl) ?_
  refine wS_end (by rfl) ?_
  refine eX_then ?_
  obtain ⟨r65, hr66, hm⟩ := bindE hm
  have hm67 := hm
  refine cW_cut (fun a' w' => ∃ x53 : Int, ∃ l54 : List (List (Int)), (x53, l54) = r65 ∧ Fr 19 [(1, .int .i64 (x53))] a' ∧ OwR 1 encI 68 2 w' fp0 fr0 A0 cap0 l54 ∧ (l54).length = (l0).length ∧ Chg ((fp0 ++ fr0) ++ []) w0 w' ∧ w0.heap.size ≤ w'.heap.size) ?_ ?_
  · refine cW_block ?_
    refine cW_loop _ (fun (s68 : Int × Int × (List (List (Int)))) a' w' => ∃ x59 : Int, ∃ x60 : Int, ∃ l61 : List (List (Int)), (x59, x60, l61) = s68 ∧ Fr 19 [(0, .slice A0 (l61).length cap0), (1, .int .i64 (x59)), (5, .int .i64 (x60))] a' ∧ OwR 1 encI 68 2 w' fp0 fr0 A0 cap0 l61 ∧ (l61).length = (l0).length ∧ Chg ((fp0 ++ fr0) ++ []) w0 w' ∧ w0.heap.size ≤ w'.heap.size) hr66 (fun hst => ⟨p1, 0, l0, rfl, Fr.of hst (by kernel_rfl), F0, (Eq.refl (l0).length), hB, hZ⟩) ?_
    rintro _ c69 a' w58 ⟨x59, x60, l61, rfl, hF62, F63, hl64, hB, hZ⟩ hx70
    refine Fr.goOn hF62 (by kernel_rfl) ?_
    have hm := hx70
    unfold m_laws_markInt64SS_s1 at hm
    refine cW_seq ?_
    refine cW_seq ?_
    refine cW_region ?_
    refine wS_pure 4 [(9, .bool (decide (x60 < (((l61).length : Int))))), (8, .int .i64 (((l61).length : Int))), (7, .slice A0 (l61).length cap0), (6, .int .i64 (x60))] (by kernel_rfl) ?_
    refine wS_end (by rfl) ?_
    refine eX_then ?_
    refine cW_cond (t := decide (x60 < (((l61).length : Int)))) (by kernel_rfl) (fun hb71 => ?_) (fun hb71 => ?_)
    · have hm := condT hb71 hm
      refine cW_skip ?_
      refine eX_then ?_
      refine cW_seq ?_
      refine cW_block ?_
      refine cW_region ?_
      refine wS_pure 2 [(13, .int .i64 (x60)), (12, .slice A0 (l61).length cap0)] (by kernel_rfl) ?_
      obtain ⟨x72, hx73, hm⟩ := bindE hm
      refine wS_idx (d := 14) (T := 44) (A := A0) (n := (l61).length) (cap := cap0) (kd := .i64) (m := x60) (by kernel_rfl) sl44 ((F63.slr encI_ok).is hx73) ?_
      obtain ⟨A74, cap75, fp78, hc77, hsub79, F76, hcl80⟩ := OwR.lend F63 hx73
      have Dm82 := (F63.dj).symm
      refine wS_load1 (d := 15) (T := 68) (ad := (elA A0 1 (x60) 0)) (v := .slice A74 (x72).length cap75) (by kernel_rfl) vt68 hc77 ?_
      refine wS_pure 1 [(16, .int .i64 (x59))] (by kernel_rfl) ?_
      obtain ⟨y83, hy84, hm⟩ := bindE hm
      refine wS_calls (d := 17) (f := 70) (vs := [.slice A74 (x72).length cap75, .int .i64 (x59)]) (by kernel_rfl) ent70 (c_laws_markInt64S hy84 F76) ?_
      rintro _ w85 ⟨rfl, F87, hl88, hc86⟩
      have F89 := hcl80 _ _ (hc86.more (fun x hx => by simpa using hx)) F87 hl88
      have hc90 := hc86.more (S' := (fp0 ++ fr0) ++ []) (fun x hx => List.mem_append_left _ (hsub79 x (by simpa using hx)))
      have hl91 := (show (l61.set (Int.toNat x60) y83.2).length = (l61).length from List.length_set ..).trans hl64
      clear F63
      replace hB := hB.inS hc90 (inApp (inMem (fun x hx => (List.mem_append_left _ hx))) inNil)
      replace hZ := Nat.le_trans hZ hc90.size
      refine ⟨.int .i64 (y83.1), rfl, ?_⟩
      rewrite [(show (l61).length = (l61.set (Int.toNat x60) y83.2).length from (List.length_set ..).symm)]
      refine wS_pure 1 [(1, .int .i64 (y83.1))] (by kernel_rfl) ?_
      refine wS_end (by rfl) ?_
      refine eX_block ?_
      refine eX_then ?_
      refine cW_region ?_
      refine wS_pure 3 [(5, .int .i64 (wr (x60 + 1))), (11, .int .i64 (wr (x60 + 1))), (10, .int .i64 (x60))] (by kernel_rfl) ?_
      refine wS_end (by rfl) ?_
      have hq : (some (Ctl.next ((y83.1, wr (x60 + 1), l61.set (Int.toNat x60) y83.2))) : Option (Ctl (Int × Int × (List (List (Int)))) (Int × (List (List (Int)))))) = some _ := hm
      replace hq := someE hq
      subst hq
      exact eX_next hx70 (fun hst => ⟨y83.1, wr (x60 + 1), l61.set (Int.toNat x60) y83.2, rfl, Fr.of hst (by kernel_rfl), F89, hl91, hB, hZ⟩)
    · have hm := condF hb71 hm
      refine cW_exit ?_
      refine eX_then_exit ?_
      have hq : (some (Ctl.out ((x59, l61))) : Option (Ctl (Int × Int × (List (List (Int)))) (Int × (List (List (Int)))))) = some _ := hm
      replace hq := someE hq
      subst hq
      refine eX_outX hx70 (fun hr92 => ?_)
      replace hr92 := hr92.symm
      subst hr92
      refine eX_block_hit ?_
      exact eX_J (fun hst => ⟨x59, l61, rfl, Fr.of hst (by kernel_rfl), F63, hl64, hB, hZ⟩)
  · rintro a' w52 ⟨x53, l54, hJ, hF55, F56, hl57, hB, hZ⟩
    subst hJ
    refine Fr.goX hF55 (by kernel_rfl) ?_
    refine eX_then ?_
    refine cW_seq ?_
    refine cW_region ?_
    refine wS_pure 2 [(4, .int .i64 (x53)), (18, .int .i64 (x53))] (by kernel_rfl) ?_
    refine wS_end (by rfl) ?_
    refine eX_then ?_
    refine cW_ret ?_
    have hq : (some ((x53, l54)) : Option ((Int) × (List (List (Int))))) = some _ := hm
    replace hq := someE hq
    subst hq
    refine eX_ret (vs := [.int .i64 (x53)]) [.tmp 4] (by rfl) ⟨by (show lkE _ _ _ = _); kernel_rfl, trivial⟩ ?_
    exact ⟨rfl, F56, hl57, hB⟩

set_option maxRecDepth 100000 in
/-- laws.heldInt64S -/
theorem c_laws_heldInt64S {w0 : World} {l0 : List (Int)} {A0 : Option Addr} {cap0 : Nat} {fp0 : List Nat} {p1 : Int} {r : (Int)} (hm : m_laws_heldInt64S l0 p1 = some r) (F0 : Sl 1 encI w0 fp0 A0 l0) :
    Calls Try.prog 71 #[.slice A0 (l0).length cap0, .int .i64 (p1)] w0 fun e w' => e = .returned (.int .i64 (r)) ∧ Chg [] w0 w' := by
  have L0 := F0.low
  have hB : Chg [] w0 w0 := Chg.refl _ _
  have hZ := Nat.le_refl w0.heap.size
  unfold m_laws_heldInt64S at hm
  refine enterE (N := 21) Try.func71 (by rfl) Try.ntmps71 (by simp) [(0, .slice A0 (l0).length cap0), (1, .int .i64 (p1))] (by rfl) (by kernel_rfl) (fun a => ?_)
  refine cW_seq ?_
  refine cW_region ?_
  refine wS_pure 1 [(4, .int .i64 (0))] (by kernel_rfl) ?_
  refine wS_end (by rfl) ?_
  refine eX_then ?_
  refine cW_seq ?_
  refine cW_seq ?_
  refine cW_region ?_
  refine wS_pure 1 [(5, .int .i64 (0))] (by kernel_rfl) ?_
  refine wS_end (by rfl) ?_
  refine eX_then ?_
  obtain ⟨r24, hr25, hm⟩ := bindE hm
  have hm26 := hm
  refine cW_cut (fun a' w' => ∃ x17 : Int, Sum.inl x17 = r24 ∧ Fr 21 [(1, .int .i64 (x17))] a' ∧ Chg [] w0 w' ∧ w0.heap.size ≤ w'.heap.size) ?_ ?_
  · refine cW_block ?_
    refine cW_loop _ (fun (s27 : Int × Int) a' w' => ∃ x20 : Int, ∃ x21 : Int, (x20, x21) = s27 ∧ Fr 21 [(0, .slice A0 (l0).length cap0), (1, .int .i64 (x20)), (5, .int .i64 (x21))] a' ∧ Sl 1 encI w' fp0 A0 l0 ∧ Chg [] w0 w' ∧ w0.heap.size ≤ w'.heap.size) hr25 (fun hst => ⟨p1, 0, rfl, Fr.of hst (by kernel_rfl), F0, hB, hZ⟩) ?_
    rintro _ c28 a' w19 ⟨x20, x21, rfl, hF22, F23, hB, hZ⟩ hx29
    refine Fr.goOn hF22 (by kernel_rfl) ?_
    have hm := hx29
    unfold m_laws_heldInt64S_s1 at hm
    refine cW_seq ?_
    refine cW_seq ?_
    refine cW_region ?_
    refine wS_pure 4 [(9, .bool (decide (x21 < (((l0).length : Int))))), (8, .int .i64 (((l0).length : Int))), (7, .slice A0 (l0).length cap0), (6, .int .i64 (x21))] (by kernel_rfl) ?_
    refine wS_end (by rfl) ?_
    refine eX_then ?_
    refine cW_cond (t := decide (x21 < (((l0).length : Int)))) (by kernel_rfl) (fun hb30 => ?_) (fun hb30 => ?_)
    · have hm := condT hb30 hm
      refine cW_skip ?_
      refine eX_then ?_
      refine cW_seq ?_
      refine cW_block ?_
      refine cW_seq ?_
      refine cW_seq ?_
      refine cW_region ?_
      refine wS_pure 2 [(13, .int .i64 (x21)), (12, .slice A0 (l0).length cap0)] (by kernel_rfl) ?_
      obtain ⟨x31, hx32, hm⟩ := bindE hm
      refine wS_idx (d := 14) (T := 68) (A := A0) (n := (l0).length) (cap := cap0) (kd := .i64) (m := x21) (by kernel_rfl) sl68 (F23.is hx32) ?_
      refine wS_load1 (d := 15) (T := 2) (ad := (elA A0 1 (x21) 0)) (v := .int .i64 (x31)) (by kernel_rfl) vt2 (Sl.cell F23 hx32 0 (by rfl)) ?_
      refine wS_pure 2 [(17, .bool (x31 != x20)), (16, .int .i64 (x20))] (by kernel_rfl) ?_
      refine wS_end (by rfl) ?_
      refine eX_then ?_
      refine cW_cond (t := x31 != x20) (by kernel_rfl) (fun hb33 => ?_) (fun hb33 => ?_)
      · have hm := condT hb33 hm
        refine cW_seq ?_
        refine cW_region ?_
        refine wS_pure 1 [(4, .int .i64 ((-1)))] (by kernel_rfl) ?_
        refine wS_end (by rfl) ?_
        refine eX_then ?_
        refine cW_ret ?_
        refine eX_then_ret ?_
        refine eX_block_ret ?_
        refine eX_then_ret ?_
        have hq : (some (Ctl.out (Sum.inr ((-1)))) : Option (Ctl (Int × Int) (Sum (Int) ((Int))))) = some _ := hm
        replace hq := someE hq
        subst hq
        refine eX_outR hx29 (fun hr => ?_)
        subst hr
        refine eX_block_ret ?_
        refine eX_then_ret ?_
        refine eX_then_ret ?_
        have hq : (some ((-1)) : Option ((Int))) = some _ := hm26
        replace hq := someE hq
        subst hq
        refine eX_ret (vs := [.int .i64 ((-1))]) [.tmp 4] (by rfl) ⟨by (show lkE _ _ _ = _); kernel_rfl, trivial⟩ ?_
        exact ⟨rfl, hB⟩
      · have hm := condF hb33 hm
        refine cW_skip ?_
        refine eX_then ?_
        refine cW_region ?_
        refine wS_pure 3 [(1, .int .i64 (wr (x20 + 1))), (19, .int .i64 (wr (x20 + 1))), (18, .int .i64 (x20))] (by kernel_rfl) ?_
        refine wS_end (by rfl) ?_
        refine eX_block ?_
        refine eX_then ?_
        refine cW_region ?_
        refine wS_pure 3 [(5, .int .i64 (wr (x21 + 1))), (11, .int .i64 (wr (x21 + 1))), (10, .int .i64 (x21))] (by kernel_rfl) ?_
        refine wS_end (by rfl) ?_
        have hq : (some (Ctl.next ((wr (x20 + 1), wr (x21 + 1)))) : Option (Ctl (Int × Int) (Sum (Int) ((Int))))) = some _ := hm
        replace hq := someE hq
        subst hq
        exact eX_next hx29 (fun hst => ⟨wr (x20 + 1), wr (x21 + 1), rfl, Fr.of hst (by kernel_rfl), F23, hB, hZ⟩)
    · have hm := condF hb30 hm
      refine cW_exit ?_
      refine eX_then_exit ?_
      have hq : (some (Ctl.out (Sum.inl x20)) : Option (Ctl (Int × Int) (Sum (Int) ((Int))))) = some _ := hm
      replace hq := someE hq
      subst hq
      refine eX_outX hx29 (fun hr34 => ?_)
      replace hr34 := hr34.symm
      subst hr34
      refine eX_block_hit ?_
      exact eX_J (fun hst => ⟨x20, rfl, Fr.of hst (by kernel_rfl), hB, hZ⟩)
  · rintro a' w16 ⟨x17, hJ, hF18, hB, hZ⟩
    subst hJ
    refine Fr.goX hF18 (by kernel_rfl) ?_
    refine eX_then ?_
    refine cW_seq ?_
    refine cW_region ?_
    refine wS_pure 2 [(4, .int .i64 (x17)), (20, .int .i64 (x17))] (by kernel_rfl) ?_
    refine wS_end (by rfl) ?_
    refine eX_then ?_
    refine cW_ret ?_
    have hq : (some x17 : Option ((Int))) = some _ := hm
    replace hq := someE hq
    subst hq
    refine eX_ret (vs := [.int .i64 (x17)]) [.tmp 4] (by rfl) ⟨by (show lkE _ _ _ = _); kernel_rfl, trivial⟩ ?_
    exact ⟨rfl, hB⟩

set_option maxRecDepth 100000 in
/-- laws.heldInt64SS -/
theorem c_laws_heldInt64SS {w0 : World} {l0 : List (List (Int))} {A0 : Option Addr} {cap0 : Nat} {fp0 : List Nat} {p1 : Int} {r : (Int)} (hm : m_laws_heldInt64SS l0 p1 = some r) (F0 : SlR 1 encI w0 fp0 A0 l0) :
    Calls Try.prog 68 #[.slice A0 (l0).length cap0, .int .i64 (p1)] w0 fun e w' => e = .returned (.int .i64 (r)) ∧ Chg [] w0 w' := by
  have L0 := F0.low
  have hB : Chg [] w0 w0 := Chg.refl _ _
  have hZ := Nat.le_refl w0.heap.size
  unfold m_laws_heldInt64SS at hm
  refine enterE (N := 21) Try.func68 (by rfl) Try.ntmps68 (by simp) [(0, .slice A0 (l0).length cap0), (1, .int .i64 (p1))] (by rfl) (by kernel_rfl) (fun a => ?_)
  refine cW_seq ?_
  refine cW_region ?_
  refine wS_pure 1 [(4, .int .i64 (0))] (by kernel_rfl) ?_
  refine wS_end (by rfl) ?_
  refine eX_then ?_
  refine cW_seq ?_
  refine cW_seq ?_
  refine cW_region ?_
  refine wS_pure 1 [(5, .int .i64 (0))] (by kernel_rfl) ?_
  refine wS_end (by rfl) ?_
  refine eX_then ?_
  obtain ⟨r42, hr43, hm⟩ := bindE hm
  have hm44 := hm
  refine cW_cut (fun a' w' => ∃ x35 : Int, Sum.inl x35 = r42 ∧ Fr 21 [(1, .int .i64 (x35))] a' ∧ Chg [] w0 w' ∧ w0.heap.size ≤ w'.heap.size) ?_ ?_
  · refine cW_block ?_
    refine cW_loop _ (fun (s45 : Int × Int) a' w' => ∃ x38 : Int, ∃ x39 : Int, (x38, x39) = s45 ∧ Fr 21 [(0, .slice A0 (l0).length cap0), (1, .int .i64 (x38)), (5, .int .i64 (x39))] a' ∧ SlR 1 encI w' fp0 A0 l0 ∧ Chg [] w0 w' ∧ w0.heap.size ≤ w'.heap.size) hr43 (fun hst => ⟨p1, 0, rfl, Fr.of hst (by kernel_rfl), F0, hB, hZ⟩) ?_
    rintro _ c46 a' w37 ⟨x38, x39, rfl, hF40, F41, hB, hZ⟩ hx47
    refine Fr.goOn hF40 (by kernel_rfl) ?_
    have hm := hx47
    unfold m_laws_heldInt64SS_s1 at hm
    refine cW_seq ?_
    refine cW_seq ?_
    refine cW_region ?_
    refine wS_pure 4 [(9, .bool (decide (x39 < (((l0).length : Int))))), (8, .int .i64 (((l0).length : Int))), (7, .slice A0 (l0).length cap0), (6, .int .i64 (x39))] (by kernel_rfl) ?_
    refine wS_end (by rfl) ?_
    refine eX_then ?_
    refine cW_cond (t := decide (x39 < (((l0).length : Int)))) (by kernel_rfl) (fun hb48 => ?_) (fun hb48 => ?_)
    · have hm := condT hb48 hm
      refine cW_skip ?_
      refine eX_then ?_
      refine cW_seq ?_
      refine cW_block ?_
      refine cW_seq ?_
      refine cW_region ?_
      refine wS_pure 2 [(13, .int .i64 (x39)), (12, .slice A0 (l0).length cap0)] (by kernel_rfl) ?_
      obtain ⟨x49, hx50, hm⟩ := bindE hm
      refine wS_idx (d := 14) (T := 44) (A := A0) (n := (l0).length) (cap := cap0) (kd := .i64) (m := x39) (by kernel_rfl) sl44 (F41.is hx50) ?_
      obtain ⟨A51, cap52, hc54, F53⟩ := SlR.row F41 hx50
      refine wS_load1 (d := 15) (T := 68) (ad := (elA A0 1 (x39) 0)) (v := .slice A51 (x49).length cap52) (by kernel_rfl) vt68 hc54 ?_
      refine wS_pure 1 [(16, .int .i64 (x38))] (by kernel_rfl) ?_
      obtain ⟨y56, hy57, hm⟩ := bindE hm
      refine wS_calls (d := 17) (f := 71) (vs := [.slice A51 (x49).length cap52, .int .i64 (x38)]) (by kernel_rfl) ent71 (c_laws_heldInt64S hy57 F53) ?_
      rintro _ w58 ⟨rfl, hc59⟩
      replace F41 := F41.chg hc59 Dj.nil
      replace F53 := F53.chg hc59 Dj.nil
      replace hB := hB.inS hc59 inNil
      replace hZ := Nat.le_trans hZ hc59.size
      refine ⟨.int .i64 (y56), rfl, ?_⟩
      refine wS_pure 1 [(1, .int .i64 (y56))] (by kernel_rfl) ?_
      refine wS_end (by rfl) ?_
      refine eX_then ?_
      refine cW_seq ?_
      refine cW_region ?_
      refine wS_pure 2 [(19, .bool (decide (y56 < 0))), (18, .int .i64 (y56))] (by kernel_rfl) ?_
      refine wS_end (by rfl) ?_
      refine eX_then ?_
      refine cW_cond (t := decide (y56 < 0)) (by kernel_rfl) (fun hb60 => ?_) (fun hb60 => ?_)
      · have hm := condT hb60 hm
        refine cW_seq ?_
        refine cW_region ?_
        refine wS_pure 1 [(4, .int .i64 ((-1)))] (by kernel_rfl) ?_
        refine wS_end (by rfl) ?_
        refine eX_then ?_
        refine cW_ret ?_
        refine eX_block_ret ?_
        refine eX_then_ret ?_
        have hq : (some (Ctl.out (Sum.inr ((-1)))) : Option (Ctl (Int × Int) (Sum (Int) ((Int))))) = some _ := hm
        replace hq := someE hq
        subst hq
        refine eX_outR hx47 (fun hr => ?_)
        subst hr
        refine eX_block_ret ?_
        refine eX_then_ret ?_
        refine eX_then_ret ?_
        have hq : (some ((-1)) : Option ((Int))) = some _ := hm44
        replace hq := someE hq
        subst hq
        refine eX_ret (vs := [.int .i64 ((-1))]) [.tmp 4] (by rfl) ⟨by (show lkE _ _ _ = _); kernel_rfl, trivial⟩ ?_
        exact ⟨rfl, hB⟩
      · have hm := condF hb60 hm
        refine cW_skip ?_
        refine eX_block ?_
        refine eX_then ?_
        refine cW_region ?_
        refine wS_pure 3 [(5, .int .i64 (wr (x39 + 1))), (11, .int .i64 (wr (x39 + 1))), (10, .int .i64 (x39))] (by kernel_rfl) ?_
        refine wS_end (by rfl) ?_
        have hq : (some (Ctl.next ((y56, wr (x39 + 1)))) : Option (Ctl (Int × Int) (Sum (Int) ((Int))))) = some _ := hm
        replace hq := someE hq
        subst hq
        exact eX_next hx47 (fun hst => ⟨y56, wr (x39 + 1), rfl, Fr.of hst (by kernel_rfl), F41, hB, hZ⟩)
    · have hm := condF hb48 hm
      refine cW_exit ?_
      refine eX_then_exit ?_
      have hq : (some (Ctl.out (Sum.inl x38)) : Option (Ctl (Int × Int) (Sum (Int) ((Int))))) = some _ := hm
      replace hq := someE hq
      subst hq
      refine eX_outX hx47 (fun hr61 => ?_)
      replace hr61 := hr61.symm
      subst hr61
      refine eX_block_hit ?_
      exact eX_J (fun hst => ⟨x38, rfl, Fr.of hst (by kernel_rfl), hB, hZ⟩)
  · rintro a' w34 ⟨x35, hJ, hF36, hB, hZ⟩
    subst hJ
    refine Fr.goX hF36 (by kernel_rfl) ?_
    refine eX_then ?_
    refine cW_seq ?_
    refine cW_region ?_
    refine wS_pure 2 [(4, .int .i64 (x35)), (20, .int .i64 (x35))] (by kernel_rfl) ?_
    refine wS_end (by rfl) ?_
    refine eX_then ?_
    refine cW_ret ?_
    have hq : (some x35 : Option ((Int))) = some _ := hm
    replace hq := someE hq
    subst hq
    refine eX_ret (vs := [.int .i64 (x35)]) [.tmp 4] (by rfl) ⟨by (show lkE _ _ _ = _); kernel_rfl, trivial⟩ ?_
    exact ⟨rfl, hB⟩

set_option maxRecDepth 100000 in
/-- spec.l06Ask -/
theorem c_spec_l06Ask {w0 : World} {l0 : List (Int × Int)} {A0 : Option Addr} {cap0 : Nat} {fp0 : List Nat} {l1 : List (List (Int))} {A1 : Option Addr} {cap1 : Nat} {fp1 : List Nat} {r : (Bool)} (hm : m_spec_l06Ask l0 l1 = some r) (F0 : Sl 2 encII w0 fp0 A0 l0) (F1 : SlR 1 encI w0 fp1 A1 l1) :
    Calls Try.prog 119 #[.slice A0 (l0).length cap0, .slice A1 (l1).length cap1] w0 fun e w' => e = .returned (.bool (r)) ∧ Chg [] w0 w' := by
  have L0 := F0.low
  have L1 := F1.low
  have hB : Chg [] w0 w0 := Chg.refl _ _
  have hZ := Nat.le_refl w0.heap.size
  unfold m_spec_l06Ask at hm
  refine enterE (N := 13) Try.func119 (by rfl) Try.ntmps119 (by simp) [(0, .slice A0 (l0).length cap0), (1, .slice A1 (l1).length cap1)] (by rfl) (by kernel_rfl) (fun a => ?_)
  refine cW_seq ?_
  refine cW_region ?_
  refine wS_pure 1 [(4, .bool (false))] (by kernel_rfl) ?_
  refine wS_end (by rfl) ?_
  refine eX_then ?_
  refine cW_seq ?_
  refine cW_region ?_
  refine wS_pure 1 [(5, .slice A0 (l0).length cap0)] (by kernel_rfl) ?_
  obtain ⟨y3, hy4, hm⟩ := bindE hm
  refine wS_calls (d := 6) (f := 116) (vs := [.slice A0 (l0).length cap0]) (by kernel_rfl) ent116 (c_spec_l06Pins hy4 F0) ?_
  rintro _ w5 ⟨rfl, hc6⟩
  replace F0 := F0.chg hc6 Dj.nil
  replace F1 := F1.chg hc6 Dj.nil
  replace hB := hB.inS hc6 inNil
  replace hZ := Nat.le_trans hZ hc6.size
  refine ⟨.bool (y3), rfl, ?_⟩
  refine wS_pure 1 [(7, .bool (y3))] (by kernel_rfl) ?_
  refine wS_bool y3 (fun hb7 => ?_) (fun hb7 => ?_)
  · have hm := condT hb7 hm
    rewrite [hb7]
    refine wS_pure 3 [(10, .slice A1 (l1).length cap1), (9, .int .i64 (((l0).length : Int))), (8, .slice A0 (l0).length cap0)] (by kernel_rfl) ?_
    obtain ⟨y8, hy9, hm⟩ := bindE hm
    refine wS_calls (d := 11) (f := 94) (vs := [.int .i64 (((l0).length : Int)), .slice A1 (l1).length cap1]) (by kernel_rfl) ent94 (c_spec_l06Joins hy9 F1) ?_
    rintro _ w10 ⟨rfl, hc11⟩
    replace F0 := F0.chg hc11 Dj.nil
    replace F1 := F1.chg hc11 Dj.nil
    replace hB := hB.inS hc11 inNil
    replace hZ := Nat.le_trans hZ hc11.size
    refine ⟨.bool (y8), rfl, ?_⟩
    refine wS_pure 2 [(4, .bool (y8)), (12, .bool (y8))] (by kernel_rfl) ?_
    refine wS_end (by rfl) ?_
    refine eX_then ?_
    refine cW_ret ?_
    have hq : (some y8 : Option ((Bool))) = some _ := hm
    replace hq := someE hq
    subst hq
    refine eX_ret (vs := [.bool (y8)]) [.tmp 4] (by rfl) ⟨by (show lkE _ _ _ = _); kernel_rfl, trivial⟩ ?_
    exact ⟨rfl, hB⟩
  · have hm := condF hb7 hm
    rewrite [hb7]
    refine wS_pure 6 [(4, .bool (false)), (12, .bool (false)), (11, undef), (10, undef), (9, undef), (8, undef)] (by kernel_rfl) ?_
    refine wS_end (by rfl) ?_
    refine eX_then ?_
    refine cW_ret ?_
    have hq : (some false : Option ((Bool))) = some _ := hm
    replace hq := someE hq
    subst hq
    refine eX_ret (vs := [.bool (false)]) [.tmp 4] (by rfl) ⟨by (show lkE _ _ _ = _); kernel_rfl, trivial⟩ ?_
    exact ⟨rfl, hB⟩

set_option maxRecDepth 100000 in
/-- impl.ClockPlaces -/
theorem c_impl_ClockPlaces {w0 : World} {l0 : List (Int × Int)} {A0 : Option Addr} {cap0 : Nat} {fp0 : List Nat} {l1 : List (List (Int))} {A1 : Option Addr} {cap1 : Nat} {fp1 : List Nat} {r : (List (List (Int))) × (Bool)} (hm : m_impl_ClockPlaces l0 l1 = some r) (F0 : Sl 2 encII w0 fp0 A0 l0) (F1 : SlR 1 encI w0 fp1 A1 l1) :
    Calls Try.prog 60 #[.slice A0 (l0).length cap0, .slice A1 (l1).length cap1] w0 fun e w' => ∃ A100 cap100 fp100 fr100, e = .returned (.tuple #[.slice A100 (r.1).length cap100, .bool (r.2)]) ∧ OwR 1 encI 68 2 w' fp100 fr100 A100 cap100 r.1 ∧ (∀ x ∈ fp100 ++ fr100, w0.heap.size ≤ x) ∧ Chg [] w0 w' := by
  have L0 := F0.low
  have L1 := F1.low
  have hB : Chg [] w0 w0 := Chg.refl _ _
  have hZ := Nat.le_refl w0.heap.size
  unfold m_impl_ClockPlaces at hm
  refine enterE (N := 97) Try.func60 (by rfl) Try.ntmps60 (by simp) [(0, .slice A0 (l0).length cap0), (1, .slice A1 (l1).length cap1)] (by rfl) (by kernel_rfl) (fun a => ?_)
  refine cW_seq ?_
  refine cW_region ?_
  refine wS_pure 2 [(5, .bool (false)), (4, .slice none 0 0)] (by kernel_rfl) ?_
  refine wS_end (by rfl) ?_
  refine eX_then ?_
  refine cW_seq ?_
  refine cW_region ?_
  refine wS_pure 2 [(18, .slice A1 (l1).length cap1), (17, .slice A0 (l0).length cap0)] (by kernel_rfl) ?_
  obtain ⟨y3, hy4, hm⟩ := bindE hm
  refine wS_calls (d := 19) (f := 110) (vs := [.slice A0 (l0).length cap0, .slice A1 (l1).length cap1]) (by kernel_rfl) ent110 (c_impl_tree hy4 F0 F1) ?_
  rintro _ w5 ⟨A7, cap8, fp9, A13, cap14, fp15, rfl, F10, G11, F16, G17, D19, hc6⟩
  replace F0 := F0.chg hc6 Dj.nil
  replace F1 := F1.chg hc6 Dj.nil
  replace hB := hB.inS hc6 inNil
  replace G11 := low_le hZ G11
  replace G17 := low_le hZ G17
  replace hZ := Nat.le_trans hZ hc6.size
  refine ⟨.tuple #[.slice A7 (y3.1).length cap8, .slice A13 (y3.2.1).length cap14, .bool (y3.2.2)], rfl, ?_⟩
  refine wS_pure 7 [(8, .bool (y3.2.2)), (7, .slice A13 (y3.2.1).length cap14), (6, .slice A7 (y3.1).length cap8), (22, .bool (y3.2.2)), (21, .slice A13 (y3.2.1).length cap14), (20, .slice A7 (y3.1).length cap8), (16, .tuple #[.slice A7 (y3.1).length cap8, .slice A13 (y3.2.1).length cap14, .bool (y3.2.2)])] (by kernel_rfl) ?_
  refine wS_end (by rfl) ?_
  refine eX_then ?_
  refine cW_seq ?_
  refine cW_seq ?_
  refine cW_region ?_
  refine wS_pure 2 [(24, .bool (!y3.2.2)), (23, .bool (y3.2.2))] (by kernel_rfl) ?_
  refine wS_end (by rfl) ?_
  refine eX_then ?_
  refine cW_cond (t := !y3.2.2) (by kernel_rfl) (fun hb22 => ?_) (fun hb22 => ?_)
  · have hm := condT hb22 hm
    refine cW_seq ?_
    refine cW_region ?_
    refine wS_pure 2 [(5, .bool (false)), (4, .slice none 0 0)] (by kernel_rfl) ?_
    refine wS_end (by rfl) ?_
    refine eX_then ?_
    refine cW_ret ?_
    refine eX_then_ret ?_
    have hq : (some (([], false)) : Option ((List (List (Int))) × (Bool))) = some _ := hm
    replace hq := someE hq
    subst hq
    refine eX_ret (vs := [.slice none 0 0, .bool (false)]) [.tmp 4, .tmp 5] (by rfl) ⟨by (show lkE _ _ _ = _); kernel_rfl, ⟨by (show lkE _ _ _ = _); kernel_rfl, trivial⟩⟩ ?_
    exact ⟨none, 0, [], [], rfl, OwR.nil _, (lowApp lowNil lowNil), hB⟩
  · have hm := condF hb22 hm
    refine cW_skip ?_
    refine eX_then ?_
    refine cW_seq ?_
    refine cW_region ?_
    refine wS_pure 2 [(26, .int .i64 (((y3.1).length : Int))), (25, .slice A7 (y3.1).length cap8)] (by kernel_rfl) ?_
    obtain ⟨_, hk23, hm⟩ := bindE hm
    replace hk23 := mkE hk23
    refine wS_makeR (T2 := 2) (k := 1) (enc := encI) (d := 27) (t := 44) (T := 68) (k1 := .i64) (k2 := .i64) (m := ((y3.1).length : Int)) (by kernel_rfl) el44 hk23.1 hk23.2 ?_
    intro b24 w25 G26 F27 hc28
    have D30 : Dj fp9 ([b24] ++ []) := Dj.of F10.low (lowApp (low1 G26) lowNil)
    have D31 : Dj fp15 ([b24] ++ []) := Dj.of F16.low (lowApp (low1 G26) lowNil)
    replace F0 := F0.chg hc28 Dj.nil
    replace F1 := F1.chg hc28 Dj.nil
    replace F10 := F10.chg hc28 Dj.nil
    replace F16 := F16.chg hc28 Dj.nil
    replace hB := hB.inS hc28 inNil
    replace G26 := Nat.le_trans hZ G26
    replace G26 := low1 G26
    replace hZ := Nat.le_trans hZ hc28.size
    replace G26 := lowApp G26 lowNil
    refine wS_pure 1 [(9, .slice (some ⟨b24, 0, none⟩) (List.replicate (Int.toNat (((y3.1).length : Int))) ([] : List (Int))).length (Int.toNat (((y3.1).length : Int))))] (by kernel_rfl) ?_
    refine wS_end (by rfl) ?_
    refine eX_then ?_
    refine cW_seq ?_
    refine cW_region ?_
    refine wS_pure 4 [(10, .int .i64 (wr ((((y3.1).length : Int)) - 1))), (30, .int .i64 (wr ((((y3.1).length : Int)) - 1))), (29, .int .i64 (((y3.1).length : Int))), (28, .slice A7 (y3.1).length cap8)] (by kernel_rfl) ?_
    refine wS_end (by rfl) ?_
    refine eX_then ?_
    refine cW_prune [(0, .slice A0 (l0).length cap0), (1, .slice A1 (l1).length cap1), (6, .slice A7 (y3.1).length cap8), (9, .slice (some ⟨b24, 0, none⟩) (List.replicate (Int.toNat (((y3.1).length : Int))) ([] : List (Int))).length (Int.toNat (((y3.1).length : Int)))), (10, .int .i64 (wr ((((y3.1).length : Int)) - 1)))] (by kernel_rfl) (by kernel_rfl) (fun a32 => ?_)
    refine cW_seq ?_
    refine cW_drawnTail [] 15 (by kernel_rfl) (by kernel_rfl) (fun w67 hc68 => ?_)
    replace F0 := F0.chg hc68 Dj.nil
    replace F1 := F1.chg hc68 Dj.nil
    replace F10 := F10.chg hc68 Dj.nil
    replace F16 := F16.chg hc68 Dj.nil
    replace F27 := F27.chg hc68 Dj.nil
    replace hB := hB.inS hc68 inNil
    replace hZ := Nat.le_trans hZ hc68.size
    have hS := Chg.refl [] w67
    have Z69 := F0
    have Z70 := F1
    have Z71 := F10
    have Z72 := F16
    have Z73 := F27
    refine wH_take [0, 1, 2, 3] [3, 2, 1, 0] [(34, .int .i64 (wr ((((y3.1).length : Int)) - 1))), (33, .slice A7 (y3.1).length cap8), (32, .int .i64 (wr ((((y3.1).length : Int)) - 1))), (31, .slice (some ⟨b24, 0, none⟩) (List.replicate (Int.toNat (((y3.1).length : Int))) ([] : List (Int))).length (Int.toNat (((y3.1).length : Int))))] (by kernel_rfl) (qT (qT qZ)) (by kernel_rfl) ?_
    obtain ⟨x74, hx75, hm⟩ := bindE hm
    refine wH_idx (i := 4) (d := 35) (T := 75) (A := A7) (n := (y3.1).length) (cap := cap8) (kd := .i64) (m := wr ((((y3.1).length : Int)) - 1)) (by kernel_rfl) (qT (qT qZ)) (by kernel_rfl) (by kernel_rfl) sl75 ((F10.sl encIIIII_ok).is hx75) ?_
    refine wH_take [5, 6] [6, 5, 4, 3, 2, 1, 0] [(37, .pointer (some (elA A7 5 (wr ((((y3.1).length : Int)) - 1)) 0))), (36, .pointer (some (elA A7 5 (wr ((((y3.1).length : Int)) - 1)) 0)))] (by kernel_rfl) (qT (qT qZ)) (by kernel_rfl) ?_
    refine wH_load1 (i := 7) (d := 38) (T := 2) (ad := (elA A7 5 (wr ((((y3.1).length : Int)) - 1)) 0)) (v := .int .i64 (x74.1)) (by kernel_rfl) (qT (qT qZ)) (by kernel_rfl) (by kernel_rfl) vt2 (fun W hW => Sl.cell ((Z71.chg hW Dj.nil).sl encIIIII_ok) hx75 0 (by rfl)) ?_
    refine wH_take [8, 9] [9, 8, 7, 6, 5, 4, 3, 2, 1, 0] [(40, .int .i64 (wr ((((y3.1).length : Int)) - 1))), (39, .slice A7 (y3.1).length cap8)] (by kernel_rfl) (qT (qT qZ)) (by kernel_rfl) ?_
    obtain ⟨x76, hx77, hm⟩ := bindE hm
    refine wH_idx (i := 10) (d := 41) (T := 75) (A := A7) (n := (y3.1).length) (cap := cap8) (kd := .i64) (m := wr ((((y3.1).length : Int)) - 1)) (by kernel_rfl) (qT (qT qZ)) (by kernel_rfl) (by kernel_rfl) sl75 ((F10.sl encIIIII_ok).is hx77) ?_
    refine wH_take [11, 12] [12, 11, 10, 9, 8, 7, 6, 5, 4, 3, 2, 1, 0] [(43, .pointer (some (elA A7 5 (wr ((((y3.1).length : Int)) - 1)) 2))), (42, .pointer (some (elA A7 5 (wr ((((y3.1).length : Int)) - 1)) 0)))] (by kernel_rfl) (qT (qT qZ)) (by kernel_rfl) ?_
    refine wH_load1 (i := 13) (d := 44) (T := 2) (ad := (elA A7 5 (wr ((((y3.1).length : Int)) - 1)) 2)) (v := .int .i64 (x76.2.2.1)) (by kernel_rfl) (qT (qT qZ)) (by kernel_rfl) (by kernel_rfl) vt2 (fun W hW => Sl.cell ((Z71.chg hW Dj.nil).sl encIIIII_ok) hx77 2 (by rfl)) ?_
    refine wH_all [14] (by rfl) (by kernel_rfl) (by simp) ⟨⟨by kernel_rfl, ?_⟩, trivial⟩
    refine wS_bs (enc := encI) ([x74.1, x76.2.2.1] : List (Int)) [.int .i64 (x74.1), .int .i64 (x76.2.2.1)] (d := 45) (t := 68) (T := 2) (n := 2) (ps := [(0, .int .i64 (x74.1)), (1, .int .i64 (x76.2.2.1))]) (by kernel_rfl) el68 encI_ok (by rfl) (by omega) (by omega) (by kernel_rfl) (by rfl) ?_
    intro b78 w79 G80 F81 hc82
    have D84 : Dj fp9 [b78] := Dj.of F10.low (low1 G80)
    have D85 : Dj fp15 [b78] := Dj.of F16.low (low1 G80)
    have D86 : Dj ([b24] ++ []) [b78] := Dj.of F27.low (low1 G80)
    replace F0 := F0.chg hc82 Dj.nil
    replace F1 := F1.chg hc82 Dj.nil
    replace F10 := F10.chg hc82 Dj.nil
    replace F16 := F16.chg hc82 Dj.nil
    replace F27 := F27.chg hc82 Dj.nil
    replace hB := hB.inS hc82 inNil
    have hSz := hS
    replace hS := hS.inS hc82 inNil
    have Gz87 := low1 (Nat.le_trans hSz.size G80)
    replace G80 := Nat.le_trans hZ G80
    replace G80 := low1 G80
    replace hZ := Nat.le_trans hZ hc82.size
    refine wS_end (by kernel_rfl) ?_
    refine eX_KH hS ?_
    refine wH_done (by kernel_rfl) ?_
    refine eX_tail ?_
    obtain ⟨x88, hx89, hm⟩ := bindE hm
    refine wS_idx (d := 46) (T := 44) (A := (some ⟨b24, 0, none⟩)) (n := (List.replicate (Int.toNat (((y3.1).length : Int))) ([] : List (Int))).length) (cap := (Int.toNat (((y3.1).length : Int)))) (kd := .i64) (m := wr ((((y3.1).length : Int)) - 1)) (by kernel_rfl) sl44 ((F27.slr encI_ok).is hx89) ?_
    refine wS_storeRow (k := 1) (enc := encI) (x := x88) (l := ([x74.1, x76.2.2.1] : List (Int))) (T := 68) (U := 68) (cap := (Int.toNat (((y3.1).length : Int)))) (c := 2) (A := (some ⟨b24, 0, none⟩)) (B := (some ⟨b78, 0, none⟩)) (m := wr ((((y3.1).length : Int)) - 1)) (by kernel_rfl) sz68 F27 F81 D86 hx89 ?_
    intro w93 F94 hc95
    have D97 : Dj fp9 ([b24] ++ ([] ++ [b78])) := Dj.app (Dj.inl D30) (Dj.app (Dj.inr D30) D84)
    have D98 : Dj fp15 ([b24] ++ ([] ++ [b78])) := Dj.app (Dj.inl D31) (Dj.app (Dj.inr D31) D85)
    have G99 := lowApp (low_inl G26) (lowApp (low_inr G26) G80)
    have Dm100 := Dj.inl D86.symm
    replace F0 := F0.chg hc95 (Dj.inl (Dj.of L0 G26))
    replace F1 := F1.chg hc95 (Dj.inl (Dj.of L1 G26))
    replace F10 := F10.chg hc95 (Dj.inl D30)
    replace F16 := F16.chg hc95 (Dj.inl D31)
    replace F81 := F81.chg hc95 (Dj.inl (D86).symm)
    replace hB := hB.inS hc95 (memS_inl (inLow G26))
    replace hZ := Nat.le_trans hZ hc95.size
    replace F81 := (F81.sl encI_ok)
    rewrite [show (List.replicate (Int.toNat (((y3.1).length : Int))) ([] : List (Int))).length = ((List.replicate (Int.toNat (((y3.1).length : Int))) ([] : List (Int))).set (Int.toNat (wr ((((y3.1).length : Int)) - 1))) (([x74.1, x76.2.2.1] : List (Int)))).length from (List.length_set ..).symm]
    refine wS_end (by rfl) ?_
    refine eX_then ?_
    refine cW_seq ?_
    refine cW_seq ?_
    refine cW_region ?_
    refine wS_pure 4 [(11, .int .i64 (wr ((((l1).length : Int)) - 1))), (49, .int .i64 (wr ((((l1).length : Int)) - 1))), (48, .int .i64 (((l1).length : Int))), (47, .slice A1 (l1).length cap1)] (by kernel_rfl) ?_
    refine wS_end (by rfl) ?_
    refine eX_then ?_
    refine cW_prune [(0, .slice A0 (l0).length cap0), (1, .slice A1 (l1).length cap1), (6, .slice A7 (y3.1).length cap8), (9, .slice (some ⟨b24, 0, none⟩) ((List.replicate (Int.toNat (((y3.1).length : Int))) ([] : List (Int))).set (Int.toNat (wr ((((y3.1).length : Int)) - 1))) (([x74.1, x76.2.2.1] : List (Int)))).length (Int.toNat (((y3.1).length : Int)))), (11, .int .i64 (wr ((((l1).length : Int)) - 1)))] (by kernel_rfl) (by kernel_rfl) (fun a101 => ?_)
    obtain ⟨r954, hr955, hm⟩ := bindE hm
    have hm956 := hm
    refine cW_cut (fun a' w' => ∃ l930 : List (List (Int)), ∃ A931 : Option Addr, ∃ cap932 : Nat, ∃ fp933 : List Nat, ∃ fr935 : List Nat, l930 = r954 ∧ Fr 97 [(9, .slice A931 (l930).length cap932)] a' ∧ OwR 1 encI 68 2 w' fp933 fr935 A931 cap932 l930 ∧ (∀ x ∈ (fp933 ++ fr935), w0.heap.size ≤ x) ∧ Chg [] w0 w' ∧ w0.heap.size ≤ w'.heap.size) ?_ ?_
    · refine cW_block ?_
      refine cW_loop _ (fun (s957 : (List (List (Int))) × Int) a' w' => ∃ l940 : List (List (Int)), ∃ A941 : Option Addr, ∃ cap942 : Nat, ∃ fp943 : List Nat, ∃ fr945 : List Nat, ∃ x946 : Int, (l940, x946) = s957 ∧ Fr 97 [(0, .slice A0 (l0).length cap0), (1, .slice A1 (l1).length cap1), (6, .slice A7 (y3.1).length cap8), (9, .slice A941 (l940).length cap942), (11, .int .i64 (x946))] a' ∧ Sl 2 encII w' fp0 A0 l0 ∧ SlR 1 encI w' fp1 A1 l1 ∧ Ow 5 encIIIII 52 w' fp9 A7 cap8 y3.1 ∧ OwR 1 encI 68 2 w' fp943 fr945 A941 cap942 l940 ∧ (∀ x ∈ (fp943 ++ fr945), w0.heap.size ≤ x) ∧ Dj fp9 (fp943 ++ fr945) ∧ Chg [] w0 w' ∧ w0.heap.size ≤ w'.heap.size) hr955 (fun hst => ⟨(List.replicate (Int.toNat (((y3.1).length : Int))) ([] : List (Int))).set (Int.toNat (wr ((((y3.1).length : Int)) - 1))) (([x74.1, x76.2.2.1] : List (Int))), (some ⟨b24, 0, none⟩), (Int.toNat (((y3.1).length : Int))), [b24], ([] ++ [b78]), wr ((((l1).length : Int)) - 1), rfl, Fr.of hst (by kernel_rfl), F0, F1, F10, F94, G99, D97, hB, hZ⟩) ?_
      rintro _ c958 a' w939 ⟨l940, A941, cap942, fp943, fr945, x946, rfl, hF947, F948, F949, F950, F951, G952, D953, hB, hZ⟩ hx959
      refine Fr.goOn hF947 (by kernel_rfl) ?_
      have hm := hx959
      unfold m_impl_ClockPlaces_s3 at hm
      refine cW_seq ?_
      refine cW_seq ?_
      refine cW_region ?_
      refine wS_pure 2 [(51, .bool (decide (x946 ≥ 0))), (50, .int .i64 (x946))] (by kernel_rfl) ?_
      refine wS_end (by rfl) ?_
      refine eX_then ?_
      refine cW_cond (t := decide (x946 ≥ 0)) (by kernel_rfl) (fun hb960 => ?_) (fun hb960 => ?_)
      · have hm := condT hb960 hm
        refine cW_skip ?_
        refine eX_then ?_
        refine cW_seq ?_
        refine cW_block ?_
        refine cW_seq ?_
        refine cW_region ?_
        refine wS_pure 5 [(58, .int .i64 (wr ((((l0).length : Int)) + x946))), (57, .int .i64 (x946)), (56, .int .i64 (((l0).length : Int))), (55, .slice A0 (l0).length cap0), (54, .slice A941 (l940).length cap942)] (by kernel_rfl) ?_
        obtain ⟨x961, hx962, hm⟩ := bindE hm
        refine wS_idx (d := 59) (T := 44) (A := A941) (n := (l940).length) (cap := cap942) (kd := .i64) (m := wr ((((l0).length : Int)) + x946)) (by kernel_rfl) sl44 ((F951.slr encI_ok).is hx962) ?_
        obtain ⟨A963, cap964, hc966, F965⟩ := OwR.row F951 encI_ok hx962
        have G968 := low_inr G952
        have Dm969 := (F951.dj).symm
        refine wS_load1 (d := 60) (T := 68) (ad := (elA A941 1 (wr ((((l0).length : Int)) + x946)) 0)) (v := .slice A963 (x961).length cap964) (by kernel_rfl) vt68 hc966 ?_
        refine wS_pure 1 [(12, .slice A963 (x961).length cap964)] (by kernel_rfl) ?_
        refine wS_end (by rfl) ?_
        refine eX_then ?_
        refine cW_seq ?_
        refine cW_region ?_
        refine wS_pure 2 [(62, .int .i64 (x946)), (61, .slice A1 (l1).length cap1)] (by kernel_rfl) ?_
        obtain ⟨x970, hx971, hm⟩ := bindE hm
        refine wS_idx (d := 63) (T := 44) (A := A1) (n := (l1).length) (cap := cap1) (kd := .i64) (m := x946) (by kernel_rfl) sl44 (F949.is hx971) ?_
        obtain ⟨A972, cap973, hc975, F974⟩ := SlR.row F949 hx971
        refine wS_load1 (d := 64) (T := 68) (ad := (elA A1 1 (x946) 0)) (v := .slice A972 (x970).length cap973) (by kernel_rfl) vt68 hc975 ?_
        refine wS_pure 2 [(66, .int .i64 (0)), (65, .int .i64 (((x970).length : Int)))] (by kernel_rfl) ?_
        refine wS_end (by rfl) ?_
        refine eX_then ?_
        obtain ⟨r1249, hr1250, hm⟩ := bindE hm
        have hm1251 := hm
        refine cW_cut (fun a' w' => ∃ l1218 : List (List (Int)), ∃ A1219 : Option Addr, ∃ cap1220 : Nat, ∃ fp1221 : List Nat, ∃ fr1223 : List Nat, l1218 = r1249 ∧ Fr 97 [(0, .slice A0 (l0).length cap0), (1, .slice A1 (l1).length cap1), (6, .slice A7 (y3.1).length cap8), (9, .slice A1219 (l1218).length cap1220), (11, .int .i64 (x946))] a' ∧ Sl 2 encII w' fp0 A0 l0 ∧ SlR 1 encI w' fp1 A1 l1 ∧ Ow 5 encIIIII 52 w' fp9 A7 cap8 y3.1 ∧ OwR 1 encI 68 2 w' fp1221 fr1223 A1219 cap1220 l1218 ∧ (∀ x ∈ (fp1221 ++ fr1223), w0.heap.size ≤ x) ∧ Dj fp9 (fp1221 ++ fr1223) ∧ Chg [] w0 w' ∧ w0.heap.size ≤ w'.heap.size) ?_ ?_
        · refine cW_block ?_
          refine cW_loop _ (fun (s1252 : (List (List (Int))) × Int) a' w' => ∃ l1232 : List (List (Int)), ∃ A1233 : Option Addr, ∃ cap1234 : Nat, ∃ fp1235 : List Nat, ∃ fr1237 : List Nat, ∃ x1238 : Int, (l1232, x1238) = s1252 ∧ Fr 97 [(0, .slice A0 (l0).length cap0), (1, .slice A1 (l1).length cap1), (6, .slice A7 (y3.1).length cap8), (9, .slice A1233 (l1232).length cap1234), (11, .int .i64 (x946)), (12, .slice A963 (x961).length cap964), (64, .slice A972 (x970).length cap973), (65, .int .i64 (((x970).length : Int))), (66, .int .i64 (x1238))] a' ∧ Sl 2 encII w' fp0 A0 l0 ∧ SlR 1 encI w' fp1 A1 l1 ∧ Ow 5 encIIIII 52 w' fp9 A7 cap8 y3.1 ∧ Sl 1 encI w' fr945 A963 x961 ∧ Sl 1 encI w' fp1 A972 x970 ∧ OwR 1 encI 68 2 w' fp1235 fr1237 A1233 cap1234 l1232 ∧ Dj fr945 fp1235 ∧ (∀ x ∈ (fp1235 ++ fr1237), w0.heap.size ≤ x) ∧ Dj fp9 (fp1235 ++ fr1237) ∧ Chg [] w0 w' ∧ w0.heap.size ≤ w'.heap.size) hr1250 (fun hst => ⟨l940, A941, cap942, fp943, fr945, 0, rfl, Fr.of hst (by kernel_rfl), F948, F949, F950, F965, F974, F951, Dm969, G952, D953, hB, hZ⟩) ?_
          rintro _ c1253 a' w1231 ⟨l1232, A1233, cap1234, fp1235, fr1237, x1238, rfl, hF1239, F1240, F1241, F1242, F1243, F1244, F1245, Dm1246, G1247, D1248, hB, hZ⟩ hx1254
          refine Fr.goOn hF1239 (by kernel_rfl) ?_
          have hm := hx1254
          unfold m_impl_ClockPlaces_s4 at hm
          refine cW_seq ?_
          refine cW_region ?_
          refine wS_pure 1 [(67, .bool (decide (x1238 < (((x970).length : Int)))))] (by kernel_rfl) ?_
          refine wS_end (by rfl) ?_
          refine eX_then ?_
          refine cW_seq ?_
          refine cW_cond (t := decide (x1238 < (((x970).length : Int)))) (by kernel_rfl) (fun hb1255 => ?_) (fun hb1255 => ?_)
          · have hm := condT hb1255 hm
            refine cW_skip ?_
            refine eX_then ?_
            refine cW_seq ?_
            refine cW_block ?_
            refine cW_seq ?_
            refine cW_region ?_
            obtain ⟨x1256, hx1257, hm⟩ := bindE hm
            refine wS_idx (d := 68) (T := 68) (A := A972) (n := (x970).length) (cap := cap973) (kd := .i64) (m := x1238) (by kernel_rfl) sl68 (F1244.is hx1257) ?_
            refine wS_load1 (d := 69) (T := 2) (ad := (elA A972 1 (x1238) 0)) (v := .int .i64 (x1256)) (by kernel_rfl) vt2 (Sl.cell F1244 hx1257 0 (by rfl)) ?_
            refine wS_pure 1 [(14, .int .i64 (x1256))] (by kernel_rfl) ?_
            refine wS_end (by rfl) ?_
            refine eX_then ?_
            refine cW_seq ?_
            refine cW_region ?_
            refine wS_pure 2 [(71, .int .i64 (x1256)), (70, .slice A7 (y3.1).length cap8)] (by kernel_rfl) ?_
            obtain ⟨x1258, hx1259, hm⟩ := bindE hm
            refine wS_idx (d := 72) (T := 75) (A := A7) (n := (y3.1).length) (cap := cap8) (kd := .i64) (m := x1256) (by kernel_rfl) sl75 ((F1242.sl encIIIII_ok).is hx1259) ?_
            refine wS_pure 1 [(73, .pointer (some (elA A7 5 (x1256) 0)))] (by kernel_rfl) ?_
            refine wS_loadA (d := 74) (T := 25) (ad := (elA A7 5 (x1256) 0)) (vs := [.int .i64 (x1258.1), .int .i64 (x1258.2.1), .int .i64 (x1258.2.2.1), .int .i64 (x1258.2.2.2.1)]) (by kernel_rfl) vt25 (fun i u hu => Sl.cells_at (F1242.sl encIIIII_ok) hx1259 0 hu (by rfl)) ?_
            refine wS_alloc (d := 15) (T := 25) (z := .agg #[.int .i64 (0), .int .i64 (0), .int .i64 (0), .int .i64 (0)]) (by kernel_rfl) (by kernel_rfl) ?_
            intro b1260 w1261 G1262 F1263 hc1264
            replace F1263 : Cl w1261 b1260 25 [.int .i64 (0), .int .i64 (0), .int .i64 (0), .int .i64 (0)] := F1263
            have D1266 : Dj fp9 [b1260] := Dj.of F1242.low (low1 G1262)
            have D1267 : Dj fr945 [b1260] := Dj.of F1243.low (low1 G1262)
            have D1268 : Dj (fp1235 ++ fr1237) [b1260] := Dj.of F1245.low (low1 G1262)
            replace F1240 := F1240.chg hc1264 Dj.nil
            replace F1241 := F1241.chg hc1264 Dj.nil
            replace F1242 := F1242.chg hc1264 Dj.nil
            replace F1243 := F1243.chg hc1264 Dj.nil
            replace F1244 := F1244.chg hc1264 Dj.nil
            replace F1245 := F1245.chg hc1264 Dj.nil
            replace hB := hB.inS hc1264 inNil
            replace G1262 := Nat.le_trans hZ G1262
            replace hZ := Nat.le_trans hZ hc1264.size
            refine wS_store (T := 25) (g := b1260) (o := 0) (ad := ⟨b1260, 0, none⟩) (v := .agg #[.int .i64 (x1258.1), .int .i64 (x1258.2.1), .int .i64 (x1258.2.2.1), .int .i64 (x1258.2.2.2.1)]) (vs := [.int .i64 (x1258.1), .int .i64 (x1258.2.1), .int .i64 (x1258.2.2.1), .int .i64 (x1258.2.2.2.1)]) (by kernel_rfl) (by rfl) sz25 (by rfl) (by rfl) F1263 (by simp only [List.length_cons, List.length_nil]; omega) ?_
            intro w1269 F1270 hc1271
            replace F1240 := F1240.chg hc1271 (Dj.of L0 (low1 G1262))
            replace F1241 := F1241.chg hc1271 (Dj.of L1 (low1 G1262))
            replace F1242 := F1242.chg hc1271 D1266
            replace F1243 := F1243.chg hc1271 D1267
            replace F1244 := F1244.chg hc1271 (Dj.of L1 (low1 G1262))
            replace F1245 := F1245.chg hc1271 D1268
            replace hB := hB.inS hc1271 (inLow (low1 G1262))
            replace hZ := Nat.le_trans hZ hc1271.size
            replace F1270 : Cl w1269 b1260 25 [.int .i64 (x1258.1), .int .i64 (x1258.2.1), .int .i64 (x1258.2.2.1), .int .i64 (x1258.2.2.2.1)] := F1270
            clear F1263
            refine wS_end (by rfl) ?_
            refine eX_then ?_
            refine cW_drawnTail [] 19 (by kernel_rfl) (by kernel_rfl) (fun w1317 hc1318 => ?_)
            replace F1240 := F1240.chg hc1318 Dj.nil
            replace F1241 := F1241.chg hc1318 Dj.nil
            replace F1242 := F1242.chg hc1318 Dj.nil
            replace F1243 := F1243.chg hc1318 Dj.nil
            replace F1244 := F1244.chg hc1318 Dj.nil
            replace F1245 := F1245.chg hc1318 Dj.nil
            replace F1270 := F1270.chg hc1318 notNil
            replace hB := hB.inS hc1318 inNil
            replace hZ := Nat.le_trans hZ hc1318.size
            have hS := Chg.refl [] w1317
            have Z1319 := F1240
            have Z1320 := F1241
            have Z1321 := F1242
            have Z1322 := F1243
            have Z1323 := F1244
            have Z1324 := F1245
            have Z1325 := F1270
            refine wH_take [0, 1, 2] [2, 1, 0] [(77, .slice A963 (x961).length cap964), (76, .int .i64 (x1256)), (75, .slice A1233 (l1232).length cap1234)] (by kernel_rfl) (qT (qB (qT (qL (qB (qT (qB (qT (qL (qB (qT (qT qZ)))))))))))) (by kernel_rfl) ?_
            obtain ⟨x1326, hx1327, hm⟩ := bindE hm
            refine wH_idx (i := 3) (d := 78) (T := 68) (A := A963) (n := (x961).length) (cap := cap964) (kd := .i64) (m := 0) (by kernel_rfl) (qT (qB (qT (qL (qB (qT (qB (qT (qL (qB (qT (qT qZ)))))))))))) (by kernel_rfl) (by kernel_rfl) sl68 (F1243.is hx1327) ?_
            refine wH_load1 (i := 4) (d := 79) (T := 2) (ad := (elA A963 1 (0) 0)) (v := .int .i64 (x1326)) (by kernel_rfl) (qT (qB (qT (qL (qB (qT (qB (qT (qL (qB (qT (qT qZ)))))))))))) (by kernel_rfl) (by kernel_rfl) vt2 (fun W hW => Sl.cell (Z1322.chg hW Dj.nil) hx1327 0 (by rfl)) ?_
            refine wH_take [5] [5, 4, 3, 2, 1, 0] [(80, .pointer (some ⟨b1260, 0, none⟩))] (by kernel_rfl) (qT (qB (qT (qL (qB (qT (qB (qT (qL (qB (qT (qT qZ)))))))))))) (by kernel_rfl) ?_
            refine wH_load1 (i := 6) (d := 81) (T := 2) (ad := ⟨b1260, 0, none⟩) (v := .int .i64 (x1258.1)) (by kernel_rfl) (qT (qB (qT (qL (qB (qT (qB (qT (qL (qB (qT (qT qZ)))))))))))) (by kernel_rfl) (by kernel_rfl) vt2 (fun W hW => (Z1325.chg hW notNil).cell 0) ?_
            refine wH_take [7] [7, 6, 5, 4, 3, 2, 1, 0] [(82, .pointer (some ⟨b1260, 1, none⟩))] (by kernel_rfl) (qT (qB (qT (qL (qB (qT (qB (qT (qL (qB (qT (qT qZ)))))))))))) (by kernel_rfl) ?_
            refine wH_load1 (i := 8) (d := 83) (T := 2) (ad := ⟨b1260, 1, none⟩) (v := .int .i64 (x1258.2.1)) (by kernel_rfl) (qT (qB (qT (qL (qB (qT (qB (qT (qL (qB (qT (qT qZ)))))))))))) (by kernel_rfl) (by kernel_rfl) vt2 (fun W hW => (Z1325.chg hW notNil).cell 1) ?_
            refine wH_take [10] [10, 8, 7, 6, 5, 4, 3, 2, 1, 0] [(85, .slice A963 (x961).length cap964)] (by kernel_rfl) (qT (qB (qT (qL (qB (qT (qB (qT (qL (qB (qT (qT qZ)))))))))))) (by kernel_rfl) ?_
            obtain ⟨x1328, hx1329, hm⟩ := bindE hm
            refine wH_idx (i := 11) (d := 86) (T := 68) (A := A963) (n := (x961).length) (cap := cap964) (kd := .i64) (m := 1) (by kernel_rfl) (qT (qB (qT (qL (qB (qT (qB (qT (qL (qB (qT (qT qZ)))))))))))) (by kernel_rfl) (by kernel_rfl) sl68 (F1243.is hx1329) ?_
            refine wH_load1 (i := 12) (d := 87) (T := 2) (ad := (elA A963 1 (1) 0)) (v := .int .i64 (x1328)) (by kernel_rfl) (qT (qB (qT (qL (qB (qT (qB (qT (qL (qB (qT (qT qZ)))))))))))) (by kernel_rfl) (by kernel_rfl) vt2 (fun W hW => Sl.cell (Z1322.chg hW Dj.nil) hx1329 0 (by rfl)) ?_
            refine wH_take [13] [13, 12, 11, 10, 8, 7, 6, 5, 4, 3, 2, 1, 0] [(88, .pointer (some ⟨b1260, 2, none⟩))] (by kernel_rfl) (qT (qB (qT (qL (qB (qT (qB (qT (qL (qB (qT (qT qZ)))))))))))) (by kernel_rfl) ?_
            refine wH_load1 (i := 14) (d := 89) (T := 2) (ad := ⟨b1260, 2, none⟩) (v := .int .i64 (x1258.2.2.1)) (by kernel_rfl) (qT (qB (qT (qL (qB (qT (qB (qT (qL (qB (qT (qT qZ)))))))))))) (by kernel_rfl) (by kernel_rfl) vt2 (fun W hW => (Z1325.chg hW notNil).cell 2) ?_
            refine wH_take [15] [15, 14, 13, 12, 11, 10, 8, 7, 6, 5, 4, 3, 2, 1, 0] [(90, .pointer (some ⟨b1260, 3, none⟩))] (by kernel_rfl) (qT (qB (qT (qL (qB (qT (qB (qT (qL (qB (qT (qT qZ)))))))))))) (by kernel_rfl) ?_
            refine wH_load1 (i := 16) (d := 91) (T := 2) (ad := ⟨b1260, 3, none⟩) (v := .int .i64 (x1258.2.2.2.1)) (by kernel_rfl) (qT (qB (qT (qL (qB (qT (qB (qT (qL (qB (qT (qT qZ)))))))))))) (by kernel_rfl) (by kernel_rfl) vt2 (fun W hW => (Z1325.chg hW notNil).cell 3) ?_
            refine wH_all [9] (by rfl) (by kernel_rfl) (by simp) ⟨⟨by kernel_rfl, ?_⟩, trivial⟩
            obtain ⟨y1330, hy1331, hm⟩ := bindE hm
            refine wS_calls (d := 84) (f := 111) (vs := [.int .i64 (x1326), .int .i64 (x1258.1), .int .i64 (x1258.2.1)]) (by kernel_rfl) ent111 (c_impl_nearest hy1331) ?_
            rintro _ w1332 ⟨rfl, hc1333⟩
            replace F1240 := F1240.chg hc1333 Dj.nil
            replace F1241 := F1241.chg hc1333 Dj.nil
            replace F1242 := F1242.chg hc1333 Dj.nil
            replace F1243 := F1243.chg hc1333 Dj.nil
            replace F1244 := F1244.chg hc1333 Dj.nil
            replace F1245 := F1245.chg hc1333 Dj.nil
            replace F1270 := F1270.chg hc1333 notNil
            replace hB := hB.inS hc1333 inNil
            have hSz := hS
            replace hS := hS.inS hc1333 inNil
            replace hZ := Nat.le_trans hZ hc1333.size
            refine ⟨.int .i64 (y1330), rfl, ?_⟩
            refine wS_end (by kernel_rfl) ?_
            refine eX_KH hS ?_
            refine wH_all [17] (by rfl) (by kernel_rfl) (by simp) ⟨⟨by kernel_rfl, ?_⟩, trivial⟩
            obtain ⟨y1334, hy1335, hm⟩ := bindE hm
            refine wS_calls (d := 92) (f := 111) (vs := [.int .i64 (x1328), .int .i64 (x1258.2.2.1), .int .i64 (x1258.2.2.2.1)]) (by kernel_rfl) ent111 (c_impl_nearest hy1335) ?_
            rintro _ w1336 ⟨rfl, hc1337⟩
            replace F1240 := F1240.chg hc1337 Dj.nil
            replace F1241 := F1241.chg hc1337 Dj.nil
            replace F1242 := F1242.chg hc1337 Dj.nil
            replace F1243 := F1243.chg hc1337 Dj.nil
            replace F1244 := F1244.chg hc1337 Dj.nil
            replace F1245 := F1245.chg hc1337 Dj.nil
            replace F1270 := F1270.chg hc1337 notNil
            replace hB := hB.inS hc1337 inNil
            have hSz := hS
            replace hS := hS.inS hc1337 inNil
            replace hZ := Nat.le_trans hZ hc1337.size
            refine ⟨.int .i64 (y1334), rfl, ?_⟩
            refine wS_end (by kernel_rfl) ?_
            refine eX_KH hS ?_
            refine wH_all [18] (by rfl) (by kernel_rfl) (by simp) ⟨⟨by kernel_rfl, ?_⟩, trivial⟩
            refine wS_bs (enc := encI) ([y1330, y1334] : List (Int)) [.int .i64 (y1330), .int .i64 (y1334)] (d := 93) (t := 68) (T := 2) (n := 2) (ps := [(0, .int .i64 (y1330)), (1, .int .i64 (y1334))]) (by kernel_rfl) el68 encI_ok (by rfl) (by omega) (by omega) (by kernel_rfl) (by rfl) ?_
            intro b1338 w1339 G1340 F1341 hc1342
            have D1344 : Dj fp9 [b1338] := Dj.of F1242.low (low1 G1340)
            have D1345 : Dj fr945 [b1338] := Dj.of F1243.low (low1 G1340)
            have D1346 : Dj (fp1235 ++ fr1237) [b1338] := Dj.of F1245.low (low1 G1340)
            have D1347 : Dj [b1260] [b1338] := Dj.of (lt1 F1270.lt) (low1 G1340)
            replace F1240 := F1240.chg hc1342 Dj.nil
            replace F1241 := F1241.chg hc1342 Dj.nil
            replace F1242 := F1242.chg hc1342 Dj.nil
            replace F1243 := F1243.chg hc1342 Dj.nil
            replace F1244 := F1244.chg hc1342 Dj.nil
            replace F1245 := F1245.chg hc1342 Dj.nil
            replace F1270 := F1270.chg hc1342 notNil
            replace hB := hB.inS hc1342 inNil
            have hSz := hS
            replace hS := hS.inS hc1342 inNil
            have Gz1348 := low1 (Nat.le_trans hSz.size G1340)
            replace G1340 := Nat.le_trans hZ G1340
            replace G1340 := low1 G1340
            replace hZ := Nat.le_trans hZ hc1342.size
            refine wS_end (by kernel_rfl) ?_
            refine eX_KH hS ?_
            refine wH_done (by kernel_rfl) ?_
            refine eX_tail ?_
            obtain ⟨x1349, hx1350, hm⟩ := bindE hm
            refine wS_idx (d := 94) (T := 44) (A := A1233) (n := (l1232).length) (cap := cap1234) (kd := .i64) (m := x1256) (by kernel_rfl) sl44 ((F1245.slr encI_ok).is hx1350) ?_
            refine wS_storeRow (k := 1) (enc := encI) (x := x1349) (l := ([y1330, y1334] : List (Int))) (T := 68) (U := 68) (cap := cap1234) (c := 2) (A := A1233) (B := (some ⟨b1338, 0, none⟩)) (m := x1256) (by kernel_rfl) sz68 F1245 F1341 D1346 hx1350 ?_
            intro w1354 F1355 hc1356
            have D1358 : Dj fp9 (fp1235 ++ (fr1237 ++ [b1338])) := Dj.app (Dj.inl D1248) (Dj.app (Dj.inr D1248) D1344)
            have D1359 : Dj [b1260] (fp1235 ++ (fr1237 ++ [b1338])) := Dj.app (Dj.inl (D1268).symm) (Dj.app (Dj.inr (D1268).symm) D1347)
            have G1360 := lowApp (low_inl G1247) (lowApp (low_inr G1247) G1340)
            have Dm1361 := Dj.inl D1346.symm
            replace F1240 := F1240.chg hc1356 (Dj.inl (Dj.of L0 G1247))
            replace F1241 := F1241.chg hc1356 (Dj.inl (Dj.of L1 G1247))
            replace F1242 := F1242.chg hc1356 (Dj.inl D1248)
            replace F1243 := F1243.chg hc1356 Dm1246
            replace F1244 := F1244.chg hc1356 (Dj.inl (Dj.of L1 G1247))
            replace F1270 := F1270.chg hc1356 (dj1 (Dj.inl (D1268).symm))
            replace F1341 := F1341.chg hc1356 (Dj.inl (D1346).symm)
            replace hB := hB.inS hc1356 (memS_inl (inLow G1247))
            replace hZ := Nat.le_trans hZ hc1356.size
            replace F1341 := (F1341.sl encI_ok)
            rewrite [show (l1232).length = (l1232.set (Int.toNat x1256) (([y1330, y1334] : List (Int)))).length from (List.length_set ..).symm]
            refine wS_end (by rfl) ?_
            refine eX_block ?_
            refine eX_then ?_
            refine cW_prune [(0, .slice A0 (l0).length cap0), (1, .slice A1 (l1).length cap1), (6, .slice A7 (y3.1).length cap8), (9, .slice A1233 (l1232.set (Int.toNat x1256) (([y1330, y1334] : List (Int)))).length cap1234), (11, .int .i64 (x946)), (12, .slice A963 (x961).length cap964), (64, .slice A972 (x970).length cap973), (65, .int .i64 (((x970).length : Int))), (66, .int .i64 (x1238))] (by kernel_rfl) (by kernel_rfl) (fun a1362 => ?_)
            refine cW_region ?_
            refine wS_pure 2 [(66, .int .i64 (wr (x1238 + 1))), (95, .int .i64 (wr (x1238 + 1)))] (by kernel_rfl) ?_
            refine wS_end (by rfl) ?_
            have hq : (some (Ctl.next ((l1232.set (Int.toNat x1256) (([y1330, y1334] : List (Int))), wr (x1238 + 1)))) : Option (Ctl ((List (List (Int))) × Int) ((List (List (Int)))))) = some _ := hm
            replace hq := someE hq
            subst hq
            exact eX_next hx1254 (fun hst => ⟨l1232.set (Int.toNat x1256) (([y1330, y1334] : List (Int))), A1233, cap1234, fp1235, (fr1237 ++ [b1338]), wr (x1238 + 1), rfl, Fr.of hst (by kernel_rfl), F1240, F1241, F1242, F1243, F1244, F1355, Dm1246, G1360, D1358, hB, hZ⟩)
          · have hm := condF hb1255 hm
            refine cW_exit ?_
            refine eX_then_exit ?_
            have hq : (some (Ctl.out l1232) : Option (Ctl ((List (List (Int))) × Int) ((List (List (Int)))))) = some _ := hm
            replace hq := someE hq
            subst hq
            refine eX_outX hx1254 (fun hr1363 => ?_)
            replace hr1363 := hr1363.symm
            subst hr1363
            refine eX_block_hit ?_
            exact eX_J (fun hst => ⟨l1232, A1233, cap1234, fp1235, fr1237, rfl, Fr.of hst (by kernel_rfl), F1240, F1241, F1242, F1245, G1247, D1248, hB, hZ⟩)
        · rintro a' w1217 ⟨l1218, A1219, cap1220, fp1221, fr1223, hJ, hF1224, F1225, F1226, F1227, F1228, G1229, D1230, hB, hZ⟩
          subst hJ
          refine Fr.goX hF1224 (by kernel_rfl) ?_
          refine eX_block ?_
          refine eX_then ?_
          refine cW_region ?_
          refine wS_pure 3 [(11, .int .i64 (wr (x946 - 1))), (53, .int .i64 (wr (x946 - 1))), (52, .int .i64 (x946))] (by kernel_rfl) ?_
          refine wS_end (by rfl) ?_
          have hq : (some (Ctl.next ((l1218, wr (x946 - 1)))) : Option (Ctl ((List (List (Int))) × Int) ((List (List (Int)))))) = some _ := hm
          replace hq := someE hq
          subst hq
          exact eX_next hx959 (fun hst => ⟨l1218, A1219, cap1220, fp1221, fr1223, wr (x946 - 1), rfl, Fr.of hst (by kernel_rfl), F1225, F1226, F1227, F1228, G1229, D1230, hB, hZ⟩)
      · have hm := condF hb960 hm
        refine cW_exit ?_
        refine eX_then_exit ?_
        have hq : (some (Ctl.out l940) : Option (Ctl ((List (List (Int))) × Int) ((List (List (Int)))))) = some _ := hm
        replace hq := someE hq
        subst hq
        refine eX_outX hx959 (fun hr1364 => ?_)
        replace hr1364 := hr1364.symm
        subst hr1364
        refine eX_block_hit ?_
        exact eX_J (fun hst => ⟨l940, A941, cap942, fp943, fr945, rfl, Fr.of hst (by kernel_rfl), F951, G952, hB, hZ⟩)
    · rintro a' w929 ⟨l930, A931, cap932, fp933, fr935, hJ, hF936, F937, G938, hB, hZ⟩
      subst hJ
      refine Fr.goX hF936 (by kernel_rfl) ?_
      refine eX_then ?_
      refine cW_seq ?_
      refine cW_region ?_
      refine wS_pure 3 [(5, .bool (true)), (4, .slice A931 (l930).length cap932), (96, .slice A931 (l930).length cap932)] (by kernel_rfl) ?_
      refine wS_end (by rfl) ?_
      refine eX_then ?_
      refine cW_ret ?_
      have hq : (some ((l930, true)) : Option ((List (List (Int))) × (Bool))) = some _ := hm
      replace hq := someE hq
      subst hq
      refine eX_ret (vs := [.slice A931 (l930).length cap932, .bool (true)]) [.tmp 4, .tmp 5] (by rfl) ⟨by (show lkE _ _ _ = _); kernel_rfl, ⟨by (show lkE _ _ _ = _); kernel_rfl, trivial⟩⟩ ?_
      exact ⟨A931, cap932, fp933, fr935, rfl, F937, G938, hB⟩

set_option maxRecDepth 100000 in
/-- spec.ClockPlaces -/
theorem c_spec_ClockPlaces {w0 : World} {l0 : List (Int × Int)} {A0 : Option Addr} {cap0 : Nat} {fp0 : List Nat} {l1 : List (List (Int))} {A1 : Option Addr} {cap1 : Nat} {fp1 : List Nat} {r : (List (List (Int))) × (Bool)} (hm : m_spec_ClockPlaces l0 l1 = some r) (F0 : Sl 2 encII w0 fp0 A0 l0) (F1 : SlR 1 encI w0 fp1 A1 l1) :
    Calls Try.prog 73 #[.slice A0 (l0).length cap0, .slice A1 (l1).length cap1] w0 fun e w' => ∃ A100 cap100 fp100 fr100, e = .returned (.tuple #[.slice A100 (r.1).length cap100, .bool (r.2)]) ∧ OwR 1 encI 68 2 w' fp100 fr100 A100 cap100 r.1 ∧ (∀ x ∈ fp100 ++ fr100, w0.heap.size ≤ x) ∧ Chg [] w0 w' := by
  have L0 := F0.low
  have L1 := F1.low
  have hB : Chg [] w0 w0 := Chg.refl _ _
  have hZ := Nat.le_refl w0.heap.size
  unfold m_spec_ClockPlaces at hm
  refine enterE (N := 112) Try.func73 (by rfl) Try.ntmps73 (by simp) [(0, .slice A0 (l0).length cap0), (1, .slice A1 (l1).length cap1)] (by rfl) (by kernel_rfl) (fun a => ?_)
  refine cW_seq ?_
  refine cW_region ?_
  refine wS_pure 2 [(5, .bool (false)), (4, .slice none 0 0)] (by kernel_rfl) ?_
  refine wS_end (by rfl) ?_
  refine eX_then ?_
  refine cW_seq ?_
  refine cW_seq ?_
  refine cW_region ?_
  refine wS_pure 2 [(18, .slice A1 (l1).length cap1), (17, .slice A0 (l0).length cap0)] (by kernel_rfl) ?_
  obtain ⟨y3, hy4, hm⟩ := bindE hm
  refine wS_calls (d := 19) (f := 119) (vs := [.slice A0 (l0).length cap0, .slice A1 (l1).length cap1]) (by kernel_rfl) ent119 (c_spec_l06Ask hy4 F0 F1) ?_
  rintro _ w5 ⟨rfl, hc6⟩
  replace F0 := F0.chg hc6 Dj.nil
  replace F1 := F1.chg hc6 Dj.nil
  replace hB := hB.inS hc6 inNil
  replace hZ := Nat.le_trans hZ hc6.size
  refine ⟨.bool (y3), rfl, ?_⟩
  refine wS_pure 1 [(20, .bool (!y3))] (by kernel_rfl) ?_
  refine wS_end (by rfl) ?_
  refine eX_then ?_
  refine cW_cond (t := !y3) (by kernel_rfl) (fun hb7 => ?_) (fun hb7 => ?_)
  · have hm := condT hb7 hm
    refine cW_seq ?_
    refine cW_region ?_
    refine wS_pure 2 [(5, .bool (false)), (4, .slice none 0 0)] (by kernel_rfl) ?_
    refine wS_end (by rfl) ?_
    refine eX_then ?_
    refine cW_ret ?_
    refine eX_then_ret ?_
    have hq : (some (([], false)) : Option ((List (List (Int))) × (Bool))) = some _ := hm
    replace hq := someE hq
    subst hq
    refine eX_ret (vs := [.slice none 0 0, .bool (false)]) [.tmp 4, .tmp 5] (by rfl) ⟨by (show lkE _ _ _ = _); kernel_rfl, ⟨by (show lkE _ _ _ = _); kernel_rfl, trivial⟩⟩ ?_
    exact ⟨none, 0, [], [], rfl, OwR.nil _, (lowApp lowNil lowNil), hB⟩
  · have hm := condF hb7 hm
    refine cW_skip ?_
    refine eX_then ?_
    refine cW_seq ?_
    refine cW_region ?_
    refine wS_pure 2 [(23, .slice A1 (l1).length cap1), (22, .slice A0 (l0).length cap0)] (by kernel_rfl) ?_
    obtain ⟨y8, hy9, hm⟩ := bindE hm
    refine wS_calls (d := 24) (f := 117) (vs := [.slice A0 (l0).length cap0, .slice A1 (l1).length cap1]) (by kernel_rfl) ent117 (c_spec_l06Tree hy9 F0 F1) ?_
    rintro _ w10 ⟨A12, cap13, fp14, A18, cap19, fp20, rfl, F15, G16, F21, G22, D24, hc11⟩
    replace F0 := F0.chg hc11 Dj.nil
    replace F1 := F1.chg hc11 Dj.nil
    replace hB := hB.inS hc11 inNil
    replace G16 := low_le hZ G16
    replace G22 := low_le hZ G22
    replace hZ := Nat.le_trans hZ hc11.size
    refine ⟨.tuple #[.slice A12 (y8.1).length cap13, .slice A18 (y8.2).length cap19], rfl, ?_⟩
    refine wS_pure 5 [(7, .slice A18 (y8.2).length cap19), (6, .slice A12 (y8.1).length cap13), (26, .slice A18 (y8.2).length cap19), (25, .slice A12 (y8.1).length cap13), (21, .tuple #[.slice A12 (y8.1).length cap13, .slice A18 (y8.2).length cap19])] (by kernel_rfl) ?_
    refine wS_end (by rfl) ?_
    refine eX_then ?_
    refine cW_seq ?_
    refine cW_region ?_
    refine wS_pure 4 [(8, .int .i64 (wr ((((y8.1).length : Int)) - 1))), (29, .int .i64 (wr ((((y8.1).length : Int)) - 1))), (28, .int .i64 (((y8.1).length : Int))), (27, .slice A12 (y8.1).length cap13)] (by kernel_rfl) ?_
    refine wS_end (by rfl) ?_
    refine eX_then ?_
    refine cW_seq ?_
    refine cW_region ?_
    refine wS_rows0 (k := 1) (enc := encI) (d := 30) (t := 44) (T := 68) (T2 := 2) (by kernel_rfl) el44 ?_
    intro b27 w28 G29 F30 hc31
    have D33 : Dj fp14 ([b27] ++ []) := Dj.of F15.low (lowApp (low1 G29) lowNil)
    have D34 : Dj fp20 ([b27] ++ []) := Dj.of F21.low (lowApp (low1 G29) lowNil)
    replace F0 := F0.chg hc31 Dj.nil
    replace F1 := F1.chg hc31 Dj.nil
    replace F15 := F15.chg hc31 Dj.nil
    replace F21 := F21.chg hc31 Dj.nil
    replace hB := hB.inS hc31 inNil
    replace G29 := Nat.le_trans hZ G29
    replace G29 := low1 G29
    replace hZ := Nat.le_trans hZ hc31.size
    replace G29 := lowApp G29 lowNil
    refine wS_pure 1 [(9, .slice (some ⟨b27, 0, none⟩) (([] : List (List (Int)))).length 0)] (by kernel_rfl) ?_
    refine wS_end (by rfl) ?_
    refine eX_then ?_
    refine cW_seq ?_
    refine cW_seq ?_
    refine cW_region ?_
    refine wS_pure 1 [(10, .int .i64 (0))] (by kernel_rfl) ?_
    refine wS_end (by rfl) ?_
    refine eX_then ?_
    obtain ⟨r239, hr240, hm⟩ := bindE hm
    have hm241 := hm
    refine cW_cut (fun a' w' => ∃ l211 : List (List (Int)), ∃ A212 : Option Addr, ∃ cap213 : Nat, ∃ fp214 : List Nat, ∃ fr216 : List Nat, l211 = r239 ∧ Fr 112 [(0, .slice A0 (l0).length cap0), (1, .slice A1 (l1).length cap1), (6, .slice A12 (y8.1).length cap13), (9, .slice A212 (l211).length cap213)] a' ∧ Sl 2 encII w' fp0 A0 l0 ∧ SlR 1 encI w' fp1 A1 l1 ∧ Ow 5 encIIIII 52 w' fp14 A12 cap13 y8.1 ∧ OwR 1 encI 68 2 w' fp214 fr216 A212 cap213 l211 ∧ (∀ x ∈ (fp214 ++ fr216), w0.heap.size ≤ x) ∧ Dj fp14 (fp214 ++ fr216) ∧ Chg [] w0 w' ∧ w0.heap.size ≤ w'.heap.size) ?_ ?_
    · refine cW_block ?_
      refine cW_loop _ (fun (s242 : (List (List (Int))) × Int) a' w' => ∃ l225 : List (List (Int)), ∃ A226 : Option Addr, ∃ cap227 : Nat, ∃ fp228 : List Nat, ∃ fr230 : List Nat, ∃ x231 : Int, (l225, x231) = s242 ∧ Fr 112 [(0, .slice A0 (l0).length cap0), (1, .slice A1 (l1).length cap1), (6, .slice A12 (y8.1).length cap13), (8, .int .i64 (wr ((((y8.1).length : Int)) - 1))), (9, .slice A226 (l225).length cap227), (10, .int .i64 (x231))] a' ∧ Sl 2 encII w' fp0 A0 l0 ∧ SlR 1 encI w' fp1 A1 l1 ∧ Ow 5 encIIIII 52 w' fp14 A12 cap13 y8.1 ∧ OwR 1 encI 68 2 w' fp228 fr230 A226 cap227 l225 ∧ (∀ x ∈ (fp228 ++ fr230), w0.heap.size ≤ x) ∧ Dj fp14 (fp228 ++ fr230) ∧ Chg [] w0 w' ∧ w0.heap.size ≤ w'.heap.size) hr240 (fun hst => ⟨([] : List (List (Int))), (some ⟨b27, 0, none⟩), 0, [b27], [], 0, rfl, Fr.of hst (by kernel_rfl), F0, F1, F15, F30, G29, D33, hB, hZ⟩) ?_
      rintro _ c243 a' w224 ⟨l225, A226, cap227, fp228, fr230, x231, rfl, hF232, F233, F234, F235, F236, G237, D238, hB, hZ⟩ hx244
      refine Fr.goOn hF232 (by kernel_rfl) ?_
      have hm := hx244
      unfold m_spec_ClockPlaces_s1 at hm
      refine cW_seq ?_
      refine cW_seq ?_
      refine cW_region ?_
      refine wS_pure 3 [(33, .bool (decide (x231 ≤ (wr ((((y8.1).length : Int)) - 1))))), (32, .int .i64 (wr ((((y8.1).length : Int)) - 1))), (31, .int .i64 (x231))] (by kernel_rfl) ?_
      refine wS_end (by rfl) ?_
      refine eX_then ?_
      refine cW_cond (t := decide (x231 ≤ (wr ((((y8.1).length : Int)) - 1)))) (by kernel_rfl) (fun hb245 => ?_) (fun hb245 => ?_)
      · have hm := condT hb245 hm
        refine cW_skip ?_
        refine eX_then ?_
        refine cW_seq ?_
        refine cW_block ?_
        refine cW_drawnTail [] 15 (by kernel_rfl) (by kernel_rfl) (fun w284 hc285 => ?_)
        replace F233 := F233.chg hc285 Dj.nil
        replace F234 := F234.chg hc285 Dj.nil
        replace F235 := F235.chg hc285 Dj.nil
        replace F236 := F236.chg hc285 Dj.nil
        replace hB := hB.inS hc285 inNil
        replace hZ := Nat.le_trans hZ hc285.size
        have hS := Chg.refl [] w284
        have Z286 := F233
        have Z287 := F234
        have Z288 := F235
        have Z289 := F236
        refine wH_take [0, 1, 2] [2, 1, 0] [(38, .int .i64 (x231)), (37, .slice A12 (y8.1).length cap13), (36, .slice A226 (l225).length cap227)] (by kernel_rfl) (qT (qB (qT (qL (qB (qT (qT qZ))))))) (by kernel_rfl) ?_
        obtain ⟨x290, hx291, hm⟩ := bindE hm
        refine wH_idx (i := 3) (d := 39) (T := 75) (A := A12) (n := (y8.1).length) (cap := cap13) (kd := .i64) (m := x231) (by kernel_rfl) (qT (qB (qT (qL (qB (qT (qT qZ))))))) (by kernel_rfl) (by kernel_rfl) sl75 ((F235.sl encIIIII_ok).is hx291) ?_
        refine wH_take [4, 5] [5, 4, 3, 2, 1, 0] [(41, .pointer (some (elA A12 5 (x231) 0))), (40, .pointer (some (elA A12 5 (x231) 0)))] (by kernel_rfl) (qT (qB (qT (qL (qB (qT (qT qZ))))))) (by kernel_rfl) ?_
        refine wH_load1 (i := 6) (d := 42) (T := 2) (ad := (elA A12 5 (x231) 0)) (v := .int .i64 (x290.1)) (by kernel_rfl) (qT (qB (qT (qL (qB (qT (qT qZ))))))) (by kernel_rfl) (by kernel_rfl) vt2 (fun W hW => Sl.cell ((Z288.chg hW Dj.nil).sl encIIIII_ok) hx291 0 (by rfl)) ?_
        refine wH_take [7, 8] [8, 7, 6, 5, 4, 3, 2, 1, 0] [(44, .int .i64 (x231)), (43, .slice A12 (y8.1).length cap13)] (by kernel_rfl) (qT (qB (qT (qL (qB (qT (qT qZ))))))) (by kernel_rfl) ?_
        obtain ⟨x292, hx293, hm⟩ := bindE hm
        refine wH_idx (i := 9) (d := 45) (T := 75) (A := A12) (n := (y8.1).length) (cap := cap13) (kd := .i64) (m := x231) (by kernel_rfl) (qT (qB (qT (qL (qB (qT (qT qZ))))))) (by kernel_rfl) (by kernel_rfl) sl75 ((F235.sl encIIIII_ok).is hx293) ?_
        refine wH_take [10, 11] [11, 10, 9, 8, 7, 6, 5, 4, 3, 2, 1, 0] [(47, .pointer (some (elA A12 5 (x231) 2))), (46, .pointer (some (elA A12 5 (x231) 0)))] (by kernel_rfl) (qT (qB (qT (qL (qB (qT (qT qZ))))))) (by kernel_rfl) ?_
        refine wH_load1 (i := 12) (d := 48) (T := 2) (ad := (elA A12 5 (x231) 2)) (v := .int .i64 (x292.2.2.1)) (by kernel_rfl) (qT (qB (qT (qL (qB (qT (qT qZ))))))) (by kernel_rfl) (by kernel_rfl) vt2 (fun W hW => Sl.cell ((Z288.chg hW Dj.nil).sl encIIIII_ok) hx293 2 (by rfl)) ?_
        refine wH_all [13] (by rfl) (by kernel_rfl) (by simp) ⟨⟨by kernel_rfl, ?_⟩, trivial⟩
        refine wS_bs (enc := encI) ([x290.1, x292.2.2.1] : List (Int)) [.int .i64 (x290.1), .int .i64 (x292.2.2.1)] (d := 49) (t := 68) (T := 2) (n := 2) (ps := [(0, .int .i64 (x290.1)), (1, .int .i64 (x292.2.2.1))]) (by kernel_rfl) el68 encI_ok (by rfl) (by omega) (by omega) (by kernel_rfl) (by rfl) ?_
        intro b294 w295 G296 F297 hc298
        have D300 : Dj fp14 [b294] := Dj.of F235.low (low1 G296)
        have D301 : Dj (fp228 ++ fr230) [b294] := Dj.of F236.low (low1 G296)
        replace F233 := F233.chg hc298 Dj.nil
        replace F234 := F234.chg hc298 Dj.nil
        replace F235 := F235.chg hc298 Dj.nil
        replace F236 := F236.chg hc298 Dj.nil
        replace hB := hB.inS hc298 inNil
        have hSz := hS
        replace hS := hS.inS hc298 inNil
        have Gz302 := low1 (Nat.le_trans hSz.size G296)
        replace G296 := Nat.le_trans hZ G296
        replace G296 := low1 G296
        replace hZ := Nat.le_trans hZ hc298.size
        refine wS_end (by kernel_rfl) ?_
        refine eX_KH hS ?_
        refine wH_all [14] (by rfl) (by kernel_rfl) (by simp) ⟨⟨by kernel_rfl, ?_⟩, trivial⟩
        refine wS_row1 (k := 1) (enc := encI) (l := ([x290.1, x292.2.2.1] : List (Int))) (d := 50) (t := 44) (T := 68) (B := (some ⟨b294, 0, none⟩)) (c := 2) (by kernel_rfl) el44 F297 ?_
        intro b303 w304 G305 F306 hc307
        have D309 : Dj fp14 ([b303] ++ [b294]) := Dj.app (Dj.of F235.low (low1 G305)) D300
        have D310 : Dj (fp228 ++ fr230) ([b303] ++ [b294]) := Dj.app (Dj.of F236.low (low1 G305)) D301
        replace F233 := F233.chg hc307 Dj.nil
        replace F234 := F234.chg hc307 Dj.nil
        replace F235 := F235.chg hc307 Dj.nil
        replace F236 := F236.chg hc307 Dj.nil
        replace F297 := F297.chg hc307 Dj.nil
        replace hB := hB.inS hc307 inNil
        have hSz := hS
        replace hS := hS.inS hc307 inNil
        replace G305 := Nat.le_trans hZ G305
        replace G305 := lowApp (low1 G305) G296
        replace hZ := Nat.le_trans hZ hc307.size
        replace F297 := (F297.sl encI_ok)
        refine wS_end (by kernel_rfl) ?_
        refine eX_KH hS ?_
        refine wH_done (by kernel_rfl) ?_
        refine eX_tail ?_
        obtain ⟨_, hk311, hm⟩ := bindE hm
        replace hk311 := apE hk311
        refine wS_appendR (k := 1) (enc := encI) (ll := (l225 : List (List (Int)))) (ll2 := (([([x290.1, x292.2.2.1] : List (Int))] : List (List (Int))) : List (List (Int)))) (d := 51) (t := 44) (T := 68) (A := A226) (A2 := (some ⟨b303, 0, none⟩)) (cap := cap227) (cap2 := 1) (by kernel_rfl) el44 F236 F306 (by rfl) D310 hk311 ?_
        intro w312 fp313 A314 cap315 F316 hc317 hp318
        have G320 := lowApp (low_ap (low_inl G237) hZ hp318) (lowApp (low_inr G237) (low_inr G305))
        have D321 : Dj fp14 (fp313 ++ (fr230 ++ [b294])) := Dj.app (Dj.ap (Dj.inl D238) F235.low hp318) (Dj.app (Dj.inr D238) (Dj.inr D309))
        replace F233 := F233.chg hc317 (Dj.inl (Dj.of L0 G237))
        replace F234 := F234.chg hc317 (Dj.inl (Dj.of L1 G237))
        replace F235 := F235.chg hc317 (Dj.inl D238)
        replace hB := hB.inS hc317 (memS_inl (inLow G237))
        replace hZ := Nat.le_trans hZ hc317.size
        refine wS_pure 1 [(9, .slice A314 (l225 ++ (([([x290.1, x292.2.2.1] : List (Int))] : List (List (Int))))).length cap315)] (by kernel_rfl) ?_
        refine wS_end (by rfl) ?_
        refine eX_block ?_
        refine eX_then ?_
        refine cW_prune [(0, .slice A0 (l0).length cap0), (1, .slice A1 (l1).length cap1), (6, .slice A12 (y8.1).length cap13), (8, .int .i64 (wr ((((y8.1).length : Int)) - 1))), (9, .slice A314 (l225 ++ (([([x290.1, x292.2.2.1] : List (Int))] : List (List (Int))))).length cap315), (10, .int .i64 (x231))] (by kernel_rfl) (by kernel_rfl) (fun a322 => ?_)
        refine cW_region ?_
        refine wS_pure 3 [(10, .int .i64 (wr (x231 + 1))), (35, .int .i64 (wr (x231 + 1))), (34, .int .i64 (x231))] (by kernel_rfl) ?_
        refine wS_end (by rfl) ?_
        have hq : (some (Ctl.next ((l225 ++ (([([x290.1, x292.2.2.1] : List (Int))] : List (List (Int)))), wr (x231 + 1)))) : Option (Ctl ((List (List (Int))) × Int) ((List (List (Int)))))) = some _ := hm
        replace hq := someE hq
        subst hq
        exact eX_next hx244 (fun hst => ⟨l225 ++ (([([x290.1, x292.2.2.1] : List (Int))] : List (List (Int)))), A314, cap315, fp313, (fr230 ++ [b294]), wr (x231 + 1), rfl, Fr.of hst (by kernel_rfl), F233, F234, F235, F316, G320, D321, hB, hZ⟩)
      · have hm := condF hb245 hm
        refine cW_exit ?_
        refine eX_then_exit ?_
        have hq : (some (Ctl.out l225) : Option (Ctl ((List (List (Int))) × Int) ((List (List (Int)))))) = some _ := hm
        replace hq := someE hq
        subst hq
        refine eX_outX hx244 (fun hr323 => ?_)
        replace hr323 := hr323.symm
        subst hr323
        refine eX_block_hit ?_
        exact eX_J (fun hst => ⟨l225, A226, cap227, fp228, fr230, rfl, Fr.of hst (by kernel_rfl), F233, F234, F235, F236, G237, D238, hB, hZ⟩)
    · rintro a' w210 ⟨l211, A212, cap213, fp214, fr216, hJ, hF217, F218, F219, F220, F221, G222, D223, hB, hZ⟩
      subst hJ
      refine Fr.goX hF217 (by kernel_rfl) ?_
      refine eX_then ?_
      refine cW_seq ?_
      refine cW_seq ?_
      refine cW_region ?_
      refine wS_pure 4 [(11, .int .i64 (wr ((((l1).length : Int)) - 1))), (54, .int .i64 (wr ((((l1).length : Int)) - 1))), (53, .int .i64 (((l1).length : Int))), (52, .slice A1 (l1).length cap1)] (by kernel_rfl) ?_
      refine wS_end (by rfl) ?_
      refine eX_then ?_
      obtain ⟨r1312, hr1313, hm⟩ := bindE hm
      have hm1314 := hm
      refine cW_cut (fun a' w' => ∃ l1288 : List (List (Int)), ∃ A1289 : Option Addr, ∃ cap1290 : Nat, ∃ fp1291 : List Nat, ∃ fr1293 : List Nat, l1288 = r1312 ∧ Fr 112 [(9, .slice A1289 (l1288).length cap1290)] a' ∧ OwR 1 encI 68 2 w' fp1291 fr1293 A1289 cap1290 l1288 ∧ (∀ x ∈ (fp1291 ++ fr1293), w0.heap.size ≤ x) ∧ Chg [] w0 w' ∧ w0.heap.size ≤ w'.heap.size) ?_ ?_
      · refine cW_block ?_
        refine cW_loop _ (fun (s1315 : (List (List (Int))) × Int) a' w' => ∃ l1298 : List (List (Int)), ∃ A1299 : Option Addr, ∃ cap1300 : Nat, ∃ fp1301 : List Nat, ∃ fr1303 : List Nat, ∃ x1304 : Int, (l1298, x1304) = s1315 ∧ Fr 112 [(0, .slice A0 (l0).length cap0), (1, .slice A1 (l1).length cap1), (6, .slice A12 (y8.1).length cap13), (9, .slice A1299 (l1298).length cap1300), (11, .int .i64 (x1304))] a' ∧ Sl 2 encII w' fp0 A0 l0 ∧ SlR 1 encI w' fp1 A1 l1 ∧ Ow 5 encIIIII 52 w' fp14 A12 cap13 y8.1 ∧ OwR 1 encI 68 2 w' fp1301 fr1303 A1299 cap1300 l1298 ∧ (∀ x ∈ (fp1301 ++ fr1303), w0.heap.size ≤ x) ∧ Dj fp14 (fp1301 ++ fr1303) ∧ Chg [] w0 w' ∧ w0.heap.size ≤ w'.heap.size) hr1313 (fun hst => ⟨l211, A212, cap213, fp214, fr216, wr ((((l1).length : Int)) - 1), rfl, Fr.of hst (by kernel_rfl), F218, F219, F220, F221, G222, D223, hB, hZ⟩) ?_
        rintro _ c1316 a' w1297 ⟨l1298, A1299, cap1300, fp1301, fr1303, x1304, rfl, hF1305, F1306, F1307, F1308, F1309, G1310, D1311, hB, hZ⟩ hx1317
        refine Fr.goOn hF1305 (by kernel_rfl) ?_
        have hm := hx1317
        unfold m_spec_ClockPlaces_s4 at hm
        refine cW_seq ?_
        refine cW_seq ?_
        refine cW_region ?_
        refine wS_pure 2 [(56, .bool (decide (x1304 ≥ 0))), (55, .int .i64 (x1304))] (by kernel_rfl) ?_
        refine wS_end (by rfl) ?_
        refine eX_then ?_
        refine cW_cond (t := decide (x1304 ≥ 0)) (by kernel_rfl) (fun hb1318 => ?_) (fun hb1318 => ?_)
        · have hm := condT hb1318 hm
          refine cW_skip ?_
          refine eX_then ?_
          refine cW_seq ?_
          refine cW_block ?_
          refine cW_seq ?_
          refine cW_region ?_
          refine wS_pure 5 [(63, .int .i64 (wr ((((l0).length : Int)) + x1304))), (62, .int .i64 (x1304)), (61, .int .i64 (((l0).length : Int))), (60, .slice A0 (l0).length cap0), (59, .slice A1299 (l1298).length cap1300)] (by kernel_rfl) ?_
          obtain ⟨x1319, hx1320, hm⟩ := bindE hm
          refine wS_idx (d := 64) (T := 44) (A := A1299) (n := (l1298).length) (cap := cap1300) (kd := .i64) (m := wr ((((l0).length : Int)) + x1304)) (by kernel_rfl) sl44 ((F1309.slr encI_ok).is hx1320) ?_
          obtain ⟨A1321, cap1322, hc1324, F1323⟩ := OwR.row F1309 encI_ok hx1320
          have G1326 := low_inr G1310
          have Dm1327 := (F1309.dj).symm
          refine wS_load1 (d := 65) (T := 68) (ad := (elA A1299 1 (wr ((((l0).length : Int)) + x1304)) 0)) (v := .slice A1321 (x1319).length cap1322) (by kernel_rfl) vt68 hc1324 ?_
          refine wS_pure 1 [(12, .slice A1321 (x1319).length cap1322)] (by kernel_rfl) ?_
          refine wS_end (by rfl) ?_
          refine eX_then ?_
          refine cW_seq ?_
          refine cW_region ?_
          refine wS_pure 1 [(13, .int .i64 (0))] (by kernel_rfl) ?_
          refine wS_end (by rfl) ?_
          refine eX_then ?_
          obtain ⟨r1649, hr1650, hm⟩ := bindE hm
          have hm1651 := hm
          refine cW_cut (fun a' w' => ∃ l1619 : List (List (Int)), ∃ A1620 : Option Addr, ∃ cap1621 : Nat, ∃ fp1622 : List Nat, ∃ fr1624 : List Nat, l1619 = r1649 ∧ Fr 112 [(0, .slice A0 (l0).length cap0), (1, .slice A1 (l1).length cap1), (6, .slice A12 (y8.1).length cap13), (9, .slice A1620 (l1619).length cap1621), (11, .int .i64 (x1304))] a' ∧ Sl 2 encII w' fp0 A0 l0 ∧ SlR 1 encI w' fp1 A1 l1 ∧ Ow 5 encIIIII 52 w' fp14 A12 cap13 y8.1 ∧ OwR 1 encI 68 2 w' fp1622 fr1624 A1620 cap1621 l1619 ∧ (∀ x ∈ (fp1622 ++ fr1624), w0.heap.size ≤ x) ∧ Dj fp14 (fp1622 ++ fr1624) ∧ Chg [] w0 w' ∧ w0.heap.size ≤ w'.heap.size) ?_ ?_
          · refine cW_block ?_
            refine cW_loop _ (fun (s1652 : (List (List (Int))) × Int) a' w' => ∃ l1633 : List (List (Int)), ∃ A1634 : Option Addr, ∃ cap1635 : Nat, ∃ fp1636 : List Nat, ∃ fr1638 : List Nat, ∃ x1639 : Int, (l1633, x1639) = s1652 ∧ Fr 112 [(0, .slice A0 (l0).length cap0), (1, .slice A1 (l1).length cap1), (6, .slice A12 (y8.1).length cap13), (9, .slice A1634 (l1633).length cap1635), (11, .int .i64 (x1304)), (12, .slice A1321 (x1319).length cap1322), (13, .int .i64 (x1639))] a' ∧ Sl 2 encII w' fp0 A0 l0 ∧ SlR 1 encI w' fp1 A1 l1 ∧ Ow 5 encIIIII 52 w' fp14 A12 cap13 y8.1 ∧ Sl 1 encI w' fr1303 A1321 x1319 ∧ OwR 1 encI 68 2 w' fp1636 fr1638 A1634 cap1635 l1633 ∧ Dj fr1303 fp1636 ∧ (∀ x ∈ (fp1636 ++ fr1638), w0.heap.size ≤ x) ∧ Dj fp14 (fp1636 ++ fr1638) ∧ Chg [] w0 w' ∧ w0.heap.size ≤ w'.heap.size) hr1650 (fun hst => ⟨l1298, A1299, cap1300, fp1301, fr1303, 0, rfl, Fr.of hst (by kernel_rfl), F1306, F1307, F1308, F1323, F1309, Dm1327, G1310, D1311, hB, hZ⟩) ?_
            rintro _ c1653 a' w1632 ⟨l1633, A1634, cap1635, fp1636, fr1638, x1639, rfl, hF1640, F1641, F1642, F1643, F1644, F1645, Dm1646, G1647, D1648, hB, hZ⟩ hx1654
            refine Fr.goOn hF1640 (by kernel_rfl) ?_
            have hm := hx1654
            unfold m_spec_ClockPlaces_s5 at hm
            refine cW_seq ?_
            refine cW_seq ?_
            refine cW_region ?_
            refine wS_pure 2 [(67, .bool (decide (x1639 < 2))), (66, .int .i64 (x1639))] (by kernel_rfl) ?_
            refine wS_end (by rfl) ?_
            refine eX_then ?_
            refine cW_cond (t := decide (x1639 < 2)) (by kernel_rfl) (fun hb1655 => ?_) (fun hb1655 => ?_)
            · have hm := condT hb1655 hm
              refine cW_skip ?_
              refine eX_then ?_
              refine cW_seq ?_
              refine cW_block ?_
              refine cW_seq ?_
              refine cW_region ?_
              refine wS_pure 3 [(72, .int .i64 (x1304)), (71, .slice A1 (l1).length cap1), (70, .slice A12 (y8.1).length cap13)] (by kernel_rfl) ?_
              obtain ⟨x1656, hx1657, hm⟩ := bindE hm
              refine wS_idx (d := 73) (T := 44) (A := A1) (n := (l1).length) (cap := cap1) (kd := .i64) (m := x1304) (by kernel_rfl) sl44 (F1642.is hx1657) ?_
              obtain ⟨A1658, cap1659, hc1661, F1660⟩ := SlR.row F1642 hx1657
              refine wS_load1 (d := 74) (T := 68) (ad := (elA A1 1 (x1304) 0)) (v := .slice A1658 (x1656).length cap1659) (by kernel_rfl) vt68 hc1661 ?_
              refine wS_pure 1 [(75, .int .i64 (x1639))] (by kernel_rfl) ?_
              obtain ⟨x1663, hx1664, hm⟩ := bindE hm
              refine wS_idx (d := 76) (T := 68) (A := A1658) (n := (x1656).length) (cap := cap1659) (kd := .i64) (m := x1639) (by kernel_rfl) sl68 (F1660.is hx1664) ?_
              refine wS_load1 (d := 77) (T := 2) (ad := (elA A1658 1 (x1639) 0)) (v := .int .i64 (x1663)) (by kernel_rfl) vt2 (Sl.cell F1660 hx1664 0 (by rfl)) ?_
              obtain ⟨x1665, hx1666, hm⟩ := bindE hm
              refine wS_idx (d := 78) (T := 75) (A := A12) (n := (y8.1).length) (cap := cap13) (kd := .i64) (m := x1663) (by kernel_rfl) sl75 ((F1643.sl encIIIII_ok).is hx1666) ?_
              refine wS_pure 1 [(79, .pointer (some (elA A12 5 (x1663) 0)))] (by kernel_rfl) ?_
              refine wS_loadA (d := 80) (T := 25) (ad := (elA A12 5 (x1663) 0)) (vs := [.int .i64 (x1665.1), .int .i64 (x1665.2.1), .int .i64 (x1665.2.2.1), .int .i64 (x1665.2.2.2.1)]) (by kernel_rfl) vt25 (fun i u hu => Sl.cells_at (F1643.sl encIIIII_ok) hx1666 0 hu (by rfl)) ?_
              refine wS_alloc (d := 14) (T := 25) (z := .agg #[.int .i64 (0), .int .i64 (0), .int .i64 (0), .int .i64 (0)]) (by kernel_rfl) (by kernel_rfl) ?_
              intro b1667 w1668 G1669 F1670 hc1671
              replace F1670 : Cl w1668 b1667 25 [.int .i64 (0), .int .i64 (0), .int .i64 (0), .int .i64 (0)] := F1670
              have D1673 : Dj fp14 [b1667] := Dj.of F1643.low (low1 G1669)
              have D1674 : Dj fr1303 [b1667] := Dj.of F1644.low (low1 G1669)
              have D1675 : Dj (fp1636 ++ fr1638) [b1667] := Dj.of F1645.low (low1 G1669)
              replace F1641 := F1641.chg hc1671 Dj.nil
              replace F1642 := F1642.chg hc1671 Dj.nil
              replace F1643 := F1643.chg hc1671 Dj.nil
              replace F1644 := F1644.chg hc1671 Dj.nil
              replace F1645 := F1645.chg hc1671 Dj.nil
              replace F1660 := F1660.chg hc1671 Dj.nil
              replace hB := hB.inS hc1671 inNil
              replace G1669 := Nat.le_trans hZ G1669
              replace hZ := Nat.le_trans hZ hc1671.size
              refine wS_store (T := 25) (g := b1667) (o := 0) (ad := ⟨b1667, 0, none⟩) (v := .agg #[.int .i64 (x1665.1), .int .i64 (x1665.2.1), .int .i64 (x1665.2.2.1), .int .i64 (x1665.2.2.2.1)]) (vs := [.int .i64 (x1665.1), .int .i64 (x1665.2.1), .int .i64 (x1665.2.2.1), .int .i64 (x1665.2.2.2.1)]) (by kernel_rfl) (by rfl) sz25 (by rfl) (by rfl) F1670 (by simp only [List.length_cons, List.length_nil]; omega) ?_
              intro w1676 F1677 hc1678
              replace F1641 := F1641.chg hc1678 (Dj.of L0 (low1 G1669))
              replace F1642 := F1642.chg hc1678 (Dj.of L1 (low1 G1669))
              replace F1643 := F1643.chg hc1678 D1673
              replace F1644 := F1644.chg hc1678 D1674
              replace F1645 := F1645.chg hc1678 D1675
              replace F1660 := F1660.chg hc1678 (Dj.of L1 (low1 G1669))
              replace hB := hB.inS hc1678 (inLow (low1 G1669))
              replace hZ := Nat.le_trans hZ hc1678.size
              replace F1677 : Cl w1676 b1667 25 [.int .i64 (x1665.1), .int .i64 (x1665.2.1), .int .i64 (x1665.2.2.1), .int .i64 (x1665.2.2.2.1)] := F1677
              clear F1670
              refine wS_end (by rfl) ?_
              refine eX_then ?_
              refine cW_seq ?_
              refine cW_drawnTail [] 8 (by kernel_rfl) (by kernel_rfl) (fun w1698 hc1699 => ?_)
              replace F1641 := F1641.chg hc1699 Dj.nil
              replace F1642 := F1642.chg hc1699 Dj.nil
              replace F1643 := F1643.chg hc1699 Dj.nil
              replace F1644 := F1644.chg hc1699 Dj.nil
              replace F1645 := F1645.chg hc1699 Dj.nil
              replace F1660 := F1660.chg hc1699 Dj.nil
              replace F1677 := F1677.chg hc1699 notNil
              replace hB := hB.inS hc1699 inNil
              replace hZ := Nat.le_trans hZ hc1699.size
              have hS := Chg.refl [] w1698
              have Z1700 := F1641
              have Z1701 := F1642
              have Z1702 := F1643
              have Z1703 := F1644
              have Z1704 := F1645
              have Z1705 := F1660
              have Z1706 := F1677
              refine wH_take [0] [0] [(81, .slice A1321 (x1319).length cap1322)] (by kernel_rfl) (qT (qT (qB (qT (qL (qB (qT (qB (qT (qL (qB (qT (qT qZ))))))))))))) (by kernel_rfl) ?_
              obtain ⟨x1707, hx1708, hm⟩ := bindE hm
              refine wH_idx (i := 1) (d := 82) (T := 68) (A := A1321) (n := (x1319).length) (cap := cap1322) (kd := .i64) (m := 0) (by kernel_rfl) (qT (qT (qB (qT (qL (qB (qT (qB (qT (qL (qB (qT (qT qZ))))))))))))) (by kernel_rfl) (by kernel_rfl) sl68 (F1644.is hx1708) ?_
              refine wH_load1 (i := 2) (d := 83) (T := 2) (ad := (elA A1321 1 (0) 0)) (v := .int .i64 (x1707)) (by kernel_rfl) (qT (qT (qB (qT (qL (qB (qT (qB (qT (qL (qB (qT (qT qZ))))))))))))) (by kernel_rfl) (by kernel_rfl) vt2 (fun W hW => Sl.cell (Z1703.chg hW Dj.nil) hx1708 0 (by rfl)) ?_
              refine wH_take [3] [3, 2, 1, 0] [(84, .pointer (some ⟨b1667, 0, none⟩))] (by kernel_rfl) (qT (qT (qB (qT (qL (qB (qT (qB (qT (qL (qB (qT (qT qZ))))))))))))) (by kernel_rfl) ?_
              refine wH_load1 (i := 4) (d := 85) (T := 2) (ad := ⟨b1667, 0, none⟩) (v := .int .i64 (x1665.1)) (by kernel_rfl) (qT (qT (qB (qT (qL (qB (qT (qB (qT (qL (qB (qT (qT qZ))))))))))))) (by kernel_rfl) (by kernel_rfl) vt2 (fun W hW => (Z1706.chg hW notNil).cell 0) ?_
              refine wH_take [6] [6, 4, 3, 2, 1, 0] [(87, .pointer (some ⟨b1667, 1, none⟩))] (by kernel_rfl) (qT (qT (qB (qT (qL (qB (qT (qB (qT (qL (qB (qT (qT qZ))))))))))))) (by kernel_rfl) ?_
              refine wH_load1 (i := 7) (d := 88) (T := 2) (ad := ⟨b1667, 1, none⟩) (v := .int .i64 (x1665.2.1)) (by kernel_rfl) (qT (qT (qB (qT (qL (qB (qT (qB (qT (qL (qB (qT (qT qZ))))))))))))) (by kernel_rfl) (by kernel_rfl) vt2 (fun W hW => (Z1706.chg hW notNil).cell 1) ?_
              refine wH_all [5] (by rfl) (by kernel_rfl) (by simp) ⟨⟨by kernel_rfl, ?_⟩, trivial⟩
              obtain ⟨y1709, hy1710, hm⟩ := bindE hm
              refine wS_calls (d := 86) (f := 105) (vs := [.int .i64 (x1707), .int .i64 (x1665.1)]) (by kernel_rfl) ent105 (c_spec_l00Max hy1710) ?_
              rintro _ w1711 ⟨rfl, hc1712⟩
              replace F1641 := F1641.chg hc1712 Dj.nil
              replace F1642 := F1642.chg hc1712 Dj.nil
              replace F1643 := F1643.chg hc1712 Dj.nil
              replace F1644 := F1644.chg hc1712 Dj.nil
              replace F1645 := F1645.chg hc1712 Dj.nil
              replace F1660 := F1660.chg hc1712 Dj.nil
              replace F1677 := F1677.chg hc1712 notNil
              replace hB := hB.inS hc1712 inNil
              have hSz := hS
              replace hS := hS.inS hc1712 inNil
              replace hZ := Nat.le_trans hZ hc1712.size
              refine ⟨.int .i64 (y1709), rfl, ?_⟩
              refine wS_end (by kernel_rfl) ?_
              refine eX_KH hS ?_
              refine wH_done (by kernel_rfl) ?_
              refine eX_tail ?_
              obtain ⟨y1713, hy1714, hm⟩ := bindE hm
              refine wS_calls (d := 89) (f := 104) (vs := [.int .i64 (y1709), .int .i64 (x1665.2.1)]) (by kernel_rfl) ent104 (c_spec_l00Min hy1714) ?_
              rintro _ w1715 ⟨rfl, hc1716⟩
              replace F1641 := F1641.chg hc1716 Dj.nil
              replace F1642 := F1642.chg hc1716 Dj.nil
              replace F1643 := F1643.chg hc1716 Dj.nil
              replace F1644 := F1644.chg hc1716 Dj.nil
              replace F1645 := F1645.chg hc1716 Dj.nil
              replace F1660 := F1660.chg hc1716 Dj.nil
              replace F1677 := F1677.chg hc1716 notNil
              replace hB := hB.inS hc1716 inNil
              replace hZ := Nat.le_trans hZ hc1716.size
              refine ⟨.int .i64 (y1713), rfl, ?_⟩
              refine wS_pure 1 [(15, .int .i64 (y1713))] (by kernel_rfl) ?_
              refine wS_end (by rfl) ?_
              refine eX_then ?_
              refine cW_prune [(0, .slice A0 (l0).length cap0), (1, .slice A1 (l1).length cap1), (6, .slice A12 (y8.1).length cap13), (9, .slice A1634 (l1633).length cap1635), (11, .int .i64 (x1304)), (12, .slice A1321 (x1319).length cap1322), (13, .int .i64 (x1639)), (14, .pointer (some ⟨b1667, 0, none⟩)), (15, .int .i64 (y1713))] (by kernel_rfl) (by kernel_rfl) (fun a1717 => ?_)
              refine cW_seq ?_
              refine cW_drawnTail [] 8 (by kernel_rfl) (by kernel_rfl) (fun w1737 hc1738 => ?_)
              replace F1641 := F1641.chg hc1738 Dj.nil
              replace F1642 := F1642.chg hc1738 Dj.nil
              replace F1643 := F1643.chg hc1738 Dj.nil
              replace F1644 := F1644.chg hc1738 Dj.nil
              replace F1645 := F1645.chg hc1738 Dj.nil
              replace F1660 := F1660.chg hc1738 Dj.nil
              replace F1677 := F1677.chg hc1738 notNil
              replace hB := hB.inS hc1738 inNil
              replace hZ := Nat.le_trans hZ hc1738.size
              have hS := Chg.refl [] w1737
              have Z1739 := F1641
              have Z1740 := F1642
              have Z1741 := F1643
              have Z1742 := F1644
              have Z1743 := F1645
              have Z1744 := F1660
              have Z1745 := F1677
              refine wH_take [0] [0] [(90, .slice A1321 (x1319).length cap1322)] (by kernel_rfl) (qT (qT (qB (qT (qL (qB (qT (qB (qT (qL (qB (qT (qT qZ))))))))))))) (by kernel_rfl) ?_
              obtain ⟨x1746, hx1747, hm⟩ := bindE hm
              refine wH_idx (i := 1) (d := 91) (T := 68) (A := A1321) (n := (x1319).length) (cap := cap1322) (kd := .i64) (m := 1) (by kernel_rfl) (qT (qT (qB (qT (qL (qB (qT (qB (qT (qL (qB (qT (qT qZ))))))))))))) (by kernel_rfl) (by kernel_rfl) sl68 (F1644.is hx1747) ?_
              refine wH_load1 (i := 2) (d := 92) (T := 2) (ad := (elA A1321 1 (1) 0)) (v := .int .i64 (x1746)) (by kernel_rfl) (qT (qT (qB (qT (qL (qB (qT (qB (qT (qL (qB (qT (qT qZ))))))))))))) (by kernel_rfl) (by kernel_rfl) vt2 (fun W hW => Sl.cell (Z1742.chg hW Dj.nil) hx1747 0 (by rfl)) ?_
              refine wH_take [3] [3, 2, 1, 0] [(93, .pointer (some ⟨b1667, 2, none⟩))] (by kernel_rfl) (qT (qT (qB (qT (qL (qB (qT (qB (qT (qL (qB (qT (qT qZ))))))))))))) (by kernel_rfl) ?_
              refine wH_load1 (i := 4) (d := 94) (T := 2) (ad := ⟨b1667, 2, none⟩) (v := .int .i64 (x1665.2.2.1)) (by kernel_rfl) (qT (qT (qB (qT (qL (qB (qT (qB (qT (qL (qB (qT (qT qZ))))))))))))) (by kernel_rfl) (by kernel_rfl) vt2 (fun W hW => (Z1745.chg hW notNil).cell 2) ?_
              refine wH_take [6] [6, 4, 3, 2, 1, 0] [(96, .pointer (some ⟨b1667, 3, none⟩))] (by kernel_rfl) (qT (qT (qB (qT (qL (qB (qT (qB (qT (qL (qB (qT (qT qZ))))))))))))) (by kernel_rfl) ?_
              refine wH_load1 (i := 7) (d := 97) (T := 2) (ad := ⟨b1667, 3, none⟩) (v := .int .i64 (x1665.2.2.2.1)) (by kernel_rfl) (qT (qT (qB (qT (qL (qB (qT (qB (qT (qL (qB (qT (qT qZ))))))))))))) (by kernel_rfl) (by kernel_rfl) vt2 (fun W hW => (Z1745.chg hW notNil).cell 3) ?_
              refine wH_all [5] (by rfl) (by kernel_rfl) (by simp) ⟨⟨by kernel_rfl, ?_⟩, trivial⟩
              obtain ⟨y1748, hy1749, hm⟩ := bindE hm
              refine wS_calls (d := 95) (f := 105) (vs := [.int .i64 (x1746), .int .i64 (x1665.2.2.1)]) (by kernel_rfl) ent105 (c_spec_l00Max hy1749) ?_
              rintro _ w1750 ⟨rfl, hc1751⟩
              replace F1641 := F1641.chg hc1751 Dj.nil
              replace F1642 := F1642.chg hc1751 Dj.nil
              replace F1643 := F1643.chg hc1751 Dj.nil
              replace F1644 := F1644.chg hc1751 Dj.nil
              replace F1645 := F1645.chg hc1751 Dj.nil
              replace F1660 := F1660.chg hc1751 Dj.nil
              replace F1677 := F1677.chg hc1751 notNil
              replace hB := hB.inS hc1751 inNil
              have hSz := hS
              replace hS := hS.inS hc1751 inNil
              replace hZ := Nat.le_trans hZ hc1751.size
              refine ⟨.int .i64 (y1748), rfl, ?_⟩
              refine wS_end (by kernel_rfl) ?_
              refine eX_KH hS ?_
              refine wH_done (by kernel_rfl) ?_
              refine eX_tail ?_
              obtain ⟨y1752, hy1753, hm⟩ := bindE hm
              refine wS_calls (d := 98) (f := 104) (vs := [.int .i64 (y1748), .int .i64 (x1665.2.2.2.1)]) (by kernel_rfl) ent104 (c_spec_l00Min hy1753) ?_
              rintro _ w1754 ⟨rfl, hc1755⟩
              replace F1641 := F1641.chg hc1755 Dj.nil
              replace F1642 := F1642.chg hc1755 Dj.nil
              replace F1643 := F1643.chg hc1755 Dj.nil
              replace F1644 := F1644.chg hc1755 Dj.nil
              replace F1645 := F1645.chg hc1755 Dj.nil
              replace F1660 := F1660.chg hc1755 Dj.nil
              replace F1677 := F1677.chg hc1755 notNil
              replace hB := hB.inS hc1755 inNil
              replace hZ := Nat.le_trans hZ hc1755.size
              refine ⟨.int .i64 (y1752), rfl, ?_⟩
              refine wS_pure 1 [(16, .int .i64 (y1752))] (by kernel_rfl) ?_
              refine wS_end (by rfl) ?_
              refine eX_then ?_
              refine cW_region ?_
              refine wS_pure 3 [(101, .int .i64 (x1304)), (100, .slice A1 (l1).length cap1), (99, .slice A1634 (l1633).length cap1635)] (by kernel_rfl) ?_
              obtain ⟨x1756, hx1757, hm⟩ := bindE hm
              refine wS_idx (d := 102) (T := 44) (A := A1) (n := (l1).length) (cap := cap1) (kd := .i64) (m := x1304) (by kernel_rfl) sl44 (F1642.is hx1757) ?_
              obtain ⟨A1758, cap1759, hc1761, F1760⟩ := SlR.row F1642 hx1757
              refine wS_load1 (d := 103) (T := 68) (ad := (elA A1 1 (x1304) 0)) (v := .slice A1758 (x1756).length cap1759) (by kernel_rfl) vt68 hc1761 ?_
              refine wS_pure 1 [(104, .int .i64 (x1639))] (by kernel_rfl) ?_
              obtain ⟨x1763, hx1764, hm⟩ := bindE hm
              refine wS_idx (d := 105) (T := 68) (A := A1758) (n := (x1756).length) (cap := cap1759) (kd := .i64) (m := x1639) (by kernel_rfl) sl68 (F1760.is hx1764) ?_
              refine wS_load1 (d := 106) (T := 2) (ad := (elA A1758 1 (x1639) 0)) (v := .int .i64 (x1763)) (by kernel_rfl) vt2 (Sl.cell F1760 hx1764 0 (by rfl)) ?_
              refine wS_pure 2 [(108, .int .i64 (y1752)), (107, .int .i64 (y1713))] (by kernel_rfl) ?_
              refine wS_bs (enc := encI) ([y1713, y1752] : List (Int)) [.int .i64 (y1713), .int .i64 (y1752)] (d := 109) (t := 68) (T := 2) (n := 2) (ps := [(0, .int .i64 (y1713)), (1, .int .i64 (y1752))]) (by kernel_rfl) el68 encI_ok (by rfl) (by omega) (by omega) (by kernel_rfl) (by rfl) ?_
              intro b1765 w1766 G1767 F1768 hc1769
              have D1771 : Dj fp14 [b1765] := Dj.of F1643.low (low1 G1767)
              have D1772 : Dj fr1303 [b1765] := Dj.of F1644.low (low1 G1767)
              have D1773 : Dj (fp1636 ++ fr1638) [b1765] := Dj.of F1645.low (low1 G1767)
              have D1774 : Dj [b1667] [b1765] := Dj.of (lt1 F1677.lt) (low1 G1767)
              replace F1641 := F1641.chg hc1769 Dj.nil
              replace F1642 := F1642.chg hc1769 Dj.nil
              replace F1643 := F1643.chg hc1769 Dj.nil
              replace F1644 := F1644.chg hc1769 Dj.nil
              replace F1645 := F1645.chg hc1769 Dj.nil
              replace F1660 := F1660.chg hc1769 Dj.nil
              replace F1677 := F1677.chg hc1769 notNil
              replace F1760 := F1760.chg hc1769 Dj.nil
              replace hB := hB.inS hc1769 inNil
              replace G1767 := Nat.le_trans hZ G1767
              replace G1767 := low1 G1767
              replace hZ := Nat.le_trans hZ hc1769.size
              obtain ⟨x1775, hx1776, hm⟩ := bindE hm
              refine wS_idx (d := 110) (T := 44) (A := A1634) (n := (l1633).length) (cap := cap1635) (kd := .i64) (m := x1763) (by kernel_rfl) sl44 ((F1645.slr encI_ok).is hx1776) ?_
              refine wS_storeRow (k := 1) (enc := encI) (x := x1775) (l := ([y1713, y1752] : List (Int))) (T := 68) (U := 68) (cap := cap1635) (c := 2) (A := A1634) (B := (some ⟨b1765, 0, none⟩)) (m := x1763) (by kernel_rfl) sz68 F1645 F1768 D1773 hx1776 ?_
              intro w1780 F1781 hc1782
              have D1784 : Dj fp14 (fp1636 ++ (fr1638 ++ [b1765])) := Dj.app (Dj.inl D1648) (Dj.app (Dj.inr D1648) D1771)
              have D1785 : Dj [b1667] (fp1636 ++ (fr1638 ++ [b1765])) := Dj.app (Dj.inl (D1675).symm) (Dj.app (Dj.inr (D1675).symm) D1774)
              have G1786 := lowApp (low_inl G1647) (lowApp (low_inr G1647) G1767)
              have Dm1787 := Dj.inl D1773.symm
              replace F1641 := F1641.chg hc1782 (Dj.inl (Dj.of L0 G1647))
              replace F1642 := F1642.chg hc1782 (Dj.inl (Dj.of L1 G1647))
              replace F1643 := F1643.chg hc1782 (Dj.inl D1648)
              replace F1644 := F1644.chg hc1782 Dm1646
              replace F1660 := F1660.chg hc1782 (Dj.inl (Dj.of L1 G1647))
              replace F1677 := F1677.chg hc1782 (dj1 (Dj.inl (D1675).symm))
              replace F1760 := F1760.chg hc1782 (Dj.inl (Dj.of L1 G1647))
              replace F1768 := F1768.chg hc1782 (Dj.inl (D1773).symm)
              replace hB := hB.inS hc1782 (memS_inl (inLow G1647))
              replace hZ := Nat.le_trans hZ hc1782.size
              replace F1768 := (F1768.sl encI_ok)
              rewrite [show (l1633).length = (l1633.set (Int.toNat x1763) (([y1713, y1752] : List (Int)))).length from (List.length_set ..).symm]
              refine wS_end (by rfl) ?_
              refine eX_block ?_
              refine eX_then ?_
              refine cW_prune [(0, .slice A0 (l0).length cap0), (1, .slice A1 (l1).length cap1), (6, .slice A12 (y8.1).length cap13), (9, .slice A1634 (l1633.set (Int.toNat x1763) (([y1713, y1752] : List (Int)))).length cap1635), (11, .int .i64 (x1304)), (12, .slice A1321 (x1319).length cap1322), (13, .int .i64 (x1639))] (by kernel_rfl) (by kernel_rfl) (fun a1788 => ?_)
              refine cW_region ?_
              refine wS_pure 3 [(13, .int .i64 (wr (x1639 + 1))), (69, .int .i64 (wr (x1639 + 1))), (68, .int .i64 (x1639))] (by kernel_rfl) ?_
              refine wS_end (by rfl) ?_
              have hq : (some (Ctl.next ((l1633.set (Int.toNat x1763) (([y1713, y1752] : List (Int))), wr (x1639 + 1)))) : Option (Ctl ((List (List (Int))) × Int) ((List (List (Int)))))) = some _ := hm
              replace hq := someE hq
              subst hq
              exact eX_next hx1654 (fun hst => ⟨l1633.set (Int.toNat x1763) (([y1713, y1752] : List (Int))), A1634, cap1635, fp1636, (fr1638 ++ [b1765]), wr (x1639 + 1), rfl, Fr.of hst (by kernel_rfl), F1641, F1642, F1643, F1644, F1781, Dm1646, G1786, D1784, hB, hZ⟩)
            · have hm := condF hb1655 hm
              refine cW_exit ?_
              refine eX_then_exit ?_
              have hq : (some (Ctl.out l1633) : Option (Ctl ((List (List (Int))) × Int) ((List (List (Int)))))) = some _ := hm
              replace hq := someE hq
              subst hq
              refine eX_outX hx1654 (fun hr1789 => ?_)
              replace hr1789 := hr1789.symm
              subst hr1789
              refine eX_block_hit ?_
              exact eX_J (fun hst => ⟨l1633, A1634, cap1635, fp1636, fr1638, rfl, Fr.of hst (by kernel_rfl), F1641, F1642, F1643, F1645, G1647, D1648, hB, hZ⟩)
          · rintro a' w1618 ⟨l1619, A1620, cap1621, fp1622, fr1624, hJ, hF1625, F1626, F1627, F1628, F1629, G1630, D1631, hB, hZ⟩
            subst hJ
            refine Fr.goX hF1625 (by kernel_rfl) ?_
            refine eX_block ?_
            refine eX_then ?_
            refine cW_region ?_
            refine wS_pure 3 [(11, .int .i64 (wr (x1304 - 1))), (58, .int .i64 (wr (x1304 - 1))), (57, .int .i64 (x1304))] (by kernel_rfl) ?_
            refine wS_end (by rfl) ?_
            have hq : (some (Ctl.next ((l1619, wr (x1304 - 1)))) : Option (Ctl ((List (List (Int))) × Int) ((List (List (Int)))))) = some _ := hm
            replace hq := someE hq
            subst hq
            exact eX_next hx1317 (fun hst => ⟨l1619, A1620, cap1621, fp1622, fr1624, wr (x1304 - 1), rfl, Fr.of hst (by kernel_rfl), F1626, F1627, F1628, F1629, G1630, D1631, hB, hZ⟩)
        · have hm := condF hb1318 hm
          refine cW_exit ?_
          refine eX_then_exit ?_
          have hq : (some (Ctl.out l1298) : Option (Ctl ((List (List (Int))) × Int) ((List (List (Int)))))) = some _ := hm
          replace hq := someE hq
          subst hq
          refine eX_outX hx1317 (fun hr1790 => ?_)
          replace hr1790 := hr1790.symm
          subst hr1790
          refine eX_block_hit ?_
          exact eX_J (fun hst => ⟨l1298, A1299, cap1300, fp1301, fr1303, rfl, Fr.of hst (by kernel_rfl), F1309, G1310, hB, hZ⟩)
      · rintro a' w1287 ⟨l1288, A1289, cap1290, fp1291, fr1293, hJ, hF1294, F1295, G1296, hB, hZ⟩
        subst hJ
        refine Fr.goX hF1294 (by kernel_rfl) ?_
        refine eX_then ?_
        refine cW_seq ?_
        refine cW_region ?_
        refine wS_pure 3 [(5, .bool (true)), (4, .slice A1289 (l1288).length cap1290), (111, .slice A1289 (l1288).length cap1290)] (by kernel_rfl) ?_
        refine wS_end (by rfl) ?_
        refine eX_then ?_
        refine cW_ret ?_
        have hq : (some ((l1288, true)) : Option ((List (List (Int))) × (Bool))) = some _ := hm
        replace hq := someE hq
        subst hq
        refine eX_ret (vs := [.slice A1289 (l1288).length cap1290, .bool (true)]) [.tmp 4, .tmp 5] (by rfl) ⟨by (show lkE _ _ _ = _); kernel_rfl, ⟨by (show lkE _ _ _ = _); kernel_rfl, trivial⟩⟩ ?_
        exact ⟨A1289, cap1290, fp1291, fr1293, rfl, F1295, G1296, hB⟩

end Go.Proofs.Ytmodhpgnkbnbaaa
