/- Printed walks: impl.NearestJoins, laws.szPointS, spec.l01Point, spec.l01Points, spec.l06Pins, spec.l06Leaf, spec.l00Max, spec.l06Far, spec.l00Min, spec.l06Meet, spec.l06Grow. -/
import Derived.Test.YtajnjbmniobjhaaProg
import Derived.Test.YtajnjbmniobjhaaWNj01
set_option linter.unusedSimpArgs false
set_option linter.unusedVariables false
namespace Go.Proofs.Ytajnjbmniobjhaa
open Go.RowKit
attribute [local irreducible] wS cW eX wH

theorem ent76 : Ent Try.prog 76 := fun _ => by kernel_rfl
theorem ent101 : Ent Try.prog 101 := fun _ => by kernel_rfl
theorem ent102 : Ent Try.prog 102 := fun _ => by kernel_rfl
theorem ent104 : Ent Try.prog 104 := fun _ => by kernel_rfl
theorem ent118 : Ent Try.prog 118 := fun _ => by kernel_rfl
theorem ent142 : Ent Try.prog 142 := fun _ => by kernel_rfl
theorem ent145 : Ent Try.prog 145 := fun _ => by kernel_rfl
theorem ent159 : Ent Try.prog 159 := fun _ => by kernel_rfl
theorem ent175 : Ent Try.prog 175 := fun _ => by kernel_rfl
theorem sl61 : SlTy Try.prog 61 27 5 := ⟨Try.underlying61, by kernel_rfl⟩
theorem el37 : ElTy Try.prog 37 38 1 (.slice none 0 0) := ElTy.mk' Try.underlying37 (by kernel_rfl) (by rfl)
theorem el38 : ElTy Try.prog 38 2 1 (.int .i64 (0)) := ElTy.mk' Try.underlying38 (by kernel_rfl) (by rfl)
theorem el61 : ElTy Try.prog 61 27 5 (.agg #[.int .i64 (0), .int .i64 (0), .int .i64 (0), .int .i64 (0), .int .i64 (0)]) := ElTy.mk' Try.underlying61 (by kernel_rfl) (by rfl)
theorem sz116 : pureRun Try.prog (sizeOf 116) = some 2 := by kernel_rfl

set_option maxRecDepth 100000 in
/-- impl.NearestJoins -/
theorem c_impl_NearestJoins {w0 : World} {l0 : List (Int × Int)} {A0 : Option Addr} {cap0 : Nat} {fp0 : List Nat} {r : (List (List (Int))) × (Bool)} (hm : m_impl_NearestJoins l0 = some r) (F0 : Sl 2 encII w0 fp0 A0 l0) :
    Calls Try.prog 50 #[.slice A0 (l0).length cap0] w0 fun e w' => ∃ A100 cap100 fp100 fr100, e = .returned (.tuple #[.slice A100 (r.1).length cap100, .bool (r.2)]) ∧ OwR 1 encI 38 2 w' fp100 fr100 A100 cap100 r.1 ∧ (∀ x ∈ fp100 ++ fr100, w0.heap.size ≤ x) ∧ Chg [] w0 w' := by
  have L0 := F0.low
  have hB : Chg [] w0 w0 := Chg.refl _ _
  have hZ := Nat.le_refl w0.heap.size
  unfold m_impl_NearestJoins at hm
  refine enterE (N := 129) Try.func50 (by rfl) Try.ntmps50 (by simp) [(0, .slice A0 (l0).length cap0)] (by rfl) (by kernel_rfl) (fun a => ?_)
  refine cW_seq ?_
  refine cW_region ?_
  refine wS_pure 2 [(3, .bool (false)), (2, .slice none 0 0)] (by kernel_rfl) ?_
  refine wS_end (by rfl) ?_
  refine eX_then ?_
  refine cW_seq ?_
  refine cW_seq ?_
  refine cW_region ?_
  refine wS_pure 1 [(19, .slice A0 (l0).length cap0)] (by kernel_rfl) ?_
  obtain ⟨y2, hy3, hm⟩ := bindE hm
  refine wS_calls (d := 20) (f := 101) (vs := [.slice A0 (l0).length cap0]) (by kernel_rfl) ent101 (c_impl_clockPins hy3 F0) ?_
  rintro _ w4 ⟨rfl, hc5⟩
  replace F0 := F0.chg hc5 Dj.nil
  replace hB := hB.inS hc5 inNil
  replace hZ := Nat.le_trans hZ hc5.size
  refine ⟨.bool (y2), rfl, ?_⟩
  refine wS_pure 1 [(21, .bool (!y2))] (by kernel_rfl) ?_
  refine wS_end (by rfl) ?_
  refine eX_then ?_
  refine cW_cond (t := !y2) (by kernel_rfl) (fun hb6 => ?_) (fun hb6 => ?_)
  · have hm := condT hb6 hm
    refine cW_seq ?_
    refine cW_region ?_
    refine wS_pure 2 [(3, .bool (false)), (2, .slice none 0 0)] (by kernel_rfl) ?_
    refine wS_end (by rfl) ?_
    refine eX_then ?_
    refine cW_ret ?_
    refine eX_then_ret ?_
    have hq : (some (([], false)) : Option ((List (List (Int))) × (Bool))) = some _ := hm
    replace hq := someE hq
    subst hq
    refine eX_ret (vs := [.slice none 0 0, .bool (false)]) [.tmp 2, .tmp 3] (by rfl) ⟨by (show lkE _ _ _ = _); kernel_rfl, ⟨by (show lkE _ _ _ = _); kernel_rfl, trivial⟩⟩ ?_
    exact ⟨none, 0, [], [], rfl, OwR.nil _, (lowApp lowNil lowNil), hB⟩
  · have hm := condF hb6 hm
    refine cW_skip ?_
    refine eX_then ?_
    refine cW_seq ?_
    refine cW_region ?_
    refine wS_bs0 (α := Int × Int × Int × Int × Int) (enc := encIIIII) (d := 22) (t := 61) (T := 27) (by kernel_rfl) el61 ?_
    intro b7 w8 G9 F10 hc11
    replace F0 := F0.chg hc11 Dj.nil
    replace hB := hB.inS hc11 inNil
    replace G9 := Nat.le_trans hZ G9
    replace G9 := low1 G9
    replace hZ := Nat.le_trans hZ hc11.size
    refine wS_bs0 (α := Int) (enc := encI) (d := 23) (t := 108) (T := 3) (by kernel_rfl) el108 ?_
    intro b13 w14 G15 F16 hc17
    have D19 : Dj [b7] [b13] := Dj.of F10.low (low1 G15)
    replace F0 := F0.chg hc17 Dj.nil
    replace F10 := F10.chg hc17 Dj.nil
    replace hB := hB.inS hc17 inNil
    replace G15 := Nat.le_trans hZ G15
    replace G15 := low1 G15
    replace hZ := Nat.le_trans hZ hc17.size
    refine wS_rows0 (k := 1) (enc := encI) (d := 24) (t := 37) (T := 38) (T2 := 2) (by kernel_rfl) el37 ?_
    intro b20 w21 G22 F23 hc24
    have D26 : Dj [b7] ([b20] ++ []) := Dj.of F10.low (lowApp (low1 G22) lowNil)
    have D27 : Dj [b13] ([b20] ++ []) := Dj.of F16.low (lowApp (low1 G22) lowNil)
    replace F0 := F0.chg hc24 Dj.nil
    replace F10 := F10.chg hc24 Dj.nil
    replace F16 := F16.chg hc24 Dj.nil
    replace hB := hB.inS hc24 inNil
    replace G22 := Nat.le_trans hZ G22
    replace G22 := low1 G22
    replace hZ := Nat.le_trans hZ hc24.size
    replace G22 := lowApp G22 lowNil
    refine wS_pure 3 [(6, .slice (some ⟨b20, 0, none⟩) (([] : List (List (Int)))).length 0), (5, .slice (some ⟨b13, 0, none⟩) (([] : List (Int))).length 0), (4, .slice (some ⟨b7, 0, none⟩) (([] : List (Int × Int × Int × Int × Int))).length 0)] (by kernel_rfl) ?_
    refine wS_end (by rfl) ?_
    refine eX_then ?_
    refine cW_seq ?_
    refine cW_seq ?_
    refine cW_region ?_
    refine wS_pure 3 [(27, .int .i64 (0)), (26, .int .i64 (((l0).length : Int))), (25, .slice A0 (l0).length cap0)] (by kernel_rfl) ?_
    refine wS_end (by rfl) ?_
    refine eX_then ?_
    obtain ⟨r234, hr235, hm⟩ := bindE hm
    have hm236 := hm
    refine cW_cut (fun a' w' => ∃ l193 : List (Int × Int × Int × Int × Int), ∃ A194 : Option Addr, ∃ cap195 : Nat, ∃ fp196 : List Nat, ∃ l198 : List (Int), ∃ A199 : Option Addr, ∃ cap200 : Nat, ∃ fp201 : List Nat, (l193, l198) = r234 ∧ Fr 129 [(4, .slice A194 (l193).length cap195), (5, .slice A199 (l198).length cap200), (6, .slice (some ⟨b20, 0, none⟩) (([] : List (List (Int)))).length 0)] a' ∧ OwR 1 encI 38 2 w' [b20] [] (some ⟨b20, 0, none⟩) 0 (([] : List (List (Int)))) ∧ Ow 5 encIIIII 27 w' fp196 A194 cap195 l193 ∧ Ow 1 encI 3 w' fp201 A199 cap200 l198 ∧ (∀ x ∈ fp196, w0.heap.size ≤ x) ∧ (∀ x ∈ fp201, w0.heap.size ≤ x) ∧ Dj ([b20] ++ []) fp196 ∧ Dj fp201 fp196 ∧ Dj ([b20] ++ []) fp201 ∧ Chg [] w0 w' ∧ w0.heap.size ≤ w'.heap.size) ?_ ?_
    · refine cW_block ?_
      refine cW_loop _ (fun (s237 : (List (Int × Int × Int × Int × Int)) × (List (Int)) × Int) a' w' => ∃ l213 : List (Int × Int × Int × Int × Int), ∃ A214 : Option Addr, ∃ cap215 : Nat, ∃ fp216 : List Nat, ∃ l218 : List (Int), ∃ A219 : Option Addr, ∃ cap220 : Nat, ∃ fp221 : List Nat, ∃ x223 : Int, (l213, l218, x223) = s237 ∧ Fr 129 [(4, .slice A214 (l213).length cap215), (5, .slice A219 (l218).length cap220), (6, .slice (some ⟨b20, 0, none⟩) (([] : List (List (Int)))).length 0), (25, .slice A0 (l0).length cap0), (26, .int .i64 (((l0).length : Int))), (27, .int .i64 (x223))] a' ∧ Sl 2 encII w' fp0 A0 l0 ∧ OwR 1 encI 38 2 w' [b20] [] (some ⟨b20, 0, none⟩) 0 (([] : List (List (Int)))) ∧ Ow 5 encIIIII 27 w' fp216 A214 cap215 l213 ∧ Ow 1 encI 3 w' fp221 A219 cap220 l218 ∧ (∀ x ∈ fp216, w0.heap.size ≤ x) ∧ (∀ x ∈ fp221, w0.heap.size ≤ x) ∧ Dj ([b20] ++ []) fp216 ∧ Dj fp221 fp216 ∧ Dj ([b20] ++ []) fp221 ∧ Chg [] w0 w' ∧ w0.heap.size ≤ w'.heap.size) hr235 (fun hst => ⟨([] : List (Int × Int × Int × Int × Int)), (some ⟨b7, 0, none⟩), 0, [b7], ([] : List (Int)), (some ⟨b13, 0, none⟩), 0, [b13], 0, rfl, Fr.of hst (by kernel_rfl), F0, F23, F10, F16, G9, G15, (D26).symm, (D19).symm, (D27).symm, hB, hZ⟩) ?_
      rintro _ c238 a' w212 ⟨l213, A214, cap215, fp216, l218, A219, cap220, fp221, x223, rfl, hF224, F225, F226, F227, F228, G229, G230, D231, D232, D233, hB, hZ⟩ hx239
      refine Fr.goOn hF224 (by kernel_rfl) ?_
      have hm := hx239
      unfold m_impl_NearestJoins_s1 at hm
      refine cW_seq ?_
      refine cW_region ?_
      refine wS_pure 1 [(28, .bool (decide (x223 < (((l0).length : Int)))))] (by kernel_rfl) ?_
      refine wS_end (by rfl) ?_
      refine eX_then ?_
      refine cW_seq ?_
      refine cW_cond (t := decide (x223 < (((l0).length : Int)))) (by kernel_rfl) (fun hb240 => ?_) (fun hb240 => ?_)
      · have hm := condT hb240 hm
        refine cW_skip ?_
        refine eX_then ?_
        refine cW_seq ?_
        refine cW_block ?_
        refine cW_seq ?_
        refine cW_region ?_
        refine wS_pure 1 [(29, .int .i64 (x223))] (by kernel_rfl) ?_
        obtain ⟨x241, hx242, hm⟩ := bindE hm
        refine wS_idx (d := 30) (T := 58) (A := A0) (n := (l0).length) (cap := cap0) (kd := .i64) (m := x223) (by kernel_rfl) sl58 (F225.is hx242) ?_
        refine wS_loadA (d := 31) (T := 116) (ad := (elA A0 2 (x223) 0)) (vs := [.int .i64 (x241.1), .int .i64 (x241.2)]) (by kernel_rfl) vt116 (fun i u hu => Sl.cells_at F225 hx242 0 hu (by rfl)) ?_
        refine wS_alloc (d := 8) (T := 116) (z := .agg #[.int .i64 (0), .int .i64 (0)]) (by kernel_rfl) (by kernel_rfl) ?_
        intro b243 w244 G245 F246 hc247
        replace F246 : Cl w244 b243 116 [.int .i64 (0), .int .i64 (0)] := F246
        have D249 : Dj ([b20] ++ []) [b243] := Dj.of F226.low (low1 G245)
        have D250 : Dj fp216 [b243] := Dj.of F227.low (low1 G245)
        have D251 : Dj fp221 [b243] := Dj.of F228.low (low1 G245)
        replace F225 := F225.chg hc247 Dj.nil
        replace F226 := F226.chg hc247 Dj.nil
        replace F227 := F227.chg hc247 Dj.nil
        replace F228 := F228.chg hc247 Dj.nil
        replace hB := hB.inS hc247 inNil
        replace G245 := Nat.le_trans hZ G245
        replace hZ := Nat.le_trans hZ hc247.size
        refine wS_pure 1 [(7, .int .i64 (x223))] (by kernel_rfl) ?_
        refine wS_store (T := 116) (g := b243) (o := 0) (ad := ⟨b243, 0, none⟩) (v := .agg #[.int .i64 (x241.1), .int .i64 (x241.2)]) (vs := [.int .i64 (x241.1), .int .i64 (x241.2)]) (by kernel_rfl) (by rfl) sz116 (by rfl) (by rfl) F246 (by simp only [List.length_cons, List.length_nil]; omega) ?_
        intro w252 F253 hc254
        replace F225 := F225.chg hc254 (Dj.of L0 (low1 G245))
        replace F226 := F226.chg hc254 D249
        replace F227 := F227.chg hc254 D250
        replace F228 := F228.chg hc254 D251
        replace hB := hB.inS hc254 (inLow (low1 G245))
        replace hZ := Nat.le_trans hZ hc254.size
        replace F253 : Cl w252 b243 116 [.int .i64 (x241.1), .int .i64 (x241.2)] := F253
        clear F246
        refine wS_end (by rfl) ?_
        refine eX_then ?_
        refine cW_region ?_
        refine wS_pure 1 [(32, .slice A214 (l213).length cap215)] (by kernel_rfl) ?_
        refine wS_loadA (d := 33) (T := 116) (ad := ⟨b243, 0, none⟩) (vs := [.int .i64 (x241.1), .int .i64 (x241.2)]) (by kernel_rfl) vt116 (fun i u hu => box_cells F253 0 hu (by rfl)) ?_
        obtain ⟨y255, hy256, hm⟩ := bindE hm
        refine wS_calls (d := 34) (f := 102) (vs := [.agg #[.int .i64 (x241.1), .int .i64 (x241.2)]]) (by kernel_rfl) ent102 (c_impl_leaf hy256) ?_
        rintro _ w257 ⟨rfl, hc258⟩
        replace F225 := F225.chg hc258 Dj.nil
        replace F226 := F226.chg hc258 Dj.nil
        replace F227 := F227.chg hc258 Dj.nil
        replace F228 := F228.chg hc258 Dj.nil
        replace F253 := F253.chg hc258 notNil
        replace hB := hB.inS hc258 inNil
        replace hZ := Nat.le_trans hZ hc258.size
        refine ⟨.agg #[.int .i64 (y255.1), .int .i64 (y255.2.1), .int .i64 (y255.2.2.1), .int .i64 (y255.2.2.2)], rfl, ?_⟩
        refine wS_pure 1 [(35, .agg #[.int .i64 (y255.1), .int .i64 (y255.2.1), .int .i64 (y255.2.2.1), .int .i64 (y255.2.2.2), .int .i64 (0)])] (by kernel_rfl) ?_
        refine wS_bs (enc := encIIIII) ([(y255.1, y255.2.1, y255.2.2.1, y255.2.2.2, 0)] : List (Int × Int × Int × Int × Int)) [.int .i64 (y255.1), .int .i64 (y255.2.1), .int .i64 (y255.2.2.1), .int .i64 (y255.2.2.2), .int .i64 (0)] (d := 36) (t := 61) (T := 27) (n := 1) (ps := [(0, .agg #[.int .i64 (y255.1), .int .i64 (y255.2.1), .int .i64 (y255.2.2.1), .int .i64 (y255.2.2.2), .int .i64 (0)])]) (by kernel_rfl) el61 encIIIII_ok (by rfl) (by omega) (by omega) (by kernel_rfl) (by rfl) ?_
        intro b259 w260 G261 F262 hc263
        have D265 : Dj ([b20] ++ []) [b259] := Dj.of F226.low (low1 G261)
        have D266 : Dj fp216 [b259] := Dj.of F227.low (low1 G261)
        have D267 : Dj fp221 [b259] := Dj.of F228.low (low1 G261)
        have D268 : Dj [b243] [b259] := Dj.of (lt1 F253.lt) (low1 G261)
        replace F225 := F225.chg hc263 Dj.nil
        replace F226 := F226.chg hc263 Dj.nil
        replace F227 := F227.chg hc263 Dj.nil
        replace F228 := F228.chg hc263 Dj.nil
        replace F253 := F253.chg hc263 notNil
        replace hB := hB.inS hc263 inNil
        replace G261 := Nat.le_trans hZ G261
        replace G261 := low1 G261
        replace hZ := Nat.le_trans hZ hc263.size
        obtain ⟨_, hk269, hm⟩ := bindE hm
        replace hk269 := apE hk269
        refine wS_append (enc := encIIIII) (l := (l213 : List (Int × Int × Int × Int × Int))) (l2 := (([(y255.1, y255.2.1, y255.2.2.1, y255.2.2.2, 0)] : List (Int × Int × Int × Int × Int)) : List (Int × Int × Int × Int × Int))) (d := 37) (t := 61) (T := 27) (A := A214) (A2 := (some ⟨b259, 0, none⟩)) (cap := cap215) (cap2 := 1) (by kernel_rfl) el61 encIIIII_ok F227 (F262.sl encIIIII_ok) (by rfl) hk269 ?_
        intro w270 fp271 A272 cap273 F274 hc275 hp276
        have G278 := low_ap G229 hZ hp276
        have D279 : Dj ([b20] ++ []) fp271 := Dj.ap D231 F226.low hp276
        have D280 : Dj fp221 fp271 := Dj.ap D232 F228.low hp276
        have D281 : Dj [b243] fp271 := Dj.ap (D250).symm (lt1 F253.lt) hp276
        have D282 : Dj [b259] fp271 := Dj.ap (D266).symm F262.low hp276
        replace F225 := F225.chg hc275 (Dj.of L0 G229)
        replace F226 := F226.chg hc275 D231
        replace F228 := F228.chg hc275 D232
        replace F253 := F253.chg hc275 (dj1 (D250).symm)
        replace F262 := F262.chg hc275 (D266).symm
        replace hB := hB.inS hc275 (inLow G229)
        replace hZ := Nat.le_trans hZ hc275.size
        refine wS_pure 2 [(39, .int .i64 (x223)), (38, .slice A219 (l218).length cap220)] (by kernel_rfl) ?_
        refine wS_bs (enc := encI) ([x223] : List (Int)) [.int .i64 (x223)] (d := 40) (t := 108) (T := 3) (n := 1) (ps := [(0, .int .i64 (x223))]) (by kernel_rfl) el108 encI_ok (by rfl) (by omega) (by omega) (by kernel_rfl) (by rfl) ?_
        intro b283 w284 G285 F286 hc287
        have D289 : Dj ([b20] ++ []) [b283] := Dj.of F226.low (low1 G285)
        have D290 : Dj fp221 [b283] := Dj.of F228.low (low1 G285)
        have D291 : Dj [b243] [b283] := Dj.of (lt1 F253.lt) (low1 G285)
        have D292 : Dj [b259] [b283] := Dj.of F262.low (low1 G285)
        have D293 : Dj fp271 [b283] := Dj.of F274.low (low1 G285)
        replace F225 := F225.chg hc287 Dj.nil
        replace F226 := F226.chg hc287 Dj.nil
        replace F228 := F228.chg hc287 Dj.nil
        replace F253 := F253.chg hc287 notNil
        replace F262 := F262.chg hc287 Dj.nil
        replace F274 := F274.chg hc287 Dj.nil
        replace hB := hB.inS hc287 inNil
        replace G285 := Nat.le_trans hZ G285
        replace G285 := low1 G285
        replace hZ := Nat.le_trans hZ hc287.size
        obtain ⟨_, hk294, hm⟩ := bindE hm
        replace hk294 := apE hk294
        refine wS_append (enc := encI) (l := (l218 : List (Int))) (l2 := (([x223] : List (Int)) : List (Int))) (d := 41) (t := 108) (T := 3) (A := A219) (A2 := (some ⟨b283, 0, none⟩)) (cap := cap220) (cap2 := 1) (by kernel_rfl) el108 encI_ok F228 (F286.sl encI_ok) (by rfl) hk294 ?_
        intro w295 fp296 A297 cap298 F299 hc300 hp301
        have G303 := low_ap G230 hZ hp301
        have D304 : Dj ([b20] ++ []) fp296 := Dj.ap D233 F226.low hp301
        have D305 : Dj [b243] fp296 := Dj.ap (D251).symm (lt1 F253.lt) hp301
        have D306 : Dj [b259] fp296 := Dj.ap (D267).symm F262.low hp301
        have D307 : Dj fp271 fp296 := Dj.ap (D280).symm F274.low hp301
        have D308 : Dj [b283] fp296 := Dj.ap (D290).symm F286.low hp301
        replace F225 := F225.chg hc300 (Dj.of L0 G230)
        replace F226 := F226.chg hc300 D233
        replace F253 := F253.chg hc300 (dj1 (D251).symm)
        replace F262 := F262.chg hc300 (D267).symm
        replace F274 := F274.chg hc300 (D280).symm
        replace F286 := F286.chg hc300 (D290).symm
        replace hB := hB.inS hc300 (inLow G230)
        replace hZ := Nat.le_trans hZ hc300.size
        refine wS_pure 2 [(5, .slice A297 (l218 ++ (([x223] : List (Int)))).length cap298), (4, .slice A272 (l213 ++ (([(y255.1, y255.2.1, y255.2.2.1, y255.2.2.2, 0)] : List (Int × Int × Int × Int × Int)))).length cap273)] (by kernel_rfl) ?_
        refine wS_end (by rfl) ?_
        refine eX_block ?_
        refine eX_then ?_
        refine cW_region ?_
        refine wS_pure 2 [(27, .int .i64 (wr (x223 + 1))), (42, .int .i64 (wr (x223 + 1)))] (by kernel_rfl) ?_
        refine wS_end (by rfl) ?_
        have hq : (some (Ctl.next ((l213 ++ (([(y255.1, y255.2.1, y255.2.2.1, y255.2.2.2, 0)] : List (Int × Int × Int × Int × Int))), l218 ++ (([x223] : List (Int))), wr (x223 + 1)))) : Option (Ctl ((List (Int × Int × Int × Int × Int)) × (List (Int)) × Int) ((List (Int × Int × Int × Int × Int)) × (List (Int))))) = some _ := hm
        replace hq := someE hq
        subst hq
        exact eX_next hx239 (fun hst => ⟨l213 ++ (([(y255.1, y255.2.1, y255.2.2.1, y255.2.2.2, 0)] : List (Int × Int × Int × Int × Int))), A272, cap273, fp271, l218 ++ (([x223] : List (Int))), A297, cap298, fp296, wr (x223 + 1), rfl, Fr.of hst (by kernel_rfl), F225, F226, F274, F299, G278, G303, D279, (D307).symm, D304, hB, hZ⟩)
      · have hm := condF hb240 hm
        refine cW_exit ?_
        refine eX_then_exit ?_
        have hq : (some (Ctl.out ((l213, l218))) : Option (Ctl ((List (Int × Int × Int × Int × Int)) × (List (Int)) × Int) ((List (Int × Int × Int × Int × Int)) × (List (Int))))) = some _ := hm
        replace hq := someE hq
        subst hq
        refine eX_outX hx239 (fun hr309 => ?_)
        replace hr309 := hr309.symm
        subst hr309
        refine eX_block_hit ?_
        exact eX_J (fun hst => ⟨l213, A214, cap215, fp216, l218, A219, cap220, fp221, rfl, Fr.of hst (by kernel_rfl), F226, F227, F228, G229, G230, D231, D232, D233, hB, hZ⟩)
    · rintro a' w192 ⟨l193, A194, cap195, fp196, l198, A199, cap200, fp201, hJ, hF203, F204, F205, F206, G207, G208, D209, D210, D211, hB, hZ⟩
      subst hJ
      refine Fr.goX hF203 (by kernel_rfl) ?_
      refine eX_then ?_
      refine cW_seq ?_
      obtain ⟨r6389, hr6390, hm⟩ := bindE hm
      have hm6391 := hm
      refine cW_cut (fun a' w' => ∃ l6353 : List (List (Int)), ∃ A6354 : Option Addr, ∃ cap6355 : Nat, ∃ fp6356 : List Nat, ∃ fr6358 : List Nat, Sum.inl l6353 = r6389 ∧ Fr 129 [(6, .slice A6354 (l6353).length cap6355)] a' ∧ OwR 1 encI 38 2 w' fp6356 fr6358 A6354 cap6355 l6353 ∧ (∀ x ∈ (fp6356 ++ fr6358), w0.heap.size ≤ x) ∧ Chg [] w0 w' ∧ w0.heap.size ≤ w'.heap.size) ?_ ?_
      · refine cW_block ?_
        refine cW_loop _ (fun (s6392 : (List (Int × Int × Int × Int × Int)) × (List (Int)) × (List (List (Int)))) a' w' => ∃ l6363 : List (Int × Int × Int × Int × Int), ∃ A6364 : Option Addr, ∃ cap6365 : Nat, ∃ fp6366 : List Nat, ∃ l6368 : List (Int), ∃ A6369 : Option Addr, ∃ cap6370 : Nat, ∃ fp6371 : List Nat, ∃ l6373 : List (List (Int)), ∃ A6374 : Option Addr, ∃ cap6375 : Nat, ∃ fp6376 : List Nat, ∃ fr6378 : List Nat, (l6363, l6368, l6373) = s6392 ∧ Fr 129 [(4, .slice A6364 (l6363).length cap6365), (5, .slice A6369 (l6368).length cap6370), (6, .slice A6374 (l6373).length cap6375)] a' ∧ Ow 5 encIIIII 27 w' fp6366 A6364 cap6365 l6363 ∧ Ow 1 encI 3 w' fp6371 A6369 cap6370 l6368 ∧ OwR 1 encI 38 2 w' fp6376 fr6378 A6374 cap6375 l6373 ∧ (∀ x ∈ fp6366, w0.heap.size ≤ x) ∧ (∀ x ∈ fp6371, w0.heap.size ≤ x) ∧ (∀ x ∈ (fp6376 ++ fr6378), w0.heap.size ≤ x) ∧ Dj fp6371 fp6366 ∧ Dj (fp6376 ++ fr6378) fp6366 ∧ Dj (fp6376 ++ fr6378) fp6371 ∧ Chg [] w0 w' ∧ w0.heap.size ≤ w'.heap.size) hr6390 (fun hst => ⟨l193, A194, cap195, fp196, l198, A199, cap200, fp201, ([] : List (List (Int))), (some ⟨b20, 0, none⟩), 0, [b20], [], rfl, Fr.of hst (by kernel_rfl), F205, F206, F204, G207, G208, G22, D210, D209, D211, hB, hZ⟩) ?_
        rintro _ c6393 a' w6362 ⟨l6363, A6364, cap6365, fp6366, l6368, A6369, cap6370, fp6371, l6373, A6374, cap6375, fp6376, fr6378, rfl, hF6379, F6380, F6381, F6382, G6383, G6384, G6385, D6386, D6387, D6388, hB, hZ⟩ hx6394
        refine Fr.goOn hF6379 (by kernel_rfl) ?_
        have hm := hx6394
        unfold m_impl_NearestJoins_s10 at hm
        refine cW_seq ?_
        refine cW_seq ?_
        refine cW_region ?_
        refine wS_pure 3 [(45, .bool (decide ((((l6368).length : Int)) > 1))), (44, .int .i64 (((l6368).length : Int))), (43, .slice A6369 (l6368).length cap6370)] (by kernel_rfl) ?_
        refine wS_end (by rfl) ?_
        refine eX_then ?_
        refine cW_cond (t := decide ((((l6368).length : Int)) > 1)) (by kernel_rfl) (fun hb6395 => ?_) (fun hb6395 => ?_)
        · have hm := condT hb6395 hm
          refine cW_skip ?_
          refine eX_then ?_
          refine cW_block ?_
          refine cW_seq ?_
          obtain ⟨s6544, hs6545, hm⟩ := bindE hm
          refine cW_cut (fun a' w' => ∃ b6523 : Nat, ∃ x6524 : Int, ∃ b6526 : Nat, ∃ x6527 : Int, (x6524, x6527) = s6544 ∧ Fr 129 [(4, .slice A6364 (l6363).length cap6365), (5, .slice A6369 (l6368).length cap6370), (6, .slice A6374 (l6373).length cap6375), (9, .pointer (some ⟨b6523, 0, none⟩)), (10, .pointer (some ⟨b6526, 0, none⟩))] a' ∧ Ow 5 encIIIII 27 w' fp6366 A6364 cap6365 l6363 ∧ Ow 1 encI 3 w' fp6371 A6369 cap6370 l6368 ∧ OwR 1 encI 38 2 w' fp6376 fr6378 A6374 cap6375 l6373 ∧ Cl w' b6523 3 [.int .i64 (x6524)] ∧ Cl w' b6526 3 [.int .i64 (x6527)] ∧ w0.heap.size ≤ b6523 ∧ w0.heap.size ≤ b6526 ∧ Dj fp6366 [b6523] ∧ Dj fp6371 [b6523] ∧ Dj (fp6376 ++ fr6378) [b6523] ∧ Dj [b6526] [b6523] ∧ Dj fp6366 [b6526] ∧ Dj fp6371 [b6526] ∧ Dj (fp6376 ++ fr6378) [b6526] ∧ Chg [] w0 w' ∧ w0.heap.size ≤ w'.heap.size) ?_ ?_
          · have hm := hs6545
            refine cW_drawnTail [] 9 (by kernel_rfl) (by kernel_rfl) (fun w6546 hc6547 => ?_)
            replace F6380 := F6380.chg hc6547 Dj.nil
            replace F6381 := F6381.chg hc6547 Dj.nil
            replace F6382 := F6382.chg hc6547 Dj.nil
            replace hB := hB.inS hc6547 inNil
            replace hZ := Nat.le_trans hZ hc6547.size
            have hS := Chg.refl [] w6546
            have Z6548 := F6380
            have Z6549 := F6381
            have Z6550 := F6382
            refine wH_take [0] [0] [(46, .slice A6369 (l6368).length cap6370)] (by kernel_rfl) (qT (qT (qT (qB (qL (qB (qT (qT qZ)))))))) (by kernel_rfl) ?_
            obtain ⟨x6551, hx6552, hm⟩ := bindE hm
            refine wH_idx (i := 1) (d := 47) (T := 108) (A := A6369) (n := (l6368).length) (cap := cap6370) (kd := .i64) (m := 0) (by kernel_rfl) (qT (qT (qT (qB (qL (qB (qT (qT qZ)))))))) (by kernel_rfl) (by kernel_rfl) sl108 ((F6381.sl encI_ok).is hx6552) ?_
            refine wH_load1 (i := 2) (d := 48) (T := 3) (ad := (elA A6369 1 (0) 0)) (v := .int .i64 (x6551)) (by kernel_rfl) (qT (qT (qT (qB (qL (qB (qT (qT qZ)))))))) (by kernel_rfl) (by kernel_rfl) vt3 (fun W hW => Sl.cell ((Z6549.chg hW Dj.nil).sl encI_ok) hx6552 0 (by rfl)) ?_
            refine wH_take [3] [3, 2, 1, 0] [(49, .slice A6369 (l6368).length cap6370)] (by kernel_rfl) (qT (qT (qT (qB (qL (qB (qT (qT qZ)))))))) (by kernel_rfl) ?_
            obtain ⟨x6553, hx6554, hm⟩ := bindE hm
            refine wH_idx (i := 4) (d := 50) (T := 108) (A := A6369) (n := (l6368).length) (cap := cap6370) (kd := .i64) (m := 1) (by kernel_rfl) (qT (qT (qT (qB (qL (qB (qT (qT qZ)))))))) (by kernel_rfl) (by kernel_rfl) sl108 ((F6381.sl encI_ok).is hx6554) ?_
            refine wH_load1 (i := 5) (d := 51) (T := 3) (ad := (elA A6369 1 (1) 0)) (v := .int .i64 (x6553)) (by kernel_rfl) (qT (qT (qT (qB (qL (qB (qT (qT qZ)))))))) (by kernel_rfl) (by kernel_rfl) vt3 (fun W hW => Sl.cell ((Z6549.chg hW Dj.nil).sl encI_ok) hx6554 0 (by rfl)) ?_
            refine wH_all [6, 7] (by rfl) (by kernel_rfl) (by simp) ⟨⟨by kernel_rfl, ?_⟩, ⟨by kernel_rfl, ?_⟩, trivial⟩
            · skip
              refine wS_alloc (d := 9) (T := 3) (z := .int .i64 (0)) (by kernel_rfl) (by kernel_rfl) ?_
              intro b6555 w6556 G6557 F6558 hc6559
              replace F6558 : Cl w6556 b6555 3 [.int .i64 (0)] := F6558
              have D6561 : Dj fp6366 [b6555] := Dj.of F6380.low (low1 G6557)
              have D6562 : Dj fp6371 [b6555] := Dj.of F6381.low (low1 G6557)
              have D6563 : Dj (fp6376 ++ fr6378) [b6555] := Dj.of F6382.low (low1 G6557)
              replace F6380 := F6380.chg hc6559 Dj.nil
              replace F6381 := F6381.chg hc6559 Dj.nil
              replace F6382 := F6382.chg hc6559 Dj.nil
              replace hB := hB.inS hc6559 inNil
              have hSz := hS
              replace hS := hS.inS hc6559 inNil
              have Gz6564 := low1 (Nat.le_trans hSz.size G6557)
              replace G6557 := Nat.le_trans hZ G6557
              replace hZ := Nat.le_trans hZ hc6559.size
              refine wS_end (by kernel_rfl) ?_
              refine eX_KH hS ?_
              refine wH_all [7] (by rfl) (by kernel_rfl) (by simp) ⟨⟨by kernel_rfl, ?_⟩, trivial⟩
              refine wS_alloc (d := 10) (T := 3) (z := .int .i64 (0)) (by kernel_rfl) (by kernel_rfl) ?_
              intro b6565 w6566 G6567 F6568 hc6569
              replace F6568 : Cl w6566 b6565 3 [.int .i64 (0)] := F6568
              have D6571 : Dj fp6366 [b6565] := Dj.of F6380.low (low1 G6567)
              have D6572 : Dj fp6371 [b6565] := Dj.of F6381.low (low1 G6567)
              have D6573 : Dj (fp6376 ++ fr6378) [b6565] := Dj.of F6382.low (low1 G6567)
              have D6574 : Dj [b6555] [b6565] := Dj.of (lt1 F6558.lt) (low1 G6567)
              replace F6380 := F6380.chg hc6569 Dj.nil
              replace F6381 := F6381.chg hc6569 Dj.nil
              replace F6382 := F6382.chg hc6569 Dj.nil
              replace F6558 := F6558.chg hc6569 notNil
              replace hB := hB.inS hc6569 inNil
              have hSz := hS
              replace hS := hS.inS hc6569 inNil
              have Gz6575 := low1 (Nat.le_trans hSz.size G6567)
              replace G6567 := Nat.le_trans hZ G6567
              replace hZ := Nat.le_trans hZ hc6569.size
              refine wS_end (by kernel_rfl) ?_
              refine eX_KH hS ?_
              refine wH_all [8] (by rfl) (by kernel_rfl) (by simp) ⟨⟨by kernel_rfl, ?_⟩, trivial⟩
              refine wS_store (T := 3) (g := b6555) (o := 0) (ad := ⟨b6555, 0, none⟩) (v := .int .i64 (x6551)) (vs := [.int .i64 (x6551)]) (by kernel_rfl) (by rfl) sz3 (by rfl) (by rfl) F6558 (by simp only [List.length_cons, List.length_nil]; omega) ?_
              intro w6576 F6577 hc6578
              replace F6380 := F6380.chg hc6578 D6561
              replace F6381 := F6381.chg hc6578 D6562
              replace F6382 := F6382.chg hc6578 D6563
              replace F6568 := F6568.chg hc6578 (dj1 (D6574).symm)
              replace hB := hB.inS hc6578 (inLow (low1 G6557))
              have hSz := hS
              replace hS := hS.inS hc6578 (inLow Gz6564)
              replace hZ := Nat.le_trans hZ hc6578.size
              replace F6577 : Cl w6576 b6555 3 [.int .i64 (x6551)] := F6577
              clear F6558
              refine wS_end (by kernel_rfl) ?_
              refine eX_KH hS ?_
              refine wH_done (by kernel_rfl) ?_
              refine eX_tail ?_
              refine wS_store (T := 3) (g := b6565) (o := 0) (ad := ⟨b6565, 0, none⟩) (v := .int .i64 (x6553)) (vs := [.int .i64 (x6553)]) (by kernel_rfl) (by rfl) sz3 (by rfl) (by rfl) F6568 (by simp only [List.length_cons, List.length_nil]; omega) ?_
              intro w6579 F6580 hc6581
              replace F6380 := F6380.chg hc6581 D6571
              replace F6381 := F6381.chg hc6581 D6572
              replace F6382 := F6382.chg hc6581 D6573
              replace F6577 := F6577.chg hc6581 (dj1 D6574)
              replace hB := hB.inS hc6581 (inLow (low1 G6567))
              replace hZ := Nat.le_trans hZ hc6581.size
              replace F6580 : Cl w6579 b6565 3 [.int .i64 (x6553)] := F6580
              clear F6568
              refine wS_end (by rfl) ?_
              have hq : (some ((x6551, x6553)) : Option (Int × Int)) = some _ := hm
              replace hq := someE hq
              subst hq
              exact eX_J (fun hst => ⟨b6555, x6551, b6565, x6553, rfl, Fr.of hst (by kernel_rfl), F6380, F6381, F6382, F6577, F6580, G6557, G6567, D6561, D6562, D6563, (D6574).symm, D6571, D6572, D6573, hB, hZ⟩)
            · skip
              refine wS_alloc (d := 10) (T := 3) (z := .int .i64 (0)) (by kernel_rfl) (by kernel_rfl) ?_
              intro b6582 w6583 G6584 F6585 hc6586
              replace F6585 : Cl w6583 b6582 3 [.int .i64 (0)] := F6585
              have D6588 : Dj fp6366 [b6582] := Dj.of F6380.low (low1 G6584)
              have D6589 : Dj fp6371 [b6582] := Dj.of F6381.low (low1 G6584)
              have D6590 : Dj (fp6376 ++ fr6378) [b6582] := Dj.of F6382.low (low1 G6584)
              replace F6380 := F6380.chg hc6586 Dj.nil
              replace F6381 := F6381.chg hc6586 Dj.nil
              replace F6382 := F6382.chg hc6586 Dj.nil
              replace hB := hB.inS hc6586 inNil
              have hSz := hS
              replace hS := hS.inS hc6586 inNil
              have Gz6591 := low1 (Nat.le_trans hSz.size G6584)
              replace G6584 := Nat.le_trans hZ G6584
              replace hZ := Nat.le_trans hZ hc6586.size
              refine wS_end (by kernel_rfl) ?_
              refine eX_KH hS ?_
              refine wH_all [6] (by rfl) (by kernel_rfl) (by simp) ⟨⟨by kernel_rfl, ?_⟩, trivial⟩
              refine wS_alloc (d := 9) (T := 3) (z := .int .i64 (0)) (by kernel_rfl) (by kernel_rfl) ?_
              intro b6592 w6593 G6594 F6595 hc6596
              replace F6595 : Cl w6593 b6592 3 [.int .i64 (0)] := F6595
              have D6598 : Dj fp6366 [b6592] := Dj.of F6380.low (low1 G6594)
              have D6599 : Dj fp6371 [b6592] := Dj.of F6381.low (low1 G6594)
              have D6600 : Dj (fp6376 ++ fr6378) [b6592] := Dj.of F6382.low (low1 G6594)
              have D6601 : Dj [b6582] [b6592] := Dj.of (lt1 F6585.lt) (low1 G6594)
              replace F6380 := F6380.chg hc6596 Dj.nil
              replace F6381 := F6381.chg hc6596 Dj.nil
              replace F6382 := F6382.chg hc6596 Dj.nil
              replace F6585 := F6585.chg hc6596 notNil
              replace hB := hB.inS hc6596 inNil
              have hSz := hS
              replace hS := hS.inS hc6596 inNil
              have Gz6602 := low1 (Nat.le_trans hSz.size G6594)
              replace G6594 := Nat.le_trans hZ G6594
              replace hZ := Nat.le_trans hZ hc6596.size
              refine wS_end (by kernel_rfl) ?_
              refine eX_KH hS ?_
              refine wH_all [8] (by rfl) (by kernel_rfl) (by simp) ⟨⟨by kernel_rfl, ?_⟩, trivial⟩
              refine wS_store (T := 3) (g := b6592) (o := 0) (ad := ⟨b6592, 0, none⟩) (v := .int .i64 (x6551)) (vs := [.int .i64 (x6551)]) (by kernel_rfl) (by rfl) sz3 (by rfl) (by rfl) F6595 (by simp only [List.length_cons, List.length_nil]; omega) ?_
              intro w6603 F6604 hc6605
              replace F6380 := F6380.chg hc6605 D6598
              replace F6381 := F6381.chg hc6605 D6599
              replace F6382 := F6382.chg hc6605 D6600
              replace F6585 := F6585.chg hc6605 (dj1 D6601)
              replace hB := hB.inS hc6605 (inLow (low1 G6594))
              have hSz := hS
              replace hS := hS.inS hc6605 (inLow Gz6602)
              replace hZ := Nat.le_trans hZ hc6605.size
              replace F6604 : Cl w6603 b6592 3 [.int .i64 (x6551)] := F6604
              clear F6595
              refine wS_end (by kernel_rfl) ?_
              refine eX_KH hS ?_
              refine wH_done (by kernel_rfl) ?_
              refine eX_tail ?_
              refine wS_store (T := 3) (g := b6582) (o := 0) (ad := ⟨b6582, 0, none⟩) (v := .int .i64 (x6553)) (vs := [.int .i64 (x6553)]) (by kernel_rfl) (by rfl) sz3 (by rfl) (by rfl) F6585 (by simp only [List.length_cons, List.length_nil]; omega) ?_
              intro w6606 F6607 hc6608
              replace F6380 := F6380.chg hc6608 D6588
              replace F6381 := F6381.chg hc6608 D6589
              replace F6382 := F6382.chg hc6608 D6590
              replace F6604 := F6604.chg hc6608 (dj1 (D6601).symm)
              replace hB := hB.inS hc6608 (inLow (low1 G6584))
              replace hZ := Nat.le_trans hZ hc6608.size
              replace F6607 : Cl w6606 b6582 3 [.int .i64 (x6553)] := F6607
              clear F6585
              refine wS_end (by rfl) ?_
              have hq : (some ((x6551, x6553)) : Option (Int × Int)) = some _ := hm
              replace hq := someE hq
              subst hq
              exact eX_J (fun hst => ⟨b6592, x6551, b6582, x6553, rfl, Fr.of hst (by kernel_rfl), F6380, F6381, F6382, F6604, F6607, G6594, G6584, D6598, D6599, D6600, D6601, D6588, D6589, D6590, hB, hZ⟩)
          · rintro a' w6522 ⟨b6523, x6524, b6526, x6527, hJ, hF6529, F6530, F6531, F6532, F6533, F6534, G6535, G6536, D6537, D6538, D6539, D6540, D6541, D6542, D6543, hB, hZ⟩
            subst hJ
            refine Fr.goX hF6529 (by kernel_rfl) ?_
            refine eX_then ?_
            refine cW_seq ?_
            refine cW_seq ?_
            refine cW_region ?_
            refine wS_pure 3 [(54, .int .i64 (0)), (53, .int .i64 (((l6368).length : Int))), (52, .slice A6369 (l6368).length cap6370)] (by kernel_rfl) ?_
            refine wS_end (by rfl) ?_
            refine eX_then ?_
            obtain ⟨r7531, hr7532, hm⟩ := bindE hm
            have hm7533 := hm
            refine cW_cut (fun a' w' => ∃ x7513 : Int, ∃ x7514 : Int, (x7513, x7514) = r7531 ∧ Fr 129 [(4, .slice A6364 (l6363).length cap6365), (5, .slice A6369 (l6368).length cap6370), (6, .slice A6374 (l6373).length cap6375), (9, .pointer (some ⟨b6523, 0, none⟩)), (10, .pointer (some ⟨b6526, 0, none⟩))] a' ∧ Ow 5 encIIIII 27 w' fp6366 A6364 cap6365 l6363 ∧ Ow 1 encI 3 w' fp6371 A6369 cap6370 l6368 ∧ OwR 1 encI 38 2 w' fp6376 fr6378 A6374 cap6375 l6373 ∧ Cl w' b6523 3 [.int .i64 (x7513)] ∧ Cl w' b6526 3 [.int .i64 (x7514)] ∧ Chg [] w0 w' ∧ w0.heap.size ≤ w'.heap.size) ?_ ?_
            · refine cW_block ?_
              refine cW_loop _ (fun (s7534 : Int × Int × Int) a' w' => ∃ x7522 : Int, ∃ x7523 : Int, ∃ x7524 : Int, (x7522, x7523, x7524) = s7534 ∧ Fr 129 [(4, .slice A6364 (l6363).length cap6365), (5, .slice A6369 (l6368).length cap6370), (6, .slice A6374 (l6373).length cap6375), (9, .pointer (some ⟨b6523, 0, none⟩)), (10, .pointer (some ⟨b6526, 0, none⟩)), (52, .slice A6369 (l6368).length cap6370), (53, .int .i64 (((l6368).length : Int))), (54, .int .i64 (x7522))] a' ∧ Ow 5 encIIIII 27 w' fp6366 A6364 cap6365 l6363 ∧ Ow 1 encI 3 w' fp6371 A6369 cap6370 l6368 ∧ OwR 1 encI 38 2 w' fp6376 fr6378 A6374 cap6375 l6373 ∧ Cl w' b6523 3 [.int .i64 (x7523)] ∧ Cl w' b6526 3 [.int .i64 (x7524)] ∧ Chg [] w0 w' ∧ w0.heap.size ≤ w'.heap.size) hr7532 (fun hst => ⟨0, x6524, x6527, rfl, Fr.of hst (by kernel_rfl), F6530, F6531, F6532, F6533, F6534, hB, hZ⟩) ?_
              rintro _ c7535 a' w7521 ⟨x7522, x7523, x7524, rfl, hF7525, F7526, F7527, F7528, F7529, F7530, hB, hZ⟩ hx7536
              refine Fr.goOn hF7525 (by kernel_rfl) ?_
              have hm := hx7536
              unfold m_impl_NearestJoins_s13 at hm
              refine cW_seq ?_
              refine cW_region ?_
              refine wS_pure 1 [(55, .bool (decide (x7522 < (((l6368).length : Int)))))] (by kernel_rfl) ?_
              refine wS_end (by rfl) ?_
              refine eX_then ?_
              refine cW_seq ?_
              refine cW_cond (t := decide (x7522 < (((l6368).length : Int)))) (by kernel_rfl) (fun hb7537 => ?_) (fun hb7537 => ?_)
              · have hm := condT hb7537 hm
                refine cW_skip ?_
                refine eX_then ?_
                refine cW_seq ?_
                refine cW_block ?_
                refine cW_seq ?_
                refine cW_region ?_
                refine wS_pure 1 [(56, .int .i64 (x7522))] (by kernel_rfl) ?_
                obtain ⟨x7538, hx7539, hm⟩ := bindE hm
                refine wS_idx (d := 57) (T := 108) (A := A6369) (n := (l6368).length) (cap := cap6370) (kd := .i64) (m := x7522) (by kernel_rfl) sl108 ((F7527.sl encI_ok).is hx7539) ?_
                refine wS_load1 (d := 58) (T := 3) (ad := (elA A6369 1 (x7522) 0)) (v := .int .i64 (x7538)) (by kernel_rfl) vt3 (Sl.cell (F7527.sl encI_ok) hx7539 0 (by rfl)) ?_
                refine wS_pure 2 [(12, .int .i64 (x7538)), (11, .int .i64 (x7522))] (by kernel_rfl) ?_
                refine wS_end (by rfl) ?_
                refine eX_then ?_
                refine cW_seq ?_
                refine cW_region ?_
                refine wS_pure 3 [(61, .int .i64 (wr (x7522 + 1))), (60, .int .i64 (x7522)), (59, .slice A6369 (l6368).length cap6370)] (by kernel_rfl) ?_
                obtain ⟨y7540, hy7541, hm⟩ := bindE hm
                refine wS_cutA (enc := encI) (l := l6368) (d := 62) (T := 108) (A := A6369) (cap := cap6370) (vlo := some (.int .i64 (wr (x7522 + 1)))) (vhi := none) (lo := wr (x7522 + 1)) (hi := ((l6368).length : Int)) (n := 0) (by kernel_rfl) sl108 (Or.inl rfl) (Or.inr ⟨rfl, rfl⟩) (F7527.sl encI_ok) F7527.cap_le hy7541 ?_
                intro A7542 cap7543 hA7546 F7544 hcap7545
                obtain rfl := slci_slc hy7541
                have hlv7548 := Eq.refl (l6368).length
                have hcz7549 := F7527.cap_le
                refine wS_pure 2 [(64, .int .i64 (0)), (63, .int .i64 (((slc l6368 (wr (x7522 + 1)) (((l6368).length : Int))).length : Int)))] (by kernel_rfl) ?_
                refine wS_end (by rfl) ?_
                refine eX_then ?_
                obtain ⟨r7845, hr7846, hm⟩ := bindE hm
                have hm7847 := hm
                refine cW_cut (fun a' w' => ∃ x7826 : Int, ∃ x7827 : Int, (x7826, x7827) = r7845 ∧ Fr 129 [(4, .slice A6364 (l6363).length cap6365), (5, .slice A6369 (l6368).length cap6370), (6, .slice A6374 (l6373).length cap6375), (9, .pointer (some ⟨b6523, 0, none⟩)), (10, .pointer (some ⟨b6526, 0, none⟩)), (52, .slice A6369 (l6368).length cap6370), (53, .int .i64 (((l6368).length : Int))), (54, .int .i64 (x7522))] a' ∧ Ow 5 encIIIII 27 w' fp6366 A6364 cap6365 l6363 ∧ Ow 1 encI 3 w' fp6371 A6369 cap6370 l6368 ∧ OwR 1 encI 38 2 w' fp6376 fr6378 A6374 cap6375 l6373 ∧ Cl w' b6523 3 [.int .i64 (x7826)] ∧ Cl w' b6526 3 [.int .i64 (x7827)] ∧ Chg [] w0 w' ∧ w0.heap.size ≤ w'.heap.size) ?_ ?_
                · refine cW_block ?_
                  refine cW_loop _ (fun (s7848 : Int × Int × Int) a' w' => ∃ x7835 : Int, ∃ x7836 : Int, ∃ x7837 : Int, (x7835, x7836, x7837) = s7848 ∧ Fr 129 [(4, .slice A6364 (l6363).length cap6365), (5, .slice A6369 (l6368).length cap6370), (6, .slice A6374 (l6373).length cap6375), (9, .pointer (some ⟨b6523, 0, none⟩)), (10, .pointer (some ⟨b6526, 0, none⟩)), (12, .int .i64 (x7538)), (52, .slice A6369 (l6368).length cap6370), (53, .int .i64 (((l6368).length : Int))), (54, .int .i64 (x7522)), (62, .slice A7542 (slc l6368 (wr (x7522 + 1)) (((l6368).length : Int))).length cap7543), (63, .int .i64 (((slc l6368 (wr (x7522 + 1)) (((l6368).length : Int))).length : Int))), (64, .int .i64 (x7835))] a' ∧ Ow 5 encIIIII 27 w' fp6366 A6364 cap6365 l6363 ∧ Ow 1 encI 3 w' fp6371 A6369 cap6370 l6368 ∧ OwR 1 encI 38 2 w' fp6376 fr6378 A6374 cap6375 l6373 ∧ Cl w' b6523 3 [.int .i64 (x7836)] ∧ Cl w' b6526 3 [.int .i64 (x7837)] ∧ Sl 1 encI w' fp6371 A7542 (slc l6368 (wr (x7522 + 1)) (((l6368).length : Int))) ∧ Chg [] w0 w' ∧ w0.heap.size ≤ w'.heap.size) hr7846 (fun hst => ⟨0, x7523, x7524, rfl, Fr.of hst (by kernel_rfl), F7526, F7527, F7528, F7529, F7530, F7544, hB, hZ⟩) ?_
                  rintro _ c7849 a' w7834 ⟨x7835, x7836, x7837, rfl, hF7838, F7839, F7840, F7841, F7842, F7843, F7844, hB, hZ⟩ hx7850
                  refine Fr.goOn hF7838 (by kernel_rfl) ?_
                  have hm := hx7850
                  unfold m_impl_NearestJoins_s14 at hm
                  refine cW_seq ?_
                  refine cW_region ?_
                  refine wS_pure 1 [(65, .bool (decide (x7835 < (((slc l6368 (wr (x7522 + 1)) (((l6368).length : Int))).length : Int)))))] (by kernel_rfl) ?_
                  refine wS_end (by rfl) ?_
                  refine eX_then ?_
                  refine cW_seq ?_
                  refine cW_cond (t := decide (x7835 < (((slc l6368 (wr (x7522 + 1)) (((l6368).length : Int))).length : Int)))) (by kernel_rfl) (fun hb7851 => ?_) (fun hb7851 => ?_)
                  · have hm := condT hb7851 hm
                    refine cW_skip ?_
                    refine eX_then ?_
                    refine cW_seq ?_
                    refine cW_block ?_
                    obtain ⟨s7920, hs7921, hm⟩ := bindE hm
                    refine cW_cut (fun a' w' => ∃ x7911 : Int, ∃ x7912 : Int, (x7911, x7912) = s7920 ∧ Fr 129 [(4, .slice A6364 (l6363).length cap6365), (5, .slice A6369 (l6368).length cap6370), (6, .slice A6374 (l6373).length cap6375), (9, .pointer (some ⟨b6523, 0, none⟩)), (10, .pointer (some ⟨b6526, 0, none⟩)), (12, .int .i64 (x7538)), (52, .slice A6369 (l6368).length cap6370), (53, .int .i64 (((l6368).length : Int))), (54, .int .i64 (x7522)), (62, .slice A7542 (slc l6368 (wr (x7522 + 1)) (((l6368).length : Int))).length cap7543), (63, .int .i64 (((slc l6368 (wr (x7522 + 1)) (((l6368).length : Int))).length : Int))), (64, .int .i64 (x7835))] a' ∧ Ow 5 encIIIII 27 w' fp6366 A6364 cap6365 l6363 ∧ Ow 1 encI 3 w' fp6371 A6369 cap6370 l6368 ∧ OwR 1 encI 38 2 w' fp6376 fr6378 A6374 cap6375 l6373 ∧ Cl w' b6523 3 [.int .i64 (x7911)] ∧ Cl w' b6526 3 [.int .i64 (x7912)] ∧ Sl 1 encI w' fp6371 A7542 (slc l6368 (wr (x7522 + 1)) (((l6368).length : Int))) ∧ Chg [] w0 w' ∧ w0.heap.size ≤ w'.heap.size) ?_ ?_
                    · have hm := hs7921
                      refine cW_seq ?_
                      refine cW_region ?_
                      obtain ⟨x7922, hx7923, hm⟩ := bindE hm
                      refine wS_idx (d := 66) (T := 108) (A := A7542) (n := (slc l6368 (wr (x7522 + 1)) (((l6368).length : Int))).length) (cap := cap7543) (kd := .i64) (m := x7835) (by kernel_rfl) sl108 (F7844.is hx7923) ?_
                      refine wS_load1 (d := 67) (T := 3) (ad := (elA A7542 1 (x7835) 0)) (v := .int .i64 (x7922)) (by kernel_rfl) vt3 (Sl.cell F7844 hx7923 0 (by rfl)) ?_
                      refine wS_pure 1 [(14, .int .i64 (x7922))] (by kernel_rfl) ?_
                      refine wS_end (by rfl) ?_
                      refine eX_then ?_
                      refine cW_seq ?_
                      refine cW_drawnTail [] 21 (by kernel_rfl) (by kernel_rfl) (fun w7948 hc7949 => ?_)
                      replace F7839 := F7839.chg hc7949 Dj.nil
                      replace F7840 := F7840.chg hc7949 Dj.nil
                      replace F7841 := F7841.chg hc7949 Dj.nil
                      replace F7842 := F7842.chg hc7949 notNil
                      replace F7843 := F7843.chg hc7949 notNil
                      replace F7844 := F7844.chg hc7949 Dj.nil
                      replace hB := hB.inS hc7949 inNil
                      replace hZ := Nat.le_trans hZ hc7949.size
                      have hS := Chg.refl [] w7948
                      have Z7950 := F7839
                      have Z7951 := F7840
                      have Z7952 := F7841
                      have Z7953 := F7842
                      have Z7954 := F7843
                      have Z7955 := F7844
                      refine wH_take [0, 1] [1, 0] [(69, .int .i64 (x7538)), (68, .slice A6364 (l6363).length cap6365)] (by kernel_rfl) (qT (qT (qT (qB (qT (qL (qB (qT (qB (qT (qL (qB (qT (qT (qB (qL (qB (qT (qT qZ))))))))))))))))))) (by kernel_rfl) ?_
                      obtain ⟨x7956, hx7957, hm⟩ := bindE hm
                      refine wH_idx (i := 2) (d := 70) (T := 61) (A := A6364) (n := (l6363).length) (cap := cap6365) (kd := .i64) (m := x7538) (by kernel_rfl) (qT (qT (qT (qB (qT (qL (qB (qT (qB (qT (qL (qB (qT (qT (qB (qL (qB (qT (qT qZ))))))))))))))))))) (by kernel_rfl) (by kernel_rfl) sl61 ((F7839.sl encIIIII_ok).is hx7957) ?_
                      refine wH_take [3] [3, 2, 1, 0] [(71, .pointer (some (elA A6364 5 (x7538) 0)))] (by kernel_rfl) (qT (qT (qT (qB (qT (qL (qB (qT (qB (qT (qL (qB (qT (qT (qB (qL (qB (qT (qT qZ))))))))))))))))))) (by kernel_rfl) ?_
                      refine wH_loadA (i := 4) (d := 72) (T := 25) (ad := (elA A6364 5 (x7538) 0)) (vs := [.int .i64 (x7956.1), .int .i64 (x7956.2.1), .int .i64 (x7956.2.2.1), .int .i64 (x7956.2.2.2.1)]) (by kernel_rfl) (qT (qT (qT (qB (qT (qL (qB (qT (qB (qT (qL (qB (qT (qT (qB (qL (qB (qT (qT qZ))))))))))))))))))) (by kernel_rfl) (by kernel_rfl) vt25 (fun W hW i u hu => Sl.cells_at ((Z7950.chg hW Dj.nil).sl encIIIII_ok) hx7957 0 hu (by rfl)) ?_
                      refine wH_take [5, 6] [6, 5, 4, 3, 2, 1, 0] [(74, .int .i64 (x7922)), (73, .slice A6364 (l6363).length cap6365)] (by kernel_rfl) (qT (qT (qT (qB (qT (qL (qB (qT (qB (qT (qL (qB (qT (qT (qB (qL (qB (qT (qT qZ))))))))))))))))))) (by kernel_rfl) ?_
                      obtain ⟨x7958, hx7959, hm⟩ := bindE hm
                      refine wH_idx (i := 7) (d := 75) (T := 61) (A := A6364) (n := (l6363).length) (cap := cap6365) (kd := .i64) (m := x7922) (by kernel_rfl) (qT (qT (qT (qB (qT (qL (qB (qT (qB (qT (qL (qB (qT (qT (qB (qL (qB (qT (qT qZ))))))))))))))))))) (by kernel_rfl) (by kernel_rfl) sl61 ((F7839.sl encIIIII_ok).is hx7959) ?_
                      refine wH_take [8] [8, 7, 6, 5, 4, 3, 2, 1, 0] [(76, .pointer (some (elA A6364 5 (x7922) 0)))] (by kernel_rfl) (qT (qT (qT (qB (qT (qL (qB (qT (qB (qT (qL (qB (qT (qT (qB (qL (qB (qT (qT qZ))))))))))))))))))) (by kernel_rfl) ?_
                      refine wH_loadA (i := 9) (d := 77) (T := 25) (ad := (elA A6364 5 (x7922) 0)) (vs := [.int .i64 (x7958.1), .int .i64 (x7958.2.1), .int .i64 (x7958.2.2.1), .int .i64 (x7958.2.2.2.1)]) (by kernel_rfl) (qT (qT (qT (qB (qT (qL (qB (qT (qB (qT (qL (qB (qT (qT (qB (qL (qB (qT (qT qZ))))))))))))))))))) (by kernel_rfl) (by kernel_rfl) vt25 (fun W hW i u hu => Sl.cells_at ((Z7950.chg hW Dj.nil).sl encIIIII_ok) hx7959 0 hu (by rfl)) ?_
                      refine wH_take [11] [11, 9, 8, 7, 6, 5, 4, 3, 2, 1, 0] [(79, .slice A6364 (l6363).length cap6365)] (by kernel_rfl) (qT (qT (qT (qB (qT (qL (qB (qT (qB (qT (qL (qB (qT (qT (qB (qL (qB (qT (qT qZ))))))))))))))))))) (by kernel_rfl) ?_
                      refine wH_load1 (i := 12) (d := 80) (T := 3) (ad := ⟨b6523, 0, none⟩) (v := .int .i64 (x7836)) (by kernel_rfl) (qT (qT (qT (qB (qT (qL (qB (qT (qB (qT (qL (qB (qT (qT (qB (qL (qB (qT (qT qZ))))))))))))))))))) (by kernel_rfl) (by kernel_rfl) vt3 (fun W hW => (Z7953.chg hW notNil).cell 0) ?_
                      obtain ⟨x7960, hx7961, hm⟩ := bindE hm
                      refine wH_idx (i := 13) (d := 81) (T := 61) (A := A6364) (n := (l6363).length) (cap := cap6365) (kd := .i64) (m := x7836) (by kernel_rfl) (qT (qT (qT (qB (qT (qL (qB (qT (qB (qT (qL (qB (qT (qT (qB (qL (qB (qT (qT qZ))))))))))))))))))) (by kernel_rfl) (by kernel_rfl) sl61 ((F7839.sl encIIIII_ok).is hx7961) ?_
                      refine wH_take [14] [14, 13, 12, 11, 9, 8, 7, 6, 5, 4, 3, 2, 1, 0] [(82, .pointer (some (elA A6364 5 (x7836) 0)))] (by kernel_rfl) (qT (qT (qT (qB (qT (qL (qB (qT (qB (qT (qL (qB (qT (qT (qB (qL (qB (qT (qT qZ))))))))))))))))))) (by kernel_rfl) ?_
                      refine wH_loadA (i := 15) (d := 83) (T := 25) (ad := (elA A6364 5 (x7836) 0)) (vs := [.int .i64 (x7960.1), .int .i64 (x7960.2.1), .int .i64 (x7960.2.2.1), .int .i64 (x7960.2.2.2.1)]) (by kernel_rfl) (qT (qT (qT (qB (qT (qL (qB (qT (qB (qT (qL (qB (qT (qT (qB (qL (qB (qT (qT qZ))))))))))))))))))) (by kernel_rfl) (by kernel_rfl) vt25 (fun W hW i u hu => Sl.cells_at ((Z7950.chg hW Dj.nil).sl encIIIII_ok) hx7961 0 hu (by rfl)) ?_
                      refine wH_take [16] [16, 15, 14, 13, 12, 11, 9, 8, 7, 6, 5, 4, 3, 2, 1, 0] [(84, .slice A6364 (l6363).length cap6365)] (by kernel_rfl) (qT (qT (qT (qB (qT (qL (qB (qT (qB (qT (qL (qB (qT (qT (qB (qL (qB (qT (qT qZ))))))))))))))))))) (by kernel_rfl) ?_
                      refine wH_load1 (i := 17) (d := 85) (T := 3) (ad := ⟨b6526, 0, none⟩) (v := .int .i64 (x7837)) (by kernel_rfl) (qT (qT (qT (qB (qT (qL (qB (qT (qB (qT (qL (qB (qT (qT (qB (qL (qB (qT (qT qZ))))))))))))))))))) (by kernel_rfl) (by kernel_rfl) vt3 (fun W hW => (Z7954.chg hW notNil).cell 0) ?_
                      obtain ⟨x7962, hx7963, hm⟩ := bindE hm
                      refine wH_idx (i := 18) (d := 86) (T := 61) (A := A6364) (n := (l6363).length) (cap := cap6365) (kd := .i64) (m := x7837) (by kernel_rfl) (qT (qT (qT (qB (qT (qL (qB (qT (qB (qT (qL (qB (qT (qT (qB (qL (qB (qT (qT qZ))))))))))))))))))) (by kernel_rfl) (by kernel_rfl) sl61 ((F7839.sl encIIIII_ok).is hx7963) ?_
                      refine wH_take [19] [19, 18, 17, 16, 15, 14, 13, 12, 11, 9, 8, 7, 6, 5, 4, 3, 2, 1, 0] [(87, .pointer (some (elA A6364 5 (x7837) 0)))] (by kernel_rfl) (qT (qT (qT (qB (qT (qL (qB (qT (qB (qT (qL (qB (qT (qT (qB (qL (qB (qT (qT qZ))))))))))))))))))) (by kernel_rfl) ?_
                      refine wH_loadA (i := 20) (d := 88) (T := 25) (ad := (elA A6364 5 (x7837) 0)) (vs := [.int .i64 (x7962.1), .int .i64 (x7962.2.1), .int .i64 (x7962.2.2.1), .int .i64 (x7962.2.2.2.1)]) (by kernel_rfl) (qT (qT (qT (qB (qT (qL (qB (qT (qB (qT (qL (qB (qT (qT (qB (qL (qB (qT (qT qZ))))))))))))))))))) (by kernel_rfl) (by kernel_rfl) vt25 (fun W hW i u hu => Sl.cells_at ((Z7950.chg hW Dj.nil).sl encIIIII_ok) hx7963 0 hu (by rfl)) ?_
                      refine wH_all [10] (by rfl) (by kernel_rfl) (by simp) ⟨⟨by kernel_rfl, ?_⟩, trivial⟩
                      obtain ⟨y7964, hy7965, hm⟩ := bindE hm
                      refine wS_calls (d := 78) (f := 74) (vs := [.agg #[.int .i64 (x7956.1), .int .i64 (x7956.2.1), .int .i64 (x7956.2.2.1), .int .i64 (x7956.2.2.2.1)], .agg #[.int .i64 (x7958.1), .int .i64 (x7958.2.1), .int .i64 (x7958.2.2.1), .int .i64 (x7958.2.2.2.1)]]) (by kernel_rfl) ent74 (c_impl_Region_far hy7965) ?_
                      rintro _ w7966 ⟨rfl, hc7967⟩
                      replace F7839 := F7839.chg hc7967 Dj.nil
                      replace F7840 := F7840.chg hc7967 Dj.nil
                      replace F7841 := F7841.chg hc7967 Dj.nil
                      replace F7842 := F7842.chg hc7967 notNil
                      replace F7843 := F7843.chg hc7967 notNil
                      replace F7844 := F7844.chg hc7967 Dj.nil
                      replace hB := hB.inS hc7967 inNil
                      have hSz := hS
                      replace hS := hS.inS hc7967 inNil
                      replace hZ := Nat.le_trans hZ hc7967.size
                      refine ⟨.int .i64 (y7964), rfl, ?_⟩
                      refine wS_end (by kernel_rfl) ?_
                      refine eX_KH hS ?_
                      refine wH_done (by kernel_rfl) ?_
                      refine eX_tail ?_
                      obtain ⟨y7968, hy7969, hm⟩ := bindE hm
                      refine wS_calls (d := 89) (f := 74) (vs := [.agg #[.int .i64 (x7960.1), .int .i64 (x7960.2.1), .int .i64 (x7960.2.2.1), .int .i64 (x7960.2.2.2.1)], .agg #[.int .i64 (x7962.1), .int .i64 (x7962.2.1), .int .i64 (x7962.2.2.1), .int .i64 (x7962.2.2.2.1)]]) (by kernel_rfl) ent74 (c_impl_Region_far hy7969) ?_
                      rintro _ w7970 ⟨rfl, hc7971⟩
                      replace F7839 := F7839.chg hc7971 Dj.nil
                      replace F7840 := F7840.chg hc7971 Dj.nil
                      replace F7841 := F7841.chg hc7971 Dj.nil
                      replace F7842 := F7842.chg hc7971 notNil
                      replace F7843 := F7843.chg hc7971 notNil
                      replace F7844 := F7844.chg hc7971 Dj.nil
                      replace hB := hB.inS hc7971 inNil
                      replace hZ := Nat.le_trans hZ hc7971.size
                      refine ⟨.int .i64 (y7968), rfl, ?_⟩
                      refine wS_pure 1 [(90, .bool (decide (y7964 < y7968)))] (by kernel_rfl) ?_
                      refine wS_end (by rfl) ?_
                      refine eX_then ?_
                      refine cW_prune [(4, .slice A6364 (l6363).length cap6365), (5, .slice A6369 (l6368).length cap6370), (6, .slice A6374 (l6373).length cap6375), (9, .pointer (some ⟨b6523, 0, none⟩)), (10, .pointer (some ⟨b6526, 0, none⟩)), (12, .int .i64 (x7538)), (14, .int .i64 (x7922)), (52, .slice A6369 (l6368).length cap6370), (53, .int .i64 (((l6368).length : Int))), (54, .int .i64 (x7522)), (62, .slice A7542 (slc l6368 (wr (x7522 + 1)) (((l6368).length : Int))).length cap7543), (63, .int .i64 (((slc l6368 (wr (x7522 + 1)) (((l6368).length : Int))).length : Int))), (64, .int .i64 (x7835)), (90, .bool (decide (y7964 < y7968)))] (by kernel_rfl) (by kernel_rfl) (fun a7972 => ?_)
                      refine cW_cond (t := decide (y7964 < y7968)) (by kernel_rfl) (fun hb7973 => ?_) (fun hb7973 => ?_)
                      · have hm := condT hb7973 hm
                        refine cW_region ?_
                        refine wS_pure 2 [(92, .int .i64 (x7922)), (91, .int .i64 (x7538))] (by kernel_rfl) ?_
                        refine wS_store (T := 3) (g := b6523) (o := 0) (ad := ⟨b6523, 0, none⟩) (v := .int .i64 (x7538)) (vs := [.int .i64 (x7538)]) (by kernel_rfl) (by rfl) sz3 (by rfl) (by rfl) F7842 (by simp only [List.length_cons, List.length_nil]; omega) ?_
                        intro w7974 F7975 hc7976
                        replace F7839 := F7839.chg hc7976 D6537
                        replace F7840 := F7840.chg hc7976 D6538
                        replace F7841 := F7841.chg hc7976 D6539
                        replace F7843 := F7843.chg hc7976 (dj1 D6540)
                        replace F7844 := F7844.chg hc7976 D6538
                        replace hB := hB.inS hc7976 (inLow (low1 G6535))
                        replace hZ := Nat.le_trans hZ hc7976.size
                        replace F7975 : Cl w7974 b6523 3 [.int .i64 (x7538)] := F7975
                        clear F7842
                        refine wS_store (T := 3) (g := b6526) (o := 0) (ad := ⟨b6526, 0, none⟩) (v := .int .i64 (x7922)) (vs := [.int .i64 (x7922)]) (by kernel_rfl) (by rfl) sz3 (by rfl) (by rfl) F7843 (by simp only [List.length_cons, List.length_nil]; omega) ?_
                        intro w7977 F7978 hc7979
                        replace F7839 := F7839.chg hc7979 D6541
                        replace F7840 := F7840.chg hc7979 D6542
                        replace F7841 := F7841.chg hc7979 D6543
                        replace F7975 := F7975.chg hc7979 (dj1 (D6540).symm)
                        replace F7844 := F7844.chg hc7979 D6542
                        replace hB := hB.inS hc7979 (inLow (low1 G6536))
                        replace hZ := Nat.le_trans hZ hc7979.size
                        replace F7978 : Cl w7977 b6526 3 [.int .i64 (x7922)] := F7978
                        clear F7843
                        refine wS_end (by rfl) ?_
                        have hq : (some ((x7538, x7922)) : Option (Int × Int)) = some _ := hm
                        replace hq := someE hq
                        subst hq
                        exact eX_J (fun hst => ⟨x7538, x7922, rfl, Fr.of hst (by kernel_rfl), F7839, F7840, F7841, F7975, F7978, F7844, hB, hZ⟩)
                      · have hm := condF hb7973 hm
                        refine cW_skip ?_
                        have hq : (some ((x7836, x7837)) : Option (Int × Int)) = some _ := hm
                        replace hq := someE hq
                        subst hq
                        exact eX_J (fun hst => ⟨x7836, x7837, rfl, Fr.of hst (by kernel_rfl), F7839, F7840, F7841, F7842, F7843, F7844, hB, hZ⟩)
                    · rintro a' w7910 ⟨x7911, x7912, hJ, hF7913, F7914, F7915, F7916, F7917, F7918, F7919, hB, hZ⟩
                      subst hJ
                      refine Fr.goX hF7913 (by kernel_rfl) ?_
                      refine eX_block ?_
                      refine eX_then ?_
                      refine cW_region ?_
                      refine wS_pure 2 [(64, .int .i64 (wr (x7835 + 1))), (93, .int .i64 (wr (x7835 + 1)))] (by kernel_rfl) ?_
                      refine wS_end (by rfl) ?_
                      have hq : (some (Ctl.next ((wr (x7835 + 1), x7911, x7912))) : Option (Ctl (Int × Int × Int) (Int × Int))) = some _ := hm
                      replace hq := someE hq
                      subst hq
                      exact eX_next hx7850 (fun hst => ⟨wr (x7835 + 1), x7911, x7912, rfl, Fr.of hst (by kernel_rfl), F7914, F7915, F7916, F7917, F7918, F7919, hB, hZ⟩)
                  · have hm := condF hb7851 hm
                    refine cW_exit ?_
                    refine eX_then_exit ?_
                    have hq : (some (Ctl.out ((x7836, x7837))) : Option (Ctl (Int × Int × Int) (Int × Int))) = some _ := hm
                    replace hq := someE hq
                    subst hq
                    refine eX_outX hx7850 (fun hr7980 => ?_)
                    replace hr7980 := hr7980.symm
                    subst hr7980
                    refine eX_block_hit ?_
                    exact eX_J (fun hst => ⟨x7836, x7837, rfl, Fr.of hst (by kernel_rfl), F7839, F7840, F7841, F7842, F7843, hB, hZ⟩)
                · rintro a' w7825 ⟨x7826, x7827, hJ, hF7828, F7829, F7830, F7831, F7832, F7833, hB, hZ⟩
                  subst hJ
                  refine Fr.goX hF7828 (by kernel_rfl) ?_
                  refine eX_block ?_
                  refine eX_then ?_
                  refine cW_region ?_
                  refine wS_pure 2 [(54, .int .i64 (wr (x7522 + 1))), (94, .int .i64 (wr (x7522 + 1)))] (by kernel_rfl) ?_
                  refine wS_end (by rfl) ?_
                  have hq : (some (Ctl.next ((wr (x7522 + 1), x7826, x7827))) : Option (Ctl (Int × Int × Int) (Int × Int))) = some _ := hm
                  replace hq := someE hq
                  subst hq
                  exact eX_next hx7536 (fun hst => ⟨wr (x7522 + 1), x7826, x7827, rfl, Fr.of hst (by kernel_rfl), F7829, F7830, F7831, F7832, F7833, hB, hZ⟩)
              · have hm := condF hb7537 hm
                refine cW_exit ?_
                refine eX_then_exit ?_
                have hq : (some (Ctl.out ((x7523, x7524))) : Option (Ctl (Int × Int × Int) (Int × Int))) = some _ := hm
                replace hq := someE hq
                subst hq
                refine eX_outX hx7536 (fun hr7981 => ?_)
                replace hr7981 := hr7981.symm
                subst hr7981
                refine eX_block_hit ?_
                exact eX_J (fun hst => ⟨x7523, x7524, rfl, Fr.of hst (by kernel_rfl), F7526, F7527, F7528, F7529, F7530, hB, hZ⟩)
            · rintro a' w7512 ⟨x7513, x7514, hJ, hF7515, F7516, F7517, F7518, F7519, F7520, hB, hZ⟩
              subst hJ
              refine Fr.goX hF7515 (by kernel_rfl) ?_
              refine eX_then ?_
              refine cW_seq ?_
              obtain ⟨s8102, hs8103, hm⟩ := bindE hm
              refine cW_cut (fun a' w' => ∃ b8081 : Nat, ∃ x8082 : Int, ∃ x8083 : Int, ∃ x8084 : Int, ∃ x8085 : Int, ∃ x8086 : Int, ∃ x8088 : Bool, (x8082, x8083, x8084, x8085, x8086, x8088) = s8102 ∧ Fr 129 [(4, .slice A6364 (l6363).length cap6365), (5, .slice A6369 (l6368).length cap6370), (6, .slice A6374 (l6373).length cap6375), (9, .pointer (some ⟨b6523, 0, none⟩)), (10, .pointer (some ⟨b6526, 0, none⟩)), (15, .pointer (some ⟨b8081, 0, none⟩)), (18, .bool (x8088))] a' ∧ Ow 5 encIIIII 27 w' fp6366 A6364 cap6365 l6363 ∧ Ow 1 encI 3 w' fp6371 A6369 cap6370 l6368 ∧ OwR 1 encI 38 2 w' fp6376 fr6378 A6374 cap6375 l6373 ∧ Cl w' b6523 3 [.int .i64 (x7513)] ∧ Cl w' b6526 3 [.int .i64 (x7514)] ∧ Cl w' b8081 27 [.int .i64 (x8082), .int .i64 (x8083), .int .i64 (x8084), .int .i64 (x8085), .int .i64 (x8086)] ∧ w0.heap.size ≤ b8081 ∧ Dj fp6366 [b8081] ∧ Dj fp6371 [b8081] ∧ Dj (fp6376 ++ fr6378) [b8081] ∧ Dj [b6523] [b8081] ∧ Dj [b6526] [b8081] ∧ Chg [] w0 w' ∧ w0.heap.size ≤ w'.heap.size) ?_ ?_
              · have hm := hs8103
                refine cW_drawnTail [] 18 (by kernel_rfl) (by kernel_rfl) (fun w8104 hc8105 => ?_)
                replace F7516 := F7516.chg hc8105 Dj.nil
                replace F7517 := F7517.chg hc8105 Dj.nil
                replace F7518 := F7518.chg hc8105 Dj.nil
                replace F7519 := F7519.chg hc8105 notNil
                replace F7520 := F7520.chg hc8105 notNil
                replace hB := hB.inS hc8105 inNil
                replace hZ := Nat.le_trans hZ hc8105.size
                have hS := Chg.refl [] w8104
                have Z8106 := F7516
                have Z8107 := F7517
                have Z8108 := F7518
                have Z8109 := F7519
                have Z8110 := F7520
                refine wH_take [0] [0] [(96, .slice A6364 (l6363).length cap6365)] (by kernel_rfl) (qT (qT (qT (qB (qL (qB (qT (qT qZ)))))))) (by kernel_rfl) ?_
                refine wH_load1 (i := 1) (d := 97) (T := 3) (ad := ⟨b6523, 0, none⟩) (v := .int .i64 (x7513)) (by kernel_rfl) (qT (qT (qT (qB (qL (qB (qT (qT qZ)))))))) (by kernel_rfl) (by kernel_rfl) vt3 (fun W hW => (Z8109.chg hW notNil).cell 0) ?_
                obtain ⟨x8111, hx8112, hm⟩ := bindE hm
                refine wH_idx (i := 2) (d := 98) (T := 61) (A := A6364) (n := (l6363).length) (cap := cap6365) (kd := .i64) (m := x7513) (by kernel_rfl) (qT (qT (qT (qB (qL (qB (qT (qT qZ)))))))) (by kernel_rfl) (by kernel_rfl) sl61 ((F7516.sl encIIIII_ok).is hx8112) ?_
                refine wH_loadA (i := 3) (d := 99) (T := 27) (ad := (elA A6364 5 (x7513) 0)) (vs := [.int .i64 (x8111.1), .int .i64 (x8111.2.1), .int .i64 (x8111.2.2.1), .int .i64 (x8111.2.2.2.1), .int .i64 (x8111.2.2.2.2)]) (by kernel_rfl) (qT (qT (qT (qB (qL (qB (qT (qT qZ)))))))) (by kernel_rfl) (by kernel_rfl) vt27 (fun W hW i u hu => Sl.cells_at ((Z8106.chg hW Dj.nil).sl encIIIII_ok) hx8112 0 hu (by rfl)) ?_
                refine wH_take [4] [4, 3, 2, 1, 0] [(100, .slice A6364 (l6363).length cap6365)] (by kernel_rfl) (qT (qT (qT (qB (qL (qB (qT (qT qZ)))))))) (by kernel_rfl) ?_
                refine wH_load1 (i := 5) (d := 101) (T := 3) (ad := ⟨b6526, 0, none⟩) (v := .int .i64 (x7514)) (by kernel_rfl) (qT (qT (qT (qB (qL (qB (qT (qT qZ)))))))) (by kernel_rfl) (by kernel_rfl) vt3 (fun W hW => (Z8110.chg hW notNil).cell 0) ?_
                obtain ⟨x8113, hx8114, hm⟩ := bindE hm
                refine wH_idx (i := 6) (d := 102) (T := 61) (A := A6364) (n := (l6363).length) (cap := cap6365) (kd := .i64) (m := x7514) (by kernel_rfl) (qT (qT (qT (qB (qL (qB (qT (qT qZ)))))))) (by kernel_rfl) (by kernel_rfl) sl61 ((F7516.sl encIIIII_ok).is hx8114) ?_
                refine wH_loadA (i := 7) (d := 103) (T := 27) (ad := (elA A6364 5 (x7514) 0)) (vs := [.int .i64 (x8113.1), .int .i64 (x8113.2.1), .int .i64 (x8113.2.2.1), .int .i64 (x8113.2.2.2.1), .int .i64 (x8113.2.2.2.2)]) (by kernel_rfl) (qT (qT (qT (qB (qL (qB (qT (qT qZ)))))))) (by kernel_rfl) (by kernel_rfl) vt27 (fun W hW i u hu => Sl.cells_at ((Z8106.chg hW Dj.nil).sl encIIIII_ok) hx8114 0 hu (by rfl)) ?_
                refine wH_all [8, 14] (by rfl) (by kernel_rfl) (by simp) ⟨⟨by kernel_rfl, ?_⟩, ⟨by kernel_rfl, ?_⟩, trivial⟩
                · skip
                  obtain ⟨y8115, hy8116, hm⟩ := bindE hm
                  refine wS_calls (d := 104) (f := 76) (vs := [.agg #[.int .i64 (x8111.1), .int .i64 (x8111.2.1), .int .i64 (x8111.2.2.1), .int .i64 (x8111.2.2.2.1), .int .i64 (x8111.2.2.2.2)], .agg #[.int .i64 (x8113.1), .int .i64 (x8113.2.1), .int .i64 (x8113.2.2.1), .int .i64 (x8113.2.2.2.1), .int .i64 (x8113.2.2.2.2)]]) (by kernel_rfl) ent76 (c_impl_merge hy8116) ?_
                  rintro _ w8117 ⟨rfl, hc8118⟩
                  replace F7516 := F7516.chg hc8118 Dj.nil
                  replace F7517 := F7517.chg hc8118 Dj.nil
                  replace F7518 := F7518.chg hc8118 Dj.nil
                  replace F7519 := F7519.chg hc8118 notNil
                  replace F7520 := F7520.chg hc8118 notNil
                  replace hB := hB.inS hc8118 inNil
                  have hSz := hS
                  replace hS := hS.inS hc8118 inNil
                  replace hZ := Nat.le_trans hZ hc8118.size
                  refine ⟨.tuple #[.agg #[.int .i64 (y8115.1.1), .int .i64 (y8115.1.2.1), .int .i64 (y8115.1.2.2.1), .int .i64 (y8115.1.2.2.2.1), .int .i64 (y8115.1.2.2.2.2)], .int .i64 (y8115.2.1), .int .i64 (y8115.2.2.1), .bool (y8115.2.2.2)], rfl, ?_⟩
                  refine wS_end (by kernel_rfl) ?_
                  refine eX_KH hS ?_
                  refine wH_take [9, 10, 11, 12, 13] [13, 12, 11, 10, 9, 8, 7, 6, 5, 4, 3, 2, 1, 0] [(108, .bool (y8115.2.2.2)), (107, .int .i64 (y8115.2.2.1)), (106, .int .i64 (y8115.2.1)), (105, .agg #[.int .i64 (y8115.1.1), .int .i64 (y8115.1.2.1), .int .i64 (y8115.1.2.2.1), .int .i64 (y8115.1.2.2.2.1), .int .i64 (y8115.1.2.2.2.2)]), (95, .tuple #[.agg #[.int .i64 (y8115.1.1), .int .i64 (y8115.1.2.1), .int .i64 (y8115.1.2.2.1), .int .i64 (y8115.1.2.2.2.1), .int .i64 (y8115.1.2.2.2.2)], .int .i64 (y8115.2.1), .int .i64 (y8115.2.2.1), .bool (y8115.2.2.2)])] (by kernel_rfl) (qT (qT (qT (qB (qL (qB (qT (qT qZ)))))))) (by kernel_rfl) ?_
                  refine wH_all [14] (by rfl) (by kernel_rfl) (by simp) ⟨⟨by kernel_rfl, ?_⟩, trivial⟩
                  refine wS_alloc (d := 15) (T := 27) (z := .agg #[.int .i64 (0), .int .i64 (0), .int .i64 (0), .int .i64 (0), .int .i64 (0)]) (by kernel_rfl) (by kernel_rfl) ?_
                  intro b8119 w8120 G8121 F8122 hc8123
                  replace F8122 : Cl w8120 b8119 27 [.int .i64 (0), .int .i64 (0), .int .i64 (0), .int .i64 (0), .int .i64 (0)] := F8122
                  have D8125 : Dj fp6366 [b8119] := Dj.of F7516.low (low1 G8121)
                  have D8126 : Dj fp6371 [b8119] := Dj.of F7517.low (low1 G8121)
                  have D8127 : Dj (fp6376 ++ fr6378) [b8119] := Dj.of F7518.low (low1 G8121)
                  have D8128 : Dj [b6523] [b8119] := Dj.of (lt1 F7519.lt) (low1 G8121)
                  have D8129 : Dj [b6526] [b8119] := Dj.of (lt1 F7520.lt) (low1 G8121)
                  replace F7516 := F7516.chg hc8123 Dj.nil
                  replace F7517 := F7517.chg hc8123 Dj.nil
                  replace F7518 := F7518.chg hc8123 Dj.nil
                  replace F7519 := F7519.chg hc8123 notNil
                  replace F7520 := F7520.chg hc8123 notNil
                  replace hB := hB.inS hc8123 inNil
                  have hSz := hS
                  replace hS := hS.inS hc8123 inNil
                  have Gz8130 := low1 (Nat.le_trans hSz.size G8121)
                  replace G8121 := Nat.le_trans hZ G8121
                  replace hZ := Nat.le_trans hZ hc8123.size
                  refine wS_end (by kernel_rfl) ?_
                  refine eX_KH hS ?_
                  refine wH_all [15] (by rfl) (by kernel_rfl) (by simp) ⟨⟨by kernel_rfl, ?_⟩, trivial⟩
                  refine wS_store (T := 27) (g := b8119) (o := 0) (ad := ⟨b8119, 0, none⟩) (v := .agg #[.int .i64 (y8115.1.1), .int .i64 (y8115.1.2.1), .int .i64 (y8115.1.2.2.1), .int .i64 (y8115.1.2.2.2.1), .int .i64 (y8115.1.2.2.2.2)]) (vs := [.int .i64 (y8115.1.1), .int .i64 (y8115.1.2.1), .int .i64 (y8115.1.2.2.1), .int .i64 (y8115.1.2.2.2.1), .int .i64 (y8115.1.2.2.2.2)]) (by kernel_rfl) (by rfl) sz27 (by rfl) (by rfl) F8122 (by simp only [List.length_cons, List.length_nil]; omega) ?_
                  intro w8131 F8132 hc8133
                  replace F7516 := F7516.chg hc8133 D8125
                  replace F7517 := F7517.chg hc8133 D8126
                  replace F7518 := F7518.chg hc8133 D8127
                  replace F7519 := F7519.chg hc8133 (dj1 D8128)
                  replace F7520 := F7520.chg hc8133 (dj1 D8129)
                  replace hB := hB.inS hc8133 (inLow (low1 G8121))
                  have hSz := hS
                  replace hS := hS.inS hc8133 (inLow Gz8130)
                  replace hZ := Nat.le_trans hZ hc8133.size
                  replace F8132 : Cl w8131 b8119 27 [.int .i64 (y8115.1.1), .int .i64 (y8115.1.2.1), .int .i64 (y8115.1.2.2.1), .int .i64 (y8115.1.2.2.2.1), .int .i64 (y8115.1.2.2.2.2)] := F8132
                  clear F8122
                  refine wS_end (by kernel_rfl) ?_
                  refine eX_KH hS ?_
                  refine wH_take [16, 17] [17, 16, 15, 14, 13, 12, 11, 10, 9, 8, 7, 6, 5, 4, 3, 2, 1, 0] [(17, .int .i64 (y8115.2.2.1)), (16, .int .i64 (y8115.2.1))] (by kernel_rfl) (qT (qT (qT (qB (qL (qB (qT (qT qZ)))))))) (by kernel_rfl) ?_
                  refine wH_done (by kernel_rfl) ?_
                  refine eX_tail ?_
                  refine wS_pure 1 [(18, .bool (y8115.2.2.2))] (by kernel_rfl) ?_
                  refine wS_end (by rfl) ?_
                  have hq : (some ((y8115.1.1, y8115.1.2.1, y8115.1.2.2.1, y8115.1.2.2.2.1, y8115.1.2.2.2.2, y8115.2.2.2)) : Option (Int × Int × Int × Int × Int × Bool)) = some _ := hm
                  replace hq := someE hq
                  subst hq
                  exact eX_J (fun hst => ⟨b8119, y8115.1.1, y8115.1.2.1, y8115.1.2.2.1, y8115.1.2.2.2.1, y8115.1.2.2.2.2, y8115.2.2.2, rfl, Fr.of hst (by kernel_rfl), F7516, F7517, F7518, F7519, F7520, F8132, G8121, D8125, D8126, D8127, D8128, D8129, hB, hZ⟩)
                · skip
                  refine wS_alloc (d := 15) (T := 27) (z := .agg #[.int .i64 (0), .int .i64 (0), .int .i64 (0), .int .i64 (0), .int .i64 (0)]) (by kernel_rfl) (by kernel_rfl) ?_
                  intro b8134 w8135 G8136 F8137 hc8138
                  replace F8137 : Cl w8135 b8134 27 [.int .i64 (0), .int .i64 (0), .int .i64 (0), .int .i64 (0), .int .i64 (0)] := F8137
                  have D8140 : Dj fp6366 [b8134] := Dj.of F7516.low (low1 G8136)
                  have D8141 : Dj fp6371 [b8134] := Dj.of F7517.low (low1 G8136)
                  have D8142 : Dj (fp6376 ++ fr6378) [b8134] := Dj.of F7518.low (low1 G8136)
                  have D8143 : Dj [b6523] [b8134] := Dj.of (lt1 F7519.lt) (low1 G8136)
                  have D8144 : Dj [b6526] [b8134] := Dj.of (lt1 F7520.lt) (low1 G8136)
                  replace F7516 := F7516.chg hc8138 Dj.nil
                  replace F7517 := F7517.chg hc8138 Dj.nil
                  replace F7518 := F7518.chg hc8138 Dj.nil
                  replace F7519 := F7519.chg hc8138 notNil
                  replace F7520 := F7520.chg hc8138 notNil
                  replace hB := hB.inS hc8138 inNil
                  have hSz := hS
                  replace hS := hS.inS hc8138 inNil
                  have Gz8145 := low1 (Nat.le_trans hSz.size G8136)
                  replace G8136 := Nat.le_trans hZ G8136
                  replace hZ := Nat.le_trans hZ hc8138.size
                  refine wS_end (by kernel_rfl) ?_
                  refine eX_KH hS ?_
                  refine wH_all [8] (by rfl) (by kernel_rfl) (by simp) ⟨⟨by kernel_rfl, ?_⟩, trivial⟩
                  obtain ⟨y8146, hy8147, hm⟩ := bindE hm
                  refine wS_calls (d := 104) (f := 76) (vs := [.agg #[.int .i64 (x8111.1), .int .i64 (x8111.2.1), .int .i64 (x8111.2.2.1), .int .i64 (x8111.2.2.2.1), .int .i64 (x8111.2.2.2.2)], .agg #[.int .i64 (x8113.1), .int .i64 (x8113.2.1), .int .i64 (x8113.2.2.1), .int .i64 (x8113.2.2.2.1), .int .i64 (x8113.2.2.2.2)]]) (by kernel_rfl) ent76 (c_impl_merge hy8147) ?_
                  rintro _ w8148 ⟨rfl, hc8149⟩
                  replace F7516 := F7516.chg hc8149 Dj.nil
                  replace F7517 := F7517.chg hc8149 Dj.nil
                  replace F7518 := F7518.chg hc8149 Dj.nil
                  replace F7519 := F7519.chg hc8149 notNil
                  replace F7520 := F7520.chg hc8149 notNil
                  replace F8137 := F8137.chg hc8149 notNil
                  replace hB := hB.inS hc8149 inNil
                  have hSz := hS
                  replace hS := hS.inS hc8149 inNil
                  replace hZ := Nat.le_trans hZ hc8149.size
                  refine ⟨.tuple #[.agg #[.int .i64 (y8146.1.1), .int .i64 (y8146.1.2.1), .int .i64 (y8146.1.2.2.1), .int .i64 (y8146.1.2.2.2.1), .int .i64 (y8146.1.2.2.2.2)], .int .i64 (y8146.2.1), .int .i64 (y8146.2.2.1), .bool (y8146.2.2.2)], rfl, ?_⟩
                  refine wS_end (by kernel_rfl) ?_
                  refine eX_KH hS ?_
                  refine wH_take [9, 10, 11, 12, 13] [13, 12, 11, 10, 9, 8, 14, 7, 6, 5, 4, 3, 2, 1, 0] [(108, .bool (y8146.2.2.2)), (107, .int .i64 (y8146.2.2.1)), (106, .int .i64 (y8146.2.1)), (105, .agg #[.int .i64 (y8146.1.1), .int .i64 (y8146.1.2.1), .int .i64 (y8146.1.2.2.1), .int .i64 (y8146.1.2.2.2.1), .int .i64 (y8146.1.2.2.2.2)]), (95, .tuple #[.agg #[.int .i64 (y8146.1.1), .int .i64 (y8146.1.2.1), .int .i64 (y8146.1.2.2.1), .int .i64 (y8146.1.2.2.2.1), .int .i64 (y8146.1.2.2.2.2)], .int .i64 (y8146.2.1), .int .i64 (y8146.2.2.1), .bool (y8146.2.2.2)])] (by kernel_rfl) (qT (qT (qT (qB (qL (qB (qT (qT qZ)))))))) (by kernel_rfl) ?_
                  refine wH_all [15] (by rfl) (by kernel_rfl) (by simp) ⟨⟨by kernel_rfl, ?_⟩, trivial⟩
                  refine wS_store (T := 27) (g := b8134) (o := 0) (ad := ⟨b8134, 0, none⟩) (v := .agg #[.int .i64 (y8146.1.1), .int .i64 (y8146.1.2.1), .int .i64 (y8146.1.2.2.1), .int .i64 (y8146.1.2.2.2.1), .int .i64 (y8146.1.2.2.2.2)]) (vs := [.int .i64 (y8146.1.1), .int .i64 (y8146.1.2.1), .int .i64 (y8146.1.2.2.1), .int .i64 (y8146.1.2.2.2.1), .int .i64 (y8146.1.2.2.2.2)]) (by kernel_rfl) (by rfl) sz27 (by rfl) (by rfl) F8137 (by simp only [List.length_cons, List.length_nil]; omega) ?_
                  intro w8150 F8151 hc8152
                  replace F7516 := F7516.chg hc8152 D8140
                  replace F7517 := F7517.chg hc8152 D8141
                  replace F7518 := F7518.chg hc8152 D8142
                  replace F7519 := F7519.chg hc8152 (dj1 D8143)
                  replace F7520 := F7520.chg hc8152 (dj1 D8144)
                  replace hB := hB.inS hc8152 (inLow (low1 G8136))
                  have hSz := hS
                  replace hS := hS.inS hc8152 (inLow Gz8145)
                  replace hZ := Nat.le_trans hZ hc8152.size
                  replace F8151 : Cl w8150 b8134 27 [.int .i64 (y8146.1.1), .int .i64 (y8146.1.2.1), .int .i64 (y8146.1.2.2.1), .int .i64 (y8146.1.2.2.2.1), .int .i64 (y8146.1.2.2.2.2)] := F8151
                  clear F8137
                  refine wS_end (by kernel_rfl) ?_
                  refine eX_KH hS ?_
                  refine wH_take [16, 17] [17, 16, 15, 13, 12, 11, 10, 9, 8, 14, 7, 6, 5, 4, 3, 2, 1, 0] [(17, .int .i64 (y8146.2.2.1)), (16, .int .i64 (y8146.2.1))] (by kernel_rfl) (qT (qT (qT (qB (qL (qB (qT (qT qZ)))))))) (by kernel_rfl) ?_
                  refine wH_done (by kernel_rfl) ?_
                  refine eX_tail ?_
                  refine wS_pure 1 [(18, .bool (y8146.2.2.2))] (by kernel_rfl) ?_
                  refine wS_end (by rfl) ?_
                  have hq : (some ((y8146.1.1, y8146.1.2.1, y8146.1.2.2.1, y8146.1.2.2.2.1, y8146.1.2.2.2.2, y8146.2.2.2)) : Option (Int × Int × Int × Int × Int × Bool)) = some _ := hm
                  replace hq := someE hq
                  subst hq
                  exact eX_J (fun hst => ⟨b8134, y8146.1.1, y8146.1.2.1, y8146.1.2.2.1, y8146.1.2.2.2.1, y8146.1.2.2.2.2, y8146.2.2.2, rfl, Fr.of hst (by kernel_rfl), F7516, F7517, F7518, F7519, F7520, F8151, G8136, D8140, D8141, D8142, D8143, D8144, hB, hZ⟩)
              · rintro a' w8080 ⟨b8081, x8082, x8083, x8084, x8085, x8086, x8088, hJ, hF8089, F8090, F8091, F8092, F8093, F8094, F8095, G8096, D8097, D8098, D8099, D8100, D8101, hB, hZ⟩
                subst hJ
                refine Fr.goX hF8089 (by kernel_rfl) ?_
                refine eX_then ?_
                refine cW_seq ?_
                refine cW_seq ?_
                refine cW_region ?_
                refine wS_pure 2 [(110, .bool (!x8088)), (109, .bool (x8088))] (by kernel_rfl) ?_
                refine wS_end (by rfl) ?_
                refine eX_then ?_
                refine cW_cond (t := !x8088) (by kernel_rfl) (fun hb8153 => ?_) (fun hb8153 => ?_)
                · have hm := condT hb8153 hm
                  refine cW_seq ?_
                  refine cW_region ?_
                  refine wS_pure 2 [(3, .bool (false)), (2, .slice none 0 0)] (by kernel_rfl) ?_
                  refine wS_end (by rfl) ?_
                  refine eX_then ?_
                  refine cW_ret ?_
                  refine eX_then_ret ?_
                  refine eX_block_ret ?_
                  have hq : (some (Ctl.out (Sum.inr (([], false)))) : Option (Ctl ((List (Int × Int × Int × Int × Int)) × (List (Int)) × (List (List (Int)))) (Sum ((List (List (Int)))) ((List (List (Int))) × (Bool))))) = some _ := hm
                  replace hq := someE hq
                  subst hq
                  refine eX_outR hx6394 (fun hr => ?_)
                  subst hr
                  refine eX_block_ret ?_
                  refine eX_then_ret ?_
                  refine eX_then_ret ?_
                  have hq : (some (([], false)) : Option ((List (List (Int))) × (Bool))) = some _ := hm6391
                  replace hq := someE hq
                  subst hq
                  refine eX_ret (vs := [.slice none 0 0, .bool (false)]) [.tmp 2, .tmp 3] (by rfl) ⟨by (show lkE _ _ _ = _); kernel_rfl, ⟨by (show lkE _ _ _ = _); kernel_rfl, trivial⟩⟩ ?_
                  exact ⟨none, 0, [], [], rfl, OwR.nil _, (lowApp lowNil lowNil), hB⟩
                · have hm := condF hb8153 hm
                  refine cW_skip ?_
                  refine eX_then ?_
                  refine cW_seq ?_
                  refine cW_region ?_
                  refine wS_pure 2 [(112, .func (.func 105) #[] #[.pointer (some ⟨b6523, 0, none⟩), .pointer (some ⟨b6526, 0, none⟩)]), (111, .slice A6369 (l6368).length cap6370)] (by kernel_rfl) ?_
                  obtain ⟨y8154, hy8155, hm⟩ := bindE hm
                  refine wS_calls (d := 113) (f := 104) (vs := [.slice A6369 (l6368).length cap6370, .func (.func 105) #[] #[.pointer (some ⟨b6523, 0, none⟩), .pointer (some ⟨b6526, 0, none⟩)]]) (by kernel_rfl) ent104 (c_slices_DeleteFunc_int_int_impl_NearestJoins_1_bint_bint hy8155 F8091 F8091.cap_le F8093 F8094 D6538 D6542) ?_
                  rintro _ w8156 ⟨rfl, F8158, hc8157⟩
                  replace F8090 := F8090.chg hc8157 (Dj.app (D6386).symm Dj.nil)
                  replace F8092 := F8092.chg hc8157 (Dj.app D6388 Dj.nil)
                  replace F8093 := F8093.chg hc8157 (dj1 (Dj.app (D6538).symm Dj.nil))
                  replace F8094 := F8094.chg hc8157 (dj1 (Dj.app (D6542).symm Dj.nil))
                  replace F8095 := F8095.chg hc8157 (dj1 (Dj.app (D8098).symm Dj.nil))
                  replace hB := hB.inS hc8157 (inApp (inLow G6384) inNil)
                  clear F8091
                  replace hZ := Nat.le_trans hZ hc8157.size
                  refine ⟨.slice A6369 (y8154).length cap6370, rfl, ?_⟩
                  refine wS_pure 2 [(115, .int .i64 (((l6363).length : Int))), (114, .slice A6364 (l6363).length cap6365)] (by kernel_rfl) ?_
                  refine wS_bs (enc := encI) ([((l6363).length : Int)] : List (Int)) [.int .i64 (((l6363).length : Int))] (d := 116) (t := 108) (T := 3) (n := 1) (ps := [(0, .int .i64 (((l6363).length : Int)))]) (by kernel_rfl) el108 encI_ok (by rfl) (by omega) (by omega) (by kernel_rfl) (by rfl) ?_
                  intro b8159 w8160 G8161 F8162 hc8163
                  have D8165 : Dj fp6366 [b8159] := Dj.of F8090.low (low1 G8161)
                  have D8166 : Dj fp6371 [b8159] := Dj.of F8158.low (low1 G8161)
                  have D8167 : Dj (fp6376 ++ fr6378) [b8159] := Dj.of F8092.low (low1 G8161)
                  have D8168 : Dj [b6523] [b8159] := Dj.of (lt1 F8093.lt) (low1 G8161)
                  have D8169 : Dj [b6526] [b8159] := Dj.of (lt1 F8094.lt) (low1 G8161)
                  have D8170 : Dj [b8081] [b8159] := Dj.of (lt1 F8095.lt) (low1 G8161)
                  replace F8090 := F8090.chg hc8163 Dj.nil
                  replace F8158 := F8158.chg hc8163 Dj.nil
                  replace F8092 := F8092.chg hc8163 Dj.nil
                  replace F8093 := F8093.chg hc8163 notNil
                  replace F8094 := F8094.chg hc8163 notNil
                  replace F8095 := F8095.chg hc8163 notNil
                  replace hB := hB.inS hc8163 inNil
                  replace G8161 := Nat.le_trans hZ G8161
                  replace G8161 := low1 G8161
                  replace hZ := Nat.le_trans hZ hc8163.size
                  obtain ⟨_, hk8171, hm⟩ := bindE hm
                  replace hk8171 := apE hk8171
                  refine wS_append (enc := encI) (l := (y8154 : List (Int))) (l2 := (([((l6363).length : Int)] : List (Int)) : List (Int))) (d := 117) (t := 108) (T := 3) (A := A6369) (A2 := (some ⟨b8159, 0, none⟩)) (cap := cap6370) (cap2 := 1) (by kernel_rfl) el108 encI_ok F8158 (F8162.sl encI_ok) (by rfl) hk8171 ?_
                  intro w8172 fp8173 A8174 cap8175 F8176 hc8177 hp8178
                  have G8180 := low_ap G6384 hZ hp8178
                  have D8181 : Dj fp6366 fp8173 := Dj.ap (D6386).symm F8090.low hp8178
                  have D8182 : Dj (fp6376 ++ fr6378) fp8173 := Dj.ap D6388 F8092.low hp8178
                  have D8183 : Dj [b6523] fp8173 := Dj.ap (D6538).symm (lt1 F8093.lt) hp8178
                  have D8184 : Dj [b6526] fp8173 := Dj.ap (D6542).symm (lt1 F8094.lt) hp8178
                  have D8185 : Dj [b8081] fp8173 := Dj.ap (D8098).symm (lt1 F8095.lt) hp8178
                  have D8186 : Dj [b8159] fp8173 := Dj.ap (D8166).symm F8162.low hp8178
                  replace F8090 := F8090.chg hc8177 (D6386).symm
                  replace F8092 := F8092.chg hc8177 D6388
                  replace F8093 := F8093.chg hc8177 (dj1 (D6538).symm)
                  replace F8094 := F8094.chg hc8177 (dj1 (D6542).symm)
                  replace F8095 := F8095.chg hc8177 (dj1 (D8098).symm)
                  replace F8162 := F8162.chg hc8177 (D8166).symm
                  replace hB := hB.inS hc8177 (inLow G6384)
                  replace hZ := Nat.le_trans hZ hc8177.size
                  refine wS_pure 1 [(5, .slice A8174 (y8154 ++ (([((l6363).length : Int)] : List (Int)))).length cap8175)] (by kernel_rfl) ?_
                  refine wS_end (by rfl) ?_
                  refine eX_then ?_
                  obtain ⟨s9000, hs9001, hm⟩ := bindE hm
                  refine cW_cut (fun a' w' => ∃ l8980 : List (Int × Int × Int × Int × Int), ∃ A8981 : Option Addr, ∃ cap8982 : Nat, ∃ fp8983 : List Nat, ∃ l8985 : List (List (Int)), ∃ A8986 : Option Addr, ∃ cap8987 : Nat, ∃ fp8988 : List Nat, ∃ fr8990 : List Nat, (l8980, l8985) = s9000 ∧ Fr 129 [(4, .slice A8981 (l8980).length cap8982), (5, .slice A8174 (y8154 ++ (([((l6363).length : Int)] : List (Int)))).length cap8175), (6, .slice A8986 (l8985).length cap8987)] a' ∧ Ow 1 encI 3 w' fp8173 A8174 cap8175 (y8154 ++ (([((l6363).length : Int)] : List (Int)))) ∧ Ow 5 encIIIII 27 w' fp8983 A8981 cap8982 l8980 ∧ OwR 1 encI 38 2 w' fp8988 fr8990 A8986 cap8987 l8985 ∧ (∀ x ∈ fp8983, w0.heap.size ≤ x) ∧ (∀ x ∈ (fp8988 ++ fr8990), w0.heap.size ≤ x) ∧ Dj fp8173 fp8983 ∧ Dj (fp8988 ++ fr8990) fp8983 ∧ Dj fp8173 (fp8988 ++ fr8990) ∧ Chg [] w0 w' ∧ w0.heap.size ≤ w'.heap.size) ?_ ?_
                  · have hm := hs9001
                    refine cW_drawnTail fp6366 9 (by kernel_rfl) (by kernel_rfl) (fun w9002 hc9003 => ?_)
                    replace F8090 := F8090.chg hc9003 Dj.nil
                    replace F8092 := F8092.chg hc9003 Dj.nil
                    replace F8093 := F8093.chg hc9003 notNil
                    replace F8094 := F8094.chg hc9003 notNil
                    replace F8095 := F8095.chg hc9003 notNil
                    replace F8162 := F8162.chg hc9003 Dj.nil
                    replace F8176 := F8176.chg hc9003 Dj.nil
                    replace hB := hB.inS hc9003 inNil
                    replace hZ := Nat.le_trans hZ hc9003.size
                    have hS := Chg.refl fp6366 w9002
                    have Z9004 := F8090
                    have Z9005 := F8092
                    have Z9006 := F8093
                    have Z9007 := F8094
                    have Z9008 := F8095
                    have Z9009 := F8162
                    have Z9010 := F8176
                    refine wH_take [0] [0] [(118, .slice A6364 (l6363).length cap6365)] (by kernel_rfl) (qT (qT (qB (qL (qB (qT (qT qZ))))))) (by kernel_rfl) ?_
                    refine wH_loadA (i := 1) (d := 119) (T := 27) (ad := ⟨b8081, 0, none⟩) (vs := [.int .i64 (x8082), .int .i64 (x8083), .int .i64 (x8084), .int .i64 (x8085), .int .i64 (x8086)]) (by kernel_rfl) (qT (qT (qB (qL (qB (qT (qT qZ))))))) (by kernel_rfl) (by kernel_rfl) vt27 (fun W hW i u hu => box_cells (Z9008.chg hW (dj1 (D8097).symm)) 0 hu (by rfl)) ?_
                    refine wH_take [4] [4, 1, 0] [(122, .slice A6374 (l6373).length cap6375)] (by kernel_rfl) (qT (qT (qB (qL (qB (qT (qT qZ))))))) (by kernel_rfl) ?_
                    refine wH_load1 (i := 5) (d := 123) (T := 3) (ad := ⟨b6523, 0, none⟩) (v := .int .i64 (x7513)) (by kernel_rfl) (qT (qT (qB (qL (qB (qT (qT qZ))))))) (by kernel_rfl) (by kernel_rfl) vt3 (fun W hW => (Z9006.chg hW (dj1 (D6537).symm)).cell 0) ?_
                    refine wH_load1 (i := 6) (d := 124) (T := 3) (ad := ⟨b6526, 0, none⟩) (v := .int .i64 (x7514)) (by kernel_rfl) (qT (qT (qB (qL (qB (qT (qT qZ))))))) (by kernel_rfl) (by kernel_rfl) vt3 (fun W hW => (Z9007.chg hW (dj1 (D6541).symm)).cell 0) ?_
                    refine wH_all [2, 7] (by rfl) (by kernel_rfl) (by simp) ⟨⟨by kernel_rfl, ?_⟩, ⟨by kernel_rfl, ?_⟩, trivial⟩
                    · skip
                      refine wS_bs (enc := encIIIII) ([(x8082, x8083, x8084, x8085, x8086)] : List (Int × Int × Int × Int × Int)) [.int .i64 (x8082), .int .i64 (x8083), .int .i64 (x8084), .int .i64 (x8085), .int .i64 (x8086)] (d := 120) (t := 61) (T := 27) (n := 1) (ps := [(0, .agg #[.int .i64 (x8082), .int .i64 (x8083), .int .i64 (x8084), .int .i64 (x8085), .int .i64 (x8086)])]) (by kernel_rfl) el61 encIIIII_ok (by rfl) (by omega) (by omega) (by kernel_rfl) (by rfl) ?_
                      intro b9011 w9012 G9013 F9014 hc9015
                      have D9017 : Dj fp6366 [b9011] := Dj.of F8090.low (low1 G9013)
                      have D9018 : Dj (fp6376 ++ fr6378) [b9011] := Dj.of F8092.low (low1 G9013)
                      have D9019 : Dj [b6523] [b9011] := Dj.of (lt1 F8093.lt) (low1 G9013)
                      have D9020 : Dj [b6526] [b9011] := Dj.of (lt1 F8094.lt) (low1 G9013)
                      have D9021 : Dj [b8081] [b9011] := Dj.of (lt1 F8095.lt) (low1 G9013)
                      have D9022 : Dj [b8159] [b9011] := Dj.of F8162.low (low1 G9013)
                      have D9023 : Dj fp8173 [b9011] := Dj.of F8176.low (low1 G9013)
                      replace F8090 := F8090.chg hc9015 Dj.nil
                      replace F8092 := F8092.chg hc9015 Dj.nil
                      replace F8093 := F8093.chg hc9015 notNil
                      replace F8094 := F8094.chg hc9015 notNil
                      replace F8095 := F8095.chg hc9015 notNil
                      replace F8162 := F8162.chg hc9015 Dj.nil
                      replace F8176 := F8176.chg hc9015 Dj.nil
                      replace hB := hB.inS hc9015 inNil
                      have hSz := hS
                      replace hS := hS.inS hc9015 inNil
                      have Gz9024 := low1 (Nat.le_trans hSz.size G9013)
                      replace G9013 := Nat.le_trans hZ G9013
                      replace G9013 := low1 G9013
                      replace hZ := Nat.le_trans hZ hc9015.size
                      refine wS_end (by kernel_rfl) ?_
                      refine eX_KH hS ?_
                      refine wH_all [3, 7] (by rfl) (by kernel_rfl) (by simp) ⟨⟨by kernel_rfl, ?_⟩, ⟨by kernel_rfl, ?_⟩, trivial⟩
                      · skip
                        obtain ⟨_, hk9025, hm⟩ := bindE hm
                        replace hk9025 := apE hk9025
                        refine wS_append (enc := encIIIII) (l := (l6363 : List (Int × Int × Int × Int × Int))) (l2 := (([(x8082, x8083, x8084, x8085, x8086)] : List (Int × Int × Int × Int × Int)) : List (Int × Int × Int × Int × Int))) (d := 121) (t := 61) (T := 27) (A := A6364) (A2 := (some ⟨b9011, 0, none⟩)) (cap := cap6365) (cap2 := 1) (by kernel_rfl) el61 encIIIII_ok F8090 (F9014.sl encIIIII_ok) (by rfl) hk9025 ?_
                        intro w9026 fp9027 A9028 cap9029 F9030 hc9031 hp9032
                        have G9034 := low_ap G6383 hZ hp9032
                        have D9035 : Dj (fp6376 ++ fr6378) fp9027 := Dj.ap D6387 F8092.low hp9032
                        have D9036 : Dj [b6523] fp9027 := Dj.ap (D6537).symm (lt1 F8093.lt) hp9032
                        have D9037 : Dj [b6526] fp9027 := Dj.ap (D6541).symm (lt1 F8094.lt) hp9032
                        have D9038 : Dj [b8081] fp9027 := Dj.ap (D8097).symm (lt1 F8095.lt) hp9032
                        have D9039 : Dj [b8159] fp9027 := Dj.ap (D8165).symm F8162.low hp9032
                        have D9040 : Dj fp8173 fp9027 := Dj.ap (D8181).symm F8176.low hp9032
                        have D9041 : Dj [b9011] fp9027 := Dj.ap (D9017).symm F9014.low hp9032
                        replace F8092 := F8092.chg hc9031 D6387
                        replace F8093 := F8093.chg hc9031 (dj1 (D6537).symm)
                        replace F8094 := F8094.chg hc9031 (dj1 (D6541).symm)
                        replace F8095 := F8095.chg hc9031 (dj1 (D8097).symm)
                        replace F8162 := F8162.chg hc9031 (D8165).symm
                        replace F8176 := F8176.chg hc9031 (D8181).symm
                        replace F9014 := F9014.chg hc9031 (D9017).symm
                        replace hB := hB.inS hc9031 (inLow G6383)
                        have hSz := hS
                        replace hS := hS.trans hc9031
                        have Sn9042 := sin_ap (inMem (fun x hx => hx)) hSz.size hp9032
                        replace hZ := Nat.le_trans hZ hc9031.size
                        refine wS_end (by kernel_rfl) ?_
                        refine eX_KH hS ?_
                        refine wH_all [7] (by rfl) (by kernel_rfl) (by simp) ⟨⟨by kernel_rfl, ?_⟩, trivial⟩
                        refine wS_bs (enc := encI) ([x7513, x7514] : List (Int)) [.int .i64 (x7513), .int .i64 (x7514)] (d := 125) (t := 38) (T := 2) (n := 2) (ps := [(0, .int .i64 (x7513)), (1, .int .i64 (x7514))]) (by kernel_rfl) el38 encI_ok (by rfl) (by omega) (by omega) (by kernel_rfl) (by rfl) ?_
                        intro b9043 w9044 G9045 F9046 hc9047
                        have D9049 : Dj (fp6376 ++ fr6378) [b9043] := Dj.of F8092.low (low1 G9045)
                        have D9050 : Dj [b6523] [b9043] := Dj.of (lt1 F8093.lt) (low1 G9045)
                        have D9051 : Dj [b6526] [b9043] := Dj.of (lt1 F8094.lt) (low1 G9045)
                        have D9052 : Dj [b8081] [b9043] := Dj.of (lt1 F8095.lt) (low1 G9045)
                        have D9053 : Dj [b8159] [b9043] := Dj.of F8162.low (low1 G9045)
                        have D9054 : Dj fp8173 [b9043] := Dj.of F8176.low (low1 G9045)
                        have D9055 : Dj [b9011] [b9043] := Dj.of F9014.low (low1 G9045)
                        have D9056 : Dj fp9027 [b9043] := Dj.of F9030.low (low1 G9045)
                        replace F8092 := F8092.chg hc9047 Dj.nil
                        replace F8093 := F8093.chg hc9047 notNil
                        replace F8094 := F8094.chg hc9047 notNil
                        replace F8095 := F8095.chg hc9047 notNil
                        replace F8162 := F8162.chg hc9047 Dj.nil
                        replace F8176 := F8176.chg hc9047 Dj.nil
                        replace F9014 := F9014.chg hc9047 Dj.nil
                        replace F9030 := F9030.chg hc9047 Dj.nil
                        replace hB := hB.inS hc9047 inNil
                        have hSz := hS
                        replace hS := hS.inS hc9047 inNil
                        have Gz9057 := low1 (Nat.le_trans hSz.size G9045)
                        replace G9045 := Nat.le_trans hZ G9045
                        replace G9045 := low1 G9045
                        replace hZ := Nat.le_trans hZ hc9047.size
                        refine wS_end (by kernel_rfl) ?_
                        refine eX_KH hS ?_
                        refine wH_all [8] (by rfl) (by kernel_rfl) (by simp) ⟨⟨by kernel_rfl, ?_⟩, trivial⟩
                        refine wS_row1 (k := 1) (enc := encI) (l := ([x7513, x7514] : List (Int))) (d := 126) (t := 37) (T := 38) (B := (some ⟨b9043, 0, none⟩)) (c := 2) (by kernel_rfl) el37 F9046 ?_
                        intro b9058 w9059 G9060 F9061 hc9062
                        have D9064 : Dj (fp6376 ++ fr6378) ([b9058] ++ [b9043]) := Dj.app (Dj.of F8092.low (low1 G9060)) D9049
                        have D9065 : Dj [b6523] ([b9058] ++ [b9043]) := Dj.app (Dj.of (lt1 F8093.lt) (low1 G9060)) D9050
                        have D9066 : Dj [b6526] ([b9058] ++ [b9043]) := Dj.app (Dj.of (lt1 F8094.lt) (low1 G9060)) D9051
                        have D9067 : Dj [b8081] ([b9058] ++ [b9043]) := Dj.app (Dj.of (lt1 F8095.lt) (low1 G9060)) D9052
                        have D9068 : Dj [b8159] ([b9058] ++ [b9043]) := Dj.app (Dj.of F8162.low (low1 G9060)) D9053
                        have D9069 : Dj fp8173 ([b9058] ++ [b9043]) := Dj.app (Dj.of F8176.low (low1 G9060)) D9054
                        have D9070 : Dj [b9011] ([b9058] ++ [b9043]) := Dj.app (Dj.of F9014.low (low1 G9060)) D9055
                        have D9071 : Dj fp9027 ([b9058] ++ [b9043]) := Dj.app (Dj.of F9030.low (low1 G9060)) D9056
                        replace F8092 := F8092.chg hc9062 Dj.nil
                        replace F8093 := F8093.chg hc9062 notNil
                        replace F8094 := F8094.chg hc9062 notNil
                        replace F8095 := F8095.chg hc9062 notNil
                        replace F8162 := F8162.chg hc9062 Dj.nil
                        replace F8176 := F8176.chg hc9062 Dj.nil
                        replace F9014 := F9014.chg hc9062 Dj.nil
                        replace F9030 := F9030.chg hc9062 Dj.nil
                        replace F9046 := F9046.chg hc9062 Dj.nil
                        replace hB := hB.inS hc9062 inNil
                        have hSz := hS
                        replace hS := hS.inS hc9062 inNil
                        replace G9060 := Nat.le_trans hZ G9060
                        replace G9060 := lowApp (low1 G9060) G9045
                        replace hZ := Nat.le_trans hZ hc9062.size
                        replace F9046 := (F9046.sl encI_ok)
                        refine wS_end (by kernel_rfl) ?_
                        refine eX_KH hS ?_
                        refine wH_done (by kernel_rfl) ?_
                        refine eX_tail ?_
                        obtain ⟨_, hk9072, hm⟩ := bindE hm
                        replace hk9072 := apE hk9072
                        refine wS_appendR (k := 1) (enc := encI) (ll := (l6373 : List (List (Int)))) (ll2 := (([([x7513, x7514] : List (Int))] : List (List (Int))) : List (List (Int)))) (d := 127) (t := 37) (T := 38) (A := A6374) (A2 := (some ⟨b9058, 0, none⟩)) (cap := cap6375) (cap2 := 1) (by kernel_rfl) el37 F8092 F9061 (by rfl) D9064 hk9072 ?_
                        intro w9073 fp9074 A9075 cap9076 F9077 hc9078 hp9079
                        have G9081 := lowApp (low_ap (low_inl G6385) hZ hp9079) (lowApp (low_inr G6385) (low_inr G9060))
                        have D9082 : Dj [b6523] (fp9074 ++ (fr6378 ++ [b9043])) := Dj.app (Dj.ap (Dj.inl (D6539).symm) (lt1 F8093.lt) hp9079) (Dj.app (Dj.inr (D6539).symm) (Dj.inr D9065))
                        have D9083 : Dj [b6526] (fp9074 ++ (fr6378 ++ [b9043])) := Dj.app (Dj.ap (Dj.inl (D6543).symm) (lt1 F8094.lt) hp9079) (Dj.app (Dj.inr (D6543).symm) (Dj.inr D9066))
                        have D9084 : Dj [b8081] (fp9074 ++ (fr6378 ++ [b9043])) := Dj.app (Dj.ap (Dj.inl (D8099).symm) (lt1 F8095.lt) hp9079) (Dj.app (Dj.inr (D8099).symm) (Dj.inr D9067))
                        have D9085 : Dj [b8159] (fp9074 ++ (fr6378 ++ [b9043])) := Dj.app (Dj.ap (Dj.inl (D8167).symm) F8162.low hp9079) (Dj.app (Dj.inr (D8167).symm) (Dj.inr D9068))
                        have D9086 : Dj fp8173 (fp9074 ++ (fr6378 ++ [b9043])) := Dj.app (Dj.ap (Dj.inl (D8182).symm) F8176.low hp9079) (Dj.app (Dj.inr (D8182).symm) (Dj.inr D9069))
                        have D9087 : Dj [b9011] (fp9074 ++ (fr6378 ++ [b9043])) := Dj.app (Dj.ap (Dj.inl (D9018).symm) F9014.low hp9079) (Dj.app (Dj.inr (D9018).symm) (Dj.inr D9070))
                        have D9088 : Dj fp9027 (fp9074 ++ (fr6378 ++ [b9043])) := Dj.app (Dj.ap (Dj.inl (D9035).symm) F9030.low hp9079) (Dj.app (Dj.inr (D9035).symm) (Dj.inr D9071))
                        replace F8093 := F8093.chg hc9078 (dj1 (Dj.inl (D6539).symm))
                        replace F8094 := F8094.chg hc9078 (dj1 (Dj.inl (D6543).symm))
                        replace F8095 := F8095.chg hc9078 (dj1 (Dj.inl (D8099).symm))
                        replace F8162 := F8162.chg hc9078 (Dj.inl (D8167).symm)
                        replace F8176 := F8176.chg hc9078 (Dj.inl (D8182).symm)
                        replace F9014 := F9014.chg hc9078 (Dj.inl (D9018).symm)
                        replace F9030 := F9030.chg hc9078 (Dj.inl (D9035).symm)
                        replace hB := hB.inS hc9078 (memS_inl (inLow G6385))
                        replace hZ := Nat.le_trans hZ hc9078.size
                        refine wS_pure 2 [(6, .slice A9075 (l6373 ++ (([([x7513, x7514] : List (Int))] : List (List (Int))))).length cap9076), (4, .slice A9028 (l6363 ++ (([(x8082, x8083, x8084, x8085, x8086)] : List (Int × Int × Int × Int × Int)))).length cap9029)] (by kernel_rfl) ?_
                        refine wS_end (by rfl) ?_
                        have hq : (some ((l6363 ++ (([(x8082, x8083, x8084, x8085, x8086)] : List (Int × Int × Int × Int × Int))), l6373 ++ (([([x7513, x7514] : List (Int))] : List (List (Int)))))) : Option ((List (Int × Int × Int × Int × Int)) × (List (List (Int))))) = some _ := hm
                        replace hq := someE hq
                        subst hq
                        exact eX_J (fun hst => ⟨l6363 ++ (([(x8082, x8083, x8084, x8085, x8086)] : List (Int × Int × Int × Int × Int))), A9028, cap9029, fp9027, l6373 ++ (([([x7513, x7514] : List (Int))] : List (List (Int)))), A9075, cap9076, fp9074, (fr6378 ++ [b9043]), rfl, Fr.of hst (by kernel_rfl), F8176, F9030, F9077, G9034, G9081, D9040, (D9088).symm, D9086, hB, hZ⟩)
                      · skip
                        refine wS_bs (enc := encI) ([x7513, x7514] : List (Int)) [.int .i64 (x7513), .int .i64 (x7514)] (d := 125) (t := 38) (T := 2) (n := 2) (ps := [(0, .int .i64 (x7513)), (1, .int .i64 (x7514))]) (by kernel_rfl) el38 encI_ok (by rfl) (by omega) (by omega) (by kernel_rfl) (by rfl) ?_
                        intro b9089 w9090 G9091 F9092 hc9093
                        have D9095 : Dj fp6366 [b9089] := Dj.of F8090.low (low1 G9091)
                        have D9096 : Dj (fp6376 ++ fr6378) [b9089] := Dj.of F8092.low (low1 G9091)
                        have D9097 : Dj [b6523] [b9089] := Dj.of (lt1 F8093.lt) (low1 G9091)
                        have D9098 : Dj [b6526] [b9089] := Dj.of (lt1 F8094.lt) (low1 G9091)
                        have D9099 : Dj [b8081] [b9089] := Dj.of (lt1 F8095.lt) (low1 G9091)
                        have D9100 : Dj [b8159] [b9089] := Dj.of F8162.low (low1 G9091)
                        have D9101 : Dj fp8173 [b9089] := Dj.of F8176.low (low1 G9091)
                        have D9102 : Dj [b9011] [b9089] := Dj.of F9014.low (low1 G9091)
                        replace F8090 := F8090.chg hc9093 Dj.nil
                        replace F8092 := F8092.chg hc9093 Dj.nil
                        replace F8093 := F8093.chg hc9093 notNil
                        replace F8094 := F8094.chg hc9093 notNil
                        replace F8095 := F8095.chg hc9093 notNil
                        replace F8162 := F8162.chg hc9093 Dj.nil
                        replace F8176 := F8176.chg hc9093 Dj.nil
                        replace F9014 := F9014.chg hc9093 Dj.nil
                        replace hB := hB.inS hc9093 inNil
                        have hSz := hS
                        replace hS := hS.inS hc9093 inNil
                        have Gz9103 := low1 (Nat.le_trans hSz.size G9091)
                        replace G9091 := Nat.le_trans hZ G9091
                        replace G9091 := low1 G9091
                        replace hZ := Nat.le_trans hZ hc9093.size
                        refine wS_end (by kernel_rfl) ?_
                        refine eX_KH hS ?_
                        refine wH_all [3, 8] (by rfl) (by kernel_rfl) (by simp) ⟨⟨by kernel_rfl, ?_⟩, ⟨by kernel_rfl, ?_⟩, trivial⟩
                        · skip
                          obtain ⟨_, hk9104, hm⟩ := bindE hm
                          replace hk9104 := apE hk9104
                          refine wS_append (enc := encIIIII) (l := (l6363 : List (Int × Int × Int × Int × Int))) (l2 := (([(x8082, x8083, x8084, x8085, x8086)] : List (Int × Int × Int × Int × Int)) : List (Int × Int × Int × Int × Int))) (d := 121) (t := 61) (T := 27) (A := A6364) (A2 := (some ⟨b9011, 0, none⟩)) (cap := cap6365) (cap2 := 1) (by kernel_rfl) el61 encIIIII_ok F8090 (F9014.sl encIIIII_ok) (by rfl) hk9104 ?_
                          intro w9105 fp9106 A9107 cap9108 F9109 hc9110 hp9111
                          have G9113 := low_ap G6383 hZ hp9111
                          have D9114 : Dj (fp6376 ++ fr6378) fp9106 := Dj.ap D6387 F8092.low hp9111
                          have D9115 : Dj [b6523] fp9106 := Dj.ap (D6537).symm (lt1 F8093.lt) hp9111
                          have D9116 : Dj [b6526] fp9106 := Dj.ap (D6541).symm (lt1 F8094.lt) hp9111
                          have D9117 : Dj [b8081] fp9106 := Dj.ap (D8097).symm (lt1 F8095.lt) hp9111
                          have D9118 : Dj [b8159] fp9106 := Dj.ap (D8165).symm F8162.low hp9111
                          have D9119 : Dj fp8173 fp9106 := Dj.ap (D8181).symm F8176.low hp9111
                          have D9120 : Dj [b9011] fp9106 := Dj.ap (D9017).symm F9014.low hp9111
                          have D9121 : Dj [b9089] fp9106 := Dj.ap (D9095).symm F9092.low hp9111
                          replace F8092 := F8092.chg hc9110 D6387
                          replace F8093 := F8093.chg hc9110 (dj1 (D6537).symm)
                          replace F8094 := F8094.chg hc9110 (dj1 (D6541).symm)
                          replace F8095 := F8095.chg hc9110 (dj1 (D8097).symm)
                          replace F8162 := F8162.chg hc9110 (D8165).symm
                          replace F8176 := F8176.chg hc9110 (D8181).symm
                          replace F9014 := F9014.chg hc9110 (D9017).symm
                          replace F9092 := F9092.chg hc9110 (D9095).symm
                          replace hB := hB.inS hc9110 (inLow G6383)
                          have hSz := hS
                          replace hS := hS.trans hc9110
                          have Sn9122 := sin_ap (inMem (fun x hx => hx)) hSz.size hp9111
                          replace hZ := Nat.le_trans hZ hc9110.size
                          refine wS_end (by kernel_rfl) ?_
                          refine eX_KH hS ?_
                          refine wH_all [8] (by rfl) (by kernel_rfl) (by simp) ⟨⟨by kernel_rfl, ?_⟩, trivial⟩
                          refine wS_row1 (k := 1) (enc := encI) (l := ([x7513, x7514] : List (Int))) (d := 126) (t := 37) (T := 38) (B := (some ⟨b9089, 0, none⟩)) (c := 2) (by kernel_rfl) el37 F9092 ?_
                          intro b9123 w9124 G9125 F9126 hc9127
                          have D9129 : Dj (fp6376 ++ fr6378) ([b9123] ++ [b9089]) := Dj.app (Dj.of F8092.low (low1 G9125)) D9096
                          have D9130 : Dj [b6523] ([b9123] ++ [b9089]) := Dj.app (Dj.of (lt1 F8093.lt) (low1 G9125)) D9097
                          have D9131 : Dj [b6526] ([b9123] ++ [b9089]) := Dj.app (Dj.of (lt1 F8094.lt) (low1 G9125)) D9098
                          have D9132 : Dj [b8081] ([b9123] ++ [b9089]) := Dj.app (Dj.of (lt1 F8095.lt) (low1 G9125)) D9099
                          have D9133 : Dj [b8159] ([b9123] ++ [b9089]) := Dj.app (Dj.of F8162.low (low1 G9125)) D9100
                          have D9134 : Dj fp8173 ([b9123] ++ [b9089]) := Dj.app (Dj.of F8176.low (low1 G9125)) D9101
                          have D9135 : Dj [b9011] ([b9123] ++ [b9089]) := Dj.app (Dj.of F9014.low (low1 G9125)) D9102
                          have D9136 : Dj fp9106 ([b9123] ++ [b9089]) := Dj.app (Dj.of F9109.low (low1 G9125)) (D9121).symm
                          replace F8092 := F8092.chg hc9127 Dj.nil
                          replace F8093 := F8093.chg hc9127 notNil
                          replace F8094 := F8094.chg hc9127 notNil
                          replace F8095 := F8095.chg hc9127 notNil
                          replace F8162 := F8162.chg hc9127 Dj.nil
                          replace F8176 := F8176.chg hc9127 Dj.nil
                          replace F9014 := F9014.chg hc9127 Dj.nil
                          replace F9092 := F9092.chg hc9127 Dj.nil
                          replace F9109 := F9109.chg hc9127 Dj.nil
                          replace hB := hB.inS hc9127 inNil
                          have hSz := hS
                          replace hS := hS.inS hc9127 inNil
                          replace G9125 := Nat.le_trans hZ G9125
                          replace G9125 := lowApp (low1 G9125) G9091
                          replace hZ := Nat.le_trans hZ hc9127.size
                          replace F9092 := (F9092.sl encI_ok)
                          refine wS_end (by kernel_rfl) ?_
                          refine eX_KH hS ?_
                          refine wH_done (by kernel_rfl) ?_
                          refine eX_tail ?_
                          obtain ⟨_, hk9137, hm⟩ := bindE hm
                          replace hk9137 := apE hk9137
                          refine wS_appendR (k := 1) (enc := encI) (ll := (l6373 : List (List (Int)))) (ll2 := (([([x7513, x7514] : List (Int))] : List (List (Int))) : List (List (Int)))) (d := 127) (t := 37) (T := 38) (A := A6374) (A2 := (some ⟨b9123, 0, none⟩)) (cap := cap6375) (cap2 := 1) (by kernel_rfl) el37 F8092 F9126 (by rfl) D9129 hk9137 ?_
                          intro w9138 fp9139 A9140 cap9141 F9142 hc9143 hp9144
                          have G9146 := lowApp (low_ap (low_inl G6385) hZ hp9144) (lowApp (low_inr G6385) (low_inr G9125))
                          have D9147 : Dj [b6523] (fp9139 ++ (fr6378 ++ [b9089])) := Dj.app (Dj.ap (Dj.inl (D6539).symm) (lt1 F8093.lt) hp9144) (Dj.app (Dj.inr (D6539).symm) (Dj.inr D9130))
                          have D9148 : Dj [b6526] (fp9139 ++ (fr6378 ++ [b9089])) := Dj.app (Dj.ap (Dj.inl (D6543).symm) (lt1 F8094.lt) hp9144) (Dj.app (Dj.inr (D6543).symm) (Dj.inr D9131))
                          have D9149 : Dj [b8081] (fp9139 ++ (fr6378 ++ [b9089])) := Dj.app (Dj.ap (Dj.inl (D8099).symm) (lt1 F8095.lt) hp9144) (Dj.app (Dj.inr (D8099).symm) (Dj.inr D9132))
                          have D9150 : Dj [b8159] (fp9139 ++ (fr6378 ++ [b9089])) := Dj.app (Dj.ap (Dj.inl (D8167).symm) F8162.low hp9144) (Dj.app (Dj.inr (D8167).symm) (Dj.inr D9133))
                          have D9151 : Dj fp8173 (fp9139 ++ (fr6378 ++ [b9089])) := Dj.app (Dj.ap (Dj.inl (D8182).symm) F8176.low hp9144) (Dj.app (Dj.inr (D8182).symm) (Dj.inr D9134))
                          have D9152 : Dj [b9011] (fp9139 ++ (fr6378 ++ [b9089])) := Dj.app (Dj.ap (Dj.inl (D9018).symm) F9014.low hp9144) (Dj.app (Dj.inr (D9018).symm) (Dj.inr D9135))
                          have D9153 : Dj fp9106 (fp9139 ++ (fr6378 ++ [b9089])) := Dj.app (Dj.ap (Dj.inl (D9114).symm) F9109.low hp9144) (Dj.app (Dj.inr (D9114).symm) (Dj.inr D9136))
                          replace F8093 := F8093.chg hc9143 (dj1 (Dj.inl (D6539).symm))
                          replace F8094 := F8094.chg hc9143 (dj1 (Dj.inl (D6543).symm))
                          replace F8095 := F8095.chg hc9143 (dj1 (Dj.inl (D8099).symm))
                          replace F8162 := F8162.chg hc9143 (Dj.inl (D8167).symm)
                          replace F8176 := F8176.chg hc9143 (Dj.inl (D8182).symm)
                          replace F9014 := F9014.chg hc9143 (Dj.inl (D9018).symm)
                          replace F9109 := F9109.chg hc9143 (Dj.inl (D9114).symm)
                          replace hB := hB.inS hc9143 (memS_inl (inLow G6385))
                          replace hZ := Nat.le_trans hZ hc9143.size
                          refine wS_pure 2 [(6, .slice A9140 (l6373 ++ (([([x7513, x7514] : List (Int))] : List (List (Int))))).length cap9141), (4, .slice A9107 (l6363 ++ (([(x8082, x8083, x8084, x8085, x8086)] : List (Int × Int × Int × Int × Int)))).length cap9108)] (by kernel_rfl) ?_
                          refine wS_end (by rfl) ?_
                          have hq : (some ((l6363 ++ (([(x8082, x8083, x8084, x8085, x8086)] : List (Int × Int × Int × Int × Int))), l6373 ++ (([([x7513, x7514] : List (Int))] : List (List (Int)))))) : Option ((List (Int × Int × Int × Int × Int)) × (List (List (Int))))) = some _ := hm
                          replace hq := someE hq
                          subst hq
                          exact eX_J (fun hst => ⟨l6363 ++ (([(x8082, x8083, x8084, x8085, x8086)] : List (Int × Int × Int × Int × Int))), A9107, cap9108, fp9106, l6373 ++ (([([x7513, x7514] : List (Int))] : List (List (Int)))), A9140, cap9141, fp9139, (fr6378 ++ [b9089]), rfl, Fr.of hst (by kernel_rfl), F8176, F9109, F9142, G9113, G9146, D9119, (D9153).symm, D9151, hB, hZ⟩)
                        · skip
                          refine wS_row1 (k := 1) (enc := encI) (l := ([x7513, x7514] : List (Int))) (d := 126) (t := 37) (T := 38) (B := (some ⟨b9089, 0, none⟩)) (c := 2) (by kernel_rfl) el37 F9092 ?_
                          intro b9154 w9155 G9156 F9157 hc9158
                          have D9160 : Dj fp6366 ([b9154] ++ [b9089]) := Dj.app (Dj.of F8090.low (low1 G9156)) D9095
                          have D9161 : Dj (fp6376 ++ fr6378) ([b9154] ++ [b9089]) := Dj.app (Dj.of F8092.low (low1 G9156)) D9096
                          have D9162 : Dj [b6523] ([b9154] ++ [b9089]) := Dj.app (Dj.of (lt1 F8093.lt) (low1 G9156)) D9097
                          have D9163 : Dj [b6526] ([b9154] ++ [b9089]) := Dj.app (Dj.of (lt1 F8094.lt) (low1 G9156)) D9098
                          have D9164 : Dj [b8081] ([b9154] ++ [b9089]) := Dj.app (Dj.of (lt1 F8095.lt) (low1 G9156)) D9099
                          have D9165 : Dj [b8159] ([b9154] ++ [b9089]) := Dj.app (Dj.of F8162.low (low1 G9156)) D9100
                          have D9166 : Dj fp8173 ([b9154] ++ [b9089]) := Dj.app (Dj.of F8176.low (low1 G9156)) D9101
                          have D9167 : Dj [b9011] ([b9154] ++ [b9089]) := Dj.app (Dj.of F9014.low (low1 G9156)) D9102
                          replace F8090 := F8090.chg hc9158 Dj.nil
                          replace F8092 := F8092.chg hc9158 Dj.nil
                          replace F8093 := F8093.chg hc9158 notNil
                          replace F8094 := F8094.chg hc9158 notNil
                          replace F8095 := F8095.chg hc9158 notNil
                          replace F8162 := F8162.chg hc9158 Dj.nil
                          replace F8176 := F8176.chg hc9158 Dj.nil
                          replace F9014 := F9014.chg hc9158 Dj.nil
                          replace F9092 := F9092.chg hc9158 Dj.nil
                          replace hB := hB.inS hc9158 inNil
                          have hSz := hS
                          replace hS := hS.inS hc9158 inNil
                          replace G9156 := Nat.le_trans hZ G9156
                          replace G9156 := lowApp (low1 G9156) G9091
                          replace hZ := Nat.le_trans hZ hc9158.size
                          replace F9092 := (F9092.sl encI_ok)
                          refine wS_end (by kernel_rfl) ?_
                          refine eX_KH hS ?_
                          refine wH_all [3] (by rfl) (by kernel_rfl) (by simp) ⟨⟨by kernel_rfl, ?_⟩, trivial⟩
                          obtain ⟨_, hk9168, hm⟩ := bindE hm
                          replace hk9168 := apE hk9168
                          refine wS_append (enc := encIIIII) (l := (l6363 : List (Int × Int × Int × Int × Int))) (l2 := (([(x8082, x8083, x8084, x8085, x8086)] : List (Int × Int × Int × Int × Int)) : List (Int × Int × Int × Int × Int))) (d := 121) (t := 61) (T := 27) (A := A6364) (A2 := (some ⟨b9011, 0, none⟩)) (cap := cap6365) (cap2 := 1) (by kernel_rfl) el61 encIIIII_ok F8090 (F9014.sl encIIIII_ok) (by rfl) hk9168 ?_
                          intro w9169 fp9170 A9171 cap9172 F9173 hc9174 hp9175
                          have G9177 := low_ap G6383 hZ hp9175
                          have D9178 : Dj (fp6376 ++ fr6378) fp9170 := Dj.ap D6387 F8092.low hp9175
                          have D9179 : Dj [b6523] fp9170 := Dj.ap (D6537).symm (lt1 F8093.lt) hp9175
                          have D9180 : Dj [b6526] fp9170 := Dj.ap (D6541).symm (lt1 F8094.lt) hp9175
                          have D9181 : Dj [b8081] fp9170 := Dj.ap (D8097).symm (lt1 F8095.lt) hp9175
                          have D9182 : Dj [b8159] fp9170 := Dj.ap (D8165).symm F8162.low hp9175
                          have D9183 : Dj fp8173 fp9170 := Dj.ap (D8181).symm F8176.low hp9175
                          have D9184 : Dj [b9011] fp9170 := Dj.ap (D9017).symm F9014.low hp9175
                          have D9185 : Dj [b9089] fp9170 := Dj.ap (D9095).symm F9092.low hp9175
                          have D9186 : Dj ([b9154] ++ [b9089]) fp9170 := Dj.ap (D9160).symm F9157.low hp9175
                          replace F8092 := F8092.chg hc9174 D6387
                          replace F8093 := F8093.chg hc9174 (dj1 (D6537).symm)
                          replace F8094 := F8094.chg hc9174 (dj1 (D6541).symm)
                          replace F8095 := F8095.chg hc9174 (dj1 (D8097).symm)
                          replace F8162 := F8162.chg hc9174 (D8165).symm
                          replace F8176 := F8176.chg hc9174 (D8181).symm
                          replace F9014 := F9014.chg hc9174 (D9017).symm
                          replace F9092 := F9092.chg hc9174 (D9095).symm
                          replace F9157 := F9157.chg hc9174 (D9160).symm
                          replace hB := hB.inS hc9174 (inLow G6383)
                          have hSz := hS
                          replace hS := hS.trans hc9174
                          have Sn9187 := sin_ap (inMem (fun x hx => hx)) hSz.size hp9175
                          replace hZ := Nat.le_trans hZ hc9174.size
                          refine wS_end (by kernel_rfl) ?_
                          refine eX_KH hS ?_
                          refine wH_done (by kernel_rfl) ?_
                          refine eX_tail ?_
                          obtain ⟨_, hk9188, hm⟩ := bindE hm
                          replace hk9188 := apE hk9188
                          refine wS_appendR (k := 1) (enc := encI) (ll := (l6373 : List (List (Int)))) (ll2 := (([([x7513, x7514] : List (Int))] : List (List (Int))) : List (List (Int)))) (d := 127) (t := 37) (T := 38) (A := A6374) (A2 := (some ⟨b9154, 0, none⟩)) (cap := cap6375) (cap2 := 1) (by kernel_rfl) el37 F8092 F9157 (by rfl) D9161 hk9188 ?_
                          intro w9189 fp9190 A9191 cap9192 F9193 hc9194 hp9195
                          have G9197 := lowApp (low_ap (low_inl G6385) hZ hp9195) (lowApp (low_inr G6385) (low_inr G9156))
                          have D9198 : Dj [b6523] (fp9190 ++ (fr6378 ++ [b9089])) := Dj.app (Dj.ap (Dj.inl (D6539).symm) (lt1 F8093.lt) hp9195) (Dj.app (Dj.inr (D6539).symm) (Dj.inr D9162))
                          have D9199 : Dj [b6526] (fp9190 ++ (fr6378 ++ [b9089])) := Dj.app (Dj.ap (Dj.inl (D6543).symm) (lt1 F8094.lt) hp9195) (Dj.app (Dj.inr (D6543).symm) (Dj.inr D9163))
                          have D9200 : Dj [b8081] (fp9190 ++ (fr6378 ++ [b9089])) := Dj.app (Dj.ap (Dj.inl (D8099).symm) (lt1 F8095.lt) hp9195) (Dj.app (Dj.inr (D8099).symm) (Dj.inr D9164))
                          have D9201 : Dj [b8159] (fp9190 ++ (fr6378 ++ [b9089])) := Dj.app (Dj.ap (Dj.inl (D8167).symm) F8162.low hp9195) (Dj.app (Dj.inr (D8167).symm) (Dj.inr D9165))
                          have D9202 : Dj fp8173 (fp9190 ++ (fr6378 ++ [b9089])) := Dj.app (Dj.ap (Dj.inl (D8182).symm) F8176.low hp9195) (Dj.app (Dj.inr (D8182).symm) (Dj.inr D9166))
                          have D9203 : Dj [b9011] (fp9190 ++ (fr6378 ++ [b9089])) := Dj.app (Dj.ap (Dj.inl (D9018).symm) F9014.low hp9195) (Dj.app (Dj.inr (D9018).symm) (Dj.inr D9167))
                          have D9204 : Dj fp9170 (fp9190 ++ (fr6378 ++ [b9089])) := Dj.app (Dj.ap (Dj.inl (D9178).symm) F9173.low hp9195) (Dj.app (Dj.inr (D9178).symm) (Dj.inr (D9186).symm))
                          replace F8093 := F8093.chg hc9194 (dj1 (Dj.inl (D6539).symm))
                          replace F8094 := F8094.chg hc9194 (dj1 (Dj.inl (D6543).symm))
                          replace F8095 := F8095.chg hc9194 (dj1 (Dj.inl (D8099).symm))
                          replace F8162 := F8162.chg hc9194 (Dj.inl (D8167).symm)
                          replace F8176 := F8176.chg hc9194 (Dj.inl (D8182).symm)
                          replace F9014 := F9014.chg hc9194 (Dj.inl (D9018).symm)
                          replace F9173 := F9173.chg hc9194 (Dj.inl (D9178).symm)
                          replace hB := hB.inS hc9194 (memS_inl (inLow G6385))
                          replace hZ := Nat.le_trans hZ hc9194.size
                          refine wS_pure 2 [(6, .slice A9191 (l6373 ++ (([([x7513, x7514] : List (Int))] : List (List (Int))))).length cap9192), (4, .slice A9171 (l6363 ++ (([(x8082, x8083, x8084, x8085, x8086)] : List (Int × Int × Int × Int × Int)))).length cap9172)] (by kernel_rfl) ?_
                          refine wS_end (by rfl) ?_
                          have hq : (some ((l6363 ++ (([(x8082, x8083, x8084, x8085, x8086)] : List (Int × Int × Int × Int × Int))), l6373 ++ (([([x7513, x7514] : List (Int))] : List (List (Int)))))) : Option ((List (Int × Int × Int × Int × Int)) × (List (List (Int))))) = some _ := hm
                          replace hq := someE hq
                          subst hq
                          exact eX_J (fun hst => ⟨l6363 ++ (([(x8082, x8083, x8084, x8085, x8086)] : List (Int × Int × Int × Int × Int))), A9171, cap9172, fp9170, l6373 ++ (([([x7513, x7514] : List (Int))] : List (List (Int)))), A9191, cap9192, fp9190, (fr6378 ++ [b9089]), rfl, Fr.of hst (by kernel_rfl), F8176, F9173, F9193, G9177, G9197, D9183, (D9204).symm, D9202, hB, hZ⟩)
                    · skip
                      refine wS_bs (enc := encI) ([x7513, x7514] : List (Int)) [.int .i64 (x7513), .int .i64 (x7514)] (d := 125) (t := 38) (T := 2) (n := 2) (ps := [(0, .int .i64 (x7513)), (1, .int .i64 (x7514))]) (by kernel_rfl) el38 encI_ok (by rfl) (by omega) (by omega) (by kernel_rfl) (by rfl) ?_
                      intro b9205 w9206 G9207 F9208 hc9209
                      have D9211 : Dj fp6366 [b9205] := Dj.of F8090.low (low1 G9207)
                      have D9212 : Dj (fp6376 ++ fr6378) [b9205] := Dj.of F8092.low (low1 G9207)
                      have D9213 : Dj [b6523] [b9205] := Dj.of (lt1 F8093.lt) (low1 G9207)
                      have D9214 : Dj [b6526] [b9205] := Dj.of (lt1 F8094.lt) (low1 G9207)
                      have D9215 : Dj [b8081] [b9205] := Dj.of (lt1 F8095.lt) (low1 G9207)
                      have D9216 : Dj [b8159] [b9205] := Dj.of F8162.low (low1 G9207)
                      have D9217 : Dj fp8173 [b9205] := Dj.of F8176.low (low1 G9207)
                      replace F8090 := F8090.chg hc9209 Dj.nil
                      replace F8092 := F8092.chg hc9209 Dj.nil
                      replace F8093 := F8093.chg hc9209 notNil
                      replace F8094 := F8094.chg hc9209 notNil
                      replace F8095 := F8095.chg hc9209 notNil
                      replace F8162 := F8162.chg hc9209 Dj.nil
                      replace F8176 := F8176.chg hc9209 Dj.nil
                      replace hB := hB.inS hc9209 inNil
                      have hSz := hS
                      replace hS := hS.inS hc9209 inNil
                      have Gz9218 := low1 (Nat.le_trans hSz.size G9207)
                      replace G9207 := Nat.le_trans hZ G9207
                      replace G9207 := low1 G9207
                      replace hZ := Nat.le_trans hZ hc9209.size
                      refine wS_end (by kernel_rfl) ?_
                      refine eX_KH hS ?_
                      refine wH_all [2, 8] (by rfl) (by kernel_rfl) (by simp) ⟨⟨by kernel_rfl, ?_⟩, ⟨by kernel_rfl, ?_⟩, trivial⟩
                      · skip
                        refine wS_bs (enc := encIIIII) ([(x8082, x8083, x8084, x8085, x8086)] : List (Int × Int × Int × Int × Int)) [.int .i64 (x8082), .int .i64 (x8083), .int .i64 (x8084), .int .i64 (x8085), .int .i64 (x8086)] (d := 120) (t := 61) (T := 27) (n := 1) (ps := [(0, .agg #[.int .i64 (x8082), .int .i64 (x8083), .int .i64 (x8084), .int .i64 (x8085), .int .i64 (x8086)])]) (by kernel_rfl) el61 encIIIII_ok (by rfl) (by omega) (by omega) (by kernel_rfl) (by rfl) ?_
                        intro b9219 w9220 G9221 F9222 hc9223
                        have D9225 : Dj fp6366 [b9219] := Dj.of F8090.low (low1 G9221)
                        have D9226 : Dj (fp6376 ++ fr6378) [b9219] := Dj.of F8092.low (low1 G9221)
                        have D9227 : Dj [b6523] [b9219] := Dj.of (lt1 F8093.lt) (low1 G9221)
                        have D9228 : Dj [b6526] [b9219] := Dj.of (lt1 F8094.lt) (low1 G9221)
                        have D9229 : Dj [b8081] [b9219] := Dj.of (lt1 F8095.lt) (low1 G9221)
                        have D9230 : Dj [b8159] [b9219] := Dj.of F8162.low (low1 G9221)
                        have D9231 : Dj fp8173 [b9219] := Dj.of F8176.low (low1 G9221)
                        have D9232 : Dj [b9205] [b9219] := Dj.of F9208.low (low1 G9221)
                        replace F8090 := F8090.chg hc9223 Dj.nil
                        replace F8092 := F8092.chg hc9223 Dj.nil
                        replace F8093 := F8093.chg hc9223 notNil
                        replace F8094 := F8094.chg hc9223 notNil
                        replace F8095 := F8095.chg hc9223 notNil
                        replace F8162 := F8162.chg hc9223 Dj.nil
                        replace F8176 := F8176.chg hc9223 Dj.nil
                        replace F9208 := F9208.chg hc9223 Dj.nil
                        replace hB := hB.inS hc9223 inNil
                        have hSz := hS
                        replace hS := hS.inS hc9223 inNil
                        have Gz9233 := low1 (Nat.le_trans hSz.size G9221)
                        replace G9221 := Nat.le_trans hZ G9221
                        replace G9221 := low1 G9221
                        replace hZ := Nat.le_trans hZ hc9223.size
                        refine wS_end (by kernel_rfl) ?_
                        refine eX_KH hS ?_
                        refine wH_all [3, 8] (by rfl) (by kernel_rfl) (by simp) ⟨⟨by kernel_rfl, ?_⟩, ⟨by kernel_rfl, ?_⟩, trivial⟩
                        · skip
                          obtain ⟨_, hk9234, hm⟩ := bindE hm
                          replace hk9234 := apE hk9234
                          refine wS_append (enc := encIIIII) (l := (l6363 : List (Int × Int × Int × Int × Int))) (l2 := (([(x8082, x8083, x8084, x8085, x8086)] : List (Int × Int × Int × Int × Int)) : List (Int × Int × Int × Int × Int))) (d := 121) (t := 61) (T := 27) (A := A6364) (A2 := (some ⟨b9219, 0, none⟩)) (cap := cap6365) (cap2 := 1) (by kernel_rfl) el61 encIIIII_ok F8090 (F9222.sl encIIIII_ok) (by rfl) hk9234 ?_
                          intro w9235 fp9236 A9237 cap9238 F9239 hc9240 hp9241
                          have G9243 := low_ap G6383 hZ hp9241
                          have D9244 : Dj (fp6376 ++ fr6378) fp9236 := Dj.ap D6387 F8092.low hp9241
                          have D9245 : Dj [b6523] fp9236 := Dj.ap (D6537).symm (lt1 F8093.lt) hp9241
                          have D9246 : Dj [b6526] fp9236 := Dj.ap (D6541).symm (lt1 F8094.lt) hp9241
                          have D9247 : Dj [b8081] fp9236 := Dj.ap (D8097).symm (lt1 F8095.lt) hp9241
                          have D9248 : Dj [b8159] fp9236 := Dj.ap (D8165).symm F8162.low hp9241
                          have D9249 : Dj fp8173 fp9236 := Dj.ap (D8181).symm F8176.low hp9241
                          have D9250 : Dj [b9205] fp9236 := Dj.ap (D9211).symm F9208.low hp9241
                          have D9251 : Dj [b9219] fp9236 := Dj.ap (D9225).symm F9222.low hp9241
                          replace F8092 := F8092.chg hc9240 D6387
                          replace F8093 := F8093.chg hc9240 (dj1 (D6537).symm)
                          replace F8094 := F8094.chg hc9240 (dj1 (D6541).symm)
                          replace F8095 := F8095.chg hc9240 (dj1 (D8097).symm)
                          replace F8162 := F8162.chg hc9240 (D8165).symm
                          replace F8176 := F8176.chg hc9240 (D8181).symm
                          replace F9208 := F9208.chg hc9240 (D9211).symm
                          replace F9222 := F9222.chg hc9240 (D9225).symm
                          replace hB := hB.inS hc9240 (inLow G6383)
                          have hSz := hS
                          replace hS := hS.trans hc9240
                          have Sn9252 := sin_ap (inMem (fun x hx => hx)) hSz.size hp9241
                          replace hZ := Nat.le_trans hZ hc9240.size
                          refine wS_end (by kernel_rfl) ?_
                          refine eX_KH hS ?_
                          refine wH_all [8] (by rfl) (by kernel_rfl) (by simp) ⟨⟨by kernel_rfl, ?_⟩, trivial⟩
                          refine wS_row1 (k := 1) (enc := encI) (l := ([x7513, x7514] : List (Int))) (d := 126) (t := 37) (T := 38) (B := (some ⟨b9205, 0, none⟩)) (c := 2) (by kernel_rfl) el37 F9208 ?_
                          intro b9253 w9254 G9255 F9256 hc9257
                          have D9259 : Dj (fp6376 ++ fr6378) ([b9253] ++ [b9205]) := Dj.app (Dj.of F8092.low (low1 G9255)) D9212
                          have D9260 : Dj [b6523] ([b9253] ++ [b9205]) := Dj.app (Dj.of (lt1 F8093.lt) (low1 G9255)) D9213
                          have D9261 : Dj [b6526] ([b9253] ++ [b9205]) := Dj.app (Dj.of (lt1 F8094.lt) (low1 G9255)) D9214
                          have D9262 : Dj [b8081] ([b9253] ++ [b9205]) := Dj.app (Dj.of (lt1 F8095.lt) (low1 G9255)) D9215
                          have D9263 : Dj [b8159] ([b9253] ++ [b9205]) := Dj.app (Dj.of F8162.low (low1 G9255)) D9216
                          have D9264 : Dj fp8173 ([b9253] ++ [b9205]) := Dj.app (Dj.of F8176.low (low1 G9255)) D9217
                          have D9265 : Dj [b9219] ([b9253] ++ [b9205]) := Dj.app (Dj.of F9222.low (low1 G9255)) (D9232).symm
                          have D9266 : Dj fp9236 ([b9253] ++ [b9205]) := Dj.app (Dj.of F9239.low (low1 G9255)) (D9250).symm
                          replace F8092 := F8092.chg hc9257 Dj.nil
                          replace F8093 := F8093.chg hc9257 notNil
                          replace F8094 := F8094.chg hc9257 notNil
                          replace F8095 := F8095.chg hc9257 notNil
                          replace F8162 := F8162.chg hc9257 Dj.nil
                          replace F8176 := F8176.chg hc9257 Dj.nil
                          replace F9208 := F9208.chg hc9257 Dj.nil
                          replace F9222 := F9222.chg hc9257 Dj.nil
                          replace F9239 := F9239.chg hc9257 Dj.nil
                          replace hB := hB.inS hc9257 inNil
                          have hSz := hS
                          replace hS := hS.inS hc9257 inNil
                          replace G9255 := Nat.le_trans hZ G9255
                          replace G9255 := lowApp (low1 G9255) G9207
                          replace hZ := Nat.le_trans hZ hc9257.size
                          replace F9208 := (F9208.sl encI_ok)
                          refine wS_end (by kernel_rfl) ?_
                          refine eX_KH hS ?_
                          refine wH_done (by kernel_rfl) ?_
                          refine eX_tail ?_
                          obtain ⟨_, hk9267, hm⟩ := bindE hm
                          replace hk9267 := apE hk9267
                          refine wS_appendR (k := 1) (enc := encI) (ll := (l6373 : List (List (Int)))) (ll2 := (([([x7513, x7514] : List (Int))] : List (List (Int))) : List (List (Int)))) (d := 127) (t := 37) (T := 38) (A := A6374) (A2 := (some ⟨b9253, 0, none⟩)) (cap := cap6375) (cap2 := 1) (by kernel_rfl) el37 F8092 F9256 (by rfl) D9259 hk9267 ?_
                          intro w9268 fp9269 A9270 cap9271 F9272 hc9273 hp9274
                          have G9276 := lowApp (low_ap (low_inl G6385) hZ hp9274) (lowApp (low_inr G6385) (low_inr G9255))
                          have D9277 : Dj [b6523] (fp9269 ++ (fr6378 ++ [b9205])) := Dj.app (Dj.ap (Dj.inl (D6539).symm) (lt1 F8093.lt) hp9274) (Dj.app (Dj.inr (D6539).symm) (Dj.inr D9260))
                          have D9278 : Dj [b6526] (fp9269 ++ (fr6378 ++ [b9205])) := Dj.app (Dj.ap (Dj.inl (D6543).symm) (lt1 F8094.lt) hp9274) (Dj.app (Dj.inr (D6543).symm) (Dj.inr D9261))
                          have D9279 : Dj [b8081] (fp9269 ++ (fr6378 ++ [b9205])) := Dj.app (Dj.ap (Dj.inl (D8099).symm) (lt1 F8095.lt) hp9274) (Dj.app (Dj.inr (D8099).symm) (Dj.inr D9262))
                          have D9280 : Dj [b8159] (fp9269 ++ (fr6378 ++ [b9205])) := Dj.app (Dj.ap (Dj.inl (D8167).symm) F8162.low hp9274) (Dj.app (Dj.inr (D8167).symm) (Dj.inr D9263))
                          have D9281 : Dj fp8173 (fp9269 ++ (fr6378 ++ [b9205])) := Dj.app (Dj.ap (Dj.inl (D8182).symm) F8176.low hp9274) (Dj.app (Dj.inr (D8182).symm) (Dj.inr D9264))
                          have D9282 : Dj [b9219] (fp9269 ++ (fr6378 ++ [b9205])) := Dj.app (Dj.ap (Dj.inl (D9226).symm) F9222.low hp9274) (Dj.app (Dj.inr (D9226).symm) (Dj.inr D9265))
                          have D9283 : Dj fp9236 (fp9269 ++ (fr6378 ++ [b9205])) := Dj.app (Dj.ap (Dj.inl (D9244).symm) F9239.low hp9274) (Dj.app (Dj.inr (D9244).symm) (Dj.inr D9266))
                          replace F8093 := F8093.chg hc9273 (dj1 (Dj.inl (D6539).symm))
                          replace F8094 := F8094.chg hc9273 (dj1 (Dj.inl (D6543).symm))
                          replace F8095 := F8095.chg hc9273 (dj1 (Dj.inl (D8099).symm))
                          replace F8162 := F8162.chg hc9273 (Dj.inl (D8167).symm)
                          replace F8176 := F8176.chg hc9273 (Dj.inl (D8182).symm)
                          replace F9222 := F9222.chg hc9273 (Dj.inl (D9226).symm)
                          replace F9239 := F9239.chg hc9273 (Dj.inl (D9244).symm)
                          replace hB := hB.inS hc9273 (memS_inl (inLow G6385))
                          replace hZ := Nat.le_trans hZ hc9273.size
                          refine wS_pure 2 [(6, .slice A9270 (l6373 ++ (([([x7513, x7514] : List (Int))] : List (List (Int))))).length cap9271), (4, .slice A9237 (l6363 ++ (([(x8082, x8083, x8084, x8085, x8086)] : List (Int × Int × Int × Int × Int)))).length cap9238)] (by kernel_rfl) ?_
                          refine wS_end (by rfl) ?_
                          have hq : (some ((l6363 ++ (([(x8082, x8083, x8084, x8085, x8086)] : List (Int × Int × Int × Int × Int))), l6373 ++ (([([x7513, x7514] : List (Int))] : List (List (Int)))))) : Option ((List (Int × Int × Int × Int × Int)) × (List (List (Int))))) = some _ := hm
                          replace hq := someE hq
                          subst hq
                          exact eX_J (fun hst => ⟨l6363 ++ (([(x8082, x8083, x8084, x8085, x8086)] : List (Int × Int × Int × Int × Int))), A9237, cap9238, fp9236, l6373 ++ (([([x7513, x7514] : List (Int))] : List (List (Int)))), A9270, cap9271, fp9269, (fr6378 ++ [b9205]), rfl, Fr.of hst (by kernel_rfl), F8176, F9239, F9272, G9243, G9276, D9249, (D9283).symm, D9281, hB, hZ⟩)
                        · skip
                          refine wS_row1 (k := 1) (enc := encI) (l := ([x7513, x7514] : List (Int))) (d := 126) (t := 37) (T := 38) (B := (some ⟨b9205, 0, none⟩)) (c := 2) (by kernel_rfl) el37 F9208 ?_
                          intro b9284 w9285 G9286 F9287 hc9288
                          have D9290 : Dj fp6366 ([b9284] ++ [b9205]) := Dj.app (Dj.of F8090.low (low1 G9286)) D9211
                          have D9291 : Dj (fp6376 ++ fr6378) ([b9284] ++ [b9205]) := Dj.app (Dj.of F8092.low (low1 G9286)) D9212
                          have D9292 : Dj [b6523] ([b9284] ++ [b9205]) := Dj.app (Dj.of (lt1 F8093.lt) (low1 G9286)) D9213
                          have D9293 : Dj [b6526] ([b9284] ++ [b9205]) := Dj.app (Dj.of (lt1 F8094.lt) (low1 G9286)) D9214
                          have D9294 : Dj [b8081] ([b9284] ++ [b9205]) := Dj.app (Dj.of (lt1 F8095.lt) (low1 G9286)) D9215
                          have D9295 : Dj [b8159] ([b9284] ++ [b9205]) := Dj.app (Dj.of F8162.low (low1 G9286)) D9216
                          have D9296 : Dj fp8173 ([b9284] ++ [b9205]) := Dj.app (Dj.of F8176.low (low1 G9286)) D9217
                          have D9297 : Dj [b9219] ([b9284] ++ [b9205]) := Dj.app (Dj.of F9222.low (low1 G9286)) (D9232).symm
                          replace F8090 := F8090.chg hc9288 Dj.nil
                          replace F8092 := F8092.chg hc9288 Dj.nil
                          replace F8093 := F8093.chg hc9288 notNil
                          replace F8094 := F8094.chg hc9288 notNil
                          replace F8095 := F8095.chg hc9288 notNil
                          replace F8162 := F8162.chg hc9288 Dj.nil
                          replace F8176 := F8176.chg hc9288 Dj.nil
                          replace F9208 := F9208.chg hc9288 Dj.nil
                          replace F9222 := F9222.chg hc9288 Dj.nil
                          replace hB := hB.inS hc9288 inNil
                          have hSz := hS
                          replace hS := hS.inS hc9288 inNil
                          replace G9286 := Nat.le_trans hZ G9286
                          replace G9286 := lowApp (low1 G9286) G9207
                          replace hZ := Nat.le_trans hZ hc9288.size
                          replace F9208 := (F9208.sl encI_ok)
                          refine wS_end (by kernel_rfl) ?_
                          refine eX_KH hS ?_
                          refine wH_all [3] (by rfl) (by kernel_rfl) (by simp) ⟨⟨by kernel_rfl, ?_⟩, trivial⟩
                          obtain ⟨_, hk9298, hm⟩ := bindE hm
                          replace hk9298 := apE hk9298
                          refine wS_append (enc := encIIIII) (l := (l6363 : List (Int × Int × Int × Int × Int))) (l2 := (([(x8082, x8083, x8084, x8085, x8086)] : List (Int × Int × Int × Int × Int)) : List (Int × Int × Int × Int × Int))) (d := 121) (t := 61) (T := 27) (A := A6364) (A2 := (some ⟨b9219, 0, none⟩)) (cap := cap6365) (cap2 := 1) (by kernel_rfl) el61 encIIIII_ok F8090 (F9222.sl encIIIII_ok) (by rfl) hk9298 ?_
                          intro w9299 fp9300 A9301 cap9302 F9303 hc9304 hp9305
                          have G9307 := low_ap G6383 hZ hp9305
                          have D9308 : Dj (fp6376 ++ fr6378) fp9300 := Dj.ap D6387 F8092.low hp9305
                          have D9309 : Dj [b6523] fp9300 := Dj.ap (D6537).symm (lt1 F8093.lt) hp9305
                          have D9310 : Dj [b6526] fp9300 := Dj.ap (D6541).symm (lt1 F8094.lt) hp9305
                          have D9311 : Dj [b8081] fp9300 := Dj.ap (D8097).symm (lt1 F8095.lt) hp9305
                          have D9312 : Dj [b8159] fp9300 := Dj.ap (D8165).symm F8162.low hp9305
                          have D9313 : Dj fp8173 fp9300 := Dj.ap (D8181).symm F8176.low hp9305
                          have D9314 : Dj [b9205] fp9300 := Dj.ap (D9211).symm F9208.low hp9305
                          have D9315 : Dj [b9219] fp9300 := Dj.ap (D9225).symm F9222.low hp9305
                          have D9316 : Dj ([b9284] ++ [b9205]) fp9300 := Dj.ap (D9290).symm F9287.low hp9305
                          replace F8092 := F8092.chg hc9304 D6387
                          replace F8093 := F8093.chg hc9304 (dj1 (D6537).symm)
                          replace F8094 := F8094.chg hc9304 (dj1 (D6541).symm)
                          replace F8095 := F8095.chg hc9304 (dj1 (D8097).symm)
                          replace F8162 := F8162.chg hc9304 (D8165).symm
                          replace F8176 := F8176.chg hc9304 (D8181).symm
                          replace F9208 := F9208.chg hc9304 (D9211).symm
                          replace F9222 := F9222.chg hc9304 (D9225).symm
                          replace F9287 := F9287.chg hc9304 (D9290).symm
                          replace hB := hB.inS hc9304 (inLow G6383)
                          have hSz := hS
                          replace hS := hS.trans hc9304
                          have Sn9317 := sin_ap (inMem (fun x hx => hx)) hSz.size hp9305
                          replace hZ := Nat.le_trans hZ hc9304.size
                          refine wS_end (by kernel_rfl) ?_
                          refine eX_KH hS ?_
                          refine wH_done (by kernel_rfl) ?_
                          refine eX_tail ?_
                          obtain ⟨_, hk9318, hm⟩ := bindE hm
                          replace hk9318 := apE hk9318
                          refine wS_appendR (k := 1) (enc := encI) (ll := (l6373 : List (List (Int)))) (ll2 := (([([x7513, x7514] : List (Int))] : List (List (Int))) : List (List (Int)))) (d := 127) (t := 37) (T := 38) (A := A6374) (A2 := (some ⟨b9284, 0, none⟩)) (cap := cap6375) (cap2 := 1) (by kernel_rfl) el37 F8092 F9287 (by rfl) D9291 hk9318 ?_
                          intro w9319 fp9320 A9321 cap9322 F9323 hc9324 hp9325
                          have G9327 := lowApp (low_ap (low_inl G6385) hZ hp9325) (lowApp (low_inr G6385) (low_inr G9286))
                          have D9328 : Dj [b6523] (fp9320 ++ (fr6378 ++ [b9205])) := Dj.app (Dj.ap (Dj.inl (D6539).symm) (lt1 F8093.lt) hp9325) (Dj.app (Dj.inr (D6539).symm) (Dj.inr D9292))
                          have D9329 : Dj [b6526] (fp9320 ++ (fr6378 ++ [b9205])) := Dj.app (Dj.ap (Dj.inl (D6543).symm) (lt1 F8094.lt) hp9325) (Dj.app (Dj.inr (D6543).symm) (Dj.inr D9293))
                          have D9330 : Dj [b8081] (fp9320 ++ (fr6378 ++ [b9205])) := Dj.app (Dj.ap (Dj.inl (D8099).symm) (lt1 F8095.lt) hp9325) (Dj.app (Dj.inr (D8099).symm) (Dj.inr D9294))
                          have D9331 : Dj [b8159] (fp9320 ++ (fr6378 ++ [b9205])) := Dj.app (Dj.ap (Dj.inl (D8167).symm) F8162.low hp9325) (Dj.app (Dj.inr (D8167).symm) (Dj.inr D9295))
                          have D9332 : Dj fp8173 (fp9320 ++ (fr6378 ++ [b9205])) := Dj.app (Dj.ap (Dj.inl (D8182).symm) F8176.low hp9325) (Dj.app (Dj.inr (D8182).symm) (Dj.inr D9296))
                          have D9333 : Dj [b9219] (fp9320 ++ (fr6378 ++ [b9205])) := Dj.app (Dj.ap (Dj.inl (D9226).symm) F9222.low hp9325) (Dj.app (Dj.inr (D9226).symm) (Dj.inr D9297))
                          have D9334 : Dj fp9300 (fp9320 ++ (fr6378 ++ [b9205])) := Dj.app (Dj.ap (Dj.inl (D9308).symm) F9303.low hp9325) (Dj.app (Dj.inr (D9308).symm) (Dj.inr (D9316).symm))
                          replace F8093 := F8093.chg hc9324 (dj1 (Dj.inl (D6539).symm))
                          replace F8094 := F8094.chg hc9324 (dj1 (Dj.inl (D6543).symm))
                          replace F8095 := F8095.chg hc9324 (dj1 (Dj.inl (D8099).symm))
                          replace F8162 := F8162.chg hc9324 (Dj.inl (D8167).symm)
                          replace F8176 := F8176.chg hc9324 (Dj.inl (D8182).symm)
                          replace F9222 := F9222.chg hc9324 (Dj.inl (D9226).symm)
                          replace F9303 := F9303.chg hc9324 (Dj.inl (D9308).symm)
                          replace hB := hB.inS hc9324 (memS_inl (inLow G6385))
                          replace hZ := Nat.le_trans hZ hc9324.size
                          refine wS_pure 2 [(6, .slice A9321 (l6373 ++ (([([x7513, x7514] : List (Int))] : List (List (Int))))).length cap9322), (4, .slice A9301 (l6363 ++ (([(x8082, x8083, x8084, x8085, x8086)] : List (Int × Int × Int × Int × Int)))).length cap9302)] (by kernel_rfl) ?_
                          refine wS_end (by rfl) ?_
                          have hq : (some ((l6363 ++ (([(x8082, x8083, x8084, x8085, x8086)] : List (Int × Int × Int × Int × Int))), l6373 ++ (([([x7513, x7514] : List (Int))] : List (List (Int)))))) : Option ((List (Int × Int × Int × Int × Int)) × (List (List (Int))))) = some _ := hm
                          replace hq := someE hq
                          subst hq
                          exact eX_J (fun hst => ⟨l6363 ++ (([(x8082, x8083, x8084, x8085, x8086)] : List (Int × Int × Int × Int × Int))), A9301, cap9302, fp9300, l6373 ++ (([([x7513, x7514] : List (Int))] : List (List (Int)))), A9321, cap9322, fp9320, (fr6378 ++ [b9205]), rfl, Fr.of hst (by kernel_rfl), F8176, F9303, F9323, G9307, G9327, D9313, (D9334).symm, D9332, hB, hZ⟩)
                      · skip
                        refine wS_row1 (k := 1) (enc := encI) (l := ([x7513, x7514] : List (Int))) (d := 126) (t := 37) (T := 38) (B := (some ⟨b9205, 0, none⟩)) (c := 2) (by kernel_rfl) el37 F9208 ?_
                        intro b9335 w9336 G9337 F9338 hc9339
                        have D9341 : Dj fp6366 ([b9335] ++ [b9205]) := Dj.app (Dj.of F8090.low (low1 G9337)) D9211
                        have D9342 : Dj (fp6376 ++ fr6378) ([b9335] ++ [b9205]) := Dj.app (Dj.of F8092.low (low1 G9337)) D9212
                        have D9343 : Dj [b6523] ([b9335] ++ [b9205]) := Dj.app (Dj.of (lt1 F8093.lt) (low1 G9337)) D9213
                        have D9344 : Dj [b6526] ([b9335] ++ [b9205]) := Dj.app (Dj.of (lt1 F8094.lt) (low1 G9337)) D9214
                        have D9345 : Dj [b8081] ([b9335] ++ [b9205]) := Dj.app (Dj.of (lt1 F8095.lt) (low1 G9337)) D9215
                        have D9346 : Dj [b8159] ([b9335] ++ [b9205]) := Dj.app (Dj.of F8162.low (low1 G9337)) D9216
                        have D9347 : Dj fp8173 ([b9335] ++ [b9205]) := Dj.app (Dj.of F8176.low (low1 G9337)) D9217
                        replace F8090 := F8090.chg hc9339 Dj.nil
                        replace F8092 := F8092.chg hc9339 Dj.nil
                        replace F8093 := F8093.chg hc9339 notNil
                        replace F8094 := F8094.chg hc9339 notNil
                        replace F8095 := F8095.chg hc9339 notNil
                        replace F8162 := F8162.chg hc9339 Dj.nil
                        replace F8176 := F8176.chg hc9339 Dj.nil
                        replace F9208 := F9208.chg hc9339 Dj.nil
                        replace hB := hB.inS hc9339 inNil
                        have hSz := hS
                        replace hS := hS.inS hc9339 inNil
                        replace G9337 := Nat.le_trans hZ G9337
                        replace G9337 := lowApp (low1 G9337) G9207
                        replace hZ := Nat.le_trans hZ hc9339.size
                        replace F9208 := (F9208.sl encI_ok)
                        refine wS_end (by kernel_rfl) ?_
                        refine eX_KH hS ?_
                        refine wH_all [2] (by rfl) (by kernel_rfl) (by simp) ⟨⟨by kernel_rfl, ?_⟩, trivial⟩
                        refine wS_bs (enc := encIIIII) ([(x8082, x8083, x8084, x8085, x8086)] : List (Int × Int × Int × Int × Int)) [.int .i64 (x8082), .int .i64 (x8083), .int .i64 (x8084), .int .i64 (x8085), .int .i64 (x8086)] (d := 120) (t := 61) (T := 27) (n := 1) (ps := [(0, .agg #[.int .i64 (x8082), .int .i64 (x8083), .int .i64 (x8084), .int .i64 (x8085), .int .i64 (x8086)])]) (by kernel_rfl) el61 encIIIII_ok (by rfl) (by omega) (by omega) (by kernel_rfl) (by rfl) ?_
                        intro b9348 w9349 G9350 F9351 hc9352
                        have D9354 : Dj fp6366 [b9348] := Dj.of F8090.low (low1 G9350)
                        have D9355 : Dj (fp6376 ++ fr6378) [b9348] := Dj.of F8092.low (low1 G9350)
                        have D9356 : Dj [b6523] [b9348] := Dj.of (lt1 F8093.lt) (low1 G9350)
                        have D9357 : Dj [b6526] [b9348] := Dj.of (lt1 F8094.lt) (low1 G9350)
                        have D9358 : Dj [b8081] [b9348] := Dj.of (lt1 F8095.lt) (low1 G9350)
                        have D9359 : Dj [b8159] [b9348] := Dj.of F8162.low (low1 G9350)
                        have D9360 : Dj fp8173 [b9348] := Dj.of F8176.low (low1 G9350)
                        have D9361 : Dj [b9205] [b9348] := Dj.of F9208.low (low1 G9350)
                        have D9362 : Dj ([b9335] ++ [b9205]) [b9348] := Dj.of F9338.low (low1 G9350)
                        replace F8090 := F8090.chg hc9352 Dj.nil
                        replace F8092 := F8092.chg hc9352 Dj.nil
                        replace F8093 := F8093.chg hc9352 notNil
                        replace F8094 := F8094.chg hc9352 notNil
                        replace F8095 := F8095.chg hc9352 notNil
                        replace F8162 := F8162.chg hc9352 Dj.nil
                        replace F8176 := F8176.chg hc9352 Dj.nil
                        replace F9208 := F9208.chg hc9352 Dj.nil
                        replace F9338 := F9338.chg hc9352 Dj.nil
                        replace hB := hB.inS hc9352 inNil
                        have hSz := hS
                        replace hS := hS.inS hc9352 inNil
                        have Gz9363 := low1 (Nat.le_trans hSz.size G9350)
                        replace G9350 := Nat.le_trans hZ G9350
                        replace G9350 := low1 G9350
                        replace hZ := Nat.le_trans hZ hc9352.size
                        refine wS_end (by kernel_rfl) ?_
                        refine eX_KH hS ?_
                        refine wH_all [3] (by rfl) (by kernel_rfl) (by simp) ⟨⟨by kernel_rfl, ?_⟩, trivial⟩
                        obtain ⟨_, hk9364, hm⟩ := bindE hm
                        replace hk9364 := apE hk9364
                        refine wS_append (enc := encIIIII) (l := (l6363 : List (Int × Int × Int × Int × Int))) (l2 := (([(x8082, x8083, x8084, x8085, x8086)] : List (Int × Int × Int × Int × Int)) : List (Int × Int × Int × Int × Int))) (d := 121) (t := 61) (T := 27) (A := A6364) (A2 := (some ⟨b9348, 0, none⟩)) (cap := cap6365) (cap2 := 1) (by kernel_rfl) el61 encIIIII_ok F8090 (F9351.sl encIIIII_ok) (by rfl) hk9364 ?_
                        intro w9365 fp9366 A9367 cap9368 F9369 hc9370 hp9371
                        have G9373 := low_ap G6383 hZ hp9371
                        have D9374 : Dj (fp6376 ++ fr6378) fp9366 := Dj.ap D6387 F8092.low hp9371
                        have D9375 : Dj [b6523] fp9366 := Dj.ap (D6537).symm (lt1 F8093.lt) hp9371
                        have D9376 : Dj [b6526] fp9366 := Dj.ap (D6541).symm (lt1 F8094.lt) hp9371
                        have D9377 : Dj [b8081] fp9366 := Dj.ap (D8097).symm (lt1 F8095.lt) hp9371
                        have D9378 : Dj [b8159] fp9366 := Dj.ap (D8165).symm F8162.low hp9371
                        have D9379 : Dj fp8173 fp9366 := Dj.ap (D8181).symm F8176.low hp9371
                        have D9380 : Dj [b9205] fp9366 := Dj.ap (D9211).symm F9208.low hp9371
                        have D9381 : Dj ([b9335] ++ [b9205]) fp9366 := Dj.ap (D9341).symm F9338.low hp9371
                        have D9382 : Dj [b9348] fp9366 := Dj.ap (D9354).symm F9351.low hp9371
                        replace F8092 := F8092.chg hc9370 D6387
                        replace F8093 := F8093.chg hc9370 (dj1 (D6537).symm)
                        replace F8094 := F8094.chg hc9370 (dj1 (D6541).symm)
                        replace F8095 := F8095.chg hc9370 (dj1 (D8097).symm)
                        replace F8162 := F8162.chg hc9370 (D8165).symm
                        replace F8176 := F8176.chg hc9370 (D8181).symm
                        replace F9208 := F9208.chg hc9370 (D9211).symm
                        replace F9338 := F9338.chg hc9370 (D9341).symm
                        replace F9351 := F9351.chg hc9370 (D9354).symm
                        replace hB := hB.inS hc9370 (inLow G6383)
                        have hSz := hS
                        replace hS := hS.trans hc9370
                        have Sn9383 := sin_ap (inMem (fun x hx => hx)) hSz.size hp9371
                        replace hZ := Nat.le_trans hZ hc9370.size
                        refine wS_end (by kernel_rfl) ?_
                        refine eX_KH hS ?_
                        refine wH_done (by kernel_rfl) ?_
                        refine eX_tail ?_
                        obtain ⟨_, hk9384, hm⟩ := bindE hm
                        replace hk9384 := apE hk9384
                        refine wS_appendR (k := 1) (enc := encI) (ll := (l6373 : List (List (Int)))) (ll2 := (([([x7513, x7514] : List (Int))] : List (List (Int))) : List (List (Int)))) (d := 127) (t := 37) (T := 38) (A := A6374) (A2 := (some ⟨b9335, 0, none⟩)) (cap := cap6375) (cap2 := 1) (by kernel_rfl) el37 F8092 F9338 (by rfl) D9342 hk9384 ?_
                        intro w9385 fp9386 A9387 cap9388 F9389 hc9390 hp9391
                        have G9393 := lowApp (low_ap (low_inl G6385) hZ hp9391) (lowApp (low_inr G6385) (low_inr G9337))
                        have D9394 : Dj [b6523] (fp9386 ++ (fr6378 ++ [b9205])) := Dj.app (Dj.ap (Dj.inl (D6539).symm) (lt1 F8093.lt) hp9391) (Dj.app (Dj.inr (D6539).symm) (Dj.inr D9343))
                        have D9395 : Dj [b6526] (fp9386 ++ (fr6378 ++ [b9205])) := Dj.app (Dj.ap (Dj.inl (D6543).symm) (lt1 F8094.lt) hp9391) (Dj.app (Dj.inr (D6543).symm) (Dj.inr D9344))
                        have D9396 : Dj [b8081] (fp9386 ++ (fr6378 ++ [b9205])) := Dj.app (Dj.ap (Dj.inl (D8099).symm) (lt1 F8095.lt) hp9391) (Dj.app (Dj.inr (D8099).symm) (Dj.inr D9345))
                        have D9397 : Dj [b8159] (fp9386 ++ (fr6378 ++ [b9205])) := Dj.app (Dj.ap (Dj.inl (D8167).symm) F8162.low hp9391) (Dj.app (Dj.inr (D8167).symm) (Dj.inr D9346))
                        have D9398 : Dj fp8173 (fp9386 ++ (fr6378 ++ [b9205])) := Dj.app (Dj.ap (Dj.inl (D8182).symm) F8176.low hp9391) (Dj.app (Dj.inr (D8182).symm) (Dj.inr D9347))
                        have D9399 : Dj [b9348] (fp9386 ++ (fr6378 ++ [b9205])) := Dj.app (Dj.ap (Dj.inl (D9355).symm) F9351.low hp9391) (Dj.app (Dj.inr (D9355).symm) (Dj.inr (D9362).symm))
                        have D9400 : Dj fp9366 (fp9386 ++ (fr6378 ++ [b9205])) := Dj.app (Dj.ap (Dj.inl (D9374).symm) F9369.low hp9391) (Dj.app (Dj.inr (D9374).symm) (Dj.inr (D9381).symm))
                        replace F8093 := F8093.chg hc9390 (dj1 (Dj.inl (D6539).symm))
                        replace F8094 := F8094.chg hc9390 (dj1 (Dj.inl (D6543).symm))
                        replace F8095 := F8095.chg hc9390 (dj1 (Dj.inl (D8099).symm))
                        replace F8162 := F8162.chg hc9390 (Dj.inl (D8167).symm)
                        replace F8176 := F8176.chg hc9390 (Dj.inl (D8182).symm)
                        replace F9351 := F9351.chg hc9390 (Dj.inl (D9355).symm)
                        replace F9369 := F9369.chg hc9390 (Dj.inl (D9374).symm)
                        replace hB := hB.inS hc9390 (memS_inl (inLow G6385))
                        replace hZ := Nat.le_trans hZ hc9390.size
                        refine wS_pure 2 [(6, .slice A9387 (l6373 ++ (([([x7513, x7514] : List (Int))] : List (List (Int))))).length cap9388), (4, .slice A9367 (l6363 ++ (([(x8082, x8083, x8084, x8085, x8086)] : List (Int × Int × Int × Int × Int)))).length cap9368)] (by kernel_rfl) ?_
                        refine wS_end (by rfl) ?_
                        have hq : (some ((l6363 ++ (([(x8082, x8083, x8084, x8085, x8086)] : List (Int × Int × Int × Int × Int))), l6373 ++ (([([x7513, x7514] : List (Int))] : List (List (Int)))))) : Option ((List (Int × Int × Int × Int × Int)) × (List (List (Int))))) = some _ := hm
                        replace hq := someE hq
                        subst hq
                        exact eX_J (fun hst => ⟨l6363 ++ (([(x8082, x8083, x8084, x8085, x8086)] : List (Int × Int × Int × Int × Int))), A9367, cap9368, fp9366, l6373 ++ (([([x7513, x7514] : List (Int))] : List (List (Int)))), A9387, cap9388, fp9386, (fr6378 ++ [b9205]), rfl, Fr.of hst (by kernel_rfl), F8176, F9369, F9389, G9373, G9393, D9379, (D9400).symm, D9398, hB, hZ⟩)
                  · rintro a' w8979 ⟨l8980, A8981, cap8982, fp8983, l8985, A8986, cap8987, fp8988, fr8990, hJ, hF8991, F8992, F8993, F8994, G8995, G8996, D8997, D8998, D8999, hB, hZ⟩
                    subst hJ
                    refine Fr.goX hF8991 (by kernel_rfl) ?_
                    refine eX_block ?_
                    have hq : (some (Ctl.next ((l8980, y8154 ++ (([((l6363).length : Int)] : List (Int))), l8985))) : Option (Ctl ((List (Int × Int × Int × Int × Int)) × (List (Int)) × (List (List (Int)))) (Sum ((List (List (Int)))) ((List (List (Int))) × (Bool))))) = some _ := hm
                    replace hq := someE hq
                    subst hq
                    exact eX_next hx6394 (fun hst => ⟨l8980, A8981, cap8982, fp8983, y8154 ++ (([((l6363).length : Int)] : List (Int))), A8174, cap8175, fp8173, l8985, A8986, cap8987, fp8988, fr8990, rfl, Fr.of hst (by kernel_rfl), F8993, F8992, F8994, G8995, G8180, G8996, D8997, D8998, (D8999).symm, hB, hZ⟩)
        · have hm := condF hb6395 hm
          refine cW_exit ?_
          refine eX_then_exit ?_
          have hq : (some (Ctl.out (Sum.inl l6373)) : Option (Ctl ((List (Int × Int × Int × Int × Int)) × (List (Int)) × (List (List (Int)))) (Sum ((List (List (Int)))) ((List (List (Int))) × (Bool))))) = some _ := hm
          replace hq := someE hq
          subst hq
          refine eX_outX hx6394 (fun hr9401 => ?_)
          replace hr9401 := hr9401.symm
          subst hr9401
          refine eX_block_hit ?_
          exact eX_J (fun hst => ⟨l6373, A6374, cap6375, fp6376, fr6378, rfl, Fr.of hst (by kernel_rfl), F6382, G6385, hB, hZ⟩)
      · rintro a' w6352 ⟨l6353, A6354, cap6355, fp6356, fr6358, hJ, hF6359, F6360, G6361, hB, hZ⟩
        subst hJ
        refine Fr.goX hF6359 (by kernel_rfl) ?_
        refine eX_then ?_
        refine cW_seq ?_
        refine cW_region ?_
        refine wS_pure 3 [(3, .bool (true)), (2, .slice A6354 (l6353).length cap6355), (128, .slice A6354 (l6353).length cap6355)] (by kernel_rfl) ?_
        refine wS_end (by rfl) ?_
        refine eX_then ?_
        refine cW_ret ?_
        have hq : (some ((l6353, true)) : Option ((List (List (Int))) × (Bool))) = some _ := hm
        replace hq := someE hq
        subst hq
        refine eX_ret (vs := [.slice A6354 (l6353).length cap6355, .bool (true)]) [.tmp 2, .tmp 3] (by rfl) ⟨by (show lkE _ _ _ = _); kernel_rfl, ⟨by (show lkE _ _ _ = _); kernel_rfl, trivial⟩⟩ ?_
        exact ⟨A6354, cap6355, fp6356, fr6358, rfl, F6360, G6361, hB⟩

set_option maxRecDepth 100000 in
/-- laws.szPointS -/
theorem c_laws_szPointS {w0 : World} {l0 : List (Int × Int)} {A0 : Option Addr} {cap0 : Nat} {fp0 : List Nat} {p1 : Int} {r : (Int)} (hm : m_laws_szPointS l0 p1 = some r) (F0 : Sl 2 encII w0 fp0 A0 l0) :
    Calls Try.prog 53 #[.slice A0 (l0).length cap0, .int .i64 (p1)] w0 fun e w' => e = .returned (.int .i64 (r)) ∧ Chg [] w0 w' := by
  have L0 := F0.low
  have hB : Chg [] w0 w0 := Chg.refl _ _
  have hZ := Nat.le_refl w0.heap.size
  unfold m_laws_szPointS at hm
  refine enterE (N := 12) Try.func53 (by rfl) Try.ntmps53 (by simp) [(0, .slice A0 (l0).length cap0), (1, .int .i64 (p1))] (by rfl) (by kernel_rfl) (fun a => ?_)
  refine cW_seq ?_
  refine cW_region ?_
  refine wS_pure 1 [(4, .int .i64 (0))] (by kernel_rfl) ?_
  refine wS_end (by rfl) ?_
  refine eX_then ?_
  refine cW_seq ?_
  refine cW_region ?_
  refine wS_pure 5 [(1, .int .i64 (wr (p1 - (((l0).length : Int))))), (8, .int .i64 (wr (p1 - (((l0).length : Int))))), (7, .int .i64 (((l0).length : Int))), (6, .slice A0 (l0).length cap0), (5, .int .i64 (p1))] (by kernel_rfl) ?_
  refine wS_end (by rfl) ?_
  refine eX_then ?_
  refine cW_seq ?_
  refine cW_seq ?_
  refine cW_region ?_
  refine wS_pure 2 [(10, .bool (decide ((wr (p1 - (((l0).length : Int)))) < 0))), (9, .int .i64 (wr (p1 - (((l0).length : Int)))))] (by kernel_rfl) ?_
  refine wS_end (by rfl) ?_
  refine eX_then ?_
  refine cW_cond (t := decide ((wr (p1 - (((l0).length : Int)))) < 0)) (by kernel_rfl) (fun hb2 => ?_) (fun hb2 => ?_)
  · have hm := condT hb2 hm
    refine cW_seq ?_
    refine cW_region ?_
    refine wS_pure 1 [(4, .int .i64 ((-1)))] (by kernel_rfl) ?_
    refine wS_end (by rfl) ?_
    refine eX_then ?_
    refine cW_ret ?_
    refine eX_then_ret ?_
    have hq : (some ((-1)) : Option ((Int))) = some _ := hm
    replace hq := someE hq
    subst hq
    refine eX_ret (vs := [.int .i64 ((-1))]) [.tmp 4] (by rfl) ⟨by (show lkE _ _ _ = _); kernel_rfl, trivial⟩ ?_
    exact ⟨rfl, hB⟩
  · have hm := condF hb2 hm
    refine cW_skip ?_
    refine eX_then ?_
    refine cW_seq ?_
    refine cW_region ?_
    refine wS_pure 2 [(4, .int .i64 (wr (p1 - (((l0).length : Int))))), (11, .int .i64 (wr (p1 - (((l0).length : Int)))))] (by kernel_rfl) ?_
    refine wS_end (by rfl) ?_
    refine eX_then ?_
    refine cW_ret ?_
    have hq : (some (wr (p1 - (((l0).length : Int)))) : Option ((Int))) = some _ := hm
    replace hq := someE hq
    subst hq
    refine eX_ret (vs := [.int .i64 (wr (p1 - (((l0).length : Int))))]) [.tmp 4] (by rfl) ⟨by (show lkE _ _ _ = _); kernel_rfl, trivial⟩ ?_
    exact ⟨rfl, hB⟩

set_option maxRecDepth 100000 in
/-- spec.l01Point -/
theorem c_spec_l01Point {w0 : World} {p0_0 : Int} {p0_1 : Int} {r : (Bool)} (hm : m_spec_l01Point p0_0 p0_1 = some r)  :
    Calls Try.prog 159 #[.agg #[.int .i64 (p0_0), .int .i64 (p0_1)]] w0 fun e w' => e = .returned (.bool (r)) ∧ Chg [] w0 w' := by
  have hB : Chg [] w0 w0 := Chg.refl _ _
  have hZ := Nat.le_refl w0.heap.size
  unfold m_spec_l01Point at hm
  refine enterE (N := 11) Try.func159 (by rfl) Try.ntmps159 (by simp) [(0, .agg #[.int .i64 (p0_0), .int .i64 (p0_1)])] (by rfl) (by kernel_rfl) (fun a => ?_)
  refine cW_seq ?_
  refine cW_region ?_
  refine wS_box (d := 1) (T := 116) (x := .agg #[.int .i64 (p0_0), .int .i64 (p0_1)]) (by kernel_rfl) ?_
  intro b1 w2 G3 F4 hc5
  replace F4 : Cl w2 b1 116 [.int .i64 (p0_0), .int .i64 (p0_1)] := F4
  replace hB := hB.inS hc5 inNil
  replace G3 := Nat.le_trans hZ G3
  replace hZ := Nat.le_trans hZ hc5.size
  refine wS_pure 1 [(2, .bool (false))] (by kernel_rfl) ?_
  refine wS_end (by rfl) ?_
  refine eX_then ?_
  refine cW_seq ?_
  refine cW_region ?_
  refine wS_pure 1 [(3, .pointer (some ⟨b1, 0, none⟩))] (by kernel_rfl) ?_
  refine wS_load1 (d := 4) (T := 2) (ad := ⟨b1, 0, none⟩) (v := .int .i64 (p0_0)) (by kernel_rfl) vt2 ((F4).cell 0) ?_
  obtain ⟨y7, hy8, hm⟩ := bindE hm
  refine wS_calls (d := 5) (f := 118) (vs := [.int .i64 (p0_0), .int .i64 (0), .int .i64 (99)]) (by kernel_rfl) ent118 (c_spec_l00In hy8) ?_
  rintro _ w9 ⟨rfl, hc10⟩
  replace F4 := F4.chg hc10 notNil
  replace hB := hB.inS hc10 inNil
  replace hZ := Nat.le_trans hZ hc10.size
  refine ⟨.bool (y7), rfl, ?_⟩
  refine wS_pure 1 [(6, .bool (y7))] (by kernel_rfl) ?_
  refine wS_bool y7 (fun hb11 => ?_) (fun hb11 => ?_)
  · have hm := condT hb11 hm
    rewrite [hb11]
    refine wS_pure 1 [(7, .pointer (some ⟨b1, 1, none⟩))] (by kernel_rfl) ?_
    refine wS_load1 (d := 8) (T := 2) (ad := ⟨b1, 1, none⟩) (v := .int .i64 (p0_1)) (by kernel_rfl) vt2 ((F4).cell 1) ?_
    obtain ⟨y12, hy13, hm⟩ := bindE hm
    refine wS_calls (d := 9) (f := 118) (vs := [.int .i64 (p0_1), .int .i64 (0), .int .i64 (99)]) (by kernel_rfl) ent118 (c_spec_l00In hy13) ?_
    rintro _ w14 ⟨rfl, hc15⟩
    replace F4 := F4.chg hc15 notNil
    replace hB := hB.inS hc15 inNil
    replace hZ := Nat.le_trans hZ hc15.size
    refine ⟨.bool (y12), rfl, ?_⟩
    refine wS_pure 2 [(2, .bool (y12)), (10, .bool (y12))] (by kernel_rfl) ?_
    refine wS_end (by rfl) ?_
    refine eX_then ?_
    refine cW_ret ?_
    have hq : (some y12 : Option ((Bool))) = some _ := hm
    replace hq := someE hq
    subst hq
    refine eX_ret (vs := [.bool (y12)]) [.tmp 2] (by rfl) ⟨by (show lkE _ _ _ = _); kernel_rfl, trivial⟩ ?_
    exact ⟨rfl, hB⟩
  · have hm := condF hb11 hm
    rewrite [hb11]
    refine wS_pure 5 [(2, .bool (false)), (10, .bool (false)), (9, undef), (8, undef), (7, undef)] (by kernel_rfl) ?_
    refine wS_end (by rfl) ?_
    refine eX_then ?_
    refine cW_ret ?_
    have hq : (some false : Option ((Bool))) = some _ := hm
    replace hq := someE hq
    subst hq
    refine eX_ret (vs := [.bool (false)]) [.tmp 2] (by rfl) ⟨by (show lkE _ _ _ = _); kernel_rfl, trivial⟩ ?_
    exact ⟨rfl, hB⟩

set_option maxRecDepth 100000 in
/-- spec.l01Points -/
theorem c_spec_l01Points {w0 : World} {l0 : List (Int × Int)} {A0 : Option Addr} {cap0 : Nat} {fp0 : List Nat} {r : (Bool)} (hm : m_spec_l01Points l0 = some r) (F0 : Sl 2 encII w0 fp0 A0 l0) :
    Calls Try.prog 142 #[.slice A0 (l0).length cap0] w0 fun e w' => e = .returned (.bool (r)) ∧ Chg [] w0 w' := by
  have L0 := F0.low
  have hB : Chg [] w0 w0 := Chg.refl _ _
  have hZ := Nat.le_refl w0.heap.size
  unfold m_spec_l01Points at hm
  refine enterE (N := 19) Try.func142 (by rfl) Try.ntmps142 (by simp) [(0, .slice A0 (l0).length cap0)] (by rfl) (by kernel_rfl) (fun a => ?_)
  refine cW_seq ?_
  refine cW_region ?_
  refine wS_pure 1 [(2, .bool (false))] (by kernel_rfl) ?_
  refine wS_end (by rfl) ?_
  refine eX_then ?_
  refine cW_seq ?_
  refine cW_seq ?_
  refine cW_region ?_
  refine wS_pure 1 [(3, .int .i64 (0))] (by kernel_rfl) ?_
  refine wS_end (by rfl) ?_
  refine eX_then ?_
  obtain ⟨r30, hr31, hm⟩ := bindE hm
  have hm32 := hm
  refine cW_cut (fun a' w' => Sum.inl (()) = r30 ∧ Fr 19 [(0, .slice A0 (l0).length cap0)] a' ∧ Sl 2 encII w' fp0 A0 l0 ∧ Chg [] w0 w' ∧ w0.heap.size ≤ w'.heap.size) ?_ ?_
  · refine cW_block ?_
    refine cW_loop _ (fun (s33 : Int) a' w' => ∃ x27 : Int, x27 = s33 ∧ Fr 19 [(0, .slice A0 (l0).length cap0), (3, .int .i64 (x27))] a' ∧ Sl 2 encII w' fp0 A0 l0 ∧ Chg [] w0 w' ∧ w0.heap.size ≤ w'.heap.size) hr31 (fun hst => ⟨0, rfl, Fr.of hst (by kernel_rfl), F0, hB, hZ⟩) ?_
    rintro _ c34 a' w26 ⟨x27, rfl, hF28, F29, hB, hZ⟩ hx35
    refine Fr.goOn hF28 (by kernel_rfl) ?_
    have hm := hx35
    unfold m_spec_l01Points_s1 at hm
    refine cW_seq ?_
    refine cW_seq ?_
    refine cW_region ?_
    refine wS_pure 4 [(7, .bool (decide (x27 < (((l0).length : Int))))), (6, .int .i64 (((l0).length : Int))), (5, .slice A0 (l0).length cap0), (4, .int .i64 (x27))] (by kernel_rfl) ?_
    refine wS_end (by rfl) ?_
    refine eX_then ?_
    refine cW_cond (t := decide (x27 < (((l0).length : Int)))) (by kernel_rfl) (fun hb36 => ?_) (fun hb36 => ?_)
    · have hm := condT hb36 hm
      refine cW_skip ?_
      refine eX_then ?_
      refine cW_seq ?_
      refine cW_block ?_
      refine cW_seq ?_
      refine cW_region ?_
      refine wS_pure 2 [(11, .int .i64 (x27)), (10, .slice A0 (l0).length cap0)] (by kernel_rfl) ?_
      obtain ⟨x37, hx38, hm⟩ := bindE hm
      refine wS_idx (d := 12) (T := 58) (A := A0) (n := (l0).length) (cap := cap0) (kd := .i64) (m := x27) (by kernel_rfl) sl58 (F29.is hx38) ?_
      refine wS_loadA (d := 13) (T := 116) (ad := (elA A0 2 (x27) 0)) (vs := [.int .i64 (x37.1), .int .i64 (x37.2)]) (by kernel_rfl) vt116 (fun i u hu => Sl.cells_at F29 hx38 0 hu (by rfl)) ?_
      obtain ⟨y39, hy40, hm⟩ := bindE hm
      refine wS_calls (d := 14) (f := 159) (vs := [.agg #[.int .i64 (x37.1), .int .i64 (x37.2)]]) (by kernel_rfl) ent159 (c_spec_l01Point hy40) ?_
      rintro _ w41 ⟨rfl, hc42⟩
      replace F29 := F29.chg hc42 Dj.nil
      replace hB := hB.inS hc42 inNil
      replace hZ := Nat.le_trans hZ hc42.size
      refine ⟨.bool (y39), rfl, ?_⟩
      refine wS_pure 1 [(15, .bool (!y39))] (by kernel_rfl) ?_
      refine wS_end (by rfl) ?_
      refine eX_then ?_
      refine cW_cond (t := !y39) (by kernel_rfl) (fun hb43 => ?_) (fun hb43 => ?_)
      · have hm := condT hb43 hm
        refine cW_seq ?_
        refine cW_region ?_
        refine wS_pure 1 [(2, .bool (false))] (by kernel_rfl) ?_
        refine wS_end (by rfl) ?_
        refine eX_then ?_
        refine cW_ret ?_
        refine eX_block_ret ?_
        refine eX_then_ret ?_
        have hq : (some (Ctl.out (Sum.inr false)) : Option (Ctl (Int) (Sum (Unit) ((Bool))))) = some _ := hm
        replace hq := someE hq
        subst hq
        refine eX_outR hx35 (fun hr => ?_)
        subst hr
        refine eX_block_ret ?_
        refine eX_then_ret ?_
        refine eX_then_ret ?_
        have hq : (some false : Option ((Bool))) = some _ := hm32
        replace hq := someE hq
        subst hq
        refine eX_ret (vs := [.bool (false)]) [.tmp 2] (by rfl) ⟨by (show lkE _ _ _ = _); kernel_rfl, trivial⟩ ?_
        exact ⟨rfl, hB⟩
      · have hm := condF hb43 hm
        refine cW_skip ?_
        refine eX_block ?_
        refine eX_then ?_
        refine cW_region ?_
        refine wS_pure 3 [(3, .int .i64 (wr (x27 + 1))), (9, .int .i64 (wr (x27 + 1))), (8, .int .i64 (x27))] (by kernel_rfl) ?_
        refine wS_end (by rfl) ?_
        have hq : (some (Ctl.next (wr (x27 + 1))) : Option (Ctl (Int) (Sum (Unit) ((Bool))))) = some _ := hm
        replace hq := someE hq
        subst hq
        exact eX_next hx35 (fun hst => ⟨wr (x27 + 1), rfl, Fr.of hst (by kernel_rfl), F29, hB, hZ⟩)
    · have hm := condF hb36 hm
      refine cW_exit ?_
      refine eX_then_exit ?_
      have hq : (some (Ctl.out (Sum.inl (()))) : Option (Ctl (Int) (Sum (Unit) ((Bool))))) = some _ := hm
      replace hq := someE hq
      subst hq
      refine eX_outX hx35 (fun hr44 => ?_)
      replace hr44 := hr44.symm
      subst hr44
      refine eX_block_hit ?_
      exact eX_J (fun hst => ⟨rfl, Fr.of hst (by kernel_rfl), F29, hB, hZ⟩)
  · rintro a' w23 ⟨hJ, hF24, F25, hB, hZ⟩
    subst hJ
    refine Fr.goX hF24 (by kernel_rfl) ?_
    refine eX_then ?_
    refine cW_seq ?_
    refine cW_region ?_
    refine wS_pure 4 [(2, .bool (decide ((((l0).length : Int)) ≤ 24))), (18, .bool (decide ((((l0).length : Int)) ≤ 24))), (17, .int .i64 (((l0).length : Int))), (16, .slice A0 (l0).length cap0)] (by kernel_rfl) ?_
    refine wS_end (by rfl) ?_
    refine eX_then ?_
    refine cW_ret ?_
    have hq : (some (decide ((((l0).length : Int)) ≤ 24)) : Option ((Bool))) = some _ := hm
    replace hq := someE hq
    subst hq
    refine eX_ret (vs := [.bool (decide ((((l0).length : Int)) ≤ 24))]) [.tmp 2] (by rfl) ⟨by (show lkE _ _ _ = _); kernel_rfl, trivial⟩ ?_
    exact ⟨rfl, hB⟩

set_option maxRecDepth 100000 in
/-- spec.l06Pins -/
theorem c_spec_l06Pins {w0 : World} {l0 : List (Int × Int)} {A0 : Option Addr} {cap0 : Nat} {fp0 : List Nat} {r : (Bool)} (hm : m_spec_l06Pins l0 = some r) (F0 : Sl 2 encII w0 fp0 A0 l0) :
    Calls Try.prog 107 #[.slice A0 (l0).length cap0] w0 fun e w' => e = .returned (.bool (r)) ∧ Chg [] w0 w' := by
  have L0 := F0.low
  have hB : Chg [] w0 w0 := Chg.refl _ _
  have hZ := Nat.le_refl w0.heap.size
  unfold m_spec_l06Pins at hm
  refine enterE (N := 10) Try.func107 (by rfl) Try.ntmps107 (by simp) [(0, .slice A0 (l0).length cap0)] (by rfl) (by kernel_rfl) (fun a => ?_)
  refine cW_seq ?_
  refine cW_region ?_
  refine wS_pure 1 [(2, .bool (false))] (by kernel_rfl) ?_
  refine wS_end (by rfl) ?_
  refine eX_then ?_
  refine cW_seq ?_
  refine cW_region ?_
  refine wS_pure 2 [(4, .int .i64 (((l0).length : Int))), (3, .slice A0 (l0).length cap0)] (by kernel_rfl) ?_
  obtain ⟨y2, hy3, hm⟩ := bindE hm
  refine wS_calls (d := 5) (f := 118) (vs := [.int .i64 (((l0).length : Int)), .int .i64 (2), .int .i64 (12)]) (by kernel_rfl) ent118 (c_spec_l00In hy3) ?_
  rintro _ w4 ⟨rfl, hc5⟩
  replace F0 := F0.chg hc5 Dj.nil
  replace hB := hB.inS hc5 inNil
  replace hZ := Nat.le_trans hZ hc5.size
  refine ⟨.bool (y2), rfl, ?_⟩
  refine wS_pure 1 [(6, .bool (y2))] (by kernel_rfl) ?_
  refine wS_bool y2 (fun hb6 => ?_) (fun hb6 => ?_)
  · have hm := condT hb6 hm
    rewrite [hb6]
    refine wS_pure 1 [(7, .slice A0 (l0).length cap0)] (by kernel_rfl) ?_
    obtain ⟨y7, hy8, hm⟩ := bindE hm
    refine wS_calls (d := 8) (f := 142) (vs := [.slice A0 (l0).length cap0]) (by kernel_rfl) ent142 (c_spec_l01Points hy8 F0) ?_
    rintro _ w9 ⟨rfl, hc10⟩
    replace F0 := F0.chg hc10 Dj.nil
    replace hB := hB.inS hc10 inNil
    replace hZ := Nat.le_trans hZ hc10.size
    refine ⟨.bool (y7), rfl, ?_⟩
    refine wS_pure 2 [(2, .bool (y7)), (9, .bool (y7))] (by kernel_rfl) ?_
    refine wS_end (by rfl) ?_
    refine eX_then ?_
    refine cW_ret ?_
    have hq : (some y7 : Option ((Bool))) = some _ := hm
    replace hq := someE hq
    subst hq
    refine eX_ret (vs := [.bool (y7)]) [.tmp 2] (by rfl) ⟨by (show lkE _ _ _ = _); kernel_rfl, trivial⟩ ?_
    exact ⟨rfl, hB⟩
  · have hm := condF hb6 hm
    rewrite [hb6]
    refine wS_pure 4 [(2, .bool (false)), (9, .bool (false)), (8, undef), (7, undef)] (by kernel_rfl) ?_
    refine wS_end (by rfl) ?_
    refine eX_then ?_
    refine cW_ret ?_
    have hq : (some false : Option ((Bool))) = some _ := hm
    replace hq := someE hq
    subst hq
    refine eX_ret (vs := [.bool (false)]) [.tmp 2] (by rfl) ⟨by (show lkE _ _ _ = _); kernel_rfl, trivial⟩ ?_
    exact ⟨rfl, hB⟩

set_option maxRecDepth 100000 in
/-- spec.l06Leaf -/
theorem c_spec_l06Leaf {w0 : World} {p0_0 : Int} {p0_1 : Int} {r : (Int × Int × Int × Int)} (hm : m_spec_l06Leaf p0_0 p0_1 = some r)  :
    Calls Try.prog 143 #[.agg #[.int .i64 (p0_0), .int .i64 (p0_1)]] w0 fun e w' => e = .returned (.agg #[.int .i64 (r.1), .int .i64 (r.2.1), .int .i64 (r.2.2.1), .int .i64 (r.2.2.2)]) ∧ Chg [] w0 w' := by
  have hB : Chg [] w0 w0 := Chg.refl _ _
  have hZ := Nat.le_refl w0.heap.size
  unfold m_spec_l06Leaf at hm
  refine enterE (N := 22) Try.func143 (by rfl) Try.ntmps143 (by simp) [(0, .agg #[.int .i64 (p0_0), .int .i64 (p0_1)])] (by rfl) (by kernel_rfl) (fun a => ?_)
  refine cW_seq ?_
  refine cW_region ?_
  refine wS_box (d := 1) (T := 116) (x := .agg #[.int .i64 (p0_0), .int .i64 (p0_1)]) (by kernel_rfl) ?_
  intro b1 w2 G3 F4 hc5
  replace F4 : Cl w2 b1 116 [.int .i64 (p0_0), .int .i64 (p0_1)] := F4
  replace hB := hB.inS hc5 inNil
  replace G3 := Nat.le_trans hZ G3
  replace hZ := Nat.le_trans hZ hc5.size
  refine wS_alloc (d := 2) (T := 25) (z := .agg #[.int .i64 (0), .int .i64 (0), .int .i64 (0), .int .i64 (0)]) (by kernel_rfl) (by kernel_rfl) ?_
  intro b7 w8 G9 F10 hc11
  replace F10 : Cl w8 b7 25 [.int .i64 (0), .int .i64 (0), .int .i64 (0), .int .i64 (0)] := F10
  have D13 : Dj [b1] [b7] := Dj.of (lt1 F4.lt) (low1 G9)
  replace F4 := F4.chg hc11 notNil
  replace hB := hB.inS hc11 inNil
  replace G9 := Nat.le_trans hZ G9
  replace hZ := Nat.le_trans hZ hc11.size
  refine wS_end (by rfl) ?_
  refine eX_then ?_
  refine cW_seq ?_
  refine cW_region ?_
  refine wS_pure 1 [(5, .pointer (some ⟨b1, 0, none⟩))] (by kernel_rfl) ?_
  refine wS_load1 (d := 6) (T := 2) (ad := ⟨b1, 0, none⟩) (v := .int .i64 (p0_0)) (by kernel_rfl) vt2 ((F4).cell 0) ?_
  refine wS_pure 1 [(7, .pointer (some ⟨b1, 1, none⟩))] (by kernel_rfl) ?_
  refine wS_load1 (d := 8) (T := 2) (ad := ⟨b1, 1, none⟩) (v := .int .i64 (p0_1)) (by kernel_rfl) vt2 ((F4).cell 1) ?_
  refine wS_pure 3 [(3, .int .i64 (wr ((wr (p0_0 + p0_1)) * 4096))), (10, .int .i64 (wr ((wr (p0_0 + p0_1)) * 4096))), (9, .int .i64 (wr (p0_0 + p0_1)))] (by kernel_rfl) ?_
  refine wS_end (by rfl) ?_
  refine eX_then ?_
  refine cW_seq ?_
  refine cW_region ?_
  refine wS_pure 1 [(11, .pointer (some ⟨b1, 0, none⟩))] (by kernel_rfl) ?_
  refine wS_load1 (d := 12) (T := 2) (ad := ⟨b1, 0, none⟩) (v := .int .i64 (p0_0)) (by kernel_rfl) vt2 ((F4).cell 0) ?_
  refine wS_pure 1 [(13, .pointer (some ⟨b1, 1, none⟩))] (by kernel_rfl) ?_
  refine wS_load1 (d := 14) (T := 2) (ad := ⟨b1, 1, none⟩) (v := .int .i64 (p0_1)) (by kernel_rfl) vt2 ((F4).cell 1) ?_
  refine wS_pure 3 [(4, .int .i64 (wr ((wr (p0_0 - p0_1)) * 4096))), (16, .int .i64 (wr ((wr (p0_0 - p0_1)) * 4096))), (15, .int .i64 (wr (p0_0 - p0_1)))] (by kernel_rfl) ?_
  refine wS_end (by rfl) ?_
  refine eX_then ?_
  refine cW_seq ?_
  refine cW_region ?_
  refine wS_pure 5 [(21, .agg #[.int .i64 (wr ((wr (p0_0 + p0_1)) * 4096)), .int .i64 (wr ((wr (p0_0 + p0_1)) * 4096)), .int .i64 (wr ((wr (p0_0 - p0_1)) * 4096)), .int .i64 (wr ((wr (p0_0 - p0_1)) * 4096))]), (20, .int .i64 (wr ((wr (p0_0 - p0_1)) * 4096))), (19, .int .i64 (wr ((wr (p0_0 - p0_1)) * 4096))), (18, .int .i64 (wr ((wr (p0_0 + p0_1)) * 4096))), (17, .int .i64 (wr ((wr (p0_0 + p0_1)) * 4096)))] (by kernel_rfl) ?_
  refine wS_store (T := 25) (g := b7) (o := 0) (ad := ⟨b7, 0, none⟩) (v := .agg #[.int .i64 (wr ((wr (p0_0 + p0_1)) * 4096)), .int .i64 (wr ((wr (p0_0 + p0_1)) * 4096)), .int .i64 (wr ((wr (p0_0 - p0_1)) * 4096)), .int .i64 (wr ((wr (p0_0 - p0_1)) * 4096))]) (vs := [.int .i64 (wr ((wr (p0_0 + p0_1)) * 4096)), .int .i64 (wr ((wr (p0_0 + p0_1)) * 4096)), .int .i64 (wr ((wr (p0_0 - p0_1)) * 4096)), .int .i64 (wr ((wr (p0_0 - p0_1)) * 4096))]) (by kernel_rfl) (by rfl) sz25 (by rfl) (by rfl) F10 (by simp only [List.length_cons, List.length_nil]; omega) ?_
  intro w14 F15 hc16
  replace F4 := F4.chg hc16 (dj1 D13)
  replace hB := hB.inS hc16 (inLow (low1 G9))
  replace hZ := Nat.le_trans hZ hc16.size
  replace F15 : Cl w14 b7 25 [.int .i64 (wr ((wr (p0_0 + p0_1)) * 4096)), .int .i64 (wr ((wr (p0_0 + p0_1)) * 4096)), .int .i64 (wr ((wr (p0_0 - p0_1)) * 4096)), .int .i64 (wr ((wr (p0_0 - p0_1)) * 4096))] := F15
  clear F10
  refine wS_end (by rfl) ?_
  refine eX_then ?_
  refine cW_ret ?_
  have hq : (some ((wr ((wr (p0_0 + p0_1)) * 4096), wr ((wr (p0_0 + p0_1)) * 4096), wr ((wr (p0_0 - p0_1)) * 4096), wr ((wr (p0_0 - p0_1)) * 4096))) : Option ((Int × Int × Int × Int))) = some _ := hm
  replace hq := someE hq
  subst hq
  refine eX_ret (vs := [.agg #[.int .i64 (wr ((wr (p0_0 + p0_1)) * 4096)), .int .i64 (wr ((wr (p0_0 + p0_1)) * 4096)), .int .i64 (wr ((wr (p0_0 - p0_1)) * 4096)), .int .i64 (wr ((wr (p0_0 - p0_1)) * 4096))]]) [.cell 2 25] (by rfl) ⟨⟨⟨b7, 0, none⟩, by kernel_rfl, run_loadVarA (vs := [.int .i64 (wr ((wr (p0_0 + p0_1)) * 4096)), .int .i64 (wr ((wr (p0_0 + p0_1)) * 4096)), .int .i64 (wr ((wr (p0_0 - p0_1)) * 4096)), .int .i64 (wr ((wr (p0_0 - p0_1)) * 4096))]) vt25 (fun i u hu => by exact box_cells F15 0 hu (by rfl))⟩, trivial⟩ ?_
  exact ⟨rfl, hB⟩

set_option maxRecDepth 100000 in
/-- spec.l00Max -/
theorem c_spec_l00Max {w0 : World} {p0 : Int} {p1 : Int} {r : (Int)} (hm : m_spec_l00Max p0 p1 = some r)  :
    Calls Try.prog 145 #[.int .i64 (p0), .int .i64 (p1)] w0 fun e w' => e = .returned (.int .i64 (r)) ∧ Chg [] w0 w' := by
  have hB : Chg [] w0 w0 := Chg.refl _ _
  have hZ := Nat.le_refl w0.heap.size
  unfold m_spec_l00Max at hm
  refine enterE (N := 10) Try.func145 (by rfl) Try.ntmps145 (by simp) [(0, .int .i64 (p0)), (1, .int .i64 (p1))] (by rfl) (by kernel_rfl) (fun a => ?_)
  refine cW_seq ?_
  refine cW_region ?_
  refine wS_pure 1 [(4, .int .i64 (0))] (by kernel_rfl) ?_
  refine wS_end (by rfl) ?_
  refine eX_then ?_
  refine cW_seq ?_
  refine cW_seq ?_
  refine cW_region ?_
  refine wS_pure 3 [(7, .bool (decide (p0 > p1))), (6, .int .i64 (p1)), (5, .int .i64 (p0))] (by kernel_rfl) ?_
  refine wS_end (by rfl) ?_
  refine eX_then ?_
  refine cW_cond (t := decide (p0 > p1)) (by kernel_rfl) (fun hb1 => ?_) (fun hb1 => ?_)
  · have hm := condT hb1 hm
    refine cW_seq ?_
    refine cW_region ?_
    refine wS_pure 2 [(4, .int .i64 (p0)), (8, .int .i64 (p0))] (by kernel_rfl) ?_
    refine wS_end (by rfl) ?_
    refine eX_then ?_
    refine cW_ret ?_
    refine eX_then_ret ?_
    have hq : (some p0 : Option ((Int))) = some _ := hm
    replace hq := someE hq
    subst hq
    refine eX_ret (vs := [.int .i64 (p0)]) [.tmp 4] (by rfl) ⟨by (show lkE _ _ _ = _); kernel_rfl, trivial⟩ ?_
    exact ⟨rfl, hB⟩
  · have hm := condF hb1 hm
    refine cW_skip ?_
    refine eX_then ?_
    refine cW_seq ?_
    refine cW_region ?_
    refine wS_pure 2 [(4, .int .i64 (p1)), (9, .int .i64 (p1))] (by kernel_rfl) ?_
    refine wS_end (by rfl) ?_
    refine eX_then ?_
    refine cW_ret ?_
    have hq : (some p1 : Option ((Int))) = some _ := hm
    replace hq := someE hq
    subst hq
    refine eX_ret (vs := [.int .i64 (p1)]) [.tmp 4] (by rfl) ⟨by (show lkE _ _ _ = _); kernel_rfl, trivial⟩ ?_
    exact ⟨rfl, hB⟩

set_option maxRecDepth 100000 in
/-- spec.l06Far -/
theorem c_spec_l06Far {w0 : World} {p0_0 : Int} {p0_1 : Int} {p0_2 : Int} {p0_3 : Int} {p1_0 : Int} {p1_1 : Int} {p1_2 : Int} {p1_3 : Int} {r : (Int)} (hm : m_spec_l06Far p0_0 p0_1 p0_2 p0_3 p1_0 p1_1 p1_2 p1_3 = some r)  :
    Calls Try.prog 109 #[.agg #[.int .i64 (p0_0), .int .i64 (p0_1), .int .i64 (p0_2), .int .i64 (p0_3)], .agg #[.int .i64 (p1_0), .int .i64 (p1_1), .int .i64 (p1_2), .int .i64 (p1_3)]] w0 fun e w' => e = .returned (.int .i64 (r)) ∧ Chg [] w0 w' := by
  have hB : Chg [] w0 w0 := Chg.refl _ _
  have hZ := Nat.le_refl w0.heap.size
  unfold m_spec_l06Far at hm
  refine enterE (N := 34) Try.func109 (by rfl) Try.ntmps109 (by simp) [(0, .agg #[.int .i64 (p0_0), .int .i64 (p0_1), .int .i64 (p0_2), .int .i64 (p0_3)]), (1, .agg #[.int .i64 (p1_0), .int .i64 (p1_1), .int .i64 (p1_2), .int .i64 (p1_3)])] (by rfl) (by kernel_rfl) (fun a => ?_)
  refine cW_seq ?_
  refine cW_region ?_
  refine wS_box (d := 2) (T := 25) (x := .agg #[.int .i64 (p0_0), .int .i64 (p0_1), .int .i64 (p0_2), .int .i64 (p0_3)]) (by kernel_rfl) ?_
  intro b1 w2 G3 F4 hc5
  replace F4 : Cl w2 b1 25 [.int .i64 (p0_0), .int .i64 (p0_1), .int .i64 (p0_2), .int .i64 (p0_3)] := F4
  replace hB := hB.inS hc5 inNil
  replace G3 := Nat.le_trans hZ G3
  replace hZ := Nat.le_trans hZ hc5.size
  refine wS_box (d := 3) (T := 25) (x := .agg #[.int .i64 (p1_0), .int .i64 (p1_1), .int .i64 (p1_2), .int .i64 (p1_3)]) (by kernel_rfl) ?_
  intro b7 w8 G9 F10 hc11
  replace F10 : Cl w8 b7 25 [.int .i64 (p1_0), .int .i64 (p1_1), .int .i64 (p1_2), .int .i64 (p1_3)] := F10
  have D13 : Dj [b1] [b7] := Dj.of (lt1 F4.lt) (low1 G9)
  replace F4 := F4.chg hc11 notNil
  replace hB := hB.inS hc11 inNil
  replace G9 := Nat.le_trans hZ G9
  replace hZ := Nat.le_trans hZ hc11.size
  refine wS_pure 1 [(4, .int .i64 (0))] (by kernel_rfl) ?_
  refine wS_end (by rfl) ?_
  refine eX_then ?_
  refine cW_seq ?_
  refine cW_region ?_
  refine wS_pure 1 [(7, .pointer (some ⟨b1, 0, none⟩))] (by kernel_rfl) ?_
  refine wS_load1 (d := 8) (T := 2) (ad := ⟨b1, 0, none⟩) (v := .int .i64 (p0_0)) (by kernel_rfl) vt2 ((F4).cell 0) ?_
  refine wS_pure 1 [(9, .pointer (some ⟨b7, 1, none⟩))] (by kernel_rfl) ?_
  refine wS_load1 (d := 10) (T := 2) (ad := ⟨b7, 1, none⟩) (v := .int .i64 (p1_1)) (by kernel_rfl) vt2 ((F10).cell 1) ?_
  refine wS_pure 2 [(12, .pointer (some ⟨b7, 0, none⟩)), (11, .int .i64 (wr (p0_0 - p1_1)))] (by kernel_rfl) ?_
  refine wS_load1 (d := 13) (T := 2) (ad := ⟨b7, 0, none⟩) (v := .int .i64 (p1_0)) (by kernel_rfl) vt2 ((F10).cell 0) ?_
  refine wS_pure 1 [(14, .pointer (some ⟨b1, 1, none⟩))] (by kernel_rfl) ?_
  refine wS_load1 (d := 15) (T := 2) (ad := ⟨b1, 1, none⟩) (v := .int .i64 (p0_1)) (by kernel_rfl) vt2 ((F4).cell 1) ?_
  refine wS_pure 1 [(16, .int .i64 (wr (p1_0 - p0_1)))] (by kernel_rfl) ?_
  obtain ⟨y14, hy15, hm⟩ := bindE hm
  refine wS_calls (d := 17) (f := 145) (vs := [.int .i64 (wr (p0_0 - p1_1)), .int .i64 (wr (p1_0 - p0_1))]) (by kernel_rfl) ent145 (c_spec_l00Max hy15) ?_
  rintro _ w16 ⟨rfl, hc17⟩
  replace F4 := F4.chg hc17 notNil
  replace F10 := F10.chg hc17 notNil
  replace hB := hB.inS hc17 inNil
  replace hZ := Nat.le_trans hZ hc17.size
  refine ⟨.int .i64 (y14), rfl, ?_⟩
  obtain ⟨y18, hy19, hm⟩ := bindE hm
  refine wS_calls (d := 18) (f := 145) (vs := [.int .i64 (0), .int .i64 (y14)]) (by kernel_rfl) ent145 (c_spec_l00Max hy19) ?_
  rintro _ w20 ⟨rfl, hc21⟩
  replace F4 := F4.chg hc21 notNil
  replace F10 := F10.chg hc21 notNil
  replace hB := hB.inS hc21 inNil
  replace hZ := Nat.le_trans hZ hc21.size
  refine ⟨.int .i64 (y18), rfl, ?_⟩
  refine wS_pure 1 [(5, .int .i64 (y18))] (by kernel_rfl) ?_
  refine wS_end (by rfl) ?_
  refine eX_then ?_
  refine cW_seq ?_
  refine cW_region ?_
  refine wS_pure 1 [(19, .pointer (some ⟨b1, 2, none⟩))] (by kernel_rfl) ?_
  refine wS_load1 (d := 20) (T := 2) (ad := ⟨b1, 2, none⟩) (v := .int .i64 (p0_2)) (by kernel_rfl) vt2 ((F4).cell 2) ?_
  refine wS_pure 1 [(21, .pointer (some ⟨b7, 3, none⟩))] (by kernel_rfl) ?_
  refine wS_load1 (d := 22) (T := 2) (ad := ⟨b7, 3, none⟩) (v := .int .i64 (p1_3)) (by kernel_rfl) vt2 ((F10).cell 3) ?_
  refine wS_pure 2 [(24, .pointer (some ⟨b7, 2, none⟩)), (23, .int .i64 (wr (p0_2 - p1_3)))] (by kernel_rfl) ?_
  refine wS_load1 (d := 25) (T := 2) (ad := ⟨b7, 2, none⟩) (v := .int .i64 (p1_2)) (by kernel_rfl) vt2 ((F10).cell 2) ?_
  refine wS_pure 1 [(26, .pointer (some ⟨b1, 3, none⟩))] (by kernel_rfl) ?_
  refine wS_load1 (d := 27) (T := 2) (ad := ⟨b1, 3, none⟩) (v := .int .i64 (p0_3)) (by kernel_rfl) vt2 ((F4).cell 3) ?_
  refine wS_pure 1 [(28, .int .i64 (wr (p1_2 - p0_3)))] (by kernel_rfl) ?_
  obtain ⟨y22, hy23, hm⟩ := bindE hm
  refine wS_calls (d := 29) (f := 145) (vs := [.int .i64 (wr (p0_2 - p1_3)), .int .i64 (wr (p1_2 - p0_3))]) (by kernel_rfl) ent145 (c_spec_l00Max hy23) ?_
  rintro _ w24 ⟨rfl, hc25⟩
  replace F4 := F4.chg hc25 notNil
  replace F10 := F10.chg hc25 notNil
  replace hB := hB.inS hc25 inNil
  replace hZ := Nat.le_trans hZ hc25.size
  refine ⟨.int .i64 (y22), rfl, ?_⟩
  obtain ⟨y26, hy27, hm⟩ := bindE hm
  refine wS_calls (d := 30) (f := 145) (vs := [.int .i64 (0), .int .i64 (y22)]) (by kernel_rfl) ent145 (c_spec_l00Max hy27) ?_
  rintro _ w28 ⟨rfl, hc29⟩
  replace F4 := F4.chg hc29 notNil
  replace F10 := F10.chg hc29 notNil
  replace hB := hB.inS hc29 inNil
  replace hZ := Nat.le_trans hZ hc29.size
  refine ⟨.int .i64 (y26), rfl, ?_⟩
  refine wS_pure 1 [(6, .int .i64 (y26))] (by kernel_rfl) ?_
  refine wS_end (by rfl) ?_
  refine eX_then ?_
  refine cW_prune [(5, .int .i64 (y18)), (6, .int .i64 (y26))] (by kernel_rfl) (by kernel_rfl) (fun a30 => ?_)
  refine cW_seq ?_
  refine cW_region ?_
  refine wS_pure 2 [(32, .int .i64 (y26)), (31, .int .i64 (y18))] (by kernel_rfl) ?_
  obtain ⟨y31, hy32, hm⟩ := bindE hm
  refine wS_calls (d := 33) (f := 145) (vs := [.int .i64 (y18), .int .i64 (y26)]) (by kernel_rfl) ent145 (c_spec_l00Max hy32) ?_
  rintro _ w33 ⟨rfl, hc34⟩
  replace F4 := F4.chg hc34 notNil
  replace F10 := F10.chg hc34 notNil
  replace hB := hB.inS hc34 inNil
  replace hZ := Nat.le_trans hZ hc34.size
  refine ⟨.int .i64 (y31), rfl, ?_⟩
  refine wS_pure 1 [(4, .int .i64 (y31))] (by kernel_rfl) ?_
  refine wS_end (by rfl) ?_
  refine eX_then ?_
  refine cW_ret ?_
  have hq : (some y31 : Option ((Int))) = some _ := hm
  replace hq := someE hq
  subst hq
  refine eX_ret (vs := [.int .i64 (y31)]) [.tmp 4] (by rfl) ⟨by (show lkE _ _ _ = _); kernel_rfl, trivial⟩ ?_
  exact ⟨rfl, hB⟩

set_option maxRecDepth 100000 in
/-- spec.l00Min -/
theorem c_spec_l00Min {w0 : World} {p0 : Int} {p1 : Int} {r : (Int)} (hm : m_spec_l00Min p0 p1 = some r)  :
    Calls Try.prog 175 #[.int .i64 (p0), .int .i64 (p1)] w0 fun e w' => e = .returned (.int .i64 (r)) ∧ Chg [] w0 w' := by
  have hB : Chg [] w0 w0 := Chg.refl _ _
  have hZ := Nat.le_refl w0.heap.size
  unfold m_spec_l00Min at hm
  refine enterE (N := 10) Try.func175 (by rfl) Try.ntmps175 (by simp) [(0, .int .i64 (p0)), (1, .int .i64 (p1))] (by rfl) (by kernel_rfl) (fun a => ?_)
  refine cW_seq ?_
  refine cW_region ?_
  refine wS_pure 1 [(4, .int .i64 (0))] (by kernel_rfl) ?_
  refine wS_end (by rfl) ?_
  refine eX_then ?_
  refine cW_seq ?_
  refine cW_seq ?_
  refine cW_region ?_
  refine wS_pure 3 [(7, .bool (decide (p0 < p1))), (6, .int .i64 (p1)), (5, .int .i64 (p0))] (by kernel_rfl) ?_
  refine wS_end (by rfl) ?_
  refine eX_then ?_
  refine cW_cond (t := decide (p0 < p1)) (by kernel_rfl) (fun hb1 => ?_) (fun hb1 => ?_)
  · have hm := condT hb1 hm
    refine cW_seq ?_
    refine cW_region ?_
    refine wS_pure 2 [(4, .int .i64 (p0)), (8, .int .i64 (p0))] (by kernel_rfl) ?_
    refine wS_end (by rfl) ?_
    refine eX_then ?_
    refine cW_ret ?_
    refine eX_then_ret ?_
    have hq : (some p0 : Option ((Int))) = some _ := hm
    replace hq := someE hq
    subst hq
    refine eX_ret (vs := [.int .i64 (p0)]) [.tmp 4] (by rfl) ⟨by (show lkE _ _ _ = _); kernel_rfl, trivial⟩ ?_
    exact ⟨rfl, hB⟩
  · have hm := condF hb1 hm
    refine cW_skip ?_
    refine eX_then ?_
    refine cW_seq ?_
    refine cW_region ?_
    refine wS_pure 2 [(4, .int .i64 (p1)), (9, .int .i64 (p1))] (by kernel_rfl) ?_
    refine wS_end (by rfl) ?_
    refine eX_then ?_
    refine cW_ret ?_
    have hq : (some p1 : Option ((Int))) = some _ := hm
    replace hq := someE hq
    subst hq
    refine eX_ret (vs := [.int .i64 (p1)]) [.tmp 4] (by rfl) ⟨by (show lkE _ _ _ = _); kernel_rfl, trivial⟩ ?_
    exact ⟨rfl, hB⟩

set_option maxRecDepth 100000 in
/-- spec.l06Meet -/
theorem c_spec_l06Meet {w0 : World} {p0_0 : Int} {p0_1 : Int} {p0_2 : Int} {p0_3 : Int} {p1_0 : Int} {p1_1 : Int} {p1_2 : Int} {p1_3 : Int} {r : (Int × Int × Int × Int)} (hm : m_spec_l06Meet p0_0 p0_1 p0_2 p0_3 p1_0 p1_1 p1_2 p1_3 = some r)  :
    Calls Try.prog 160 #[.agg #[.int .i64 (p0_0), .int .i64 (p0_1), .int .i64 (p0_2), .int .i64 (p0_3)], .agg #[.int .i64 (p1_0), .int .i64 (p1_1), .int .i64 (p1_2), .int .i64 (p1_3)]] w0 fun e w' => e = .returned (.agg #[.int .i64 (r.1), .int .i64 (r.2.1), .int .i64 (r.2.2.1), .int .i64 (r.2.2.2)]) ∧ Chg [] w0 w' := by
  have hB : Chg [] w0 w0 := Chg.refl _ _
  have hZ := Nat.le_refl w0.heap.size
  unfold m_spec_l06Meet at hm
  refine enterE (N := 26) Try.func160 (by rfl) Try.ntmps160 (by simp) [(0, .agg #[.int .i64 (p0_0), .int .i64 (p0_1), .int .i64 (p0_2), .int .i64 (p0_3)]), (1, .agg #[.int .i64 (p1_0), .int .i64 (p1_1), .int .i64 (p1_2), .int .i64 (p1_3)])] (by rfl) (by kernel_rfl) (fun a => ?_)
  refine cW_seq ?_
  refine cW_region ?_
  refine wS_box (d := 2) (T := 25) (x := .agg #[.int .i64 (p0_0), .int .i64 (p0_1), .int .i64 (p0_2), .int .i64 (p0_3)]) (by kernel_rfl) ?_
  intro b1 w2 G3 F4 hc5
  replace F4 : Cl w2 b1 25 [.int .i64 (p0_0), .int .i64 (p0_1), .int .i64 (p0_2), .int .i64 (p0_3)] := F4
  replace hB := hB.inS hc5 inNil
  replace G3 := Nat.le_trans hZ G3
  replace hZ := Nat.le_trans hZ hc5.size
  refine wS_box (d := 3) (T := 25) (x := .agg #[.int .i64 (p1_0), .int .i64 (p1_1), .int .i64 (p1_2), .int .i64 (p1_3)]) (by kernel_rfl) ?_
  intro b7 w8 G9 F10 hc11
  replace F10 : Cl w8 b7 25 [.int .i64 (p1_0), .int .i64 (p1_1), .int .i64 (p1_2), .int .i64 (p1_3)] := F10
  have D13 : Dj [b1] [b7] := Dj.of (lt1 F4.lt) (low1 G9)
  replace F4 := F4.chg hc11 notNil
  replace hB := hB.inS hc11 inNil
  replace G9 := Nat.le_trans hZ G9
  replace hZ := Nat.le_trans hZ hc11.size
  refine wS_alloc (d := 4) (T := 25) (z := .agg #[.int .i64 (0), .int .i64 (0), .int .i64 (0), .int .i64 (0)]) (by kernel_rfl) (by kernel_rfl) ?_
  intro b14 w15 G16 F17 hc18
  replace F17 : Cl w15 b14 25 [.int .i64 (0), .int .i64 (0), .int .i64 (0), .int .i64 (0)] := F17
  have D20 : Dj [b1] [b14] := Dj.of (lt1 F4.lt) (low1 G16)
  have D21 : Dj [b7] [b14] := Dj.of (lt1 F10.lt) (low1 G16)
  replace F4 := F4.chg hc18 notNil
  replace F10 := F10.chg hc18 notNil
  replace hB := hB.inS hc18 inNil
  replace G16 := Nat.le_trans hZ G16
  replace hZ := Nat.le_trans hZ hc18.size
  refine wS_end (by rfl) ?_
  refine eX_then ?_
  refine cW_seq ?_
  refine cW_drawnTail [] 19 (by kernel_rfl) (by kernel_rfl) (fun w46 hc47 => ?_)
  replace F4 := F4.chg hc47 notNil
  replace F10 := F10.chg hc47 notNil
  replace F17 := F17.chg hc47 notNil
  replace hB := hB.inS hc47 inNil
  replace hZ := Nat.le_trans hZ hc47.size
  have hS := Chg.refl [] w46
  have Z48 := F4
  have Z49 := F10
  have Z50 := F17
  refine wH_take [0] [0] [(5, .pointer (some ⟨b1, 0, none⟩))] (by kernel_rfl) (qT (qT qZ)) (by kernel_rfl) ?_
  refine wH_load1 (i := 1) (d := 6) (T := 2) (ad := ⟨b1, 0, none⟩) (v := .int .i64 (p0_0)) (by kernel_rfl) (qT (qT qZ)) (by kernel_rfl) (by kernel_rfl) vt2 (fun W hW => (Z48.chg hW notNil).cell 0) ?_
  refine wH_take [2] [2, 1, 0] [(7, .pointer (some ⟨b7, 0, none⟩))] (by kernel_rfl) (qT (qT qZ)) (by kernel_rfl) ?_
  refine wH_load1 (i := 3) (d := 8) (T := 2) (ad := ⟨b7, 0, none⟩) (v := .int .i64 (p1_0)) (by kernel_rfl) (qT (qT qZ)) (by kernel_rfl) (by kernel_rfl) vt2 (fun W hW => (Z49.chg hW notNil).cell 0) ?_
  refine wH_take [5] [5, 3, 2, 1, 0] [(10, .pointer (some ⟨b1, 1, none⟩))] (by kernel_rfl) (qT (qT qZ)) (by kernel_rfl) ?_
  refine wH_load1 (i := 6) (d := 11) (T := 2) (ad := ⟨b1, 1, none⟩) (v := .int .i64 (p0_1)) (by kernel_rfl) (qT (qT qZ)) (by kernel_rfl) (by kernel_rfl) vt2 (fun W hW => (Z48.chg hW notNil).cell 1) ?_
  refine wH_take [7] [7, 6, 5, 3, 2, 1, 0] [(12, .pointer (some ⟨b7, 1, none⟩))] (by kernel_rfl) (qT (qT qZ)) (by kernel_rfl) ?_
  refine wH_load1 (i := 8) (d := 13) (T := 2) (ad := ⟨b7, 1, none⟩) (v := .int .i64 (p1_1)) (by kernel_rfl) (qT (qT qZ)) (by kernel_rfl) (by kernel_rfl) vt2 (fun W hW => (Z49.chg hW notNil).cell 1) ?_
  refine wH_take [10] [10, 8, 7, 6, 5, 3, 2, 1, 0] [(15, .pointer (some ⟨b1, 2, none⟩))] (by kernel_rfl) (qT (qT qZ)) (by kernel_rfl) ?_
  refine wH_load1 (i := 11) (d := 16) (T := 2) (ad := ⟨b1, 2, none⟩) (v := .int .i64 (p0_2)) (by kernel_rfl) (qT (qT qZ)) (by kernel_rfl) (by kernel_rfl) vt2 (fun W hW => (Z48.chg hW notNil).cell 2) ?_
  refine wH_take [12] [12, 11, 10, 8, 7, 6, 5, 3, 2, 1, 0] [(17, .pointer (some ⟨b7, 2, none⟩))] (by kernel_rfl) (qT (qT qZ)) (by kernel_rfl) ?_
  refine wH_load1 (i := 13) (d := 18) (T := 2) (ad := ⟨b7, 2, none⟩) (v := .int .i64 (p1_2)) (by kernel_rfl) (qT (qT qZ)) (by kernel_rfl) (by kernel_rfl) vt2 (fun W hW => (Z49.chg hW notNil).cell 2) ?_
  refine wH_take [15] [15, 13, 12, 11, 10, 8, 7, 6, 5, 3, 2, 1, 0] [(20, .pointer (some ⟨b1, 3, none⟩))] (by kernel_rfl) (qT (qT qZ)) (by kernel_rfl) ?_
  refine wH_load1 (i := 16) (d := 21) (T := 2) (ad := ⟨b1, 3, none⟩) (v := .int .i64 (p0_3)) (by kernel_rfl) (qT (qT qZ)) (by kernel_rfl) (by kernel_rfl) vt2 (fun W hW => (Z48.chg hW notNil).cell 3) ?_
  refine wH_take [17] [17, 16, 15, 13, 12, 11, 10, 8, 7, 6, 5, 3, 2, 1, 0] [(22, .pointer (some ⟨b7, 3, none⟩))] (by kernel_rfl) (qT (qT qZ)) (by kernel_rfl) ?_
  refine wH_load1 (i := 18) (d := 23) (T := 2) (ad := ⟨b7, 3, none⟩) (v := .int .i64 (p1_3)) (by kernel_rfl) (qT (qT qZ)) (by kernel_rfl) (by kernel_rfl) vt2 (fun W hW => (Z49.chg hW notNil).cell 3) ?_
  refine wH_all [4] (by rfl) (by kernel_rfl) (by simp) ⟨⟨by kernel_rfl, ?_⟩, trivial⟩
  obtain ⟨y51, hy52, hm⟩ := bindE hm
  refine wS_calls (d := 9) (f := 145) (vs := [.int .i64 (p0_0), .int .i64 (p1_0)]) (by kernel_rfl) ent145 (c_spec_l00Max hy52) ?_
  rintro _ w53 ⟨rfl, hc54⟩
  replace F4 := F4.chg hc54 notNil
  replace F10 := F10.chg hc54 notNil
  replace F17 := F17.chg hc54 notNil
  replace hB := hB.inS hc54 inNil
  have hSz := hS
  replace hS := hS.inS hc54 inNil
  replace hZ := Nat.le_trans hZ hc54.size
  refine ⟨.int .i64 (y51), rfl, ?_⟩
  refine wS_end (by kernel_rfl) ?_
  refine eX_KH hS ?_
  refine wH_all [9] (by rfl) (by kernel_rfl) (by simp) ⟨⟨by kernel_rfl, ?_⟩, trivial⟩
  obtain ⟨y55, hy56, hm⟩ := bindE hm
  refine wS_calls (d := 14) (f := 175) (vs := [.int .i64 (p0_1), .int .i64 (p1_1)]) (by kernel_rfl) ent175 (c_spec_l00Min hy56) ?_
  rintro _ w57 ⟨rfl, hc58⟩
  replace F4 := F4.chg hc58 notNil
  replace F10 := F10.chg hc58 notNil
  replace F17 := F17.chg hc58 notNil
  replace hB := hB.inS hc58 inNil
  have hSz := hS
  replace hS := hS.inS hc58 inNil
  replace hZ := Nat.le_trans hZ hc58.size
  refine ⟨.int .i64 (y55), rfl, ?_⟩
  refine wS_end (by kernel_rfl) ?_
  refine eX_KH hS ?_
  refine wH_all [14] (by rfl) (by kernel_rfl) (by simp) ⟨⟨by kernel_rfl, ?_⟩, trivial⟩
  obtain ⟨y59, hy60, hm⟩ := bindE hm
  refine wS_calls (d := 19) (f := 145) (vs := [.int .i64 (p0_2), .int .i64 (p1_2)]) (by kernel_rfl) ent145 (c_spec_l00Max hy60) ?_
  rintro _ w61 ⟨rfl, hc62⟩
  replace F4 := F4.chg hc62 notNil
  replace F10 := F10.chg hc62 notNil
  replace F17 := F17.chg hc62 notNil
  replace hB := hB.inS hc62 inNil
  have hSz := hS
  replace hS := hS.inS hc62 inNil
  replace hZ := Nat.le_trans hZ hc62.size
  refine ⟨.int .i64 (y59), rfl, ?_⟩
  refine wS_end (by kernel_rfl) ?_
  refine eX_KH hS ?_
  refine wH_done (by kernel_rfl) ?_
  refine eX_tail ?_
  obtain ⟨y63, hy64, hm⟩ := bindE hm
  refine wS_calls (d := 24) (f := 175) (vs := [.int .i64 (p0_3), .int .i64 (p1_3)]) (by kernel_rfl) ent175 (c_spec_l00Min hy64) ?_
  rintro _ w65 ⟨rfl, hc66⟩
  replace F4 := F4.chg hc66 notNil
  replace F10 := F10.chg hc66 notNil
  replace F17 := F17.chg hc66 notNil
  replace hB := hB.inS hc66 inNil
  replace hZ := Nat.le_trans hZ hc66.size
  refine ⟨.int .i64 (y63), rfl, ?_⟩
  refine wS_pure 1 [(25, .agg #[.int .i64 (y51), .int .i64 (y55), .int .i64 (y59), .int .i64 (y63)])] (by kernel_rfl) ?_
  refine wS_store (T := 25) (g := b14) (o := 0) (ad := ⟨b14, 0, none⟩) (v := .agg #[.int .i64 (y51), .int .i64 (y55), .int .i64 (y59), .int .i64 (y63)]) (vs := [.int .i64 (y51), .int .i64 (y55), .int .i64 (y59), .int .i64 (y63)]) (by kernel_rfl) (by rfl) sz25 (by rfl) (by rfl) F17 (by simp only [List.length_cons, List.length_nil]; omega) ?_
  intro w67 F68 hc69
  replace F4 := F4.chg hc69 (dj1 D20)
  replace F10 := F10.chg hc69 (dj1 D21)
  replace hB := hB.inS hc69 (inLow (low1 G16))
  replace hZ := Nat.le_trans hZ hc69.size
  replace F68 : Cl w67 b14 25 [.int .i64 (y51), .int .i64 (y55), .int .i64 (y59), .int .i64 (y63)] := F68
  clear F17
  refine wS_end (by rfl) ?_
  refine eX_then ?_
  refine cW_prune [(4, .pointer (some ⟨b14, 0, none⟩))] (by kernel_rfl) (by kernel_rfl) (fun a70 => ?_)
  refine cW_ret ?_
  have hq : (some ((y51, y55, y59, y63)) : Option ((Int × Int × Int × Int))) = some _ := hm
  replace hq := someE hq
  subst hq
  refine eX_ret (vs := [.agg #[.int .i64 (y51), .int .i64 (y55), .int .i64 (y59), .int .i64 (y63)]]) [.cell 4 25] (by rfl) ⟨⟨⟨b14, 0, none⟩, by kernel_rfl, run_loadVarA (vs := [.int .i64 (y51), .int .i64 (y55), .int .i64 (y59), .int .i64 (y63)]) vt25 (fun i u hu => by exact box_cells F68 0 hu (by rfl))⟩, trivial⟩ ?_
  exact ⟨rfl, hB⟩

set_option maxRecDepth 100000 in
/-- spec.l06Grow -/
theorem c_spec_l06Grow {w0 : World} {p0_0 : Int} {p0_1 : Int} {p0_2 : Int} {p0_3 : Int} {p1 : Int} {r : (Int × Int × Int × Int)} (hm : m_spec_l06Grow p0_0 p0_1 p0_2 p0_3 p1 = some r)  :
    Calls Try.prog 161 #[.agg #[.int .i64 (p0_0), .int .i64 (p0_1), .int .i64 (p0_2), .int .i64 (p0_3)], .int .i64 (p1)] w0 fun e w' => e = .returned (.agg #[.int .i64 (r.1), .int .i64 (r.2.1), .int .i64 (r.2.2.1), .int .i64 (r.2.2.2)]) ∧ Chg [] w0 w' := by
  have hB : Chg [] w0 w0 := Chg.refl _ _
  have hZ := Nat.le_refl w0.heap.size
  unfold m_spec_l06Grow at hm
  refine enterE (N := 22) Try.func161 (by rfl) Try.ntmps161 (by simp) [(0, .agg #[.int .i64 (p0_0), .int .i64 (p0_1), .int .i64 (p0_2), .int .i64 (p0_3)]), (1, .int .i64 (p1))] (by rfl) (by kernel_rfl) (fun a => ?_)
  refine cW_seq ?_
  refine cW_region ?_
  refine wS_box (d := 2) (T := 25) (x := .agg #[.int .i64 (p0_0), .int .i64 (p0_1), .int .i64 (p0_2), .int .i64 (p0_3)]) (by kernel_rfl) ?_
  intro b1 w2 G3 F4 hc5
  replace F4 : Cl w2 b1 25 [.int .i64 (p0_0), .int .i64 (p0_1), .int .i64 (p0_2), .int .i64 (p0_3)] := F4
  replace hB := hB.inS hc5 inNil
  replace G3 := Nat.le_trans hZ G3
  replace hZ := Nat.le_trans hZ hc5.size
  refine wS_alloc (d := 4) (T := 25) (z := .agg #[.int .i64 (0), .int .i64 (0), .int .i64 (0), .int .i64 (0)]) (by kernel_rfl) (by kernel_rfl) ?_
  intro b7 w8 G9 F10 hc11
  replace F10 : Cl w8 b7 25 [.int .i64 (0), .int .i64 (0), .int .i64 (0), .int .i64 (0)] := F10
  have D13 : Dj [b1] [b7] := Dj.of (lt1 F4.lt) (low1 G9)
  replace F4 := F4.chg hc11 notNil
  replace hB := hB.inS hc11 inNil
  replace G9 := Nat.le_trans hZ G9
  replace hZ := Nat.le_trans hZ hc11.size
  refine wS_end (by rfl) ?_
  refine eX_then ?_
  refine cW_seq ?_
  refine cW_region ?_
  refine wS_pure 1 [(5, .pointer (some ⟨b1, 0, none⟩))] (by kernel_rfl) ?_
  refine wS_load1 (d := 6) (T := 2) (ad := ⟨b1, 0, none⟩) (v := .int .i64 (p0_0)) (by kernel_rfl) vt2 ((F4).cell 0) ?_
  refine wS_pure 3 [(9, .pointer (some ⟨b1, 1, none⟩)), (8, .int .i64 (wr (p0_0 - p1))), (7, .int .i64 (p1))] (by kernel_rfl) ?_
  refine wS_load1 (d := 10) (T := 2) (ad := ⟨b1, 1, none⟩) (v := .int .i64 (p0_1)) (by kernel_rfl) vt2 ((F4).cell 1) ?_
  refine wS_pure 3 [(13, .pointer (some ⟨b1, 2, none⟩)), (12, .int .i64 (wr (p0_1 + p1))), (11, .int .i64 (p1))] (by kernel_rfl) ?_
  refine wS_load1 (d := 14) (T := 2) (ad := ⟨b1, 2, none⟩) (v := .int .i64 (p0_2)) (by kernel_rfl) vt2 ((F4).cell 2) ?_
  refine wS_pure 3 [(17, .pointer (some ⟨b1, 3, none⟩)), (16, .int .i64 (wr (p0_2 - p1))), (15, .int .i64 (p1))] (by kernel_rfl) ?_
  refine wS_load1 (d := 18) (T := 2) (ad := ⟨b1, 3, none⟩) (v := .int .i64 (p0_3)) (by kernel_rfl) vt2 ((F4).cell 3) ?_
  refine wS_pure 3 [(21, .agg #[.int .i64 (wr (p0_0 - p1)), .int .i64 (wr (p0_1 + p1)), .int .i64 (wr (p0_2 - p1)), .int .i64 (wr (p0_3 + p1))]), (20, .int .i64 (wr (p0_3 + p1))), (19, .int .i64 (p1))] (by kernel_rfl) ?_
  refine wS_store (T := 25) (g := b7) (o := 0) (ad := ⟨b7, 0, none⟩) (v := .agg #[.int .i64 (wr (p0_0 - p1)), .int .i64 (wr (p0_1 + p1)), .int .i64 (wr (p0_2 - p1)), .int .i64 (wr (p0_3 + p1))]) (vs := [.int .i64 (wr (p0_0 - p1)), .int .i64 (wr (p0_1 + p1)), .int .i64 (wr (p0_2 - p1)), .int .i64 (wr (p0_3 + p1))]) (by kernel_rfl) (by rfl) sz25 (by rfl) (by rfl) F10 (by simp only [List.length_cons, List.length_nil]; omega) ?_
  intro w14 F15 hc16
  replace F4 := F4.chg hc16 (dj1 D13)
  replace hB := hB.inS hc16 (inLow (low1 G9))
  replace hZ := Nat.le_trans hZ hc16.size
  replace F15 : Cl w14 b7 25 [.int .i64 (wr (p0_0 - p1)), .int .i64 (wr (p0_1 + p1)), .int .i64 (wr (p0_2 - p1)), .int .i64 (wr (p0_3 + p1))] := F15
  clear F10
  refine wS_end (by rfl) ?_
  refine eX_then ?_
  refine cW_ret ?_
  have hq : (some ((wr (p0_0 - p1), wr (p0_1 + p1), wr (p0_2 - p1), wr (p0_3 + p1))) : Option ((Int × Int × Int × Int))) = some _ := hm
  replace hq := someE hq
  subst hq
  refine eX_ret (vs := [.agg #[.int .i64 (wr (p0_0 - p1)), .int .i64 (wr (p0_1 + p1)), .int .i64 (wr (p0_2 - p1)), .int .i64 (wr (p0_3 + p1))]]) [.cell 4 25] (by rfl) ⟨⟨⟨b7, 0, none⟩, by kernel_rfl, run_loadVarA (vs := [.int .i64 (wr (p0_0 - p1)), .int .i64 (wr (p0_1 + p1)), .int .i64 (wr (p0_2 - p1)), .int .i64 (wr (p0_3 + p1))]) vt25 (fun i u hu => by exact box_cells F15 0 hu (by rfl))⟩, trivial⟩ ?_
  exact ⟨rfl, hB⟩

end Go.Proofs.Ytajnjbmniobjhaa
