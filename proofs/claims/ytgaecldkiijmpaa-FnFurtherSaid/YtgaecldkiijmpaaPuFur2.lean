/- Further points: the law. -/
import Derived.Test.YtgaecldkiijmpaaPuFur1
import Derived.Test.YtgaecldkiijmpaaPuPairs
import Derived.Test.YtgaecldkiijmpaaPuSrcP
set_option linter.unusedSimpArgs false
set_option linter.unusedVariables false
namespace Go.Proofs.Ytgaecldkiijmpaa
open Go.RowKit

theorem pins_drawn {l : List Int} (hl : ∀ p ∈ l, In8 p) : ∃ ps, m_spec_B10Pins l 6 = some ps ∧ okPs ps = true ∧ ps.Nodup ∧ 1 ≤ ps.length ∧ ps.length ≤ 6 := by
  unfold m_spec_B10Pins m_spec_l00From m_spec_l05DrawOk_bspecl00Src
  simp only [bind_some']
  obtain ⟨v, k', s', e1, e2, e3, e4, e5⟩ := src_pick1 (k := 0) (s := 0) (n := 6) hl (by omega) (by omega) (by omega) (by omega)
  rw [e1]
  simp only [bind_some']
  obtain ⟨r, g1, g2, g3, g4, g5⟩ := loopM_count (m_spec_l05DrawOk_bspecl00Src_s1 l) (1 + v).toNat
    (fun j s => okPs s.1 = true ∧ s.1.Nodup ∧ s.1.length ≤ j ∧ (0 < j → 1 ≤ s.1.length) ∧ s.2.1 = 1 + v - j ∧ 0 ≤ s.2.2.1 ∧ s.2.2.1 ≤ 1 + 2 * j)
    (fun r => okPs r.1 = true ∧ r.1.Nodup ∧ 1 ≤ r.1.length ∧ r.1.length ≤ 6)
    (s0 := (([] : List (Int × Int)), wr (1 + v), k', s')) ⟨rfl, List.nodup_nil, by simp, by omega, by rw [wr_in (by omega)]; simp, e4, by simp; omega⟩
    (by
      rintro j ⟨acc, x, k, s⟩ hj ⟨a1, a2, a3, a4, a5, a6, a7⟩
      simp only at a1 a2 a3 a4 a5 a6 a7
      subst a5
      unfold m_spec_l05DrawOk_bspecl00Src_s1
      simp only []
      rw [bif_t (by simp; omega)]
      obtain ⟨x1, k1, s1, b1, b2, b3, b4, b5⟩ := src_pick1 (k := k) (s := s) (n := 9) hl (by omega) (by omega) (by omega) (by omega)
      rw [b1]
      simp only [bind_some']
      obtain ⟨y1, k2, s2, c1, c2, c3, c4, c5⟩ := src_pick1 (k := k1) (s := s1) (n := 9) hl (by omega) (by omega) (by omega) (by omega)
      rw [c1]
      simp only [bind_some']
      obtain ⟨i, i1, i2⟩ := Index_eq acc (x1, y1) (by omega)
      rw [i1]
      simp only [bind_some']
      left
      by_cases hm : (x1, y1) ∈ acc
      · have hi : i ≥ 0 := by simpa [hm] using i2
        rw [bif_f (by simp; omega)]
        refine ⟨_, rfl, a1, a2, by show acc.length ≤ j + 1; omega, fun _ => List.length_pos_of_mem hm, by simp only []; rw [wr_in (by omega)]; omega, by simp only []; omega, by simp only []; omega⟩
      · have hi : ¬ i ≥ 0 := by simpa [hm] using i2
        rw [bif_t (by simp; omega), apC_ok (by unfold lim; simp; omega)]
        refine ⟨_, rfl, okPs_snoc a1 (by unfold okP; simp; omega), ?_, by simp; omega, fun _ => by simp, by simp only []; rw [wr_in (by omega)]; omega, by simp only []; omega, by simp only []; omega⟩
        show (acc ++ [(x1, y1)]).Nodup
        rw [List.nodup_append]
        exact ⟨a2, by simp, fun a ha b hb => by simp only [List.mem_singleton] at hb; subst hb; exact fun e => hm (e ▸ ha)⟩)
    (by
      rintro ⟨acc, x, k, s⟩ ⟨a1, a2, a3, a4, a5, a6, a7⟩
      simp only at a1 a2 a3 a4 a5 a6 a7
      subst a5
      unfold m_spec_l05DrawOk_bspecl00Src_s1
      simp only []
      rw [bif_f (by simp; omega)]
      exact ⟨_, rfl, a1, a2, a4 (by omega), by show acc.length ≤ 6; omega⟩)
  rw [g1]
  exact ⟨r.1, rfl, g2, g3, g4, g5⟩
theorem b10In_eq (l : List Pt) (p : Pt) (hb : l.length ≤ 140737488355328) : m_laws_b10In l p.1 p.2 = some (decide (p ∈ l)) := by
  unfold m_laws_b10In
  rcases loop_find (step := m_laws_b10In_s1 l p.1 p.2) l.length (fun k => decide (l[k]? = some p)) (fun k => true) (by
      intro k hk
      unfold m_laws_b10In_s1
      simp only []
      rw [bif_t (by simpa using hk), geti_lt hk]
      simp only [bind_some', eqb, List.getElem?_eq_getElem hk, Option.some.injEq]
      by_cases h : l[k] = p
      · simp [h]
      · simp only [h, decide_false, cond_false]
        rw [wr_in (by omega)]; rfl) (by
      unfold m_laws_b10In_s1
      simp only []
      rw [bif_f (by simp)]) with ⟨h1, h2⟩ | ⟨k, h1, h2, _, h3⟩
  · rw [h2]
    have : p ∉ l := fun hp => by
      obtain ⟨k, hk, rfl⟩ := List.mem_iff_getElem.1 hp
      have := anyIn_f.1 h1 k (by omega) hk
      simp [List.getElem?_eq_getElem hk] at this
    simp [this]
  · rw [h3]
    have : p ∈ l := by
      simp only [decide_eq_true_eq] at h2
      exact List.mem_of_getElem? h2
    simp [this]
theorem han_mem {ps : List Pt} {i k : Nat} (hi : i < ps.length) (hk : k < ps.length) : ((gP ps i).1, (gP ps k).2) ∈ hanV ps := by
  unfold hanV
  rw [mem_setPts]
  unfold hanF hanRow
  exact List.mem_flatMap.2 ⟨i, List.mem_range.2 hi, List.mem_map.2 ⟨k, List.mem_range.2 hk, rfl⟩⟩
section
variable {ps : List Pt}
theorem fu_s4 (hb : ps.length ≤ 1000) (b : Bool) {i : Nat} (hi : i < ps.length) : loopM (m_laws_FnFurther_s4 ps (hanV ps, b) (i : Int)) 0 = some (Sum.inl ()) := by
  have hh := hanV_len ps hb
  refine loop_run (step := m_laws_FnFurther_s4 ps (hanV ps, b) (i : Int)) ps.length (fun k => (k : Int)) (fun k hk => ?_) ?_
  · unfold m_laws_FnFurther_s4
    simp only []
    rw [bif_t (by simpa using hk), geti_gP hi, geti_gP hk]
    simp only [bind_some']
    rw [b10In_eq (hanV ps) ((gP ps i).1, (gP ps k).2) (by omega)]
    simp only [bind_some', han_mem hi hk, decide_true, Bool.not_true, cond_false]
    rw [wr_in (by omega)]; rfl
  · unfold m_laws_FnFurther_s4
    simp only []
    rw [bif_f (by simp)]
theorem fu_s3 (hb : ps.length ≤ 1000) (b : Bool) : loopM (m_laws_FnFurther_s3 ps (hanV ps, b)) 0 = some (Sum.inl ()) := by
  refine loop_run (step := m_laws_FnFurther_s3 ps (hanV ps, b)) ps.length (fun k => (k : Int)) (fun k hk => ?_) ?_
  · unfold m_laws_FnFurther_s3
    simp only []
    rw [bif_t (by simpa using hk), fu_s4 hb b hk]
    simp only [bind_some']
    rw [wr_in (by omega)]; rfl
  · unfold m_laws_FnFurther_s3
    simp only []
    rw [bif_f (by simp)]
theorem specSpan_eq {all : List Pt} (h : okPs all = true) (hn : all.Nodup) (h1 : 1 ≤ all.length) (hb : all.length ≤ 20) : m_spec_SpanningTree all = some (sortRows (trV all).1, (trV all).2, true) := by
  unfold m_spec_SpanningTree
  rw [specPins_eq all (by omega)]
  have hB : pinsB 20 all = true := by unfold pinsB; simp [h, hn, h1]; omega
  simp only [bind_some', hB, Bool.not_true, cond_false]
  obtain ⟨i1, _⟩ := trF_inv h h1 (all.length - 1) (by omega)
  rw [specTree_eq h h1 (by omega)]
  simp only [bind_some']
  rw [pairs_eq (ll := (trV all).1) (fun r hr => by have := trF_rows (ps := all) (all.length - 1) r hr; omega) (by unfold trV; simp only []; omega)]
  rfl
theorem fu_s5 (b b2 : Bool) (L : Int) (F : List Pt) (hh : (hanV ps).length ≤ 1000000) (hF : F.length ≤ 20) {all f : List Pt} (G : Grows (hanV ps) all f) : ∀ i : Nat, F.drop i = f → okPs (all ++ f) = true → all.Nodup → 1 ≤ all.length → (all ++ f).length ≤ 20 →
    loopM (m_laws_FnFurther_s5 (hanV ps, b) (F, L, b2)) (all, (trV all).2, (i : Int)) = some (Sum.inl (trV (all ++ f)).2) := by
  induction G with
  | stop all =>
    intro i hi h hn h1 hb
    have hlen : F.length ≤ i := by
      have := congrArg List.length hi
      simp at this; omega
    refine loopM_out ?_
    unfold m_laws_FnFurther_s5
    simp only []
    rw [bif_f (by simp; omega), List.append_nil]
  | @more all f p h1 h2 h3 h4 ih =>
    intro i hi h hn hl hb
    have hlt : i < F.length := by
      have := congrArg List.length hi
      simp at this; omega
    have hp : F[i] = p := by
      have e := List.drop_eq_getElem_cons hlt
      rw [hi] at e
      exact (List.cons.inj e).1.symm
    have hd : F.drop (i + 1) = f := by
      have e := List.drop_eq_getElem_cons hlt
      rw [hi] at e
      exact (List.cons.inj e).2.symm
    have hnn : (all ++ [p]).Nodup := by
      rw [List.nodup_append]
      exact ⟨hn, by simp, fun a ha c hc => by simp only [List.mem_singleton] at hc; subst hc; exact fun e => h2 (e ▸ ha)⟩
    have he : all ++ p :: f = (all ++ [p]) ++ f := by simp
    rw [he] at h hb ⊢
    have hok : okPs (all ++ [p]) = true := by
      unfold okPs at h ⊢
      rw [List.all_append, Bool.and_eq_true] at h
      exact h.1
    have hlb : (all ++ [p]).length ≤ 20 := by rw [List.length_append] at hb; omega
    rw [loopM_next (s' := (all ++ [p], (trV (all ++ [p])).2, ((i + 1 : Nat) : Int)))]
    · exact ih (i + 1) hd h hnn (by simp) hb
    · unfold m_laws_FnFurther_s5
      simp only []
      rw [bif_t (by simpa using hlt), geti_lt hlt, hp]
      simp only [bind_some']
      rw [b10In_eq (hanV ps) p (by omega)]
      simp only [bind_some', h1, decide_true, Bool.not_true, cond_false]
      rw [b10In_eq all p (by simp at hlb; omega)]
      simp only [bind_some', h2, decide_false, cond_false]
      rw [apC_ok (by unfold lim; simp at hlb ⊢; omega)]
      simp only [bind_some']
      rw [specSpan_eq hok hnn (by simp) hlb]
      simp only [bind_some', Bool.not_true, cond_false]
      rw [bif_f (by simp; omega), wr_in (by omega)]
      rfl
theorem one_val (h : okPs ps = true) (hn : ps.Nodup) (h1 : 1 ≤ ps.length) (h6 : ps.length ≤ 6) : ∃ f, m_impl_OneByOne ps = some (f, (trV (ps ++ f)).2, true) ∧ Grows (hanV ps) ps f ∧ okPs (ps ++ f) = true ∧ (ps ++ f).length ≤ 20 := by
  obtain ⟨f, f1, f2, f3, f4⟩ := ob_grows h (by omega) 20 ps (by omega) h h1 (by omega)
  refine ⟨f, ?_, f2, f3, f4⟩
  have hB : pinsB 7 ps = true := by unfold pinsB; simp [h, hn, h1]; omega
  unfold m_impl_OneByOne m_impl_oneByOne
  rw [implPins_eq ps 7 (by omega)]
  simp only [bind_some', hB, Bool.not_true, cond_false]
  rw [Clone_eq ps (by omega)]
  simp only [bind_some']
  rw [f1]
  simp only [bind_some']
  have hlen : (ps ++ f).length = ps.length + f.length := List.length_append
  rw [implSpan_eq f3 (by omega) (by omega)]
  have hs : slc (ps ++ f) (ps.length : Int) ((ps ++ f).length : Int) = f := by unfold slc; rw [Int.toNat_natCast, Int.toNat_natCast, List.take_length, List.drop_left]
  have hsl : slci (ps ++ f) (ps.length : Int) ((ps ++ f).length : Int) = some (slc (ps ++ f) (ps.length : Int) ((ps ++ f).length : Int)) := by unfold slci slc; rw [if_pos (by omega)]
  simp only [bind_some']
  rw [hsl, hs]
  simp only [bind_some']
  rw [Clone_eq f (by omega)]
  rfl
end
theorem b10At_ok {l : List Int} (hl : ∀ p ∈ l, In8 p) {k : Int} (hk : 0 ≤ k ∧ k ≤ 100) : ∃ v, m_laws_b10At l k 10 = some v ∧ 0 ≤ v ∧ v < 10 := by
  unfold m_laws_b10At
  rw [bif_f (by simp)]
  have hnz : nzC 10 = some () := by unfold nzC; simp [chk]
  by_cases hc : k < l.length
  · rw [bif_t (by simpa using hc)]
    obtain ⟨n, rfl⟩ := Int.eq_ofNat_of_zero_le hk.1
    have hn : n < l.length := by omega
    have h8 := hl _ (List.getElem_mem hn)
    rw [geti_lt hn]
    simp only [bind_some', hnz]
    unfold In8 at h8
    rw [wr_in (by omega)]
    exact ⟨_, rfl, Int.tmod_nonneg _ (by omega), by rw [Int.tmod_eq_emod_of_nonneg (by omega)]; omega⟩
  · rw [bif_f (by simpa using hc)]
    simp only [bind_some', hnz]
    rw [wr_in (x := k * 37) (by omega), wr_in (by omega)]
    exact ⟨_, rfl, Int.tmod_nonneg _ (by omega), by rw [Int.tmod_eq_emod_of_nonneg (by omega)]; omega⟩
theorem b10Pin_ok {l : List Int} (hl : ∀ p ∈ l, In8 p) {k : Int} (hk : 0 ≤ k ∧ k ≤ 99) : ∃ p : Pt, m_laws_b10Pin l k = some p ∧ 0 ≤ p.1 ∧ p.1 < 10 ∧ 0 ≤ p.2 ∧ p.2 < 10 := by
  unfold m_laws_b10Pin
  obtain ⟨x, x1, x2, x3⟩ := b10At_ok hl (k := k) (by omega)
  obtain ⟨y, y1, y2, y3⟩ := b10At_ok hl (k := k + 1) (by omega)
  rw [x1, wr_in (by omega)]
  simp only [bind_some']
  rw [y1]
  exact ⟨(x, y), rfl, x2, x3, y2, y3⟩
def midI (a b c : Int) : Int := (if (if c < (if b > a then b else a) then c else (if b > a then b else a)) > (if b < a then b else a) then (if c < (if b > a then b else a) then c else (if b > a then b else a)) else (if b < a then b else a))
def mnI (x y : Int) : Int := if y < x then y else x
def mxI (x y : Int) : Int := if y > x then y else x
def loI (a b c : Int) : Int := mnI (mnI (mnI a a) b) c
def hiI (a b c : Int) : Int := mxI (mxI (mxI a a) b) c
theorem mnI_eq (x y : Int) : mnI x y = min x y := by unfold mnI; split <;> omega
theorem mxI_eq (x y : Int) : mxI x y = max x y := by unfold mxI; split <;> omega
theorem midI_eq (a b c : Int) : midI a b c = mxI (mnI a b) (mnI (mxI a b) c) := rfl
theorem mid1 (a b c : Int) : max (a - midI a b c) (midI a b c - a) + max (b - midI a b c) (midI a b c - b) + max (c - midI a b c) (midI a b c - c) = hiI a b c - loI a b c := by
  rw [midI_eq]; unfold hiI loI; simp only [mnI_eq, mxI_eq]; omega
theorem mid2 (a b c : Int) : (midI a b c = a ∨ midI a b c = b ∨ midI a b c = c) ∧ (hiI a b c = a ∨ hiI a b c = b ∨ hiI a b c = c) ∧ (loI a b c = a ∨ loI a b c = b ∨ loI a b c = c) ∧ loI a b c ≤ hiI a b c := by
  rw [midI_eq]; unfold hiI loI; simp only [mnI_eq, mxI_eq]; omega
theorem box3 (a b c : Pt) : boxF [a, b, c] 3 = (loI a.1 b.1 c.1, loI a.2 b.2 c.2, hiI a.1 b.1 c.1, hiI a.2 b.2 c.2) := rfl
theorem star3 (a b c m : Pt) : starV [a, b, c] m = dist a m + dist b m + dist c m := by
  show (0 + dist a m) + dist b m + dist c m = _
  omega
theorem three_all {a b c : Pt} (ha : 0 ≤ a.1 ∧ a.1 < 10 ∧ 0 ≤ a.2 ∧ a.2 < 10) (hb : 0 ≤ b.1 ∧ b.1 < 10 ∧ 0 ≤ b.2 ∧ b.2 < 10) (hc : 0 ≤ c.1 ∧ c.1 < 10 ∧ 0 ≤ c.2 ∧ c.2 < 10) (h1 : a ≠ b) (h2 : b ≠ c) (h3 : a ≠ c) :
    ∃ B, m_impl_SteinerLength [a, b, c] = some (B, true) ∧ m_impl_BoxBound [a, b, c] = some (B, true) ∧ m_impl_StarLength [a, b, c] (midI a.1 b.1 c.1) (midI a.2 b.2 c.2) = some (B, true) := by
  have okp : ∀ p : Pt, 0 ≤ p.1 ∧ p.1 < 10 ∧ 0 ≤ p.2 ∧ p.2 < 10 → okP p = true := fun p hp => by unfold okP; simp; omega
  have hok : okPs [a, b, c] = true := by unfold okPs; simp [okp a ha, okp b hb, okp c hc]
  have hnd : [a, b, c].Nodup := by simp; exact ⟨⟨h1, h3⟩, h2⟩
  have hB : ∀ n : Int, 3 ≤ n → pinsB n [a, b, c] = true := fun n hn => by
    unfold pinsB
    rw [hok, decide_eq_true hnd]
    simp; omega
  obtain ⟨mx1, mx2, mx3, mx4⟩ := mid2 a.1 b.1 c.1
  obtain ⟨my1, my2, my3, my4⟩ := mid2 a.2 b.2 c.2
  have ex := mid1 a.1 b.1 c.1
  have ey := mid1 a.2 b.2 c.2
  have hbx := box3 a b c
  generalize hiI a.1 b.1 c.1 = X1 at *
  generalize loI a.1 b.1 c.1 = X0 at *
  generalize hiI a.2 b.2 c.2 = Y1 at *
  generalize loI a.2 b.2 c.2 = Y0 at *
  generalize midI a.1 b.1 c.1 = mx at *
  generalize midI a.2 b.2 c.2 = my at *
  have hmo : okP (mx, my) = true := okp _ (by rcases mx1 with h | h | h <;> rcases my1 with h' | h' | h' <;> simp only [h, h'] <;> omega)
  have hmin : ((mx, my) : Pt) ∈ hanV [a, b, c] := by
    have key : ∀ i k, i < 3 → k < 3 → mx = (gP [a, b, c] i).1 → my = (gP [a, b, c] k).2 → ((mx, my) : Pt) ∈ hanV [a, b, c] := fun i k hi hk e1 e2 => by
      have h := han_mem (ps := [a, b, c]) (i := i) (k := k) hi hk
      rw [e1, e2]; exact h
    rcases mx1 with hx | hx | hx <;> rcases my1 with hy | hy | hy
    · exact key 0 0 (by omega) (by omega) hx hy
    · exact key 0 1 (by omega) (by omega) hx hy
    · exact key 0 2 (by omega) (by omega) hx hy
    · exact key 1 0 (by omega) (by omega) hx hy
    · exact key 1 1 (by omega) (by omega) hx hy
    · exact key 1 2 (by omega) (by omega) hx hy
    · exact key 2 0 (by omega) (by omega) hx hy
    · exact key 2 1 (by omega) (by omega) hx hy
    · exact key 2 2 (by omega) (by omega) hx hy
  have hd : dist a (mx, my) + dist b (mx, my) + dist c (mx, my) = X1 - X0 + (Y1 - Y0) := by
    unfold dist; simp only []; omega
  have pk1 : ∀ v : Int, (v = a.1 ∨ v = b.1 ∨ v = c.1) → ∃ p : Pt, (p = a ∨ p = b ∨ p = c) ∧ p.1 = v := fun v h => by
    rcases h with h | h | h
    · exact ⟨a, Or.inl rfl, h.symm⟩
    · exact ⟨b, Or.inr (Or.inl rfl), h.symm⟩
    · exact ⟨c, Or.inr (Or.inr rfl), h.symm⟩
  have pk2 : ∀ v : Int, (v = a.2 ∨ v = b.2 ∨ v = c.2) → ∃ p : Pt, (p = a ∨ p = b ∨ p = c) ∧ p.2 = v := fun v h => by
    rcases h with h | h | h
    · exact ⟨a, Or.inl rfl, h.symm⟩
    · exact ⟨b, Or.inr (Or.inl rfl), h.symm⟩
    · exact ⟨c, Or.inr (Or.inr rfl), h.symm⟩
  obtain ⟨p1, i1, j1⟩ := pk1 X1 mx2
  obtain ⟨p2, i2, j2⟩ := pk1 X0 mx3
  obtain ⟨p3, i3, j3⟩ := pk2 Y1 my2
  obtain ⟨p4, i4, j4⟩ := pk2 Y0 my3
  refine ⟨X1 - X0 + (Y1 - Y0), ?_, ?_, ?_⟩
  · unfold m_impl_SteinerLength
    rw [implPins_eq _ 7 (by simp), hB 7 (by omega)]
    simp only [bind_some', Bool.not_true, cond_false]
    rw [steiner3 hok hmin (B := X1 - X0 + (Y1 - Y0)) (by omega) ⟨p1, p2, p3, p4, i1, i2, i3, i4, by omega⟩]
    rfl
  · unfold m_impl_BoxBound
    rw [arePins_eq _ (by simp)]
    simp only [bind_some', hB 20 (by omega), Bool.not_true, cond_false]
    have hbo := boxF_ok hok (by simp) 3 (by simp)
    rw [hbx] at hbo
    have e : m_impl_box [a, b, c] = some ((X0, Y0), (X1, Y1)) := by
      rw [implBox_eq (by simp) (by simp)]
      show some (((boxF [a, b, c] 3).1, (boxF [a, b, c] 3).2.1), ((boxF [a, b, c] 3).2.2.1, (boxF [a, b, c] 3).2.2.2)) = _
      rw [hbx]
    rw [e]
    simp only [bind_some']
    rw [far_eq (p := (X0, Y0)) (q := (X1, Y1)) hbo.1 hbo.2]
    have : dist (X0, Y0) (X1, Y1) = X1 - X0 + (Y1 - Y0) := by unfold dist; simp only []; omega
    rw [this]; rfl
  · unfold m_impl_StarLength
    rw [arePins_eq _ (by simp)]
    simp only [bind_some', hB 20 (by omega), Bool.not_true, cond_false]
    rw [IsPoint_eq, hmo]
    simp only [bind_some', Bool.not_true, cond_false]
    have := implStar_eq (ps := [a, b, c]) (r := (mx, my)) hok hmo (by simp)
    rw [this, star3, hd]
    rfl
theorem lawFurther (l0 l1 : List Int) (h0 : ∀ p ∈ l0, In8 p) (h1 : ∀ p ∈ l1, In8 p) : m_laws_FnFurther l0 l1 = some true := by
  unfold m_laws_FnFurther m_laws_b10Long
  by_cases c0 : (l0.length : Int) > 1048576
  · rw [bif_t (by simpa using c0)]; rfl
  rw [bif_f (by simpa using c0)]
  simp only [bind_some']
  by_cases c1 : (l1.length : Int) > 1048576
  · rw [bif_t (by simpa using c1)]
  rw [bif_f (by simpa using c1)]
  obtain ⟨ps, p1, p2, p3, p4, p5⟩ := pins_drawn h0
  rw [p1]
  simp only [bind_some']
  have hB : pinsB 7 ps = true := by unfold pinsB; simp [p2, p3, p4]; omega
  have hHan : m_impl_HananPoints ps = some (hanV ps, true) := by
    unfold m_impl_HananPoints
    rw [implPins_eq ps 7 (by omega), hB]
    simp only [bind_some', Bool.not_true, cond_false]
    rw [implHanan_eq ps (by omega)]
    rfl
  rw [hHan]
  simp only [bind_some']
  obtain ⟨f, f1, f2, f3, f4⟩ := one_val p2 p3 p4 p5
  rw [f1]
  simp only [bind_some', Bool.not_true, cond_false]
  have hpos := hanV_pos p4
  rw [bif_f (by simp; omega), fu_s3 (by omega)]
  simp only [bind_some', List.nil_append]
  rw [apC_ok (by unfold lim; simp; omega)]
  simp only [bind_some']
  rw [specSpan_eq p2 p3 p4 (by omega)]
  simp only [bind_some', Bool.not_true, cond_false]
  have hfl : f.length ≤ 20 := by rw [List.length_append] at f4; omega
  have hs5 := fu_s5 (ps := ps) true true (trV (ps ++ f)).2 f (hanV_len ps (by omega)) hfl f2 0 rfl f3 p3 p4 f4
  rw [show ((0 : Nat) : Int) = 0 from rfl] at hs5
  rw [hs5]
  simp only [bind_some', bne_self_eq_false, cond_false]
  obtain ⟨a, a1, a2, a3, a4, a5⟩ := b10Pin_ok h1 (k := 0) (by omega)
  obtain ⟨b, b1, b2, b3, b4, b5⟩ := b10Pin_ok h1 (k := 2) (by omega)
  obtain ⟨c, c1', c2, c3, c4, c5⟩ := b10Pin_ok h1 (k := 4) (by omega)
  rw [a1, b1, c1']
  simp only [bind_some']
  have hmed : m_impl_MedianPoint a.1 a.2 b.1 b.2 c.1 c.2 = some ((midI a.1 b.1 c.1, midI a.2 b.2 c.2), true) := by
    unfold m_impl_MedianPoint
    have oa : okP (a.1, a.2) = true := by unfold okP; simp; omega
    have ob : okP (b.1, b.2) = true := by unfold okP; simp; omega
    have oc : okP (c.1, c.2) = true := by unfold okP; simp; omega
    simp only [IsPoint_eq, oa, ob, oc, bind_some', Bool.not_true, cond_false]
    rfl
  rw [hmed]
  simp only [bind_some', Bool.not_true, cond_false, eqb]
  by_cases e1 : a = b
  · rw [bif_t (by simpa using e1)]
  rw [bif_f (by simpa using e1)]
  by_cases e2 : b = c
  · rw [bif_t (by simpa using e2)]
  rw [bif_f (by simpa using e2)]
  by_cases e3 : a = c
  · rw [bif_t (by simpa using e3)]
  rw [bif_f (by simpa using e3)]
  obtain ⟨B, s1, s2, s3⟩ := three_all ⟨a2, a3, a4, a5⟩ ⟨b2, b3, b4, b5⟩ ⟨c2, c3, c4, c5⟩ e1 e2 e3
  simp only [show ((a.1, a.2) : Pt) = a from rfl, show ((b.1, b.2) : Pt) = b from rfl, show ((c.1, c.2) : Pt) = c from rfl, s1, s2, s3, bind_some', cond_true, beq_self_eq_true]
end Go.Proofs.Ytgaecldkiijmpaa
