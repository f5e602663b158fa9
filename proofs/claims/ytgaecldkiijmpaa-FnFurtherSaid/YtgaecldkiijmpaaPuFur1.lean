/- The shortest tree of three pins is as long as their box; and how points are taken one by one. -/
import Derived.Test.YtgaecldkiijmpaaPuSt4
import Derived.Test.YtgaecldkiijmpaaPuOne
set_option linter.unusedSimpArgs false
set_option linter.unusedVariables false
namespace Go.Proofs.Ytgaecldkiijmpaa
open Go.RowKit

/-- A point of a set of pins, or the place itself. -/
def inS (ps : List Pt) (s v : Nat) (p : Pt) : Prop := p = gP (hanV ps) v ∨ ∃ k, k < 7 ∧ s.testBit k = true ∧ p = gP ps k
def ck6 : Bool := (List.range 128).all fun s => (parts s).all fun p => (List.range 7).all fun k => !(s.testBit k) || p.testBit k || (s - p).testBit k
theorem ck6_ok : ck6 = true := by decide +kernel
theorem bit_split {s p k : Nat} (hs : s < 128) (hp : p ∈ parts s) (hk : k < 7) (hb : s.testBit k = true) : p.testBit k = true ∨ (s - p).testBit k = true := by
  have h := ck6_ok
  unfold ck6 at h
  rw [List.all_eq_true] at h
  have h1 := h s (List.mem_range.2 hs)
  rw [List.all_eq_true] at h1
  have h2 := h1 p hp
  rw [List.all_eq_true] at h2
  have h3 := h2 k (List.mem_range.2 hk)
  rw [hb] at h3
  simpa using h3
def ck7 : Bool := (List.range 7).all fun k => (List.range 7).all fun j => (Nat.testBit (2 ^ k) j) == (j == k)
theorem ck7_ok : ck7 = true := by decide +kernel
theorem bit_pow {k j : Nat} (hk : k < 7) (hj : j < 7) (h : Nat.testBit (2 ^ k) j = true) : j = k := by
  have h0 := ck7_ok
  unfold ck7 at h0
  rw [List.all_eq_true] at h0
  have h1 := h0 k (List.mem_range.2 hk)
  rw [List.all_eq_true] at h1
  have h2 := h1 j (List.mem_range.2 hj)
  rw [h] at h2
  simpa using h2
theorem single_lt7 {s k : Nat} (h : single s = some k) : k < 7 := by
  unfold single at h
  exact List.mem_range.1 (List.mem_of_find?_eq_some h)
section
variable {ps : List Pt}
theorem inS_at (s v : Nat) : inS ps s v (gP (hanV ps) v) := Or.inl rfl
theorem inS_two {s p v : Nat} {x : Pt} (hs : s < 128) (hp : p ∈ parts s) (h : inS ps s v x) :
    ∃ a b, inS ps p v a ∧ inS ps (s - p) v b ∧ a.1 + b.1 = x.1 + (gP (hanV ps) v).1 ∧ a.2 + b.2 = x.2 + (gP (hanV ps) v).2 := by
  rcases h with rfl | ⟨k, hk, hb, rfl⟩
  · exact ⟨_, _, inS_at _ _, inS_at _ _, rfl, rfl⟩
  · rcases bit_split hs hp hk hb with h | h
    · exact ⟨gP ps k, _, Or.inr ⟨k, hk, h, rfl⟩, inS_at _ _, rfl, rfl⟩
    · exact ⟨_, gP ps k, inS_at _ _, Or.inr ⟨k, hk, h, rfl⟩, by omega, by omega⟩
theorem inS_move {s v u : Nat} {x : Pt} (h : inS ps s v x) : ∃ y, inS ps s u y ∧ (x = y ∨ (x = gP (hanV ps) v ∧ y = gP (hanV ps) u)) := by
  rcases h with rfl | h
  · exact ⟨_, inS_at _ _, Or.inr ⟨rfl, rfl⟩⟩
  · exact ⟨x, Or.inr h, Or.inl rfl⟩
/-- No tree is shorter than what its points lie apart, along X and along Y. -/
theorem low4 : ∀ (n s v : Nat), s ≤ n → 0 < s → s < 128 → v < NP ps → ∀ p1 p2 p3 p4 : Pt,
    (inS ps s v p1 → inS ps s v p2 → inS ps s v p3 → inS ps s v p4 → p1.1 - p2.1 + (p3.2 - p4.2) ≤ mP ps s v) ∧
    (inS ps s v p1 → inS ps s v p2 → inS ps s v p3 → inS ps s v p4 → p1.1 - p2.1 + (p3.2 - p4.2) ≤ tP ps s v) := by
  intro n
  induction n with
  | zero => intro s v h1 h2; omega
  | succ n ih =>
    intro s v h1 h2 h3 hv
    have hm : ∀ v, v < NP ps → ∀ p1 p2 p3 p4 : Pt, inS ps s v p1 → inS ps s v p2 → inS ps s v p3 → inS ps s v p4 → p1.1 - p2.1 + (p3.2 - p4.2) ≤ mP ps s v := by
      intro v hv p1 p2 p3 p4 i1 i2 i3 i4
      cases hsg : single s with
      | some k =>
        have hk7 := single_lt7 hsg
        obtain ⟨_, rfl⟩ := (single_parts h2 h3).2.1 k hsg
        have e := mm_one (pdP ps) (dP ps) (NP ps) (k := k) (v := v) hsg
        have e' : mP ps (2 ^ k) v = dist (gP ps k) (gP (hanV ps) v) := e
        rw [e']
        have hh : ∀ x, inS ps (2 ^ k) v x → x = gP (hanV ps) v ∨ x = gP ps k := fun x hx => by
          rcases hx with h | ⟨j, hj, hb, rfl⟩
          · exact Or.inl h
          · rw [bit_pow hk7 hj hb]; exact Or.inr rfl
        unfold dist
        rcases hh _ i1 with rfl | rfl <;> rcases hh _ i2 with rfl | rfl <;> rcases hh _ i3 with rfl | rfl <;> rcases hh _ i4 with rfl | rfl <;> omega
      | none =>
        obtain ⟨p, hp, e⟩ := mm_at (pdP ps) (dP ps) (NP ps) (v := v) h2 h3 ((single_parts h2 h3).1 hsg)
        have hpm := parts_mem.1 hp
        have e' : mP ps s v = tP ps p v + tP ps (s - p) v := e
        rw [e']
        obtain ⟨a1, b1, a1i, b1i, x1, y1⟩ := inS_two h3 hp i1
        obtain ⟨a2, b2, a2i, b2i, x2, y2⟩ := inS_two h3 hp i2
        obtain ⟨a3, b3, a3i, b3i, x3, y3⟩ := inS_two h3 hp i3
        obtain ⟨a4, b4, a4i, b4i, x4, y4⟩ := inS_two h3 hp i4
        have ha := (ih p v (by omega) (by omega) (by omega) hv a1 a2 a3 a4).2 a1i a2i a3i a4i
        have hb := (ih (s - p) v (by omega) (by omega) (by omega) hv b1 b2 b3 b4).2 b1i b2i b3i b4i
        omega
    intro p1 p2 p3 p4
    refine ⟨hm v hv p1 p2 p3 p4, fun i1 i2 i3 i4 => ?_⟩
    obtain ⟨u, hu, e⟩ := tT_at (pdP ps) (dP ps) (NP ps) h2 hv (by show dist _ _ = 0; unfold dist; omega)
    have e' : tP ps s v = mP ps s u + dist (gP (hanV ps) u) (gP (hanV ps) v) := e
    obtain ⟨q1, j1, c1⟩ := inS_move (u := u) i1
    obtain ⟨q2, j2, c2⟩ := inS_move (u := u) i2
    obtain ⟨q3, j3, c3⟩ := inS_move (u := u) i3
    obtain ⟨q4, j4, c4⟩ := inS_move (u := u) i4
    have h := hm u hu q1 q2 q3 q4 j1 j2 j3 j4
    rw [e']
    unfold dist
    rcases c1 with rfl | ⟨rfl, rfl⟩ <;> rcases c2 with rfl | ⟨rfl, rfl⟩ <;> rcases c3 with rfl | ⟨rfl, rfl⟩ <;> rcases c4 with rfl | ⟨rfl, rfl⟩ <;> omega
theorem t_pin {k v : Nat} (hk : k < 7) (hv : v < NP ps) : tP ps (2 ^ k) v ≤ pdP ps k v := by
  have h := tT_le (pdP ps) (dP ps) (NP ps) (s := 2 ^ k) (Nat.two_pow_pos k) hv hv
  have e := mm_one (pdP ps) (dP ps) (NP ps) (k := k) (v := v) (single_pow hk)
  have z : dP ps v v = 0 := by show dist _ _ = 0; unfold dist; omega
  show tT (pdP ps) (dP ps) (NP ps) (2 ^ k) v ≤ pdP ps k v
  omega
theorem t_le_m {s v : Nat} (h0 : 0 < s) (hv : v < NP ps) : tP ps s v ≤ mP ps s v := by
  have h := tT_le (pdP ps) (dP ps) (NP ps) h0 hv hv
  have z : dP ps v v = 0 := by show dist _ _ = 0; unfold dist; omega
  show tT (pdP ps) (dP ps) (NP ps) s v ≤ mm (pdP ps) (dP ps) (NP ps) s v
  omega
theorem up3 {v : Nat} (hv : v < NP ps) : tP ps 7 v ≤ pdP ps 0 v + pdP ps 1 v + pdP ps 2 v := by
  have h1 := t_le_m (ps := ps) (s := 7) (by omega) hv
  have h2 : mP ps 7 v ≤ tP ps 1 v + tP ps (7 - 1) v := mm_le (pdP ps) (dP ps) (NP ps) (by omega) (by omega) (by decide)
  have h3 := t_le_m (ps := ps) (s := 6) (by omega) hv
  have h4 : mP ps 6 v ≤ tP ps 2 v + tP ps (6 - 2) v := mm_le (pdP ps) (dP ps) (NP ps) (by omega) (by omega) (by decide)
  have k0 := t_pin (ps := ps) (k := 0) (by omega) hv
  have k1 := t_pin (ps := ps) (k := 1) (by omega) hv
  have k2 := t_pin (ps := ps) (k := 2) (by omega) hv
  rw [show (2 : Nat) ^ 0 = 1 from rfl] at k0
  rw [show (2 : Nat) ^ 1 = 2 from rfl] at k1
  rw [show (2 : Nat) ^ 2 = 4 from rfl] at k2
  rw [show 7 - 1 = 6 from rfl] at h2
  rw [show 6 - 2 = 4 from rfl] at h4
  omega
theorem specSt_eq (ho : okPs ps = true) (hn : ps.length ≤ 7) (h1 : 1 ≤ ps.length) : m_spec_l05Steiner ps = some (mnF ps (2 ^ ps.length - 1) (NP ps)) := by
  have hN' : (hanV ps).length ≤ 1000000 := hanV_len ps (by omega)
  have hN : NP ps ≤ 1000000 := hN'
  have hN1 : 1 ≤ NP ps := hanV_pos h1
  have h128 := pow_lt7 (m := ps.length) hn
  have hpos := Nat.two_pow_pos ps.length
  have h2 : 2 ≤ 2 ^ ps.length := by
    have := Nat.pow_le_pow_right (n := 2) (by omega) h1
    simpa using this
  unfold m_spec_l05Steiner
  rw [specHanan_eq ps (by omega)]
  simp only [bind_some']
  rw [(shl_pow (k := ps.length) (by omega)).2, p0C_ok (by omega), (shl_pow (k := ps.length) (by omega)).1, mkC_ok (by unfold lim; omega)]
  simp only [bind_some', Int.toNat_natCast]
  rw [s23 ho hn h1 hN]
  simp only [bind_some']
  rw [wr_in (by omega), show ((2 ^ ps.length : Nat) : Int) - 1 = ((2 ^ ps.length - 1 : Nat) : Int) by omega, tab_geti (by omega) (by omega) (by omega)]
  simp only [bind_some']
  have hr0 : geti (rP ps (2 ^ ps.length - 1)) 0 = some (tP ps (2 ^ ps.length - 1) 0) := rowT_geti (v := 0) (by omega)
  unfold rP at hr0
  rw [hr0]
  simp only [bind_some']
  rw [s35 (by omega) (by omega) hn hN hN1]
  rfl
theorem implSt_eq (ho : okPs ps = true) (hn : ps.length ≤ 7) (h1 : 1 ≤ ps.length) : m_impl_steiner ps = some (mnF ps (2 ^ ps.length - 1) (NP ps)) := by
  obtain ⟨x, e1, e2⟩ := both ho hn h1
  rw [specSt_eq ho hn h1] at e2
  rw [e1, e2]
/-- Three pins: box, star of the middle, shortest tree. -/
theorem steiner3 {a b c m : Pt} (ho : okPs [a, b, c] = true) {B : Int} (hm : m ∈ hanV [a, b, c]) (hs : dist a m + dist b m + dist c m ≤ B)
    (hb : ∃ p1 p2 p3 p4 : Pt, (p1 = a ∨ p1 = b ∨ p1 = c) ∧ (p2 = a ∨ p2 = b ∨ p2 = c) ∧ (p3 = a ∨ p3 = b ∨ p3 = c) ∧ (p4 = a ∨ p4 = b ∨ p4 = c) ∧ B = p1.1 - p2.1 + (p3.2 - p4.2)) :
    m_impl_steiner [a, b, c] = some B := by
  rw [implSt_eq ho (by simp) (by simp)]
  congr 1
  obtain ⟨v, hv, hve⟩ := List.mem_iff_getElem.1 hm
  have hgv : gP (hanV [a, b, c]) v = m := by rw [gP_at hv]; exact hve
  have g0 : gP [a, b, c] 0 = a := rfl
  have g1 : gP [a, b, c] 1 = b := rfl
  have g2 : gP [a, b, c] 2 = c := rfl
  have e7 : 2 ^ [a, b, c].length - 1 = 7 := rfl
  rw [e7]
  refine mnF_is (p := v) (hanV_pos (by simp)) hv (fun u hu => ?_) ?_
  · obtain ⟨p1, p2, p3, p4, i1, i2, i3, i4, rfl⟩ := hb
    have hin : ∀ p : Pt, (p = a ∨ p = b ∨ p = c) → inS [a, b, c] 7 u p := fun p hp => by
      rcases hp with rfl | rfl | rfl
      · exact Or.inr ⟨0, by omega, by decide, rfl⟩
      · exact Or.inr ⟨1, by omega, by decide, rfl⟩
      · exact Or.inr ⟨2, by omega, by decide, rfl⟩
    exact (low4 7 7 u (Nat.le_refl _) (by omega) (by omega) hu p1 p2 p3 p4).2 (hin _ i1) (hin _ i2) (hin _ i3) (hin _ i4)
  · have h := up3 (ps := [a, b, c]) hv
    have d0 : pdP [a, b, c] 0 v = dist a m := by show dist _ _ = _; rw [hgv, g0]
    have d1 : pdP [a, b, c] 1 v = dist b m := by show dist _ _ = _; rw [hgv, g1]
    have d2 : pdP [a, b, c] 2 v = dist c m := by show dist _ _ = _; rw [hgv, g2]
    omega
end
/-! ### Points taken one by one -/
inductive Grows (hv : List Pt) : List Pt → List Pt → Prop
  | stop (all : List Pt) : Grows hv all []
  | more {all f : List Pt} {p : Pt} (h1 : p ∈ hv) (h2 : p ∉ all) (h3 : (trV (all ++ [p])).2 < (trV all).2) (h4 : Grows hv (all ++ [p]) f) : Grows hv all (p :: f)
theorem obF_val (hv all : List Pt) : ∀ v i, (obF hv all v).2 = some i → (obF hv all v).1 = gainV all (gP hv i)
  | 0, i, h => by cases h
  | v + 1, i, h => by
    unfold obF at h ⊢
    split
    · rename_i c
      rw [if_pos c] at h
      simp only [Option.some.injEq] at h
      rw [h]
    · rename_i c
      rw [if_neg c] at h
      exact obF_val hv all v i h
theorem ob_grows {ps : List Pt} (hp : okPs ps = true) (hb : ps.length ≤ 1000) : ∀ (m : Nat) (all : List Pt), 20 - all.length ≤ m → okPs all = true → 1 ≤ all.length → all.length ≤ 20 →
    ∃ f, loopM (m_impl_oneByOne_s3 ps) all = some (all ++ f) ∧ Grows (hanV ps) all f ∧ okPs (all ++ f) = true ∧ (all ++ f).length ≤ 20 := by
  intro m
  induction m with
  | zero =>
    intro all hm h h1 h2
    refine ⟨[], by rw [List.append_nil]; refine loopM_out ?_; unfold m_impl_oneByOne_s3; simp only []; rw [bif_f (by simp; omega)], .stop _, by rw [List.append_nil]; exact h, by rw [List.append_nil]; exact h2⟩
  | succ m ih =>
    intro all hm h h1 h2
    by_cases c : all.length = 20
    · refine ⟨[], by rw [List.append_nil]; refine loopM_out ?_; unfold m_impl_oneByOne_s3; simp only []; rw [bif_f (by simp; omega)], .stop _, by rw [List.append_nil]; exact h, by rw [List.append_nil]; exact h2⟩
    · have hh := hanV_ok hp
      have hl := hanV_len ps hb
      have e1 : m_impl_oneByOne_s3 ps all = (bif (obF (hanV ps) all (hanV ps).length).1 == 0 then some (Ctl.out all) else Option.bind (apC all ([((repPt (hanV ps) (obF (hanV ps) all (hanV ps).length).2).1, (repPt (hanV ps) (obF (hanV ps) all (hanV ps).length).2).2)] : List (Int × Int))) fun _ => some (Ctl.next (all ++ ([((repPt (hanV ps) (obF (hanV ps) all (hanV ps).length).2).1, (repPt (hanV ps) (obF (hanV ps) all (hanV ps).length).2).2)] : List (Int × Int))))) := by
        unfold m_impl_oneByOne_s3
        simp only []
        rw [bif_t (by simp; omega), implHanan_eq ps hb]
        simp only [bind_some']
        rw [implOb hh hl h h1 h2]
        rfl
      obtain ⟨o1, o2, o3⟩ := obF_inv (hanV ps) all (hanV ps).length
      cases hs : (obF (hanV ps) all (hanV ps).length).2 with
      | none =>
        refine ⟨[], ?_, .stop _, by rw [List.append_nil]; exact h, by rw [List.append_nil]; exact h2⟩
        rw [List.append_nil]
        refine loopM_out ?_
        rw [e1, o2 hs]; rfl
      | some i =>
        obtain ⟨i1, i2⟩ := o3 i hs
        have hg := gP_ok hh i1
        have hval := obF_val (hanV ps) all _ i hs
        rw [hval] at i2
        have hnot : gP (hanV ps) i ∉ all := fun hc => by unfold gainV at i2; rw [if_pos hc] at i2; omega
        have hless : (trV (all ++ [gP (hanV ps) i])).2 < (trV all).2 := by unfold gainV at i2; rw [if_neg hnot] at i2; omega
        obtain ⟨f, r1, r2, r3, r4⟩ := ih (all ++ [gP (hanV ps) i]) (by simp; omega) (okPs_snoc h hg) (by simp) (by simp; omega)
        refine ⟨gP (hanV ps) i :: f, ?_, .more (by rw [gP_at i1]; exact List.getElem_mem i1) hnot hless r2, by simpa using r3, by simpa using r4⟩
        rw [loopM_next (s' := all ++ [gP (hanV ps) i])]
        · rw [r1]; simp
        · rw [e1, hval, bif_f (by simp; omega), apC_ok (by unfold lim; simp; omega), hs]; rfl
end Go.Proofs.Ytgaecldkiijmpaa
