/- FnClocks in plain numbers. -/
import Derived.Test.YtajnjbmniobjhaaPuCk3
set_option linter.unusedSimpArgs false
set_option linter.unusedVariables false
namespace Go.Proofs.Ytajnjbmniobjhaa
open Go.RowKit

theorem r8At_ok {l : List Int} (hl : ∀ p ∈ l, In8 p) {k n : Int} (hk : 0 ≤ k) (hn : 2 ≤ n) : ∃ v, m_laws_r8At l k n = some v ∧ 0 ≤ v ∧ v < n := by
  unfold m_laws_r8At
  rw [bif_f (by simp; omega)]
  by_cases c : k ≥ (l.length : Int)
  · rw [bif_t (by simpa using c)]; exact ⟨0, rfl, by omega, by omega⟩
  · rw [bif_f (by simpa using c)]
    obtain ⟨j, rfl⟩ := Int.eq_ofNat_of_zero_le hk
    have hj : j < l.length := by omega
    rw [geti_lt hj]
    have hb := hl _ (List.getElem_mem hj)
    simp only [bind_some']
    rw [nzC_ok (by omega)]
    simp only [bind_some']
    rw [wr_in (by unfold In8 at hb; omega)]
    refine ⟨_, rfl, Int.tmod_nonneg _ hb.1, ?_⟩
    rw [Int.tmod_eq_emod_of_nonneg hb.1]; exact Int.emod_lt_of_pos _ (by omega)
section
variable {ps : List Pt} {l : List (List Int)}
theorem geti_row {l : List (List Int)} {k : Nat} {r : List Int} (h : l[k]? = some r) : geti l (k : Int) = some r := by rw [geti_nat, h]
theorem geti_row' {l : List (List Int)} {a : Int} {r : List Int} (h0 : 0 ≤ a) (h : l[a.toNat]? = some r) : geti l a = some r := by
  obtain ⟨n, rfl⟩ := Int.eq_ofNat_of_zero_le h0
  rw [geti_nat]; exact h
/-- Every node's place is in its region. -/
theorem ck_s1 (hp : okPs ps = true) (hJ : IsJ ps.length l) (b1 b2 : Bool) : loopM (m_laws_FnClocks_s1 ps (TM ps l l.length, b1) (plA ps l, b2)) 0 = some (Sum.inl ()) := by
  have hl : (l.length : Int) = ps.length - 1 := hJ.2.1
  have hn := hJ.1
  have hlen := TM_len hJ l.length (Nat.le_refl _)
  have hP := pl_all hp hJ
  have e2 : wr (wr (2 * (ps.length : Int)) - 1) = ((2 * ps.length - 1 : Nat) : Int) := by rw [wr_in (x := 2 * (ps.length : Int)) (by omega), wr_in (by omega)]; omega
  refine loopM_val _ (2 * ps.length - 1) (fun k s => s = (k : Int)) rfl ?_ ?_
  · rintro k _ hk rfl
    left
    obtain ⟨p, q, h1, h2, h3, h4, h5⟩ := hP.reg k hk (done_all hJ hk)
    unfold m_laws_FnClocks_s1
    simp only []
    rw [e2, bif_t (by simpa using hk), (nodeAt_mem (ms := TM ps l l.length) (i := (k : Int)) (by omega) (by omega)).2, geti_row h1]
    simp only [bind_some', geti20, geti21]
    rw [bif_f (by simp), bif_f (by simp; exact h2), bif_f (by simp; exact h3), bif_f (by simp; exact h4), bif_f (by simp; exact h5), wr_in (by omega)]
    exact ⟨_, rfl, rfl⟩
  · rintro _ rfl
    unfold m_laws_FnClocks_s1
    simp only []
    rw [e2, bif_f (by simp)]
theorem ck_s14 {W : List Int} {P : List (List Int)} (b1 b2 : Bool) {k c x y u v w : Int} (hk : 0 ≤ k ∧ k ≤ 100) (hn : ps.length ≤ 100) (h1 : geti P (ps.length + k) = some [x, y]) (h2 : geti P c = some [u, v]) (h3 : geti W c = some w)
    (hx : x - u ≤ w ∧ u - x ≤ w) (hy : y - v ≤ w ∧ v - y ≤ w) (hw : 0 ≤ w ∧ w ≤ 10000000) : loopM (m_laws_FnClocks_s14 ps (W, b1) (P, b2) k c) 0 = some (Sum.inl ()) := by
  refine (loopM_next (s' := 1) ?_).trans ((loopM_next (s' := 2) ?_).trans (loopM_out ?_))
  · unfold m_laws_FnClocks_s14
    simp only []
    rw [bif_t (by simp), wr_in (x := (ps.length : Int) + k) (by omega), h1, h2, h3]
    simp only [bind_some', geti20, geti21]
    rw [wr_in (x := x - u) (by omega), wr_in (x := 0 - (x - u)) (by omega), bif_f (by simp; omega), bif_f (by simp; omega), wr_in (by omega)]
    rfl
  · unfold m_laws_FnClocks_s14
    simp only []
    rw [bif_t (by simp), wr_in (x := (ps.length : Int) + k) (by omega), h1, h2, h3]
    simp only [bind_some', geti20, geti21]
    rw [wr_in (x := y - v) (by omega), wr_in (x := 0 - (y - v)) (by omega), bif_f (by simp; omega), bif_f (by simp; omega), wr_in (by omega)]
    rfl
  · unfold m_laws_FnClocks_s14
    simp only []
    rw [bif_f (by simp)]
/-- Both ends of a pair: as near as the wires, and the delays. -/
theorem ck_s13 (hp : okPs ps = true) (hJ : IsJ ps.length l) (b1 b2 b3 : Bool) {k : Nat} (hk : k < l.length) :
    loopM (m_laws_FnClocks_s13 ps l (TM ps l l.length, b1) (WI ps l l.length, b2) (plA ps l, b3) k) 0 = some (Sum.inl ()) := by
  have hl : (l.length : Int) = ps.length - 1 := hJ.2.1
  have hn := hJ.1
  have hlen := TM_len hJ l.length (Nat.le_refl _)
  have hwl := WI_len ps l l.length
  obtain ⟨a, b, hat, g0, g1, g2, _⟩ := hJ.2.2 k hk
  obtain ⟨w1, w2, w3, w4⟩ := wires_of hp hJ hat
  obtain ⟨i1, i2⟩ := WI_at hJ hat l.length hk (Nat.le_refl _)
  have hP := pl_all hp hJ
  obtain ⟨x, y, f1, f2, f3⟩ := hP.pair k (by omega) hk a b hat
  have hin : InR (nd ps l (ps.length + k)) x y := by
    obtain ⟨p, q, h1, h2⟩ := hP.reg (ps.length + k) (by omega) (done_all hJ (by omega))
    rw [f1] at h1; cases h1
    rwa [show ((ps.length + k : Nat) : Int) = (ps.length : Int) + k by omega] at h2
  obtain ⟨n1, n2, n3, n4⟩ := pl_near hp hJ hat hin
  have e0 : geti (plA ps l) ((ps.length : Int) + k) = some [x, y] := by
    rw [show (ps.length : Int) + k = ((ps.length + k : Nat) : Int) by omega]; exact geti_row f1
  have ea := geti_row' g0 f2
  have eb := geti_row' (a := b) (by omega) f3
  have wa : geti (WI ps l l.length) a = some (mone (nd ps l a) (nd ps l b)) := by rw [geti_in g0 (by omega), i1]
  have wb : geti (WI ps l l.length) b = some (mtwo (nd ps l a) (nd ps l b)) := by rw [geti_in (by omega) (by omega), i2]
  have m0 : geti (TM ps l l.length) ((ps.length : Int) + k) = some (nd ps l (ps.length + k)) := (nodeAt_mem (by omega) (by omega)).2
  have ma : geti (TM ps l l.length) a = some (nd ps l a) := (nodeAt_mem (by omega) (by omega)).2
  have mb : geti (TM ps l l.length) b = some (nd ps l b) := (nodeAt_mem (by omega) (by omega)).2
  have s1 := nd_small hp hJ (x := a) (by omega) (by omega)
  have s2 := nd_small hp hJ (x := b) (by omega) (by omega)
  unfold clampV at ea eb
  refine (loopM_next (s' := 1) ?_).trans ((loopM_next (s' := 2) ?_).trans (loopM_out ?_))
  · unfold m_laws_FnClocks_s13
    simp only []
    rw [bif_t (by simp), geti_row hat]
    simp only [bind_some', geti20, geti21]
    rw [ck_s14 b2 b3 (k := (k : Int)) (by omega) (by omega) e0 ea wa n1 n2 w1]
    simp only [bind_some']
    rw [wr_in (x := (ps.length : Int) + k) (by omega), m0, ma, wa]
    simp only [bind_some']
    rw [wr_in (x := (nd ps l a).2.2.2.2 + mone (nd ps l a) (nd ps l b)) (by omega), bif_f (by rw [w3]; simp), wr_in (by omega)]
    rfl
  · unfold m_laws_FnClocks_s13
    simp only []
    rw [bif_t (by simp), geti_row hat]
    simp only [bind_some', geti20, geti21]
    rw [ck_s14 b2 b3 (k := (k : Int)) (by omega) (by omega) e0 eb wb n3 n4 w2]
    simp only [bind_some']
    rw [wr_in (x := (ps.length : Int) + k) (by omega), m0, mb, wb]
    simp only [bind_some']
    rw [wr_in (x := (nd ps l b).2.2.2.2 + mtwo (nd ps l a) (nd ps l b)) (by omega), bif_f (by rw [w4]; simp), wr_in (by omega)]
    rfl
  · unfold m_laws_FnClocks_s13
    simp only []
    rw [bif_f (by simp)]
theorem ck_s10 (hp : okPs ps = true) (hJ : IsJ ps.length l) (b1 b2 b3 : Bool) :
    loopM (m_laws_FnClocks_s10 ps l (TM ps l l.length, b1) (WI ps l l.length, b2) (plA ps l, b3)) 0 = some (Sum.inl ()) := by
  have hl : (l.length : Int) = ps.length - 1 := hJ.2.1
  have hn := hJ.1
  refine loopM_val _ l.length (fun k s => s = (k : Int)) rfl ?_ ?_
  · rintro k _ hk rfl
    left
    unfold m_laws_FnClocks_s10
    simp only []
    rw [wr_in (x := (ps.length : Int) - 1) (by omega), bif_t (by simp; omega), ck_s13 hp hJ b1 b2 b3 hk]
    simp only [bind_some']
    rw [wr_in (by omega)]
    exact ⟨_, rfl, rfl⟩
  · rintro _ rfl
    unfold m_laws_FnClocks_s10
    simp only []
    rw [wr_in (x := (ps.length : Int) - 1) (by omega), bif_f (by simp; omega)]
end
theorem lawClocks (l0 l1 : List Int) (h0 : ∀ p ∈ l0, In8 p) (h1 : ∀ p ∈ l1, In8 p) : m_laws_FnClocks l0 l1 = some true := by
  have hlong : ∃ b, m_laws_r8Long l0 l1 = some b := by
    unfold m_laws_r8Long
    cases decide ((l0.length : Int) > 48)
    · exact ⟨_, rfl⟩
    · exact ⟨_, rfl⟩
  obtain ⟨b, hb⟩ := hlong
  unfold m_laws_FnClocks
  rw [hb]
  simp only [bind_some']
  cases b
  case true => rfl
  obtain ⟨ps, e1, hp, p2, p7⟩ := pins_drawn h0 (m := 7) (by omega) (by omega)
  obtain ⟨js, e2, hJ⟩ := joins_drawn h1 (p := ps.length) (by omega) (by omega)
  have hl : (js.length : Int) = ps.length - 1 := hJ.2.1
  have hask : askB ps js = true := by unfold askB; rw [hp, joinsB_iff.2 hJ]; rfl
  have hlen := TM_len hJ js.length (Nat.le_refl _)
  have hwl := WI_len ps js js.length
  have hWS : WS ps js js.length = WI ps js js.length := by rw [WI_eq hJ js.length (Nat.le_refl _)]; simp
  have hT := implTree_eq ps js (by omega)
  rw [if_pos hask, hWS] at hT
  have c1 : m_impl_ClockMerges ps js = some (TM ps js js.length, true) := by unfold m_impl_ClockMerges; rw [hT]; rfl
  have c2 : m_impl_ClockWires ps js = some (WI ps js js.length, true) := by unfold m_impl_ClockWires; rw [hT]; rfl
  have c3 : m_impl_ClockPlaces ps js = some (plA ps js, true) := by rw [implPlaces_eq ps js (by omega)]; unfold placesV; rw [if_pos hask]; rfl
  have c4 : m_impl_SkewOf ps.length js (WI ps js js.length) = some (0, true) := by
    rw [implSkew_eq _ _ _ (by omega), skew_is hp hJ hwl (at_ := 0) (by omega) (c := 0) (by omega) (fun x => by split <;> omega)]
  have hpl := (pl_all hp hJ).len
  rw [e1, bif_f rfl]
  simp only [bind_some']
  rw [e2]
  simp only [bind_some']
  rw [c1, c2, c3]
  simp only [bind_some']
  rw [c4]
  simp only [bind_some']
  have e3 : wr (wr (2 * (ps.length : Int)) - 1) = 2 * (ps.length : Int) - 1 := by rw [wr_in (x := 2 * (ps.length : Int)) (by omega), wr_in (by omega)]
  rw [e3]
  rw [bif_f (by rfl), bif_f (by rfl), bif_f (by rfl), bif_f (by rfl), bif_f (by rfl), bif_f (by simp; omega), bif_f (by simp; omega), bif_f (by simp; omega), implJ_eq, joinsB_iff.2 hJ]
  simp only [bind_some']
  rw [bif_f (by rfl), ck_s1 hp hJ true true]
  simp only [bind_some']
  rw [ck_s10 hp hJ true true true]
  simp only [bind_some']
  obtain ⟨v, r1, r2, r3⟩ := r8At_ok h1 (k := 40) (n := ps.length) (by omega) (by omega)
  obtain ⟨at_, rfl⟩ := Int.eq_ofNat_of_zero_le r2
  rw [apC_ok (by unfold lim; simp; omega), r1]
  simp only [bind_some', List.nil_append]
  have hat : geti (WI ps js js.length) (at_ : Int) = some ((WI ps js js.length).getD at_ 0) := by rw [geti_in (by omega) (by omega)]; rfl
  rw [hat]
  simp only [bind_some']
  have rng := WI_rng hp hJ js.length (Nat.le_refl _) at_
  rw [wr_in (by omega), implSkew_eq _ _ _ (by simp; omega), skew_is hp hJ (by simp [hwl]) (at_ := at_) (by omega) (c := 5) (by omega) (fun x => by
    rw [Int.toNat_natCast]
    by_cases e : at_ = x
    · subst e; rw [gd_eq (by omega), if_pos rfl]
    · rw [gd_ne e, if_neg (Ne.symm e)]; omega)]
  rfl
end Go.Proofs.Ytajnjbmniobjhaa
