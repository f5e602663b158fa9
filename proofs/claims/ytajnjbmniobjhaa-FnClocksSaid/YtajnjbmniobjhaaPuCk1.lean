/- A clock tree: what its nodes, wires and sums have to do with one another. -/
import Derived.Test.YtajnjbmniobjhaaPkPlaces
set_option linter.unusedSimpArgs false
set_option linter.unusedVariables false
namespace Go.Proofs.Ytajnjbmniobjhaa
open Go.RowKit

theorem gd_ne {w : List Int} {i j : Nat} {v : Int} (h : i ≠ j) : (w.set i v).getD j 0 = w.getD j 0 := by simp [List.getD, List.getElem?_set_ne h]
theorem gd_eq {w : List Int} {i : Nat} {v : Int} (h : i < w.length) : (w.set i v).getD i 0 = v := by simp [List.getD, h]
section
variable {ps : List Pt} {l : List (List Int)}
/-- Node x of the whole tree. -/
abbrev nd (ps : List Pt) (l : List (List Int)) (x : Int) : Mg := nodeAt (TM ps l l.length) x
theorem TM_succ {k : Nat} {a b : Int} (hat : l[k]? = some [a, b]) : TM ps l (k + 1) = TM ps l k ++ [mmrg (nodeAt (TM ps l k) a) (nodeAt (TM ps l k) b)] := by
  show TMs _ _ = _
  rw [getD_row hat]; rfl
theorem TM_pre (hJ : IsJ ps.length l) (j : Nat) : ∀ k, j ≤ k → k ≤ l.length → ∀ x : Nat, x < ps.length + j → (TM ps l k)[x]? = (TM ps l j)[x]? := by
  intro k
  induction k with
  | zero => intro h _ x _; rw [show j = 0 by omega]
  | succ k ih =>
    intro h hk x hx
    by_cases e : j = k + 1
    · rw [e]
    · obtain ⟨a, b, hat, _⟩ := hJ.2.2 k (by omega)
      have hlen := TM_len hJ k (by omega)
      rw [TM_succ hat, List.getElem?_append_left (by omega)]
      exact ih (by omega) (by omega) x hx
theorem nd_at (hJ : IsJ ps.length l) {k : Nat} (hk : k ≤ l.length) {x : Int} (h0 : 0 ≤ x) (h1 : x < ps.length + k) : nodeAt (TM ps l k) x = nd ps l x := by
  unfold nd nodeAt
  simp only [List.getD]
  rw [TM_pre hJ k l.length hk (Nat.le_refl _) x.toNat (by omega)]
theorem lt_of_at {k : Nat} {r : List Int} (h : l[k]? = some r) : k < l.length := (List.getElem?_eq_some_iff.1 h).1
theorem nd_pair (hJ : IsJ ps.length l) {k : Nat} {a b : Int} (hat : l[k]? = some [a, b]) : nd ps l (ps.length + k) = mmrg (nd ps l a) (nd ps l b) := by
  have hk := lt_of_at hat
  obtain ⟨h0, h1, h2, _⟩ := (hJ.2.2 k hk).at hat
  have hlen := TM_len hJ k (by omega)
  rw [← nd_at hJ (k := k + 1) (by omega) (by omega) (by omega), TM_succ hat, nd_at hJ (k := k) (x := a) (by omega) (by omega) (by omega), nd_at hJ (k := k) (x := b) (by omega) (by omega) (by omega)]
  unfold nodeAt
  rw [show ((ps.length : Int) + k).toNat = ps.length + k by omega]
  simp only [List.getD]
  rw [List.getElem?_append_right (by omega), hlen]
  simp
theorem nd_leaf (hJ : IsJ ps.length l) {x : Nat} (hx : x < ps.length) : nd ps l x = leafV ps[x] := by
  rw [← nd_at hJ (k := 0) (by omega) (by omega) (by omega)]
  unfold nodeAt TM
  simp [List.getD, hx]
theorem nd_ok (hp : okPs ps = true) (hJ : IsJ ps.length l) {k : Nat} {a b : Int} (hat : l[k]? = some [a, b]) :
    MgOk (2 * 2 ^ (11 - k)) (k * 811008) (nd ps l a) ∧ MgOk (2 * 2 ^ (11 - k)) (k * 811008) (nd ps l b) ∧ (k : Int) ≤ 10 := by
  have hk := lt_of_at hat
  obtain ⟨h0, h1, h2, _⟩ := (hJ.2.2 k hk).at hat
  have hlen := TM_len hJ k (by omega)
  have hl : (l.length : Int) = ps.length - 1 := hJ.2.1
  have hn := hJ.1
  have k11 : k ≤ 11 := by omega
  have e1 := TM_ok hp hJ k (by omega) _ (nodeAt_mem (ms := TM ps l k) (i := a) (by omega) (by omega)).1
  have e2 := TM_ok hp hJ k (by omega) _ (nodeAt_mem (ms := TM ps l k) (i := b) (by omega) (by omega)).1
  rw [pow_step k11] at e1 e2
  rw [nd_at hJ (k := k) (by omega) (by omega) (by omega)] at e1 e2
  exact ⟨e1, e2, by omega⟩
theorem nd_small (hp : okPs ps = true) (hJ : IsJ ps.length l) {x : Int} (h0 : 0 ≤ x) (h1 : x < 2 * ps.length - 1) :
    (nd ps l x).1 ≤ (nd ps l x).2.1 ∧ (nd ps l x).2.2.1 ≤ (nd ps l x).2.2.2.1 ∧ 0 ≤ (nd ps l x).2.2.2.2 ∧ (nd ps l x).2.2.2.2 ≤ 5000000 ∧ -5000000 ≤ (nd ps l x).1 ∧ (nd ps l x).2.1 ≤ 6000000 ∧ -5000000 ≤ (nd ps l x).2.2.1 ∧ (nd ps l x).2.2.2.1 ≤ 6000000 := by
  have hlen := TM_len hJ l.length (Nat.le_refl _)
  have hl : (l.length : Int) = ps.length - 1 := hJ.2.1
  have hn := hJ.1
  have e := TM_ok hp hJ l.length (Nat.le_refl _) _ (nodeAt_mem (ms := TM ps l l.length) (i := x) h0 (by omega)).1
  have s := e.small (by omega)
  have := e.u; have := e.v
  unfold nd
  omega
/-- A pair's wires: not negative, not too long, and the delays of both ends and their wires are that of the merge. -/
theorem wires_of (hp : okPs ps = true) (hJ : IsJ ps.length l) {k : Nat} {a b : Int} (hat : l[k]? = some [a, b]) :
    (0 ≤ mone (nd ps l a) (nd ps l b) ∧ mone (nd ps l a) (nd ps l b) ≤ 10000000) ∧ (0 ≤ mtwo (nd ps l a) (nd ps l b) ∧ mtwo (nd ps l a) (nd ps l b) ≤ 10000000) ∧
    (nd ps l (ps.length + k)).2.2.2.2 = (nd ps l a).2.2.2.2 + mone (nd ps l a) (nd ps l b) ∧ (nd ps l (ps.length + k)).2.2.2.2 = (nd ps l b).2.2.2.2 + mtwo (nd ps l a) (nd ps l b) := by
  obtain ⟨ha, hb, hk⟩ := nd_ok hp hJ hat
  obtain ⟨k1, k2, _, k4, _, k6, k7⟩ := mone_facts ha hb
  rw [nd_pair hJ hat]
  have e : (mmrg (nd ps l a) (nd ps l b)).2.2.2.2 = (nd ps l a).2.2.2.2 + mone (nd ps l a) (nd ps l b) := rfl
  rw [e]
  refine ⟨⟨k1, by omega⟩, ⟨k2, by omega⟩, rfl, k4⟩
theorem WI_at (hJ : IsJ ps.length l) {j : Nat} {a b : Int} (hat : l[j]? = some [a, b]) : ∀ k, j < k → k ≤ l.length →
    (WI ps l k).getD a.toNat 0 = mone (nd ps l a) (nd ps l b) ∧ (WI ps l k).getD b.toNat 0 = mtwo (nd ps l a) (nd ps l b) := by
  have hj := lt_of_at hat
  have hl : (l.length : Int) = ps.length - 1 := hJ.2.1
  obtain ⟨h0, h1, h2, _⟩ := (hJ.2.2 j hj).at hat
  intro k
  induction k with
  | zero => intro h; omega
  | succ k ih =>
    intro h hk
    have hw := WI_len ps l k
    obtain ⟨a', b', hat', g0, g1, g2, g3, g4⟩ := hJ.2.2 k (by omega)
    have e : WI ps l (k + 1) = ((WI ps l k).set a'.toNat (mone (nodeAt (TM ps l k) a') (nodeAt (TM ps l k) b'))).set b'.toNat (mtwo (nodeAt (TM ps l k) a') (nodeAt (TM ps l k) b')) := by
      show WIs _ _ _ = _
      rw [getD_row hat']; rfl
    rw [e]
    by_cases ej : j = k
    · subst ej
      rw [hat] at hat'; cases hat'
      rw [nd_at hJ (k := j) (x := a) (by omega) (by omega) (by omega), nd_at hJ (k := j) (x := b) (by omega) (by omega) (by omega)]
      constructor
      · rw [gd_ne (by omega), gd_eq (by omega)]
      · rw [gd_eq (by rw [List.length_set]; omega)]
    · obtain ⟨i1, i2⟩ := ih (by omega) (by omega)
      have ua : Used l k a := ⟨j, by omega, _, hat, by simp⟩
      have ub : Used l k b := ⟨j, by omega, _, hat, by simp⟩
      have n1 : a' ≠ a := fun e => g3 (e ▸ ua)
      have n2 : b' ≠ a := fun e => g4 (e ▸ ua)
      have n3 : a' ≠ b := fun e => g3 (e ▸ ub)
      have n4 : b' ≠ b := fun e => g4 (e ▸ ub)
      constructor
      · rw [gd_ne (by omega), gd_ne (by omega)]; exact i1
      · rw [gd_ne (by omega), gd_ne (by omega)]; exact i2
theorem WI_rng (hp : okPs ps = true) (hJ : IsJ ps.length l) : ∀ k, k ≤ l.length → ∀ x : Nat, 0 ≤ (WI ps l k).getD x 0 ∧ (WI ps l k).getD x 0 ≤ 10000000 := by
  intro k
  induction k with
  | zero =>
    intro _ x
    have : (WI ps l 0).getD x 0 = 0 := by
      show (List.replicate _ _).getD x 0 = 0
      simp only [List.getD, List.getElem?_replicate]
      split <;> rfl
    rw [this]; omega
  | succ k ih =>
    intro hk x
    have hl : (l.length : Int) = ps.length - 1 := hJ.2.1
    have hw := WI_len ps l k
    obtain ⟨a', b', hat', g0, g1, g2, g3, g4⟩ := hJ.2.2 k (by omega)
    obtain ⟨w1, w2, _⟩ := wires_of hp hJ hat'
    have e : WI ps l (k + 1) = ((WI ps l k).set a'.toNat (mone (nd ps l a') (nd ps l b'))).set b'.toNat (mtwo (nd ps l a') (nd ps l b')) := by
      show WIs _ _ _ = _
      rw [getD_row hat', ← nd_at hJ (k := k) (x := a') (by omega) (by omega) (by omega), ← nd_at hJ (k := k) (x := b') (by omega) (by omega) (by omega)]; rfl
    rw [e]
    by_cases e1 : b'.toNat = x
    · subst e1; rw [gd_eq (by rw [List.length_set]; omega)]; exact w2
    · rw [gd_ne e1]
      by_cases e2 : a'.toNat = x
      · subst e2; rw [gd_eq (by omega)]; exact w1
      · rw [gd_ne e2]; exact ih (by omega) x
theorem done_split {n k : Nat} (hJ : IsJ n l) (hk : k < l.length) {a b : Int} (hat : l[l.length - 1 - k]? = some [a, b]) {x : Nat} (h : Done n l (k + 1) x) : Done n l k x ∨ (x : Int) = a ∨ (x : Int) = b := by
  rcases h with h | ⟨j, h1, h2, r, h3, h4⟩
  · exact Or.inl (Or.inl h)
  · by_cases e : j = l.length - 1 - k
    · subst e
      rw [hat] at h3; cases h3
      right; simpa using h4
    · exact Or.inl (Or.inr ⟨j, by omega, h2, r, h3, h4⟩)
/-- The sums, from the root down: what is left of the root's delay. -/
theorem sk_inv (hp : okPs ps = true) (hJ : IsJ ps.length l) {w : List Int} (hlen : w.length = 2 * ps.length - 1) {at_ : Nat} (hat_ : at_ < ps.length) {c : Int} (hc : 0 ≤ c ∧ c ≤ 10)
    (hw : ∀ x : Nat, w.getD x 0 = (WI ps l l.length).getD x 0 + (if x = at_ then c else 0)) :
    ∀ k, k ≤ l.length → ∀ x : Nat, x < 2 * ps.length - 1 → Done ps.length l k x → (skU ps.length l w k).getD x 0 = (nd ps l (2 * ps.length - 2 : Int)).2.2.2.2 - (nd ps l x).2.2.2.2 + (if x = at_ then c else 0) := by
  have hl : (l.length : Int) = ps.length - 1 := hJ.2.1
  have hn := hJ.1
  intro k
  induction k with
  | zero =>
    intro _ x hx hd
    rcases hd with h | ⟨j, h1, h2, _⟩
    · have e0 : (skU ps.length l w 0).getD x 0 = 0 := by
        show (List.replicate _ _).getD x 0 = 0
        simp only [List.getD, List.getElem?_replicate]
        split <;> rfl
      rw [e0, if_neg (by omega), show ((x : Nat) : Int) = 2 * ps.length - 2 by omega]
      omega
    · omega
  | succ k ih =>
    intro hk x hx hd
    have hi : l.length - 1 - k < l.length := by omega
    obtain ⟨a, b, hat, g0, g1, g2, g3, g4⟩ := hJ.2.2 (l.length - 1 - k) hi
    obtain ⟨w1, w2, w3, w4⟩ := wires_of hp hJ hat
    obtain ⟨i1, i2⟩ := WI_at hJ hat l.length hi (Nat.le_refl _)
    have hul : (skU ps.length l w k).length = 2 * ps.length - 1 := by rw [skU_len, hlen]
    have hup := ih (by omega) (ps.length + (l.length - 1 - k)) (by omega) (by have := done_up hJ hi; rwa [show l.length - 1 - (l.length - 1 - k) = k by omega] at this)
    rw [if_neg (by omega)] at hup
    have s1 := nd_small hp hJ (x := a) (by omega) (by omega)
    have s2 := nd_small hp hJ (x := b) (by omega) (by omega)
    have s3 := nd_small hp hJ (x := (2 * ps.length - 2 : Int)) (by omega) (by omega)
    have ce : ∀ z : Nat, 0 ≤ (if z = at_ then c else 0) ∧ (if z = at_ then c else 0) ≤ 10 := fun z => by split <;> omega
    have ca := ce a.toNat
    have cb := ce b.toNat
    have e : skU ps.length l w (k + 1) = ((skU ps.length l w k).set a.toNat (wr ((skU ps.length l w k).getD ((ps.length : Int) + (l.length - 1 - k : Nat)).toNat 0 + w.getD a.toNat 0))).set b.toNat (wr (((skU ps.length l w k).set a.toNat (wr ((skU ps.length l w k).getD ((ps.length : Int) + (l.length - 1 - k : Nat)).toNat 0 + w.getD a.toNat 0))).getD ((ps.length : Int) + (l.length - 1 - k : Nat)).toNat 0 + w.getD b.toNat 0)) := by
      show skS _ _ _ _ _ = _
      unfold skS; rw [hat]
    rw [e, gd_ne (i := a.toNat) (j := ((ps.length : Int) + (l.length - 1 - k : Nat)).toNat) (by omega), show ((ps.length : Int) + (l.length - 1 - k : Nat)).toNat = ps.length + (l.length - 1 - k) by omega, hup, hw, hw, i1, i2]
    rw [show ((ps.length + (l.length - 1 - k) : Nat) : Int) = (ps.length : Int) + (l.length - 1 - k : Nat) by omega]
    by_cases xb : (x : Int) = b
    · have xb' : b.toNat = x := by omega
      rw [xb'] at cb ⊢
      rw [gd_eq (by rw [List.length_set]; omega), wr_in (by omega)]
      rw [xb]; omega
    · rw [gd_ne (by omega)]
      by_cases xa : (x : Int) = a
      · have xa' : a.toNat = x := by omega
        rw [xa'] at ca ⊢
        rw [gd_eq (by omega), wr_in (by omega)]
        rw [xa]; omega
      · rw [gd_ne (by omega)]
        rcases done_split hJ (by omega) hat hd with h | h | h
        · exact ih (by omega) x hx h
        · exact absurd h xa
        · exact absurd h xb
theorem done_all {n : Nat} (hJ : IsJ n l) {x : Nat} (hx : x < 2 * n - 1) : Done n l l.length x := by
  by_cases e : x + 2 = 2 * n
  · exact Or.inl e
  · obtain ⟨j, hj, r, hr, hm⟩ := all_used hJ (x := x) (by omega)
    exact Or.inr ⟨j, by omega, hj, r, hr, hm⟩
theorem mx_eq {u : List Int} {D c : Int} {at_ n : Nat} (hc : 0 ≤ c) (h : ∀ x : Nat, x ≤ n → u.getD x 0 = D + if x = at_ then c else 0) : ∀ k, k ≤ n → mxU u k = D + if at_ ≤ k then c else 0 := by
  intro k
  induction k with
  | zero => intro _; show u.getD 0 0 = _; rw [h 0 (by omega)]; split <;> split <;> omega
  | succ k ih => intro hk; show max (mxU u k) (u.getD (k + 1) 0) = _; rw [ih (by omega), h (k + 1) hk]; split <;> split <;> split <;> omega
theorem mn_eq {u : List Int} {D c : Int} {at_ n : Nat} (hc : 0 ≤ c) (h : ∀ x : Nat, x ≤ n → u.getD x 0 = D + if x = at_ then c else 0) : ∀ k, k + 1 ≤ n → mnU u (k + 1) = D := by
  intro k
  induction k with
  | zero => intro _; show min (u.getD 0 0) (u.getD 1 0) = _; rw [h 0 (by omega), h 1 (by omega)]; split <;> split <;> omega
  | succ k ih => intro hk; show min (mnU u (k + 1)) (u.getD (k + 1 + 1) 0) = _; rw [ih (by omega), h (k + 1 + 1) hk]; split <;> omega
theorem skew_is (hp : okPs ps = true) (hJ : IsJ ps.length l) {w : List Int} (hlen : w.length = 2 * ps.length - 1) {at_ : Nat} (hat_ : at_ < ps.length) {c : Int} (hc : 0 ≤ c ∧ c ≤ 10)
    (hw : ∀ x : Nat, w.getD x 0 = (WI ps l l.length).getD x 0 + (if x = at_ then c else 0)) : skewV ps.length l w = (c, true) := by
  have hl : (l.length : Int) = ps.length - 1 := hJ.2.1
  have hn := hJ.1
  have hS : ∀ x : Nat, x ≤ ps.length - 1 → (skU ps.length l w l.length).getD x 0 = (nd ps l (2 * ps.length - 2 : Int)).2.2.2.2 + if x = at_ then c else 0 := fun x hx => by
    rw [sk_inv hp hJ hlen hat_ hc hw l.length (Nat.le_refl _) x (by omega) (done_all hJ (by omega)), nd_leaf hJ (by omega)]
    show _ - 0 + _ = _
    omega
  have hok : okW w = true := by
    refine List.all_eq_true.2 fun v hv => ?_
    obtain ⟨i, hi, rfl⟩ := List.getElem_of_mem hv
    have e := hw i
    rw [← getD_nat hi] at e
    have r := WI_rng hp hJ l.length (Nat.le_refl _) i
    have : 0 ≤ (if i = at_ then c else 0) ∧ (if i = at_ then c else 0) ≤ 10 := by split <;> omega
    simp only [Bool.and_eq_true, decide_eq_true_eq]
    omega
  unfold skewV
  rw [if_pos ⟨joinsB_iff.2 hJ, by omega, hok⟩, mx_eq hc.1 hS _ (by omega), show ((ps.length : Int) - 1).toNat = (ps.length - 2) + 1 by omega, mn_eq hc.1 hS _ (by omega), if_pos (by omega), wr_in (by omega)]
  congr 1; omega
end
end Go.Proofs.Ytajnjbmniobjhaa
