/- The skew: the program's reckoning and the reference's come to one pair. -/
import Derived.Test.YtajnjbmniobjhaaPkJoins
set_option linter.unusedSimpArgs false
set_option linter.unusedVariables false
namespace Go.Proofs.Ytajnjbmniobjhaa
open Go.RowKit

theorem geti_in {l : List Int} {a : Int} (h0 : 0 ≤ a) (h1 : a < l.length) : geti l a = some (l.getD a.toNat 0) := by
  obtain ⟨n, rfl⟩ := Int.eq_ofNat_of_zero_le h0
  rw [geti_lt (by omega)]
  simp [List.getD, List.getElem?_eq_getElem (show n < l.length by omega)]
def okW (w : List Int) : Bool := w.all fun x => decide (0 ≤ x) && decide (x ≤ 1000000000)
theorem implW (w : List Int) (hb : w.length ≤ 9223372036854775807) : m_slices_ContainsFunc_int64_int64_impl_SkewOf_1 w = some (!okW w) := by
  unfold m_slices_ContainsFunc_int64_int64_impl_SkewOf_1 m_slices_IndexFunc_int64_int64_impl_SkewOf_1
  obtain ⟨r, h1, h2⟩ := loopM_count (m_slices_IndexFunc_int64_int64_impl_SkewOf_1_s1 w) w.length (fun k s => s = (k : Int) ∧ ∀ j x, j < k → w[j]? = some x → 0 ≤ x ∧ x ≤ 1000000000)
    (fun r => (okW w = true ∧ r = Sum.inl ()) ∨ okW w = false ∧ ∃ k : Nat, r = Sum.inr (k : Int)) (s0 := 0) ⟨rfl, fun j x hj => by omega⟩ (by
      rintro k _ hk ⟨rfl, hg⟩
      unfold m_slices_IndexFunc_int64_int64_impl_SkewOf_1_s1 m_impl_SkewOf_1
      simp only []
      rw [bif_t (by simpa using hk), geti_lt hk]
      simp only [bind_some', implIn_eq]
      by_cases h : 0 ≤ w[k] ∧ w[k] ≤ 1000000000
      · left
        refine ⟨wr ((k : Int) + 1), by simp [h.1, h.2], by rw [wr_in (by omega)]; omega, fun j x hj hx => ?_⟩
        by_cases e : j = k
        · subst e; rw [List.getElem?_eq_getElem hk] at hx; simp only [Option.some.injEq] at hx; subst hx; exact h
        · exact hg j x (by omega) hx
      · right
        have hn : okW w = false := by
          rw [Bool.eq_false_iff]; intro hall; unfold okW at hall; rw [List.all_eq_true] at hall
          have := hall w[k] (List.getElem_mem hk); simp at this; exact h this
        exact ⟨_, by rw [bif_t (by simp; omega)], Or.inr ⟨hn, k, rfl⟩⟩) (by
      rintro _ ⟨rfl, hg⟩
      unfold m_slices_IndexFunc_int64_int64_impl_SkewOf_1_s1
      simp only []
      have hn : okW w = true := by
        unfold okW; rw [List.all_eq_true]; intro x hx
        obtain ⟨j, hj, rfl⟩ := List.mem_iff_getElem.1 hx
        have := hg j w[j] hj (List.getElem?_eq_getElem hj); simp [this.1, this.2]
      exact ⟨_, by rw [bif_f (by simp)], Or.inl ⟨hn, rfl⟩⟩)
  rw [h1]
  rcases h2 with ⟨h2, rfl⟩ | ⟨h2, k, rfl⟩
  · rw [h2]; rfl
  · rw [h2]; simp [bind_some']
/-- One pair's sums. -/
def skS (p : Int) (l : List (List Int)) (w u : List Int) (i : Nat) : List Int :=
  match l[i]? with
  | some [a, b] =>
    let u1 := u.set a.toNat (wr (u.getD (p + i).toNat 0 + w.getD a.toNat 0))
    u1.set b.toNat (wr (u1.getD (p + i).toNat 0 + w.getD b.toNat 0))
  | _ => u
/-- The sums when the last k pairs are through. -/
def skU (p : Int) (l : List (List Int)) (w : List Int) : Nat → List Int
  | 0 => List.replicate w.length 0
  | k + 1 => skS p l w (skU p l w k) (l.length - 1 - k)
theorem skS_len (p : Int) (l : List (List Int)) (w u : List Int) (i : Nat) : (skS p l w u i).length = u.length := by
  unfold skS
  split
  · simp
  · rfl
theorem skU_len (p : Int) (l : List (List Int)) (w : List Int) : ∀ k, (skU p l w k).length = w.length
  | 0 => by simp [skU]
  | k + 1 => by show (skS _ _ _ _ _).length = _; rw [skS_len, skU_len p l w k]
theorem implSk {p : Int} {l : List (List Int)} {w : List Int} (hJ : IsJ p l) (hw : (w.length : Int) = 2 * p - 1) :
    loopM (m_impl_SkewOf_s3 p l w) (wr ((l.length : Int) - 1), List.replicate (Int.toNat (w.length : Int)) (0 : Int)) = some (skU p l w l.length) := by
  obtain ⟨hp, hl, hG⟩ := hJ
  refine loopM_val _ l.length (fun k s => s.1 = p - 2 - k ∧ s.2 = skU p l w k) ⟨by rw [wr_in (by omega)]; simp; omega, by simp [skU]⟩ ?_ ?_
  · rintro k ⟨x, u⟩ hk ⟨hx, hu⟩
    simp only at hx hu
    obtain ⟨i, hi⟩ : ∃ i : Nat, i = l.length - 1 - k := ⟨_, rfl⟩
    have hxi : x = (i : Int) := by omega
    have hil : i < l.length := by omega
    obtain ⟨a, b, hat, ha, hab, hb, _, _⟩ := hG i hil
    have hul : u.length = w.length := by rw [hu, skU_len]
    have hgl : geti l x = some [a, b] := by rw [hxi, geti_nat, hat]
    have hin : loopM (m_impl_SkewOf_s4 p w x [a, b]) (0, u) = some (skS p l w u i) := by
      refine (loopM_next (s' := (1, u.set a.toNat (wr (u.getD (p + i).toNat 0 + w.getD a.toNat 0)))) ?_).trans ((loopM_next (s' := (2, skS p l w u i)) ?_).trans (loopM_out ?_))
      · unfold m_impl_SkewOf_s4
        simp only []
        rw [bif_t (by simp), geti20, wr_in (x := p + x) (by omega)]
        simp only [bind_some']
        rw [geti_in (l := u) (a := p + x) (by omega) (by omega), geti_in (l := w) (a := a) (by omega) (by omega), geti_in (l := u) (a := a) (by omega) (by omega)]
        simp only [bind_some', hxi]
        rfl
      · unfold m_impl_SkewOf_s4
        simp only []
        rw [bif_t (by simp), geti21, wr_in (x := p + x) (by omega)]
        simp only [bind_some']
        rw [geti_in (a := p + x) (by omega) (by simp; omega), geti_in (l := w) (a := b) (by omega) (by omega), geti_in (a := b) (by omega) (by simp; omega)]
        simp only [bind_some', hxi]
        have e : skS p l w u i = (u.set a.toNat (wr (u.getD (p + i).toNat 0 + w.getD a.toNat 0))).set b.toNat (wr ((u.set a.toNat (wr (u.getD (p + i).toNat 0 + w.getD a.toNat 0))).getD (p + i).toNat 0 + w.getD b.toNat 0)) := by
          unfold skS; rw [hat]
        rw [e]
        rfl
      · unfold m_impl_SkewOf_s4
        simp only []
        rw [bif_f (by simp)]
    unfold m_impl_SkewOf_s3
    simp only []
    rw [bif_t (by simp; omega)]
    simp only [hgl, bind_some', hin]
    left
    refine ⟨_, rfl, by simp only []; rw [wr_in (by omega)]; omega, ?_⟩
    show _ = skS p l w (skU p l w k) (l.length - 1 - k)
    rw [← hu, ← hi]
  · rintro ⟨x, u⟩ ⟨hx, hu⟩
    simp only at hx hu
    unfold m_impl_SkewOf_s3
    simp only []
    rw [bif_f (by simp; omega), hu]
def mxU (u : List Int) : Nat → Int
  | 0 => u.getD 0 0
  | k + 1 => max (mxU u k) (u.getD (k + 1) 0)
def mnU (u : List Int) : Nat → Int
  | 0 => u.getD 0 0
  | k + 1 => min (mnU u k) (u.getD (k + 1) 0)
theorem getD_nat {l : List Int} {k : Nat} (h : k < l.length) : l[k] = l.getD k 0 := by simp [List.getD, List.getElem?_eq_getElem h]
theorem Max_eq {u : List Int} {n : Nat} (hu : u.length = n + 1) (hb : u.length < 9223372036854775807) : m_slices_Max_int64_int64 u = some (mxU u n) := by
  unfold m_slices_Max_int64_int64
  rw [bif_f (by simp; omega)]
  have e0 : geti u 0 = some (u.getD 0 0) := geti_in (by omega) (by omega)
  simp only [bind_some', e0]
  have hl : loopM (m_slices_Max_int64_int64_s1 u) (u.getD 0 0, 1) = some (mxU u n) := by
    refine loopM_val _ n (fun k s => s = (mxU u k, (k : Int) + 1)) rfl ?_ ?_
    · rintro k _ hk rfl
      unfold m_slices_Max_int64_int64_s1
      simp only []
      have e : geti u ((k : Int) + 1) = some (u.getD (k + 1) 0) := geti_in (a := (k : Int) + 1) (by omega) (by omega)
      rw [bif_t (by simp; omega), e]
      simp only [bind_some']
      left
      refine ⟨_, rfl, Prod.ext ?_ (by simp only []; rw [wr_in (by omega)]; simp)⟩
      show (if _ then _ else _) = max _ _
      split <;> omega
    · rintro _ rfl
      unfold m_slices_Max_int64_int64_s1
      simp only []
      rw [bif_f (by simp; omega)]
  rw [hl]; rfl
theorem Min_eq {u : List Int} {n : Nat} (hu : u.length = n + 1) (hb : u.length < 9223372036854775807) : m_slices_Min_int64_int64 u = some (mnU u n) := by
  unfold m_slices_Min_int64_int64
  rw [bif_f (by simp; omega)]
  have e0 : geti u 0 = some (u.getD 0 0) := geti_in (by omega) (by omega)
  simp only [bind_some', e0]
  have hl : loopM (m_slices_Min_int64_int64_s1 u) (u.getD 0 0, 1) = some (mnU u n) := by
    refine loopM_val _ n (fun k s => s = (mnU u k, (k : Int) + 1)) rfl ?_ ?_
    · rintro k _ hk rfl
      unfold m_slices_Min_int64_int64_s1
      simp only []
      have e : geti u ((k : Int) + 1) = some (u.getD (k + 1) 0) := geti_in (a := (k : Int) + 1) (by omega) (by omega)
      rw [bif_t (by simp; omega), e]
      simp only [bind_some']
      left
      refine ⟨_, rfl, Prod.ext ?_ (by simp only []; rw [wr_in (by omega)]; simp)⟩
      show (if _ then _ else _) = min _ _
      split <;> omega
    · rintro _ rfl
      unfold m_slices_Min_int64_int64_s1
      simp only []
      rw [bif_f (by simp; omega)]
  rw [hl]; rfl
theorem getD_take {u : List Int} {n k : Nat} (h : k < n) : (u.take n).getD k 0 = u.getD k 0 := by simp [List.getD, List.getElem?_take, h]
theorem mxU_take {u : List Int} {n : Nat} : ∀ k, k < n → mxU (u.take n) k = mxU u k
  | 0, h => getD_take h
  | k + 1, h => by show max _ _ = max _ _; rw [mxU_take k (by omega), getD_take h]
theorem mnU_take {u : List Int} {n : Nat} : ∀ k, k < n → mnU (u.take n) k = mnU u k
  | 0, h => getD_take h
  | k + 1, h => by show min _ _ = min _ _; rw [mnU_take k (by omega), getD_take h]
noncomputable def skewV (p : Int) (l : List (List Int)) (w : List Int) : Int × Bool :=
  if joinsB p l = true ∧ (w.length : Int) = 2 * p - 1 ∧ okW w = true then (wr (mxU (skU p l w l.length) (p - 1).toNat - mnU (skU p l w l.length) (p - 1).toNat), true) else (0, false)
theorem implSkew_eq (p : Int) (l : List (List Int)) (w : List Int) (hb : w.length ≤ 9223372036854775807) : m_impl_SkewOf p l w = some (skewV p l w) := by
  unfold m_impl_SkewOf skewV
  rw [implJ_eq]
  simp only [bind_some']
  cases hj : joinsB p l with
  | false => simp
  | true =>
    have hJ := joinsB_iff.1 hj
    obtain ⟨hp, hl, _⟩ := id hJ
    rw [bif_f (by rfl), wr_in (x := 2 * p) (by omega), wr_in (x := 2 * p - 1) (by omega)]
    by_cases hw : (w.length : Int) = 2 * p - 1
    · rw [bif_f (by simp [hw]), implW w hb]
      simp only [bind_some']
      cases ho : okW w with
      | false => simp
      | true =>
        rw [bif_f (by rfl), mkC_ok (by unfold lim; omega)]
        simp only [bind_some', implSk hJ hw]
        have hul := skU_len p l w l.length
        obtain ⟨n, hn⟩ : ∃ n : Nat, p = (n : Int) + 1 := ⟨(p - 1).toNat, by omega⟩
        have e0 : slci (skU p l w l.length) 0 p = some ((skU p l w l.length).take (n + 1)) := by
          unfold slci; rw [if_pos (by omega)]; subst hn
          simp only [Int.toNat_zero, List.drop_zero]
          rfl
        have htl : ((skU p l w l.length).take (n + 1)).length = n + 1 := by rw [List.length_take]; omega
        simp only [e0, bind_some', Max_eq htl (by omega), Min_eq htl (by omega), mxU_take n (Nat.lt_succ_self n), mnU_take n (Nat.lt_succ_self n)]
        have hpn : (p - 1).toNat = n := by omega
        simp [hw, hpn]
    · rw [bif_t (by simp [hw])]
      simp [hw]
end Go.Proofs.Ytajnjbmniobjhaa
