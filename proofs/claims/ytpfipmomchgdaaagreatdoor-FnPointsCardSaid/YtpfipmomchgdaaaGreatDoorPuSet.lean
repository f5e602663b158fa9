/- The set of points in order: what 'sorted' reckons. -/
import Derived.Test.YtpfipmomchgdaaaGreatDoorPuPt
set_option linter.unusedSimpArgs false
set_option linter.unusedVariables false
namespace Go.Proofs.YtpfipmomchgdaaaGreatDoor
open Go.RowKit

/-! ### Neighbours that are equal -/
def cmpct {α : Type} [DecidableEq α] : List α → List α
  | [] => []
  | [x] => [x]
  | x :: y :: l => if x = y then cmpct (y :: l) else x :: cmpct (y :: l)
section
variable {α : Type} [DecidableEq α]
theorem cmpct_snoc : ∀ (l : List α) (x : α), cmpct (l ++ [x]) = if l.getLast? = some x then cmpct l else cmpct l ++ [x]
  | [], x => by simp [cmpct]
  | [a], x => by
    by_cases h : a = x
    · subst h; simp [cmpct]
    · simp [cmpct, h]
  | a :: b :: l, x => by
    have ih := cmpct_snoc (b :: l) x
    have hl : (a :: b :: l).getLast? = (b :: l).getLast? := by rw [List.getLast?_cons_cons]
    rw [hl]
    show cmpct (a :: b :: (l ++ [x])) = _
    rw [cmpct, show b :: (l ++ [x]) = (b :: l) ++ [x] from rfl, ih]
    by_cases h : a = b
    · simp only [if_pos h]
      rw [show cmpct (a :: b :: l) = cmpct (b :: l) by rw [cmpct, if_pos h]]
    · simp only [if_neg h]
      rw [show cmpct (a :: b :: l) = a :: cmpct (b :: l) by rw [cmpct, if_neg h]]
      split <;> simp
theorem cmpct_take {l : List α} {k : Nat} (hk : k + 1 < l.length) : cmpct (l.take (k + 2)) = if l[k] = l[k + 1] then cmpct (l.take (k + 1)) else cmpct (l.take (k + 1)) ++ [l[k + 1]] := by
  have ht : l.take (k + 2) = l.take (k + 1) ++ [l[k + 1]] := by rw [← List.concat_eq_append]; exact (List.take_concat_get hk).symm
  rw [ht, cmpct_snoc]
  have : (l.take (k + 1)).getLast? = some l[k] := by
    rw [List.getLast?_eq_getElem?, List.length_take, show min (k + 1) l.length - 1 = k by omega, List.getElem?_take, if_pos (by omega), List.getElem?_eq_getElem (by omega)]
  rw [this]
  simp only [Option.some.injEq]
theorem cmpct_none {l : List α} : ∀ {k : Nat}, k ≤ l.length → (∀ j (h : j + 1 < l.length), j + 1 < k → l[j] ≠ l[j + 1]) → cmpct (l.take k) = l.take k
  | 0, _, _ => by simp [cmpct]
  | 1, hk, _ => by
    cases l with
    | nil => simp at hk
    | cons x r => simp [cmpct]
  | k + 2, hk, h => by
    rw [cmpct_take (by omega), if_neg (h k (by omega) (by omega)), cmpct_none (k := k + 1) (by omega) (fun j hj hjk => h j hj (by omega))]
    rw [← List.concat_eq_append, List.take_concat_get]
theorem mem_cmpct : ∀ (l : List α) (x : α), x ∈ cmpct l ↔ x ∈ l
  | [], x => by simp [cmpct]
  | [a], x => by simp [cmpct]
  | a :: b :: l, x => by
    rw [cmpct]
    split
    · rename_i h; subst h; rw [mem_cmpct (a :: l) x]; simp
    · rw [List.mem_cons, mem_cmpct (b :: l) x]; simp only [List.mem_cons]
theorem cmpct_len : ∀ l : List α, (cmpct l).length ≤ l.length
  | [] => by simp [cmpct]
  | [a] => by simp [cmpct]
  | a :: b :: l => by
    rw [cmpct]
    have := cmpct_len (b :: l)
    split
    · simp only [List.length_cons] at *; omega
    · simp only [List.length_cons] at *; omega
end
/-! ### The library's Compact -/
theorem eqb (a b : Pt) : (a.1 == b.1 && a.2 == b.2) = decide (a = b) := by
  obtain ⟨x, y⟩ := a
  obtain ⟨x', y'⟩ := b
  by_cases h1 : x = x' <;> by_cases h2 : y = y' <;> simp [h1, h2]
theorem slc_get {l : List Pt} {a j n : Nat} (hn : l.length = n) : geti (slc l (a : Int) (n : Int)) (j : Int) = l[a + j]? := by
  subst hn; rw [geti_nat]; unfold slc; simp
theorem Compact_eq (l : List Pt) (hb : l.length ≤ 140737488355328) : m_slices_Compact_impl_Point_impl_Point l = some (cmpct l) := by
  unfold m_slices_Compact_impl_Point_impl_Point
  by_cases h2 : l.length < 2
  · rw [bif_t (by simp; omega)]
    match l, h2 with
    | [], _ => rfl
    | [x], _ => rfl
  · rw [bif_f (by simp; omega)]
    -- the first pair of equal neighbours
    have inner : ∀ k0 (hk0 : k0 + 1 < l.length), (∀ j (h : j + 1 < l.length), j + 1 < k0 + 1 → l[j] ≠ l[j + 1]) → l[k0] = l[k0 + 1] →
        ∃ (kk : Nat) (l' : List Pt), loopM (m_slices_Compact_impl_Point_impl_Point_s4 l ((k0 + 1 : Nat) : Int)) (((k0 + 1 : Nat) : Int), 1, l) = some ((kk : Int), l') ∧ l'.length = l.length ∧ kk ≤ l.length ∧ l'.take kk = cmpct l := by
      intro k0 hk0 hne heq
      have key : ∃ r, loopM (m_slices_Compact_impl_Point_impl_Point_s4 l ((k0 + 1 : Nat) : Int)) (((k0 + 1 : Nat) : Int), 1, l) = some r ∧ ∃ (kk : Nat) (l' : List Pt), r = ((kk : Int), l') ∧ l'.length = l.length ∧ kk ≤ l.length ∧ l'.take kk = cmpct l := by
       refine loopM_count (m_slices_Compact_impl_Point_impl_Point_s4 l ((k0 + 1 : Nat) : Int)) (l.length - (k0 + 2))
         (fun k s => ∃ (kk : Nat) (l' : List Pt), s = ((kk : Int), ((k + 1 : Nat) : Int), l') ∧ l'.length = l.length ∧ kk ≤ k0 + k + 1 ∧ (∀ i, k0 + k + 1 ≤ i → l'[i]? = l[i]?) ∧ l'.take kk = cmpct (l.take (k0 + k + 2)))
         (fun r => ∃ (kk : Nat) (l' : List Pt), r = ((kk : Int), l') ∧ l'.length = l.length ∧ kk ≤ l.length ∧ l'.take kk = cmpct l) (s0 := (((k0 + 1 : Nat) : Int), 1, l)) ?_ ?_ ?_
       · refine ⟨k0 + 1, l, rfl, rfl, by omega, fun i _ => rfl, ?_⟩
         rw [cmpct_take hk0, if_pos heq, cmpct_none (by omega) hne]
       · rintro k _ hk ⟨kk, l', rfl, e1, e2, e3, e4⟩
         left
         have hlen : ((slc l' ((k0 + 1 : Nat) : Int) (l.length : Int)).length : Int) = l.length - (k0 + 1 : Nat) := by unfold slc; simp [e1]; omega
         unfold m_slices_Compact_impl_Point_impl_Point_s4
         simp only []
         rw [bif_t (by rw [hlen]; simp; omega)]
         have a1 : geti (slc l' ((k0 + 1 : Nat) : Int) (l.length : Int)) ((k + 1 : Nat) : Int) = some (l[k0 + k + 2]'(by omega)) := by
           rw [slc_get e1, show k0 + 1 + (k + 1) = k0 + k + 2 by omega, e3 _ (by omega), List.getElem?_eq_getElem]
         have a2 : geti (slc l' ((k0 + 1 : Nat) : Int) (l.length : Int)) (wr (((k + 1 : Nat) : Int) - 1)) = some (l[k0 + k + 1]'(by omega)) := by
           rw [wr_in (by omega), show ((k + 1 : Nat) : Int) - 1 = (k : Int) by omega, slc_get e1, show k0 + 1 + k = k0 + k + 1 by omega, e3 _ (by omega), List.getElem?_eq_getElem]
         rw [a1, a2]
         simp only [bind_some', eqb]
         have hct := cmpct_take (l := l) (k := k0 + k + 1) (by omega)
         by_cases hq : l[k0 + k + 2]'(by omega) = l[k0 + k + 1]'(by omega)
         · rw [bif_f (by simp [hq])]
           simp only [bind_some']
           refine ⟨_, rfl, kk, l', ?_, e1, by omega, fun i hi => e3 i (by omega), ?_⟩
           · rw [wr_in (by omega)]; simp only [Prod.mk.injEq, true_and, and_true]; omega
           · rw [e4, show k0 + (k + 1) + 2 = k0 + k + 1 + 2 by omega, hct, if_pos hq.symm]
         · rw [bif_t (by simp [hq]), geti_lt (l := l') (k := kk) (by omega)]
           simp only [bind_some']
           refine ⟨_, rfl, kk + 1, l'.set kk (l[k0 + k + 2]'(by omega)), ?_, by rw [List.length_set, e1], by omega, fun i hi => ?_, ?_⟩
           · rw [wr_in (by omega), wr_in (by omega)]; simp only [Prod.mk.injEq]; exact ⟨by omega, by omega, by simp⟩
           · rw [List.getElem?_set_ne (by omega)]; exact e3 i (by omega)
           · rw [show k0 + (k + 1) + 2 = k0 + k + 1 + 2 by omega, hct, if_neg (fun e => hq e.symm), ← e4]
             rw [List.take_set, List.take_add_one, List.set_append]
             have hk' : kk < l'.length := by omega
             simp only [List.length_take, show min kk l'.length = kk by omega, Nat.lt_irrefl, if_false, Nat.sub_self, List.getElem?_eq_getElem hk']
             rfl
       · rintro _ ⟨kk, l', rfl, e1, e2, e3, e4⟩
         have hlen : ((slc l' ((k0 + 1 : Nat) : Int) (l.length : Int)).length : Int) = l.length - (k0 + 1 : Nat) := by unfold slc; simp [e1]; omega
         unfold m_slices_Compact_impl_Point_impl_Point_s4
         simp only []
         rw [bif_f (by rw [hlen]; simp; omega)]
         refine ⟨_, rfl, kk, l', rfl, e1, by omega, ?_⟩
         rw [e4, show k0 + (l.length - (k0 + 2)) + 2 = l.length by omega, List.take_length]
      obtain ⟨r, hr, kk, l', rfl, g1, g2, g3⟩ := key
      exact ⟨kk, l', hr, g1, g2, g3⟩
    have outer : ∃ r, loopM (m_slices_Compact_impl_Point_impl_Point_s3 l) 1 = some r ∧ ((r = Sum.inl () ∧ cmpct l = l) ∨ r = Sum.inr (cmpct l)) := by
      refine loopM_count _ (l.length - 1) (fun k s => s = ((k + 1 : Nat) : Int) ∧ ∀ j (h : j + 1 < l.length), j + 1 < k + 1 → l[j] ≠ l[j + 1]) _ ⟨rfl, fun j _ h => by omega⟩ ?_ ?_
      · rintro k _ hk ⟨rfl, hne⟩
        unfold m_slices_Compact_impl_Point_impl_Point_s3
        simp only []
        rw [bif_t (by simp; omega), geti_lt (k := k + 1) (by omega), wr_in (by omega), show ((k + 1 : Nat) : Int) - 1 = (k : Int) by omega, geti_lt (k := k) (by omega)]
        simp only [bind_some', eqb]
        by_cases hq : l[k + 1]'(by omega) = l[k]'(by omega)
        · right
          rw [bif_t (by simp [hq])]
          obtain ⟨kk, l', i1, i2, i3, i4⟩ := inner k (by omega) hne hq.symm
          have s1 : slci l ((k + 1 : Nat) : Int) (l.length : Int) = some (slc l ((k + 1 : Nat) : Int) (l.length : Int)) := by unfold slci slc; rw [if_pos (by omega)]
          rw [s1]
          simp only [bind_some']
          rw [i1]
          simp only [bind_some']
          have s2 : slci l' (kk : Int) (l'.length : Int) = some (slc l' (kk : Int) (l'.length : Int)) := by unfold slci slc; rw [if_pos (by omega)]
          have hcl : (clr ((0, 0) : Int × Int) l' (kk : Int)).length = l'.length := by unfold clr; simp; omega
          have s3 : slci (clr ((0, 0) : Int × Int) l' (kk : Int)) 0 (kk : Int) = some (slc (clr ((0, 0) : Int × Int) l' (kk : Int)) 0 (kk : Int)) := by unfold slci slc; rw [if_pos (by omega)]
          rw [s2, s3]
          refine ⟨_, rfl, Or.inr ?_⟩
          congr 1
          rw [← i4]; unfold clr
          simp only [Int.toNat_natCast]
          rw [List.take_append_of_le_length (by simp; omega), List.take_take, Nat.min_self]
        · left
          rw [bif_f (by simp [hq])]
          refine ⟨_, rfl, by rw [wr_in (by omega)]; omega, fun j hj hjk => ?_⟩
          by_cases e : j = k
          · subst e; exact fun e2 => hq e2.symm
          · exact hne j hj (by omega)
      · rintro _ ⟨rfl, hne⟩
        unfold m_slices_Compact_impl_Point_impl_Point_s3
        simp only []
        rw [bif_f (by simp; omega)]
        refine ⟨_, rfl, Or.inl ⟨rfl, ?_⟩⟩
        have := cmpct_none (l := l) (k := l.length) (Nat.le_refl _) (fun j hj hjk => hne j hj (by omega))
        rwa [List.take_length] at this
    obtain ⟨r, hr, hJ⟩ := outer
    rw [hr]
    rcases hJ with ⟨rfl, h⟩ | rfl
    · simp [h]
    · rfl
theorem Clone_eq (l : List Pt) (hb : l.length ≤ 140737488) : m_slices_Clone_impl_Point_impl_Point l = some l := by
  unfold m_slices_Clone_impl_Point_impl_Point
  rw [apC_ok (by unfold lim; simp; omega)]
  simp
/-- The set of points in order. -/
def setPts (l : List Pt) : List Pt := cmpct (sortPts l)
theorem sorted_eq (l : List Pt) (hb : l.length ≤ 140737488) : m_impl_sorted l = some (setPts l) := by
  unfold m_impl_sorted m_slices_SortFunc_impl_Point_impl_Point_impl_pointOrder
  rw [Clone_eq l hb]
  simp only [bind_some']
  rw [apC_ok (by unfold lim; simp; omega)]
  simp only [bind_some']
  rw [Compact_eq _ (by unfold sortPts; rw [List.length_mergeSort]; omega)]
  rfl
/-! ### In order, each once -/
def ltP (x y : Pt) : Prop := x.1 < y.1 ∨ x.1 = y.1 ∧ x.2 < y.2
theorem lePt_t {x y : Pt} : lePt x y = true ↔ (ltP x y ∨ x = y) := by
  unfold lePt ltP
  simp only [decide_eq_true_eq]
  constructor
  · intro h
    by_cases e : x = y
    · exact Or.inr e
    · left
      rcases h with h | ⟨h1, h2⟩
      · exact Or.inl h
      · refine Or.inr ⟨h1, ?_⟩
        have : x.2 ≠ y.2 := fun h3 => e (Prod.ext h1 h3)
        omega
  · rintro (h | rfl)
    · omega
    · omega
theorem sortPts_sorted (l : List Pt) : (sortPts l).Pairwise (fun x y => lePt x y = true) := by
  unfold sortPts
  refine List.pairwise_mergeSort (fun a b c h1 h2 => ?_) (fun a b => ?_) l
  · unfold lePt at *; simp only [decide_eq_true_eq] at *; omega
  · unfold lePt; simp only [Bool.or_eq_true, decide_eq_true_eq]; omega
theorem sortPts_perm (l : List Pt) : (sortPts l).Perm l := List.mergeSort_perm l _
theorem ltP_trans {x y z : Pt} (h1 : ltP x y) (h2 : ltP y z) : ltP x z := by unfold ltP at *; omega
theorem ltP_irrefl (x : Pt) : ¬ ltP x x := by unfold ltP; omega
theorem cmpct_strict : ∀ {l : List Pt}, l.Pairwise (fun x y => lePt x y = true) → (cmpct l).Pairwise ltP
  | [], _ => by simp [cmpct]
  | [a], _ => by simp [cmpct]
  | a :: b :: l, h => by
    rw [List.pairwise_cons] at h
    rw [cmpct]
    split
    · exact cmpct_strict h.2
    · rename_i hne
      rw [List.pairwise_cons]
      refine ⟨fun x hx => ?_, cmpct_strict h.2⟩
      rw [mem_cmpct] at hx
      rcases lePt_t.1 (h.1 x hx) with h1 | rfl
      · exact h1
      · exfalso
        rcases List.mem_cons.1 hx with rfl | hx'
        · exact hne rfl
        · have h2 := (List.pairwise_cons.1 h.2).1 a hx'
          rcases lePt_t.1 h2 with h3 | rfl
          · rcases lePt_t.1 (h.1 b (by simp)) with h4 | rfl
            · exact ltP_irrefl _ (ltP_trans h3 h4)
            · exact hne rfl
          · exact hne rfl
theorem setPts_strict (l : List Pt) : (setPts l).Pairwise ltP := cmpct_strict (sortPts_sorted l)
theorem mem_setPts {l : List Pt} {x : Pt} : x ∈ setPts l ↔ x ∈ l := by unfold setPts; rw [mem_cmpct]; exact (sortPts_perm l).mem_iff
/-- There is one such list. -/
theorem strict_uniq : ∀ {l m : List Pt}, l.Pairwise ltP → m.Pairwise ltP → (∀ x, x ∈ l ↔ x ∈ m) → l = m
  | [], [], _, _, _ => rfl
  | [], y :: m, _, _, h => absurd ((h y).2 (by simp)) (by simp)
  | x :: l, [], _, _, h => absurd ((h x).1 (by simp)) (by simp)
  | x :: l, y :: m, hl, hm, h => by
    rw [List.pairwise_cons] at hl hm
    have hxy : x = y := by
      rcases List.mem_cons.1 ((h x).1 (by simp)) with e | hx
      · exact e
      · rcases List.mem_cons.1 ((h y).2 (by simp)) with e | hy
        · exact e.symm
        · exact absurd (ltP_trans (hl.1 y hy) (hm.1 x hx)) (ltP_irrefl x)
    subst hxy
    rw [strict_uniq hl.2 hm.2 (fun z => ?_)]
    constructor
    · intro hz
      rcases List.mem_cons.1 ((h z).1 (by simp [hz])) with rfl | hz'
      · exact absurd (hl.1 z hz) (ltP_irrefl z)
      · exact hz'
    · intro hz
      rcases List.mem_cons.1 ((h z).2 (by simp [hz])) with rfl | hz'
      · exact absurd (hm.1 z hz) (ltP_irrefl z)
      · exact hz'
theorem strict_nodup {l : List Pt} (h : l.Pairwise ltP) : l.Nodup := h.imp (fun {a b} hab e => by subst e; exact ltP_irrefl _ hab)
/-- All are different just when none is lost. -/
theorem setPts_len (l : List Pt) : (setPts l).length = l.length ↔ l.Nodup := by
  constructor
  · intro h
    have key : ∀ m : List Pt, (cmpct m).length = m.length → cmpct m = m := by
      intro m
      induction m with
      | nil => intro _; rfl
      | cons a r ih =>
        cases r with
        | nil => intro _; rfl
        | cons b r =>
          intro hlen
          rw [cmpct] at hlen ⊢
          have hl := cmpct_len (b :: r)
          by_cases e : a = b
          · rw [if_pos e] at hlen
            simp only [List.length_cons] at hlen hl
            omega
          · rw [if_neg e] at hlen ⊢
            simp only [List.length_cons] at hlen ih ⊢
            rw [ih (by omega)]
    have h1 : setPts l = sortPts l := key _ (by unfold setPts at h; rw [h, (sortPts_perm l).length_eq])
    have h2 := strict_nodup (setPts_strict l)
    rw [h1] at h2
    exact (sortPts_perm l).nodup_iff.1 h2
  · intro h
    have hp : (setPts l).Perm l := (List.perm_ext_iff_of_nodup (strict_nodup (setPts_strict l)) h).2 (fun x => mem_setPts)
    exact hp.length_eq
end Go.Proofs.YtpfipmomchgdaaaGreatDoor
