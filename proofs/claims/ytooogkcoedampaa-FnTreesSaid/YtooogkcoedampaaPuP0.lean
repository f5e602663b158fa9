/- Points: what the small functions on them reckon; loops that look through a list. The set of points in order: what 'sorted' reckons. Paths: what the reference and the program reckon is the same. Pins, stars, boxes, the grid of the pins: what the reference and the program reckon is the same. -/
import Derived.Test.YtooogkcoedampaaMod
import Derived.Test.YtooogkcoedampaaPur
set_option linter.unusedSimpArgs false
set_option linter.unusedVariables false
namespace Go.Proofs.Ytooogkcoedampaa
open Go.RowKit

/-- A loop whose states are told one by one. -/
theorem loop_run {S R : Type} {step : S → Option (Ctl S R)} (n : Nat) (F : Nat → S) {r : R} (hs : ∀ k, k < n → step (F k) = some (.next (F (k + 1)))) (hn : step (F n) = some (.out r)) : loopM step (F 0) = some r :=
  loopM_val step n (fun k s => s = F k) rfl (fun k s hk h => by subst h; exact Or.inl ⟨_, hs k hk, rfl⟩) (fun s h => by subst h; exact hn)
/-- Is there a k from a on, below n, of this kind? -/
def anyIn (a n : Nat) (p : Nat → Bool) : Bool := (List.range' a (n - a)).any p
theorem anyIn_t {a n : Nat} {p : Nat → Bool} : anyIn a n p = true ↔ ∃ k, a ≤ k ∧ k < n ∧ p k = true := by
  unfold anyIn
  rw [List.any_eq_true]
  constructor
  · rintro ⟨k, hk, hp⟩
    rw [List.mem_range'_1] at hk
    exact ⟨k, hk.1, by omega, hp⟩
  · rintro ⟨k, h1, h2, hp⟩
    exact ⟨k, by rw [List.mem_range'_1]; omega, hp⟩
theorem anyIn_f {a n : Nat} {p : Nat → Bool} : anyIn a n p = false ↔ ∀ k, a ≤ k → k < n → p k = false := by
  constructor
  · intro h k h1 h2
    cases hp : p k with
    | false => rfl
    | true => rw [anyIn_t.2 ⟨k, h1, h2, hp⟩] at h; cases h
  · intro h
    cases hp : anyIn a n p with
    | false => rfl
    | true => obtain ⟨k, h1, h2, h3⟩ := anyIn_t.1 hp; rw [h k h1 h2] at h3; cases h3
/-- A loop that looks for a bad one. -/
theorem loop_any {R : Type} {step : Int → Option (Ctl Int (Sum Unit R))} (a n : Nat) (p : Nat → Bool) (v : R) (han : a ≤ n)
    (hs : ∀ k, a ≤ k → k < n → (∀ j, a ≤ j → j < k → p j = false) → step (k : Int) = some (if p k then .out (.inr v) else .next ((k + 1 : Nat) : Int))) (hn : step (n : Int) = some (.out (.inl ()))) :
    loopM step (a : Int) = some (if anyIn a n p then .inr v else .inl ()) := by
  refine loopM_val step (n - a) (fun k s => s = ((a + k : Nat) : Int) ∧ ∀ j, a ≤ j → j < a + k → p j = false) ⟨rfl, fun j _ _ => by omega⟩ ?_ ?_
  · rintro k _ hk ⟨rfl, hall⟩
    rw [hs (a + k) (by omega) (by omega) hall]
    cases hp : p (a + k) with
    | true => right; rw [if_pos rfl, anyIn_t.2 ⟨a + k, by omega, by omega, hp⟩]; rfl
    | false =>
      left
      refine ⟨((a + k + 1 : Nat) : Int), rfl, rfl, fun j h1 h2 => ?_⟩
      by_cases e : j = a + k
      · subst e; exact hp
      · exact hall j h1 (by omega)
  · rintro _ ⟨rfl, hall⟩
    rw [show a + (n - a) = n by omega] at hall ⊢
    rw [hn, anyIn_f.2 (fun k h1 h2 => hall k h1 h2)]; rfl
abbrev Pt := Int × Int
def okP (p : Pt) : Bool := decide (0 ≤ p.1) && decide (p.1 ≤ 99) && (decide (0 ≤ p.2) && decide (p.2 ≤ 99))
theorem okP_t {p : Pt} (h : okP p = true) : 0 ≤ p.1 ∧ p.1 ≤ 99 ∧ 0 ≤ p.2 ∧ p.2 ≤ 99 := by
  unfold okP at h; simp only [Bool.and_eq_true, decide_eq_true_eq] at h; omega
theorem in_eq' (n a b : Int) : m_impl_in n a b = some (decide (a ≤ n) && decide (n ≤ b)) := by
  unfold m_impl_in
  by_cases h : a ≤ n
  · rw [bif_t (by simpa using h)]; simp [h]
  · rw [bif_f (by simpa using h)]; simp [h]
theorem IsPoint_eq (x y : Int) : m_impl_IsPoint x y = some (okP (x, y)) := by
  unfold m_impl_IsPoint okP
  simp only [in_eq', bind_some']
  cases h : (decide (0 ≤ x) && decide (x ≤ 99)) <;> simp [h]
def dist (p q : Pt) : Int := max (p.1 - q.1) (q.1 - p.1) + max (p.2 - q.2) (q.2 - p.2)
theorem far_eq {p q : Pt} (hp : okP p = true) (hq : okP q = true) : m_impl_far p.1 p.2 q.1 q.2 = some (dist p q) := by
  have h1 := okP_t hp
  have h2 := okP_t hq
  unfold m_impl_far m_impl_size dist
  rw [wr_in (x := p.1 - q.1) (by omega), wr_in (x := p.2 - q.2) (by omega), wr_in (x := 0 - (p.1 - q.1)) (by omega), wr_in (x := 0 - (p.2 - q.2)) (by omega)]
  simp only [bind_some']
  rw [wr_in (by split <;> split <;> omega)]
  congr 1
  split <;> split <;> omega
theorem dist_comm (p q : Pt) : dist p q = dist q p := by unfold dist; omega
def okPs (ps : List Pt) : Bool := ps.all okP
theorem okPs_at {ps : List Pt} (h : okPs ps = true) {k : Nat} (hk : k < ps.length) : okP ps[k] = true := List.all_eq_true.1 h _ (List.getElem_mem hk)
theorem okPs_not {ps : List Pt} {k : Nat} (hk : k < ps.length) (h : okP ps[k] = false) : okPs ps = false := by
  unfold okPs; rw [List.all_eq_false]; exact ⟨ps[k], List.getElem_mem hk, by simp [h]⟩
theorem okPs_all {ps : List Pt} (h : ∀ j (hj : j < ps.length), okP ps[j] = true) : okPs ps = true := by
  unfold okPs; rw [List.all_eq_true]
  intro x hx
  obtain ⟨j, hj, rfl⟩ := List.mem_iff_getElem.1 hx
  exact h j hj
theorem IndexNo_eq (ps : List Pt) (hb : ps.length ≤ 140737488355328) : ∃ i : Int, m_slices_IndexFunc_impl_Point_impl_Point_impl_noPoint ps = some i ∧ decide (i ≥ 0) = !okPs ps := by
  unfold m_slices_IndexFunc_impl_Point_impl_Point_impl_noPoint
  obtain ⟨r, hr, hJ⟩ := loopM_count (m_slices_IndexFunc_impl_Point_impl_Point_impl_noPoint_s1 ps) ps.length (fun k s => s = (k : Int) ∧ ∀ j (hj : j < ps.length), j < k → okP ps[j] = true)
    (fun r => (r = Sum.inl () ∧ okPs ps = true) ∨ ∃ k : Nat, r = Sum.inr (k : Int) ∧ okPs ps = false) (s0 := 0) ⟨rfl, fun j _ h => by omega⟩ (by
    rintro k _ hk ⟨rfl, hall⟩
    unfold m_slices_IndexFunc_impl_Point_impl_Point_impl_noPoint_s1 m_impl_noPoint
    simp only []
    rw [bif_t (by simpa using hk), geti_lt hk]
    simp only [bind_some', IsPoint_eq]
    cases h : okP ps[k] with
    | true =>
      left
      refine ⟨_, bif_f (by simp [h]), ?_, fun j hj hjk => ?_⟩
      · rw [wr_in (by omega)]; omega
      · by_cases e : j = k
        · subst e; exact h
        · exact hall j hj (by omega)
    | false => right; exact ⟨_, bif_t (by simp [h]), Or.inr ⟨k, rfl, okPs_not hk h⟩⟩) (by
    rintro _ ⟨rfl, hall⟩
    unfold m_slices_IndexFunc_impl_Point_impl_Point_impl_noPoint_s1
    simp only []
    exact ⟨_, bif_f (by simp), Or.inl ⟨rfl, okPs_all (fun j hj => hall j hj hj)⟩⟩)
  rw [hr]
  rcases hJ with ⟨rfl, h⟩ | ⟨k, rfl, h⟩
  · exact ⟨-1, rfl, by simp [h]⟩
  · exact ⟨k, rfl, by simp [h]⟩
theorem ContNo_eq (ps : List Pt) (hb : ps.length ≤ 140737488355328) : m_slices_ContainsFunc_impl_Point_impl_Point_impl_noPoint ps = some (!okPs ps) := by
  unfold m_slices_ContainsFunc_impl_Point_impl_Point_impl_noPoint
  obtain ⟨i, hi, hd⟩ := IndexNo_eq ps hb
  rw [hi]
  simp only [bind_some', hd]
end Go.Proofs.Ytooogkcoedampaa

set_option linter.unusedSimpArgs false
set_option linter.unusedVariables false
namespace Go.Proofs.Ytooogkcoedampaa
open Go.RowKit

/-! ### Neighbours that are equal -/
def cmpct {α : Type} [DecidableEq α] : List α → List α
  | [] => []
  | [x] => [x]
  | x :: y :: l => if x = y then cmpct (y :: l) else x :: cmpct (y :: l)
section
variable {α : Type} [DecidableEq α]
theorem cmpct_snoc : ∀ (l : List α) (x : α), cmpct (l ++ [x]) = if l.getLast? = some x then cmpct l else cmpct l ++ [x]
  | [], x => by simp [cmpct]
  | [a], x => by
    by_cases h : a = x
    · subst h; simp [cmpct]
    · simp [cmpct, h]
  | a :: b :: l, x => by
    have ih := cmpct_snoc (b :: l) x
    have hl : (a :: b :: l).getLast? = (b :: l).getLast? := by rw [List.getLast?_cons_cons]
    rw [hl]
    show cmpct (a :: b :: (l ++ [x])) = _
    rw [cmpct, show b :: (l ++ [x]) = (b :: l) ++ [x] from rfl, ih]
    by_cases h : a = b
    · simp only [if_pos h]
      rw [show cmpct (a :: b :: l) = cmpct (b :: l) by rw [cmpct, if_pos h]]
    · simp only [if_neg h]
      rw [show cmpct (a :: b :: l) = a :: cmpct (b :: l) by rw [cmpct, if_neg h]]
      split <;> simp
theorem cmpct_take {l : List α} {k : Nat} (hk : k + 1 < l.length) : cmpct (l.take (k + 2)) = if l[k] = l[k + 1] then cmpct (l.take (k + 1)) else cmpct (l.take (k + 1)) ++ [l[k + 1]] := by
  have ht : l.take (k + 2) = l.take (k + 1) ++ [l[k + 1]] := by rw [← List.concat_eq_append]; exact (List.take_concat_get hk).symm
  rw [ht, cmpct_snoc]
  have : (l.take (k + 1)).getLast? = some l[k] := by
    rw [List.getLast?_eq_getElem?, List.length_take, show min (k + 1) l.length - 1 = k by omega, List.getElem?_take, if_pos (by omega), List.getElem?_eq_getElem (by omega)]
  rw [this]
  simp only [Option.some.injEq]
theorem cmpct_none {l : List α} : ∀ {k : Nat}, k ≤ l.length → (∀ j (h : j + 1 < l.length), j + 1 < k → l[j] ≠ l[j + 1]) → cmpct (l.take k) = l.take k
  | 0, _, _ => by simp [cmpct]
  | 1, hk, _ => by
    cases l with
    | nil => simp at hk
    | cons x r => simp [cmpct]
  | k + 2, hk, h => by
    rw [cmpct_take (by omega), if_neg (h k (by omega) (by omega)), cmpct_none (k := k + 1) (by omega) (fun j hj hjk => h j hj (by omega))]
    rw [← List.concat_eq_append, List.take_concat_get]
theorem mem_cmpct : ∀ (l : List α) (x : α), x ∈ cmpct l ↔ x ∈ l
  | [], x => by simp [cmpct]
  | [a], x => by simp [cmpct]
  | a :: b :: l, x => by
    rw [cmpct]
    split
    · rename_i h; subst h; rw [mem_cmpct (a :: l) x]; simp
    · rw [List.mem_cons, mem_cmpct (b :: l) x]; simp only [List.mem_cons]
theorem cmpct_len : ∀ l : List α, (cmpct l).length ≤ l.length
  | [] => by simp [cmpct]
  | [a] => by simp [cmpct]
  | a :: b :: l => by
    rw [cmpct]
    have := cmpct_len (b :: l)
    split
    · simp only [List.length_cons] at *; omega
    · simp only [List.length_cons] at *; omega
end
/-! ### The library's Compact -/
theorem eqb (a b : Pt) : (a.1 == b.1 && a.2 == b.2) = decide (a = b) := by
  obtain ⟨x, y⟩ := a
  obtain ⟨x', y'⟩ := b
  by_cases h1 : x = x' <;> by_cases h2 : y = y' <;> simp [h1, h2]
theorem slc_get {l : List Pt} {a j n : Nat} (hn : l.length = n) : geti (slc l (a : Int) (n : Int)) (j : Int) = l[a + j]? := by
  subst hn; rw [geti_nat]; unfold slc; simp
theorem Compact_eq (l : List Pt) (hb : l.length ≤ 140737488355328) : m_slices_Compact_impl_Point_impl_Point l = some (cmpct l) := by
  unfold m_slices_Compact_impl_Point_impl_Point
  by_cases h2 : l.length < 2
  · rw [bif_t (by simp; omega)]
    match l, h2 with
    | [], _ => rfl
    | [x], _ => rfl
  · rw [bif_f (by simp; omega)]
    -- the first pair of equal neighbours
    have inner : ∀ k0 (hk0 : k0 + 1 < l.length), (∀ j (h : j + 1 < l.length), j + 1 < k0 + 1 → l[j] ≠ l[j + 1]) → l[k0] = l[k0 + 1] →
        ∃ (kk : Nat) (l' : List Pt), loopM (m_slices_Compact_impl_Point_impl_Point_s4 l ((k0 + 1 : Nat) : Int)) (((k0 + 1 : Nat) : Int), 1, l) = some ((kk : Int), l') ∧ l'.length = l.length ∧ kk ≤ l.length ∧ l'.take kk = cmpct l := by
      intro k0 hk0 hne heq
      have key : ∃ r, loopM (m_slices_Compact_impl_Point_impl_Point_s4 l ((k0 + 1 : Nat) : Int)) (((k0 + 1 : Nat) : Int), 1, l) = some r ∧ ∃ (kk : Nat) (l' : List Pt), r = ((kk : Int), l') ∧ l'.length = l.length ∧ kk ≤ l.length ∧ l'.take kk = cmpct l := by
       refine loopM_count (m_slices_Compact_impl_Point_impl_Point_s4 l ((k0 + 1 : Nat) : Int)) (l.length - (k0 + 2))
         (fun k s => ∃ (kk : Nat) (l' : List Pt), s = ((kk : Int), ((k + 1 : Nat) : Int), l') ∧ l'.length = l.length ∧ kk ≤ k0 + k + 1 ∧ (∀ i, k0 + k + 1 ≤ i → l'[i]? = l[i]?) ∧ l'.take kk = cmpct (l.take (k0 + k + 2)))
         (fun r => ∃ (kk : Nat) (l' : List Pt), r = ((kk : Int), l') ∧ l'.length = l.length ∧ kk ≤ l.length ∧ l'.take kk = cmpct l) (s0 := (((k0 + 1 : Nat) : Int), 1, l)) ?_ ?_ ?_
       · refine ⟨k0 + 1, l, rfl, rfl, by omega, fun i _ => rfl, ?_⟩
         rw [cmpct_take hk0, if_pos heq, cmpct_none (by omega) hne]
       · rintro k _ hk ⟨kk, l', rfl, e1, e2, e3, e4⟩
         left
         have hlen : ((slc l' ((k0 + 1 : Nat) : Int) (l.length : Int)).length : Int) = l.length - (k0 + 1 : Nat) := by unfold slc; simp [e1]; omega
         unfold m_slices_Compact_impl_Point_impl_Point_s4
         simp only []
         rw [bif_t (by rw [hlen]; simp; omega)]
         have a1 : geti (slc l' ((k0 + 1 : Nat) : Int) (l.length : Int)) ((k + 1 : Nat) : Int) = some (l[k0 + k + 2]'(by omega)) := by
           rw [slc_get e1, show k0 + 1 + (k + 1) = k0 + k + 2 by omega, e3 _ (by omega), List.getElem?_eq_getElem]
         have a2 : geti (slc l' ((k0 + 1 : Nat) : Int) (l.length : Int)) (wr (((k + 1 : Nat) : Int) - 1)) = some (l[k0 + k + 1]'(by omega)) := by
           rw [wr_in (by omega), show ((k + 1 : Nat) : Int) - 1 = (k : Int) by omega, slc_get e1, show k0 + 1 + k = k0 + k + 1 by omega, e3 _ (by omega), List.getElem?_eq_getElem]
         rw [a1, a2]
         simp only [bind_some', eqb]
         have hct := cmpct_take (l := l) (k := k0 + k + 1) (by omega)
         by_cases hq : l[k0 + k + 2]'(by omega) = l[k0 + k + 1]'(by omega)
         · rw [bif_f (by simp [hq])]
           simp only [bind_some']
           refine ⟨_, rfl, kk, l', ?_, e1, by omega, fun i hi => e3 i (by omega), ?_⟩
           · rw [wr_in (by omega)]; simp only [Prod.mk.injEq, true_and, and_true]; omega
           · rw [e4, show k0 + (k + 1) + 2 = k0 + k + 1 + 2 by omega, hct, if_pos hq.symm]
         · rw [bif_t (by simp [hq]), geti_lt (l := l') (k := kk) (by omega)]
           simp only [bind_some']
           refine ⟨_, rfl, kk + 1, l'.set kk (l[k0 + k + 2]'(by omega)), ?_, by rw [List.length_set, e1], by omega, fun i hi => ?_, ?_⟩
           · rw [wr_in (by omega), wr_in (by omega)]; simp only [Prod.mk.injEq]; exact ⟨by omega, by omega, by simp⟩
           · rw [List.getElem?_set_ne (by omega)]; exact e3 i (by omega)
           · rw [show k0 + (k + 1) + 2 = k0 + k + 1 + 2 by omega, hct, if_neg (fun e => hq e.symm), ← e4]
             rw [List.take_set, List.take_add_one, List.set_append]
             have hk' : kk < l'.length := by omega
             simp only [List.length_take, show min kk l'.length = kk by omega, Nat.lt_irrefl, if_false, Nat.sub_self, List.getElem?_eq_getElem hk']
             rfl
       · rintro _ ⟨kk, l', rfl, e1, e2, e3, e4⟩
         have hlen : ((slc l' ((k0 + 1 : Nat) : Int) (l.length : Int)).length : Int) = l.length - (k0 + 1 : Nat) := by unfold slc; simp [e1]; omega
         unfold m_slices_Compact_impl_Point_impl_Point_s4
         simp only []
         rw [bif_f (by rw [hlen]; simp; omega)]
         refine ⟨_, rfl, kk, l', rfl, e1, by omega, ?_⟩
         rw [e4, show k0 + (l.length - (k0 + 2)) + 2 = l.length by omega, List.take_length]
      obtain ⟨r, hr, kk, l', rfl, g1, g2, g3⟩ := key
      exact ⟨kk, l', hr, g1, g2, g3⟩
    have outer : ∃ r, loopM (m_slices_Compact_impl_Point_impl_Point_s3 l) 1 = some r ∧ ((r = Sum.inl () ∧ cmpct l = l) ∨ r = Sum.inr (cmpct l)) := by
      refine loopM_count _ (l.length - 1) (fun k s => s = ((k + 1 : Nat) : Int) ∧ ∀ j (h : j + 1 < l.length), j + 1 < k + 1 → l[j] ≠ l[j + 1]) _ ⟨rfl, fun j _ h => by omega⟩ ?_ ?_
      · rintro k _ hk ⟨rfl, hne⟩
        unfold m_slices_Compact_impl_Point_impl_Point_s3
        simp only []
        rw [bif_t (by simp; omega), geti_lt (k := k + 1) (by omega), wr_in (by omega), show ((k + 1 : Nat) : Int) - 1 = (k : Int) by omega, geti_lt (k := k) (by omega)]
        simp only [bind_some', eqb]
        by_cases hq : l[k + 1]'(by omega) = l[k]'(by omega)
        · right
          rw [bif_t (by simp [hq])]
          obtain ⟨kk, l', i1, i2, i3, i4⟩ := inner k (by omega) hne hq.symm
          have s1 : slci l ((k + 1 : Nat) : Int) (l.length : Int) = some (slc l ((k + 1 : Nat) : Int) (l.length : Int)) := by unfold slci slc; rw [if_pos (by omega)]
          rw [s1]
          simp only [bind_some']
          rw [i1]
          simp only [bind_some']
          have s2 : slci l' (kk : Int) (l'.length : Int) = some (slc l' (kk : Int) (l'.length : Int)) := by unfold slci slc; rw [if_pos (by omega)]
          have hcl : (clr ((0, 0) : Int × Int) l' (kk : Int)).length = l'.length := by unfold clr; simp; omega
          have s3 : slci (clr ((0, 0) : Int × Int) l' (kk : Int)) 0 (kk : Int) = some (slc (clr ((0, 0) : Int × Int) l' (kk : Int)) 0 (kk : Int)) := by unfold slci slc; rw [if_pos (by omega)]
          rw [s2, s3]
          refine ⟨_, rfl, Or.inr ?_⟩
          congr 1
          rw [← i4]; unfold clr
          simp only [Int.toNat_natCast]
          rw [List.take_append_of_le_length (by simp; omega), List.take_take, Nat.min_self]
        · left
          rw [bif_f (by simp [hq])]
          refine ⟨_, rfl, by rw [wr_in (by omega)]; omega, fun j hj hjk => ?_⟩
          by_cases e : j = k
          · subst e; exact fun e2 => hq e2.symm
          · exact hne j hj (by omega)
      · rintro _ ⟨rfl, hne⟩
        unfold m_slices_Compact_impl_Point_impl_Point_s3
        simp only []
        rw [bif_f (by simp; omega)]
        refine ⟨_, rfl, Or.inl ⟨rfl, ?_⟩⟩
        have := cmpct_none (l := l) (k := l.length) (Nat.le_refl _) (fun j hj hjk => hne j hj (by omega))
        rwa [List.take_length] at this
    obtain ⟨r, hr, hJ⟩ := outer
    rw [hr]
    rcases hJ with ⟨rfl, h⟩ | rfl
    · simp [h]
    · rfl
theorem Clone_eq (l : List Pt) (hb : l.length ≤ 140737488) : m_slices_Clone_impl_Point_impl_Point l = some l := by
  unfold m_slices_Clone_impl_Point_impl_Point
  rw [apC_ok (by unfold lim; simp; omega)]
  simp
/-- The set of points in order. -/
def setPts (l : List Pt) : List Pt := cmpct (sortPts l)
theorem sorted_eq (l : List Pt) (hb : l.length ≤ 140737488) : m_impl_sorted l = some (setPts l) := by
  unfold m_impl_sorted m_slices_SortFunc_impl_Point_impl_Point_impl_pointOrder
  rw [Clone_eq l hb]
  simp only [bind_some']
  rw [apC_ok (by unfold lim; simp; omega)]
  simp only [bind_some']
  rw [Compact_eq _ (by unfold sortPts; rw [List.length_mergeSort]; omega)]
  rfl
/-! ### In order, each once -/
def ltP (x y : Pt) : Prop := x.1 < y.1 ∨ x.1 = y.1 ∧ x.2 < y.2
theorem lePt_t {x y : Pt} : lePt x y = true ↔ (ltP x y ∨ x = y) := by
  unfold lePt ltP
  simp only [decide_eq_true_eq]
  constructor
  · intro h
    by_cases e : x = y
    · exact Or.inr e
    · left
      rcases h with h | ⟨h1, h2⟩
      · exact Or.inl h
      · refine Or.inr ⟨h1, ?_⟩
        have : x.2 ≠ y.2 := fun h3 => e (Prod.ext h1 h3)
        omega
  · rintro (h | rfl)
    · omega
    · omega
theorem sortPts_sorted (l : List Pt) : (sortPts l).Pairwise (fun x y => lePt x y = true) := by
  unfold sortPts
  refine List.pairwise_mergeSort (fun a b c h1 h2 => ?_) (fun a b => ?_) l
  · unfold lePt at *; simp only [decide_eq_true_eq] at *; omega
  · unfold lePt; simp only [Bool.or_eq_true, decide_eq_true_eq]; omega
theorem sortPts_perm (l : List Pt) : (sortPts l).Perm l := List.mergeSort_perm l _
theorem ltP_trans {x y z : Pt} (h1 : ltP x y) (h2 : ltP y z) : ltP x z := by unfold ltP at *; omega
theorem ltP_irrefl (x : Pt) : ¬ ltP x x := by unfold ltP; omega
theorem cmpct_strict : ∀ {l : List Pt}, l.Pairwise (fun x y => lePt x y = true) → (cmpct l).Pairwise ltP
  | [], _ => by simp [cmpct]
  | [a], _ => by simp [cmpct]
  | a :: b :: l, h => by
    rw [List.pairwise_cons] at h
    rw [cmpct]
    split
    · exact cmpct_strict h.2
    · rename_i hne
      rw [List.pairwise_cons]
      refine ⟨fun x hx => ?_, cmpct_strict h.2⟩
      rw [mem_cmpct] at hx
      rcases lePt_t.1 (h.1 x hx) with h1 | rfl
      · exact h1
      · exfalso
        rcases List.mem_cons.1 hx with rfl | hx'
        · exact hne rfl
        · have h2 := (List.pairwise_cons.1 h.2).1 a hx'
          rcases lePt_t.1 h2 with h3 | rfl
          · rcases lePt_t.1 (h.1 b (by simp)) with h4 | rfl
            · exact ltP_irrefl _ (ltP_trans h3 h4)
            · exact hne rfl
          · exact hne rfl
theorem setPts_strict (l : List Pt) : (setPts l).Pairwise ltP := cmpct_strict (sortPts_sorted l)
theorem mem_setPts {l : List Pt} {x : Pt} : x ∈ setPts l ↔ x ∈ l := by unfold setPts; rw [mem_cmpct]; exact (sortPts_perm l).mem_iff
/-- There is one such list. -/
theorem strict_uniq : ∀ {l m : List Pt}, l.Pairwise ltP → m.Pairwise ltP → (∀ x, x ∈ l ↔ x ∈ m) → l = m
  | [], [], _, _, _ => rfl
  | [], y :: m, _, _, h => absurd ((h y).2 (by simp)) (by simp)
  | x :: l, [], _, _, h => absurd ((h x).1 (by simp)) (by simp)
  | x :: l, y :: m, hl, hm, h => by
    rw [List.pairwise_cons] at hl hm
    have hxy : x = y := by
      rcases List.mem_cons.1 ((h x).1 (by simp)) with e | hx
      · exact e
      · rcases List.mem_cons.1 ((h y).2 (by simp)) with e | hy
        · exact e.symm
        · exact absurd (ltP_trans (hl.1 y hy) (hm.1 x hx)) (ltP_irrefl x)
    subst hxy
    rw [strict_uniq hl.2 hm.2 (fun z => ?_)]
    constructor
    · intro hz
      rcases List.mem_cons.1 ((h z).1 (by simp [hz])) with rfl | hz'
      · exact absurd (hl.1 z hz) (ltP_irrefl z)
      · exact hz'
    · intro hz
      rcases List.mem_cons.1 ((h z).2 (by simp [hz])) with rfl | hz'
      · exact absurd (hm.1 z hz) (ltP_irrefl z)
      · exact hz'
theorem strict_nodup {l : List Pt} (h : l.Pairwise ltP) : l.Nodup := h.imp (fun {a b} hab e => by subst e; exact ltP_irrefl _ hab)
/-- All are different just when none is lost. -/
theorem setPts_len (l : List Pt) : (setPts l).length = l.length ↔ l.Nodup := by
  constructor
  · intro h
    have key : ∀ m : List Pt, (cmpct m).length = m.length → cmpct m = m := by
      intro m
      induction m with
      | nil => intro _; rfl
      | cons a r ih =>
        cases r with
        | nil => intro _; rfl
        | cons b r =>
          intro hlen
          rw [cmpct] at hlen ⊢
          have hl := cmpct_len (b :: r)
          by_cases e : a = b
          · rw [if_pos e] at hlen
            simp only [List.length_cons] at hlen hl
            omega
          · rw [if_neg e] at hlen ⊢
            simp only [List.length_cons] at hlen ih ⊢
            rw [ih (by omega)]
    have h1 : setPts l = sortPts l := key _ (by unfold setPts at h; rw [h, (sortPts_perm l).length_eq])
    have h2 := strict_nodup (setPts_strict l)
    rw [h1] at h2
    exact (sortPts_perm l).nodup_iff.1 h2
  · intro h
    have hp : (setPts l).Perm l := (List.perm_ext_iff_of_nodup (strict_nodup (setPts_strict l)) h).2 (fun x => mem_setPts)
    exact hp.length_eq
end Go.Proofs.Ytooogkcoedampaa

set_option linter.unusedSimpArgs false
set_option linter.unusedVariables false
namespace Go.Proofs.Ytooogkcoedampaa
open Go.RowKit

/-- A loop that looks for the first of a kind. -/
theorem loop_find {R : Type} {step : Int → Option (Ctl Int (Sum Unit R))} (n : Nat) (p : Nat → Bool) (g : Nat → R)
    (hs : ∀ k, k < n → step (k : Int) = some (if p k then .out (.inr (g k)) else .next ((k + 1 : Nat) : Int))) (hn : step (n : Int) = some (.out (.inl ()))) :
    (anyIn 0 n p = false ∧ loopM step 0 = some (.inl ())) ∨ ∃ k, k < n ∧ p k = true ∧ (∀ j, j < k → p j = false) ∧ loopM step 0 = some (.inr (g k)) := by
  obtain ⟨r, hr, hJ⟩ := loopM_count step n (fun k s => s = (k : Int) ∧ ∀ j, j < k → p j = false)
    (fun r => (anyIn 0 n p = false ∧ r = .inl ()) ∨ ∃ k, k < n ∧ p k = true ∧ (∀ j, j < k → p j = false) ∧ r = .inr (g k)) (s0 := 0) ⟨rfl, fun j h => by omega⟩ (by
      rintro k _ hk ⟨rfl, hall⟩
      rw [hs k hk]
      cases hp : p k with
      | true => right; exact ⟨_, rfl, Or.inr ⟨k, hk, hp, hall, rfl⟩⟩
      | false =>
        left
        refine ⟨_, rfl, rfl, fun j hj => ?_⟩
        by_cases e : j = k
        · subst e; exact hp
        · exact hall j (by omega)) (by
      rintro _ ⟨rfl, hall⟩
      exact ⟨_, hn, Or.inl ⟨anyIn_f.2 (fun k _ h => hall k h), rfl⟩⟩)
  rcases hJ with ⟨h1, rfl⟩ | ⟨k, h1, h2, h3, rfl⟩
  · exact Or.inl ⟨h1, hr⟩
  · exact Or.inr ⟨k, h1, h2, h3, hr⟩
theorem Index_eq (l : List Pt) (p : Pt) (hb : l.length ≤ 140737488355328) : ∃ i : Int, m_spec_l01Index l p.1 p.2 = some i ∧ decide (i ≥ 0) = decide (p ∈ l) := by
  unfold m_spec_l01Index
  rcases loop_find (step := m_spec_l01Index_s1 l p.1 p.2) l.length (fun k => decide (l[k]? = some p)) (fun k => (k : Int)) (by
      intro k hk
      unfold m_spec_l01Index_s1
      simp only []
      rw [bif_t (by simpa using hk), geti_lt hk]
      simp only [bind_some', eqb, List.getElem?_eq_getElem hk, Option.some.injEq]
      by_cases h : l[k] = p
      · simp [h]
      · simp only [h, decide_false, cond_false]
        rw [wr_in (by omega)]; rfl) (by
      unfold m_spec_l01Index_s1
      simp only []
      rw [bif_f (by simp)]) with ⟨h1, h2⟩ | ⟨k, h1, h2, _, h3⟩
  · rw [h2]
    refine ⟨-1, rfl, ?_⟩
    have : p ∉ l := fun hp => by
      obtain ⟨k, hk, rfl⟩ := List.mem_iff_getElem.1 hp
      have := anyIn_f.1 h1 k (by omega) hk
      simp [List.getElem?_eq_getElem hk] at this
    simp [this]
  · rw [h3]
    refine ⟨k, rfl, ?_⟩
    have : p ∈ l := by
      simp only [decide_eq_true_eq] at h2
      exact List.mem_of_getElem? h2
    simp [this]
/-! ### Is it a path? -/
def gP (ps : List Pt) (k : Nat) : Pt := ps.getD k (0, 0)
theorem gP_at {ps : List Pt} {k : Nat} (h : k < ps.length) : gP ps k = ps[k] := by unfold gP; simp [h]
def stepBad (ps : List Pt) (k : Nat) : Bool := decide (dist (gP ps (k - 1)) (gP ps k) ≠ 1)
def pathB (ps : List Pt) : Bool := decide (1 ≤ ps.length) && decide (ps.length ≤ 576) && (okPs ps && decide ps.Nodup) && !anyIn 1 ps.length (stepBad ps)
theorem nodup_take {α : Type} {l : List α} : l.Nodup ↔ ∀ k (h : k < l.length), l[k] ∉ l.take k := by
  unfold List.Nodup
  rw [List.pairwise_iff_getElem]
  constructor
  · intro h k hk hm
    obtain ⟨i, hi, e⟩ := List.mem_take_iff_getElem.1 hm
    exact h i k (by omega) hk (by omega) e
  · intro h i j hi hj hij e
    exact h j hj (List.mem_take_iff_getElem.2 ⟨i, by omega, e⟩)
def seenB (ps : List Pt) (k : Nat) : Bool := !okP (gP ps k) || decide (gP ps k ∈ ps.take k)
theorem seen_any (ps : List Pt) : anyIn 0 ps.length (seenB ps) = !(okPs ps && decide ps.Nodup) := by
  cases h : anyIn 0 ps.length (seenB ps) with
  | true =>
    obtain ⟨k, _, hk, hp⟩ := anyIn_t.1 h
    unfold seenB at hp
    rw [gP_at hk] at hp
    simp only [Bool.or_eq_true, Bool.not_eq_true', decide_eq_true_eq] at hp
    rcases hp with hp | hp
    · rw [okPs_not hk hp]; rfl
    · have : ¬ ps.Nodup := fun hn => nodup_take.1 hn k hk hp
      simp [this]
  | false =>
    have h' := anyIn_f.1 h
    have h1 : okPs ps = true := okPs_all (fun j hj => by
      have := h' j (by omega) hj
      unfold seenB at this; rw [gP_at hj] at this
      simp only [Bool.or_eq_false_iff, Bool.not_eq_false'] at this
      exact this.1)
    have h2 : ps.Nodup := nodup_take.2 (fun k hk => by
      have := h' k (by omega) hk
      unfold seenB at this; rw [gP_at hk] at this
      simp only [Bool.or_eq_false_iff, decide_eq_false_iff_not] at this
      exact this.2)
    simp [h1, h2]
theorem slci_take {α : Type} {l : List α} {k : Nat} (h : k ≤ l.length) : slci l 0 (k : Int) = some (l.take k) := by unfold slci; rw [if_pos (by omega)]; simp
theorem pathB_len {ps : List Pt} (h : pathB ps = true) : 1 ≤ ps.length ∧ ps.length ≤ 576 := by
  unfold pathB at h; simp only [Bool.and_eq_true, decide_eq_true_eq] at h; exact h.1.1
/-! ### Corners and bends -/
def bendB (ps : List Pt) (k : Nat) : Bool := decide ((gP ps (k - 1)).1 ≠ (gP ps (k + 1)).1) && decide ((gP ps (k - 1)).2 ≠ (gP ps (k + 1)).2)
def innB (ps : List Pt) (k : Nat) : Bool := decide (0 < k) && decide (k + 1 < ps.length) && bendB ps k
def cornB (ps : List Pt) (k : Nat) : Bool := decide (k = 0) || decide (k + 1 = ps.length) || innB ps k
def cornF (ps : List Pt) (k : Nat) : List Pt := ((List.range k).filter (cornB ps)).map (gP ps)
theorem cornF_succ (ps : List Pt) (k : Nat) : cornF ps (k + 1) = if cornB ps k then cornF ps k ++ [gP ps k] else cornF ps k := by
  unfold cornF
  rw [List.range_succ, List.filter_append, List.map_append]
  cases h : cornB ps k <;> simp [h]
theorem cornF_len (ps : List Pt) (k : Nat) : (cornF ps k).length ≤ k := by
  unfold cornF
  rw [List.length_map]
  exact Nat.le_trans (List.length_filter_le _ _) (by simp)
/-- As many corners as bends, and two. -/
theorem corn_count (ps : List Pt) (h : 2 ≤ ps.length) : (cornF ps ps.length).length = (List.range ps.length).countP (innB ps) + 2 := by
  unfold cornF
  rw [List.length_map, ← List.countP_eq_length_filter]
  obtain ⟨m, hm⟩ : ∃ m, ps.length = m + 1 + 1 := ⟨ps.length - 2, by omega⟩
  rw [hm, List.range_succ, List.countP_append, List.countP_append, List.range_succ_eq_map, List.countP_cons, List.countP_cons, List.countP_cons, List.countP_cons, List.countP_map, List.countP_map]
  have h1 : (cornB ps ∘ Nat.succ) = fun j => decide (j + 2 = ps.length) || innB ps (j + 1) := by funext j; simp [cornB]
  have h2 : List.countP (cornB ps ∘ Nat.succ) (List.range m) = List.countP (innB ps ∘ Nat.succ) (List.range m) := by
    apply List.countP_congr
    intro j hj
    rw [List.mem_range] at hj
    rw [h1]
    simp only [Function.comp_apply, Bool.or_eq_true, decide_eq_true_eq]
    constructor
    · rintro (h | h)
      · omega
      · exact h
    · exact Or.inr
  have h3 : cornB ps 0 = true := by simp [cornB]
  have h4 : innB ps 0 = false := by simp [innB]
  have h5 : cornB ps (m + 1) = true := by simp [cornB, hm]
  have h6 : innB ps (m + 1) = false := by simp [innB, hm]
  rw [h2]
  simp [h3, h4, h5, h6]
theorem countP_range_succ (p : Nat → Bool) (k : Nat) : (List.range (k + 1)).countP p = (List.range k).countP p + if p k then 1 else 0 := by
  rw [List.range_succ, List.countP_append]; simp
theorem countP_range_le (p : Nat → Bool) (k : Nat) : (List.range k).countP p ≤ k := by
  have := List.countP_le_length (p := p) (l := List.range k); simpa using this
def lenV (ps : List Pt) : Int × Bool := if pathB ps then ((ps.length : Int) - 1, true) else (0, false)
def bendsV (ps : List Pt) : Int × Bool := if pathB ps then (((List.range ps.length).countP (innB ps) : Int), true) else (0, false)
def cornV (ps : List Pt) : List Pt × Bool := if pathB ps then (cornF ps ps.length, true) else ([], false)
/-! ### Marks -/
theorem geti_set {α : Type} {l : List α} {i : Nat} {x : α} (h : i < l.length) : geti (l.set i x) (i : Int) = some x := by
  rw [geti_nat, List.getElem?_set_self h]
def seqP (k : Int) (n : Nat) : List Pt := (List.range n).map fun (j : Nat) => (k + 2 * (j : Int), k + 2 * (j : Int) + 1)
theorem seqP_len (k : Int) (n : Nat) : (seqP k n).length = n := by simp [seqP]
theorem seqP_at {k : Int} {n i : Nat} (h : i < (seqP k n).length) : (seqP k n)[i] = (k + 2 * (i : Int), k + 2 * (i : Int) + 1) := by simp [seqP]
end Go.Proofs.Ytooogkcoedampaa

set_option linter.unusedSimpArgs false
set_option linter.unusedVariables false
namespace Go.Proofs.Ytooogkcoedampaa
open Go.RowKit

/-! ### Pins -/
def pinsB (n : Int) (ps : List Pt) : Bool := decide (1 ≤ ps.length) && decide ((ps.length : Int) ≤ n) && (okPs ps && decide ps.Nodup)
theorem pinsB_t {n : Int} {ps : List Pt} (h : pinsB n ps = true) : 1 ≤ ps.length ∧ (ps.length : Int) ≤ n ∧ okPs ps = true ∧ ps.Nodup := by
  unfold pinsB at h; simp only [Bool.and_eq_true, decide_eq_true_eq] at h; exact ⟨h.1.1, h.1.2, h.2.1, h.2.2⟩
theorem implPins_eq (ps : List Pt) (n : Int) (hb : ps.length ≤ 140737488) : m_impl_pinsOk ps n = some (pinsB n ps) := by
  unfold m_impl_pinsOk pinsB
  by_cases h1 : 1 ≤ ps.length
  · rw [bif_t (by simp; omega)]
    by_cases h2 : (ps.length : Int) ≤ n
    · rw [bif_t (by simpa using h2), ContNo_eq ps (by omega)]
      simp only [bind_some']
      cases h3 : okPs ps with
      | false => simp
      | true =>
        simp only [Bool.not_true, Bool.not_false, cond_true]
        rw [sorted_eq ps hb]
        simp only [bind_some']
        have hs := setPts_len ps
        have : (((setPts ps).length : Int) == (ps.length : Int)) = decide ps.Nodup := by
          by_cases hn : ps.Nodup
          · rw [hs.2 hn]; simp [hn]
          · have : (setPts ps).length ≠ ps.length := fun e => hn (hs.1 e)
            simp only [hn, decide_false, beq_eq_false_iff_ne, ne_eq]; omega
        rw [this]
        simp [h1, h2]
    · rw [bif_f (by simpa using h2)]; simp [h2]
  · rw [bif_f (by simp; omega)]; simp [h1]
theorem arePins_eq (ps : List Pt) (hb : ps.length ≤ 140737488) : m_impl_ArePins ps = some (pinsB 20 ps) := by
  unfold m_impl_ArePins
  rw [implPins_eq ps 20 hb]; rfl
/-! ### A star -/
def starF (ps : List Pt) (r : Pt) : Nat → Int
  | 0 => 0
  | k + 1 => starF ps r k + dist (gP ps k) r
theorem dist_b {p q : Pt} (hp : okP p = true) (hq : okP q = true) : 0 ≤ dist p q ∧ dist p q ≤ 198 := by
  have h1 := okP_t hp
  have h2 := okP_t hq
  unfold dist; omega
theorem starF_b {ps : List Pt} {r : Pt} (h : okPs ps = true) (hr : okP r = true) : ∀ k, k ≤ ps.length → 0 ≤ starF ps r k ∧ starF ps r k ≤ 198 * k
  | 0, _ => by simp [starF]
  | k + 1, hk => by
    have ih := starF_b h hr k (by omega)
    have := dist_b (okPs_at h (k := k) (by omega)) hr
    rw [starF, gP_at (by omega)]; omega
def starV (ps : List Pt) (r : Pt) : Int := starF ps r ps.length
def starLenV (ps : List Pt) (r : Pt) : Int × Bool := if pinsB 20 ps && okP r then (starV ps r, true) else (0, false)
/-! ### The box -/
def boxF (ps : List Pt) : Nat → Int × Int × Int × Int
  | 0 => ((gP ps 0).1, (gP ps 0).2, (gP ps 0).1, (gP ps 0).2)
  | k + 1 => (if (gP ps k).1 < (boxF ps k).1 then (gP ps k).1 else (boxF ps k).1, if (gP ps k).2 < (boxF ps k).2.1 then (gP ps k).2 else (boxF ps k).2.1,
      if (gP ps k).1 > (boxF ps k).2.2.1 then (gP ps k).1 else (boxF ps k).2.2.1, if (gP ps k).2 > (boxF ps k).2.2.2 then (gP ps k).2 else (boxF ps k).2.2.2)
theorem boxF_ok {ps : List Pt} (h : okPs ps = true) (h1 : 1 ≤ ps.length) : ∀ k, k ≤ ps.length → okP ((boxF ps k).1, (boxF ps k).2.1) = true ∧ okP ((boxF ps k).2.2.1, (boxF ps k).2.2.2) = true
  | 0, _ => by
    have := okPs_at h (k := 0) (by omega)
    rw [boxF, gP_at (by omega)]; exact ⟨this, this⟩
  | k + 1, hk => by
    have ih := boxF_ok h h1 k (by omega)
    have h2 := okP_t (okPs_at h (k := k) (by omega))
    have h3 := okP_t ih.1
    have h4 := okP_t ih.2
    rw [boxF, gP_at (by omega)]
    simp only at h3 h4 ⊢
    constructor
    · unfold okP; simp only [Bool.and_eq_true, decide_eq_true_eq]; split <;> split <;> omega
    · unfold okP; simp only [Bool.and_eq_true, decide_eq_true_eq]; split <;> split <;> omega
def boxV (ps : List Pt) : Int × Bool := if pinsB 20 ps then (dist ((boxF ps ps.length).1, (boxF ps ps.length).2.1) ((boxF ps ps.length).2.2.1, (boxF ps ps.length).2.2.2), true) else (0, false)
/-! ### The reference's sort: each point is put in its place -/
instance (p q : Pt) : Decidable (ltP p q) := by unfold ltP; infer_instance
theorem ltP_total {x y : Pt} (h : ¬ ltP x y) (hne : x ≠ y) : ltP y x := by
  unfold ltP at *
  have : x.1 ≠ y.1 ∨ x.2 ≠ y.2 := by
    by_cases e : x.1 = y.1
    · exact Or.inr (fun e2 => hne (Prod.ext e e2))
    · exact Or.inl e
  omega
theorem put_strict {out : List Pt} {x : Pt} {a : Nat} (ho : out.Pairwise ltP) (hx : x ∉ out) (ha : a ≤ out.length) (h2 : ∀ j (h : j < out.length), j < a → ltP out[j] x) (h3 : ∀ h : a < out.length, ¬ ltP out[a] x) :
    (out.take a ++ [x] ++ out.drop a).Pairwise ltP := by
  have hlow : ∀ y ∈ out.take a, ltP y x := fun y hy => by
    obtain ⟨j, hj, rfl⟩ := List.mem_take_iff_getElem.1 hy
    exact h2 j (by omega) (by omega)
  have hhigh : ∀ y ∈ out.drop a, ltP x y := fun y hy => by
    obtain ⟨j, hj, rfl⟩ := List.mem_drop_iff_getElem.1 hy
    have haj : a < out.length := by omega
    have h4 : ltP x out[a] := ltP_total (h3 haj) (fun e => hx (e ▸ List.getElem_mem haj))
    by_cases e : j = 0
    · subst e; simpa using h4
    · exact ltP_trans h4 (List.pairwise_iff_getElem.1 ho a (a + j) haj (by omega) (by omega))
  rw [List.pairwise_append, List.pairwise_append]
  refine ⟨⟨ho.take, by simp, fun y hy z hz => ?_⟩, ho.drop, fun y hy z hz => ?_⟩
  · simp only [List.mem_singleton] at hz; subst hz; exact hlow y hy
  · rcases List.mem_append.1 hy with hy | hy
    · exact ltP_trans (hlow y hy) (hhigh z hz)
    · simp only [List.mem_singleton] at hy; subst hy; exact hhigh z hz
theorem mem_put {out : List Pt} {x z : Pt} {a : Nat} : z ∈ out.take a ++ [x] ++ out.drop a ↔ z ∈ out ∨ z = x := by
  constructor
  · intro h
    simp only [List.mem_append, List.mem_singleton] at h
    rcases h with (h | h) | h
    · exact Or.inl (List.mem_of_mem_take h)
    · exact Or.inr h
    · exact Or.inl (List.mem_of_mem_drop h)
  · rintro (h | rfl)
    · rw [← List.take_append_drop a out] at h
      simp only [List.mem_append, List.mem_singleton]
      rcases List.mem_append.1 h with h | h
      · exact Or.inl (Or.inl h)
      · exact Or.inr h
    · simp
/-! ### The grid of the pins -/
def hanRow (ps : List Pt) (i j : Nat) : List Pt := (List.range j).map fun b => ((gP ps i).1, (gP ps b).2)
def hanF (ps : List Pt) (i : Nat) : List Pt := (List.range i).flatMap fun a => hanRow ps a ps.length
def hanV (ps : List Pt) : List Pt := setPts (hanF ps ps.length)
theorem hanRow_len (ps : List Pt) (i j : Nat) : (hanRow ps i j).length = j := by simp [hanRow]
theorem hanF_succ (ps : List Pt) (i : Nat) : hanF ps (i + 1) = hanF ps i ++ hanRow ps i ps.length := by unfold hanF; rw [List.range_succ, List.flatMap_append]; simp
theorem hanRow_succ (ps : List Pt) (i j : Nat) : hanRow ps i (j + 1) = hanRow ps i j ++ [((gP ps i).1, (gP ps j).2)] := by unfold hanRow; rw [List.range_succ, List.map_append]; rfl
theorem hanF_len (ps : List Pt) : ∀ i, (hanF ps i).length = i * ps.length
  | 0 => by simp [hanF]
  | i + 1 => by rw [hanF_succ, List.length_append, hanF_len ps i, hanRow_len, Nat.add_mul]; omega
theorem hanF_le (ps : List Pt) (hb : ps.length ≤ 1000) (i : Nat) (hi : i ≤ ps.length) : (hanF ps i).length ≤ 1000000 := by
  rw [hanF_len]
  calc i * ps.length ≤ 1000 * 1000 := Nat.mul_le_mul (by omega) hb
    _ = 1000000 := rfl
theorem implHanan_eq (ps : List Pt) (hb : ps.length ≤ 1000) : m_impl_hanan ps = some (hanV ps) := by
  unfold m_impl_hanan hanV
  have hl := loop_run (step := m_impl_hanan_s3 ps) ps.length (fun k => (hanF ps k, (k : Int))) (r := hanF ps ps.length) (by
    intro k hk
    unfold m_impl_hanan_s3
    simp only []
    rw [bif_t (by simpa using hk), geti_lt hk]
    simp only [bind_some']
    have hf := hanF_le ps hb k (by omega)
    have hi := loop_run (step := m_impl_hanan_s4 ps ps[k]) ps.length (fun j => (hanF ps k ++ hanRow ps k j, (j : Int))) (r := hanF ps k ++ hanRow ps k ps.length) (by
      intro j hj
      unfold m_impl_hanan_s4
      simp only []
      rw [bif_t (by simpa using hj), geti_lt hj, wr_in (by omega)]
      simp only [bind_some']
      rw [apC_ok (by rw [List.length_append, hanRow_len]; unfold lim; simp; omega), hanRow_succ, gP_at hk, gP_at hj]
      simp) (by
      unfold m_impl_hanan_s4
      simp only []
      rw [bif_f (by simp)])
    rw [show (hanF ps k ++ hanRow ps k 0, ((0 : Nat) : Int)) = (hanF ps k, 0) by simp [hanRow]] at hi
    rw [hi, hanF_succ, wr_in (by omega)]
    rfl) (by
    unfold m_impl_hanan_s3
    simp only []
    rw [bif_f (by simp)])
  rw [show (hanF ps 0, ((0 : Nat) : Int)) = (([] : List Pt), 0) from rfl] at hl
  rw [hl, bind_some']
  simp only []
  rw [sorted_eq _ (by have := hanF_le ps hb ps.length (Nat.le_refl _); omega)]
  rfl
def hanPV (ps : List Pt) : List Pt × Bool := if pinsB 7 ps then (hanV ps, true) else ([], false)
theorem pinsB_7 (ps : List Pt) : (pinsB 20 ps && decide ((ps.length : Int) ≤ 7)) = pinsB 7 ps := by
  unfold pinsB
  by_cases h : (ps.length : Int) ≤ 7
  · simp [h, show (ps.length : Int) ≤ 20 by omega]
  · simp [h]
theorem hanV_len (ps : List Pt) (hb : ps.length ≤ 1000) : (hanV ps).length ≤ 1000000 := by
  unfold hanV setPts
  have h1 := cmpct_len (sortPts (hanF ps ps.length))
  have h2 := (sortPts_perm (hanF ps ps.length)).length_eq
  have h3 := hanF_le ps hb ps.length (Nat.le_refl _)
  omega
/-! ### The best root -/
theorem hanV_ok {ps : List Pt} (h : okPs ps = true) : okPs (hanV ps) = true := by
  unfold okPs
  rw [List.all_eq_true]
  intro x hx
  unfold hanV at hx
  rw [mem_setPts] at hx
  unfold hanF hanRow at hx
  obtain ⟨a, ha, hx⟩ := List.mem_flatMap.1 hx
  obtain ⟨b, hb, rfl⟩ := List.mem_map.1 hx
  rw [List.mem_range] at ha hb
  have h1 := okP_t (okPs_at h ha)
  have h2 := okP_t (okPs_at h hb)
  rw [gP_at ha, gP_at hb]
  unfold okP
  simp only [Bool.and_eq_true, decide_eq_true_eq]
  omega
theorem hanV_pos {ps : List Pt} (h : 1 ≤ ps.length) : 0 < (hanV ps).length := by
  have : ((gP ps 0).1, (gP ps 0).2) ∈ hanV ps := by
    unfold hanV
    rw [mem_setPts]
    unfold hanF hanRow
    exact List.mem_flatMap.2 ⟨0, List.mem_range.2 (by omega), List.mem_map.2 ⟨0, List.mem_range.2 (by omega), rfl⟩⟩
  exact List.length_pos_of_mem this
def rootF (ps all : List Pt) : Nat → Pt
  | 0 => gP all 0
  | k + 1 => if starV ps (gP all k) < starV ps (rootF ps all k) then gP all k else rootF ps all k
theorem rootF_ok {ps all : List Pt} (h : okPs all = true) (h0 : 0 < all.length) : ∀ k, k ≤ all.length → okP (rootF ps all k) = true
  | 0, _ => by rw [rootF, gP_at h0]; exact okPs_at h h0
  | k + 1, hk => by
    rw [rootF]
    split
    · rw [gP_at (by omega)]; exact okPs_at h (by omega)
    · exact rootF_ok h h0 k (by omega)
def rootV (ps : List Pt) : Pt × Int × Bool := if pinsB 20 ps then (rootF ps (hanV ps) (hanV ps).length, starV ps (rootF ps (hanV ps) (hanV ps).length), true) else ((0, 0), 0, false)
end Go.Proofs.Ytooogkcoedampaa
