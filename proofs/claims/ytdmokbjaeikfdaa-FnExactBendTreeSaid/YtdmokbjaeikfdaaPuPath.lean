/- Paths: what the reference and the program reckon is the same. -/
import Derived.Test.YtdmokbjaeikfdaaPuSet
set_option linter.unusedSimpArgs false
set_option linter.unusedVariables false
namespace Go.Proofs.Ytdmokbjaeikfdaa
open Go.RowKit

/-- A loop that looks for the first of a kind. -/
theorem loop_find {R : Type} {step : Int → Option (Ctl Int (Sum Unit R))} (n : Nat) (p : Nat → Bool) (g : Nat → R)
    (hs : ∀ k, k < n → step (k : Int) = some (if p k then .out (.inr (g k)) else .next ((k + 1 : Nat) : Int))) (hn : step (n : Int) = some (.out (.inl ()))) :
    (anyIn 0 n p = false ∧ loopM step 0 = some (.inl ())) ∨ ∃ k, k < n ∧ p k = true ∧ (∀ j, j < k → p j = false) ∧ loopM step 0 = some (.inr (g k)) := by
  obtain ⟨r, hr, hJ⟩ := loopM_count step n (fun k s => s = (k : Int) ∧ ∀ j, j < k → p j = false)
    (fun r => (anyIn 0 n p = false ∧ r = .inl ()) ∨ ∃ k, k < n ∧ p k = true ∧ (∀ j, j < k → p j = false) ∧ r = .inr (g k)) (s0 := 0) ⟨rfl, fun j h => by omega⟩ (by
      rintro k _ hk ⟨rfl, hall⟩
      rw [hs k hk]
      cases hp : p k with
      | true => right; exact ⟨_, rfl, Or.inr ⟨k, hk, hp, hall, rfl⟩⟩
      | false =>
        left
        refine ⟨_, rfl, rfl, fun j hj => ?_⟩
        by_cases e : j = k
        · subst e; exact hp
        · exact hall j (by omega)) (by
      rintro _ ⟨rfl, hall⟩
      exact ⟨_, hn, Or.inl ⟨anyIn_f.2 (fun k _ h => hall k h), rfl⟩⟩)
  rcases hJ with ⟨h1, rfl⟩ | ⟨k, h1, h2, h3, rfl⟩
  · exact Or.inl ⟨h1, hr⟩
  · exact Or.inr ⟨k, h1, h2, h3, hr⟩
theorem Index_eq (l : List Pt) (p : Pt) (hb : l.length ≤ 140737488355328) : ∃ i : Int, m_spec_l01Index l p.1 p.2 = some i ∧ decide (i ≥ 0) = decide (p ∈ l) := by
  unfold m_spec_l01Index
  rcases loop_find (step := m_spec_l01Index_s1 l p.1 p.2) l.length (fun k => decide (l[k]? = some p)) (fun k => (k : Int)) (by
      intro k hk
      unfold m_spec_l01Index_s1
      simp only []
      rw [bif_t (by simpa using hk), geti_lt hk]
      simp only [bind_some', eqb, List.getElem?_eq_getElem hk, Option.some.injEq]
      by_cases h : l[k] = p
      · simp [h]
      · simp only [h, decide_false, cond_false]
        rw [wr_in (by omega)]; rfl) (by
      unfold m_spec_l01Index_s1
      simp only []
      rw [bif_f (by simp)]) with ⟨h1, h2⟩ | ⟨k, h1, h2, _, h3⟩
  · rw [h2]
    refine ⟨-1, rfl, ?_⟩
    have : p ∉ l := fun hp => by
      obtain ⟨k, hk, rfl⟩ := List.mem_iff_getElem.1 hp
      have := anyIn_f.1 h1 k (by omega) hk
      simp [List.getElem?_eq_getElem hk] at this
    simp [this]
  · rw [h3]
    refine ⟨k, rfl, ?_⟩
    have : p ∈ l := by
      simp only [decide_eq_true_eq] at h2
      exact List.mem_of_getElem? h2
    simp [this]
/-! ### Is it a path? -/
def gP (ps : List Pt) (k : Nat) : Pt := ps.getD k (0, 0)
theorem gP_at {ps : List Pt} {k : Nat} (h : k < ps.length) : gP ps k = ps[k] := by unfold gP; simp [h]
def stepBad (ps : List Pt) (k : Nat) : Bool := decide (dist (gP ps (k - 1)) (gP ps k) ≠ 1)
def pathB (ps : List Pt) : Bool := decide (1 ≤ ps.length) && decide (ps.length ≤ 576) && (okPs ps && decide ps.Nodup) && !anyIn 1 ps.length (stepBad ps)
theorem nodup_take {α : Type} {l : List α} : l.Nodup ↔ ∀ k (h : k < l.length), l[k] ∉ l.take k := by
  unfold List.Nodup
  rw [List.pairwise_iff_getElem]
  constructor
  · intro h k hk hm
    obtain ⟨i, hi, e⟩ := List.mem_take_iff_getElem.1 hm
    exact h i k (by omega) hk (by omega) e
  · intro h i j hi hj hij e
    exact h j hj (List.mem_take_iff_getElem.2 ⟨i, by omega, e⟩)
def seenB (ps : List Pt) (k : Nat) : Bool := !okP (gP ps k) || decide (gP ps k ∈ ps.take k)
theorem seen_any (ps : List Pt) : anyIn 0 ps.length (seenB ps) = !(okPs ps && decide ps.Nodup) := by
  cases h : anyIn 0 ps.length (seenB ps) with
  | true =>
    obtain ⟨k, _, hk, hp⟩ := anyIn_t.1 h
    unfold seenB at hp
    rw [gP_at hk] at hp
    simp only [Bool.or_eq_true, Bool.not_eq_true', decide_eq_true_eq] at hp
    rcases hp with hp | hp
    · rw [okPs_not hk hp]; rfl
    · have : ¬ ps.Nodup := fun hn => nodup_take.1 hn k hk hp
      simp [this]
  | false =>
    have h' := anyIn_f.1 h
    have h1 : okPs ps = true := okPs_all (fun j hj => by
      have := h' j (by omega) hj
      unfold seenB at this; rw [gP_at hj] at this
      simp only [Bool.or_eq_false_iff, Bool.not_eq_false'] at this
      exact this.1)
    have h2 : ps.Nodup := nodup_take.2 (fun k hk => by
      have := h' k (by omega) hk
      unfold seenB at this; rw [gP_at hk] at this
      simp only [Bool.or_eq_false_iff, decide_eq_false_iff_not] at this
      exact this.2)
    simp [h1, h2]
theorem slci_take {α : Type} {l : List α} {k : Nat} (h : k ≤ l.length) : slci l 0 (k : Int) = some (l.take k) := by unfold slci; rw [if_pos (by omega)]; simp
theorem pathB_len {ps : List Pt} (h : pathB ps = true) : 1 ≤ ps.length ∧ ps.length ≤ 576 := by
  unfold pathB at h; simp only [Bool.and_eq_true, decide_eq_true_eq] at h; exact h.1.1
/-! ### Corners and bends -/
def bendB (ps : List Pt) (k : Nat) : Bool := decide ((gP ps (k - 1)).1 ≠ (gP ps (k + 1)).1) && decide ((gP ps (k - 1)).2 ≠ (gP ps (k + 1)).2)
def innB (ps : List Pt) (k : Nat) : Bool := decide (0 < k) && decide (k + 1 < ps.length) && bendB ps k
def cornB (ps : List Pt) (k : Nat) : Bool := decide (k = 0) || decide (k + 1 = ps.length) || innB ps k
def cornF (ps : List Pt) (k : Nat) : List Pt := ((List.range k).filter (cornB ps)).map (gP ps)
theorem cornF_succ (ps : List Pt) (k : Nat) : cornF ps (k + 1) = if cornB ps k then cornF ps k ++ [gP ps k] else cornF ps k := by
  unfold cornF
  rw [List.range_succ, List.filter_append, List.map_append]
  cases h : cornB ps k <;> simp [h]
theorem cornF_len (ps : List Pt) (k : Nat) : (cornF ps k).length ≤ k := by
  unfold cornF
  rw [List.length_map]
  exact Nat.le_trans (List.length_filter_le _ _) (by simp)
/-- As many corners as bends, and two. -/
theorem corn_count (ps : List Pt) (h : 2 ≤ ps.length) : (cornF ps ps.length).length = (List.range ps.length).countP (innB ps) + 2 := by
  unfold cornF
  rw [List.length_map, ← List.countP_eq_length_filter]
  obtain ⟨m, hm⟩ : ∃ m, ps.length = m + 1 + 1 := ⟨ps.length - 2, by omega⟩
  rw [hm, List.range_succ, List.countP_append, List.countP_append, List.range_succ_eq_map, List.countP_cons, List.countP_cons, List.countP_cons, List.countP_cons, List.countP_map, List.countP_map]
  have h1 : (cornB ps ∘ Nat.succ) = fun j => decide (j + 2 = ps.length) || innB ps (j + 1) := by funext j; simp [cornB]
  have h2 : List.countP (cornB ps ∘ Nat.succ) (List.range m) = List.countP (innB ps ∘ Nat.succ) (List.range m) := by
    apply List.countP_congr
    intro j hj
    rw [List.mem_range] at hj
    rw [h1]
    simp only [Function.comp_apply, Bool.or_eq_true, decide_eq_true_eq]
    constructor
    · rintro (h | h)
      · omega
      · exact h
    · exact Or.inr
  have h3 : cornB ps 0 = true := by simp [cornB]
  have h4 : innB ps 0 = false := by simp [innB]
  have h5 : cornB ps (m + 1) = true := by simp [cornB, hm]
  have h6 : innB ps (m + 1) = false := by simp [innB, hm]
  rw [h2]
  simp [h3, h4, h5, h6]
theorem countP_range_succ (p : Nat → Bool) (k : Nat) : (List.range (k + 1)).countP p = (List.range k).countP p + if p k then 1 else 0 := by
  rw [List.range_succ, List.countP_append]; simp
theorem countP_range_le (p : Nat → Bool) (k : Nat) : (List.range k).countP p ≤ k := by
  have := List.countP_le_length (p := p) (l := List.range k); simpa using this
def lenV (ps : List Pt) : Int × Bool := if pathB ps then ((ps.length : Int) - 1, true) else (0, false)
def bendsV (ps : List Pt) : Int × Bool := if pathB ps then (((List.range ps.length).countP (innB ps) : Int), true) else (0, false)
def cornV (ps : List Pt) : List Pt × Bool := if pathB ps then (cornF ps ps.length, true) else ([], false)
theorem szP1_eq (ps : List Pt) (hb : ps.length ≤ 9223372036854775807) : ∃ z, m_laws_szPointS ps 1048576 = some z ∧ (z < 0 ∨ (¬ z < 0 ∧ ps.length ≤ 1048576)) := by
  unfold m_laws_szPointS
  rw [wr_in (x := 1048576 - (ps.length : Int)) (by omega)]
  by_cases h : (1048576 : Int) - ps.length < 0
  · rw [bif_t (by simpa using h)]; exact ⟨-1, rfl, Or.inl (by omega)⟩
  · rw [bif_f (by simpa using h)]; exact ⟨_, rfl, Or.inr ⟨h, by omega⟩⟩
/-! ### Marks -/
theorem geti_set {α : Type} {l : List α} {i : Nat} {x : α} (h : i < l.length) : geti (l.set i x) (i : Int) = some x := by
  rw [geti_nat, List.getElem?_set_self h]
def seqP (k : Int) (n : Nat) : List Pt := (List.range n).map fun (j : Nat) => (k + 2 * (j : Int), k + 2 * (j : Int) + 1)
theorem seqP_len (k : Int) (n : Nat) : (seqP k n).length = n := by simp [seqP]
theorem seqP_at {k : Int} {n i : Nat} (h : i < (seqP k n).length) : (seqP k n)[i] = (k + 2 * (i : Int), k + 2 * (i : Int) + 1) := by simp [seqP]
end Go.Proofs.Ytdmokbjaeikfdaa
