/- Paths: what the reference and the program reckon is the same. -/
import Derived.Test.YtgaecldkiijmpaaPuSet
set_option linter.unusedSimpArgs false
set_option linter.unusedVariables false
namespace Go.Proofs.Ytgaecldkiijmpaa
open Go.RowKit

/-- A loop that looks for the first of a kind. -/
theorem loop_find {R : Type} {step : Int → Option (Ctl Int (Sum Unit R))} (n : Nat) (p : Nat → Bool) (g : Nat → R)
    (hs : ∀ k, k < n → step (k : Int) = some (if p k then .out (.inr (g k)) else .next ((k + 1 : Nat) : Int))) (hn : step (n : Int) = some (.out (.inl ()))) :
    (anyIn 0 n p = false ∧ loopM step 0 = some (.inl ())) ∨ ∃ k, k < n ∧ p k = true ∧ (∀ j, j < k → p j = false) ∧ loopM step 0 = some (.inr (g k)) := by
  obtain ⟨r, hr, hJ⟩ := loopM_count step n (fun k s => s = (k : Int) ∧ ∀ j, j < k → p j = false)
    (fun r => (anyIn 0 n p = false ∧ r = .inl ()) ∨ ∃ k, k < n ∧ p k = true ∧ (∀ j, j < k → p j = false) ∧ r = .inr (g k)) (s0 := 0) ⟨rfl, fun j h => by omega⟩ (by
      rintro k _ hk ⟨rfl, hall⟩
      rw [hs k hk]
      cases hp : p k with
      | true => right; exact ⟨_, rfl, Or.inr ⟨k, hk, hp, hall, rfl⟩⟩
      | false =>
        left
        refine ⟨_, rfl, rfl, fun j hj => ?_⟩
        by_cases e : j = k
        · subst e; exact hp
        · exact hall j (by omega)) (by
      rintro _ ⟨rfl, hall⟩
      exact ⟨_, hn, Or.inl ⟨anyIn_f.2 (fun k _ h => hall k h), rfl⟩⟩)
  rcases hJ with ⟨h1, rfl⟩ | ⟨k, h1, h2, h3, rfl⟩
  · exact Or.inl ⟨h1, hr⟩
  · exact Or.inr ⟨k, h1, h2, h3, hr⟩
theorem Index_eq (l : List Pt) (p : Pt) (hb : l.length ≤ 140737488355328) : ∃ i : Int, m_spec_l01Index l p.1 p.2 = some i ∧ decide (i ≥ 0) = decide (p ∈ l) := by
  unfold m_spec_l01Index
  rcases loop_find (step := m_spec_l01Index_s1 l p.1 p.2) l.length (fun k => decide (l[k]? = some p)) (fun k => (k : Int)) (by
      intro k hk
      unfold m_spec_l01Index_s1
      simp only []
      rw [bif_t (by simpa using hk), geti_lt hk]
      simp only [bind_some', eqb, List.getElem?_eq_getElem hk, Option.some.injEq]
      by_cases h : l[k] = p
      · simp [h]
      · simp only [h, decide_false, cond_false]
        rw [wr_in (by omega)]; rfl) (by
      unfold m_spec_l01Index_s1
      simp only []
      rw [bif_f (by simp)]) with ⟨h1, h2⟩ | ⟨k, h1, h2, _, h3⟩
  · rw [h2]
    refine ⟨-1, rfl, ?_⟩
    have : p ∉ l := fun hp => by
      obtain ⟨k, hk, rfl⟩ := List.mem_iff_getElem.1 hp
      have := anyIn_f.1 h1 k (by omega) hk
      simp [List.getElem?_eq_getElem hk] at this
    simp [this]
  · rw [h3]
    refine ⟨k, rfl, ?_⟩
    have : p ∈ l := by
      simp only [decide_eq_true_eq] at h2
      exact List.mem_of_getElem? h2
    simp [this]
/-! ### Is it a path? -/
def gP (ps : List Pt) (k : Nat) : Pt := ps.getD k (0, 0)
theorem gP_at {ps : List Pt} {k : Nat} (h : k < ps.length) : gP ps k = ps[k] := by unfold gP; simp [h]
def stepBad (ps : List Pt) (k : Nat) : Bool := decide (dist (gP ps (k - 1)) (gP ps k) ≠ 1)
def pathB (ps : List Pt) : Bool := decide (1 ≤ ps.length) && decide (ps.length ≤ 576) && (okPs ps && decide ps.Nodup) && !anyIn 1 ps.length (stepBad ps)
theorem implPath_eq (ps : List Pt) (hb : ps.length ≤ 140737488) : m_impl_IsPath ps = some (pathB ps) := by
  unfold m_impl_IsPath pathB
  by_cases h1 : ps.length < 1
  · rw [bif_t (by simp; omega)]; simp [show ¬ 1 ≤ ps.length by omega]
  · rw [bif_f (by simp; omega)]
    by_cases h2 : ps.length > 576
    · rw [bif_t (by simp; omega)]; simp [show ¬ ps.length ≤ 576 by omega]
    · rw [bif_f (by simp; omega), ContNo_eq ps (by omega)]
      simp only [bind_some']
      cases h3 : okPs ps with
      | false => simp
      | true =>
        simp only [Bool.not_true, cond_false]
        have hl := loop_any (step := m_impl_IsPath_s1 ps) 1 ps.length (stepBad ps) false (by omega) (by
          intro k hk1 hk _
          unfold m_impl_IsPath_s1
          simp only []
          rw [bif_t (by simpa using hk), wr_in (by omega), show (k : Int) - 1 = ((k - 1 : Nat) : Int) by omega, geti_lt (k := k - 1) (by omega), geti_lt hk]
          simp only [bind_some']
          rw [far_eq (okPs_at h3 (by omega)) (okPs_at h3 hk)]
          simp only [bind_some']
          unfold stepBad
          rw [gP_at (k := k - 1) (by omega), gP_at hk]
          by_cases h : dist ps[k - 1] ps[k] = 1
          · rw [bif_f (by simpa using h)]
            rw [if_neg (by simpa using h), wr_in (by omega)]; rfl
          · rw [bif_t (by simpa using h), if_pos (by simpa using h)]) (by
          unfold m_impl_IsPath_s1
          simp only []
          rw [bif_f (by simp)])
        rw [show ((1 : Nat) : Int) = 1 from rfl] at hl
        rw [hl]
        cases h4 : anyIn 1 ps.length (stepBad ps) with
        | true => simp
        | false =>
          simp only [bind_some', if_neg (show ¬ (false = true) by simp)]
          rw [sorted_eq ps hb]
          simp only [bind_some']
          have hs := setPts_len ps
          have : (((setPts ps).length : Int) == (ps.length : Int)) = decide ps.Nodup := by
            by_cases hn : ps.Nodup
            · rw [hs.2 hn]; simp [hn]
            · have : (setPts ps).length ≠ ps.length := fun e => hn (hs.1 e)
              simp only [hn, decide_false, beq_eq_false_iff_ne, ne_eq]; omega
          rw [this]
          simp [show 1 ≤ ps.length by omega, show ps.length ≤ 576 by omega]
theorem nodup_take {α : Type} {l : List α} : l.Nodup ↔ ∀ k (h : k < l.length), l[k] ∉ l.take k := by
  unfold List.Nodup
  rw [List.pairwise_iff_getElem]
  constructor
  · intro h k hk hm
    obtain ⟨i, hi, e⟩ := List.mem_take_iff_getElem.1 hm
    exact h i k (by omega) hk (by omega) e
  · intro h i j hi hj hij e
    exact h j hj (List.mem_take_iff_getElem.2 ⟨i, by omega, e⟩)
def seenB (ps : List Pt) (k : Nat) : Bool := !okP (gP ps k) || decide (gP ps k ∈ ps.take k)
theorem seen_any (ps : List Pt) : anyIn 0 ps.length (seenB ps) = !(okPs ps && decide ps.Nodup) := by
  cases h : anyIn 0 ps.length (seenB ps) with
  | true =>
    obtain ⟨k, _, hk, hp⟩ := anyIn_t.1 h
    unfold seenB at hp
    rw [gP_at hk] at hp
    simp only [Bool.or_eq_true, Bool.not_eq_true', decide_eq_true_eq] at hp
    rcases hp with hp | hp
    · rw [okPs_not hk hp]; rfl
    · have : ¬ ps.Nodup := fun hn => nodup_take.1 hn k hk hp
      simp [this]
  | false =>
    have h' := anyIn_f.1 h
    have h1 : okPs ps = true := okPs_all (fun j hj => by
      have := h' j (by omega) hj
      unfold seenB at this; rw [gP_at hj] at this
      simp only [Bool.or_eq_false_iff, Bool.not_eq_false'] at this
      exact this.1)
    have h2 : ps.Nodup := nodup_take.2 (fun k hk => by
      have := h' k (by omega) hk
      unfold seenB at this; rw [gP_at hk] at this
      simp only [Bool.or_eq_false_iff, decide_eq_false_iff_not] at this
      exact this.2)
    simp [h1, h2]
theorem slci_take {α : Type} {l : List α} {k : Nat} (h : k ≤ l.length) : slci l 0 (k : Int) = some (l.take k) := by unfold slci; rw [if_pos (by omega)]; simp
theorem specPath_eq (ps : List Pt) (hb : ps.length ≤ 140737488) : m_spec_l01Path ps = some (pathB ps) := by
  unfold m_spec_l01Path pathB
  by_cases h1 : ps.length < 1
  · rw [bif_t (by simp; omega)]; simp [show ¬ 1 ≤ ps.length by omega]
  · rw [bif_f (by simp; omega)]
    by_cases h2 : ps.length > 576
    · rw [bif_t (by simp; omega)]; simp [show ¬ ps.length ≤ 576 by omega]
    · rw [bif_f (by simp; omega)]
      have hl := loop_any (step := m_spec_l01Path_s1 ps) 0 ps.length (fun k => seenB ps k || (decide (0 < k) && stepBad ps k)) false (by omega) (by
        intro k _ hk hall
        unfold m_spec_l01Path_s1 seenB
        simp only []
        rw [bif_t (by simpa using hk), geti_lt hk, gP_at hk]
        simp only [bind_some', l01Point_eq]
        cases h3 : okP ps[k] with
        | false => rw [bif_t (by simp [h3])]; simp
        | true =>
          rw [bif_f (by simp [h3]), slci_take (by omega)]
          obtain ⟨i, hi, hd⟩ := Index_eq (ps.take k) ps[k] (by simp; omega)
          rw [bind_some', hi]
          simp only [bind_some', hd]
          by_cases hm : ps[k] ∈ ps.take k
          · rw [bif_t (by simpa using hm)]; simp [hm]
          · rw [bif_f (by simpa using hm)]
            by_cases hk0 : 0 < k
            · have hok : okP (ps[k - 1]'(by omega)) = true := by
                have := hall (k - 1) (by omega) (by omega)
                unfold seenB at this
                rw [gP_at (by omega)] at this
                simp only [Bool.or_eq_false_iff, Bool.not_eq_false'] at this
                exact this.1.1
              rw [bif_t (by simpa using hk0), wr_in (by omega), show (k : Int) - 1 = ((k - 1 : Nat) : Int) by omega, geti_lt (k := k - 1) (by omega)]
              simp only [bind_some']
              rw [l01Far_eq hok h3]
              simp only [bind_some']
              unfold stepBad
              rw [gP_at (k := k - 1) (by omega), gP_at hk]
              by_cases h : dist ps[k - 1] ps[k] = 1
              · rw [bif_f (by simpa using h), wr_in (by omega)]
                simp [hm, h, hk0]
              · rw [bif_t (by simpa using h)]
                simp [hm, h, hk0]
            · rw [bif_f (by simpa using hk0), wr_in (by omega)]
              simp [hm, hk0]) (by
        unfold m_spec_l01Path_s1
        simp only []
        rw [bif_f (by simp)])
      rw [show ((0 : Nat) : Int) = 0 from rfl] at hl
      rw [hl]
      have hs := seen_any ps
      have key : anyIn 0 ps.length (fun k => seenB ps k || (decide (0 < k) && stepBad ps k)) = (anyIn 0 ps.length (seenB ps) || anyIn 1 ps.length (stepBad ps)) := by
        cases ha : anyIn 0 ps.length (seenB ps) with
        | true =>
          obtain ⟨k, h3, h4, h5⟩ := anyIn_t.1 ha
          rw [anyIn_t.2 ⟨k, h3, h4, by simp [h5]⟩]; rfl
        | false =>
          have ha' := anyIn_f.1 ha
          cases hc : anyIn 1 ps.length (stepBad ps) with
          | true =>
            obtain ⟨k, h3, h4, h5⟩ := anyIn_t.1 hc
            rw [anyIn_t.2 ⟨k, by omega, h4, by simp [h5]; omega⟩]; rfl
          | false =>
            have hc' := anyIn_f.1 hc
            rw [anyIn_f.2 (fun k h3 h4 => by
              rw [ha' k h3 h4]
              by_cases hk0 : 0 < k
              · simp [hc' k (by omega) h4]
              · simp [hk0])]; rfl
      rw [key, hs]
      cases h5 : (okPs ps && decide ps.Nodup) <;> cases anyIn 1 ps.length (stepBad ps) <;> simp [show 1 ≤ ps.length by omega, show ps.length ≤ 576 by omega]
theorem pathB_len {ps : List Pt} (h : pathB ps = true) : 1 ≤ ps.length ∧ ps.length ≤ 576 := by
  unfold pathB at h; simp only [Bool.and_eq_true, decide_eq_true_eq] at h; exact h.1.1
/-! ### Corners and bends -/
def bendB (ps : List Pt) (k : Nat) : Bool := decide ((gP ps (k - 1)).1 ≠ (gP ps (k + 1)).1) && decide ((gP ps (k - 1)).2 ≠ (gP ps (k + 1)).2)
def innB (ps : List Pt) (k : Nat) : Bool := decide (0 < k) && decide (k + 1 < ps.length) && bendB ps k
def cornB (ps : List Pt) (k : Nat) : Bool := decide (k = 0) || decide (k + 1 = ps.length) || innB ps k
def cornF (ps : List Pt) (k : Nat) : List Pt := ((List.range k).filter (cornB ps)).map (gP ps)
theorem cornF_succ (ps : List Pt) (k : Nat) : cornF ps (k + 1) = if cornB ps k then cornF ps k ++ [gP ps k] else cornF ps k := by
  unfold cornF
  rw [List.range_succ, List.filter_append, List.map_append]
  cases h : cornB ps k <;> simp [h]
theorem cornF_len (ps : List Pt) (k : Nat) : (cornF ps k).length ≤ k := by
  unfold cornF
  rw [List.length_map]
  exact Nat.le_trans (List.length_filter_le _ _) (by simp)
theorem Bend_eq (ps : List Pt) (k : Nat) (hk : k < ps.length) (hb : ps.length ≤ 140737488) : m_spec_l01Bend ps (k : Int) = some (innB ps k) := by
  unfold m_spec_l01Bend innB
  by_cases h0 : 0 < k
  · rw [bif_t (by simpa using h0), wr_in (x := (k : Int) + 1) (by omega)]
    by_cases h1 : k + 1 < ps.length
    · rw [bif_t (by simp; omega), wr_in (by omega), show (k : Int) - 1 = ((k - 1 : Nat) : Int) by omega, show (k : Int) + 1 = ((k + 1 : Nat) : Int) by omega, geti_lt (k := k - 1) (by omega), geti_lt h1]
      simp only [bind_some']
      unfold bendB
      rw [gP_at (k := k - 1) (by omega), gP_at h1]
      by_cases h2 : ps[k - 1].1 = ps[k + 1].1
      · rw [bif_f (by simpa using h2)]; simp [h2]
      · rw [bif_t (by simpa using h2)]; simp [h0, h1, h2, bne]; rfl
    · rw [bif_f (by simp; omega)]; simp [h1]
  · rw [bif_f (by simpa using h0)]; simp [h0]
theorem specCorners_eq (ps : List Pt) (hb : ps.length ≤ 140737488) : m_spec_l01Corners ps = some (cornF ps ps.length) := by
  unfold m_spec_l01Corners
  have hl := loop_run (step := m_spec_l01Corners_s1 ps) ps.length (fun k => (cornF ps k, (k : Int))) (r := cornF ps ps.length) (by
    intro k hk
    unfold m_spec_l01Corners_s1
    simp only []
    have hcl := cornF_len ps k
    rw [bif_t (by simpa using hk), geti_lt hk, wr_in (x := (ps.length : Int) - 1) (by omega), wr_in (x := (k : Int) + 1) (by omega), cornF_succ, gP_at hk]
    simp only [bind_some', apC_ok (l := cornF ps k) (l2 := [(ps[k].1, ps[k].2)]) (by unfold lim; simp; omega), Bend_eq ps k hk hb]
    unfold cornB
    by_cases h0 : k = 0
    · subst h0
      rw [bif_t (by simp)]; simp
    · rw [bif_f (by simpa using h0)]
      by_cases h1 : k + 1 = ps.length
      · rw [bif_t (by simp; omega)]; simp [h1]; omega
      · rw [bif_f (by simp; omega)]
        cases h2 : innB ps k with
        | true => simp
        | false => simp [h0, h1]) (by
    unfold m_spec_l01Corners_s1
    simp only []
    rw [bif_f (by simp)])
  rw [show cornF ps 0 = [] from rfl] at hl
  rw [show ((0 : Nat) : Int) = 0 from rfl] at hl
  rw [hl]; rfl
theorem implCorners_eq (ps : List Pt) (hb : ps.length ≤ 140737488) : m_impl_corners ps = some (cornF ps ps.length) := by
  unfold m_impl_corners
  have hl := loop_run (step := m_impl_corners_s1 ps) ps.length (fun k => (cornF ps k, (k : Int))) (r := cornF ps ps.length) (by
    intro k hk
    unfold m_impl_corners_s1
    simp only []
    have hcl := cornF_len ps k
    rw [bif_t (by simpa using hk), geti_lt hk, wr_in (x := (ps.length : Int) - 1) (by omega), wr_in (x := (k : Int) + 1) (by omega), cornF_succ, gP_at hk]
    simp only [bind_some', apC_ok (l := cornF ps k) (l2 := [(ps[k].1, ps[k].2)]) (by unfold lim; simp; omega)]
    unfold cornB
    by_cases h0 : k = 0
    · subst h0
      rw [bif_t (by simp)]; simp
    · rw [bif_f (by simpa using h0)]
      by_cases h1 : k + 1 = ps.length
      · rw [bif_t (by simp; omega)]; simp [h1]; omega
      · rw [bif_f (by simp; omega), wr_in (x := (k : Int) - 1) (by omega), show (k : Int) - 1 = ((k - 1 : Nat) : Int) by omega, show (k : Int) + 1 = ((k + 1 : Nat) : Int) by omega, geti_lt (k := k - 1) (by omega), geti_lt (k := k + 1) (by omega)]
        simp only [bind_some']
        have hin : innB ps k = (decide (ps[k - 1].1 ≠ ps[k + 1].1) && decide (ps[k - 1].2 ≠ ps[k + 1].2)) := by
          unfold innB bendB
          rw [gP_at (k := k - 1) (by omega), gP_at (k := k + 1) (by omega)]
          simp [show 0 < k by omega, show k + 1 < ps.length by omega]
        rw [hin]
        by_cases h2 : ps[k - 1].1 = ps[k + 1].1
        · rw [bif_f (by simpa using h2)]; simp [h0, h1, h2]
        · rw [bif_t (by simpa using h2)]
          by_cases h3 : ps[k - 1].2 = ps[k + 1].2
          · rw [bif_f (by simpa using h3)]; simp [h0, h1, h3]
          · rw [bif_t (by simpa using h3)]; simp [h2, h3]) (by
    unfold m_impl_corners_s1
    simp only []
    rw [bif_f (by simp)])
  rw [show cornF ps 0 = [] from rfl] at hl
  rw [show ((0 : Nat) : Int) = 0 from rfl] at hl
  rw [hl]; rfl
/-- As many corners as bends, and two. -/
theorem corn_count (ps : List Pt) (h : 2 ≤ ps.length) : (cornF ps ps.length).length = (List.range ps.length).countP (innB ps) + 2 := by
  unfold cornF
  rw [List.length_map, ← List.countP_eq_length_filter]
  obtain ⟨m, hm⟩ : ∃ m, ps.length = m + 1 + 1 := ⟨ps.length - 2, by omega⟩
  rw [hm, List.range_succ, List.countP_append, List.countP_append, List.range_succ_eq_map, List.countP_cons, List.countP_cons, List.countP_cons, List.countP_cons, List.countP_map, List.countP_map]
  have h1 : (cornB ps ∘ Nat.succ) = fun j => decide (j + 2 = ps.length) || innB ps (j + 1) := by funext j; simp [cornB]
  have h2 : List.countP (cornB ps ∘ Nat.succ) (List.range m) = List.countP (innB ps ∘ Nat.succ) (List.range m) := by
    apply List.countP_congr
    intro j hj
    rw [List.mem_range] at hj
    rw [h1]
    simp only [Function.comp_apply, Bool.or_eq_true, decide_eq_true_eq]
    constructor
    · rintro (h | h)
      · omega
      · exact h
    · exact Or.inr
  have h3 : cornB ps 0 = true := by simp [cornB]
  have h4 : innB ps 0 = false := by simp [innB]
  have h5 : cornB ps (m + 1) = true := by simp [cornB, hm]
  have h6 : innB ps (m + 1) = false := by simp [innB, hm]
  rw [h2]
  simp [h3, h4, h5, h6]
theorem countP_range_succ (p : Nat → Bool) (k : Nat) : (List.range (k + 1)).countP p = (List.range k).countP p + if p k then 1 else 0 := by
  rw [List.range_succ, List.countP_append]; simp
theorem countP_range_le (p : Nat → Bool) (k : Nat) : (List.range k).countP p ≤ k := by
  have := List.countP_le_length (p := p) (l := List.range k); simpa using this
def lenV (ps : List Pt) : Int × Bool := if pathB ps then ((ps.length : Int) - 1, true) else (0, false)
def bendsV (ps : List Pt) : Int × Bool := if pathB ps then (((List.range ps.length).countP (innB ps) : Int), true) else (0, false)
def cornV (ps : List Pt) : List Pt × Bool := if pathB ps then (cornF ps ps.length, true) else ([], false)
theorem szP1_eq (ps : List Pt) (hb : ps.length ≤ 9223372036854775807) : ∃ z, m_laws_szPointS ps 1048576 = some z ∧ (z < 0 ∨ (¬ z < 0 ∧ ps.length ≤ 1048576)) := by
  unfold m_laws_szPointS
  rw [wr_in (x := 1048576 - (ps.length : Int)) (by omega)]
  by_cases h : (1048576 : Int) - ps.length < 0
  · rw [bif_t (by simpa using h)]; exact ⟨-1, rfl, Or.inl (by omega)⟩
  · rw [bif_f (by simpa using h)]; exact ⟨_, rfl, Or.inr ⟨h, by omega⟩⟩
/-! ### Marks -/
theorem geti_set {α : Type} {l : List α} {i : Nat} {x : α} (h : i < l.length) : geti (l.set i x) (i : Int) = some x := by
  rw [geti_nat, List.getElem?_set_self h]
def seqP (k : Int) (n : Nat) : List Pt := (List.range n).map fun (j : Nat) => (k + 2 * (j : Int), k + 2 * (j : Int) + 1)
theorem seqP_len (k : Int) (n : Nat) : (seqP k n).length = n := by simp [seqP]
theorem seqP_at {k : Int} {n i : Nat} (h : i < (seqP k n).length) : (seqP k n)[i] = (k + 2 * (i : Int), k + 2 * (i : Int) + 1) := by simp [seqP]
theorem markPS_eq (l : List Pt) (k : Int) (h0 : 0 ≤ k) (hb : k + 2 * l.length ≤ 4611686018427387904) : m_laws_markPointS l k = some (k + 2 * l.length, seqP k l.length) := by
  unfold m_laws_markPointS
  have hl : loopM m_laws_markPointS_s1 (k, 0, l) = some (k + 2 * l.length, seqP k l.length) := by
    refine loopM_val _ l.length (fun i s => s.1 = k + 2 * i ∧ s.2.1 = (i : Int) ∧ Laid (seqP k l.length) s.2.2 i) ⟨by simp, rfl, Laid.zero _ _ (by rw [seqP_len])⟩ ?_ ?_
    · rintro i ⟨x, y, acc⟩ hi ⟨hx, hy, hL⟩
      simp only at hx hy hL
      subst hx; subst hy
      have hal : acc.length = l.length := by rw [hL.1, seqP_len]
      unfold m_laws_markPointS_s1
      simp only []
      rw [bif_t (by simp; omega), geti_lt (l := acc) (by omega)]
      simp only [bind_some', Int.toNat_natCast]
      rw [geti_set (by omega)]
      simp only [bind_some', List.set_set]
      left
      refine ⟨_, rfl, by simp only []; rw [wr_in (x := k + 2 * (i : Int) + 1) (by omega), wr_in (by omega)]; omega, by simp only []; rw [wr_in (by omega)]; omega, ?_⟩
      have := hL.succ (by rw [seqP_len]; exact hi)
      rw [seqP_at] at this
      rw [wr_in (x := k + 2 * (i : Int) + 1) (by omega)]
      exact this
    · rintro ⟨x, y, acc⟩ ⟨hx, hy, hL⟩
      simp only at hx hy hL
      subst hx; subst hy
      have hal : acc.length = l.length := by rw [hL.1, seqP_len]
      have hall : acc = seqP k l.length := by have h2 := hL; rw [show l.length = (seqP k l.length).length by rw [seqP_len]] at h2; rw [seqP_len] at h2; exact Laid.all (by rwa [seqP_len])
      unfold m_laws_markPointS_s1
      simp only []
      rw [bif_f (by simp; omega), hall]
  rw [hl]; rfl
theorem heldPS_eq (n : Nat) (k : Int) (h0 : 0 ≤ k) (hb : k + 2 * n ≤ 4611686018427387904) : m_laws_heldPointS (seqP k n) k = some (k + 2 * n) := by
  unfold m_laws_heldPointS
  have hl : loopM (m_laws_heldPointS_s1 (seqP k n)) (k, 0) = some (Sum.inl (k + 2 * n)) := by
    refine loopM_val _ n (fun i s => s = (k + 2 * i, (i : Int))) (by simp) ?_ ?_
    · rintro i _ hi rfl
      unfold m_laws_heldPointS_s1
      simp only []
      rw [bif_t (by rw [seqP_len]; simpa using hi), geti_lt (by rw [seqP_len]; exact hi), seqP_at]
      simp only [bind_some']
      rw [wr_in (x := k + 2 * (i : Int) + 1) (by omega), bif_f (by simp), bif_f (by simp)]
      left
      refine ⟨_, rfl, ?_⟩
      rw [wr_in (by omega), wr_in (by omega)]
      simp only [Prod.mk.injEq]; omega
    · rintro _ rfl
      unfold m_laws_heldPointS_s1
      simp only []
      rw [bif_f (by rw [seqP_len]; simp)]
  rw [hl]; rfl
end Go.Proofs.Ytgaecldkiijmpaa
