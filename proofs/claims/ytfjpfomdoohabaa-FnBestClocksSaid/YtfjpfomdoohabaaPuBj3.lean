/- BestJoins: the reference's walk through all joins, and the law. -/
import Derived.Test.YtfjpfomdoohabaaPuBj2
set_option linter.unusedSimpArgs false
set_option linter.unusedVariables false
set_option linter.unusedSectionVars false
namespace Go.Proofs.Ytfjpfomdoohabaa
open Go.RowKit

theorem sum_b : ∀ {l : List Int}, (∀ x ∈ l, 0 ≤ x) → ∀ k, 0 ≤ (l.take k).sum ∧ (l.take k).sum ≤ l.sum
  | [], _, k => by simp
  | a :: l, h, 0 => by
    have h1 := h a (by simp)
    have h2 := sum_b (l := l) (fun x hx => h x (by simp [hx])) l.length
    rw [List.take_length] at h2
    simp; omega
  | a :: l, h, k + 1 => by
    have h1 := h a (by simp)
    have h2 := sum_b (l := l) (fun x hx => h x (by simp [hx])) k
    simp only [List.take_succ_cons, List.sum_cons]; omega
theorem sum_take {l : List Int} {k : Nat} (h : k < l.length) : (l.take (k + 1)).sum = (l.take k).sum + l[k] := by
  rw [List.take_succ_eq_append_getElem h, List.sum_append]; simp
theorem specSum_eq {l : List Int} (h : ∀ x ∈ l, 0 ≤ x) (hs : l.sum ≤ 1000000000000) (hb : l.length ≤ 1000000) : m_spec_l06Sum l = some l.sum := by
  unfold m_spec_l06Sum
  have hl : loopM (m_spec_l06Sum_s1 l) (0, 0) = some l.sum := by
    refine loopM_val _ l.length (fun k s => s = ((l.take k).sum, (k : Int))) (by simp) ?_ ?_
    · rintro k _ hk rfl
      left
      unfold m_spec_l06Sum_s1
      simp only []
      rw [bif_t (by simpa using hk), geti_lt hk]
      have h1 := sum_b h (k + 1)
      rw [sum_take hk] at h1
      refine ⟨_, rfl, ?_⟩
      rw [wr_in (by omega), wr_in (by omega), sum_take hk]; rfl
    · rintro _ rfl
      unfold m_spec_l06Sum_s1
      simp only []
      rw [bif_f (by simp), List.take_length]
  rw [hl]; rfl
section
variable {ps : List Pt} (hp : okPs ps = true) (h12 : ps.length ≤ 5)
include hp h12
theorem spec_rest {J : JL} {fr : List Int} (h : BjI ps J fr) {i k : Nat} (hik : i < k) (hk : k < fr.length) :
    loopM (m_spec_l06Best_s22 fr (i : Int) (k : Int)) (([] : List Int), 0) = some (fr.filter fun x => !del (gI fr i) (gI fr k) x) := by
  have hJ := h.len
  have inj : ∀ j, j < fr.length → ∀ m, m < fr.length → (gI fr j = gI fr m ↔ j = m) := fun j hj m hm => by
    rw [gI_at hj, gI_at hm]
    constructor
    · intro e
      rcases Nat.lt_trichotomy j m with c | c | c
      · have := List.pairwise_iff_getElem.1 h.srt j m hj hm c; omega
      · exact c
      · have := List.pairwise_iff_getElem.1 h.srt m j hm hj c; omega
    · intro e; subst e; rfl
  refine loopM_val _ fr.length (fun j s => s = ((fr.take j).filter (fun x => !del (gI fr i) (gI fr k) x), (j : Int))) (by simp) ?_ ?_
  · rintro j _ hj rfl
    left
    unfold m_spec_l06Best_s22
    simp only []
    rw [bif_t (by simpa using hj), geti_gI hj]
    have hfl := List.length_filter_le (fun x => !del (gI fr i) (gI fr k) x) (fr.take j)
    rw [List.length_take] at hfl
    simp only [bind_some']
    rw [apC_ok (by unfold lim; simp; omega)]
    simp only [bind_some']
    refine ⟨((fr.take (j + 1)).filter (fun x => !del (gI fr i) (gI fr k) x), ((j + 1 : Nat) : Int)), ?_, rfl⟩
    rw [filter_take hj, wr_in (by omega)]
    have ei := inj j hj i (by omega)
    have ek := inj j hj k hk
    rw [gI_at hj] at ei ek ⊢
    unfold del
    by_cases c1 : j = i
    · have : (fr[j] == gI fr i) = true := by simpa using ei.2 c1
      rw [bif_f (by simp [c1])]
      simp [this]
    · have t1 : (fr[j] == gI fr i) = false := by simpa using fun e => c1 (ei.1 e)
      by_cases c2 : j = k
      · have t2 : (fr[j] == gI fr k) = true := by simpa using ek.2 c2
        rw [bif_t (by simp; omega), bif_f (by simp [c2])]
        simp [t1, t2]
      · have t2 : (fr[j] == gI fr k) = false := by simpa using fun e => c2 (ek.1 e)
        rw [bif_t (by simp; omega), bif_t (by simp; omega)]
        simp [t1, t2]
  · rintro _ rfl
    unfold m_spec_l06Best_s22
    simp only []
    rw [bif_f (by simp), List.take_length]
theorem mn_some {n : Nat} {J : JL} {fr : List Int} (h : BjI ps J fr) (hl : fr.length = n + 1) : ∃ q, mnO (wsum ps) (lv ps.length n J fr) = some q ∧ 0 ≤ q.2 := by
  have hne := lv_ne hp h12 n J fr h hl
  cases hm : mnO (wsum ps) (lv ps.length n J fr) with
  | none =>
    exfalso
    cases hL : lv ps.length n J fr with
    | nil => exact hne hL
    | cons b L =>
      rw [hL] at hm
      have e2 : mnO (wsum ps) (b :: L) = combO (some (b, wsum ps b)) (mnO (wsum ps) L) := by
        show L.foldl (stepO (wsum ps)) (some (b, wsum ps b)) = _
        rw [foldO]
      rw [e2] at hm
      cases h3 : mnO (wsum ps) L with
      | none => rw [h3] at hm; cases hm
      | some q => rw [h3] at hm; simp only [combO] at hm; split at hm <;> cases hm
  | some q =>
    obtain ⟨x, v⟩ := q
    obtain ⟨h1, rfl, _⟩ := mnO_least _ hm
    obtain ⟨y, hy⟩ := all_bj hp h12 n J fr h hl x h1
    exact ⟨_, rfl, (wsum_b h12 hy).1⟩
theorem spec_best : ∀ (n : Nat) (J : JL) (fr : List Int) (fuel : Nat), n < fuel → BjI ps J fr → fr.length = n + 1 → m_spec_l06Best fuel ps J fr = some (rpS (mnO (wsum ps) (lv ps.length n J fr))) := by
  intro n
  induction n with
  | zero =>
    intro J fr fuel hf h hl
    obtain ⟨fuel, rfl⟩ : ∃ k, fuel = k + 1 := ⟨fuel - 1, by omega⟩
    show m_spec_l06Best_body (m_spec_l06Best fuel) ps J fr = _
    unfold m_spec_l06Best_body
    have hJ := h.len
    have hw := WS_len ps J J.length
    have hsm := h.sm
    rw [bif_t (by rw [hl]; rfl), specTreeP_eq hp (by have := h.isP.1; omega) (by omega) h.isP]
    simp only [bind_some']
    rw [specSum_eq h.nn (by unfold wsum at hsm; omega) (by omega)]
    rfl
  | succ n ih =>
    intro J fr fuel hf h hl
    obtain ⟨fuel, rfl⟩ : ∃ k, fuel = k + 1 := ⟨fuel - 1, by omega⟩
    have hJ := h.len
    have cmb : ∀ (s : Option (JL × Int)) (q : JL × Int), (∀ r, s = some r → 0 ≤ r.2) → 0 ≤ q.2 → (bif decide ((rpS s).2 < 0) then some q else (bif decide (q.2 < (rpS s).2) then some q else some ((rpS s).1, (rpS s).2))) = some (rpS (combO s (some q))) := fun s q hs hq => by
      cases s with
      | none => rw [bif_t (by rfl)]; rfl
      | some r =>
        have hr := hs r rfl
        rw [bif_f (decide_eq_false (show ¬ (rpS (some r)).2 < 0 from fun hh => by have h3 : r.2 < 0 := hh; omega))]
        show _ = some (rpS (if q.2 < r.2 then some q else some r))
        by_cases c : q.2 < r.2
        · rw [bif_t (decide_eq_true (show q.2 < (rpS (some r)).2 from c)), if_pos c]; rfl
        · rw [bif_f (decide_eq_false (show ¬ q.2 < (rpS (some r)).2 from c)), if_neg c]
    have nn : ∀ (L : List JL), (∀ x ∈ L, ∃ ab, ab ∈ prs fr ∧ x ∈ lv ps.length n (J ++ [[ab.1, ab.2]]) (nxt ps.length J fr ab)) → ∀ r, mnO (wsum ps) L = some r → 0 ≤ r.2 := fun L hL r hr => by
      obtain ⟨x, v⟩ := r
      obtain ⟨h1, rfl, _⟩ := mnO_least _ hr
      obtain ⟨ab, hab, hx⟩ := hL x h1
      obtain ⟨y, hy⟩ := all_bj hp h12 n _ _ (h.next hp h12 hab) (nxt_len hp h12 h hl hab) x hx
      exact (wsum_b h12 hy).1
    have rowIn : ∀ i m, ∀ x ∈ rowL ps.length n J fr i m, i < fr.length → ∃ ab, ab ∈ prs fr ∧ x ∈ lv ps.length n (J ++ [[ab.1, ab.2]]) (nxt ps.length J fr ab) := fun i m x hx hi => by
      obtain ⟨b, hb, hx⟩ := List.mem_flatMap.1 hx
      obtain ⟨j, hj, rfl⟩ := List.mem_drop_iff_getElem.1 (List.mem_of_mem_take hb)
      refine ⟨(gI fr i, fr[i + 1 + j]), ?_, hx⟩
      have := gI_prs h (i := i) (k := i + 1 + j) (by omega) (by omega)
      rwa [gI_at (k := i + 1 + j) (by omega)] at this
    have rowsIn : ∀ i, i ≤ fr.length → ∀ x ∈ rowsL ps.length n J fr i, ∃ ab, ab ∈ prs fr ∧ x ∈ lv ps.length n (J ++ [[ab.1, ab.2]]) (nxt ps.length J fr ab) := fun i hi x hx => by
      obtain ⟨j, hj, hx⟩ := List.mem_flatMap.1 hx
      rw [List.mem_range] at hj
      exact rowIn j _ x hx (by omega)
    have inner : ∀ i, i < fr.length → loopM (m_spec_l06Best_s20 (m_spec_l06Best fuel) ps J fr (i : Int)) ((rpS (mnO (wsum ps) (rowsL ps.length n J fr i))).1, (rpS (mnO (wsum ps) (rowsL ps.length n J fr i))).2, (i : Int) + 1) =
        some (rpS (mnO (wsum ps) (rowsL ps.length n J fr (i + 1)))) := by
      intro i hi
      refine loopM_val _ (fr.length - (i + 1)) (fun k s => s = ((rpS (mnO (wsum ps) (rowsL ps.length n J fr i ++ rowL ps.length n J fr i k))).1, (rpS (mnO (wsum ps) (rowsL ps.length n J fr i ++ rowL ps.length n J fr i k))).2, ((i + 1 + k : Nat) : Int))) (by simp [rowL]) ?_ ?_
      · rintro k _ hk rfl
        left
        have hk2 : i + 1 + k < fr.length := by omega
        have hab := gI_prs h (i := i) (k := i + 1 + k) (by omega) hk2
        have hnl := nxt_len hp h12 h hl hab
        have hnx := h.next hp h12 hab
        have hrs := rowL_succ ps.length n J fr hk2
        have hfi := List.length_filter_le (fun x => !del (gI fr i) (gI fr (i + 1 + k)) x) fr
        have hrest := spec_rest hp h12 h (i := i) (k := i + 1 + k) (by omega) hk2
        obtain ⟨q, hq, hq0⟩ := mn_some hp h12 hnx hnl
        have hih := ih (J ++ [[gI fr i, gI fr (i + 1 + k)]]) (nxt ps.length J fr (gI fr i, gI fr (i + 1 + k))) fuel (by omega) hnx hnl
        unfold m_spec_l06Best_s20
        simp only []
        rw [bif_t (by simp only [decide_eq_true_eq]; omega), hrest]
        simp only [bind_some']
        rw [wr_in (x := (ps.length : Int) + (J.length : Int)) (by omega), apC_ok (by unfold lim; simp; omega), geti_gI (k := i) hi, geti_gI hk2]
        simp only [bind_some']
        rw [apC_ok (by unfold lim; simp; omega), apC_ok (by unfold lim; simp; omega)]
        simp only [bind_some', List.nil_append]
        have efr : fr.filter (fun x => !del (gI fr i) (gI fr (i + 1 + k)) x) ++ [(ps.length : Int) + (J.length : Int)] = nxt ps.length J fr (gI fr i, gI fr (i + 1 + k)) := by
          unfold nxt; simp
        rw [efr, hih, hq]
        simp only [bind_some']
        have hc := cmb (mnO (wsum ps) (rowsL ps.length n J fr i ++ rowL ps.length n J fr i k)) q (nn _ (fun x hx => by
          rcases List.mem_append.1 hx with hx | hx
          · exact rowsIn i (by omega) x hx
          · exact rowIn i k x hx hi)) hq0
        show ∃ s', Option.bind (bif decide ((rpS (mnO (wsum ps) (rowsL ps.length n J fr i ++ rowL ps.length n J fr i k))).2 < 0) then some (q.1, q.2) else (bif decide (q.2 < (rpS (mnO (wsum ps) (rowsL ps.length n J fr i ++ rowL ps.length n J fr i k))).2) then some (q.1, q.2) else some ((rpS (mnO (wsum ps) (rowsL ps.length n J fr i ++ rowL ps.length n J fr i k))).1, (rpS (mnO (wsum ps) (rowsL ps.length n J fr i ++ rowL ps.length n J fr i k))).2))) _ = _ ∧ _
        rw [hc]
        simp only [bind_some']
        refine ⟨_, rfl, ?_⟩
        have eL := mnO_append (wsum ps) (rowsL ps.length n J fr i ++ rowL ps.length n J fr i k) (lv ps.length n (J ++ [[gI fr i, gI fr (i + 1 + k)]]) (nxt ps.length J fr (gI fr i, gI fr (i + 1 + k))))
        rw [hq] at eL
        rw [hrs, ← List.append_assoc, eL, wr_in (by omega)]
        rfl
      · rintro _ rfl
        unfold m_spec_l06Best_s20
        simp only []
        rw [bif_f (by simp; omega)]
        have hrs : rowsL ps.length n J fr (i + 1) = rowsL ps.length n J fr i ++ rowL ps.length n J fr i (fr.length - (i + 1)) := by unfold rowsL; rw [range_flat]
        rw [hrs]
    show m_spec_l06Best_body (m_spec_l06Best fuel) ps J fr = _
    unfold m_spec_l06Best_body
    rw [bif_f (by rw [hl]; simp; omega)]
    have outer : loopM (m_spec_l06Best_s15 (m_spec_l06Best fuel) ps J fr) (([] : JL), -1, 0) = some (rpS (mnO (wsum ps) (rowsL ps.length n J fr fr.length))) := by
      refine loopM_val _ fr.length (fun k s => s = ((rpS (mnO (wsum ps) (rowsL ps.length n J fr k))).1, (rpS (mnO (wsum ps) (rowsL ps.length n J fr k))).2, (k : Int))) (by simp [rowsL, mnO, rpS]) ?_ ?_
      · rintro k _ hk rfl
        left
        unfold m_spec_l06Best_s15
        simp only []
        rw [bif_t (by simpa using hk), wr_in (by omega), inner k hk]
        simp only [bind_some']
        exact ⟨_, rfl, by simp⟩
      · rintro _ rfl
        unfold m_spec_l06Best_s15
        simp only []
        rw [bif_f (by simp)]
    rw [outer, ← lv_rows]
    rfl
end
/-- What both programs answer. -/
def bjV (ps : List Pt) : JL × Int := rpS (mnO (wsum ps) (lv ps.length (ps.length - 1) [] ((List.range ps.length).map fun (i : Nat) => (i : Int))))
section
variable {ps : List Pt} (hp : okPs ps = true) (h2 : 2 ≤ ps.length) (h12 : ps.length ≤ 5)
include hp h2 h12
theorem bj0 : BjI ps [] ((List.range ps.length).map fun (i : Nat) => (i : Int)) := by
  refine ⟨⟨⟨by omega, by omega⟩, by simp; omega, fun k hk => by simp at hk⟩, ?_, fun x hx => ?_, by simp, fun x hx => ?_, fun x hx => ?_, ?_⟩
  · rw [List.pairwise_map]
    exact List.pairwise_lt_range.imp (fun {a b} h => by omega)
  · obtain ⟨i, hi, rfl⟩ := List.mem_map.1 hx
    rw [List.mem_range] at hi
    simp; omega
  · obtain ⟨i, hi, rfl⟩ := List.mem_map.1 hx
    rw [List.mem_range] at hi
    show (List.replicate ps.length (0 : Int)).getD _ 0 = 0
    simp [List.getD, hi]
  · have : x ∈ List.replicate ps.length (0 : Int) := hx
    rw [List.mem_replicate] at this; omega
  · show (List.replicate ps.length (0 : Int)).sum ≤ _
    simp
theorem bj_q : ∃ q, mnO (wsum ps) (lv ps.length (ps.length - 1) [] ((List.range ps.length).map fun (i : Nat) => (i : Int))) = some q ∧ 0 ≤ q.2 ∧ bjV ps = q := by
  obtain ⟨q, h, h0⟩ := mn_some hp h12 (n := ps.length - 1) (bj0 hp h2 h12) (by simp; omega)
  exact ⟨q, h, h0, by unfold bjV; rw [h]; rfl⟩
theorem specBJ_in : m_spec_BestJoins ps = some ((bjV ps).1, (bjV ps).2, true) := by
  unfold m_spec_BestJoins
  rw [l06Pins_eq ps (by omega)]
  simp only [bind_some']
  rw [bif_f (by simp [hp, h2, show ps.length ≤ 12 by omega]), bif_f (by simp; omega)]
  have hl : loopM (m_spec_BestJoins_s1 ps) (([] : List Int), 0) = some ((List.range ps.length).map fun (i : Nat) => (i : Int)) := by
    refine loopM_val _ ps.length (fun k s => s = ((List.range k).map (fun (i : Nat) => (i : Int)), (k : Int))) (by simp) ?_ ?_
    · rintro k _ hk rfl
      left
      unfold m_spec_BestJoins_s1
      simp only []
      rw [bif_t (by simpa using hk), apC_ok (by unfold lim; simp; omega)]
      simp only [bind_some']
      exact ⟨_, rfl, by rw [wr_in (by omega), List.range_succ, List.map_append]; rfl⟩
    · rintro _ rfl
      unfold m_spec_BestJoins_s1
      simp only []
      rw [bif_f (by simp)]
  rw [hl]
  simp only [bind_some']
  rw [spec_best hp h12 (ps.length - 1) [] _ 64 (by omega) (bj0 hp h2 h12) (by simp; omega)]
  rfl
theorem implBJ_in : m_impl_BestJoins ps = some ((bjV ps).1, (bjV ps).2, true) := by
  unfold m_impl_BestJoins
  rw [clockPins_eq ps (by omega)]
  simp only [bind_some']
  rw [bif_f (by simp [hp, h2, show ps.length ≤ 12 by omega]), bif_f (by simp; omega)]
  have hl : loopM (m_impl_BestJoins_s1 ps) (([] : List Int), 0, ([] : List Mg)) = some ((List.range ps.length).map (fun (i : Nat) => (i : Int)), ps.map leafV) := by
    refine loopM_val _ ps.length (fun k s => s = ((List.range k).map (fun (i : Nat) => (i : Int)), (k : Int), (ps.take k).map leafV)) (by simp) ?_ ?_
    · rintro k _ hk rfl
      left
      unfold m_impl_BestJoins_s1
      simp only []
      rw [bif_t (by simpa using hk), geti_lt hk]
      simp only [bind_some', implLeaf_eq (okPs_at hp hk)]
      rw [apC_ok (by unfold lim; simp; omega), apC_ok (by unfold lim; simp; omega)]
      simp only [bind_some']
      exact ⟨_, rfl, by rw [wr_in (by omega), List.range_succ, List.map_append, take_map_succ hk]; rfl⟩
    · rintro _ rfl
      unfold m_impl_BestJoins_s1
      simp only []
      rw [bif_f (by simp), List.take_length]
  rw [hl]
  simp only [bind_some']
  obtain ⟨b1, z1, l1, e, hR⟩ := impl_choose hp h12 (ps.length - 1) [] _ 64 (by omega) (bj0 hp h2 h12) (by simp; omega) h2 none [] true 0 rfl
  have ew : wsum ps [] = 0 := by show (List.replicate ps.length (0 : Int)).sum = 0; simp
  rw [ew] at e
  have e' : m_impl_chooser_choose_bimplchooser 64 (ps.map leafV) ([] : JL) ([] : JL) true 0 ((List.range ps.length).map fun (i : Nat) => (i : Int)) 0 = some (l1, TM ps [] ([] : JL).length, [], b1, z1) := e
  rw [e']
  obtain ⟨q, hq, _, hv⟩ := bj_q hp h2 h12
  have hR2 : Rp (mnO (wsum ps) (lv ps.length (ps.length - 1) [] ((List.range ps.length).map fun (i : Nat) => (i : Int)))) b1 z1 l1 := hR
  rw [hq] at hR2
  obtain ⟨rfl, rfl, rfl⟩ := hR2
  rw [hv]; rfl
theorem bjV_small : (bjV ps).1.length ≤ 100 ∧ ∀ r ∈ (bjV ps).1, r.length ≤ 1048576 := by
  obtain ⟨q, hq, _, hv⟩ := bj_q hp h2 h12
  rw [hv]
  obtain ⟨x, v⟩ := q
  obtain ⟨h1, _, _⟩ := mnO_least _ hq
  obtain ⟨y, hy⟩ := all_bj hp h12 (ps.length - 1) [] _ (bj0 hp h2 h12) (by simp; omega) x h1
  have hl := hy.len
  refine ⟨by simp only; omega, fun r hr => ?_⟩
  obtain ⟨k, hk, rfl⟩ := List.mem_iff_getElem.1 hr
  obtain ⟨a, b, g1, _⟩ := hy.isP.2.2 k hk
  rw [List.getElem?_eq_getElem hk] at g1
  simp only [Option.some.injEq] at g1
  rw [g1]; simp
end
def bestV (ps : List Pt) : JL × Int × Bool := if decide (2 ≤ ps.length) && decide (ps.length ≤ 5) && okPs ps then ((bjV ps).1, (bjV ps).2, true) else ([], 0, false)
theorem best_both (ps : List Pt) (hb : ps.length ≤ 1048576) : m_spec_BestJoins ps = some (bestV ps) ∧ m_impl_BestJoins ps = some (bestV ps) ∧ (bestV ps).1.length ≤ 100 ∧ ∀ r ∈ (bestV ps).1, r.length ≤ 1048576 := by
  unfold bestV
  by_cases h : 2 ≤ ps.length ∧ ps.length ≤ 5 ∧ okPs ps = true
  · obtain ⟨h2, h12, hp⟩ := h
    rw [if_pos (by simp [h2, h12, hp])]
    exact ⟨specBJ_in hp h2 h12, implBJ_in hp h2 h12, bjV_small hp h2 h12⟩
  · have hf : ¬ (decide (2 ≤ ps.length) && decide (ps.length ≤ 5) && okPs ps) = true := by
      intro c; simp only [Bool.and_eq_true, decide_eq_true_eq] at c; exact h ⟨c.1.1, c.1.2, c.2⟩
    rw [if_neg hf]
    refine ⟨?_, ?_, by simp, by simp⟩
    · unfold m_spec_BestJoins
      rw [l06Pins_eq ps (by omega)]
      simp only [bind_some']
      by_cases c : 2 ≤ ps.length ∧ ps.length ≤ 12 ∧ okPs ps = true
      · rw [bif_f (by simp [c.1, c.2.1, c.2.2]), bif_t (by
          simp only [decide_eq_true_eq]
          rcases Nat.lt_or_ge 5 ps.length with c2 | c2
          · omega
          · exact absurd ⟨c.1, c2, c.2.2⟩ h)]
      · rw [bif_t (by
          rw [Bool.not_eq_true']
          cases hx : (decide (2 ≤ ps.length) && decide (ps.length ≤ 12) && okPs ps) with
          | false => rfl
          | true => simp only [Bool.and_eq_true, decide_eq_true_eq] at hx; exact absurd ⟨hx.1.1, hx.1.2, hx.2⟩ c)]
    · unfold m_impl_BestJoins
      rw [clockPins_eq ps (by omega)]
      simp only [bind_some']
      by_cases c : 2 ≤ ps.length ∧ ps.length ≤ 12 ∧ okPs ps = true
      · rw [bif_f (by simp [c.1, c.2.1, c.2.2]), bif_t (by
          simp only [decide_eq_true_eq]
          rcases Nat.lt_or_ge 5 ps.length with c2 | c2
          · omega
          · exact absurd ⟨c.1, c2, c.2.2⟩ h)]
      · rw [bif_t (by
          rw [Bool.not_eq_true']
          cases hx : (decide (2 ≤ ps.length) && decide (ps.length ≤ 12) && okPs ps) with
          | false => rfl
          | true => simp only [Bool.and_eq_true, decide_eq_true_eq] at hx; exact absurd ⟨hx.1.1, hx.1.2, hx.2⟩ c)]
theorem lawBestJoins_eq (ps : List Pt) (hb : ps.length ≤ 9223372036854775807) : m_laws_FnExactBestJoins ps = some true := by
  unfold m_laws_FnExactBestJoins
  obtain ⟨z, hz, h⟩ := szP_eq ps 1048576 (by omega) hb
  rw [hz, bind_some']
  rcases h with h | ⟨rfl, h⟩
  · rw [bif_t (by simpa using h)]
  rw [bif_f (by simpa using h)]
  obtain ⟨e1, e2, hw, hw2⟩ := best_both ps (by omega)
  have ho := offs_le hw2 (k := 1) (bestV ps).1.length (Nat.le_refl _)
  obtain ⟨mp, hmp, hmp'⟩ := markP_eq ps 1 (by omega) (by omega)
  simp only [toPointS_eq ps (by omega), bind_some', e1, e2, eqPointS_eq ps (by omega), eqInt64SS_eq (bestV ps).1 (by omega) (fun r h => by have := hw2 r h; omega), hmp, markR_eq (bestV ps).1 1 (by omega) (by omega) (by omega) hw2, heldR_eq (bestV ps).1 1 (by omega) (by omega) (by omega) hw2, Bool.not_true, cond_false, beq_self_eq_true, bne_self_eq_false]
  rw [bif_f (by rw [hmp']; simp; omega), bif_f (by simp; omega), bif_f (by simp; omega)]
end Go.Proofs.Ytfjpfomdoohabaa
