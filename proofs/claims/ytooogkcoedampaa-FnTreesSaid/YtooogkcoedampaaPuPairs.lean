/- Pairs in ascending order: the reference puts them in one by one, the program sorts. -/
import Derived.Test.YtooogkcoedampaaPuSpan
import Derived.Test.YtooogkcoedampaaPuRow
import Derived.Test.YtooogkcoedampaaPuCmp
set_option linter.unusedSimpArgs false
set_option linter.unusedVariables false
namespace Go.Proofs.Ytooogkcoedampaa
open Go.RowKit Go.Sort Go.Shelf

theorem sorted_uniq {α : Type} {le : α → α → Prop} (anti : ∀ a b, le a b → le b a → a = b) : ∀ {l m : List α}, l.Perm m → l.Pairwise le → m.Pairwise le → l = m
  | [], m, h, _, _ => (List.nil_perm.1 h).symm
  | a :: l, [], h, _, _ => by have := h.length_eq; simp at this
  | a :: l, b :: m, h, h1, h2 => by
    have e : a = b := by
      rcases List.mem_cons.1 (h.mem_iff.1 (List.mem_cons_self (a := a))) with e | ha
      · exact e
      · rcases List.mem_cons.1 (h.mem_iff.2 (List.mem_cons_self (a := b))) with e | hb
        · exact e.symm
        · exact anti a b ((List.pairwise_cons.1 h1).1 b hb) ((List.pairwise_cons.1 h2).1 a ha)
    subst e
    rw [sorted_uniq anti (List.Perm.cons_inv h) (List.pairwise_cons.1 h1).2 (List.pairwise_cons.1 h2).2]
def LeR (a b : List Int) : Prop := ¬ cmpL b a < 0
theorem LeR_anti (a b : List Int) (h1 : LeR a b) (h2 : LeR b a) : a = b := cmpL_tot a b h2 h1
theorem LeR_trans {a b c : List Int} (h1 : LeR a b) (h2 : LeR b c) : LeR a c := cmpL_ntrans c b a h2 h1
theorem LeR_of_lt {a b : List Int} (h : cmpL a b < 0) : LeR a b := fun h2 => by
  have := cmpL_trans a b a h h2
  rw [cmpL_self] at this; omega
theorem sortRows_sorted (ll : List (List Int)) : (sortRows ll).Pairwise LeR := by
  have h : (sortRows ll).Pairwise (fun x y => lexLe x y = true) := by
    unfold sortRows
    refine List.pairwise_mergeSort (fun a b c h1 h2 => ?_) (fun a b => ?_) ll
    · rw [lexLe_iff] at *; exact LeR_trans h1 h2
    · rw [Bool.or_eq_true, lexLe_iff, lexLe_iff]
      by_cases hc : cmpL b a < 0
      · exact Or.inr (LeR_of_lt hc)
      · exact Or.inl hc
  exact h.imp fun {a b} h => (lexLe_iff a b).1 h
theorem sortRows_perm (ll : List (List Int)) : (sortRows ll).Perm ll := List.mergeSort_perm ll _
section
variable {ll : List (List Int)}
abbrev rwI (ll : List (List Int)) (i : Nat) : List Int := ll.getD i []
theorem rwI_len (hr : ∀ r ∈ ll, r.length ≤ 1000) (i : Nat) : (rwI ll i).length ≤ 1000 := by
  unfold rwI
  by_cases h : i < ll.length
  · have : ll.getD i [] = ll[i] := by simp [List.getD, List.getElem?_eq_getElem h]
    rw [this]; exact hr _ (List.getElem_mem h)
  · have : ll.getD i [] = [] := by simp [List.getD, List.getElem?_eq_none (show ll.length ≤ i by omega)]
    rw [this]; simp
theorem map_range (ll : List (List Int)) : (List.range ll.length).map (rwI ll) = ll := by
  apply List.ext_getElem?
  intro j
  rw [List.getElem?_map]
  by_cases hj : j < ll.length
  · rw [List.getElem?_range hj, List.getElem?_eq_getElem hj]; simp [rwI, List.getD, List.getElem?_eq_getElem hj]
  · rw [List.getElem?_eq_none (by simpa using hj), List.getElem?_eq_none (by omega)]; rfl
end
theorem trF_rows {ps : List Pt} : ∀ k, ∀ r ∈ (trF ps k).1, r.length = 2
  | 0 => fun r h => by cases h
  | k + 1 => fun r h => by
    have ih := trF_rows (ps := ps) k
    have e : trF ps (k + 1) = (match outF ps (trF ps k).2.2 ps.length with | none => trF ps k | some (a, b) => ((trF ps k).1 ++ [[(a : Int), (b : Int)]], (trF ps k).2.1 + dist (gP ps a) (gP ps b), ((trF ps k).2.2.set a true).set b true)) := rfl
    rw [e] at h
    cases ho : outF ps (trF ps k).2.2 ps.length with
    | none => rw [ho] at h; exact ih r h
    | some ab =>
      rw [ho] at h
      simp only [List.mem_append, List.mem_singleton] at h
      rcases h with h | h
      · exact ih r h
      · rw [h]; rfl
noncomputable def spanV (ps : List Pt) : List (List Int) × Int × Bool := if pinsB 20 ps then (sortRows (trV ps).1, (trV ps).2, true) else ([], 0, false)
theorem spanV_small (ps : List Pt) : (spanV ps).1.length ≤ 1000 ∧ ∀ r ∈ (spanV ps).1, r.length ≤ 2 := by
  unfold spanV
  cases h : pinsB 20 ps with
  | false => simp
  | true =>
    obtain ⟨q1, q2, q3, q4⟩ := pinsB_t h
    obtain ⟨i1, _⟩ := trF_inv q3 q1 (ps.length - 1) (by omega)
    have hp := sortRows_perm (trV ps).1
    simp only [if_true]
    refine ⟨by rw [hp.length_eq]; unfold trV; simp only []; omega, fun r hr => ?_⟩
    have : r ∈ (trV ps).1 := hp.mem_iff.1 hr
    unfold trV at this
    exact Nat.le_of_eq (trF_rows _ r this)
end Go.Proofs.Ytooogkcoedampaa
