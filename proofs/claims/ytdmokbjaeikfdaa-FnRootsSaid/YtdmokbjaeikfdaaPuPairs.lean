/- Pairs in ascending order: the reference puts them in one by one, the program sorts. -/
import Derived.Test.YtdmokbjaeikfdaaPuSpan
import Derived.Test.YtdmokbjaeikfdaaPuRow
import Derived.Test.YtdmokbjaeikfdaaPuCmp
set_option linter.unusedSimpArgs false
set_option linter.unusedVariables false
namespace Go.Proofs.Ytdmokbjaeikfdaa
open Go.RowKit Go.Sort Go.Shelf

theorem Less_eq (a b : List Int) (hb : a.length ≤ 140737488355328) : m_spec_l03Less a b = some (decide (cmpL a b < 0)) := by
  unfold m_spec_l03Less
  obtain ⟨r, hr, hJ⟩ := loopM_count (m_spec_l03Less_s1 a b) a.length (fun k s => s = (k : Int) ∧ k ≤ b.length ∧ cmpL (a.drop k) (b.drop k) = cmpL a b)
    (fun r => r = Sum.inr (decide (cmpL a b < 0)) ∨ (r = Sum.inl () ∧ (a.length < b.length ↔ cmpL a b < 0))) (s0 := 0) ⟨rfl, by omega, rfl⟩ (by
      rintro k _ hk ⟨rfl, hkb, hc⟩
      unfold m_spec_l03Less_s1
      simp only []
      rw [bif_t (by simpa using hk)]
      rw [drop_at hk] at hc
      by_cases h1 : k < b.length
      · rw [bif_t (by simpa using h1), geti_lt hk, geti_lt h1]
        simp only [bind_some']
        rw [drop_at h1, cmpL] at hc
        by_cases h2 : a[k] < b[k]
        · rw [if_pos h2] at hc
          right
          exact ⟨_, bif_t (by simp; omega), Or.inl (by rw [← hc]; simp [h2])⟩
        · rw [if_neg h2] at hc
          by_cases h3 : a[k] > b[k]
          · rw [if_pos h3] at hc
            right
            exact ⟨_, bif_t (by simp; omega), Or.inl (by rw [← hc]; simp [h2])⟩
          · rw [if_neg h3] at hc
            left
            exact ⟨_, bif_f (by simp; omega), by rw [wr_in (by omega)]; rfl, by omega, hc⟩
      · right
        rw [bif_f (by simpa using h1)]
        rw [drop_all (l := b) (by omega)] at hc
        exact ⟨_, rfl, Or.inr ⟨rfl, by rw [← hc]; simp [cmpL]; omega⟩⟩) (by
      rintro _ ⟨rfl, hkb, hc⟩
      unfold m_spec_l03Less_s1
      simp only []
      refine ⟨_, bif_f (by simp), Or.inr ⟨rfl, ?_⟩⟩
      rw [← hc, drop_all (l := a) (Nat.le_refl _)]
      by_cases h : a.length < b.length
      · rw [drop_at h]; simp [cmpL, h]
      · rw [drop_all (l := b) (by omega)]; simp [cmpL, h])
  rw [hr]
  rcases hJ with rfl | ⟨rfl, h⟩
  · rfl
  · simp only [bind_some']
    congr 1
    by_cases h2 : a.length < b.length
    · simp [h2, h.1 h2]
    · have : ¬ cmpL a b < 0 := fun h3 => h2 (h.2 h3)
      simp [h2, this]

theorem sorted_uniq {α : Type} {le : α → α → Prop} (anti : ∀ a b, le a b → le b a → a = b) : ∀ {l m : List α}, l.Perm m → l.Pairwise le → m.Pairwise le → l = m
  | [], m, h, _, _ => (List.nil_perm.1 h).symm
  | a :: l, [], h, _, _ => by have := h.length_eq; simp at this
  | a :: l, b :: m, h, h1, h2 => by
    have e : a = b := by
      rcases List.mem_cons.1 (h.mem_iff.1 (List.mem_cons_self (a := a))) with e | ha
      · exact e
      · rcases List.mem_cons.1 (h.mem_iff.2 (List.mem_cons_self (a := b))) with e | hb
        · exact e.symm
        · exact anti a b ((List.pairwise_cons.1 h1).1 b hb) ((List.pairwise_cons.1 h2).1 a ha)
    subst e
    rw [sorted_uniq anti (List.Perm.cons_inv h) (List.pairwise_cons.1 h1).2 (List.pairwise_cons.1 h2).2]
def LeR (a b : List Int) : Prop := ¬ cmpL b a < 0
theorem LeR_anti (a b : List Int) (h1 : LeR a b) (h2 : LeR b a) : a = b := cmpL_tot a b h2 h1
theorem LeR_trans {a b c : List Int} (h1 : LeR a b) (h2 : LeR b c) : LeR a c := cmpL_ntrans c b a h2 h1
theorem LeR_of_lt {a b : List Int} (h : cmpL a b < 0) : LeR a b := fun h2 => by
  have := cmpL_trans a b a h h2
  rw [cmpL_self] at this; omega
theorem sortRows_sorted (ll : List (List Int)) : (sortRows ll).Pairwise LeR := by
  have h : (sortRows ll).Pairwise (fun x y => lexLe x y = true) := by
    unfold sortRows
    refine List.pairwise_mergeSort (fun a b c h1 h2 => ?_) (fun a b => ?_) ll
    · rw [lexLe_iff] at *; exact LeR_trans h1 h2
    · rw [Bool.or_eq_true, lexLe_iff, lexLe_iff]
      by_cases hc : cmpL b a < 0
      · exact Or.inr (LeR_of_lt hc)
      · exact Or.inl hc
  exact h.imp fun {a b} h => (lexLe_iff a b).1 h
theorem sortRows_perm (ll : List (List Int)) : (sortRows ll).Perm ll := List.mergeSort_perm ll _
section
variable {ll : List (List Int)}
abbrev rwI (ll : List (List Int)) (i : Nat) : List Int := ll.getD i []
theorem rwI_len (hr : ∀ r ∈ ll, r.length ≤ 1000) (i : Nat) : (rwI ll i).length ≤ 1000 := by
  unfold rwI
  by_cases h : i < ll.length
  · have : ll.getD i [] = ll[i] := by simp [List.getD, List.getElem?_eq_getElem h]
    rw [this]; exact hr _ (List.getElem_mem h)
  · have : ll.getD i [] = [] := by simp [List.getD, List.getElem?_eq_none (show ll.length ≤ i by omega)]
    rw [this]; simp
/-- Where row k goes. -/
theorem ins_loop (hr : ∀ r ∈ ll, r.length ≤ 1000) {n k : Nat} (hk : k < n) {out : List Nat} (hb : out.length ≤ 1000) :
    ∃ a : Nat, loopM (m_spec_l05Pairs_ids_s4 (rwI ll) (List.range n) out (k : Int)) 0 = some (a : Int) ∧ a ≤ out.length ∧ (∀ j (h : j < out.length), j < a → cmpL (rwI ll out[j]) (rwI ll k) < 0) ∧ ∀ h : a < out.length, ¬ cmpL (rwI ll out[a]) (rwI ll k) < 0 := by
  have hg : geti (List.range n) (k : Int) = some k := by rw [geti_lt (by simpa using hk)]; simp
  obtain ⟨r, e1, a, rfl, e2, e3, e4⟩ := loopM_count (m_spec_l05Pairs_ids_s4 (rwI ll) (List.range n) out (k : Int)) out.length (fun t s => s = (t : Int) ∧ t ≤ out.length ∧ ∀ j (h : j < out.length), j < t → cmpL (rwI ll out[j]) (rwI ll k) < 0)
    (fun r => ∃ a : Nat, r = (a : Int) ∧ a ≤ out.length ∧ (∀ j (h : j < out.length), j < a → cmpL (rwI ll out[j]) (rwI ll k) < 0) ∧ ∀ h : a < out.length, ¬ cmpL (rwI ll out[a]) (rwI ll k) < 0) (s0 := 0) ⟨rfl, by omega, fun j _ h => by omega⟩
    (by
      rintro t _ ht ⟨rfl, h1, h2⟩
      unfold m_spec_l05Pairs_ids_s4
      simp only []
      rw [bif_t (by simpa using ht), geti_lt ht, hg]
      simp only [bind_some']
      rw [Less_eq _ _ (by have := rwI_len hr out[t]; omega)]
      simp only [bind_some']
      by_cases c : cmpL (rwI ll out[t]) (rwI ll k) < 0
      · left
        refine ⟨_, bif_t (by simpa using c), by rw [wr_in (by omega)]; rfl, by omega, fun j hj hjt => ?_⟩
        by_cases e : j = t
        · subst e; exact c
        · exact h2 j hj (by omega)
      · right
        exact ⟨_, bif_f (by simpa using c), t, rfl, by omega, h2, fun _ => c⟩)
    (by
      rintro _ ⟨rfl, h1, h2⟩
      unfold m_spec_l05Pairs_ids_s4
      simp only []
      exact ⟨_, bif_f (by simp), out.length, rfl, Nat.le_refl _, h2, fun h => absurd h (Nat.lt_irrefl _)⟩)
  exact ⟨a, e1, e2, e3, e4⟩
theorem pairs_ids (hr : ∀ r ∈ ll, r.length ≤ 1000) (hb : ll.length ≤ 1000) : ∃ r, m_spec_l05Pairs_ids (rwI ll) (List.range ll.length) = some r ∧ r.Perm (List.range ll.length) ∧ r.Pairwise fun a b => LeR (rwI ll a) (rwI ll b) := by
  unfold m_spec_l05Pairs_ids
  obtain ⟨r, e1, e2, e3⟩ := loopM_count (m_spec_l05Pairs_ids_s3 (rwI ll) (List.range ll.length)) ll.length (fun k s => s.2 = (k : Int) ∧ s.1.Perm (List.range k) ∧ s.1.Pairwise fun a b => LeR (rwI ll a) (rwI ll b))
    (fun r => r.Perm (List.range ll.length) ∧ r.Pairwise fun a b => LeR (rwI ll a) (rwI ll b)) (s0 := (([] : List Nat), 0)) ⟨rfl, List.Perm.refl _, List.Pairwise.nil⟩
    (by
      rintro k ⟨out, x⟩ hk ⟨hx, hp, hs⟩
      simp only at hx hp hs
      subst hx
      have hol : out.length = k := by rw [hp.length_eq, List.length_range]
      obtain ⟨a, f1, f2, f3, f4⟩ := ins_loop hr hk (out := out) (by omega)
      have hg : geti (List.range ll.length) (k : Int) = some k := by rw [geti_lt (by simpa using hk)]; simp
      have hs1 : slci out (a : Int) (out.length : Int) = some (out.drop a) := by unfold slci; rw [if_pos (by omega)]; simp
      have hsl : slc out (a : Int) (out.length : Int) = out.drop a := by unfold slc; simp
      have hs2 : slci out 0 (a : Int) = some (out.take a) := by unfold slci; rw [if_pos (by omega)]; simp
      left
      unfold m_spec_l05Pairs_ids_s3
      simp only []
      rw [bif_t (by simp; omega), f1]
      simp only [bind_some']
      rw [hs1, hsl, hs2, hg, Int.toNat_natCast]
      simp only [bind_some', List.nil_append]
      rw [apC_ok (by unfold lim; simp; omega)]
      simp only [bind_some']
      rw [apC_ok (by unfold lim; simp; omega)]
      simp only [bind_some']
      rw [apC_ok (by unfold lim; simp; omega)]
      simp only [bind_some']
      refine ⟨_, rfl, by simp only []; rw [wr_in (by omega)]; rfl, ?_, ?_⟩
      · simp only []
        rw [List.range_succ]
        refine List.Perm.trans ?_ (hp.append_right [k])
        rw [List.append_assoc]
        have h1 : (out.take a ++ ([k] ++ out.drop a)).Perm ((out.take a ++ out.drop a) ++ [k]) := by
          rw [List.append_assoc]
          exact List.Perm.append_left _ (List.perm_append_comm)
        rwa [List.take_append_drop] at h1
      · simp only []
        have hst := hs.sublist (List.take_sublist a out)
        have hsd := hs.sublist (List.drop_sublist a out)
        have hcross : ∀ x ∈ out.take a, ∀ y ∈ out.drop a, LeR (rwI ll x) (rwI ll y) := by
          have h := hs
          rw [← List.take_append_drop a out] at h
          exact (List.pairwise_append.1 h).2.2
        have hlow : ∀ x ∈ out.take a, LeR (rwI ll x) (rwI ll k) := fun x hx => by
          obtain ⟨j, hj, rfl⟩ := List.mem_iff_getElem.1 hx
          rw [List.length_take] at hj
          rw [List.getElem_take]
          exact LeR_of_lt (f3 j (by omega) (by omega))
        have hhigh : ∀ y ∈ out.drop a, LeR (rwI ll k) (rwI ll y) := fun y hy => by
          obtain ⟨j, hj, rfl⟩ := List.mem_iff_getElem.1 hy
          rw [List.length_drop] at hj
          have ha : a < out.length := by omega
          rw [List.getElem_drop]
          by_cases e : j = 0
          · subst e; exact f4 ha
          · exact LeR_trans (f4 ha) (List.pairwise_iff_getElem.1 hs a (a + j) ha (by omega) (by omega))
        rw [List.append_assoc]
        refine List.pairwise_append.2 ⟨hst, List.pairwise_append.2 ⟨List.pairwise_singleton _ _, hsd, fun x hx y hy => ?_⟩, fun x hx y hy => ?_⟩
        · simp only [List.mem_singleton] at hx
          rw [hx]; exact hhigh y hy
        · rcases List.mem_append.1 hy with hy | hy
          · simp only [List.mem_singleton] at hy
            rw [hy]; exact hlow x hx
          · exact hcross x hx y hy)
    (by
      rintro ⟨out, x⟩ ⟨hx, hp, hs⟩
      simp only at hx hp hs
      subst hx
      unfold m_spec_l05Pairs_ids_s3
      simp only []
      exact ⟨_, bif_f (by simp), hp, hs⟩)
  rw [e1]
  exact ⟨r, rfl, e2, e3⟩
theorem map_range (ll : List (List Int)) : (List.range ll.length).map (rwI ll) = ll := by
  apply List.ext_getElem?
  intro j
  rw [List.getElem?_map]
  by_cases hj : j < ll.length
  · rw [List.getElem?_range hj, List.getElem?_eq_getElem hj]; simp [rwI, List.getD, List.getElem?_eq_getElem hj]
  · rw [List.getElem?_eq_none (by simpa using hj), List.getElem?_eq_none (by omega)]; rfl
theorem pairs_eq (hr : ∀ r ∈ ll, r.length ≤ 1000) (hb : ll.length ≤ 1000) : m_spec_l05Pairs ll = some (sortRows ll) := by
  unfold m_spec_l05Pairs
  obtain ⟨r, e1, e2, e3⟩ := pairs_ids hr hb
  have e1' : m_spec_l05Pairs_ids (fun i => ll.getD i []) (List.range ll.length) = some r := e1
  rw [e1']
  simp only [bind_some']
  have hc : chk (decide (r.Perm (List.range ll.length))) = some () := by unfold chk; rw [if_pos (decide_eq_true e2)]
  rw [hc]
  simp only [bind_some']
  congr 1
  refine sorted_uniq LeR_anti ?_ ?_ (sortRows_sorted ll)
  · have h1 : (r.map (rwI ll)).Perm ((List.range ll.length).map (rwI ll)) := e2.map _
    rw [map_range] at h1
    exact h1.trans (sortRows_perm ll).symm
  · rw [List.pairwise_map]; exact e3
end
theorem trF_rows {ps : List Pt} : ∀ k, ∀ r ∈ (trF ps k).1, r.length = 2
  | 0 => fun r h => by cases h
  | k + 1 => fun r h => by
    have ih := trF_rows (ps := ps) k
    have e : trF ps (k + 1) = (match outF ps (trF ps k).2.2 ps.length with | none => trF ps k | some (a, b) => ((trF ps k).1 ++ [[(a : Int), (b : Int)]], (trF ps k).2.1 + dist (gP ps a) (gP ps b), ((trF ps k).2.2.set a true).set b true)) := rfl
    rw [e] at h
    cases ho : outF ps (trF ps k).2.2 ps.length with
    | none => rw [ho] at h; exact ih r h
    | some ab =>
      rw [ho] at h
      simp only [List.mem_append, List.mem_singleton] at h
      rcases h with h | h
      · exact ih r h
      · rw [h]; rfl
noncomputable def spanV (ps : List Pt) : List (List Int) × Int × Bool := if pinsB 20 ps then (sortRows (trV ps).1, (trV ps).2, true) else ([], 0, false)
theorem spanV_small (ps : List Pt) : (spanV ps).1.length ≤ 1000 ∧ ∀ r ∈ (spanV ps).1, r.length ≤ 2 := by
  unfold spanV
  cases h : pinsB 20 ps with
  | false => simp
  | true =>
    obtain ⟨q1, q2, q3, q4⟩ := pinsB_t h
    obtain ⟨i1, _⟩ := trF_inv q3 q1 (ps.length - 1) (by omega)
    have hp := sortRows_perm (trV ps).1
    simp only [if_true]
    refine ⟨by rw [hp.length_eq]; unfold trV; simp only []; omega, fun r hr => ?_⟩
    have : r ∈ (trV ps).1 := hp.mem_iff.1 hr
    unfold trV at this
    exact Nat.le_of_eq (trF_rows _ r this)
end Go.Proofs.Ytdmokbjaeikfdaa
