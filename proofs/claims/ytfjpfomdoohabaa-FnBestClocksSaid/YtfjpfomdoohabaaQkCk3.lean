/- Drawn pins and drawn joins: they are pins and joins. -/
import Derived.Test.YtfjpfomdoohabaaQkJoins
import Derived.Test.YtfjpfomdoohabaaPuSrc
set_option linter.unusedSimpArgs false
set_option linter.unusedVariables false
namespace Go.Proofs.Ytfjpfomdoohabaa
open Go.RowKit

theorem src_pick1 {l : List Int} (hl : ∀ p ∈ l, In8 p) {k s n : Int} (h0 : 0 ≤ k) (h1 : k ≤ 1000) (h2 : 1 ≤ n) (h3 : n ≤ 200) :
    ∃ v k' s', m_spec_l00Src_pick_bspecl00Src l k s n = some (v, k', s') ∧ 0 ≤ v ∧ v < n ∧ k ≤ k' ∧ k' ≤ k + 1 := by
  by_cases e : n = 1
  · subst e
    refine ⟨0, k, s, ?_, by omega, by omega, by omega, by omega⟩
    unfold m_spec_l00Src_pick_bspecl00Src
    rw [bif_t (by simp)]
  · obtain ⟨v, s', e1, e2, e3⟩ := src_pick (s := s) hl h0 h1 (n := n) (by omega) h3
    exact ⟨v, k + 1, s', e1, e2, e3, by omega, by omega⟩
theorem pins_drawn {l : List Int} (hl : ∀ p ∈ l, In8 p) {m : Int} (h1 : 2 ≤ m) (h2 : m ≤ 12) : ∃ ps, m_spec_R8Pins l m = some ps ∧ okPs ps = true ∧ 2 ≤ ps.length ∧ (ps.length : Int) ≤ m := by
  unfold m_spec_R8Pins m_spec_l00From
  simp only [bind_some']
  obtain ⟨v, k', s', e1, e2, e3, e4, e5⟩ := src_pick1 (k := 0) (s := 0) (n := wr (m - 1)) hl (by omega) (by omega) (by rw [wr_in (by omega)]; omega) (by rw [wr_in (by omega)]; omega)
  rw [wr_in (x := m - 1) (by omega)] at e1 e3
  rw [wr_in (x := m - 1) (by omega), e1]
  simp only [bind_some']
  obtain ⟨r, g1, g2, g3⟩ := loopM_count (m_spec_R8Pins_s1 l) (2 + v).toNat (fun j s => s.1.length = j ∧ okPs s.1 = true ∧ s.2.1 = 2 + v - j ∧ 0 ≤ s.2.2.1 ∧ s.2.2.1 ≤ 1 + 2 * j) (fun r => okPs r = true ∧ (r.length : Int) = 2 + v)
    (s0 := (([] : List (Int × Int)), wr (2 + v), k', s')) ⟨rfl, rfl, by rw [wr_in (by omega)]; simp, e4, by simp; omega⟩
    (by
      rintro j ⟨acc, x, k, s⟩ hj ⟨a1, a2, a3, a4, a5⟩
      simp only at a1 a2 a3 a4 a5
      subst a3
      unfold m_spec_R8Pins_s1
      simp only []
      rw [bif_t (by simp; omega)]
      obtain ⟨x1, k1, s1, b1, b2, b3, b4, b5⟩ := src_pick1 (k := k) (s := s) (n := 12) hl (by omega) (by omega) (by omega) (by omega)
      rw [b1]
      simp only [bind_some']
      obtain ⟨y1, k2, s2, c1, c2, c3, c4, c5⟩ := src_pick1 (k := k1) (s := s1) (n := 12) hl (by omega) (by omega) (by omega) (by omega)
      rw [c1]
      simp only [bind_some']
      rw [apC_ok (by unfold lim; simp; omega)]
      left
      refine ⟨_, rfl, by simp [a1], ?_, by simp only []; rw [wr_in (by omega)]; omega, by simp only []; omega, by simp only []; omega⟩
      show (acc ++ [(x1, y1)]).all okP = true
      rw [List.all_append]
      have : okP (x1, y1) = true := by unfold okP; simp; omega
      have a2' : acc.all okP = true := a2
      simp [a2', this])
    (by
      rintro ⟨acc, x, k, s⟩ ⟨a1, a2, a3, a4, a5⟩
      simp only at a1 a2 a3 a4 a5
      subst a3
      unfold m_spec_R8Pins_s1
      simp only []
      rw [bif_f (by simp; omega)]
      exact ⟨acc, rfl, a2, by omega⟩)
  rw [g1]
  exact ⟨r, rfl, g2, by omega, by omega⟩
theorem eraseIdx_snoc {α : Type} {A : List α} {x : α} {j : Nat} (h : j ≠ A.length) : (A ++ [x]).eraseIdx j = A.eraseIdx j ++ [x] := by
  rcases Nat.lt_or_ge j A.length with h1 | h1
  · exact List.eraseIdx_append_of_lt_length h1 [x]
  · rw [List.eraseIdx_of_length_le (by simp; omega), List.eraseIdx_of_length_le h1]
theorem eraseIdx_end {α : Type} {A : List α} {x : α} : (A ++ [x]).eraseIdx A.length = A := by
  rw [List.eraseIdx_append_of_length_le (Nat.le_refl _)]; simp
theorem free_loop {f : List Int} {i k : Nat} (hik : i < k) (hk : k < f.length) (hf : f.length ≤ 100) {y1 y2 : Int × Int × Int} (h1 : y1.1 = i) (h2 : wr (wr (y1.1 + 1) + y2.1) = k) :
    loopM (m_spec_R8Joins_s5 f y1 y2) (([] : List Int), 0) = some ((f.eraseIdx k).eraseIdx i) := by
  refine loopM_val _ f.length (fun t s => s.2 = (t : Int) ∧ s.1 = ((f.take t).eraseIdx k).eraseIdx i) ⟨rfl, by simp⟩ ?_ ?_
  · rintro t ⟨acc, x⟩ ht ⟨hx, ha⟩
    simp only at hx ha
    subst hx
    unfold m_spec_R8Joins_s5
    simp only []
    rw [bif_t (by simpa using ht), h2, h1]
    left
    have et : f.take (t + 1) = f.take t ++ [f[t]] := by rw [List.take_succ_eq_append_getElem ht]
    have lt : (f.take t).length = t := by simp; omega
    have hwt : wr ((t : Int) + 1) = ((t + 1 : Nat) : Int) := by rw [wr_in (by omega)]; rfl
    by_cases c1 : t = i
    · rw [bif_f (by simp [c1])]
      refine ⟨_, rfl, hwt, ?_⟩
      simp only []
      rw [ha, et, eraseIdx_snoc (by omega), List.eraseIdx_of_length_le (l := f.take t) (k := k) (by omega), ← c1]
      have := eraseIdx_end (A := f.take t) (x := f[t])
      rw [lt] at this
      rw [this, List.eraseIdx_of_length_le (by omega)]
    · rw [bif_t (by simp; omega)]
      by_cases c2 : t = k
      · rw [bif_f (by simp [c2])]
        refine ⟨_, rfl, hwt, ?_⟩
        simp only []
        have := eraseIdx_end (A := f.take t) (x := f[t])
        rw [lt] at this
        rw [ha, et, ← c2, this, List.eraseIdx_of_length_le (l := f.take t) (k := t) (by omega)]
      · have hla : acc.length ≤ 100 := by
          rw [ha]
          have a1 := List.length_eraseIdx_le ((f.take t).eraseIdx k) i
          have a2 := List.length_eraseIdx_le (f.take t) k
          omega
        rw [bif_t (by simp; omega), geti_lt ht]
        simp only [bind_some']
        rw [apC_ok (by unfold lim; simp; omega)]
        refine ⟨_, rfl, hwt, ?_⟩
        simp only []
        have l2 : ((f.take t).eraseIdx k).length = if k < t then t - 1 else t := by rw [List.length_eraseIdx, lt]
        rw [ha, et, eraseIdx_snoc (by omega), eraseIdx_snoc (by rw [l2]; split <;> omega)]
  · rintro ⟨acc, x⟩ ⟨hx, ha⟩
    simp only at hx ha
    subst hx
    unfold m_spec_R8Joins_s5
    simp only []
    rw [bif_f (by simp), ha, List.take_length]
/-- What stands of drawn joins after k pairs. -/
structure JI (p : Int) (k : Nat) (out : List (List Int)) (f : List Int) : Prop where
  olen : out.length = k
  flen : (f.length : Int) = p - k
  good : ∀ j, j < k → Gd p out j
  sort : f.Pairwise (· < ·)
  free : ∀ x ∈ f, 0 ≤ x ∧ x < p + k ∧ ¬ Used out k x
theorem used_pre {out : List (List Int)} {r : List Int} {j : Nat} (h : j ≤ out.length) (x : Int) : Used (out ++ [r]) j x ↔ Used out j x := by
  constructor
  · rintro ⟨i, hi, q, h1, h2⟩
    rw [List.getElem?_append_left (by omega)] at h1
    exact ⟨i, hi, q, h1, h2⟩
  · rintro ⟨i, hi, q, h1, h2⟩
    exact ⟨i, hi, q, by rw [List.getElem?_append_left (by omega)]; exact h1, h2⟩
theorem gd_pre {p : Int} {out : List (List Int)} {r : List Int} {j : Nat} (h : j < out.length) (hg : Gd p out j) : Gd p (out ++ [r]) j := by
  obtain ⟨a, b, h1, h2, h3, h4, h5, h6⟩ := hg
  exact ⟨a, b, by rw [List.getElem?_append_left h]; exact h1, h2, h3, h4, fun u => h5 ((used_pre (by omega) a).1 u), fun u => h6 ((used_pre (by omega) b).1 u)⟩
theorem ji_step {p : Int} {k : Nat} {out : List (List Int)} {f : List Int} (h : JI p k out f) {i j : Nat} (hij : i < j) (hj : j < f.length) :
    JI p (k + 1) (out ++ [[f[i], f[j]]]) ((f.eraseIdx j).eraseIdx i ++ [p + k]) := by
  obtain ⟨h1, h2, h3, h4, h5⟩ := h
  have hsub : ((f.eraseIdx j).eraseIdx i).Sublist f := (List.eraseIdx_sublist _ _).trans (List.eraseIdx_sublist _ _)
  have hlt := List.pairwise_iff_getElem.1 h4
  have hi := h5 f[i] (List.getElem_mem (by omega))
  have hjj := h5 f[j] (List.getElem_mem hj)
  have hat : (out ++ [[f[i], f[j]]])[k]? = some [f[i], f[j]] := by rw [List.getElem?_append_right (by omega), h1]; simp
  have hgk : Gd p (out ++ [[f[i], f[j]]]) k := ⟨f[i], f[j], hat, hi.1, hlt i j (by omega) hj hij, hjj.2.1, fun u => hi.2.2 ((used_pre (by omega) _).1 u), fun u => hjj.2.2 ((used_pre (by omega) _).1 u)⟩
  have hg : ∀ t, t < k + 1 → Gd p (out ++ [[f[i], f[j]]]) t := fun t ht => by
    by_cases e : t = k
    · rw [e]; exact hgk
    · exact gd_pre (by omega) (h3 t (by omega))
  have hle : ((f.eraseIdx j).eraseIdx i).length = f.length - 2 := by
    rw [List.length_eraseIdx, List.length_eraseIdx, if_pos hj, if_pos (by omega)]; omega
  refine ⟨by simp [h1], by simp [hle]; omega, hg, ?_, fun x hx => ?_⟩
  · refine List.pairwise_append.2 ⟨h4.sublist hsub, List.pairwise_singleton _ _, fun x hx y hy => ?_⟩
    simp only [List.mem_singleton] at hy
    rw [hy]; exact (h5 x (hsub.subset hx)).2.1
  · rcases List.mem_append.1 hx with hx | hx
    · obtain ⟨b1, b2, b3⟩ := h5 x (hsub.subset hx)
      refine ⟨b1, by omega, fun u => ?_⟩
      obtain ⟨t, ht, hti, rfl⟩ := List.mem_eraseIdx_iff_getElem.1 hx
      rcases (Used.succ hat _).1 u with u | u | u
      · exact b3 ((used_pre (by omega) _).1 u)
      · rw [List.getElem_eraseIdx] at u
        split at u
        · rename_i c
          rcases Nat.lt_or_ge t i with c2 | c2
          · have := hlt t i (by omega) (by omega) c2; omega
          · have := hlt i t (by omega) (by omega) (by omega); omega
        · have hl2 : t < f.length - 1 := by rw [List.length_eraseIdx, if_pos hj] at ht; exact ht
          have := hlt i (t + 1) (by omega) (by omega) (by omega); omega
      · rw [List.getElem_eraseIdx] at u
        split at u
        · rename_i c
          have := hlt t j (by omega) (by omega) c; omega
        · have hl2 : t < f.length - 1 := by rw [List.length_eraseIdx, if_pos hj] at ht; exact ht
          have := hlt j (t + 1) (by omega) (by omega) (by omega); omega
    · simp only [List.mem_singleton] at hx
      subst hx
      refine ⟨by omega, by omega, ?_⟩
      rintro ⟨t, ht, r, hr, hm⟩
      obtain ⟨a, b, c1, c2, c3, c4, _⟩ := hg t ht
      rw [c1] at hr; cases hr
      simp only [List.mem_cons, List.not_mem_nil, or_false] at hm
      omega
theorem joins_drawn {l : List Int} (hl : ∀ p ∈ l, In8 p) {p : Int} (h1 : 2 ≤ p) (h2 : p ≤ 12) : ∃ js, m_spec_R8Joins l p = some js ∧ IsJ p js := by
  unfold m_spec_R8Joins m_spec_l00From
  simp only [bind_some']
  have e1 : loopM (m_spec_R8Joins_s1 p) (([] : List Int), 0) = some ((List.range p.toNat).map fun (j : Nat) => (j : Int)) := by
    refine loopM_val _ p.toNat (fun k s => s.2 = (k : Int) ∧ s.1 = (List.range k).map fun (j : Nat) => (j : Int)) ⟨rfl, rfl⟩ ?_ ?_
    · rintro k ⟨acc, x⟩ hk ⟨hx, ha⟩
      simp only at hx ha
      subst hx
      unfold m_spec_R8Joins_s1
      simp only []
      rw [bif_t (by simp; omega), apC_ok (by unfold lim; rw [ha]; simp; omega)]
      left
      refine ⟨_, rfl, by simp only []; rw [wr_in (by omega)]; rfl, ?_⟩
      simp only []
      rw [ha, List.range_succ, List.map_append]; rfl
    · rintro ⟨acc, x⟩ ⟨hx, ha⟩
      simp only at hx ha
      subst hx
      unfold m_spec_R8Joins_s1
      simp only []
      rw [bif_f (by simp; omega), ha]
  rw [e1]
  simp only [bind_some']
  have hJ0 : JI p 0 [] ((List.range p.toNat).map fun (j : Nat) => (j : Int)) := by
    refine ⟨rfl, by simp; omega, fun j hj => by omega, ?_, fun x hx => ?_⟩
    · rw [List.pairwise_map]
      exact List.pairwise_lt_range.imp fun h => by omega
    · obtain ⟨j, hj, rfl⟩ := List.mem_map.1 hx
      have := List.mem_range.1 hj
      exact ⟨by omega, by omega, fun ⟨t, ht, _⟩ => by omega⟩
  obtain ⟨js, g1, g2⟩ := loopM_count (m_spec_R8Joins_s4 l p) (p.toNat - 1) (fun k s => JI p k s.1 s.2.1 ∧ 0 ≤ s.2.2.1 ∧ s.2.2.1 ≤ 2 * k) (fun r => IsJ p r)
    (s0 := (([] : List (List Int)), (List.range p.toNat).map fun (j : Nat) => (j : Int), 0, 0)) ⟨hJ0, by simp, by simp⟩
    (by
      rintro k ⟨out, f, a, s⟩ hk ⟨hJ, a1, a2⟩
      simp only at hJ a1 a2
      have ol := hJ.olen; have fl := hJ.flen
      unfold m_spec_R8Joins_s4
      simp only []
      rw [bif_t (by simp; omega), wr_in (x := (f.length : Int) - 1) (by omega)]
      obtain ⟨i, k1, s1, b1, b2, b3, b4, b5⟩ := src_pick1 (k := a) (s := s) (n := (f.length : Int) - 1) hl (by omega) (by omega) (by omega) (by omega)
      rw [b1]
      simp only [bind_some']
      rw [wr_in (x := (f.length : Int) - 1 - i) (by omega)]
      obtain ⟨v, k2, s2, c1, c2, c3, c4, c5⟩ := src_pick1 (k := k1) (s := s1) (n := (f.length : Int) - 1 - i) hl (by omega) (by omega) (by omega) (by omega)
      rw [c1]
      simp only [bind_some']
      have hw1 : wr (wr (i + 1) + v) = i + 1 + v := by rw [wr_in (x := i + 1) (by omega), wr_in (by omega)]
      obtain ⟨i', rfl⟩ := Int.eq_ofNat_of_zero_le b2
      obtain ⟨v', rfl⟩ := Int.eq_ofNat_of_zero_le c2
      have hj : i' + 1 + v' < f.length := by omega
      have hkj : ((i' : Int) + 1 + v') = ((i' + 1 + v' : Nat) : Int) := by omega
      rw [free_loop (f := f) (i := i') (k := i' + 1 + v') (by omega) hj (by omega) rfl (by rw [hw1, hkj]), hw1, hkj, geti_lt hj, geti_lt (l := f) (k := i') (by omega), wr_in (x := p + (out.length : Int)) (by omega)]
      have hlen : ((f.eraseIdx (i' + 1 + v')).eraseIdx i').length ≤ 100 := by
        have q1 := List.length_eraseIdx_le (f.eraseIdx (i' + 1 + v')) i'
        have q2 := List.length_eraseIdx_le f (i' + 1 + v')
        omega
      simp only [bind_some']
      rw [apC_ok (by unfold lim; simp; omega)]
      simp only [bind_some']
      rw [apC_ok (by unfold lim; simp; omega)]
      left
      refine ⟨_, rfl, ?_, by simp only []; omega, by simp only []; omega⟩
      simp only []
      rw [ol]
      exact ji_step hJ (by omega) hj)
    (by
      rintro ⟨out, f, a, s⟩ ⟨hJ, a1, a2⟩
      simp only at hJ a1 a2
      have ol := hJ.olen; have fl := hJ.flen
      unfold m_spec_R8Joins_s4
      simp only []
      rw [bif_f (by simp; omega)]
      exact ⟨out, rfl, ⟨h1, h2⟩, by omega, fun k hk => hJ.good k (by omega)⟩)
  rw [g1]
  exact ⟨js, rfl, g2⟩
end Go.Proofs.Ytfjpfomdoohabaa
