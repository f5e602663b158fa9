/- FnLayers: the ring is one, and the law. -/
import Derived.Test.YtngnljnfbfgfeaaPuLy
set_option linter.unusedSimpArgs false
set_option linter.unusedVariables false
set_option linter.unusedSectionVars false
namespace Go.Proofs.Ytngnljnfbfgfeaa
open Go.RowKit

theorem b10Has_eq (l : List Int) (x : Int) (hl : l.length ≤ 1000) : m_laws_b10Has l x = some (decide (x ∈ l)) := by
  unfold m_laws_b10Has
  rw [show ((0 : Int)) = ((0 : Nat) : Int) from rfl, loop_any 0 l.length (fun k => gI l k == x) true (by omega) (by
    intro k _ hk _
    unfold m_laws_b10Has_s1
    simp only []
    rw [bif_t (by simpa using hk), geti_gI hk]
    simp only [bind_some']
    rw [wr_in (by omega)]
    cases gI l k == x <;> rfl) (by
    unfold m_laws_b10Has_s1
    simp only []
    rw [bif_f (by simp)])]
  rw [anyIn_any l (fun y => y == x) _ (fun k hk => by simp only [gI_at hk])]
  by_cases h : x ∈ l
  · rw [decide_eq_true h, if_pos (List.any_eq_true.2 ⟨x, h, by simp⟩)]; rfl
  · rw [decide_eq_false h, if_neg (fun h' => by
      obtain ⟨y, hy, hxy⟩ := List.any_eq_true.1 h'
      rw [beq_iff_eq] at hxy
      exact h (hxy ▸ hy))]; rfl
theorem chn_at {A : Int → Int → Bool} : ∀ (l : List Int) (i : Nat), chn A l → i + 1 < l.length → A (gI l i) (gI l (i + 1)) = true
  | [], i, _, h => by simp at h
  | [_], i, _, h => by simp at h
  | x :: y :: t, 0, h, _ => h.1
  | x :: y :: t, i + 1, h, hl => chn_at (y :: t) i h.2 (by simpa using hl)
theorem ring_at {A : Int → Int → Bool} {N : Nat} {r : List Int} (h : IsRing A N r) {i : Nat} (hi : i < r.length) : A (gI r i) (gI r ((i + 1) % r.length)) = true := by
  have h1 := chn_at (r ++ [r.headD 0]) i h.ch (by simp; omega)
  have e1 : gI (r ++ [r.headD 0]) i = gI r i := by
    unfold gI; rw [List.getD_eq_getElem?_getD, List.getElem?_append_left hi, ← List.getD_eq_getElem?_getD]
  rw [e1] at h1
  by_cases e : i + 1 = r.length
  · have e2 : gI (r ++ [r.headD 0]) (i + 1) = r.headD 0 := by
      unfold gI; rw [List.getD_eq_getElem?_getD, List.getElem?_append_right (by omega), e, Nat.sub_self]; rfl
    rw [e2] at h1
    rw [e, Nat.mod_self, hd_at]
    exact h1
  · have e2 : gI (r ++ [r.headD 0]) (i + 1) = gI r (i + 1) := by
      unfold gI; rw [List.getD_eq_getElem?_getD, List.getElem?_append_left (by omega), ← List.getD_eq_getElem?_getD]
    rw [e2] at h1
    rw [Nat.mod_eq_of_lt (by omega)]
    exact h1
section
variable {n : Int} {c j : List (List Int)} {f : List Int}
def crP (a b : Int) (x : List Int) : Bool := (gI x 0 == a && gI x 1 == b) || (gI x 0 == b && gI x 1 == a)
theorem any_succ {α : Type} (p : α → Bool) {l : List α} {k : Nat} (h : k < l.length) : (l.take (k + 1)).any p = ((l.take k).any p || p l[k]) := by
  rw [List.take_succ_eq_append_getElem h, List.any_append]; simp
theorem ly_s8 (h : validV n c j f = true) (a b : Int) : loopM (m_laws_FnLayers_s8 (n, c, j, f) a b) (false, 0) = some (cr c a b) := by
  have hcl := clen h
  refine loop_run (step := m_laws_FnLayers_s8 (n, c, j, f) a b) c.length (fun k => ((c.take k).any (crP a b), (k : Int))) (r := cr c a b) (fun k hk => ?_) ?_
  · have h2 := (crow h hk).1
    rw [any_succ _ hk, ← gR_at hk]
    unfold m_laws_FnLayers_s8
    simp only []
    rw [bif_t (by simpa using hk), wr_in (x := (k : Int) + 1) (by omega)]
    cases hx : (c.take k).any (crP a b) with
    | true => rfl
    | false =>
      rw [cond_false, geti_gR hk]
      simp only [bind_some']
      rw [show geti (gR c k) 0 = some (gI (gR c k) 0) from geti_gI (k := 0) (by omega), show geti (gR c k) 1 = some (gI (gR c k) 1) from geti_gI (k := 1) (by omega)]
      simp only [bind_some', Bool.false_or]
      unfold crP
      cases gI (gR c k) 0 == a <;> cases gI (gR c k) 1 == b <;> cases gI (gR c k) 0 == b <;> cases gI (gR c k) 1 == a <;> rfl
  · unfold m_laws_FnLayers_s8
    simp only []
    rw [bif_f (by simp), List.take_of_length_le (Nat.le_refl _)]
    rfl
theorem ly_s16 (h : validV n c j f = true) (a b : Int) : loopM (m_laws_FnLayers_s16 (n, c, j, f) a b) (false, 0) = some (cr c a b) := by
  have hcl := clen h
  refine loop_run (step := m_laws_FnLayers_s16 (n, c, j, f) a b) c.length (fun k => ((c.take k).any (crP a b), (k : Int))) (r := cr c a b) (fun k hk => ?_) ?_
  · have h2 := (crow h hk).1
    rw [any_succ _ hk, ← gR_at hk]
    unfold m_laws_FnLayers_s16
    simp only []
    rw [bif_t (by simpa using hk), wr_in (x := (k : Int) + 1) (by omega)]
    cases hx : (c.take k).any (crP a b) with
    | true => rfl
    | false =>
      rw [cond_false, geti_gR hk]
      simp only [bind_some']
      rw [show geti (gR c k) 0 = some (gI (gR c k) 0) from geti_gI (k := 0) (by omega), show geti (gR c k) 1 = some (gI (gR c k) 1) from geti_gI (k := 1) (by omega)]
      simp only [bind_some', Bool.false_or]
      unfold crP
      cases gI (gR c k) 0 == a <;> cases gI (gR c k) 1 == b <;> cases gI (gR c k) 0 == b <;> cases gI (gR c k) 1 == a <;> rfl
  · unfold m_laws_FnLayers_s16
    simp only []
    rw [bif_f (by simp), List.take_of_length_le (Nat.le_refl _)]
    rfl
theorem ring_new {r : List Int} {N : Nat} {A : Int → Int → Bool} (hr : IsRing A N r) {k : Nat} (hk : k < r.length) : ¬ gI r k ∈ r.take k := by
  intro hm
  rw [gI_at hk] at hm
  obtain ⟨m, hm1, hm2⟩ := List.mem_iff_getElem.1 hm
  rw [List.length_take] at hm1
  rw [List.getElem_take] at hm2
  have := (List.getElem_inj hr.nd).1 hm2
  omega
theorem ly_s7 (h : validV n c j f = true) {r : List Int} (hr : IsRing (cr c) n.toNat r) (b : Bool) : loopM (m_laws_FnLayers_s7 (n, c, j, f) (r, b)) 0 = some (.inl ()) := by
  have hn := (validV_t h).1
  have hrl := hr.len
  have hne := List.length_pos_iff.2 hr.ne
  refine loopM_val _ r.length (fun k s => s = (k : Int)) rfl ?_ ?_
  · rintro k _ hk rfl
    left
    unfold m_laws_FnLayers_s7
    simp only []
    have hmod : Int.tmod ((k : Int) + 1) (r.length : Int) = (((k + 1) % r.length : Nat) : Int) := rfl
    have hlt := Nat.mod_lt (k + 1) hne
    rw [bif_t (by simpa using hk), geti_gI hk, nzC_ok (by omega), wr_in (x := (k : Int) + 1) (by omega), hmod]
    simp only [bind_some']
    rw [geti_gI hlt]
    simp only [bind_some']
    rw [ly_s8 h]
    simp only [bind_some']
    rw [ring_at hr hk, Bool.not_true, cond_false, slci_take (by omega)]
    simp only [bind_some']
    rw [← slci_slc (slci_take (l := r) (k := k) (by omega)), b10Has_eq _ _ (by rw [List.length_take]; omega)]
    simp only [bind_some']
    rw [decide_eq_false (ring_new hr hk), cond_false]
    exact ⟨_, rfl, by omega⟩
  · rintro _ rfl
    unfold m_laws_FnLayers_s7
    simp only []
    rw [bif_f (by simp)]
theorem ly_s15 (h : validV n c j f = true) {r : List Int} (hr : IsRing (cr c) n.toNat r) (b : Bool) : loopM (m_laws_FnLayers_s15 (n, c, j, f) (r, b)) 0 = some (.inl ()) := by
  have hn := (validV_t h).1
  have hrl := hr.len
  have hne := List.length_pos_iff.2 hr.ne
  refine loopM_val _ r.length (fun k s => s = (k : Int)) rfl ?_ ?_
  · rintro k _ hk rfl
    left
    unfold m_laws_FnLayers_s15
    simp only []
    have hmod : Int.tmod ((k : Int) + 1) (r.length : Int) = (((k + 1) % r.length : Nat) : Int) := rfl
    have hlt := Nat.mod_lt (k + 1) hne
    rw [bif_t (by simpa using hk), geti_gI hk, nzC_ok (by omega), wr_in (x := (k : Int) + 1) (by omega), hmod]
    simp only [bind_some']
    rw [geti_gI hlt]
    simp only [bind_some']
    rw [ly_s16 h]
    simp only [bind_some']
    rw [ring_at hr hk, Bool.not_true, cond_false, slci_take (by omega)]
    simp only [bind_some']
    rw [← slci_slc (slci_take (l := r) (k := k) (by omega)), b10Has_eq _ _ (by rw [List.length_take]; omega)]
    simp only [bind_some']
    rw [decide_eq_false (ring_new hr hk), cond_false]
    exact ⟨_, rfl, by omega⟩
  · rintro _ rfl
    unfold m_laws_FnLayers_s15
    simp only []
    rw [bif_f (by simp)]
end
theorem lawLayers_eq (l0 l1 : List Int) (h0 : ∀ p ∈ l0, In8 p) : m_laws_FnLayers l0 l1 = some true := by
  unfold m_laws_FnLayers
  have hlong : ∃ b, m_laws_b10Long l0 l1 = some b := by
    unfold m_laws_b10Long
    by_cases h : ((l0.length : Nat) : Int) > 1048576
    · rw [bif_t (by simpa using h)]; exact ⟨_, rfl⟩
    · rw [bif_f (by simpa using h)]; exact ⟨_, rfl⟩
  obtain ⟨b, hb⟩ := hlong
  rw [hb, bind_some']
  cases b with
  | true => rfl
  | false =>
    rw [cond_false]
    obtain ⟨n, c, j, f, e, hv, h8⟩ := b10W_eq h0
    obtain ⟨hn, hf, hc1, hj1, _⟩ := validV_t hv
    have q1 : c.length ≤ 140737488 := by have := clen hv; omega
    have q2 : j.length ≤ 140737488 := by have := (pairsV_len hj1).1; omega
    have q3 : f.length ≤ 140737488 := by omega
    rw [e]
    simp only [bind_some', implFew_eq n c j f q1 q2 q3, implOddR_eq n c j f q1 q2 q3, implCount_eq n c j f q1 q2 q3, implValid_eq n c j f q1 q2 q3, hv]
    unfold fewV odV cntV
    simp only [hv, if_true, Bool.not_true, cond_false]
    cases hbest : bestV n c j f with
    | some x =>
      obtain ⟨b, l, q⟩ := x
      have hP : FndP (cst j) (lev (okL f c) n.toNat) b l q := found_char (cst j) _ _ rfl b l q hbest
      have hmem : b ∈ lev (okL f c) n.toNat := List.mem_of_find?_eq_some hP.fst
      have hno : odF n c = none := odF_none (fun r hr ho => by
        have := lay_even hv ((levp_iff hn.1 c f b).1 hmem) (ring_clw hr)
        omega)
      simp only [cond_true, hno, Option.isSome_none, cond_false]
      rw [ly_s3 hv h8 q1 q2 q3 hP]
      simp only [bind_some']
      rw [bif_f (by rfl), bif_f (by simp [repB])]
      rfl
    | none =>
      have hnil := found_nil (show foundF (cst j) (lev (okL f c) n.toNat) none = none from hbest)
      simp only [cond_false]
      rw [ly_s11 hv h8 q1 q2 q3 hnil]
      simp only [bind_some']
      rw [bif_f (by rfl), bif_f (by simp [repB])]
      cases hod : odF n c with
      | none => rfl
      | some r =>
        obtain ⟨r1, r2, r3⟩ := odF_ring hod
        simp only [Option.isSome_some, Bool.not_true, cond_false, Option.getD_some]
        rw [ly_s15 hv r1]
        simp only [bind_some']
        rw [bif_t (by simp; omega)]
        have : Int.tmod (r.length : Int) 2 = ((r.length % 2 : Nat) : Int) := rfl
        rw [this, r2]
        rfl
end Go.Proofs.Ytngnljnfbfgfeaa
