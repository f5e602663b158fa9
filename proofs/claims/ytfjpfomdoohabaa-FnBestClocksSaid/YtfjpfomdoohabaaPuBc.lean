/- FnBestClocks: all joins are gone through; so the best ones have no more wires than any. -/
import Derived.Test.YtfjpfomdoohabaaPuBj3
import Derived.Test.YtfjpfomdoohabaaQkCk3
set_option linter.unusedSimpArgs false
set_option linter.unusedVariables false
set_option linter.unusedSectionVars false
namespace Go.Proofs.Ytfjpfomdoohabaa
open Go.RowKit

theorem IsJ.toP {p : Int} {l : JL} (h : IsJ p l) : IsP p l := ⟨h.1, by have := h.2.1; omega, fun k hk => by
  obtain ⟨a, b, h1, h2, h3, h4, _⟩ := h.2.2 k hk
  exact ⟨a, b, h1, h2, h3, h4, trivial⟩⟩
section
variable {ps : List Pt} {l : JL}
theorem WI_eq (hJ : IsJ ps.length l) : ∀ k, k ≤ l.length → WI ps l k = WS ps l k ++ List.replicate (l.length - k) 0 := by
  have hl : (l.length : Int) = ps.length - 1 := hJ.2.1
  intro k
  induction k with
  | zero =>
    intro _
    show List.replicate _ _ = List.replicate _ _ ++ _
    rw [List.replicate_append_replicate]
    congr 1; omega
  | succ k ih =>
    intro hk
    obtain ⟨a, b, hat, ha, hab, hb, _⟩ := hJ.2.2 k hk
    show WIs _ _ (WI ps l k) = (WIs _ _ (WS ps l k) ++ [0]) ++ _
    rw [ih (by omega), getD_row hat]
    have hs := WS_len ps l k
    unfold WIs
    simp only []
    rw [List.set_append_left _ _ (by omega), List.set_append_left _ _ (by rw [List.length_set]; omega), List.append_assoc]
    congr 1
    rw [show l.length - k = (l.length - (k + 1)) + 1 by omega, List.replicate_succ]
    rfl
theorem implT1 (hp : okPs ps = true) (hn : (ps.length : Int) ≤ 12) : loopM (m_impl_tree_s1 ps) (([] : List Mg), 0) = some (ps.map leafV) := by
  refine loopM_val _ ps.length (fun k s => s = ((ps.take k).map leafV, (k : Int))) (by simp) ?_ ?_
  · rintro k _ hk rfl
    unfold m_impl_tree_s1
    simp only []
    rw [bif_t (by simpa using hk), geti_lt hk]
    simp only [bind_some', implLeaf_eq (okPs_at hp hk)]
    rw [apC_ok (by simp [lim]; omega)]
    simp only [bind_some']
    left
    refine ⟨_, rfl, ?_⟩
    rw [wr_in (by omega), take_map_succ hk]
    rfl
  · rintro _ rfl
    unfold m_impl_tree_s1
    simp only []
    rw [bif_f (by simp), List.take_length]
theorem implT2 (hp : okPs ps = true) (hJ : IsJ ps.length l) : loopM (m_impl_tree_s2 l) (ps.map leafV, 0, List.replicate (2 * ps.length - 1) 0) = some (Sum.inl (TM ps l l.length, WI ps l l.length)) := by
  obtain ⟨hn, hl, hG⟩ := id hJ
  refine loopM_val _ l.length (fun k s => s = (TM ps l k, (k : Int), WI ps l k)) rfl ?_ ?_
  · rintro k _ hk rfl
    obtain ⟨a, b, hat, ha, hab, hb, _⟩ := hG k hk
    have hlen := TM_len hJ.toP k (by omega)
    have hws := WI_len ps l k
    obtain ⟨ma, ga⟩ := nodeAt_mem (ms := TM ps l k) (i := a) ha (by omega)
    obtain ⟨mb, gb⟩ := nodeAt_mem (ms := TM ps l k) (i := b) (by omega) (by omega)
    have oa := TM_ok hp hJ.toP k (by omega) _ ma
    have ob := TM_ok hp hJ.toP k (by omega) _ mb
    rw [pow_step (by omega)] at oa ob
    have hgl : geti l (k : Int) = some [a, b] := by rw [geti_nat]; exact hat
    unfold m_impl_tree_s2
    simp only []
    rw [bif_t (by simpa using hk)]
    simp only [hgl, bind_some', geti20, geti21, ga, gb, implMerge_eq oa ob (by omega)]
    rw [bif_f (by rfl), apC_ok (by simp [lim]; omega), geti_in (l := WI ps l k) (a := a) ha (by omega)]
    simp only [bind_some']
    rw [geti_in (a := b) (by omega) (by rw [List.length_set]; omega)]
    simp only [bind_some']
    left
    refine ⟨_, rfl, ?_⟩
    rw [wr_in (by omega)]
    have e1 : TM ps l (k + 1) = TM ps l k ++ [mmrg (nodeAt (TM ps l k) a) (nodeAt (TM ps l k) b)] := by
      show TMs _ _ = _
      rw [getD_row hat]; rfl
    have e2 : WI ps l (k + 1) = ((WI ps l k).set a.toNat (mone (nodeAt (TM ps l k) a) (nodeAt (TM ps l k) b))).set b.toNat (mtwo (nodeAt (TM ps l k) a) (nodeAt (TM ps l k) b)) := by
      show WIs _ _ _ = _
      rw [getD_row hat]; rfl
    rw [e1, e2]
    rfl
  · rintro _ rfl
    unfold m_impl_tree_s2
    simp only []
    rw [bif_f (by simp)]
end
theorem treeJ {ps : List Pt} {l : JL} (hp : okPs ps = true) (hJ : IsJ ps.length l) : m_impl_ClockWires ps l = some (WS ps l l.length, true) := by
  obtain ⟨hn, hl, _⟩ := id hJ
  have hT : m_impl_tree ps l = some (TM ps l l.length, WS ps l l.length, true) := by
    unfold m_impl_tree
    rw [clockPins_eq ps (by omega)]
    simp only [bind_some']
    rw [bif_f (by simp [hp, show 2 ≤ ps.length by omega, show ps.length ≤ 12 by omega]), implJ_eq, joinsB_iff.2 hJ]
    simp only [bind_some']
    rw [bif_f (by rfl), wr_in (x := 2 * (ps.length : Int)) (by omega), wr_in (x := 2 * (ps.length : Int) - 1) (by omega), mkC_ok (by unfold lim; omega)]
    simp only [bind_some']
    rw [implT1 hp hn.2]
    simp only [bind_some']
    rw [show Int.toNat (2 * (ps.length : Int) - 1) = 2 * ps.length - 1 by omega, implT2 hp hJ, WI_eq hJ l.length (Nat.le_refl _)]
    simp
  unfold m_impl_ClockWires
  rw [hT]; rfl
theorem r8Sum_eq {l : List Int} (h : ∀ x ∈ l, 0 ≤ x) (hs : l.sum ≤ 1000000000000) (hb : l.length ≤ 1000000) : m_laws_r8Sum l = some l.sum := by
  unfold m_laws_r8Sum
  have hl : loopM (m_laws_r8Sum_s1 l) (0, 0) = some l.sum := by
    refine loopM_val _ l.length (fun k s => s = ((l.take k).sum, (k : Int))) (by simp) ?_ ?_
    · rintro k _ hk rfl
      left
      unfold m_laws_r8Sum_s1
      simp only []
      rw [bif_t (by simpa using hk), geti_lt hk]
      have h1 := sum_b h (k + 1)
      rw [sum_take hk] at h1
      refine ⟨_, rfl, ?_⟩
      rw [wr_in (by omega), wr_in (by omega), sum_take hk]; rfl
    · rintro _ rfl
      unfold m_laws_r8Sum_s1
      simp only []
      rw [bif_f (by simp), List.take_length]
  rw [hl]; rfl
/-- Any joins come up. -/
theorem in_lv {p : Nat} {L : JL} (hJ : IsJ p L) : ∀ (n k : Nat) (fr : List Int), k + n + 1 = p → fr.Pairwise (· < ·) → (∀ x, x ∈ fr ↔ 0 ≤ x ∧ x < p + k ∧ ¬ Used L k x) → L ∈ lv p n (L.take k) fr
  | 0, k, fr, hk, _, _ => by
    have hl := hJ.2.1
    simp only [lv, List.mem_singleton]
    rw [List.take_of_length_le (by omega)]
  | n + 1, k, fr, hk, hs, hm => by
    have hl := hJ.2.1
    have hkl : k < L.length := by omega
    obtain ⟨a, b, hat, h0, hab, hb, ua, ub⟩ := hJ.2.2 k hkl
    have ma : a ∈ fr := (hm a).2 ⟨h0, by omega, ua⟩
    have mb : b ∈ fr := (hm b).2 ⟨by omega, hb, ub⟩
    refine List.mem_flatMap.2 ⟨(a, b), (prs_mem hs).2 ⟨ma, mb, hab⟩, ?_⟩
    have hLk : L[k] = [a, b] := by rw [List.getElem?_eq_getElem hkl] at hat; simpa using hat
    have e1 : L.take k ++ [[a, b]] = L.take (k + 1) := by rw [List.take_succ_eq_append_getElem hkl, hLk]
    have e2 : (L.take k).length = k := by rw [List.length_take]; omega
    show L ∈ lv p n (L.take k ++ [[a, b]]) (nxt p (L.take k) fr (a, b))
    rw [e1]
    have inNxt : ∀ x, x ∈ nxt p (L.take k) fr (a, b) ↔ (x ∈ fr ∧ x ≠ a ∧ x ≠ b) ∨ x = p + k := fun x => by
      unfold nxt del
      rw [List.mem_append, List.mem_filter, e2]
      simp
    refine in_lv hJ n (k + 1) _ (by omega) ?_ (fun x => ?_)
    · unfold nxt
      rw [List.pairwise_append]
      refine ⟨hs.filter _, by simp, fun x hx y hy => ?_⟩
      simp only [List.mem_singleton] at hy
      subst hy
      have := ((hm x).1 (List.mem_filter.1 hx).1).2.1
      rw [e2]; omega
    · rw [inNxt, Used.succ hat]
      constructor
      · rintro (⟨h1, h2, h3⟩ | rfl)
        · obtain ⟨g1, g2, g3⟩ := (hm x).1 h1
          exact ⟨g1, by omega, fun hu => by rcases hu with hu | hu | hu; exact g3 hu; exact h2 hu; exact h3 hu⟩
        · refine ⟨by omega, by omega, fun hu => ?_⟩
          rcases hu with hu | hu | hu
          · obtain ⟨j, hj, r, hr, hx⟩ := hu
            obtain ⟨a', b', g1, g2, g3, g4, _⟩ := hJ.2.2 j (by omega)
            rw [g1] at hr; cases hr
            simp only [List.mem_cons, List.not_mem_nil, or_false] at hx
            omega
          · omega
          · omega
      · rintro ⟨h1, h2, h3⟩
        by_cases c : x = p + k
        · exact Or.inr c
        · refine Or.inl ⟨(hm x).2 ⟨h1, by omega, fun hu => h3 (Or.inl hu)⟩, fun e => h3 (Or.inr (Or.inl e)), fun e => h3 (Or.inr (Or.inr e))⟩
/-- What comes up are joins. -/
theorem lv_isJ {p : Nat} (hp : 2 ≤ p ∧ p ≤ 12) : ∀ (n : Nat) (J : JL) (fr : List Int), J.length + n + 1 = p → fr.Pairwise (· < ·) → (∀ k, k < J.length → Gd p J k) → (∀ x ∈ fr, 0 ≤ x ∧ x < p + J.length ∧ ¬ Used J J.length x) → ∀ L ∈ lv p n J fr, IsJ p L
  | 0, J, fr, hl, hs, hg, hf, L, hL => by
    simp only [lv, List.mem_singleton] at hL
    subst hL
    exact ⟨by omega, by omega, hg⟩
  | n + 1, J, fr, hl, hs, hg, hf, L, hL => by
    obtain ⟨⟨a, b⟩, hab, hL⟩ := List.mem_flatMap.1 (show L ∈ (prs fr).flatMap _ from hL)
    obtain ⟨ma, mb, hlt⟩ := (prs_mem hs).1 hab
    have fa := hf a ma
    have fb := hf b mb
    have hat : (J ++ [[a, b]])[J.length]? = some [a, b] := by simp
    have hgJ : Gd p (J ++ [[a, b]]) J.length := ⟨a, b, hat, fa.1, hlt, fb.2.1, fun u => fa.2.2 ((used_pre (Nat.le_refl _) _).1 u), fun u => fb.2.2 ((used_pre (Nat.le_refl _) _).1 u)⟩
    have hg' : ∀ k, k < (J ++ [[a, b]]).length → Gd p (J ++ [[a, b]]) k := fun k hk => by
      rw [List.length_append] at hk
      by_cases e : k = J.length
      · rw [e]; exact hgJ
      · exact gd_pre (by simp at hk; omega) (hg k (by simp at hk; omega))
    refine lv_isJ hp n (J ++ [[a, b]]) (nxt p J fr (a, b)) (by simp; omega) ?_ hg' (fun x hx => ?_) L hL
    · unfold nxt
      rw [List.pairwise_append]
      refine ⟨hs.filter _, by simp, fun x hx y hy => ?_⟩
      simp only [List.mem_singleton] at hy
      subst hy
      have := (hf x (List.mem_filter.1 hx).1).2.1
      omega
    · unfold nxt at hx
      rw [List.length_append]
      rcases List.mem_append.1 hx with hx | hx
      · obtain ⟨hx1, hx2⟩ := List.mem_filter.1 hx
        obtain ⟨g1, g2, g3⟩ := hf x hx1
        unfold del at hx2
        simp only [Bool.not_eq_true', Bool.or_eq_false_iff, beq_eq_false_iff_ne, ne_eq] at hx2
        refine ⟨g1, by simp; omega, fun hu => ?_⟩
        rcases (Used.succ hat x).1 hu with hu | hu | hu
        · exact g3 ((used_pre (Nat.le_refl _) _).1 hu)
        · exact hx2.1 hu
        · exact hx2.2 hu
      · simp only [List.mem_singleton] at hx
        subst hx
        refine ⟨by omega, by simp; omega, ?_⟩
        rintro ⟨t, ht, r, hr, hm⟩
        obtain ⟨a', b', c1, c2, c3, c4, _⟩ := hg' t (by simpa using ht)
        rw [c1] at hr; cases hr
        simp only [List.mem_cons, List.not_mem_nil, or_false] at hm
        have ht' : t < J.length + 1 := ht
        omega
/-- The joins of the nearest come up. -/
theorem nj_lv {ps : List Pt} (hp : okPs ps = true) (h2 : 2 ≤ ps.length) (h12 : ps.length ≤ 12) : ∀ (n r : Nat), r + n + 1 = ps.length → (nj ps (ps.length - 1)).1 ∈ lv ps.length n (nj ps r).1 (nj ps r).2
  | 0, r, h => by
    have : r = ps.length - 1 := by omega
    subst this
    simp [lv]
  | n + 1, r, h => by
    have hI := nj_inv hp h2 h12 r (by omega)
    have hF := hI.free hp h2 h12 (by omega)
    have hok := outF_ok hF (nj ps r).2.length (Nat.le_refl _)
    refine List.mem_flatMap.2 ⟨outF (TM ps (nj ps r).1 r) (nj ps r).2 (nj ps r).2.length, (prs_mem hI.srt).2 hok, ?_⟩
    have ih := nj_lv hp h2 h12 n (r + 1) (by omega)
    have e1 : (nj ps (r + 1)).1 = (nj ps r).1 ++ [[(outF (TM ps (nj ps r).1 r) (nj ps r).2 (nj ps r).2.length).1, (outF (TM ps (nj ps r).1 r) (nj ps r).2 (nj ps r).2.length).2]] := rfl
    have e2 : (nj ps (r + 1)).2 = nxt ps.length (nj ps r).1 (nj ps r).2 (outF (TM ps (nj ps r).1 r) (nj ps r).2 (nj ps r).2.length) := by
      unfold nxt
      rw [hI.len]; rfl
    rw [e1, e2] at ih
    exact ih
def fr0 (p : Nat) : List Int := (List.range p).map fun (i : Nat) => (i : Int)
theorem fr0_srt (p : Nat) : (fr0 p).Pairwise (· < ·) := by
  unfold fr0
  rw [List.pairwise_map]
  exact List.pairwise_lt_range.imp (fun {a b} h => by omega)
theorem fr0_mem (p : Nat) (x : Int) : x ∈ fr0 p ↔ 0 ≤ x ∧ x < p := by
  unfold fr0
  rw [List.mem_map]
  constructor
  · rintro ⟨i, hi, rfl⟩; rw [List.mem_range] at hi; omega
  · rintro ⟨h1, h2⟩; exact ⟨x.toNat, List.mem_range.2 (by omega), by omega⟩
theorem lawBestClocks (l0 l1 : List Int) (h0 : ∀ p ∈ l0, In8 p) (h1 : ∀ p ∈ l1, In8 p) : m_laws_FnBestClocks l0 l1 = some true := by
  have hlong : ∃ b, m_laws_r8Long l0 l1 = some b := by
    unfold m_laws_r8Long
    cases decide ((l0.length : Int) > 48)
    · exact ⟨_, rfl⟩
    · exact ⟨_, rfl⟩
  obtain ⟨b, hb⟩ := hlong
  unfold m_laws_FnBestClocks
  rw [hb]
  simp only [bind_some']
  cases b
  case true => rfl
  obtain ⟨ps, e1, hp, p2, p5⟩ := pins_drawn h0 (m := 5) (by omega) (by omega)
  obtain ⟨js, e2, hJ⟩ := joins_drawn h1 (p := ps.length) (by omega) (by omega)
  have h12 : ps.length ≤ 5 := by omega
  obtain ⟨q, hq, hq0, hv⟩ := bj_q hp p2 h12
  obtain ⟨B, v⟩ := q
  obtain ⟨hBm, hBv, hBl⟩ := mnO_least _ hq
  have noU : ∀ x, ¬ Used ([] : JL) 0 x := fun x hu => by obtain ⟨j, hj, _⟩ := hu; omega
  have hall : ∀ L ∈ lv ps.length (ps.length - 1) [] (fr0 ps.length), IsJ ps.length L := fun L hL =>
    lv_isJ ⟨p2, by omega⟩ (ps.length - 1) [] (fr0 ps.length) (by simp; omega) (fr0_srt _) (fun k hk => by simp at hk) (fun x hx => by
      have := (fr0_mem _ _).1 hx
      exact ⟨this.1, by simp; omega, noU x⟩) L hL
  have hBJ := hall B hBm
  have hnear : (nj ps (ps.length - 1)).1 ∈ lv ps.length (ps.length - 1) [] (fr0 ps.length) := nj_lv hp p2 (by omega) (ps.length - 1) 0 (by omega)
  have hNJ := hall _ hnear
  have hown : js ∈ lv ps.length (ps.length - 1) [] (fr0 ps.length) := in_lv hJ (ps.length - 1) 0 (fr0 ps.length) (by omega) (fr0_srt _) (fun x => by
    rw [fr0_mem]
    constructor
    · rintro ⟨g1, g2⟩; exact ⟨g1, by simpa using g2, fun hu => by obtain ⟨j, hj, _⟩ := hu; omega⟩
    · rintro ⟨g1, g2, _⟩; exact ⟨g1, by simpa using g2⟩)
  have sm : ∀ L ∈ lv ps.length (ps.length - 1) [] (fr0 ps.length), m_laws_r8Sum (WS ps L L.length) = some (wsum ps L) := fun L hL => by
    obtain ⟨y, hy⟩ := all_bj hp h12 (ps.length - 1) [] _ (bj0 hp p2 h12) (by simp; omega) L hL
    have hw := WS_len ps L L.length
    have hsm := wsum_b h12 hy
    have hln := hy.len
    exact r8Sum_eq hy.nn (by unfold wsum at hsm; omega) (by omega)
  have ebj := implBJ_in hp p2 h12
  rw [hv] at ebj
  have enj : m_impl_NearestJoins ps = some ((nj ps (ps.length - 1)).1, true) := by
    rw [implNJ_eq ps (by omega)]
    unfold njV
    rw [if_pos (by simp [hp, p2, show ps.length ≤ 12 by omega])]
  have g1 := hBl _ hnear
  have g2 := hBl _ hown
  simp only [e1, bind_some', ebj, enj, e2, treeJ hp hBJ, treeJ hp hNJ, treeJ hp hJ, cond_true, sm B hBm, sm _ hnear, sm _ hown, hBv, implJ_eq, joinsB_iff.2 hNJ, beq_self_eq_true]
  rw [hBv] at g1 g2
  have hq0' : 0 ≤ wsum ps B := by rw [hBv] at hq0; exact hq0
  simp only [cond_false]
  rw [bif_t (decide_eq_true (show wsum ps (nj ps (ps.length - 1)).1 ≥ wsum ps B from g1)), bif_t (decide_eq_true (show wsum ps js ≥ wsum ps B from g2)), bif_t (decide_eq_true (show wsum ps B ≥ 0 from hq0'))]
end Go.Proofs.Ytfjpfomdoohabaa
