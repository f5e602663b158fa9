/- BestJoins: the two walks through all joins. -/
import Derived.Test.YtfjpfomdoohabaaPuBj1
set_option linter.unusedSimpArgs false
set_option linter.unusedVariables false
namespace Go.Proofs.Ytfjpfomdoohabaa
open Go.RowKit

/-- What the program's chooser holds. -/
def Rp (o : Option (JL × Int)) (best : JL) (z : Bool) (least : Int) : Prop := match o with
  | none => z = true
  | some q => z = false ∧ best = q.1 ∧ least = q.2
/-- What the reference holds. -/
def rpS : Option (JL × Int) → JL × Int
  | none => ([], -1)
  | some q => q
theorem range_flat {α : Type} (n : Nat) (g : Nat → List α) : (List.range (n + 1)).flatMap g = (List.range n).flatMap g ++ g n := by rw [List.range_succ, List.flatMap_append]; simp
section
variable {ps : List Pt} (hp : okPs ps = true) (h2 : 2 ≤ ps.length) (h12 : ps.length ≤ 5)
def rowL (p n : Nat) (J : JL) (fr : List Int) (i m : Nat) : List JL := ((fr.drop (i + 1)).take m).flatMap fun b => lv p n (J ++ [[gI fr i, b]]) (nxt p J fr (gI fr i, b))
def rowsL (p n : Nat) (J : JL) (fr : List Int) (i : Nat) : List JL := (List.range i).flatMap fun j => rowL p n J fr j (fr.length - (j + 1))
theorem rowL_succ (p n : Nat) (J : JL) (fr : List Int) {i m : Nat} (h : i + 1 + m < fr.length) : rowL p n J fr i (m + 1) = rowL p n J fr i m ++ lv p n (J ++ [[gI fr i, gI fr (i + 1 + m)]]) (nxt p J fr (gI fr i, gI fr (i + 1 + m))) := by
  unfold rowL
  rw [List.take_succ_eq_append_getElem (by rw [List.length_drop]; omega), List.flatMap_append]
  have : (fr.drop (i + 1))[m]'(by rw [List.length_drop]; omega) = gI fr (i + 1 + m) := by rw [List.getElem_drop, gI_at h]
  rw [this]; simp
theorem lv_rows (p n : Nat) (J : JL) (fr : List Int) : lv p (n + 1) J fr = rowsL p n J fr fr.length := by
  show (prs fr).flatMap _ = _
  unfold prs rowsL rowL
  rw [List.flatMap_assoc]
  congr 1
  funext i
  rw [List.flatMap_map, List.take_of_length_le (by rw [List.length_drop]; exact Nat.le_refl _)]
include h12
theorem wsum_b {J : JL} {fr : List Int} (h : BjI ps J fr) : 0 ≤ wsum ps J ∧ wsum ps J ≤ 50000000 := by
  have h1 := h.sm
  have h2 := h.len
  refine ⟨?_, by omega⟩
  unfold wsum
  have := h.nn
  generalize WS ps J J.length = l at this
  clear h h1 h2
  induction l with
  | nil => simp
  | cons a l ih =>
    rw [List.sum_cons]
    have h1 := this a (by simp)
    have h2 := ih (fun x hx => this x (by simp [hx]))
    omega
include hp
theorem lv_ne : ∀ (n : Nat) (J : JL) (fr : List Int), BjI ps J fr → fr.length = n + 1 → lv ps.length n J fr ≠ []
  | 0, J, fr, _, _ => by simp [lv]
  | n + 1, J, fr, h, hl => by
    have hab : (gI fr 0, gI fr 1) ∈ prs fr := by
      rw [prs_mem h.srt]
      refine ⟨gI_mem (by omega), gI_mem (by omega), ?_⟩
      rw [gI_at (by omega), gI_at (by omega)]
      exact List.pairwise_iff_getElem.1 h.srt 0 1 (by omega) (by omega) (by omega)
    have hn := h.next hp h12 hab
    have hlen : (nxt ps.length J fr (gI fr 0, gI fr 1)).length = n + 1 := by
      have h1 := hn.len
      have h2 := h.len
      rw [List.length_append] at h1
      simp at h1; omega
    have ih := lv_ne n _ _ hn hlen
    intro he
    apply ih
    have : (prs fr).flatMap (fun ab => lv ps.length n (J ++ [[ab.1, ab.2]]) (nxt ps.length J fr ab)) = [] := he
    rw [List.flatMap_eq_nil_iff] at this
    exact this _ hab
theorem nxt_len {n : Nat} {J : JL} {fr : List Int} (h : BjI ps J fr) (hl : fr.length = n + 2) {a b : Int} (hab : (a, b) ∈ prs fr) : (nxt ps.length J fr (a, b)).length = n + 1 := by
  have h1 := (h.next hp h12 hab).len
  have h2 := h.len
  rw [List.length_append] at h1
  simp at h1; omega
omit hp h12 in
theorem gI_prs {J : JL} {fr : List Int} (h : BjI ps J fr) {i k : Nat} (hik : i < k) (hk : k < fr.length) : (gI fr i, gI fr k) ∈ prs fr := by
  rw [prs_mem h.srt]
  refine ⟨gI_mem (by omega), gI_mem hk, ?_⟩
  rw [gI_at (by omega), gI_at hk]
  exact List.pairwise_iff_getElem.1 h.srt i k (by omega) hk hik
theorem all_bj : ∀ (n : Nat) (J : JL) (fr : List Int), BjI ps J fr → fr.length = n + 1 → ∀ L ∈ lv ps.length n J fr, ∃ x, BjI ps L [x]
  | 0, J, fr, h, hl, L, hL => by
    simp only [lv, List.mem_singleton] at hL
    subst hL
    obtain ⟨x, hx⟩ := List.length_eq_one_iff.1 hl
    exact ⟨x, by rw [← hx]; exact h⟩
  | n + 1, J, fr, h, hl, L, hL => by
    obtain ⟨ab, hab, hL⟩ := List.mem_flatMap.1 (show L ∈ (prs fr).flatMap _ from hL)
    exact all_bj n _ _ (h.next hp h12 hab) (nxt_len hp h12 h hl hab) L hL
theorem impl_choose : ∀ (n : Nat) (J : JL) (fr : List Int) (fuel : Nat), n < fuel → BjI ps J fr → fr.length = n + 1 → 2 ≤ ps.length → ∀ (o : Option (JL × Int)) (best : JL) (z : Bool) (least : Int), Rp o best z least →
    ∃ best' z' least', m_impl_chooser_choose_bimplchooser fuel (TM ps J J.length) J best z least fr (wsum ps J) = some (least', TM ps J J.length, J, best', z') ∧ Rp ((lv ps.length n J fr).foldl (stepO (wsum ps)) o) best' z' least' := by
  intro n
  induction n with
  | zero =>
    intro J fr fuel hf h hl hn2 o best z least hR
    obtain ⟨fuel, rfl⟩ : ∃ k, fuel = k + 1 := ⟨fuel - 1, by omega⟩
    have hJ := h.len
    have hne : neC J = some () := by
      cases J with
      | nil => simp at hJ; omega
      | cons _ _ => rfl
    have hap : apC ([] : List (List Int)) J = some () := apC_ok (by unfold lim; simp; omega)
    show ∃ best' z' least', m_impl_chooser_choose_bimplchooser_body (m_impl_chooser_choose_bimplchooser fuel) _ J best z least fr (wsum ps J) = _ ∧ Rp (([J] : List JL).foldl (stepO (wsum ps)) o) best' z' least'
    unfold m_impl_chooser_choose_bimplchooser_body
    rw [bif_t (by rw [hl]; rfl)]
    simp only [List.foldl_cons, List.foldl_nil]
    cases o with
    | none =>
      have hz : z = true := hR
      subst hz
      rw [bif_t rfl, hne]
      simp only [bind_some', hap]
      exact ⟨_, _, _, rfl, rfl, rfl, rfl⟩
    | some q =>
      obtain ⟨rfl, rfl, rfl⟩ := hR
      rw [bif_f rfl]
      by_cases c : wsum ps J < q.2
      · rw [bif_t (by simpa using c), hne]
        simp only [bind_some', hap]
        refine ⟨_, _, _, rfl, ?_⟩
        show Rp (if wsum ps J < q.2 then some (J, wsum ps J) else some q) _ _ _
        rw [if_pos c]; exact ⟨rfl, rfl, rfl⟩
      · rw [bif_f (by simpa using c)]
        simp only [bind_some']
        refine ⟨_, _, _, rfl, ?_⟩
        show Rp (if wsum ps J < q.2 then some (J, wsum ps J) else some q) _ _ _
        rw [if_neg c]; exact ⟨rfl, rfl, rfl⟩
  | succ n ih =>
    intro J fr fuel hf h hl hn2 o best z least hR
    obtain ⟨fuel, rfl⟩ : ∃ k, fuel = k + 1 := ⟨fuel - 1, by omega⟩
    have hJ := h.len
    have hwb := wsum_b h12 h
    have htl := TM_len h.isP J.length (Nat.le_refl _)
    have inner : ∀ i, i < fr.length → ∀ (o : Option (JL × Int)) (best : JL) (z : Bool) (least : Int), Rp o best z least →
        ∃ best' z' least', loopM (m_impl_chooser_choose_bimplchooser_s4 (m_impl_chooser_choose_bimplchooser fuel) fr (wsum ps J) (gI fr i) (fr.drop (i + 1))) (0, TM ps J J.length, J, best, z, least) = some (TM ps J J.length, J, best', z', least') ∧
          Rp ((rowL ps.length n J fr i (fr.length - (i + 1))).foldl (stepO (wsum ps)) o) best' z' least' := by
      intro i hi o best z least hR
      have hdl : (fr.drop (i + 1)).length = fr.length - (i + 1) := List.length_drop ..
      have key : ∃ r, loopM (m_impl_chooser_choose_bimplchooser_s4 (m_impl_chooser_choose_bimplchooser fuel) fr (wsum ps J) (gI fr i) (fr.drop (i + 1))) (0, TM ps J J.length, J, best, z, least) = some r ∧ ∃ best' z' least', r = (TM ps J J.length, J, best', z', least') ∧
          Rp ((rowL ps.length n J fr i (fr.length - (i + 1))).foldl (stepO (wsum ps)) o) best' z' least' := by
        refine loopM_count _ (fr.length - (i + 1)) (fun k s => ∃ best' z' least', s = ((k : Int), TM ps J J.length, J, best', z', least') ∧ Rp ((rowL ps.length n J fr i k).foldl (stepO (wsum ps)) o) best' z' least') _ ⟨best, z, least, rfl, by simpa [rowL] using hR⟩ ?_ ?_
        · rintro k _ hk ⟨b1, z1, l1, rfl, hR1⟩
          left
          have hk2 : i + 1 + k < fr.length := by omega
          have hab := gI_prs h (i := i) (k := i + 1 + k) (by omega) hk2
          obtain ⟨p0, p1, p2, p3, p4, p5, p6, o1, o2⟩ := h.pair hp h12 hab
          obtain ⟨w1, w2, w3, w4, w5⟩ := h.wires hp h12 hab
          have hnl := nxt_len hp h12 h hl hab
          have hgd : geti (fr.drop (i + 1)) (k : Int) = some (gI fr (i + 1 + k)) := by
            rw [geti_lt (by omega), List.getElem_drop, gI_at hk2]
          have hfi := List.length_filter_le (fun x => !del (gI fr i) (gI fr (i + 1 + k)) x) fr
          have hnx := h.next hp h12 hab
          have hrs := rowL_succ ps.length n J fr hk2
          generalize gI fr i = a at *
          generalize gI fr (i + 1 + k) = b at *
          unfold m_impl_chooser_choose_bimplchooser_s4
          simp only []
          rw [bif_t (by rw [hdl]; simp; omega), hgd]
          simp only [bind_some', p5, p6]
          rw [implMerge_eq o1 o2 (by omega)]
          simp only [bind_some']
          rw [bif_f (by rfl), cloneI_eq _ (by omega)]
          simp only [bind_some']
          rw [DeleteC_eq _ _ _ (by omega)]
          simp only [bind_some']
          rw [apC_ok (by unfold lim; simp; omega), apC_ok (by unfold lim; simp; omega), apC_ok (by unfold lim; simp; omega)]
          simp only [bind_some']
          rw [wr_in (x := wsum ps J + mone (nodeAt (TM ps J J.length) a) (nodeAt (TM ps J J.length) b)) (by omega), wr_in (x := wsum ps J + mone (nodeAt (TM ps J J.length) a) (nodeAt (TM ps J J.length) b) + mtwo (nodeAt (TM ps J J.length) a) (nodeAt (TM ps J J.length) b)) (by omega), ← w5]
          obtain ⟨b2, z2, l2, e2, hR2⟩ := ih (J ++ [[a, b]]) (nxt ps.length J fr (a, b)) fuel (by omega) hnx hnl hn2 _ b1 z1 l1 hR1
          rw [TM_snoc'] at e2
          have efr : fr.filter (fun k => !del a b k) ++ [((TM ps J J.length).length : Int)] = nxt ps.length J fr (a, b) := by
            unfold nxt; rw [htl]
          have em : ((mmrg (nodeAt (TM ps J J.length) a) (nodeAt (TM ps J J.length) b)).1, (mmrg (nodeAt (TM ps J J.length) a) (nodeAt (TM ps J J.length) b)).2.1, (mmrg (nodeAt (TM ps J J.length) a) (nodeAt (TM ps J J.length) b)).2.2.1, (mmrg (nodeAt (TM ps J J.length) a) (nodeAt (TM ps J J.length) b)).2.2.2.1, (mmrg (nodeAt (TM ps J J.length) a) (nodeAt (TM ps J J.length) b)).2.2.2.2) = mmrg (nodeAt (TM ps J J.length) a) (nodeAt (TM ps J J.length) b) := rfl
          rw [efr, em, e2]
          simp only [bind_some']
          have t1 : ∀ {β : Type} (l : List β) (x : β), l.length ≤ 1000 → slci (l ++ [x]) 0 (wr (((l ++ [x]).length : Int) - 1)) = some ((l ++ [x]).take l.length) ∧ (l ++ [x]).take (Int.toNat (wr (((l ++ [x]).length : Int) - 1))) = l := fun l x hx => by
            have e : wr (((l ++ [x]).length : Int) - 1) = (l.length : Int) := by
              have e0 : ((l ++ [x]).length : Int) - 1 = (l.length : Int) := by simp
              rw [e0, wr_in (by omega)]
            rw [e]
            refine ⟨?_, by simp⟩
            unfold slci
            rw [if_pos ⟨by omega, by omega, by rw [List.length_append]; simp; omega⟩]; simp
          rw [(t1 (TM ps J J.length) _ (by omega)).1, (t1 J _ (by omega)).1]
          simp only [bind_some']
          rw [(t1 (TM ps J J.length) _ (by omega)).2, (t1 J _ (by omega)).2]
          refine ⟨_, rfl, b2, z2, l2, by rw [wr_in (by omega)]; rfl, ?_⟩
          rw [hrs, List.foldl_append]; exact hR2
        · rintro _ ⟨b1, z1, l1, rfl, hR1⟩
          unfold m_impl_chooser_choose_bimplchooser_s4
          simp only []
          exact ⟨_, bif_f (by rw [hdl]; simp), b1, z1, l1, rfl, hR1⟩
      obtain ⟨r, hr, b1, z1, l1, rfl, hR1⟩ := key
      exact ⟨b1, z1, l1, hr, hR1⟩
    have outer : ∃ r, loopM (m_impl_chooser_choose_bimplchooser_s3 (m_impl_chooser_choose_bimplchooser fuel) fr (wsum ps J)) (0, TM ps J J.length, J, best, z, least) = some r ∧ ∃ best' z' least', r = (TM ps J J.length, J, best', z', least') ∧
        Rp ((rowsL ps.length n J fr fr.length).foldl (stepO (wsum ps)) o) best' z' least' := by
      refine loopM_count _ fr.length (fun k s => ∃ best' z' least', s = ((k : Int), TM ps J J.length, J, best', z', least') ∧ Rp ((rowsL ps.length n J fr k).foldl (stepO (wsum ps)) o) best' z' least') _ ⟨best, z, least, rfl, by simpa [rowsL] using hR⟩ ?_ ?_
      · rintro k _ hk ⟨b1, z1, l1, rfl, hR1⟩
        left
        obtain ⟨b2, z2, l2, e2, hR2⟩ := inner k hk _ b1 z1 l1 hR1
        have hs : slci fr (wr ((k : Int) + 1)) (fr.length : Int) = some (fr.drop (k + 1)) := by
          rw [wr_in (by omega)]
          unfold slci
          rw [if_pos ⟨by omega, by omega, by omega⟩]
          congr 1
          simp
        unfold m_impl_chooser_choose_bimplchooser_s3
        simp only []
        rw [bif_t (by simpa using hk), geti_gI hk, hs]
        simp only [bind_some', e2]
        refine ⟨_, rfl, b2, z2, l2, by rw [wr_in (by omega)]; rfl, ?_⟩
        have hrs : rowsL ps.length n J fr (k + 1) = rowsL ps.length n J fr k ++ rowL ps.length n J fr k (fr.length - (k + 1)) := by unfold rowsL; rw [range_flat]
        rw [hrs, List.foldl_append]; exact hR2
      · rintro _ ⟨b1, z1, l1, rfl, hR1⟩
        unfold m_impl_chooser_choose_bimplchooser_s3
        simp only []
        exact ⟨_, bif_f (by simp), b1, z1, l1, rfl, hR1⟩
    obtain ⟨r, hr, b1, z1, l1, rfl, hR1⟩ := outer
    refine ⟨b1, z1, l1, ?_, by rw [lv_rows]; exact hR1⟩
    show m_impl_chooser_choose_bimplchooser_body (m_impl_chooser_choose_bimplchooser fuel) _ J best z least fr (wsum ps J) = _
    unfold m_impl_chooser_choose_bimplchooser_body
    rw [bif_f (by rw [hl]; simp; omega), hr]
    rfl
end
end Go.Proofs.Ytfjpfomdoohabaa
