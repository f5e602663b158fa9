/- NearestJoins: what the reference and the program reckon is the same. -/
import Derived.Test.YtfjpfomdoohabaaPuNj1
set_option linter.unusedSimpArgs false
set_option linter.unusedVariables false
set_option linter.unusedSectionVars false
namespace Go.Proofs.Ytfjpfomdoohabaa
open Go.RowKit

/-! ### Taking two out of a list -/
def del (a b k : Int) : Bool := k == a || k == b
theorem delM_eq (k a b : Int) : m_impl_NearestJoins_1_bint_bint k a b = some (del a b k) := by
  unfold m_impl_NearestJoins_1_bint_bint del
  cases h : (k == a) <;> simp
theorem filter_take {p : Int → Bool} {l : List Int} {j : Nat} (hj : j < l.length) : (l.take (j + 1)).filter p = if p l[j] then (l.take j).filter p ++ [l[j]] else (l.take j).filter p := by
  rw [← List.take_concat_get hj, List.concat_eq_append, List.filter_append]
  cases h : p l[j] <;> simp [h]
theorem filter_take' {p : Int → Bool} {l : List Int} {j m : Nat} (hj : j < l.length) (hm : m = j) : (l.take (m + 1)).filter p = if p l[j] then (l.take m).filter p ++ [l[j]] else (l.take m).filter p := by
  subst hm; exact filter_take hj
theorem filter_two (p : Int → Bool) : ∀ l : List Int, (l.filter p).length + (l.filter fun k => !p k).length = l.length
  | [] => rfl
  | x :: l => by
    have ih := filter_two p l
    cases h : p x <;> simp [h] <;> omega
theorem Delete_eq (l : List Int) (a b : Int) (hb : l.length ≤ 140737488355328) : m_slices_DeleteFunc_int_int_impl_NearestJoins_1_bint_bint l a b = some (l.filter fun k => !del a b k) := by
  unfold m_slices_DeleteFunc_int_int_impl_NearestJoins_1_bint_bint m_slices_IndexFunc_int_int_impl_NearestJoins_1_bint_bint
  have hs : ∀ k, k < l.length → m_slices_IndexFunc_int_int_impl_NearestJoins_1_bint_bint_s1 l a b (k : Int) = some (if del a b (gI l k) then .out (.inr (k : Int)) else .next ((k + 1 : Nat) : Int)) := by
    intro k hk
    unfold m_slices_IndexFunc_int_int_impl_NearestJoins_1_bint_bint_s1
    simp only []
    rw [bif_t (by simpa using hk), geti_gI hk, bind_some', delM_eq, bind_some', wr_in (by omega)]
    cases del a b (gI l k) <;> rfl
  rcases loop_find l.length (fun k => del a b (gI l k)) (fun k => (k : Int)) hs (by
    unfold m_slices_IndexFunc_int_int_impl_NearestJoins_1_bint_bint_s1
    simp only []
    rw [bif_f (by simp)]) with ⟨h1, h2⟩ | ⟨k0, h1, h2, h3, h4⟩
  · rw [h2]
    simp only [bind_some']
    rw [bif_t (by rfl)]
    congr 1
    symm
    rw [List.filter_eq_self]
    intro x hx
    obtain ⟨k, hk, rfl⟩ := List.mem_iff_getElem.1 hx
    have := anyIn_f.1 h1 k (by omega) hk
    rw [gI_at hk] at this
    rw [this]; rfl
  · rw [h4]
    simp only [bind_some']
    rw [bif_f (by simp <;> omega), wr_in (by omega)]
    have hk0 : (l.take k0).filter (fun k => !del a b k) = l.take k0 := by
      rw [List.filter_eq_self]
      intro x hx
      obtain ⟨k, hk, rfl⟩ := List.mem_take_iff_getElem.1 hx
      have := h3 k (by omega)
      rw [gI_at (by omega)] at this
      rw [this]; rfl
    have key : ∃ r, loopM (m_slices_DeleteFunc_int_int_impl_NearestJoins_1_bint_bint_s1 a b) ((k0 : Int), (k0 : Int) + 1, l) = some r ∧ ∃ (kk : Nat) (l' : List Int), r = ((kk : Int), l') ∧ l'.length = l.length ∧ kk ≤ l.length ∧ l'.take kk = l.filter fun k => !del a b k := by
      refine loopM_count _ (l.length - (k0 + 1)) (fun j s => ∃ (kk : Nat) (l' : List Int), s = ((kk : Int), ((k0 + 1 + j : Nat) : Int), l') ∧ l'.length = l.length ∧ kk ≤ k0 + j ∧ (∀ i, k0 + j + 1 ≤ i → l'[i]? = l[i]?) ∧ l'.take kk = (l.take (k0 + j + 1)).filter fun k => !del a b k) _ ?_ ?_ ?_
      · refine ⟨k0, l, rfl, rfl, by omega, fun i _ => rfl, ?_⟩
        rw [filter_take h1]
        rw [gI_at h1] at h2
        rw [h2, hk0]; simp
      · rintro j _ hj ⟨kk, l', rfl, e1, e2, e3, e4⟩
        left
        unfold m_slices_DeleteFunc_int_int_impl_NearestJoins_1_bint_bint_s1
        simp only []
        have hjl : k0 + 1 + j < l.length := by omega
        have hg : geti l' ((k0 + 1 + j : Nat) : Int) = some l[k0 + 1 + j] := by rw [geti_nat, e3 _ (by omega), List.getElem?_eq_getElem]
        rw [bif_t (by rw [e1]; simp; omega), hg]
        simp only [bind_some', delM_eq]
        have hft := filter_take' (p := fun k => !del a b k) (m := k0 + j + 1) hjl (by omega)
        cases hd : del a b l[k0 + 1 + j] with
        | true =>
          rw [bif_f (by rfl)]
          simp only [bind_some']
          refine ⟨_, rfl, kk, l', ?_, e1, by omega, fun i hi => e3 i (by omega), ?_⟩
          · rw [wr_in (by omega)]; simp only [Prod.mk.injEq, true_and, and_true]; omega
          · rw [e4, show k0 + (j + 1) + 1 = k0 + j + 1 + 1 by omega, hft]
            rw [hd]; rfl
        | false =>
          rw [bif_t (by rfl), geti_lt (l := l') (k := kk) (by omega)]
          simp only [bind_some']
          refine ⟨_, rfl, kk + 1, l'.set kk l[k0 + 1 + j], ?_, by rw [List.length_set, e1], by omega, fun i hi => ?_, ?_⟩
          · rw [wr_in (by omega), wr_in (by omega)]; simp only [Prod.mk.injEq]; exact ⟨by omega, by omega, by simp⟩
          · rw [List.getElem?_set_ne (by omega)]; exact e3 i (by omega)
          · rw [show k0 + (j + 1) + 1 = k0 + j + 1 + 1 by omega, hft]
            rw [hd, ← e4]
            rw [List.take_set, List.take_add_one, List.set_append]
            have hk' : kk < l'.length := by omega
            simp only [List.length_take, show min kk l'.length = kk by omega, Nat.lt_irrefl, if_false, Nat.sub_self, List.getElem?_eq_getElem hk']
            simp
      · rintro _ ⟨kk, l', rfl, e1, e2, e3, e4⟩
        unfold m_slices_DeleteFunc_int_int_impl_NearestJoins_1_bint_bint_s1
        simp only []
        refine ⟨_, bif_f (by rw [e1]; simp; omega), kk, l', rfl, e1, by omega, ?_⟩
        rw [e4, show k0 + (l.length - (k0 + 1)) + 1 = l.length by omega, List.take_length]
    obtain ⟨r, hr, kk, l', rfl, i2, i3, i4⟩ := key
    rw [hr]
    simp only [bind_some']
    have s2 : slci l' (kk : Int) (l'.length : Int) = some (slc l' (kk : Int) (l'.length : Int)) := by unfold slci slc; rw [if_pos (by omega)]
    have hcl : (clr (0 : Int) l' (kk : Int)).length = l'.length := by unfold clr; simp; omega
    have s3 : slci (clr (0 : Int) l' (kk : Int)) 0 (kk : Int) = some (slc (clr (0 : Int) l' (kk : Int)) 0 (kk : Int)) := by unfold slci slc; rw [if_pos (by omega)]
    rw [s2, s3]
    simp only [bind_some']
    rw [← i4]; unfold clr
    simp only [Int.toNat_natCast]
    rw [List.take_append_of_le_length (by simp; omega), List.take_take, Nat.min_self]
/-! ### The nearest pair -/
def D (T : List Mg) (x y : Int) : Int := mfar (nodeAt T x) (nodeAt T y)
def innF (T : List Mg) (x : Int) (ys : List Int) (ab : Int × Int) : Int × Int := ys.foldl (fun ab y => if D T x y < D T ab.1 ab.2 then (x, y) else ab) ab
def outF (T : List Mg) (fr : List Int) : Nat → Int × Int
  | 0 => (gI fr 0, gI fr 1)
  | i + 1 => innF T (gI fr i) (fr.drop (i + 1)) (outF T fr i)
theorem innF_succ (T : List Mg) (x : Int) (ys : List Int) (ab : Int × Int) {k : Nat} (hk : k < ys.length) :
    innF T x (ys.take (k + 1)) ab = if D T x ys[k] < D T (innF T x (ys.take k) ab).1 (innF T x (ys.take k) ab).2 then (x, ys[k]) else innF T x (ys.take k) ab := by
  unfold innF
  rw [← List.take_concat_get hk, List.concat_eq_append, List.foldl_append]; rfl
/-- What holds of the free nodes. -/
structure Fre (T : List Mg) (fr : List Int) : Prop where
  srt : fr.Pairwise (· < ·)
  rng : ∀ x ∈ fr, 0 ≤ x ∧ x < T.length
  two : 2 ≤ fr.length
  small : ∀ m ∈ T, ∃ g B, MgOk g B m ∧ B ≤ 8921088
def okAB (fr : List Int) (ab : Int × Int) : Prop := ab.1 ∈ fr ∧ ab.2 ∈ fr ∧ ab.1 < ab.2
theorem gI_mem {fr : List Int} {k : Nat} (h : k < fr.length) : gI fr k ∈ fr := by rw [gI_at h]; exact List.getElem_mem h
section
variable {T : List Mg} {fr : List Int} (hF : Fre T fr)
include hF
theorem srt_at {i k : Nat} (hik : i < k) (hk : k < fr.length) : gI fr i < gI fr k := by
  rw [gI_at (by omega), gI_at hk]
  exact List.pairwise_iff_getElem.1 hF.srt i k (by omega) hk hik
theorem innF_ok {x : Int} (hx : x ∈ fr) : ∀ (ys : List Int) (ab : Int × Int), (∀ y ∈ ys, y ∈ fr ∧ x < y) → okAB fr ab → okAB fr (innF T x ys ab)
  | [], ab, _, h => h
  | y :: ys, ab, hy, h => by
    refine innF_ok hx ys _ (fun z hz => hy z (by simp [hz])) ?_
    obtain ⟨h1, h2⟩ := hy y (by simp)
    by_cases hc : D T x y < D T ab.1 ab.2
    · simp only [hc, if_true]; exact ⟨hx, h1, h2⟩
    · simp only [hc, if_false]; exact h
theorem drop_ok {i : Nat} (hi : i < fr.length) : ∀ y ∈ fr.drop (i + 1), y ∈ fr ∧ gI fr i < y := fun y hy => by
  obtain ⟨j, hj, rfl⟩ := List.mem_drop_iff_getElem.1 hy
  refine ⟨List.getElem_mem _, ?_⟩
  have := srt_at hF (i := i) (k := i + 1 + j) (by omega) (by omega)
  rwa [gI_at (k := i + 1 + j) (by omega)] at this
theorem outF_ok : ∀ i, i ≤ fr.length → okAB fr (outF T fr i)
  | 0, _ => by
    have := hF.two
    exact ⟨gI_mem (by omega), gI_mem (by omega), srt_at hF (by omega) (by omega)⟩
  | i + 1, h => innF_ok hF (gI_mem (by omega)) _ _ (drop_ok hF (by omega)) (outF_ok i (by omega))
theorem node_ok {x : Int} (hx : x ∈ fr) : geti T x = some (nodeAt T x) ∧ ∃ g B, MgOk g B (nodeAt T x) ∧ B ≤ 8921088 := by
  obtain ⟨h0, h1⟩ := hF.rng x hx
  obtain ⟨h2, h3⟩ := nodeAt_mem (ms := T) h0 h1
  exact ⟨h3, hF.small _ h2⟩
theorem farI_eq {x y : Int} (hx : x ∈ fr) (hy : y ∈ fr) : m_impl_Region_far (nodeAt T x).1 (nodeAt T x).2.1 (nodeAt T x).2.2.1 (nodeAt T x).2.2.2.1 (nodeAt T y).1 (nodeAt T y).2.1 (nodeAt T y).2.2.1 (nodeAt T y).2.2.2.1 = some (D T x y) := by
  obtain ⟨_, g, B, h1, h2⟩ := node_ok hF hx
  obtain ⟨_, g', B', h1', h2'⟩ := node_ok hF hy
  exact Rfar_eq (h1.small h2) (h1'.small h2')
theorem farS_eq {x y : Int} (hx : x ∈ fr) (hy : y ∈ fr) : m_spec_l06Far (nodeAt T x).1 (nodeAt T x).2.1 (nodeAt T x).2.2.1 (nodeAt T x).2.2.2.1 (nodeAt T y).1 (nodeAt T y).2.1 (nodeAt T y).2.2.1 (nodeAt T y).2.2.2.1 = some (D T x y) := by
  obtain ⟨_, g, B, h1, h2⟩ := node_ok hF hx
  obtain ⟨_, g', B', h1', h2'⟩ := node_ok hF hy
  have sa := h1.small h2
  have sb := h1'.small h2'
  unfold D
  generalize nodeAt T x = a at *
  generalize nodeAt T y = b at *
  unfold m_spec_l06Far
  simp only [l00Max_eq, bind_some']
  rw [wr_in (x := a.1 - b.2.1) (by omega), wr_in (x := b.1 - a.2.1) (by omega), wr_in (x := a.2.2.1 - b.2.2.2.1) (by omega), wr_in (x := b.2.2.1 - a.2.2.2.1) (by omega)]
  rfl
theorem slc_drop {i : Nat} (hi : i < fr.length) (hb : fr.length ≤ 1000) : slc fr (wr ((i : Int) + 1)) (fr.length : Int) = fr.drop (i + 1) := by
  rw [wr_in (by omega)]; unfold slc
  simp
theorem implInn_eq {i : Nat} (hi : i < fr.length) (hb : fr.length ≤ 1000) (ab : Int × Int) (hab : okAB fr ab) :
    loopM (m_impl_NearestJoins_s14 T fr (i : Int) (gI fr i)) (0, ab.1, ab.2) = some (innF T (gI fr i) (fr.drop (i + 1)) ab) := by
  have hd := drop_ok hF hi
  have hsl := slc_drop hF hi hb
  generalize hys : fr.drop (i + 1) = ys at *
  have hyl : ys.length ≤ 1000 := by rw [← hys]; simp; omega
  have hl := loop_run (step := m_impl_NearestJoins_s14 T fr (i : Int) (gI fr i)) ys.length (fun k => ((k : Int), (innF T (gI fr i) (ys.take k) ab).1, (innF T (gI fr i) (ys.take k) ab).2)) (r := innF T (gI fr i) ys ab) (by
    intro k hk
    have hok := innF_ok hF (gI_mem hi) (ys.take k) ab (fun y hy => hd y (List.mem_of_mem_take hy)) hab
    have hyk := hd ys[k] (List.getElem_mem hk)
    unfold m_impl_NearestJoins_s14
    simp only []
    rw [hsl, bif_t (by simpa using hk), geti_lt hk]
    simp only [bind_some']
    rw [(node_ok hF (gI_mem hi)).1, (node_ok hF hyk.1).1, (node_ok hF hok.1).1, (node_ok hF hok.2.1).1]
    simp only [bind_some']
    rw [farI_eq hF (gI_mem hi) hyk.1, farI_eq hF hok.1 hok.2.1]
    simp only [bind_some']
    rw [innF_succ T (gI fr i) ys ab hk, wr_in (by omega)]
    by_cases hc : D T (gI fr i) ys[k] < D T (innF T (gI fr i) (ys.take k) ab).1 (innF T (gI fr i) (ys.take k) ab).2
    · rw [bif_t (by simpa using hc), if_pos hc]; rfl
    · rw [bif_f (by simpa using hc), if_neg hc]; rfl) (by
    unfold m_impl_NearestJoins_s14
    simp only []
    rw [hsl, bif_f (by simp), List.take_length])
  exact hl
theorem implOut_eq (hb : fr.length ≤ 1000) : loopM (m_impl_NearestJoins_s13 T fr) (0, gI fr 0, gI fr 1) = some (outF T fr fr.length) := by
  have hl := loop_run (step := m_impl_NearestJoins_s13 T fr) fr.length (fun k => ((k : Int), (outF T fr k).1, (outF T fr k).2)) (r := outF T fr fr.length) (by
    intro k hk
    unfold m_impl_NearestJoins_s13
    simp only []
    have s1 : slci fr (wr ((k : Int) + 1)) (fr.length : Int) = some (slc fr (wr ((k : Int) + 1)) (fr.length : Int)) := by rw [wr_in (by omega)]; unfold slci slc; rw [if_pos (by omega)]
    rw [bif_t (by simpa using hk), geti_gI hk, bind_some', s1, bind_some', implInn_eq hF hk hb _ (outF_ok hF k (by omega)), bind_some', wr_in (by omega)]
    rfl) (by
    unfold m_impl_NearestJoins_s13
    simp only []
    rw [bif_f (by simp)])
  exact hl
def repr0 (T : List Mg) (o : Option (Int × Int)) : List Int × Int := match o with | none => ([], -1) | some ab => ([ab.1, ab.2], D T ab.1 ab.2)
omit hF in
theorem D_nonneg (a b : Mg) : 0 ≤ mfar a b := by unfold mfar; omega
end
/-! ### Round by round -/
def nj (ps : List Pt) : Nat → List (List Int) × List Int
  | 0 => ([], (List.range ps.length).map fun (i : Nat) => (i : Int))
  | r + 1 => ((nj ps r).1 ++ [[(outF (TM ps (nj ps r).1 r) (nj ps r).2 (nj ps r).2.length).1, (outF (TM ps (nj ps r).1 r) (nj ps r).2 (nj ps r).2.length).2]],
      ((nj ps r).2.filter fun k => !del (outF (TM ps (nj ps r).1 r) (nj ps r).2 (nj ps r).2.length).1 (outF (TM ps (nj ps r).1 r) (nj ps r).2 (nj ps r).2.length).2 k) ++ [((ps.length + r : Nat) : Int)])
theorem TM_snoc (ps : List Pt) (l : List (List Int)) (row : List Int) : ∀ k, k ≤ l.length → TM ps (l ++ [row]) k = TM ps l k
  | 0, _ => rfl
  | k + 1, h => by
    show TMs (TM ps (l ++ [row]) k) ((l ++ [row]).getD k []) = TMs (TM ps l k) (l.getD k [])
    rw [TM_snoc ps l row k (by omega)]
    congr 1
    simp [List.getD, List.getElem?_append_left (show k < l.length by omega)]
theorem filter_del_len {fr : List Int} {a b : Int} (hn : fr.Nodup) (ha : a ∈ fr) (hb : b ∈ fr) (hab : a ≠ b) : (fr.filter fun k => !del a b k).length = fr.length - 2 := by
  have h1 : (fr.filter (del a b)).Perm [a, b] := (List.perm_ext_iff_of_nodup (hn.filter _) (by simp [hab])).2 (fun x => by
    rw [List.mem_filter]
    unfold del
    constructor
    · rintro ⟨_, h⟩; simpa using h
    · intro h
      simp only [List.mem_cons, List.not_mem_nil, or_false] at h
      rcases h with rfl | rfl
      · exact ⟨ha, by simp⟩
      · exact ⟨hb, by simp⟩)
  have h2 : (fr.filter (del a b)).length = 2 := by rw [h1.length_eq]; rfl
  have h3 := filter_two (del a b) fr
  omega
structure NjInv (ps : List Pt) (r : Nat) : Prop where
  isP : IsP ps.length (nj ps r).1
  len : (nj ps r).1.length = r
  srt : (nj ps r).2.Pairwise (· < ·)
  rng : ∀ x ∈ (nj ps r).2, 0 ≤ x ∧ x < ((ps.length + r : Nat) : Int)
  fre : (nj ps r).2.length = ps.length - r
section
variable {ps : List Pt} (hp : okPs ps = true) (h2 : 2 ≤ ps.length) (h12 : ps.length ≤ 12)
include hp h2 h12
theorem NjInv.free {r : Nat} (h : NjInv ps r) (hr : r + 1 < ps.length) : Fre (TM ps (nj ps r).1 r) (nj ps r).2 := by
  have hl := TM_len h.isP r (by rw [h.len]; omega)
  refine ⟨h.srt, fun x hx => ?_, by rw [h.fre]; omega, fun m hm => ?_⟩
  · have := h.rng x hx; rw [hl]; exact this
  · exact ⟨_, _, TM_ok hp h.isP r (by rw [h.len]; omega) m hm, by omega⟩
theorem nj_inv : ∀ r, r + 1 ≤ ps.length → NjInv ps r
  | 0, _ => by
    refine ⟨⟨⟨by omega, by omega⟩, by simp [nj]; omega, fun k hk => by simp [nj] at hk⟩, rfl, ?_, ?_, by simp [nj]⟩
    · show ((List.range ps.length).map fun (i : Nat) => (i : Int)).Pairwise (· < ·)
      rw [List.pairwise_map]
      exact List.pairwise_lt_range.imp (fun {a b} h => by omega)
    · intro x hx
      obtain ⟨i, hi, rfl⟩ := List.mem_map.1 (show x ∈ (List.range ps.length).map fun (i : Nat) => (i : Int) from hx)
      rw [List.mem_range] at hi
      omega
  | r + 1, hr => by
    have h := nj_inv r (by omega)
    have hF := h.free hp h2 h12 (by omega)
    have hok := outF_ok hF (nj ps r).2.length (Nat.le_refl _)
    generalize hab : outF (TM ps (nj ps r).1 r) (nj ps r).2 (nj ps r).2.length = ab at hok
    have e1 : (nj ps (r + 1)).1 = (nj ps r).1 ++ [[ab.1, ab.2]] := by rw [← hab]; rfl
    have e2 : (nj ps (r + 1)).2 = ((nj ps r).2.filter fun k => !del ab.1 ab.2 k) ++ [((ps.length + r : Nat) : Int)] := by rw [← hab]; rfl
    obtain ⟨o1, o2, o3⟩ := hok
    have r1 := h.rng _ o1
    have r2 := h.rng _ o2
    refine ⟨⟨⟨by omega, by omega⟩, ?_, fun k hk => ?_⟩, ?_, ?_, fun x hx => ?_, ?_⟩
    · rw [e1, List.length_append, h.len]; simp; omega
    · rw [e1, List.length_append, h.len] at hk
      rw [e1]
      by_cases e : k < r
      · obtain ⟨a, b, g1, g2⟩ := h.isP.2.2 k (by rw [h.len]; exact e)
        exact ⟨a, b, by rw [List.getElem?_append_left (by rw [h.len]; exact e)]; exact g1, g2⟩
      · have : k = r := by simp at hk; omega
        subst this
        refine ⟨ab.1, ab.2, by rw [List.getElem?_append_right (by rw [h.len]; exact Nat.le_refl _), h.len]; simp, r1.1, o3, by omega, trivial⟩
    · rw [e1, List.length_append, h.len]; rfl
    · rw [e2, List.pairwise_append]
      refine ⟨h.srt.filter _, by simp, fun x hx y hy => ?_⟩
      simp only [List.mem_singleton] at hy
      subst hy
      exact (h.rng x (List.mem_filter.1 hx).1).2
    · rw [e2, List.mem_append, List.mem_singleton] at hx
      rcases hx with hx | rfl
      · have := h.rng x (List.mem_filter.1 hx).1; omega
      · omega
    · rw [e2, List.length_append, filter_del_len (h.srt.imp (fun {a b} h e => by omega)) o1 o2 (by omega), h.fre]; simp; omega
theorem TM_next {r : Nat} (hr : r + 2 ≤ ps.length) : TM ps (nj ps (r + 1)).1 (r + 1) = TM ps (nj ps r).1 r ++
    [mmrg (nodeAt (TM ps (nj ps r).1 r) (outF (TM ps (nj ps r).1 r) (nj ps r).2 (nj ps r).2.length).1) (nodeAt (TM ps (nj ps r).1 r) (outF (TM ps (nj ps r).1 r) (nj ps r).2 (nj ps r).2.length).2)] := by
  have h := nj_inv hp h2 h12 r (by omega)
  have e1 : (nj ps (r + 1)).1 = (nj ps r).1 ++ [[(outF (TM ps (nj ps r).1 r) (nj ps r).2 (nj ps r).2.length).1, (outF (TM ps (nj ps r).1 r) (nj ps r).2 (nj ps r).2.length).2]] := rfl
  rw [e1]
  show TMs (TM ps ((nj ps r).1 ++ _) r) (((nj ps r).1 ++ _).getD r []) = _
  rw [TM_snoc ps _ _ r (by rw [h.len]; exact Nat.le_refl _)]
  have : ∀ row : List Int, ((nj ps r).1 ++ [row]).getD r [] = row := fun row => by simp [List.getD, List.getElem?_append_right (show (nj ps r).1.length ≤ r by rw [h.len]; exact Nat.le_refl _), h.len]
  rw [this]; rfl
theorem implMain_eq : loopM m_impl_NearestJoins_s10 (ps.map leafV, (List.range ps.length).map (fun (i : Nat) => (i : Int)), ([] : List (List Int))) = some (Sum.inl (nj ps (ps.length - 1)).1) := by
  have hl := loop_run (step := m_impl_NearestJoins_s10) (ps.length - 1) (fun r => (TM ps (nj ps r).1 r, (nj ps r).2, (nj ps r).1)) (r := Sum.inl (nj ps (ps.length - 1)).1) (by
    intro r hr
    have h := nj_inv hp h2 h12 r (by omega)
    have hF := h.free hp h2 h12 (by omega)
    have hok := outF_ok hF (nj ps r).2.length (Nat.le_refl _)
    have hfl : (nj ps r).2.length ≤ 1000 := by rw [h.fre]; omega
    have htl := TM_len h.isP r (by rw [h.len]; omega)
    have htn := TM_next hp h2 h12 (r := r) (by omega)
    unfold m_impl_NearestJoins_s10
    simp only []
    rw [bif_t (by rw [h.fre]; simp; omega), show geti (nj ps r).2 0 = some (gI (nj ps r).2 0) from geti_gI (k := 0) (by rw [h.fre]; omega), show geti (nj ps r).2 1 = some (gI (nj ps r).2 1) from geti_gI (k := 1) (by rw [h.fre]; omega)]
    simp only [bind_some']
    rw [implOut_eq hF hfl]
    simp only [bind_some']
    have m1 := (node_ok hF hok.1).1
    have m2 := (node_ok hF hok.2.1).1
    have q1 := hF.rng _ hok.1
    have q2 := hF.rng _ hok.2.1
    have oa := TM_ok hp h.isP r (by rw [h.len]; omega) _ (nodeAt_mem (ms := TM ps (nj ps r).1 r) q1.1 q1.2).1
    have ob := TM_ok hp h.isP r (by rw [h.len]; omega) _ (nodeAt_mem (ms := TM ps (nj ps r).1 r) q2.1 q2.2).1
    rw [pow_step (by omega)] at oa ob
    rw [m1, m2]
    simp only [bind_some']
    rw [implMerge_eq oa ob (by omega)]
    simp only [bind_some']
    rw [bif_f (by rfl), Delete_eq _ _ _ (by omega)]
    simp only [bind_some']
    have hfi := List.length_filter_le (fun k => !del (outF (TM ps (nj ps r).1 r) (nj ps r).2 (nj ps r).2.length).1 (outF (TM ps (nj ps r).1 r) (nj ps r).2 (nj ps r).2.length).2 k) (nj ps r).2
    have hlen := h.len
    rw [apC_ok (by unfold lim; simp; omega), apC_ok (by unfold lim; simp; omega), apC_ok (by unfold lim; simp; omega)]
    simp only [bind_some']
    rw [htn, htl]
    rfl) (by
    have h := nj_inv hp h2 h12 (ps.length - 1) (by omega)
    unfold m_impl_NearestJoins_s10
    simp only []
    rw [bif_f (by rw [h.fre]; simp; omega)])
  exact hl
theorem specTreeP_eq {l : List (List Int)} (hJ : IsP ps.length l) : m_spec_l06Tree ps l = some (TM ps l l.length, WS ps l l.length) := by
  unfold m_spec_l06Tree
  rw [specT1 hp (by omega)]
  simp only [bind_some']
  rw [specT2 hp hJ]
  rfl
theorem implLeaves_eq : loopM (m_impl_NearestJoins_s1 ps) (([] : List Mg), ([] : List Int), 0) = some (ps.map leafV, (List.range ps.length).map fun (i : Nat) => (i : Int)) := by
  have hl := loop_run (step := m_impl_NearestJoins_s1 ps) ps.length (fun k => ((ps.take k).map leafV, (List.range k).map (fun (i : Nat) => (i : Int)), (k : Int))) (r := (ps.map leafV, (List.range ps.length).map fun (i : Nat) => (i : Int))) (by
    intro k hk
    unfold m_impl_NearestJoins_s1
    simp only []
    rw [bif_t (by simpa using hk), geti_lt hk]
    simp only [bind_some']
    rw [implLeaf_eq (okPs_at hp hk)]
    simp only [bind_some']
    rw [apC_ok (by unfold lim; simp; omega), apC_ok (by unfold lim; simp; omega), wr_in (by omega), take_map_succ hk, List.range_succ, List.map_append]
    rfl) (by
    unfold m_impl_NearestJoins_s1
    simp only []
    rw [bif_f (by simp), List.take_length])
  exact hl
end
def njV (ps : List Pt) : List (List Int) × Bool := if decide (2 ≤ ps.length) && decide (ps.length ≤ 12) && okPs ps then ((nj ps (ps.length - 1)).1, true) else ([], false)
theorem implNJ_eq (ps : List Pt) (hb : ps.length ≤ 1048576) : m_impl_NearestJoins ps = some (njV ps) := by
  unfold m_impl_NearestJoins njV
  rw [clockPins_eq ps (by omega), bind_some']
  cases h : (decide (2 ≤ ps.length) && decide (ps.length ≤ 12) && okPs ps) with
  | false => rfl
  | true =>
    simp only [Bool.and_eq_true, decide_eq_true_eq] at h
    rw [bif_f (by rfl), implLeaves_eq h.2 h.1.1 h.1.2]
    simp only [bind_some']
    rw [implMain_eq h.2 h.1.1 h.1.2]
    rfl
theorem njV_small (ps : List Pt) : (njV ps).1.length ≤ 100 ∧ ∀ r ∈ (njV ps).1, r.length ≤ 1048576 := by
  unfold njV
  cases h : (decide (2 ≤ ps.length) && decide (ps.length ≤ 12) && okPs ps) with
  | false => simp
  | true =>
    simp only [Bool.and_eq_true, decide_eq_true_eq] at h
    have hi := nj_inv h.2 h.1.1 h.1.2 (ps.length - 1) (by omega)
    refine ⟨by simp only [if_true]; rw [hi.len]; omega, fun r hr => ?_⟩
    simp only [if_true] at hr
    obtain ⟨k, hk, rfl⟩ := List.mem_iff_getElem.1 hr
    obtain ⟨a, b, g1, _⟩ := hi.isP.2.2 k hk
    rw [List.getElem?_eq_getElem hk] at g1
    simp only [Option.some.injEq] at g1
    rw [g1]; simp
end Go.Proofs.Ytfjpfomdoohabaa
