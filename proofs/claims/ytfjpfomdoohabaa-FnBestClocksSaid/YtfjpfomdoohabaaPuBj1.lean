/- BestJoins: both programs go through all joins in the same order, and keep the first one with the least wires. -/
import Derived.Test.YtfjpfomdoohabaaPuNj2
set_option linter.unusedSimpArgs false
set_option linter.unusedVariables false
namespace Go.Proofs.Ytfjpfomdoohabaa
open Go.RowKit

theorem delC_eq (k a b : Int) : m_impl_chooser_choose_1_bint64_bint64 k a b = some (del a b k) := by
  unfold m_impl_chooser_choose_1_bint64_bint64 del
  cases h : (k == a) <;> simp
theorem DeleteC_eq (l : List Int) (a b : Int) (hb : l.length ≤ 140737488355328) : m_slices_DeleteFunc_int64_int64_impl_chooser_choose_1_bint64_bint64 l a b = some (l.filter fun k => !del a b k) := by
  unfold m_slices_DeleteFunc_int64_int64_impl_chooser_choose_1_bint64_bint64 m_slices_IndexFunc_int64_int64_impl_chooser_choose_1_bint64_bint64
  have hs : ∀ k, k < l.length → m_slices_IndexFunc_int64_int64_impl_chooser_choose_1_bint64_bint64_s1 l a b (k : Int) = some (if del a b (gI l k) then .out (.inr (k : Int)) else .next ((k + 1 : Nat) : Int)) := by
    intro k hk
    unfold m_slices_IndexFunc_int64_int64_impl_chooser_choose_1_bint64_bint64_s1
    simp only []
    rw [bif_t (by simpa using hk), geti_gI hk, bind_some', delC_eq, bind_some', wr_in (by omega)]
    cases del a b (gI l k) <;> rfl
  rcases loop_find l.length (fun k => del a b (gI l k)) (fun k => (k : Int)) hs (by
    unfold m_slices_IndexFunc_int64_int64_impl_chooser_choose_1_bint64_bint64_s1
    simp only []
    rw [bif_f (by simp)]) with ⟨h1, h2⟩ | ⟨k0, h1, h2, h3, h4⟩
  · rw [h2]
    simp only [bind_some']
    rw [bif_t (by rfl)]
    congr 1
    symm
    rw [List.filter_eq_self]
    intro x hx
    obtain ⟨k, hk, rfl⟩ := List.mem_iff_getElem.1 hx
    have := anyIn_f.1 h1 k (by omega) hk
    rw [gI_at hk] at this
    rw [this]; rfl
  · rw [h4]
    simp only [bind_some']
    rw [bif_f (by simp <;> omega), wr_in (by omega)]
    have hk0 : (l.take k0).filter (fun k => !del a b k) = l.take k0 := by
      rw [List.filter_eq_self]
      intro x hx
      obtain ⟨k, hk, rfl⟩ := List.mem_take_iff_getElem.1 hx
      have := h3 k (by omega)
      rw [gI_at (by omega)] at this
      rw [this]; rfl
    have key : ∃ r, loopM (m_slices_DeleteFunc_int64_int64_impl_chooser_choose_1_bint64_bint64_s1 a b) ((k0 : Int), (k0 : Int) + 1, l) = some r ∧ ∃ (kk : Nat) (l' : List Int), r = ((kk : Int), l') ∧ l'.length = l.length ∧ kk ≤ l.length ∧ l'.take kk = l.filter fun k => !del a b k := by
      refine loopM_count _ (l.length - (k0 + 1)) (fun j s => ∃ (kk : Nat) (l' : List Int), s = ((kk : Int), ((k0 + 1 + j : Nat) : Int), l') ∧ l'.length = l.length ∧ kk ≤ k0 + j ∧ (∀ i, k0 + j + 1 ≤ i → l'[i]? = l[i]?) ∧ l'.take kk = (l.take (k0 + j + 1)).filter fun k => !del a b k) _ ?_ ?_ ?_
      · refine ⟨k0, l, rfl, rfl, by omega, fun i _ => rfl, ?_⟩
        rw [filter_take h1]
        rw [gI_at h1] at h2
        rw [h2, hk0]; simp
      · rintro j _ hj ⟨kk, l', rfl, e1, e2, e3, e4⟩
        left
        unfold m_slices_DeleteFunc_int64_int64_impl_chooser_choose_1_bint64_bint64_s1
        simp only []
        have hjl : k0 + 1 + j < l.length := by omega
        have hg : geti l' ((k0 + 1 + j : Nat) : Int) = some l[k0 + 1 + j] := by rw [geti_nat, e3 _ (by omega), List.getElem?_eq_getElem]
        rw [bif_t (by rw [e1]; simp; omega), hg]
        simp only [bind_some', delC_eq]
        have hft := filter_take' (p := fun k => !del a b k) (m := k0 + j + 1) hjl (by omega)
        cases hd : del a b l[k0 + 1 + j] with
        | true =>
          rw [bif_f (by rfl)]
          simp only [bind_some']
          refine ⟨_, rfl, kk, l', ?_, e1, by omega, fun i hi => e3 i (by omega), ?_⟩
          · rw [wr_in (by omega)]; simp only [Prod.mk.injEq, true_and, and_true]; omega
          · rw [e4, show k0 + (j + 1) + 1 = k0 + j + 1 + 1 by omega, hft]
            rw [hd]; rfl
        | false =>
          rw [bif_t (by rfl), geti_lt (l := l') (k := kk) (by omega)]
          simp only [bind_some']
          refine ⟨_, rfl, kk + 1, l'.set kk l[k0 + 1 + j], ?_, by rw [List.length_set, e1], by omega, fun i hi => ?_, ?_⟩
          · rw [wr_in (by omega), wr_in (by omega)]; simp only [Prod.mk.injEq]; exact ⟨by omega, by omega, by simp⟩
          · rw [List.getElem?_set_ne (by omega)]; exact e3 i (by omega)
          · rw [show k0 + (j + 1) + 1 = k0 + j + 1 + 1 by omega, hft]
            rw [hd, ← e4]
            rw [List.take_set, List.take_add_one, List.set_append]
            have hk' : kk < l'.length := by omega
            simp only [List.length_take, show min kk l'.length = kk by omega, Nat.lt_irrefl, if_false, Nat.sub_self, List.getElem?_eq_getElem hk']
            simp
      · rintro _ ⟨kk, l', rfl, e1, e2, e3, e4⟩
        unfold m_slices_DeleteFunc_int64_int64_impl_chooser_choose_1_bint64_bint64_s1
        simp only []
        refine ⟨_, bif_f (by rw [e1]; simp; omega), kk, l', rfl, e1, by omega, ?_⟩
        rw [e4, show k0 + (l.length - (k0 + 1)) + 1 = l.length by omega, List.take_length]
    obtain ⟨r, hr, kk, l', rfl, i2, i3, i4⟩ := key
    rw [hr]
    simp only [bind_some']
    have s2 : slci l' (kk : Int) (l'.length : Int) = some (slc l' (kk : Int) (l'.length : Int)) := by unfold slci slc; rw [if_pos (by omega)]
    have hcl : (clr (0 : Int) l' (kk : Int)).length = l'.length := by unfold clr; simp; omega
    have s3 : slci (clr (0 : Int) l' (kk : Int)) 0 (kk : Int) = some (slc (clr (0 : Int) l' (kk : Int)) 0 (kk : Int)) := by unfold slci slc; rw [if_pos (by omega)]
    rw [s2, s3]
    simp only [bind_some']
    rw [← i4]; unfold clr
    simp only [Int.toNat_natCast]
    rw [List.take_append_of_le_length (by simp; omega), List.take_take, Nat.min_self]

theorem cloneI_eq (l : List Int) (hb : l.length ≤ 1000000) : m_slices_Clone_int64_int64 l = some l := by
  unfold m_slices_Clone_int64_int64
  rw [apC_ok (by unfold lim; simp; omega)]; simp
abbrev JL := List (List Int)
/-- All pairs, in order. -/
def prs (fr : List Int) : List (Int × Int) := (List.range fr.length).flatMap fun i => (fr.drop (i + 1)).map fun b => (gI fr i, b)
def nxt (p : Nat) (J : JL) (fr : List Int) (ab : Int × Int) : List Int := fr.filter (fun k => !del ab.1 ab.2 k) ++ [((p + J.length : Nat) : Int)]
/-- All joins that continue J, in order. -/
def lv (p : Nat) : Nat → JL → List Int → List JL
  | 0, J, _ => [J]
  | n + 1, J, fr => (prs fr).flatMap fun ab => lv p n (J ++ [[ab.1, ab.2]]) (nxt p J fr ab)
def wsum (ps : List Pt) (J : JL) : Int := (WS ps J J.length).sum
section
variable {α : Type} (f : α → Int)
def stepO : Option (α × Int) → α → Option (α × Int)
  | none, x => some (x, f x)
  | some q, x => if f x < q.2 then some (x, f x) else some q
def combO : Option (α × Int) → Option (α × Int) → Option (α × Int)
  | none, y => y
  | some q, none => some q
  | some q, some r => if r.2 < q.2 then some r else some q
theorem stepO_comb (s : Option (α × Int)) (x : α) : stepO f s x = combO s (some (x, f x)) := by cases s <;> rfl
theorem combO_assoc (a b c : Option (α × Int)) : combO (combO a b) c = combO a (combO b c) := by
  cases a with
  | none => rfl
  | some a =>
    cases b with
    | none => cases c <;> rfl
    | some b =>
      cases c with
      | none =>
        show combO (if b.2 < a.2 then some b else some a) none = if b.2 < a.2 then some b else some a
        split <;> rfl
      | some c =>
        show combO (if b.2 < a.2 then some b else some a) (some c) = combO (some a) (if c.2 < b.2 then some c else some b)
        by_cases h1 : b.2 < a.2
        · by_cases h2 : c.2 < b.2
          · rw [if_pos h1, if_pos h2]
            show (if c.2 < b.2 then some c else some b) = if c.2 < a.2 then some c else some a
            rw [if_pos h2, if_pos (by omega)]
          · rw [if_pos h1, if_neg h2]
            show (if c.2 < b.2 then some c else some b) = if b.2 < a.2 then some b else some a
            rw [if_neg h2, if_pos h1]
        · by_cases h2 : c.2 < b.2
          · rw [if_neg h1, if_pos h2]
          · rw [if_neg h1, if_neg h2]
            show (if c.2 < a.2 then some c else some a) = if b.2 < a.2 then some b else some a
            rw [if_neg (by omega), if_neg h1]
def mnO (L : List α) : Option (α × Int) := L.foldl (stepO f) none
theorem foldO (L : List α) : ∀ s, L.foldl (stepO f) s = combO s (mnO f L) := by
  unfold mnO
  induction L with
  | nil => intro s; cases s <;> rfl
  | cons x L ih =>
    intro s
    simp only [List.foldl_cons]
    rw [ih, ih (stepO f none x), stepO_comb, stepO_comb, combO_assoc]; rfl
theorem mnO_append (A B : List α) : mnO f (A ++ B) = combO (mnO f A) (mnO f B) := by
  unfold mnO
  rw [List.foldl_append, foldO]; rfl
theorem mnO_least {L : List α} {x : α} {v : Int} (h : mnO f L = some (x, v)) : x ∈ L ∧ v = f x ∧ ∀ y ∈ L, v ≤ f y := by
  induction L generalizing x v with
  | nil => cases h
  | cons a L ih =>
    have e : mnO f (a :: L) = combO (some (a, f a)) (mnO f L) := by
      show L.foldl (stepO f) (some (a, f a)) = _
      rw [foldO]
    rw [e] at h
    cases hm : mnO f L with
    | none =>
      have hL : L = [] := by
        cases L with
        | nil => rfl
        | cons b L =>
          exfalso
          have e2 : mnO f (b :: L) = combO (some (b, f b)) (mnO f L) := by
            show L.foldl (stepO f) (some (b, f b)) = _
            rw [foldO]
          rw [e2] at hm
          cases h3 : mnO f L with
          | none => rw [h3] at hm; cases hm
          | some q => rw [h3] at hm; simp only [combO] at hm; split at hm <;> cases hm
      rw [hm] at h
      simp only [combO, Option.some.injEq, Prod.mk.injEq] at h
      subst hL
      obtain ⟨rfl, rfl⟩ := h
      exact ⟨by simp, rfl, fun y hy => by simp at hy; subst hy; exact Int.le_refl _⟩
    | some q =>
      rw [hm] at h
      obtain ⟨h1, h2, h3⟩ := ih hm
      simp only [combO] at h
      split at h
      · rename_i hc
        simp only [Option.some.injEq] at h
        subst h
        refine ⟨by simp [h1], h2, fun y hy => ?_⟩
        rcases List.mem_cons.1 hy with rfl | hy
        · simp only at hc; omega
        · exact h3 y hy
      · rename_i hc
        simp only [Option.some.injEq, Prod.mk.injEq] at h
        obtain ⟨rfl, rfl⟩ := h
        refine ⟨by simp, rfl, fun y hy => ?_⟩
        rcases List.mem_cons.1 hy with rfl | hy
        · exact Int.le_refl _
        · have := h3 y hy; omega
end
/-! ### What holds of joins that are begun, and the free nodes -/
structure BjI (ps : List Pt) (J : JL) (fr : List Int) : Prop where
  isP : IsP ps.length J
  srt : fr.Pairwise (· < ·)
  rng : ∀ x ∈ fr, 0 ≤ x ∧ x < ((ps.length + J.length : Nat) : Int)
  len : fr.length + J.length = ps.length
  wz : ∀ x ∈ fr, (WS ps J J.length).getD x.toNat 0 = 0
  nn : ∀ x ∈ WS ps J J.length, 0 ≤ x
  sm : wsum ps J ≤ 10000000 * J.length
theorem prs_mem {fr : List Int} (hs : fr.Pairwise (· < ·)) {a b : Int} : (a, b) ∈ prs fr ↔ a ∈ fr ∧ b ∈ fr ∧ a < b := by
  unfold prs
  rw [List.mem_flatMap]
  constructor
  · rintro ⟨i, hi, h⟩
    obtain ⟨c, hc, e⟩ := List.mem_map.1 h
    rw [List.mem_range] at hi
    obtain ⟨j, hj, rfl⟩ := List.mem_drop_iff_getElem.1 hc
    simp only [Prod.mk.injEq] at e
    obtain ⟨rfl, rfl⟩ := e
    refine ⟨gI_mem hi, List.getElem_mem _, ?_⟩
    rw [gI_at hi]
    exact List.pairwise_iff_getElem.1 hs i (i + 1 + j) hi (by omega) (by omega)
  · rintro ⟨ha, hb, hab⟩
    obtain ⟨i, hi, rfl⟩ := List.mem_iff_getElem.1 ha
    obtain ⟨k, hk, rfl⟩ := List.mem_iff_getElem.1 hb
    have hik : i < k := by
      rcases Nat.lt_trichotomy i k with h | h | h
      · exact h
      · subst h; omega
      · have := List.pairwise_iff_getElem.1 hs k i hk hi h; omega
    refine ⟨i, List.mem_range.2 hi, List.mem_map.2 ⟨fr[k], List.mem_drop_iff_getElem.2 ⟨k - (i + 1), by omega, ?_⟩, by rw [gI_at hi]⟩⟩
    congr 1; omega
theorem TM_snoc' (ps : List Pt) (J : JL) (a b : Int) : TM ps (J ++ [[a, b]]) (J ++ [[a, b]]).length = TM ps J J.length ++ [mmrg (nodeAt (TM ps J J.length) a) (nodeAt (TM ps J J.length) b)] := by
  rw [List.length_append]
  show TMs (TM ps (J ++ [[a, b]]) J.length) ((J ++ [[a, b]]).getD J.length []) = _
  rw [TM_snoc ps J _ _ (Nat.le_refl _)]
  have : (J ++ [[a, b]]).getD J.length [] = [a, b] := by simp [List.getD]
  rw [this]; rfl
theorem WS_pre (ps : List Pt) (J : JL) (row : List Int) : ∀ k, k ≤ J.length → WS ps (J ++ [row]) k = WS ps J k
  | 0, _ => rfl
  | k + 1, h => by
    show WIs (TM ps (J ++ [row]) k) ((J ++ [row]).getD k []) (WS ps (J ++ [row]) k) ++ [0] = WIs (TM ps J k) (J.getD k []) (WS ps J k) ++ [0]
    rw [WS_pre ps J row k (by omega), TM_snoc ps J row k (by omega)]
    congr 2
    simp [List.getD, List.getElem?_append_left (show k < J.length by omega)]
theorem WS_snoc' (ps : List Pt) (J : JL) (a b : Int) : WS ps (J ++ [[a, b]]) (J ++ [[a, b]]).length = ((WS ps J J.length).set a.toNat (mone (nodeAt (TM ps J J.length) a) (nodeAt (TM ps J J.length) b))).set b.toNat (mtwo (nodeAt (TM ps J J.length) a) (nodeAt (TM ps J J.length) b)) ++ [0] := by
  rw [List.length_append]
  show WIs (TM ps (J ++ [[a, b]]) J.length) ((J ++ [[a, b]]).getD J.length []) (WS ps (J ++ [[a, b]]) J.length) ++ [0] = _
  rw [TM_snoc ps J _ _ (Nat.le_refl _), WS_pre ps J _ _ (Nat.le_refl _)]
  have : (J ++ [[a, b]]).getD J.length [] = [a, b] := by simp [List.getD]
  rw [this]; rfl
theorem sum_set0 : ∀ {l : List Int} {i : Nat} {x : Int}, i < l.length → l.getD i 0 = 0 → (l.set i x).sum = l.sum + x
  | [], i, x, h, _ => by simp at h
  | a :: l, 0, x, _, h0 => by
    simp only [List.getD, List.getElem?_cons_zero, Option.getD_some] at h0
    subst h0
    simp only [List.set_cons_zero, List.sum_cons]; omega
  | a :: l, i + 1, x, h, h0 => by
    simp only [List.set_cons_succ, List.sum_cons]
    rw [sum_set0 (l := l) (i := i) (x := x) (by simpa using h) (by simpa [List.getD] using h0)]; omega
theorem mem_set_or {l : List Int} {i : Nat} {x y : Int} (h : y ∈ l.set i x) : y = x ∨ y ∈ l := (List.mem_or_eq_of_mem_set h).symm
section
variable {ps : List Pt} {J : JL} {fr : List Int} (hp : okPs ps = true) (h12 : ps.length ≤ 5)
include hp h12
theorem BjI.pair (h : BjI ps J fr) {a b : Int} (hab : (a, b) ∈ prs fr) : 0 ≤ a ∧ a < b ∧ b < ((ps.length + J.length : Nat) : Int) ∧ a ∈ fr ∧ b ∈ fr ∧ geti (TM ps J J.length) a = some (nodeAt (TM ps J J.length) a) ∧ geti (TM ps J J.length) b = some (nodeAt (TM ps J J.length) b) ∧
    MgOk (2 * 2 ^ (11 - J.length)) (J.length * 811008) (nodeAt (TM ps J J.length) a) ∧ MgOk (2 * 2 ^ (11 - J.length)) (J.length * 811008) (nodeAt (TM ps J J.length) b) := by
  obtain ⟨ha, hb, hlt⟩ := (prs_mem h.srt).1 hab
  have ra := h.rng _ ha
  have rb := h.rng _ hb
  have hl := TM_len h.isP J.length (Nat.le_refl _)
  obtain ⟨m1, g1⟩ := nodeAt_mem (ms := TM ps J J.length) (i := a) ra.1 (by omega)
  obtain ⟨m2, g2⟩ := nodeAt_mem (ms := TM ps J J.length) (i := b) rb.1 (by omega)
  have o1 := TM_ok hp h.isP J.length (Nat.le_refl _) _ m1
  have o2 := TM_ok hp h.isP J.length (Nat.le_refl _) _ m2
  have hlen := h.len
  have hps := List.length_pos_of_mem ha
  rw [pow_step (by omega)] at o1 o2
  exact ⟨ra.1, hlt, rb.2, ha, hb, g1, g2, o1, o2⟩
theorem BjI.wires (h : BjI ps J fr) {a b : Int} (hab : (a, b) ∈ prs fr) : 0 ≤ mone (nodeAt (TM ps J J.length) a) (nodeAt (TM ps J J.length) b) ∧ 0 ≤ mtwo (nodeAt (TM ps J J.length) a) (nodeAt (TM ps J J.length) b) ∧
    mone (nodeAt (TM ps J J.length) a) (nodeAt (TM ps J J.length) b) ≤ 5000000 ∧ mtwo (nodeAt (TM ps J J.length) a) (nodeAt (TM ps J J.length) b) ≤ 5000000 ∧
    wsum ps (J ++ [[a, b]]) = wsum ps J + mone (nodeAt (TM ps J J.length) a) (nodeAt (TM ps J J.length) b) + mtwo (nodeAt (TM ps J J.length) a) (nodeAt (TM ps J J.length) b) := by
  obtain ⟨h0, hlt, hb, ma, mb, _, _, o1, o2⟩ := h.pair hp h12 hab
  obtain ⟨k1, k2, _, _, _, k3, k4⟩ := mone_facts o1 o2
  have hJ := h.len
  have hw := WS_len ps J J.length
  refine ⟨k1, k2, by omega, by omega, ?_⟩
  unfold wsum
  rw [WS_snoc', List.sum_append]
  have hb' : b.toNat < ((WS ps J J.length).set a.toNat (mone (nodeAt (TM ps J J.length) a) (nodeAt (TM ps J J.length) b))).length := by rw [List.length_set]; omega
  rw [sum_set0 hb' (by
    have := h.wz b mb
    simp only [List.getD] at this ⊢
    rw [List.getElem?_set_ne (by omega)]; exact this), sum_set0 (by omega) (h.wz a ma)]
  simp
theorem BjI.next (h : BjI ps J fr) {a b : Int} (hab : (a, b) ∈ prs fr) : BjI ps (J ++ [[a, b]]) (nxt ps.length J fr (a, b)) := by
  obtain ⟨h0, hlt, hb, ma, mb, _, _, o1, o2⟩ := h.pair hp h12 hab
  obtain ⟨w1, w2, w3, w4, w5⟩ := h.wires hp h12 hab
  have hJ := h.len
  have hw := WS_len ps J J.length
  have hfl := filter_del_len (h.srt.imp (fun {a b} h e => by omega)) ma mb (by omega)
  have h2 : 2 ≤ fr.length := by
    obtain ⟨i, hi, e1⟩ := List.mem_iff_getElem.1 ma
    obtain ⟨k, hk, e2⟩ := List.mem_iff_getElem.1 mb
    have : i ≠ k := fun e => by subst e; omega
    omega
  refine ⟨⟨⟨by have := h.isP.1; omega, by omega⟩, ?_, fun k hk => ?_⟩, ?_, fun x hx => ?_, ?_, fun x hx => ?_, fun x hx => ?_, ?_⟩
  · rw [List.length_append]; simp; omega
  · rw [List.length_append] at hk
    by_cases e : k < J.length
    · obtain ⟨a', b', g1, g2⟩ := h.isP.2.2 k e
      exact ⟨a', b', by rw [List.getElem?_append_left e]; exact g1, g2⟩
    · have : k = J.length := by simp at hk; omega
      subst this
      exact ⟨a, b, by simp, h0, hlt, by omega, trivial⟩
  · unfold nxt
    rw [List.pairwise_append]
    refine ⟨h.srt.filter _, by simp, fun x hx y hy => ?_⟩
    simp only [List.mem_singleton] at hy
    subst hy
    exact (h.rng x (List.mem_filter.1 hx).1).2
  · unfold nxt at hx
    rw [List.length_append]
    rcases List.mem_append.1 hx with hx | hx
    · have := h.rng x (List.mem_filter.1 hx).1
      simp; omega
    · simp only [List.mem_singleton] at hx
      subst hx; simp; omega
  · unfold nxt
    rw [List.length_append, List.length_append, hfl]; simp; omega
  · rw [WS_snoc']
    unfold nxt at hx
    have hl2 : (((WS ps J J.length).set a.toNat (mone (nodeAt (TM ps J J.length) a) (nodeAt (TM ps J J.length) b))).set b.toNat (mtwo (nodeAt (TM ps J J.length) a) (nodeAt (TM ps J J.length) b))).length = ps.length + J.length := by simp [hw]
    rcases List.mem_append.1 hx with hx | hx
    · obtain ⟨hx1, hx2⟩ := List.mem_filter.1 hx
      have hr := h.rng x hx1
      have hz := h.wz x hx1
      unfold del at hx2
      simp only [Bool.not_eq_true', Bool.or_eq_false_iff, beq_eq_false_iff_ne, ne_eq] at hx2
      simp only [List.getD] at hz ⊢
      rw [List.getElem?_append_left (by rw [hl2]; omega), List.getElem?_set_ne (by omega), List.getElem?_set_ne (by omega)]
      exact hz
    · simp only [List.mem_singleton] at hx
      subst hx
      simp only [List.getD, Int.toNat_natCast]
      rw [List.getElem?_append_right (by rw [hl2]; exact Nat.le_refl _), hl2]; simp
  · rw [WS_snoc'] at hx
    rcases List.mem_append.1 hx with hx | hx
    · rcases mem_set_or hx with rfl | hx
      · exact w2
      · rcases mem_set_or hx with rfl | hx
        · exact w1
        · exact h.nn x hx
    · simp only [List.mem_singleton] at hx; omega
  · rw [w5, List.length_append]
    have := h.sm
    simp; omega
end
end Go.Proofs.Ytfjpfomdoohabaa
