/- The drawn wiring is a valid one, with eight segments at most. -/
import Derived.Test.YtngnljnfbfgfeaaPuBe
set_option linter.unusedSimpArgs false
set_option linter.unusedVariables false
set_option linter.unusedSectionVars false
namespace Go.Proofs.Ytngnljnfbfgfeaa
open Go.RowKit

theorem src_next {l : List Int} (hl : ∀ p ∈ l, In8 p) {k s : Int} (h0 : 0 ≤ k) (h1 : k ≤ 100000) :
    ∃ v s', m_spec_l00Src_next_bspecl00Src l k s = some (v, k + 1, s') ∧ 0 ≤ v ∧ v ≤ 255 := by
  unfold m_spec_l00Src_next_bspecl00Src
  have hand : ∀ y : Int, 0 ≤ wr (andU y 255) ∧ wr (andU y 255) ≤ 255 := fun y => by
    have := andU_range y
    rw [wr_in (by omega)]; exact this
  have step : ∀ z : Int, 0 ≤ z → z ≤ 255 → ∃ v s', (fun (x25 : Int) => (bif decide ((wr (k + 1)) ≤ (((l).length : Int))) then some ((x25, wr (k + 1), wu ((wu ((wu (s * 6364136223846793005)) + (wu x25))) + 1442695040888963407))) else some ((wr (andU (shrU (wu ((wu ((wu (s * 6364136223846793005)) + (wu x25))) + 1442695040888963407)) 40) 255), wr (k + 1), wu ((wu ((wu (s * 6364136223846793005)) + (wu x25))) + 1442695040888963407))))) z = some (v, k + 1, s') ∧ 0 ≤ v ∧ v ≤ 255 := fun z h2 h3 => by
    simp only [wr_in (x := k + 1) (by omega)]
    by_cases c : k + 1 ≤ (l.length : Int)
    · rw [bif_t (by simpa using c)]; exact ⟨_, _, rfl, h2, h3⟩
    · rw [bif_f (by simpa using c)]; exact ⟨_, _, rfl, hand _⟩
  by_cases c : k < (l.length : Int)
  · rw [bif_t (by simpa using c)]
    obtain ⟨j, rfl⟩ := Int.eq_ofNat_of_zero_le h0
    have hj : j < l.length := by omega
    rw [geti_lt hj]
    have hb := hl _ (List.getElem_mem hj)
    rw [bind_some', bind_some', wr_in (x := l[j]) (by unfold In8 at hb; omega)]
    exact step _ hb.1 (by have := hb.2; omega)
  · rw [bif_f (by simpa using c)]
    rw [bind_some']
    exact step 0 (by omega) (by omega)
theorem src_pick {l : List Int} (hl : ∀ p ∈ l, In8 p) (n : Int) {k s : Int} (h0 : 0 ≤ k) (h1 : k ≤ 1000) (h2 : 2 ≤ n) (h3 : n ≤ 200) :
    ∃ v s', m_spec_l00Src_pick_bspecl00Src l k s n = some (v, k + 1, s') ∧ 0 ≤ v ∧ v < n := by
  unfold m_spec_l00Src_pick_bspecl00Src
  rw [bif_f (by simp; omega)]
  obtain ⟨v, s', hv, g0, g1⟩ := src_next (s := s) hl h0 (by omega)
  rw [hv]
  simp only [bind_some']
  rw [bif_f (by simp; omega), nzC_ok (by omega)]
  simp only [bind_some']
  refine ⟨_, _, rfl, ?_, ?_⟩
  · exact Int.tmod_nonneg _ g0
  · rw [Int.tmod_eq_emod_of_nonneg g0]; exact Int.emod_lt_of_pos _ (by omega)
theorem src_one {l : List Int} (hl : ∀ p ∈ l, In8 p) (n : Int) {k s : Int} (h0 : 0 ≤ k) (h1 : k ≤ 1000) (h2 : 2 ≤ n) (h3 : n ≤ 200) :
    ∃ b s', m_spec_l00Src_one_bspecl00Src l k s n = some (b, k + 1, s') := by
  unfold m_spec_l00Src_one_bspecl00Src
  obtain ⟨v, s', e, _⟩ := src_pick hl n (s := s) h0 h1 h2 h3
  rw [e]
  exact ⟨_, _, rfl⟩
/-! ### Rows in ascending order -/
structure DrG (N : Int) (m : Nat) (a b : Int) (L : List (List Int)) : Prop where
  len : L.length ≤ 12
  row : ∀ r ∈ L, okRow N m r = true ∧ (m = 3 → okCost r = true) ∧ (gI r 0 < a ∨ (gI r 0 = a ∧ gI r 1 < b))
  asc : L.Pairwise (fun x y => cmpL x y < 0)
theorem DrG.nil (N : Int) (m : Nat) (a b : Int) : DrG N m a b [] := ⟨by simp, fun r hr => by simp at hr, List.Pairwise.nil⟩
theorem DrG.mono {N : Int} {m : Nat} {a b a' b' : Int} {L : List (List Int)} (h : DrG N m a b L) (hl : a < a' ∨ (a = a' ∧ b ≤ b')) : DrG N m a' b' L :=
  ⟨h.len, fun r hr => ⟨(h.row r hr).1, (h.row r hr).2.1, by have := (h.row r hr).2.2; omega⟩, h.asc⟩
theorem DrG.add {N : Int} {m : Nat} {a b : Int} {L : List (List Int)} (h : DrG N m a b L) (h12 : L.length < 12) (hm : 2 ≤ m) {t : List Int} (hr : okRow N m (a :: b :: t) = true) (hc : m = 3 → okCost (a :: b :: t) = true) : DrG N m a (b + 1) (L ++ [a :: b :: t]) := by
  refine ⟨by simp; omega, fun r hr' => ?_, ?_⟩
  · rcases List.mem_append.1 hr' with e | e
    · exact ⟨(h.row r e).1, (h.row r e).2.1, by have := (h.row r e).2.2; omega⟩
    · rw [List.mem_singleton] at e; subst e
      exact ⟨hr, hc, Or.inr ⟨rfl, show b < b + 1 by omega⟩⟩
  · rw [List.pairwise_append]
    refine ⟨h.asc, by simp, fun x hx y hy => ?_⟩
    rw [List.mem_singleton] at hy; subst hy
    obtain ⟨x1, _, x3⟩ := h.row x hx
    obtain ⟨x4, _⟩ := okRow_t x1
    match x, x4, x3 with
    | [], x4, _ => simp at x4; omega
    | [_], x4, _ => simp at x4; omega
    | p :: q :: u, _, x3 =>
      have x3' : p < a ∨ (p = a ∧ q < b) := x3
      rw [cmpL]
      by_cases e : p < a
      · rw [if_pos e]; omega
      · rw [if_neg e, if_neg (by omega), cmpL, if_pos (by omega)]; omega
theorem DrG.pairs {N : Int} {m : Nat} {a b : Int} {L : List (List Int)} (h : DrG N m a b L) : pairsV N m L = true := by
  unfold pairsV
  rw [Bool.and_eq_true, decide_eq_true_eq, Bool.not_eq_true', anyIn_f]
  refine ⟨fun k _ hk => ?_, by have := h.len; omega⟩
  unfold badR
  have hm : gR L k ∈ L := by rw [gR_at hk]; exact List.getElem_mem hk
  have h1 := (h.row _ hm).1
  rw [h1]
  by_cases e : 0 < k
  · have := List.pairwise_iff_getElem.1 h.asc (k - 1) k (by omega) hk (by omega)
    rw [gR_at hk, gR_at (by omega)]
    simp [this]
  · simp [e]
theorem DrG.costs {N : Int} {a b : Int} {L : List (List Int)} (h : DrG N 3 a b L) : costsV L = true := by
  unfold costsV
  rw [Bool.not_eq_true', anyIn_f]
  intro k _ hk
  have hm : gR L k ∈ L := by rw [gR_at hk]; exact List.getElem_mem hk
  rw [(h.row _ hm).2.1 rfl]
  rfl
theorem row2 {N : Int} {a b : Nat} (h : a < b) (h2 : (b : Int) < N) : okRow N 2 [(a : Int), (b : Int)] = true := by
  unfold okRow
  rw [show gI [(a : Int), (b : Int)] 0 = (a : Int) from rfl, show gI [(a : Int), (b : Int)] 1 = (b : Int) from rfl]
  simp; omega
theorem row3 {N : Int} {a b : Nat} {x : Int} (h : a < b) (h2 : (b : Int) < N) (hx : 0 ≤ x ∧ x < 6) : okRow N 3 [(a : Int), (b : Int), x] = true ∧ okCost [(a : Int), (b : Int), x] = true := by
  unfold okRow okCost
  rw [show gI [(a : Int), (b : Int), x] 0 = (a : Int) from rfl, show gI [(a : Int), (b : Int), x] 1 = (b : Int) from rfl, show gI [(a : Int), (b : Int), x] 2 = x from rfl]
  simp; omega
section
variable {l : List Int} (hl : ∀ p ∈ l, In8 p)
include hl
theorem draw_s5 {N i : Nat} (hN : N ≤ 14) (hi : i < N) {half : List Int} (hh : half.length = N) {c j : List (List Int)} (hc : DrG N 2 i ((i : Int) + 1) c) (hj : DrG N 3 i ((i : Int) + 1) j) {o : Bool} {k s : Int} (hk : 0 ≤ k) (hk2 : k ≤ 900) :
    ∃ r, loopM (m_spec_l07DrawOk_bspecl00Src_s5 l (N : Int) half (i : Int)) (o, (i : Int) + 1, c, j, k, s) = some r ∧ DrG N 2 i N r.2.1 ∧ DrG N 3 i N r.2.2.1 ∧ 0 ≤ r.2.2.2.1 ∧ r.2.2.2.1 ≤ k + 42 := by
  refine loopM_count _ (N - (i + 1)) (fun t s => s.2.1 = ((i + 1 + t : Nat) : Int) ∧ DrG N 2 i ((i + 1 + t : Nat) : Int) s.2.2.1 ∧ DrG N 3 i ((i + 1 + t : Nat) : Int) s.2.2.2.1 ∧ 0 ≤ s.2.2.2.2.1 ∧ s.2.2.2.2.1 ≤ k + 3 * t) _ ⟨by simp, by simpa using hc, by simpa using hj, hk, by simp⟩ ?_ ?_
  · rintro t ⟨o, x, c, j, k', s'⟩ ht ⟨e, d1, d2, d3, d4⟩
    simp only at e d1 d2 d3 d4
    subst e
    left
    unfold m_spec_l07DrawOk_bspecl00Src_s5
    simp only []
    rw [bif_t (by simp; omega), wr_in (x := ((i + 1 + t : Nat) : Int) + 1) (by omega)]
    obtain ⟨b1, s1, e1⟩ := src_one hl 4 (k := k') (s := s') d3 (by omega) (by omega) (by omega)
    rw [e1]
    simp only [bind_some']
    have c1 := d1.len
    have c2 := d2.len
    have g1 : DrG N 2 i (((i + 1 + t : Nat) : Int) + 1) c := d1.mono (by omega)
    have g2 : DrG N 3 i (((i + 1 + t : Nat) : Int) + 1) j := d2.mono (by omega)
    have hfirst : ∃ o' c', (bif b1 then (bif decide (((c.length : Nat) : Int) < 12) then (bif o then Option.bind (apC c [[(i : Int), ((i + 1 + t : Nat) : Int)]]) fun _ => some ((true, c ++ [[(i : Int), ((i + 1 + t : Nat) : Int)]], k' + 1, s1)) else Option.bind (geti half (i : Int)) fun x8940 => Option.bind (geti half ((i + 1 + t : Nat) : Int)) fun x8942 => (bif x8940 != x8942 then Option.bind (apC c [[(i : Int), ((i + 1 + t : Nat) : Int)]]) fun _ => some ((false, c ++ [[(i : Int), ((i + 1 + t : Nat) : Int)]], k' + 1, s1)) else some ((false, c, k' + 1, s1)))) else some ((o, c, k' + 1, s1))) else some ((o, c, k' + 1, s1))) = some (o', c', k' + 1, s1) ∧ DrG N 2 i (((i + 1 + t : Nat) : Int) + 1) c' := by
      cases b1 with
      | false => exact ⟨_, _, rfl, g1⟩
      | true =>
        rw [cond_true]
        by_cases h12 : ((c.length : Nat) : Int) < 12
        · have g3 : DrG N 2 i (((i + 1 + t : Nat) : Int) + 1) (c ++ [[(i : Int), ((i + 1 + t : Nat) : Int)]]) := d1.add (by omega) (by omega) (row2 (by omega) (by omega)) (by omega)
          rw [bif_t (by simpa using h12)]
          cases o with
          | true => rw [cond_true, apC_ok (by unfold lim; simp; omega)]; exact ⟨_, _, rfl, g3⟩
          | false =>
            rw [cond_false, geti_gI (by omega)]
            simp only [bind_some']
            rw [geti_gI (by omega)]
            simp only [bind_some']
            cases (gI half i != gI half (i + 1 + t)) with
            | true => rw [cond_true, apC_ok (by unfold lim; simp; omega)]; exact ⟨_, _, rfl, g3⟩
            | false => exact ⟨_, _, rfl, g1⟩
        · rw [bif_f (by simpa using h12)]
          exact ⟨_, _, rfl, g1⟩
    obtain ⟨o', c', e2, g4⟩ := hfirst
    rw [e2]
    simp only [bind_some']
    obtain ⟨b2, s2, e3⟩ := src_one hl 4 (k := k' + 1) (s := s1) (by omega) (by omega) (by omega) (by omega)
    rw [e3]
    simp only [bind_some']
    cases b2 with
    | false =>
      simp only [cond_false, bind_some']
      exact ⟨_, rfl, by simp only []; omega, by simpa [Int.add_assoc] using g4, by simpa [Int.add_assoc] using g2, by simp only []; omega, by simp only []; omega⟩
    | true =>
      rw [cond_true]
      by_cases h12 : ((j.length : Nat) : Int) < 12
      · obtain ⟨v, s3, e4, v0, v6⟩ := src_pick hl 6 (k := k' + 1 + 1) (s := s2) (by omega) (by omega) (by omega) (by omega)
        have r3 := row3 (N := (N : Int)) (a := i) (b := i + 1 + t) (x := v) (by omega) (by omega) ⟨v0, v6⟩
        have g5 : DrG N 3 i (((i + 1 + t : Nat) : Int) + 1) (j ++ [[(i : Int), ((i + 1 + t : Nat) : Int), v]]) := d2.add (by omega) (by omega) r3.1 (fun _ => r3.2)
        rw [bif_t (by simpa using h12), e4]
        simp only [bind_some']
        rw [apC_ok (by unfold lim; simp; omega)]
        simp only [bind_some']
        exact ⟨_, rfl, by simp only []; omega, by simpa [Int.add_assoc] using g4, by simpa [Int.add_assoc] using g5, by simp only []; omega, by simp only []; omega⟩
      · rw [bif_f (by simpa using h12)]
        simp only [bind_some']
        exact ⟨_, rfl, by simp only []; omega, by simpa [Int.add_assoc] using g4, by simpa [Int.add_assoc] using g2, by simp only []; omega, by simp only []; omega⟩
  · rintro ⟨o, x, c, j, k', s'⟩ ⟨e, d1, d2, d3, d4⟩
    simp only at e d1 d2 d3 d4
    subst e
    unfold m_spec_l07DrawOk_bspecl00Src_s5
    simp only []
    rw [bif_f (by simp; omega)]
    rw [show i + 1 + (N - (i + 1)) = N by omega] at d1 d2
    exact ⟨_, rfl, d1, d2, d3, by simp only []; omega⟩
theorem draw_s4 {N : Nat} (hN : N ≤ 14) {half : List Int} (hh : half.length = N) {o : Bool} {k s : Int} (hk : 0 ≤ k) (hk2 : k ≤ 100) :
    ∃ r, loopM (m_spec_l07DrawOk_bspecl00Src_s4 l (N : Int) half) (o, 0, [], [], k, s) = some r ∧ DrG N 2 N (N + 1) r.1 ∧ DrG N 3 N (N + 1) r.2.1 := by
  refine loopM_count _ N (fun t s => s.2.1 = (t : Int) ∧ DrG N 2 t ((t : Int) + 1) s.2.2.1 ∧ DrG N 3 t ((t : Int) + 1) s.2.2.2.1 ∧ 0 ≤ s.2.2.2.2.1 ∧ s.2.2.2.2.1 ≤ k + 42 * t) _ ⟨rfl, DrG.nil _ _ _ _, DrG.nil _ _ _ _, hk, by simp⟩ ?_ ?_
  · rintro t ⟨o, x, c, j, k', s'⟩ ht ⟨e, d1, d2, d3, d4⟩
    simp only at e d1 d2 d3 d4
    subst e
    left
    unfold m_spec_l07DrawOk_bspecl00Src_s4
    simp only []
    rw [bif_t (by simp; omega), wr_in (x := (t : Int) + 1) (by omega)]
    obtain ⟨r, r1, r2, r3, r4, r5⟩ := draw_s5 hl hN ht hh d1 d2 (o := o) (k := k') (s := s') d3 (by omega)
    obtain ⟨o', c', j', k2, s2⟩ := r
    rw [r1]
    simp only [bind_some']
    simp only at r2 r3 r4 r5
    exact ⟨_, rfl, by simp only []; omega, r2.mono (Or.inl (by omega)), r3.mono (Or.inl (by omega)), r4, by simp only []; omega⟩
  · rintro ⟨o, x, c, j, k', s'⟩ ⟨e, d1, d2, d3, d4⟩
    simp only at e d1 d2 d3 d4
    subst e
    unfold m_spec_l07DrawOk_bspecl00Src_s4
    simp only []
    rw [bif_f (by simp)]
    exact ⟨_, rfl, d1, d2⟩
theorem draw_s1 {N : Nat} (hN : N ≤ 14) {k s : Int} (hk : 0 ≤ k) (hk2 : k ≤ 10) :
    ∃ r, loopM (m_spec_l07DrawOk_bspecl00Src_s1 l (N : Int)) ([], 0, [], k, s) = some r ∧ r.1.length = N ∧ r.2.1.length = N ∧ (∀ x ∈ r.2.1, -1 ≤ x ∧ x ≤ 1) ∧ 0 ≤ r.2.2.1 ∧ r.2.2.1 ≤ k + 42 := by
  refine loopM_count _ N (fun t s => s.2.1 = (t : Int) ∧ s.1.length = t ∧ (∀ x ∈ s.1, 0 ≤ x ∧ x ≤ 1) ∧ s.2.2.1.length = t ∧ (∀ x ∈ s.2.2.1, -1 ≤ x ∧ x ≤ 1) ∧ 0 ≤ s.2.2.2.1 ∧ s.2.2.2.1 ≤ k + 3 * t) _ ⟨rfl, rfl, by simp, rfl, by simp, hk, by simp⟩ ?_ ?_
  · rintro t ⟨half, x, f, k', s'⟩ ht ⟨e, d1, d2, d3, d4, d5, d6⟩
    simp only at e d1 d2 d3 d4 d5 d6
    subst e
    left
    unfold m_spec_l07DrawOk_bspecl00Src_s1
    simp only []
    rw [bif_t (by simp; omega), wr_in (x := (t : Int) + 1) (by omega)]
    obtain ⟨v, s1, e1, v0, v2⟩ := src_pick hl 2 (k := k') (s := s') d5 (by omega) (by omega) (by omega)
    rw [e1]
    simp only [bind_some']
    rw [apC_ok (by unfold lim; simp; omega)]
    simp only [bind_some']
    obtain ⟨b1, s2, e2⟩ := src_one hl 5 (k := k' + 1) (s := s1) (by omega) (by omega) (by omega) (by omega)
    rw [e2]
    simp only [bind_some']
    have hl2 : (half ++ [v]).length = t + 1 := by simp; omega
    have hb2 : ∀ x ∈ half ++ [v], 0 ≤ x ∧ x ≤ 1 := fun x hx => by
      rcases List.mem_append.1 hx with e | e
      · exact d2 x e
      · rw [List.mem_singleton] at e; omega
    have hfin : ∀ (y : Int), -1 ≤ y → y ≤ 1 → (f ++ [y]).length = t + 1 ∧ ∀ x ∈ f ++ [y], -1 ≤ x ∧ x ≤ 1 := fun y y1 y2 => by
      refine ⟨by simp; omega, fun x hx => ?_⟩
      rcases List.mem_append.1 hx with e | e
      · exact d4 x e
      · rw [List.mem_singleton] at e; omega
    cases b1 with
    | false =>
      simp only [cond_false, bind_some']
      rw [apC_ok (by unfold lim; simp; omega)]
      simp only [bind_some']
      obtain ⟨q1, q2⟩ := hfin (-1) (by omega) (by omega)
      exact ⟨_, rfl, by simp only []; omega, hl2, hb2, q1, q2, by simp only []; omega, by simp only []; omega⟩
    | true =>
      simp only [cond_true]
      rw [geti_gI (by omega)]
      simp only [bind_some']
      have hx := hb2 (gI (half ++ [v]) t) (by rw [gI_at (by omega)]; exact List.getElem_mem _)
      obtain ⟨b2, s3, e3⟩ := src_one hl 6 (k := k' + 1 + 1) (s := s2) (by omega) (by omega) (by omega) (by omega)
      rw [e3]
      simp only [bind_some']
      cases b2 with
      | false =>
        simp only [cond_false, bind_some']
        rw [apC_ok (by unfold lim; simp; omega)]
        simp only [bind_some']
        obtain ⟨q1, q2⟩ := hfin (gI (half ++ [v]) t) (by omega) (by omega)
        exact ⟨_, rfl, by simp only []; omega, hl2, hb2, q1, q2, by simp only []; omega, by simp only []; omega⟩
      | true =>
        simp only [cond_true, bind_some']
        rw [apC_ok (by unfold lim; simp; omega), wr_in (x := 1 - gI (half ++ [v]) t) (by omega)]
        simp only [bind_some']
        obtain ⟨q1, q2⟩ := hfin (1 - gI (half ++ [v]) t) (by omega) (by omega)
        exact ⟨_, rfl, by simp only []; omega, hl2, hb2, q1, q2, by simp only []; omega, by simp only []; omega⟩
  · rintro ⟨half, x, f, k', s'⟩ ⟨e, d1, d2, d3, d4, d5, d6⟩
    simp only at e d1 d2 d3 d4 d5 d6
    subst e
    unfold m_spec_l07DrawOk_bspecl00Src_s1
    simp only []
    rw [bif_f (by simp)]
    exact ⟨_, rfl, d1, d3, d4, d5, by simp only []; omega⟩
theorem drawOk_eq : ∃ n c j f a b, m_spec_l07DrawOk_bspecl00Src l 0 0 = some ((n, c, j, f), a, b) ∧ validV n c j f = true := by
  unfold m_spec_l07DrawOk_bspecl00Src
  obtain ⟨v, s1, e1, v0, v8⟩ := src_pick hl 8 (k := 0) (s := 0) (by omega) (by omega) (by omega) (by omega)
  rw [e1]
  simp only [bind_some']
  obtain ⟨b1, s2, e2⟩ := src_one hl 20 (k := 0 + 1) (s := s1) (by omega) (by omega) (by omega) (by omega)
  rw [e2]
  simp only [bind_some']
  have hN : ∃ N : Nat, N ≤ 14 ∧ (bif b1 then some ((14 : Int), (0 : Int) + 1 + 1, s2) else some ((v, (0 : Int) + 1 + 1, s2))) = some ((N : Int), (0 : Int) + 1 + 1, s2) := by
    cases b1 with
    | true => exact ⟨14, by omega, rfl⟩
    | false => exact ⟨v.toNat, by omega, by rw [cond_false, show ((v.toNat : Nat) : Int) = v by omega]⟩
  obtain ⟨N, hN, e3⟩ := hN
  rw [e3]
  simp only [bind_some']
  obtain ⟨⟨half, f, k3, s3⟩, f1, f2, f3, f4, f5, f6⟩ := draw_s1 hl hN (k := 0 + 1 + 1) (s := s2) (by omega) (by omega)
  rw [f1]
  simp only [bind_some']
  simp only at f2 f3 f4 f5 f6
  obtain ⟨b2, s4, e4⟩ := src_one hl 4 (k := k3) (s := s3) (by omega) (by omega) (by omega) (by omega)
  rw [e4]
  simp only [bind_some']
  obtain ⟨⟨c, j, k5, s5⟩, g1, g2, g3⟩ := draw_s4 hl hN f2 (o := b2) (k := k3 + 1) (s := s4) (by omega) (by omega)
  rw [g1]
  simp only [bind_some']
  simp only at g2 g3
  refine ⟨_, _, _, _, _, _, rfl, ?_⟩
  unfold validV
  have e5 : fixV f = true := by
    unfold fixV
    rw [Bool.not_eq_true', anyIn_f]
    intro k _ hk
    have := f4 (gI f k) (by rw [gI_at hk]; exact List.getElem_mem hk)
    simp; omega
  rw [e5, g2.pairs, g3.pairs, g3.costs]
  simp; omega
theorem b10W_eq : ∃ n c j f, m_spec_B10Wiring l = some (n, c, j, f) ∧ validV n c j f = true ∧ n ≤ 8 := by
  unfold m_spec_B10Wiring m_spec_l00From
  simp only [bind_some']
  obtain ⟨n, c, j, f, a, b, e, hv⟩ := drawOk_eq hl
  rw [e]
  simp only [bind_some']
  by_cases h : n > 8
  · rw [bif_t (by simpa using h)]
    exact ⟨_, _, _, _, rfl, by decide, by omega⟩
  · rw [bif_f (by simpa using h)]
    exact ⟨_, _, _, _, rfl, hv, by omega⟩
end
end Go.Proofs.Ytngnljnfbfgfeaa
