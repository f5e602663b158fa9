/- The shortest odd ring, and the first of several. -/
import Derived.Test.YtngnljnfbfgfeaaPuOd2
set_option linter.unusedSimpArgs false
set_option linter.unusedVariables false
set_option linter.unusedSectionVars false
namespace Go.Proofs.Ytngnljnfbfgfeaa
open Go.RowKit

/-! ### Which lists are on a level -/
structure LevP (ok : List Int → Int → Bool) (N : Nat) (b : List Int) : Prop where
  len : b.length = N
  bit : ∀ i, i < N → gI b i = 0 ∨ gI b i = 1
  ok : ∀ i, i < N → ok (b.take i) (gI b i) = true
theorem lev_mem (ok : List Int → Int → Bool) : ∀ (N : Nat) (b : List Int), b ∈ lev ok N ↔ LevP ok N b
  | 0, b => by
    rw [lev, List.mem_singleton]
    exact ⟨fun h => by subst h; exact ⟨rfl, fun i hi => by omega, fun i hi => by omega⟩, fun h => List.length_eq_zero_iff.1 h.len⟩
  | N + 1, b => by
    rw [lev, List.mem_flatMap]
    have hk : ∀ a : List Int, b ∈ kids ok a ↔ ∃ v, (v = 0 ∨ v = 1) ∧ ok a v = true ∧ b = a ++ [v] := fun a => by
      unfold kids
      rw [List.mem_append]
      constructor
      · rintro (h | h)
        · split at h
          · rename_i h0; rw [List.mem_singleton] at h; exact ⟨0, Or.inl rfl, h0, h⟩
          · cases h
        · split at h
          · rename_i h0; rw [List.mem_singleton] at h; exact ⟨1, Or.inr rfl, h0, h⟩
          · cases h
      · rintro ⟨v, rfl | rfl, h1, rfl⟩
        · left; rw [if_pos h1]; simp
        · right; rw [if_pos h1]; simp
    have hsn : ∀ (a : List Int) (v : Int), a.length = N → gI (a ++ [v]) N = v ∧ (a ++ [v]).take N = a := fun a v h => by
      constructor
      · unfold gI; rw [List.getD_eq_getElem?_getD, List.getElem?_append_right (by omega), h]; simp
      · rw [← h, List.take_left' rfl]
    have hlt : ∀ (a : List Int) (v : Int) (i : Nat), a.length = N → i < N → gI (a ++ [v]) i = gI a i ∧ (a ++ [v]).take i = a.take i := fun a v i h hi => by
      constructor
      · unfold gI; rw [List.getD_eq_getElem?_getD, List.getElem?_append_left (by omega), ← List.getD_eq_getElem?_getD]
      · rw [List.take_append_of_le_length (by omega)]
    constructor
    · rintro ⟨a, ha, hb⟩
      obtain ⟨v, hv, ho, rfl⟩ := (hk a).1 hb
      have hP := (lev_mem ok N a).1 ha
      refine ⟨by rw [List.length_append, hP.len]; rfl, fun i hi => ?_, fun i hi => ?_⟩
      · by_cases e : i = N
        · subst e; rw [(hsn a v hP.len).1]; exact hv
        · rw [(hlt a v i hP.len (by omega)).1]; exact hP.bit i (by omega)
      · by_cases e : i = N
        · subst e; rw [(hsn a v hP.len).1, (hsn a v hP.len).2]; exact ho
        · rw [(hlt a v i hP.len (by omega)).1, (hlt a v i hP.len (by omega)).2]; exact hP.ok i (by omega)
    · intro h
      have hl := h.len
      have hb : b = b.take N ++ [gI b N] := by
        rw [gI_at (by omega), ← List.take_succ_eq_append_getElem (by omega), List.take_of_length_le (by omega)]
      have hl2 : (b.take N).length = N := by rw [List.length_take]; omega
      refine ⟨b.take N, (lev_mem ok N _).2 ⟨hl2, fun i hi => ?_, fun i hi => ?_⟩, (hk _).2 ⟨gI b N, h.bit N (by omega), h.ok N (by omega), hb⟩⟩
      · have := h.bit i (by omega)
        rw [hb, (hlt _ _ i hl2 hi).1] at this
        exact this
      · have := h.ok i (by omega)
        rw [hb, (hlt _ _ i hl2 hi).1, (hlt _ _ i hl2 hi).2] at this
        exact this
theorem noX_t {c : List (List Int)} {p : List Int} {v : Int} {k : Nat} : noX c p v k = true ↔ ∀ m : Nat, m < k → cr c (m : Int) (p.length : Int) = true → gI p m ≠ v := by
  unfold noX
  rw [List.all_eq_true]
  constructor
  · intro h m hm hc he
    have := h m (List.mem_range.2 hm)
    rw [hc, beq_iff_eq.2 he] at this
    simp at this
  · intro h m hm
    rw [List.mem_range] at hm
    cases hc : cr c (m : Int) (p.length : Int) with
    | false => simp
    | true => have := h m hm hc; simp [this]
/-- A layering in other words. -/
structure LayP (n : Int) (c : List (List Int)) (f b : List Int) : Prop where
  len : (b.length : Int) = n
  bit : ∀ i, i < n.toNat → gI b i = 0 ∨ gI b i = 1
  fix : ∀ i, i < n.toNat → gI f i < 0 ∨ gI f i = gI b i
  cro : ∀ i k : Nat, i < k → k < n.toNat → cr c (i : Int) (k : Int) = true → gI b i ≠ gI b k
theorem levp_iff {n : Int} (hn : 0 ≤ n) (c : List (List Int)) (f b : List Int) : b ∈ lev (okL f c) n.toNat ↔ LayP n c f b := by
  rw [lev_mem]
  have htk : ∀ i m : Nat, m < i → gI (b.take i) m = gI b m := fun i m h => by
    unfold gI
    rw [List.getD_eq_getElem?_getD, List.getD_eq_getElem?_getD, List.getElem?_take, if_pos h]
  constructor
  · intro h
    have hl := h.len
    have hok : ∀ i, i < n.toNat → (gI f i < 0 ∨ gI f i = gI b i) ∧ ∀ m : Nat, m < i → cr c (m : Int) (i : Int) = true → gI b m ≠ gI b i := fun i hi => by
      have := h.ok i hi
      unfold okL at this
      have hti : (b.take i).length = i := by rw [List.length_take]; omega
      rw [hti, Bool.and_eq_true, Bool.or_eq_true, decide_eq_true_eq, beq_iff_eq, noX_t, hti] at this
      exact ⟨this.1, fun m hm hc => by have := this.2 m hm hc; rw [htk i m hm] at this; exact this⟩
    exact ⟨by omega, h.bit, fun i hi => (hok i hi).1, fun i k hik hk hc => (hok k hk).2 i hik hc⟩
  · intro h
    have hl := h.len
    refine ⟨by omega, h.bit, fun i hi => ?_⟩
    have hti : (b.take i).length = i := by rw [List.length_take]; omega
    unfold okL
    rw [hti, Bool.and_eq_true, Bool.or_eq_true, decide_eq_true_eq, beq_iff_eq, noX_t, hti]
    exact ⟨h.fix i hi, fun m hm hc => by rw [htk i m hm]; exact h.cro m i hm hi hc⟩
section
variable {n : Int} {c j : List (List Int)} {f : List Int}
/-- Two colours, and so no odd closed walk. -/
theorem lay_even (h : validV n c j f = true) {g b : List Int} (hb : LayP n c g b) {r : List Int} (hr : ClW (cr c) n.toNat r) : r.length % 2 = 0 := by
  obtain ⟨h1, h2, h3⟩ := hr
  cases r with
  | nil => exact absurd rfl h1
  | cons v t =>
    have hv := h2 v (by simp)
    have hw : Wk (Ed (crG n c)) v.toNat v.toNat (t.length + 1) := chn_wk (cr_Ed h) t v v h3
    have := Wk.par (c := fun i => decide (gI b i = 1)) (fun i k he => by
      obtain ⟨e1, e2, e3⟩ := Ed_cr h i k he
      have hne : gI b i ≠ gI b k := by
        rcases Nat.lt_trichotomy i k with q | q | q
        · exact hb.cro i k q e3 e1
        · subst q; rw [cr_irr h] at e1; cases e1
        · exact (hb.cro k i q e2 (by rw [cr_comm]; exact e1)).symm
      intro he
      have b1 := hb.bit i e2
      have b2 := hb.bit k e3
      simp only [decide_eq_decide] at he
      omega) hw
    rw [List.length_cons]
    exact this.1 rfl
/-! ### The length that the program finds -/
noncomputable def farL (T : List (List Int)) (i : Nat) : List Int := (m_impl_graph_back T (i : Int)).getD []
theorem farL_eq (h : validV n c j f = true) {T : List (List Int)} (hT : Tw (crG n c) T) {i : Nat} (hi : i < n.toNat) : m_impl_graph_back T (i : Int) = some (farL T i) ∧ FarP n c i (farL T i) := by
  obtain ⟨far, h1, h2⟩ := far_eq h hT hi
  unfold farL
  rw [h1]
  exact ⟨rfl, h2⟩
structure BestP (n : Int) (c : List (List Int)) (b : Nat) : Prop where
  no : b = 0 → ∀ r, ClW (cr c) n.toNat r → r.length % 2 = 1 → False
  odd : 0 < b → b % 2 = 1 ∧ (∃ r, IsRing (cr c) n.toNat r ∧ r.length = b) ∧ ∀ r, ClW (cr c) n.toNat r → r.length % 2 = 1 → b ≤ r.length
theorem best_eq (h : validV n c j f = true) {T : List (List Int)} (hT : Tw (crG n c) T) : ∃ b : Nat, loopM (m_impl_graph_oddRing_s1 (crG n c) T) (0, 0) = some (b : Int) ∧ BestP n c b := by
  have hn := (validV_t h).1
  have hGl := crG_len n c
  have hloop : ∃ b : Int, loopM (m_impl_graph_oddRing_s1 (crG n c) T) (0, 0) = some b ∧ ((b = 0 ∧ ∀ i, i < n.toNat → gI (farL T i) (i + n.toNat) ≤ 0) ∨ (0 < b ∧ (∃ i, i < n.toNat ∧ gI (farL T i) (i + n.toNat) = b) ∧ ∀ i, i < n.toNat → 0 < gI (farL T i) (i + n.toNat) → b ≤ gI (farL T i) (i + n.toNat))) := by
    refine loopM_count _ n.toNat (fun k s => s.1 = (k : Int) ∧ ((s.2 = 0 ∧ ∀ i, i < k → gI (farL T i) (i + n.toNat) ≤ 0) ∨ (0 < s.2 ∧ (∃ i, i < n.toNat ∧ gI (farL T i) (i + n.toNat) = s.2) ∧ ∀ i, i < k → 0 < gI (farL T i) (i + n.toNat) → s.2 ≤ gI (farL T i) (i + n.toNat)))) _ ⟨rfl, Or.inl ⟨rfl, fun i hi => by omega⟩⟩ ?_ ?_
    · rintro k ⟨x, b⟩ hk ⟨e, hI⟩
      simp only at e hI
      subst e
      left
      obtain ⟨f1, f2⟩ := farL_eq h hT hk
      unfold m_impl_graph_oddRing_s1
      simp only []
      rw [bif_t (by rw [hGl]; simp; omega), f1, hGl, wr_in (x := (k : Int) + (n.toNat : Int)) (by omega), wr_in (x := (k : Int) + 1) (by omega), show (k : Int) + (n.toNat : Int) = ((k + n.toNat : Nat) : Int) by omega]
      simp only [bind_some']
      rw [geti_gI (by rw [f2.len]; omega)]
      simp only [bind_some']
      generalize hd : gI (farL T k) (k + n.toNat) = d
      have hcase : ∀ i, i < k + 1 → i < k ∨ i = k := fun i hi => by omega
      by_cases h0 : d > 0
      · rw [bif_t (by simpa using h0)]
        by_cases h1 : b = 0
        · rw [bif_t (by simpa using h1)]
          refine ⟨_, rfl, rfl, Or.inr ⟨h0, ⟨k, hk, hd⟩, fun i hi hp => ?_⟩⟩
          rcases hI with ⟨_, hI⟩ | ⟨hI, _⟩
          · rcases hcase i hi with q | q
            · have := hI i q; omega
            · subst q; simp only []; omega
          · omega
        · rw [bif_f (by simpa using h1)]
          rcases hI with ⟨hI, _⟩ | ⟨i1, i2, i3⟩
          · omega
          · by_cases h2 : d < b
            · rw [bif_t (by simpa using h2)]
              refine ⟨_, rfl, rfl, Or.inr ⟨h0, ⟨k, hk, hd⟩, fun i hi hp => ?_⟩⟩
              rcases hcase i hi with q | q
              · have := i3 i q hp; simp only []; omega
              · subst q; simp only []; omega
            · rw [bif_f (by simpa using h2)]
              refine ⟨_, rfl, rfl, Or.inr ⟨i1, i2, fun i hi hp => ?_⟩⟩
              rcases hcase i hi with q | q
              · exact i3 i q hp
              · subst q; simp only []; omega
      · rw [bif_f (by simpa using h0)]
        refine ⟨_, rfl, rfl, ?_⟩
        rcases hI with ⟨i1, i2⟩ | ⟨i1, i2, i3⟩
        · refine Or.inl ⟨i1, fun i hi => ?_⟩
          rcases hcase i hi with q | q
          · exact i2 i q
          · subst q; omega
        · refine Or.inr ⟨i1, i2, fun i hi hp => ?_⟩
          rcases hcase i hi with q | q
          · exact i3 i q hp
          · subst q; omega
    · rintro ⟨x, b⟩ ⟨e, hI⟩
      simp only at e hI
      subst e
      unfold m_impl_graph_oddRing_s1
      simp only []
      rw [bif_f (by rw [hGl]; simp)]
      exact ⟨b, rfl, hI⟩
  have hle : ∀ r, ClW (cr c) n.toNat r → r.length % 2 = 1 → ∃ i, i < n.toNat ∧ 0 < gI (farL T i) (i + n.toNat) ∧ gI (farL T i) (i + n.toNat) ≤ r.length := fun r hr ho => by
    obtain ⟨h1, h2, h3⟩ := hr
    cases r with
    | nil => exact absurd rfl h1
    | cons v t =>
      have hv := h2 v (by simp)
      have hw : Wk (Ed (crG n c)) v.toNat v.toNat (t.length + 1) := chn_wk (cr_Ed h) t v v h3
      obtain ⟨f1, f2⟩ := farL_eq h hT (i := v.toNat) (by omega)
      have := f2.low _ _ hw
      rw [List.length_cons] at ho
      rw [ho, Nat.one_mul] at this
      obtain ⟨r', r1, r2, r3⟩ := f2.odd this.1
      refine ⟨v.toNat, by omega, by omega, ?_⟩
      rw [List.length_cons]
      exact this.2
  obtain ⟨b, h1, h2⟩ := hloop
  have hb0 : 0 ≤ b := by rcases h2 with ⟨e, _⟩ | ⟨e, _⟩ <;> omega
  refine ⟨b.toNat, by rw [h1, show ((b.toNat : Nat) : Int) = b by omega], fun e r hr ho => ?_, fun hp => ?_⟩
  · obtain ⟨i, i1, i2, i3⟩ := hle r hr ho
    rcases h2 with ⟨_, q⟩ | ⟨q, _⟩
    · have := q i i1; omega
    · omega
  · rcases h2 with ⟨q, _⟩ | ⟨q, ⟨i, i1, i2⟩, q2⟩
    · omega
    · obtain ⟨f1, f2⟩ := farL_eq h hT i1
      obtain ⟨r, r1, r2, r3⟩ := f2.odd (by omega)
      have hmin : ∀ r', ClW (cr c) n.toNat r' → r'.length % 2 = 1 → b.toNat ≤ r'.length := fun r' hr' ho' => by
        obtain ⟨k, k1, k2, k3⟩ := hle r' hr' ho'
        have := q2 k k1 k2
        omega
      refine ⟨by omega, ⟨r, least_ring r1 r2 (fun r' a1 a2 => by have := hmin r' a1 a2; omega), by omega⟩, hmin⟩
theorem ring_clw {N : Nat} {A : Int → Int → Bool} {r : List Int} (h : IsRing A N r) : ClW A N r := ⟨h.ne, h.rng, h.ch⟩
theorem odd_three (h : validV n c j f = true) {r : List Int} (hr : IsRing (cr c) n.toNat r) (ho : r.length % 2 = 1) : 3 ≤ r.length := by
  cases r with
  | nil => simp at ho
  | cons v t =>
    cases t with
    | nil =>
      have : cr c v v = true := hr.ch.1
      rw [cr_irr h] at this
      cases this
    | cons x t => simp at ho ⊢; omega
/-- The first ring of so many. -/
def fR (n : Int) (c : List (List Int)) (L : Nat) : Option (List Int) := (List.range n.toNat).findSome? fun i : Nat => fd (cr c) n.toNat (L - 1) [(i : Int)]
def odF (n : Int) (c : List (List Int)) : Option (List Int) := (List.range (n.toNat + 1)).findSome? fun L => if L % 2 = 1 ∧ 3 ≤ L then fR n c L else none
theorem pa_one {A : Int → Int → Bool} {N i : Nat} (hi : i < N) : Pa A N [(i : Int)] := ⟨by simp, by simp, fun x hx => by rw [List.mem_singleton] at hx; omega, trivial⟩
theorem fR_ring {L : Nat} (hL : 1 ≤ L) {r : List Int} (hr : fR n c L = some r) : IsRing (cr c) n.toNat r ∧ r.length = L := by
  obtain ⟨i, hi, e, _⟩ := rg_some hr
  obtain ⟨s, rfl, s2, s3⟩ := fd_sound _ _ _ (pa_one hi) e
  exact ⟨s3, by simp; omega⟩
theorem fR_some {L : Nat} {r : List Int} (hr : IsRing (cr c) n.toNat r) (hl : r.length = L) : fR n c L ≠ none := by
  intro e
  unfold fR at e
  rw [List.findSome?_eq_none_iff] at e
  cases r with
  | nil => exact absurd rfl hr.ne
  | cons v t =>
    have hv := hr.rng v (by simp)
    have := e v.toNat (List.mem_range.2 (by omega))
    rw [show ((v.toNat : Nat) : Int) = v by omega] at this
    exact fd_comp (L - 1) [v] t (by simp) hr (by rw [← hl]; simp) this
theorem odF_ring {r : List Int} (hr : odF n c = some r) : IsRing (cr c) n.toNat r ∧ r.length % 2 = 1 ∧ 3 ≤ r.length := by
  obtain ⟨L, hL, e, _⟩ := rg_some hr
  split at e
  · rename_i h
    obtain ⟨h1, h2⟩ := fR_ring (by omega) e
    rw [h2]; exact ⟨h1, h⟩
  · cases e
theorem odF_none (hno : ∀ r, IsRing (cr c) n.toNat r → r.length % 2 = 1 → False) : odF n c = none := by
  cases e : odF n c with
  | none => rfl
  | some r => obtain ⟨h1, h2, _⟩ := odF_ring e; exact (hno r h1 h2).elim
theorem odF_at {b : Nat} (hb : b % 2 = 1) (h3 : 3 ≤ b) (hN : b ≤ n.toNat) (hmin : ∀ r, IsRing (cr c) n.toNat r → r.length % 2 = 1 → b ≤ r.length) (hne : fR n c b ≠ none) : odF n c = fR n c b := by
  cases e : fR n c b with
  | none => exact absurd e hne
  | some q =>
    unfold odF
    refine rg_first (k := b) (by rw [if_pos ⟨hb, h3⟩]; exact e) (fun L hL => ?_) (by omega)
    split
    · rename_i hh
      cases e2 : fR n c L with
      | none => rfl
      | some r =>
        obtain ⟨r1, r2⟩ := fR_ring (by omega) e2
        have := hmin r r1 (by omega)
        omega
    · rfl
theorem implOdd_eq (h : validV n c j f = true) : m_impl_graph_oddRing (crG n c) = some ((odF n c).getD []) := by
  have hn := (validV_t h).1
  have hGl := crG_len n c
  obtain ⟨T, t1, hT⟩ := twice_eq (G := crG n c) (by omega) (crG_rows h) (crG_in h)
  obtain ⟨b, b1, hb⟩ := best_eq h hT
  unfold m_impl_graph_oddRing
  rw [t1]
  simp only [bind_some']
  rw [b1]
  simp only [bind_some']
  have hloop : loopM (m_impl_graph_oddRing_s2 (crG n c) T (b : Int)) ((0 : Nat) : Int) = some (smO id ((List.range n.toNat).findSome? (fun i : Nat => if 0 < b then fd (cr c) n.toNat (b - 1) [(i : Int)] else none))) := by
    refine loop_fs 0 n.toNat (fun i : Nat => if 0 < b then fd (cr c) n.toNat (b - 1) [(i : Int)] else none) id (by omega) (fun j hj => by omega) (fun k _ hk _ => ?_) ?_
    · obtain ⟨f1, f2⟩ := farL_eq h hT hk
      unfold m_impl_graph_oddRing_s2
      simp only []
      rw [bif_t (by rw [hGl]; simp; omega), f1]
      simp only [bind_some']
      rw [wr_in (x := (k : Int) + 1) (by omega)]
      by_cases hb0 : 0 < b
      · have hbN : b ≤ 14 := by
          obtain ⟨_, ⟨r, r1, r2⟩, _⟩ := hb.odd hb0
          have := r1.len
          omega
        rw [bif_t (by simp; omega), if_pos hb0, hGl, dfs_eq h f2 (b - 1) [(k : Int)] 64 (by omega) (pa_one hk) rfl (by simp; omega) (by omega)]
        simp only [bind_some']
        cases fd (cr c) n.toNat (b - 1) [(k : Int)] <;> rfl
      · rw [bif_f (by simp; omega), if_neg hb0]
        rfl
    · unfold m_impl_graph_oddRing_s2
      simp only []
      rw [bif_f (by rw [hGl]; simp)]
  rw [show ((0 : Nat) : Int) = 0 from rfl] at hloop
  rw [hloop]
  simp only [bind_some']
  by_cases hb0 : 0 < b
  · obtain ⟨o1, ⟨r, r1, r2⟩, o3⟩ := hb.odd hb0
    have h3 := odd_three h r1 (by omega)
    have hlen := r1.len
    rw [odF_at o1 (by omega) (by omega) (fun r hr ho => o3 r (ring_clw hr) ho) (fR_some r1 r2)]
    unfold fR
    simp only [if_pos hb0]
    cases (List.range n.toNat).findSome? (fun i : Nat => fd (cr c) n.toNat (b - 1) [(i : Int)]) <;> rfl
  · rw [odF_none (fun r hr ho => hb.no (by omega) r (ring_clw hr) ho)]
    have : (List.range n.toNat).findSome? (fun i : Nat => if 0 < b then fd (cr c) n.toNat (b - 1) [(i : Int)] else none) = none := by
      rw [List.findSome?_eq_none_iff]
      intro x _
      rw [if_neg hb0]
    rw [this]
    rfl
/-! ### The reference -/
theorem free_valid (h : validV n c j f = true) : validV n c [] (List.replicate n.toNat (-1)) = true := by
  obtain ⟨h1, h2, h3, h4, h5⟩ := validV_t h
  unfold validV
  have e1 : fixV (List.replicate n.toNat (-1)) = true := by
    unfold fixV
    rw [Bool.not_eq_true', anyIn_f]
    intro k _ hk
    rw [List.length_replicate] at hk
    rw [gI_at (by rw [List.length_replicate]; exact hk), List.getElem_replicate]
    rfl
  have e2 : pairsV n 3 [] = true := rfl
  have e3 : costsV [] = true := rfl
  rw [e1, e2, e3, h3, List.length_replicate]
  simp
  omega
end
/-! ### The law -/
noncomputable def odV (n : Int) (c j : List (List Int)) (f : List Int) : List Int × Bool := if validV n c j f then ((odF n c).getD [], (odF n c).isSome) else ([], false)
theorem odF_len {n : Int} {c j : List (List Int)} {f : List Int} (h : validV n c j f = true) : ((odF n c).getD []).length ≤ 14 ∧ decide ((((odF n c).getD []).length : Int) > 0) = (odF n c).isSome := by
  have hn := (validV_t h).1
  cases e : odF n c with
  | none => simp
  | some r =>
    obtain ⟨h1, h2, h3⟩ := odF_ring e
    have := h1.len
    refine ⟨by simp; omega, ?_⟩
    simp; omega
theorem copy_loop (y : List Int) (hy : y.length ≤ 1000) : loopM (m_impl_OddRing_s1 y) (([] : List Int), 0) = some y := by
  have hh := loop_run (step := m_impl_OddRing_s1 y) y.length (fun k => (y.take k, (k : Int))) (r := y) (by
    intro k hk
    unfold m_impl_OddRing_s1
    simp only []
    rw [bif_t (by simpa using hk), geti_lt hk]
    simp only [bind_some']
    rw [apC_ok (by unfold lim; simp; omega), wr_in (by omega), List.take_succ_eq_append_getElem hk]
    rfl) (by
    unfold m_impl_OddRing_s1
    simp only []
    rw [bif_f (by simp), List.take_of_length_le (Nat.le_refl _)])
  exact hh
theorem implOddR_eq (n : Int) (c j : List (List Int)) (f : List Int) (h1 : c.length ≤ 140737488) (h2 : j.length ≤ 140737488) (h3 : f.length ≤ 140737488) : m_impl_OddRing n c j f = some (odV n c j f) := by
  unfold m_impl_OddRing odV
  rw [implValid_eq n c j f h1 h2 h3]
  simp only [bind_some']
  cases hv : validV n c j f with
  | false => rfl
  | true =>
    rw [bif_f (by rfl), crossed_eq hv]
    simp only [bind_some']
    rw [implOdd_eq hv]
    simp only [bind_some']
    obtain ⟨l1, l2⟩ := odF_len hv
    rw [copy_loop _ (by omega)]
    simp only [bind_some']
    rw [l2]
    rfl
theorem odV_small (n : Int) (c j : List (List Int)) (f : List Int) : (odV n c j f).1.length ≤ 14 := by
  unfold odV
  cases hv : validV n c j f with
  | false => simp
  | true => exact (odF_len hv).1
end Go.Proofs.Ytngnljnfbfgfeaa
