/- The program's search for the shortest odd ring. -/
import Derived.Test.YtngnljnfbfgfeaaPuOd1
set_option linter.unusedSimpArgs false
set_option linter.unusedVariables false
set_option linter.unusedSectionVars false
namespace Go.Proofs.Ytngnljnfbfgfeaa
open Go.RowKit

theorem sortI_sorted (l : List Int) : (sortI l).Pairwise (· ≤ ·) := by
  have := List.pairwise_mergeSort (le := fun x y : Int => decide (x ≤ y)) (by intro a b c; simp; omega) (by intro a b; simp; omega) l
  exact this.imp (by simp)
theorem findSome?_at {α β : Type} {f : α → Option β} {q : β} : ∀ {l : List α} {k : Nat} (hk : k < l.length), (∀ x ∈ l.take k, f x = none) → f l[k] = some q → l.findSome? f = some q
  | [], _, hk, _, _ => absurd hk (Nat.not_lt_zero _)
  | a :: t, 0, _, _, h => by rw [List.findSome?_cons]; simp only [List.getElem_cons_zero] at h; rw [h]
  | a :: t, k + 1, hk, h1, h2 => by
    rw [List.findSome?_cons, h1 a (by simp)]
    exact findSome?_at (l := t) (k := k) (by simpa using hk) (fun x hx => h1 x (by simp [hx])) (by simpa using h2)
/-! ### Each number twice -/
structure Tw (G T : List (List Int)) : Prop where
  len : T.length = 2 * G.length
  lo : ∀ i, i < G.length → gR T i = (gR G i).map (· + (G.length : Int))
  hi : ∀ i, i < G.length → gR T (i + G.length) = gR G i
section
variable {G : List (List Int)} (hG : G.length ≤ 14) (hr : ∀ r ∈ G, r.length ≤ 1000) (hx : ∀ i k, i < G.length → k ∈ gR G i → 0 ≤ k ∧ k < G.length)
include hG hr hx
theorem tw4_eq {i : Nat} (hi : i < G.length) {T0 : List (List Int)} (hl : T0.length = 2 * G.length) (h1 : gR T0 i = []) (h2 : gR T0 (i + G.length) = []) :
    ∃ T, loopM (m_impl_graph_twice_s4 G (i : Int) (gR G i)) (T0, 0) = some T ∧ T.length = 2 * G.length ∧ gR T i = (gR G i).map (· + (G.length : Int)) ∧ gR T (i + G.length) = gR G i ∧ ∀ u, u ≠ i → u ≠ i + G.length → gR T u = gR T0 u := by
  have hrow := hr _ (gR_mem hi)
  refine loopM_count _ (gR G i).length (fun k s => s.2 = (k : Int) ∧ s.1.length = 2 * G.length ∧ gR s.1 i = ((gR G i).take k).map (· + (G.length : Int)) ∧ gR s.1 (i + G.length) = (gR G i).take k ∧ ∀ u, u ≠ i → u ≠ i + G.length → gR s.1 u = gR T0 u) _ ⟨rfl, hl, by rw [h1]; rfl, by rw [h2]; rfl, fun _ _ _ => rfl⟩ ?_ ?_
  · rintro k ⟨T, x⟩ hk ⟨e, e1, e2, e3, e4⟩
    simp only at e e1 e2 e3 e4
    subst e
    left
    have hxk := hx i (gR G i)[k] hi (List.getElem_mem hk)
    unfold m_impl_graph_twice_s4
    simp only []
    rw [bif_t (by simpa using hk), geti_lt hk]
    simp only [bind_some']
    rw [wr_in (x := (gR G i)[k] + (G.length : Int)) (by omega), wr_in (x := (i : Int) + (G.length : Int)) (by omega), wr_in (x := (k : Int) + 1) (by omega), geti_gR (c := T) (by omega)]
    simp only [bind_some']
    rw [apC_ok (by rw [e2]; unfold lim; simp; omega)]
    simp only [bind_some']
    rw [show (i : Int) + (G.length : Int) = ((i + G.length : Nat) : Int) by omega, geti_gR (by rw [List.length_set]; omega)]
    simp only [bind_some', Int.toNat_natCast]
    rw [gR_set, if_neg (by omega), apC_ok (by rw [e3]; unfold lim; simp; omega)]
    simp only [bind_some']
    refine ⟨_, rfl, by simp only []; omega, by simp only [List.length_set]; exact e1, ?_, ?_, fun u hu1 hu2 => ?_⟩
    · simp only []
      rw [gR_set, if_neg (by omega), gR_set, if_pos ⟨rfl, by omega⟩, e2, List.take_add_one, List.getElem?_eq_getElem hk, List.map_append]
      rfl
    · simp only []
      rw [gR_set, if_pos ⟨rfl, by rw [List.length_set]; omega⟩, e3, List.take_add_one, List.getElem?_eq_getElem hk]
      rfl
    · simp only []
      rw [gR_set, if_neg (by omega), gR_set, if_neg (by omega)]
      exact e4 u hu1 hu2
  · rintro ⟨T, x⟩ ⟨e, e1, e2, e3, e4⟩
    simp only at e e1 e2 e3 e4
    subst e
    refine ⟨T, ?_, e1, by rw [e2, List.take_of_length_le (Nat.le_refl _)], by rw [e3, List.take_of_length_le (Nat.le_refl _)], e4⟩
    unfold m_impl_graph_twice_s4
    simp only []
    rw [bif_f (by simp)]
theorem twice_eq : ∃ T, m_impl_graph_twice G = some T ∧ Tw G T := by
  have hrep : ∀ u, gR (List.replicate (2 * G.length) ([] : List Int)) u = [] := fun u => by
    unfold gR
    rw [List.getD_eq_getElem?_getD, List.getElem?_replicate]
    split <;> rfl
  have hh : ∃ T, loopM (m_impl_graph_twice_s3 G) (List.replicate (2 * G.length) ([] : List Int), 0) = some T ∧ Tw G T := by
    refine loopM_count _ G.length (fun k s => s.2 = (k : Int) ∧ s.1.length = 2 * G.length ∧ (∀ i, i < k → gR s.1 i = (gR G i).map (· + (G.length : Int)) ∧ gR s.1 (i + G.length) = gR G i) ∧ ∀ i, k ≤ i → i < G.length → gR s.1 i = [] ∧ gR s.1 (i + G.length) = []) _ ⟨rfl, by simp, fun i hi => by omega, fun i _ _ => ⟨hrep _, hrep _⟩⟩ ?_ ?_
    · rintro k ⟨T0, x⟩ hk ⟨e, e1, e2, e3⟩
      simp only at e e1 e2 e3
      subst e
      left
      obtain ⟨f1, f2⟩ := e3 k (Nat.le_refl _) hk
      obtain ⟨T, t1, t2, t3, t4, t5⟩ := tw4_eq hG hr hx hk e1 f1 f2
      unfold m_impl_graph_twice_s3
      simp only []
      rw [bif_t (by simpa using hk), geti_gR hk]
      simp only [bind_some']
      rw [t1, wr_in (by omega)]
      refine ⟨_, rfl, by simp only []; omega, t2, fun i hi => ?_, fun i hi hi2 => ?_⟩
      · by_cases e : i = k
        · subst e; exact ⟨t3, t4⟩
        · simp only []
          rw [t5 i e (by omega), t5 (i + G.length) (by omega) (by omega)]
          exact e2 i (by omega)
      · simp only []
        rw [t5 i (by omega) (by omega), t5 (i + G.length) (by omega) (by omega)]
        exact e3 i (by omega) hi2
    · rintro ⟨T, x⟩ ⟨e, e1, e2, e3⟩
      simp only at e e1 e2 e3
      subst e
      refine ⟨T, ?_, e1, fun i hi => (e2 i hi).1, fun i hi => (e2 i hi).2⟩
      unfold m_impl_graph_twice_s3
      simp only []
      rw [bif_f (by simp)]
  obtain ⟨T, t1, t2⟩ := hh
  refine ⟨T, ?_, t2⟩
  unfold m_impl_graph_twice
  rw [wr_in (by omega), show (2 : Int) * (G.length : Int) = ((2 * G.length : Nat) : Int) by omega, mkC_ok (by unfold lim; omega)]
  simp only [bind_some', Int.toNat_natCast]
  rw [t1]
  rfl
end
/-! ### The wiring's graph -/
section
variable {n : Int} {c j : List (List Int)} {f : List Int}
theorem crG_srt (h : validV n c j f = true) {i : Nat} (hi : i < n.toNat) : (gR (crG n c) i).Pairwise (· ≤ ·) := by
  have e : gR (crG n c) i = sortI (gR (grF n.toNat c c.length) i) := by
    have h1 : i < (grF n.toNat c c.length).length := by rw [grF_len]; omega
    rw [gR_at (by rw [crG_len]; omega), gR_at h1]
    unfold crG
    rw [List.getElem_map]
  rw [e]
  exact sortI_sorted _
theorem crG_in (h : validV n c j f = true) (i : Nat) (k : Int) (hi : i < (crG n c).length) (hk : k ∈ gR (crG n c) i) : 0 ≤ k ∧ k < (crG n c).length := by
  have hn := (validV_t h).1
  rw [crG_len] at hi
  have := cr_rng h (((crG_row h (i := i) (by omega)).2 k).1 hk)
  rw [crG_len]; omega
theorem cr_Ed (h : validV n c j f = true) (x y : Int) (hc : cr c x y = true) : Ed (crG n c) x.toNat y.toNat := by
  have h1 := cr_rng h hc
  have h2 := cr_rng h (by rw [cr_comm]; exact hc : cr c y x = true)
  rw [Ed_iff h]
  refine ⟨by omega, by omega, ?_⟩
  rw [show ((x.toNat : Nat) : Int) = x by omega, show ((y.toNat : Nat) : Int) = y by omega]; exact hc
theorem Ed_cr (h : validV n c j f = true) (i k : Nat) (he : Ed (crG n c) i k) : cr c (i : Int) (k : Int) = true ∧ i < n.toNat ∧ k < n.toNat := by
  rw [Ed_iff h] at he; exact ⟨he.2.2, he.1, he.2.1⟩
theorem cr_irr (h : validV n c j f = true) (x : Int) : cr c x x = false := by
  cases hc : cr c x x with
  | false => rfl
  | true =>
    unfold cr at hc
    obtain ⟨r, hr, hh⟩ := List.any_eq_true.1 hc
    obtain ⟨k, hk, rfl⟩ := List.mem_iff_getElem.1 hr
    have := crow h hk
    rw [gR_at hk] at this
    simp only [Bool.or_eq_true, Bool.and_eq_true, beq_iff_eq] at hh
    omega
structure FarP (n : Int) (c : List (List Int)) (i : Nat) (far : List Int) : Prop where
  len : far.length = 2 * n.toNat
  low : ∀ k L, Wk (Ed (crG n c)) i k L → 0 ≤ gI far (k + (L % 2) * n.toNat) ∧ gI far (k + (L % 2) * n.toNat) ≤ L
  odd : 0 ≤ gI far (i + n.toNat) → ∃ r, ClW (cr c) n.toNat r ∧ r.length % 2 = 1 ∧ (r.length : Int) = gI far (i + n.toNat)
theorem far_eq (h : validV n c j f = true) {T : List (List Int)} (hT : Tw (crG n c) T) {i : Nat} (hi : i < n.toNat) : ∃ far, m_impl_graph_back T (i : Int) = some far ∧ FarP n c i far := by
  have hn := (validV_t h).1
  have hGl := crG_len n c
  have hTl : T.length = 2 * n.toNat := by rw [hT.len, hGl]
  have hTr : ∀ r ∈ T, r.length ≤ 1000 := by
    intro r hr
    obtain ⟨u, hu, rfl⟩ := List.mem_iff_getElem.1 hr
    rw [← gR_at hu]
    by_cases e : u < n.toNat
    · rw [hT.lo u (by omega), List.length_map]; exact crG_rows h _ (gR_mem (by omega))
    · have := hT.hi (u - n.toNat) (by omega)
      rw [hGl, show u - n.toNat + n.toNat = u by omega] at this
      rw [this]; exact crG_rows h _ (gR_mem (by omega))
  obtain ⟨far, f1, f2⟩ := back_eq (G := T) (by omega) hTr (t := i) (by omega)
  refine ⟨far, f1, by rw [f2.len, hTl], fun k L hw => ?_, fun h0 => ?_⟩
  · refine f2.sh _ _ ?_
    induction hw with
    | here => simpa using Wk.here
    | step he hw' ih =>
      rename_i u v L
      have he' := (Ed_iff h).1 he
      have he2 : (v : Int) ∈ gR (crG n c) u := he.2.2
      refine Wk.step ?_ ih
      by_cases hp : L % 2 = 0
      · rw [hp, show (L + 1) % 2 = 1 by omega]
        refine ⟨by omega, by omega, ?_⟩
        rw [Nat.one_mul, Nat.zero_mul, Nat.add_zero, ← hGl, hT.hi u (by omega)]
        exact he2
      · rw [show L % 2 = 1 by omega, show (L + 1) % 2 = 0 by omega]
        refine ⟨by omega, by omega, ?_⟩
        rw [Nat.one_mul, Nat.zero_mul, Nat.add_zero, hT.lo u (by omega), List.mem_map]
        exact ⟨(v : Int), he2, by rw [hGl]; omega⟩
  · have hw := f2.wk (i + n.toNat) (by omega) h0
    have key : ∀ u L, Wk (Ed T) i u L → Wk (Ed (crG n c)) i (if u < n.toNat then u else u - n.toNat) L ∧ L % 2 = (if u < n.toNat then 0 else 1) := by
      intro u L hw
      induction hw with
      | here => rw [if_pos hi, if_pos hi]; exact ⟨Wk.here, rfl⟩
      | step he hw' ih =>
        rename_i u v L
        obtain ⟨h1, h2, h3⟩ := he
        by_cases e : u < n.toNat
        · rw [hT.lo u (by omega), List.mem_map] at h3
          obtain ⟨k, k1, k2⟩ := h3
          have hk := crG_in h u k (by omega) k1
          rw [hGl] at k2 hk
          rw [if_neg (by omega), if_neg (by omega)] at ih
          rw [if_pos e, if_pos e]
          refine ⟨Wk.step ⟨by omega, by omega, ?_⟩ ih.1, by omega⟩
          rw [show ((v - n.toNat : Nat) : Int) = k by omega]; exact k1
        · have := hT.hi (u - n.toNat) (by omega)
          rw [hGl, show u - n.toNat + n.toNat = u by omega] at this
          rw [this] at h3
          have hk := crG_in h (u - n.toNat) (v : Int) (by omega) h3
          rw [hGl] at hk
          rw [if_pos (by omega), if_pos (by omega)] at ih
          rw [if_neg e, if_neg e]
          exact ⟨Wk.step ⟨by omega, by omega, h3⟩ ih.1, by omega⟩
    obtain ⟨w1, w2⟩ := key _ _ hw
    rw [if_neg (by omega), show i + n.toNat - n.toNat = i by omega] at w1
    rw [if_neg (by omega)] at w2
    rcases wk_chn (A := cr c) (N := n.toNat) (Ed_cr h) w1 with h' | ⟨l, l1, l2, l3⟩
    · omega
    · refine ⟨(i : Int) :: l, ⟨by simp, l3, l2⟩, by rw [List.length_cons]; omega, ?_⟩
      rw [List.length_cons]; omega
/-! ### The depth-first search -/
theorem dfs_eq (h : validV n c j f = true) {i : Nat} {far : List Int} (hf : FarP n c i far) {B : Nat} : ∀ (m : Nat) (p : List Int) (fuel : Nat), m < fuel → Pa (cr c) n.toNat p → p.headD 0 = (i : Int) → p.length + m = B → B ≤ 1000 →
    m_impl_graph_oddRing_1_bint_bint_bimplgraph_bint_bint_bint_bfuncbool_self fuel p (B : Int) (crG n c) (i : Int) far (n.toNat : Int) = some (match fd (cr c) n.toNat m p with | none => (false, p) | some r => (true, r)) := by
  have hn := (validV_t h).1
  have hGl := crG_len n c
  intro m
  induction m with
  | zero =>
    intro p fuel hfu hp hh hl hB
    obtain ⟨fuel, rfl⟩ : ∃ k, fuel = k + 1 := ⟨fuel - 1, by omega⟩
    have hpl : 0 < p.length := List.length_pos_iff.2 hp.ne
    have hlm := hp.rng _ (lst_mem p hp.ne)
    rw [m_impl_graph_oddRing_1_bint_bint_bimplgraph_bint_bint_bint_bfuncbool_self]
    unfold m_impl_graph_oddRing_1_bint_bint_bimplgraph_bint_bint_bint_bfuncbool_self_body
    rw [wr_in (x := (p.length : Int) - 1) (by omega), show (p.length : Int) - 1 = ((p.length - 1 : Nat) : Int) by omega, geti_gI (by omega), lst_at p hp.ne]
    simp only [bind_some']
    rw [wr_in (by omega), bif_t (by rw [beq_iff_eq]; omega), geti_gR' hlm.1 (by rw [hGl]; omega)]
    simp only [bind_some']
    have hrow := crG_row h (i := (lst p).toNat) (by omega)
    rw [Contains_eq _ _ (by omega)]
    simp only [bind_some']
    rw [fd, hh]
    have hiff := hrow.2 (i : Int)
    rw [show (((lst p).toNat : Nat) : Int) = lst p by omega] at hiff
    by_cases hc : cr c (lst p) (i : Int) = true
    · rw [if_pos hc, decide_eq_true (hiff.2 hc)]
    · rw [if_neg hc, decide_eq_false (fun h' => hc (hiff.1 h'))]
  | succ m ih =>
    intro p fuel hfu hp hh hl hB
    obtain ⟨fuel, rfl⟩ : ∃ k, fuel = k + 1 := ⟨fuel - 1, by omega⟩
    have hpl : 0 < p.length := List.length_pos_iff.2 hp.ne
    have hpN : p.length ≤ n.toNat := nodupI_le _ _ hp.nd hp.rng
    have hlm := hp.rng _ (lst_mem p hp.ne)
    rw [m_impl_graph_oddRing_1_bint_bint_bimplgraph_bint_bint_bint_bfuncbool_self]
    unfold m_impl_graph_oddRing_1_bint_bint_bimplgraph_bint_bint_bint_bfuncbool_self_body
    rw [wr_in (x := (p.length : Int) - 1) (by omega), show (p.length : Int) - 1 = ((p.length - 1 : Nat) : Int) by omega, geti_gI (by omega), lst_at p hp.ne]
    simp only [bind_some']
    rw [wr_in (x := (B : Int) - (p.length : Int)) (by omega), bif_f (by rw [beq_eq_false_iff_ne]; omega), geti_gR' hlm.1 (by rw [hGl]; omega)]
    simp only [bind_some']
    have hrow := crG_row h (i := (lst p).toNat) (by omega)
    have hrs := crG_srt h (i := (lst p).toNat) (by omega)
    rw [show (((lst p).toNat : Nat) : Int) = lst p by omega] at hrow
    generalize hR : gR (crG n c) (lst p).toNat = row at *
    -- what each neighbour gives
    have hrng : ∀ x ∈ row, 0 ≤ x ∧ x < n.toNat ∧ cr c (lst p) x = true := fun x hx => by
      have h1 := (hrow.2 x).1 hx
      have h2 := cr_rng h h1
      exact ⟨h2.1, by omega, h1⟩
    have hfd : fd (cr c) n.toNat (m + 1) p = row.findSome? fun x => if x ∈ p then none else fd (cr c) n.toNat m (p ++ [x]) := by
      rw [fd]
      refine (fs_eq hrs (fun x hx => ?_) (fun k hk hn => ?_)).symm
      · obtain ⟨h1, h2, h3⟩ := hrng x hx
        refine ⟨h1, h2, ?_⟩
        rw [show ((x.toNat : Nat) : Int) = x by omega, if_pos h3]
      · have : ¬ cr c (lst p) (k : Int) = true := fun h' => hn ((hrow.2 _).2 h')
        rw [if_neg this]
        split <;> rfl
    rw [hfd]
    have hloop : loopM (m_impl_graph_oddRing_1_bint_bint_bimplgraph_bint_bint_bint_bfuncbool_self_s1 (m_impl_graph_oddRing_1_bint_bint_bimplgraph_bint_bint_bint_bfuncbool_self fuel) p (B : Int) (crG n c) (i : Int) far (n.toNat : Int) row) (0, p) =
        some (match row.findSome? (fun x => if x ∈ p then none else fd (cr c) n.toNat m (p ++ [x])) with | none => .inl p | some r => .inr (true, r)) := by
      refine loopM_val _ row.length (fun k s => s = ((k : Int), p) ∧ ∀ x ∈ row.take k, (if x ∈ p then none else fd (cr c) n.toNat m (p ++ [x])) = none) ⟨rfl, by simp⟩ ?_ ?_
      · rintro k _ hk ⟨rfl, hall⟩
        obtain ⟨x1, x2, x3⟩ := hrng row[k] (List.getElem_mem hk)
        have hsnoc : ∀ h' : (if row[k] ∈ p then none else fd (cr c) n.toNat m (p ++ [row[k]])) = none, ∀ x ∈ row.take (k + 1), (if x ∈ p then none else fd (cr c) n.toNat m (p ++ [x])) = none := fun h' x hx => by
          rw [List.take_add_one, List.getElem?_eq_getElem hk] at hx
          rcases List.mem_append.1 hx with e | e
          · exact hall x e
          · simp at e; subst e; exact h'
        unfold m_impl_graph_oddRing_1_bint_bint_bimplgraph_bint_bint_bint_bfuncbool_self_s1
        simp only []
        rw [bif_t (by simpa using hk), geti_lt hk, wr_in (x := (B : Int) - (p.length : Int)) (by omega), wr_in (x := (k : Int) + 1) (by omega)]
        simp only [bind_some']
        have hmod : Int.tmod ((B : Int) - (p.length : Int)) 2 = (((m + 1) % 2 : Nat) : Int) := by
          rw [show (B : Int) - (p.length : Int) = ((m + 1 : Nat) : Int) by omega]; rfl
        rw [hmod]
        have hm2 : ((m + 1) % 2 = 0 ∨ (m + 1) % 2 = 1) := by omega
        have hidx : row[k] + (((m + 1) % 2 : Nat) : Int) * (n.toNat : Int) = ((row[k].toNat + (m + 1) % 2 * n.toNat : Nat) : Int) := by
          rcases hm2 with e | e <;> rw [e] <;> omega
        have hb : row[k].toNat + (m + 1) % 2 * n.toNat < 2 * n.toNat := by rcases hm2 with e | e <;> rw [e] <;> omega
        have hsm : (((m + 1) % 2 : Nat) : Int) * (n.toNat : Int) ≤ 14 ∧ 0 ≤ (((m + 1) % 2 : Nat) : Int) * (n.toNat : Int) := by rcases hm2 with e | e <;> rw [e] <;> omega
        rw [wr_in (x := (((m + 1) % 2 : Nat) : Int) * (n.toNat : Int)) (by omega), wr_in (x := row[k] + (((m + 1) % 2 : Nat) : Int) * (n.toNat : Int)) (by omega), hidx, geti_gI (by rw [hf.len]; exact hb), Contains_eq _ _ (by omega)]
        simp only [bind_some']
        by_cases hin : row[k] ∈ p
        · left
          rw [decide_eq_true hin]
          exact ⟨_, rfl, rfl, hsnoc (by rw [if_pos hin])⟩
        · rw [decide_eq_false hin, cond_false]
          have hPa : Pa (cr c) n.toNat (p ++ [row[k]]) := by
            have := hp.snoc (k := row[k].toNat) (by omega) (by rw [show ((row[k].toNat : Nat) : Int) = row[k] by omega]; exact hin) (by rw [show ((row[k].toNat : Nat) : Int) = row[k] by omega]; exact x3)
            rw [show ((row[k].toNat : Nat) : Int) = row[k] by omega] at this
            exact this
          have hd : ∀ r, fd (cr c) n.toNat m (p ++ [row[k]]) = some r → 0 ≤ gI far (row[k].toNat + (m + 1) % 2 * n.toNat) ∧ gI far (row[k].toNat + (m + 1) % 2 * n.toNat) ≤ ((m + 1 : Nat) : Int) := by
            intro r e
            obtain ⟨s, rfl, s2, s3⟩ := fd_sound m _ r hPa e
            have hc := s3.ch
            have hhd : (p ++ [row[k]] ++ s).headD 0 = (i : Int) := by
              rw [← hh]
              cases p with
              | nil => exact absurd rfl hp.ne
              | cons a t => rfl
            rw [hhd, show p ++ [row[k]] ++ s ++ [(i : Int)] = p ++ (row[k] :: (s ++ [(i : Int)])) by simp] at hc
            have := chn_wk (cr_Ed h) s row[k] (i : Int) (chn_right _ _ hc)
            rw [s2, Int.toNat_natCast] at this
            exact hf.low _ _ this
          by_cases hd0 : gI far (row[k].toNat + (m + 1) % 2 * n.toNat) < 0
          · left
            rw [decide_eq_true hd0]
            refine ⟨_, rfl, rfl, hsnoc ?_⟩
            rw [if_neg hin]
            cases hq : fd (cr c) n.toNat m (p ++ [row[k]]) with
            | none => rfl
            | some r => have := hd r hq; omega
          · rw [decide_eq_false hd0, cond_false]
            by_cases hd1 : gI far (row[k].toNat + (m + 1) % 2 * n.toNat) > (B : Int) - (p.length : Int)
            · left
              rw [decide_eq_true hd1]
              refine ⟨_, rfl, rfl, hsnoc ?_⟩
              rw [if_neg hin]
              cases hq : fd (cr c) n.toNat m (p ++ [row[k]]) with
              | none => rfl
              | some r => have := hd r hq; omega
            · rw [decide_eq_false hd1, cond_false, apC_ok (by unfold lim; simp; omega)]
              simp only [bind_some']
              rw [ih (p ++ [row[k]]) fuel (by omega) hPa (by
                rw [← hh]
                cases p with
                | nil => exact absurd rfl hp.ne
                | cons a t => rfl) (by simp; omega) hB]
              simp only [bind_some']
              cases hq : fd (cr c) n.toNat m (p ++ [row[k]]) with
              | none =>
                left
                simp only [cond_false]
                have e1 : wr ((((p ++ [row[k]]).length : Nat) : Int) - 1) = ((p.length : Nat) : Int) := by
                  rw [wr_in (by simp; omega)]; simp
                rw [e1, slci_take (by simp)]
                simp only [bind_some', Int.toNat_natCast]
                refine ⟨_, rfl, ?_, hsnoc (by rw [if_neg hin]; exact hq)⟩
                rw [List.take_left' rfl]; rfl
              | some r =>
                right
                simp only [cond_true]
                have : row.findSome? (fun x => if x ∈ p then none else fd (cr c) n.toNat m (p ++ [x])) = some r := by
                  refine findSome?_at hk hall ?_
                  simp only [if_neg hin, hq]
                rw [this]
      · rintro _ ⟨rfl, hall⟩
        rw [List.take_of_length_le (Nat.le_refl _)] at hall
        have : row.findSome? (fun x => if x ∈ p then none else fd (cr c) n.toNat m (p ++ [x])) = none := List.findSome?_eq_none_iff.2 hall
        rw [this]
        unfold m_impl_graph_oddRing_1_bint_bint_bimplgraph_bint_bint_bint_bfuncbool_self_s1
        simp only []
        rw [bif_f (by simp)]
    rw [hloop]
    cases row.findSome? (fun x => if x ∈ p then none else fd (cr c) n.toNat m (p ++ [x])) <;> rfl
end
end Go.Proofs.Ytngnljnfbfgfeaa
