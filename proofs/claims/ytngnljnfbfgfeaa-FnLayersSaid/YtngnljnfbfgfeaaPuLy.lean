/- FnLayers: all lists of layers are tried; the first one with the least cost is the best one. -/
import Derived.Test.YtngnljnfbfgfeaaPuOd3
import Derived.Test.YtngnljnfbfgfeaaPuDrW
set_option linter.unusedSimpArgs false
set_option linter.unusedVariables false
set_option linter.unusedSectionVars false
namespace Go.Proofs.Ytngnljnfbfgfeaa
open Go.RowKit

/-! ### Bits -/
def bitsF (N x : Nat) : List Int := (List.range N).map fun i => ((x / 2 ^ (N - 1 - i) % 2 : Nat) : Int)
theorem bitsF_len (N x : Nat) : (bitsF N x).length = N := by unfold bitsF; simp
theorem bitsF_succ (N x : Nat) : bitsF (N + 1) x = bitsF N (x / 2) ++ [((x % 2 : Nat) : Int)] := by
  unfold bitsF
  rw [List.range_succ, List.map_append]
  congr 1
  · refine List.map_congr_left (fun i hi => ?_)
    rw [List.mem_range] at hi
    rw [show N + 1 - 1 - i = (N - 1 - i) + 1 by omega, Nat.div_div_eq_div_mul, Nat.pow_succ, Nat.mul_comm 2]
  · simp
theorem range_two {α : Type} (g : Nat → α) : ∀ m : Nat, (List.range (2 * m)).map g = (List.range m).flatMap fun a => [g (2 * a), g (2 * a + 1)]
  | 0 => rfl
  | m + 1 => by
    rw [show 2 * (m + 1) = 2 * m + 1 + 1 by omega, List.range_succ, List.range_succ, List.map_append, List.map_append, range_two g m, List.range_succ, List.flatMap_append]
    simp
theorem lev_all : ∀ N : Nat, lev (fun _ _ => true) N = (List.range (2 ^ N)).map (bitsF N)
  | 0 => rfl
  | N + 1 => by
    rw [lev, lev_all N, Nat.pow_succ, Nat.mul_comm, range_two, List.flatMap_map]
    congr 1
    funext a
    rw [bitsF_succ, bitsF_succ, show 2 * a / 2 = a by omega, show (2 * a + 1) / 2 = a by omega, show 2 * a % 2 = 0 by omega, show (2 * a + 1) % 2 = 1 by omega]
    rfl
def allOk (ok : List Int → Int → Bool) (b : List Int) : Bool := (List.range b.length).all fun i => ok (b.take i) (gI b i)
theorem allOk_snoc (ok : List Int → Int → Bool) (a : List Int) (v : Int) : allOk ok (a ++ [v]) = (allOk ok a && ok a v) := by
  unfold allOk
  rw [List.length_append, List.length_singleton, List.range_succ, List.all_append]
  congr 1
  · rw [Bool.eq_iff_iff, List.all_eq_true, List.all_eq_true]
    refine forall_congr' fun i => forall_congr' fun hi => ?_
    rw [List.mem_range] at hi
    rw [List.take_append_of_le_length (by omega)]
    have : gI (a ++ [v]) i = gI a i := by
      unfold gI; rw [List.getD_eq_getElem?_getD, List.getElem?_append_left (by omega), ← List.getD_eq_getElem?_getD]
    rw [this]
  · rw [List.all_cons, List.all_nil, Bool.and_true, List.take_left' rfl]
    have : gI (a ++ [v]) a.length = v := by
      unfold gI; rw [List.getD_eq_getElem?_getD, List.getElem?_append_right (Nat.le_refl _), Nat.sub_self]; rfl
    rw [this]
theorem kids_filter (ok : List Int → Int → Bool) (a : List Int) : (kids (fun _ _ => true) a).filter (allOk ok) = if allOk ok a then kids ok a else [] := by
  unfold kids
  simp only [if_true, List.filter_append, List.filter_cons, List.filter_nil, allOk_snoc]
  cases allOk ok a <;> cases ok a 0 <;> cases ok a 1 <;> rfl
theorem filter_kids (ok : List Int → Int → Bool) : ∀ L : List (List Int), (L.filter (allOk ok)).flatMap (kids ok) = (L.flatMap (kids fun _ _ => true)).filter (allOk ok)
  | [] => rfl
  | a :: L => by
    rw [List.flatMap_cons, List.filter_append, kids_filter, ← filter_kids ok L, List.filter_cons]
    cases allOk ok a <;> simp
theorem lev_filter (ok : List Int → Int → Bool) : ∀ N : Nat, lev ok N = (lev (fun _ _ => true) N).filter (allOk ok)
  | 0 => rfl
  | N + 1 => by
    rw [lev, lev_filter ok N, filter_kids]
    rfl
/-! ### What is found -/
theorem found_none {cost : List Int → Int} : ∀ (L : List (List Int)) {s : Fnd}, s ≠ none → foundF cost L s ≠ none
  | [], _, h => h
  | p :: L, s, h => by
    have : better s p (cost p) ≠ none := by
      cases s with
      | none => exact absurd rfl h
      | some x =>
        obtain ⟨b, l, q⟩ := x
        unfold better
        simp only []
        split
        · simp
        · split <;> simp
    exact found_none L this
theorem found_nil {cost : List Int → Int} {L : List (List Int)} (h : foundF cost L none = none) : L = [] := by
  cases L with
  | nil => rfl
  | cons p L => exact (found_none L (s := better none p (cost p)) (by unfold better; simp) h).elim
structure FndP (cost : List Int → Int) (L : List (List Int)) (b : List Int) (l q : Int) : Prop where
  le : ∀ p ∈ L, l ≤ cost p
  fst : L.find? (fun p => cost p == l) = some b
  cnt : q = ((L.filter fun p => cost p == l).length : Int)
theorem found_snoc {cost : List Int → Int} (L : List (List Int)) (p : List Int) : foundF cost (L ++ [p]) none = better (foundF cost L none) p (cost p) := by
  rw [foundF_append]; rfl
theorem found_char (cost : List Int → Int) : ∀ (k : Nat) (L : List (List Int)), L.length = k → ∀ b l q, foundF cost L none = some (b, l, q) → FndP cost L b l q
  | 0, L, hk, b, l, q, h => by
    have : L = [] := List.length_eq_zero_iff.1 hk
    subst this
    cases h
  | k + 1, L, hk, b, l, q, h => by
    obtain ⟨M, p, rfl⟩ : ∃ M p, L = M ++ [p] := by
      rcases List.eq_nil_or_concat L with e | ⟨M, p, e⟩
      · subst e; simp at hk
      · exact ⟨M, p, by simpa using e⟩
    rw [found_snoc] at h
    have hMk : M.length = k := by simpa using hk
    cases hf : foundF cost M none with
    | none =>
      rw [hf] at h
      unfold better at h
      simp only [Option.some.injEq, Prod.mk.injEq] at h
      obtain ⟨rfl, rfl, rfl⟩ := h
      have := found_nil hf
      subst this
      exact ⟨fun x hx => by simp at hx; subst hx; omega, by simp, by simp⟩
    | some s =>
      obtain ⟨b', l', q'⟩ := s
      have ih := found_char cost k M hMk b' l' q' hf
      rw [hf] at h
      unfold better at h
      simp only [] at h
      by_cases h1 : cost p < l'
      · rw [if_pos h1] at h
        simp only [Option.some.injEq, Prod.mk.injEq] at h
        obtain ⟨rfl, rfl, rfl⟩ := h
        have hno : ∀ x ∈ M, ¬ (cost x == cost p) = true := fun x hx => by
          have := ih.le x hx
          rw [beq_iff_eq]; omega
        refine ⟨fun x hx => ?_, ?_, ?_⟩
        · rcases List.mem_append.1 hx with e | e
          · have := ih.le x e; omega
          · simp at e; subst e; omega
        · rw [List.find?_append, List.find?_eq_none.2 hno]; simp
        · rw [List.filter_append, List.filter_eq_nil_iff.2 hno]; simp
      · rw [if_neg h1] at h
        by_cases h2 : cost p = l'
        · rw [if_pos h2] at h
          simp only [Option.some.injEq, Prod.mk.injEq] at h
          obtain ⟨rfl, rfl, rfl⟩ := h
          refine ⟨fun x hx => ?_, ?_, ?_⟩
          · rcases List.mem_append.1 hx with e | e
            · exact ih.le x e
            · simp at e; subst e; omega
          · rw [List.find?_append, ih.fst]; rfl
          · rw [List.filter_append, List.length_append, ih.cnt, List.filter_cons, if_pos (by rw [beq_iff_eq]; exact h2)]; simp
        · rw [if_neg h2] at h
          simp only [Option.some.injEq, Prod.mk.injEq] at h
          obtain ⟨rfl, rfl, rfl⟩ := h
          refine ⟨fun x hx => ?_, ?_, ?_⟩
          · rcases List.mem_append.1 hx with e | e
            · exact ih.le x e
            · simp at e; subst e; omega
          · rw [List.find?_append, ih.fst]; rfl
          · rw [List.filter_append, List.length_append, ih.cnt, List.filter_cons, if_neg (by rw [beq_iff_eq]; exact h2)]; simp
/-! ### Layerings -/
section
variable {n : Int} {c j : List (List Int)} {f : List Int}
theorem isLay_iff (h : validV n c j f = true) (l : List Int) : isLayV n c j f l = true ↔ LayP n c f l := by
  have hn := (validV_t h).1
  unfold isLayV layV
  rw [h, Bool.true_and, Bool.and_eq_true, decide_eq_true_eq, Bool.and_eq_true, Bool.not_eq_true', Bool.not_eq_true', anyIn_f, anyIn_f]
  constructor
  · rintro ⟨h1, h2, h3⟩
    refine ⟨h1, fun i hi => ?_, fun i hi => ?_, fun i k hik hk hc => ?_⟩
    · have := h2 i (by omega) (by omega)
      unfold badL at this
      simp at this
      omega
    · have := h2 i (by omega) (by omega)
      unfold badL at this
      simp at this
      omega
    · unfold cr at hc
      obtain ⟨r, hr, hh⟩ := List.any_eq_true.1 hc
      obtain ⟨m, hm, rfl⟩ := List.mem_iff_getElem.1 hr
      have h5 := h3 m (by omega) hm
      have h6 := crow h hm
      unfold badC at h5
      rw [gR_at hm] at h5 h6
      simp only [Bool.or_eq_true, Bool.and_eq_true, beq_iff_eq] at hh
      rcases hh with ⟨e1, e2⟩ | ⟨e1, e2⟩
      · rw [e1, e2] at h5
        simpa using h5
      · omega
  · intro hP
    refine ⟨hP.len, fun i _ hi => ?_, fun m _ hm => ?_⟩
    · have hl := hP.len
      have h1 := hP.bit i (by omega)
      have h2 := hP.fix i (by omega)
      unfold badL
      simp
      omega
    · have h6 := crow h hm
      unfold badC
      have := hP.cro (gI (gR c m) 0).toNat (gI (gR c m) 1).toNat (by omega) (by omega) (by
        unfold cr
        refine List.any_eq_true.2 ⟨gR c m, gR_mem hm, ?_⟩
        simp
        left; omega)
      simpa using this
theorem lev_range (h : validV n c j f = true) : lev (okL f c) n.toNat = ((List.range (2 ^ n.toNat)).map (bitsF n.toNat)).filter (isLayV n c j f) := by
  have hn := (validV_t h).1
  rw [lev_filter, lev_all]
  refine List.filter_congr (fun b hb => ?_)
  rw [Bool.eq_iff_iff, isLay_iff h, ← levp_iff hn.1, lev_filter, List.mem_filter, lev_all]
  exact ⟨fun h' => ⟨hb, h'⟩, fun h' => h'.2⟩
theorem shift_all : ∀ (x : Fin 256) (s : Fin 8), andI (shrI ((x : Nat) : Int) (wu ((s : Nat) : Int))) 1 = (((x : Nat) / 2 ^ (s : Nat) % 2 : Nat) : Int) := by decide +kernel
theorem shl_all : ∀ n : Fin 9, shlI 1 (wu ((n : Nat) : Int)) = ((2 ^ (n : Nat) : Nat) : Int) ∧ p0C (wu ((n : Nat) : Int)) = some () := by decide +kernel
theorem p0_all : ∀ n : Fin 9, p0C (wu ((n : Nat) : Int)) = some () := by decide +kernel
theorem bits_step {N x i : Nat} (hN : N ≤ 8) (hx : x < 256) (hi : i < N) : p0C (wu (wr ((wr ((N : Int) - 1)) - (i : Int)))) = some () ∧ andI (shrI (x : Int) (wu (wr ((wr ((N : Int) - 1)) - (i : Int))))) 1 = ((x / 2 ^ (N - 1 - i) % 2 : Nat) : Int) := by
  rw [wr_in (x := (N : Int) - 1) (by omega), wr_in (by omega), show (N : Int) - 1 - (i : Int) = ((N - 1 - i : Nat) : Int) by omega]
  exact ⟨p0_all ⟨N - 1 - i, by omega⟩, shift_all ⟨x, hx⟩ ⟨N - 1 - i, by omega⟩⟩
theorem ly_s4 {N x : Nat} (hN : N ≤ 8) (hx : x < 256) (t : (List (List Int)) × (List (List Int)) × (List Int)) : loopM (m_laws_FnLayers_s4 ((N : Int), t) (x : Int)) (([] : List Int), 0) = some (bitsF N x) := by
  refine loop_run (step := m_laws_FnLayers_s4 ((N : Int), t) (x : Int)) N (fun k => ((List.range k).map (fun i => ((x / 2 ^ (N - 1 - i) % 2 : Nat) : Int)), (k : Int))) (r := bitsF N x) (fun k hk => ?_) ?_
  · obtain ⟨b1, b2⟩ := bits_step hN hx hk
    unfold m_laws_FnLayers_s4
    simp only []
    rw [bif_t (by simpa using hk), b1, b2]
    simp only [bind_some']
    rw [apC_ok (by unfold lim; simp; omega), wr_in (x := (k : Int) + 1) (by omega), List.range_succ, List.map_append]
    rfl
  · unfold m_laws_FnLayers_s4
    simp only []
    rw [bif_f (by simp)]
    rfl
theorem ly_s12 {N x : Nat} (hN : N ≤ 8) (hx : x < 256) (t : (List (List Int)) × (List (List Int)) × (List Int)) : loopM (m_laws_FnLayers_s12 ((N : Int), t) (x : Int)) (([] : List Int), 0) = some (bitsF N x) := by
  refine loop_run (step := m_laws_FnLayers_s12 ((N : Int), t) (x : Int)) N (fun k => ((List.range k).map (fun i => ((x / 2 ^ (N - 1 - i) % 2 : Nat) : Int)), (k : Int))) (r := bitsF N x) (fun k hk => ?_) ?_
  · obtain ⟨b1, b2⟩ := bits_step hN hx hk
    unfold m_laws_FnLayers_s12
    simp only []
    rw [bif_t (by simpa using hk), b1, b2]
    simp only [bind_some']
    rw [apC_ok (by unfold lim; simp; omega), wr_in (x := (k : Int) + 1) (by omega), List.range_succ, List.map_append]
    rfl
  · unfold m_laws_FnLayers_s12
    simp only []
    rw [bif_f (by simp)]
    rfl
theorem nums_eq (l : List Int) (hl : l.length ≤ 1000) : m_laws_b10Nums l l = some true := by
  unfold m_laws_b10Nums
  rw [bif_f (by simp)]
  have hh : loopM (m_laws_b10Nums_s1 l l) 0 = some (.inl ()) := by
    refine loopM_val _ l.length (fun k s => s = (k : Int)) rfl ?_ ?_
    · rintro k _ hk rfl
      left
      unfold m_laws_b10Nums_s1
      simp only []
      rw [bif_t (by simpa using hk), geti_lt hk]
      simp only [bind_some']
      rw [bif_f (by simp), wr_in (by omega)]
      exact ⟨_, rfl, by omega⟩
    · rintro _ rfl
      unfold m_laws_b10Nums_s1
      simp only []
      rw [bif_f (by simp)]
  rw [hh]
  rfl
/-- Those that are tried, so far. -/
def hitB (n : Int) (c j : List (List Int)) (f : List Int) (l : Int) (x : Nat) : Bool := isLayV n c j f (bitsF n.toNat x) && (cst j (bitsF n.toNat x) == l)
def numF (n : Int) (c j : List (List Int)) (f : List Int) (l : Int) (k : Nat) : Nat := ((List.range k).filter (hitB n c j f l)).length
theorem numF_succ (l : Int) (k : Nat) : numF n c j f l (k + 1) = numF n c j f l k + (if hitB n c j f l k then 1 else 0) := by
  unfold numF
  rw [List.range_succ, List.filter_append, List.length_append, List.filter_cons]
  split <;> rfl
theorem numF_le (l : Int) (k : Nat) : numF n c j f l k ≤ k := by
  unfold numF
  have := List.length_filter_le (hitB n c j f l) (List.range k)
  rw [List.length_range] at this
  exact this
theorem pow_small {n : Int} (h : 0 ≤ n) (h8 : n ≤ 8) : 2 ^ n.toNat ≤ 256 := Nat.le_trans (Nat.pow_le_pow_right (by omega) (show n.toNat ≤ 8 by omega)) (by decide)
theorem ly_s3 (h : validV n c j f = true) (h8 : n ≤ 8) (q1 : c.length ≤ 140737488) (q2 : j.length ≤ 140737488) (q3 : f.length ≤ 140737488) {b : List Int} {l q : Int} (hP : FndP (cst j) (lev (okL f c) n.toNat) b l q) :
    loopM (m_laws_FnLayers_s3 (n, c, j, f) (b, l, true)) (0, false, 0) = some (.inl (q, true)) := by
  have hn := (validV_t h).1
  have hpw := pow_small hn.1 h8
  have hlev := lev_range h
  have hnat : ((n.toNat : Nat) : Int) = n := by omega
  have hq : q = (numF n c j f l (2 ^ n.toNat) : Int) := by
    rw [hP.cnt, hlev, List.filter_filter, List.filter_map, List.length_map]
    unfold numF
    congr 2
    refine List.filter_congr (fun x _ => ?_)
    unfold hitB
    rw [Bool.and_comm]; rfl
  have hfind : (List.range (2 ^ n.toNat)).find? (hitB n c j f l) ≠ none ∧ ∀ x, (List.range (2 ^ n.toNat)).find? (hitB n c j f l) = some x → bitsF n.toNat x = b := by
    have h1 := hP.fst
    rw [hlev, List.find?_filter, List.find?_map] at h1
    have h2 : ((fun a => decide (isLayV n c j f a = true ∧ (cst j a == l) = true)) ∘ bitsF n.toNat) = hitB n c j f l := by
      funext x
      unfold hitB
      simp
      rfl
    rw [h2] at h1
    cases hx : (List.range (2 ^ n.toNat)).find? (hitB n c j f l) with
    | none => rw [hx] at h1; cases h1
    | some x =>
      rw [hx] at h1
      simp at h1
      exact ⟨by simp, fun y hy => by cases hy; exact h1⟩
  have hgood : ∀ x, x < 2 ^ n.toNat → isLayV n c j f (bitsF n.toNat x) = true → l ≤ cst j (bitsF n.toNat x) := fun x hx hg => by
    refine hP.le _ ?_
    rw [hlev, List.mem_filter]
    exact ⟨List.mem_map.2 ⟨x, List.mem_range.2 hx, rfl⟩, hg⟩
  have hfirst : ∀ x, x < 2 ^ n.toNat → hitB n c j f l x = true → numF n c j f l x = 0 → bitsF n.toNat x = b := fun x hx hh h0 => by
    refine hfind.2 x ?_
    rw [List.find?_range_eq_some]
    refine ⟨hh, List.mem_range.2 hx, fun y hy => ?_⟩
    unfold numF at h0
    rw [List.length_eq_zero_iff, List.filter_eq_nil_iff] at h0
    have := h0 y (List.mem_range.2 hy)
    simpa using this
  have hex : ∃ x, x < 2 ^ n.toNat ∧ isLayV n c j f (bitsF n.toNat x) = true := by
    cases hx : (List.range (2 ^ n.toNat)).find? (hitB n c j f l) with
    | none => exact absurd hx hfind.1
    | some x =>
      rw [List.find?_range_eq_some] at hx
      have h1 := hx.1
      unfold hitB at h1
      rw [Bool.and_eq_true] at h1
      exact ⟨x, List.mem_range.1 hx.2.1, h1.1⟩
  have hsh := shl_all ⟨n.toNat, by omega⟩
  simp only [hnat] at hsh
  refine loopM_val _ (2 ^ n.toNat) (fun k s => s.1 = (numF n c j f l k : Int) ∧ (s.2.1 = true ↔ ∃ x, x < k ∧ isLayV n c j f (bitsF n.toNat x) = true) ∧ s.2.2 = (k : Int)) ⟨rfl, by simp, rfl⟩ ?_ ?_
  · rintro k ⟨num, any, x⟩ hk ⟨e1, e2, e3⟩
    simp only at e1 e2 e3
    subst e1; subst e3
    left
    have hnl := numF_le (n := n) (c := c) (j := j) (f := f) l k
    have hs4 : loopM (m_laws_FnLayers_s4 (n, c, j, f) (k : Int)) (([] : List Int), 0) = some (bitsF n.toNat k) := by
      have := ly_s4 (N := n.toNat) (x := k) (by omega) (by omega) (c, j, f)
      rw [hnat] at this
      exact this
    unfold m_laws_FnLayers_s3
    simp only [hsh.1, hsh.2, bind_some', hs4, specCostOf_eq n c j f _ q1 q2 q3, implLay_eq n c j f _ q1 q2 q3]
    rw [bif_t (decide_eq_true (Int.ofNat_lt.2 hk))]
    have hbl := bitsF_len n.toNat k
    have hw1 : wr ((k : Int) + 1) = ((k + 1 : Nat) : Int) := by rw [wr_in (by omega)]; omega
    have hw2 : wr ((numF n c j f l k : Int) + 1) = ((numF n c j f l k + 1 : Nat) : Int) := by rw [wr_in (by omega)]; omega
    have hsucc := numF_succ (n := n) (c := c) (j := j) (f := f) l k
    have hany : isLayV n c j f (bitsF n.toNat k) = true → ∃ x, x < k + 1 ∧ isLayV n c j f (bitsF n.toNat x) = true := fun h' => ⟨k, by omega, h'⟩
    unfold costV
    rw [hw1, hw2]
    cases hL : isLayV n c j f (bitsF n.toNat k) with
    | false =>
      have hh : hitB n c j f l k = false := by unfold hitB; rw [hL]; rfl
      rw [hh] at hsucc
      simp only [Bool.false_eq_true, if_false, beq_self_eq_true, Bool.not_true, cond_false, Bool.not_false, cond_true]
      refine ⟨_, rfl, by rw [hsucc]; simp, ?_, rfl⟩
      simp only []
      rw [e2]
      constructor
      · rintro ⟨x, x1, x2⟩; exact ⟨x, by omega, x2⟩
      · rintro ⟨x, x1, x2⟩
        by_cases e : x = k
        · subst e; rw [hL] at x2; cases x2
        · exact ⟨x, by omega, x2⟩
    | true =>
      have hle := hgood k hk hL
      have hcst : costF j (bitsF n.toNat k) j.length = cst j (bitsF n.toNat k) := rfl
      have hle2 : l ≤ costF j (bitsF n.toNat k) j.length := hle
      simp only [if_true, beq_self_eq_true, Bool.not_true, cond_false, hcst]
      cases any <;> simp only [Bool.not_true, cond_false, Bool.not_false, cond_true]
      all_goals
        rw [bif_f (by simp; omega)]
        by_cases hc : cst j (bitsF n.toNat k) = l
        · have hh : hitB n c j f l k = true := by unfold hitB; rw [hL, hc]; simp
          rw [hh] at hsucc
          rw [if_pos rfl] at hsucc
          have hb : (cst j (bitsF n.toNat k) == l) = true := by rw [beq_iff_eq]; exact hc
          simp only [hb, cond_true]
          by_cases h0 : numF n c j f l k = 0
          · have h00 : ((numF n c j f l k : Int) == 0) = true := by rw [h0]; rfl
            rw [hfirst k hk hh h0, ← hfirst k hk hh h0]
            simp only [h00, cond_true, nums_eq (bitsF n.toNat k) (by omega), bind_some', Bool.not_true, cond_false]
            exact ⟨_, rfl, by rw [hsucc], ⟨fun _ => hany hL, fun _ => rfl⟩, rfl⟩
          · have h00 : ((numF n c j f l k : Int) == 0) = false := by rw [beq_eq_false_iff_ne]; omega
            simp only [h00, cond_false, bind_some']
            exact ⟨_, rfl, by rw [hsucc], ⟨fun _ => hany hL, fun _ => rfl⟩, rfl⟩
        · have hh : hitB n c j f l k = false := by unfold hitB; rw [beq_false_of_ne hc]; simp
          rw [hh] at hsucc
          have hb : (cst j (bitsF n.toNat k) == l) = false := beq_false_of_ne hc
          simp only [hb, cond_false, bind_some']
          exact ⟨_, rfl, by rw [hsucc]; simp, ⟨fun _ => hany hL, fun _ => rfl⟩, rfl⟩
  · rintro ⟨num, any, x⟩ ⟨e1, e2, e3⟩
    simp only at e1 e2 e3
    subst e1; subst e3
    unfold m_laws_FnLayers_s3
    simp only [hsh.1, hsh.2, bind_some']
    rw [bif_f (by simp), hq, e2.2 hex]
theorem ly_s11 (h : validV n c j f = true) (h8 : n ≤ 8) (q1 : c.length ≤ 140737488) (q2 : j.length ≤ 140737488) (q3 : f.length ≤ 140737488) (hP : lev (okL f c) n.toNat = []) :
    loopM (m_laws_FnLayers_s11 (n, c, j, f)) 0 = some (.inl ()) := by
  have hn := (validV_t h).1
  have hpw := pow_small hn.1 h8
  have hlev := lev_range h
  have hnat : ((n.toNat : Nat) : Int) = n := by omega
  have hsh := shl_all ⟨n.toNat, by omega⟩
  simp only [hnat] at hsh
  refine loopM_val _ (2 ^ n.toNat) (fun k s => s = (k : Int)) rfl ?_ ?_
  · rintro k _ hk rfl
    left
    have hL : isLayV n c j f (bitsF n.toNat k) = false := by
      rw [hP] at hlev
      have := List.filter_eq_nil_iff.1 hlev.symm (bitsF n.toNat k) (List.mem_map.2 ⟨k, List.mem_range.2 hk, rfl⟩)
      simpa using this
    have hs4 : loopM (m_laws_FnLayers_s12 (n, c, j, f) (k : Int)) (([] : List Int), 0) = some (bitsF n.toNat k) := by
      have := ly_s12 (N := n.toNat) (x := k) (by omega) (by omega) (c, j, f)
      rw [hnat] at this
      exact this
    unfold m_laws_FnLayers_s11
    simp only [hsh.1, hsh.2, bind_some', hs4, specCostOf_eq n c j f _ q1 q2 q3, implLay_eq n c j f _ q1 q2 q3]
    rw [bif_t (decide_eq_true (Int.ofNat_lt.2 hk))]
    unfold costV
    rw [hL]
    simp only [Bool.false_eq_true, if_false, beq_self_eq_true, Bool.not_true, cond_false, Bool.not_false, cond_true]
    refine ⟨_, rfl, ?_⟩
    rw [wr_in (by omega)]; omega
  · rintro _ rfl
    unfold m_laws_FnLayers_s11
    simp only [hsh.1, hsh.2, bind_some']
    rw [bif_f (by simp)]
end
end Go.Proofs.Ytngnljnfbfgfeaa
