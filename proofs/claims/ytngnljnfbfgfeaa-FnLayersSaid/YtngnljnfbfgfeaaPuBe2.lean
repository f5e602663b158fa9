/- The program's best layering: the same one. -/
import Derived.Test.YtngnljnfbfgfeaaPuBe
set_option linter.unusedSimpArgs false
set_option linter.unusedVariables false
namespace Go.Proofs.Ytngnljnfbfgfeaa
open Go.RowKit

theorem gR_set (G : List (List Int)) (a i : Nat) (x : List Int) : gR (G.set a x) i = if i = a ∧ a < G.length then x else gR G i := by
  unfold gR
  rw [List.getD_eq_getElem?_getD, List.getD_eq_getElem?_getD, List.getElem?_set]
  by_cases e : a = i
  · subst e
    by_cases h : a < G.length
    · simp [h]
    · simp [h, List.getElem?_eq_none (show G.length ≤ a by omega)]
  · rw [if_neg e, if_neg (by rintro ⟨h, _⟩; exact e h.symm)]
def addE (G : List (List Int)) (r : List Int) : List (List Int) :=
  (G.set (gI r 0).toNat (gR G (gI r 0).toNat ++ [gI r 1])).set (gI r 1).toNat (gR (G.set (gI r 0).toNat (gR G (gI r 0).toNat ++ [gI r 1])) (gI r 1).toNat ++ [gI r 0])
def grF (n : Nat) (c : List (List Int)) : Nat → List (List Int)
  | 0 => List.replicate n []
  | k + 1 => addE (grF n c k) (gR c k)
theorem addE_len (G : List (List Int)) (r : List Int) : (addE G r).length = G.length := by unfold addE; simp
theorem grF_len (n : Nat) (c : List (List Int)) : ∀ k, (grF n c k).length = n
  | 0 => by simp [grF]
  | k + 1 => by show (addE _ _).length = n; rw [addE_len, grF_len n c k]
theorem addE_at {G : List (List Int)} {r : List Int} (h0 : 0 ≤ gI r 0) (h1 : gI r 0 < gI r 1) (h2 : gI r 1 < G.length) (i : Nat) :
    gR (addE G r) i = if (i : Int) = gI r 1 then gR G i ++ [gI r 0] else if (i : Int) = gI r 0 then gR G i ++ [gI r 1] else gR G i := by
  unfold addE
  obtain ⟨a, ha⟩ := Int.eq_ofNat_of_zero_le h0
  obtain ⟨b, hb⟩ := Int.eq_ofNat_of_zero_le (show 0 ≤ gI r 1 by omega)
  rw [ha, hb] at h1 ⊢
  rw [hb] at h2
  simp only [Int.toNat_natCast]
  rw [gR_set (G.set a (gR G a ++ [(b : Int)])) b i, gR_set G a i, gR_set G a b, List.length_set]
  by_cases e : i = b
  · rw [if_pos ⟨e, by omega⟩, if_neg (show ¬ (b = a ∧ a < G.length) by omega), if_pos (by omega), e]
  · rw [if_neg (show ¬ (i = b ∧ b < G.length) by omega), if_neg (show ¬ ((i : Int) = (b : Int)) by omega)]
    by_cases e2 : i = a
    · rw [if_pos ⟨e2, by omega⟩, if_pos (by omega), e2]
    · rw [if_neg (show ¬ (i = a ∧ a < G.length) by omega), if_neg (show ¬ ((i : Int) = (a : Int)) by omega)]
section
variable {n : Int} {c j : List (List Int)} {f : List Int}
theorem grF_row (h : validV n c j f = true) : ∀ k, k ≤ c.length → ∀ i, (gR (grF n.toNat c k) i).length ≤ k
  | 0, _, i => by
    show (gR (List.replicate n.toNat []) i).length ≤ 0
    unfold gR
    rw [List.getD_eq_getElem?_getD, List.getElem?_replicate]
    split <;> simp
  | k + 1, hk, i => by
    obtain ⟨r1, r2, r3, r4⟩ := crow h (k := k) (by omega)
    obtain ⟨hn14, _⟩ := validV_t h
    have ih := grF_row h k (by omega) i
    show (gR (addE _ _) i).length ≤ k + 1
    rw [addE_at r2 r3 (by rw [grF_len]; omega)]
    split
    · simp; omega
    · split
      · simp; omega
      · omega
theorem grF_mem (h : validV n c j f = true) : ∀ k, k ≤ c.length → ∀ (i : Nat) (x : Int), x ∈ gR (grF n.toNat c k) i ↔ (c.take k).any (fun r => (gI r 0 == (i : Int) && gI r 1 == x) || (gI r 0 == x && gI r 1 == (i : Int))) = true
  | 0, _, i, x => by
    show x ∈ gR (List.replicate n.toNat []) i ↔ _
    unfold gR
    rw [List.getD_eq_getElem?_getD, List.getElem?_replicate]
    split <;> simp
  | k + 1, hk, i, x => by
    obtain ⟨r1, r2, r3, r4⟩ := crow h (k := k) (by omega)
    obtain ⟨hn14, _⟩ := validV_t h
    have ih := grF_mem h k (by omega) i x
    show x ∈ gR (addE _ _) i ↔ _
    rw [addE_at r2 r3 (by rw [grF_len]; omega), List.take_succ_eq_append_getElem (show k < c.length by omega), List.any_append, Bool.or_eq_true, ← ih]
    rw [← gR_at (show k < c.length by omega)]
    simp only [List.any_cons, List.any_nil, Bool.or_false, Bool.or_eq_true, Bool.and_eq_true, beq_iff_eq]
    generalize gI (gR c k) 0 = a at *
    generalize gI (gR c k) 1 = b at *
    split
    · rename_i e
      rw [List.mem_append, List.mem_singleton]
      constructor
      · rintro (h | h)
        · exact Or.inl h
        · exact Or.inr (Or.inr ⟨h.symm, e.symm⟩)
      · rintro (h | ⟨h1, h2⟩ | ⟨h1, h2⟩)
        · exact Or.inl h
        · omega
        · exact Or.inr h1.symm
    · rename_i e
      split
      · rename_i e2
        rw [List.mem_append, List.mem_singleton]
        constructor
        · rintro (h | h)
          · exact Or.inl h
          · exact Or.inr (Or.inl ⟨e2.symm, h.symm⟩)
        · rintro (h | ⟨h1, h2⟩ | ⟨h1, h2⟩)
          · exact Or.inl h
          · exact Or.inr h2.symm
          · omega
      · rename_i e2
        constructor
        · exact fun h => Or.inl h
        · rintro (h | ⟨h1, h2⟩ | ⟨h1, h2⟩)
          · exact h
          · omega
          · omega
def crG (n : Int) (c : List (List Int)) : List (List Int) := (grF n.toNat c c.length).map sortI
theorem crG_len (n : Int) (c : List (List Int)) : (crG n c).length = n.toNat := by unfold crG; rw [List.length_map, grF_len]
theorem mem_sortI {l : List Int} {x : Int} : x ∈ sortI l ↔ x ∈ l := (List.mergeSort_perm l _).mem_iff
theorem crG_row (h : validV n c j f = true) {i : Nat} (hi : (i : Int) < n) : (gR (crG n c) i).length ≤ 30 ∧ ∀ x, x ∈ gR (crG n c) i ↔ cr c (i : Int) x = true := by
  have hl := clen h
  have e : gR (crG n c) i = sortI (gR (grF n.toNat c c.length) i) := by
    have h1 : i < (grF n.toNat c c.length).length := by rw [grF_len]; omega
    rw [gR_at (by rw [crG_len]; omega), gR_at h1]
    unfold crG
    rw [List.getElem_map]
  rw [e]
  have h1 := grF_row h c.length (Nat.le_refl _) i
  have h3 : (sortI (gR (grF n.toNat c c.length) i)).length = (gR (grF n.toNat c c.length) i).length := List.length_mergeSort _
  refine ⟨by omega, fun x => ?_⟩
  rw [mem_sortI, grF_mem h c.length (Nat.le_refl _) i x, List.take_length]
  rfl
theorem cr_rng (h : validV n c j f = true) {i x : Int} (hx : cr c i x = true) : 0 ≤ x ∧ x < n := by
  unfold cr at hx
  rw [List.any_eq_true] at hx
  obtain ⟨r, hr, hp⟩ := hx
  obtain ⟨k, hk, rfl⟩ := List.mem_iff_getElem.1 hr
  obtain ⟨r1, r2, r3, r4⟩ := crow h hk
  rw [gR_at hk] at r2 r3 r4
  simp only [Bool.or_eq_true, Bool.and_eq_true, beq_iff_eq] at hp
  omega
theorem take_map_set {G : List (List Int)} {k : Nat} (h : k < G.length) : ((G.take k).map sortI ++ G.drop k).set k (sortI G[k]) = (G.take (k + 1)).map sortI ++ G.drop (k + 1) := by
  have e1 : ((G.take k).map sortI).length = k := by rw [List.length_map, List.length_take]; omega
  rw [List.set_append_right (h := by rw [e1]; exact Nat.le_refl _), e1, Nat.sub_self, List.drop_eq_getElem_cons h, List.set_cons_zero, List.take_succ_eq_append_getElem h, List.map_append, List.append_assoc]
  rfl
theorem crossed_eq (h : validV n c j f = true) : m_impl_Wiring_crossed_bimplWiring n c j f = some (crG n c) := by
  obtain ⟨hn14, _⟩ := validV_t h
  have hl := clen h
  unfold m_impl_Wiring_crossed_bimplWiring
  rw [mkC_ok (by unfold lim; omega)]
  simp only [bind_some']
  have h1 := loop_run (step := m_impl_Wiring_crossed_bimplWiring_s1 c) c.length (fun k => (grF n.toNat c k, (k : Int))) (r := grF n.toNat c c.length) (by
    intro k hk
    obtain ⟨r1, r2, r3, r4⟩ := crow h hk
    have hgl := grF_len n.toNat c k
    have hrow := grF_row h k (by omega)
    unfold m_impl_Wiring_crossed_bimplWiring_s1
    simp only []
    rw [bif_t (by simpa using hk), geti_gR hk]
    have g0 : geti (gR c k) 0 = some (gI (gR c k) 0) := geti_gI (k := 0) (by omega)
    have g1 : geti (gR c k) 1 = some (gI (gR c k) 1) := geti_gI (k := 1) (by omega)
    simp only [bind_some', g0, g1]
    rw [geti_gR' (c := grF n.toNat c k) r2 (by omega)]
    simp only [bind_some']
    have hb1 := hrow (gI (gR c k) 0).toNat
    rw [apC_ok (by unfold lim; simp; omega)]
    simp only [bind_some']
    rw [geti_gR' (by omega) (by rw [List.length_set]; omega)]
    simp only [bind_some']
    have hb2 : (gR ((grF n.toNat c k).set (gI (gR c k) 0).toNat (gR (grF n.toNat c k) (gI (gR c k) 0).toNat ++ [gI (gR c k) 1])) (gI (gR c k) 1).toNat).length ≤ 100 := by
      rw [gR_set]
      split
      · simp; omega
      · have := hrow (gI (gR c k) 1).toNat; omega
    rw [apC_ok (by unfold lim; simp; omega)]
    simp only [bind_some']
    rw [wr_in (by omega)]
    rfl) (by
    unfold m_impl_Wiring_crossed_bimplWiring_s1
    simp only []
    rw [bif_f (by simp)])
  rw [show (((grF n.toNat c 0), ((0 : Nat) : Int)) : List (List Int) × Int) = (List.replicate (Int.toNat n) ([] : List Int), 0) from rfl] at h1
  rw [h1]
  simp only [bind_some']
  have hG := grF_len n.toNat c c.length
  have hrow := grF_row h c.length (Nat.le_refl _)
  generalize hGG : grF n.toNat c c.length = G at *
  have h2 := loop_run (step := m_impl_Wiring_crossed_bimplWiring_s2 G) G.length (fun k => ((k : Int), (G.take k).map sortI ++ G.drop k)) (r := G.map sortI) (by
    intro k hk
    unfold m_impl_Wiring_crossed_bimplWiring_s2
    simp only []
    have hlen : ((G.take k).map sortI ++ G.drop k).length = G.length := by simp; omega
    have hget : ((G.take k).map sortI ++ G.drop k)[k]? = some G[k] := by
      rw [List.getElem?_append_right (by simp; omega), List.length_map, List.length_take, Nat.min_eq_left (by omega), Nat.sub_self, List.getElem?_drop]
      simp [List.getElem?_eq_getElem hk]
    rw [bif_t (by simpa using hk), geti_nat, hget]
    simp only [bind_some']
    have hr := hrow k
    rw [gR_at hk] at hr
    unfold m_slices_Sort_int_int
    rw [apC_ok (by unfold lim; simp; omega)]
    simp only [bind_some', Int.toNat_natCast]
    rw [take_map_set hk, wr_in (by omega)]
    rfl) (by
    unfold m_impl_Wiring_crossed_bimplWiring_s2
    simp only []
    rw [bif_f (by simp), List.take_length, List.drop_length, List.append_nil])
  rw [show ((((0 : Nat) : Int), (G.take 0).map sortI ++ G.drop 0) : Int × List (List Int)) = (0, G) by simp] at h2
  rw [h2]
  unfold crG
  rw [hGG]
  rfl
theorem contF_eq {l p : List Int} {i : Nat} (hi : p.length = i) (hb : i ≤ 14) (v : Int) (hl : l.length ≤ 1000) (h0 : ∀ x ∈ l, 0 ≤ x) :
    m_slices_ContainsFunc_int_int_impl_Wiring_best_1_1_bint_bint64_bint64 l (i : Int) p v = some (l.any fun x => decide (x < (i : Int)) && gI p x.toNat == v) := by
  unfold m_slices_ContainsFunc_int_int_impl_Wiring_best_1_1_bint_bint64_bint64 m_slices_IndexFunc_int_int_impl_Wiring_best_1_1_bint_bint64_bint64
  rw [← anyIn_any l (fun x => decide (x < (i : Int)) && gI p x.toNat == v) (fun k => decide (gI l k < (i : Int)) && gI p (gI l k).toNat == v) (fun k hk => by rw [gI_at hk])]
  rcases loop_find (step := m_slices_IndexFunc_int_int_impl_Wiring_best_1_1_bint_bint64_bint64_s1 l (i : Int) p v) l.length (fun k => decide (gI l k < (i : Int)) && gI p (gI l k).toNat == v) (fun k => (k : Int)) (by
      intro k hk
      have hx := h0 _ (List.getElem_mem hk)
      rw [← gI_at hk] at hx
      unfold m_slices_IndexFunc_int_int_impl_Wiring_best_1_1_bint_bint64_bint64_s1 m_impl_Wiring_best_1_1_bint_bint64_bint64
      simp only []
      rw [bif_t (by simpa using hk), geti_gI hk]
      simp only [bind_some']
      rw [wr_in (by omega)]
      by_cases e : gI l k < (i : Int)
      · rw [bif_t (by simpa using e), geti_gI' (l := p) hx (by omega), decide_eq_true e]
        simp only [bind_some', Bool.true_and]
        cases gI p (gI l k).toNat == v <;> rfl
      · rw [bif_f (by simpa using e), decide_eq_false e]; rfl) (by
      unfold m_slices_IndexFunc_int_int_impl_Wiring_best_1_1_bint_bint64_bint64_s1
      simp only []
      rw [bif_f (by simp)]) with ⟨h1, h2⟩ | ⟨k, h1, h2, _, h3⟩
  · rw [h2, h1]; rfl
  · rw [h3, anyIn_t.2 ⟨k, by omega, h1, h2⟩]
    simp only [bind_some']
    simp
/-- What the program asks of a layer is what the reference asks. -/
theorem ask_eq (h : validV n c j f = true) {p : List Int} (hp : (p.length : Int) < n) (v : Int) :
    m_slices_ContainsFunc_int_int_impl_Wiring_best_1_1_bint_bint64_bint64 (gR (crG n c) p.length) (p.length : Int) p v = some (!noX c p v p.length) := by
  obtain ⟨hn14, _⟩ := validV_t h
  obtain ⟨h1, h2⟩ := crG_row h hp
  rw [contF_eq rfl (by omega) v (by omega) (fun x hx => (cr_rng h ((h2 x).1 hx)).1)]
  congr 1
  rw [Bool.eq_iff_iff, List.any_eq_true, Bool.not_eq_true', ← Bool.not_eq_true]
  unfold noX
  rw [List.all_eq_true]
  constructor
  · rintro ⟨x, hx, hxp⟩ hall
    simp only [Bool.and_eq_true, decide_eq_true_eq, beq_iff_eq] at hxp
    have hc := (h2 x).1 hx
    have h0 := (cr_rng h hc).1
    have := hall x.toNat (List.mem_range.2 (by omega))
    rw [show ((x.toNat : Nat) : Int) = x by omega, cr_comm, hc] at this
    simp [hxp.2] at this
  · intro hna
    refine Classical.byContradiction fun hno => hna fun m hm => ?_
    rw [List.mem_range] at hm
    cases hb : (gI p m == v) with
    | false => rfl
    | true =>
      cases hcr : cr c (m : Int) (p.length : Int) with
      | false => rfl
      | true =>
        exfalso
        refine hno ⟨(m : Int), (h2 _).2 (by rw [cr_comm]; exact hcr), ?_⟩
        simp only [Int.toNat_natCast, hb, Bool.and_true]
        simpa using hm
/-! ### The program's search -/
def repS (s : Fnd) (p : List Int) : Int × Int × List Int × List Int × Bool := match s with | none => (0, 0, p, [], true) | some (b, l, q) => (l, q, p, b, false)
theorem enum_count (ok : List Int → Int → Bool) : ∀ m p, (enum ok m p).length ≤ 2 ^ m
  | 0, p => by simp [enum]
  | m + 1, p => by
    have h1 := enum_count ok m (p ++ [0])
    have h2 := enum_count ok m (p ++ [1])
    show ((if ok p 0 then enum ok m (p ++ [0]) else []) ++ (if ok p 1 then enum ok m (p ++ [1]) else [])).length ≤ 2 ^ (m + 1)
    have e1 : ∀ (b : Bool) (l : List (List Int)), (if b then l else []).length ≤ l.length := by intro b l; cases b <;> simp
    have e2 := e1 (ok p 0) (enum ok m (p ++ [0]))
    have e3 := e1 (ok p 1) (enum ok m (p ++ [1]))
    rw [List.length_append, Nat.pow_succ]
    omega
theorem best_rec (h : validV n c j f = true) : ∀ (m t : Nat) (p : List Int) (s : Fnd) (B : Int), (p.length : Int) + m = n → m < t → OkF s B → 0 ≤ B → B ≤ 1000000000 - 2 ^ m →
    m_impl_Wiring_best_1_bint64_bimplWiring_bimplWiring_bint64_bint64_bint64_bimplgraph_bfunc_self t p n c j f (repS s p).2.2.2.1 (repS s p).2.2.2.2 (repS s p).1 (repS s p).2.1 (crG n c) = some (repS (foundF (cst j) (enum (okL f c) m p) s) p) := by
  obtain ⟨hn14, hf, _, _, _⟩ := validV_t h
  intro m
  induction m with
  | zero =>
    intro t p s B hp ht ho hB hB2
    obtain ⟨t, rfl⟩ : ∃ t', t = t' + 1 := ⟨t - 1, by omega⟩
    unfold m_impl_Wiring_best_1_bint64_bimplWiring_bimplWiring_bint64_bint64_bint64_bimplgraph_bfunc_self m_impl_Wiring_best_1_bint64_bimplWiring_bimplWiring_bint64_bint64_bint64_bimplgraph_bfunc_self_body
    rw [bif_t (by simp; omega), implCost_eq h (by omega)]
    simp only [bind_some']
    rw [apC_ok (by unfold lim; simp; omega), show costF j p j.length = cst j p from rfl]
    have hcb := cst_b h p
    show _ = some (repS (better s p (cst j p)) p)
    cases s with
    | none => rfl
    | some x =>
      obtain ⟨b, l, q⟩ := x
      have hq := ho b l q rfl
      rw [show repS (some (b, l, q)) p = (l, q, p, b, false) from rfl]
      unfold better
      simp only []
      rw [bif_f (by rfl)]
      by_cases e1 : cst j p < l
      · rw [bif_t (by simpa using e1), if_pos e1]; rfl
      · rw [bif_f (by simpa using e1), if_neg e1]
        by_cases e2 : cst j p = l
        · rw [bif_t (by simpa using e2), if_pos e2, wr_in (by omega)]; rfl
        · rw [bif_f (by simpa using e2), if_neg e2]; rfl
  | succ m ih =>
    intro t p s B hp ht ho hB hB2
    obtain ⟨t, rfl⟩ : ∃ t', t = t' + 1 := ⟨t - 1, by omega⟩
    have hpow : (2 : Int) ^ (m + 1) = 2 ^ m + 2 ^ m := by rw [Int.pow_succ]; omega
    have hpos : (0 : Int) ≤ 2 ^ m := Int.pow_nonneg (by omega)
    unfold m_impl_Wiring_best_1_bint64_bimplWiring_bimplWiring_bint64_bint64_bint64_bimplgraph_bfunc_self m_impl_Wiring_best_1_bint64_bimplWiring_bimplWiring_bint64_bint64_bint64_bimplgraph_bfunc_self_body
    rw [bif_f (by simp; omega)]
    generalize hR : m_impl_Wiring_best_1_bint64_bimplWiring_bimplWiring_bint64_bint64_bint64_bimplgraph_bfunc_self t = R
    have one : ∀ (v : Int) (s : Fnd) (B : Int), 0 ≤ v → v < 2 → OkF s B → 0 ≤ B → B ≤ 1000000000 - 2 ^ m →
        m_impl_Wiring_best_1_bint64_bimplWiring_bimplWiring_bint64_bint64_bint64_bimplgraph_bfunc_self_s1 R p n c j f (crG n c) (v, (repS s p).1, (repS s p).2.1, p, (repS s p).2.2.2.1, (repS s p).2.2.2.2) =
          some (Ctl.next (v + 1, (repS (foundF (cst j) (if okL f c p v then enum (okL f c) m (p ++ [v]) else []) s) p).1, (repS (foundF (cst j) (if okL f c p v then enum (okL f c) m (p ++ [v]) else []) s) p).2.1, p,
            (repS (foundF (cst j) (if okL f c p v then enum (okL f c) m (p ++ [v]) else []) s) p).2.2.2.1, (repS (foundF (cst j) (if okL f c p v then enum (okL f c) m (p ++ [v]) else []) s) p).2.2.2.2)) := by
      intro v s B h0 h2 ho hB hB2
      have hfi : geti f (p.length : Int) = some (gI f p.length) := geti_gI (by omega)
      have hGi : geti (crG n c) (p.length : Int) = some (gR (crG n c) p.length) := geti_gR (by rw [crG_len]; omega)
      have hrec := ih t (p ++ [v]) s B (by simp; omega) (by omega) ho hB hB2
      rw [hR] at hrec
      have hrs : ∀ x : Fnd, (repS x (p ++ [v])).1 = (repS x p).1 ∧ (repS x (p ++ [v])).2.1 = (repS x p).2.1 ∧ (repS x (p ++ [v])).2.2.1 = p ++ [v] ∧ (repS x (p ++ [v])).2.2.2.1 = (repS x p).2.2.2.1 ∧ (repS x (p ++ [v])).2.2.2.2 = (repS x p).2.2.2.2 := fun x => by
        cases x <;> exact ⟨rfl, rfl, rfl, rfl, rfl⟩
      obtain ⟨a1, a2, a3, a4, a5⟩ := hrs s
      rw [a1, a2, a4, a5] at hrec
      have hsl : slci (p ++ [v]) 0 (p.length : Int) = some p := by
        have := slci_take (l := p ++ [v]) (k := p.length) (by simp)
        rw [this, List.take_left]
      unfold m_impl_Wiring_best_1_bint64_bimplWiring_bimplWiring_bint64_bint64_bint64_bimplgraph_bfunc_self_s1
      simp only []
      rw [bif_t (by simpa using h2), hfi]
      simp only [bind_some', hGi, ask_eq h (p := p) (by omega), Bool.not_not]
      rw [apC_ok (l := p) (l2 := ([v] : List Int)) (by unfold lim; simp; omega)]
      simp only [bind_some', hrec]
      obtain ⟨b1, b2, b3, b4, b5⟩ := hrs (foundF (cst j) (enum (okL f c) m (p ++ [v])) s)
      rw [b1, b2, b3, b4, b5, hsl]
      simp only [bind_some', Int.toNat_natCast, List.take_left, wr_in (x := v + 1) (by omega)]
      unfold okL
      by_cases hf0 : gI f p.length < 0
      · rw [bif_f (by simp; omega), decide_eq_true hf0]
        simp only [Bool.true_or, Bool.true_and]
        cases noX c p v p.length <;> rfl
      · rw [bif_t (by simp; omega), decide_eq_false hf0]
        simp only [Bool.false_or, bne]
        cases gI f p.length == v with
        | false => rfl
        | true =>
          simp only [Bool.not_true, cond_false, Bool.true_and]
          cases noX c p v p.length <;> rfl
    rw [show ((0, (repS s p).1, (repS s p).2.1, p, (repS s p).2.2.2.1, (repS s p).2.2.2.2) : Int × Int × Int × List Int × List Int × Bool) = ((0 : Int), (repS s p).1, (repS s p).2.1, p, (repS s p).2.2.2.1, (repS s p).2.2.2.2) from rfl]
    rw [loopM_next (one 0 s B (by omega) (by omega) ho hB (by omega))]
    have ho1 : OkF (foundF (cst j) (if okL f c p 0 then enum (okL f c) m (p ++ [0]) else []) s) (B + 2 ^ m) := by
      have := found_ok (fun l => (cst_b h l).1) (if okL f c p 0 then enum (okL f c) m (p ++ [0]) else []) ho hB
      refine fun b l q e => ?_
      have h1 := this b l q e
      have h2 : ((if okL f c p 0 then enum (okL f c) m (p ++ [0]) else []).length : Int) ≤ 2 ^ m := by
        have := enum_count (okL f c) m (p ++ [0])
        split
        · exact_mod_cast this
        · simpa using hpos
      omega
    rw [loopM_next (one (0 + 1) _ (B + 2 ^ m) (by omega) (by omega) ho1 (by omega) (by omega))]
    rw [loopM_out (r := ((repS (foundF (cst j) (if okL f c p 1 then enum (okL f c) m (p ++ [1]) else []) (foundF (cst j) (if okL f c p 0 then enum (okL f c) m (p ++ [0]) else []) s)) p).1, (repS (foundF (cst j) (if okL f c p 1 then enum (okL f c) m (p ++ [1]) else []) (foundF (cst j) (if okL f c p 0 then enum (okL f c) m (p ++ [0]) else []) s)) p).2.1, p,
      (repS (foundF (cst j) (if okL f c p 1 then enum (okL f c) m (p ++ [1]) else []) (foundF (cst j) (if okL f c p 0 then enum (okL f c) m (p ++ [0]) else []) s)) p).2.2.2.1, (repS (foundF (cst j) (if okL f c p 1 then enum (okL f c) m (p ++ [1]) else []) (foundF (cst j) (if okL f c p 0 then enum (okL f c) m (p ++ [0]) else []) s)) p).2.2.2.2))]
    · simp only [bind_some']
      rw [show enum (okL f c) (m + 1) p = (if okL f c p 0 then enum (okL f c) m (p ++ [0]) else []) ++ (if okL f c p 1 then enum (okL f c) m (p ++ [1]) else []) from rfl, foundF_append]
      generalize foundF (cst j) (if okL f c p 1 = true then enum (okL f c) m (p ++ [1]) else []) (foundF (cst j) (if okL f c p 0 = true then enum (okL f c) m (p ++ [0]) else []) s) = x
      cases x <;> rfl
    · unfold m_impl_Wiring_best_1_bint64_bimplWiring_bimplWiring_bint64_bint64_bint64_bimplgraph_bfunc_self_s1
      simp only []
      rw [bif_f (by simp)]
      rfl
def bestV (n : Int) (c j : List (List Int)) (f : List Int) : Fnd := foundF (cst j) (lev (okL f c) n.toNat) none
def repB (s : Fnd) : List Int × Int × Int := match s with | none => ([], 0, 0) | some x => x
theorem implBest_eq (h : validV n c j f = true) : m_impl_Wiring_best_bimplWiring n c j f = some (repB (bestV n c j f)) := by
  obtain ⟨hn14, hf, _, _, _⟩ := validV_t h
  unfold m_impl_Wiring_best_bimplWiring
  rw [crossed_eq h]
  simp only [bind_some']
  have hpw : (2 : Int) ^ n.toNat ≤ 16384 := by
    have : (2 : Nat) ^ n.toNat ≤ 2 ^ 14 := Nat.pow_le_pow_right (by omega) (by omega)
    have e : ((2 ^ n.toNat : Nat) : Int) = (2 : Int) ^ n.toNat := by push_cast; rfl
    rw [← e]
    have : (2 : Nat) ^ 14 = 16384 := by decide
    omega
  have hr := best_rec h n.toNat 64 [] none 0 (by simp; omega) (by omega) (okF_none 0) (by omega) (by omega)
  rw [show (repS none []).2.2.2.1 = ([] : List Int) from rfl, show (repS none []).2.2.2.2 = true from rfl, show (repS none []).1 = 0 from rfl, show (repS none []).2.1 = 0 from rfl] at hr
  rw [hr, enum_lev]
  simp only [bind_some']
  unfold bestV
  generalize foundF (cst j) (lev (okL f c) n.toNat) none = x
  cases x <;> rfl
end
/-! ### The laws -/
def cntV (n : Int) (c j : List (List Int)) (f : List Int) : Int × Bool := if validV n c j f then ((repB (bestV n c j f)).2.2, true) else (0, false)
theorem implCount_eq (n : Int) (c j : List (List Int)) (f : List Int) (h1 : c.length ≤ 140737488) (h2 : j.length ≤ 140737488) (h3 : f.length ≤ 140737488) : m_impl_CountBest n c j f = some (cntV n c j f) := by
  unfold m_impl_CountBest cntV
  rw [implValid_eq n c j f h1 h2 h3]
  simp only [bind_some']
  cases hv : validV n c j f with
  | false => rfl
  | true => rw [bif_f (by rfl), implBest_eq hv]; rfl
end Go.Proofs.Ytngnljnfbfgfeaa
