/- Layerings: all of them, the best one, and how many: the reference and the program. -/
import Derived.Test.YtngnljnfbfgfeaaPuWirL
import Derived.Test.YtngnljnfbfgfeaaPuEnum
set_option linter.unusedSimpArgs false
set_option linter.unusedVariables false
namespace Go.Proofs.Ytngnljnfbfgfeaa
open Go.RowKit

theorem gR_mem {c : List (List Int)} {k : Nat} (h : k < c.length) : gR c k ∈ c := by rw [gR_at h]; exact List.getElem_mem h
theorem geti_gR {c : List (List Int)} {k : Nat} (h : k < c.length) : geti c (k : Int) = some (gR c k) := by rw [geti_lt h, gR_at h]
theorem geti_gR' {c : List (List Int)} {x : Int} (h0 : 0 ≤ x) (h : x < c.length) : geti c x = some (gR c x.toNat) := by
  obtain ⟨k, rfl⟩ := Int.eq_ofNat_of_zero_le h0
  exact geti_gR (by omega)
/-- Two segments cross. -/
def cr (c : List (List Int)) (i k : Int) : Bool := c.any fun x => (gI x 0 == i && gI x 1 == k) || (gI x 0 == k && gI x 1 == i)
theorem cr_comm (c : List (List Int)) (i k : Int) : cr c i k = cr c k i := by
  unfold cr
  congr 1
  funext x
  exact Bool.or_comm _ _
section
variable {n : Int} {c j : List (List Int)} {f : List Int}
theorem crow (h : validV n c j f = true) {k : Nat} (hk : k < c.length) : (gR c k).length = 2 ∧ 0 ≤ gI (gR c k) 0 ∧ gI (gR c k) 0 < gI (gR c k) 1 ∧ gI (gR c k) 1 < n := by
  obtain ⟨_, _, hc, _, _⟩ := validV_t h
  exact okRow_t ((pairsV_len hc).2 k hk)
theorem clen (h : validV n c j f = true) : c.length ≤ 30 := by
  obtain ⟨_, _, hc, _, _⟩ := validV_t h
  exact (pairsV_len hc).1
theorem specCross_eq (h : validV n c j f = true) (i k : Int) : m_spec_l07Cross_bimplWiring n c j f i k = some (cr c i k) := by
  have hl := clen h
  unfold m_spec_l07Cross_bimplWiring
  have hh := loop_any (step := m_spec_l07Cross_bimplWiring_s1 c i k) 0 c.length (fun m => (gI (gR c m) 0 == i && gI (gR c m) 1 == k) || (gI (gR c m) 0 == k && gI (gR c m) 1 == i)) true (by omega) (by
    intro m _ hm _
    obtain ⟨r1, r2, r3, r4⟩ := crow h hm
    unfold m_spec_l07Cross_bimplWiring_s1
    simp only []
    rw [bif_t (by simpa using hm), geti_gR hm]
    have g0 : geti (gR c m) 0 = some (gI (gR c m) 0) := geti_gI (k := 0) (by omega)
    have g1 : geti (gR c m) 1 = some (gI (gR c m) 1) := geti_gI (k := 1) (by omega)
    simp only [bind_some', g0, g1]
    rw [wr_in (by omega)]
    cases gI (gR c m) 0 == i <;> cases gI (gR c m) 1 == k <;> cases gI (gR c m) 0 == k <;> cases gI (gR c m) 1 == i <;> rfl) (by
    unfold m_spec_l07Cross_bimplWiring_s1
    simp only []
    rw [bif_f (by simp)])
  rw [show ((0 : Nat) : Int) = 0 from rfl] at hh
  rw [hh, anyIn_any c (fun x => (gI x 0 == i && gI x 1 == k) || (gI x 0 == k && gI x 1 == i)) _ (fun m hm => by rw [gR_at hm])]
  unfold cr
  cases c.any fun x => (gI x 0 == i && gI x 1 == k) || (gI x 0 == k && gI x 1 == i) <;> rfl
/-! ### The reference: level by level -/
def noX (c : List (List Int)) (p : List Int) (v : Int) (k : Nat) : Bool := (List.range k).all fun (m : Nat) => !(gI p m == v) || !cr c (m : Int) (p.length : Int)
def okL (f : List Int) (c : List (List Int)) (p : List Int) (v : Int) : Bool := (decide (gI f p.length < 0) || gI f p.length == v) && noX c p v p.length
theorem noX_succ (c : List (List Int)) (p : List Int) (v : Int) (k : Nat) : noX c p v (k + 1) = (noX c p v k && (!(gI p k == v) || !cr c (k : Int) (p.length : Int))) := by
  unfold noX; rw [List.range_succ, List.all_append]; simp
theorem s120_eq (h : validV n c j f = true) {L : List (List Int)} {a : Nat} {p : List Int} (hp : L[a]? = some p) (v : Int) (b0 : Bool) (hn : p.length ≤ 14) :
    loopM (m_spec_l07All_bimplWiring_s120 n c j f L (p.length : Int) (a : Int) v) (b0, 0) = some (b0 && noX c p v p.length) := by
  have hg : geti L (a : Int) = some p := by rw [geti_nat, hp]
  have hh := loop_run (step := m_spec_l07All_bimplWiring_s120 n c j f L (p.length : Int) (a : Int) v) p.length (fun k => (b0 && noX c p v k, (k : Int))) (r := b0 && noX c p v p.length) (by
    intro k hk
    unfold m_spec_l07All_bimplWiring_s120
    simp only []
    rw [bif_t (by simpa using hk), wr_in (by omega), noX_succ]
    cases hb : (b0 && noX c p v k) with
    | false => rw [← Bool.and_assoc, hb]; rfl
    | true =>
      rw [← Bool.and_assoc, hb]
      simp only [cond_true, Bool.true_and, hg, bind_some']
      rw [geti_gI (l := p) hk]
      simp only [bind_some', specCross_eq h]
      cases hv : gI p k == v with
      | true => simp [bne, hv]
      | false => simp [bne, hv]) (by
    unfold m_spec_l07All_bimplWiring_s120
    simp only []
    rw [bif_f (by simp)])
  simpa [noX] using hh
theorem s121_eq (h : validV n c j f = true) {L : List (List Int)} {a : Nat} {p : List Int} (hp : L[a]? = some p) (v : Int) (b0 : Bool) (hn : p.length ≤ 14) :
    loopM (m_spec_l07All_bimplWiring_s121 n c j f L (p.length : Int) (a : Int) v) (b0, 0) = some (b0 && noX c p v p.length) := s120_eq h hp v b0 hn
theorem own_eq (p : List Int) (hp : p.length ≤ 1000) : m_spec_l00Own p = some p := by
  unfold m_spec_l00Own
  rw [apC_ok (by unfold lim; simp; omega)]; rfl
theorem s117_eq (h : validV n c j f = true) {L : List (List Int)} {a : Nat} {p : List Int} (hp : L[a]? = some p) (hn : (p.length : Int) < n) {l : List (List Int)} (hl : l.length ≤ 100000) :
    loopM (m_spec_l07All_bimplWiring_s117 n c j f L (p.length : Int) (a : Int)) (l, 0) = some (l ++ kids (okL f c) p) := by
  obtain ⟨hn14, hf, _, _, _⟩ := validV_t h
  have hg : geti L (a : Int) = some p := by rw [geti_nat, hp]
  have hfi : geti f (p.length : Int) = some (gI f p.length) := geti_gI (by omega)
  have one : ∀ (l : List (List Int)) (v : Int), l.length ≤ 100001 → 0 ≤ v → v < 2 → m_spec_l07All_bimplWiring_s117 n c j f L (p.length : Int) (a : Int) (l, v) = some (Ctl.next (l ++ (if okL f c p v then [p ++ [v]] else []), v + 1)) := by
    intro l v hl h0 h2
    unfold m_spec_l07All_bimplWiring_s117
    simp only []
    rw [bif_t (by simpa using h2), hfi]
    simp only [bind_some']
    have fin : ∀ b : Bool, (bif b then Option.bind (geti L (a : Int)) fun x21351 => Option.bind (m_spec_l00Own x21351) fun y21361 => Option.bind (apC y21361 (([v] : List (Int)))) fun _ => Option.bind (apC l (([y21361 ++ (([v] : List (Int)))] : List (List (Int))))) fun _ => some (l ++ (([y21361 ++ (([v] : List (Int)))] : List (List (Int))))) else some l) = some (l ++ (if b then [p ++ [v]] else [])) := by
      intro b
      cases b with
      | false => simp
      | true =>
        simp only [cond_true, hg, bind_some', own_eq p (by omega), if_true]
        rw [apC_ok (by unfold lim; simp; omega), apC_ok (by unfold lim; simp; omega)]
        rfl
    unfold okL
    by_cases hf0 : gI f p.length < 0
    · rw [bif_t (by simpa using hf0), s120_eq h hp v true (by omega)]
      simp only [bind_some', fin, wr_in (x := v + 1) (by omega), decide_eq_true hf0, Bool.true_or, Bool.true_and]
    · rw [bif_f (by simpa using hf0), s121_eq h hp v _ (by omega)]
      simp only [bind_some', fin, wr_in (x := v + 1) (by omega), decide_eq_false hf0, Bool.false_or]
  rw [loopM_next (one l 0 (by omega) (by omega) (by omega)), loopM_next (one _ (0 + 1) (by rw [List.length_append]; split <;> simp <;> omega) (by omega) (by omega))]
  refine loopM_out ?_
  unfold m_spec_l07All_bimplWiring_s117
  simp only []
  rw [bif_f (by simp)]
  unfold kids
  rw [List.append_assoc]; rfl
theorem flat_take {α β : Type} (g : α → List β) {l : List α} {k : Nat} (h : k < l.length) : (l.take (k + 1)).flatMap g = (l.take k).flatMap g ++ g l[k] := by
  rw [List.take_succ_eq_append_getElem h, List.flatMap_append]; simp
theorem kids_len (ok : List Int → Int → Bool) (p : List Int) : (kids ok p).length ≤ 2 := by
  unfold kids; cases ok p 0 <;> cases ok p 1 <;> simp
theorem flat_kids (ok : List Int → Int → Bool) (l : List (List Int)) : (l.flatMap (kids ok)).length ≤ 2 * l.length := by
  induction l with
  | nil => simp
  | cons x l ih => have := kids_len ok x; rw [List.flatMap_cons, List.length_append, List.length_cons]; omega
theorem s108_eq (h : validV n c j f = true) {i : Nat} (hi : (i : Int) < n) {L : List (List Int)} (hL : L.length ≤ 40000) (hp : ∀ p ∈ L, p.length = i) :
    loopM (m_spec_l07All_bimplWiring_s108 n c j f L (i : Int)) (([] : List (List Int)), 0) = some (L.flatMap (kids (okL f c))) := by
  have hh := loop_run (step := m_spec_l07All_bimplWiring_s108 n c j f L (i : Int)) L.length (fun k => ((L.take k).flatMap (kids (okL f c)), (k : Int))) (r := L.flatMap (kids (okL f c))) (by
    intro k hk
    have hpl := hp _ (List.getElem_mem hk)
    unfold m_spec_l07All_bimplWiring_s108
    simp only []
    rw [bif_t (by simpa using hk)]
    have hs := s117_eq h (L := L) (a := k) (p := L[k]) (List.getElem?_eq_getElem hk) (by omega) (l := (L.take k).flatMap (kids (okL f c))) (by
      have := flat_kids (okL f c) (L.take k)
      rw [List.length_take] at this; omega)
    rw [hpl] at hs
    rw [hs]
    simp only [bind_some']
    rw [wr_in (by omega), flat_take _ hk]
    rfl) (by
    unfold m_spec_l07All_bimplWiring_s108
    simp only []
    rw [bif_f (by simp), List.take_length])
  simpa using hh
theorem lev_small (ok : List Int → Int → Bool) {i : Nat} (hi : i ≤ 14) : (lev ok i).length ≤ 16384 := Nat.le_trans (lev_count ok i) (Nat.le_trans (Nat.pow_le_pow_right (by omega) hi) (by decide))
theorem specAll_eq (h : validV n c j f = true) : m_spec_l07All_bimplWiring n c j f = some (lev (okL f c) n.toNat) := by
  obtain ⟨hn14, hf, _, _, _⟩ := validV_t h
  unfold m_spec_l07All_bimplWiring
  have hh := loop_run (step := m_spec_l07All_bimplWiring_s81 n c j f) n.toNat (fun k => (lev (okL f c) k, (k : Int))) (r := lev (okL f c) n.toNat) (by
    intro k hk
    unfold m_spec_l07All_bimplWiring_s81
    simp only []
    have := lev_small (okL f c) (i := k) (by omega)
    rw [bif_t (by simp; omega), s108_eq h (by omega) (by omega) (lev_len (okL f c) k)]
    simp only [bind_some']
    rw [wr_in (by omega)]
    rfl) (by
    unfold m_spec_l07All_bimplWiring_s81
    simp only []
    rw [bif_f (by simp; omega)])
  rw [show (((lev (okL f c) 0), ((0 : Nat) : Int)) : List (List Int) × Int) = ([[]], 0) from rfl] at hh
  rw [hh]
  rfl
/-! ### The best one -/
def cst (j : List (List Int)) (l : List Int) : Int := costF j l j.length
def repF (s : Fnd) : List Int × Int × Int := match s with | none => ([], -1, 0) | some x => x
def OkF (s : Fnd) (B : Int) : Prop := ∀ b l q, s = some (b, l, q) → 0 ≤ l ∧ 1 ≤ q ∧ q ≤ B
theorem better_ok {s : Fnd} {B : Int} (h : OkF s B) (hB : 0 ≤ B) {p : List Int} {x : Int} (hx : 0 ≤ x) : OkF (better s p x) (B + 1) := by
  intro b l q e
  unfold better at e
  split at e
  · simp only [Option.some.injEq, Prod.mk.injEq] at e; omega
  · rename_i b' l' q'
    have h1 := h b' l' q' rfl
    split at e
    · simp only [Option.some.injEq, Prod.mk.injEq] at e; omega
    · split at e
      · simp only [Option.some.injEq, Prod.mk.injEq] at e; omega
      · simp only [Option.some.injEq, Prod.mk.injEq] at e; omega
theorem found_ok {cost : List Int → Int} (hc : ∀ l, 0 ≤ cost l) : ∀ (l : List (List Int)) {s : Fnd} {B : Int}, OkF s B → 0 ≤ B → OkF (foundF cost l s) (B + l.length)
  | [], s, B, h, _ => by simpa [foundF] using h
  | p :: l, s, B, h, h0 => by
    have := found_ok hc l (better_ok h h0 (p := p) (hc p)) (by omega)
    have e : B + 1 + (l.length : Int) = B + ((p :: l).length : Nat) := by simp; omega
    rw [← e]; exact this
theorem cst_b (h : validV n c j f = true) (l : List Int) : 0 ≤ cst j l ∧ cst j l ≤ 30000 := by
  obtain ⟨_, _, _, hj, hc⟩ := validV_t h
  have := costF_b (l := l) hc j.length (Nat.le_refl _)
  have := (pairsV_len hj).1
  unfold cst; omega
theorem foundF_succ (cost : List Int → Int) {l : List (List Int)} {k : Nat} (h : k < l.length) (s : Fnd) : foundF cost (l.take (k + 1)) s = better (foundF cost (l.take k) s) l[k] (cost l[k]) := by
  rw [List.take_succ_eq_append_getElem h, foundF_append]; rfl
theorem okF_none (B : Int) : OkF none B := fun b l q e => by cases e
theorem specBest_eq (h : validV n c j f = true) : m_spec_l07Best_bimplWiring n c j f = some (repF (foundF (cst j) (lev (okL f c) n.toNat) none)) := by
  obtain ⟨hn14, hf, _, _, _⟩ := validV_t h
  have hls := lev_small (okL f c) (i := n.toNat) (by omega)
  have hll := lev_len (okL f c) n.toNat
  unfold m_spec_l07Best_bimplWiring
  rw [specAll_eq h]
  simp only [bind_some']
  generalize lev (okL f c) n.toNat = L at *
  have hh := loop_run (step := m_spec_l07Best_bimplWiring_s1 n c j f L) L.length (fun k => ((repF (foundF (cst j) (L.take k) none)).1, (repF (foundF (cst j) (L.take k) none)).2.1, (repF (foundF (cst j) (L.take k) none)).2.2, (k : Int))) (r := repF (foundF (cst j) L none)) (by
    intro k hk
    have ho := found_ok (fun l => (cst_b h l).1) (L.take k) (okF_none 0) (Int.le_refl 0)
    have hlt : (L.take k).length ≤ 16384 := by rw [List.length_take]; omega
    have hpl := hll _ (List.getElem_mem hk)
    have hcb := cst_b h L[k]
    rw [foundF_succ _ hk]
    generalize foundF (cst j) (L.take k) none = s at ho
    unfold m_spec_l07Best_bimplWiring_s1
    simp only []
    rw [bif_t (by simpa using hk), geti_lt hk]
    simp only [bind_some']
    rw [specCost_eq h (by omega)]
    simp only [bind_some']
    rw [show costF j L[k] j.length = cst j L[k] from rfl]
    rw [wr_in (x := (k : Int) + 1) (by omega)]
    cases s with
    | none =>
      simp only [repF, better]
      rw [bif_t (by simp)]
      simp only [bind_some']
      rw [bif_t (by simp)]
      rfl
    | some x =>
      obtain ⟨b, l, q⟩ := x
      have hq := ho b l q rfl
      rw [show repF (some (b, l, q)) = (b, l, q) from rfl]
      unfold better
      simp only []
      rw [bif_f (by simp; omega)]
      by_cases e1 : cst j L[k] < l
      · rw [bif_t (by simpa using e1), if_pos e1]
        simp only [bind_some']
        rw [bif_t (by simp)]
        rfl
      · rw [bif_f (by simpa using e1), if_neg e1]
        simp only [bind_some']
        by_cases e2 : cst j L[k] = l
        · rw [bif_t (by simpa using e2), if_pos e2, wr_in (by omega)]
          rfl
        · rw [bif_f (by simpa using e2), if_neg e2]
          rfl) (by
    unfold m_spec_l07Best_bimplWiring_s1
    simp only []
    rw [bif_f (by simp), List.take_length])
  rw [show (((repF (foundF (cst j) (L.take 0) none)).1, (repF (foundF (cst j) (L.take 0) none)).2.1, (repF (foundF (cst j) (L.take 0) none)).2.2, ((0 : Nat) : Int)) : List Int × Int × Int × Int) = ([], -1, 0, 0) from rfl] at hh
  rw [hh]
  rfl
end
end Go.Proofs.Ytngnljnfbfgfeaa
