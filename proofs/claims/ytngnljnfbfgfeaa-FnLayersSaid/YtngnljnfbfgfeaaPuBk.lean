/- How far it is from each number of a graph to one of them. -/
import Derived.Test.YtngnljnfbfgfeaaPuBe2
set_option linter.unusedSimpArgs false
set_option linter.unusedVariables false
set_option linter.unusedSectionVars false
namespace Go.Proofs.Ytngnljnfbfgfeaa
open Go.RowKit

theorem mul_small : ∀ n : Fin 29, m_math_bits_Mul (wu 1) (wu ((n : Nat) : Int)) = some (0, ((n : Nat) : Int)) := by decide
theorem repl_step (x : Int) (n k : Nat) (hk : k ≤ n) : cpy (List.replicate k x ++ List.replicate (n - k) 0) (k : Int) (List.replicate k x) = List.replicate (k + min k (n - k)) x ++ List.replicate (n - (k + min k (n - k))) 0 := by
  unfold cpy
  simp only [Int.toNat_natCast, List.length_append, List.length_replicate]
  rw [List.take_left' (by simp), show k + (n - k) - k = n - k by omega, List.take_replicate, List.drop_append, List.length_replicate, List.drop_replicate, List.drop_replicate, show k - (k + k) = 0 by omega, show k + k - k = k by omega, List.replicate_append_replicate, show n - k - k = n - (k + min k (n - k)) by omega, show min (n - k) k = min k (n - k) by omega]
  simp
theorem repl_loop (x : Int) (n : Nat) (hn : n ≤ 1000) : ∀ (d k : Nat), n - k ≤ d → 1 ≤ k → k ≤ n → loopM m_slices_Repeat_int_int_s1 ((k : Int), List.replicate k x ++ List.replicate (n - k) 0) = some (List.replicate n x) := by
  intro d
  induction d with
  | zero =>
    intro k hd h1 hk
    have : k = n := by omega
    subst this
    refine loopM_out ?_
    unfold m_slices_Repeat_int_int_s1
    simp only []
    rw [bif_f (by simp)]
    simp
  | succ d ih =>
    intro k hd h1 hk
    by_cases e : k = n
    · subst e
      refine loopM_out ?_
      unfold m_slices_Repeat_int_int_s1
      simp only []
      rw [bif_f (by simp)]
      simp
    · have hlen : (List.replicate k x ++ List.replicate (n - k) (0 : Int)).length = n := by simp; omega
      have hs1 : slci (List.replicate k x ++ List.replicate (n - k) (0 : Int)) (k : Int) (n : Int) = some (List.replicate (n - k) 0) := by
        unfold slci; rw [if_pos (by rw [hlen]; omega), Int.toNat_natCast, Int.toNat_natCast, List.take_of_length_le (by rw [hlen]; exact Nat.le_refl _), List.drop_left' (by simp)]
      have hs2 : slci (List.replicate k x ++ List.replicate (n - k) (0 : Int)) 0 (k : Int) = some (List.replicate k x) := by
        have := slci_take (l := List.replicate k x ++ List.replicate (n - k) (0 : Int)) (k := k) (by rw [hlen]; omega)
        rw [this, List.take_left' (by simp)]
      have hst : m_slices_Repeat_int_int_s1 ((k : Int), List.replicate k x ++ List.replicate (n - k) 0) = some (Ctl.next (((k + min k (n - k) : Nat) : Int), List.replicate (k + min k (n - k)) x ++ List.replicate (n - (k + min k (n - k))) 0)) := by
        unfold m_slices_Repeat_int_int_s1
        simp only []
        rw [bif_t (by rw [hlen]; simp; omega), hlen, hs1, hs2]
        simp only [bind_some']
        rw [repl_step x n k hk]
        have : (((min (List.replicate k x).length ((List.replicate (k + min k (n - k)) x ++ List.replicate (n - (k + min k (n - k))) (0 : Int)).length - Int.toNat (k : Int)) : Nat) : Int)) = ((min k (n - k) : Nat) : Int) := by
          simp only [List.length_append, List.length_replicate, Int.toNat_natCast]; congr 1; omega
        rw [this, wr_in (by omega)]
        rfl
      rw [loopM_next hst]
      exact ih _ (by omega) (by omega) (by omega)
theorem Repeat_eq (x : Int) (n : Nat) (hn : n ≤ 28) : m_slices_Repeat_int_int [x] (n : Int) = some (List.replicate n x) := by
  unfold m_slices_Repeat_int_int
  rw [bif_f (by simp)]
  simp only [bind_some', List.length_cons, List.length_nil]
  have hm := mul_small ⟨n, by omega⟩
  simp only at hm
  rw [show (((0 + 1 : Nat)) : Int) = 1 from rfl, hm]
  simp only [bind_some']
  rw [bif_f (by simp), bif_f (by simp; omega)]
  simp only [bind_some']
  rw [wr_in (by omega), mkC_ok (by unfold lim; omega)]
  simp only [bind_some', Int.toNat_natCast]
  by_cases h0 : n = 0
  · subst h0
    rw [loopM_out (r := ([] : List Int)) (by
      unfold m_slices_Repeat_int_int_s1
      simp only []
      rw [bif_f (by simp [cpy])]
      simp [cpy])]
    rfl
  · have e1 : cpy (List.replicate n (0 : Int)) 0 [x] = List.replicate 1 x ++ List.replicate (n - 1) 0 := by
      unfold cpy
      simp only [Int.toNat_zero, List.take_zero, List.nil_append, List.length_replicate, Nat.sub_zero, List.length_cons, List.length_nil, List.drop_replicate, Nat.zero_add]
      rw [List.take_of_length_le (by simp; omega)]; rfl
    have e2 : (((min ([x] : List Int).length ((cpy (List.replicate n (0 : Int)) 0 [x]).length - Int.toNat 0) : Nat) : Int)) = ((1 : Nat) : Int) := by
      rw [e1]; simp; try omega
    simp only [List.length_cons, List.length_nil] at e2
    rw [e2, e1, repl_loop x n (by omega) n 1 (by omega) (Nat.le_refl _) (by omega)]
    rfl
/-! ### The search -/
def cnt (l : List Int) : Nat := l.countP fun x => decide (x < 0)
theorem cnt_set : ∀ (l : List Int) (i : Nat) (v : Int) (h : i < l.length), l[i] < 0 → 0 ≤ v → cnt (l.set i v) + 1 = cnt l
  | [], i, v, h, _, _ => by simp at h
  | x :: l, 0, v, h, h1, h2 => by
    simp only [List.getElem_cons_zero] at h1
    unfold cnt
    rw [List.set_cons_zero, List.countP_cons_of_neg (by simp; omega), List.countP_cons_of_pos (by simpa using h1)]
  | x :: l, i + 1, v, h, h1, h2 => by
    simp only [List.getElem_cons_succ] at h1
    have ih := cnt_set l i v (by simpa using h) h1 h2
    unfold cnt at ih ⊢
    rw [List.set_cons_succ, List.countP_cons, List.countP_cons]
    omega
/-- From here one gets there. -/
inductive Rch (E : Nat → Nat → Prop) (t : Nat) : Nat → Prop
  | here : Rch E t t
  | step {i k : Nat} (h : E i k) (r : Rch E t k) : Rch E t i
/-- From here one gets there in so many steps. -/
inductive Wk (E : Nat → Nat → Prop) (t : Nat) : Nat → Nat → Prop
  | here : Wk E t t 0
  | step {i k L : Nat} (h : E i k) (r : Wk E t k L) : Wk E t i (L + 1)
def Ed (G : List (List Int)) (i k : Nat) : Prop := i < G.length ∧ k < G.length ∧ (k : Int) ∈ gR G i
structure BkI (G : List (List Int)) (t : Nat) (todo out : List Int) : Prop where
  len : out.length = G.length
  q : ∀ x ∈ todo, 0 ≤ x ∧ x < G.length ∧ 0 ≤ gI out x.toNat
  lo : ∀ i, i < G.length → -1 ≤ gI out i ∧ gI out i + cnt out < G.length
  at0 : gI out t = 0
  snd : ∀ i, i < G.length → 0 ≤ gI out i → Rch (Ed G) t i
  col : ∀ c : Nat → Bool, (∀ i k, Ed G i k → c i ≠ c k) → ∀ i, i < G.length → 0 ≤ gI out i → (c i = c t ↔ gI out i % 2 = 0)
  sum : todo.length + cnt out ≤ G.length
  wk : ∀ i, i < G.length → 0 ≤ gI out i → Wk (Ed G) t i (gI out i).toNat
  mono : todo.Pairwise fun x y => gI out x.toNat ≤ gI out y.toNat
  top : ∀ q, todo.head? = some q → ∀ i, i < G.length → gI out i ≤ gI out q.toNat + 1
theorem gI_set {l : List Int} {i j : Nat} {v : Int} (h : i < l.length) : gI (l.set i v) j = if j = i then v else gI l j := by
  unfold gI
  rw [List.getD_eq_getElem?_getD, List.getD_eq_getElem?_getD, List.getElem?_set]
  by_cases e : i = j
  · subst e; simp [h]
  · rw [if_neg e, if_neg (fun h => e h.symm)]
theorem Contains_eq (l : List Int) (x : Int) (hb : l.length ≤ 1000) : m_slices_Contains_int_int l x = some (decide (x ∈ l)) := by
  unfold m_slices_Contains_int_int m_slices_Index_int_int
  rcases loop_find (step := m_slices_Index_int_int_s1 l x) l.length (fun k => x == gI l k) (fun k => (k : Int)) (by
      intro k hk
      unfold m_slices_Index_int_int_s1
      simp only []
      rw [bif_t (by simpa using hk), geti_gI hk]
      simp only [bind_some']
      rw [wr_in (by omega)]
      cases x == gI l k <;> rfl) (by
      unfold m_slices_Index_int_int_s1
      simp only []
      rw [bif_f (by simp)]) with ⟨h1, h2⟩ | ⟨k, h1, h2, _, h3⟩
  · rw [h2]
    have : x ∉ l := fun hx => by
      obtain ⟨k, hk, rfl⟩ := List.mem_iff_getElem.1 hx
      have := anyIn_f.1 h1 k (by omega) hk
      rw [gI_at hk] at this
      simp at this
    simp only [bind_some']
    simp [this]
  · rw [h3]
    have : x ∈ l := by
      simp only [beq_iff_eq] at h2
      rw [h2, gI_at h1]; exact List.getElem_mem h1
    simp only [bind_some']
    simp [this]
section
variable {G : List (List Int)} (hG : G.length ≤ 28) (hr : ∀ r ∈ G, r.length ≤ 1000)
include hG hr
/-- One number is looked at. -/
def lookB (G : List (List Int)) (q : Int) (s : List Int × List Int) (i : Nat) : List Int × List Int :=
  if gI s.2 i < 0 ∧ q ∈ gR G i then (s.1 ++ [(i : Int)], s.2.set i (gI s.2 q.toNat + 1)) else s
def lookF (G : List (List Int)) (q : Int) (s : List Int × List Int) : Nat → List Int × List Int
  | 0 => s
  | i + 1 => lookB G q (lookF G q s i) i
theorem look_inv {t : Nat} {q : Int} {rest out : List Int} (h : BkI G t (q :: rest) out) (ht : t < G.length) : ∀ i, i ≤ G.length →
    ∃ new : List Int, (lookF G q (q :: rest, out) i).1 = q :: (rest ++ new) ∧ BkI G t (q :: (rest ++ new)) (lookF G q (q :: rest, out) i).2 ∧ (∀ j, j < G.length → 0 ≤ gI out j → gI (lookF G q (q :: rest, out) i).2 j = gI out j) ∧
      (∀ j, j < i → q ∈ gR G j → 0 ≤ gI (lookF G q (q :: rest, out) i).2 j) ∧ (∀ j, j < G.length → 0 ≤ gI (lookF G q (q :: rest, out) i).2 j → 0 ≤ gI out j ∨ (j : Int) ∈ new)
  | 0, _ => ⟨[], by rw [List.append_nil]; rfl, by rw [List.append_nil]; exact h, fun j _ _ => rfl, fun j hj => by omega, fun j _ hj => Or.inl hj⟩
  | i + 1, hi => by
    obtain ⟨new, e1, e2, e3, e4, e5⟩ := look_inv h ht i (by omega)
    have hL : lookF G q (q :: rest, out) (i + 1) = lookB G q (lookF G q (q :: rest, out) i) i := rfl
    rw [hL]
    have hqm := e2.q q (List.mem_cons_self ..)
    unfold lookB
    by_cases hc : gI (lookF G q (q :: rest, out) i).2 i < 0 ∧ q ∈ gR G i
    · rw [if_pos hc]
      generalize (lookF G q (q :: rest, out) i).2 = o at *
      rw [e1]
      simp only []
      have hil : i < o.length := by rw [e2.len]; omega
      have hcs := cnt_set o i (gI o q.toNat + 1) hil (by rw [← gI_at hil]; exact hc.1) (by omega)
      have hqlo := e2.lo q.toNat (by omega)
      obtain ⟨hc1, hc2⟩ := hc
      have hEd : Ed G i q.toNat := ⟨by omega, by omega, by rw [show ((q.toNat : Nat) : Int) = q by omega]; exact hc2⟩
      have hne : ∀ x ∈ q :: (rest ++ new), x.toNat ≠ i := fun x hx e => by have := (e2.q x hx).2.2; rw [e] at this; omega
      have htop := e2.top q rfl
      refine ⟨new ++ [(i : Int)], by simp, ⟨by rw [List.length_set]; exact e2.len, fun x hx => ?_, fun j hj => ?_, ?_, fun j hj hp => ?_, fun c hcol j hj hp => ?_, ?_, fun j hj hp => ?_, ?_, fun q' hq' j hj => ?_⟩, fun j hj hp => ?_, fun j hj hq => ?_, fun j hj hp => ?_⟩
      · rw [gI_set hil]
        rw [← List.append_assoc, ← List.cons_append, List.mem_append, List.mem_singleton] at hx
        rcases hx with hx | rfl
        · have := e2.q x hx
          refine ⟨this.1, this.2.1, ?_⟩
          split
          · omega
          · exact this.2.2
        · refine ⟨by omega, by omega, ?_⟩
          rw [Int.toNat_natCast, if_pos rfl]; omega
      · rw [gI_set hil]
        have := e2.lo j hj
        split
        · omega
        · omega
      · rw [gI_set hil, if_neg (fun e => by subst e; have := e2.at0; omega)]; exact e2.at0
      · rw [gI_set hil] at hp
        by_cases e : j = i
        · subst e
          exact Rch.step hEd (e2.snd _ hEd.2.1 hqm.2.2)
        · rw [if_neg e] at hp; exact e2.snd j hj hp
      · rw [gI_set hil] at hp ⊢
        by_cases e : j = i
        · subst e
          rw [if_pos rfl]
          have hq := e2.col c hcol q.toNat hEd.2.1 hqm.2.2
          have hne := hcol _ _ hEd
          constructor
          · intro h
            have : ¬ (c q.toNat = c t) := fun h' => hne (h.trans h'.symm)
            have h2 := mt hq.2 this
            omega
          · intro h
            have h2 : ¬ (gI o q.toNat % 2 = 0) := by omega
            have h3 := mt hq.1 h2
            cases h4 : c j <;> cases h5 : c q.toNat <;> cases h6 : c t <;> simp_all
        · rw [if_neg e] at hp ⊢; exact e2.col c hcol j hj hp
      · have := e2.sum
        simp only [List.length_cons, List.length_append, List.length_nil] at this ⊢
        omega
      · rw [gI_set hil] at hp ⊢
        by_cases e : j = i
        · subst e
          rw [if_pos rfl, show (gI o q.toNat + 1).toNat = (gI o q.toNat).toNat + 1 by have := hqm.2.2; omega]
          exact Wk.step hEd (e2.wk _ hEd.2.1 hqm.2.2)
        · rw [if_neg e] at hp ⊢; exact e2.wk j hj hp
      · rw [← List.append_assoc, ← List.cons_append, List.pairwise_append]
        refine ⟨?_, by simp, fun x hx y hy => ?_⟩
        · refine List.Pairwise.imp_of_mem ?_ e2.mono
          intro x y hx hy hxy
          rw [gI_set hil, gI_set hil, if_neg (hne x hx), if_neg (hne y hy)]; exact hxy
        · rw [List.mem_singleton] at hy
          subst hy
          rw [gI_set hil, gI_set hil, if_neg (hne x hx), Int.toNat_natCast, if_pos rfl]
          exact htop x.toNat (by have := e2.q x hx; omega)
      · have : q' = q := by simpa using hq'.symm
        subst this
        rw [gI_set hil, gI_set hil, if_neg (hne q' (List.mem_cons_self ..))]
        split
        · exact Int.le_refl _
        · exact htop j hj
      · rw [gI_set hil, if_neg (fun e => by subst e; have := e3 j hj hp; omega)]; exact e3 j hj hp
      · rw [gI_set hil]
        split
        · omega
        · exact e4 j (by omega) hq
      · rw [gI_set hil] at hp
        by_cases e : j = i
        · subst e; exact Or.inr (by simp)
        · rw [if_neg e] at hp
          rcases e5 j hj hp with h | h
          · exact Or.inl h
          · exact Or.inr (List.mem_append_left _ h)
    · rw [if_neg hc]
      refine ⟨new, e1, e2, e3, fun j hj hq => ?_, e5⟩
      by_cases e : j = i
      · subst e
        refine Classical.byContradiction fun hn => hc ⟨by omega, hq⟩
      · exact e4 j (by omega) hq
theorem s4_eq {t : Nat} {q : Int} {rest out : List Int} (h : BkI G t (q :: rest) out) (ht : t < G.length) : loopM (m_impl_graph_back_s4 G) (q :: rest, 0, out) = some (lookF G q (q :: rest, out) G.length) := by
  have hh := loop_run (step := m_impl_graph_back_s4 G) G.length (fun i => ((lookF G q (q :: rest, out) i).1, (i : Int), (lookF G q (q :: rest, out) i).2)) (r := lookF G q (q :: rest, out) G.length) (by
    intro i hi
    obtain ⟨new, e1, e2, e3, e4, e5⟩ := look_inv hG hr h ht i (by omega)
    have hqm := e2.q q (List.mem_cons_self ..)
    have hqlo := e2.lo q.toNat (by omega)
    have hsum := e2.sum
    have hrow := hr _ (gR_mem hi)
    show m_impl_graph_back_s4 G _ = some (Ctl.next ((lookB G q (lookF G q (q :: rest, out) i) i).1, ((i + 1 : Nat) : Int), (lookB G q (lookF G q (q :: rest, out) i) i).2))
    unfold lookB
    generalize hL : lookF G q (q :: rest, out) i = L at *
    obtain ⟨td, o⟩ := L
    simp only at e1 e2 e3 e4 e5 hqm hqlo hsum
    subst e1
    unfold m_impl_graph_back_s4
    simp only []
    rw [bif_t (by simpa using hi), geti_gR hi, geti_gI (l := o) (by rw [e2.len]; exact hi)]
    simp only [bind_some']
    rw [wr_in (x := (i : Int) + 1) (by omega)]
    have g0 : geti (q :: (rest ++ new)) 0 = some q := rfl
    simp only [g0, bind_some', Contains_eq (gR G i) q hrow]
    have gq : geti o q = some (gI o q.toNat) := geti_gI' hqm.1 (by rw [e2.len]; exact hqm.2.1)
    simp only [gq, bind_some']
    by_cases c1 : gI o i < 0
    · rw [bif_t (by simpa using c1)]
      by_cases c2 : q ∈ gR G i
      · rw [decide_eq_true c2, if_pos ⟨c1, c2⟩]
        simp only [cond_true]
        rw [apC_ok (by unfold lim; simp at hsum ⊢; omega), wr_in (x := gI o q.toNat + 1) (by omega)]
        simp only [bind_some', Int.toNat_natCast]
        rfl
      · rw [decide_eq_false c2, if_neg (fun h => c2 h.2)]
        rfl
    · rw [bif_f (by simpa using c1), if_neg (fun h => c1 h.1)]
      rfl) (by
    unfold m_impl_graph_back_s4
    simp only []
    rw [bif_f (by simp)])
  exact hh
/-- What the search leaves. -/
structure BkP (G : List (List Int)) (t : Nat) (out : List Int) : Prop where
  len : out.length = G.length
  rng : ∀ i, i < G.length → -1 ≤ gI out i ∧ gI out i < G.length
  iff : ∀ i, i < G.length → (0 ≤ gI out i ↔ Rch (Ed G) t i)
  col : ∀ c : Nat → Bool, (∀ i k, Ed G i k → c i ≠ c k) → ∀ i, i < G.length → 0 ≤ gI out i → (c i = c t ↔ gI out i % 2 = 0)
  wk : ∀ i, i < G.length → 0 ≤ gI out i → Wk (Ed G) t i (gI out i).toNat
  sh : ∀ i L, Wk (Ed G) t i L → 0 ≤ gI out i ∧ gI out i ≤ L
theorem s3_eq {t : Nat} (ht : t < G.length) : ∀ (m : Nat) (todo out : List Int), todo.length + cnt out ≤ m → BkI G t todo out → (∀ i k, Ed G i k → 0 ≤ gI out k → (k : Int) ∉ todo → 0 ≤ gI out i ∧ gI out i ≤ gI out k + 1) →
    ∃ r, loopM (m_impl_graph_back_s3 G) (todo, out) = some r ∧ BkP G t r := by
  intro m
  have fin : ∀ out : List Int, BkI G t [] out → (∀ i k, Ed G i k → 0 ≤ gI out k → (k : Int) ∉ ([] : List Int) → 0 ≤ gI out i ∧ gI out i ≤ gI out k + 1) → ∃ r, loopM (m_impl_graph_back_s3 G) ([], out) = some r ∧ BkP G t r := by
    intro out h hcl
    refine ⟨out, loopM_out ?_, h.len, fun i hi => by have := h.lo i hi; omega, fun i hi => ⟨h.snd i hi, fun hr => ?_⟩, h.col, h.wk, fun i L hw => ?_⟩
    · unfold m_impl_graph_back_s3
      simp only []
      rw [bif_f (by simp)]
    · clear hi
      induction hr with
      | here => rw [h.at0]; exact Int.le_refl _
      | step he _ ih => exact (hcl _ _ he ih (by simp)).1
    · induction hw with
      | here => rw [h.at0]; exact ⟨Int.le_refl _, Int.le_refl _⟩
      | step he _ ih => have := hcl _ _ he ih.1 (by simp); omega
  induction m with
  | zero =>
    intro todo out hm h hcl
    have : todo = [] := List.length_eq_zero_iff.1 (by omega)
    subst this
    exact fin out h hcl
  | succ m ih =>
    intro todo out hm h hcl
    cases todo with
    | nil => exact fin out h hcl
    | cons q rest =>
      obtain ⟨new, e1, e2, e3, e4, e5⟩ := look_inv hG hr h ht G.length (Nat.le_refl _)
      have hs4 := s4_eq hG hr h ht
      generalize hL : lookF G q (q :: rest, out) G.length = L at *
      obtain ⟨td, o⟩ := L
      simp only at e1 e2 e3 e4 e5
      subst e1
      have hst : m_impl_graph_back_s3 G (q :: rest, out) = some (Ctl.next (rest ++ new, o)) := by
        unfold m_impl_graph_back_s3
        simp only []
        rw [bif_t (by simp), hs4]
        simp only [bind_some']
        have : slci (q :: (rest ++ new)) 1 (((q :: (rest ++ new)).length : Nat) : Int) = some (rest ++ new) := by
          unfold slci; rw [if_pos (by simp; omega), Int.toNat_natCast, List.take_of_length_le (Nat.le_refl _)]; rfl
        rw [this]
        rfl
      rw [loopM_next hst]
      refine ih (rest ++ new) o ?_ ⟨e2.len, fun x hx => e2.q x (List.mem_cons_of_mem _ hx), e2.lo, e2.at0, e2.snd, e2.col, ?_, e2.wk, (List.pairwise_cons.1 e2.mono).2, fun q' hq' i hi => ?_⟩ (fun i k he hk hn => ?_)
      · have h1 := e2.sum
        have h2 := h.sum
        have hx : (rest ++ new).length + cnt o + 1 ≤ (q :: rest).length + cnt out := by
          have key : ∀ i, i ≤ G.length → (lookF G q (q :: rest, out) i).1.length + cnt (lookF G q (q :: rest, out) i).2 = (q :: rest).length + cnt out := by
            intro i
            induction i with
            | zero => intro _; rfl
            | succ i ih2 =>
              intro hi
              have hprev := ih2 (by omega)
              obtain ⟨new', f1, f2, f3, f4, f5⟩ := look_inv hG hr h ht i (by omega)
              show (lookB G q (lookF G q (q :: rest, out) i) i).1.length + cnt (lookB G q (lookF G q (q :: rest, out) i) i).2 = _
              unfold lookB
              split
              · rename_i hc
                have hqm := f2.q q (List.mem_cons_self ..)
                have hil : i < (lookF G q (q :: rest, out) i).2.length := by rw [f2.len]; omega
                have := cnt_set (lookF G q (q :: rest, out) i).2 i (gI (lookF G q (q :: rest, out) i).2 q.toNat + 1) hil (by rw [← gI_at hil]; exact hc.1) (by omega)
                simp only [List.length_append, List.length_cons, List.length_nil] at hprev ⊢
                omega
              · exact hprev
          have := key G.length (Nat.le_refl _)
          rw [hL] at this
          simp only [List.length_cons] at this ⊢
          omega
        omega
      · have := e2.sum
        simp only [List.length_cons] at this
        omega
      · have h1 := e2.top q rfl i hi
        have h2 := (List.pairwise_cons.1 e2.mono).1 q' (List.mem_of_mem_head? hq')
        omega
      · rcases e5 k he.2.1 hk with hk' | hk'
        · by_cases hkq : (k : Int) = q
          · refine ⟨e4 i he.1 (by rw [← hkq]; exact he.2.2), ?_⟩
            have := e2.top q rfl i he.1
            rw [← hkq, Int.toNat_natCast] at this
            exact this
          · have := hcl i k he hk' (fun hm => by
              rcases List.mem_cons.1 hm with h | h
              · exact hkq h
              · exact hn (List.mem_append_left _ h))
            rw [e3 i he.1 this.1, e3 k he.2.1 hk']; exact this
        · exact absurd (List.mem_append_right _ hk') hn
theorem back_eq {t : Nat} (ht : t < G.length) : ∃ r, m_impl_graph_back G (t : Int) = some r ∧ BkP G t r := by
  have hrep := Repeat_eq (-1) G.length hG
  have hgr : ∀ i, i < G.length → gI (List.replicate G.length (-1 : Int)) i = -1 := fun i hi => by unfold gI; simp [List.getD_eq_getElem?_getD, hi]
  have hc0 : cnt (List.replicate G.length (-1 : Int)) = G.length := by unfold cnt; rw [List.countP_replicate]; simp
  have hlt : t < (List.replicate G.length (-1 : Int)).length := by simpa using ht
  have hcs := cnt_set (List.replicate G.length (-1 : Int)) t 0 hlt (by simp) (Int.le_refl _)
  have hx : ∃ r, loopM (m_impl_graph_back_s3 G) ([(t : Int)], (List.replicate G.length (-1 : Int)).set t 0) = some r ∧ BkP G t r := by
    refine s3_eq hG hr ht (([(t : Int)] : List Int).length + cnt ((List.replicate G.length (-1 : Int)).set t 0)) [(t : Int)] ((List.replicate G.length (-1 : Int)).set t 0) (Nat.le_refl _) ⟨by simp, fun x hx => ?_, fun i hi => ?_, ?_, fun i hi hp => ?_, fun c hcol i hi hp => ?_, ?_, fun i hi hp => ?_, by simp, fun q hq i hi => ?_⟩ (fun i k he hk hn => ?_)
    · simp only [List.mem_singleton] at hx
      subst hx
      refine ⟨by omega, by omega, ?_⟩
      rw [Int.toNat_natCast, gI_set hlt, if_pos rfl]; exact Int.le_refl _
    · rw [gI_set hlt]
      split
      · omega
      · rw [hgr i hi]; omega
    · rw [gI_set hlt, if_pos rfl]
    · rw [gI_set hlt] at hp
      by_cases e : i = t
      · subst e; exact Rch.here
      · rw [if_neg e, hgr i hi] at hp; omega
    · rw [gI_set hlt] at hp ⊢
      by_cases e : i = t
      · subst e; simp
      · rw [if_neg e, hgr i hi] at hp; omega
    · simp only [List.length_cons, List.length_nil]; omega
    · rw [gI_set hlt] at hp ⊢
      by_cases e : i = t
      · subst e; rw [if_pos rfl]; exact Wk.here
      · rw [if_neg e, hgr i hi] at hp; omega
    · have : q = (t : Int) := by simpa using hq.symm
      subst this
      rw [gI_set hlt, gI_set hlt, Int.toNat_natCast, if_pos rfl]
      split
      · omega
      · rw [hgr i hi]; omega
    · rw [gI_set hlt] at hk
      by_cases e : k = t
      · subst e; exact absurd (List.mem_singleton.2 rfl) hn
      · rw [if_neg e, hgr k he.2.1] at hk; omega
  obtain ⟨r, r1, r2⟩ := hx
  refine ⟨r, ?_, r2⟩
  unfold m_impl_graph_back
  rw [hrep]
  simp only [bind_some']
  rw [geti_gI (by simpa using ht)]
  simp only [bind_some', Int.toNat_natCast]
  rw [r1]
  rfl
end
end Go.Proofs.Ytngnljnfbfgfeaa
