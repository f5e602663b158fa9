/- The groups of a wiring: what hangs together, at the program and at the book. -/
import Derived.Test.YtngnljnfbfgfeaaPuBk
import Derived.Test.YtngnljnfbfgfeaaPuBe3
set_option linter.unusedSimpArgs false
set_option linter.unusedVariables false
set_option linter.unusedSectionVars false
namespace Go.Proofs.Ytngnljnfbfgfeaa
open Go.RowKit

/-! ### Plain lists -/
def insB (p : Int) : Bool → List Int → List Int
  | b, [] => if b then [] else [p]
  | b, x :: xs => if b then x :: insB p b xs else if x ≥ p then (if x > p then p :: x :: insB p true xs else x :: insB p true xs) else x :: insB p b xs
theorem insB_t (p : Int) : ∀ l, insB p true l = l
  | [] => rfl
  | x :: l => by unfold insB; rw [if_pos rfl, insB_t p l]
theorem insB_cons (p x : Int) (l : List Int) : insB p false (x :: l) = if x ≥ p then (if x > p then p :: x :: l else x :: l) else x :: insB p false l := by
  rw [insB]; simp only [Bool.false_eq_true, if_false, insB_t]
theorem mem_ins (p y : Int) : ∀ l, y ∈ insB p false l ↔ y = p ∨ y ∈ l
  | [] => by unfold insB; simp
  | x :: l => by
    rw [insB_cons]
    split
    · split
      · simp
      · rename_i h1 h2
        have : x = p := by omega
        subst this; simp
    · rw [List.mem_cons, mem_ins p y l, List.mem_cons]
      constructor
      · rintro (h | h | h)
        · exact Or.inr (Or.inl h)
        · exact Or.inl h
        · exact Or.inr (Or.inr h)
      · rintro (h | h | h)
        · exact Or.inr (Or.inl h)
        · exact Or.inl h
        · exact Or.inr (Or.inr h)
theorem ins_sorted (p : Int) : ∀ l : List Int, l.Pairwise (· < ·) → (insB p false l).Pairwise (· < ·)
  | [], _ => by unfold insB; simp
  | x :: l, h => by
    rw [insB_cons]
    have h1 := List.pairwise_cons.1 h
    split
    · split
      · refine List.pairwise_cons.2 ⟨fun y hy => ?_, h⟩
        rcases List.mem_cons.1 hy with e | e
        · omega
        · have := h1.1 y e; omega
      · exact h
    · refine List.pairwise_cons.2 ⟨fun y hy => ?_, ins_sorted p l h1.2⟩
      rcases (mem_ins p y l).1 hy with e | e
      · omega
      · exact h1.1 y e
theorem ins_len (p : Int) : ∀ l : List Int, (insB p false l).length ≤ l.length + 1
  | [] => by unfold insB; simp
  | x :: l => by
    rw [insB_cons]
    have := ins_len p l
    split
    · split <;> simp
    · simp; exact this
def insF (L : List Int) (acc : List Int) : List Int := L.foldl (fun a p => insB p false a) acc
theorem insF_mem (y : Int) : ∀ (L acc : List Int), y ∈ insF L acc ↔ y ∈ acc ∨ y ∈ L
  | [], acc => by unfold insF; simp
  | p :: L, acc => by
    unfold insF
    rw [List.foldl_cons]
    have := insF_mem y L (insB p false acc)
    unfold insF at this
    rw [this, mem_ins, List.mem_cons]
    constructor
    · rintro ((h | h) | h)
      · exact Or.inr (Or.inl h)
      · exact Or.inl h
      · exact Or.inr (Or.inr h)
    · rintro (h | h | h)
      · exact Or.inl (Or.inr h)
      · exact Or.inl (Or.inl h)
      · exact Or.inr h
theorem insF_sorted : ∀ (L acc : List Int), acc.Pairwise (· < ·) → (insF L acc).Pairwise (· < ·)
  | [], acc, h => h
  | p :: L, acc, h => by
    have := insF_sorted L (insB p false acc) (ins_sorted p acc h)
    unfold insF at this ⊢
    rw [List.foldl_cons]; exact this
theorem insF_succ {L : List Int} {k : Nat} (h : k < L.length) (acc : List Int) : insF (L.take (k + 1)) acc = insB L[k] false (insF (L.take k) acc) := by
  unfold insF
  rw [List.take_add_one, List.getElem?_eq_getElem h, List.foldl_append]; rfl
theorem insF_len (L : List Int) : ∀ k, k ≤ L.length → (insF (L.take k) []).length ≤ k
  | 0, _ => by simp [insF]
  | k + 1, h => by
    rw [insF_succ (by omega)]
    have h1 := ins_len L[k] (insF (L.take k) [])
    have h2 := insF_len L k (by omega)
    omega
theorem sorted_uniq : ∀ (l m : List Int), l.Pairwise (· < ·) → m.Pairwise (· < ·) → (∀ y, y ∈ l ↔ y ∈ m) → l = m
  | [], [], _, _, _ => rfl
  | [], b :: m, _, _, h => by have := (h b).2 (List.mem_cons_self ..); simp at this
  | a :: l, [], _, _, h => by have := (h a).1 (List.mem_cons_self ..); simp at this
  | a :: l, b :: m, hl, hm, h => by
    have h1 := List.pairwise_cons.1 hl
    have h2 := List.pairwise_cons.1 hm
    have e : a = b := by
      have ha := (h a).1 (List.mem_cons_self ..)
      have hb := (h b).2 (List.mem_cons_self ..)
      rcases List.mem_cons.1 ha with e | e
      · exact e
      · rcases List.mem_cons.1 hb with e' | e'
        · exact e'.symm
        · have := h1.1 b e'; have := h2.1 a e; omega
    subst e
    rw [sorted_uniq l m h1.2 h2.2 (fun y => by
      constructor
      · intro hy
        rcases List.mem_cons.1 ((h y).1 (List.mem_cons_of_mem _ hy)) with e | e
        · have := h1.1 y hy; omega
        · exact e
      · intro hy
        rcases List.mem_cons.1 ((h y).2 (List.mem_cons_of_mem _ hy)) with e | e
        · have := h2.1 y hy; omega
        · exact e)]
theorem nodupI_le : ∀ (N : Nat) (L : List Int), L.Nodup → (∀ x ∈ L, 0 ≤ x ∧ x < N) → L.length ≤ N
  | 0, L, _, h => by
    cases L with
    | nil => simp
    | cons a r => have := h a (by simp); omega
  | N + 1, L, hn, h => by
    have h1 := nodupI_le N (L.erase (N : Int)) (hn.erase _) (fun x hx => by
      have h2 := h x (List.mem_of_mem_erase hx)
      have h3 : x ≠ (N : Int) := fun e => by subst e; exact (List.Nodup.not_mem_erase hn) hx
      omega)
    by_cases hm : (N : Int) ∈ L
    · rw [List.length_erase_of_mem hm] at h1; omega
    · rw [List.erase_of_not_mem hm] at h1; omega
/-! ### Reaching -/
theorem Rch.trans {E : Nat → Nat → Prop} {s t i : Nat} (h1 : Rch E t i) (h2 : Rch E s t) : Rch E s i := by
  induction h1 with
  | here => exact h2
  | step h _ ih => exact Rch.step h ih
theorem Rch.symm {E : Nat → Nat → Prop} (hE : ∀ i k, E i k → E k i) {t i : Nat} (h : Rch E t i) : Rch E i t := by
  induction h with
  | here => exact Rch.here
  | step h _ ih => exact ih.trans (Rch.step (hE _ _ h) Rch.here)
theorem Rch.rng {G : List (List Int)} {t i : Nat} (h : Rch (Ed G) t i) (ht : t < G.length) : i < G.length := by
  cases h with
  | here => exact ht
  | step h _ => exact h.1
noncomputable def rb (G : List (List Int)) (t i : Nat) : Bool := @decide (Rch (Ed G) t i) (Classical.propDecidable _)
theorem rb_t {G : List (List Int)} {t i : Nat} : rb G t i = true ↔ Rch (Ed G) t i := by
  unfold rb
  exact @decide_eq_true_iff _ (Classical.propDecidable _)
noncomputable def gpK (G : List (List Int)) (t k : Nat) : List Int := ((List.range k).filter fun i => rb G t i).map fun i : Nat => (i : Int)
theorem gpK_succ (G : List (List Int)) (t k : Nat) : gpK G t (k + 1) = if rb G t k then gpK G t k ++ [(k : Int)] else gpK G t k := by
  unfold gpK
  rw [List.range_succ, List.filter_append, List.map_append]
  cases h : rb G t k <;> simp [h]
theorem gpK_len (G : List (List Int)) (t : Nat) : ∀ k, (gpK G t k).length ≤ k := fun k => by
  unfold gpK
  rw [List.length_map]
  have := List.length_filter_le (fun i => rb G t i) (List.range k)
  rw [List.length_range] at this; exact this
theorem gpK_mem {G : List (List Int)} {t k : Nat} {y : Int} : y ∈ gpK G t k ↔ 0 ≤ y ∧ y < k ∧ Rch (Ed G) t y.toNat := by
  unfold gpK
  rw [List.mem_map]
  constructor
  · rintro ⟨i, hi, rfl⟩
    rw [List.mem_filter, List.mem_range] at hi
    exact ⟨by omega, by omega, by rw [Int.toNat_natCast]; exact rb_t.1 hi.2⟩
  · rintro ⟨h0, h1, h2⟩
    exact ⟨y.toNat, by rw [List.mem_filter, List.mem_range]; exact ⟨by omega, rb_t.2 h2⟩, by omega⟩
theorem gpK_sorted (G : List (List Int)) (t k : Nat) : (gpK G t k).Pairwise (· < ·) := by
  unfold gpK
  rw [List.pairwise_map]
  refine (List.pairwise_lt_range.filter _).imp ?_
  intro a b h
  omega
noncomputable def seenB (G : List (List Int)) (k j : Nat) : Bool := (List.range k).any fun t => rb G t j
theorem seenB_succ (G : List (List Int)) (k j : Nat) : seenB G (k + 1) j = (seenB G k j || rb G k j) := by
  unfold seenB; rw [List.range_succ, List.any_append]; simp
theorem seenB_of {G : List (List Int)} {k j : Nat} (h : seenB G k k = true) (hr : rb G k j = true) : seenB G k j = true := by
  unfold seenB at h ⊢
  obtain ⟨t, ht, h2⟩ := List.any_eq_true.1 h
  exact List.any_eq_true.2 ⟨t, ht, rb_t.2 ((rb_t.1 hr).trans (rb_t.1 h2))⟩
noncomputable def gs (G : List (List Int)) : Nat → List (List Int)
  | 0 => []
  | k + 1 => if seenB G k k then gs G k else gs G k ++ [gpK G k G.length]
theorem gs_len (G : List (List Int)) : ∀ k, (gs G k).length ≤ k
  | 0 => Nat.le_refl _
  | k + 1 => by
    have := gs_len G k
    unfold gs
    split
    · omega
    · simp; exact this
theorem gs_row (G : List (List Int)) : ∀ k, ∀ r ∈ gs G k, ∃ t, r = gpK G t G.length
  | 0, r, hr => by cases hr
  | k + 1, r, hr => by
    unfold gs at hr
    split at hr
    · exact gs_row G k r hr
    · rcases List.mem_append.1 hr with h | h
      · exact gs_row G k r h
      · exact ⟨k, List.mem_singleton.1 h⟩
def boolL (N : Nat) (p : Nat → Bool) : List Bool := (List.range N).map p
theorem boolL_len (N : Nat) (p : Nat → Bool) : (boolL N p).length = N := by unfold boolL; simp
theorem boolL_at {N : Nat} {p : Nat → Bool} {k : Nat} (h : k < N) : geti (boolL N p) (k : Int) = some (p k) := by
  rw [geti_lt (by rw [boolL_len]; exact h)]; simp [boolL]
theorem boolL_congr {N : Nat} {p q : Nat → Bool} (h : ∀ j, j < N → p j = q j) : boolL N p = boolL N q := by
  unfold boolL
  exact List.map_congr_left (fun j hj => h j (List.mem_range.1 hj))
theorem boolL_set {N : Nat} {p q : Nat → Bool} {x : Nat} (hx : q x = true) (h : ∀ j, j < N → j ≠ x → p j = q j) : (boolL N p).set x true = boolL N q := by
  apply List.ext_getElem
  · rw [List.length_set, boolL_len, boolL_len]
  · intro j h1 h2
    rw [boolL_len] at h2
    rw [List.getElem_set]
    split
    · rename_i e; subst e; simp [boolL, hx]
    · rename_i e; simp [boolL, h j h2 (fun e' => e e'.symm)]
/-! ### The program's -/
section
variable {G : List (List Int)} (hG : G.length ≤ 14) (hr : ∀ r ∈ G, r.length ≤ 1000)
include hG hr
end
section
variable {n : Int} {c j : List (List Int)} {f : List Int}
theorem crG_rows (h : validV n c j f = true) : ∀ r ∈ crG n c, r.length ≤ 1000 := by
  intro r hr
  obtain ⟨i, hi, rfl⟩ := List.mem_iff_getElem.1 hr
  have := (crG_row h (i := i) (by rw [crG_len] at hi; have := (validV_t h).1; omega)).1
  rw [gR_at hi] at this
  omega
theorem Ed_iff (h : validV n c j f = true) {i k : Nat} : Ed (crG n c) i k ↔ i < n.toNat ∧ k < n.toNat ∧ cr c (i : Int) (k : Int) = true := by
  unfold Ed
  rw [crG_len]
  have hn := (validV_t h).1
  constructor
  · rintro ⟨h1, h2, h3⟩
    exact ⟨h1, h2, ((crG_row h (i := i) (by omega)).2 _).1 h3⟩
  · rintro ⟨h1, h2, h3⟩
    exact ⟨h1, h2, ((crG_row h (i := i) (by omega)).2 _).2 h3⟩
theorem Ed_symm (h : validV n c j f = true) (i k : Nat) (he : Ed (crG n c) i k) : Ed (crG n c) k i := by
  rw [Ed_iff h] at he ⊢
  exact ⟨he.2.1, he.1, by rw [cr_comm]; exact he.2.2⟩
/-! ### The book's -/
def putS (p : Int) (l : List Int) : Nat → List Int × Bool
  | 0 => ([], false)
  | k + 1 => if (putS p l k).2 then ((putS p l k).1 ++ [gI l k], true) else if gI l k ≥ p then (if gI l k > p then ((putS p l k).1 ++ [p] ++ [gI l k], true) else ((putS p l k).1 ++ [gI l k], true)) else ((putS p l k).1 ++ [gI l k], false)
theorem putS_len (p : Int) (l : List Int) : ∀ k, (putS p l k).1.length ≤ 2 * k
  | 0 => by simp [putS]
  | k + 1 => by
    have := putS_len p l k
    unfold putS
    split
    · simp; omega
    · split
      · split
        · simp; omega
        · simp; omega
      · simp; omega
theorem putS_eq (p : Int) (l : List Int) : ∀ k, k ≤ l.length → (putS p l k).1 ++ insB p (putS p l k).2 (l.drop k) = insB p false l
  | 0, _ => by simp [putS]
  | k + 1, h => by
    have ih := putS_eq p l k (by omega)
    rw [drop_at (l := l) (k := k) (by omega), ← gI_at (by omega : k < l.length)] at ih
    unfold putS
    cases hb : (putS p l k).2 with
    | true =>
      rw [hb] at ih
      rw [if_pos rfl, ← ih, insB_t, insB_t, List.append_assoc]; rfl
    | false =>
      rw [hb, insB_cons] at ih
      rw [if_neg (by simp)]
      by_cases h1 : gI l k ≥ p
      · rw [if_pos h1] at ih ⊢
        by_cases h2 : gI l k > p
        · rw [if_pos h2] at ih ⊢
          rw [← ih]; simp only [insB_t, List.append_assoc]; rfl
        · rw [if_neg h2] at ih ⊢
          rw [← ih]; simp only [insB_t, List.append_assoc]; rfl
      · rw [if_neg h1] at ih ⊢
        rw [← ih]; simp only [List.append_assoc]; rfl
def clB (c : List (List Int)) (q : Int) (l : List Int) (v : Nat) : List Int := if cr c q (v : Int) = true ∧ (v : Int) ∉ l then l ++ [(v : Int)] else l
def clF (c : List (List Int)) (q : Int) (l : List Int) : Nat → List Int
  | 0 => l
  | v + 1 => clB c q (clF c q l v) v
structure ClI (n : Int) (c : List (List Int)) (t : Nat) (l : List Int) : Prop where
  rng : ∀ y ∈ l, 0 ≤ y ∧ y < n ∧ Rch (Ed (crG n c)) t y.toNat
  nd : l.Nodup
  at0 : (t : Int) ∈ l
theorem ClI.len {n : Int} {c : List (List Int)} {t : Nat} {l : List Int} (h : ClI n c t l) : l.length ≤ n.toNat :=
  nodupI_le _ _ h.nd (fun x hx => by have := h.rng x hx; omega)
theorem clF_inv (h : validV n c j f = true) {t : Nat} {l : List Int} (hc : ClI n c t l) {q : Int} (hq : q ∈ l) : ∀ v, v ≤ n.toNat →
    (∃ ext, clF c q l v = l ++ ext) ∧ ClI n c t (clF c q l v) ∧ ∀ u : Nat, u < v → cr c q (u : Int) = true → (u : Int) ∈ clF c q l v
  | 0, _ => ⟨⟨[], by simp [clF]⟩, hc, fun u hu => by omega⟩
  | v + 1, hv => by
    obtain ⟨⟨ext, e1⟩, e2, e3⟩ := clF_inv h hc hq v (by omega)
    rw [clF]
    have hqr := hc.rng q hq
    generalize clF c q l v = L at *
    unfold clB
    by_cases hcc : cr c q (v : Int) = true ∧ (v : Int) ∉ L
    · rw [if_pos hcc]
      refine ⟨⟨ext ++ [(v : Int)], by rw [e1, List.append_assoc]⟩, ⟨fun y hy => ?_, ?_, List.mem_append_left _ e2.at0⟩, fun u hu hcu => ?_⟩
      · rcases List.mem_append.1 hy with hy | hy
        · exact e2.rng y hy
        · rw [List.mem_singleton] at hy
          subst hy
          refine ⟨by omega, by omega, Rch.step (k := q.toNat) ?_ hqr.2.2⟩
          rw [Ed_iff h]
          refine ⟨by omega, by omega, ?_⟩
          rw [Int.toNat_natCast, show ((q.toNat : Nat) : Int) = q by omega, cr_comm]
          exact hcc.1
      · rw [List.nodup_append]
        exact ⟨e2.nd, by simp, fun a ha b hb => by rw [List.mem_singleton] at hb; subst hb; exact fun e => hcc.2 (e ▸ ha)⟩
      · by_cases e : u = v
        · subst e; simp
        · exact List.mem_append_left _ (e3 u (by omega) hcu)
    · rw [if_neg hcc]
      refine ⟨⟨ext, e1⟩, e2, fun u hu hcu => ?_⟩
      by_cases e : u = v
      · subst e
        exact Classical.byContradiction fun hn => hcc ⟨hcu, hn⟩
      · exact e3 u (by omega) hcu
end
/-! ### The law -/
noncomputable def grV (n : Int) (c j : List (List Int)) (f : List Int) : List (List Int) × Bool := if validV n c j f then (gs (crG n c) n.toNat, true) else ([], false)
theorem grV_small (n : Int) (c j : List (List Int)) (f : List Int) : (grV n c j f).1.length ≤ 14 ∧ ∀ r ∈ (grV n c j f).1, r.length ≤ 14 := by
  unfold grV
  cases hv : validV n c j f with
  | false => simp
  | true =>
    obtain ⟨hn14, _⟩ := validV_t hv
    have h1 := gs_len (crG n c) n.toNat
    refine ⟨by simp; omega, fun r hr => ?_⟩
    obtain ⟨t, rfl⟩ := gs_row (crG n c) n.toNat r (by simpa using hr)
    have := gpK_len (crG n c) t (crG n c).length
    rw [crG_len] at this
    rw [crG_len]
    omega
end Go.Proofs.Ytngnljnfbfgfeaa
