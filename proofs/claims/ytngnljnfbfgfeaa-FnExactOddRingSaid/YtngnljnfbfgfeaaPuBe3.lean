/- The best layering: the law. -/
import Derived.Test.YtngnljnfbfgfeaaPuBe2
import Derived.Test.YtngnljnfbfgfeaaPuNj1
set_option linter.unusedSimpArgs false
set_option linter.unusedVariables false
namespace Go.Proofs.Ytngnljnfbfgfeaa
open Go.RowKit

theorem better_mem {s : Fnd} {p : List Int} {x : Int} {L : List (List Int)} (hp : p ∈ L) (h : ∀ b l q, s = some (b, l, q) → b ∈ L) : ∀ b l q, better s p x = some (b, l, q) → b ∈ L := by
  intro b l q e
  unfold better at e
  split at e
  · simp only [Option.some.injEq, Prod.mk.injEq] at e; rw [← e.1]; exact hp
  · rename_i b' l' q'
    have h1 := h b' l' q' rfl
    split at e
    · simp only [Option.some.injEq, Prod.mk.injEq] at e; rw [← e.1]; exact hp
    · split at e
      · simp only [Option.some.injEq, Prod.mk.injEq] at e; rw [← e.1]; exact h1
      · simp only [Option.some.injEq, Prod.mk.injEq] at e; rw [← e.1]; exact h1
theorem found_mem {cost : List Int → Int} {L : List (List Int)} : ∀ (l : List (List Int)) {s : Fnd}, (∀ p ∈ l, p ∈ L) → (∀ b x q, s = some (b, x, q) → b ∈ L) → ∀ b x q, foundF cost l s = some (b, x, q) → b ∈ L
  | [], s, _, h, b, x, q, e => h b x q e
  | p :: l, s, hl, h, b, x, q, e => found_mem l (fun y hy => hl y (List.mem_cons_of_mem _ hy)) (better_mem (hl p (List.mem_cons_self ..)) h) b x q e
theorem bestV_len {n : Int} {c j : List (List Int)} {f : List Int} (h : validV n c j f = true) {b : List Int} {x q : Int} (e : bestV n c j f = some (b, x, q)) : (b.length : Int) = n ∧ 0 ≤ x ∧ 1 ≤ q := by
  obtain ⟨hn14, _⟩ := validV_t h
  have h1 := found_mem (cost := cst j) (lev (okL f c) n.toNat) (s := none) (fun p hp => hp) (fun b x q e => by cases e) b x q e
  have h2 := lev_len _ _ _ h1
  have h3 := found_ok (fun l => (cst_b h l).1) (lev (okL f c) n.toNat) (okF_none 0) (Int.le_refl 0) b x q e
  exact ⟨by omega, h3.1, h3.2.1⟩
def fewV (n : Int) (c j : List (List Int)) (f : List Int) : List Int × Int × Bool := if validV n c j f then match bestV n c j f with | none => ([], 0, false) | some (b, x, _) => (b, x, true) else ([], 0, false)
theorem specFew_eq (n : Int) (c j : List (List Int)) (f : List Int) (h1 : c.length ≤ 140737488) (h2 : j.length ≤ 140737488) (h3 : f.length ≤ 140737488) : m_spec_FewestVias n c j f = some (fewV n c j f) := by
  unfold m_spec_FewestVias fewV
  rw [specIs_eq n c j f h1 h2 h3]
  simp only [bind_some']
  cases hv : validV n c j f with
  | false => rfl
  | true =>
    rw [bif_f (by rfl), specBest_eq hv]
    simp only [bind_some', if_true]
    show (bif decide ((repF (bestV n c j f)).2.1 < 0) then some ([], 0, false) else some ((repF (bestV n c j f)).1, (repF (bestV n c j f)).2.1, true)) = _
    cases hx : bestV n c j f with
    | none => rfl
    | some x =>
      obtain ⟨b, l, q⟩ := x
      have := bestV_len hv hx
      rw [show repF (some (b, l, q)) = (b, l, q) from rfl, bif_f (by simp; omega)]
theorem implFew_eq (n : Int) (c j : List (List Int)) (f : List Int) (h1 : c.length ≤ 140737488) (h2 : j.length ≤ 140737488) (h3 : f.length ≤ 140737488) : m_impl_FewestVias n c j f = some (fewV n c j f) := by
  unfold m_impl_FewestVias fewV
  rw [implValid_eq n c j f h1 h2 h3]
  simp only [bind_some']
  cases hv : validV n c j f with
  | false => rfl
  | true =>
    rw [bif_f (by rfl), implBest_eq hv]
    simp only [bind_some', if_true]
    cases hx : bestV n c j f with
    | none => rfl
    | some x =>
      obtain ⟨b, l, q⟩ := x
      have := bestV_len hv hx
      rw [show repB (some (b, l, q)) = (b, l, q) from rfl, decide_eq_true (show q > 0 by omega)]
theorem fewV_len (n : Int) (c j : List (List Int)) (f : List Int) : (fewV n c j f).1.length ≤ 14 := by
  unfold fewV
  cases hv : validV n c j f with
  | false => simp
  | true =>
    simp only [if_true]
    obtain ⟨hn14, _⟩ := validV_t hv
    cases hx : bestV n c j f with
    | none => simp
    | some x =>
      obtain ⟨b, l, q⟩ := x
      have := bestV_len hv hx
      show b.length ≤ 14
      omega
theorem markW_eq (n : Int) {c j : List (List Int)} {f : List Int} (h : WSmall c j f) : ∃ r, m_laws_markWiring n c j f 1 = some r ∧ 0 ≤ r.1 := by
  unfold m_laws_markWiring
  have o1 := offs_le h.hcr (k := 1) c.length (Nat.le_refl _)
  have q1 := h.hc; have q2 := h.hj; have q3 := h.hf
  have o2 := offs_le h.hjr (k := offs 1 c c.length) j.length (Nat.le_refl _)
  rw [markR_eq c 1 (by omega) (by omega) (by omega) h.hcr]
  simp only [bind_some']
  rw [markR_eq j _ (by omega) (by omega) (by omega) h.hjr]
  simp only [bind_some']
  rw [markI_eq f _ (by omega) (by omega)]
  exact ⟨_, rfl, by simp only []; omega⟩
theorem lawFewestVias_eq (n : Int) (c j : List (List Int)) (f : List Int) (hb : WBig c j f) : m_laws_FnExactFewestVias n c j f = some true := by
  unfold m_laws_FnExactFewestVias
  obtain ⟨z, hz, h⟩ := szW_eq n hb
  rw [hz, bind_some']
  rcases h with h | ⟨h, hs⟩
  · rw [bif_t (by simpa using h)]
  rw [bif_f (by simpa using h), toW_eq n hs]
  have q1 := hs.hc; have q2 := hs.hj; have q3 := hs.hf
  have hl := fewV_len n c j f
  obtain ⟨r, hr, hr0⟩ := markW_eq n hs
  simp only [bind_some', specFew_eq n c j f (by omega) (by omega) (by omega), implFew_eq n c j f (by omega) (by omega) (by omega), eqW_eq n hs, eqInt64S_eq (fewV n c j f).1 (by omega), hr, markI_eq (fewV n c j f).1 1 (by omega) (by omega), heldI_eq (fewV n c j f).1.length 1 (by omega) (by omega), Bool.not_true, cond_false, beq_self_eq_true, bne_self_eq_false]
  rw [bif_f (by simp; omega), bif_f (by simp; omega), bif_f (by simp; omega)]
end Go.Proofs.Ytngnljnfbfgfeaa
