/- The best layering: the law. -/
import Derived.Test.YtngnljnfbfgfeaaPuBe2
import Derived.Test.YtngnljnfbfgfeaaPuNj1
set_option linter.unusedSimpArgs false
set_option linter.unusedVariables false
namespace Go.Proofs.Ytngnljnfbfgfeaa
open Go.RowKit

theorem better_mem {s : Fnd} {p : List Int} {x : Int} {L : List (List Int)} (hp : p ∈ L) (h : ∀ b l q, s = some (b, l, q) → b ∈ L) : ∀ b l q, better s p x = some (b, l, q) → b ∈ L := by
  intro b l q e
  unfold better at e
  split at e
  · simp only [Option.some.injEq, Prod.mk.injEq] at e; rw [← e.1]; exact hp
  · rename_i b' l' q'
    have h1 := h b' l' q' rfl
    split at e
    · simp only [Option.some.injEq, Prod.mk.injEq] at e; rw [← e.1]; exact hp
    · split at e
      · simp only [Option.some.injEq, Prod.mk.injEq] at e; rw [← e.1]; exact h1
      · simp only [Option.some.injEq, Prod.mk.injEq] at e; rw [← e.1]; exact h1
theorem found_mem {cost : List Int → Int} {L : List (List Int)} : ∀ (l : List (List Int)) {s : Fnd}, (∀ p ∈ l, p ∈ L) → (∀ b x q, s = some (b, x, q) → b ∈ L) → ∀ b x q, foundF cost l s = some (b, x, q) → b ∈ L
  | [], s, _, h, b, x, q, e => h b x q e
  | p :: l, s, hl, h, b, x, q, e => found_mem l (fun y hy => hl y (List.mem_cons_of_mem _ hy)) (better_mem (hl p (List.mem_cons_self ..)) h) b x q e
theorem bestV_len {n : Int} {c j : List (List Int)} {f : List Int} (h : validV n c j f = true) {b : List Int} {x q : Int} (e : bestV n c j f = some (b, x, q)) : (b.length : Int) = n ∧ 0 ≤ x ∧ 1 ≤ q := by
  obtain ⟨hn14, _⟩ := validV_t h
  have h1 := found_mem (cost := cst j) (lev (okL f c) n.toNat) (s := none) (fun p hp => hp) (fun b x q e => by cases e) b x q e
  have h2 := lev_len _ _ _ h1
  have h3 := found_ok (fun l => (cst_b h l).1) (lev (okL f c) n.toNat) (okF_none 0) (Int.le_refl 0) b x q e
  exact ⟨by omega, h3.1, h3.2.1⟩
def fewV (n : Int) (c j : List (List Int)) (f : List Int) : List Int × Int × Bool := if validV n c j f then match bestV n c j f with | none => ([], 0, false) | some (b, x, _) => (b, x, true) else ([], 0, false)
theorem implFew_eq (n : Int) (c j : List (List Int)) (f : List Int) (h1 : c.length ≤ 140737488) (h2 : j.length ≤ 140737488) (h3 : f.length ≤ 140737488) : m_impl_FewestVias n c j f = some (fewV n c j f) := by
  unfold m_impl_FewestVias fewV
  rw [implValid_eq n c j f h1 h2 h3]
  simp only [bind_some']
  cases hv : validV n c j f with
  | false => rfl
  | true =>
    rw [bif_f (by rfl), implBest_eq hv]
    simp only [bind_some', if_true]
    cases hx : bestV n c j f with
    | none => rfl
    | some x =>
      obtain ⟨b, l, q⟩ := x
      have := bestV_len hv hx
      rw [show repB (some (b, l, q)) = (b, l, q) from rfl, decide_eq_true (show q > 0 by omega)]
theorem fewV_len (n : Int) (c j : List (List Int)) (f : List Int) : (fewV n c j f).1.length ≤ 14 := by
  unfold fewV
  cases hv : validV n c j f with
  | false => simp
  | true =>
    simp only [if_true]
    obtain ⟨hn14, _⟩ := validV_t hv
    cases hx : bestV n c j f with
    | none => simp
    | some x =>
      obtain ⟨b, l, q⟩ := x
      have := bestV_len hv hx
      show b.length ≤ 14
      omega
end Go.Proofs.Ytngnljnfbfgfeaa
