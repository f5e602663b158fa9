/- Every node but the last is joined once: a count. -/
import Derived.Test.YtajnjbmniobjhaaPkTree
set_option linter.unusedSimpArgs false
set_option linter.unusedVariables false
namespace Go.Proofs.Ytajnjbmniobjhaa
open Go.RowKit

theorem nodup_le : ∀ (N : Nat) (L : List Nat), L.Nodup → (∀ x ∈ L, x < N) → L.length ≤ N
  | 0, L, _, h => by
    cases L with
    | nil => simp
    | cons a r => have := h a (by simp); omega
  | N + 1, L, hn, h => by
    have h1 := nodup_le N (L.erase N) (hn.erase N) (fun x hx => by
      have h2 := h x (List.mem_of_mem_erase hx)
      have h3 : x ≠ N := fun e => by subst e; exact (List.Nodup.not_mem_erase hn) hx
      omega)
    by_cases hm : N ∈ L
    · rw [List.length_erase_of_mem hm] at h1; omega
    · rw [List.erase_of_not_mem hm] at h1; omega
/-- The nodes of the first k pairs. -/
def usedL (l : List (List Int)) : Nat → List Nat
  | 0 => []
  | k + 1 => ((l.getD k []).map Int.toNat) ++ usedL l k
theorem usedL_mem {p : Int} {l : List (List Int)} (hG : ∀ k, k < l.length → Gd p l k) : ∀ k, k ≤ l.length → ∀ x : Nat, x ∈ usedL l k ↔ Used l k (x : Int) := by
  intro k
  induction k with
  | zero => intro _ x; constructor; (intro h; cases h); (rintro ⟨j, hj, _⟩; omega)
  | succ k ih =>
    intro hk x
    obtain ⟨a, b, hat, ha, hab, hb, _⟩ := hG k hk
    rw [Used.succ hat, ← ih (by omega)]
    show x ∈ (l.getD k []).map Int.toNat ++ usedL l k ↔ _
    rw [getD_row hat]
    simp only [List.map_cons, List.map_nil, List.mem_append, List.mem_cons, List.not_mem_nil, or_false]
    constructor
    · rintro ((h | h) | h)
      · right; left; omega
      · right; right; omega
      · exact Or.inl h
    · rintro (h | h | h)
      · exact Or.inr h
      · left; left; omega
      · left; right; omega
theorem usedL_nodup {p : Int} {l : List (List Int)} (hG : ∀ k, k < l.length → Gd p l k) : ∀ k, k ≤ l.length → (usedL l k).Nodup ∧ (usedL l k).length = 2 * k := by
  intro k
  induction k with
  | zero => intro _; exact ⟨List.nodup_nil, rfl⟩
  | succ k ih =>
    intro hk
    obtain ⟨a, b, hat, ha, hab, hb, ua, ub⟩ := hG k hk
    obtain ⟨h1, h2⟩ := ih (by omega)
    have e : usedL l (k + 1) = a.toNat :: b.toNat :: usedL l k := by
      show (l.getD k []).map Int.toNat ++ usedL l k = _
      rw [getD_row hat]; rfl
    rw [e]
    have m := usedL_mem hG k (by omega)
    refine ⟨List.nodup_cons.2 ⟨?_, List.nodup_cons.2 ⟨?_, h1⟩⟩, by simp [h2]; omega⟩
    · intro h
      rcases List.mem_cons.1 h with h | h
      · omega
      · exact ua (by have := (m _).1 h; rwa [Int.toNat_of_nonneg ha] at this)
    · intro h
      exact ub (by have := (m _).1 h; rwa [Int.toNat_of_nonneg (by omega)] at this)
/-- Every node but the last is joined. -/
theorem all_used {n : Nat} {l : List (List Int)} (hJ : IsJ n l) {x : Nat} (hx : x + 2 < 2 * n) : Used l l.length (x : Int) := by
  obtain ⟨hn, hl, hG⟩ := hJ
  by_cases h : Used l l.length (x : Int)
  · exact h
  · exfalso
    obtain ⟨h1, h2⟩ := usedL_nodup hG l.length (Nat.le_refl _)
    have m := usedL_mem hG l.length (Nat.le_refl _)
    have := nodup_le (2 * n - 2) (x :: usedL l l.length) (List.nodup_cons.2 ⟨fun hm => h ((m x).1 hm), h1⟩) (fun y hy => by
      rcases List.mem_cons.1 hy with rfl | hy
      · omega
      · obtain ⟨j, hj, r, hr, hyr⟩ := (m y).1 hy
        obtain ⟨a, b, hat, ha, hab, hb, _⟩ := hG j hj
        rw [hat] at hr; cases hr
        simp only [List.mem_cons, List.not_mem_nil, or_false] at hyr
        omega)
    simp only [List.length_cons, h2] at this
    omega
end Go.Proofs.Ytajnjbmniobjhaa
