/- Layerings: all of them, the best one, and how many: the reference and the program. -/
import Derived.Test.YtngnljnfbfgfeaaPuWirL
import Derived.Test.YtngnljnfbfgfeaaPuEnum
set_option linter.unusedSimpArgs false
set_option linter.unusedVariables false
namespace Go.Proofs.Ytngnljnfbfgfeaa
open Go.RowKit

theorem gR_mem {c : List (List Int)} {k : Nat} (h : k < c.length) : gR c k ∈ c := by rw [gR_at h]; exact List.getElem_mem h
theorem geti_gR {c : List (List Int)} {k : Nat} (h : k < c.length) : geti c (k : Int) = some (gR c k) := by rw [geti_lt h, gR_at h]
theorem geti_gR' {c : List (List Int)} {x : Int} (h0 : 0 ≤ x) (h : x < c.length) : geti c x = some (gR c x.toNat) := by
  obtain ⟨k, rfl⟩ := Int.eq_ofNat_of_zero_le h0
  exact geti_gR (by omega)
/-- Two segments cross. -/
def cr (c : List (List Int)) (i k : Int) : Bool := c.any fun x => (gI x 0 == i && gI x 1 == k) || (gI x 0 == k && gI x 1 == i)
theorem cr_comm (c : List (List Int)) (i k : Int) : cr c i k = cr c k i := by
  unfold cr
  congr 1
  funext x
  exact Bool.or_comm _ _
section
variable {n : Int} {c j : List (List Int)} {f : List Int}
theorem crow (h : validV n c j f = true) {k : Nat} (hk : k < c.length) : (gR c k).length = 2 ∧ 0 ≤ gI (gR c k) 0 ∧ gI (gR c k) 0 < gI (gR c k) 1 ∧ gI (gR c k) 1 < n := by
  obtain ⟨_, _, hc, _, _⟩ := validV_t h
  exact okRow_t ((pairsV_len hc).2 k hk)
theorem clen (h : validV n c j f = true) : c.length ≤ 30 := by
  obtain ⟨_, _, hc, _, _⟩ := validV_t h
  exact (pairsV_len hc).1
/-! ### The reference: level by level -/
def noX (c : List (List Int)) (p : List Int) (v : Int) (k : Nat) : Bool := (List.range k).all fun (m : Nat) => !(gI p m == v) || !cr c (m : Int) (p.length : Int)
def okL (f : List Int) (c : List (List Int)) (p : List Int) (v : Int) : Bool := (decide (gI f p.length < 0) || gI f p.length == v) && noX c p v p.length
theorem noX_succ (c : List (List Int)) (p : List Int) (v : Int) (k : Nat) : noX c p v (k + 1) = (noX c p v k && (!(gI p k == v) || !cr c (k : Int) (p.length : Int))) := by
  unfold noX; rw [List.range_succ, List.all_append]; simp
theorem flat_take {α β : Type} (g : α → List β) {l : List α} {k : Nat} (h : k < l.length) : (l.take (k + 1)).flatMap g = (l.take k).flatMap g ++ g l[k] := by
  rw [List.take_succ_eq_append_getElem h, List.flatMap_append]; simp
theorem kids_len (ok : List Int → Int → Bool) (p : List Int) : (kids ok p).length ≤ 2 := by
  unfold kids; cases ok p 0 <;> cases ok p 1 <;> simp
theorem flat_kids (ok : List Int → Int → Bool) (l : List (List Int)) : (l.flatMap (kids ok)).length ≤ 2 * l.length := by
  induction l with
  | nil => simp
  | cons x l ih => have := kids_len ok x; rw [List.flatMap_cons, List.length_append, List.length_cons]; omega
theorem lev_small (ok : List Int → Int → Bool) {i : Nat} (hi : i ≤ 14) : (lev ok i).length ≤ 16384 := Nat.le_trans (lev_count ok i) (Nat.le_trans (Nat.pow_le_pow_right (by omega) hi) (by decide))
/-! ### The best one -/
def cst (j : List (List Int)) (l : List Int) : Int := costF j l j.length
def repF (s : Fnd) : List Int × Int × Int := match s with | none => ([], -1, 0) | some x => x
def OkF (s : Fnd) (B : Int) : Prop := ∀ b l q, s = some (b, l, q) → 0 ≤ l ∧ 1 ≤ q ∧ q ≤ B
theorem better_ok {s : Fnd} {B : Int} (h : OkF s B) (hB : 0 ≤ B) {p : List Int} {x : Int} (hx : 0 ≤ x) : OkF (better s p x) (B + 1) := by
  intro b l q e
  unfold better at e
  split at e
  · simp only [Option.some.injEq, Prod.mk.injEq] at e; omega
  · rename_i b' l' q'
    have h1 := h b' l' q' rfl
    split at e
    · simp only [Option.some.injEq, Prod.mk.injEq] at e; omega
    · split at e
      · simp only [Option.some.injEq, Prod.mk.injEq] at e; omega
      · simp only [Option.some.injEq, Prod.mk.injEq] at e; omega
theorem found_ok {cost : List Int → Int} (hc : ∀ l, 0 ≤ cost l) : ∀ (l : List (List Int)) {s : Fnd} {B : Int}, OkF s B → 0 ≤ B → OkF (foundF cost l s) (B + l.length)
  | [], s, B, h, _ => by simpa [foundF] using h
  | p :: l, s, B, h, h0 => by
    have := found_ok hc l (better_ok h h0 (p := p) (hc p)) (by omega)
    have e : B + 1 + (l.length : Int) = B + ((p :: l).length : Nat) := by simp; omega
    rw [← e]; exact this
theorem cst_b (h : validV n c j f = true) (l : List Int) : 0 ≤ cst j l ∧ cst j l ≤ 30000 := by
  obtain ⟨_, _, _, hj, hc⟩ := validV_t h
  have := costF_b (l := l) hc j.length (Nat.le_refl _)
  have := (pairsV_len hj).1
  unfold cst; omega
theorem foundF_succ (cost : List Int → Int) {l : List (List Int)} {k : Nat} (h : k < l.length) (s : Fnd) : foundF cost (l.take (k + 1)) s = better (foundF cost (l.take k) s) l[k] (cost l[k]) := by
  rw [List.take_succ_eq_append_getElem h, foundF_append]; rfl
theorem okF_none (B : Int) : OkF none B := fun b l q e => by cases e
end
end Go.Proofs.Ytngnljnfbfgfeaa
