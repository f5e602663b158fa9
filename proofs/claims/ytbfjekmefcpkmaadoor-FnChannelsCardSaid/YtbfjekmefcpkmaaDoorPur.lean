/- Plain facts about what the printed walks reckon: no program in sight. -/
import Derived.Test.YtbfjekmefcpkmaaDoorHlp
import Derived.IntWalk
set_option linter.unusedSimpArgs false
set_option linter.unusedVariables false
namespace Go.Proofs.YtbfjekmefcpkmaaDoor
open Go.RowKit

theorem wr_in {x : Int} (h : -9223372036854775808 ≤ x ∧ x ≤ 9223372036854775807) : wr x = x := IntWalk.i64_in x (by omega)
theorem geti_nat {α : Type} (l : List α) (k : Nat) : geti l (k : Int) = l[k]? := by unfold geti; rw [if_pos (by omega)]; simp
theorem geti_lt {α : Type} {l : List α} {k : Nat} (h : k < l.length) : geti l (k : Int) = some l[k] := by rw [geti_nat]; exact List.getElem?_eq_getElem h
theorem bind_some' {α β : Type} (x : α) (f : α → Option β) : (some x).bind f = f x := rfl
theorem bif_t {α : Type} {b : Bool} {x y : α} (h : b = true) : (bif b then x else y) = x := by rw [h]; rfl
theorem bif_f {α : Type} {b : Bool} {x y : α} (h : b = false) : (bif b then x else y) = y := by rw [h]; rfl
/-- A loop that counts up to n, with a relation on the other variables: told by what holds of them at k. -/
theorem loopM_count {S R : Type} (step : S → Option (Ctl S R)) (n : Nat) (I : Nat → S → Prop) (J : R → Prop) {s0 : S} (h0 : I 0 s0)
  (hs : ∀ k s, k < n → I k s → (∃ s', step s = some (.next s') ∧ I (k + 1) s') ∨ ∃ r, step s = some (.out r) ∧ J r) (hn : ∀ s, I n s → ∃ r, step s = some (.out r) ∧ J r) : ∃ r, loopM step s0 = some r ∧ J r := by
 have key : ∀ m k s, n - k = m → k ≤ n → I k s → ∃ r, loopM step s = some r ∧ J r := by
  intro m
  induction m with
  | zero =>
   intro k s hm hk hI
   have : k = n := by omega
   subst this
   obtain ⟨r, h1, h2⟩ := hn s hI
   exact ⟨r, loopM_out h1, h2⟩
  | succ m ih =>
   intro k s hm hk hI
   rcases hs k s (by omega) hI with ⟨s', h1, h2⟩ | ⟨r, h1, h2⟩
   ·rw [loopM_next h1]; exact ih (k + 1) s' (by omega) (by omega) h2
   ·exact ⟨r, loopM_out h1, h2⟩
 exact key n 0 s0 (by omega) (by omega) h0
theorem loopM_val {S R : Type} (step : S → Option (Ctl S R)) (n : Nat) (I : Nat → S → Prop) {r : R} {s0 : S} (h0 : I 0 s0)
  (hs : ∀ k s, k < n → I k s → (∃ s', step s = some (.next s') ∧ I (k + 1) s') ∨ step s = some (.out r)) (hn : ∀ s, I n s → step s = some (.out r)) : loopM step s0 = some r := by
 obtain ⟨r', h1, rfl⟩ := loopM_count step n I (· = r) h0 (fun k s hk hI => (hs k s hk hI).imp id (fun h => ⟨r, h, rfl⟩)) (fun s hI => ⟨r, hn s hI, rfl⟩)
 exact h1
/-- What a copying loop has laid. -/
def Laid {α : Type} (l acc : List α) (k : Nat) : Prop := acc.length = l.length ∧ ∀ j, j < k → acc[j]? = l[j]?
theorem Laid.zero {α : Type} (l acc : List α) (h : acc.length = l.length) : Laid l acc 0 := ⟨h, fun j hj => by omega⟩
theorem Laid.succ {α : Type} {l acc : List α} {k : Nat} (h : Laid l acc k) (hk : k < l.length) : Laid l (acc.set k l[k]) (k + 1) := by
 refine ⟨by simp [h.1], fun j hj => ?_⟩
 by_cases e : k = j
 ·subst e
  rw [List.getElem?_set_self (by rw [h.1]; exact hk), List.getElem?_eq_getElem hk]
 ·rw [List.getElem?_set_ne e]; exact h.2 j (by omega)
theorem Laid.all {α : Type} {l acc : List α} (h : Laid l acc l.length) : acc = l := by
 apply List.ext_getElem?
 intro j
 by_cases hj : j < l.length
 ·exact h.2 j hj
 ·rw [List.getElem?_eq_none (by rw [h.1]; omega), List.getElem?_eq_none (by omega)]
end Go.Proofs.YtbfjekmefcpkmaaDoor
