/- A clock tree's places: each in its region, and near the one above. -/
import Derived.Test.YtajnjbmniobjhaaPuCk1
set_option linter.unusedSimpArgs false
set_option linter.unusedVariables false
namespace Go.Proofs.Ytajnjbmniobjhaa
open Go.RowKit

section
variable {ps : List Pt} {l : List (List Int)}
def InR (m : Mg) (p q : Int) : Prop := m.1 ≤ p ∧ p ≤ m.2.1 ∧ m.2.2.1 ≤ q ∧ q ≤ m.2.2.2.1
theorem clamp_in {m : Mg} (h1 : m.1 ≤ m.2.1) (h2 : m.2.2.1 ≤ m.2.2.2.1) (x y : Int) : ∃ p q, clampV x y m = [p, q] ∧ InR m p q :=
  ⟨_, _, rfl, by unfold InR; omega⟩
/-- The rows when the last k pairs are through. -/
structure PlI (ps : List Pt) (l : List (List Int)) (k : Nat) (o : List (List Int)) : Prop where
  len : o.length = 2 * ps.length - 1
  reg : ∀ x : Nat, x < 2 * ps.length - 1 → Done ps.length l k x → ∃ p q, o[x]? = some [p, q] ∧ InR (nd ps l x) p q
  pair : ∀ i, l.length - k ≤ i → i < l.length → ∀ a b, l[i]? = some [a, b] → ∃ x y, o[ps.length + i]? = some [x, y] ∧ o[a.toNat]? = some (clampV x y (nd ps l a)) ∧ o[b.toNat]? = some (clampV x y (nd ps l b))
theorem pl_step (hp : okPs ps = true) (hJ : IsJ ps.length l) {k : Nat} (hk : k < l.length) {o : List (List Int)} (h : PlI ps l k o) : PlI ps l (k + 1) (plS (TM ps l l.length) ps.length l o (l.length - 1 - k)) := by
  have hl : (l.length : Int) = ps.length - 1 := hJ.2.1
  have hn := hJ.1
  have hi : l.length - 1 - k < l.length := by omega
  obtain ⟨a, b, hat, g0, g1, g2, g3, g4⟩ := hJ.2.2 (l.length - 1 - k) hi
  have hd : Done ps.length l k (ps.length + (l.length - 1 - k)) := by have := done_up hJ hi; rwa [show l.length - 1 - (l.length - 1 - k) = k by omega] at this
  obtain ⟨p, q, hpq, hin⟩ := h.reg _ (by omega) hd
  have e : plS (TM ps l l.length) ps.length l o (l.length - 1 - k) = (o.set a.toNat (clampV p q (nd ps l a))).set b.toNat (clampV p q (nd ps l b)) := by
    unfold plS plP
    rw [getD_row hat, getD_row hpq]
  rw [e]
  have hol := h.len
  have s1 := nd_small hp hJ (x := a) (by omega) (by omega)
  have s2 := nd_small hp hJ (x := b) (by omega) (by omega)
  have atb : ((o.set a.toNat (clampV p q (nd ps l a))).set b.toNat (clampV p q (nd ps l b)))[b.toNat]? = some (clampV p q (nd ps l b)) := List.getElem?_set_self (by rw [List.length_set]; omega)
  have ata : ((o.set a.toNat (clampV p q (nd ps l a))).set b.toNat (clampV p q (nd ps l b)))[a.toNat]? = some (clampV p q (nd ps l a)) := by
    rw [List.getElem?_set_ne (by omega)]; exact List.getElem?_set_self (by omega)
  have atx : ∀ x : Nat, x ≠ a.toNat → x ≠ b.toNat → ((o.set a.toNat (clampV p q (nd ps l a))).set b.toNat (clampV p q (nd ps l b)))[x]? = o[x]? := fun x h1 h2 => by
    rw [List.getElem?_set_ne (Ne.symm h2), List.getElem?_set_ne (Ne.symm h1)]
  refine ⟨by simp [hol], fun x hx hdx => ?_, fun i h1 h2 a' b' hat' => ?_⟩
  · by_cases xb : (x : Int) = b
    · have xb' : x = b.toNat := by omega
      obtain ⟨u, v, e1, e2⟩ := clamp_in s2.1 s2.2.1 p q
      exact ⟨u, v, by rw [xb', atb, e1], by rw [xb]; exact e2⟩
    · by_cases xa : (x : Int) = a
      · have xa' : x = a.toNat := by omega
        obtain ⟨u, v, e1, e2⟩ := clamp_in s1.1 s1.2.1 p q
        exact ⟨u, v, by rw [xa', ata, e1], by rw [xa]; exact e2⟩
      · rw [atx x (by omega) (by omega)]
        rcases done_split hJ hk hat hdx with h' | h' | h'
        · exact h.reg x hx h'
        · exact absurd h' xa
        · exact absurd h' xb
  · by_cases ei : i = l.length - 1 - k
    · subst ei
      rw [hat] at hat'; cases hat'
      exact ⟨p, q, by rw [atx _ (by omega) (by omega)]; exact hpq, ata, atb⟩
    · obtain ⟨k0, k1, k2, k3, k4⟩ := (hJ.2.2 i h2).at hat'
      have ua : Used l i a := ⟨l.length - 1 - k, by omega, _, hat, by simp⟩
      have ub : Used l i b := ⟨l.length - 1 - k, by omega, _, hat, by simp⟩
      have n1 : a' ≠ a := fun e => k3 (e ▸ ua)
      have n2 : a' ≠ b := fun e => k3 (e ▸ ub)
      have n3 : b' ≠ a := fun e => k4 (e ▸ ua)
      have n4 : b' ≠ b := fun e => k4 (e ▸ ub)
      obtain ⟨x, y, f1, f2, f3⟩ := h.pair i (by omega) h2 a' b' hat'
      exact ⟨x, y, by rw [atx _ (by omega) (by omega)]; exact f1, by rw [atx _ (by omega) (by omega)]; exact f2, by rw [atx _ (by omega) (by omega)]; exact f3⟩
/-- The program's places. -/
def plA (ps : List Pt) (l : List (List Int)) : List (List Int) := plU (TM ps l l.length) ps.length l ((TM ps l l.length).map lowR) l.length
theorem pl_all (hp : okPs ps = true) (hJ : IsJ ps.length l) : PlI ps l l.length (plA ps l) := by
  have hl : (l.length : Int) = ps.length - 1 := hJ.2.1
  have hn := hJ.1
  have hlen := TM_len hJ l.length (Nat.le_refl _)
  have all : ∀ k, k ≤ l.length → PlI ps l k (plU (TM ps l l.length) ps.length l ((TM ps l l.length).map lowR) k) := by
    intro k
    induction k with
    | zero =>
      intro _
      refine ⟨by show (List.map _ _).length = _; simp; omega, fun x hx hd => ?_, fun i h1 h2 => by omega⟩
      have hx' : x < (TM ps l l.length).length := by omega
      have en : nd ps l x = (TM ps l l.length)[x] := by unfold nd nodeAt; simp [List.getD, List.getElem?_eq_getElem hx']
      refine ⟨(nd ps l x).1, (nd ps l x).2.2.1, ?_, ?_⟩
      · show (List.map _ _)[x]? = _
        rw [List.getElem?_map, List.getElem?_eq_getElem hx', en]
        rfl
      · have := nd_small hp hJ (x := x) (by omega) (by omega)
        unfold InR; omega
    | succ k ih => intro hk; exact pl_step hp hJ (by omega) (ih (by omega))
  exact all l.length (Nat.le_refl _)
/-- A place in the region of a merge is as near to the nearest place of either end's region as the wire is long. -/
theorem clamp_near {p lo hi w : Int} (h : lo ≤ hi) (h1 : lo - w ≤ p) (h2 : p ≤ hi + w) (hw : 0 ≤ w) : p - min (max p lo) hi ≤ w ∧ min (max p lo) hi - p ≤ w := by omega
theorem pl_near (hp : okPs ps = true) (hJ : IsJ ps.length l) {i : Nat} {a b : Int} (hat : l[i]? = some [a, b]) {x y : Int} (h : InR (nd ps l (ps.length + i)) x y) :
    (x - min (max x (nd ps l a).1) (nd ps l a).2.1 ≤ mone (nd ps l a) (nd ps l b) ∧ min (max x (nd ps l a).1) (nd ps l a).2.1 - x ≤ mone (nd ps l a) (nd ps l b)) ∧
    (y - min (max y (nd ps l a).2.2.1) (nd ps l a).2.2.2.1 ≤ mone (nd ps l a) (nd ps l b) ∧ min (max y (nd ps l a).2.2.1) (nd ps l a).2.2.2.1 - y ≤ mone (nd ps l a) (nd ps l b)) ∧
    (x - min (max x (nd ps l b).1) (nd ps l b).2.1 ≤ mtwo (nd ps l a) (nd ps l b) ∧ min (max x (nd ps l b).1) (nd ps l b).2.1 - x ≤ mtwo (nd ps l a) (nd ps l b)) ∧
    (y - min (max y (nd ps l b).2.2.1) (nd ps l b).2.2.2.1 ≤ mtwo (nd ps l a) (nd ps l b) ∧ min (max y (nd ps l b).2.2.1) (nd ps l b).2.2.2.1 - y ≤ mtwo (nd ps l a) (nd ps l b)) := by
  have hi := lt_of_at hat
  obtain ⟨g0, g1, g2, _⟩ := (hJ.2.2 i hi).at hat
  have hl : (l.length : Int) = ps.length - 1 := hJ.2.1
  have hn := hJ.1
  obtain ⟨w1, w2, _⟩ := wires_of hp hJ hat
  have s1 := nd_small hp hJ (x := a) (by omega) (by omega)
  have s2 := nd_small hp hJ (x := b) (by omega) (by omega)
  rw [nd_pair hJ hat] at h
  unfold InR mmrg mmeet at h
  simp only [] at h
  refine ⟨clamp_near s1.1 (by omega) (by omega) w1.1, clamp_near s1.2.1 (by omega) (by omega) w1.1, clamp_near s2.1 (by omega) (by omega) w2.1, clamp_near s2.2.1 (by omega) (by omega) w2.1⟩
end
end Go.Proofs.Ytajnjbmniobjhaa
