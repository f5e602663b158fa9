/- A region that draws its order, whose operations but the last few read old cells or call what only makes memory, the last few standing in one forced order: one walk in the text's order serves every order. -/
import Derived.Test.YtbfjekmefcpkmaaDoorBase
set_option linter.unusedSimpArgs false
set_option linter.unusedVariables false
namespace Go.Proofs.YtbfjekmefcpkmaaDoor
open Go.RowKit

theorem wpAny_more {P : Program} {md : Region.Mode} {ops : Array Oper} {Q : Exit → Act → World → Prop} : ∀ (f : Nat) (listed : Array Bool) (a : Act) (w : World),
  wpAny P md ops Q f listed a w → wpAny P md ops Q (f + 1) listed a w
 | 0, listed, a, w, h => ⟨fun _ => h.2, fun i hi => by rw [h.1] at hi; cases hi⟩
 | f + 1, listed, a, w, h => ⟨h.1, fun i hi => by
   have h2 := h.2 i hi
   unfold wpOp at h2 ⊢
   split
   ·rename_i ho; simp only [ho] at h2; exact wpAny_more f _ _ _ h2
   ·rename_i o ho
    simp only [ho] at h2
    split
    ·rename_i hw
     simp only [hw, if_true] at h2
     rcases h2 with h2 | h2
     ·left
      unfold Oper.wp at h2 ⊢
      generalize (execOp a.eval o).run P w = r at *
      cases r with
      | ok x w' =>
       cases x <;> simp only [Oper.upon] at h2 ⊢ <;> try (exact wpAny_more f _ _ _ h2)
       case enter g args =>
        refine h2.mono ?_
        intro e w'' he
        cases e with
        | returned v => exact wpAny_more f _ _ _ he
        | panicked c => exact he
        | outgrown => exact he
       case row r args =>
        exact h2.mono fun v w'' he => wpAny_more f _ _ _ he
      | halt x w' => cases x <;> simp only [Oper.upon] at h2 ⊢ <;> exact h2
     ·exact Or.inr h2
    ·rename_i hw; simp only [hw] at h2; exact wpAny_more f _ _ _ h2⟩
theorem wpAny_more' {P : Program} {md : Region.Mode} {ops : Array Oper} {Q : Exit → Act → World → Prop} {f : Nat} {listed : Array Bool} {a : Act} {w : World} (h : wpAny P md ops Q f listed a w) :
  ∀ k, wpAny P md ops Q (k + f) listed a w
 | 0 => by simpa using h
 | k + 1 => by rw [show k + 1 + f = (k + f) + 1 by omega]; exact wpAny_more _ _ _ _ (wpAny_more' h k)

def setTo (m : Nat) : Nat → Array Bool
 | 0 => Array.replicate m false
 | k + 1 => (setTo m k).setIfInBounds k true
theorem setTo_size (m : Nat) : ∀ k, (setTo m k).size = m
 | 0 => by simp [setTo]
 | k + 1 => by simp [setTo, setTo_size m k]
theorem setTo_get (m : Nat) : ∀ k j, k ≤ m → (setTo m k)[j]? = if j < m then some (decide (j < k)) else none
 | 0, j, _ => by simp [setTo, Array.getElem?_replicate]
 | k + 1, j, h => by
  rw [setTo, Array.getElem?_setIfInBounds, setTo_size, setTo_get m k j (by omega)]
  by_cases e : k = j
  ·subst e; simp [show k < m by omega]
  ·simp only [e, if_false]; split <;> simp; omega
theorem setTo_getD (m k j : Nat) (d : Bool) (h : k ≤ m) : (setTo m k).getD j d = if j < m then decide (j < k) else d := by
 rw [Array.getD_eq_getD_getElem?, setTo_get m k j h]
 split <;> simp
theorem lexHead_at {md : Region.Mode} {ops : Array Oper} {g : Nat} : ∀ (f k : Nat), k + f ≤ ops.size → Region.lexHead md ops g f k (setTo ops.size k) = true →
  Region.seqB md ops g (k + f) (setTo ops.size (k + f)) = true ∧ ∀ j, k ≤ j → j < k + f → j ∈ Region.ready md ops (setTo ops.size j)
 | 0, k, _, h => ⟨h, fun j h1 h2 => by omega⟩
 | f + 1, k, hk, h => by
  simp only [Region.lexHead, Bool.and_eq_true] at h
  obtain ⟨⟨hr, _⟩, h'⟩ := h
  have ih := lexHead_at f (k + 1) (by omega) h'
  refine ⟨by rw [show k + (f + 1) = k + 1 + f by omega]; exact ih.1, fun j h1 h2 => ?_⟩
  by_cases e : j = k
  ·subst e; simpa using hr
  ·exact ih.2 j (by omega) (by omega)

section
variable {P : Program} {ops : Array Oper} {md : Region.Mode} {C : World → Prop}
theorem head_get {n i : Nat} (h : i < n) : (ops.toList.take n).toArray[i]? = ops[i]? := by simp [h]
theorem head_none {n i : Nat} (h : n ≤ i) : (ops.toList.take n).toArray[i]? = none := by simp; omega
theorem ready_head {n : Nat} {listed listedH : Array Bool} (hd : ∀ j, j < n → ∀ o, ops[j]? = some o → ∀ e ∈ o.after, Region.binds md e = true → e.on < j)
  (hn : n < ops.size) (h1 : listed.size = ops.size) (h2 : listedH.size = n) (hag : ∀ j, j < n → listed[j]? = listedH[j]?) {i : Nat} (hi : i < n) :
  i ∈ Region.ready md ops listed ↔ i ∈ Region.ready md (ops.toList.take n).toArray listedH := by
 rw [mem_ready, mem_ready]
 rw [head_get hi]
 rw [Array.getD_eq_getD_getElem?, Array.getD_eq_getD_getElem?, hag i hi]
 constructor
 ·rintro ⟨ha, o, ho, hall⟩
  refine ⟨ha, o, ho, fun e he hb => ?_⟩
  have := hall e he hb
  rwa [Array.getD_eq_getD_getElem?, hag e.on (by have := hd i hi o ho e he hb; omega), ← Array.getD_eq_getD_getElem?] at this
 ·rintro ⟨ha, o, ho, hall⟩
  refine ⟨ha, o, ho, fun e he hb => ?_⟩
  have := hall e he hb
  rwa [Array.getD_eq_getD_getElem?, ← hag e.on (by have := hd i hi o ho e he hb; omega), ← Array.getD_eq_getD_getElem?] at this

def guardsB (l : List Oper) (n : Nat) : Bool := (l.take n).all fun o => match o.guard with | none => true | some (j, _) => decide (j < n)
theorem wanted_head {n i : Nat} {o : Oper} (hg : guardsB ops.toList n = true) (hi : i < n) (ho : ops[i]? = some o) (tmps : Array Value) :
  Region.wanted o (yielded (ops.toList.take n).toArray tmps) = Region.wanted o (yielded ops tmps) := by
 have hm : o ∈ ops.toList.take n := by
  rw [List.mem_iff_getElem?]
  exact ⟨i, by rw [List.getElem?_take_of_lt hi]; simpa using ho⟩
 have := (List.all_eq_true.1 hg) o hm
 unfold Region.wanted
 cases hgd : o.guard with
 | none => rfl
 | some p =>
  obtain ⟨j, want⟩ := p
  simp only [hgd, decide_eq_true_eq] at this
  simp only []
  have e : yielded (ops.toList.take n).toArray tmps j = yielded ops tmps j := by
   unfold yielded
   rw [head_get this]
  rw [e]

end

end Go.Proofs.YtbfjekmefcpkmaaDoor
