/- copy into a slice of the call's own; slices of the call's own that are cut from the front (queues). -/
import Derived.Test.YtbfjekmefcpkmaaDoorApp
import Derived.ArgAppend
set_option linter.unusedSimpArgs false
set_option linter.unusedVariables false
set_option linter.unusedSectionVars false
namespace Go.Proofs.YtbfjekmefcpkmaaDoor
open Go.RowKit

def copyI (ops : Array Oper) (N : Nat) (E : Env) (a : Act) (i : Nat) : Option (Nat × TypeId × Value × Value) :=
  match atI ops N E a i with
  | some (some d, .call c) => match c.callee, c.args.toList, c.argTypes.toList with
    | .builtin .copy, [s, x], [t, t'] => bif Nat.beq t t' then some (d, t, evE E a s, evE E a x) else none
    | _, _, _ => none
  | _ => none
theorem hA0 (A : Option Addr) (cap k : Nat) : A = if cap = Int.toNat 0 then A else A.map (·.add (Int.toNat 0 * k)) := by
  split
  · rfl
  · cases A with
    | none => rfl
    | some ad => simp [Addr.add]
/-- What a copy leaves. -/
def cpy {α : Type} (l : List α) (lo : Int) (l2 : List α) : List α := l.take lo.toNat ++ l2.take (l.length - lo.toNat) ++ l.drop (lo.toNat + l2.length)
section
variable {P : Program} {ops : Array Oper} {Q : Exit → Act → World → Prop} {N i : Nat} {E : Env} {a : Act} {w : World} {α : Type} {k : Nat} {enc : α → List Value}
/-! ### Queues -/
structure OwO {α : Type} (k : Nat) (enc : α → List Value) (T : TypeId) (w : World) (fp : List Nat) (A : Option Addr) (cap : Nat) (l : List α) : Prop where
  is : (A = none ∧ l = [] ∧ cap = 0 ∧ fp = []) ∨ ∃ g o cs, A = some ⟨g, o, none⟩ ∧ fp = [g] ∧ Cl w g T cs ∧ o + cap * k ≤ cs.length ∧ l.length ≤ cap ∧ cap ≤ maxLen ∧ (cs.drop o).take (l.length * k) = l.flatMap enc
theorem Ow.off {T : TypeId} {fp : List Nat} {A : Option Addr} {cap : Nat} {l : List α} (h : Ow k enc T w fp A cap l) : OwO k enc T w fp A cap l := by
  rcases h.is with h0 | ⟨g, cs, hA, hfp, hC, hcs, hlc, hm, ht⟩
  · exact ⟨Or.inl h0⟩
  · exact ⟨Or.inr ⟨g, 0, cs, hA, hfp, hC, by omega, hlc, hm, by simpa using ht⟩⟩
theorem OwO.low {T : TypeId} {fp : List Nat} {A : Option Addr} {cap : Nat} {l : List α} (h : OwO k enc T w fp A cap l) : ∀ b ∈ fp, b < w.heap.size := by
  rcases h.is with ⟨_, _, _, rfl⟩ | ⟨g, o, cs, _, rfl, hC, _⟩
  · simp
  · intro b hb; simp only [List.mem_singleton] at hb; subst hb; exact hC.lt
theorem OwO.cap_le {T : TypeId} {fp : List Nat} {A : Option Addr} {cap : Nat} {l : List α} (h : OwO k enc T w fp A cap l) : l.length ≤ cap := by
  rcases h.is with ⟨_, rfl, _, _⟩ | ⟨g, o, cs, _, _, _, _, h, _⟩
  · simp
  · exact h
theorem OwO.chg {T : TypeId} {fp S : List Nat} {A : Option Addr} {cap : Nat} {l : List α} {w' : World} (h : OwO k enc T w fp A cap l) (hc : Chg S w w') (hn : Dj fp S) : OwO k enc T w' fp A cap l := by
  rcases h.is with h0 | ⟨g, o, cs, hA, rfl, hC, rest⟩
  · exact ⟨Or.inl h0⟩
  · exact ⟨Or.inr ⟨g, o, cs, hA, rfl, hC.chg hc (hn g (by simp)), rest⟩⟩
theorem OwO.sl {T : TypeId} {fp : List Nat} {A : Option Addr} {cap : Nat} {l : List α} (h : OwO k enc T w fp A cap l) (he : EncOk k enc) : Sl k enc w fp A l := by
  refine ⟨h.low, fun hl => ?_⟩
  rcases h.is with ⟨_, rfl, _, _⟩ | ⟨g, o, cs, rfl, rfl, hC, hcs, hlc, _, ht⟩
  · simp at hl
  · refine ⟨_, rfl, by simp, fun i x hx j u hu => ?_⟩
    obtain ⟨hi, _⟩ := List.getElem?_eq_some_iff.1 hx
    obtain ⟨hj, _⟩ := List.getElem?_eq_some_iff.1 hu
    rw [he.len] at hj
    have hadd : ((⟨g, o, none⟩ : Addr).add (i * k)).add j = ⟨g, o + (i * k + j), none⟩ := by
      rw [add_add']; unfold Addr.add; split
      · rename_i e; rw [e]; rfl
      · rfl
    have hlt : i * k + j < l.length * k := by
      have : (i + 1) * k ≤ l.length * k := Nat.mul_le_mul_right k hi
      rw [Nat.add_mul] at this; omega
    rw [hadd, hC.cell, ← hu, ← flatMap_get he hj l i x hx, ← ht, List.getElem?_take, if_pos hlt, List.getElem?_drop]
end
section
variable {α : Type} {k : Nat} {enc : α → List Value} {P : Program} {ops : Array Oper} {Q : Exit → Act → World → Prop} {N i : Nat} {E : Env} {a : Act} {w ws : World} {Sg dn : List Nat}
end
end Go.Proofs.YtbfjekmefcpkmaaDoor
