/- Arguments that are slices: from what a statement hands in to 'Sl' and 'SlR'. -/
import Derived.Test.YtbfjekmefcpkmaaDoorRw2
import Derived.Test.YtbfjekmefcpkmaaDoorLift
import Derived.Deep.SlicePairs
import Derived.Deep.Matrix
set_option linter.unusedSimpArgs false
set_option linter.unusedVariables false
namespace Go.Proofs.YtbfjekmefcpkmaaDoor
open Go.ChangeShapes Go.WideShapes Go.ChangeAt Go.RowKit Go.Joins

def In64 (n : Int) : Prop := -9223372036854775808 ≤ n ∧ n < 9223372036854775808
theorem in64 {n : Int} (h : (Lit.int .i64 n).wf = true) : In64 n := by
  simp only [Lit.wf, IntKind.min, IntKind.max, Bool.and_eq_true, decide_eq_true_eq] at h
  have h1 : (-9223372036854775808 : Int) ≤ n := by simpa [IntKind.signed, IntKind.bits] using h.1
  have h2 : n ≤ (9223372036854775807 : Int) := by simpa [IntKind.signed, IntKind.bits] using h.2
  exact ⟨h1, by omega⟩
theorem Sl.nil_ {α : Type} {k : Nat} {enc : α → List Value} {w : World} {A : Option Addr} : Sl k enc w [] A [] := ⟨fun _ h => absurd h List.not_mem_nil, fun h => absurd h (Nat.lt_irrefl 0)⟩
theorem Sl.of {α : Type} {k : Nat} {enc : α → List Value} {w : World} {a : Addr} {l : List α} (hb : 0 < l.length → a.block < w.heap.size) (h : ∀ i x, l[i]? = some x → ∀ j u, (enc x)[j]? = some u → w.cell? ((a.add (i * k)).add j) = some u) :
    ∃ fp, Sl k enc w fp (some a) l ∧ (∀ b ∈ fp, b = a.block) := by
  by_cases h0 : 0 < l.length
  · exact ⟨[a.block], ⟨fun b hb' => by simp at hb'; subst hb'; exact hb h0, fun _ => ⟨a, rfl, by simp, h⟩⟩, fun b hb => by simpa using hb⟩
  · exact ⟨[], ⟨fun _ h => absurd h List.not_mem_nil, fun h => absurd h h0⟩, fun b hb => absurd hb List.not_mem_nil⟩
section
variable {H : Type} {enc : TypeId × Value → H} {P : Program} {W : World} {hd : Bool} {n : Nat} {x : DataW H × List MemPlace} {v : Value} {t e : TypeId}
theorem open_i64s (ht : P.underlying t = some (.slice e)) (he : P.underlying e = some (.int .i64)) (ce : P.cellsOf e = 1)
    (h : DataW.trod enc P W 0 (fun _ => true) hd n t [v] = some x) :
    ∃ (A : Option Addr) (cap : Nat) (l : List Int) (fp : List Nat), v = .slice A l.length cap ∧ Sl 1 encI W fp A l ∧ l.length ≤ 9223372036854775807 ∧ ∀ p ∈ l, In64 p := by
  rcases open_ints ht he ce h with ⟨hv, _⟩ | ⟨a, len, cap, zs, hv, _, hl, hm, hz, _, hx, hwf⟩
  · exact ⟨none, 0, [], [], by simpa using hv, Sl.nil_, by simp, by simp⟩
  · simp only [if_true] at hz
    have hlen : (zs.take len).length = len := by simp; omega
    obtain ⟨fp, hS, _⟩ := Sl.of (k := 1) (enc := encI) (w := W) (a := a) (l := zs.take len)
      (fun h0 => by rw [hlen] at h0; have := World.block_lt_of_cell? _ _ (hx 0 (by omega)); rwa [add_block] at this)
      (fun i p hp j u hu => by
        have hlt : i < len := by have := (List.getElem?_eq_some_iff.1 hp).1; omega
        have h1 := hx i (by omega)
        have hp' : zs[i]? = some p := by rw [List.getElem?_take] at hp; simpa [hlt] using hp
        have : zs.getD i 0 = p := by simp [List.getD, hp']
        rw [this] at h1
        match j, hu with
        | 0, hu => simp only [encI, List.getElem?_cons_zero, Option.some.injEq] at hu; subst hu; rw [Go.Deep.add_add, Nat.mul_one]; exact h1
        | j + 1, hu => simp [encI] at hu)
    exact ⟨some a, cap, zs.take len, fp, by rw [hlen]; simpa using hv, hS, by rw [hlen]; unfold maxLen at hm; omega, fun p hp => in64 (hwf p (List.mem_of_mem_take hp))⟩
end
end Go.Proofs.YtbfjekmefcpkmaaDoor
