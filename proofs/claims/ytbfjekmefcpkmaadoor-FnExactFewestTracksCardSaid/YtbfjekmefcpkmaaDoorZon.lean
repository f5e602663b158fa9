/- Rows that several slices of the call's own share: a zone of rows that nobody writes into. -/
import Derived.Test.YtbfjekmefcpkmaaDoorCpy
import Derived.Test.YtbfjekmefcpkmaaDoorTl2
set_option linter.unusedSimpArgs false
set_option linter.unusedVariables false
set_option linter.unusedSectionVars false
namespace Go.Proofs.YtbfjekmefcpkmaaDoor
open Go.RowKit

def ZLow (w : World) (fp : List Nat) : Prop := ∀ b ∈ fp, b < w.heap.size
section
variable {w w' : World} {fp fp2 S a b z : List Nat}
theorem ZLow.chg (h : ZLow w fp) (hc : Chg S w w') (hn : Dj fp S) : ZLow w' fp := fun x hx => Nat.lt_of_lt_of_le (h x hx) hc.size
theorem ZLow.low (h : ZLow w fp) : ∀ b ∈ fp, b < w.heap.size := h
theorem ZLow.nil : ZLow w [] := fun x hx => nomatch hx
theorem ZLow.app (h : ZLow w fp) (k : ∀ b ∈ fp2, b < w.heap.size) : ZLow w (fp ++ fp2) := fun x hx => (List.mem_append.1 hx).elim (h x) (k x)
theorem djz (h1 : Dj a S) (h2 : Dj z S) : Dj (a ++ z) S := fun x hx => (List.mem_append.1 hx).elim (h1 x) (h2 x)
theorem memL {P : Nat → Prop} (h : ∀ x ∈ a ++ b, P x) : ∀ x ∈ a, P x := fun x hx => h x (List.mem_append_left _ hx)
theorem memR {P : Nat → Prop} (h : ∀ x ∈ a ++ b, P x) : ∀ x ∈ b, P x := fun x hx => h x (List.mem_append_right _ hx)
end
section
variable {α : Type} {k : Nat} {enc : α → List Value} {w w' : World} {A : Option Addr} {ll : List (List α)} {T T2 : TypeId} {cap : Nat} {fpm fpr x z : List Nat}
theorem OwR.zmore (h : OwR k enc T T2 w fpm fpr A cap ll) (hd : Dj fpm x) (hx : ∀ b ∈ x, b < w.heap.size) : OwR k enc T T2 w fpm (fpr ++ x) A cap ll := by
  obtain ⟨hs, f, h1, h2⟩ := h.is
  refine ⟨⟨hs, f, h1, h2.len, h2.row, h2.dj, fun i b hb => List.mem_append_left _ (h2.sub i b hb), fun b hb => ?_⟩, h.dj.app hd⟩
  rcases List.mem_append.1 hb with hb | hb
  · exact h2.low b hb
  · exact hx b hb
theorem OwR.nilz (hz : ZLow w z) : OwR k enc T T2 w [] z none 0 ([] : List (List α)) :=
  ⟨⟨[], fun _ => [], Ow.nil _, rfl, fun i l hl => (by simp at hl), fun _ _ _ x hx => (nomatch hx), fun _ x hx => (nomatch hx), hz⟩, fun x hx => (nomatch hx)⟩
theorem Ow.notnil {l : List α} (h : Ow k enc T w fpm A cap l) (hn : 0 < l.length) : A.isNone = false := by
  rcases h.is with ⟨_, rfl, _⟩ | ⟨g, cs, rfl, _⟩
  · simp at hn
  · rfl
end
section
variable {P : Program} {ops : Array Oper} {Q : Exit → Act → World → Prop} {N i : Nat} {E : Env} {a : Act} {w ws : World} {Sg dn : List Nat} {α : Type} {k : Nat} {enc : α → List Value}
theorem wH_prefixR {d T e cap : Nat} {A : Option Addr} {ll l' : List (List α)} {hi : Int} (hns : Region.noSelect ops = true) (hQ : QCalm Q) (hf : freeB ops dn i = true) (ho : slcI ops N E a i = some (d, T, .slice A ll.length cap, none, some (.int .i64 hi))) (hT : SlTy P T e 1)
    (hc : ll.length ≤ cap) (hs : slci ll 0 hi = some l') (kk : l' = ll.take hi.toNat → (∀ W fpm fpr U T2, OwR k enc U T2 W fpm fpr A cap ll → OwR k enc U T2 W fpm fpr A cap l') → wH P ops Q Sg ws N (i :: dn) ((d, .slice A l'.length cap) :: E) a w) : wH P ops Q Sg ws N dn E a w := by
  obtain ⟨⟨q1, q2, q3⟩, rfl⟩ := slci_some hs
  have hl : (ll.map fun _ => (0 : Int)).length = ll.length := List.length_map ..
  rw [← hl] at ho
  have hs' : slci (ll.map fun _ => (0 : Int)) 0 hi = some (((ll.map fun _ => (0 : Int)).take hi.toNat).drop 0) := by unfold slci; rw [if_pos ⟨q1, q2, by rw [hl]; exact q3⟩]; rfl
  refine wH_prefix (enc := encI) (k := 1) hns hQ hf ho hT encI_ok (by rw [hl]; exact hc) hs' (fun _ _ => ?_)
  have := kk (by simp) (fun W fpm fpr U T2 h => by simpa using h.prefix hi.toNat)
  simpa using this
end
end Go.Proofs.YtbfjekmefcpkmaaDoor
