/- What is handed back to be read, and slices in boxes that turn: whose blocks are they? -/
import Derived.Test.YtbfjekmefcpkmaaDoorBit
set_option linter.unusedSimpArgs false
set_option linter.unusedVariables false
set_option linter.unusedSectionVars false
namespace Go.Proofs.YtbfjekmefcpkmaaDoor
open Go.RowKit

/-- Blocks that are among P, or new. -/
def Rt (n : Nat) (P fp : List Nat) : Prop := ∀ x ∈ fp, x ∈ P ∨ n ≤ x
section
variable {n m : Nat} {P Q a b fp : List Nat}
theorem Rt.low (h : ∀ x ∈ fp, n ≤ x) : Rt n P fp := fun x hx => Or.inr (h x hx)
theorem Rt.mem (h : ∀ x ∈ fp, x ∈ P) : Rt n P fp := fun x hx => Or.inl (h x hx)
theorem Rt.refl : Rt n fp fp := fun x hx => Or.inl hx
theorem Rt.nil : Rt n P [] := fun x hx => nomatch hx
theorem Rt.app (h : Rt n P a) (k : Rt n P b) : Rt n P (a ++ b) := fun x hx => (List.mem_append.1 hx).elim (h x) (k x)
theorem Rt.of (h : Rt m Q fp) (hz : n ≤ m) (hQ : Rt n P Q) : Rt n P fp := fun x hx => (h x hx).elim (hQ x) (fun h => Or.inr (Nat.le_trans hz h))
theorem Rt.lowof (h : Rt m Q fp) (hz : n ≤ m) (hQ : ∀ x ∈ Q, n ≤ x) : ∀ x ∈ fp, n ≤ x := fun x hx => (h x hx).elim (hQ x) (fun h => Nat.le_trans hz h)
theorem Rt.dj (h : Rt m Q fp) (hp : ∀ x ∈ a, x < m) (hd : Dj a Q) : Dj a fp := fun x hx hy => (h x hy).elim (hd x hx) (fun h => Nat.lt_irrefl _ (Nat.lt_of_lt_of_le (hp x hx) h))
theorem inRt {S : List Nat} (h : Rt n P fp) (hm : ∀ x ∈ P, x ∈ S) : ∀ x ∈ fp, x ∈ S ∨ n ≤ x := fun x hx => (h x hx).imp (hm x) id
end
section
variable {α : Type} {k : Nat} {enc : α → List Value} {w : World} {T : TypeId} {fp : List Nat} {A : Option Addr} {cap : Nat} {l : List α}
theorem Ow.isNone (h : Ow k enc T w fp A cap l) (hl : 0 < l.length) : A.isNone = false := by
  rcases h.is with ⟨_, rfl, _, _⟩ | ⟨g, cs, rfl, _⟩
  · simp at hl
  · rfl
end
section
variable {P : Program} {ops : Array Oper} {Q : Exit → Act → World → Prop} {N i : Nat} {E : Env} {a : Act} {w : World} {α : Type} {k : Nat} {enc : α → List Value}
theorem eX_fall {fn : Func} {R : Ending → World → Prop} {vs : List Value} (rs : List ResultVar) (hrs : fn.results = rs.toArray) (h : ResAll P E a w rs vs) (k : R (.returned (retV vs)) w) : eX .normal (bodyPost P fn R) N E a w := by
  have := eX_ret (N := N) rs hrs h k
  exact this
theorem run_append_of_empty (base : Nat) (t ty e : TypeId) (inf : TypeInfo) (size : Nat) (ht : P.underlying t = some (.slice e)) (hi : P.info? e = some inf)
    (v : Value) (n : Nat) (xs : List Value) (hown : w.ownsRow base e size v n xs) (ad : Addr) (c : Nat) : (Builtin.append_ #[t, t] ty #[v, .slice (some ad) 0 c]).run P w = .ok v w := by
  have hl0 : (loadCells ad 0).run P w = .ok #[] w := by simp [loadCells, loadCellsFrom]
  rcases hown.2 with ⟨rfl, rfl⟩ | ⟨g, cap, cur, rfl, _, _, hnc, _⟩
  · simp [Builtin.append_, run_underlying ht, sizeOf, typeInfo, hi, Builtin.lenOf, Builtin.firstCells, hl0]
  · simp [Builtin.append_, run_underlying ht, sizeOf, typeInfo, hi, Builtin.lenOf, Builtin.firstCells, hnc, storeCells, hl0]
/-- Appended to what is not nil: it is not nil. -/
theorem wS_appendSome {d t T : Nat} {z : Value} {A A2 : Option Addr} {cap cap2 : Nat} {l l2 : List α} {fp fp2 : List Nat} (ho : appI ops N E a i = some (d, t, .slice A l.length cap, .slice A2 l2.length cap2))
    (hT : ElTy P t T k z) (he : EncOk k enc) (h1 : Ow k enc T w fp A cap l) (h2 : Sl k enc w fp2 A2 l2) (hn : A.isNone = false) (hlim : l.length + l2.length ≤ lim)
    (kk : ∀ w' fp' A' cap', Ow k enc T w' fp' A' cap' (l ++ l2) → Chg fp w w' → Ap w.heap.size fp fp' → A'.isNone = false → wS P ops Q N (i + 1) ((d, .slice A' (l ++ l2).length cap') :: E) a w') : wS P ops Q N i E a w := by
  cases l2 with
  | cons x l2 => exact wS_appendAny ho hT he h1 h2 hlim (fun w' fp' A' cap' hO hc hap => kk w' fp' A' cap' hO hc hap (hO.isNone (by simp; omega)))
  | nil =>
    obtain ⟨c, hat, hcal, hty, hargs⟩ := appI_spec ho
    obtain ⟨g1, g2, g3⟩ := atI_spec hat
    obtain ⟨inf, hi, hz, hs, hb⟩ := hT.info
    have hrun : ∀ ty, (Builtin.append_ #[t, t] ty #[.slice A l.length cap, .slice A2 0 cap2]).run P w = .ok (.slice A l.length cap) w := fun ty => by
      cases A2 with
      | none => exact run_append_of_nil 0 t ty T inf k hT.und hi _ _ _ (h1.row he) cap2
      | some ad => exact run_append_of_empty 0 t ty T inf k hT.und hi _ _ _ (h1.row he) ad cap2
    have := kk w fp A cap (by simpa using h1) (Chg.refl _ _) (fun b hb => Or.inl hb) hn
    rw [List.append_nil] at this
    refine wS_val g1 g2 (g3 _ rfl) (fun o ho => ?_) this
    simp only [execOp, ho, resolve, hcal]
    simp [invoke, builtin, hargs, hty, hrun]
end
end Go.Proofs.YtbfjekmefcpkmaaDoor
