/- A slice that is a full view of what came in, or the call's own. -/
import Derived.Test.YtbfjekmefcpkmaaDoorFull
set_option linter.unusedSimpArgs false
set_option linter.unusedVariables false
set_option linter.unusedSectionVars false
namespace Go.Proofs.YtbfjekmefcpkmaaDoor
open Go.RowKit
def neC {α : Type} (l : List α) : Option Unit := chk (!l.isEmpty)
theorem neE {α : Type} {l : List α} {u : Unit} (h : neC l = some u) : 0 < l.length := by
  have := chkE h
  cases l with
  | nil => simp at this
  | cons => simp
theorem neC_ok {α : Type} {l : List α} (h : 0 < l.length) : neC l = some () := by
  cases l with
  | nil => simp at h
  | cons => rfl
structure Mx {α : Type} (k : Nat) (enc : α → List Value) (T : TypeId) (w : World) (fpP fp : List Nat) (A : Option Addr) (cap : Nat) (l : List α) : Prop where
  lowP : ∀ b ∈ fpP, b < w.heap.size
  is : (fp = [] ∧ cap = l.length ∧ Sl k enc w fpP A l) ∨ Ow k enc T w fp A cap l
section
variable {α : Type} {k : Nat} {enc : α → List Value} {T : TypeId} {w w' : World} {fpP fp S : List Nat} {A : Option Addr} {cap : Nat} {l : List α}
theorem Mx.chg (h : Mx k enc T w fpP fp A cap l) (hc : Chg S w w') (hP : Dj fpP S) (hn : Dj fp S) : Mx k enc T w' fpP fp A cap l :=
  ⟨fun b hb => Nat.lt_of_lt_of_le (h.lowP b hb) hc.size, h.is.imp (fun ⟨h1, h2, h3⟩ => ⟨h1, h2, h3.chg hc hP⟩) (fun h => h.chg hc hn)⟩
theorem Mx.low (h : Mx k enc T w fpP fp A cap l) : ∀ b ∈ fp, b < w.heap.size := by
  rcases h.is with ⟨rfl, _, _⟩ | h
  · intro b hb; cases hb
  · exact h.low
theorem Mx.sl (h : Mx k enc T w fpP fp A cap l) (he : EncOk k enc) : Sl k enc w (fpP ++ fp) A l := by
  have hl : ∀ b ∈ fpP ++ fp, b < w.heap.size := fun b hb => (List.mem_append.1 hb).elim (h.lowP b) (h.low b)
  rcases h.is with ⟨_, _, h3⟩ | h3
  · exact h3.fpMore (fun b hb => List.mem_append_left _ hb) hl
  · exact (h3.sl he).fpMore (fun b hb => List.mem_append_right _ hb) hl
theorem Mx.nil (h : ∀ b ∈ fpP, b < w.heap.size) : Mx k enc T w fpP [] none 0 ([] : List α) := ⟨h, Or.inr (Ow.nil w)⟩
theorem Sl.front (h : Sl k enc w fp A l) (n : Nat) : Sl k enc w fp A (l.take n) := by
  refine ⟨h.low, fun hl => ?_⟩
  obtain ⟨ad, hA, hfp, hc⟩ := h.cells (by rw [List.length_take] at hl; omega)
  refine ⟨ad, hA, hfp, fun i x hx => hc i x ?_⟩
  rw [List.getElem?_take] at hx
  split at hx
  · exact hx
  · cases hx
end
section
variable {α : Type} {k : Nat} {enc : α → List Value} {P : Program} {ops : Array Oper} {Q : Exit → Act → World → Prop} {N i : Nat} {E : Env} {a : Act} {w : World}
theorem wS_slice3v {d T e U cap : Nat} {A : Option Addr} {l l' : List α} {fp : List Nat} {hi : Int} (ho : slc3I ops N E a i = some (d, T, .slice A l.length cap, .int .i64 hi, .int .i64 hi)) (hT : SlTy P T e k) (h : Sl k enc w fp A l) (hcap : l.length ≤ cap) (hs : slci l 0 hi = some l')
    (kk : Mx k enc U w fp [] A l'.length l' → wS P ops Q N (i + 1) ((d, .slice A l'.length l'.length) :: E) a w) : wS P ops Q N i E a w := by
  obtain ⟨⟨h0, h1, h2⟩, rfl⟩ := slci_some hs
  obtain ⟨m, rfl⟩ := Int.eq_ofNat_of_zero_le h1
  have hl : (List.drop (Int.toNat 0) (List.take (Int.toNat (m : Int)) l)) = l.take m := by simp
  rw [hl] at kk
  have hlen : (l.take m).length = m := by simp; omega
  have hM := kk ⟨h.low, Or.inl ⟨rfl, rfl, h.front m⟩⟩
  rw [hlen] at hM
  unfold slc3I at ho
  split at ho
  · rename_i d' T' x hi' mx' hat
    simp only [Option.some.injEq, Prod.mk.injEq] at ho
    obtain ⟨rfl, rfl, hx, hh', hm'⟩ := ho
    obtain ⟨g1, g2, g3⟩ := atI_spec hat
    have hsz := pureRun_run hT.size w
    have hmc : m ≤ cap := by omega
    have hb1 : (Instr.sliceBounds true l.length cap none (some (.int .i64 (m : Int))) (some (.int .i64 (m : Int)))).run P w = .ok (0, m, m) w := by
      simp [Instr.sliceBounds, Instr.sliceBound, asIntOf, hmc, Nat.not_lt.2 hmc]
    have hA : (if m = 0 then A else A.map fun x => x.add 0) = A := by
      have : (A.map fun x : Addr => x.add 0) = A := by cases A <;> simp [Addr.add]
      rw [this]; split <;> rfl
    refine wS_val (v := .slice A m m) g1 g2 (g3 _ rfl) (fun o ho => ?_) hM
    simp only [execOp, ho]
    simp [Instr.sliceAt, run_underlying hT.und, hx, hh', hm', Instr.slice, hb1, hsz, hA]
  · cases ho
theorem wS_appendMx {d t T : Nat} {z : Value} {A A2 : Option Addr} {cap cap2 : Nat} {l l2 : List α} {fpP fp fp2 : List Nat} (ho : appI ops N E a i = some (d, t, .slice A l.length cap, .slice A2 l2.length cap2))
    (hT : ElTy P t T k z) (he : EncOk k enc) (h1 : Mx k enc T w fpP fp A cap l) (h2 : Sl k enc w fp2 A2 l2) (h20 : 0 < l2.length) (hlim : l.length + l2.length ≤ lim)
    (kk : ∀ w' fp' A' cap', Mx k enc T w' fpP fp' A' cap' (l ++ l2) → Chg fp w w' → Ap w.heap.size fp fp' → wS P ops Q N (i + 1) ((d, .slice A' (l ++ l2).length cap') :: E) a w') : wS P ops Q N i E a w := by
  rcases h1.is with ⟨rfl, hc, h3⟩ | h3
  · refine wS_appendFull ho hT he h3 hc h2 h20 hlim (fun w' fp' A' cap' g1 g2 g3 => kk w' fp' A' cap' ⟨fun b hb => Nat.lt_of_lt_of_le (h1.lowP b hb) g2.size, Or.inr g1⟩ g2 (fun b hb => Or.inr (g3 b hb)))
  · exact wS_appendAny ho hT he h3 h2 hlim (fun w' fp' A' cap' g1 g2 g3 => kk w' fp' A' cap' ⟨fun b hb => Nat.lt_of_lt_of_le (h1.lowP b hb) g2.size, Or.inr g1⟩ g2 g3)
end
end Go.Proofs.YtbfjekmefcpkmaaDoor
