/- A cut of a slice, taken first in a region that draws its order. -/
import Derived.Test.YtbfjekmefcpkmaaDoorMap
set_option linter.unusedSimpArgs false
set_option linter.unusedVariables false
set_option linter.unusedSectionVars false
namespace Go.Proofs.YtbfjekmefcpkmaaDoor
open Go.RowKit
section
variable {α : Type} {k : Nat} {enc : α → List Value} {P : Program} {ops : Array Oper} {Q : Exit → Act → World → Prop} {N i : Nat} {E : Env} {a : Act} {w ws : World} {Sg dn : List Nat}
theorem wH_slice {d T e n cap : Nat} {A : Option Addr} {l l' : List α} {fp : List Nat} {vlo vhi : Option Value} {lo hi : Int} (hns : Region.noSelect ops = true) (hQ : QCalm Q) (hf : freeB ops dn i = true) (ho : slcI ops N E a i = some (d, T, .slice A l.length cap, vlo, vhi)) (hT : SlTy P T e k)
  (hlo : vlo = some (.int .i64 lo) ∨ vlo = none ∧ lo = 0) (hhi : vhi = some (.int .i64 hi) ∨ vhi = none ∧ hi = l.length) (hcap : l.length ≤ cap) (hs : slci l lo hi = some l')
  (kk : ∀ A' c', (∀ W, Sl k enc W fp A l → Sl k enc W fp A' l') → l'.length ≤ c' → wH P ops Q Sg ws N (i :: dn) ((d, .slice A' l'.length c') :: E) a w) : wH P ops Q Sg ws N dn E a w := by
 obtain ⟨⟨h0, h1, h2⟩, rfl⟩ := slci_some hs
 unfold slcI at ho
 split at ho
 ·rename_i d' T' x lo' hi' hat
  simp only [Option.some.injEq, Prod.mk.injEq] at ho
  obtain ⟨rfl, rfl, hx, hl', hh'⟩ := ho
  obtain ⟨lo, rfl⟩ := Int.eq_ofNat_of_zero_le h0
  obtain ⟨hi, rfl⟩ := Int.eq_ofNat_of_zero_le (show 0 ≤ hi by omega)
  simp only [Int.toNat_natCast] at kk
  have hlen : ((l.take hi).drop lo).length = hi - lo := by simp; omega
  have hkk := kk _ (cap - lo) (fun W h => h.cut (cap := cap) (by omega) (by omega) hcap) (by rw [hlen]; omega)
  rw [hlen] at hkk
  refine wH_val hns hQ hf hat (fun w hW o ho => ?_) hkk
  have hsz := pureRun_run hT.size w
  have hb1 : (Instr.sliceBounds true l.length cap vlo vhi none).run P w = .ok (lo, hi, cap) w := by
   have hhc : (hi : Int) ≤ cap := by omega
   have hlh : (lo : Int) ≤ hi := by omega
   have hhc' : hi ≤ cap := by omega
   have hlh' : lo ≤ hi := by omega
   rcases hlo with rfl | ⟨rfl, e⟩ <;> rcases hhi with rfl | ⟨rfl, e'⟩
   ·simp [Instr.sliceBounds, Instr.sliceBound, asIntOf, hhc', hlh']
   ·have : hi = l.length := by omega
    subst this
    simp [Instr.sliceBounds, Instr.sliceBound, asIntOf, hlh', Nat.not_lt.2 hlh']
   ·have : lo = 0 := by omega
    subst this
    simp [Instr.sliceBounds, Instr.sliceBound, asIntOf, hhc', Nat.not_lt.2 hhc']
   ·have : lo = 0 := by omega
    have : hi = l.length := by omega
    subst lo; subst this
    simp [Instr.sliceBounds]
  simp only [execOp, ho]
  simp [Instr.sliceAt, run_underlying hT.und, hx, hl', hh', Instr.slice, hb1, hsz]
 ·cases ho
end
end Go.Proofs.YtbfjekmefcpkmaaDoor
