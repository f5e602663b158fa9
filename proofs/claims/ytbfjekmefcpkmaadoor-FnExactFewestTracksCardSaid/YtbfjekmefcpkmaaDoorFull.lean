/- A slice cut to its length in capacity too, and append onto one that is full: new memory. -/
import Derived.Test.YtbfjekmefcpkmaaDoorU8
import Derived.ArgAppend
set_option linter.unusedSimpArgs false
set_option linter.unusedVariables false
set_option linter.unusedSectionVars false
namespace Go.Proofs.YtbfjekmefcpkmaaDoor
open Go.RowKit
section
variable {α : Type} {k : Nat} {enc : α → List Value} {P : Program} {ops : Array Oper} {Q : Exit → Act → World → Prop} {N i : Nat} {E : Env} {a : Act} {w : World}
def slc3I (ops : Array Oper) (N : Nat) (E : Env) (a : Act) (i : Nat) : Option (Nat × TypeId × Value × Value × Value) :=
  match atI ops N E a i with
  | some (some d, .slice t x none (some hi) (some mx)) => some (d, t, evE E a x, evE E a hi, evE E a mx)
  | _ => none
theorem wS_slice3 {d T e n cap : Nat} {A : Option Addr} (ho : slc3I ops N E a i = some (d, T, .slice A n cap, .int .i64 n, .int .i64 n)) (hT : SlTy P T e k) (hcap : n ≤ cap)
    (kk : wS P ops Q N (i + 1) ((d, .slice A n n) :: E) a w) : wS P ops Q N i E a w := by
  unfold slc3I at ho
  split at ho
  · rename_i d' T' x hi' mx' hat
    simp only [Option.some.injEq, Prod.mk.injEq] at ho
    obtain ⟨rfl, rfl, hx, hh', hm'⟩ := ho
    obtain ⟨g1, g2, g3⟩ := atI_spec hat
    have hsz := pureRun_run hT.size w
    have hb1 : (Instr.sliceBounds true n cap none (some (.int .i64 n)) (some (.int .i64 n))).run P w = .ok (0, n, n) w := by
      simp [Instr.sliceBounds, Instr.sliceBound, asIntOf, hcap, Nat.not_lt.2 hcap]
    have hA : (if n = 0 then A else A.map fun x => x.add 0) = A := by
      have : (A.map fun x : Addr => x.add 0) = A := by cases A <;> simp [Addr.add]
      rw [this]; split <;> rfl
    refine wS_val (v := .slice A n n) g1 g2 (g3 _ rfl) (fun o ho => ?_) kk
    simp only [execOp, ho]
    simp [Instr.sliceAt, run_underlying hT.und, hx, hh', hm', Instr.slice, hb1, hsz, hA]
  · cases ho
/-- append of something onto a slice without room. -/
theorem wS_appendFull {d t T : Nat} {z : Value} {A A2 : Option Addr} {cap cap2 : Nat} {l l2 : List α} {fp fp2 : List Nat} (ho : appI ops N E a i = some (d, t, .slice A l.length cap, .slice A2 l2.length cap2))
    (hT : ElTy P t T k z) (he : EncOk k enc) (h1 : Sl k enc w fp A l) (hcap : cap = l.length) (h2 : Sl k enc w fp2 A2 l2) (h20 : 0 < l2.length) (hlim : l.length + l2.length ≤ lim)
    (kk : ∀ w' fp' A' cap', Ow k enc T w' fp' A' cap' (l ++ l2) → Chg [] w w' → (∀ x ∈ fp', w.heap.size ≤ x) → wS P ops Q N (i + 1) ((d, .slice A' (l ++ l2).length cap') :: E) a w') : wS P ops Q N i E a w := by
  subst hcap
  obtain ⟨c, hat, hcal, hty, hargs⟩ := appI_spec ho
  obtain ⟨g1, g2, g3⟩ := atI_spec hat
  obtain ⟨inf, hi, hz, hs, hb⟩ := hT.info
  obtain ⟨ad2, rfl, _, hc2⟩ := h2.cells h20
  have flat : ∀ {l : List α} {ad : Addr}, (∀ i x, l[i]? = some x → ∀ j u, (enc x)[j]? = some u → w.cell? ((ad.add (i * k)).add j) = some u) → ∀ j u, (l.flatMap enc)[j]? = some u → w.cell? (ad.add j) = some u := by
    intro l ad hc j u hu
    have hlt : j < l.length * k := by have := (List.getElem?_eq_some_iff.1 hu).1; rwa [flatMap_length he] at this
    have hk := he.pos
    have hdiv : j / k < l.length := by rw [Nat.div_lt_iff_lt_mul hk]; exact hlt
    have hmod : j % k < k := Nat.mod_lt _ hk
    have hj : j / k * k + j % k = j := by rw [Nat.mul_comm]; exact Nat.div_add_mod j k
    have hx : l[j / k]? = some l[j / k] := List.getElem?_eq_getElem hdiv
    have hg := flatMap_get he hmod l (j / k) _ hx
    rw [hj, hu] at hg
    have := hc (j / k) _ hx (j % k) u hg.symm
    rwa [add_add', hj] at this
  have hb2 : (l.length + l2.length) * inf.bytes ≤ 140737488355328 := by
    unfold lim at hlim
    calc (l.length + l2.length) * inf.bytes ≤ (l.length + l2.length) * 128 := Nat.mul_le_mul_left _ hb
      _ ≤ 140737488355328 := by omega
  have hb1 : l.length + l2.length ≤ maxLen := by unfold lim at hlim; unfold maxLen; omega
  have hone : ∀ u ∈ l2.flatMap enc, u.oneCell' = true := by intro u hu; obtain ⟨x, _, hx⟩ := List.mem_flatMap.1 hu; exact he.one x u hx
  have fin : ∀ v' w', (Builtin.append_ #[t, t] c.argTypes.size #[.slice A l.length l.length, .slice (some ad2) l2.length cap2]).run P w = .ok v' w' → w'.ownsRow w.heap.size T k v' (l.length + l2.length) (l.flatMap enc ++ l2.flatMap enc) → w.grownBy w' none → w.drawn ≤ w'.drawn →
      wS P ops Q N i E a w := by
    intro v' w' hrun hown hgrow hdr
    rw [← List.flatMap_append, ← List.length_append] at hown
    have hlow := World.ownsRow.lt hown
    have hown0 : w'.ownsRow 0 T k v' (l ++ l2).length ((l ++ l2).flatMap enc) := ⟨hown.1, hown.2.imp id fun ⟨g, cap, cur, h1, _, h3⟩ => ⟨g, cap, cur, h1, Nat.zero_le _, h3⟩⟩
    obtain ⟨A', cap', fp', rfl, hfp, hOw⟩ := Ow.ofRow (n := 0) he hown0
    refine wS_val g1 g2 (g3 _ rfl) (fun o ho => ?_) (kk w' fp' A' cap' hOw (Chg.grown hgrow hdr) (fun x hx => ?_))
    · have hrun' : ∀ ty, (Builtin.append_ #[t, t] ty #[.slice A l.length l.length, .slice (some ad2) l2.length cap2]).run P w = .ok (.slice A' (l ++ l2).length cap') w' := fun ty => hrun
      simp only [execOp, ho, resolve, hcal]
      simp [invoke, builtin, hargs, hty, hrun']
    · rw [hfp] at hx
      exact (hlow x (by simpa using hx)).1
  cases A with
  | none =>
    have hl0 : l = [] := by
      cases l with
      | nil => rfl
      | cons x l => obtain ⟨ad, hA, _⟩ := h1.cells (by simp); cases hA
    subst hl0
    obtain ⟨v', w', hrun, hown, hgrow, _, _, hdr⟩ := append_drawn (P := P) w w.heap.size t c.argTypes.size T inf z k inf.bytes hT.und hi hz hs rfl hT.cells he.pos (.slice none 0 0) 0 [] (World.ownsRow_nil w _ T k) ad2 l2.length cap2 (l2.flatMap enc)
      (flatMap_length he l2) (flat hc2) hone (by simpa using hb1) (by simpa using hb2) (Nat.le_refl _)
    exact fin v' w' hrun (by simpa using hown) hgrow hdr
  | some b =>
    have hold : ∀ j u, (l.flatMap enc)[j]? = some u → w.cell? (b.add j) = some u := by
      by_cases hl0 : 0 < l.length
      · obtain ⟨ad, hA, _, hc⟩ := h1.cells hl0
        simp only [Option.some.injEq] at hA
        subst hA
        exact flat hc
      · have : l = [] := List.length_eq_zero_iff.1 (by omega)
        subst this
        intro j u hu; simp at hu
    have hg : l.length < l.length + l2.length := by omega
    obtain ⟨v', w', hrun, hown, hgrow⟩ := run_append_arg_grows (P := P) w t c.argTypes.size T inf z k inf.bytes hT.und hi hz hs rfl hT.cells he.pos b l.length l.length (l.flatMap enc) (flatMap_length he l) hold ad2 l2.length cap2 (l2.flatMap enc)
      (flatMap_length he l2) (flat hc2) hg hb1 hb2
    have hdr : w.drawn ≤ w'.drawn := by
      have hr := run_append_grow (P := P) w t c.argTypes.size T inf z hT.und hi hz b l.length l.length (l.flatMap enc) (by rw [hs]; exact flatMap_length he l) hold ad2 l2.length cap2 (l2.flatMap enc)
        (by rw [hs]; exact flatMap_length he l2) (flat hc2) hg (by unfold lim at hlim; omega) (growslice_fits hg hb2)
      rw [hr] at hrun
      simp only [Result.ok.injEq] at hrun
      rw [← hrun.2]; exact Nat.le_succ _
    exact fin v' w' hrun hown hgrow hdr
end
end Go.Proofs.YtbfjekmefcpkmaaDoor
