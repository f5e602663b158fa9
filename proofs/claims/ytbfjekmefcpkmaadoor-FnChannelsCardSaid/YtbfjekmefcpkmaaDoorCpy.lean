/- copy into a slice of the call's own; slices of the call's own that are cut from the front (queues). -/
import Derived.Test.YtbfjekmefcpkmaaDoorApp
import Derived.ArgAppend
set_option linter.unusedSimpArgs false
set_option linter.unusedVariables false
set_option linter.unusedSectionVars false
namespace Go.Proofs.YtbfjekmefcpkmaaDoor
open Go.RowKit

def copyI (ops : Array Oper) (N : Nat) (E : Env) (a : Act) (i : Nat) : Option (Nat × TypeId × Value × Value) :=
 match atI ops N E a i with
 | some (some d, .call c) => match c.callee, c.args.toList, c.argTypes.toList with
  | .builtin .copy, [s, x], [t, t'] => bif Nat.beq t t' then some (d, t, evE E a s, evE E a x) else none
  | _, _, _ => none
 | _ => none
theorem hA0 (A : Option Addr) (cap k : Nat) : A = if cap = Int.toNat 0 then A else A.map (·.add (Int.toNat 0 * k)) := by
 split
 ·rfl
 ·cases A with
  | none => rfl
  | some ad => simp [Addr.add]
theorem slci_lo {α : Type} {l l' : List α} {lo hi : Int} (h : slci l lo hi = some l') : lo.toNat ≤ l.length := by
 have := (slci_some h).1
 omega
def cpy {α : Type} (l : List α) (lo : Int) (l2 : List α) : List α := l.take lo.toNat ++ l2.take (l.length - lo.toNat) ++ l.drop (lo.toNat + l2.length)
theorem cpy_len {α : Type} (l : List α) (lo : Int) (l2 : List α) (h : lo.toNat ≤ l.length) : (cpy l lo l2).length = l.length := by
 unfold cpy; simp only [List.length_append, List.length_take, List.length_drop]; omega
theorem cpy_nil {α : Type} (l : List α) (lo : Int) (l2 : List α) (h : l2 = [] ∨ l.length ≤ lo.toNat) : cpy l lo l2 = l := by
 unfold cpy
 rcases h with rfl | h
 ·simp
 ·rw [List.take_of_length_le h, show l.length - lo.toNat = 0 by omega, List.drop_eq_nil_of_le (by omega)]; simp
section
variable {P : Program} {ops : Array Oper} {Q : Exit → Act → World → Prop} {N i : Nat} {E : Env} {a : Act} {w : World} {α : Type} {k : Nat} {enc : α → List Value}
theorem copyI_spec {d t : Nat} {s x : Value} (ho : copyI ops N E a i = some (d, t, s, x)) : ∃ c : Call, atI ops N E a i = some (some d, .call c) ∧ c.callee = .builtin .copy ∧ c.argTypes = #[t, t] ∧ c.args.map (evE E a) = #[s, x] := by
 unfold copyI at ho
 split at ho
 ·rename_i d' c hat
  split at ho
  ·rename_i s' x' t1 t2 hcal hargs htys
   cases hb : Nat.beq t1 t2 with
   | false => rw [hb] at ho; cases ho
   | true =>
    rw [hb] at ho
    simp only [cond_true, Option.some.injEq, Prod.mk.injEq] at ho
    obtain ⟨rfl, rfl, hs, hx⟩ := ho
    have := Nat.eq_of_beq_eq_true hb
    subst this
    refine ⟨c, hat, hcal, ?_, ?_⟩
    ·rw [← Array.toArray_toList (xs := c.argTypes), htys]
    ·rw [← Array.toArray_toList (xs := c.args), hargs]; simp [hs, hx]
  ·cases ho
 ·cases ho
theorem read_first {fp2 : List Nat} {A2 : Option Addr} {l2 : List α} {cap2 m : Nat} (he : EncOk k enc) (h2 : Sl k enc w fp2 A2 l2) (hm : m ≤ l2.length) : (Builtin.firstCells k m (.slice A2 l2.length cap2)).run P w = .ok ((l2.take m).flatMap enc).toArray w := by
 cases A2 with
 | none =>
  have : l2 = [] := by
   cases l2 with
   | nil => rfl
   | cons x r => obtain ⟨_, e, _⟩ := h2.cells (by simp); cases e
  subst this
  simp [Builtin.firstCells]
 | some ad2 =>
  refine run_firstCells_some w k m ad2 l2.length cap2 _ (by rw [flatMap_length he, List.length_take, Nat.min_eq_left hm]) (fun j u hu => ?_)
  have hk := he.pos
  have hlt : j < (l2.take m).length * k := by have := (List.getElem?_eq_some_iff.1 hu).1; rwa [flatMap_length he] at this
  have hl2 : 0 < l2.length := by
   rcases Nat.eq_zero_or_pos l2.length with h0 | h0
   ·rw [List.length_take, h0] at hlt; simp at hlt
   ·exact h0
  obtain ⟨ad, hA, _, hc⟩ := h2.cells hl2
  simp only [Option.some.injEq] at hA
  subst hA
  have hdiv : j / k < (l2.take m).length := by rw [Nat.div_lt_iff_lt_mul hk]; exact hlt
  have hmod : j % k < k := Nat.mod_lt _ hk
  have hj : j / k * k + j % k = j := by rw [Nat.mul_comm]; exact Nat.div_add_mod j k
  have hx : (l2.take m)[j / k]? = some (l2.take m)[j / k] := List.getElem?_eq_getElem hdiv
  have hg := flatMap_get he hmod (l2.take m) (j / k) _ hx
  rw [hj, hu] at hg
  have hx2 : l2[j / k]? = some (l2.take m)[j / k] := by
   rw [← hx, List.getElem?_take, if_pos (by rw [List.length_take] at hdiv; omega)]
  have := hc (j / k) _ hx2 (j % k) u hg.symm
  rwa [add_add', hj] at this
theorem wS_copy {d t T cap c' c2 nn : Nat} {z : Value} {A A' A2 : Option Addr} {l l2 : List α} {fp fp2 : List Nat} {lo : Int} (ho : copyI ops N E a i = some (d, t, .slice A' nn c', .slice A2 l2.length c2)) (hnn : nn = l.length - lo.toNat)
  (hT : ElTy P t T k z) (he : EncOk k enc) (hO : Ow k enc T w fp A cap l) (hA : A' = if cap = lo.toNat then A else A.map (·.add (lo.toNat * k))) (h0 : lo.toNat ≤ l.length) (h2 : Sl k enc w fp2 A2 l2)
  (kk : ∀ w', Ow k enc T w' fp A cap (cpy l lo l2) → (cpy l lo l2).length = l.length → Chg fp w w' → wS P ops Q N (i + 1) ((d, .int .i64 ((min l2.length (l.length - lo.toNat) : Nat) : Int)) :: E) a w') : wS P ops Q N i E a w := by
 subst hnn
 obtain ⟨c, hat, hcal, hty, hargs⟩ := copyI_spec ho
 obtain ⟨g1, g2, g3⟩ := atI_spec hat
 obtain ⟨inf, hi, hz, hs, hb⟩ := hT.info
 have hsz : ∀ w0 : World, (sizeOf T).run P w0 = .ok k w0 := fun w0 => by simp [sizeOf, typeInfo, hi, hs]
 have hcl := cpy_len l lo l2 h0
 generalize hm : min l2.length (l.length - lo.toNat) = m at kk
 have hmm : Nat.min l2.length (l.length - lo.toNat) = m := hm
 have hrd := read_first (P := P) (cap2 := c2) he h2 (show m ≤ l2.length by omega)
 have stay : m = 0 → (∀ ty, (Builtin.copy_ #[t, t] ty #[.slice A' (l.length - lo.toNat) c', .slice A2 l2.length c2]).run P w = .ok (.int .i64 (m : Int)) w) → wS P ops Q N i E a w := by
  intro hm0 hrun
  have e : cpy l lo l2 = l := cpy_nil l lo l2 (by
   rcases Nat.eq_zero_or_pos l2.length with h | h
   ·exact Or.inl (List.length_eq_zero_iff.1 h)
   ·exact Or.inr (by omega))
  refine wS_val g1 g2 (g3 _ rfl) (fun o ho => ?_) (kk w (by rw [e]; exact hO) hcl (Chg.refl _ _))
  simp only [execOp, ho, resolve, hcal]
  simp [invoke, builtin, hargs, hty, hrun]
 cases hA2 : A' with
 | none =>
  refine stay ?_ (fun ty => ?_)
  ·rcases hO.is with ⟨_, rfl, _, _⟩ | ⟨g, cs, rfl, rfl, hC, hcs, hlc, hmx, ht⟩
   ·simp at hm; omega
   ·rw [hA2] at hA
    split at hA
    ·cases hA
    ·simp at hA
  ·rw [hA2]
   simp [Builtin.copy_, run_underlying hT.und, Builtin.lenOf, hmm, hsz, hrd, goInt]
 | some ad' =>
  by_cases hm0 : m = 0
  ·refine stay hm0 (fun ty => ?_)
   subst hm0
   rw [hA2]
   simp only [List.take_zero, List.flatMap_nil] at hrd
   simp [Builtin.copy_, run_underlying hT.und, Builtin.lenOf, hmm, hsz, hrd, goInt, storeCells]
  ·rcases hO.is with ⟨_, rfl, _, _⟩ | ⟨g, cs, rfl, rfl, hC, hcs, hlc, hmx, ht⟩
   ·simp at hm; omega
   ·rw [if_neg (by omega)] at hA
    have hadd : (⟨g, 0, none⟩ : Addr).add (lo.toNat * k) = ⟨g, lo.toNat * k, none⟩ := by
     unfold Addr.add; split
     ·rename_i e; rw [e]
     ·simp
    simp only [Option.map_some, hadd] at hA
    have hk := he.pos
    have hvl : ((l2.take m).flatMap enc).length = m * k := by rw [flatMap_length he, List.length_take]; congr 1; omega
    have hle : l.length * k ≤ cs.length := by rw [hcs]; exact Nat.mul_le_mul_right k hlc
    have hsum : lo.toNat * k + m * k ≤ l.length * k := by rw [← Nat.add_mul]; exact Nat.mul_le_mul_right k (by omega)
    have hone : ∀ u ∈ (l2.take m).flatMap enc, u.oneCell' = true := fun u hu => by obtain ⟨y, _, hy⟩ := List.mem_flatMap.1 hu; exact he.one y u hy
    have hrun := run_storeCells_at P g (lo.toNat * k) T ((l2.take m).flatMap enc) 0 cs.toArray w hC (by simp only [Nat.add_zero, List.size_toArray]; rw [hvl]; omega) hone
    simp only [Nat.add_zero, List.toList_toArray] at hrun
    have hO' : Ow k enc T (w.setRow g (setL cs (lo.toNat * k) ((l2.take m).flatMap enc)).toArray) [g] (some ⟨g, 0, none⟩) cap (cpy l lo l2) := by
     refine ⟨Or.inr ⟨g, _, rfl, rfl, setRow_heap w g cs.toArray _ T (0, 0) hC, by rw [length_setL (by rw [hvl]; omega)]; exact hcs, by rw [hcl]; exact hlc, hmx, ?_⟩⟩
     have e2 : (cs.take (lo.toNat * k)) = (l.take lo.toNat).flatMap enc := by
      rw [← take_flatMap he, ← ht, List.take_take]; congr 1; rw [Nat.min_eq_left (Nat.mul_le_mul_right k h0)]
     have e3 : (cs.drop (lo.toNat * k + m * k)).take (l.length * k - (lo.toNat * k + m * k)) = (l.drop (lo.toNat + m)).flatMap enc := by
      have : (l.flatMap enc).drop ((lo.toNat + m) * k) = (l.drop (lo.toNat + m)).flatMap enc := by
       have h1 : l.flatMap enc = (l.take (lo.toNat + m)).flatMap enc ++ (l.drop (lo.toNat + m)).flatMap enc := by rw [← List.flatMap_append, List.take_append_drop]
       rw [h1, List.drop_left' (by rw [flatMap_length he, List.length_take, Nat.min_eq_left (by omega)])]
      rw [← this, ← ht, List.drop_take, Nat.add_mul]
     have e4 : cpy l lo l2 = l.take lo.toNat ++ l2.take m ++ l.drop (lo.toNat + m) := by
      unfold cpy
      by_cases hcase : l2.length ≤ l.length - lo.toNat
      ·have : m = l2.length := by omega
       subst this
       rw [List.take_of_length_le (show l2.length ≤ l.length - lo.toNat from hcase), List.take_of_length_le (Nat.le_refl _)]
      ·have : m = l.length - lo.toNat := by omega
       subst this
       rw [List.drop_eq_nil_of_le (show l.length ≤ lo.toNat + l2.length by omega), List.drop_eq_nil_of_le (show l.length ≤ lo.toNat + (l.length - lo.toNat) by omega)]
     rw [hcl, e4, List.flatMap_append, List.flatMap_append]
     unfold setL
     rw [e2, hvl]
     have hq : (l.take lo.toNat).flatMap enc ++ (l2.take m).flatMap enc ++ cs.drop (lo.toNat * k + m * k) = (l.take lo.toNat).flatMap enc ++ ((l2.take m).flatMap enc ++ cs.drop (lo.toNat * k + m * k)) := by rw [List.append_assoc]
     have hL1 : ((l.take lo.toNat).flatMap enc ++ (l2.take m).flatMap enc).length = lo.toNat * k + m * k := by
      rw [List.length_append, hvl, flatMap_length he, List.length_take, Nat.min_eq_left h0]
     rw [List.take_append, hL1, e3, List.take_of_length_le (by rw [hL1]; exact hsum)]
    refine wS_val g1 g2 (g3 _ rfl) (fun o ho => ?_) (kk _ hO' hcl ⟨rfl, rfl, rfl, by simp [World.setRow], fun k _ hk => setRow_other w g k _ (fun e => hk (by simp [e])), by simp [World.setRow]⟩)
    have hrun2 : ∀ ty, (Builtin.copy_ #[t, t] ty #[.slice A' (l.length - lo.toNat) c', .slice A2 l2.length c2]).run P w = .ok (.int .i64 (m : Int)) (w.setRow g (setL cs (lo.toNat * k) ((l2.take m).flatMap enc)).toArray) := fun ty => by
     rw [hA]
     have hrun' : (storeCells ⟨g, lo.toNat * k, none⟩ ((l2.take m).flatMap enc)).run P w = .ok () (w.setRow g (setL cs (lo.toNat * k) ((l2.take m).flatMap enc)).toArray) := hrun
     simp [Builtin.copy_, run_underlying hT.und, Builtin.lenOf, hmm, hsz, hrd, goInt, hrun']
    simp only [execOp, ho, resolve, hcal]
    simp [invoke, builtin, hargs, hty, hrun2]
/-! ### Queues -/
structure OwO {α : Type} (k : Nat) (enc : α → List Value) (T : TypeId) (w : World) (fp : List Nat) (A : Option Addr) (cap : Nat) (l : List α) : Prop where
 is : (A = none ∧ l = [] ∧ cap = 0 ∧ fp = []) ∨ ∃ g o cs, A = some ⟨g, o, none⟩ ∧ fp = [g] ∧ Cl w g T cs ∧ o + cap * k ≤ cs.length ∧ l.length ≤ cap ∧ cap ≤ maxLen ∧ (cs.drop o).take (l.length * k) = l.flatMap enc
theorem Ow.off {T : TypeId} {fp : List Nat} {A : Option Addr} {cap : Nat} {l : List α} (h : Ow k enc T w fp A cap l) : OwO k enc T w fp A cap l := by
 rcases h.is with h0 | ⟨g, cs, hA, hfp, hC, hcs, hlc, hm, ht⟩
 ·exact ⟨Or.inl h0⟩
 ·exact ⟨Or.inr ⟨g, 0, cs, hA, hfp, hC, by omega, hlc, hm, by simpa using ht⟩⟩
theorem OwO.low {T : TypeId} {fp : List Nat} {A : Option Addr} {cap : Nat} {l : List α} (h : OwO k enc T w fp A cap l) : ∀ b ∈ fp, b < w.heap.size := by
 rcases h.is with ⟨_, _, _, rfl⟩ | ⟨g, o, cs, _, rfl, hC, _⟩
 ·simp
 ·intro b hb; simp only [List.mem_singleton] at hb; subst hb; exact hC.lt
theorem OwO.cap_le {T : TypeId} {fp : List Nat} {A : Option Addr} {cap : Nat} {l : List α} (h : OwO k enc T w fp A cap l) : l.length ≤ cap := by
 rcases h.is with ⟨_, rfl, _, _⟩ | ⟨g, o, cs, _, _, _, _, h, _⟩
 ·simp
 ·exact h
theorem OwO.chg {T : TypeId} {fp S : List Nat} {A : Option Addr} {cap : Nat} {l : List α} {w' : World} (h : OwO k enc T w fp A cap l) (hc : Chg S w w') (hn : Dj fp S) : OwO k enc T w' fp A cap l := by
 rcases h.is with h0 | ⟨g, o, cs, hA, rfl, hC, rest⟩
 ·exact ⟨Or.inl h0⟩
 ·exact ⟨Or.inr ⟨g, o, cs, hA, rfl, hC.chg hc (hn g (by simp)), rest⟩⟩
theorem OwO.sl {T : TypeId} {fp : List Nat} {A : Option Addr} {cap : Nat} {l : List α} (h : OwO k enc T w fp A cap l) (he : EncOk k enc) : Sl k enc w fp A l := by
 refine ⟨h.low, fun hl => ?_⟩
 rcases h.is with ⟨_, rfl, _, _⟩ | ⟨g, o, cs, rfl, rfl, hC, hcs, hlc, _, ht⟩
 ·simp at hl
 ·refine ⟨_, rfl, by simp, fun i x hx j u hu => ?_⟩
  obtain ⟨hi, _⟩ := List.getElem?_eq_some_iff.1 hx
  obtain ⟨hj, _⟩ := List.getElem?_eq_some_iff.1 hu
  rw [he.len] at hj
  have hadd : ((⟨g, o, none⟩ : Addr).add (i * k)).add j = ⟨g, o + (i * k + j), none⟩ := by
   rw [add_add']; unfold Addr.add; split
   ·rename_i e; rw [e]; rfl
   ·rfl
  have hlt : i * k + j < l.length * k := by
   have : (i + 1) * k ≤ l.length * k := Nat.mul_le_mul_right k hi
   rw [Nat.add_mul] at this; omega
  rw [hadd, hC.cell, ← hu, ← flatMap_get he hj l i x hx, ← ht, List.getElem?_take, if_pos hlt, List.getElem?_drop]
theorem wS_appendO {d t T : Nat} {z : Value} {A A2 : Option Addr} {cap cap2 : Nat} {l l2 : List α} {fp fp2 : List Nat} (ho : appI ops N E a i = some (d, t, .slice A l.length cap, .slice A2 l2.length cap2))
  (hT : ElTy P t T k z) (he : EncOk k enc) (h1 : OwO k enc T w fp A cap l) (h2 : Sl k enc w fp2 A2 l2) (hlim : l.length + l2.length ≤ lim)
  (kk : ∀ w' fp' A' cap', OwO k enc T w' fp' A' cap' (l ++ l2) → Chg fp w w' → Ap w.heap.size fp fp' → wS P ops Q N (i + 1) ((d, .slice A' (l ++ l2).length cap') :: E) a w') : wS P ops Q N i E a w := by
 rcases h1.is with ⟨rfl, rfl, rfl, rfl⟩ | ⟨g, o, cs, rfl, rfl, hC, hcs, hlc, hm, ht⟩
 ·exact wS_appendAny ho hT he (Ow.nil w) h2 hlim (fun w' fp' A' cap' hO hc hap => kk w' fp' A' cap' hO.off hc hap)
 ·obtain ⟨c, hat, hcal, hty, hargs⟩ := appI_spec ho
  obtain ⟨g1, g2, g3⟩ := atI_spec hat
  obtain ⟨inf, hi, hz, hs, hb⟩ := hT.info
  have hsz : (sizeOf T).run P w = .ok k w := by simp [sizeOf, typeInfo, hi, hs]
  have hrd := read_first (P := P) (cap2 := cap2) he h2 (Nat.le_refl l2.length)
  rw [List.take_of_length_le (Nat.le_refl _)] at hrd
  have hvl : (l2.flatMap enc).length = l2.length * k := flatMap_length he l2
  have hone : ∀ u ∈ l2.flatMap enc, u.oneCell' = true := fun u hu => by obtain ⟨y, _, hy⟩ := List.mem_flatMap.1 hu; exact he.one y u hy
  by_cases hroom : l.length + l2.length ≤ cap
  ·have hfit : o + l.length * k + (l2.flatMap enc).length ≤ cs.length := by
    rw [hvl]
    have : (l.length + l2.length) * k ≤ cap * k := Nat.mul_le_mul_right k hroom
    rw [Nat.add_mul] at this; omega
   have hrun := run_storeCells_at P g (o + l.length * k) T (l2.flatMap enc) 0 cs.toArray w hC (by simpa using hfit) hone
   simp only [Nat.add_zero, List.toList_toArray] at hrun
   have hst : (storeCells ⟨g, o + l.length * k, none⟩ (l2.flatMap enc)).run P w = .ok () (w.setRow g (setL cs (o + l.length * k) (l2.flatMap enc)).toArray) := hrun
   have hO' : OwO k enc T (w.setRow g (setL cs (o + l.length * k) (l2.flatMap enc)).toArray) [g] (some ⟨g, o, none⟩) cap (l ++ l2) := by
    refine ⟨Or.inr ⟨g, o, _, rfl, rfl, setRow_heap w g cs.toArray _ T (0, 0) hC, by rw [length_setL hfit]; exact hcs, by rw [List.length_append]; exact hroom, hm, ?_⟩⟩
    unfold setL
    have e1 : (cs.take (o + l.length * k)).length = o + l.length * k := by rw [List.length_take]; omega
    have e2 : (cs.take (o + l.length * k)).drop o = l.flatMap enc := by rw [← ht, List.drop_take]; congr 1; omega
    rw [List.append_assoc, List.drop_append_of_le_length (by rw [e1]; omega), e2, ← List.append_assoc, ← List.flatMap_append, List.take_append_of_le_length (by rw [flatMap_length he]; exact Nat.le_refl _), List.take_of_length_le (by rw [flatMap_length he]; exact Nat.le_refl _)]
   have hrun2 : ∀ ty, (Builtin.append_ #[t, t] ty #[.slice (some ⟨g, o, none⟩) l.length cap, .slice A2 l2.length cap2]).run P w = .ok (.slice (some ⟨g, o, none⟩) (l ++ l2).length cap) (w.setRow g (setL cs (o + l.length * k) (l2.flatMap enc)).toArray) := fun ty => by
    have hadd : (⟨g, o, none⟩ : Addr).add (l.length * k) = ⟨g, o + l.length * k, none⟩ := by
     unfold Addr.add; split
     ·rename_i e; rw [e]; rfl
     ·rfl
    simp [Builtin.append_, run_underlying hT.und, Builtin.lenOf, hroom, hrd, hsz, hadd, hst]
   refine wS_val g1 g2 (g3 _ rfl) (fun o' ho' => ?_) (kk _ _ _ _ hO' ⟨rfl, rfl, rfl, by simp [World.setRow], fun k _ hk => setRow_other w g k _ (fun e => hk (by simp [e])), by simp [World.setRow]⟩ (fun b hb => Or.inl hb))
   simp only [execOp, ho', resolve, hcal]
   simp [invoke, builtin, hargs, hty, hrun2]
  ·cases A2 with
   | none =>
    have : l2 = [] := by
     cases l2 with
     | nil => rfl
     | cons x r => obtain ⟨_, e, _⟩ := h2.cells (by simp); cases e
    subst this
    simp at hroom; omega
   | some ad2 =>
    have hsl := h1.sl he
    have flat : ∀ {l : List α} {ad : Addr}, (∀ i x, l[i]? = some x → ∀ j u, (enc x)[j]? = some u → w.cell? ((ad.add (i * k)).add j) = some u) → ∀ j u, (l.flatMap enc)[j]? = some u → w.cell? (ad.add j) = some u := by
     intro l ad hc j u hu
     have hlt : j < l.length * k := by have := (List.getElem?_eq_some_iff.1 hu).1; rwa [flatMap_length he] at this
     have hk := he.pos
     have hdiv : j / k < l.length := by rw [Nat.div_lt_iff_lt_mul hk]; exact hlt
     have hmod : j % k < k := Nat.mod_lt _ hk
     have hj : j / k * k + j % k = j := by rw [Nat.mul_comm]; exact Nat.div_add_mod j k
     have hx : l[j / k]? = some l[j / k] := List.getElem?_eq_getElem hdiv
     have hg := flatMap_get he hmod l (j / k) _ hx
     rw [hj, hu] at hg
     have := hc (j / k) _ hx (j % k) u hg.symm
     rwa [add_add', hj] at this
    have getc : ∀ {fpx : List Nat} {ad : Addr} {l : List α}, Sl k enc w fpx (some ad) l → ∀ j u, (l.flatMap enc)[j]? = some u → w.cell? (ad.add j) = some u := by
     intro fpx ad l h
     by_cases hl0 : 0 < l.length
     ·obtain ⟨ad', hA, _, hc⟩ := h.cells hl0
      simp only [Option.some.injEq] at hA
      subst hA
      exact flat hc
     ·have : l = [] := List.length_eq_zero_iff.1 (by omega)
      subst this
      intro j u hu; simp at hu
    have hb2 : (l.length + l2.length) * inf.bytes ≤ 140737488355328 := by
     unfold lim at hlim
     calc (l.length + l2.length) * inf.bytes ≤ (l.length + l2.length) * 128 := Nat.mul_le_mul_left _ hb
      _ ≤ 140737488355328 := by omega
    have hb1 : l.length + l2.length ≤ maxLen := by unfold lim at hlim; unfold maxLen; omega
    have hg : cap < l.length + l2.length := by omega
    obtain ⟨v', w', hrun, hown, hgrow⟩ := run_append_arg_grows (P := P) w t c.argTypes.size T inf z k inf.bytes hT.und hi hz hs rfl hT.cells he.pos ⟨g, o, none⟩ l.length cap (l.flatMap enc) (flatMap_length he l) (getc hsl) ad2 l2.length cap2 (l2.flatMap enc)
     (flatMap_length he l2) (getc h2) hg hb1 hb2
    have hdr : w.drawn ≤ w'.drawn := by
     have hr := run_append_grow (P := P) w t c.argTypes.size T inf z hT.und hi hz ⟨g, o, none⟩ l.length cap (l.flatMap enc) (by rw [hs]; exact flatMap_length he l) (getc hsl) ad2 l2.length cap2 (l2.flatMap enc)
      (by rw [hs]; exact flatMap_length he l2) (getc h2) hg (by unfold lim at hlim; omega) (growslice_fits hg hb2)
     rw [hr] at hrun
     simp only [Result.ok.injEq] at hrun
     rw [← hrun.2]; exact Nat.le_succ _
    rw [← List.flatMap_append, ← List.length_append] at hown
    have hlow := World.ownsRow.lt hown
    have hown0 : w'.ownsRow 0 T k v' (l ++ l2).length ((l ++ l2).flatMap enc) := ⟨hown.1, hown.2.imp id fun ⟨g, cap, cur, h1, _, h3⟩ => ⟨g, cap, cur, h1, Nat.zero_le _, h3⟩⟩
    obtain ⟨A', cap', fp', rfl, hfp, hOw⟩ := Ow.ofRow (n := 0) he hown0
    refine wS_val g1 g2 (g3 _ rfl) (fun o ho => ?_) (kk w' fp' A' cap' hOw.off ((Chg.grown hgrow hdr).more (fun x hx => nomatch hx)) (fun x hx => ?_))
    ·have hrun' : ∀ ty, (Builtin.append_ #[t, t] ty #[.slice (some ⟨g, _, none⟩) l.length cap, .slice (some ad2) l2.length cap2]).run P w = .ok (.slice A' (l ++ l2).length cap') w' := fun ty => hrun
     simp only [execOp, ho, resolve, hcal]
     simp [invoke, builtin, hargs, hty, hrun']
    ·rw [hfp] at hx
     exact Or.inr (hlow x (by simpa using hx)).1
theorem wS_cutO {d T e U cap : Nat} {A : Option Addr} {l l' : List α} {fp : List Nat} {lo : Int} (ho : slcI ops N E a i = some (d, T, .slice A l.length cap, some (.int .i64 lo), none)) (hT : SlTy P T e k) (he : EncOk k enc) (hO : OwO k enc U w fp A cap l) (hs : slci l lo l.length = some l')
  (kk : ∀ A' c', OwO k enc U w fp A' c' (l.drop lo.toNat) → wS P ops Q N (i + 1) ((d, .slice A' (l.drop lo.toNat).length c') :: E) a w) : wS P ops Q N i E a w := by
 have hcap := hO.cap_le
 obtain ⟨⟨h0, h1, h2⟩, rfl⟩ := slci_some hs
 unfold slcI at ho
 split at ho
 ·rename_i d' T' x lo' hi' hat
  simp only [Option.some.injEq, Prod.mk.injEq] at ho
  obtain ⟨rfl, rfl, hx, hl', hh'⟩ := ho
  obtain ⟨g1, g2, g3⟩ := atI_spec hat
  obtain ⟨lo, rfl⟩ := Int.eq_ofNat_of_zero_le h0
  simp only [Int.toNat_natCast] at kk
  have hlo : lo ≤ l.length := by omega
  have hlen : (l.drop lo).length = l.length - lo := by simp
  have hO' : OwO k enc U w fp (if cap = lo then A else A.map (·.add (lo * k))) (cap - lo) (l.drop lo) := by
   rcases hO.is with ⟨rfl, rfl, rfl, rfl⟩ | ⟨g, o, cs, rfl, rfl, hC, hcs, hlc, hm, ht⟩
   ·refine ⟨Or.inl ⟨by split <;> rfl, by simp, by omega, rfl⟩⟩
   ·by_cases hc : cap = lo
    ·rw [if_pos hc]
     refine ⟨Or.inr ⟨g, o, cs, rfl, rfl, hC, ?_, by rw [hlen]; omega, by omega, ?_⟩⟩
     ·rw [show cap - lo = 0 by omega]; simp; have := Nat.zero_le (cap * k); omega
     ·have hnil : l.drop lo = [] := List.drop_eq_nil_of_le (by omega)
      rw [hlen, hnil, show l.length - lo = 0 by omega]; simp
    ·rw [if_neg hc]
     have hadd : (⟨g, o, none⟩ : Addr).add (lo * k) = ⟨g, o + lo * k, none⟩ := by
      unfold Addr.add; split
      ·rename_i e; rw [e]; rfl
      ·rfl
     simp only [Option.map_some, hadd]
     have hsum : lo * k + (cap - lo) * k = cap * k := by rw [← Nat.add_mul]; congr 1; omega
     have hsum2 : lo * k + (l.length - lo) * k = l.length * k := by rw [← Nat.add_mul]; congr 1; omega
     refine ⟨Or.inr ⟨g, o + lo * k, cs, rfl, rfl, hC, by omega, by rw [hlen]; omega, by omega, ?_⟩⟩
     have h3 : l.flatMap enc = (l.take lo).flatMap enc ++ (l.drop lo).flatMap enc := by rw [← List.flatMap_append, List.take_append_drop]
     have h4 : (l.flatMap enc).drop (lo * k) = (l.drop lo).flatMap enc := by
      rw [h3, List.drop_left' (by rw [flatMap_length he, List.length_take, Nat.min_eq_left hlo])]
     rw [← h4, ← ht, List.drop_take, List.drop_drop, hlen]
     congr 1; omega
  have hkk := kk _ _ hO'
  rw [hlen] at hkk
  refine wS_val g1 g2 (g3 _ rfl) (fun o ho => ?_) hkk
  have hsz := pureRun_run hT.size w
  have hb1 : (Instr.sliceBounds true l.length cap (some (.int .i64 (lo : Int))) none none).run P w = .ok (lo, l.length, cap) w := by
   have hlh : (lo : Int) ≤ l.length := by omega
   simp [Instr.sliceBounds, Instr.sliceBound, asIntOf, hlo, Nat.not_lt.2 hlo]
  simp only [execOp, ho]
  simp [Instr.sliceAt, run_underlying hT.und, hx, hl', hh', Instr.slice, hb1, hsz]
 ·cases ho
end
theorem slci_len_end {α : Type} {l l' : List α} {lo : Int} (h : slci l lo l.length = some l') : l'.length = l.length - lo.toNat := by
 obtain ⟨_, rfl⟩ := slci_some h
 simp
section
variable {α : Type} {k : Nat} {enc : α → List Value} {P : Program} {ops : Array Oper} {Q : Exit → Act → World → Prop} {N i : Nat} {E : Env} {a : Act} {w ws : World} {Sg dn : List Nat}
theorem wH_cutA {d T e n cap : Nat} {A : Option Addr} {l l' : List α} {fp : List Nat} {vlo vhi : Option Value} {lo hi : Int} (hns : Region.noSelect ops = true) (hQ : QCalm Q) (hf : freeB ops dn i = true) (ho : slcI ops N E a i = some (d, T, .slice A l.length cap, vlo, vhi)) (hT : SlTy P T e k)
  (hlo : vlo = some (.int .i64 lo) ∨ vlo = none ∧ lo = 0) (hhi : vhi = some (.int .i64 hi) ∨ vhi = none ∧ hi = l.length) (hcap : l.length ≤ cap) (hs : slci l lo hi = some l')
  (kk : ∀ A' c', A' = (if cap = lo.toNat then A else A.map (·.add (lo.toNat * k))) → (∀ W, Sl k enc W fp A l → Sl k enc W fp A' l') → l'.length ≤ c' → wH P ops Q Sg ws N (i :: dn) ((d, .slice A' l'.length c') :: E) a w) : wH P ops Q Sg ws N dn E a w := by
 obtain ⟨⟨h0, h1, h2⟩, rfl⟩ := slci_some hs
 unfold slcI at ho
 split at ho
 ·rename_i d' T' x lo' hi' hat
  simp only [Option.some.injEq, Prod.mk.injEq] at ho
  obtain ⟨rfl, rfl, hx, hl', hh'⟩ := ho
  obtain ⟨lo, rfl⟩ := Int.eq_ofNat_of_zero_le h0
  obtain ⟨hi, rfl⟩ := Int.eq_ofNat_of_zero_le (show 0 ≤ hi by omega)
  simp only [Int.toNat_natCast] at kk
  have hlen : ((l.take hi).drop lo).length = hi - lo := by simp; omega
  have hkk := kk _ (cap - lo) rfl (fun W h => h.cut (cap := cap) (by omega) (by omega) hcap) (by rw [hlen]; omega)
  rw [hlen] at hkk
  refine wH_val hns hQ hf hat (fun w hW o ho => ?_) hkk
  have hsz := pureRun_run hT.size w
  have hb1 : (Instr.sliceBounds true l.length cap vlo vhi none).run P w = .ok (lo, hi, cap) w := by
   have hhc : (hi : Int) ≤ cap := by omega
   have hlh : (lo : Int) ≤ hi := by omega
   have hhc' : hi ≤ cap := by omega
   have hlh' : lo ≤ hi := by omega
   rcases hlo with rfl | ⟨rfl, e⟩ <;> rcases hhi with rfl | ⟨rfl, e'⟩
   ·simp [Instr.sliceBounds, Instr.sliceBound, asIntOf, hhc', hlh']
   ·have : hi = l.length := by omega
    subst this
    simp [Instr.sliceBounds, Instr.sliceBound, asIntOf, hlh', Nat.not_lt.2 hlh']
   ·have : lo = 0 := by omega
    subst this
    simp [Instr.sliceBounds, Instr.sliceBound, asIntOf, hhc', Nat.not_lt.2 hhc']
   ·have : lo = 0 := by omega
    have : hi = l.length := by omega
    subst lo; subst this
    simp [Instr.sliceBounds]
  simp only [execOp, ho]
  simp [Instr.sliceAt, run_underlying hT.und, hx, hl', hh', Instr.slice, hb1, hsz]
 ·cases ho
end
end Go.Proofs.YtbfjekmefcpkmaaDoor
