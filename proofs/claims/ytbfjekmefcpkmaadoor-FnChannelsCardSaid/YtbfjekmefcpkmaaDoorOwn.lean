/- The engine: slices of the call's own: made, stored into, appended to, cut. -/
import Derived.Test.YtbfjekmefcpkmaaDoorOps
import Derived.Maps.AppendAt
import Derived.Laws.MakeOwn
set_option linter.unusedSimpArgs false
set_option linter.unusedVariables false
namespace Go.Proofs.YtbfjekmefcpkmaaDoor
open Go.RowKit

structure EncOk {α : Type} (k : Nat) (enc : α → List Value) : Prop where
 pos : 0 < k
 len : ∀ x, (enc x).length = k
 one : ∀ x, ∀ u ∈ enc x, u.oneCell' = true
structure Ow {α : Type} (k : Nat) (enc : α → List Value) (T : TypeId) (w : World) (fp : List Nat) (A : Option Addr) (cap : Nat) (l : List α) : Prop where
 is : (A = none ∧ l = [] ∧ cap = 0 ∧ fp = []) ∨ ∃ g cs, A = some ⟨g, 0, none⟩ ∧ fp = [g] ∧ Cl w g T cs ∧ cs.length = cap * k ∧ l.length ≤ cap ∧ cap ≤ maxLen ∧ cs.take (l.length * k) = l.flatMap enc
def Ap (n : Nat) (fp fp' : List Nat) : Prop := ∀ b ∈ fp', b ∈ fp ∨ n ≤ b
theorem Dj.ap {n : Nat} {a fp fp' : List Nat} (h : Dj a fp) (ha : ∀ b ∈ a, b < n) (hp : Ap n fp fp') : Dj a fp' := fun x hx hy => by
 rcases hp x hy with h1 | h1
 ·exact h x hx h1
 ·have := ha x hx; omega
theorem low_ap {n m : Nat} {fp fp' : List Nat} (h : ∀ b ∈ fp, n ≤ b) (hnm : n ≤ m) (hp : Ap m fp fp') : ∀ b ∈ fp', n ≤ b := fun b hb => by
 rcases hp b hb with h1 | h1
 ·exact h b h1
 ·omega
theorem setL_left {a b vs : List Value} {o : Nat} (h : o + vs.length ≤ a.length) : setL (a ++ b) o vs = setL a o vs ++ b := by
 unfold setL
 rw [List.take_append_of_le_length (by omega), List.drop_append_of_le_length (by omega)]
 simp
theorem setL_right {a b vs : List Value} {o : Nat} : setL (a ++ b) (a.length + o) vs = a ++ setL b o vs := by
 unfold setL
 rw [List.take_length_add_append, show a.length + o + vs.length = a.length + (o + vs.length) by omega, List.drop_length_add_append]
 simp
theorem length_setL {cs vs : List Value} {o : Nat} (h : o + vs.length ≤ cs.length) : (setL cs o vs).length = cs.length := by
 unfold setL; simp; omega
section
variable {α : Type} {k : Nat} {enc : α → List Value} {T : TypeId} {w w' : World} {fp S : List Nat} {A : Option Addr} {cap : Nat} {l : List α}
theorem flatMap_length (he : EncOk k enc) : ∀ l : List α, (l.flatMap enc).length = l.length * k
 | [] => by simp
 | x :: l => by simp [he.len x, flatMap_length he l, Nat.add_mul]; omega
theorem flatMap_get (he : EncOk k enc) {j : Nat} (hj : j < k) : ∀ (l : List α) (i : Nat) (x : α), l[i]? = some x → (l.flatMap enc)[i * k + j]? = (enc x)[j]?
 | [], i, x, h => by simp at h
 | y :: l, 0, x, h => by
  simp only [List.getElem?_cons_zero, Option.some.injEq] at h; subst h
  simp only [List.flatMap_cons, Nat.zero_mul, Nat.zero_add]
  rw [List.getElem?_append_left (by rw [he.len]; exact hj)]
 | y :: l, i + 1, x, h => by
  simp only [List.flatMap_cons]
  rw [List.getElem?_append_right (by rw [he.len, Nat.add_mul]; omega), he.len, show (i + 1) * k + j - k = i * k + j by rw [Nat.add_mul]; omega]
  exact flatMap_get he hj l i x (by simpa using h)
theorem setL_flatMap (he : EncOk k enc) {x x' : α} {j : Nat} {vs : List Value} (hj : j + vs.length ≤ k) (hx : enc x' = setL (enc x) j vs) : ∀ (l : List α) (i : Nat), l[i]? = some x → setL (l.flatMap enc) (i * k + j) vs = (l.set i x').flatMap enc
 | [], i, h => by simp at h
 | y :: l, 0, h => by
  simp only [List.getElem?_cons_zero, Option.some.injEq] at h; subst h
  simp only [List.flatMap_cons, Nat.zero_mul, Nat.zero_add, List.set_cons_zero]
  rw [setL_left (by rw [he.len]; exact hj), hx]
 | y :: l, i + 1, h => by
  simp only [List.flatMap_cons, List.set_cons_succ]
  rw [show (i + 1) * k + j = (enc y).length + (i * k + j) by rw [he.len, Nat.add_mul]; omega, setL_right, setL_flatMap he hj hx l i (by simpa using h)]
theorem Ow.low (h : Ow k enc T w fp A cap l) : ∀ b ∈ fp, b < w.heap.size := by
 rcases h.is with ⟨_, _, _, rfl⟩ | ⟨g, cs, _, rfl, hC, _⟩
 ·simp
 ·intro b hb; simp only [List.mem_singleton] at hb; subst hb; exact hC.lt
theorem Ow.sl (h : Ow k enc T w fp A cap l) (he : EncOk k enc) : Sl k enc w fp A l := by
 refine ⟨h.low, fun hl => ?_⟩
 rcases h.is with ⟨_, rfl, _, _⟩ | ⟨g, cs, rfl, rfl, hC, hcs, hlc, _, ht⟩
 ·simp at hl
 ·refine ⟨_, rfl, by simp, fun i x hx j u hu => ?_⟩
  obtain ⟨hi, _⟩ := List.getElem?_eq_some_iff.1 hx
  obtain ⟨hj, _⟩ := List.getElem?_eq_some_iff.1 hu
  rw [he.len] at hj
  have hadd : ((⟨g, 0, none⟩ : Addr).add (i * k)).add j = ⟨g, i * k + j, none⟩ := by
   rw [add_add']; unfold Addr.add; split
   ·rename_i e; rw [e]
   ·simp
  have hlt : i * k + j < l.length * k := by
   have : (i + 1) * k ≤ l.length * k := Nat.mul_le_mul_right k hi
   rw [Nat.add_mul] at this; omega
  rw [hadd, hC.cell, ← hu, ← flatMap_get he hj l i x hx, ← ht, List.getElem?_take, if_pos hlt]
theorem Ow.chg (h : Ow k enc T w fp A cap l) (hc : Chg S w w') (hn : Dj fp S) : Ow k enc T w' fp A cap l := by
 refine ⟨?_⟩
 rcases h.is with h0 | ⟨g, cs, hA, rfl, hC, rest⟩
 ·exact Or.inl h0
 ·exact Or.inr ⟨g, cs, hA, rfl, hC.chg hc (hn g (by simp)), rest⟩
theorem Ow.nil (w : World) : Ow k enc T w [] none 0 ([] : List α) := ⟨Or.inl ⟨rfl, rfl, rfl, rfl⟩⟩
theorem Ow.ofNew {b : Nat} {cs : List Value} (he : EncOk k enc) (hC : Cl w b T cs) (hcs : cs = l.flatMap enc) (hm : l.length ≤ maxLen) : Ow k enc T w [b] (some ⟨b, 0, none⟩) l.length l := by
 refine ⟨Or.inr ⟨b, cs, rfl, rfl, hC, by rw [hcs, flatMap_length he], Nat.le_refl _, hm, ?_⟩⟩
 rw [List.take_of_length_le (by rw [hcs, flatMap_length he]; exact Nat.le_refl _), hcs]
def lim : Nat := 1099511627776
theorem Ow.row (h : Ow k enc T w fp A cap l) (he : EncOk k enc) : w.ownsRow 0 T k (.slice A l.length cap) l.length (l.flatMap enc) := by
 refine ⟨flatMap_length he l, ?_⟩
 rcases h.is with ⟨rfl, rfl, rfl, _⟩ | ⟨g, cs, rfl, _, hC, hcs, hlc, hm, ht⟩
 ·exact Or.inl ⟨rfl, rfl⟩
 ·exact Or.inr ⟨g, cap, cs.toArray, rfl, Nat.zero_le _, hC, hlc, hm, by simpa using hcs, by simpa using ht⟩
theorem Ow.ofRow {v : Value} {n : Nat} (he : EncOk k enc) (h : w.ownsRow 0 T k v l.length (l.flatMap enc)) : ∃ A cap fp, v = .slice A l.length cap ∧ fp = v.ownBlock.toList ∧ Ow k enc T w fp A cap l := by
 rcases h.2 with ⟨rfl, hn⟩ | ⟨g, cap, cur, rfl, _, hg, hlc, hm, hcs, ht⟩
 ·have : l = [] := List.eq_nil_of_length_eq_zero hn
  subst this
  exact ⟨none, 0, [], rfl, rfl, Ow.nil w⟩
 ·exact ⟨some ⟨g, 0, none⟩, cap, [g], rfl, rfl, ⟨Or.inr ⟨g, cur.toList, rfl, rfl, by unfold Cl; simpa using hg, by simpa using hcs, hlc, hm, ht⟩⟩⟩
end
def appI (ops : Array Oper) (N : Nat) (E : Env) (a : Act) (i : Nat) : Option (Nat × TypeId × Value × Value) :=
 match atI ops N E a i with
 | some (some d, .call c) => match c.callee, c.args.toList, c.argTypes.toList with
  | .builtin .append, [s, x], [t, t'] => bif Nat.beq t t' then some (d, t, evE E a s, evE E a x) else none
  | _, _, _ => none
 | _ => none
def makeI (ops : Array Oper) (N : Nat) (E : Env) (a : Act) (i : Nat) : Option (Nat × TypeId × Value × Value) :=
 match atI ops N E a i with
 | some (some d, .makeSlice t n c) => some (d, t, evE E a n, evE E a c)
 | _ => none
def bsI (ops : Array Oper) (N : Nat) (E : Env) (a : Act) (i : Nat) : Option (Nat × TypeId × Nat × List (Nat × Value)) :=
 match atI ops N E a i with
 | some (some d, .buildSlice t n ps) => some (d, t, n, ps.toList.map fun p => (p.1, evE E a p.2))
 | _ => none
structure ElTy (P : Program) (t e k : Nat) (z : Value) : Prop where
 und : P.underlying t = some (.slice e)
 info : ∃ i, P.info? e = some i ∧ i.zero = some z ∧ i.size = k ∧ i.bytes ≤ 128
 cells : z.cells.size = k
section
variable {P : Program} {ops : Array Oper} {Q : Exit → Act → World → Prop} {N i : Nat} {E : Env} {a : Act} {w : World} {α : Type} {k : Nat} {enc : α → List Value}
theorem appI_spec {d t : Nat} {s x : Value} (ho : appI ops N E a i = some (d, t, s, x)) : ∃ c : Call, atI ops N E a i = some (some d, .call c) ∧ c.callee = .builtin .append ∧ c.argTypes = #[t, t] ∧ c.args.map (evE E a) = #[s, x] := by
 unfold appI at ho
 split at ho
 ·rename_i d' c hat
  split at ho
  ·rename_i s' x' t1 t2 hc ha ht
   cases hb : Nat.beq t1 t2 with
   | false => rw [hb] at ho; cases ho
   | true =>
    rw [hb] at ho
    simp only [cond_true, Option.some.injEq, Prod.mk.injEq] at ho
    obtain ⟨rfl, rfl, rfl, rfl⟩ := ho
    have e := Nat.eq_of_beq_eq_true hb
    subst e
    refine ⟨c, hat, hc, ?_, ?_⟩
    ·rw [← Array.toArray_toList (xs := c.argTypes), ht]
    ·rw [← Array.toArray_toList (xs := c.args), ha]; simp
  ·cases ho
 ·cases ho
theorem append_drawn {P : Program} (w : World) (base : Nat) (t ty e : TypeId) (i : TypeInfo) (z : Value) (size bytes : Nat) (ht : P.underlying t = some (.slice e)) (hi : P.info? e = some i) (hz : i.zero = some z)
  (hsize : i.size = size) (hby : i.bytes = bytes) (hzs : z.cells.size = size) (hsz : 0 < size) (v : Value) (n : Nat) (xs : List Value) (hown : w.ownsRow base e size v n xs)
  (a : Addr) (m c : Nat) (news : List Value) (hl : news.length = m * size) (hnews : ∀ j u, news[j]? = some u → w.cell? (a.add j) = some u) (h1 : ∀ u ∈ news, u.oneCell' = true)
  (h63 : n + m ≤ maxLen) (hbytes : (n + m) * bytes ≤ 140737488355328) (hbase : base ≤ w.heap.size) :
  ∃ v' w', (Builtin.append_ #[t, t] ty #[v, .slice (some a) m c]).run P w = .ok v' w' ∧ w'.ownsRow base e size v' (n + m) (xs ++ news) ∧ w.grownBy w' v.ownBlock ∧
   (v' = .slice none 0 0 ↔ v = .slice none 0 0 ∧ m = 0) ∧ (v'.ownBlock = v.ownBlock ∨ v'.ownBlock = some w.heap.size) ∧ w.drawn ≤ w'.drawn := by
 obtain ⟨v', w', hrun, g1, g2, g3, g4⟩ := run_append_own_at (P := P) w base t ty e i z size bytes ht hi hz hsize hby hzs hsz v n xs hown a m c news hl hnews h1 h63 hbytes hbase
 refine ⟨v', w', hrun, g1, g2, g3, g4, ?_⟩
 subst hsize
 subst hby
 have hsmall : n + m ≤ 9223372036854775807 := by simp only [maxLen] at h63; omega
 rcases hown.2 with ⟨rfl, rfl⟩ | ⟨g, cap, cur, rfl, hbg, hg, hnc, hcm, hcs, htake⟩
 ·by_cases hm : m = 0
  ·subst hm
   have hn : news = [] := List.eq_nil_of_length_eq_zero (by simpa using hl)
   subst hn
   have hr : (Builtin.append_ #[t, t] ty #[.slice none 0 0, .slice (some a) 0 c]).run P w = .ok (.slice none 0 0) w := by
    simp [Builtin.append_, run_underlying ht, sizeOf, typeInfo, hi, Builtin.lenOf, Builtin.firstCells, loadCells, loadCellsFrom]
   rw [hr] at hrun
   simp only [Result.ok.injEq] at hrun
   rw [← hrun.2]; exact Nat.le_refl _
  ·have hr := run_append_nil (P := P) w t ty e i z ht hi hz a m c news hl hnews (by omega) (by omega) (by have hb := hbytes; simp only [Nat.zero_add] at hb; omega)
   rw [hr] at hrun
   simp only [Result.ok.injEq] at hrun
   rw [← hrun.2]; exact Nat.le_succ _
 ·by_cases hroom : n + m ≤ cap
  ·have hfit : n * i.size + news.length ≤ cur.size := by rw [hl, hcs, ← Nat.add_mul]; exact Nat.mul_le_mul_right _ hroom
   have hr := run_append_room (P := P) w t ty e i ht hi g n cap cur hg a m c news hl hnews h1 hroom hfit
   rw [hr] at hrun
   simp only [Result.ok.injEq] at hrun
   rw [← hrun.2]; exact Nat.le_refl _
  ·have holds : ∀ j u, xs[j]? = some u → w.cell? ((⟨g, 0, none⟩ : Addr).add j) = some u := hown.cells (g := g) rfl
   have hr := run_append_grow (P := P) w t ty e i z ht hi hz ⟨g, 0, none⟩ n cap xs hown.1 holds a m c news hl hnews (by omega) (by omega) (growslice_fits (by omega) hbytes)
   rw [hr] at hrun
   simp only [Result.ok.injEq] at hrun
   rw [← hrun.2]; exact Nat.le_succ _
theorem make_drawn {P : Program} (w : World) (base : Nat) (t e : TypeId) (i : TypeInfo) (z : Value) (size : Nat) (ht : P.underlying t = some (.slice e)) (hi : P.info? e = some i) (hz : i.zero = some z) (hsize : i.size = size)
  (kl kc : IntKind) (n : Nat) (hbytes : i.bytes * n ≤ 281474976710656) (h63 : n ≤ maxLen) (hbase : base ≤ w.heap.size) :
  ∃ w', (Instr.makeSlice t (.int kl (n : Int)) (.int kc (n : Int))).run P w = .ok (.slice (some ⟨w.heap.size, 0, none⟩) n n) w' ∧
   w'.ownsRow base e size (.slice (some ⟨w.heap.size, 0, none⟩) n n) n (madeCells z.cells (n * size)).toList ∧ w.grownBy w' none ∧ w.drawn ≤ w'.drawn := by
 obtain ⟨w', hrun, g1, g2⟩ := run_make_full (P := P) w base t e i z size ht hi hz hsize kl kc n hbytes h63 hbase
 refine ⟨w', hrun, g1, g2, ?_⟩
 have h63' : (n : Int) ≤ 9223372036854775807 := by have h := h63; simp [maxLen] at h; omega
 have hb' : (i.bytes : Int) * (n : Int) ≤ 281474976710656 := by
  have h : ((i.bytes * n : Nat) : Int) ≤ 281474976710656 := by omega
  rwa [Int.natCast_mul] at h
 have hr := run_make (P := P) w t e i z ht hi hz kl kc n n (by omega) (Int.le_refl _) hb' h63'
 rw [hr] at hrun
 simp only [Result.ok.injEq] at hrun
 rw [← hrun.2]; exact Nat.le_refl _
theorem wS_append {d t T : Nat} {z : Value} {A A2 : Option Addr} {cap cap2 : Nat} {l l2 : List α} {fp fp2 : List Nat} (ho : appI ops N E a i = some (d, t, .slice A l.length cap, .slice A2 l2.length cap2))
  (hT : ElTy P t T k z) (he : EncOk k enc) (h1 : Ow k enc T w fp A cap l) (h2 : Sl k enc w fp2 A2 l2) (hA2 : A2.isSome = true) (hlim : l.length + l2.length ≤ lim)
  (kk : ∀ w' fp' A' cap', Ow k enc T w' fp' A' cap' (l ++ l2) → Chg fp w w' → Ap w.heap.size fp fp' → wS P ops Q N (i + 1) ((d, .slice A' (l ++ l2).length cap') :: E) a w') : wS P ops Q N i E a w := by
 obtain ⟨c, hat, hcal, hty, hargs⟩ := appI_spec ho
 obtain ⟨g1, g2, g3⟩ := atI_spec hat
 obtain ⟨inf, hi, hz, hs, hb⟩ := hT.info
 cases A2 with
 | none => cases hA2
 | some ad2 =>
  have hnews : ∀ j u, (l2.flatMap enc)[j]? = some u → w.cell? (ad2.add j) = some u := by
   intro j u hu
   have hlt : j < l2.length * k := by have := (List.getElem?_eq_some_iff.1 hu).1; rwa [flatMap_length he] at this
   have hk := he.pos
   have hl2 : 0 < l2.length := by rcases Nat.eq_zero_or_pos l2.length with h0 | h0; (· rw [h0] at hlt; simp at hlt); exact h0
   obtain ⟨ad, hA, _, hc⟩ := h2.cells hl2
   simp only [Option.some.injEq] at hA
   subst hA
   have hdiv : j / k < l2.length := by rw [Nat.div_lt_iff_lt_mul hk]; exact hlt
   have hmod : j % k < k := Nat.mod_lt _ hk
   have hj : j / k * k + j % k = j := by rw [Nat.mul_comm]; exact Nat.div_add_mod j k
   have hx : l2[j / k]? = some l2[j / k] := List.getElem?_eq_getElem hdiv
   have hg := flatMap_get he hmod l2 (j / k) _ hx
   rw [hj, hu] at hg
   have := hc (j / k) _ hx (j % k) u hg.symm
   rwa [add_add', hj] at this
  obtain ⟨v', w', hrun, hown, hgrow, _, hblk, hdr⟩ := append_drawn (P := P) w 0 t c.argTypes.size T inf z k inf.bytes hT.und hi hz hs rfl hT.cells he.pos _ _ _ (h1.row he) ad2 l2.length cap2 (l2.flatMap enc)
   (flatMap_length he l2) hnews (by intro u hu; obtain ⟨x, _, hx⟩ := List.mem_flatMap.1 hu; exact he.one x u hx) (by unfold lim at hlim; unfold maxLen; omega)
   (by unfold lim at hlim; calc (l.length + l2.length) * inf.bytes ≤ (l.length + l2.length) * 128 := Nat.mul_le_mul_left _ hb
              _ ≤ 140737488355328 := by omega) (Nat.zero_le _)
  rw [← List.flatMap_append, ← List.length_append] at hown
  obtain ⟨A', cap', fp', rfl, hfp, hOw⟩ := Ow.ofRow (n := 0) he hown
  have hfp0 : fp = (Value.slice A l.length cap).ownBlock.toList := by
   rcases h1.is with ⟨rfl, _, _, rfl⟩ | ⟨g, cs, rfl, rfl, _⟩ <;> rfl
  refine wS_val g1 g2 (g3 _ rfl) (fun o ho => ?_) (kk w' fp' A' cap' hOw (by rw [hfp0]; exact Chg.grown hgrow hdr) (fun b hb => ?_))
  ·have hrun' : ∀ ty, (Builtin.append_ #[t, t] ty #[.slice A l.length cap, .slice (some ad2) l2.length cap2]).run P w = .ok (.slice A' (l ++ l2).length cap') w' := fun ty => hrun
   simp only [execOp, ho, resolve, hcal]
   simp [invoke, builtin, hargs, hty, hrun']
  ·subst hfp
   rcases hblk with hblk | hblk
   ·left; rw [hfp0, ← hblk]; exact hb
   ·right; rw [hblk] at hb; simp at hb; omega
theorem made_flat (he : EncOk k enc) {z : Value} {x0 : α} (hz : z.cells.toList = enc x0) (n : Nat) : (madeCells z.cells (n * k)).toList = (List.replicate n x0).flatMap enc := by
 have hk := he.pos
 have hsz : z.cells.size = k := by rw [← Array.length_toList, hz, he.len]
 apply List.ext_getElem?
 intro j
 by_cases hj : j < n * k
 ·have hdiv : j / k < n := by rw [Nat.div_lt_iff_lt_mul hk]; exact hj
  have hmod : j % k < k := Nat.mod_lt _ hk
  have hjj : j / k * k + j % k = j := by rw [Nat.mul_comm]; exact Nat.div_add_mod j k
  have hx : (List.replicate n x0)[j / k]? = some x0 := by simp [hdiv]
  have hg := flatMap_get he hmod _ (j / k) _ hx
  rw [hjj] at hg
  rw [hg, ← hz]
  simp [madeCells, hj, hsz, hmod]
 ·rw [List.getElem?_eq_none (by simp [madeCells]; omega), List.getElem?_eq_none (by rw [flatMap_length he]; simp; omega)]
theorem wS_make {d t T : Nat} {z : Value} {x0 : α} {k1 k2 : IntKind} {m : Int} (ho : makeI ops N E a i = some (d, t, .int k1 m, .int k2 m)) (hT : ElTy P t T k z) (he : EncOk k enc) (hz : z.cells.toList = enc x0) (h0 : 0 ≤ m) (hlim : m ≤ lim)
    (kk : ∀ b w', w.heap.size ≤ b → Ow k enc T w' [b] (some ⟨b, 0, none⟩) m.toNat (List.replicate m.toNat x0) → Chg [] w w' → wS P ops Q N (i + 1) ((d, .slice (some ⟨b, 0, none⟩) (List.replicate m.toNat x0).length m.toNat) :: E) a w') : wS P ops Q N i E a w := by
  unfold makeI at ho
  split at ho
  · rename_i d' t' nn cc hat
    simp only [Option.some.injEq, Prod.mk.injEq] at ho
    obtain ⟨rfl, rfl, hn, hc⟩ := ho
    obtain ⟨g1, g2, g3⟩ := atI_spec hat
    obtain ⟨inf, hi, hzz, hs, hb⟩ := hT.info
    obtain ⟨n, rfl⟩ := Int.eq_ofNat_of_zero_le h0
    simp only [Int.toNat_natCast] at kk
    unfold lim at hlim
    obtain ⟨w', hrun, hown, hgrow, hdr⟩ := make_drawn (P := P) w 0 t' T inf z k hT.und hi hzz hs k1 k2 n
      (by calc inf.bytes * n ≤ 128 * n := Nat.mul_le_mul_right _ hb
               _ ≤ 281474976710656 := by omega) (by unfold maxLen; omega) (Nat.zero_le _)
    rw [made_flat he hz] at hown
    have hOw : ∃ A cap fp, Value.slice (some ⟨w.heap.size, 0, none⟩) n n = .slice A (List.replicate n x0).length cap ∧ fp = (Value.slice (some ⟨w.heap.size, 0, none⟩) n n).ownBlock.toList ∧ Ow k enc T w' fp A cap (List.replicate n x0) :=
      Ow.ofRow (n := 0) he (by rw [List.length_replicate]; exact hown)
    obtain ⟨A, cap, fp, hv, hfp, hOw⟩ := hOw
    simp only [Value.slice.injEq] at hv
    obtain ⟨rfl, _, rfl⟩ := hv
    rw [List.length_replicate] at kk
    refine wS_val g1 g2 (g3 _ rfl) (fun o ho => ?_) (kk w.heap.size w' (Nat.le_refl _) (by subst hfp; exact hOw) (Chg.grown hgrow hdr))
    simp [execOp, ho, hn, hc, hrun]
  · cases ho
theorem wS_bs {d t T n : Nat} {z : Value} {ps : List (Nat × Value)} (l : List α) (cs : List Value) (ho : bsI ops N E a i = some (d, t, n, ps)) (hT : ElTy P t T k z) (he : EncOk k enc) (hn : l.length = n) (hn0 : 0 < n) (hsm : n * k ≤ 16777216)
  (hfill : Instr.fill (fun i => some (i * k, k)) ((Array.range (n * k)).map (fun i => z.cells[i % z.cells.size]!)) ps = some cs.toArray) (hcs : cs = l.flatMap enc)
  (kk : ∀ b w', w.heap.size ≤ b → Ow k enc T w' [b] (some ⟨b, 0, none⟩) n l → Chg [] w w' → wS P ops Q N (i + 1) ((d, .slice (some ⟨b, 0, none⟩) n n) :: E) a w') : wS P ops Q N i E a w := by
 unfold bsI at ho
 split at ho
 ·rename_i d' t' n' pp hat
  simp only [Option.some.injEq, Prod.mk.injEq] at ho
  obtain ⟨rfl, rfl, rfl, hps⟩ := ho
  obtain ⟨g1, g2, g3⟩ := atI_spec hat
  obtain ⟨inf, hi, hzz, hs, hb⟩ := hT.info
  have hk := he.pos
  have hnz : ¬ n' * k = 0 := by have := Nat.mul_pos hn0 hk; omega
  have hsm' : ¬ (16777216 < n' * k) := by omega
  have hOw := Ow.ofNew (l := l) he (Cl.new w T cs) hcs (by unfold maxLen; have : l.length * 1 ≤ l.length * k := Nat.mul_le_mul_left _ hk; rw [hn] at *; omega)
  rw [hn] at hOw
  refine wS_val (w' := w.alloc (.cells cs.toArray T)) g1 g2 (g3 _ rfl) (fun o ho => ?_) (kk w.heap.size _ (Nat.le_refl _) hOw (Chg.alloc _ _))
  simp only [execOp, ho]
  simp [Instr.buildSlice, run_underlying hT.und, sizeOf, zeroValue, typeInfo, hi, hs, hzz, hsm', hnz, hps]
  rw [hfill]
  simp [newRow]
 ·cases ho
theorem wS_storeEl {T U cap j : Nat} {A : Option Addr} {v : Value} {vs : List Value} {l : List α} {fp : List Nat} {m : Int} {x : α} (x' : α) (ho : storeI ops N E a i = some (T, .pointer (some (elA A k m j)), v)) (hvs : v.cells.toList = vs) (hT : pureRun P (sizeOf T) = some vs.length)
  (h1 : (vs.all fun u => u.oneCell') = true) (he : EncOk k enc) (hO : Ow k enc U w fp A cap l) (hg : geti l m = some x) (hj : j + vs.length ≤ k) (hx : enc x' = setL (enc x) j vs)
  (kk : ∀ w', Ow k enc U w' fp A cap (l.set m.toNat x') → Chg fp w w' → wS P ops Q N (i + 1) E a w') : wS P ops Q N i E a w := by
 obtain ⟨h0, hlt, hget⟩ := geti_some hg
 rcases hO.is with ⟨_, rfl, _, _⟩ | ⟨g, cs, rfl, rfl, hC, hcs, hlc, hmx, ht⟩
 ·simp at hlt; omega
 ·have hi : m.toNat < l.length := by omega
  have hle : (m.toNat + 1) * k ≤ l.length * k := Nat.mul_le_mul_right k hi
  have hle2 : l.length * k ≤ cap * k := Nat.mul_le_mul_right k hlc
  rw [Nat.add_mul] at hle
  refine wS_store (g := g) (o := m.toNat * k + j) ho hvs hT h1 (by
   simp only [elA, adr, Option.getD_some]
   rw [add_add']; unfold Addr.add; split
   ·rename_i e; rw [e]
   ·simp) hC (by omega) (fun w' hC' hc => ?_)
  refine kk w' ⟨Or.inr ⟨g, _, rfl, rfl, hC', by rw [length_setL (by omega)]; exact hcs, by simpa using hlc, hmx, ?_⟩⟩ hc
  rw [List.length_set, ← setL_flatMap he hj hx l m.toNat hget, ← ht]
  have hsplit : cs = cs.take (l.length * k) ++ cs.drop (l.length * k) := (List.take_append_drop ..).symm
  have hlen : (cs.take (l.length * k)).length = l.length * k := by simp; omega
  conv => lhs; rw [hsplit]
  rw [setL_left (by rw [hlen]; omega), List.take_append_of_le_length (by rw [length_setL (by rw [hlen]; omega), hlen]; exact Nat.le_refl _)]
  rw [List.take_of_length_le (by rw [length_setL (by rw [hlen]; omega), hlen]; exact Nat.le_refl _)]
end
end Go.Proofs.YtbfjekmefcpkmaaDoor
