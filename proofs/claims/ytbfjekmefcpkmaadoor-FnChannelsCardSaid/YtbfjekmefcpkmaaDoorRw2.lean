/- The engine: slices of slices of the call's own: made, filled, appended to. -/
import Derived.Test.YtbfjekmefcpkmaaDoorDrn
set_option linter.unusedSimpArgs false
set_option linter.unusedVariables false
namespace Go.Proofs.YtbfjekmefcpkmaaDoor
open Go.RowKit

def Ap2 (n : Nat) (fp fp2 fp' : List Nat) : Prop := ∀ b ∈ fp', b ∈ fp ∨ b ∈ fp2 ∨ n ≤ b
theorem lowApp {n : Nat} {a b : List Nat} (h : ∀ x ∈ a, n ≤ x) (k : ∀ x ∈ b, n ≤ x) : ∀ x ∈ a ++ b, n ≤ x := fun x hx => by
 rcases List.mem_append.1 hx with hx | hx
 ·exact h x hx
 ·exact k x hx
theorem Dj.app {a b c : List Nat} (h : Dj a b) (k : Dj a c) : Dj a (b ++ c) := fun x hx hy => by
 rcases List.mem_append.1 hy with hy | hy
 ·exact h x hx hy
 ·exact k x hx hy
section
variable {P : Program} {ops : Array Oper} {Q : Exit → Act → World → Prop} {N i : Nat} {E : Env} {a : Act} {w : World} {α : Type} {k : Nat} {enc : α → List Value}
theorem wS_rows0 {d t T T2 : Nat} (ho : bsI ops N E a i = some (d, t, 0, [])) (hT : ElTy P t T 1 (.slice none 0 0))
  (kk : ∀ b w', w.heap.size ≤ b → OwR k enc T T2 w' [b] [] (some ⟨b, 0, none⟩) 0 ([] : List (List α)) → Chg [] w w' → wS P ops Q N (i + 1) ((d, .slice (some ⟨b, 0, none⟩) 0 0) :: E) a w') : wS P ops Q N i E a w :=
 wS_bs0 (α := Hd) (enc := encH) ho hT (fun b w' h1 h2 h3 => kk b w' h1 (OwR.ofOw h2 rfl (fun i l h => by simp at h)) h3)
theorem wS_makeR {d t T T2 : Nat} {k1 k2 : IntKind} {m : Int} (ho : makeI ops N E a i = some (d, t, .int k1 m, .int k2 m)) (hT : ElTy P t T 1 (.slice none 0 0)) (h0 : 0 ≤ m) (hlim : m ≤ lim)
  (kk : ∀ b w', w.heap.size ≤ b → OwR k enc T T2 w' [b] [] (some ⟨b, 0, none⟩) m.toNat (List.replicate m.toNat ([] : List α)) → Chg [] w w' → wS P ops Q N (i + 1) ((d, .slice (some ⟨b, 0, none⟩) (List.replicate m.toNat ([] : List α)).length m.toNat) :: E) a w') : wS P ops Q N i E a w :=
 wS_make (enc := encH) (x0 := ((none, 0, 0) : Hd)) ho hT encH_ok rfl h0 hlim (fun b w' h1 h2 h3 => by
  have := kk b w' h1 (OwR.ofOw h2 (by simp) (fun i l h => by
   rw [List.getElem?_replicate] at h
   split at h
   ·rename_i hlt
    simp only [Option.some.injEq] at h
    exact ⟨h.symm, by rw [List.getElem?_replicate, if_pos hlt]⟩
   ·cases h)) h3
  rw [List.length_replicate] at this ⊢
  exact this)
theorem geti_of {β : Type} {l : List β} {m : Int} {x : β} (h0 : 0 ≤ m) (h : l[m.toNat]? = some x) : geti l m = some x := by unfold geti; rw [if_pos h0]; exact h
theorem wS_storeRow {T U T2 cap c : Nat} {A B : Option Addr} {ll : List (List α)} {l x : List α} {fpm fpr fpl : List Nat} {m : Int} (ho : storeI ops N E a i = some (T, .pointer (some (elA A 1 m 0)), .slice B l.length c)) (hT : pureRun P (sizeOf T) = some 1)
  (hO : OwR k enc U T2 w fpm fpr A cap ll) (hl : Ow k enc T2 w fpl B c l) (hd : Dj (fpm ++ fpr) fpl) (hg : geti ll m = some x)
  (kk : ∀ w', OwR k enc U T2 w' fpm (fpr ++ fpl) A cap (ll.set m.toNat l) → Chg fpm w w' → wS P ops Q N (i + 1) E a w') : wS P ops Q N i E a w := by
 obtain ⟨hs, f, h1, h2⟩ := hO.is
 obtain ⟨h0, hlt, hget⟩ := geti_some hg
 obtain ⟨B0, c0, hx, _⟩ := h2.row _ _ hget
 refine wS_storeEl (enc := encH) (x' := ((B, l.length, c) : Hd)) (j := 0) (vs := [.slice B l.length c]) ho rfl hT rfl encH_ok h1 (geti_of h0 hx) (by simp) rfl (fun w' hO' hc => ?_)
 have hdm : Dj fpm fpl := fun y hy => hd y (List.mem_append_left _ hy)
 have hdr : Dj fpr fpl := fun y hy => hd y (List.mem_append_right _ hy)
 refine kk w' ⟨⟨hs.set m.toNat (B, l.length, c), (fun j => if j = m.toNat then fpl else f j), hO', ⟨by simp [h2.len], fun j l' hj => ?_, fun j j' hjj => ?_, fun j b hb => ?_, fun b hb => ?_⟩⟩, hO.dj.app hdm⟩ hc
 ·by_cases e : m.toNat = j
  ·subst e
   rw [List.getElem?_set_self (by omega)] at hj
   simp only [Option.some.injEq] at hj
   subst hj
   refine ⟨B, c, by rw [List.getElem?_set_self (by rw [h2.len]; omega)], ?_⟩
   rw [if_pos rfl]; exact hl.chg hc hdm.symm
  ·rw [List.getElem?_set_ne e] at hj
   obtain ⟨A', c', ha, hb⟩ := h2.row j l' hj
   refine ⟨A', c', by rw [List.getElem?_set_ne e]; exact ha, ?_⟩
   rw [if_neg (Ne.symm e)]
   exact hb.chg hc (fun y hy hz => hO.dj y hz (h2.sub _ y hy))
 ·by_cases e : j = m.toNat
  ·by_cases e' : j' = m.toNat
   ·omega
   ·simp only [e, if_true, if_neg e']
    exact fun y hy hz => hdr y (h2.sub _ y hz) hy
  ·by_cases e' : j' = m.toNat
   ·simp only [e', if_true, if_neg e]
    exact fun y hy hz => hdr y (h2.sub _ y hy) hz
   ·simp only [if_neg e, if_neg e']; exact h2.dj j j' hjj
 ·by_cases e : j = m.toNat
  ·simp only [e, if_true] at hb; exact List.mem_append_right _ hb
  ·simp only [if_neg e] at hb; exact List.mem_append_left _ (h2.sub _ b hb)
 ·rcases List.mem_append.1 hb with hb | hb
  ·exact Nat.lt_of_lt_of_le (h2.low b hb) hc.size
  ·exact Nat.lt_of_lt_of_le (hl.low b hb) hc.size
theorem wS_row1 {d t T T2 c : Nat} {B : Option Addr} {l : List α} {fpl : List Nat} (ho : bsI ops N E a i = some (d, t, 1, [(0, .slice B l.length c)])) (hT : ElTy P t T 1 (.slice none 0 0)) (hl : Ow k enc T2 w fpl B c l)
  (kk : ∀ b w', w.heap.size ≤ b → OwR k enc T T2 w' [b] fpl (some ⟨b, 0, none⟩) 1 [l] → Chg [] w w' → wS P ops Q N (i + 1) ((d, .slice (some ⟨b, 0, none⟩) 1 1) :: E) a w') : wS P ops Q N i E a w := by
 refine wS_bs (enc := encH) ([(B, l.length, c)] : List Hd) [.slice B l.length c] ho hT encH_ok rfl (by omega) (by omega) (by kernel_rfl) (by rfl) (fun b w' h1 h2 h3 => ?_)
 refine kk b w' h1 ⟨⟨[(B, l.length, c)], (fun j => if j = 0 then fpl else []), h2, ⟨rfl, fun j l' hj => ?_, fun j j' hjj => ?_, fun j b' hb' => ?_, fun b' hb' => Nat.lt_of_lt_of_le (hl.low b' hb') h3.size⟩⟩, fun y hy hz => ?_⟩ h3
 ·cases j with
  | zero => simp only [List.getElem?_cons_zero, Option.some.injEq] at hj; subst hj; exact ⟨B, c, rfl, hl.chg h3 Dj.nil⟩
  | succ j => simp at hj
 ·by_cases e : j = 0
  ·rw [if_neg (show j' ≠ 0 by omega)]; exact Dj.nil
  ·rw [if_neg e]; exact Dj.nil.symm
 ·by_cases e : j = 0
  ·simpa only [e, if_true] using hb'
  ·simp only [if_neg e] at hb'; cases hb'
 ·simp only [List.mem_singleton] at hy; subst hy
  have := hl.low y hz; omega
theorem wS_appendR {d t T T2 : Nat} {A A2 : Option Addr} {cap cap2 : Nat} {ll ll2 : List (List α)} {fpm fpr fpm2 fpr2 : List Nat} (ho : appI ops N E a i = some (d, t, .slice A ll.length cap, .slice A2 ll2.length cap2))
  (hT : ElTy P t T 1 (.slice none 0 0)) (h1 : OwR k enc T T2 w fpm fpr A cap ll) (h2 : OwR k enc T T2 w fpm2 fpr2 A2 cap2 ll2) (hA2 : A2.isSome = true) (hd : Dj (fpm ++ fpr) (fpm2 ++ fpr2)) (hlim : ll.length + ll2.length ≤ lim)
  (kk : ∀ w' fp' A' cap', OwR k enc T T2 w' fp' (fpr ++ fpr2) A' cap' (ll ++ ll2) → Chg fpm w w' → Ap w.heap.size fpm fp' → wS P ops Q N (i + 1) ((d, .slice A' (ll ++ ll2).length cap') :: E) a w') : wS P ops Q N i E a w := by
 obtain ⟨hs, f, g1, g2⟩ := h1.is
 obtain ⟨hs2, f2, k1, k2⟩ := h2.is
 rw [← g2.len, ← k2.len] at ho
 refine wS_append (enc := encH) (l := hs) (l2 := hs2) ho hT encH_ok g1 (k1.sl encH_ok) hA2 (by rw [g2.len, k2.len]; exact hlim) (fun w' fp' A' cap' hO hc hap => ?_)
 have hlow' : ∀ b ∈ fpr ++ fpr2, b < w.heap.size := fun b hb => by
  rcases List.mem_append.1 hb with hb | hb
  ·exact g2.low b hb
  ·exact k2.low b hb
 have hm2 : Dj fpm fpr2 := fun y hy hz => hd y (List.mem_append_left _ hy) (List.mem_append_right _ hz)
 have hr2 : Dj fpr fpr2 := fun y hy hz => hd y (List.mem_append_right _ hy) (List.mem_append_right _ hz)
 have hlen : (hs ++ hs2).length = (ll ++ ll2).length := by simp [g2.len, k2.len]
 have hdj : Dj fp' (fpr ++ fpr2) := (Dj.ap (h1.dj.app hm2).symm hlow' hap).symm
 rw [hlen]
 refine kk w' fp' A' cap' ⟨⟨hs ++ hs2, (fun j => if j < ll.length then f j else f2 (j - ll.length)), hO, ⟨hlen, fun j l hj => ?_, fun j j' hjj => ?_, fun j b hb => ?_, fun b hb => Nat.lt_of_lt_of_le (hlow' b hb) hc.size⟩⟩, hdj⟩ hc hap
 ·by_cases e : j < ll.length
  ·rw [List.getElem?_append_left e] at hj
   obtain ⟨A0, c0, ha, hb⟩ := g2.row j l hj
   refine ⟨A0, c0, by rw [List.getElem?_append_left (by rw [g2.len]; exact e)]; exact ha, ?_⟩
   rw [if_pos e]; exact hb.chg hc (fun y hy hz => h1.dj y hz (g2.sub _ y hy))
  ·rw [List.getElem?_append_right (by omega)] at hj
   obtain ⟨A0, c0, ha, hb⟩ := k2.row _ l hj
   refine ⟨A0, c0, by rw [List.getElem?_append_right (by rw [g2.len]; omega), g2.len]; exact ha, ?_⟩
   rw [if_neg e]; exact hb.chg hc (fun y hy hz => hm2 y hz (k2.sub _ y hy))
 ·by_cases e : j < ll.length
  ·by_cases e' : j' < ll.length
   ·simp only [if_pos e, if_pos e']; exact g2.dj j j' hjj
   ·simp only [if_pos e, if_neg e']; exact fun y hy hz => hr2 y (g2.sub _ y hy) (k2.sub _ y hz)
  ·by_cases e' : j' < ll.length
   ·simp only [if_neg e, if_pos e']; exact fun y hy hz => hr2 y (g2.sub _ y hz) (k2.sub _ y hy)
   ·simp only [if_neg e, if_neg e']; exact k2.dj _ _ (by omega)
 ·by_cases e : j < ll.length
  ·simp only [if_pos e] at hb; exact List.mem_append_left _ (g2.sub _ b hb)
  ·simp only [if_neg e] at hb; exact List.mem_append_right _ (k2.sub _ b hb)
theorem run_append_of_nil (base : Nat) (t ty e : TypeId) (inf : TypeInfo) (size : Nat) (ht : P.underlying t = some (.slice e)) (hi : P.info? e = some inf)
  (v : Value) (n : Nat) (xs : List Value) (hown : w.ownsRow base e size v n xs) (c : Nat) : (Builtin.append_ #[t, t] ty #[v, .slice none 0 c]).run P w = .ok v w := by
 rcases hown.2 with ⟨rfl, rfl⟩ | ⟨g, cap, cur, rfl, _, _, hnc, _⟩
 ·simp [Builtin.append_, run_underlying ht, sizeOf, typeInfo, hi, Builtin.lenOf, Builtin.firstCells]
 ·simp [Builtin.append_, run_underlying ht, sizeOf, typeInfo, hi, Builtin.lenOf, Builtin.firstCells, hnc, storeCells]
theorem wS_appendAny {d t T : Nat} {z : Value} {A A2 : Option Addr} {cap cap2 : Nat} {l l2 : List α} {fp fp2 : List Nat} (ho : appI ops N E a i = some (d, t, .slice A l.length cap, .slice A2 l2.length cap2))
  (hT : ElTy P t T k z) (he : EncOk k enc) (h1 : Ow k enc T w fp A cap l) (h2 : Sl k enc w fp2 A2 l2) (hlim : l.length + l2.length ≤ lim)
  (kk : ∀ w' fp' A' cap', Ow k enc T w' fp' A' cap' (l ++ l2) → Chg fp w w' → Ap w.heap.size fp fp' → wS P ops Q N (i + 1) ((d, .slice A' (l ++ l2).length cap') :: E) a w') : wS P ops Q N i E a w := by
 cases A2 with
 | some ad => exact wS_append ho hT he h1 h2 rfl hlim kk
 | none =>
  have hl2 : l2 = [] := by
   cases l2 with
   | nil => rfl
   | cons x l2 => obtain ⟨ad, hA, _⟩ := h2.cells (by simp); cases hA
  subst hl2
  obtain ⟨c, hat, hcal, hty, hargs⟩ := appI_spec ho
  obtain ⟨g1, g2, g3⟩ := atI_spec hat
  obtain ⟨inf, hi, hz, hs, hb⟩ := hT.info
  have hrun : ∀ ty, (Builtin.append_ #[t, t] ty #[.slice A l.length cap, .slice none 0 cap2]).run P w = .ok (.slice A l.length cap) w := fun ty =>
   run_append_of_nil 0 t ty T inf k hT.und hi _ _ _ (h1.row he) cap2
  have := kk w fp A cap (by simpa using h1) (Chg.refl _ _) (fun b hb => Or.inl hb)
  rw [List.append_nil] at this
  refine wS_val g1 g2 (g3 _ rfl) (fun o ho => ?_) this
  simp only [execOp, ho, resolve, hcal]
  simp [invoke, builtin, hargs, hty, hrun]
def slcI (ops : Array Oper) (N : Nat) (E : Env) (a : Act) (i : Nat) : Option (Nat × TypeId × Value × Option Value × Option Value) :=
 match atI ops N E a i with
 | some (some d, .slice t x lo hi none) => some (d, t, evE E a x, lo.map (evE E a), hi.map (evE E a))
 | _ => none
def slci (l : List α) (lo hi : Int) : Option (List α) := if 0 ≤ lo ∧ lo ≤ hi ∧ hi ≤ l.length then some ((l.take hi.toNat).drop lo.toNat) else none
theorem slci_some {l l' : List α} {lo hi : Int} (h : slci l lo hi = some l') : (0 ≤ lo ∧ lo ≤ hi ∧ hi ≤ l.length) ∧ l' = (l.take hi.toNat).drop lo.toNat := by
 unfold slci at h
 split at h
 ·rename_i hc; simp only [Option.some.injEq] at h; exact ⟨hc, h.symm⟩
 ·cases h
theorem Sl.cut {fp : List Nat} {A : Option Addr} {l : List α} (h : Sl k enc w fp A l) {lo hi cap : Nat} (h1 : lo ≤ hi) (h2 : hi ≤ l.length) (h3 : l.length ≤ cap) :
  Sl k enc w fp (if cap = lo then A else A.map (·.add (lo * k))) ((l.take hi).drop lo) := by
 refine ⟨h.low, fun hl => ?_⟩
 have hlen : ((l.take hi).drop lo).length = hi - lo := by simp; omega
 rw [hlen] at hl
 obtain ⟨ad, rfl, hfp, hc⟩ := h.cells (by omega)
 rw [if_neg (by omega)]
 refine ⟨ad.add (lo * k), rfl, by rw [add_block]; exact hfp, fun i x hx j u hu => ?_⟩
 rw [List.getElem?_drop, List.getElem?_take] at hx
 split at hx
 ·have := hc (lo + i) x hx j u hu
  rw [add_add'] at this ⊢
  rw [add_add', show lo * k + (i * k + j) = (lo + i) * k + j by rw [Nat.add_mul]; omega]
  exact this
 ·cases hx
end
end Go.Proofs.YtbfjekmefcpkmaaDoor
