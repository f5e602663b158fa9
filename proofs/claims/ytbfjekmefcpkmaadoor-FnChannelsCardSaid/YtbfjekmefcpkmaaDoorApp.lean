/- A row of rows of the call's own that is appended to, and laid back into its place. -/
import Derived.Test.YtbfjekmefcpkmaaDoorRd
set_option linter.unusedSimpArgs false
set_option linter.unusedVariables false
set_option linter.unusedSectionVars false
namespace Go.Proofs.YtbfjekmefcpkmaaDoor
open Go.RowKit

theorem memS_inr {S : List Nat} {n : Nat} {b c : List Nat} (h : ∀ x ∈ b ++ c, x ∈ S ∨ n ≤ x) : ∀ x ∈ c, x ∈ S ∨ n ≤ x := fun x hx => h x (List.mem_append_right _ hx)
structure OwH {α : Type} (k : Nat) (enc : α → List Value) (U T2 : TypeId) (w : World) (fpm fpr : List Nat) (A : Option Addr) (cap : Nat) (ll : List (List α)) (m : Int) (B : Option Addr) (n c : Nat) : Prop where
 is : ∃ hs f, Ow 1 encH U w fpm A cap hs ∧ (0 ≤ m ∧ m.toNat < hs.length) ∧ RowsOw k enc T2 w fpr f (hs.set m.toNat (B, n, c)) ll
 dj : Dj fpm fpr
section
variable {α : Type} {k : Nat} {enc : α → List Value} {w w' : World} {A : Option Addr} {ll : List (List α)} {U T2 : TypeId} {cap : Nat} {fpm fpr S : List Nat}
theorem OwH.low {m : Int} {B : Option Addr} {n c : Nat} (h : OwH k enc U T2 w fpm fpr A cap ll m B n c) : ∀ b ∈ fpm ++ fpr, b < w.heap.size := by
 obtain ⟨hs, f, h1, h3, h2⟩ := h.is
 intro b hb
 rcases List.mem_append.1 hb with hb | hb
 ·exact h1.low b hb
 ·exact h2.low b hb
theorem OwH.chg {m : Int} {B : Option Addr} {n c : Nat} (h : OwH k enc U T2 w fpm fpr A cap ll m B n c) (hc : Chg S w w') (hn : Dj (fpm ++ fpr) S) : OwH k enc U T2 w' fpm fpr A cap ll m B n c := by
 obtain ⟨hs, f, h1, h3, h2⟩ := h.is
 exact ⟨⟨hs, f, h1.chg hc (fun x hx => hn x (List.mem_append_left _ hx)), h3, h2.chg hc (fun x hx => hn x (List.mem_append_right _ hx))⟩, h.dj⟩
theorem OwH.at {m : Int} {B : Option Addr} {n c : Nat} (h : OwH k enc U T2 w fpm fpr A cap ll m B n c) : A.isSome = true ∧ 0 ≤ m ∧ m < ll.length := by
 obtain ⟨hs, f, h1, ⟨h3, h4⟩, h2⟩ := h.is
 have hl := h2.len
 rw [List.length_set] at hl
 exact ⟨((h1.sl encH_ok).is (geti_of h3 (List.getElem?_eq_getElem h4))).1, h3, by omega⟩
theorem OwR.grow (h : OwR k enc U T2 w fpm fpr A cap ll) {m : Int} {l : List α} (hg : geti ll m = some l) {B : Option Addr} {c : Nat} (hcell : w.cell? (elA A 1 m 0) = some (.slice B l.length c)) :
  ∃ fpi, (∀ b ∈ fpi, b ∈ fpr) ∧ Ow k enc T2 w fpi B c l ∧
  ∀ w' l' fp' B' c', Chg fpi w w' → Ow k enc T2 w' fp' B' c' l' → Ap w.heap.size fpi fp' → OwH k enc U T2 w' fpm (fpr ++ fp') A cap (ll.set m.toNat l') m B' l'.length c' := by
 obtain ⟨hs, f, h1, h2⟩ := h.is
 obtain ⟨h0, hlt, hget⟩ := geti_some hg
 obtain ⟨B0, c0, hv, hB⟩ := h2.row _ _ hget
 have hgh : geti hs m = some (B0, l.length, c0) := geti_of h0 hv
 have hc0 := (h1.sl encH_ok).cell (i := m) (x := (B0, l.length, c0)) hgh 0 rfl
 rw [hcell] at hc0
 simp only [Option.some.injEq, Value.slice.injEq] at hc0
 obtain ⟨rfl, _, rfl⟩ := hc0
 refine ⟨f m.toNat, h2.sub _, hB, fun w' l' fp' B' c' hc hO hap => ?_⟩
 have hlow : ∀ j, ∀ b ∈ f j, b < w.heap.size := fun j b hb => h2.low b (h2.sub j b hb)
 have hdi : Dj fpm (f m.toNat) := fun x hx hy => h.dj x hx (h2.sub _ x hy)
 refine ⟨⟨hs, fun j => if j = m.toNat then fp' else f j, h1.chg hc hdi, ⟨h0, by rw [h2.len]; omega⟩, ?_⟩, h.dj.app (Dj.ap hdi h1.low hap)⟩
 refine ⟨by simp [h2.len], fun j l2 hj => ?_, fun j j' hjj => ?_, fun j b hb => ?_, fun b hb => ?_⟩
 ·by_cases e : m.toNat = j
  ·subst e
   rw [List.getElem?_set_self (by omega)] at hj
   simp only [Option.some.injEq] at hj
   subst hj
   refine ⟨B', c', by rw [List.getElem?_set_self (by rw [h2.len]; omega)], ?_⟩
   rw [if_pos rfl]; exact hO
  ·rw [List.getElem?_set_ne e] at hj
   obtain ⟨A', c2, ha, hb⟩ := h2.row j l2 hj
   refine ⟨A', c2, by rw [List.getElem?_set_ne e]; exact ha, ?_⟩
   rw [if_neg (Ne.symm e)]
   exact hb.chg hc (h2.dj j m.toNat (Ne.symm e))
 ·by_cases e : j = m.toNat
  ·by_cases e' : j' = m.toNat
   ·omega
   ·simp only [e, if_true, if_neg e']
    exact (Dj.ap (h2.dj j' m.toNat e') (hlow j') hap).symm
  ·by_cases e' : j' = m.toNat
   ·simp only [e', if_true, if_neg e]
    exact Dj.ap (h2.dj j m.toNat e) (hlow j) hap
   ·simp only [if_neg e, if_neg e']; exact h2.dj j j' hjj
 ·by_cases e : j = m.toNat
  ·simp only [e, if_true] at hb; exact List.mem_append_right _ hb
  ·simp only [if_neg e] at hb; exact List.mem_append_left _ (h2.sub _ b hb)
 ·rcases List.mem_append.1 hb with hb | hb
  ·exact Nat.lt_of_lt_of_le (h2.low b hb) hc.size
  ·exact hO.low b hb
end
section
variable {P : Program} {ops : Array Oper} {Q : Exit → Act → World → Prop} {N i : Nat} {E : Env} {a : Act} {w : World} {α : Type} {k : Nat} {enc : α → List Value}
theorem wS_appH {d t U T2 : Nat} {z : Value} {A B A2 : Option Addr} {cap c cap2 : Nat} {ll : List (List α)} {l l2 : List α} {fpm fpr fp2 : List Nat} {m : Int} (ho : appI ops N E a i = some (d, t, .slice B l.length c, .slice A2 l2.length cap2))
  (hT : ElTy P t T2 k z) (he : EncOk k enc) (hO : OwR k enc U T2 w fpm fpr A cap ll) (hg : geti ll m = some l) (hcell : w.cell? (elA A 1 m 0) = some (.slice B l.length c)) (h2 : Sl k enc w fp2 A2 l2) (hlim : l.length + l2.length ≤ lim)
  (kk : ∀ w' fp' B' c', OwH k enc U T2 w' fpm (fpr ++ fp') A cap (ll.set m.toNat (l ++ l2)) m B' (l ++ l2).length c' → Chg fpr w w' → Ap w.heap.size fpr fp' → wS P ops Q N (i + 1) ((d, .slice B' (l ++ l2).length c') :: E) a w') : wS P ops Q N i E a w := by
 obtain ⟨fpi, hsub, hl, hgr⟩ := hO.grow hg hcell
 refine wS_appendAny ho hT he hl h2 hlim (fun w1 fp' B' c' h1 hc hap => ?_)
 refine kk w1 fp' B' c' (hgr w1 _ fp' B' c' hc h1 hap) (hc.more hsub) (fun b hb => ?_)
 rcases hap b hb with h | h
 ·exact Or.inl (hsub b h)
 ·exact Or.inr h
theorem wS_storeH {T U T2 cap c n : Nat} {A B : Option Addr} {ll : List (List α)} {fpm fpr : List Nat} {m : Int} (ho : storeI ops N E a i = some (T, .pointer (some (elA A 1 m 0)), .slice B n c)) (hT : pureRun P (sizeOf T) = some 1)
  (hO : OwH k enc U T2 w fpm fpr A cap ll m B n c)
  (kk : ∀ w', OwR k enc U T2 w' fpm fpr A cap ll → Chg fpm w w' → wS P ops Q N (i + 1) E a w') : wS P ops Q N i E a w := by
 obtain ⟨hs, f, h1, ⟨h0, hlt⟩, h2⟩ := hO.is
 have hgh : geti hs m = some (hs[m.toNat]) := geti_of h0 (List.getElem?_eq_getElem hlt)
 refine wS_storeEl (enc := encH) (x := hs[m.toNat]) (x' := ((B, n, c) : Hd)) (j := 0) (vs := [.slice B n c]) ho rfl hT rfl encH_ok h1 hgh (by simp) rfl (fun w2 hO' hc2 => ?_)
 exact kk w2 ⟨⟨_, f, hO', h2.chg hc2 hO.dj.symm⟩, hO.dj⟩ hc2
end
/-! ### Headers of the call's own over rows that are but read -/
structure OwHR {α : Type} (k : Nat) (enc : α → List Value) (T : TypeId) (w : World) (fpm fpA : List Nat) (A : Option Addr) (cap : Nat) (ll : List (List α)) : Prop where
 is : ∃ hs, Ow 1 encH T w fpm A cap hs ∧ RowsOk k enc w fpA hs ll
 dj : Dj fpm fpA
 lowA : ∀ b ∈ fpA, b < w.heap.size
section
variable {α : Type} {k : Nat} {enc : α → List Value} {w w' : World} {A : Option Addr} {ll : List (List α)} {U T T2 : TypeId} {cap : Nat} {fpm fpr fpA S : List Nat}
theorem OwR.hr (h : OwR k enc T T2 w fpm fpr A cap ll) (he : EncOk k enc) : OwHR k enc T w fpm fpr A cap ll := by
 obtain ⟨hs, f, h1, h2⟩ := h.is
 exact ⟨⟨hs, h1, h2.ok he⟩, h.dj, h2.low⟩
theorem OwHR.low (h : OwHR k enc T w fpm fpA A cap ll) : ∀ b ∈ fpm ++ fpA, b < w.heap.size := by
 obtain ⟨hs, h1, h2⟩ := h.is
 intro b hb
 rcases List.mem_append.1 hb with hb | hb
 ·exact h1.low b hb
 ·exact h.lowA b hb
theorem OwHR.slr (h : OwHR k enc T w fpm fpA A cap ll) : SlR k enc w (fpm ++ fpA) A ll := by
 have hl := h.low
 obtain ⟨hs, h1, h2⟩ := h.is
 exact ⟨hl, hs, (h1.sl encH_ok).fpMore (fun b hb => List.mem_append_left _ hb) hl, h2.fpMore (fun b hb => List.mem_append_right _ hb) hl⟩
theorem OwHR.chg (h : OwHR k enc T w fpm fpA A cap ll) (hc : Chg S w w') (hn : Dj (fpm ++ fpA) S) : OwHR k enc T w' fpm fpA A cap ll := by
 obtain ⟨hs, h1, h2⟩ := h.is
 exact ⟨⟨hs, h1.chg hc (fun x hx => hn x (List.mem_append_left _ hx)), h2.chg hc (fun x hx => hn x (List.mem_append_right _ hx))⟩, h.dj, fun b hb => Nat.lt_of_lt_of_le (h.lowA b hb) hc.size⟩
theorem OwHR.cap_le (h : OwHR k enc T w fpm fpA A cap ll) : ll.length ≤ cap := by
 obtain ⟨hs, h1, h2⟩ := h.is
 have := h1.cap_le
 rw [h2.1] at this; exact this
theorem Rt.inr {n : Nat} {P a b : List Nat} (h : Rt n P (a ++ b)) : Rt n P b := fun x hx => h x (List.mem_append_right _ hx)
theorem OwR.prefix (h : OwR k enc U T2 w fpm fpr A cap ll) (n : Nat) : OwR k enc U T2 w fpm fpr A cap (ll.take n) := by
 obtain ⟨hs, f, h1, h2⟩ := h.is
 refine ⟨⟨hs.take n, f, h1.prefix encH_ok n, ⟨by simp [h2.len], fun i l hl => ?_, h2.dj, h2.sub, h2.low⟩⟩, h.dj⟩
 rw [List.getElem?_take] at hl
 split at hl
 ·rename_i hi
  obtain ⟨B, c, g1, g2⟩ := h2.row i l hl
  exact ⟨B, c, by rw [List.getElem?_take, if_pos hi]; exact g1, g2⟩
 ·cases hl
end
section
variable {P : Program} {ops : Array Oper} {Q : Exit → Act → World → Prop} {N i : Nat} {E : Env} {a : Act} {w : World} {α : Type} {k : Nat} {enc : α → List Value}
end
end Go.Proofs.YtbfjekmefcpkmaaDoor
