/- Strings: their length, their bytes, and what bytes make. Slices of several slices written out. -/
import Derived.Test.YtbfjekmefcpkmaaDoorGat
import Derived.Laws.BytesString
import Derived.Lib.AppendZeros
set_option linter.unusedSimpArgs false
set_option linter.unusedVariables false
set_option linter.unusedSectionVars false
namespace Go.Proofs.YtbfjekmefcpkmaaDoor
open Go.RowKit

def bstr (l : List Int) : ByteArray := l.foldl (fun r n => r.push (UInt8.ofNat n.toNat)) ByteArray.empty
def sget (s : ByteArray) (i : Int) : Option Int := if 0 ≤ i then (s[i.toNat]?).map (fun b => (b.toNat : Int)) else none
structure StrTy (P : Program) (s t : TypeId) : Prop where
 sl : ∃ e, P.underlying s = some (.slice e) ∧ P.underlying e = some (.int .u8)
 str : P.underlying t = some .string
def cvtI (ops : Array Oper) (N : Nat) (E : Env) (a : Act) (i : Nat) : Option (Nat × TypeId × TypeId × Value) :=
 match atI ops N E a i with
 | some (some d, .convert s t x) => some (d, s, t, evE E a x)
 | _ => none
def sixI (ops : Array Oper) (N : Nat) (E : Env) (a : Act) (i : Nat) : Option (Nat × TypeId × Value × Value) :=
 match atI ops N E a i with
 | some (some d, .index T x ix) => some (d, T, evE E a x, evE E a ix)
 | _ => none
section
variable {P : Program} {ops : Array Oper} {Q : Exit → Act → World → Prop} {N i : Nat} {E : Env} {a : Act} {w ws : World} {Sg dn : List Nat}
theorem Sl.str {fp : List Nat} {A : Option Addr} {l : List Int} {cap s t : Nat} (h : Sl 1 encU w fp A l) (hT : StrTy P s t) : (convert s t (.slice A l.length cap)).run P w = .ok (.string (bstr l)) w := by
 obtain ⟨e, h1, h2⟩ := hT.sl
 rw [run_convert_bytes_string w s t e A l.length cap h1 h2 hT.str]
 cases A with
 | none =>
  have hl : l = [] := by
   cases l with
   | nil => rfl
   | cons x l =>
    obtain ⟨ad, hA, _⟩ := h.cells (by simp)
    cases hA
  subst hl
  simp [Conv.bytesToString, bstr]
 | some ad =>
  have hc : ∀ i u, (l.map (Value.int .u8))[i]? = some u → w.cell? (ad.add (0 + i)) = some u := fun i u hu => by
   rw [List.getElem?_map] at hu
   obtain ⟨x, hx, rfl⟩ := Option.map_eq_some_iff.1 hu
   obtain ⟨ad', hA, _, hcell⟩ := h.cells (by have := (List.getElem?_eq_some_iff.1 hx).1; omega)
   cases hA
   have := hcell i x hx 0 (.int .u8 x) rfl
   rw [Nat.zero_add]
   simpa [Addr.add] using this
  have h3 := run_loadCellsFrom (P := P) (w := w) (ad := ad) (l.map (Value.int .u8)) 0 #[] hc
  rw [run_bytesToString w ad l.length cap l (by rw [List.length_map] at h3; simpa [loadCells] using h3)]
  rfl
variable {α : Type} {k : Nat} {enc : α → List Value}
theorem wS_rowsL2 {d t T c1 c2 : Nat} {B1 B2 : Option Addr} {l1 l2 : List α} {fp1 fp2 : List Nat} (ho : bsI ops N E a i = some (d, t, 2, [(0, .slice B1 l1.length c1), (1, .slice B2 l2.length c2)])) (hT : ElTy P t T 1 (.slice none 0 0))
  (h1 : Sl k enc w fp1 B1 l1) (k1 : l1.length ≤ c1) (h2 : Sl k enc w fp2 B2 l2) (k2 : l2.length ≤ c2)
  (kk : ∀ b w', w.heap.size ≤ b → OwHR k enc T w' [b] (fp1 ++ (fp2 ++ [])) (some ⟨b, 0, none⟩) 2 [l1, l2] → Chg [] w w' → wS P ops Q N (i + 1) ((d, .slice (some ⟨b, 0, none⟩) 2 2) :: E) a w') : wS P ops Q N i E a w := by
 refine wS_bs (enc := encH) ([(B1, l1.length, c1), (B2, l2.length, c2)] : List Hd) [.slice B1 l1.length c1, .slice B2 l2.length c2] ho hT encH_ok rfl (by omega) (by omega) (by kernel_rfl) (by rfl) (fun b w' g1 g2 g3 => ?_)
 have hlow : ∀ x ∈ fp1 ++ (fp2 ++ []), x < w.heap.size := fun x hx => by
  simp only [List.append_nil] at hx
  rcases List.mem_append.1 hx with hx | hx
  ·exact h1.low x hx
  ·exact h2.low x hx
 have hlow' : ∀ x ∈ fp1 ++ (fp2 ++ []), x < w'.heap.size := fun x hx => Nat.lt_of_lt_of_le (hlow x hx) g3.size
 refine kk b w' g1 ⟨⟨_, g2, rfl, fun j l hj => ?_⟩, fun x hx hy => ?_, hlow'⟩ g3
 ·match j with
  | 0 => simp only [List.getElem?_cons_zero, Option.some.injEq] at hj; subst hj; exact ⟨B1, c1, rfl, (h1.chg g3 Dj.nil).fpMore (fun x hx => List.mem_append_left _ hx) hlow', k1⟩
  | 1 => simp only [List.getElem?_cons_succ, List.getElem?_cons_zero, Option.some.injEq] at hj; subst hj; exact ⟨B2, c2, rfl, (h2.chg g3 Dj.nil).fpMore (fun x hx => List.mem_append_right _ (List.mem_append_left _ hx)) hlow', k2⟩
  | j + 2 => simp at hj
 ·simp only [List.mem_singleton] at hx; subst hx; have := hlow _ hy; omega
end
def appZI (ops : Array Oper) (N : Nat) (E : Env) (a : Act) (i : Nat) : Option (Nat × TypeId × TypeId × Value × Value) :=
 match atI ops N E a i with
 | some (some d, .call c) => match c.callee, c.args.toList, c.argTypes.toList with
  | .builtin .append, [s, x], [t, t'] => some (d, t, t', evE E a s, evE E a x)
  | _, _, _ => none
 | _ => none
section
variable {P : Program} {ops : Array Oper} {Q : Exit → Act → World → Prop} {N i : Nat} {E : Env} {a : Act} {w : World} {α : Type} {k : Nat} {enc : α → List Value}
theorem wS_appZ {d t tn T : Nat} {z : Value} {x0 : α} {kn kq : IntKind} {m : Int} (ho : appZI ops N E a i = some (d, t, tn, .slice none 0 0, .int kn m)) (hT : ElTy P t T k z) (htn : P.underlying tn = some (.int kq)) (he : EncOk k enc) (hz : z.cells.toList = enc x0) (h0 : 0 ≤ m) (hlim : m ≤ lim) (hpos : 0 < m)
    (kk : ∀ b w' cap, w.heap.size ≤ b → Ow k enc T w' [b] (some ⟨b, 0, none⟩) cap (List.replicate m.toNat x0) → Chg [] w w' → wS P ops Q N (i + 1) ((d, .slice (some ⟨b, 0, none⟩) (List.replicate m.toNat x0).length cap) :: E) a w') : wS P ops Q N i E a w := by
  unfold appZI at ho
  split at ho
  · rename_i d' c hat
    split at ho
    · rename_i s' x' t1 t2 hc ha ht
      simp only [Option.some.injEq, Prod.mk.injEq] at ho
      obtain ⟨rfl, rfl, rfl, hs', hx'⟩ := ho
      obtain ⟨g1, g2, g3⟩ := atI_spec hat
      obtain ⟨inf, hi, hzz, hs, hb⟩ := hT.info
      obtain ⟨n, rfl⟩ := Int.eq_ofNat_of_zero_le h0
      simp only [Int.toNat_natCast] at kk
      unfold lim at hlim
      have hk := he.pos
      have hnb : n * inf.bytes ≤ 281474976710656 := by
        calc n * inf.bytes ≤ n * 128 := Nat.mul_le_mul_left _ hb
             _ ≤ 281474976710656 := by omega
      have hrun := fun ty => Lib.run_append_nil_zeros (P := P) w t1 t2 ty T inf z kn kq hT.und htn hi hzz n (by omega) (by omega) (by omega) hnb
      have hge := grownCap_ge w n 0 T
      have hle := grownCap_le_maxLen w n 0 T (by unfold maxLen; omega)
      generalize grownCap w n 0 T = cap at *
      have hzs : z.cells.size = k := hT.cells
      have hm : Builtin.zeroCells z.cells n = madeCells z.cells (n * k) := by unfold Builtin.zeroCells madeCells; rw [hzs]
      have hOw : Ow k enc T (w.drew.alloc (.cells (Builtin.zeroCells z.cells n ++ Builtin.zeroCells z.cells (cap - n)) T)) [w.heap.size] (some ⟨w.heap.size, 0, none⟩) cap (List.replicate n x0) := by
        have hsz1 : (Builtin.zeroCells z.cells n).size = n * k := by rw [hm, size_madeCells]
        have hsz2 : (Builtin.zeroCells z.cells (cap - n)).size = (cap - n) * k := by unfold Builtin.zeroCells; simp [hzs]
        refine ⟨Or.inr ⟨w.heap.size, (Builtin.zeroCells z.cells n ++ Builtin.zeroCells z.cells (cap - n)).toList, rfl, rfl, ?_, ?_, by simpa using hge, hle, ?_⟩⟩
        · unfold Cl
          show (w.drew.heap.push _)[w.heap.size]? = _
          have : w.drew.heap = w.heap := rfl
          rw [this]; simp
        · rw [Array.length_toList, Array.size_append, hsz1, hsz2, ← Nat.add_mul]; congr 1; omega
        · rw [List.length_replicate, Array.toList_append, List.take_append_of_le_length (by rw [Array.length_toList, hsz1]; exact Nat.le_refl _), List.take_of_length_le (by rw [Array.length_toList, hsz1]; exact Nat.le_refl _), hm, made_flat he hz]
      have hty : c.argTypes = #[t1, t2] := by apply Array.ext'; exact ht
      have hargs : c.args.map (evE E a) = #[.slice none 0 0, .int kn (n : Int)] := by
        apply Array.ext'
        rw [Array.toList_map, ha]
        simp [hs', hx']
      refine wS_val g1 g2 (g3 _ rfl) (fun o ho => ?_) (kk w.heap.size _ cap (Nat.le_refl _) hOw (Chg.trans (Chg.drew w) (Chg.alloc _ _)))
      have hrun' := hrun
      simp only [execOp, ho, resolve, hc]
      simp [invoke, builtin, hargs, hty, hrun']
    · cases ho
  · cases ho
end
end Go.Proofs.YtbfjekmefcpkmaaDoor
