/- Two structs of two integers held against one another. -/
import Derived.Test.YtbfjekmefcpkmaaDoorRw3
set_option linter.unusedSimpArgs false
set_option linter.unusedVariables false
set_option linter.unusedSectionVars false
namespace Go.Proofs.YtbfjekmefcpkmaaDoor
open Go.RowKit

structure EqTy (P : Program) (T : TypeId) (f0 f1 : Field) : Prop where
 und : P.underlying T = some (.struct #[f0, f1])
 held : P.stoodInHeld T = false
 n0 : (f0.name == "_") = false
 n1 : (f1.name == "_") = false
 g0 : ∀ w, (isAgg f0.type).run P w = .ok false w
 g1 : ∀ w, (isAgg f1.type).run P w = .ok false w
 o0 : f0.offset = 0
 o1 : f1.offset = 1
 u0 : P.underlying f0.type = some (.int .i64)
 u1 : P.underlying f1.type = some (.int .i64)
 gt : P.eqGuardType P.depth T = false
def eqI (ops : Array Oper) (N : Nat) (E : Env) (a : Act) (i : Nat) : Option (Nat × TypeId × Value × Value) :=
 match atI ops N E a i with
 | some (some d, .binOp .eql T x y _) => some (d, T, evE E a x, evE E a y)
 | _ => none
def neI (ops : Array Oper) (N : Nat) (E : Env) (a : Act) (i : Nat) : Option (Nat × TypeId × Value × Value) :=
 match atI ops N E a i with
 | some (some d, .binOp .neq T x y _) => some (d, T, evE E a x, evE E a y)
 | _ => none
section
variable {P : Program} {ops : Array Oper} {Q : Exit → Act → World → Prop} {N i : Nat} {E : Env} {a : Act} {w ws : World} {Sg dn : List Nat} {T : TypeId} {d : Nat} {x y x' y' : Int}
end
/-! ### The beginning of a slice of the call's own -/
theorem take_flatMap {α : Type} {k : Nat} {enc : α → List Value} (he : EncOk k enc) : ∀ (l : List α) (n : Nat), (l.flatMap enc).take (n * k) = (l.take n).flatMap enc
 | [], n => by simp
 | x :: l, 0 => by simp
 | x :: l, n + 1 => by
  rw [List.flatMap_cons, List.take_succ_cons, List.flatMap_cons, show (n + 1) * k = (enc x).length + n * k by rw [he.len, Nat.add_mul]; omega, List.take_length_add_append, take_flatMap he l n]
theorem Ow.prefix {α : Type} {k : Nat} {enc : α → List Value} {T : TypeId} {w : World} {fp : List Nat} {A : Option Addr} {cap : Nat} {l : List α} (he : EncOk k enc) (h : Ow k enc T w fp A cap l) (n : Nat) : Ow k enc T w fp A cap (l.take n) := by
 rcases h.is with ⟨h1, rfl, h3, h4⟩ | ⟨g, cs, h1, h2, h3, h4, h5, h6, h7⟩
 ·exact ⟨Or.inl ⟨h1, by simp, h3, h4⟩⟩
 ·refine ⟨Or.inr ⟨g, cs, h1, h2, h3, h4, by rw [List.length_take]; omega, h6, ?_⟩⟩
  have hn : (l.take n).length = min n l.length := List.length_take ..
  rw [← take_flatMap he l n, ← h7, List.take_take, hn]
  congr 1
  rcases Nat.le_total n l.length with hle | hle
  ·rw [Nat.min_eq_left hle, Nat.min_eq_left (Nat.mul_le_mul_right k hle)]
  ·rw [Nat.min_eq_right hle, Nat.min_eq_right (Nat.mul_le_mul_right k hle)]
section
variable {α : Type} {k : Nat} {enc : α → List Value} {P : Program} {ops : Array Oper} {Q : Exit → Act → World → Prop} {N i : Nat} {E : Env} {a : Act} {w ws : World} {Sg dn : List Nat}
theorem slc_bounds {P : Program} (w : World) {n cap hi : Nat} (h : hi ≤ n) (hc : n ≤ cap) : (Instr.sliceBounds true n cap none (some (.int .i64 (hi : Int))) none).run P w = .ok (0, hi, cap) w := by
 have hhc : (hi : Int) ≤ cap := by omega
 have hhc' : hi ≤ cap := by omega
 simp [Instr.sliceBounds, Instr.sliceBound, asIntOf, hhc', Nat.not_lt.2 hhc']
theorem add_zero (a : Addr) : a.add 0 = a := by unfold Addr.add; simp
theorem wS_prefix {d T e U cap : Nat} {A : Option Addr} {l l' : List α} {fp : List Nat} {hi : Int} (ho : slcI ops N E a i = some (d, T, .slice A l.length cap, none, some (.int .i64 hi))) (hT : SlTy P T e k) (he : EncOk k enc) (hO : Ow k enc U w fp A cap l)
  (hc : l.length ≤ cap) (hs : slci l 0 hi = some l') (kk : l' = l.take hi.toNat → Ow k enc U w fp A cap l' → wS P ops Q N (i + 1) ((d, .slice A l'.length cap) :: E) a w) : wS P ops Q N i E a w := by
 obtain ⟨⟨_, h1, h2⟩, rfl⟩ := slci_some hs
 unfold slcI at ho
 split at ho
 ·rename_i d' T' x lo' hi' hat
  simp only [Option.some.injEq, Prod.mk.injEq] at ho
  obtain ⟨rfl, rfl, hx, hl', hh'⟩ := ho
  obtain ⟨g1, g2, g3⟩ := atI_spec hat
  obtain ⟨hi, rfl⟩ := Int.eq_ofNat_of_zero_le h1
  simp only [Int.toNat_natCast, Int.toNat_zero, List.drop_zero] at kk
  have hhi : hi ≤ l.length := by omega
  have hlen : (l.take hi).length = hi := by rw [List.length_take]; omega
  have hkk := kk trivial (hO.prefix he hi)
  rw [hlen] at hkk
  refine wS_val g1 g2 (g3 _ rfl) (fun o ho => ?_) hkk
  have hsz := pureRun_run hT.size w
  have hb1 := slc_bounds (P := P) w hhi hc
  have hA : (if cap = 0 then A else A.map (·.add (0 * k))) = A := by
   split
   ·rfl
   ·cases A with
    | none => rfl
    | some ad => simp [add_zero]
  simp only [execOp, ho]
  simp [Instr.sliceAt, run_underlying hT.und, hx, hl', hh', Instr.slice, hb1, hsz]
  simpa using hA
 ·cases ho
def slc {α : Type} (l : List α) (lo hi : Int) : List α := (l.take hi.toNat).drop lo.toNat
theorem slci_slc {l l' : List α} {lo hi : Int} (h : slci l lo hi = some l') : l' = slc l lo hi := (slci_some h).2
theorem wS_cutA {d T e n cap : Nat} {A : Option Addr} {l l' : List α} {fp : List Nat} {vlo vhi : Option Value} {lo hi : Int} (ho : slcI ops N E a i = some (d, T, .slice A l.length cap, vlo, vhi)) (hT : SlTy P T e k)
  (hlo : vlo = some (.int .i64 lo) ∨ vlo = none ∧ lo = 0) (hhi : vhi = some (.int .i64 hi) ∨ vhi = none ∧ hi = l.length) (h : Sl k enc w fp A l) (hcap : l.length ≤ cap) (hs : slci l lo hi = some l')
  (kk : ∀ A' c', A' = (if cap = lo.toNat then A else A.map (·.add (lo.toNat * k))) → Sl k enc w fp A' (slc l lo hi) → (slc l lo hi).length ≤ c' → wS P ops Q N (i + 1) ((d, .slice A' (slc l lo hi).length c') :: E) a w) : wS P ops Q N i E a w := by
 obtain ⟨⟨h0, h1, h2⟩, rfl⟩ := slci_some hs
 unfold slcI at ho
 split at ho
 ·rename_i d' T' x lo' hi' hat
  simp only [Option.some.injEq, Prod.mk.injEq] at ho
  obtain ⟨rfl, rfl, hx, hl', hh'⟩ := ho
  obtain ⟨g1, g2, g3⟩ := atI_spec hat
  obtain ⟨lo, rfl⟩ := Int.eq_ofNat_of_zero_le h0
  obtain ⟨hi, rfl⟩ := Int.eq_ofNat_of_zero_le (show 0 ≤ hi by omega)
  have hlen : (slc l (lo : Int) (hi : Int)).length = hi - lo := by unfold slc; simp; omega
  have hkk := kk _ (cap - lo) rfl (h.cut (cap := cap) (by omega) (by omega) hcap) (by rw [hlen]; omega)
  rw [hlen] at hkk
  refine wS_val g1 g2 (g3 _ rfl) (fun o ho => ?_) hkk
  have hsz := pureRun_run hT.size w
  have hb1 : (Instr.sliceBounds true l.length cap vlo vhi none).run P w = .ok (lo, hi, cap) w := by
   have hhc : (hi : Int) ≤ cap := by omega
   have hlh : (lo : Int) ≤ hi := by omega
   have hhc' : hi ≤ cap := by omega
   have hlh' : lo ≤ hi := by omega
   rcases hlo with rfl | ⟨rfl, e⟩ <;> rcases hhi with rfl | ⟨rfl, e'⟩
   ·simp [Instr.sliceBounds, Instr.sliceBound, asIntOf, hhc', hlh']
   ·have : hi = l.length := by omega
    subst this
    simp [Instr.sliceBounds, Instr.sliceBound, asIntOf, hlh', Nat.not_lt.2 hlh']
   ·have : lo = 0 := by omega
    subst this
    simp [Instr.sliceBounds, Instr.sliceBound, asIntOf, hhc', Nat.not_lt.2 hhc']
   ·have : lo = 0 := by omega
    have : hi = l.length := by omega
    subst lo; subst this
    simp [Instr.sliceBounds]
  simp only [execOp, ho]
  simp [Instr.sliceAt, run_underlying hT.und, hx, hl', hh', Instr.slice, hb1, hsz]
 ·cases ho
theorem wS_valN {op : Op} {v : Value} {w' : World} (ho : opI ops i = some (none, op)) (hg : wantI ops E a i = some true)
  (hr : ∀ o : Oper, o.op = op → (execOp (evE E a) o).run P w = .ok (.value v) w') (k : wS P ops Q N (i + 1) E a w') : wS P ops Q N i E a w := by
 intro hst
 obtain ⟨o, hi, hdst, hop, hdrop⟩ := opI_drop ho
 have hw : wantE ops E a o = some true := by unfold wantI at hg; rw [hi] at hg; simpa using hg
 rw [hdrop]
 simp only [wpList]
 rw [if_pos (wantE_spec hst hw)]; left
 unfold Oper.wp
 rw [hst.eval, hr o hop]
 have := k hst
 show wpList P ops Q _ ((putE E a).put o.dst v) w'
 rw [hdst]
 exact this
def clr {α : Type} (z : α) (l : List α) (lo : Int) : List α := l.take lo.toNat ++ List.replicate (l.length - lo.toNat) z
def clrI (ops : Array Oper) (N : Nat) (E : Env) (a : Act) (i : Nat) : Option (TypeId × Value) :=
 match atI ops N E a i with
 | some (none, .call c) => match c.callee, c.args.toList, c.argTypes.toList with
  | .builtin .clear, [s], [t] => some (t, evE E a s)
  | _, _, _ => none
 | _ => none
theorem zero_flat {α : Type} {k : Nat} {enc : α → List Value} (he : EncOk k enc) {z : Value} {x0 : α} (hz : z.cells.toList = enc x0) (n : Nat) : (Builtin.zeroCells z.cells n).toList = (List.replicate n x0).flatMap enc := by
 have h := made_flat he hz n
 rw [← h]
 have hsz : z.cells.size = k := by rw [← Array.length_toList, hz, he.len]
 simp [Builtin.zeroCells, madeCells, hsz]
theorem wS_clear {T U cap c' : Nat} {z : Value} {x0 : α} {A A' : Option Addr} {l l0 : List α} {fp : List Nat} {lo : Int} (ho : clrI ops N E a i = some (T, .slice A' (slc l lo l.length).length c')) (hT : ElTy P T U k z) (he : EncOk k enc) (hz : z.cells.toList = enc x0) (hzz : pureRun P (zeroValue U) = some z)
    (hO : Ow k enc U w fp A cap l) (hA : A' = if cap = lo.toNat then A else A.map (·.add (lo.toNat * k))) (hs : slci l0 lo l.length = some (slc l0 lo l.length)) (hl : l.length = l0.length)
    (kk : ∀ w', Ow k enc U w' fp A cap (clr x0 l lo) → (clr x0 l lo).length = l.length → Chg fp w w' → wS P ops Q N (i + 1) E a w') : wS P ops Q N i E a w := by
  obtain ⟨⟨h0, h1, h2⟩, _⟩ := slci_some hs
  obtain ⟨lo, rfl⟩ := Int.eq_ofNat_of_zero_le h0
  have hlo : lo ≤ l.length := by omega
  simp only [Int.toNat_natCast] at hA
  have hn : (slc l (lo : Int) (l.length : Int)).length = l.length - lo := by unfold slc; simp
  have hcl : (clr x0 l (lo : Int)).length = l.length := by unfold clr; simp; omega
  unfold clrI at ho
  split at ho
  · rename_i c hat
    split at ho
    · rename_i s t hcal hargs htys
      simp only [Option.some.injEq, Prod.mk.injEq] at ho
      obtain ⟨rfl, hx⟩ := ho
      obtain ⟨g1, g2, g3⟩ := atI_spec hat
      rw [hn] at hx
      have ha : c.args.map (evE E a) = #[.slice A' (l.length - lo) c'] := by rw [← Array.toArray_toList (xs := c.args), hargs]; simp [hx]
      have hty : c.argTypes = #[t] := by rw [← Array.toArray_toList (xs := c.argTypes), htys]
      by_cases he0 : l.length = lo
      · have hcl2 : clr x0 l (lo : Int) = l := by unfold clr; simp only [Int.toNat_natCast]; rw [← he0]; simp
        have hkk := kk w (by rw [hcl2]; exact hO) hcl (Chg.refl _ _)
        refine wS_valN (v := .tuple #[]) g1 g2 (fun o' ho' => ?_) hkk
        have hrun : ∀ ty, (Builtin.clear_ #[t] ty #[.slice A' 0 c']).run P w = .ok (.tuple #[]) w := fun ty => by
          cases A' <;> simp [Builtin.clear_, run_underlying hT.und]
        have h00 : l.length - lo = 0 := by omega
        rw [h00] at ha
        simp only [execOp, ho', resolve, hcal]
        simp [invoke, builtin, ha, hty, hrun]
      · rcases hO.is with ⟨_, rfl, _, _⟩ | ⟨g, cs, rfl, rfl, hC, hcs, hlc, hmx, ht⟩
        · simp at hlo he0; omega
        · rw [if_neg (by omega)] at hA
          have hadd : (⟨g, 0, none⟩ : Addr).add (lo * k) = ⟨g, lo * k, none⟩ := by
            unfold Addr.add; split
            · rename_i e; rw [e]
            · simp
          simp only [Option.map_some, hadd] at hA
          subst hA
          have hk := he.pos
          have hle : l.length * k ≤ cs.length := by rw [hcs]; exact Nat.mul_le_mul_right k hlc
          have hzl : ((List.replicate (l.length - lo) x0).flatMap enc).length = (l.length - lo) * k := by rw [flatMap_length he]; simp
          have hsum : lo * k + (l.length - lo) * k = l.length * k := by rw [← Nat.add_mul]; congr 1; omega
          have hone : ∀ u ∈ (List.replicate (l.length - lo) x0).flatMap enc, u.oneCell' = true := fun u hu => by obtain ⟨y, _, hy⟩ := List.mem_flatMap.1 hu; exact he.one y u hy
          have hrun := run_storeCells_at P g (lo * k) U ((List.replicate (l.length - lo) x0).flatMap enc) 0 cs.toArray w hC (by simp only [Nat.add_zero, List.size_toArray]; rw [hzl]; omega) hone
          simp only [Nat.add_zero, List.toList_toArray] at hrun
          have hO' : Ow k enc U (w.setRow g (setL cs (lo * k) ((List.replicate (l.length - lo) x0).flatMap enc)).toArray) [g] (some ⟨g, 0, none⟩) cap (clr x0 l (lo : Int)) := by
            refine ⟨Or.inr ⟨g, _, rfl, rfl, setRow_heap w g cs.toArray _ U (0, 0) hC, by rw [length_setL (by rw [hzl]; omega)]; exact hcs, by rw [hcl]; exact hlc, hmx, ?_⟩⟩
            have e1 : cs = cs.take (l.length * k) ++ cs.drop (l.length * k) := (List.take_append_drop ..).symm
            have e2 : (cs.take (lo * k)) = (l.take lo).flatMap enc := by
              rw [← take_flatMap he, ← ht, List.take_take]; congr 1; rw [Nat.min_eq_left (by have := Nat.mul_le_mul_right k hlo; omega)]
            rw [hcl]
            unfold setL clr
            simp only [Int.toNat_natCast]
            rw [e2, List.flatMap_append, List.take_append_of_le_length (by rw [List.length_append, hzl, flatMap_length he, List.length_take]; have : min lo l.length = lo := by omega
                                                                           rw [this]; omega), List.take_of_length_le]
            rw [List.length_append, hzl, flatMap_length he, List.length_take]
            have : min lo l.length = lo := by omega
            rw [this]; omega
          refine wS_valN (v := .tuple #[]) (w' := w.setRow g (setL cs (lo * k) ((List.replicate (l.length - lo) x0).flatMap enc)).toArray) g1 g2 (fun o' ho' => ?_)
            (kk _ hO' hcl ⟨rfl, rfl, rfl, by simp [World.setRow], fun k _ hk => setRow_other w g k _ (fun e => hk (by simp [e])), by simp [World.setRow]⟩)
          obtain ⟨m, hm⟩ : ∃ m, l.length - lo = m + 1 := ⟨l.length - lo - 1, by omega⟩
          have hzv := pureRun_run hzz w
          have hrun2 : ∀ ty, (Builtin.clear_ #[t] ty #[.slice (some ⟨g, lo * k, none⟩) (l.length - lo) c']).run P w = .ok (.tuple #[]) (w.setRow g (setL cs (lo * k) ((List.replicate (l.length - lo) x0).flatMap enc)).toArray) := fun ty => by
            unfold setL
            rw [← zero_flat he hz] at hrun ⊢
            rw [hm] at hrun ⊢
            simp [Builtin.clear_, run_underlying hT.und, hzv, hrun]
          simp only [execOp, ho', resolve, hcal]
          simp [invoke, builtin, ha, hty, hrun2]
    · cases ho
  · cases ho
end
/-! ### Slices that are nil -/
section
variable {α : Type} {k : Nat} {enc : α → List Value} {T T2 : TypeId} {w : World} {fp fpr : List Nat} {cap : Nat}
theorem Sl.none_nil {l : List α} (h : Sl k enc w fp none l) : l = [] := by
 cases l with
 | nil => rfl
 | cons x r => obtain ⟨_, e, _⟩ := h.cells (by simp); cases e
theorem Ow.none_nil {l : List α} (h : Ow k enc T w fp none cap l) : l = [] := by
 rcases h.is with ⟨_, e, _⟩ | ⟨g, cs, e, _⟩
 ·exact e
 ·cases e
theorem SlR.none_nil {ll : List (List α)} (h : SlR k enc w fp none ll) : ll = [] := by
 cases ll with
 | nil => rfl
 | cons x r => have := (h.is (i := 0) (l := x) rfl).1; cases this
end
end Go.Proofs.YtbfjekmefcpkmaaDoor
