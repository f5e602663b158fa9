/- The engine's steps: loads, stores, new blocks, elements of slices, calls. -/
import Derived.Test.YtbfjekmefcpkmaaDoorEng
import Derived.Laws.OwnMore
import Derived.Below
set_option linter.unusedSimpArgs false
set_option linter.unusedVariables false
namespace Go.Proofs.YtbfjekmefcpkmaaDoor
open Go.RowKit

/-! ### What has turned between two worlds -/
structure Chg (S : List Nat) (w w' : World) : Prop where
 os : w'.os = w.os
 tape : w'.tape = w.tape
 output : w'.output = w.output
 size : w.heap.size ≤ w'.heap.size
 block : ∀ k, k < w.heap.size → k ∉ S → w'.heap[k]? = w.heap[k]?
 drawn : w.drawn ≤ w'.drawn
theorem Chg.refl (S : List Nat) (w : World) : Chg S w w := ⟨rfl, rfl, rfl, Nat.le_refl _, fun _ _ _ => rfl, Nat.le_refl _⟩
theorem Chg.trans {S : List Nat} {a b c : World} (h : Chg S a b) (k : Chg S b c) : Chg S a c :=
 ⟨k.os.trans h.os, k.tape.trans h.tape, k.output.trans h.output, Nat.le_trans h.size k.size, fun i hi hn => (k.block i (Nat.lt_of_lt_of_le hi h.size) hn).trans (h.block i hi hn), Nat.le_trans h.drawn k.drawn⟩
theorem Chg.inS {S S' : List Nat} {a b c : World} (h : Chg S a b) (k : Chg S' b c) (hS : ∀ x ∈ S', x ∈ S ∨ a.heap.size ≤ x) : Chg S a c :=
 ⟨k.os.trans h.os, k.tape.trans h.tape, k.output.trans h.output, Nat.le_trans h.size k.size, fun i hi hn =>
  (k.block i (Nat.lt_of_lt_of_le hi h.size) (fun hx => by rcases hS i hx with h1 | h1; exact hn h1; omega)).trans (h.block i hi hn), Nat.le_trans h.drawn k.drawn⟩
theorem Chg.new {S S' : List Nat} {a b c : World} (h : Chg S a b) (k : Chg S' b c) (hS : ∀ x ∈ S', a.heap.size ≤ x) : Chg S a c :=
 ⟨k.os.trans h.os, k.tape.trans h.tape, k.output.trans h.output, Nat.le_trans h.size k.size, fun i hi hn =>
  (k.block i (Nat.lt_of_lt_of_le hi h.size) (fun hx => by have := hS i hx; omega)).trans (h.block i hi hn), Nat.le_trans h.drawn k.drawn⟩
theorem Chg.more {S S' : List Nat} {a b : World} (h : Chg S a b) (hS : ∀ x ∈ S, x ∈ S') : Chg S' a b :=
 ⟨h.os, h.tape, h.output, h.size, fun i hi hn => h.block i hi (fun hx => hn (hS i hx)), h.drawn⟩
theorem Chg.below {a b : World} (h : Chg [] a b) : Below a.heap.size a b := ⟨h.os, h.tape, h.output, h.size, fun i hi => h.block i hi (by simp)⟩
theorem Chg.alloc (w : World) (o : Obj) : Chg [] w (w.alloc o) := ⟨rfl, rfl, rfl, by simp, fun i hi _ => Below.heap_alloc w o i hi, Nat.le_refl _⟩
theorem Chg.setCell (w : World) (p : Addr) (u : Value) : Chg [p.block] w (w.setCell p u) :=
 ⟨rfl, rfl, rfl, by simp [World.setCell], fun i hi hn => Below.heap_setCell w p u i (fun e => hn (by simp [e])), by simp [World.setCell]⟩
theorem Chg.grown {w w' : World} {row : Option Nat} (h : w.grownBy w' row) (hd : w.drawn ≤ w'.drawn) : Chg row.toList w w' :=
 ⟨h.os, h.tape, h.output, h.size, fun i hi hn => h.block i hi (fun e => hn (by rw [← e]; simp)), hd⟩
theorem Chg.drew (w : World) : Chg [] w w.drew := ⟨rfl, rfl, rfl, Nat.le_refl _, fun _ _ _ => rfl, Nat.le_succ _⟩
theorem Chg.cell {S : List Nat} {w w' : World} (h : Chg S w w') {p : Addr} (hp : p.block < w.heap.size) (hn : p.block ∉ S) : w'.cell? p = w.cell? p := World.cell?_of_block (h.block _ hp hn)
theorem Chg.frozen {S : List Nat} {w w' : World} (h : Chg S w w') {p : Addr} (hp : p.block < w.heap.size) (hn : p.block ∉ S) : w'.frozen? p = w.frozen? p := World.frozen?_of_block (h.block _ hp hn)
def Dj (a b : List Nat) : Prop := ∀ x ∈ a, x ∉ b
theorem Dj.nil {a : List Nat} : Dj a [] := fun _ _ h => by cases h
theorem Dj.symm {a b : List Nat} (h : Dj a b) : Dj b a := fun x hx hy => h x hy hx
theorem Dj.of {a b : List Nat} {n : Nat} (ha : ∀ x ∈ a, x < n) (hb : ∀ x ∈ b, n ≤ x) : Dj a b := fun x hx hy => by have := ha x hx; have := hb x hy; omega

/-! ### A block that is known whole -/
def Cl (w : World) (b : Nat) (T : TypeId) (cs : List Value) : Prop := w.heap[b]? = some (.cells cs.toArray T (0, 0))
section
variable {w w' : World} {b : Nat} {T : TypeId} {cs : List Value} {S : List Nat}
theorem Cl.lt (h : Cl w b T cs) : b < w.heap.size := by
 rcases Nat.lt_or_ge b w.heap.size with hlt | hge
 ·exact hlt
 ·unfold Cl at h; rw [Array.getElem?_eq_none hge] at h; cases h
theorem Cl.cell (h : Cl w b T cs) (i : Nat) : w.cell? ⟨b, i, none⟩ = cs[i]? := by
 rw [cell_of_row w b i cs.toArray T (0, 0) h]; simp
theorem Cl.frozen (h : Cl w b T cs) (i : Nat) : w.frozen? ⟨b, i, none⟩ = false := by unfold Cl at h; simp [World.frozen?, h]
theorem Cl.chg (h : Cl w b T cs) (hc : Chg S w w') (hn : b ∉ S) : Cl w' b T cs := (hc.block b h.lt hn).trans h
theorem Cl.new (w : World) (T : TypeId) (cs : List Value) : Cl (w.alloc (.cells cs.toArray T)) w.heap.size T cs := heap_alloc_new w _
theorem Cl.set (h : Cl w b T cs) (i : Nat) (u : Value) : Cl (w.setCell ⟨b, i, none⟩ u) b T (cs.set i u) := by
 unfold Cl at h ⊢
 simp [World.setCell, Array.getElem?_modify, h]
end

/-! ### A slice that is read -/
def adr (A : Option Addr) : Addr := A.getD default
def elA (A : Option Addr) (k : Nat) (i : Int) (j : Nat) : Addr := ((adr A).add (i.toNat * k)).add j
def geti {α : Type} (l : List α) (i : Int) : Option α := if 0 ≤ i then l[i.toNat]? else none
theorem geti_some {α : Type} {l : List α} {i : Int} {x : α} (h : geti l i = some x) : 0 ≤ i ∧ i < l.length ∧ l[i.toNat]? = some x := by
 unfold geti at h
 split at h
 ·rename_i h0
  refine ⟨h0, ?_, h⟩
  obtain ⟨hlt, _⟩ := List.getElem?_eq_some_iff.1 h
  omega
 ·cases h
theorem add_block (a : Addr) (n : Nat) : (a.add n).block = a.block := by unfold Addr.add; split <;> rfl
theorem add_add' (a : Addr) (i j : Nat) : (a.add i).add j = a.add (i + j) := by
 unfold Addr.add
 by_cases hi : i = 0 <;> by_cases hj : j = 0 <;> simp [hi, hj, Nat.add_assoc]
structure Sl {α : Type} (k : Nat) (enc : α → List Value) (w : World) (fp : List Nat) (A : Option Addr) (l : List α) : Prop where
 low : ∀ b ∈ fp, b < w.heap.size
 cells : 0 < l.length → ∃ ad, A = some ad ∧ ad.block ∈ fp ∧ ∀ i x, l[i]? = some x → ∀ j u, (enc x)[j]? = some u → w.cell? ((ad.add (i * k)).add j) = some u
section
variable {α : Type} {k : Nat} {enc : α → List Value} {w w' : World} {fp S : List Nat} {A : Option Addr} {l : List α}
theorem Sl.chg (h : Sl k enc w fp A l) (hc : Chg S w w') (hn : Dj fp S) : Sl k enc w' fp A l :=
 ⟨fun b hb => Nat.lt_of_lt_of_le (h.low b hb) hc.size, fun hl => by
  obtain ⟨ad, hA, hfp, hcell⟩ := h.cells hl
  refine ⟨ad, hA, hfp, fun i x hx j u hu => ?_⟩
  rw [hc.cell (by rw [add_block, add_block]; exact h.low _ hfp) (by rw [add_block, add_block]; exact hn _ hfp)]
  exact hcell i x hx j u hu⟩
theorem Sl.is (h : Sl k enc w fp A l) {i : Int} {x : α} (hg : geti l i = some x) : A.isSome = true ∧ 0 ≤ i ∧ i < l.length := by
 obtain ⟨h0, h1, h2⟩ := geti_some hg
 obtain ⟨ad, hA, _⟩ := h.cells (by omega)
 exact ⟨by rw [hA]; rfl, h0, h1⟩
theorem Sl.cell (h : Sl k enc w fp A l) {i : Int} {x : α} (hg : geti l i = some x) (j : Nat) {u : Value} (hu : (enc x)[j]? = some u) : w.cell? (elA A k i j) = some u := by
 obtain ⟨h0, h1, h2⟩ := geti_some hg
 obtain ⟨ad, hA, _, hc⟩ := h.cells (by omega)
 subst hA
 exact hc i.toNat x h2 j u hu
end

/-! ### The operations, found by their number -/
def atI (ops : Array Oper) (N : Nat) (E : Env) (a : Act) (i : Nat) : Option (Option Nat × Op) :=
 match ops[i]? with
 | none => none
 | some o => match wantE ops E a o with
  | some true => match o.dst with
   | none => some (none, o.op)
   | some d => match Nat.blt d N with
    | true => some (some d, o.op)
    | false => none
  | _ => none
theorem atI_spec {ops : Array Oper} {N : Nat} {E : Env} {a : Act} {i : Nat} {dst : Option Nat} {op : Op} (h : atI ops N E a i = some (dst, op)) :
  opI ops i = some (dst, op) ∧ wantI ops E a i = some true ∧ ∀ d, dst = some d → Nat.blt d N = true := by
 unfold atI at h
 unfold opI wantI
 cases ho : ops[i]? with
 | none => simp only [ho] at h; cases h
 | some o =>
  simp only [ho] at h
  cases hw : wantE ops E a o with
  | none => simp only [hw] at h; cases h
  | some b =>
   cases b with
   | false => simp only [hw] at h; cases h
   | true =>
    simp only [hw] at h
    cases hd : o.dst with
    | none =>
     simp only [hd, Option.some.injEq, Prod.mk.injEq] at h
     obtain ⟨rfl, rfl⟩ := h
     exact ⟨by simp [hd], by simp [hw], fun d hd' => by cases hd'⟩
    | some d =>
     simp only [hd] at h
     cases hb : Nat.blt d N with
     | false => simp only [hb] at h; cases h
     | true =>
      simp only [hb, Option.some.injEq, Prod.mk.injEq] at h
      obtain ⟨rfl, rfl⟩ := h
      exact ⟨by simp [hd], by simp [hw], fun d' hd' => by cases hd'; exact hb⟩
def callI (ops : Array Oper) (N : Nat) (E : Env) (a : Act) (i : Nat) : Option (Nat × FuncId × List Value) :=
 match atI ops N E a i with
 | some (some d, .call c) => match c.callee with
  | .value x => match evE E a x with
   | .func (.func f) fi ca => some (d, f, fi.toList ++ (c.args.toList.map (evE E a) ++ ca.toList))
   | _ => none
  | _ => none
 | _ => none
def loadI (ops : Array Oper) (N : Nat) (E : Env) (a : Act) (i : Nat) : Option (Nat × TypeId × Value) :=
 match atI ops N E a i with
 | some (some d, .load T x) => some (d, T, evE E a x)
 | _ => none
def storeI (ops : Array Oper) (N : Nat) (E : Env) (a : Act) (i : Nat) : Option (TypeId × Value × Value) :=
 match atI ops N E a i with
 | some (none, .store T p x) => some (T, evE E a p, evE E a x)
 | _ => none
def idxI (ops : Array Oper) (N : Nat) (E : Env) (a : Act) (i : Nat) : Option (Nat × TypeId × Value × Value) :=
 match atI ops N E a i with
 | some (some d, .indexAddr T x ix) => some (d, T, evE E a x, evE E a ix)
 | _ => none
def boxI (ops : Array Oper) (N : Nat) (E : Env) (a : Act) (i : Nat) : Option (Nat × TypeId × Value) :=
 match atI ops N E a i with
 | some (some d, .box T x) => some (d, T, evE E a x)
 | _ => none
def allocI (ops : Array Oper) (N : Nat) (E : Env) (a : Act) (i : Nat) : Option (Nat × TypeId) :=
 match atI ops N E a i with
 | some (some d, .alloc T) => some (d, T)
 | _ => none

def Ent (P : Program) (f : FuncId) : Prop := ∀ args, pureRun P (callFunc f args) = some (.enter f args)
structure VarTy (P : Program) (T k : Nat) (agg : Bool) : Prop where
 agg : pureRun P (isAgg T) = some agg
 size : pureRun P (sizeOf T) = some k
structure SlTy (P : Program) (T e k : Nat) : Prop where
 und : P.underlying T = some (.slice e)
 size : pureRun P (sizeOf e) = some k

section
variable {P : Program} {ops : Array Oper} {Q : Exit → Act → World → Prop} {N i : Nat} {E : Env} {a : Act} {w : World}
theorem wS_calls {d : Nat} {f : FuncId} {vs : List Value} {R : Ending → World → Prop} (ho : callI ops N E a i = some (d, f, vs)) (hf : Ent P f) (hc : Calls P f vs.toArray w R)
  (k : ∀ e w', R e w' → ∃ v, e = .returned v ∧ wS P ops Q N (i + 1) ((d, v) :: E) a w') : wS P ops Q N i E a w := by
 unfold callI at ho
 cases hat : atI ops N E a i with
 | none => simp only [hat] at ho; cases ho
 | some p =>
  obtain ⟨dst, op⟩ := p
  simp only [hat] at ho
  split at ho
  ·rename_i d' c heq
   simp only [Option.some.injEq, Prod.mk.injEq] at heq
   obtain ⟨rfl, rfl⟩ := heq
   split at ho
   ·rename_i x hcal
    split at ho
    ·rename_i f' fi ca hfn
     simp only [Option.some.injEq, Prod.mk.injEq] at ho
     obtain ⟨rfl, rfl, rfl⟩ := ho
     obtain ⟨h1, h2, h3⟩ := atI_spec hat
     refine wS_call h1 h2 (h3 _ rfl) (fun o ho => ?_) hc k
     have hmap : Array.map (evE E a) c.args = (List.map (evE E a) c.args.toList).toArray := by rw [← Array.toList_map, Array.toArray_toList]
     have hh : fi ++ Array.map (evE E a) c.args ++ ca = (fi.toList ++ (List.map (evE E a) c.args.toList ++ ca.toList)).toArray := by rw [hmap]; simp
     have := hf (fi.toList ++ (List.map (evE E a) c.args.toList ++ ca.toList)).toArray
     rw [← hh] at this
     simp only [execOp, ho]
     show pureRun P (Sem.bind (resolve (evE E a) c o.type) _) = _
     unfold resolve
     rw [hcal]
     show pureRun P (Sem.bind (Deferred.ofValue (evE E a x) _) _) = _
     rw [hfn]
     simp only [Deferred.ofValue]
     show pureRun P (invoke (.fn (.func f') ca) (fi ++ Array.map (evE E a) c.args)) = _
     simp only [invoke]
     rw [this, hh]
    ·cases ho
   ·cases ho
  ·cases ho
theorem run_agg {T k : Nat} {b : Bool} (h : VarTy P T k b) (w : World) : (isAgg T).run P w = .ok b w := pureRun_run h.agg w
theorem run_size {T k : Nat} {b : Bool} (h : VarTy P T k b) (w : World) : (sizeOf T).run P w = .ok k w := pureRun_run h.size w
theorem wS_load1 {d T k : Nat} {ad : Addr} {v : Value} (ho : loadI ops N E a i = some (d, T, .pointer (some ad))) (hT : VarTy P T k false) (hc : w.cell? ad = some v)
  (kk : wS P ops Q N (i + 1) ((d, v) :: E) a w) : wS P ops Q N i E a w := by
 unfold loadI at ho
 split at ho
 ·rename_i d' T' x hat
  simp only [Option.some.injEq, Prod.mk.injEq] at ho
  obtain ⟨rfl, rfl, hx⟩ := ho
  obtain ⟨h1, h2, h3⟩ := atI_spec hat
  refine wS_val h1 h2 (h3 _ rfl) (fun o ho => ?_) kk
  simp [execOp, ho, hx, Instr.loadAt, Instr.sureAddr, loadVar, run_agg hT, hc]
 ·cases ho
theorem run_loadCellsFrom {ad : Addr} : ∀ (vs : List Value) (j : Nat) (acc : Array Value), (∀ i u, vs[i]? = some u → w.cell? (ad.add (j + i)) = some u) →
  (loadCellsFrom ad j vs.length acc).run P w = .ok (acc ++ vs.toArray) w
 | [], j, acc, _ => by simp [loadCellsFrom]
 | v :: vs, j, acc, h => by
  have h0 := h 0 v rfl
  rw [Nat.add_zero] at h0
  have ih := run_loadCellsFrom vs (j + 1) (acc.push v) (fun i u hu => by rw [show j + 1 + i = j + (i + 1) by omega]; exact h (i + 1) u hu)
  simp only [List.length_cons, loadCellsFrom]
  simp [h0, ih]
theorem wS_loadA {d T : Nat} {ad : Addr} {vs : List Value} (ho : loadI ops N E a i = some (d, T, .pointer (some ad))) (hT : VarTy P T vs.length true) (hc : ∀ i u, vs[i]? = some u → w.cell? (ad.add i) = some u)
  (kk : wS P ops Q N (i + 1) ((d, .agg vs.toArray) :: E) a w) : wS P ops Q N i E a w := by
 unfold loadI at ho
 split at ho
 ·rename_i d' T' x hat
  simp only [Option.some.injEq, Prod.mk.injEq] at ho
  obtain ⟨rfl, rfl, hx⟩ := ho
  obtain ⟨h1, h2, h3⟩ := atI_spec hat
  refine wS_val h1 h2 (h3 _ rfl) (fun o ho => ?_) kk
  have := run_loadCellsFrom (P := P) (w := w) (ad := ad) vs 0 #[] (fun i u hu => by rw [Nat.zero_add]; exact hc i u hu)
  simp [execOp, ho, hx, Instr.loadAt, Instr.sureAddr, loadVar, run_agg hT, run_size hT, loadCells, this]
 ·cases ho
theorem wS_idx {d T e k n cap : Nat} {A : Option Addr} {kd : IntKind} {m : Int} (ho : idxI ops N E a i = some (d, T, .slice A n cap, .int kd m)) (hT : SlTy P T e k) (h : A.isSome = true ∧ 0 ≤ m ∧ m < n)
  (kk : wS P ops Q N (i + 1) ((d, .pointer (some (elA A k m 0))) :: E) a w) : wS P ops Q N i E a w := by
 unfold idxI at ho
 split at ho
 ·rename_i d' T' x ix hat
  simp only [Option.some.injEq, Prod.mk.injEq] at ho
  obtain ⟨rfl, rfl, hx, hix⟩ := ho
  obtain ⟨h1, h2, h3⟩ := atI_spec hat
  obtain ⟨hA, h0, hlt⟩ := h
  cases A with
  | none => cases hA
  | some ad =>
   refine wS_val h1 h2 (h3 _ rfl) (fun o ho => ?_) kk
   have hsz := pureRun_run hT.size w
   simp [execOp, ho, hx, hix, Instr.indexAt, asIntOf, run_underlying hT.und, h0, hlt, hsz, elA, adr, Addr.add]
 ·cases ho
theorem wS_box {d T : Nat} {x : Value} (ho : boxI ops N E a i = some (d, T, x))
  (kk : ∀ b w', w.heap.size ≤ b → Cl w' b T x.cells.toList → Chg [] w w' → wS P ops Q N (i + 1) ((d, .pointer (some ⟨b, 0, none⟩)) :: E) a w') : wS P ops Q N i E a w := by
 unfold boxI at ho
 split at ho
 ·rename_i d' T' y hat
  simp only [Option.some.injEq, Prod.mk.injEq] at ho
  obtain ⟨rfl, rfl, hx⟩ := ho
  obtain ⟨h1, h2, h3⟩ := atI_spec hat
  refine wS_val (w' := w.alloc (.cells x.cells T')) h1 h2 (h3 _ rfl) (fun o ho => ?_) (kk w.heap.size _ (Nat.le_refl _) (by have := Cl.new w T' x.cells.toList; simpa using this) (Chg.alloc _ _))
  simp [execOp, ho, hx, Instr.box, newVar, newRow]
 ·cases ho
theorem wS_alloc {d T : Nat} {z : Value} (ho : allocI ops N E a i = some (d, T)) (hz : pureRun P (zeroValue T) = some z)
  (kk : ∀ b w', w.heap.size ≤ b → Cl w' b T z.cells.toList → Chg [] w w' → wS P ops Q N (i + 1) ((d, .pointer (some ⟨b, 0, none⟩)) :: E) a w') : wS P ops Q N i E a w := by
 unfold allocI at ho
 split at ho
 ·rename_i d' T' hat
  simp only [Option.some.injEq, Prod.mk.injEq] at ho
  obtain ⟨rfl, rfl⟩ := ho
  obtain ⟨h1, h2, h3⟩ := atI_spec hat
  refine wS_val (w' := w.alloc (.cells z.cells T')) h1 h2 (h3 _ rfl) (fun o ho => ?_) (kk w.heap.size _ (Nat.le_refl _) (by have := Cl.new w T' z.cells.toList; simpa using this) (Chg.alloc _ _))
  have hz' := pureRun_run hz w
  simp [execOp, ho, Instr.alloc, newVar, newRow, hz']
 ·cases ho
def setL (cs : List Value) (o : Nat) (vs : List Value) : List Value := cs.take o ++ vs ++ cs.drop (o + vs.length)
theorem wS_store {T g o U : Nat} {ad : Addr} {v : Value} {cs vs : List Value} (ho : storeI ops N E a i = some (T, .pointer (some ad), v)) (hvs : v.cells.toList = vs) (hT : pureRun P (sizeOf T) = some vs.length)
  (h1 : (vs.all fun u => u.oneCell') = true) (had : ad = ⟨g, o, none⟩) (hC : Cl w g U cs) (hfit : o + vs.length ≤ cs.length)
  (kk : ∀ w', Cl w' g U (setL cs o vs) → Chg [g] w w' → wS P ops Q N (i + 1) E a w') : wS P ops Q N i E a w := by
 unfold storeI at ho
 split at ho
 ·rename_i T' p x hat
  simp only [Option.some.injEq, Prod.mk.injEq] at ho
  obtain ⟨rfl, hp, hx⟩ := ho
  obtain ⟨ha1, ha2, ha3⟩ := atI_spec hat
  subst had
  have hrun := run_storeCells_at P g o U vs 0 cs.toArray w hC (by simpa using hfit) (fun u hu => List.all_eq_true.1 h1 u hu)
  have hsz := pureRun_run hT w
  have hvl : v.cells.size = vs.length := by rw [← hvs]; simp
  simp only [Nat.add_zero, List.toList_toArray] at hrun
  refine wS_act (w' := w.setRow g (setL cs o vs).toArray) ha1 ha2 (fun o' ho' => ?_) (kk _ (setRow_heap w g cs.toArray _ U (0, 0) hC) ⟨rfl, rfl, rfl, by simp [World.setRow], fun k _ hk => setRow_other w g k _ (fun e => hk (by simp [e])), by simp [World.setRow]⟩)
  simp [execOp, ho', hp, hx, Instr.storeAt, Instr.sureAddr, storeVar, hsz, hvl, hvs, hrun, setL]
 ·cases ho
def argE (vs : List Value) : Env := vs.zipIdx.map fun p => (p.2, p.1)
theorem enterE {f : FuncId} {fn : Func} {c : Code} {vs : List Value} {R : Ending → World → Prop} (hf : P.funcs[f]? = some fn) (hb : fn.body = some c) (hN : fn.ntmps = N) (hle : vs.length ≤ N) (E : Env) (hE : argE vs = E) (hl : lowB N E = true)
  (k : ∀ a, cW P c (bodyPost P fn R) N E a w) : Calls P f vs.toArray w R := by
 refine calls_of_wp hf hb ?_
 refine Fr.goOn (N := N) (E := E) ⟨by simp; omega, rfl, ?_⟩ hl (k _)
 subst hE
 intro p hp
 unfold argE at hp
 obtain ⟨q, hq, rfl⟩ := List.mem_map.1 hp
 obtain ⟨v, j⟩ := q
 have := List.mem_zipIdx_iff_getElem?.1 hq
 simp only at this ⊢
 rw [Array.getD_eq_getD_getElem?, Array.getElem?_append]
 obtain ⟨hlt, hv⟩ := List.getElem?_eq_some_iff.1 this
 simp [hlt, hv]
theorem run_loadVarA {T : Nat} {ad : Addr} {vs : List Value} (hT : VarTy P T vs.length true) (hc : ∀ i u, vs[i]? = some u → w.cell? (ad.add i) = some u) : (loadVar T ad).run P w = .ok (.agg vs.toArray) w := by
 have := run_loadCellsFrom (P := P) (w := w) (ad := ad) vs 0 #[] (fun i u hu => by rw [Nat.zero_add]; exact hc i u hu)
 simp [loadVar, run_agg hT, run_size hT, loadCells, this]
def ResOk (P : Program) (E : Env) (a : Act) (w : World) : ResultVar → Value → Prop
 | .tmp t, v => lkE E a t = v
 | .cell x T, v => ∃ ad, lkE E a x = .pointer (some ad) ∧ (loadVar T ad).run P w = .ok v w
def ResAll (P : Program) (E : Env) (a : Act) (w : World) : List ResultVar → List Value → Prop
 | [], [] => True
 | r :: rs, v :: vs => ResOk P E a w r v ∧ ResAll P E a w rs vs
 | _, _ => False
theorem mapM_run {β γ : Type} (f : β → Sem γ) : ∀ (rs : List β) (vs : List γ), (∀ (j : Nat) r, rs[j]? = some r → ∃ v, vs[j]? = some v ∧ (f r).run P w = .ok v w) → vs.length = rs.length → (rs.mapM f).run P w = .ok vs w
 | [], [], _, _ => by simp
 | [], _ :: _, _, h => by simp at h
 | r :: rs, [], _, h => by simp at h
 | r :: rs, v :: vs, h, hl => by
  obtain ⟨v', hv, hr⟩ := h 0 r rfl
  simp only [List.getElem?_cons_zero, Option.some.injEq] at hv
  subst hv
  have ih := mapM_run f rs vs (fun j r' hj => h (j + 1) r' hj) (by simpa using hl)
  simp [List.mapM_cons, hr, ih]
theorem resAll_get : ∀ (rs : List ResultVar) (vs : List Value), ResAll P E a w rs vs → vs.length = rs.length ∧ ∀ (j : Nat) r, rs[j]? = some r → ∃ v, vs[j]? = some v ∧ ResOk P E a w r v
 | [], [], _ => ⟨rfl, fun j r h => by simp at h⟩
 | [], _ :: _, h => h.elim
 | _ :: _, [], h => h.elim
 | r :: rs, v :: vs, h => by
  obtain ⟨h1, h2⟩ := resAll_get rs vs h.2
  refine ⟨by simp [h1], fun j r' hj => ?_⟩
  cases j with
  | zero => simp only [List.getElem?_cons_zero, Option.some.injEq] at hj; subst hj; exact ⟨v, rfl, h.1⟩
  | succ j => exact h2 j r' hj
def retV : List Value → Value
 | [v] => v
 | vs => .tuple vs.toArray
theorem retV_eq (vs : List Value) : (if h : vs.length = 1 then vs[0] else Value.tuple vs.toArray) = retV vs := by
 match vs with
 | [] => rfl
 | [v] => rfl
 | _ :: _ :: _ => rfl
theorem eX_ret {fn : Func} {R : Ending → World → Prop} {vs : List Value} (rs : List ResultVar) (hrs : fn.results = rs.toArray) (h : ResAll P E a w rs vs) (k : R (.returned (retV vs)) w) : eX .ret (bodyPost P fn R) N E a w := by
 intro hst
 refine ⟨(putE_defers a E).trans hst.defers, retV vs, ?_, k⟩
 obtain ⟨h1, h2⟩ := resAll_get rs vs h
 unfold results
 rw [hrs]
 simp only [List.mapM_toArray]
 have hrun := mapM_run (P := P) (w := w) (fun x : ResultVar => match x with
   | .tmp t => (pure ((putE E a).tmps.getD t undef) : Sem Value)
   | .cell x t => do loadVar t (← asAddr ((putE E a).tmps.getD x undef))) rs vs (fun j r hj => by
  obtain ⟨v, hv, hok⟩ := h2 j r hj
  refine ⟨v, hv, ?_⟩
  cases r with
  | tmp t => show Sem.run P (Sem.pure _) w = _; rw [hst.lk, show lkE E a t = v from hok]; rfl
  | cell x T =>
   obtain ⟨ad, hl, hr⟩ := hok
   show Sem.run P (Sem.bind (asAddr ((putE E a).tmps.getD x undef)) (fun y => loadVar T y)) w = _
   rw [hst.lk, hl]
   exact hr) h1
 rw [← retV_eq]
 simp only [bind_map_left, Sem.run_bind]
 erw [hrun]
 simp [Result.andThen]
end
end Go.Proofs.YtbfjekmefcpkmaaDoor
