/- Plain helpers: worlds that only grow, the closing forms of a walk, small Bool functions. -/
import Derived.WalkKit
import Derived.WalkSpells
import Derived.WalkLawsBesides
import Derived.Handy
import Derived.Deep.QuietTactic
import Derived.BigQuiet
import Derived.StillTailTactics
import Derived.RegionTactic
import Derived.ChangeAlike
import Derived.BigRegion
set_option linter.unusedSimpArgs false
set_option linter.unusedVariables false
namespace Go.Proofs.YtbfjekmefcpkmaaDoor
open Go.RowKit

theorem ext_trans {a b c : World} (h : Below a.heap.size a b) (k : Below b.heap.size b c) : Below a.heap.size a c := h.trans (k.mono h.size)
def cellN (w : World) (b o : Nat) : Option Value := w.cell? ⟨b, o, none⟩
def frozenN (w : World) (b o : Nat) : Bool := w.frozen? ⟨b, o, none⟩
def inB (n lo hi : Int) : Bool := decide (lo ≤ n ∧ n ≤ hi)
def absI (n : Int) : Int := max n (wrap64 (-n))

noncomputable def grow (w d : World) : World := open Classical in if Below w.heap.size w d then d else w
theorem grow_below (w d : World) : Below w.heap.size w (grow w d) := by unfold grow; split; assumption; exact Below.refl _ _
theorem grow_of {w d : World} (h : Below w.heap.size w d) : d = grow w d := by unfold grow; rw [if_pos h]
theorem Calls.still {P : Program} {f : FuncId} {args : Array Value} {w : World} {n : Nat} {v : Value}
  (h : Calls P f args (w.drewN n) fun e w' => e = .returned v ∧ w.drewN n = w') : Calls P f args (w.drewN n) fun e w'' => e = .returned v ∧ ∃ m, w'' = w.drewN m :=
 h.mono fun _ _ ⟨he, hm⟩ => ⟨he, n, hm.symm⟩
theorem Calls.grow_of {P : Program} {f : FuncId} {args : Array Value} {w d : World} {v : Value}
  (h : Calls P f args (grow w d) fun e w' => e = .returned v ∧ Below (grow w d).heap.size (grow w d) w') : Calls P f args (grow w d) fun e w'' => e = .returned v ∧ ∃ d', w'' = grow w d' :=
 h.mono fun _ w' ⟨he, hm⟩ => ⟨he, w', Proofs.YtbfjekmefcpkmaaDoor.grow_of (ext_trans (grow_below w d) hm)⟩
def objCell : Obj → Nat → Option Value
 | .cells c _ _, i => c[i]?
 | _, _ => none
def objFrozen : Obj → Nat → Bool
 | .cells _ _ (lo, hi), i => decide (lo ≤ i) && decide (i < hi)
 | _, _ => false
@[go_sem] theorem objCell_cells (c : Array Value) (t : TypeId) (f : Nat × Nat) (i : Nat) : objCell (.cells c t f) i = c[i]? := rfl
@[go_sem] theorem objFrozen_cells (c : Array Value) (t : TypeId) (i : Nat) : objFrozen (.cells c t (0, 0)) i = false := by simp [objFrozen]
@[go_sem] theorem cell_alloc_if (w : World) (o : Obj) (b i : Nat) : (w.alloc o).cell? ⟨b, i, none⟩ = if b < w.heap.size then w.cell? ⟨b, i, none⟩ else if b = w.heap.size then objCell o i else none := by
 split
 ·exact World.cell?_alloc_lt w o (a := ⟨b, i, none⟩) (by assumption)
 ·split
  ·rename_i h; subst h
   simp only [World.cell?, World.alloc, Array.getElem?_push_size]
   cases o <;> rfl
  ·simp only [World.cell?, World.alloc]
   rw [Array.getElem?_eq_none (by simp; omega)]
@[go_sem] theorem frozen_alloc_if (w : World) (o : Obj) (b i : Nat) : (w.alloc o).frozen? ⟨b, i, none⟩ = if b < w.heap.size then w.frozen? ⟨b, i, none⟩ else if b = w.heap.size then objFrozen o i else false := by
 split
 ·exact World.frozen?_alloc_old w o (a := ⟨b, i, none⟩) (Nat.ne_of_lt (by assumption))
 ·split
  ·rename_i h; subst h
   simp only [World.frozen?, World.alloc, Array.getElem?_push_size]
   cases o <;> rfl
  ·simp only [World.frozen?, World.alloc]
   rw [Array.getElem?_eq_none (by simp; omega)]
@[go_sem] theorem cell_set_if (w : World) (b i b' j : Nat) (v : Value) : (w.setCell ⟨b, i, none⟩ v).cell? ⟨b', j, none⟩ = if b = b' then (if i = j then (w.cell? ⟨b', j, none⟩).map (fun _ => v) else w.cell? ⟨b', j, none⟩) else w.cell? ⟨b', j, none⟩ := by
 split
 ·rename_i h; subst h
  split
  ·rename_i h; subst h
   cases hc : w.cell? ⟨b, i, none⟩ with
   | none =>
    simp only [Option.map_none]
    simp only [World.cell?, World.setCell, Array.getElem?_modify] at hc ⊢
    cases hh : w.heap[b]? with
    | none => simp [hh]
    | some o =>
     rw [hh] at hc
     cases o <;> simp_all
   | some u => simp only [Option.map_some]; apply World.cell?_setCell_same; exact hc
  ·rename_i h; apply World.cell?_setCell_other; intro e; cases e; exact h rfl
 ·rename_i h; apply World.cell?_setCell_other; intro e; cases e; exact h rfl
section
variable {P : Program} (w : World)
theorem gt_max (x y : Int) : (if y > x then y else x) = max x y := by omega
@[go_sem] theorem ite_max (x y : Int) : (if x < y then y else x) = max x y := by omega
@[go_sem] theorem ite_min (x y : Int) : (if x < y then x else y) = min y x := by omega
@[go_sem] theorem run_max_five (ts : Array TypeId) (t : TypeId) (k k1 k2 k3 k4 : IntKind) (x y1 y2 y3 y4 : Int) :
  (Builtin.max_ ts t #[.int k x, .int k1 y1, .int k2 y2, .int k3 y3, .int k4 y4]).run P w = .ok (.int k (max (max (max (max x y1) y2) y3) y4)) w := by
 simp [Builtin.max_, Builtin.max2, gt_max]
end
end Go.Proofs.YtbfjekmefcpkmaaDoor
