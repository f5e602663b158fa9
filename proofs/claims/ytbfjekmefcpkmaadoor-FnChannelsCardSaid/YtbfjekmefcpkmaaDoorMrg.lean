/- Ranges over a map: whichever entry comes next, the loop's own list of what is left loses it; and a value that is the same for every order. -/
import Derived.Test.YtbfjekmefcpkmaaDoorMpk
import Derived.Maps.RangeRun
set_option linter.unusedSimpArgs false
set_option linter.unusedVariables false
set_option linter.unusedSectionVars false
namespace Go.Proofs.YtbfjekmefcpkmaaDoor
open Go.RowKit
open Go.ChangeMaps (setBlock)

section
variable {κ V : Type} [DecidableEq κ] {okk : κ → Bool} {ek : κ → Value} {ev : V → Value} {w w' : World} {b r : Nat} {m rem : List (κ × V)} {last : Option (κ × V)} {P : Program} {S : List Nat}
structure Rg (okk : κ → Bool) (ek : κ → Value) (ev : V → Value) (w : World) (b r : Nat) (m rem : List (κ × V)) (last : Option (κ × V)) : Prop where
 mp : Mp okk ek ev w b m
 it : ∃ es c since seen c0, w.heap[b]? = some (.map es c) ∧ w.heap[r]? = some (.mapIter (some b) since seen c0) ∧ (es.toList.map (·.born)).Nodup ∧ (∀ x ∈ es.toList, x.born < since) ∧ since ≤ c0 ∧ since ≤ c ∧
  ((leftOf es seen).toList.map kv).Perm (rem.map fun p => (ek p.1, ev p.2)) ∧ ∀ p, last = some p → ∃ (e : MapEntry) (s : Array Nat), seen = s.push e.born ∧ c0 = c ∧ e ∈ es.toList ∧ kv e = (ek p.1, ev p.2)
theorem Rg.ne (h : Rg okk ek ev w b r m rem last) : r ≠ b := by
 obtain ⟨es, c, since, seen, c0, hb, hr, _⟩ := h.it
 intro e
 rw [e, hb] at hr
 cases hr
theorem Rg.lt (h : Rg okk ek ev w b r m rem last) : r < w.heap.size := by
 obtain ⟨es, c, since, seen, c0, hb, hr, _⟩ := h.it
 exact (Array.getElem?_eq_some_iff.1 hr).1
theorem Rg.chg (h : Rg okk ek ev w b r m rem last) (hc : Chg S w w') (hb : Dj [b] S) (hr : Dj [r] S) : Rg okk ek ev w' b r m rem last := by
 refine ⟨h.mp.chg hc hb, ?_⟩
 have e1 := hc.block b h.mp.lt (hb b (by simp))
 have e2 := hc.block r h.lt (hr r (by simp))
 rw [e1, e2]
 exact h.it
theorem run_rangeM {T K e : TypeId} (h : Mp okk ek ev w b m) (hT : P.underlying T = some (.map K e)) :
  ∃ w', (Instr.range T (.map (some b))).run P w = .ok (.pointer (some ⟨w.heap.size, 0, none⟩)) w' ∧ Rg okk ek ev w' b w.heap.size m m none ∧ Chg [] w w' := by
 have hlt := h.lt
 obtain ⟨es, c, hb, he, hn, hs⟩ := h.is
 have hc : Chg [] w (w.alloc (.mapIter (some b) c #[] c)) := Chg.alloc _ _
 have hb' : (w.alloc (.mapIter (some b) c #[] c)).heap[b]? = some (.map es c) := by rw [heap_alloc_old w _ hlt]; exact hb
 refine ⟨_, run_range_map w T K e b es c hT hb, ⟨h.chg hc (by simp [Dj]), es, c, c, #[], c, hb', heap_alloc_new w _, hn, hs, Nat.le_refl _, Nat.le_refl _, ?_, fun p hp => by cases hp⟩, hc⟩
 have : leftOf es #[] = es := by unfold leftOf; simp
 rw [this, he]
theorem perm_filter_ne {l : List MapEntry} {e : MapEntry} (hn : (l.map (·.born)).Nodup) (he : e ∈ l) : l.Perm (e :: l.filter fun x => x.born != e.born) := by
 induction l with
 | nil => simp at he
 | cons x l ih =>
  rw [List.map_cons, List.nodup_cons] at hn
  rcases List.mem_cons.1 he with rfl | he
  ·have : (e :: l).filter (fun x => x.born != e.born) = l := by
    rw [List.filter_cons]
    simp only [bne_self_eq_false, Bool.false_eq_true, if_false]
    refine List.filter_eq_self.2 fun y hy => ?_
    simp only [bne_iff_ne, ne_eq]
    exact fun h => hn.1 (h ▸ List.mem_map.2 ⟨y, hy, rfl⟩)
   rw [this]
  ·have hx : x.born ≠ e.born := fun h => hn.1 (h ▸ List.mem_map.2 ⟨e, he, rfl⟩)
   rw [List.filter_cons, if_pos (by simpa using hx)]
   exact ((ih hn.2 he).cons x).trans (List.Perm.swap ..)
theorem run_nextM (h : Rg okk ek ev w b r m rem last) (ty : TypeId) :
  (rem = [] ∧ (Instr.next (.pointer (some ⟨r, 0, none⟩)) false ty).run P w = .ok (.tuple #[.bool false]) w) ∨
  ∃ a p d w', rem = a ++ p :: d ∧ (Instr.next (.pointer (some ⟨r, 0, none⟩)) false ty).run P w = .ok (.tuple #[.bool true, ek p.1, ev p.2]) w' ∧ Rg okk ek ev w' b r m (a ++ d) (some p) ∧ Chg [r] w w' := by
 have hne := h.ne
 have hmp := h.mp
 obtain ⟨es, c, since, seen, c0, hb, hr, hn, hold, hsc, hsk, hperm, _⟩ := h.it
 rcases run_next_at (P := P) w ty r b since c0 seen es c hr hb hold hsc with ⟨h0, hrun⟩ | ⟨e, he, w1, hal, hrun⟩
 ·refine Or.inl ⟨?_, hrun⟩
  have e0 : leftOf es seen = #[] := Array.eq_empty_of_size_eq_zero h0
  rw [e0] at hperm
  have := hperm.length_eq
  simp only [Array.toList_empty, List.map_nil, List.length_nil, List.length_map] at this
  exact List.length_eq_zero_iff.1 this.symm
 ·right
  obtain ⟨hem, hes⟩ := mem_left he
  have hkv : kv e ∈ rem.map fun p => (ek p.1, ev p.2) := hperm.mem_iff.1 (List.mem_map.2 ⟨e, he, rfl⟩)
  obtain ⟨p, hp, hpe⟩ := List.mem_map.1 hkv
  obtain ⟨a, d, rfl⟩ := List.append_of_mem hp
  have hk : e.key = ek p.1 := (congrArg Prod.fst hpe).symm
  have hv : e.val = ev p.2 := (congrArg Prod.snd hpe).symm
  have hr1 : w1.heap[r]? = some (.mapIter (some b) since seen c0) := by rcases hal with rfl | rfl <;> exact hr
  have hb1 : w1.heap[b]? = some (.map es c) := by rcases hal with rfl | rfl <;> exact hb
  have hset := MapKept.heap_set (o' := .mapIter (some b) since (seen.push e.born) c) hr1
  have hb' : (setBlock w1 r (.mapIter (some b) since (seen.push e.born) c)).heap[b]? = some (.map es c) := (hset.2 b (fun e1 => hne e1.symm)).trans hb1
  have hchg : Chg [r] w (setBlock w1 r (.mapIter (some b) since (seen.push e.born) c)) := by
   rcases hal with rfl | rfl
   ·exact ⟨rfl, rfl, rfl, by simp [setBlock], fun i _ hi => hset.2 i (fun e1 => hi (by simp [e1])), Nat.le_refl _⟩
   ·exact ⟨rfl, rfl, rfl, by simp only [setBlock, Array.size_setIfInBounds]; exact Nat.le_refl _, fun i _ hi => hset.2 i (fun e1 => hi (by simp [e1])), Nat.le_succ _⟩
  refine ⟨a, p, d, _, rfl, by rw [hrun, hk, hv], ⟨hmp.chg hchg (by simpa [Dj] using fun e1 => hne e1.symm), es, c, since, seen.push e.born, c, hb', hset.1, hn, hold, hsk, hsk, ?_, fun q hq => ⟨e, seen, rfl, rfl, hem, by cases hq; exact hpe.symm⟩⟩, hchg⟩
  have hln : ((leftOf es seen).toList.map (·.born)).Nodup := by
   unfold leftOf
   rw [Array.toList_filter]
   exact (List.filter_sublist.map _).nodup hn
  have h1 := perm_filter_ne hln he
  have h2 : (leftOf es (seen.push e.born)).toList = (leftOf es seen).toList.filter fun x => x.born != e.born := by
   unfold leftOf
   rw [Array.toList_filter, Array.toList_filter, List.filter_filter]
   refine List.filter_congr fun x hx => ?_
   rw [contains_push]
   cases seen.contains x.born <;> cases hq : (x.born == e.born) <;> simp [bne, hq]
  rw [h2]
  have h3 := (h1.map kv).symm.trans hperm
  rw [List.map_cons, List.map_append, List.map_cons] at h3
  have h4 : (kv e :: List.map kv ((leftOf es seen).toList.filter fun x => x.born != e.born)).Perm ((ek p.1, ev p.2) :: (a.map (fun p => (ek p.1, ev p.2)) ++ d.map fun p => (ek p.1, ev p.2))) := h3.trans List.perm_middle
  rw [← hpe] at h4
  rw [List.map_append]
  exact h4.cons_inv
theorem run_entryM {p : κ × V} (h : Rg okk ek ev w b r m rem (some p)) : (Instr.entry (.pointer (some ⟨r, 0, none⟩))).run P w = .ok (.tuple #[ek p.1, ev p.2]) w := by
 obtain ⟨es, c, since, seen, c0, hb, hr, hn, hold, hsc, hsk, hperm, hl⟩ := h.it
 obtain ⟨e, s, rfl, rfl, hem, hkv⟩ := hl p rfl
 have := run_entry_at (P := P) w r b since s es c0 e hr hb hem hn
 rw [this, show e.key = ek p.1 from congrArg Prod.fst hkv, show e.val = ev p.2 from congrArg Prod.snd hkv]
def RgE (okk : κ → Bool) (ek : κ → Value) (ev : V → Value) (w : World) (b r : Nat) (m rem : List (κ × V)) : Prop := ∃ last, Rg okk ek ev w b r m rem last
theorem RgE.chg (h : RgE okk ek ev w b r m rem) (hc : Chg S w w') (hb : Dj [b] S) (hr : Dj [r] S) : RgE okk ek ev w' b r m rem := by
 obtain ⟨l, h⟩ := h
 exact ⟨l, h.chg hc hb hr⟩
theorem Rg.low (h : Rg okk ek ev w b r m rem last) : ∀ x ∈ [r], x < w.heap.size := fun x hx => by simp at hx; subst hx; exact h.lt
theorem RgE.low (h : RgE okk ek ev w b r m rem) : ∀ x ∈ [r], x < w.heap.size := by
 obtain ⟨l, h⟩ := h
 exact h.low
/-! ### The operations -/
def rngI (ops : Array Oper) (N : Nat) (E : Env) (a : Act) (i : Nat) : Option (Nat × TypeId × Value) :=
 match atI ops N E a i with
 | some (some d, .range T x) => some (d, T, evE E a x)
 | _ => none
def nxtI (ops : Array Oper) (N : Nat) (E : Env) (a : Act) (i : Nat) : Option (Nat × Value) :=
 match atI ops N E a i with
 | some (some d, .next x false) => some (d, evE E a x)
 | _ => none
def ntrI (ops : Array Oper) (N : Nat) (E : Env) (a : Act) (i : Nat) : Option (Nat × Value) :=
 match atI ops N E a i with
 | some (some d, .entry x) => some (d, evE E a x)
 | _ => none
variable {ops : Array Oper} {Q : Exit → Act → World → Prop} {N i : Nat} {E : Env} {a : Act}
theorem wS_valO {d : Nat} {op : Op} (ho : opI ops i = some (some d, op)) (hg : wantI ops E a i = some true) (hd : Nat.blt d N = true)
  (hr : ∀ o : Oper, o.op = op → ∃ v w', (execOp (evE E a) o).run P w = .ok (.value v) w' ∧ wS P ops Q N (i + 1) ((d, v) :: E) a w') : wS P ops Q N i E a w := by
 intro hst
 obtain ⟨o, hi, hdst, hop, hdrop⟩ := opI_drop ho
 have hw : wantE ops E a o = some true := by unfold wantI at hg; rw [hi] at hg; simpa using hg
 obtain ⟨v, w', hrun, k⟩ := hr o hop
 rw [hdrop]
 simp only [wpList]
 rw [if_pos (wantE_spec hst hw)]; left
 unfold Oper.wp
 rw [hst.eval, hrun]
 have := k (hst.cons hd)
 show wpList P ops Q _ ((putE E a).put o.dst v) w'
 rw [hdst]
 exact this
theorem wS_range {d T K e : Nat} {z : Value} (ho : rngI ops N E a i = some (d, T, .map (some b))) (hT : MpTy P T K e z) (h : Mp okk ek ev w b m)
  (kk : ∀ r w', w.heap.size ≤ r → RgE okk ek ev w' b r m m → Chg [] w w' → wS P ops Q N (i + 1) ((d, .pointer (some ⟨r, 0, none⟩)) :: E) a w') : wS P ops Q N i E a w := by
 unfold rngI at ho
 split at ho
 ·rename_i d' T' x hat
  simp only [Option.some.injEq, Prod.mk.injEq] at ho
  obtain ⟨rfl, rfl, hx⟩ := ho
  obtain ⟨h1, h2, h3⟩ := atI_spec hat
  obtain ⟨w', hrun, hR, hc⟩ := run_rangeM (P := P) h hT.und
  refine wS_val (w' := w') h1 h2 (h3 _ rfl) (fun o ho => ?_) (kk _ w' (Nat.le_refl _) ⟨_, hR⟩ hc)
  simp [execOp, ho, hx, hrun]
 ·cases ho
theorem wS_next {d : Nat} (ho : nxtI ops N E a i = some (d, .pointer (some ⟨r, 0, none⟩))) (h : RgE okk ek ev w b r m rem)
  (k0 : rem = [] → wS P ops Q N (i + 1) ((d, .tuple #[.bool false]) :: E) a w)
  (k1 : ∀ p0 p p1 w', rem = p0 ++ p :: p1 → Rg okk ek ev w' b r m (p0 ++ p1) (some p) → Chg [r] w w' → wS P ops Q N (i + 1) ((d, .tuple #[.bool true, ek p.1, ev p.2]) :: E) a w') : wS P ops Q N i E a w := by
 unfold nxtI at ho
 split at ho
 ·rename_i d' x hat
  simp only [Option.some.injEq, Prod.mk.injEq] at ho
  obtain ⟨rfl, hx⟩ := ho
  obtain ⟨h1, h2, h3⟩ := atI_spec hat
  obtain ⟨last, h⟩ := h
  refine wS_valO h1 h2 (h3 _ rfl) (fun o ho => ?_)
  rcases run_nextM (P := P) h o.type with ⟨he, hrun⟩ | ⟨p0, p, p1, w', he, hrun, hR, hc⟩
  ·exact ⟨_, w, by simp [execOp, ho, hx, hrun], k0 he⟩
  ·exact ⟨_, w', by simp [execOp, ho, hx, hrun], k1 p0 p p1 w' he hR hc⟩
 ·cases ho
theorem wS_ntry {d : Nat} {p : κ × V} (ho : ntrI ops N E a i = some (d, .pointer (some ⟨r, 0, none⟩))) (h : Rg okk ek ev w b r m rem (some p))
  (kk : wS P ops Q N (i + 1) ((d, .tuple #[ek p.1, ev p.2]) :: E) a w) : wS P ops Q N i E a w := by
 unfold ntrI at ho
 split at ho
 ·rename_i d' x hat
  simp only [Option.some.injEq, Prod.mk.injEq] at ho
  obtain ⟨rfl, hx⟩ := ho
  obtain ⟨h1, h2, h3⟩ := atI_spec hat
  refine wS_val (w' := w) h1 h2 (h3 _ rfl) (fun o ho => ?_) kk
  have := run_entryM (P := P) h
  simp [execOp, ho, hx, this]
 ·cases ho
end
section
variable {κ V : Type} [DecidableEq κ] {okk : κ → Bool} {ek : κ → Value} {ev : V → Value} {z : V} {w w' : World} {b : Nat} {m : List (κ × V)} {k : κ} {P : Program}
variable {ops : Array Oper} {Q : Exit → Act → World → Prop} {N i : Nat} {E : Env} {a : Act}
def insI (ops : Array Oper) (N : Nat) (E : Env) (a : Act) (i : Nat) : Option (TypeId × Value × Value × Value) :=
 match atI ops N E a i with
 | some (none, .insert T m k v) => some (T, evE E a m, evE E a k, evE E a v)
 | _ => none
def quoI (ops : Array Oper) (N : Nat) (E : Env) (a : Act) (i : Nat) : Option (Nat × Value × Value) :=
 match atI ops N E a i with
 | some (some d, .binOp .quo _ x y _) => some (d, evE E a x, evE E a y)
 | _ => none
end
theorem bindSome {α β : Type} {x : α} {f : α → Option β} {r : β} (h : Option.bind (some x) f = some r) : f x = some r := h
/-! ### What is the same for every order -/
open Classical in
noncomputable def allO {α ρ : Type} (m : List α) (F : List α → Option ρ) : Option ρ := if h : ∃ x, ∀ l, l.Perm m → F l = some x then some h.choose else none
theorem allO_some {α ρ : Type} {m : List α} {F : List α → Option ρ} {x : ρ} (h : allO m F = some x) : ∀ l, l.Perm m → F l = some x := by
 unfold allO at h
 split at h
 ·rename_i hx
  have := hx.choose_spec
  rw [Option.some.inj h] at this
  exact this
 ·cases h
theorem allO_is {α ρ : Type} {m : List α} {F : List α → Option ρ} {x : ρ} (h : ∀ l, l.Perm m → F l = some x) : allO m F = some x := by
 unfold allO
 have hx : ∃ x, ∀ l, l.Perm m → F l = some x := ⟨x, h⟩
 rw [dif_pos hx]
 have h1 := hx.choose_spec m (List.Perm.refl _)
 rw [h m (List.Perm.refl _)] at h1
 rw [← Option.some.inj h1]
def foldR {σ α ρ : Type} (step : σ → α → Option (Ctl σ ρ)) : σ → List α → Option σ
 | s, [] => some s
 | s, p :: l => match step s p with
  | some (.next s') => foldR step s' l
  | _ => none
def cdn : Nat → Option (Ctl Nat Unit)
 | 0 => some (.out ())
 | n + 1 => some (.next n)
theorem perm_pick {α : Type} {ld lr a d m : List α} {p : α} (hP : (ld ++ lr).Perm m) (h : lr = a ++ p :: d) : (ld ++ p :: (a ++ d)).Perm m := by
 subst h
 exact (List.Perm.append_left ld List.perm_middle.symm).trans hP
theorem perm_next {α : Type} {ld lr a d m : List α} {p : α} (hP : (ld ++ lr).Perm m) (h : lr = a ++ p :: d) : ((ld ++ [p]) ++ (a ++ d)).Perm m := by
 have := perm_pick hP h
 rwa [List.append_assoc]
theorem perm_end {α : Type} {ld lr m : List α} (hP : (ld ++ lr).Perm m) (h : lr = []) : ld.Perm m := by
 subst h; rwa [List.append_nil] at hP
end Go.Proofs.YtbfjekmefcpkmaaDoor
