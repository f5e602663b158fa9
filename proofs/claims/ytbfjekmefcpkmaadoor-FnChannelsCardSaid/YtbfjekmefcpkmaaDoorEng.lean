/- An engine for walks: the frame as a list of what was written last; operations that ask nothing of the world are reckoned by the kernel, many in one step. -/
import Derived.WalkKit
import Derived.OrdersHeld
import Derived.KernelRfl
set_option linter.unusedSimpArgs false
set_option linter.unusedVariables false
namespace Go.Proofs.YtbfjekmefcpkmaaDoor
open Go.RowKit

/-! ### Runs that ask nothing of the world -/
def pureRun {α : Type} (P : Program) : Sem α → Option α
 | .pure a => some a
 | .program k => pureRun P (k P)
 | .mark _ k => pureRun P k
 | _ => none
theorem pureRun_run {α : Type} {P : Program} {s : Sem α} {x : α} (h : pureRun P s = some x) (w : World) : s.run P w = .ok x w := by
 induction s with
 | pure a => simp only [pureRun, Option.some.injEq] at h; subst h; rfl
 | program k ih => exact ih P h
 | mark m k ih => exact ih h
 | _ => simp only [pureRun] at h; cases h

/-! ### The frame: what was written last -/
abbrev Env := List (Nat × Value)
def lkE : Env → Act → Nat → Value
 | [], a, t => a.tmps.getD t undef
 | p :: E, a, t => bif Nat.beq t p.1 then p.2 else lkE E a t
def evE (E : Env) (a : Act) : Operand → Value
 | .tmp t => lkE E a t
 | .const v => v
 | .global g => .pointer (some ⟨g, 0, none⟩)
 | .func f => .func (.func f) #[] #[]
def putE : Env → Act → Act
 | [], a => a
 | p :: E, a => (putE E a).put (some p.1) p.2
def lowB (N : Nat) (E : Env) : Bool := E.all fun p => Nat.blt p.1 N
structure St (N : Nat) (E : Env) (a : Act) : Prop where
 size : a.tmps.size = N
 defers : a.defers = []
 low : ∀ p ∈ E, p.1 < N
theorem putE_size (a : Act) : ∀ E, (putE E a).tmps.size = a.tmps.size
 | [] => rfl
 | p :: E => by simp [putE, Act.put, putE_size a E]
theorem putE_defers (a : Act) : ∀ E, (putE E a).defers = a.defers
 | [] => rfl
 | p :: E => by simp [putE, Act.put, putE_defers a E]
theorem lk_putE {N : Nat} {a : Act} (hs : a.tmps.size = N) : ∀ (E : Env) (t : Nat), (∀ p ∈ E, p.1 < N) → (putE E a).tmps.getD t undef = lkE E a t
 | [], t, _ => rfl
 | p :: E, t, h => by
  have ih := lk_putE hs E t (fun q hq => h q (List.mem_cons_of_mem _ hq))
  have hp := h p (List.mem_cons_self ..)
  rw [Array.getD_eq_getD_getElem?] at ih
  simp only [putE, Act.put, lkE]
  rw [Array.getD_eq_getD_getElem?, Array.getElem?_setIfInBounds]
  have hsz := putE_size a E
  by_cases e : p.1 = t
  ·subst e
   have : Nat.beq p.1 p.1 = true := by simp
   simp [this, hsz, hs, hp]
  ·have : Nat.beq t p.1 = false := by
    cases hb : Nat.beq t p.1 with
    | false => rfl
    | true => exact absurd (Nat.eq_of_beq_eq_true hb).symm e
   simp [this, e, ih]
theorem St.lk {N : Nat} {E : Env} {a : Act} (h : St N E a) (t : Nat) : (putE E a).tmps.getD t undef = lkE E a t := lk_putE h.size E t h.low
theorem St.eval {N : Nat} {E : Env} {a : Act} (h : St N E a) : (putE E a).eval = evE E a := by
 funext x
 cases x with
 | tmp t => exact h.lk t
 | _ => rfl
theorem St.cons {N : Nat} {E : Env} {a : Act} (h : St N E a) {d : Nat} {v : Value} (hd : Nat.blt d N = true) : St N ((d, v) :: E) a :=
 ⟨h.size, h.defers, fun p hp => by
  rcases List.mem_cons.1 hp with rfl | hp
  ·simpa using hd
  ·exact h.low p hp⟩

def wantE (ops : Array Oper) (E : Env) (a : Act) (o : Oper) : Option Bool :=
 match o.guard with
 | none => some true
 | some (j, want) =>
  match (ops[j]?).bind (·.dst) with
  | none => none
  | some t => match lkE E a t with
   | .bool b => some (b == want)
   | .tuple _ => some false
   | _ => none
theorem wantE_spec {N : Nat} {ops : Array Oper} {E : Env} {a : Act} {o : Oper} {b : Bool} (hst : St N E a) (h : wantE ops E a o = some b) :
  Region.wanted o (yielded ops (putE E a).tmps) = b := by
 unfold wantE at h
 unfold Region.wanted
 cases hg : o.guard with
 | none => simp only [hg] at h; simpa using h
 | some p =>
  obtain ⟨j, want⟩ := p
  simp only [hg] at h
  simp only []
  cases ht : (ops[j]?).bind (·.dst) with
  | none => simp only [ht] at h; cases h
  | some t =>
   simp only [ht] at h
   have hl := hst.lk t
   have hy : yielded ops (putE E a).tmps j = match lkE E a t with | .bool b => some b | _ => none := by
    unfold yielded
    rw [ht]
    simp only [Option.bind_some]
    rw [← hl, Array.getD_eq_getD_getElem?]
    cases hv : (putE E a).tmps[t]? with
    | none => simp [undef]
    | some v => cases v <;> rfl
   rw [hy]
   cases hb : lkE E a t with
   | bool c => simp only [hb, Option.some.injEq] at h ⊢; rw [← h]; cases c <;> cases want <;> rfl
   | tuple c => simp only [hb, Option.some.injEq] at h ⊢; rw [← h]; cases want <;> rfl
   | _ => simp only [hb] at h; cases h

/-! ### A region in the text's order -/
def wS (P : Program) (ops : Array Oper) (Q : Exit → Act → World → Prop) (N i : Nat) (E : Env) (a : Act) (w : World) : Prop :=
 St N E a → wpList P ops Q (ops.toList.drop i) (putE E a) w
def stepP (P : Program) (ops : Array Oper) (N : Nat) (a : Act) (E : Env) (o : Oper) : Option Env :=
 match o.dst with
 | none => none
 | some d =>
  match Nat.blt d N with
  | true =>
   match wantE ops E a o with
   | some true => match pureRun P (execOp (evE E a) o) with
    | some (.value v) => some ((d, v) :: E)
    | _ => none
   | some false => some ((d, undef) :: E)
   | none => none
  | false => none
def runP (P : Program) (ops : Array Oper) (N : Nat) (a : Act) : List Oper → Env → Option Env
 | [], E => some E
 | o :: l, E => match stepP P ops N a E o with
  | some E' => runP P ops N a l E'
  | none => none
section
variable {P : Program} {ops : Array Oper} {Q : Exit → Act → World → Prop} {N i : Nat} {E : Env} {a : Act} {w : World}
theorem stepP_spec {o : Oper} {E' : Env} (hst : St N E a) (h : stepP P ops N a E o = some E') :
  ∃ d v, o.dst = some d ∧ E' = (d, v) :: E ∧ Nat.blt d N = true ∧ ((Region.wanted o (yielded ops (putE E a).tmps) = true ∧ ∀ w, (execOp (putE E a).eval o).run P w = .ok (.value v) w) ∨ (Region.wanted o (yielded ops (putE E a).tmps) = false ∧ v = undef)) := by
 unfold stepP at h
 cases hd : o.dst with
 | none => simp only [hd] at h; cases h
 | some d =>
  simp only [hd] at h
  cases hb : Nat.blt d N with
  | false => simp only [hb] at h; cases h
  | true =>
   simp only [hb] at h
   cases hw : wantE ops E a o with
   | none => simp only [hw] at h; cases h
   | some b =>
    have hwanted := wantE_spec hst hw
    cases b with
    | false =>
     simp only [hw, Option.some.injEq] at h
     exact ⟨d, undef, rfl, h.symm, hb, Or.inr ⟨hwanted, rfl⟩⟩
    | true =>
     simp only [hw] at h
     cases hr : pureRun P (execOp (evE E a) o) with
     | none => simp only [hr] at h; cases h
     | some x =>
      cases x with
      | value v =>
       simp only [hr, Option.some.injEq] at h
       exact ⟨d, v, rfl, h.symm, hb, Or.inl ⟨hwanted, fun w => by rw [hst.eval]; exact pureRun_run hr w⟩⟩
      | _ => simp only [hr] at h; cases h
theorem wpList_runP : ∀ (l rest : List Oper) (E E' : Env) (w : World), St N E a → runP P ops N a l E = some E' → (St N E' a → wpList P ops Q rest (putE E' a) w) → wpList P ops Q (l ++ rest) (putE E a) w
 | [], rest, E, E', w, hst, h, k => by simp only [runP, Option.some.injEq] at h; subst h; exact k hst
 | o :: l, rest, E, E', w, hst, h, k => by
  simp only [runP] at h
  cases hs : stepP P ops N a E o with
  | none => simp only [hs] at h; cases h
  | some E1 =>
   simp only [hs] at h
   obtain ⟨d, v, hd, rfl, hb, hc⟩ := stepP_spec hst hs
   have ih := wpList_runP l rest ((d, v) :: E) E' w (hst.cons hb) h k
   have e : putE ((d, v) :: E) a = (putE E a).put o.dst v := by rw [hd]; rfl
   rw [e] at ih
   simp only [List.cons_append, wpList]
   rcases hc with ⟨hw, hr⟩ | ⟨hw, rfl⟩
   ·rw [if_pos hw]; left
    unfold Oper.wp
    rw [hr w]
    exact ih
   ·rw [if_neg (by rw [hw]; simp)]; exact ih
theorem wS_pure (n : Nat) (news : Env) (h : runP P ops N a ((ops.toList.drop i).take n) E = some (news ++ E)) (k : wS P ops Q N (i + n) (news ++ E) a w) : wS P ops Q N i E a w := by
 intro hst
 have := wpList_runP (Q := Q) ((ops.toList.drop i).take n) ((ops.toList.drop i).drop n) E _ w hst h (fun h' => by
  have := k h'
  rwa [← List.drop_drop] at this)
 rwa [List.take_append_drop] at this

def opI (ops : Array Oper) (i : Nat) : Option (Option Nat × Op) := (ops[i]?).map fun o => (o.dst, o.op)
def wantI (ops : Array Oper) (E : Env) (a : Act) (i : Nat) : Option Bool := (ops[i]?).bind (wantE ops E a)
theorem opI_drop {dst : Option Nat} {op : Op} (ho : opI ops i = some (dst, op)) : ∃ o, ops[i]? = some o ∧ o.dst = dst ∧ o.op = op ∧ ops.toList.drop i = o :: ops.toList.drop (i + 1) := by
 unfold opI at ho
 obtain ⟨o, hi, he⟩ := Option.map_eq_some_iff.1 ho
 simp only [Prod.mk.injEq] at he
 obtain ⟨hlt, hg⟩ := Array.getElem?_eq_some_iff.1 hi
 refine ⟨o, hi, he.1, he.2, ?_⟩
 rw [List.drop_eq_getElem_cons (by simpa using hlt)]
 simp [hg]
theorem wS_val {d : Nat} {op : Op} {v : Value} {w' : World} (ho : opI ops i = some (some d, op)) (hg : wantI ops E a i = some true) (hd : Nat.blt d N = true)
  (hr : ∀ o : Oper, o.op = op → (execOp (evE E a) o).run P w = .ok (.value v) w') (k : wS P ops Q N (i + 1) ((d, v) :: E) a w') : wS P ops Q N i E a w := by
 intro hst
 obtain ⟨o, hi, hdst, hop, hdrop⟩ := opI_drop ho
 have hw : wantE ops E a o = some true := by unfold wantI at hg; rw [hi] at hg; simpa using hg
 rw [hdrop]
 simp only [wpList]
 rw [if_pos (wantE_spec hst hw)]; left
 unfold Oper.wp
 rw [hst.eval, hr o hop]
 have := k (hst.cons hd)
 show wpList P ops Q _ ((putE E a).put o.dst v) w'
 rw [hdst]
 exact this
theorem wS_act {op : Op} {w' : World} (ho : opI ops i = some (none, op)) (hg : wantI ops E a i = some true)
  (hr : ∀ o : Oper, o.op = op → (execOp (evE E a) o).run P w = .ok .skip w') (k : wS P ops Q N (i + 1) E a w') : wS P ops Q N i E a w := by
 intro hst
 obtain ⟨o, hi, hdst, hop, hdrop⟩ := opI_drop ho
 have hw : wantE ops E a o = some true := by unfold wantI at hg; rw [hi] at hg; simpa using hg
 rw [hdrop]
 simp only [wpList]
 rw [if_pos (wantE_spec hst hw)]; left
 unfold Oper.wp
 rw [hst.eval, hr o hop]
 have := k hst
 show wpList P ops Q _ ((putE E a).put o.dst undef) w'
 rw [hdst]
 exact this
theorem wS_call {d : Nat} {op : Op} {f : FuncId} {args : Array Value} {R : Ending → World → Prop} (ho : opI ops i = some (some d, op)) (hg : wantI ops E a i = some true) (hd : Nat.blt d N = true)
  (hr : ∀ o : Oper, o.op = op → pureRun P (execOp (evE E a) o) = some (.enter f args)) (hc : Calls P f args w R)
  (k : ∀ e w', R e w' → ∃ v, e = .returned v ∧ wS P ops Q N (i + 1) ((d, v) :: E) a w') : wS P ops Q N i E a w := by
 intro hst
 obtain ⟨o, hi, hdst, hop, hdrop⟩ := opI_drop ho
 have hw : wantE ops E a o = some true := by unfold wantI at hg; rw [hi] at hg; simpa using hg
 rw [hdrop]
 simp only [wpList]
 rw [if_pos (wantE_spec hst hw)]; left
 unfold Oper.wp
 rw [hst.eval, pureRun_run (hr o hop) w]
 refine hc.mono fun e w' he => ?_
 obtain ⟨v, rfl, hk⟩ := k e w' he
 have := hk (hst.cons hd)
 show wpList P ops Q _ ((putE E a).put o.dst v) w'
 rw [hdst]
 exact this

/-! ### Code -/
def cW (P : Program) (c : Code) (Q : Exit → Act → World → Prop) (N : Nat) (E : Env) (a : Act) (w : World) : Prop := St N E a → c.wp P Q (putE E a) w
def eX (e : Exit) (Q : Exit → Act → World → Prop) (N : Nat) (E : Env) (a : Act) (w : World) : Prop := St N E a → Q e (putE E a) w
theorem cW_region {id : Nat} (k : wS P ops Q N 0 E a w) : cW P (.region id ops false) Q N E a w := fun hst => wp_region_list (by simpa using k hst)
theorem wS_end (h : ops.size = i) (k : eX .normal Q N E a w) : wS P ops Q N i E a w := fun hst => by
 rw [List.drop_eq_nil_of_le (by simp; omega)]
 exact k hst
theorem cW_seq {x y : Code} (k : cW P x (Exit.then (y.wp P Q) Q) N E a w) : cW P (.seq x y) Q N E a w := fun hst => wp_seq (k hst)
theorem cW_skip (k : eX .normal Q N E a w) : cW P .skip Q N E a w := fun hst => wp_skip (k hst)
theorem cW_exit {id : Nat} (k : eX (.exit id) Q N E a w) : cW P (.exit id) Q N E a w := fun hst => wp_exit (k hst)
theorem cW_ret (k : eX .ret Q N E a w) : cW P .ret Q N E a w := fun hst => wp_ret (k hst)
theorem cW_block {id : Nat} {c : Code} (k : cW P c (Exit.inBlock id Q) N E a w) : cW P (.block id c) Q N E a w := fun hst => wp_block (k hst)
theorem cW_cond {c : Operand} {x y : Code} {t : Bool} (hc : evE E a c = .bool t) (kt : t = true → cW P x Q N E a w) (kf : t = false → cW P y Q N E a w) : cW P (.cond c x y) Q N E a w :=
 fun hst => wp_cond_split (t := t) (by rw [hst.eval]; exact hc) (fun h => kt h hst) (fun h => kf h hst)
theorem cW_cond_t {c : Operand} {x y : Code} (hc : evE E a c = .bool true) (k : cW P x Q N E a w) : cW P (.cond c x y) Q N E a w :=
 fun hst => wp_cond_true (by rw [hst.eval]; exact hc) (k hst)
theorem cW_cond_f {c : Operand} {x y : Code} (hc : evE E a c = .bool false) (k : cW P y Q N E a w) : cW P (.cond c x y) Q N E a w :=
 fun hst => wp_cond_false (by rw [hst.eval]; exact hc) (k hst)
theorem eX_then {y : Code} (k : cW P y Q N E a w) : eX .normal (Exit.then (y.wp P Q) Q) N E a w := k
theorem eX_then_ret {K : Act → World → Prop} (k : eX .ret Q N E a w) : eX .ret (Exit.then K Q) N E a w := k
theorem eX_then_exit {K : Act → World → Prop} {id : Nat} (k : eX (.exit id) Q N E a w) : eX (.exit id) (Exit.then K Q) N E a w := k
theorem eX_block {id : Nat} (k : eX .normal Q N E a w) : eX .normal (Exit.inBlock id Q) N E a w := k
theorem eX_block_ret {id : Nat} (k : eX .ret Q N E a w) : eX .ret (Exit.inBlock id Q) N E a w := k
theorem eX_block_hit {id : Nat} (k : eX .normal Q N E a w) : eX (.exit id) (Exit.inBlock id Q) N E a w := fun hst => by
 show Exit.inBlock id Q (.exit id) _ _
 simp only [Exit.inBlock, if_true]; exact k hst
theorem eX_block_miss {id id' : Nat} (h : Nat.beq id' id = false) (k : eX (.exit id') Q N E a w) : eX (.exit id') (Exit.inBlock id Q) N E a w := fun hst => by
 show Exit.inBlock id Q (.exit id') _ _
 have : id' ≠ id := fun e => by rw [e] at h; simp at h
 simp only [Exit.inBlock, this, if_false]; exact k hst

/-! ### What a frame holds: the plain form, at joins and at a loop's head -/
def Holds (E : Env) (a : Act) : Prop := ∀ p ∈ E, a.tmps.getD p.1 undef = p.2
structure Fr (N : Nat) (E : Env) (a : Act) : Prop where
 size : a.tmps.size = N
 defers : a.defers = []
 holds : Holds E a
theorem put_same {a : Act} {t : Nat} {v : Value} (h : a.tmps.getD t undef = v) : a.put (some t) v = a := by
 unfold Act.put
 simp only []
 have : a.tmps.setIfInBounds t v = a.tmps := by
  apply Array.ext_getElem?
  intro j
  rw [Array.getElem?_setIfInBounds]
  split
  ·rename_i e
   subst e
   split
   ·rename_i hlt
    rw [Array.getD_eq_getD_getElem?, Array.getElem?_eq_getElem hlt] at h
    simp at h
    rw [Array.getElem?_eq_getElem hlt, h]
   ·rename_i hge
    rw [Array.getElem?_eq_none (by omega)]
  ·rfl
 rw [this]
theorem putE_same {a : Act} : ∀ {E : Env}, Holds E a → putE E a = a
 | [], _ => rfl
 | p :: E, h => by
  have ih := putE_same (E := E) (fun q hq => h q (List.mem_cons_of_mem _ hq))
  simp only [putE, ih]
  exact put_same (h p (List.mem_cons_self ..))
theorem lowB_spec {N : Nat} {E : Env} (h : lowB N E = true) : ∀ p ∈ E, p.1 < N := fun p hp => by
 have := List.all_eq_true.1 h p hp
 simpa using this
theorem Fr.goOn {c : Code} (hf : Fr N E a) (hl : lowB N E = true) (k : cW P c Q N E a w) : c.wp P Q a w := by
 have := k ⟨hf.size, hf.defers, lowB_spec hl⟩
 rwa [putE_same hf.holds] at this
theorem Fr.of {E' : Env} (hst : St N E a) (h : E'.map (fun p => lkE E a p.1) = E'.map (·.2)) : Fr N E' (putE E a) := by
 refine ⟨(putE_size a E).trans hst.size, (putE_defers a E).trans hst.defers, fun p hp => ?_⟩
 rw [hst.lk]
 obtain ⟨j, hj, rfl⟩ := List.mem_iff_getElem.1 hp
 have := congrArg (fun l => l[j]?) h
 simpa [hj] using this
theorem cW_prune {c : Code} (E' : Env) (h : E'.map (fun p => lkE E a p.1) = E'.map (·.2)) (hl : lowB N E' = true) (k : ∀ a', cW P c Q N E' a' w) : cW P c Q N E a w :=
 fun hst => (Fr.of hst h).goOn hl (k _)
/-! ### Loops -/
inductive Ctl (S R : Type) where
 | next (s : S)
 | out (r : R)
def loopN {S R : Type} (step : S → Option (Ctl S R)) : Nat → S → Option R
 | 0, _ => none
 | n + 1, s => match step s with
  | some (.next s') => loopN step n s'
  | some (.out r) => some r
  | none => none
theorem loopN_more {S R : Type} {step : S → Option (Ctl S R)} : ∀ (n : Nat) (s : S) (r : R), loopN step n s = some r → ∀ m, loopN step (n + m) s = some r
 | 0, s, r, h, m => by simp [loopN] at h
 | n + 1, s, r, h, m => by
  rw [show n + 1 + m = (n + m) + 1 by omega]
  simp only [loopN] at h ⊢
  split at h
  ·exact loopN_more n _ r h m
  ·exact h
  ·cases h
open Classical in
noncomputable def loopM {S R : Type} (step : S → Option (Ctl S R)) (s : S) : Option R := if h : ∃ r, ∃ n, loopN step n s = some r then some h.choose else none
theorem loopM_iff {S R : Type} {step : S → Option (Ctl S R)} {s : S} {r : R} : loopM step s = some r ↔ ∃ n, loopN step n s = some r := by
 unfold loopM
 constructor
 ·intro h
  split at h
  ·rename_i hx
   obtain ⟨n, hn⟩ := hx.choose_spec
   simp only [Option.some.injEq] at h
   exact ⟨n, by rw [hn, h]⟩
  ·cases h
 ·rintro ⟨n, hn⟩
  have hx : ∃ r, ∃ n, loopN step n s = some r := ⟨r, n, hn⟩
  rw [dif_pos hx]
  obtain ⟨m, hm⟩ := hx.choose_spec
  have h1 := loopN_more n s r hn m
  have h2 := loopN_more m s _ hm n
  rw [Nat.add_comm] at h2
  rw [h1] at h2
  exact h2.symm
theorem loopM_next {S R : Type} {step : S → Option (Ctl S R)} {s s' : S} (h : step s = some (.next s')) : loopM step s = loopM step s' := by
 apply Option.ext
 intro r
 rw [loopM_iff, loopM_iff]
 constructor
 ·rintro ⟨n, hn⟩
  cases n with
  | zero => simp [loopN] at hn
  | succ n => simp only [loopN, h] at hn; exact ⟨n, hn⟩
 ·rintro ⟨n, hn⟩; exact ⟨n + 1, by simp only [loopN, h]; exact hn⟩
theorem loopM_out {S R : Type} {step : S → Option (Ctl S R)} {s : S} {r : R} (h : step s = some (.out r)) : loopM step s = some r :=
 loopM_iff.2 ⟨1, by simp [loopN, h]⟩
def LoopPost {S R : Type} (step : S → Option (Ctl S R)) (Rep : S → Act → World → Prop) (res : R) (Q : Exit → Act → World → Prop) (s : S) : Exit → Act → World → Prop :=
 Exit.then (fun a' w' => ∃ s', step s = some (.next s') ∧ Rep s' a' w') (fun e a' w' => ∃ r, step s = some (.out r) ∧ (res = r → Q e a' w'))
theorem wp_loopM {S R : Type} {c : Code} (step : S → Option (Ctl S R)) (Rep : S → Act → World → Prop) {s0 : S} {res : R} (hm : loopM step s0 = some res)
  (h0 : Rep s0 a w) (round : ∀ s x a w, Rep s a w → step s = some x → c.wp P (LoopPost step Rep res Q s) a w) : (Code.loop c).wp P Q a w := by
 obtain ⟨n, hn⟩ := loopM_iff.1 hm
 clear hm
 suffices H : ∀ n s a w, loopN step n s = some res → Rep s a w → ∀ b k cs, ∃ e a' w', Q e a' w' ∧ Arrives P (lone (b.at a (.code c :: .inLoop c :: k)) cs w) b k cs e a' w' by
  intro b k cs
  obtain ⟨e, a', w', hq, harr⟩ := H n s0 a w hn h0 b k cs
  exact ⟨e, a', w', hq, .of_steps (.one step_loop) harr⟩
 intro n
 induction n with
 | zero => intro s a w h; simp [loopN] at h
 | succ n ih =>
  intro s a w h hr b k cs
  simp only [loopN] at h
  cases hx : step s with
  | none => simp only [hx] at h; cases h
  | some x =>
   have hround := round s x a w hr hx
   obtain ⟨e, a₁, w₁, hq, harr⟩ := hround b (.inLoop c :: k) cs
   cases x with
   | next s1 =>
    simp only [hx] at h
    cases e with
    | normal =>
     obtain ⟨s', hs', hrep⟩ := hq
     rw [hx] at hs'
     cases hs'
     obtain ⟨e₂, a₂, w₂, hq₂, harr₂⟩ := ih s1 a₁ w₁ h hrep b k cs
     exact ⟨e₂, a₂, w₂, hq₂, .of_steps (Steps.trans harr (.one step_inLoop)) harr₂⟩
    | _ => obtain ⟨r, hr', _⟩ := hq; rw [hx] at hr'; cases hr'
   | out r =>
    simp only [hx, Option.some.injEq] at h
    subst h
    cases e with
    | normal =>
     obtain ⟨s', hs', _⟩ := hq
     rw [hx] at hs'; cases hs'
    | _ =>
     obtain ⟨r', hr', hq⟩ := hq
     rw [hx] at hr'
     cases hr'
     exact ⟨_, a₁, w₁, hq rfl, .pass (x := .inLoop c) rfl (fun _ _ => .inl (by simp)) harr⟩
end
end Go.Proofs.YtbfjekmefcpkmaaDoor
