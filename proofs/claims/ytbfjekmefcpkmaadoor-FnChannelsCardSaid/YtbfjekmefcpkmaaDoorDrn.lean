/- The engine in a region that draws its order: what may come up is taken as it comes; reads are taken first where nobody in the region writes what they read. -/
import Derived.Test.YtbfjekmefcpkmaaDoorHlp
import Derived.Test.YtbfjekmefcpkmaaDoorGrow
import Derived.OrdersHeld
set_option linter.unusedSimpArgs false
set_option linter.unusedVariables false
namespace Go.Proofs.YtbfjekmefcpkmaaDoor
open Go.RowKit

section
variable {P : Program} {ops : Array Oper} {Q : Exit → Act → World → Prop} {md : Region.Mode}
theorem Oper.wp_then {J : Act → World → Prop} {o : Oper} {a : Act} {w : World} {K K' : Act → World → Prop} (hK : ∀ a w, K a w → K' a w) (h : o.wp P a w K (Exit.then J Q)) : o.wp P a w K' Q := by
 unfold Oper.wp at *
 generalize (execOp a.eval o).run P w = r at *
 cases r with
 | ok n w' =>
  cases n <;> simp only [Oper.upon] at h ⊢ <;>
   first
    | exact hK _ _ h
    | exact Calls.mono h (fun e w'' he => by
      cases e with
      | returned v => exact hK _ _ he
      | panicked c => exact he
      | outgrown => obtain ⟨a0, w0, h0⟩ := he; exact ⟨a0, w0, h0⟩)
    | exact Rows.mono h (fun _ _ he => hK _ _ he)
 | halt x w' => cases x <;> simp only [Oper.upon] at h ⊢ <;> exact h
theorem wpAny_of_head {n g : Nat} {l : List Oper} (hl : ∀ j, l[j]? = ops[n + j]?) (hg : g = l.length)
  (hgd : guardsB ops.toList n = true) (hs : Region.sinkB md ops n = true) (hc : Region.chainB md ops n = true) (hn : n < ops.size)
  (hd : ∀ j, j < n → ∀ o, ops[j]? = some o → ∀ e ∈ o.after, Region.binds md e = true → e.on < j) (hseq : Region.seqB md ops g n (setTo ops.size n) = true) :
  ∀ (f : Nat) (listed listedH : Array Bool) (a : Act) (w : World), HeadInv md ops n listed → listedH.size = n → (∀ j, j < n → listed[j]? = listedH[j]?) →
   wpAny P md (ops.toList.take n).toArray (Exit.then (fun a' w' => wpList P ops Q l a' w') Q) f listedH a w → wpAny P md ops Q (f + g) listed a w := by
 have done : ∀ (listed listedH : Array Bool) (a : Act) (w : World), HeadInv md ops n listed → listedH.size = n → (∀ j, j < n → listed[j]? = listedH[j]?) →
   Region.ready md (ops.toList.take n).toArray listedH = [] → wpList P ops Q l a w → wpAny P md ops Q g listed a w := by
  intro listed listedH a w inv h2 hag hr hQ
  have all : ∀ j, j < n → listed[j]? = some true := by
   intro j
   induction j using Nat.strongRecOn with
   | _ j ih =>
    intro hj
    have hjs : j < ops.size := by omega
    cases hv : listed[j]? with
    | none => exact absurd (Array.getElem?_eq_none_iff.1 hv) (by rw [inv.size]; omega)
    | some b =>
     cases b with
     | true => rfl
     | false =>
      exfalso
      have : j ∈ Region.ready md ops listed := by
       rw [mem_ready]
       refine ⟨by rw [Array.getD_eq_getD_getElem?, hv]; rfl, ops[j], by simp [hjs], fun e he hb => ?_⟩
       have hlt := hd j hj ops[j] (by simp [hjs]) e he hb
       rw [Array.getD_eq_getD_getElem?, ih e.on hlt (by omega)]; rfl
      rw [ready_head hd hn inv.size h2 hag hj, hr] at this
      cases this
  have e : listed = setTo ops.size n := by
   refine Array.ext_getElem? fun j => ?_
   rw [setTo_get _ _ _ (by omega)]
   by_cases hj : j < n
   ·rw [all j hj, if_pos (by omega)]; simp [hj]
   ·by_cases hjs : j < ops.size
    ·rw [if_pos hjs]
     have := inv.tail j (by omega) hjs
     rw [Array.getD_eq_getD_getElem?] at this
     cases hv : listed[j]? with
     | none => exact absurd (Array.getElem?_eq_none_iff.1 hv) (by rw [inv.size]; omega)
     | some b => rw [hv] at this; simp at this; simp [this, hj]
    ·rw [if_neg hjs, Array.getElem?_eq_none_iff, inv.size]; omega
  subst hg
  rw [e]
  exact wpAny_of_seq l n _ a w hl hseq hQ
 intro f
 induction f with
 | zero =>
  intro listed listedH a w inv h2 hag h
  rw [Nat.zero_add]
  exact done listed listedH a w inv h2 hag h.1 h.2
 | succ f ih =>
  intro listed listedH a w inv h2 hag h
  by_cases hr : Region.ready md (ops.toList.take n).toArray listedH = []
  ·exact wpAny_more' (done listed listedH a w inv h2 hag hr (h.1 hr)) (f + 1)
  ·obtain ⟨i0, hi0⟩ := List.exists_mem_of_ne_nil _ hr
   have hi0n : i0 < n := by
    rcases Nat.lt_or_ge i0 n with h' | h'
    ·exact h'
    ·rw [mem_ready] at hi0; obtain ⟨_, o, ho, _⟩ := hi0; rw [head_none h'] at ho; cases ho
   have hi0' := (ready_head hd hn inv.size h2 hag hi0n).2 hi0
   have hun : listed.getD i0 true = false := (mem_ready.1 hi0').1
   rw [show f + 1 + g = (f + g) + 1 by omega]
   refine ⟨fun h0 => (by rw [h0] at hi0'; cases hi0'), fun i hi => ?_⟩
   have hin : i < n := by
    rcases Nat.lt_or_ge i n with h' | h'
    ·exact h'
    ·exact absurd hi (tail_waits hs hc hn inv _ i0 rfl hi0n hun i h')
   have hiH := (ready_head hd hn inv.size h2 hag hin).1 hi
   have hq := h.2 i hiH
   have step : ∀ a' w', wpAny P md (ops.toList.take n).toArray (Exit.then (fun a' w' => wpList P ops Q l a' w') Q) f (listedH.setIfInBounds i true) a' w' → wpAny P md ops Q (f + g) (listed.setIfInBounds i true) a' w' := fun a' w' hk =>
    ih (listed.setIfInBounds i true) (listedH.setIfInBounds i true) a' w' (inv.set hi hin) (by simp [h2]) (fun j hj => by
     rw [Array.getElem?_setIfInBounds, Array.getElem?_setIfInBounds, hag j hj, inv.size, h2]
     by_cases e : i = j
     ·subst e; simp [hj, show i < ops.size by omega]
     ·simp [e]) hk
   unfold wpOp at hq ⊢
   rw [head_get hin] at hq
   split
   ·rename_i ho; simp only [ho] at hq; exact step _ _ hq
   ·rename_i o ho
    simp only [ho, wanted_head hgd hin ho] at hq
    split
    ·rename_i hw
     simp only [hw, if_true] at hq
     rcases hq with hq | ⟨h1, a0, w0, h2'⟩
     ·exact Or.inl (Oper.wp_then step hq)
     ·exact Or.inr ⟨h1, a0, w0, h2'⟩
    ·rename_i hw
     simp only [hw] at hq
     exact step _ _ hq
end

/-! ### The state of a region that draws its order -/
def lsd (n : Nat) (dn : List Nat) : Array Bool := dn.foldr (fun i arr => arr.setIfInBounds i true) (Array.replicate n false)
def wH (P : Program) (ops : Array Oper) (Q : Exit → Act → World → Prop) (Sg : List Nat) (ws : World) (N : Nat) (dn : List Nat) (E : Env) (a : Act) (w : World) : Prop :=
 St N E a → Chg Sg ws w → wpAnyH P .any ops Q (Chg Sg ws) (ops.size - dn.length) (lsd ops.size dn) (putE E a) w
def QCalm (Q : Exit → Act → World → Prop) : Prop := ∀ c a d v w, Q (.panic c) (Act.put a d v) w → Q (.panic c) a w
def freeB (ops : Array Oper) (dn : List Nat) (i : Nat) : Bool :=
 Nat.blt dn.length ops.size && Region.free .any ops (lsd ops.size dn) i && (Region.ready .any ops (lsd ops.size dn)).contains i
def takeP (P : Program) (ops : Array Oper) (N : Nat) (a : Act) : List Nat → List Nat → Env → Option (List Nat × Env)
 | [], dn, E => some (dn, E)
 | i :: is, dn, E => match ops[i]? with
  | none => none
  | some o => match stepP P ops N a E o with
   | none => none
   | some E' => match freeB ops dn i with
    | true => takeP P ops N a is (i :: dn) E'
    | false => none
section
variable {P : Program} {ops : Array Oper} {Q : Exit → Act → World → Prop} {N i : Nat} {E : Env} {a : Act} {w ws : World} {Sg dn : List Nat}
theorem freeB_spec (h : freeB ops dn i = true) : dn.length < ops.size ∧ Region.free .any ops (lsd ops.size dn) i = true ∧ (Region.ready .any ops (lsd ops.size dn)).contains i = true := by
 unfold freeB at h
 rw [Bool.and_eq_true, Bool.and_eq_true] at h
 exact ⟨by simpa using h.1.1, h.1.2, h.2⟩
theorem fuel_eq (h : dn.length < ops.size) : ops.size - dn.length = (ops.size - (i :: dn).length) + 1 := by simp; omega
def tailB (ops : Array Oper) (n : Nat) : Bool := Region.lexTailB .any ops n && guardsB ops.toList n
theorem cW_drawnTail {id : Nat} (Sg : List Nat) (n : Nat) (hm : P.follows .mixedOrders = true) (hT : tailB ops n = true)
  (k : ∀ w1, Chg [] w w1 → wH P (ops.toList.take n).toArray (Exit.then (fun a' w' => wpList P ops Q (ops.toList.drop n) a' w') Q) Sg w1 N [] E a w1) : cW P (.region id ops true) Q N E a w := fun hst => by
 unfold tailB at hT
 rw [Bool.and_eq_true] at hT
 obtain ⟨hT, hgd⟩ := hT
 simp only [Region.lexTailB, Bool.and_eq_true, decide_eq_true_eq] at hT
 obtain ⟨⟨⟨⟨_, hn⟩, hs⟩, hc⟩, hlex⟩ := hT
 have hlex' := lexHead_at (md := .any) (ops := ops) (g := ops.size - n) n 0 (by omega) (by simpa [setTo] using hlex)
 simp only [Nat.zero_add] at hlex'
 have h0 := k w.drew (Chg.drew w) hst (Chg.refl _ _)
 have hsz : (ops.toList.take n).toArray.size = n := by simp; omega
 have h1 := wpAny_of_held _ _ _ _ h0
 refine wp_region_any hm ?_
 have := wpAny_of_head (P := P) (ops := ops) (md := .any) (n := n) (g := ops.size - n) (Q := Q) (l := ops.toList.drop n)
  (fun j => by simp [List.getElem?_drop]) (by simp) hgd hs hc hn
  (fun j hj o ho x hx hb => by
   have := hlex'.2 j (by omega) hj
   rw [mem_ready] at this
   obtain ⟨_, o', ho', hall⟩ := this
   rw [ho] at ho'
   cases ho'
   have := hall x hx hb
   rw [setTo_getD _ _ _ _ (by omega)] at this
   split at this
   ·simpa using this
   ·cases this)
  hlex'.1 n (Array.replicate ops.size false) (Array.replicate n false) (putE E a) w.drew
  ⟨by simp, fun j oj _ hl => by (rw [getD_replicate_false] at hl; cases hl), fun t _ ht => getD_in (by simpa using ht) (getD_replicate_false _ _)⟩
  (by simp) (fun j hj => by simp [Array.getElem?_replicate, hj, show j < ops.size by omega]) (by rw [hsz] at h1; simpa [lsd] using h1)
 rw [show n + (ops.size - n) = ops.size by omega] at this
 exact this
theorem wH_takes (is : List Nat) {dn' : List Nat} {E' : Env} (hs : Region.noSelect ops = true) (hQ : QCalm Q) (h : takeP P ops N a is dn E = some (dn', E')) (k : wH P ops Q Sg ws N dn' E' a w) : wH P ops Q Sg ws N dn E a w := by
 induction is generalizing dn E with
 | nil => simp only [takeP, Option.some.injEq, Prod.mk.injEq] at h; obtain ⟨rfl, rfl⟩ := h; exact k
 | cons i is ih =>
  intro hst hS
  simp only [takeP] at h
  cases ho : ops[i]? with
  | none => simp only [ho] at h; cases h
  | some o =>
   simp only [ho] at h
   cases hp : stepP P ops N a E o with
   | none => simp only [hp] at h; cases h
   | some E1 =>
    simp only [hp] at h
    cases hf : freeB ops dn i with
    | false => simp only [hf] at h; cases h
    | true =>
     simp only [hf] at h
     obtain ⟨h1, h2, h3⟩ := freeB_spec hf
     obtain ⟨d, v, hd, rfl, hb, hc⟩ := stepP_spec hst hp
     have ih' := ih h (hst.cons hb) hS
     rw [fuel_eq (i := i) h1]
     refine wpAnyH_take (v := v) ho hs h2 h3 (fun c a w hh => hQ c a o.dst v w hh) ?_ hS ?_
     ·rcases hc with ⟨hw, hr⟩ | ⟨hw, rfl⟩
      ·exact Or.inl ⟨hw, fun w _ => hr w⟩
      ·exact Or.inr ⟨hw, rfl⟩
     ·rw [hd]; exact ih'
theorem wH_take (is : List Nat) (dn' : List Nat) (news : Env) (hs : Region.noSelect ops = true) (hQ : QCalm Q) (h : takeP P ops N a is dn E = some (dn', news ++ E)) (k : wH P ops Q Sg ws N dn' (news ++ E) a w) : wH P ops Q Sg ws N dn E a w := wH_takes is hs hQ h k
theorem wH_val {d : Nat} {op : Op} {v : Value} (hs : Region.noSelect ops = true) (hQ : QCalm Q) (hf : freeB ops dn i = true) (ho : atI ops N E a i = some (some d, op))
  (hr : ∀ W, Chg Sg ws W → ∀ o : Oper, o.op = op → (execOp (evE E a) o).run P W = .ok (.value v) W) (k : wH P ops Q Sg ws N (i :: dn) ((d, v) :: E) a w) : wH P ops Q Sg ws N dn E a w := by
 intro hst hS
 obtain ⟨h1, h2, h3⟩ := freeB_spec hf
 obtain ⟨g1, g2, g3⟩ := atI_spec ho
 obtain ⟨o, hi, hdst, hop, _⟩ := opI_drop g1
 have hw : wantE ops E a o = some true := by unfold wantI at g2; rw [hi] at g2; simpa using g2
 rw [fuel_eq (i := i) h1]
 refine wpAnyH_take (v := v) hi hs h2 h3 (fun c a w hh => hQ c a o.dst v w hh) (Or.inl ⟨wantE_spec hst hw, fun W hW => by rw [hst.eval]; exact hr W hW o hop⟩) hS ?_
 rw [hdst]
 exact k (hst.cons (g3 _ rfl)) hS
theorem wH_load1 {d T k : Nat} {ad : Addr} {v : Value} (hs : Region.noSelect ops = true) (hQ : QCalm Q) (hf : freeB ops dn i = true) (ho : loadI ops N E a i = some (d, T, .pointer (some ad))) (hT : VarTy P T k false)
  (hc : ∀ W, Chg Sg ws W → W.cell? ad = some v) (kk : wH P ops Q Sg ws N (i :: dn) ((d, v) :: E) a w) : wH P ops Q Sg ws N dn E a w := by
 unfold loadI at ho
 split at ho
 ·rename_i d' T' x hat
  simp only [Option.some.injEq, Prod.mk.injEq] at ho
  obtain ⟨rfl, rfl, hx⟩ := ho
  refine wH_val hs hQ hf hat (fun W hW o ho => ?_) kk
  simp [execOp, ho, hx, Instr.loadAt, Instr.sureAddr, loadVar, run_agg hT, hc W hW]
 ·cases ho
theorem wH_loadA {d T : Nat} {ad : Addr} {vs : List Value} (hs : Region.noSelect ops = true) (hQ : QCalm Q) (hf : freeB ops dn i = true) (ho : loadI ops N E a i = some (d, T, .pointer (some ad))) (hT : VarTy P T vs.length true)
  (hc : ∀ W, Chg Sg ws W → ∀ i u, vs[i]? = some u → W.cell? (ad.add i) = some u) (kk : wH P ops Q Sg ws N (i :: dn) ((d, .agg vs.toArray) :: E) a w) : wH P ops Q Sg ws N dn E a w := by
 unfold loadI at ho
 split at ho
 ·rename_i d' T' x hat
  simp only [Option.some.injEq, Prod.mk.injEq] at ho
  obtain ⟨rfl, rfl, hx⟩ := ho
  refine wH_val hs hQ hf hat (fun W hW o ho => ?_) kk
  have := run_loadCellsFrom (P := P) (w := W) (ad := ad) vs 0 #[] (fun i u hu => by rw [Nat.zero_add]; exact hc W hW i u hu)
  simp [execOp, ho, hx, Instr.loadAt, Instr.sureAddr, loadVar, run_agg hT, run_size hT, loadCells, this]
 ·cases ho
theorem wH_idx {d T e k n cap : Nat} {A : Option Addr} {kd : IntKind} {m : Int} (hs : Region.noSelect ops = true) (hQ : QCalm Q) (hf : freeB ops dn i = true) (ho : idxI ops N E a i = some (d, T, .slice A n cap, .int kd m)) (hT : SlTy P T e k) (h : A.isSome = true ∧ 0 ≤ m ∧ m < n)
  (kk : wH P ops Q Sg ws N (i :: dn) ((d, .pointer (some (elA A k m 0))) :: E) a w) : wH P ops Q Sg ws N dn E a w := by
 unfold idxI at ho
 split at ho
 ·rename_i d' T' x ix hat
  simp only [Option.some.injEq, Prod.mk.injEq] at ho
  obtain ⟨rfl, rfl, hx, hix⟩ := ho
  obtain ⟨hA, h0, hlt⟩ := h
  cases A with
  | none => cases hA
  | some ad =>
   refine wH_val hs hQ hf hat (fun W hW o ho => ?_) kk
   have hsz := pureRun_run hT.size W
   simp [execOp, ho, hx, hix, Instr.indexAt, asIntOf, run_underlying hT.und, h0, hlt, hsz, elA, adr, Addr.add]
 ·cases ho
theorem wH_bool (b : Bool) (ht : b = true → wH P ops Q Sg ws N dn E a w) (hf : b = false → wH P ops Q Sg ws N dn E a w) : wH P ops Q Sg ws N dn E a w := by cases b; exact hf rfl; exact ht rfl
def one (ops : Array Oper) (i : Nat) : Array Oper := match ops[i]? with | some o => #[{ o with guard := none }] | none => #[]
def KH (P : Program) (ops : Array Oper) (Q : Exit → Act → World → Prop) (Sg : List Nat) (ws : World) (dn : List Nat) : Act → World → Prop :=
 fun a' w' => Chg Sg ws w' ∧ wpAnyH P .any ops Q (Chg Sg ws) (ops.size - dn.length) (lsd ops.size dn) a' w'
def AllK (P : Program) (ops : Array Oper) (Q : Exit → Act → World → Prop) (Sg : List Nat) (ws : World) (N : Nat) (dn : List Nat) (E : Env) (a : Act) (w : World) : List Nat → Prop
 | [] => True
 | i :: rs => (wantI ops E a i = some true ∧ wS P (one ops i) (Exit.then (KH P ops Q Sg ws (i :: dn)) Q) N 0 E a w) ∧ AllK P ops Q Sg ws N dn E a w rs
theorem allK_mem : ∀ (rs : List Nat), AllK P ops Q Sg ws N dn E a w rs → ∀ i ∈ rs, wantI ops E a i = some true ∧ wS P (one ops i) (Exit.then (KH P ops Q Sg ws (i :: dn)) Q) N 0 E a w
 | [], _, i, h => by cases h
 | j :: rs, h, i, hi => by
  rcases List.mem_cons.1 hi with rfl | hi
  ·exact h.1
  ·exact allK_mem rs h.2 i hi
theorem wH_all (rs : List Nat) (hlt : Nat.blt dn.length ops.size = true) (hr : Region.ready .any ops (lsd ops.size dn) = rs) (hne : rs ≠ []) (k : AllK P ops Q Sg ws N dn E a w rs) : wH P ops Q Sg ws N dn E a w := by
 intro hst hS
 have hlt' : dn.length < ops.size := by simpa using hlt
 rw [fuel_eq (i := 0) hlt']
 refine wpAnyH_all hr hne fun i hi => ?_
 obtain ⟨h1, h2⟩ := allK_mem rs k i hi
 have h2 := h2 hst
 unfold wantI at h1
 unfold one at h2
 unfold wpOp
 cases ho : ops[i]? with
 | none => rw [ho] at h1; cases h1
 | some o =>
  simp only [ho, Option.bind_some] at h1 h2 ⊢
  rw [if_pos (wantE_spec hst h1)]
  simp only [List.drop_zero, wpList] at h2
  rw [if_pos (by rfl)] at h2
  rcases h2 with h2 | ⟨h2, a0, w0, h3⟩
  ·left
   have : Oper.wp P o (putE E a) w (wpList P #[{ o with guard := none }] (Exit.then (KH P ops Q Sg ws (i :: dn)) Q) []) (Exit.then (KH P ops Q Sg ws (i :: dn)) Q) := h2
   exact Oper.wp_then (fun a' w' hh => by simp only [wpList] at hh; exact hh) this
  ·right; exact ⟨h2, a0, w0, h3⟩
theorem eX_KH (hc : Chg Sg ws w) (k : wH P ops Q Sg ws N dn E a w) : eX .normal (Exit.then (KH P ops Q Sg ws dn) Q) N E a w := fun hst => ⟨hc, k hst hc⟩
theorem wH_done (hr : Region.ready .any ops (lsd ops.size dn) = []) (k : eX .normal Q N E a w) : wH P ops Q Sg ws N dn E a w := fun hst _ => wpAnyH_done hr (k hst) _
theorem eX_tail {n : Nat} (k : wS P ops Q N n E a w) : eX .normal (Exit.then (fun a' w' => wpList P ops Q (ops.toList.drop n) a' w') Q) N E a w := k
theorem put_defers' (a : Act) (d : Option Nat) (v : Value) : (a.put d v).defers = a.defers := by cases d <;> rfl
theorem qZ {fn : Func} {R : Ending → World → Prop} : QCalm (bodyPost P fn R) := fun c a d v w h => by
 simp only [bodyPost] at h ⊢
 rw [put_defers'] at h; exact h
theorem qT {K : Act → World → Prop} (h : QCalm Q) : QCalm (Exit.then K Q) := fun c a d v w hh => h c a d v w hh
theorem qB {id : Nat} (h : QCalm Q) : QCalm (Exit.inBlock id Q) := fun c a d v w hh => h c a d v w hh
theorem qL {S R : Type} {step : S → Option (Ctl S R)} {Rep : S → Act → World → Prop} {res : R} {s : S} (h : QCalm Q) : QCalm (LoopPost step Rep res Q s) := fun c a d v w hh => by
 obtain ⟨r, h1, h2⟩ := hh
 exact ⟨r, h1, fun e => h c a d v w (h2 e)⟩
theorem Chg.keep {W : World} {ad : Addr} {v : Value} (h : Chg [] ws W) (hc : ws.cell? ad = some v) : W.cell? ad = some v := by
 rw [h.cell (World.block_lt_of_cell? ws ad hc) (by simp)]; exact hc
end
end Go.Proofs.YtbfjekmefcpkmaaDoor
