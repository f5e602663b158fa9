/- A region whose last operations stand in one order, when some quiet operations ahead of them are taken first. -/
import Derived.Test.YtbfjekmefcpkmaaDoorDrn
set_option linter.unusedSimpArgs false
set_option linter.unusedVariables false
set_option linter.unusedSectionVars false
namespace Go.Proofs.YtbfjekmefcpkmaaDoor
open Go.RowKit

def sink2 (ops : Array Oper) (n : Nat) (dn0 : List Nat) : Bool :=
 (List.range n).all fun i => dn0.contains i || (List.range (n + 1)).any fun j => Nat.blt i j && Region.waitsFor .any ops j i
def closed2 (ops : Array Oper) (dn0 : List Nat) : Bool :=
 (List.range ops.size).all fun j => !dn0.contains j || (List.range ops.size).all fun i => !Region.waitsFor .any ops j i || dn0.contains i
def back2 (ops : Array Oper) (n : Nat) : Bool :=
 (List.range n).all fun j => match ops[j]? with | some o => o.after.all (fun e => !Region.binds .any e || Nat.blt e.on j) | none => false
def edgeIn (ops : Array Oper) : Bool := (List.range ops.size).all fun j => match ops[j]? with | some o => o.after.all (fun e => Nat.blt e.on ops.size) | none => false
def tail2 (ops : Array Oper) (n : Nat) (dn0 : List Nat) : Bool :=
 Nat.blt n ops.size && sink2 ops n dn0 && closed2 ops dn0 && back2 ops n && edgeIn ops && Region.chainB .any ops n && Region.seqB .any ops (ops.size - n) n (setTo ops.size n) && guardsB ops.toList n && dn0.all (Nat.blt · n)
section
variable {P : Program} {ops : Array Oper} {Q : Exit → Act → World → Prop}
theorem waits_of {j : Nat} {o : Oper} (ho : ops[j]? = some o) {e : Edge} (he : e ∈ o.after) (hb : Region.binds .any e = true) : Region.waitsFor .any ops j e.on = true := by
 unfold Region.waitsFor
 rw [ho]
 simp only [Array.any_eq_true', List.any_eq_true]
 exact ⟨e, he, by simp [hb]⟩
theorem tail_waits2 {n : Nat} {listed : Array Bool} (dn0 : List Nat) (hs : sink2 ops n dn0 = true) (hc : Region.chainB .any ops n = true) (hn : n < ops.size) (inv : HeadInv .any ops n listed) (hdn : ∀ i ∈ dn0, listed.getD i true = true) :
  ∀ (d i : Nat), n - i = d → i < n → listed.getD i true = false → ∀ t, n ≤ t → t ∉ Region.ready .any ops listed := by
 intro d
 induction d using Nat.strongRecOn with
 | _ d ih =>
  intro i hd hi hun t ht hr
  have hnot : dn0.contains i = false := by
   cases hx : dn0.contains i with
   | false => rfl
   | true => have := hdn i (by simpa using hx); rw [hun] at this; cases this
  have h1 := List.all_eq_true.1 hs i (List.mem_range.2 hi)
  rw [hnot, Bool.false_or] at h1
  obtain ⟨j, hj, hj2⟩ := List.any_eq_true.1 h1
  rw [Bool.and_eq_true] at hj2
  have hij : i < j := by simpa using hj2.1
  have hjn : j ≤ n := by have := List.mem_range.1 hj; omega
  obtain ⟨oj, hoj, e, he, hb, hon⟩ := Region.waitsFor_spec hj2.2
  obtain ⟨_, ot, hot, hall⟩ := mem_ready.1 hr
  have htlt : t < ops.size := (Array.getElem?_eq_some_iff.1 hot).1
  rcases Nat.lt_or_ge j n with hlt | hge
  ·-- the one that waits for i is not listed either
   have hjun : listed.getD j true = false := by
    cases hv : listed.getD j true with
    | false => rfl
    | true =>
     have hjs : j < listed.size := by rw [inv.size]; omega
     have hv' : listed.getD j false = true := by
      rw [Array.getD_eq_getD_getElem?, Array.getElem?_eq_getElem hjs] at hv ⊢
      simpa using hv
     have := inv.closed j oj hoj hv' e he hb
     rw [hon, getD_both hun] at this; cases this
   exact ih (n - j) (by omega) j rfl hlt hjun t ht hr
  ·have ejn : j = n := by omega
   subst ejn
   by_cases htn : t = j
   ·subst htn
    rw [hoj] at hot; cases hot
    have := hall e he hb
    rw [hon, getD_both hun] at this; cases this
   ·have h2 := List.all_eq_true.1 hc t (List.mem_range.2 htlt)
    simp only [Bool.or_eq_true, decide_eq_true_eq] at h2
    rcases h2 with h2 | h2
    ·omega
    ·obtain ⟨o', ho', e', he', hb', hon'⟩ := Region.waitsFor_spec h2
     rw [hot] at ho'; cases ho'
     have h3 := hall e' he' hb'
     have h4 := inv.tail (t - 1) (by omega) (by omega)
     rw [hon', getD_both h4] at h3; cases h3
theorem wpAny_of_head2 {n g : Nat} {l : List Oper} (dn0 : List Nat) (hl : ∀ j, l[j]? = ops[n + j]?) (hg : g = l.length)
  (hgd : guardsB ops.toList n = true) (hs : sink2 ops n dn0 = true) (hc : Region.chainB .any ops n = true) (hn : n < ops.size)
  (hd : ∀ j, j < n → ∀ o, ops[j]? = some o → ∀ e ∈ o.after, Region.binds .any e = true → e.on < j) (hseq : Region.seqB .any ops g n (setTo ops.size n) = true) :
  ∀ (f : Nat) (listed listedH : Array Bool) (a : Act) (w : World), HeadInv .any ops n listed → (∀ i ∈ dn0, listed.getD i true = true) → listedH.size = n → (∀ j, j < n → listed[j]? = listedH[j]?) →
   wpAny P .any (ops.toList.take n).toArray (Exit.then (fun a' w' => wpList P ops Q l a' w') Q) f listedH a w → wpAny P .any ops Q (f + g) listed a w := by
 have done : ∀ (listed listedH : Array Bool) (a : Act) (w : World), HeadInv .any ops n listed → listedH.size = n → (∀ j, j < n → listed[j]? = listedH[j]?) →
   Region.ready .any (ops.toList.take n).toArray listedH = [] → wpList P ops Q l a w → wpAny P .any ops Q g listed a w := by
  intro listed listedH a w inv h2 hag hr hQ
  have all : ∀ j, j < n → listed[j]? = some true := by
   intro j
   induction j using Nat.strongRecOn with
   | _ j ih =>
    intro hj
    have hjs : j < ops.size := by omega
    cases hv : listed[j]? with
    | none => exact absurd (Array.getElem?_eq_none_iff.1 hv) (by rw [inv.size]; omega)
    | some b =>
     cases b with
     | true => rfl
     | false =>
      exfalso
      have : j ∈ Region.ready .any ops listed := by
       rw [mem_ready]
       refine ⟨by rw [Array.getD_eq_getD_getElem?, hv]; rfl, ops[j], by simp [hjs], fun e he hb => ?_⟩
       have hlt := hd j hj ops[j] (by simp [hjs]) e he hb
       rw [Array.getD_eq_getD_getElem?, ih e.on hlt (by omega)]; rfl
      rw [ready_head hd hn inv.size h2 hag hj, hr] at this
      cases this
  have e : listed = setTo ops.size n := by
   refine Array.ext_getElem? fun j => ?_
   rw [setTo_get _ _ _ (by omega)]
   by_cases hj : j < n
   ·rw [all j hj, if_pos (by omega)]; simp [hj]
   ·by_cases hjs : j < ops.size
    ·rw [if_pos hjs]
     have := inv.tail j (by omega) hjs
     rw [Array.getD_eq_getD_getElem?] at this
     cases hv : listed[j]? with
     | none => exact absurd (Array.getElem?_eq_none_iff.1 hv) (by rw [inv.size]; omega)
     | some b => rw [hv] at this; simp at this; simp [this, hj]
    ·rw [if_neg hjs, Array.getElem?_eq_none_iff, inv.size]; omega
  subst hg
  rw [e]
  exact wpAny_of_seq l n _ a w hl hseq hQ
 intro f
 induction f with
 | zero =>
  intro listed listedH a w inv hdn h2 hag h
  rw [Nat.zero_add]
  exact done listed listedH a w inv h2 hag h.1 h.2
 | succ f ih =>
  intro listed listedH a w inv hdn h2 hag h
  by_cases hr : Region.ready .any (ops.toList.take n).toArray listedH = []
  ·exact wpAny_more' (done listed listedH a w inv h2 hag hr (h.1 hr)) (f + 1)
  ·obtain ⟨i0, hi0⟩ := List.exists_mem_of_ne_nil _ hr
   have hi0n : i0 < n := by
    rcases Nat.lt_or_ge i0 n with h' | h'
    ·exact h'
    ·rw [mem_ready] at hi0; obtain ⟨_, o, ho, _⟩ := hi0; rw [head_none h'] at ho; cases ho
   have hi0' := (ready_head hd hn inv.size h2 hag hi0n).2 hi0
   have hun : listed.getD i0 true = false := (mem_ready.1 hi0').1
   rw [show f + 1 + g = (f + g) + 1 by omega]
   refine ⟨fun h0 => (by rw [h0] at hi0'; cases hi0'), fun i hi => ?_⟩
   have hin : i < n := by
    rcases Nat.lt_or_ge i n with h' | h'
    ·exact h'
    ·exact absurd hi (tail_waits2 dn0 hs hc hn inv hdn _ i0 rfl hi0n hun i h')
   have hiH := (ready_head hd hn inv.size h2 hag hin).1 hi
   have hq := h.2 i hiH
   have step : ∀ a' w', wpAny P .any (ops.toList.take n).toArray (Exit.then (fun a' w' => wpList P ops Q l a' w') Q) f (listedH.setIfInBounds i true) a' w' → wpAny P .any ops Q (f + g) (listed.setIfInBounds i true) a' w' := fun a' w' hk =>
    ih (listed.setIfInBounds i true) (listedH.setIfInBounds i true) a' w' (inv.set hi hin) (fun x hx => by
     have := hdn x hx
     rw [Array.getD_eq_getD_getElem?, Array.getElem?_setIfInBounds]
     split
     ·split <;> rfl
     ·rw [← Array.getD_eq_getD_getElem?]; exact this) (by simp [h2]) (fun j hj => by
     rw [Array.getElem?_setIfInBounds, Array.getElem?_setIfInBounds, hag j hj, inv.size, h2]
     by_cases e : i = j
     ·subst e; simp [hj, show i < ops.size by omega]
     ·simp [e]) hk
   unfold wpOp at hq ⊢
   rw [head_get hin] at hq
   split
   ·rename_i ho; simp only [ho] at hq; exact step _ _ hq
   ·rename_i o ho
    simp only [ho, wanted_head hgd hin ho] at hq
    split
    ·rename_i hw
     simp only [hw, if_true] at hq
     rcases hq with hq | ⟨h1, a0, w0, h2'⟩
     ·exact Or.inl (Oper.wp_then step hq)
     ·exact Or.inr ⟨h1, a0, w0, h2'⟩
    ·rename_i hw
     simp only [hw] at hq
     exact step _ _ hq
theorem Oper.wp_mono {o : Oper} {a : Act} {w : World} {K K' : Act → World → Prop} (hK : ∀ a w, K a w → K' a w) (h : o.wp P a w K Q) : o.wp P a w K' Q := by
 unfold Oper.wp at *
 generalize (execOp a.eval o).run P w = r at *
 cases r with
 | ok n w' =>
  cases n <;> simp only [Oper.upon] at h ⊢ <;>
   first
    | exact hK _ _ h
    | exact Calls.mono h (fun e w'' he => by
      cases e with
      | returned v => exact hK _ _ he
      | panicked c => exact he
      | outgrown => exact he)
    | exact Rows.mono h (fun _ _ he => hK _ _ he)
 | halt x w' => cases x <;> simp only [Oper.upon] at h ⊢ <;> exact h
theorem wpAnyH_true : ∀ (f : Nat) (listed : Array Bool) (a : Act) (w : World), wpAny P .any ops Q f listed a w → wpAnyH P .any ops Q (fun _ => True) f listed a w
 | 0, listed, a, w, h => h
 | f + 1, listed, a, w, h => by
  refine ⟨h.1, fun i hi => ?_⟩
  have h2 := h.2 i hi
  have key : ∀ a' w', wpAny P .any ops Q f (listed.setIfInBounds i true) a' w' → True ∧ wpAnyH P .any ops Q (fun _ => True) f (listed.setIfInBounds i true) a' w' := fun a' w' hh => ⟨trivial, wpAnyH_true f _ a' w' hh⟩
  unfold wpOp at h2 ⊢
  split
  ·rename_i ho; simp only [ho] at h2; exact key _ _ h2
  ·rename_i o ho
   simp only [ho] at h2
   split
   ·rename_i hw
    simp only [hw, if_true] at h2
    rcases h2 with h2 | ⟨h1, a0, w0, h3⟩
    ·exact Or.inl (Oper.wp_mono key h2)
    ·exact Or.inr ⟨h1, a0, w0, h3⟩
   ·rename_i hw
    simp only [hw] at h2
    exact key _ _ h2
variable {N : Nat} {E : Env} {a : Act} {w : World}
theorem takes_true (is : List Nat) {dn dn' : List Nat} {E E' : Env} (hs : Region.noSelect ops = true) (hQ : QCalm Q) (h : takeP P ops N a is dn E = some (dn', E'))
  (k : St N E' a → wpAnyH P .any ops Q (fun _ => True) (ops.size - dn'.length) (lsd ops.size dn') (putE E' a) w) (hst : St N E a) : wpAnyH P .any ops Q (fun _ => True) (ops.size - dn.length) (lsd ops.size dn) (putE E a) w := by
 induction is generalizing dn E with
 | nil => simp only [takeP, Option.some.injEq, Prod.mk.injEq] at h; obtain ⟨rfl, rfl⟩ := h; exact k hst
 | cons i is ih =>
  simp only [takeP] at h
  cases ho : ops[i]? with
  | none => simp only [ho] at h; cases h
  | some o =>
   simp only [ho] at h
   cases hp : stepP P ops N a E o with
   | none => simp only [hp] at h; cases h
   | some E1 =>
    simp only [hp] at h
    cases hf : freeB ops dn i with
    | false => simp only [hf] at h; cases h
    | true =>
     simp only [hf] at h
     obtain ⟨h1, h2, h3⟩ := freeB_spec hf
     obtain ⟨d, v, hd, rfl, hb, hc⟩ := stepP_spec hst hp
     have ih' := ih h (hst.cons hb)
     rw [fuel_eq (i := i) h1]
     refine wpAnyH_take (v := v) ho hs h2 h3 (fun c a w hh => hQ c a o.dst v w hh) ?_ trivial ?_
     ·rcases hc with ⟨hw, hr⟩ | ⟨hw, rfl⟩
      ·exact Or.inl ⟨hw, fun w _ => hr w⟩
      ·exact Or.inr ⟨hw, rfl⟩
     ·rw [hd]; exact ih'
theorem lsd_get (n : Nat) : ∀ (dn : List Nat) (j : Nat), (lsd n dn)[j]? = if j < n then some (dn.contains j) else none
 | [], j => by
  show (Array.replicate n false)[j]? = _
  rw [Array.getElem?_replicate]; rfl
 | i :: dn, j => by
  show ((lsd n dn).setIfInBounds i true)[j]? = _
  have hs : (lsd n dn).size = n := by
   clear j
   induction dn with
   | nil => simp [lsd]
   | cons x dn ih => show ((lsd n dn).setIfInBounds x true).size = n; simpa using ih
  rw [Array.getElem?_setIfInBounds, lsd_get n dn j, hs]
  by_cases e : i = j
  ·subst e
   by_cases h : i < n <;> simp [h]
  ·have : ¬ j = i := fun x => e x.symm
   simp [e, this]
theorem lsd_size (n : Nat) : ∀ dn : List Nat, (lsd n dn).size = n
 | [] => by simp [lsd]
 | x :: dn => by show ((lsd n dn).setIfInBounds x true).size = n; simpa using lsd_size n dn
theorem cW_drawnTail2 {id : Nat} (Sg : List Nat) (n : Nat) (is dn0 : List Nat) (news : Env) (hm : P.follows .mixedOrders = true) (hns : Region.noSelect ops = true) (hQ : QCalm Q) (hT : tail2 ops n dn0 = true)
  (ht : takeP P ops N a is [] E = some (dn0, news ++ E)) (hlen : dn0.length ≤ n)
  (k : ∀ w1, Chg [] w w1 → wH P (ops.toList.take n).toArray (Exit.then (fun a' w' => wpList P ops Q (ops.toList.drop n) a' w') Q) Sg w1 N dn0 (news ++ E) a w1) : cW P (.region id ops true) Q N E a w := fun hst => by
 simp only [tail2, Bool.and_eq_true] at hT
 obtain ⟨⟨⟨⟨⟨⟨⟨⟨hn, hs⟩, hcl⟩, hbk⟩, hei⟩, hc⟩, hseq⟩, hgd⟩, hlow⟩ := hT
 have hn : n < ops.size := by simpa using hn
 refine wp_region_any hm (wpAny_of_held _ _ _ _ (S := fun _ => True) ?_)
 have main := takes_true (Q := Q) (w := w.drew) is hns hQ ht (fun hst' => ?_) hst
 ·simpa [lsd] using main
 have h0 := k w.drew (Chg.drew w) hst' (Chg.refl _ _)
 have hsz : (ops.toList.take n).toArray.size = n := by simp; omega
 have h1 := wpAny_of_held _ _ _ _ h0
 rw [hsz] at h1
 refine wpAnyH_true _ _ _ _ ?_
 have hbk' : ∀ j, j < n → ∀ o, ops[j]? = some o → ∀ e ∈ o.after, Region.binds .any e = true → e.on < j := fun j hj o ho e he hb => by
  have h2 := List.all_eq_true.1 hbk j (List.mem_range.2 hj)
  simp only [ho] at h2
  have h3 : (!Region.binds .any e || Nat.blt e.on j) = true := by
   first
    | exact (Array.all_eq_true'.1 h2) e he
    | exact (List.all_eq_true.1 h2) e he
  rw [hb] at h3; simpa using h3
 have := wpAny_of_head2 (P := P) (ops := ops) (n := n) (g := ops.size - n) (Q := Q) (l := ops.toList.drop n) dn0
  (fun j => by simp [List.getElem?_drop]) (by simp) hgd hs hc hn hbk' hseq (n - dn0.length) (lsd ops.size dn0) (lsd n dn0) (putE (news ++ E) a) w.drew
  ⟨lsd_size _ _, fun j oj hoj hl e he hb => ?_, fun t h1 h2 => ?_⟩ (fun i hi => ?_) (lsd_size _ _) (fun j hj => ?_) h1
 ·rw [show n - dn0.length + (ops.size - n) = ops.size - dn0.length by omega] at this
  exact this
 ·have hj : j < ops.size := (Array.getElem?_eq_some_iff.1 hoj).1
  rw [Array.getD_eq_getD_getElem?, lsd_get, if_pos hj] at hl
  have hw := waits_of hoj he hb
  have heo : e.on < ops.size := by
   have h2 := List.all_eq_true.1 hei j (List.mem_range.2 hj)
   simp only [hoj] at h2
   have h3 : Nat.blt e.on ops.size = true := by
    first
     | exact (Array.all_eq_true'.1 h2) e he
     | exact (List.all_eq_true.1 h2) e he
   simpa using h3
  have h3 := List.all_eq_true.1 hcl j (List.mem_range.2 hj)
  have hl' : dn0.contains j = true := by simpa using hl
  rw [hl', Bool.not_true, Bool.false_or] at h3
  have h4 := List.all_eq_true.1 h3 e.on (List.mem_range.2 heo)
  rw [hw, Bool.not_true, Bool.false_or] at h4
  rw [Array.getD_eq_getD_getElem?, lsd_get, if_pos heo]; simpa using h4
 ·rw [Array.getD_eq_getD_getElem?, lsd_get, if_pos h2]
  cases hx : dn0.contains t with
  | false => rfl
  | true =>
   have := List.all_eq_true.1 hlow t (by simpa using hx)
   have : t < n := by simpa using this
   omega
 ·have hin := List.all_eq_true.1 hlow i hi
  have hin : i < n := by simpa using hin
  rw [Array.getD_eq_getD_getElem?, lsd_get, if_pos (by omega)]
  simpa using hi
 ·rw [lsd_get, lsd_get, if_pos (by omega), if_pos hj]
end
end Go.Proofs.YtbfjekmefcpkmaaDoor
