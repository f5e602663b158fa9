/- A region that draws its order, whose operations but the last few read old cells or call what only makes memory, the last few standing in one forced order: one walk in the text's order serves every order. -/
import Derived.Test.YtbfjekmefcpkmaaDoorBase
set_option linter.unusedSimpArgs false
set_option linter.unusedVariables false
namespace Go.Proofs.YtbfjekmefcpkmaaDoor
open Go.RowKit

theorem wpAny_more {P : Program} {md : Region.Mode} {ops : Array Oper} {Q : Exit → Act → World → Prop} : ∀ (f : Nat) (listed : Array Bool) (a : Act) (w : World),
    wpAny P md ops Q f listed a w → wpAny P md ops Q (f + 1) listed a w
  | 0, listed, a, w, h => ⟨fun _ => h.2, fun i hi => by rw [h.1] at hi; cases hi⟩
  | f + 1, listed, a, w, h => ⟨h.1, fun i hi => by
      have h2 := h.2 i hi
      unfold wpOp at h2 ⊢
      split
      · rename_i ho; simp only [ho] at h2; exact wpAny_more f _ _ _ h2
      · rename_i o ho
        simp only [ho] at h2
        split
        · rename_i hw
          simp only [hw, if_true] at h2
          rcases h2 with h2 | h2
          · left
            unfold Oper.wp at h2 ⊢
            generalize (execOp a.eval o).run P w = r at *
            cases r with
            | ok x w' =>
              cases x <;> simp only [Oper.upon] at h2 ⊢ <;> try (exact wpAny_more f _ _ _ h2)
              case enter g args =>
                refine h2.mono ?_
                intro e w'' he
                cases e with
                | returned v => exact wpAny_more f _ _ _ he
                | panicked c => exact he
                | outgrown => exact he
              case row r args =>
                exact h2.mono fun v w'' he => wpAny_more f _ _ _ he
            | halt x w' => cases x <;> simp only [Oper.upon] at h2 ⊢ <;> exact h2
          · exact Or.inr h2
        · rename_i hw; simp only [hw] at h2; exact wpAny_more f _ _ _ h2⟩
theorem wpAny_more' {P : Program} {md : Region.Mode} {ops : Array Oper} {Q : Exit → Act → World → Prop} {f : Nat} {listed : Array Bool} {a : Act} {w : World} (h : wpAny P md ops Q f listed a w) :
    ∀ k, wpAny P md ops Q (k + f) listed a w
  | 0 => by simpa using h
  | k + 1 => by rw [show k + 1 + f = (k + f) + 1 by omega]; exact wpAny_more _ _ _ _ (wpAny_more' h k)

/-- The state behind 'k' operations in the text's order. -/
def setTo (m : Nat) : Nat → Array Bool
  | 0 => Array.replicate m false
  | k + 1 => (setTo m k).setIfInBounds k true
theorem setTo_size (m : Nat) : ∀ k, (setTo m k).size = m
  | 0 => by simp [setTo]
  | k + 1 => by simp [setTo, setTo_size m k]
theorem setTo_get (m : Nat) : ∀ k j, k ≤ m → (setTo m k)[j]? = if j < m then some (decide (j < k)) else none
  | 0, j, _ => by simp [setTo, Array.getElem?_replicate]
  | k + 1, j, h => by
    rw [setTo, Array.getElem?_setIfInBounds, setTo_size, setTo_get m k j (by omega)]
    by_cases e : k = j
    · subst e; simp [show k < m by omega]
    · simp only [e, if_false]; split <;> simp; omega
theorem setTo_getD (m k j : Nat) (d : Bool) (h : k ≤ m) : (setTo m k).getD j d = if j < m then decide (j < k) else d := by
  rw [Array.getD_eq_getD_getElem?, setTo_get m k j h]
  split <;> simp
theorem lexHead_at {md : Region.Mode} {ops : Array Oper} {g : Nat} : ∀ (f k : Nat), k + f ≤ ops.size → Region.lexHead md ops g f k (setTo ops.size k) = true →
    Region.seqB md ops g (k + f) (setTo ops.size (k + f)) = true ∧ ∀ j, k ≤ j → j < k + f → j ∈ Region.ready md ops (setTo ops.size j)
  | 0, k, _, h => ⟨h, fun j h1 h2 => by omega⟩
  | f + 1, k, hk, h => by
    simp only [Region.lexHead, Bool.and_eq_true] at h
    obtain ⟨⟨hr, _⟩, h'⟩ := h
    have ih := lexHead_at f (k + 1) (by omega) h'
    refine ⟨by rw [show k + (f + 1) = k + 1 + f by omega]; exact ih.1, fun j h1 h2 => ?_⟩
    by_cases e : j = k
    · subst e; simpa using hr
    · exact ih.2 j (by omega) (by omega)

section
variable {P : Program} {ops : Array Oper} {md : Region.Mode} {C : World → Prop}
theorem head_get {n i : Nat} (h : i < n) : (ops.toList.take n).toArray[i]? = ops[i]? := by simp [h]
theorem head_none {n i : Nat} (h : n ≤ i) : (ops.toList.take n).toArray[i]? = none := by simp; omega
theorem ready_head {n : Nat} {listed listedH : Array Bool} (hd : ∀ j, j < n → ∀ o, ops[j]? = some o → ∀ e ∈ o.after, Region.binds md e = true → e.on < j)
    (hn : n < ops.size) (h1 : listed.size = ops.size) (h2 : listedH.size = n) (hag : ∀ j, j < n → listed[j]? = listedH[j]?) {i : Nat} (hi : i < n) :
    i ∈ Region.ready md ops listed ↔ i ∈ Region.ready md (ops.toList.take n).toArray listedH := by
  rw [mem_ready, mem_ready]
  rw [head_get hi]
  rw [Array.getD_eq_getD_getElem?, Array.getD_eq_getD_getElem?, hag i hi]
  constructor
  · rintro ⟨ha, o, ho, hall⟩
    refine ⟨ha, o, ho, fun e he hb => ?_⟩
    have := hall e he hb
    rwa [Array.getD_eq_getD_getElem?, hag e.on (by have := hd i hi o ho e he hb; omega), ← Array.getD_eq_getD_getElem?] at this
  · rintro ⟨ha, o, ho, hall⟩
    refine ⟨ha, o, ho, fun e he hb => ?_⟩
    have := hall e he hb
    rwa [Array.getD_eq_getD_getElem?, ← hag e.on (by have := hd i hi o ho e he hb; omega), ← Array.getD_eq_getD_getElem?] at this

/-- The guards of the first n operations look at the first n alone. -/
def guardsB (l : List Oper) (n : Nat) : Bool := (l.take n).all fun o => match o.guard with | none => true | some (j, _) => decide (j < n)
theorem wanted_head {n i : Nat} {o : Oper} (hg : guardsB ops.toList n = true) (hi : i < n) (ho : ops[i]? = some o) (tmps : Array Value) :
    Region.wanted o (yielded (ops.toList.take n).toArray tmps) = Region.wanted o (yielded ops tmps) := by
  have hm : o ∈ ops.toList.take n := by
    rw [List.mem_iff_getElem?]
    exact ⟨i, by rw [List.getElem?_take_of_lt hi]; simpa using ho⟩
  have := (List.all_eq_true.1 hg) o hm
  unfold Region.wanted
  cases hgd : o.guard with
  | none => rfl
  | some p =>
    obtain ⟨j, want⟩ := p
    simp only [hgd, decide_eq_true_eq] at this
    simp only []
    have e : yielded (ops.toList.take n).toArray tmps j = yielded ops tmps j := by
      unfold yielded
      rw [head_get this]
    rw [e]

theorem wpAny_of_head_quiet {n g : Nat} {Q : Exit → Act → World → Prop} {l : List Oper} (hl : ∀ j, l[j]? = ops[n + j]?) (hg : g = l.length)
    (hgd : guardsB ops.toList n = true) (hs : Region.sinkB md ops n = true) (hc : Region.chainB md ops n = true) (hn : n < ops.size)
    (hd : ∀ j, j < n → ∀ o, ops[j]? = some o → ∀ e ∈ o.after, Region.binds md e = true → e.on < j) (hseq : Region.seqB md ops g n (setTo ops.size n) = true) :
    ∀ (f : Nat) (listed listedH : Array Bool) (a : Act) (w : World), C w → HeadInv md ops n listed → listedH.size = n → (∀ j, j < n → listed[j]? = listedH[j]?) →
      wpAnyQ P md (ops.toList.take n).toArray C (fun a' => ∀ w', C w' → wpList P ops Q l a' w') f listedH a → wpAny P md ops Q (f + g) listed a w := by
  -- all of the head has been listed
  have done : ∀ (listed listedH : Array Bool) (a : Act) (w : World), C w → HeadInv md ops n listed → listedH.size = n → (∀ j, j < n → listed[j]? = listedH[j]?) →
      Region.ready md (ops.toList.take n).toArray listedH = [] → (∀ w', C w' → wpList P ops Q l a w') → wpAny P md ops Q g listed a w := by
    intro listed listedH a w hw inv h2 hag hr hQ
    have all : ∀ j, j < n → listed[j]? = some true := by
      intro j
      induction j using Nat.strongRecOn with
      | _ j ih =>
        intro hj
        have hjs : j < ops.size := by omega
        cases hv : listed[j]? with
        | none => exact absurd (Array.getElem?_eq_none_iff.1 hv) (by rw [inv.size]; omega)
        | some b =>
          cases b with
          | true => rfl
          | false =>
            exfalso
            have : j ∈ Region.ready md ops listed := by
              rw [mem_ready]
              refine ⟨by rw [Array.getD_eq_getD_getElem?, hv]; rfl, ops[j], by simp [hjs], fun e he hb => ?_⟩
              have hlt := hd j hj ops[j] (by simp [hjs]) e he hb
              rw [Array.getD_eq_getD_getElem?, ih e.on hlt (by omega)]; rfl
            rw [ready_head hd hn inv.size h2 hag hj, hr] at this
            cases this
    have e : listed = setTo ops.size n := by
      refine Array.ext_getElem? fun j => ?_
      rw [setTo_get _ _ _ (by omega)]
      by_cases hj : j < n
      · rw [all j hj, if_pos (by omega)]; simp [hj]
      · by_cases hjs : j < ops.size
        · rw [if_pos hjs]
          have := inv.tail j (by omega) hjs
          rw [Array.getD_eq_getD_getElem?] at this
          cases hv : listed[j]? with
          | none => exact absurd (Array.getElem?_eq_none_iff.1 hv) (by rw [inv.size]; omega)
          | some b => rw [hv] at this; simp at this; simp [this, hj]
        · rw [if_neg hjs, Array.getElem?_eq_none_iff, inv.size]; omega
    subst hg
    rw [e]
    exact wpAny_of_seq l n _ a w hl hseq (hQ w hw)
  intro f
  induction f with
  | zero =>
    intro listed listedH a w hw inv h2 hag h
    rw [Nat.zero_add]
    exact done listed listedH a w hw inv h2 hag h.1 h.2
  | succ f ih =>
    intro listed listedH a w hw inv h2 hag h
    by_cases hr : Region.ready md (ops.toList.take n).toArray listedH = []
    · exact wpAny_more' (done listed listedH a w hw inv h2 hag hr (h.1 hr)) (f + 1)
    · obtain ⟨i0, hi0⟩ := List.exists_mem_of_ne_nil _ hr
      have hi0n : i0 < n := by
        rcases Nat.lt_or_ge i0 n with h' | h'
        · exact h'
        · rw [mem_ready] at hi0; obtain ⟨_, o, ho, _⟩ := hi0; rw [head_none h'] at ho; cases ho
      have hi0' := (ready_head hd hn inv.size h2 hag hi0n).2 hi0
      have hun : listed.getD i0 true = false := (mem_ready.1 hi0').1
      rw [show f + 1 + g = (f + g) + 1 by omega]
      refine ⟨fun h0 => (by rw [h0] at hi0'; cases hi0'), fun i hi => ?_⟩
      have hin : i < n := by
        rcases Nat.lt_or_ge i n with h' | h'
        · exact h'
        · exact absurd hi (tail_waits hs hc hn inv _ i0 rfl hi0n hun i h')
      have hiH := (ready_head hd hn inv.size h2 hag hin).1 hi
      have hq := h.2 i hiH
      have hwp := wpOp_of_qOp (Q' := Q) (K' := wpAny P md ops Q (f + g) (listed.setIfInBounds i true)) hw (fun a' w' hw' hk =>
        ih (listed.setIfInBounds i true) (listedH.setIfInBounds i true) a' w' hw' (inv.set hi hin) (by simp [h2]) (fun j hj => by
          rw [Array.getElem?_setIfInBounds, Array.getElem?_setIfInBounds, hag j hj, inv.size, h2]
          by_cases e : i = j
          · subst e; simp [hj, show i < ops.size by omega]
          · simp [e]) hk) hq
      unfold wpOp at hwp ⊢
      rw [head_get hin] at hwp
      split
      · rename_i ho; simp only [ho] at hwp; exact hwp
      · rename_i o ho
        simp only [ho, wanted_head hgd hin ho] at hwp
        exact hwp
end

/-- The first n operations are quiet in a class of worlds, the rest stand in one forced order. -/
theorem wp_region_tail_of {P : Program} {id : Nat} {Q : Exit → Act → World → Prop} {a : Act} {w : World} {l : List Oper} {C : World → Prop} (n : Nat) (hm : P.follows .mixedOrders = true)
    (hB : (Region.lexTailB .any l.toArray n && Region.lexB .any (l.take n).toArray && guardsB l n) = true) (hC : C { w with drawn := w.drawn + 1 })
    (hq : wpQuiet P (l.take n).toArray C (fun a' => ∀ w', C w' → wpList P l.toArray Q (l.drop n) a' w') (l.take n) a) : (Code.region id l.toArray true).wp P Q a w := by
  simp only [Bool.and_eq_true] at hB
  obtain ⟨⟨hT, hH⟩, hgd⟩ := hB
  simp only [Region.lexTailB, Bool.and_eq_true, decide_eq_true_eq] at hT
  obtain ⟨⟨⟨⟨_, hn⟩, hs⟩, hc⟩, hlex⟩ := hT
  simp only [Region.lexB, Bool.and_eq_true] at hH
  have hn' : n < l.length := by simpa using hn
  have htl : (l.take n).length = n := by simp; omega
  have hlex' := lexHead_at (md := .any) (ops := l.toArray) (g := l.toArray.size - n) n 0 (by simp; omega) (by simpa [setTo] using hlex)
  simp only [Nat.zero_add] at hlex'
  have hany := wpAnyQ_lex (P := P) (md := .any) (C := C) hH.1 (l.take n) 0 (Array.replicate (l.take n).toArray.size false) a (by simp) (by simpa using hH.2) hq
  refine wp_region_any hm ?_
  have := wpAny_of_head_quiet (P := P) (ops := l.toArray) (md := .any) (C := C) (n := n) (g := l.toArray.size - n) (Q := Q) (l := l.drop n)
    (fun j => by simp [List.getElem?_drop]) (by simp) (by simpa using hgd) hs hc hn
    (fun j hj o ho x hx hb => by
      have := hlex'.2 j (by omega) hj
      rw [mem_ready] at this
      obtain ⟨_, o', ho', hall⟩ := this
      rw [ho] at ho'
      cases ho'
      have := hall x hx hb
      rw [setTo_getD _ _ _ _ (by omega)] at this
      split at this
      · simpa using this
      · cases this)
    hlex'.1 (l.take n).length (Array.replicate l.toArray.size false) (Array.replicate (l.take n).toArray.size false) a { w with drawn := w.drawn + 1 } hC
    ⟨by simp, fun j oj _ hl => by (rw [getD_replicate_false] at hl; cases hl), fun t _ ht => getD_in (by simpa using ht) (getD_replicate_false _ _)⟩
    (by simp; omega) (fun j hj => by simp [Array.getElem?_replicate, hj, show j < l.length by omega, show j < min n l.length by omega]) (by simpa using hany)
  rw [htl, show n + (l.toArray.size - n) = l.toArray.size by simp; omega] at this
  exact this
/-- .. the class being what has grown out of 'w': the first n operations read old cells or call what only makes memory. -/
theorem wp_region_growtail {P : Program} {id : Nat} {Q : Exit → Act → World → Prop} {a : Act} {w : World} {l : List Oper} (n : Nat) (hm : P.follows .mixedOrders = true)
    (hB : (Region.lexTailB .any l.toArray n && Region.lexB .any (l.take n).toArray && guardsB l n) = true)
    (h : (∀ d b o, (grow w d).cell? ⟨b, o, none⟩ = if b < w.heap.size then w.cell? ⟨b, o, none⟩ else cellN (grow w d) b o) →
      wpQuiet P (l.take n).toArray (fun W => ∃ d, W = grow w d) (fun a' => ∀ w', Below w.heap.size w w' → wpList P l.toArray Q (l.drop n) a' w') (l.take n) a) : (Code.region id l.toArray true).wp P Q a w := by
  have e : (fun a' => ∀ w', (∃ d, w' = grow w d) → wpList P l.toArray Q (l.drop n) a' w') = (fun a' => ∀ w', Below w.heap.size w w' → wpList P l.toArray Q (l.drop n) a' w') := by
    funext a'
    apply propext
    constructor
    · intro k w' hb; exact k w' ⟨w', grow_of hb⟩
    · rintro k w' ⟨d, rfl⟩; exact k _ (grow_below w d)
  have hq := h (grow_cell w)
  rw [← e] at hq
  exact wp_region_tail_of n hm hB ⟨_, grow_of ((Below.refl _ _).drew)⟩ hq
/-- .. the class being 'w' behind some draws: the first n operations read, or call what leaves the world as it is. -/
theorem wp_region_drewtail {P : Program} {id : Nat} {Q : Exit → Act → World → Prop} {a : Act} {w : World} {l : List Oper} (n : Nat) (hm : P.follows .mixedOrders = true)
    (hB : (Region.lexTailB .any l.toArray n && Region.lexB .any (l.take n).toArray && guardsB l n) = true)
    (h : wpQuiet P (l.take n).toArray (fun W => ∃ d, W = w.drewN d) (fun a' => ∀ w', (∃ d, w' = w.drewN d) → wpList P l.toArray Q (l.drop n) a' w') (l.take n) a) : (Code.region id l.toArray true).wp P Q a w :=
  wp_region_tail_of n hm hB ⟨1, rfl⟩ h
end Go.Proofs.YtbfjekmefcpkmaaDoor
