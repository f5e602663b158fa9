/- A region that draws its order, one of whose operations lays something new that nothing else before the tail looks at: one walk in the text's order serves every order. -/
import Derived.Test.YtmodhpgnkbnbaaaGrow
set_option linter.unusedSimpArgs false
set_option linter.unusedVariables false
namespace Go.Proofs.Ytmodhpgnkbnbaaa
open Go.RowKit

/-- Operation number m writes 'undef', whatever it was. -/
def mute : Nat → List Oper → List Oper
  | _, [] => []
  | 0, o :: r => { o with op := .move (.const undef), guard := none } :: r
  | m + 1, o :: r => o :: mute m r
theorem mute_length : ∀ (m : Nat) (l : List Oper), (mute m l).length = l.length
  | _, [] => by cases ‹Nat› <;> rfl
  | 0, o :: r => rfl
  | m + 1, o :: r => by simp [mute, mute_length m r]
theorem mute_ne : ∀ (m : Nat) (l : List Oper) (i : Nat), i ≠ m → (mute m l)[i]? = l[i]?
  | m, [], i, _ => by cases m <;> rfl
  | 0, o :: r, i, h => by cases i with | zero => exact absurd rfl h | succ i => rfl
  | m + 1, o :: r, 0, _ => rfl
  | m + 1, o :: r, i + 1, h => by simpa [mute] using mute_ne m r i (by omega)
theorem mute_at : ∀ (m : Nat) (l : List Oper) (o : Oper), l[m]? = some o → (mute m l)[m]? = some { o with op := .move (.const undef), guard := none }
  | _, [], _, h => by simp at h
  | 0, o' :: r, o, h => by simp at h; subst h; rfl
  | m + 1, o' :: r, o, h => by simpa [mute] using mute_at m r o (by simpa using h)
theorem mute_after (m : Nat) (l : List Oper) (i : Nat) : ((mute m l)[i]?).map (·.after) = (l[i]?).map (·.after) := by
  by_cases e : i = m
  · subst e
    cases h : l[i]? with
    | none => rw [List.getElem?_eq_none (by rw [mute_length]; simpa using h)]
    | some o => rw [mute_at _ _ _ h]; rfl
  · rw [mute_ne _ _ _ e]
theorem mute_dst (m : Nat) (l : List Oper) (i : Nat) : ((mute m l)[i]?).map (·.dst) = (l[i]?).map (·.dst) := by
  by_cases e : i = m
  · subst e
    cases h : l[i]? with
    | none => rw [List.getElem?_eq_none (by rw [mute_length]; simpa using h)]
    | some o => rw [mute_at _ _ _ h]; rfl
  · rw [mute_ne _ _ _ e]

section
variable {P : Program} {ops opsQ : Array Oper} {md : Region.Mode} {C : World → Prop}
theorem ready_like {n : Nat} {listed listedH : Array Bool} (hd : ∀ j, j < n → ∀ o, ops[j]? = some o → ∀ e ∈ o.after, Region.binds md e = true → e.on < j)
    (hlike : ∀ i, i < n → (opsQ[i]?).map (·.after) = (ops[i]?).map (·.after)) (hag : ∀ j, j < n → listed[j]? = listedH[j]?) {i : Nat} (hi : i < n) :
    i ∈ Region.ready md ops listed ↔ i ∈ Region.ready md opsQ listedH := by
  rw [mem_ready, mem_ready]
  rw [Array.getD_eq_getD_getElem?, Array.getD_eq_getD_getElem?, hag i hi]
  have hl := hlike i hi
  constructor
  · rintro ⟨ha, o, ho, hall⟩
    rw [ho] at hl
    obtain ⟨o', ho', hoa⟩ := Option.map_eq_some_iff.1 hl
    refine ⟨ha, o', ho', fun e he hb => ?_⟩
    rw [hoa] at he
    have := hall e he hb
    rwa [Array.getD_eq_getD_getElem?, hag e.on (by have := hd i hi o ho e he hb; omega), ← Array.getD_eq_getD_getElem?] at this
  · rintro ⟨ha, o', ho', hall⟩
    rw [ho'] at hl
    obtain ⟨o, ho, hoa⟩ := Option.map_eq_some_iff.1 hl.symm
    refine ⟨ha, o, ho, fun e he hb => ?_⟩
    have hoa' : o.after = o'.after := hoa
    have := hall e (by rw [← hoa']; exact he) hb
    rwa [Array.getD_eq_getD_getElem?, ← hag e.on (by have := hd i hi o ho e he hb; omega), ← Array.getD_eq_getD_getElem?] at this

theorem put_get_ne {a : Act} {x : Option Tmp} {v : Value} {t : Tmp} (h : x ≠ some t) : (a.put x v).tmps[t]? = a.tmps[t]? := by
  cases x with
  | none => rfl
  | some d => simp only [Act.put, Array.getElem?_setIfInBounds]; rw [if_neg (fun e => h (by rw [e]))]
theorem put_put {a : Act} {d : Tmp} {v p : Value} : (a.put (some d) v).put (some d) p = a.put (some d) p := by simp [Act.put]
theorem put_same {a : Act} {d : Tmp} {u v : Value} (h : (a.put (some d) u).tmps[d]? = (a.put (some d) v).tmps[d]?) : a.put (some d) u = a.put (some d) v := by
  simp only [Act.put, Array.getElem?_setIfInBounds, if_true] at h
  by_cases hd : d < a.tmps.size
  · simp only [hd, if_true, Option.some.injEq] at h
    rw [h]
  · simp only [Act.put]
    rw [Array.setIfInBounds, Array.setIfInBounds, dif_neg hd, dif_neg hd]
/-- A slot that no operation still to come writes holds what it holds at the end. -/
theorem slot_stays {afin : Act} {t : Tmp} : ∀ (f : Nat) (listed : Array Bool) (a : Act), wpAnyQ P md opsQ C (fun a' => a' = afin) f listed a →
    (∀ j, listed.getD j true = false → ∀ o, opsQ[j]? = some o → o.dst ≠ some t) → a.tmps[t]? = afin.tmps[t]? := by
  intro f
  induction f with
  | zero => intro listed a h _; rw [h.2]
  | succ f ih =>
    intro listed a h hd
    by_cases hr : Region.ready md opsQ listed = []
    · rw [h.1 hr]
    · obtain ⟨i, hi⟩ := List.exists_mem_of_ne_nil _ hr
      obtain ⟨hun, o, ho, _⟩ := mem_ready.1 hi
      obtain ⟨v, _, hk⟩ := yieldsIn_of_qOp ho (h.2 i hi)
      have := ih (listed.setIfInBounds i true) (a.put o.dst v) hk (fun j hj o' ho' => by
        refine hd j ?_ o' ho'
        by_cases e : i = j
        · subst e; exact hun
        · rwa [getD_set_ne true e] at hj)
      rwa [put_get_ne (hd i hun o ho)] at this

/-- The class of what has grown out of V. -/
def Cl (V : World) : World → Prop := fun W => ∃ d, W = grow V d
theorem cl_iff {V W : World} : Cl V W ↔ Below V.heap.size V W := ⟨fun ⟨d, e⟩ => e ▸ grow_below V d, fun h => ⟨W, grow_of h⟩⟩

theorem wpAny_of_fresh {w : World} {n g m : Nat} {d : Tmp} {om : Oper} {Φ : Value → World → Prop} {afin : Act} {Q : Exit → Act → World → Prop} {l : List Oper} (hl : ∀ j, l[j]? = ops[n + j]?) (hg : g = l.length)
    (hsel : ∀ (j : Nat) (o : Oper) cs b, ops[j]? = some o → o.op ≠ .select cs b)
    (hs : Region.sinkB md ops n = true) (hc : Region.chainB md ops n = true) (hn : n < ops.size) (hmn : m < n)
    (hom : ops[m]? = some om) (hdm : om.dst = some d) (hgm : om.guard = none)
    (hsame : ∀ i, i < n → i ≠ m → opsQ[i]? = ops[i]?) (hlike : ∀ i, i < n → (opsQ[i]?).map (·.after) = (ops[i]?).map (·.after)) (hdst : ∀ i, i < n → (opsQ[i]?).map (·.dst) = (ops[i]?).map (·.dst)) (hsz : ∀ i, n ≤ i → opsQ[i]? = none)
    (hlook : ∀ i, i < n → i ≠ m → ∀ o, ops[i]? = some o → d ∉ o.looksAt ops ∧ o.dst ≠ some d)
    (hwant : ∀ i, i < n → i ≠ m → ∀ o, ops[i]? = some o → ∀ tmps, Region.wanted o (yielded opsQ tmps) = Region.wanted o (yielded ops tmps))
    (hnd : ∀ i j, i < n → j < n → i ≠ j → ∀ o o', ops[i]? = some o → ops[j]? = some o' → ∀ t, o.dst = some t → o'.dst ≠ some t)
    (hd : ∀ j, j < n → ∀ o, ops[j]? = some o → ∀ e ∈ o.after, Region.binds md e = true → e.on < j) (hseq : Region.seqB md ops g n (setTo ops.size n) = true)
    (hΦ : ∀ p W W', Φ p W → Below W.heap.size W W' → Φ p W')
    (hF : ∀ (a : Act) (W : World), Below w.heap.size w W → ∀ K : Act → World → Prop, (∀ p W', Below W.heap.size W W' → Φ p W' → K (a.put (some d) p) W') → om.wp P a W K Q)
    (hQ : ∀ p W', Below w.heap.size w W' → Φ p W' → wpList P ops Q l (afin.put (some d) p) W') :
    ∀ (f : Nat) (listed listedH : Array Bool) (a aH : Act) (W : World), Below w.heap.size w W → HeadInv md ops n listed → listedH.size = n → (∀ j, j < n → listed[j]? = listedH[j]?) →
      (∀ V, Below w.heap.size w V → wpAnyQ P md opsQ (Cl V) (fun a' => a' = afin) f listedH aH) →
      ((listed[m]? = some false ∧ a = aH) ∨ (listed[m]? = some true ∧ ∃ p, a = aH.put (some d) p ∧ Φ p W)) → wpAny P md ops Q (f + g) listed a W := by
  have done : ∀ (listed listedH : Array Bool) (a aH : Act) (W : World), Below w.heap.size w W → HeadInv md ops n listed → listedH.size = n → (∀ j, j < n → listed[j]? = listedH[j]?) →
      Region.ready md opsQ listedH = [] → aH = afin → ((listed[m]? = some false ∧ a = aH) ∨ (listed[m]? = some true ∧ ∃ p, a = aH.put (some d) p ∧ Φ p W)) → wpAny P md ops Q g listed a W := by
    intro listed listedH a aH W hw inv h2 hag hr hfin hcase
    have all : ∀ j, j < n → listed[j]? = some true := by
      intro j
      induction j using Nat.strongRecOn with
      | _ j ih =>
        intro hj
        have hjs : j < ops.size := by omega
        cases hv : listed[j]? with
        | none => exact absurd (Array.getElem?_eq_none_iff.1 hv) (by rw [inv.size]; omega)
        | some b =>
          cases b with
          | true => rfl
          | false =>
            exfalso
            have : j ∈ Region.ready md ops listed := by
              rw [mem_ready]
              refine ⟨by rw [Array.getD_eq_getD_getElem?, hv]; rfl, ops[j], by simp [hjs], fun e he hb => ?_⟩
              have hlt := hd j hj ops[j] (by simp [hjs]) e he hb
              rw [Array.getD_eq_getD_getElem?, ih e.on hlt (by omega)]; rfl
            rw [ready_like hd hlike hag hj, hr] at this
            cases this
    have e : listed = setTo ops.size n := by
      refine Array.ext_getElem? fun j => ?_
      rw [setTo_get _ _ _ (by omega)]
      by_cases hj : j < n
      · rw [all j hj, if_pos (by omega)]; simp [hj]
      · by_cases hjs : j < ops.size
        · rw [if_pos hjs]
          have := inv.tail j (by omega) hjs
          rw [Array.getD_eq_getD_getElem?] at this
          cases hv : listed[j]? with
          | none => exact absurd (Array.getElem?_eq_none_iff.1 hv) (by rw [inv.size]; omega)
          | some b => rw [hv] at this; simp at this; simp [this, hj]
        · rw [if_neg hjs, Array.getElem?_eq_none_iff, inv.size]; omega
    rcases hcase with ⟨hmf, _⟩ | ⟨_, p, rfl, hp⟩
    · rw [all m hmn] at hmf; cases hmf
    · subst hg
      rw [e, hfin]
      exact wpAny_of_seq l n _ _ W hl hseq (hQ p W hw hp)
  intro f
  induction f with
  | zero =>
    intro listed listedH a aH W hw inv h2 hag h hcase
    rw [Nat.zero_add]
    exact done listed listedH a aH W hw inv h2 hag (h w (Below.refl _ _)).1 (h w (Below.refl _ _)).2 hcase
  | succ f ih =>
    intro listed listedH a aH W hw inv h2 hag h hcase
    by_cases hr : Region.ready md opsQ listedH = []
    · exact wpAny_more' (done listed listedH a aH W hw inv h2 hag hr ((h w (Below.refl _ _)).1 hr) hcase) (f + 1)
    · obtain ⟨i0, hi0⟩ := List.exists_mem_of_ne_nil _ hr
      have hi0n : i0 < n := by
        rcases Nat.lt_or_ge i0 n with h' | h'
        · exact h'
        · rw [mem_ready] at hi0; obtain ⟨_, o, ho, _⟩ := hi0; rw [hsz i0 h'] at ho; cases ho
      have hi0' := (ready_like hd hlike hag hi0n).2 hi0
      have hun0 : listed.getD i0 true = false := (mem_ready.1 hi0').1
      rw [show f + 1 + g = (f + g) + 1 by omega]
      refine ⟨fun h0 => (by rw [h0] at hi0'; cases hi0'), fun i hi => ?_⟩
      have hin : i < n := by
        rcases Nat.lt_or_ge i n with h' | h'
        · exact h'
        · exact absurd hi (tail_waits hs hc hn inv _ i0 rfl hi0n hun0 i h')
      have hiH := (ready_like hd hlike hag hin).1 hi
      obtain ⟨hun, oi, hoi, _⟩ := mem_ready.1 hi
      obtain ⟨hunH, oq, hoq, _⟩ := mem_ready.1 hiH
      have hdq : oq.dst = oi.dst := by
        have := hdst i hin
        rw [hoi, hoq] at this
        simpa using this
      have hag' : ∀ j, j < n → (listed.setIfInBounds i true)[j]? = (listedH.setIfInBounds i true)[j]? := fun j hj => by
        rw [Array.getElem?_setIfInBounds, Array.getElem?_setIfInBounds, hag j hj, inv.size, h2]
        by_cases e : i = j
        · subst e; simp [hj, show i < ops.size by omega]
        · simp [e]
      -- one value for all classes
      have step : ∀ V, Below w.heap.size w V → ∃ v, YieldsIn P opsQ (Cl V) oq v aH ∧ wpAnyQ P md opsQ (Cl V) (fun a' => a' = afin) f (listedH.setIfInBounds i true) (aH.put oi.dst v) := fun V hV => by
        obtain ⟨v, hy, hk⟩ := yieldsIn_of_qOp hoq ((h V hV).2 i hiH)
        rw [hdq] at hk
        exact ⟨v, hy, hk⟩
      obtain ⟨v0, hy0, hk0⟩ := step W hw
      have next : ∀ V, Below w.heap.size w V → wpAnyQ P md opsQ (Cl V) (fun a' => a' = afin) f (listedH.setIfInBounds i true) (aH.put oi.dst v0) := fun V hV => by
        obtain ⟨v, _, hk⟩ := step V hV
        cases ht : oi.dst with
        | none => rw [ht] at hk; exact hk
        | some t =>
          rw [ht] at hk hk0
          have hfree : ∀ j, (listedH.setIfInBounds i true).getD j true = false → ∀ o, opsQ[j]? = some o → o.dst ≠ some t := fun j hj o ho => by
            have hjn : j < n := by
              rcases Nat.lt_or_ge j n with h' | h'
              · exact h'
              · rw [hsz j h'] at ho; cases ho
            have hji : i ≠ j := fun e => by
              subst e
              rw [Array.getD_eq_getD_getElem?, Array.getElem?_setIfInBounds] at hj
              simp [h2, hin] at hj
            have hdj := hdst j hjn
            rw [ho] at hdj
            obtain ⟨o', ho', hoo⟩ := Option.map_eq_some_iff.1 hdj.symm
            have hoo' : o'.dst = o.dst := hoo
            rw [← hoo']
            exact hnd i j hin hjn hji oi o' hoi ho' t ht
          have e1 := slot_stays f _ _ hk hfree
          have e2 := slot_stays f _ _ hk0 hfree
          rw [← put_same (e1.trans e2.symm)]
          exact hk
      have invN := inv.set hi hin
      by_cases him : i = m
      · subst him
        rw [hom] at hoi; cases hoi
        have hmf : listed[i]? = some false := by
          rw [Array.getD_eq_getD_getElem?] at hun
          cases hv : listed[i]? with
          | none => exact absurd (Array.getElem?_eq_none_iff.1 hv) (by rw [inv.size]; omega)
          | some b => rw [hv] at hun; simpa using hun
        have ha : a = aH := by
          rcases hcase with ⟨_, e⟩ | ⟨e, _⟩
          · exact e
          · rw [hmf] at e; cases e
        subst ha
        unfold wpOp
        simp only [hom]
        rw [if_pos (by simp [Region.wanted, hgm])]
        refine Or.inl (hF a W hw _ fun p W' hW' hp => ?_)
        refine ih _ (listedH.setIfInBounds i true) _ (a.put om.dst v0) W' (ext_trans hw hW') invN (by simp [h2]) hag' next (Or.inr ⟨?_, p, ?_, hp⟩)
        · rw [Array.getElem?_setIfInBounds]; simp [inv.size]; omega
        · rw [hdm, put_put]
      · have hq := hsame i hin him
        rw [hoi, hoq] at hq
        cases hq
        obtain ⟨hnl, hndst⟩ := hlook i hin him oi hoi
        have hW0 : Cl W W := cl_iff.2 (Below.refl _ _)
        -- the operation at the true frame
        have same : execOp a.eval oi = execOp aH.eval oi ∧ Region.wanted oi (yielded ops a.tmps) = Region.wanted oi (yielded ops aH.tmps) := by
          rcases hcase with ⟨_, e⟩ | ⟨_, p, e, _⟩
          · rw [e]; exact ⟨rfl, rfl⟩
          · rw [e]
            exact ⟨execOp_put (ops := ops) oi (fun cs b => hsel i oi cs b hoi) aH (some d) p (fun d' hd' => by cases hd'; exact hnl), wanted_put (ops := ops) oi aH (some d) p (fun d' hd' => by cases hd'; exact hnl)⟩
        have goOn : ∀ v W', v = v0 → Below W.heap.size W W' → wpAny P md ops Q (f + g) (listed.setIfInBounds i true) (a.put oi.dst v) W' := by
          rintro v W' rfl hW'
          refine ih _ (listedH.setIfInBounds i true) _ (aH.put oi.dst v) W' (ext_trans hw hW') invN (by simp [h2]) hag' next ?_
          rcases hcase with ⟨e1, e2⟩ | ⟨e1, p, e2, hp⟩
          · refine Or.inl ⟨?_, by rw [e2]⟩
            rw [Array.getElem?_setIfInBounds, if_neg him]; exact e1
          · refine Or.inr ⟨?_, p, ?_, hΦ p W W' hp hW'⟩
            · rw [Array.getElem?_setIfInBounds, if_neg him]; exact e1
            · rw [e2, Act.put_comm]
              intro d' hd'
              cases hd'
              exact hndst
        unfold wpOp
        simp only [hoi]
        rw [same.2, ← hwant i hin him oi hoi]
        rcases hy0 with ⟨hwt, hqa⟩ | ⟨hwf, hv⟩
        · rw [if_pos hwt]
          left
          have hqa' : ∀ W1, Cl W W1 → oi.quietAt P a (Cl W) W1 v0 := fun W1 hW1 => by
            have := hqa W1 hW1
            unfold Oper.quietAt at this ⊢
            rw [same.1]
            exact this
          exact Oper.wp_of_quiet (C := Cl W) (K := fun a' => a' = a.put oi.dst v0) hW0 (fun a' W' hC hk => by rw [hk]; exact goOn v0 W' rfl (cl_iff.1 hC)) ⟨v0, hqa', rfl⟩
        · rw [if_neg (by rw [hwf]; simp)]
          exact goOn undef W hv.symm (Below.refl _ _)
end

def freshB (l : List Oper) (n m d : Nat) : Bool :=
  Region.lexTailB .any l.toArray n && Region.lexB .any (mute m (l.take n)).toArray && guardsB l n && decide (m < n) &&
  ((l[m]?).any fun o => (o.dst == some d) && o.guard.isNone) &&
  ((List.range n).all fun i => i == m || (l[i]?).any fun o => !(o.looksAt l.toArray).contains d && (o.dst != some d)) &&
  ((List.range n).all fun i => (List.range n).all fun j => i == j || (match l[i]?, l[j]? with | some o, some o' => (match o.dst with | none => true | some t => o'.dst != some t) | _, _ => true))

/-- A region that draws: operation m lays something new (Φ), which no other of the first n looks at; the others read, or call what only makes memory; the rest stand in one forced order. -/
theorem wp_region_fresh {P : Program} {id : Nat} {Q : Exit → Act → World → Prop} {a : Act} {w : World} {l : List Oper} {om : Oper} {afin : Act} (n m d : Nat) (Φ : Value → World → Prop)
    (hm : P.follows .mixedOrders = true) (hB : freshB l n m d = true) (hom : l[m]? = some om) (hΦ : ∀ p W W', Φ p W → Below W.heap.size W W' → Φ p W')
    (hF : ∀ (a : Act) (W : World), Below w.heap.size w W → ∀ K : Act → World → Prop, (∀ p W', Below W.heap.size W W' → Φ p W' → K (a.put (some d) p) W') → om.wp P a W K Q)
    (hq : ∀ V, (∀ b o, V.cell? ⟨b, o, none⟩ = if b < w.heap.size then w.cell? ⟨b, o, none⟩ else cellN V b o) → w.heap.size ≤ V.heap.size →
      (∀ x b o, (grow V x).cell? ⟨b, o, none⟩ = if b < V.heap.size then V.cell? ⟨b, o, none⟩ else cellN (grow V x) b o) →
      wpQuiet P (mute m (l.take n)).toArray (fun W => ∃ x, W = grow V x) (fun a' => a' = afin) (mute m (l.take n)) a)
    (hQ : ∀ p W', Below w.heap.size w W' → Φ p W' → wpList P l.toArray Q (l.drop n) (afin.put (some d) p) W') : (Code.region id l.toArray true).wp P Q a w := by
  simp only [freshB, Bool.and_eq_true, decide_eq_true_eq] at hB
  obtain ⟨⟨⟨⟨⟨⟨hT, hH⟩, hgd⟩, hmn⟩, hmo⟩, hlk⟩, hdd⟩ := hB
  simp only [Region.lexTailB, Bool.and_eq_true, decide_eq_true_eq] at hT
  obtain ⟨⟨⟨⟨hns, hn⟩, hs⟩, hc⟩, hlex⟩ := hT
  simp only [Region.lexB, Bool.and_eq_true] at hH
  have hn' : n < l.length := by simpa using hn
  have htl : (l.take n).length = n := by simp; omega
  have hlenQ : (mute m (l.take n)).length = n := by rw [mute_length, htl]
  have hlex' := lexHead_at (md := .any) (ops := l.toArray) (g := l.toArray.size - n) n 0 (by simp; omega) (by simpa [setTo] using hlex)
  simp only [Nat.zero_add] at hlex'
  rw [hom] at hmo
  simp only [Option.any_some, Bool.and_eq_true, beq_iff_eq, Option.isNone_iff_eq_none] at hmo
  have hsel : ∀ (j : Nat) (o : Oper) cs b, l.toArray[j]? = some o → o.op ≠ .select cs b := fun j o cs b hj e => by
    have := (Array.all_eq_true_iff_forall_mem.1 hns) o (Array.mem_of_getElem? hj)
    rw [e] at this
    cases this
  have hQi : ∀ i, i < n → i ≠ m → (mute m (l.take n)).toArray[i]? = l.toArray[i]? := fun i hi him => by
    simp only [List.getElem?_toArray]
    rw [mute_ne _ _ _ him, List.getElem?_take_of_lt hi]
  have hQd : ∀ i, i < n → ((mute m (l.take n)).toArray[i]?).map (·.dst) = (l.toArray[i]?).map (·.dst) := fun i hi => by
    simp only [List.getElem?_toArray]
    rw [mute_dst, List.getElem?_take_of_lt hi]
  refine wp_region_any hm ?_
  have main := wpAny_of_fresh (P := P) (ops := l.toArray) (opsQ := (mute m (l.take n)).toArray) (md := .any) (w := w) (n := n) (g := l.toArray.size - n) (m := m) (d := d) (om := om) (Φ := Φ) (afin := afin) (Q := Q) (l := l.drop n)
    (fun j => by simp [List.getElem?_drop]) (by simp) hsel hs hc hn hmn (by simpa using hom) hmo.1 hmo.2 hQi
    (fun i hi => by simp only [List.getElem?_toArray]; rw [mute_after, List.getElem?_take_of_lt hi]) hQd
    (fun i hi => by simp only [List.getElem?_toArray]; rw [List.getElem?_eq_none]; rw [hlenQ]; exact hi)
    (fun i hi him o ho => by
      have := (List.all_eq_true.1 hlk) i (by simpa using hi)
      simp only [List.getElem?_toArray] at ho
      simp only [ho, Option.any_some, Bool.or_eq_true, beq_iff_eq, him, false_or, Bool.and_eq_true, Bool.not_eq_true', bne_iff_ne, ne_eq] at this
      exact ⟨fun hc => by have h1 := this.1; rw [← Bool.not_eq_true] at h1; exact h1 (List.contains_iff_mem.2 hc), this.2⟩)
    (fun i hi him o ho tmps => by
      have hmem : o ∈ l.take n := by
        rw [List.mem_iff_getElem?]
        exact ⟨i, by rw [List.getElem?_take_of_lt hi]; simpa using ho⟩
      have hgo := (List.all_eq_true.1 hgd) o hmem
      unfold Region.wanted
      cases hg : o.guard with
      | none => rfl
      | some x =>
        obtain ⟨j, want⟩ := x
        simp only [hg, decide_eq_true_eq] at hgo
        simp only []
        have e : yielded (mute m (l.take n)).toArray tmps j = yielded l.toArray tmps j := by
          unfold yielded
          have := hQd j hgo
          cases h1 : (mute m (l.take n)).toArray[j]? <;> cases h2 : l.toArray[j]? <;> rw [h1, h2] at this <;> simp at this
          simp only [Option.bind_some, this]
        rw [e])
    (fun i j hi hj hij o o' ho ho' t ht => by
      have := (List.all_eq_true.1 ((List.all_eq_true.1 hdd) i (by simpa using hi))) j (by simpa using hj)
      simp only [List.getElem?_toArray] at ho ho'
      simp only [ho, ho', ht, Bool.or_eq_true, beq_iff_eq, hij, false_or, bne_iff_ne, ne_eq] at this
      exact this)
    (fun j hj o ho x hx hb => by
      have := hlex'.2 j (by omega) hj
      rw [mem_ready] at this
      obtain ⟨_, o', ho', hall⟩ := this
      rw [ho] at ho'
      cases ho'
      have := hall x hx hb
      rw [setTo_getD _ _ _ _ (by omega)] at this
      split at this
      · simpa using this
      · cases this)
    hlex'.1 hΦ hF hQ n (Array.replicate l.toArray.size false) (Array.replicate n false) a a { w with drawn := w.drawn + 1 } ((Below.refl _ _).drew)
    ⟨by simp, fun j oj _ hl => by (rw [getD_replicate_false] at hl; cases hl), fun t _ ht => getD_in (by simpa using ht) (getD_replicate_false _ _)⟩
    (by simp) (fun j hj => by simp [Array.getElem?_replicate, hj, show j < l.length by omega])
    (fun V hV => by
      have := wpAnyQ_lex (P := P) (md := .any) (C := Cl V) hH.1 (mute m (l.take n)) 0 (Array.replicate (mute m (l.take n)).toArray.size false) a (by simp) (by simpa using hH.2)
        (hq V (bcell hV).1 hV.size (grow_cell V))
      rw [hlenQ] at this
      simpa [hlenQ] using this)
    (Or.inl ⟨by simp [Array.getElem?_replicate]; omega, rfl⟩)
  rw [show n + (l.toArray.size - n) = l.toArray.size by simp; omega] at main
  exact main

/-- A new block of the content c. -/
def NewBlk (B : Nat) (c : Array Value) (E : TypeId) (p : Value) (W : World) : Prop := ∃ b, p = .pointer (some ⟨b, 0, none⟩) ∧ B ≤ b ∧ W.heap[b]? = some (.cells c E (0, 0))
theorem NewBlk.stays {B : Nat} {c : Array Value} {E : TypeId} : ∀ p W W', NewBlk B c E p W → Below W.heap.size W W' → NewBlk B c E p W' := fun p W W' ⟨b, e, hB, hb⟩ hx =>
  ⟨b, e, hB, by rw [hx.block b (Array.getElem?_eq_some_iff.1 hb).1]; exact hb⟩
theorem NewBlk.mk_alloc {w W : World} (h : w.heap.size ≤ W.heap.size) (c : Array Value) (E : TypeId) : NewBlk w.heap.size c E (.pointer (some ⟨W.heap.size, 0, none⟩)) (W.alloc (.cells c E)) :=
  ⟨W.heap.size, rfl, h, heap_alloc_new W _⟩
theorem NewBlk.facts {B : Nat} {c : Array Value} {E : TypeId} {p : Value} {W : World} (h : NewBlk B c E p W) : ∃ b, p = .pointer (some ⟨b, 0, none⟩) ∧ B ≤ b ∧ b < W.heap.size ∧
    (∀ i, W.cell? ⟨b, i, none⟩ = c[i]?) ∧ (∀ i, cellN W b i = c[i]?) ∧ (∀ i, W.frozen? ⟨b, i, none⟩ = false) ∧ (∀ i, frozenN W b i = false) := by
  obtain ⟨b, e, hB, hb⟩ := h
  have h1 : ∀ i, W.cell? ⟨b, i, none⟩ = c[i]? := fun i => by simp [World.cell?, hb]
  have h2 : ∀ i, W.frozen? ⟨b, i, none⟩ = false := fun i => by simp [World.frozen?, hb]
  exact ⟨b, e, hB, (Array.getElem?_eq_some_iff.1 hb).1, h1, h1, h2, h2⟩
/-- The same where operation m is 'a new variable'. -/
theorem wp_region_alloc {P : Program} {id : Nat} {Q : Exit → Act → World → Prop} {a : Act} {w : World} {l : List Oper} {om : Oper} (n m d : Nat) (c : Array Value) (E : TypeId)
    (hm : P.follows .mixedOrders = true) (hB : freshB l n m d = true) (hom : l[m]? = some om) (hdm : om.dst = some d)
    (hrun : ∀ (a : Act) (W : World), (execOp a.eval om).run P W = .ok (.value (.pointer (some ⟨W.heap.size, 0, none⟩))) (W.alloc (.cells c E)))
    (h : ∃ afin : Act, (∀ V, (∀ b o, V.cell? ⟨b, o, none⟩ = if b < w.heap.size then w.cell? ⟨b, o, none⟩ else cellN V b o) → w.heap.size ≤ V.heap.size →
        (∀ x b o, (grow V x).cell? ⟨b, o, none⟩ = if b < V.heap.size then V.cell? ⟨b, o, none⟩ else cellN (grow V x) b o) →
        wpQuiet P (mute m (l.take n)).toArray (fun W => ∃ x, W = grow V x) (fun a' => a' = afin) (mute m (l.take n)) a) ∧
      (∀ b W', Below w.heap.size w W' → w.heap.size ≤ b → b < W'.heap.size →
        (∀ i, W'.cell? ⟨b, i, none⟩ = c[i]?) → (∀ i, cellN W' b i = c[i]?) → (∀ i, W'.frozen? ⟨b, i, none⟩ = false) → (∀ i, frozenN W' b i = false) →
        wpList P l.toArray Q (l.drop n) (afin.put (some d) (.pointer (some ⟨b, 0, none⟩))) W')) : (Code.region id l.toArray true).wp P Q a w := by
  obtain ⟨afin, hq, hQ⟩ := h
  refine wp_region_fresh n m d (NewBlk w.heap.size c E) hm hB hom NewBlk.stays ?_ hq ?_
  · intro a W hW K hK
    unfold Oper.wp
    rw [hrun a W]
    simp only [Oper.upon, hdm]
    exact hK _ _ ((Below.refl _ _).alloc (Nat.le_refl _) _) (NewBlk.mk_alloc hW.size c E)
  · intro p W' hb hp
    obtain ⟨b, rfl, h1, h2, h3, h4, h5, h6⟩ := hp.facts
    exact hQ b W' hb h1 h2 h3 h4 h5 h6
end Go.Proofs.Ytmodhpgnkbnbaaa
