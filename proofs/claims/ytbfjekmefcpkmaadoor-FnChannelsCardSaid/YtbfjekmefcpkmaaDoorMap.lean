/- Maps that a call has made, read as the list of what was put in, in the order of the keys' first coming. -/
import Derived.Test.YtbfjekmefcpkmaaDoorRw2
import Derived.Maps.Own
set_option linter.unusedSimpArgs false
set_option linter.unusedVariables false
set_option linter.unusedSectionVars false
namespace Go.Proofs.YtbfjekmefcpkmaaDoor
open Go.RowKit

section
variable {κ V : Type} [DecidableEq κ]
def mget (m : List (κ × V)) (k : κ) : Option V := (m.find? fun p => decide (p.1 = k)).map (·.2)
def ment (z : V) (m : List (κ × V)) (k : κ) : List (κ × V) := if (mget m k).isSome then m else m ++ [(k, z)]
def mset (m : List (κ × V)) (k : κ) (x : V) : List (κ × V) := m.map fun p => if p.1 = k then (k, x) else p
def mput (z : V) (m : List (κ × V)) (k : κ) (x : V) : List (κ × V) := mset (ment z m k) k x
def mgC (b : Bool) (z : V) (m : List (κ × V)) (k : κ) : Option V := if b then some ((mget m k).getD z) else none
def mpC (b : Bool) : Option Unit := if b then some () else none
theorem mpE {b : Bool} {u : Unit} (h : mpC b = some u) : b = true := by unfold mpC at h; split at h; assumption; cases h
theorem mgE {b : Bool} {z : V} {m : List (κ × V)} {k : κ} {y : V} (h : mgC b z m k = some y) : b = true ∧ y = (mget m k).getD z := by
 unfold mgC at h; split at h
 ·exact ⟨by assumption, by simpa using h.symm⟩
 ·cases h
theorem mget_none {m : List (κ × V)} {k : κ} (h : ∀ p ∈ m, p.1 ≠ k) : mget m k = none := by
 unfold mget
 rw [List.find?_eq_none.2 (fun p hp => by simpa using h p hp)]; rfl
theorem mget_mem {m : List (κ × V)} {k : κ} {x : V} (h : mget m k = some x) : (k, x) ∈ m := by
 unfold mget at h
 obtain ⟨p, hp, rfl⟩ := Option.map_eq_some_iff.1 h
 have h1 := List.find?_some hp
 have h2 := List.mem_of_find?_eq_some hp
 simp only [decide_eq_true_eq] at h1
 rw [← h1]; exact h2
theorem mget_at {m : List (κ × V)} (hn : (m.map (·.1)).Nodup) {j : Nat} {k : κ} {x : V} (h : m[j]? = some (k, x)) : mget m k = some x := by
 induction m generalizing j with
 | nil => simp at h
 | cons a r ih =>
  simp only [List.map_cons, List.nodup_cons] at hn
  unfold mget
  cases j with
  | zero => simp only [List.getElem?_cons_zero, Option.some.injEq] at h; subst h; simp
  | succ j =>
   simp only [List.getElem?_cons_succ] at h
   have hne : a.1 ≠ k := fun e => hn.1 (by rw [e]; exact List.mem_map.2 ⟨_, List.mem_of_getElem? h, rfl⟩)
   rw [List.find?_cons_of_neg (by simpa using hne)]
   exact ih hn.2 h
theorem mget_mset (m : List (κ × V)) (k k' : κ) (x : V) : mget (mset m k x) k' = if k' = k then (mget m k).map (fun _ => x) else mget m k' := by
 induction m with
 | nil => simp [mget, mset]
 | cons a r ih =>
  have e1 : mset (a :: r) k x = (if a.1 = k then (k, x) else a) :: mset r k x := rfl
  have e2 : ∀ (q : κ × V) (l : List (κ × V)) (c : κ), mget (q :: l) c = if q.1 = c then some q.2 else mget l c := fun q l c => by
   unfold mget
   by_cases h : q.1 = c
   ·rw [List.find?_cons_of_pos (by simpa using h), if_pos h]; rfl
   ·rw [List.find?_cons_of_neg (by simpa using h), if_neg h]
  rw [e1, e2, e2, e2, ih]
  by_cases h : a.1 = k
  ·rw [if_pos h]
   by_cases h' : k' = k
   ·subst h'; simp [h]
   ·have : a.1 ≠ k' := fun e => h' (e ▸ h)
    have h2 : k ≠ k' := fun e => h' e.symm
    simp [h', this, h2, h]
  ·rw [if_neg h]
   by_cases h' : k' = k
   ·subst h'; simp [h]
   ·simp [h']
theorem keys_mset (m : List (κ × V)) (k : κ) (x : V) : (mset m k x).map (·.1) = m.map (·.1) := by
 unfold mset
 rw [List.map_map]
 refine List.map_congr_left fun p _ => ?_
 by_cases h : p.1 = k <;> simp [h]
theorem nodup_ment {z : V} {m : List (κ × V)} (hn : (m.map (·.1)).Nodup) (k : κ) : ((ment z m k).map (·.1)).Nodup := by
 unfold ment
 split
 ·exact hn
 ·rename_i h
  rw [List.map_append, List.nodup_append]
  refine ⟨hn, by simp, fun a ha b hb e => h ?_⟩
  simp only [List.map_cons, List.map_nil, List.mem_singleton] at hb
  subst hb; subst e
  obtain ⟨p, hp, rfl⟩ := List.mem_map.1 ha
  obtain ⟨j, hj, hp'⟩ := List.mem_iff_getElem.1 hp
  rw [mget_at hn (j := j) (x := p.2) (by rw [List.getElem?_eq_getElem hj, hp'])]; rfl
end

structure MK (P : Program) (K : TypeId) {κ : Type} (ek : κ → Value) (okk : κ → Bool) : Prop where
 keyed : Maps.Keyed P K
 lit : ∀ k, okk k = true → ∃ l, keyOf P K (ek k) = some l
 inj : ∀ a b, ek a = ek b → a = b
structure MpTy (P : Program) (T K e : TypeId) (z : Value) : Prop where
 und : P.underlying T = some (.map K e)
 zero : pureRun P (zeroValue e) = some z
def kv (e : MapEntry) : Value × Value := (e.key, e.val)
structure Mp {κ V : Type} (okk : κ → Bool) (ek : κ → Value) (ev : V → Value) (w : World) (b : Nat) (m : List (κ × V)) : Prop where
 is : ∃ es c, w.heap[b]? = some (.map es c) ∧ es.toList.map kv = m.map (fun p => (ek p.1, ev p.2)) ∧ (es.toList.map (·.born)).Nodup ∧ ∀ e ∈ es.toList, e.born < c
 nd : (m.map (·.1)).Nodup
 ok : ∀ p ∈ m, okk p.1 = true
structure MpS {κ V : Type} (okk : κ → Bool) (ek : κ → Value) (ev : V → Value) (w : World) (b : Nat) (m : List (κ × V)) (k : κ) (st : Nat) : Prop where
 map : Mp okk ek ev w b m
 at_ : ∃ (es : Array MapEntry) (c j : Nat) (e : MapEntry), w.heap[b]? = some (.map es c) ∧ es[j]? = some e ∧ e.key = ek k ∧ e.born = st
section
variable {κ V : Type} [DecidableEq κ] {okk : κ → Bool} {ek : κ → Value} {ev : V → Value} {w w' : World} {b : Nat} {m : List (κ × V)} {S : List Nat}
theorem Mp.lt (h : Mp okk ek ev w b m) : b < w.heap.size := by
 obtain ⟨es, c, hb, _⟩ := h.is
 exact (Array.getElem?_eq_some_iff.1 hb).1
theorem Mp.low (h : Mp okk ek ev w b m) : ∀ x ∈ [b], x < w.heap.size := fun x hx => by simp at hx; subst hx; exact h.lt
theorem Mp.heap (h : Mp okk ek ev w b m) (hb : w'.heap[b]? = w.heap[b]?) : Mp okk ek ev w' b m := ⟨by rw [hb]; exact h.is, h.nd, h.ok⟩
theorem Mp.chg (h : Mp okk ek ev w b m) (hc : Chg S w w') (hn : Dj [b] S) : Mp okk ek ev w' b m := h.heap (hc.block b h.lt (hn b (by simp)))
theorem MpS.lt {k : κ} {st : Nat} (h : MpS okk ek ev w b m k st) : b < w.heap.size := h.map.lt
theorem MpS.low {k : κ} {st : Nat} (h : MpS okk ek ev w b m k st) : ∀ x ∈ [b], x < w.heap.size := h.map.low
theorem MpS.chg {k : κ} {st : Nat} (h : MpS okk ek ev w b m k st) (hc : Chg S w w') (hn : Dj [b] S) : MpS okk ek ev w' b m k st :=
 ⟨h.map.chg hc hn, by rw [hc.block b h.lt (hn b (by simp))]; exact h.at_⟩
theorem Mp.new (w : World) : Mp okk ek ev (w.alloc (.map #[] 0)) w.heap.size ([] : List (κ × V)) :=
 ⟨⟨#[], 0, by show (w.heap.push _)[w.heap.size]? = _; simp, by simp, by simp, by simp⟩, by simp, by simp⟩
theorem ent_at {es : Array MapEntry} (he : es.toList.map kv = m.map (fun p => (ek p.1, ev p.2))) {j : Nat} {e : MapEntry} (hj : es[j]? = some e) : ∃ k x, m[j]? = some (k, x) ∧ e.key = ek k ∧ e.val = ev x := by
 have h1 : (es.toList.map kv)[j]? = some (e.key, e.val) := by rw [List.getElem?_map]; simp [hj, kv]
 rw [he, List.getElem?_map] at h1
 obtain ⟨p, hp, h2⟩ := Option.map_eq_some_iff.1 h1
 simp only [Prod.mk.injEq] at h2
 exact ⟨p.1, p.2, hp, h2.1.symm, h2.2.symm⟩
theorem ent_len {es : Array MapEntry} (he : es.toList.map kv = m.map (fun p => (ek p.1, ev p.2))) : es.size = m.length := by
 have := congrArg List.length he
 simpa using this
variable {P : Program} {T K e : TypeId} {z : V} {k : κ}
theorem Mp.find (h : Mp okk ek ev w b m) (hK : MK P K ek okk) (hk : okk k = true) {es : Array MapEntry} {c : Nat} (hb : w.heap[b]? = some (.map es c)) (he : es.toList.map kv = m.map (fun p => (ek p.1, ev p.2))) :
  ((Instr.findKey K (ek k) es.toList).run P w = .ok none w ∧ mget m k = none) ∨
  ∃ j e x, (Instr.findKey K (ek k) es.toList).run P w = .ok (some (j, e.val)) w ∧ es[j]? = some e ∧ e.key = ek k ∧ e.val = ev x ∧ m[j]? = some (k, x) ∧ mget m k = some x := by
 obtain ⟨l, hl⟩ := hK.lit k hk
 have hks : ∀ e ∈ es.toList, ∃ l, keyOf P K e.key = some l := fun e hm => by
  obtain ⟨j, hj, hje⟩ := List.mem_iff_getElem.1 hm
  obtain ⟨k', x, h1, h2, _⟩ := ent_at he (j := j) (e := e) (by simp at hj; simp [hj, ← hje])
  rw [h2]
  exact hK.lit k' (h.ok _ (List.mem_of_getElem? h1))
 rcases hK.keyed.find w hl es.toList hks with ⟨h1, h2⟩ | ⟨j, e, h1, h2, h3⟩
 ·refine Or.inl ⟨h1, mget_none fun p hp ep => ?_⟩
  obtain ⟨j, hj, hjp⟩ := List.mem_iff_getElem.1 hp
  have hsz := ent_len he
  have hjs : j < es.size := by omega
  obtain ⟨k', x, g1, g2, _⟩ := ent_at he (j := j) (e := es[j]) (by simp [hjs])
  rw [List.getElem?_eq_getElem hj, hjp] at g1
  simp only [Option.some.injEq] at g1
  exact h2 es[j] (by simp) (by rw [g2, ← ep, g1])
 ·have hj : es[j]? = some e := by simpa using h2
  obtain ⟨k', x, g1, g2, g3⟩ := ent_at he hj
  have : k' = k := hK.inj _ _ (by rw [← g2, h3])
  subst this
  exact Or.inr ⟨j, e, x, h1, hj, h3, g3, g1, mget_at h.nd g1⟩
def setM (w : World) (b : Nat) (es : Array MapEntry) (c : Nat) : World := { w with heap := w.heap.setIfInBounds b (.map es c) }
theorem setM_chg (es : Array MapEntry) (c : Nat) : Chg [b] w (setM w b es c) :=
 ⟨rfl, rfl, rfl, by simp [setM], fun i hi hn => by simp only [List.mem_singleton] at hn; simp [setM, Array.getElem?_setIfInBounds, Ne.symm hn], Nat.le_refl _⟩
theorem setM_at {es : Array MapEntry} {c : Nat} (h : b < w.heap.size) : (setM w b es c).heap[b]? = some (.map es c) := by simp [setM, Array.getElem?_setIfInBounds, h]
theorem Mp.look (h : Mp okk ek ev w b m) (hK : MK P K ek okk) (hT : MpTy P T K e (ev z)) (hk : okk k = true) : (Instr.lookup T (.map (some b)) (ek k) false).run P w = .ok (ev ((mget m k).getD z)) w := by
 obtain ⟨es, c, hb, he, _, _⟩ := h.is
 obtain ⟨l, hl⟩ := hK.lit k hk
 have hz := pureRun_run hT.zero w
 rcases h.find hK hk hb he with ⟨h1, h2⟩ | ⟨j, e, x, h1, h2, h3, h4, h5, h6⟩
 ·simp [Instr.lookup, run_underlying hT.und, MapKept.run_getObj_map hb, hK.keyed.check w _ hl, h1, h2, hz, Result.andThen]
 ·simp [Instr.lookup, run_underlying hT.und, MapKept.run_getObj_map hb, hK.keyed.check w _ hl, h1, h6, h4, Result.andThen]
theorem Mp.entry (h : Mp okk ek ev w b m) (hK : MK P K ek okk) (hT : MpTy P T K e (ev z)) (hk : okk k = true) :
  ∃ (v0 : Value) (st : Nat) (w' : World), (Instr.mapEntry T (.map (some b)) (ek k)).run P w = .ok (.tuple #[v0, goInt st]) w' ∧ MpS okk ek ev w' b (ment z m k) k st ∧ Chg [b] w w' := by
 obtain ⟨es, c, hb, he, hn, hc⟩ := h.is
 obtain ⟨l, hl⟩ := hK.lit k hk
 have hz := pureRun_run hT.zero w
 rcases h.find hK hk hb he with ⟨h1, h2⟩ | ⟨j, e, x, h1, h2, h3, h4, h5, h6⟩
 ·refine ⟨ev z, c, setM w b (es.push ⟨ek k, ev z, c⟩) (c + 1), ?_, ?_, setM_chg _ _⟩
  ·simp [Instr.mapEntry, run_underlying hT.und, MapKept.run_getObj_map hb, hK.keyed.check w _ hl, h1, hz, MapKept.run_setObj_map _ hb, Result.andThen, setM]
  ·have e1 : ment z m k = m ++ [(k, z)] := by unfold ment; rw [h2]; rfl
   refine ⟨⟨⟨_, _, setM_at h.lt, ?_, ?_, ?_⟩, nodup_ment h.nd k, ?_⟩, ⟨_, _, es.size, ⟨ek k, ev z, c⟩, setM_at h.lt, by simp, rfl, rfl⟩⟩
   ·rw [e1]; simp [he, kv]
   ·rw [Array.toList_push, List.map_append, List.nodup_append]
    refine ⟨hn, by simp, fun a ha d hd e2 => ?_⟩
    simp only [List.map_cons, List.map_nil, List.mem_singleton] at hd
    obtain ⟨q, hq, rfl⟩ := List.mem_map.1 ha
    have := hc q hq; omega
   ·intro q hq
    rw [Array.toList_push, List.mem_append] at hq
    rcases hq with hq | hq
    ·have := hc q hq; omega
    ·simp only [List.mem_singleton] at hq; subst hq; exact Nat.lt_succ_self c
   ·rw [e1]; intro p hp
    rcases List.mem_append.1 hp with hp | hp
    ·exact h.ok p hp
    ·simp only [List.mem_singleton] at hp; subst hp; exact hk
 ·have hsame : es.modify j (fun e => { e with key := ek k }) = es := by
   apply Array.ext'
   rw [Array.toList_modify]
   refine List.ext_getElem? fun i => ?_
   rw [List.getElem?_modify]
   by_cases hij : j = i
   ·subst hij
    simp only [if_true]
    rw [Array.getElem?_toList, h2, ← h3]; rfl
   ·simp [hij]
  have e1 : ment z m k = m := by unfold ment; rw [h6]; rfl
  refine ⟨e.val, e.born, setM w b es c, ?_, ?_, setM_chg _ _⟩
  ·simp [Instr.mapEntry, run_underlying hT.und, MapKept.run_getObj_map hb, hK.keyed.check w _ hl, h1, h2, h3, hK.keyed.stays w hl, hsame, MapKept.run_setObj_map _ hb, Result.andThen, setM]
  ·rw [e1]
   exact ⟨⟨⟨es, c, setM_at h.lt, he, hn, hc⟩, h.nd, h.ok⟩, ⟨es, c, j, e, setM_at h.lt, h2, h3, rfl⟩⟩
theorem nodup_idx {l : List Nat} (h : l.Nodup) {i j : Nat} {x : Nat} (hi : l[i]? = some x) (hj : l[j]? = some x) : i = j := by
 obtain ⟨hil, rfl⟩ := List.getElem?_eq_some_iff.1 hi
 obtain ⟨hjl, e⟩ := List.getElem?_eq_some_iff.1 hj
 exact (List.getElem_inj h).1 e.symm
theorem MpS.store {st : Nat} (h : MpS okk ek ev w b m k st) (hinj : ∀ a b, ek a = ek b → a = b) (x : V) :
  ∃ w', (Instr.entryStore T (.map (some b)) (goInt st) (ev x)).run P w = .ok () w' ∧ Mp okk ek ev w' b (mset m k x) ∧ Chg [b] w w' := by
 obtain ⟨es, c, hb, he, hn, hc⟩ := h.map.is
 obtain ⟨es', c', j, e, hb', hj, hkey, rfl⟩ := h.at_
 rw [hb] at hb'
 simp only [Option.some.injEq, Obj.map.injEq] at hb'
 obtain ⟨rfl, rfl⟩ := hb'
 have hjs : j < es.size := (Array.getElem?_eq_some_iff.1 hj).1
 have hbj : ∀ i, (es.toList.map (·.born))[i]? = (es[i]?).map MapEntry.born := fun i => by rw [List.getElem?_map]; simp; rfl
 have hidx : es.findIdx? (fun e' => ((e'.born : Nat) : Int) == ((e.born : Nat) : Int)) = some j := by
  rw [Array.findIdx?_eq_some_iff_getElem]
  have hje : es[j] = e := (Array.getElem?_eq_some_iff.1 hj).2
  refine ⟨hjs, by simp [hje], fun i hij hh => ?_⟩
  have : es[i].born = e.born := Int.ofNat.inj (eq_of_beq hh)
  have := nodup_idx hn (i := i) (j := j) (x := e.born) (by rw [hbj, Array.getElem?_eq_getElem (by omega)]; simp [this]) (by rw [hbj, hj]; rfl)
  omega
 obtain ⟨k', x', g1, g2, _⟩ := ent_at he hj
 have hkk : k' = k := hinj _ _ (by rw [← g2, hkey])
 subst hkk
 refine ⟨setM w b (es.modify j fun e => { e with val := ev x }) c, ?_, ?_, setM_chg _ _⟩
 ·simp [Instr.entryStore, MapKept.run_getObj_map hb, asInt, asIntOf, goInt, hidx, MapKept.run_setObj_map _ hb, Result.andThen, setM]
 ·have hborn : (es.modify j fun e => { e with val := ev x }).toList.map (·.born) = es.toList.map (·.born) := by
   rw [Array.toList_modify]
   refine List.ext_getElem? fun i => ?_
   rw [List.getElem?_map, List.getElem?_map, List.getElem?_modify]
   by_cases hij : j = i
   ·simp only [hij, if_true]; cases es.toList[i]? <;> rfl
   ·simp [hij]
  refine ⟨⟨_, _, setM_at h.lt, ?_, ?_, ?_⟩, by rw [keys_mset]; exact h.map.nd, ?_⟩
  ·rw [Array.toList_modify]
   refine List.ext_getElem? fun i => ?_
   have hi := congrArg (fun l => l[i]?) he
   simp only [List.getElem?_map] at hi
   unfold mset
   rw [List.getElem?_map, List.getElem?_map, List.getElem?_map, List.getElem?_modify]
   by_cases hij : j = i
   ·subst hij
    rw [g1, Array.getElem?_toList, hj]
    simp [kv, g2]
   ·simp only [hij, if_false, id]
    cases hm : m[i]? with
    | none => rw [hm] at hi; simpa [Option.map_id'] using hi
    | some p =>
     have hne : p.1 ≠ k' := fun ep => hij (by
      have a1 : (m.map (·.1))[j]? = some k' := by rw [List.getElem?_map, g1]; rfl
      have a2 : (m.map (·.1))[i]? = some k' := by rw [List.getElem?_map, hm, ← ep]; rfl
      obtain ⟨hl1, e1⟩ := List.getElem?_eq_some_iff.1 a1
      obtain ⟨hl2, e2⟩ := List.getElem?_eq_some_iff.1 a2
      exact (List.getElem_inj h.map.nd).1 (e1.trans e2.symm))
     rw [hm] at hi
     simpa [hne, Option.map_id'] using hi
  ·rw [hborn]; exact hn
  ·intro q hq
   have : q.born ∈ (es.modify j fun e => { e with val := ev x }).toList.map (·.born) := List.mem_map.2 ⟨q, hq, rfl⟩
   rw [hborn] at this
   obtain ⟨q', hq', e'⟩ := List.mem_map.1 this
   rw [← e']; exact hc q' hq'
  ·intro p hp
   have : p.1 ∈ (mset m k' x).map (·.1) := List.mem_map.2 ⟨p, hp, rfl⟩
   rw [keys_mset] at this
   obtain ⟨p', hp', e'⟩ := List.mem_map.1 this
   rw [← e']; exact h.map.ok p' hp'
end
def lookI (ops : Array Oper) (N : Nat) (E : Env) (a : Act) (i : Nat) : Option (Nat × TypeId × Value × Value) :=
 match atI ops N E a i with
 | some (some d, .lookup T x k false) => some (d, T, evE E a x, evE E a k)
 | _ => none
def mmI (ops : Array Oper) (N : Nat) (E : Env) (a : Act) (i : Nat) : Option (Nat × TypeId) :=
 match atI ops N E a i with
 | some (some d, .makeMap T none) => some (d, T)
 | _ => none
def entI (ops : Array Oper) (N : Nat) (E : Env) (a : Act) (i : Nat) : Option (Nat × TypeId × Value × Value) :=
 match atI ops N E a i with
 | some (some d, .mapEntry T x k) => some (d, T, evE E a x, evE E a k)
 | _ => none
def estI (ops : Array Oper) (N : Nat) (E : Env) (a : Act) (i : Nat) : Option (TypeId × Value × Value × Value) :=
 match atI ops N E a i with
 | some (none, .entryStore T x s v) => some (T, evE E a x, evE E a s, evE E a v)
 | _ => none
section
variable {κ V : Type} [DecidableEq κ] {okk : κ → Bool} {ek : κ → Value} {ev : V → Value} {b : Nat} {m : List (κ × V)} {k : κ} {z : V}
variable {P : Program} {ops : Array Oper} {Q : Exit → Act → World → Prop} {N i : Nat} {E : Env} {a : Act} {w ws : World} {Sg dn : List Nat}
theorem wS_makeMap {d T : Nat} (ho : mmI ops N E a i = some (d, T)) (okk : κ → Bool) (ek : κ → Value) (ev : V → Value)
  (kk : ∀ b w', w.heap.size ≤ b → Mp okk ek ev w' b ([] : List (κ × V)) → Chg [] w w' → wS P ops Q N (i + 1) ((d, .map (some b)) :: E) a w') : wS P ops Q N i E a w := by
 unfold mmI at ho
 split at ho
 ·rename_i d' T' hat
  simp only [Option.some.injEq, Prod.mk.injEq] at ho
  obtain ⟨rfl, rfl⟩ := ho
  obtain ⟨h1, h2, h3⟩ := atI_spec hat
  refine wS_val (w' := w.alloc (.map #[] 0)) h1 h2 (h3 _ rfl) (fun o ho => ?_) (kk w.heap.size _ (Nat.le_refl _) (Mp.new w) (Chg.alloc _ _))
  simp [execOp, ho, run_makeMap]
 ·cases ho
theorem wS_look {d T K e : Nat} (ho : lookI ops N E a i = some (d, T, .map (some b), ek k)) (hK : MK P K ek okk) (hT : MpTy P T K e (ev z)) (h : Mp okk ek ev w b m) {y : V} (hy : mgC (okk k) z m k = some y)
  (kk : wS P ops Q N (i + 1) ((d, ev y) :: E) a w) : wS P ops Q N i E a w := by
 obtain ⟨hk, rfl⟩ := mgE hy
 unfold lookI at ho
 split at ho
 ·rename_i d' T' x q hat
  simp only [Option.some.injEq, Prod.mk.injEq] at ho
  obtain ⟨rfl, rfl, hx, hq⟩ := ho
  obtain ⟨h1, h2, h3⟩ := atI_spec hat
  refine wS_val (w' := w) h1 h2 (h3 _ rfl) (fun o ho => ?_) kk
  simp [execOp, ho, hx, hq, h.look hK hT hk]
 ·cases ho
end
def kI (n : Int) : Value := .int .i64 n
def vB (x : Bool) : Value := .bool x
def okI (n : Int) : Bool := decide (-9223372036854775808 ≤ n) && decide (n < 9223372036854775808)
theorem okI_iff {n : Int} : okI n = true ↔ -9223372036854775808 ≤ n ∧ n < 9223372036854775808 := by simp [okI]
theorem okI_wf {n : Int} (h : okI n = true) : (Lit.int .i64 n).wf = true := by
 rw [okI_iff] at h
 simp only [Lit.wf, IntKind.min, IntKind.max, Bool.and_eq_true, decide_eq_true_eq]
 exact ⟨by simpa [IntKind.signed, IntKind.bits] using h.1, by simp [IntKind.signed, IntKind.bits]; omega⟩
theorem mkI {P : Program} {K : TypeId} (h : P.underlying K = some (.int .i64)) : MK P K kI okI :=
 ⟨Maps.int_keyed h, fun k hk => ⟨_, Maps.keyOf_int_mk h (okI_wf hk)⟩, fun a b e => by unfold kI at e; injection e⟩
end Go.Proofs.YtbfjekmefcpkmaaDoor
