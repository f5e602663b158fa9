/- A region that draws its order, in which all reads are done ahead of one operation, the gate (a store): till the gate comes up nothing old has turned. -/
import Derived.Test.YtbfjekmefcpkmaaDoorZon
set_option linter.unusedSimpArgs false
set_option linter.unusedVariables false
set_option linter.unusedSectionVars false
namespace Go.Proofs.YtbfjekmefcpkmaaDoor
open Go.RowKit

/-- Whatever comes up, and as long as g has not come up, S holds behind each operation. -/
def anyG (P : Program) (ops : Array Oper) (Q : Exit → Act → World → Prop) (g : Nat) (S : World → Prop) : Nat → Array Bool → Act → World → Prop
  | 0, listed, a, w => Region.ready .any ops listed = [] ∧ Q .normal a w
  | f + 1, listed, a, w => (Region.ready .any ops listed = [] → Q .normal a w) ∧
    ∀ i ∈ Region.ready .any ops listed, wpOp P ops Q i (fun a' w' => ((listed.setIfInBounds i true).getD g true = false → S w') ∧ anyG P ops Q g S f (listed.setIfInBounds i true) a' w') a w
section
variable {P : Program} {ops : Array Oper} {Q : Exit → Act → World → Prop} {g : Nat} {S : World → Prop}
theorem anyG_any : ∀ (f : Nat) (listed : Array Bool) (a : Act) (w : World), anyG P ops Q g S f listed a w → wpAny P .any ops Q f listed a w
  | 0, _, _, _, h => h
  | f + 1, _, _, _, h => ⟨h.1, fun i hi => wpOp_mono (fun a' w' h' => anyG_any f _ a' w' h'.2) (h.2 i hi)⟩
theorem set_true {l : Array Bool} {i j : Nat} (h : l.getD j true = true) : (l.setIfInBounds i true).getD j true = true := by
  rw [Array.getD_eq_getD_getElem?, Array.getElem?_setIfInBounds]
  split
  · split <;> rfl
  · rw [← Array.getD_eq_getD_getElem?]; exact h
theorem set_other {l : Array Bool} {i j : Nat} (h : i ≠ j) : (l.setIfInBounds i true).getD j true = l.getD j true := by
  rw [Array.getD_eq_getD_getElem?, Array.getElem?_setIfInBounds, if_neg h, ← Array.getD_eq_getD_getElem?]
/-- Behind the gate. -/
theorem anyG_of_H {S' : World → Prop} : ∀ (f : Nat) (listed : Array Bool) (a : Act) (w : World), listed.getD g true = true → wpAnyH P .any ops Q S' f listed a w → anyG P ops Q g S f listed a w
  | 0, _, _, _, _, h => h
  | f + 1, listed, a, w, hg, h => ⟨h.1, fun i hi => wpOp_mono (fun a' w' h' => ⟨fun hn => (by rw [set_true hg] at hn; cases hn), anyG_of_H f _ a' w' (set_true hg) h'.2⟩) (h.2 i hi)⟩
theorem anyG_first {i : Nat} {oi : Oper} {v : Value} (hi : ops[i]? = some oi) (hsel : ∀ (j : Nat) (o : Oper) cs b, ops[j]? = some o → o.op ≠ .select cs b)
    (hQ : ∀ c a w, Q (.panic c) (a.put oi.dst v) w → Q (.panic c) a w) (hgi : Region.waitsFor .any ops g i = true) (hne : i ≠ g) :
    ∀ (f : Nat) (listed : Array Bool) (a : Act) (w : World),
      (∀ j oj, ops[j]? = some oj → j ≠ i → listed.getD j true = false → (∀ e ∈ oj.after, Region.binds .any e = true → e.on ≠ i) → oi.apart ops oj = true) →
      i ∈ Region.ready .any ops listed → listed.getD g true = false → YieldsIf P ops S oi v a → S w →
      anyG P ops Q g S f (listed.setIfInBounds i true) (a.put oi.dst v) w → anyG P ops Q g S (f + 1) listed a w := by
  intro f
  induction f with
  | zero =>
    intro listed a w _ hr hg hy hS H
    refine ⟨fun h => (by rw [h] at hr; cases hr), fun j hj => ?_⟩
    by_cases hji : j = i
    · subst hji; exact hy.wpOp hi hS ⟨fun _ => hS, H⟩
    · have := ready_mono hj hji
      rw [H.1] at this; cases this
  | succ f ih =>
    intro listed a w hfree hr hg hy hS H
    refine ⟨fun h => (by rw [h] at hr; cases hr), fun j hj => ?_⟩
    by_cases hji : j = i
    · subst hji; exact hy.wpOp hi hS ⟨fun _ => hS, H⟩
    · have h1 := H.2 j (ready_mono hj hji)
      obtain ⟨hjun, oj, hoj, hall⟩ := mem_ready.1 hj
      have hiun := (mem_ready.1 hr).1
      have hnot : ∀ e ∈ oj.after, Region.binds .any e = true → e.on ≠ i := fun e he hb heq => by
        have h2 := hall e he hb
        rw [heq, getD_both hiun] at h2; cases h2
      have hjg : j ≠ g := fun e => by
        subst e
        obtain ⟨o', ho', e', he', hb', hon'⟩ := Region.waitsFor_spec hgi
        rw [hoj] at ho'; cases ho'
        exact hnot e' he' hb' hon'
      have h2 := wpOp_putIf hoj (hfree j oj hoj hji hjun hnot) (fun cs b => hsel i oi cs b hi) (fun cs b => hsel j oj cs b hoj) hQ hy h1
      have hg' : (listed.setIfInBounds j true).getD g true = false := by rw [set_other hjg]; exact hg
      have hfree' : ∀ k ok, ops[k]? = some ok → k ≠ i → (listed.setIfInBounds j true).getD k true = false →
          (∀ e ∈ ok.after, Region.binds .any e = true → e.on ≠ i) → oi.apart ops ok = true := fun k ok hk hki hun hno => by
        refine hfree k ok hk hki ?_ hno
        by_cases hjk : j = k
        · subst hjk; exact hjun
        · rw [set_other hjk] at hun; exact hun
      refine wpOp_mono (fun a' w' h3 => ?_) h2
      have hSw : S w' := h3.2.1 (by rw [set_other hjg, set_other hne]; exact hg)
      refine ⟨fun _ => hSw, ih (listed.setIfInBounds j true) a' w' hfree' (ready_mono hr (Ne.symm hji)) hg' h3.1 hSw ?_⟩
      rw [Array.setIfInBounds_comm _ _ hji]
      exact h3.2.2
/-- .. a quiet one: the gate need not wait for it. -/
theorem anyG_firstP {i : Nat} {oi : Oper} {v : Value} (hi : ops[i]? = some oi) (hsel : ∀ (j : Nat) (o : Oper) cs b, ops[j]? = some o → o.op ≠ .select cs b)
    (hQ : ∀ c a w, Q (.panic c) (a.put oi.dst v) w → Q (.panic c) a w) (hne : i ≠ g) :
    ∀ (f : Nat) (listed : Array Bool) (a : Act) (w : World),
      (∀ j oj, ops[j]? = some oj → j ≠ i → listed.getD j true = false → (∀ e ∈ oj.after, Region.binds .any e = true → e.on ≠ i) → oi.apart ops oj = true) →
      i ∈ Region.ready .any ops listed → YieldsIf P ops (fun _ => True) oi v a → (listed.getD g true = false → S w) →
      anyG P ops Q g S f (listed.setIfInBounds i true) (a.put oi.dst v) w → anyG P ops Q g S (f + 1) listed a w := by
  intro f
  induction f with
  | zero =>
    intro listed a w _ hr hy hS H
    refine ⟨fun h => (by rw [h] at hr; cases hr), fun j hj => ?_⟩
    by_cases hji : j = i
    · subst hji; exact hy.wpOp hi trivial ⟨fun hn => hS (by rw [set_other hne] at hn; exact hn), H⟩
    · have := ready_mono hj hji
      rw [H.1] at this; cases this
  | succ f ih =>
    intro listed a w hfree hr hy hS H
    refine ⟨fun h => (by rw [h] at hr; cases hr), fun j hj => ?_⟩
    by_cases hji : j = i
    · subst hji; exact hy.wpOp hi trivial ⟨fun hn => hS (by rw [set_other hne] at hn; exact hn), H⟩
    · have h1 := H.2 j (ready_mono hj hji)
      obtain ⟨hjun, oj, hoj, hall⟩ := mem_ready.1 hj
      have hiun := (mem_ready.1 hr).1
      have hnot : ∀ e ∈ oj.after, Region.binds .any e = true → e.on ≠ i := fun e he hb heq => by
        have h2 := hall e he hb
        rw [heq, getD_both hiun] at h2; cases h2
      have h2 := wpOp_putIf hoj (hfree j oj hoj hji hjun hnot) (fun cs b => hsel i oi cs b hi) (fun cs b => hsel j oj cs b hoj) hQ hy h1
      have hfree' : ∀ k ok, ops[k]? = some ok → k ≠ i → (listed.setIfInBounds j true).getD k true = false →
          (∀ e ∈ ok.after, Region.binds .any e = true → e.on ≠ i) → oi.apart ops ok = true := fun k ok hk hki hun hno => by
        refine hfree k ok hk hki ?_ hno
        by_cases hjk : j = k
        · subst hjk; exact hjun
        · rw [set_other hjk] at hun; exact hun
      refine wpOp_mono (fun a' w' h3 => ?_) h2
      have hSw : (listed.setIfInBounds j true).getD g true = false → S w' := fun hn => h3.2.1 (by
        by_cases hjg : j = g
        · subst hjg
          rw [Array.setIfInBounds_comm _ _ (Ne.symm hji), set_other hne]; exact hn
        · rw [set_other hjg, set_other hne]; rw [set_other hjg] at hn; exact hn)
      refine ⟨hSw, ih (listed.setIfInBounds j true) a' w' hfree' (ready_mono hr (Ne.symm hji)) h3.1 hSw ?_⟩
      rw [Array.setIfInBounds_comm _ _ hji]
      exact h3.2.2
end
/-- 'dn' have come up, the gate not. -/
def wG (P : Program) (ops : Array Oper) (Q : Exit → Act → World → Prop) (g : Nat) (ws : World) (N : Nat) (dn : List Nat) (E : Env) (a : Act) (w : World) : Prop :=
  St N E a → Chg [] ws w → anyG P ops Q g (Chg [] ws) (ops.size - dn.length) (lsd ops.size dn) (putE E a) w
def gateB (ops : Array Oper) (g : Nat) (dn : List Nat) (i : Nat) : Bool := Region.waitsFor .any ops g i && !(Nat.beq i g) && Nat.blt g ops.size && !dn.contains g
section
variable {P : Program} {ops : Array Oper} {Q : Exit → Act → World → Prop} {g N i : Nat} {E : Env} {a : Act} {w ws : World} {dn : List Nat}
theorem cW_drawnG {id : Nat} (g : Nat) (hm : P.follows .mixedOrders = true) (k : ∀ w1, Chg [] w w1 → wG P ops Q g w1 N [] E a w1) : cW P (.region id ops true) Q N E a w := fun hst => by
  have h := k w.drew (Chg.drew w) hst (Chg.refl _ _)
  exact wp_region_any hm (by simpa [lsd] using anyG_any _ _ _ _ h)
theorem lsd_g (hg : g < ops.size) (hn : dn.contains g = false) : (lsd ops.size dn).getD g true = false := by
  rw [Array.getD_eq_getD_getElem?, lsd_get, if_pos hg]; simpa using hn
theorem wG_one {o : Oper} {v : Value} (hs : Region.noSelect ops = true) (hQ : QCalm Q) (hf : freeB ops dn i = true) (hgt : gateB ops g dn i = true) (hi : ops[i]? = some o)
    (hy : St N E a → YieldsIf P ops (Chg [] ws) o v (putE E a)) (k : St N E a → Chg [] ws w → anyG P ops Q g (Chg [] ws) (ops.size - (i :: dn).length) (lsd ops.size (i :: dn)) ((putE E a).put o.dst v) w) : wG P ops Q g ws N dn E a w := by
  intro hst hS
  obtain ⟨h1, h2, h3⟩ := freeB_spec hf
  simp only [gateB, Bool.and_eq_true, Bool.not_eq_true'] at hgt
  obtain ⟨⟨⟨g1, g2⟩, g3⟩, g4⟩ := hgt
  have g3 : g < ops.size := by simpa using g3
  have hne : i ≠ g := fun e => by subst e; simp at g2
  rw [fuel_eq (i := i) h1]
  exact anyG_first hi (Region.noSelect_spec hs) (fun c a w hh => hQ c a o.dst v w hh) g1 hne _ _ _ _ (Region.free_spec hi h2) (by simpa using h3) (lsd_g g3 g4) (hy hst) hS (k hst hS)
theorem wG_val {d : Nat} {op : Op} {v : Value} (hs : Region.noSelect ops = true) (hQ : QCalm Q) (hf : freeB ops dn i = true) (hgt : gateB ops g dn i = true) (ho : atI ops N E a i = some (some d, op))
    (hr : ∀ W, Chg [] ws W → ∀ o : Oper, o.op = op → (execOp (evE E a) o).run P W = .ok (.value v) W) (k : wG P ops Q g ws N (i :: dn) ((d, v) :: E) a w) : wG P ops Q g ws N dn E a w := by
  obtain ⟨g1, g2, g3⟩ := atI_spec ho
  obtain ⟨o, hi, hdst, hop, _⟩ := opI_drop g1
  have hw : wantE ops E a o = some true := by unfold wantI at g2; rw [hi] at g2; simpa using g2
  refine wG_one hs hQ hf hgt hi (v := v) (fun hst => Or.inl ⟨wantE_spec hst hw, fun W hW => by rw [hst.eval]; exact hr W hW o hop⟩) (fun hst hS => ?_)
  rw [hdst]
  exact k (hst.cons (g3 _ rfl)) hS
theorem wG_oneP {o : Oper} {v : Value} (hs : Region.noSelect ops = true) (hQ : QCalm Q) (hf : freeB ops dn i = true) (hne : Nat.beq i g = false) (hi : ops[i]? = some o)
    (hy : St N E a → YieldsIf P ops (fun _ => True) o v (putE E a)) (k : St N E a → Chg [] ws w → anyG P ops Q g (Chg [] ws) (ops.size - (i :: dn).length) (lsd ops.size (i :: dn)) ((putE E a).put o.dst v) w) : wG P ops Q g ws N dn E a w := by
  intro hst hS
  obtain ⟨h1, h2, h3⟩ := freeB_spec hf
  have hne : i ≠ g := fun e => by subst e; simp at hne
  rw [fuel_eq (i := i) h1]
  exact anyG_firstP hi (Region.noSelect_spec hs) (fun c a w hh => hQ c a o.dst v w hh) hne _ _ _ _ (Region.free_spec hi h2) (by simpa using h3) (hy hst) (fun _ => hS) (k hst hS)
def takeG (P : Program) (ops : Array Oper) (N g : Nat) (a : Act) : List Nat → List Nat → Env → Option (List Nat × Env)
  | [], dn, E => some (dn, E)
  | i :: is, dn, E => match ops[i]? with
    | none => none
    | some o => match stepP P ops N a E o with
      | none => none
      | some E' => match freeB ops dn i && !(Nat.beq i g) with
        | true => takeG P ops N g a is (i :: dn) E'
        | false => none
theorem wG_takes (is : List Nat) {dn' : List Nat} {E' : Env} (hs : Region.noSelect ops = true) (hQ : QCalm Q) (h : takeG P ops N g a is dn E = some (dn', E')) (k : wG P ops Q g ws N dn' E' a w) : wG P ops Q g ws N dn E a w := by
  induction is generalizing dn E with
  | nil => simp only [takeG, Option.some.injEq, Prod.mk.injEq] at h; obtain ⟨rfl, rfl⟩ := h; exact k
  | cons i is ih =>
    intro hst0 hS0
    simp only [takeG] at h
    cases ho : ops[i]? with
    | none => simp only [ho] at h; cases h
    | some o =>
      simp only [ho] at h
      cases hp : stepP P ops N a E o with
      | none => simp only [hp] at h; cases h
      | some E1 =>
        simp only [hp] at h
        cases hf : (freeB ops dn i && !(Nat.beq i g)) with
        | false => simp only [hf] at h; cases h
        | true =>
          simp only [hf] at h
          rw [Bool.and_eq_true, Bool.not_eq_true'] at hf
          obtain ⟨d, v, hd, rfl, hb, hc⟩ := stepP_spec hst0 hp
          refine wG_oneP hs hQ hf.1 hf.2 ho (v := v) (fun hst => ?_) (fun hst hS => ?_) hst0 hS0
          · rcases hc with ⟨hw, hr⟩ | ⟨hw, rfl⟩
            · exact Or.inl ⟨hw, fun w _ => hr w⟩
            · exact Or.inr ⟨hw, rfl⟩
          · rw [hd]; exact ih h (hst.cons hb) hS
theorem wG_take (is : List Nat) (dn' : List Nat) (news : Env) (hs : Region.noSelect ops = true) (hQ : QCalm Q) (h : takeG P ops N g a is dn E = some (dn', news ++ E)) (k : wG P ops Q g ws N dn' (news ++ E) a w) : wG P ops Q g ws N dn E a w := wG_takes is hs hQ h k
theorem wG_load1 {d T k : Nat} {ad : Addr} {v : Value} (hs : Region.noSelect ops = true) (hQ : QCalm Q) (hf : freeB ops dn i = true) (hgt : gateB ops g dn i = true) (ho : loadI ops N E a i = some (d, T, .pointer (some ad))) (hT : VarTy P T k false)
    (hc : ∀ W, Chg [] ws W → W.cell? ad = some v) (kk : wG P ops Q g ws N (i :: dn) ((d, v) :: E) a w) : wG P ops Q g ws N dn E a w := by
  unfold loadI at ho
  split at ho
  · rename_i d' T' x hat
    simp only [Option.some.injEq, Prod.mk.injEq] at ho
    obtain ⟨rfl, rfl, hx⟩ := ho
    refine wG_val hs hQ hf hgt hat (fun W hW o ho => ?_) kk
    simp [execOp, ho, hx, Instr.loadAt, Instr.sureAddr, loadVar, run_agg hT, hc W hW]
  · cases ho
variable {α : Type} {k : Nat} {enc : α → List Value}
theorem wG_valP {d : Nat} {op : Op} {v : Value} (hs : Region.noSelect ops = true) (hQ : QCalm Q) (hf : freeB ops dn i = true) (hne : Nat.beq i g = false) (ho : atI ops N E a i = some (some d, op))
    (hr : ∀ W, ∀ o : Oper, o.op = op → (execOp (evE E a) o).run P W = .ok (.value v) W) (k : wG P ops Q g ws N (i :: dn) ((d, v) :: E) a w) : wG P ops Q g ws N dn E a w := by
  obtain ⟨g1, g2, g3⟩ := atI_spec ho
  obtain ⟨o, hi, hdst, hop, _⟩ := opI_drop g1
  have hw : wantE ops E a o = some true := by unfold wantI at g2; rw [hi] at g2; simpa using g2
  refine wG_oneP hs hQ hf hne hi (v := v) (fun hst => Or.inl ⟨wantE_spec hst hw, fun W _ => by rw [hst.eval]; exact hr W o hop⟩) (fun hst hS => ?_)
  rw [hdst]
  exact k (hst.cons (g3 _ rfl)) hS
theorem wG_prefix {d T e cap : Nat} {A : Option Addr} {l l' : List α} {hi : Int} (hns : Region.noSelect ops = true) (hQ : QCalm Q) (hf : freeB ops dn i = true) (hgt : Nat.beq i g = false) (ho : slcI ops N E a i = some (d, T, .slice A l.length cap, none, some (.int .i64 hi))) (hT : SlTy P T e k) (he : EncOk k enc)
    (hc : l.length ≤ cap) (hs : slci l 0 hi = some l') (kk : l' = l.take hi.toNat → (∀ W fp U, Ow k enc U W fp A cap l → Ow k enc U W fp A cap l') → wG P ops Q g ws N (i :: dn) ((d, .slice A l'.length cap) :: E) a w) : wG P ops Q g ws N dn E a w := by
  obtain ⟨⟨_, h1, h2⟩, rfl⟩ := slci_some hs
  unfold slcI at ho
  split at ho
  · rename_i d' T' x lo' hi' hat
    simp only [Option.some.injEq, Prod.mk.injEq] at ho
    obtain ⟨rfl, rfl, hx, hl', hh'⟩ := ho
    obtain ⟨hi, rfl⟩ := Int.eq_ofNat_of_zero_le h1
    simp only [Int.toNat_natCast, Int.toNat_zero, List.drop_zero] at kk
    have hhi : hi ≤ l.length := by omega
    have hlen : (l.take hi).length = hi := by rw [List.length_take]; omega
    have hkk := kk trivial (fun W fp U hO => hO.prefix he hi)
    rw [hlen] at hkk
    refine wG_valP hns hQ hf hgt hat (fun w o ho => ?_) hkk
    have hsz := pureRun_run hT.size w
    have hb1 := slc_bounds (P := P) w hhi hc
    have hA : (if cap = 0 then A else A.map (·.add (0 * k))) = A := by
      split
      · rfl
      · cases A with
        | none => rfl
        | some ad => simp [add_zero]
    simp only [execOp, ho]
    simp [Instr.sliceAt, run_underlying hT.und, hx, hl', hh', Instr.slice, hb1, hsz]
    simpa using hA
  · cases ho
theorem wG_prefixR {d T e cap : Nat} {A : Option Addr} {ll l' : List (List α)} {hi : Int} (hns : Region.noSelect ops = true) (hQ : QCalm Q) (hf : freeB ops dn i = true) (hgt : Nat.beq i g = false) (ho : slcI ops N E a i = some (d, T, .slice A ll.length cap, none, some (.int .i64 hi))) (hT : SlTy P T e 1)
    (hc : ll.length ≤ cap) (hs : slci ll 0 hi = some l') (kk : l' = ll.take hi.toNat → (∀ W fpm fpr U T2, OwR k enc U T2 W fpm fpr A cap ll → OwR k enc U T2 W fpm fpr A cap l') → wG P ops Q g ws N (i :: dn) ((d, .slice A l'.length cap) :: E) a w) : wG P ops Q g ws N dn E a w := by
  obtain ⟨⟨q1, q2, q3⟩, rfl⟩ := slci_some hs
  have hl : (ll.map fun _ => (0 : Int)).length = ll.length := List.length_map ..
  rw [← hl] at ho
  have hs' : slci (ll.map fun _ => (0 : Int)) 0 hi = some (((ll.map fun _ => (0 : Int)).take hi.toNat).drop 0) := by unfold slci; rw [if_pos ⟨q1, q2, by rw [hl]; exact q3⟩]; rfl
  refine wG_prefix (enc := encI) (k := 1) hns hQ hf hgt ho hT encI_ok (by rw [hl]; exact hc) hs' (fun _ _ => ?_)
  have := kk (by simp) (fun W fpm fpr U T2 h => by simpa using h.prefix hi.toNat)
  simpa using this
/-- The gate alone may come up. -/
theorem wG_gate (hlt : Nat.blt dn.length ops.size = true) (hr : Region.ready .any ops (lsd ops.size dn) = [g]) (hgs : Nat.blt g ops.size = true) (hwant : wantI ops E a g = some true) (Sg : World → List Nat)
    (k : wS P (one ops g) (Exit.then (fun a' w' => wpAnyH P .any ops Q (Chg (Sg w') w') (ops.size - (g :: dn).length) (lsd ops.size (g :: dn)) a' w') Q) N 0 E a w) : wG P ops Q g ws N dn E a w := by
  intro hst hS
  have hlt' : dn.length < ops.size := by simpa using hlt
  rw [fuel_eq (i := g) hlt']
  refine ⟨fun h0 => (by rw [hr] at h0; cases h0), fun i hi => ?_⟩
  rw [hr] at hi
  simp only [List.mem_singleton] at hi
  subst hi
  have h2 := k hst
  have hgl : ((lsd ops.size dn).setIfInBounds i true).getD i true = true := by
    rw [Array.getD_eq_getD_getElem?, Array.getElem?_setIfInBounds]
    simp only [if_true]; split <;> rfl
  unfold wantI at hwant
  unfold one at h2
  unfold wpOp
  cases ho : ops[i]? with
  | none => rw [ho] at hwant; cases hwant
  | some o =>
    simp only [ho, Option.bind_some] at hwant h2 ⊢
    rw [if_pos (wantE_spec hst hwant)]
    simp only [List.drop_zero, wpList] at h2
    rw [if_pos (by rfl)] at h2
    have fin : ∀ a' w', wpAnyH P .any ops Q (Chg (Sg w') w') (ops.size - (i :: dn).length) (lsd ops.size (i :: dn)) a' w' →
        (((lsd ops.size dn).setIfInBounds i true).getD i true = false → Chg [] ws w') ∧ anyG P ops Q i (Chg [] ws) (ops.size - (i :: dn).length) ((lsd ops.size dn).setIfInBounds i true) a' w' := fun a' w' hh =>
      ⟨fun hn => (by rw [hgl] at hn; cases hn), anyG_of_H _ _ _ _ hgl hh⟩
    rcases h2 with h2 | ⟨h2, a0, w0, h3⟩
    · left
      have : Oper.wp P o (putE E a) w (wpList P #[{ o with guard := none }] (Exit.then (fun a' w' => wpAnyH P .any ops Q (Chg (Sg w') w') (ops.size - (i :: dn).length) (lsd ops.size (i :: dn)) a' w') Q) []) (Exit.then (fun a' w' => wpAnyH P .any ops Q (Chg (Sg w') w') (ops.size - (i :: dn).length) (lsd ops.size (i :: dn)) a' w') Q) := h2
      exact Oper.wp_then (fun a' w' hh => by simp only [wpList] at hh; exact fin a' w' hh) this
    · right; exact ⟨h2, a0, w0, h3⟩
theorem eX_KG {Sg : World → List Nat} (k : wH P ops Q (Sg w) w N dn E a w) : eX .normal (Exit.then (fun a' w' => wpAnyH P .any ops Q (Chg (Sg w') w') (ops.size - dn.length) (lsd ops.size dn) a' w') Q) N E a w := fun hst => k hst (Chg.refl _ _)
end
end Go.Proofs.YtbfjekmefcpkmaaDoor
