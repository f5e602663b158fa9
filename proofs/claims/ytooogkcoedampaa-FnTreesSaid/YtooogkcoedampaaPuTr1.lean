/- Three halves: to any tree of six places there are two spanning trees that are together no longer than three times the tree. -/
import Derived.Test.YtooogkcoedampaaPuSh
import Derived.Test.YtooogkcoedampaaPuP0
set_option linter.unusedSimpArgs false
set_option linter.unusedVariables false
set_option linter.unusedSectionVars false
namespace Go.Proofs.Ytooogkcoedampaa
open Go.RowKit

def ckY : Bool := ((prm 6 [0, 1, 2, 3, 4, 5]).all fun p => (pfx 0 p).all fun S => decide (S < 64)) && (skTab.all fun x => x.2.all fun k => decide (k < 6)) && ([true, false].all fun b => (msC b).all fun m => (m.2.1 ++ m.2.2).all fun e => decide (e.1 < 6) && decide (e.2 < 6))
theorem ckY_ok : ckY = true := by decide +kernel
theorem Sh.F_congr {χ ψ : Nat → Bool} : ∀ (t : Sh) (s : Bool), (∀ k ∈ t.leaves, χ k = ψ k) → t.F χ s = t.F ψ s
  | .lf k, s, h => by simp only [Sh.F]; rw [h k (by simp [Sh.leaves])]
  | .nd a b, s, h => by
    simp only [Sh.F]
    have ha : ∀ s, a.F χ s = a.F ψ s := fun s => a.F_congr s fun k hk => h k (by simp [Sh.leaves, hk])
    have hb : ∀ s, b.F χ s = b.F ψ s := fun s => b.F_congr s fun k hk => h k (by simp [Sh.leaves, hk])
    rw [ha, ha, hb, hb]
theorem Sh.P_congr {χ ψ : Nat → Bool} {t : Sh} (h : ∀ k ∈ t.leaves, χ k = ψ k) : t.P χ = t.P ψ := by
  unfold Sh.P; rw [t.F_congr _ h, t.F_congr _ h]
theorem Sh.F_lip (χ : Nat → Bool) (t : Sh) (s s' : Bool) : t.F χ s ≤ t.F χ s' + if s = s' then 0 else 1 := by
  by_cases c : s = s'
  · subst c; simp
  · have e : s' = !s := by revert c; cases s <;> cases s' <;> simp
    subst e
    rw [if_neg c]
    cases t with
    | lf k => simp only [Sh.F]; split <;> omega
    | nd a b => simp only [Sh.F, Bool.not_not]; omega
theorem Sh.P_le (χ : Nat → Bool) (t : Sh) (s : Bool) : t.P χ ≤ t.F χ s := by unfold Sh.P; cases s <;> omega
theorem Sh.leaves_pos : ∀ t : Sh, 1 ≤ t.leaves.length
  | .lf k => by simp [Sh.leaves]
  | .nd a b => by have := a.leaves_pos; simp only [Sh.leaves, List.length_append]; omega
/-- The leaf at the left, twice. -/
def Sh.dup : Sh → Sh
  | .lf k => .nd (.lf k) (.lf k)
  | .nd a b => .nd a.dup b
theorem Sh.dup_F (χ : Nat → Bool) : ∀ (t : Sh) (s : Bool), t.dup.F χ s = t.F χ s
  | .lf k, s => by
    simp only [Sh.dup, Sh.F]
    cases s <;> cases χ k <;> simp
  | .nd a b, s => by simp only [Sh.dup, Sh.F]; rw [a.dup_F χ, a.dup_F χ]
theorem Sh.dup_leaves : ∀ t : Sh, t.dup.leaves.length = t.leaves.length + 1 ∧ ∀ k, k ∈ t.dup.leaves ↔ k ∈ t.leaves
  | .lf k => by simp [Sh.dup, Sh.leaves]
  | .nd a b => by
    obtain ⟨h1, h2⟩ := a.dup_leaves
    refine ⟨by simp only [Sh.dup, Sh.leaves, List.length_append, h1]; omega, fun k => ?_⟩
    simp only [Sh.dup, Sh.leaves, List.mem_append, h2]
theorem Sh.six (t : Sh) (h : t.leaves.length ≤ 6) : ∃ u : Sh, u.leaves.length = 6 ∧ (∀ k, k ∈ u.leaves ↔ k ∈ t.leaves) ∧ ∀ χ s, u.F χ s = t.F χ s := by
  obtain ⟨d, hd⟩ : ∃ d, t.leaves.length + d = 6 := ⟨6 - t.leaves.length, by omega⟩
  induction d generalizing t with
  | zero => exact ⟨t, by omega, fun _ => Iff.rfl, fun _ _ => rfl⟩
  | succ d ih =>
    obtain ⟨h1, h2⟩ := t.dup_leaves
    obtain ⟨u, u1, u2, u3⟩ := ih t.dup (by omega) (by omega)
    exact ⟨u, u1, fun k => (u2 k).trans (h2 k), fun χ s => (u3 χ s).trans (t.dup_F χ s)⟩
/-- Every tree is one of the list, but for the names of its leaves. -/
theorem Sh.skel : ∀ (t : Sh) (f off : Nat), t.leaves.length ≤ f → ∃ k ∈ skl f off t.leaves.length, ∀ (χ ψ : Nat → Bool), (∀ j, j < t.leaves.length → ψ (off + j) = χ (t.leaves.getD j 0)) → ∀ s, t.F χ s = k.F ψ s
  | .lf a, f, off, hf => by
    cases f with
    | zero => simp [Sh.leaves] at hf
    | succ f =>
      refine ⟨.lf off, by simp [skl, Sh.leaves], fun χ ψ h s => ?_⟩
      have := h 0 (by simp [Sh.leaves])
      simp only [Sh.leaves, Nat.add_zero] at this
      simp only [Sh.F, this]
      rfl
  | .nd a b, f, off, hf => by
    have pa := a.leaves_pos
    have pb := b.leaves_pos
    have hl : (Sh.nd a b).leaves.length = a.leaves.length + b.leaves.length := by simp [Sh.leaves]
    cases f with
    | zero => omega
    | succ f =>
      obtain ⟨x, x1, x2⟩ := a.skel f off (by omega)
      obtain ⟨y, y1, y2⟩ := b.skel f (off + a.leaves.length) (by omega)
      refine ⟨.nd x y, ?_, fun χ ψ h s => ?_⟩
      · rw [hl]
        unfold skl
        rw [if_neg (by omega)]
        refine List.mem_flatMap.2 ⟨a.leaves.length - 1, List.mem_range.2 (by omega), List.mem_flatMap.2 ⟨x, by rw [show a.leaves.length - 1 + 1 = a.leaves.length by omega]; exact x1, List.mem_map.2 ⟨y, ?_, rfl⟩⟩⟩
        rw [show off + (a.leaves.length - 1) + 1 = off + a.leaves.length by omega, show a.leaves.length + b.leaves.length - 1 - (a.leaves.length - 1) = b.leaves.length by omega]
        exact y1
      · have ea : ∀ s, a.F χ s = x.F ψ s := x2 χ ψ (fun j hj => by
          rw [h j (by omega)]
          simp [Sh.leaves, List.getD, List.getElem?_append_left hj])
        have eb : ∀ s, b.F χ s = y.F ψ s := y2 χ ψ (fun j hj => by
          rw [Nat.add_assoc, h (a.leaves.length + j) (by omega)]
          simp [Sh.leaves, List.getD, List.getElem?_append_right])
        simp only [Sh.F, ea, eb]
theorem crs_congr {χ ψ : Nat → Bool} : ∀ l : List (Nat × Nat), (∀ e ∈ l, χ e.1 = ψ e.1 ∧ χ e.2 = ψ e.2) → crs χ l = crs ψ l
  | [], _ => rfl
  | e :: l, h => by
    obtain ⟨h1, h2⟩ := h e (by simp)
    simp only [crs]
    rw [h1, h2, crs_congr l fun x hx => h x (by simp [hx])]
theorem crs_map (χ : Nat → Bool) (f : Nat → Nat) : ∀ l : List (Nat × Nat), crs χ (l.map fun e => (f e.1, f e.2)) = crs (fun k => χ (f k)) l
  | [] => rfl
  | e :: l => by simp only [List.map_cons, crs]; rw [crs_map χ f l]
theorem bits6 : ∀ a b c d e f : Bool, ∃ S, S < 64 ∧ S.testBit 0 = a ∧ S.testBit 1 = b ∧ S.testBit 2 = c ∧ S.testBit 3 = d ∧ S.testBit 4 = e ∧ S.testBit 5 = f := by
  have : (∀ a b c d e f : Bool, (List.range 64).any (fun S => S.testBit 0 == a && S.testBit 1 == b && S.testBit 2 == c && S.testBit 3 == d && S.testBit 4 == e && S.testBit 5 == f) = true) := by decide +kernel
  intro a b c d e f
  obtain ⟨S, hS, h⟩ := List.any_eq_true.1 (this a b c d e f)
  simp only [Bool.and_eq_true, beq_iff_eq] at h
  exact ⟨S, List.mem_range.1 hS, h.1.1.1.1.1, h.1.1.1.1.2, h.1.1.1.2, h.1.1.2, h.1.2, h.2⟩
theorem bits_of (χ : Nat → Bool) : ∃ S, S < 64 ∧ ∀ k, k < 6 → S.testBit k = χ k := by
  obtain ⟨S, h, h0, h1, h2, h3, h4, h5⟩ := bits6 (χ 0) (χ 1) (χ 2) (χ 3) (χ 4) (χ 5)
  refine ⟨S, h, fun k hk => ?_⟩
  match k, hk with
  | 0, _ => exact h0
  | 1, _ => exact h1
  | 2, _ => exact h2
  | 3, _ => exact h3
  | 4, _ => exact h4
  | 5, _ => exact h5
/-- The cuts of a tree of six leaves are those of one of two. -/
theorem canon {t : Sh} (h6 : t.leaves.length = 6) : ∃ b : Bool, ∃ ρ : List Nat, ρ.length = 6 ∧ (∀ k, k < 6 → k ∈ ρ) ∧ (∀ k ∈ ρ, k < 6) ∧ ∀ χ : Nat → Bool, t.P χ = (shC b).P (fun j => χ (t.leaves.getD (ρ.getD j 0) 0)) := by
  obtain ⟨k, hk, he⟩ := t.skel 6 0 (by omega)
  rw [h6] at hk he
  have hS := ckS_ok
  unfold ckS at hS
  simp only [Bool.and_eq_true, beq_iff_eq] at hS
  generalize skl 6 0 6 = SK at hk hS
  obtain ⟨i, hi, hik⟩ := List.mem_iff_getElem.1 hk
  have hi2 : i < skTab.length := by rw [← hS.1]; exact hi
  have hz : (k, skTab[i]) ∈ SK.zip skTab := List.mem_iff_getElem.2 ⟨i, by rw [List.length_zip]; omega, by rw [List.getElem_zip, hik]⟩
  have h2 := List.all_eq_true.1 hS.2 _ hz
  simp only [Bool.and_eq_true, beq_iff_eq] at h2
  obtain ⟨⟨h3, h4⟩, h5⟩ := h2
  have hY := ckY_ok
  unfold ckY at hY
  simp only [Bool.and_eq_true] at hY
  have hr := List.all_eq_true.1 hY.1.2 _ (List.getElem_mem hi2)
  refine ⟨skTab[i].1, skTab[i].2, h4, fun k hk => by have := List.all_eq_true.1 h3 k (List.mem_range.2 hk); simpa using this, fun k hk => of_decide_eq_true (List.all_eq_true.1 hr k hk), fun χ => ?_⟩
  obtain ⟨S, hS1, hS2⟩ := bits_of (fun j => χ (t.leaves.getD j 0))
  have e1 : t.P χ = k.P (bitC S) := by
    have := he χ (bitC S) (fun j hj => by rw [Nat.zero_add]; exact hS2 j hj)
    unfold Sh.P
    rw [this, this]
  have e2 := List.all_eq_true.1 h5 S (List.mem_range.2 hS1)
  simp only [beq_iff_eq] at e2
  rw [e1, e2]
  refine Sh.P_congr fun j hj => ?_
  have hj6 : j < 6 := by
    revert hj
    cases skTab[i].1 <;> simp [shC, Sh.leaves] <;> omega
  refine hS2 _ ?_
  have hm : skTab[i].2.getD j 0 ∈ skTab[i].2 := by
    rw [List.getD, List.getElem?_eq_getElem (by omega)]
    exact List.getElem_mem _
  exact of_decide_eq_true (List.all_eq_true.1 hr _ hm)
theorem prm_mem : ∀ (k : Nat) (l av : List Nat), l.length = k → l.Perm av → l ∈ prm k av
  | 0, l, av, h, _ => by
    have : l = [] := List.length_eq_zero_iff.1 h
    subst this; simp [prm]
  | k + 1, l, av, h, hp => by
    cases l with
    | nil => simp at h
    | cons a l =>
      have ha : a ∈ av := hp.mem_iff.1 (List.mem_cons_self ..)
      refine List.mem_flatMap.2 ⟨a, ha, List.mem_map.2 ⟨l, prm_mem k l _ (by simpa using h) ?_, rfl⟩⟩
      exact (List.cons_perm_iff_perm_erase.1 hp).2
theorem mem_tw {p : Nat → Bool} : ∀ {l : List Nat}, l.Pairwise (fun a b => p b = true → p a = true) → ∀ k, k ∈ l.takeWhile p ↔ k ∈ l ∧ p k = true
  | [], _, k => by simp
  | a :: l, h, k => by
    obtain ⟨h1, h2⟩ := List.pairwise_cons.1 h
    by_cases c : p a = true
    · rw [List.takeWhile_cons, if_pos c, List.mem_cons, List.mem_cons, mem_tw h2 k]
      constructor
      · rintro (rfl | ⟨g1, g2⟩)
        · exact ⟨Or.inl rfl, c⟩
        · exact ⟨Or.inr g1, g2⟩
      · rintro ⟨rfl | g1, g2⟩
        · exact Or.inl rfl
        · exact Or.inr ⟨g1, g2⟩
    · rw [List.takeWhile_cons, if_neg c]
      constructor
      · simp
      · rintro ⟨g1, g2⟩
        rcases List.mem_cons.1 g1 with rfl | g1
        · exact absurd g2 c
        · exact absurd (h1 k g1 g2) c
/-- The places in order: what lies up to any bound is one of the order's beginnings. -/
theorem in_order (x : Nat → Int) : ∃ p ∈ prm 6 [0, 1, 2, 3, 4, 5], ∀ c : Int, ∃ S ∈ pfx 0 p, S < 64 ∧ ∀ k, k < 6 → S.testBit k = decide (x k ≤ c) := by
  obtain ⟨p, hpdef⟩ : ∃ p, p = [0, 1, 2, 3, 4, 5].mergeSort (fun a b => decide (x a ≤ x b)) := ⟨_, rfl⟩
  have hperm : p.Perm [0, 1, 2, 3, 4, 5] := by rw [hpdef]; exact List.mergeSort_perm _ _
  have hsort : p.Pairwise (fun a b => x a ≤ x b) := by
    have := List.pairwise_mergeSort (le := fun a b => decide (x a ≤ x b)) (fun a b c h1 h2 => by simp only [decide_eq_true_eq] at *; omega) (fun a b => by simp only [Bool.or_eq_true, decide_eq_true_eq]; omega) [0, 1, 2, 3, 4, 5]
    rw [← hpdef] at this
    exact this.imp fun h => by simpa using h
  have hlen : p.length = 6 := by rw [hperm.length_eq]; rfl
  have hmem := prm_mem 6 p _ hlen hperm
  refine ⟨p, hmem, fun c => ?_⟩
  have hX := ckX_ok
  unfold ckX at hX
  have h1 := List.all_eq_true.1 hX p hmem
  have htw := mem_tw (p := fun k => decide (x k ≤ c)) (l := p) (hsort.imp fun h h2 => by simp only [decide_eq_true_eq] at *; omega)
  have hpre : p.takeWhile (fun k => decide (x k ≤ c)) = p.take (p.takeWhile (fun k => decide (x k ≤ c))).length := List.prefix_iff_eq_take.1 (List.takeWhile_prefix _)
  have hle : (p.takeWhile (fun k => decide (x k ≤ c))).length ≤ 6 := by
    have := (List.takeWhile_prefix (l := p) (fun k => decide (x k ≤ c))).length_le
    omega
  generalize (p.takeWhile (fun k => decide (x k ≤ c))).length = j at *
  have h2 := List.all_eq_true.1 h1 j (List.mem_range.2 (by omega))
  simp only [Bool.and_eq_true] at h2
  have hS : ((p.take j).map fun a => 2 ^ a).sum ∈ pfx 0 p := by simpa using h2.1
  have hY := ckY_ok
  unfold ckY at hY
  simp only [Bool.and_eq_true] at hY
  have hlt := List.all_eq_true.1 (List.all_eq_true.1 hY.1.1 p hmem) _ hS
  refine ⟨_, hS, of_decide_eq_true hlt, fun k hk => ?_⟩
  have h3 := List.all_eq_true.1 h2.2 k (List.mem_range.2 hk)
  simp only [beq_iff_eq] at h3
  rw [h3]
  have hkp : k ∈ p := hperm.mem_iff.2 (by
    match k, hk with
    | 0, _ => simp
    | 1, _ => simp
    | 2, _ => simp
    | 3, _ => simp
    | 4, _ => simp
    | 5, _ => simp)
  rw [Bool.eq_iff_iff]
  simp only [List.contains_iff_mem, decide_eq_true_eq]
  rw [← hpre, htw k]
  simp [hkp]
/-- Two spanning trees for an order from left to right and one from low to high. -/
theorem two_trees (b : Bool) (x y : Nat → Int) : ∃ t1 t2 : List (Nat × Nat), spn [0] t1 = true ∧ spn [0] t2 = true ∧ (∀ e ∈ t1 ++ t2, e.1 < 6 ∧ e.2 < 6) ∧
    (∀ c : Int, crs (fun k => decide (x k ≤ c)) t1 + crs (fun k => decide (x k ≤ c)) t2 ≤ 3 * (shC b).P (fun k => decide (x k ≤ c))) ∧
    ∀ c : Int, crs (fun k => decide (y k ≤ c)) t1 + crs (fun k => decide (y k ≤ c)) t2 ≤ 3 * (shC b).P (fun k => decide (y k ≤ c)) := by
  obtain ⟨p, hp, hx⟩ := in_order x
  obtain ⟨q, hq, hy⟩ := in_order y
  have hO : ckO b = true := by cases b; exact ckO_f; exact ckO_t
  have hI : ckI b = true := by cases b; exact ckI_f; exact ckI_t
  have hM : ckM b = true := by cases b; exact ckM_f; exact ckM_t
  unfold ckO at hO
  obtain ⟨c, hc, hcp⟩ := List.any_eq_true.1 (List.all_eq_true.1 hO p hp)
  obtain ⟨d, hd, hdq⟩ := List.any_eq_true.1 (List.all_eq_true.1 hO q hq)
  unfold ckI at hI
  obtain ⟨i, hic, hid⟩ := List.any_eq_true.1 (List.all_eq_true.1 (List.all_eq_true.1 hI c hc) d hd)
  simp only [Bool.and_eq_true, List.contains_iff_mem, decide_eq_true_eq] at hid
  have f1 := List.all_eq_true.1 hcp i hic
  have f2 := List.all_eq_true.1 hdq i hid.1
  have hm : mxAt b i ∈ msC b := by
    unfold mxAt
    rw [List.getD, List.getElem?_eq_getElem hid.2]
    exact List.getElem_mem _
  generalize mxAt b i = m at *
  have hmM := List.all_eq_true.1 hM m hm
  simp only [Bool.and_eq_true] at hmM
  obtain ⟨⟨s1, s2⟩, s3⟩ := hmM
  have hY := ckY_ok
  unfold ckY at hY
  simp only [Bool.and_eq_true] at hY
  have hE := List.all_eq_true.1 (List.all_eq_true.1 hY.2 b (by cases b <;> simp)) m hm
  have hE' : ∀ e ∈ m.2.1 ++ m.2.2, e.1 < 6 ∧ e.2 < 6 := fun e he => by
    have := List.all_eq_true.1 hE e he
    simpa using this
  have key : ∀ (z : Nat → Int) (r : List Nat), fit m r = true → (∀ c : Int, ∃ S ∈ pfx 0 r, S < 64 ∧ ∀ k, k < 6 → S.testBit k = decide (z k ≤ c)) →
      ∀ c : Int, crs (fun k => decide (z k ≤ c)) m.2.1 + crs (fun k => decide (z k ≤ c)) m.2.2 ≤ 3 * (shC b).P (fun k => decide (z k ≤ c)) := by
    intro z r hf hz c
    obtain ⟨S, g1, g2, g3⟩ := hz c
    unfold fit at hf
    have hb := List.all_eq_true.1 hf S g1
    have h4 := List.all_eq_true.1 s3 S (List.mem_range.2 g2)
    rw [hb] at h4
    simp only [Bool.not_true, Bool.false_or, decide_eq_true_eq] at h4
    have e1 : crs (bitC S) m.2.1 = crs (fun k => decide (z k ≤ c)) m.2.1 := crs_congr _ fun e he => by
      obtain ⟨k1, k2⟩ := hE' e (List.mem_append.2 (Or.inl he))
      exact ⟨g3 _ k1, g3 _ k2⟩
    have e2 : crs (bitC S) m.2.2 = crs (fun k => decide (z k ≤ c)) m.2.2 := crs_congr _ fun e he => by
      obtain ⟨k1, k2⟩ := hE' e (List.mem_append.2 (Or.inr he))
      exact ⟨g3 _ k1, g3 _ k2⟩
    have e3 : (shC b).P (bitC S) = (shC b).P (fun k => decide (z k ≤ c)) := Sh.P_congr fun k hk => g3 k (by
      revert hk
      cases b <;> simp [shC, Sh.leaves] <;> omega)
    rw [e1, e2, e3] at h4
    exact h4
  exact ⟨m.2.1, m.2.2, s1, s2, hE', key x p f1 hx, key y q f2 hy⟩
/-- What is reached from a set by edges. -/
inductive Con (E : List (Nat × Nat)) (R : Nat → Prop) : Nat → Prop where
  | base (v : Nat) : R v → Con E R v
  | fwd (u v : Nat) : Con E R u → (u, v) ∈ E → Con E R v
  | bwd (u v : Nat) : Con E R u → (v, u) ∈ E → Con E R v
theorem spn_con {E : List (Nat × Nat)} {R : Nat → Prop} (f : Nat → Nat) : ∀ (t : List (Nat × Nat)) (V : List Nat), spn V t = true → (∀ v ∈ V, Con E R (f v)) → (∀ e ∈ t, (f e.1, f e.2) ∈ E) → ∀ k, k < 6 → Con E R (f k)
  | [], V, h, hV, _, k, hk => by
    unfold spn at h
    have := List.all_eq_true.1 h k (List.mem_range.2 hk)
    exact hV k (by simpa using this)
  | e :: t, V, h, hV, hE, k, hk => by
    unfold spn at h
    simp only [Bool.and_eq_true, List.contains_iff_mem] at h
    refine spn_con f t (e.2 :: V) h.2 (fun v hv => ?_) (fun x hx => hE x (List.mem_cons_of_mem _ hx)) k hk
    rcases List.mem_cons.1 hv with rfl | hv
    · exact Con.fwd _ _ (hV _ h.1) (hE e (List.mem_cons_self ..))
    · exact hV v hv
def sumT (f : Nat → Nat) : Nat → Nat
  | 0 => 0
  | n + 1 => sumT f n + f n
theorem sumT_le {f g : Nat → Nat} (h : ∀ c, f c ≤ g c) : ∀ n, sumT f n ≤ sumT g n
  | 0 => Nat.le_refl _
  | n + 1 => by have := sumT_le h n; have := h n; simp only [sumT]; omega
theorem sumT_add (f g : Nat → Nat) : ∀ n, sumT (fun c => f c + g c) n = sumT f n + sumT g n
  | 0 => rfl
  | n + 1 => by simp only [sumT]; rw [sumT_add f g n]; omega
theorem sumT_mul (a : Nat) (f : Nat → Nat) : ∀ n, sumT (fun c => a * f c) n = a * sumT f n
  | 0 => rfl
  | n + 1 => by simp only [sumT]; rw [sumT_mul a f n, Nat.mul_add]
def bnd (a : Int) (c : Nat) : Bool := decide (a ≤ (c : Int))
theorem abs_sum (a b : Int) (ha : 0 ≤ a) (hb : 0 ≤ b) : ∀ n : Nat, ((sumT (fun c => if bnd a c = bnd b c then 0 else 1) n : Nat) : Int) = max (min a n - min b n) (min b n - min a n)
  | 0 => by simp only [sumT]; omega
  | n + 1 => by
    have ih := abs_sum a b ha hb n
    simp only [sumT, bnd, decide_eq_decide]
    simp only [bnd, decide_eq_decide] at ih
    by_cases c1 : a ≤ (n : Int) <;> by_cases c2 : b ≤ (n : Int)
    · rw [if_pos (by simp [c1, c2])]; omega
    · rw [if_neg (by simp [c1, c2])]; omega
    · rw [if_neg (by simp [c1, c2])]; omega
    · rw [if_pos (by simp [c1, c2])]; omega
theorem dist_sum {p q : Pt} (hp : okP p = true) (hq : okP q = true) : dist p q = (sumT (fun c => if bnd p.1 c = bnd q.1 c then 0 else 1) 99 : Nat) + (sumT (fun c => if bnd p.2 c = bnd q.2 c then 0 else 1) 99 : Nat) := by
  have h1 := okP_t hp
  have h2 := okP_t hq
  rw [abs_sum _ _ (by omega) (by omega), abs_sum _ _ (by omega) (by omega)]
  unfold dist
  omega
def elen (g : Nat → Pt) : List (Nat × Nat) → Int
  | [] => 0
  | e :: l => dist (g e.1) (g e.2) + elen g l
theorem elen_cut {g : Nat → Pt} : ∀ E : List (Nat × Nat), (∀ e ∈ E, okP (g e.1) = true ∧ okP (g e.2) = true) → elen g E = (sumT (fun c => crs (fun k => bnd (g k).1 c) E) 99 : Nat) + (sumT (fun c => crs (fun k => bnd (g k).2 c) E) 99 : Nat)
  | [], _ => by
    have : ∀ n, sumT (fun _ => 0) n = 0 := fun n => by induction n with
      | zero => rfl
      | succ n ih => simp only [sumT, ih]
    simp only [elen, crs, this]; rfl
  | e :: E, h => by
    obtain ⟨h1, h2⟩ := h e (List.mem_cons_self ..)
    simp only [elen, crs]
    rw [dist_sum h1 h2, elen_cut E (fun x hx => h x (List.mem_cons_of_mem _ hx)), sumT_add, sumT_add]
    omega
/-- The 3/2: to a tree of six leaves, two lists of edges over its leaves, each of them joining all, together no longer than three times the tree's cuts. -/
theorem three_two (g : Nat → Pt) (t : Sh) (h6 : t.leaves.length ≤ 6) (hg : ∀ k ∈ t.leaves, okP (g k) = true) : ∃ (r1 : Nat) (E1 E2 : List (Nat × Nat)), (∀ k ∈ t.leaves, Con E1 (fun v => v = r1) k ∧ Con E2 (fun v => v = r1) k) ∧ (∀ e ∈ E1 ++ E2, e.1 ∈ t.leaves ∧ e.2 ∈ t.leaves) ∧
    elen g E1 + elen g E2 ≤ 3 * ((sumT (fun c => t.P (fun k => bnd (g k).1 c)) 99 : Nat) + (sumT (fun c => t.P (fun k => bnd (g k).2 c)) 99 : Nat) : Int) := by
  obtain ⟨u, u1, u2, u3⟩ := t.six h6
  obtain ⟨b, ρ, r1, r2, r3, r4⟩ := canon u1
  obtain ⟨f, hf⟩ : ∃ f : Nat → Nat, f = fun j => u.leaves.getD (ρ.getD j 0) 0 := ⟨_, rfl⟩
  have hfm : ∀ j, j < 6 → f j ∈ t.leaves := fun j hj => by
    rw [← u2, hf]
    have hm : ρ.getD j 0 ∈ ρ := by rw [List.getD, List.getElem?_eq_getElem (by omega)]; exact List.getElem_mem _
    have := r3 _ hm
    show u.leaves.getD (ρ.getD j 0) 0 ∈ _
    rw [List.getD, List.getElem?_eq_getElem (by omega)]
    exact List.getElem_mem _
  have hsur : ∀ k ∈ t.leaves, ∃ j, j < 6 ∧ f j = k := fun k hk => by
    obtain ⟨i, hi, e⟩ := List.mem_iff_getElem.1 ((u2 k).2 hk)
    obtain ⟨j, hj, e2⟩ := List.mem_iff_getElem.1 (r2 i (by omega))
    refine ⟨j, by omega, ?_⟩
    rw [hf]
    show u.leaves.getD (ρ.getD j 0) 0 = k
    rw [show ρ.getD j 0 = i by rw [List.getD, List.getElem?_eq_getElem hj]; exact e2, List.getD, List.getElem?_eq_getElem hi]
    exact e
  obtain ⟨t1, t2, s1, s2, s3, s4, s5⟩ := two_trees b (fun j => (g (f j)).1) (fun j => (g (f j)).2)
  have hmapE : ∀ (s : List (Nat × Nat)), (∀ e ∈ s, e.1 < 6 ∧ e.2 < 6) → ∀ e ∈ s.map (fun e => (f e.1, f e.2)), e.1 ∈ t.leaves ∧ e.2 ∈ t.leaves := fun s hs e he => by
    obtain ⟨x, hx, rfl⟩ := List.mem_map.1 he
    exact ⟨hfm _ (hs x hx).1, hfm _ (hs x hx).2⟩
  have hs1 : ∀ e ∈ t1, e.1 < 6 ∧ e.2 < 6 := fun e he => s3 e (List.mem_append.2 (Or.inl he))
  have hs2 : ∀ e ∈ t2, e.1 < 6 ∧ e.2 < 6 := fun e he => s3 e (List.mem_append.2 (Or.inr he))
  refine ⟨f 0, t1.map (fun e => (f e.1, f e.2)), t2.map (fun e => (f e.1, f e.2)), fun k hk => ?_, fun e he => ?_, ?_⟩
  · obtain ⟨j, hj, rfl⟩ := hsur k hk
    exact ⟨spn_con f t1 [0] s1 (fun v hv => by simp only [List.mem_singleton] at hv; subst hv; exact Con.base _ rfl) (fun e he => List.mem_map.2 ⟨e, he, rfl⟩) j hj,
      spn_con f t2 [0] s2 (fun v hv => by simp only [List.mem_singleton] at hv; subst hv; exact Con.base _ rfl) (fun e he => List.mem_map.2 ⟨e, he, rfl⟩) j hj⟩
  · rcases List.mem_append.1 he with he | he
    · exact hmapE t1 hs1 e he
    · exact hmapE t2 hs2 e he
  · have hP : ∀ χ : Nat → Bool, t.P χ = (shC b).P (fun j => χ (f j)) := fun χ => by
      have : t.P χ = u.P χ := by unfold Sh.P; rw [u3, u3]
      rw [this, r4 χ, hf]
    rw [elen_cut _ (fun e he => ⟨hg _ (hmapE t1 hs1 e he).1, hg _ (hmapE t1 hs1 e he).2⟩), elen_cut _ (fun e he => ⟨hg _ (hmapE t2 hs2 e he).1, hg _ (hmapE t2 hs2 e he).2⟩)]
    have a1 := sumT_le (f := fun c => crs (fun k => bnd (g k).1 c) (t1.map fun e => (f e.1, f e.2)) + crs (fun k => bnd (g k).1 c) (t2.map fun e => (f e.1, f e.2))) (g := fun c => 3 * t.P (fun k => bnd (g k).1 c)) (fun c => by
      rw [crs_map, crs_map, hP]
      exact s4 c) 99
    have a2 := sumT_le (f := fun c => crs (fun k => bnd (g k).2 c) (t1.map fun e => (f e.1, f e.2)) + crs (fun k => bnd (g k).2 c) (t2.map fun e => (f e.1, f e.2))) (g := fun c => 3 * t.P (fun k => bnd (g k).2 c)) (fun c => by
      rw [crs_map, crs_map, hP]
      exact s5 c) 99
    rw [sumT_add, sumT_mul] at a1 a2
    omega
end Go.Proofs.Ytooogkcoedampaa
