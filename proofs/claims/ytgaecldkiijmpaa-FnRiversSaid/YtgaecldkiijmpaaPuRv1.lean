/- Rivers: the wires, as paths. -/
import Derived.Test.YtgaecldkiijmpaaPuPc
import Derived.Test.YtgaecldkiijmpaaPuApart
import Derived.Test.YtgaecldkiijmpaaPuSrcP
set_option linter.unusedSimpArgs false
set_option linter.unusedVariables false
set_option linter.unusedSectionVars false
namespace Go.Proofs.Ytgaecldkiijmpaa
open Go.RowKit

theorem path_mk {ps : List Pt} (h1 : 1 ≤ ps.length) (h2 : ps.length ≤ 576) (ho : okPs ps = true) (hn : ps.Nodup) (hs : ∀ k, 1 ≤ k → k < ps.length → dist (gP ps (k - 1)) (gP ps k) = 1) : pathB ps = true := by
  unfold pathB
  simp only [Bool.and_eq_true, decide_eq_true_eq, Bool.not_eq_true']
  exact ⟨⟨⟨h1, h2⟩, ho, hn⟩, anyIn_f.2 fun k hk1 hk2 => by unfold stepBad; simp [hs k hk1 hk2]⟩
theorem gP_app {ps : List Pt} {x : Pt} {k : Nat} (h : k < ps.length) : gP (ps ++ [x]) k = gP ps k := by unfold gP; simp [List.getD, List.getElem?_append_left h]
theorem gP_end {ps : List Pt} {x : Pt} : gP (ps ++ [x]) ps.length = x := by unfold gP; simp [List.getD]
def gI (l : List Int) (k : Nat) : Int := l.getD k 0
theorem gI_at {l : List Int} {k : Nat} (h : k < l.length) : gI l k = l[k] := by unfold gI; simp [h]
theorem geti_gI {l : List Int} {k : Nat} (h : k < l.length) : geti l (k : Int) = some (gI l k) := by rw [geti_lt h, gI_at h]
theorem geti_gI' {l : List Int} {x : Int} (h0 : 0 ≤ x) (h : x < l.length) : geti l x = some (gI l x.toNat) := by
  obtain ⟨k, rfl⟩ := Int.eq_ofNat_of_zero_le h0
  exact geti_gI (by omega)
/-! ### A path that grows -/
def ltS (σ : Int) (p q : Pt) : Prop := p.2 < q.2 ∨ p.2 = q.2 ∧ σ * p.1 < σ * q.1
theorem ltS_trans {σ : Int} {p q r : Pt} (h : ltS σ p q) (k : ltS σ q r) : ltS σ p r := by
  unfold ltS at *
  rcases h with h | ⟨h, h'⟩ <;> rcases k with k | ⟨k, k'⟩
  · left; omega
  · left; omega
  · left; omega
  · right; exact ⟨by omega, Int.lt_trans h' k'⟩
theorem ltS_ne {σ : Int} {p q : Pt} (h : ltS σ p q) : p ≠ q := fun e => by
  subst e
  unfold ltS at h
  rcases h with h | ⟨_, h⟩ <;> omega
structure RvI (σ : Int) (Z : Pt → Prop) (b T : Int) (out : List Pt) (p : Pt) : Prop where
  pos : 1 ≤ out.length
  fst : gP out 0 = (b, 0)
  lst : gP out (out.length - 1) = p
  okp : okP p = true
  ok : okPs out = true
  srt : out.Pairwise (ltS σ)
  low : ∀ q ∈ out, q = p ∨ ltS σ q p
  stp : ∀ k, 1 ≤ k → k < out.length → dist (gP out (k - 1)) (gP out k) = 1 ∧ ((gP out k).1 ≠ (gP out (k - 1)).1 → 1 ≤ (gP out k).2 ∧ (gP out k).2 ≤ T)
  zone : ∀ q ∈ out, Z q
theorem okPs_snoc' {ps : List Pt} {p : Pt} (h : okPs ps = true) (hp : okP p = true) : okPs (ps ++ [p]) = true := by
  unfold okPs at h ⊢; rw [List.all_append]; simp [h, hp]
theorem RvI.snoc {σ b T : Int} {Z : Pt → Prop} {out : List Pt} {p x : Pt} (h : RvI σ Z b T out p) (hd : dist p x = 1) (ho : okP x = true) (hl : ltS σ p x) (hh : x.1 ≠ p.1 → 1 ≤ x.2 ∧ x.2 ≤ T) (hz : Z x) : RvI σ Z b T (out ++ [x]) x := by
  have hpos := h.pos
  have hall : ∀ q ∈ out, ltS σ q x := fun q hq => by
    rcases h.low q hq with rfl | h1
    · exact hl
    · exact ltS_trans h1 hl
  refine ⟨by simp, by rw [gP_app (by omega)]; exact h.fst, by rw [List.length_append]; exact gP_end, ho, okPs_snoc' h.ok ho, ?_, fun q hq => ?_, fun k k1 k2 => ?_, fun q hq => ?_⟩
  · rw [List.pairwise_append]
    exact ⟨h.srt, by simp, fun q hq y hy => by simp only [List.mem_singleton] at hy; subst hy; exact hall q hq⟩
  · rw [List.mem_append, List.mem_singleton] at hq
    rcases hq with hq | rfl
    · exact Or.inr (hall q hq)
    · exact Or.inl rfl
  · rw [List.length_append, List.length_singleton] at k2
    by_cases e : k = out.length
    · subst e
      rw [gP_end, gP_app (by omega), h.lst]
      exact ⟨hd, hh⟩
    · rw [gP_app (by omega), gP_app (by omega)]
      exact h.stp k k1 (by omega)
  · rw [List.mem_append, List.mem_singleton] at hq
    rcases hq with hq | rfl
    · exact h.zone q hq
    · exact hz
theorem RvI.path {σ b T : Int} {Z : Pt → Prop} {out : List Pt} {p : Pt} (h : RvI σ Z b T out p) (hl : out.length ≤ 576) : pathB out = true :=
  path_mk h.pos hl h.ok (h.srt.imp fun hab => ltS_ne hab) (fun k k1 k2 => (h.stp k k1 k2).1)
theorem lnF_cons (q p : Pt) (k : Nat) (hne : True) : lnF q p (k + 1) = it q p 1 :: (lnF q (it q p 1) k) := by
  have key : ∀ j, it q p (j + 1) = it q (it q p 1) j := by
    intro j
    induction j with
    | zero => rfl
    | succ j ih => show stp q (it q p (j + 1)) = stp q (it q (it q p 1) j); rw [ih]
  unfold lnF
  rw [List.range_succ_eq_map, List.map_cons, List.map_map]
  congr 1
  apply List.map_congr_left
  intro j _
  exact key (j + 1)
/-- A line across. -/
theorem RvI.across {σ b T : Int} {Z : Pt → Prop} {x' y : Int} (hs : σ = 1 ∨ σ = -1) (hy : 1 ≤ y ∧ y ≤ T) (hx' : 0 ≤ x' ∧ x' ≤ 40) (hT : T ≤ 40) : ∀ (m : Nat) (x : Int) (out : List Pt), (max (x - x') (x' - x)).toNat = m → 0 ≤ σ * (x' - x) → 0 ≤ x ∧ x ≤ 40 → RvI σ Z b T out (x, y) →
    (∀ v, min x x' ≤ v → v ≤ max x x' → Z (v, y)) → RvI σ Z b T (out ++ lnF (x', y) (x, y) m) (x', y) := by
  intro m
  induction m with
  | zero =>
    intro x out hm hd hx h hz
    have : x = x' := by omega
    subst this
    show RvI σ Z b T (out ++ []) _
    rw [List.append_nil]; exact h
  | succ m ih =>
    intro x out hm hd hx h hz
    rw [lnF_cons _ _ _ trivial]
    have hst : it (x', y) (x, y) 1 = (x + σ, y) := by
      show (x + sgn (x' - x), y + sgn (y - y)) = _
      have e1 : sgn (y - y) = 0 := by unfold sgn; simp
      have e2 : sgn (x' - x) = σ := by
        unfold sgn
        rcases hs with rfl | rfl
        · rw [if_neg (by omega), if_pos (by omega)]
        · rw [if_pos (by omega)]
      rw [e1, e2]; simp
    rw [hst, List.append_cons]
    refine ih (x + σ) (out ++ [(x + σ, y)]) ?_ ?_ ?_ ?_ ?_
    · rcases hs with rfl | rfl <;> omega
    · rcases hs with rfl | rfl <;> omega
    · rcases hs with rfl | rfl <;> omega
    · refine h.snoc ?_ ?_ ?_ (fun _ => hy) (hz _ ?_ ?_)
      · unfold dist; rcases hs with rfl | rfl <;> simp only [] <;> omega
      · unfold okP; simp only [Bool.and_eq_true, decide_eq_true_eq]; rcases hs with rfl | rfl <;> omega
      · right; refine ⟨rfl, ?_⟩; rcases hs with rfl | rfl <;> simp only [] <;> omega
      · rcases hs with rfl | rfl <;> omega
      · rcases hs with rfl | rfl <;> omega
    · intro v v1 v2
      refine hz v ?_ ?_
      · rcases hs with rfl | rfl <;> omega
      · rcases hs with rfl | rfl <;> omega
/-! ### Where a wire is -/
structure Row (l : List Int) (n : Nat) : Prop where
  len : l.length = n
  rng : ∀ i, i < n → 0 ≤ gI l i ∧ gI l i ≤ 40
  inc : ∀ i, i + 1 < n → gI l i < gI l (i + 1)
theorem Row.add {l : List Int} {n : Nat} (h : Row l n) (i : Nat) : ∀ k, i + k < n → gI l i + k ≤ gI l (i + k)
  | 0, _ => by show gI l i + 0 ≤ gI l i; omega
  | k + 1, hk => by
    have h1 := h.add i k (by omega)
    have h2 := h.inc (i + k) (by omega)
    show gI l i + ((k + 1 : Nat) : Int) ≤ gI l (i + k + 1)
    omega
theorem Row.le {l : List Int} {n : Nat} (h : Row l n) {i j : Nat} (hij : i ≤ j) (hj : j < n) : gI l i + ((j - i : Nat) : Int) ≤ gI l j := by
  have := h.add i (j - i) (by omega)
  rw [show i + (j - i) = j by omega] at this
  exact this
def Fit (t b : List Int) (n : Nat) (T : Int) : Prop := ∀ i j : Nat, (j : Int) = i + T → j < n → T ≤ gI b j - gI t i ∧ T ≤ gI t j - gI b i
/-- The column behind track k. -/
def Xc (t b : List Int) (n i k : Nat) : Int :=
  if gI t i > gI b i ∧ i + k < n then min (gI t i) (gI b (i + k) - k) else if gI t i < gI b i ∧ k ≤ i then max (gI t i) (gI b (i - k) + k) else gI t i
section
variable {t b : List Int} {n : Nat} (ht : Row t n) (hb : Row b n)
include ht hb
theorem X_zero {i : Nat} (hi : i < n) : Xc t b n i 0 = gI b i := by
  unfold Xc
  simp only [Nat.add_zero, Nat.sub_zero, Int.natCast_zero]
  split
  · rename_i h; omega
  · split
    · rename_i h; omega
    · rename_i h1 h2; omega
theorem X_bd {i k : Nat} (hi : i < n) : min (gI b i) (gI t i) ≤ Xc t b n i k ∧ Xc t b n i k ≤ max (gI b i) (gI t i) := by
  unfold Xc
  split
  · rename_i h
    have := hb.le (i := i) (j := i + k) (by omega) h.2
    omega
  · split
    · rename_i h
      have := hb.le (i := i - k) (j := i) (by omega) hi
      omega
    · omega
theorem X_end {i : Nat} {T : Nat} (hi : i < n) (hf : Fit t b n T) : Xc t b n i T = gI t i := by
  unfold Xc
  split
  · rename_i h
    have := (hf i (i + T) (by omega) h.2).1
    omega
  · split
    · rename_i h
      have := (hf (i - T) i (by omega) hi).2
      omega
    · rfl
theorem X_up {i k : Nat} (hi : i < n) (h : gI b i ≤ gI t i) : Xc t b n i k ≤ Xc t b n i (k + 1) := by
  unfold Xc
  by_cases h1 : gI t i > gI b i
  · by_cases h2 : i + (k + 1) < n
    · rw [if_pos ⟨h1, by omega⟩, if_pos ⟨h1, h2⟩]
      have := hb.inc (i + k) (by omega)
      rw [show i + (k + 1) = i + k + 1 by omega]
      omega
    · rw [if_neg (show ¬ (gI t i > gI b i ∧ i + (k + 1) < n) by omega), if_neg (show ¬ (gI t i < gI b i ∧ k + 1 ≤ i) by omega)]
      split
      · omega
      · split <;> omega
  · rw [if_neg (show ¬ (gI t i > gI b i ∧ i + k < n) by omega), if_neg (show ¬ (gI t i < gI b i ∧ k ≤ i) by omega), if_neg (show ¬ (gI t i > gI b i ∧ i + (k + 1) < n) by omega), if_neg (show ¬ (gI t i < gI b i ∧ k + 1 ≤ i) by omega)]
    exact Int.le_refl _
theorem X_dn {i k : Nat} (hi : i < n) (h : gI t i < gI b i) : Xc t b n i (k + 1) ≤ Xc t b n i k := by
  unfold Xc
  rw [if_neg (show ¬ (gI t i > gI b i ∧ i + (k + 1) < n) by omega), if_neg (show ¬ (gI t i > gI b i ∧ i + k < n) by omega)]
  by_cases h2 : k + 1 ≤ i
  · rw [if_pos ⟨h, h2⟩, if_pos ⟨h, by omega⟩]
    have := hb.inc (i - (k + 1)) (by omega)
    rw [show i - (k + 1) + 1 = i - k by omega] at this
    omega
  · rw [if_neg (show ¬ (gI t i < gI b i ∧ k + 1 ≤ i) by omega)]
    split <;> omega
/-- Two wires do not meet on a track. -/
theorem X_apart {i j k : Nat} (hij : i < j) (hj : j < n) : max (Xc t b n i k) (Xc t b n i (k + 1)) < min (Xc t b n j k) (Xc t b n j (k + 1)) := by
  have hi : i < n := by omega
  have hbt := hb.le (i := i) (j := j) (by omega) hj
  have htt := ht.le (i := i) (j := j) (by omega) hj
  have hji : (1 : Int) ≤ ((j - i : Nat) : Int) := by omega
  have b1 := X_bd ht hb (i := i) (k := k) hi
  have b2 := X_bd ht hb (i := i) (k := k + 1) hi
  have b3 := X_bd ht hb (i := j) (k := k) hj
  have b4 := X_bd ht hb (i := j) (k := k + 1) hj
  by_cases ri : gI b i ≤ gI t i
  · have u1 := X_up ht hb (k := k) hi ri
    by_cases rj : gI b j ≤ gI t j
    · have u2 := X_up ht hb (k := k) hj rj
      have key : Xc t b n i (k + 1) < Xc t b n j k := by
        unfold Xc
        by_cases h1 : gI t i > gI b i
        · by_cases h2 : i + (k + 1) < n
          · rw [if_pos (⟨h1, h2⟩ : gI t i > gI b i ∧ i + (k + 1) < n)]
            by_cases h3 : gI t j > gI b j
            · by_cases h4 : j + k < n
              · rw [if_pos (⟨h3, h4⟩ : gI t j > gI b j ∧ j + k < n)]
                have := hb.le (i := i + (k + 1)) (j := j + k) (by omega) h4
                omega
              · rw [if_neg (show ¬ (gI t j > gI b j ∧ j + k < n) by omega), if_neg (show ¬ (gI t j < gI b j ∧ k ≤ j) by omega)]
                omega
            · rw [if_neg (show ¬ (gI t j > gI b j ∧ j + k < n) by omega), if_neg (show ¬ (gI t j < gI b j ∧ k ≤ j) by omega)]
              omega
          · rw [if_neg (show ¬ (gI t i > gI b i ∧ i + (k + 1) < n) by omega), if_neg (show ¬ (gI t i < gI b i ∧ k + 1 ≤ i) by omega), if_neg (show ¬ (gI t j > gI b j ∧ j + k < n) by omega), if_neg (show ¬ (gI t j < gI b j ∧ k ≤ j) by omega)]
            omega
        · rw [if_neg (show ¬ (gI t i > gI b i ∧ i + (k + 1) < n) by omega), if_neg (show ¬ (gI t i < gI b i ∧ k + 1 ≤ i) by omega)]
          have := b3.1
          unfold Xc at this
          omega
      omega
    · omega
  · have d1 := X_dn ht hb (k := k) hi (by omega)
    by_cases rj : gI b j ≤ gI t j
    · have u2 := X_up ht hb (k := k) hj rj
      omega
    · have d2 := X_dn ht hb (k := k) hj (by omega)
      have key : Xc t b n i k < Xc t b n j (k + 1) := by
        unfold Xc
        rw [if_neg (show ¬ (gI t i > gI b i ∧ i + k < n) by omega), if_neg (show ¬ (gI t j > gI b j ∧ j + (k + 1) < n) by omega)]
        by_cases h2 : k ≤ i
        · rw [if_pos (⟨by omega, h2⟩ : gI t i < gI b i ∧ k ≤ i), if_pos (⟨by omega, by omega⟩ : gI t j < gI b j ∧ k + 1 ≤ j)]
          have := hb.le (i := i - k) (j := j - (k + 1)) (by omega) (by omega)
          omega
        · rw [if_neg (show ¬ (gI t i < gI b i ∧ k ≤ i) by omega)]
          split <;> omega
      omega
end
/-! ### The program's path -/
def Zn (t b : List Int) (n i T : Nat) (q : Pt) : Prop := (q.2 = 0 ∧ q.1 = gI b i) ∨ (q.2 = (T : Int) + 1 ∧ q.1 = gI t i) ∨ ∃ k : Nat, k + 1 ≤ T ∧ q.2 = (k : Int) + 1 ∧ min (Xc t b n i k) (Xc t b n i (k + 1)) ≤ q.1 ∧ q.1 ≤ max (Xc t b n i k) (Xc t b n i (k + 1))
theorem Zn_apart {t b : List Int} {n T : Nat} (ht : Row t n) (hb : Row b n) {i j : Nat} (hij : i < j) (hj : j < n) {q : Pt} (h1 : Zn t b n i T q) (h2 : Zn t b n j T q) : False := by
  have hbt := hb.le (i := i) (j := j) (by omega) hj
  have htt := ht.le (i := i) (j := j) (by omega) hj
  rcases h1 with ⟨e1, e2⟩ | ⟨e1, e2⟩ | ⟨k, k1, k2, k3, k4⟩ <;> rcases h2 with ⟨f1, f2⟩ | ⟨f1, f2⟩ | ⟨m, m1, m2, m3, m4⟩
  · omega
  · omega
  · omega
  · omega
  · omega
  · omega
  · omega
  · omega
  · have : k = m := by omega
    subst this
    have := X_apart ht hb (k := k) hij hj
    omega
section
variable {t b : List Int} {n T : Nat} (ht : Row t n) (hb : Row b n)
include ht hb
theorem to_eq {σ bb TT : Int} {Z : Pt → Prop} {out : List Pt} {p q : Pt} (hp : okP p = true) (hq : okP q = true) (ha : Al p q) (hl : out.length ≤ 100000) :
    m_impl_riverPath_1_bimplPoint_bimplPoint q.1 q.2 out p.1 p.2 = some (q.1, q.2, out ++ lnF q p (dN p q)) := by
  unfold m_impl_riverPath_1_bimplPoint_bimplPoint
  rw [line_eq hp hq ha]
  simp only [bind_some']
  have := dN_le hp hq
  rw [apC_ok (by unfold lim; rw [lnF_len]; omega)]
  rfl
/-- The path behind so many tracks. -/
theorem rv_step (hn : n ≤ 20) {i : Nat} (hi : i < n) (hT : T ≤ 30) {k : Nat} (hk : k + 1 ≤ T) {σ : Int} (hσ : (σ = 1 ∧ gI b i ≤ gI t i) ∨ (σ = -1 ∧ gI t i < gI b i)) {out : List Pt} (hl : out.length ≤ 1 + 41 * k)
    (h : RvI σ (Zn t b n i T) (gI b i) T out (Xc t b n i k, (k : Int))) :
    ∃ out', m_impl_riverPath_s1 t b (T : Int) (i : Int) (((k + 1 : Nat) : Int), Xc t b n i k, (k : Int), out) = some (Ctl.next (((k + 1 + 1 : Nat) : Int), Xc t b n i (k + 1), ((k + 1 : Nat) : Int), out')) ∧
      out'.length ≤ 1 + 41 * (k + 1) ∧ RvI σ (Zn t b n i T) (gI b i) T out' (Xc t b n i (k + 1), ((k + 1 : Nat) : Int)) := by
  have rb := hb.rng i hi
  have rt := ht.rng i hi
  have b1 := X_bd ht hb (i := i) (k := k) hi
  have b2 := X_bd ht hb (i := i) (k := k + 1) hi
  have hmono : 0 ≤ σ * (Xc t b n i (k + 1) - Xc t b n i k) := by
    rcases hσ with ⟨rfl, hh⟩ | ⟨rfl, hh⟩
    · have := X_up ht hb (k := k) hi hh; omega
    · have := X_dn ht hb (k := k) hi hh; omega
  have hs1 : σ = 1 ∨ σ = -1 := by rcases hσ with ⟨h, _⟩ | ⟨h, _⟩ <;> simp [h]
  have hxc : Xc t b n i (k + 1) = (if gI t i > gI b i ∧ i + (k + 1) < n then min (gI t i) (gI b (i + (k + 1)) - ((k + 1 : Nat) : Int)) else if gI t i < gI b i ∧ k + 1 ≤ i then max (gI t i) (gI b (i - (k + 1)) + ((k + 1 : Nat) : Int)) else gI t i) := rfl
  generalize hx0 : Xc t b n i k = x at *
  generalize hx1 : Xc t b n i (k + 1) = x' at *
  have ok1 : okP (x, ((k + 1 : Nat) : Int)) = true := by unfold okP; simp only [Bool.and_eq_true, decide_eq_true_eq]; omega
  have ok2 : okP (x', ((k + 1 : Nat) : Int)) = true := by unfold okP; simp only [Bool.and_eq_true, decide_eq_true_eq]; omega
  have z1 : ∀ v, min x x' ≤ v → v ≤ max x x' → Zn t b n i T (v, ((k + 1 : Nat) : Int)) := fun v v1 v2 => Or.inr (Or.inr ⟨k, hk, by simp, by rw [hx0, hx1]; exact v1, by rw [hx0, hx1]; exact v2⟩)
  have hA : RvI σ (Zn t b n i T) (gI b i) T (out ++ [(x, ((k + 1 : Nat) : Int))]) (x, ((k + 1 : Nat) : Int)) :=
    h.snoc (by unfold dist; simp only []; omega) ok1 (Or.inl (by simp only []; omega)) (fun hne => absurd rfl hne) (z1 x (by omega) (by omega))
  have hB := RvI.across (x' := x') (y := ((k + 1 : Nat) : Int)) hs1 (by omega) (by omega) (by omega) (max (x - x') (x' - x)).toNat x (out ++ [(x, ((k + 1 : Nat) : Int))]) rfl hmono (by omega) hA z1
  refine ⟨_, ?_, ?_, hB⟩
  · unfold m_impl_riverPath_s1
    simp only []
    rw [bif_t (by simp; omega)]
    have e1 := to_eq ht hb (σ := σ) (bb := 0) (TT := 0) (Z := fun _ => True) (out := out) (p := (x, (k : Int))) (q := (x, ((k + 1 : Nat) : Int))) h.okp ok1 (Or.inl rfl) (by omega)
    have hd1 : dN (x, (k : Int)) (x, ((k + 1 : Nat) : Int)) = 1 := by unfold dN dist; simp only []; omega
    have hl1 : lnF (x, ((k + 1 : Nat) : Int)) (x, (k : Int)) 1 = [(x, ((k + 1 : Nat) : Int))] := by
      show [(x + sgn (x - x), (k : Int) + sgn (((k + 1 : Nat) : Int) - k))] = _
      have q1 : sgn (x - x) = 0 := by unfold sgn; simp
      have q2 : sgn (((k + 1 : Nat) : Int) - k) = 1 := by unfold sgn; rw [if_neg (by omega), if_pos (by omega)]
      rw [q1, q2]; simp
    rw [hd1, hl1] at e1
    rw [e1]
    have gt : geti t (i : Int) = some (gI t i) := geti_gI (by rw [ht.len]; exact hi)
    have gb : geti b (i : Int) = some (gI b i) := geti_gI (by rw [hb.len]; exact hi)
    simp only [bind_some', gt, gb]
    have hw1 : wr ((i : Int) + ((k + 1 : Nat) : Int)) = ((i + (k + 1) : Nat) : Int) := by rw [wr_in (by have := hb.len; have := ht.len; omega)]; omega
    have e2 := to_eq ht hb (σ := σ) (bb := 0) (TT := 0) (Z := fun _ => True) (out := out ++ [(x, ((k + 1 : Nat) : Int))]) (p := (x, ((k + 1 : Nat) : Int))) (q := (x', ((k + 1 : Nat) : Int))) ok1 ok2 (Or.inr rfl) (by simp; omega)
    have hd2 : dN (x, ((k + 1 : Nat) : Int)) (x', ((k + 1 : Nat) : Int)) = (max (x - x') (x' - x)).toNat := by unfold dN dist; simp only []; congr 1; omega
    rw [hd2] at e2
    have fin : ∀ v : Int, v = x' → (Option.bind (m_impl_riverPath_1_bimplPoint_bimplPoint v ((k + 1 : Nat) : Int) (out ++ [(x, ((k + 1 : Nat) : Int))]) x ((k + 1 : Nat) : Int)) fun y1159 => some (y1159.1, y1159.2.1, y1159.2.2)) = some (x', ((k + 1 : Nat) : Int), out ++ [(x, ((k + 1 : Nat) : Int))] ++ lnF (x', ((k + 1 : Nat) : Int)) (x, ((k + 1 : Nat) : Int)) (max (x - x') (x' - x)).toNat) := by
      intro v hv
      subst hv
      rw [e2]; rfl
    by_cases r1 : gI t i > gI b i
    · rw [bif_t (by simpa using r1)]
      by_cases r2 : i + (k + 1) < n
      · rw [bif_t (by rw [hw1, hb.len]; simp; omega), hw1, geti_gI (l := b) (by rw [hb.len]; exact r2)]
        have rr := hb.rng _ r2
        simp only [bind_some']
        rw [bif_f (by simp; omega)]
        simp only [bind_some']
        rw [wr_in (x := gI b (i + (k + 1)) - ((k + 1 : Nat) : Int)) (by omega), fin _ (by have hx' := hxc.trans (if_pos ⟨r1, r2⟩); split <;> omega)]
        simp only [bind_some']
        rw [wr_in (by omega)]
        rfl
      · rw [bif_f (by rw [hw1, hb.len]; simp; omega)]
        simp only [bind_some']
        rw [bif_f (by simp; omega)]
        simp only [bind_some']
        rw [fin _ ((hxc.trans (if_neg (by omega))).trans (if_neg (by omega))).symm]
        simp only [bind_some']
        rw [wr_in (by omega)]
        rfl
    · rw [bif_f (by simpa using r1)]
      simp only [bind_some']
      by_cases r2 : gI t i < gI b i
      · rw [bif_t (by simpa using r2)]
        have hw2 : wr ((i : Int) - ((k + 1 : Nat) : Int)) = (i : Int) - ((k + 1 : Nat) : Int) := wr_in (by have := hb.len; omega)
        by_cases r3 : k + 1 ≤ i
        · rw [bif_t (by rw [hw2]; simp; omega), hw2, show (i : Int) - ((k + 1 : Nat) : Int) = ((i - (k + 1) : Nat) : Int) by omega, geti_gI (l := b) (by rw [hb.len]; omega)]
          have rr := hb.rng (i - (k + 1)) (by omega)
          simp only [bind_some']
          rw [wr_in (x := gI b (i - (k + 1)) + ((k + 1 : Nat) : Int)) (by omega), fin _ (by have hx' := (hxc.trans (if_neg (by omega))).trans (if_pos ⟨r2, r3⟩); split <;> omega)]
          simp only [bind_some']
          rw [wr_in (by omega)]
          rfl
        · rw [bif_f (by rw [hw2]; simp; omega)]
          simp only [bind_some']
          rw [fin _ ((hxc.trans (if_neg (by omega))).trans (if_neg (by omega))).symm]
          simp only [bind_some']
          rw [wr_in (by omega)]
          rfl
      · rw [bif_f (by simpa using r2)]
        simp only [bind_some']
        rw [fin _ ((hxc.trans (if_neg (by omega))).trans (if_neg (by omega))).symm]
        simp only [bind_some']
        rw [wr_in (by omega)]
        rfl
  · rw [List.length_append, List.length_append, lnF_len, List.length_singleton]; omega
theorem rv_path (hn : n ≤ 20) {i : Nat} (hi : i < n) (hT : T ≤ 12) (hf : Fit t b n T) : ∃ out σ, m_impl_riverPath t b (T : Int) (i : Int) = some out ∧ out.length ≤ 576 ∧ RvI σ (Zn t b n i T) (gI b i) T out (gI t i, (T : Int) + 1) := by
  have rb := hb.rng i hi
  have rt := ht.rng i hi
  obtain ⟨σ, hσ⟩ : ∃ σ : Int, (σ = 1 ∧ gI b i ≤ gI t i) ∨ (σ = -1 ∧ gI t i < gI b i) := by
    by_cases h : gI b i ≤ gI t i
    · exact ⟨1, Or.inl ⟨rfl, h⟩⟩
    · exact ⟨-1, Or.inr ⟨rfl, by omega⟩⟩
  have gb : geti b (i : Int) = some (gI b i) := geti_gI (by rw [hb.len]; exact hi)
  have hx0 := X_zero ht hb hi
  have h0 : RvI σ (Zn t b n i T) (gI b i) T [(gI b i, 0)] (Xc t b n i 0, ((0 : Nat) : Int)) := by
    rw [hx0]
    have hok : okP (gI b i, 0) = true := by unfold okP; simp only [Bool.and_eq_true, decide_eq_true_eq]; omega
    refine ⟨by simp, rfl, rfl, hok, by unfold okPs; simp [hok], by simp, fun q hq => Or.inl (by simpa using hq), fun k k1 k2 => by simp at k2; omega, fun q hq => ?_⟩
    simp only [List.mem_singleton] at hq; subst hq
    exact Or.inl ⟨rfl, rfl⟩
  obtain ⟨r, g1, g2, g3, g4⟩ := loopM_count (m_impl_riverPath_s1 t b (T : Int) (i : Int)) T
    (fun k s => s.1 = ((k + 1 : Nat) : Int) ∧ s.2.1 = Xc t b n i k ∧ s.2.2.1 = (k : Int) ∧ s.2.2.2.length ≤ 1 + 41 * k ∧ RvI σ (Zn t b n i T) (gI b i) T s.2.2.2 (Xc t b n i k, (k : Int)))
    (fun r => r.1 = Xc t b n i T ∧ r.2.1 = (T : Int) ∧ r.2.2.length ≤ 1 + 41 * T ∧ RvI σ (Zn t b n i T) (gI b i) T r.2.2 (Xc t b n i T, (T : Int)))
    (s0 := (1, gI b i, 0, ([(gI b i, 0)] : List (Int × Int)))) ⟨rfl, hx0.symm, rfl, by simp, h0⟩ (by
      rintro k ⟨s1, s2, s3, s4⟩ hk ⟨e1, e2, e3, e4, e5⟩
      simp only at e1 e2 e3 e4 e5
      subst e1; subst e2; subst e3
      obtain ⟨out', f1, f2, f3⟩ := rv_step ht hb (T := T) hn hi (by omega) (k := k) (by omega) hσ e4 e5
      left
      exact ⟨_, f1, rfl, rfl, rfl, f2, f3⟩) (by
      rintro ⟨s1, s2, s3, s4⟩ ⟨e1, e2, e3, e4, e5⟩
      simp only at e1 e2 e3 e4 e5
      subst e1; subst e2; subst e3
      unfold m_impl_riverPath_s1
      simp only []
      rw [bif_f (by simp; omega)]
      exact ⟨_, rfl, rfl, rfl, e4, e5⟩)
  obtain ⟨r1, r2, r3⟩ := r
  simp only at g2 g3 g4
  obtain ⟨g4, g5⟩ := g4
  subst g2; subst g3
  rw [X_end ht hb hi hf] at g1 g5
  have hok : okP (gI t i, (T : Int) + 1) = true := by unfold okP; simp only [Bool.and_eq_true, decide_eq_true_eq]; omega
  have hfin := g5.snoc (x := (gI t i, (T : Int) + 1)) (by unfold dist; simp only []; omega) hok (Or.inl (by simp only []; omega)) (fun hne => absurd rfl hne) (Or.inr (Or.inl ⟨rfl, rfl⟩))
  refine ⟨r3 ++ [(gI t i, (T : Int) + 1)], σ, ?_, by rw [List.length_append, List.length_singleton]; omega, hfin⟩
  unfold m_impl_riverPath
  rw [gb]
  simp only [bind_some']
  rw [g1]
  simp only [bind_some']
  have e := to_eq ht hb (σ := σ) (bb := 0) (TT := 0) (Z := fun _ => True) (out := r3) (p := (gI t i, (T : Int))) (q := (gI t i, (T : Int) + 1)) g5.okp hok (Or.inl rfl) (by omega)
  have hd1 : dN (gI t i, (T : Int)) (gI t i, (T : Int) + 1) = 1 := by unfold dN dist; simp only []; omega
  have hl1 : lnF (gI t i, (T : Int) + 1) (gI t i, (T : Int)) 1 = [(gI t i, (T : Int) + 1)] := by
    show [(gI t i + sgn (gI t i - gI t i), (T : Int) + sgn ((T : Int) + 1 - T))] = _
    have q1 : sgn (gI t i - gI t i) = 0 := by unfold sgn; simp
    have q2 : sgn ((T : Int) + 1 - T) = 1 := by unfold sgn; rw [if_neg (by omega), if_pos (by omega)]
    rw [q1, q2]; simp
  rw [hd1, hl1] at e
  rw [wr_in (by omega), e]
  rfl
end
end Go.Proofs.Ytgaecldkiijmpaa
