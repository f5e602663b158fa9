/- Spanning trees: the program's and the reference's scans go side by side. -/
import Derived.Test.YtooogkcoedampaaPuP0
set_option linter.unusedSimpArgs false
set_option linter.unusedVariables false
namespace Go.Proofs.Ytooogkcoedampaa
open Go.RowKit

/-- A pair of pins, one reached and one not, that is nearer than those before. -/
def bsStep (ps : List Pt) (R : List Bool) (bs : Option (Nat × Nat)) (i k : Nat) : Option (Nat × Nat) :=
  if R.getD i false ≠ R.getD k false then
    match bs with
    | none => some (i, k)
    | some (a, b) => if dist (gP ps i) (gP ps k) < dist (gP ps a) (gP ps b) then some (i, k) else some (a, b)
  else bs
def inF (ps : List Pt) (R : List Bool) (i : Nat) (bs : Option (Nat × Nat)) : Nat → Option (Nat × Nat)
  | 0 => bs
  | m + 1 => bsStep ps R (inF ps R i bs m) i (i + 1 + m)
def outF (ps : List Pt) (R : List Bool) : Nat → Option (Nat × Nat)
  | 0 => none
  | i + 1 => inF ps R i (outF ps R i) (ps.length - (i + 1))
def BsOk (n : Nat) (R : List Bool) (bs : Option (Nat × Nat)) : Prop := ∀ a b, bs = some (a, b) → a < b ∧ b < n ∧ R.getD a false ≠ R.getD b false
theorem bsStep_ok {ps : List Pt} {R : List Bool} {bs : Option (Nat × Nat)} {n i k : Nat} (h : BsOk n R bs) (hik : i < k) (hk : k < n) : BsOk n R (bsStep ps R bs i k) := by
  unfold bsStep
  intro a b hab
  split at hab
  · rename_i hR
    split at hab
    · simp only [Option.some.injEq, Prod.mk.injEq] at hab
      obtain ⟨rfl, rfl⟩ := hab
      exact ⟨hik, hk, hR⟩
    · split at hab
      · simp only [Option.some.injEq, Prod.mk.injEq] at hab
        obtain ⟨rfl, rfl⟩ := hab
        exact ⟨hik, hk, hR⟩
      · exact h a b hab
  · exact h a b hab
theorem inF_ok {ps : List Pt} {R : List Bool} {i : Nat} {bs : Option (Nat × Nat)} (h : BsOk ps.length R bs) : ∀ m, i + 1 + m ≤ ps.length → BsOk ps.length R (inF ps R i bs m)
  | 0, _ => h
  | m + 1, hm => bsStep_ok (inF_ok h m (by omega)) (by omega) (by omega)
theorem outF_ok {ps : List Pt} {R : List Bool} : ∀ i, i ≤ ps.length → BsOk ps.length R (outF ps R i)
  | 0, _ => fun a b h => by cases h
  | i + 1, hi => inF_ok (outF_ok i (by omega)) _ (by omega)
theorem bsStep_none {ps : List Pt} {R : List Bool} {bs : Option (Nat × Nat)} {i k : Nat} (h : bsStep ps R bs i k = none) : bs = none ∧ R.getD i false = R.getD k false := by
  unfold bsStep at h
  split at h
  · split at h
    · cases h
    · split at h <;> cases h
  · rename_i hR
    exact ⟨h, by simpa using hR⟩
theorem inF_none {ps : List Pt} {R : List Bool} {i : Nat} {bs : Option (Nat × Nat)} : ∀ m, inF ps R i bs m = none → bs = none ∧ ∀ j, j < m → R.getD i false = R.getD (i + 1 + j) false
  | 0, h => ⟨h, fun j hj => by omega⟩
  | m + 1, h => by
    obtain ⟨h1, h2⟩ := bsStep_none h
    obtain ⟨h3, h4⟩ := inF_none m h1
    refine ⟨h3, fun j hj => ?_⟩
    by_cases e : j = m
    · rw [e]; exact h2
    · exact h4 j (by omega)
theorem outF_none {ps : List Pt} {R : List Bool} : ∀ i, i ≤ ps.length → outF ps R i = none → ∀ a b, a < i → a < b → b < ps.length → R.getD a false = R.getD b false
  | 0, _, _ => fun a b h => by omega
  | i + 1, hi, h => by
    obtain ⟨h1, h2⟩ := inF_none _ h
    intro a b ha hab hb
    by_cases e : a = i
    · subst e
      have := h2 (b - (a + 1)) (by omega)
      rwa [show a + 1 + (b - (a + 1)) = b by omega] at this
    · exact outF_none i (by omega) h1 a b (by omega) hab hb
/-- The tree when k pairs are taken: the pairs, their sum, the pins reached. -/
def trF (ps : List Pt) : Nat → List (List Int) × Int × List Bool
  | 0 => ([], 0, (List.replicate ps.length false).set 0 true)
  | k + 1 =>
    let s := trF ps k
    match outF ps s.2.2 ps.length with
    | none => s
    | some (a, b) => (s.1 ++ [[(a : Int), (b : Int)]], s.2.1 + dist (gP ps a) (gP ps b), (s.2.2.set a true).set b true)
def repI : Option (Nat × Nat) → Int × Int
  | none => (-1, -1)
  | some (a, b) => (a, b)
def repS (ps : List Pt) : Option (Nat × Nat) → List Int × Int
  | none => ([], -1)
  | some (a, b) => ([(a : Int), (b : Int)], dist (gP ps a) (gP ps b))
theorem gP_ok {ps : List Pt} (h : okPs ps = true) {k : Nat} (hk : k < ps.length) : okP (gP ps k) = true := by rw [gP_at hk]; exact okPs_at h hk
theorem geti_gP {ps : List Pt} {k : Nat} (hk : k < ps.length) : geti ps (k : Int) = some (gP ps k) := by rw [geti_lt hk, gP_at hk]
theorem geti_R {R : List Bool} {k : Nat} (hk : k < R.length) : geti R (k : Int) = some (R.getD k false) := by rw [geti_lt hk]; simp [List.getD, List.getElem?_eq_getElem hk]
section
variable {ps : List Pt} {R : List Bool}
/-- The program's inner scan. -/
theorem implIn (hp : okPs ps = true) (hb : ps.length ≤ 1000) (hR : R.length = ps.length) {i : Nat} (hi : i < ps.length) {bs : Option (Nat × Nat)} (h : BsOk ps.length R bs) :
    loopM (m_impl_spanning_s13 ps R (i : Int)) ((repI bs).1, (repI bs).2, wr ((i : Int) + 1)) = some (repI (inF ps R i bs (ps.length - (i + 1)))) := by
  have := loop_run (step := m_impl_spanning_s13 ps R (i : Int)) (ps.length - (i + 1)) (fun m => ((repI (inF ps R i bs m)).1, (repI (inF ps R i bs m)).2, ((i + 1 + m : Nat) : Int))) (r := repI (inF ps R i bs (ps.length - (i + 1)))) (by
    intro m hm
    have hk : i + 1 + m < ps.length := by omega
    have hok := inF_ok (ps := ps) (R := R) (i := i) h m (by omega)
    have e : inF ps R i bs (m + 1) = bsStep ps R (inF ps R i bs m) i (i + 1 + m) := rfl
    rw [e]
    generalize inF ps R i bs m = c at hok ⊢
    unfold m_impl_spanning_s13
    simp only []
    rw [bif_t (by simp; omega), geti_R (R := R) (k := i) (by omega), geti_R (R := R) (k := i + 1 + m) (by omega), geti_gP hi, geti_gP hk, wr_in (by omega)]
    simp only [bind_some']
    unfold bsStep
    by_cases c1 : R.getD i false = R.getD (i + 1 + m) false
    · rw [bif_f (by rw [c1]; simp), if_neg (fun h => h c1)]
      simp only [bind_some']
      exact congrArg some (congrArg Ctl.next (congrArg (Prod.mk _) (congrArg (Prod.mk _) (by omega))))
    · rw [bif_t (by rw [Bool.not_eq_true', beq_eq_false_iff_ne]; exact c1), if_pos c1]
      cases c with
      | none =>
        rw [bif_t (show decide ((repI none).1 < 0) = true from rfl)]
        simp only [bind_some']
        exact congrArg some (congrArg Ctl.next (congrArg (Prod.mk _) (congrArg (Prod.mk _) (by omega))))
      | some ab =>
        obtain ⟨a, b⟩ := ab
        obtain ⟨o1, o2, _⟩ := hok a b rfl
        have ga : geti ps (repI (some (a, b))).1 = some (gP ps a) := geti_gP (by omega)
        have gb : geti ps (repI (some (a, b))).2 = some (gP ps b) := geti_gP (by omega)
        rw [bif_f (show decide ((repI (some (a, b))).1 < 0) = false from decide_eq_false (by show ¬ (a : Int) < 0; omega)), ga, gb]
        simp only [bind_some']
        rw [far_eq (gP_ok hp hi) (gP_ok hp hk), far_eq (gP_ok hp (by omega)) (gP_ok hp (by omega))]
        simp only [bind_some']
        by_cases c2 : dist (gP ps i) (gP ps (i + 1 + m)) < dist (gP ps a) (gP ps b)
        · rw [bif_t (by simpa using c2), if_pos c2]
          simp only [bind_some']
          exact congrArg some (congrArg Ctl.next (congrArg (Prod.mk _) (congrArg (Prod.mk _) (by omega))))
        · rw [bif_f (by simpa using c2), if_neg c2]
          simp only [bind_some']
          exact congrArg some (congrArg Ctl.next (congrArg (Prod.mk _) (congrArg (Prod.mk _) (by omega))))) (by
    unfold m_impl_spanning_s13
    simp only []
    rw [bif_f (by simp; omega)])
  rw [wr_in (by omega)]
  exact this
theorem implOut (hp : okPs ps = true) (hb : ps.length ≤ 1000) (hR : R.length = ps.length) : loopM (m_impl_spanning_s12 ps R) (-1, -1, 0) = some (repI (outF ps R ps.length)) := by
  have := loop_run (step := m_impl_spanning_s12 ps R) ps.length (fun i => ((repI (outF ps R i)).1, (repI (outF ps R i)).2, (i : Int))) (r := repI (outF ps R ps.length)) (by
    intro i hi
    unfold m_impl_spanning_s12
    simp only []
    rw [bif_t (by simpa using hi), implIn hp hb hR hi (outF_ok i (by omega))]
    simp only [bind_some']
    rw [wr_in (by omega)]
    rfl) (by
    unfold m_impl_spanning_s12
    simp only []
    rw [bif_f (by simp)])
  exact this
theorem count_put {R : List Bool} {j : Nat} (hj : j < R.length) : (R.set j true).count true = R.count true + if R.getD j false = true then 0 else 1 := by
  have h1 : R.getD j false = R[j] := by simp [List.getD, List.getElem?_eq_getElem hj]
  rw [List.count_set hj, h1]
  cases h : R[j]
  · simp
  · have : 0 < R.count true := List.count_pos_iff.2 (h ▸ List.getElem_mem hj)
    simp; omega
/-- As long as not all are reached, there is a pair. -/
theorem outF_some {R : List Bool} (hR : R.length = ps.length) (h1 : 0 < R.count true) (h2 : R.count true < ps.length) : ∃ a b, outF ps R ps.length = some (a, b) ∧ a < b ∧ b < ps.length ∧ R.getD a false ≠ R.getD b false := by
  cases hc : outF ps R ps.length with
  | some ab => exact ⟨ab.1, ab.2, rfl, outF_ok ps.length (Nat.le_refl _) _ _ hc⟩
  | none =>
    exfalso
    have hall := outF_none ps.length (Nat.le_refl _) hc
    obtain ⟨s, hs, hst⟩ := List.mem_iff_getElem.1 (List.count_pos_iff.1 h1)
    have hf : ∃ t, ∃ h : t < R.length, R[t] = false := by
      apply Classical.byContradiction
      intro hn
      have : R.count true = R.length := List.count_eq_length.2 fun b hb => by
        obtain ⟨t, ht, rfl⟩ := List.mem_iff_getElem.1 hb
        cases hv : R[t] with
        | true => rfl
        | false => exact absurd ⟨t, ht, hv⟩ hn
      omega
    obtain ⟨t, ht, htf⟩ := hf
    have es : R.getD s false = true := by simp [List.getD, List.getElem?_eq_getElem hs, hst]
    have et : R.getD t false = false := by simp [List.getD, List.getElem?_eq_getElem ht, htf]
    rcases Nat.lt_trichotomy s t with h | h | h
    · have := hall s t (by omega) h (by omega); rw [es, et] at this; cases this
    · subst h; rw [es] at et; cases et
    · have := hall t s (by omega) h (by omega); rw [es, et] at this; cases this
theorem trF_inv (hp : okPs ps = true) (h1 : 1 ≤ ps.length) : ∀ k, k + 1 ≤ ps.length → (trF ps k).1.length = k ∧ (trF ps k).2.2.length = ps.length ∧ (trF ps k).2.2.count true = k + 1 ∧ 0 ≤ (trF ps k).2.1 ∧ (trF ps k).2.1 ≤ 198 * k
  | 0, _ => by
    refine ⟨rfl, by simp [trF], ?_, by simp [trF], by simp [trF]⟩
    show ((List.replicate ps.length false).set 0 true).count true = 1
    have z1 : (List.replicate ps.length false).count true = 0 := by rw [List.count_eq_zero]; intro h; have := List.eq_of_mem_replicate h; cases this
    have z2 : (List.replicate ps.length false).getD 0 false = false := by
      simp only [List.getD, List.getElem?_replicate]; split <;> rfl
    rw [count_put (by rw [List.length_replicate]; omega), z1, z2]
    rfl
  | k + 1, hk => by
    obtain ⟨i1, i2, i3, i4, i5⟩ := trF_inv hp h1 k (by omega)
    obtain ⟨a, b, hab, o1, o2, o3⟩ := outF_some (ps := ps) i2 (by omega) (by omega)
    have e : trF ps (k + 1) = ((trF ps k).1 ++ [[(a : Int), (b : Int)]], (trF ps k).2.1 + dist (gP ps a) (gP ps b), ((trF ps k).2.2.set a true).set b true) := by
      show (match outF ps (trF ps k).2.2 ps.length with | none => trF ps k | some (a, b) => _) = _
      rw [hab]
    have hd := dist_b (gP_ok hp (k := a) (by omega)) (gP_ok hp (k := b) (by omega))
    rw [e]
    refine ⟨by simp [i1], by simp [i2], ?_, by simp only []; omega, by simp only []; omega⟩
    simp only []
    rw [count_put (by rw [List.length_set]; omega), count_put (by omega), i3]
    have hne : ((trF ps k).2.2.set a true).getD b false = (trF ps k).2.2.getD b false := by simp [List.getD, List.getElem?_set_ne (show a ≠ b by omega)]
    rw [hne]
    generalize (trF ps k).2.2.getD a false = u at o3 ⊢
    generalize (trF ps k).2.2.getD b false = v at o3 ⊢
    cases u <;> cases v <;> simp at o3 ⊢
theorem trF_step (hp : okPs ps = true) (h1 : 1 ≤ ps.length) {k : Nat} (hk : k + 2 ≤ ps.length) : ∃ a b, outF ps (trF ps k).2.2 ps.length = some (a, b) ∧ a < b ∧ b < ps.length ∧
    trF ps (k + 1) = ((trF ps k).1 ++ [[(a : Int), (b : Int)]], (trF ps k).2.1 + dist (gP ps a) (gP ps b), ((trF ps k).2.2.set a true).set b true) := by
  obtain ⟨i1, i2, i3, _⟩ := trF_inv hp h1 k (by omega)
  obtain ⟨a, b, hab, o1, o2, o3⟩ := outF_some (ps := ps) i2 (by omega) (by omega)
  refine ⟨a, b, hab, o1, o2, ?_⟩
  show (match outF ps (trF ps k).2.2 ps.length with | none => trF ps k | some (a, b) => _) = _
  rw [hab]
theorem geti_ex' {R : List Bool} {k : Nat} (hk : k < R.length) : ∃ x, geti R (k : Int) = some x := ⟨_, geti_R hk⟩
/-- The pairs in the order in which they are taken, and their sum. -/
def trV (ps : List Pt) : List (List Int) × Int := ((trF ps (ps.length - 1)).1, (trF ps (ps.length - 1)).2.1)
theorem implSpan_eq (hp : okPs ps = true) (h1 : 1 ≤ ps.length) (hb : ps.length ≤ 1000) : m_impl_spanning ps = some (sortRows (trV ps).1, (trV ps).2) := by
  unfold m_impl_spanning trV
  rw [mkC_ok (by unfold lim; omega)]
  obtain ⟨x0, hx0⟩ := geti_ex' (R := List.replicate (Int.toNat (ps.length : Int)) false) (k := 0) (by simp; omega)
  simp only [bind_some']
  rw [show ((0 : Nat) : Int) = 0 from rfl] at hx0
  rw [hx0]
  simp only [bind_some']
  have := loop_run (step := m_impl_spanning_s9 ps) (ps.length - 1) (fun k => trF ps k) (r := ((trF ps (ps.length - 1)).1, (trF ps (ps.length - 1)).2.1)) (by
    intro k hk
    obtain ⟨i1, i2, _, i4, i5⟩ := trF_inv hp h1 k (by omega)
    obtain ⟨a, b, hab, o1, o2, e⟩ := trF_step hp h1 (k := k) (by omega)
    have hd := dist_b (gP_ok hp (k := a) (by omega)) (gP_ok hp (k := b) (by omega))
    rw [e]
    generalize trF ps k = s at *
    obtain ⟨out, sum, R⟩ := s
    simp only at i1 i2 i4 i5 hab ⊢
    unfold m_impl_spanning_s9
    simp only []
    rw [wr_in (x := (out.length : Int) + 1) (by omega), bif_t (by simp; omega), implOut hp hb i2, hab]
    simp only [bind_some', repI]
    obtain ⟨x1, hx1⟩ := geti_ex' (R := R) (k := a) (by omega)
    obtain ⟨x2, hx2⟩ := geti_ex' (R := R.set a true) (k := b) (by rw [List.length_set]; omega)
    simp only [bind_some', Int.toNat_natCast]
    rw [hx1]
    simp only [bind_some']
    rw [hx2, geti_gP (k := a) (by omega), geti_gP (k := b) (by omega)]
    simp only [bind_some']
    rw [apC_ok (by unfold lim; simp; omega), far_eq (gP_ok hp (by omega)) (gP_ok hp (by omega))]
    simp only [bind_some']
    rw [wr_in (by omega)]) (by
    obtain ⟨i1, i2, _, i4, i5⟩ := trF_inv hp h1 (ps.length - 1) (by omega)
    generalize trF ps (ps.length - 1) = s at *
    obtain ⟨out, sum, R⟩ := s
    simp only at i1
    unfold m_impl_spanning_s9
    simp only []
    rw [wr_in (x := (out.length : Int) + 1) (by omega), bif_f (by simp; omega)])
  have e0 : (([] : List (List Int)), (0 : Int), (List.replicate (Int.toNat (ps.length : Int)) (false : Bool)).set (Int.toNat 0) true) = trF ps 0 := by
    show _ = (([] : List (List Int)), (0 : Int), (List.replicate ps.length false).set 0 true)
    simp
  rw [e0, this]
  simp only [bind_some']
  obtain ⟨i1, _⟩ := trF_inv hp h1 (ps.length - 1) (by omega)
  unfold m_slices_SortFunc_int64_int64_slices_Compare_int64_int64
  rw [apC_ok (by unfold lim; simp; omega)]
  rfl
theorem trV_sum (hp : okPs ps = true) (h1 : 1 ≤ ps.length) (hb : ps.length ≤ 1000) : 0 ≤ (trV ps).2 ∧ (trV ps).2 ≤ 198000 := by
  obtain ⟨_, _, _, i4, i5⟩ := trF_inv hp h1 (ps.length - 1) (by omega)
  unfold trV
  simp only []
  omega
end
end Go.Proofs.Ytooogkcoedampaa
