/- Plain facts on what the laws do ahead of and behind a call, with lists of lists: they weigh, they copy, they compare. Plain facts on how the laws mark what they were given and look whether the marks still stand. Mazes: which are valid, which cells are open; both programs ask alike. Mazes: both programs find the same ones valid. -/
import Derived.Test.YtcknpoeannbpbaaPuPt
import Derived.Test.YtcknpoeannbpbaaMod
set_option linter.unusedSimpArgs false
set_option linter.unusedVariables false
namespace Go.Proofs.Ytcknpoeannbpbaa
open Go.RowKit

theorem toInt64S_eq (ps : List Int) (hb : ps.length ≤ 1048576) : m_laws_toInt64S ps = some ps := by
  unfold m_laws_toInt64S
  rw [mkC_ok (by unfold lim; omega)]
  simp only [bind_some']
  have hl : loopM (m_laws_toInt64S_s1 ps) (0, List.replicate (Int.toNat (ps.length : Int)) (0 : Int)) = some ps := by
    refine loopM_val _ ps.length (fun k s => s.1 = (k : Int) ∧ Laid ps s.2 k) ⟨rfl, Laid.zero _ _ (by simp)⟩ ?_ ?_
    · rintro k ⟨x, acc⟩ hk ⟨hx, hL⟩
      simp only at hx hL
      subst hx
      unfold m_laws_toInt64S_s1
      simp only []
      rw [bif_t (by simpa using hk), geti_lt hk, geti_lt (l := acc) (by rw [hL.1]; exact hk)]
      left
      exact ⟨_, rfl, by rw [wr_in (by omega)]; simp, by simpa using hL.succ hk⟩
    · rintro ⟨x, acc⟩ ⟨hx, hL⟩
      simp only at hx hL
      subst hx
      unfold m_laws_toInt64S_s1
      simp only []
      rw [bif_f (by simp), hL.all]
  rw [hl]; rfl
theorem toInt64SS_eq (ll : List (List Int)) (hb : ll.length ≤ 1048576) (hr : ∀ r ∈ ll, r.length ≤ 1048576) : m_laws_toInt64SS ll = some ll := by
  unfold m_laws_toInt64SS
  rw [mkC_ok (by unfold lim; omega)]
  simp only [bind_some']
  have hl : loopM (m_laws_toInt64SS_s1 ll) (List.replicate (Int.toNat (ll.length : Int)) ([] : List Int), 0) = some ll := by
    refine loopM_val _ ll.length (fun k s => s.2 = (k : Int) ∧ Laid ll s.1 k) ⟨rfl, Laid.zero _ _ (by simp)⟩ ?_ ?_
    · rintro k ⟨acc, x⟩ hk ⟨hx, hL⟩
      simp only at hx hL
      subst hx
      unfold m_laws_toInt64SS_s1
      simp only []
      rw [bif_t (by simpa using hk), geti_lt hk, geti_lt (l := acc) (by rw [hL.1]; exact hk)]
      simp only [bind_some', toInt64S_eq _ (hr _ (List.getElem_mem hk))]
      left
      exact ⟨_, rfl, by rw [wr_in (by omega)]; simp, by simpa using hL.succ hk⟩
    · rintro ⟨acc, x⟩ ⟨hx, hL⟩
      simp only at hx hL
      subst hx
      unfold m_laws_toInt64SS_s1
      simp only []
      rw [bif_f (by simp), hL.all]
  rw [hl]; rfl
theorem eqInt64S_eq (ps : List Int) (hb : ps.length ≤ 9223372036854775807) : m_laws_eqInt64S ps ps = some true := by
  unfold m_laws_eqInt64S
  rw [bif_f (by simp)]
  have hl : loopM (m_laws_eqInt64S_s1 ps ps) 0 = some (Sum.inl ()) := by
    refine loopM_val _ ps.length (fun k s => s = (k : Int)) rfl ?_ ?_
    · rintro k _ hk rfl
      unfold m_laws_eqInt64S_s1
      simp only []
      rw [bif_t (by simpa using hk), geti_lt hk]
      left
      exact ⟨wr ((k : Int) + 1), by simp [bind_some'], by rw [wr_in (by omega)]; omega⟩
    · rintro _ rfl
      unfold m_laws_eqInt64S_s1
      simp only []
      rw [bif_f (by simp)]
  rw [hl]; rfl
theorem eqInt64SS_eq (ll : List (List Int)) (hb : ll.length ≤ 9223372036854775807) (hr : ∀ r ∈ ll, r.length ≤ 9223372036854775807) : m_laws_eqInt64SS ll ll = some true := by
  unfold m_laws_eqInt64SS
  rw [bif_f (by simp)]
  have hl : loopM (m_laws_eqInt64SS_s1 ll ll) 0 = some (Sum.inl ()) := by
    refine loopM_val _ ll.length (fun k s => s = (k : Int)) rfl ?_ ?_
    · rintro k _ hk rfl
      unfold m_laws_eqInt64SS_s1
      simp only []
      rw [bif_t (by simpa using hk), geti_lt hk]
      left
      exact ⟨wr ((k : Int) + 1), by simp [bind_some', eqInt64S_eq _ (hr _ (List.getElem_mem hk))], by rw [wr_in (by omega)]; omega⟩
    · rintro _ rfl
      unfold m_laws_eqInt64SS_s1
      simp only []
      rw [bif_f (by simp)]
  rw [hl]; rfl
theorem szInt64S_eq (l : List Int) (p : Int) (h : 0 ≤ p ∧ p ≤ 1048576) (hb : l.length ≤ 9223372036854775807) : ∃ y, m_laws_szInt64S l p = some y ∧ (y < 0 ∨ (y = p - l.length ∧ 0 ≤ y)) := by
  unfold m_laws_szInt64S
  rw [wr_in (x := p - l.length) (by omega)]
  by_cases hn : p - (l.length : Int) < 0
  · exact ⟨-1, bif_t (by simpa using hn), Or.inl (by omega)⟩
  · exact ⟨_, bif_f (by simpa using hn), Or.inr ⟨rfl, by omega⟩⟩
theorem szInt64SS_eq (l : List (List Int)) (p : Int) (h : 0 ≤ p ∧ p ≤ 1048576) (hb : l.length ≤ 9223372036854775807) (hr : ∀ r ∈ l, r.length ≤ 9223372036854775807) :
    ∃ y, m_laws_szInt64SS l p = some y ∧ (y < 0 ∨ (0 ≤ y ∧ y ≤ p ∧ (l.length : Int) ≤ p ∧ ∀ r ∈ l, (r.length : Int) ≤ p)) := by
  unfold m_laws_szInt64SS
  rw [wr_in (x := p - l.length) (by omega)]
  by_cases hn : p - (l.length : Int) < 0
  · exact ⟨-1, bif_t (by simpa using hn), Or.inl (by omega)⟩
  · rw [bif_f (by simpa using hn)]
    obtain ⟨r, h1, h2⟩ := loopM_count (m_laws_szInt64SS_s1 l) l.length (fun k s => s.2 = (k : Int) ∧ 0 ≤ s.1 ∧ s.1 ≤ p - l.length ∧ ∀ j r, j < k → l[j]? = some r → (r.length : Int) ≤ p)
      (fun r => r = Sum.inr (-1) ∨ ∃ y, r = Sum.inl y ∧ 0 ≤ y ∧ y ≤ p ∧ ∀ r ∈ l, (r.length : Int) ≤ p) (s0 := (p - l.length, 0))
      ⟨rfl, by simp only []; omega, by simp only []; omega, fun j r hj => by omega⟩ (by
        rintro k ⟨x, i⟩ hk ⟨hi, h0, h1, hall⟩
        simp only at hi h0 h1
        subst hi
        unfold m_laws_szInt64SS_s1
        simp only []
        rw [bif_t (by simpa using hk), geti_lt hk]
        simp only [bind_some']
        obtain ⟨y, hy, hy'⟩ := szInt64S_eq l[k] x (by omega) (hr _ (List.getElem_mem hk))
        rw [hy]
        simp only [bind_some']
        rcases hy' with hy' | ⟨rfl, hy'⟩
        · rw [bif_t (by simpa using hy')]
          exact Or.inr ⟨_, rfl, Or.inl rfl⟩
        · rw [bif_f (by simpa using hy')]
          refine Or.inl ⟨_, rfl, by rw [wr_in (by omega)]; simp, hy', by simp only []; omega, fun j r hj hjr => ?_⟩
          by_cases e : j = k
          · subst e
            rw [List.getElem?_eq_getElem hk] at hjr
            simp only [Option.some.injEq] at hjr
            subst hjr; omega
          · exact hall j r (by omega) hjr) (by
        rintro ⟨x, i⟩ ⟨hi, h0, h1, hall⟩
        simp only at hi h0 h1
        subst hi
        unfold m_laws_szInt64SS_s1
        simp only []
        rw [bif_f (by simp)]
        refine ⟨_, rfl, Or.inr ⟨x, rfl, h0, by omega, fun r hr' => ?_⟩⟩
        obtain ⟨j, hj, hjr⟩ := List.mem_iff_getElem.1 hr'
        exact hall j r hj (by rw [List.getElem?_eq_getElem hj, hjr]))
    rw [h1]
    simp only [bind_some']
    rcases h2 with rfl | ⟨y, rfl, g1, g2, g3⟩
    · exact ⟨-1, rfl, Or.inl (by omega)⟩
    · exact ⟨y, rfl, Or.inr ⟨g1, g2, by omega, g3⟩⟩
end Go.Proofs.Ytcknpoeannbpbaa

set_option linter.unusedSimpArgs false
set_option linter.unusedVariables false
namespace Go.Proofs.Ytcknpoeannbpbaa
open Go.RowKit

theorem geti_set {α : Type} {l : List α} {i : Nat} {x : α} (h : i < l.length) : geti (l.set i x) (i : Int) = some x := by
  rw [geti_nat, List.getElem?_set_self h]
theorem Laid.all' {α : Type} {l acc : List α} {n : Nat} (h : Laid l acc n) (hn : l.length = n) : acc = l := by subst hn; exact h.all
def seqI (k : Int) (n : Nat) : List Int := (List.range n).map fun (j : Nat) => k + (j : Int)
theorem seqI_len (k : Int) (n : Nat) : (seqI k n).length = n := by simp [seqI]
theorem seqI_at {k : Int} {n i : Nat} (h : i < (seqI k n).length) : (seqI k n)[i] = k + i := by simp [seqI]
theorem markI_eq (l : List Int) (k : Int) (h0 : 0 ≤ k) (hb : k + l.length ≤ 4611686018427387904) : m_laws_markInt64S l k = some (k + l.length, seqI k l.length) := by
  unfold m_laws_markInt64S
  have hl : loopM m_laws_markInt64S_s1 (k, 0, l) = some (k + l.length, seqI k l.length) := by
    refine loopM_val _ l.length (fun i s => s.1 = k + i ∧ s.2.1 = (i : Int) ∧ Laid (seqI k l.length) s.2.2 i) ⟨by simp, rfl, Laid.zero _ _ (by rw [seqI_len])⟩ ?_ ?_
    · rintro i ⟨x, y, acc⟩ hi ⟨hx, hy, hL⟩
      simp only at hx hy hL
      subst hx; subst hy
      have hal : acc.length = l.length := by rw [hL.1, seqI_len]
      unfold m_laws_markInt64S_s1
      simp only []
      rw [bif_t (by simp; omega), geti_lt (l := acc) (by omega)]
      left
      refine ⟨_, rfl, by simp only []; rw [wr_in (by omega)]; omega, by simp only []; rw [wr_in (by omega)]; omega, ?_⟩
      have := hL.succ (by rw [seqI_len]; exact hi)
      rw [seqI_at] at this
      simpa using this
    · rintro ⟨x, y, acc⟩ ⟨hx, hy, hL⟩
      simp only at hx hy hL
      subst hx; subst hy
      have hal : acc.length = l.length := by rw [hL.1, seqI_len]
      unfold m_laws_markInt64S_s1
      simp only []
      rw [bif_f (by simp; omega), hL.all' (seqI_len k l.length)]
  rw [hl]; rfl
theorem markP_eq (l : List Pt) (k : Int) (h0 : 0 ≤ k) (hb : k + 2 * l.length ≤ 4611686018427387904) : ∃ r, m_laws_markPointS l k = some r ∧ r.1 = k + 2 * l.length := by
  unfold m_laws_markPointS
  obtain ⟨r, h1, h2⟩ := loopM_count m_laws_markPointS_s1 l.length (fun i s => s.1 = k + 2 * i ∧ s.2.1 = (i : Int) ∧ s.2.2.length = l.length) (fun r => r.1 = k + 2 * l.length) (s0 := (k, 0, l)) ⟨by simp, rfl, rfl⟩ (by
    rintro i ⟨x, y, acc⟩ hi ⟨hx, hy, hL⟩
    simp only at hx hy hL
    subst hx; subst hy
    unfold m_laws_markPointS_s1
    simp only []
    rw [bif_t (by simp; omega), geti_lt (l := acc) (by omega)]
    simp only [bind_some', Int.toNat_natCast]
    rw [geti_set (by omega)]
    simp only [bind_some']
    left
    refine ⟨_, rfl, by simp only []; rw [wr_in (x := k + 2 * (i : Int) + 1) (by omega), wr_in (by omega)]; omega, by simp only []; rw [wr_in (by omega)]; omega, by simpa using hL⟩) (by
    rintro ⟨x, y, acc⟩ ⟨hx, hy, hL⟩
    simp only at hx hy hL
    subst hx; subst hy
    unfold m_laws_markPointS_s1
    simp only []
    rw [bif_f (by simp; omega)]
    exact ⟨_, rfl, rfl⟩)
  rw [h1]
  exact ⟨_, rfl, h2⟩
theorem markII_eq (l : List (List Int)) (k : Int) (h0 : 0 ≤ k) (hk : k ≤ 1073741824) (hb : l.length ≤ 1048576) (hr : ∀ r ∈ l, r.length ≤ 1048576) : ∃ r, m_laws_markInt64SS l k = some r ∧ 0 ≤ r.1 := by
  unfold m_laws_markInt64SS
  obtain ⟨r, h1, h2⟩ := loopM_count m_laws_markInt64SS_s1 l.length (fun i s => k ≤ s.1 ∧ s.1 ≤ k + 1048576 * i ∧ s.2.1 = (i : Int) ∧ s.2.2.length = l.length ∧ ∀ j, i ≤ j → s.2.2[j]? = l[j]?) (fun r => 0 ≤ r.1) (s0 := (k, 0, l))
    ⟨Int.le_refl _, by simp, rfl, rfl, fun _ _ => rfl⟩ (by
    rintro i ⟨x, y, acc⟩ hi ⟨hx, hx', hy, hL, hrow⟩
    simp only at hx hx' hy hL hrow
    subst hy
    unfold m_laws_markInt64SS_s1
    simp only []
    rw [bif_t (by simp; omega), geti_lt (l := acc) (by omega)]
    have e : acc[i] = l[i] := by
      have := hrow i (Nat.le_refl _)
      rw [List.getElem?_eq_getElem (by omega), List.getElem?_eq_getElem hi] at this
      simpa using this
    have hri := hr _ (List.getElem_mem hi)
    simp only [bind_some', e]
    rw [markI_eq _ x (by omega) (by omega)]
    simp only [bind_some']
    left
    refine ⟨_, rfl, by simp only []; omega, by simp only []; omega, by simp only []; rw [wr_in (by omega)]; omega, by simpa using hL, fun j hj => ?_⟩
    simp only [Int.toNat_natCast]
    rw [List.getElem?_set_ne (by omega)]
    exact hrow j (by omega)) (by
    rintro ⟨x, y, acc⟩ ⟨hx, hx', hy, hL, hrow⟩
    simp only at hx hx' hy hL hrow
    subst hy
    unfold m_laws_markInt64SS_s1
    simp only []
    rw [bif_f (by simp; omega)]
    exact ⟨_, rfl, by simp only []; omega⟩)
  rw [h1]
  exact ⟨_, rfl, h2⟩
end Go.Proofs.Ytcknpoeannbpbaa

set_option linter.unusedSimpArgs false
set_option linter.unusedVariables false
set_option linter.unusedSectionVars false
namespace Go.Proofs.Ytcknpoeannbpbaa
open Go.RowKit

abbrev Mz := List (List Int)
def mzW (c : Mz) : Nat := (c.getD 0 []).length
def rowOk (W : Nat) (r : List Int) : Bool := decide (r.length = W) && r.all fun v => decide (0 ≤ v) && decide (v ≤ 9)
def mzOk (c : Mz) : Bool := decide (1 ≤ c.length) && decide (c.length ≤ 12) && (decide (1 ≤ mzW c) && decide (mzW c ≤ 12)) && c.all (rowOk (mzW c))
def cellV (c : Mz) (p : Pt) : Int := (c.getD p.2.toNat []).getD p.1.toNat 0
def hasC (c : Mz) (p : Pt) : Bool := decide (0 ≤ p.2) && decide (p.2 < c.length) && (decide (0 ≤ p.1) && decide (p.1 < mzW c))
def opn (c : Mz) (p : Pt) : Bool := hasC c p && decide (cellV c p ≠ 0)
theorem iin_eq (n a b : Int) : m_impl_in n a b = some (decide (a ≤ n) && decide (n ≤ b)) := by
  unfold m_impl_in
  by_cases h : n ≥ a
  · rw [bif_t (by simpa using h)]; simp [h]
  · rw [bif_f (by simpa using h)]; simp [h]
theorem sin_eq (n a b : Int) : m_spec_l00In n a b = some (decide (a ≤ n) && decide (n ≤ b)) := by
  unfold m_spec_l00In
  by_cases h : n ≥ a
  · rw [bif_t (by simpa using h)]; simp [h]
  · rw [bif_f (by simpa using h)]; simp [h]
theorem geti0 {c : Mz} (h : 1 ≤ c.length) : geti c 0 = some (c.getD 0 []) := by
  have : geti c ((0 : Nat) : Int) = some c[0] := geti_lt (by omega)
  rw [show ((0 : Nat) : Int) = 0 from rfl] at this
  rw [this, List.getD, List.getElem?_eq_getElem (by omega)]; rfl
theorem mzOk_t {c : Mz} (h : mzOk c = true) : 1 ≤ c.length ∧ c.length ≤ 12 ∧ 1 ≤ mzW c ∧ mzW c ≤ 12 ∧ ∀ r ∈ c, r.length = mzW c ∧ ∀ v ∈ r, 0 ≤ v ∧ v ≤ 9 := by
  unfold mzOk rowOk at h
  simp only [Bool.and_eq_true, decide_eq_true_eq, List.all_eq_true] at h
  exact ⟨h.1.1.1, h.1.1.2, h.1.2.1, h.1.2.2, h.2⟩
theorem row_at {c : Mz} (h : mzOk c = true) {y : Nat} (hy : y < c.length) : geti c (y : Int) = some (c.getD y []) ∧ (c.getD y []).length = mzW c ∧ ∀ v ∈ c.getD y [], 0 ≤ v ∧ v ≤ 9 := by
  have e : c.getD y [] = c[y] := by rw [List.getD, List.getElem?_eq_getElem hy]; rfl
  rw [e]
  obtain ⟨_, _, _, _, h5⟩ := mzOk_t h
  exact ⟨geti_lt hy, h5 _ (List.getElem_mem hy)⟩
theorem cell_at {c : Mz} (h : mzOk c = true) {p : Pt} (hp : hasC c p = true) : geti c p.2 = some (c.getD p.2.toNat []) ∧ geti (c.getD p.2.toNat []) p.1 = some (cellV c p) ∧ 0 ≤ cellV c p ∧ cellV c p ≤ 9 := by
  unfold hasC at hp
  simp only [Bool.and_eq_true, decide_eq_true_eq] at hp
  obtain ⟨⟨h1, h2⟩, h3, h4⟩ := hp
  obtain ⟨y, hy⟩ := Int.eq_ofNat_of_zero_le h1
  obtain ⟨x, hx⟩ := Int.eq_ofNat_of_zero_le h3
  obtain ⟨r1, r2, r3⟩ := row_at h (y := y) (by omega)
  unfold cellV
  rw [hy, hx]
  simp only [Int.toNat_natCast]
  have hlt : x < (c.getD y []).length := by omega
  have e : (c.getD y []).getD x 0 = (c.getD y [])[x] := by
    conv => lhs; rw [List.getD, List.getElem?_eq_getElem hlt]
    rfl
  rw [e]
  exact ⟨r1, geti_lt hlt, r3 _ (List.getElem_mem hlt)⟩
theorem implHas_eq {c : Mz} (h : mzOk c = true) (p : Pt) : m_impl_Maze_has_bimplMaze c p.1 p.2 = some (hasC c p) := by
  obtain ⟨h1, h2, h3, h4, _⟩ := mzOk_t h
  unfold m_impl_Maze_has_bimplMaze hasC
  rw [iin_eq, wr_in (by omega)]
  simp only [bind_some']
  by_cases c1 : 0 ≤ p.2 ∧ p.2 < c.length
  · rw [bif_t (by simp; omega), geti0 h1]
    simp only [bind_some']
    rw [iin_eq, wr_in (by unfold mzW at h4; omega)]
    simp only [bind_some', Option.some.injEq]
    rw [Bool.eq_iff_iff]
    simp only [Bool.and_eq_true, decide_eq_true_eq]
    unfold mzW
    omega
  · rw [bif_f (by simp; omega)]
    simp only [Option.some.injEq]
    symm
    simp only [Bool.and_eq_false_iff, decide_eq_false_iff_not]
    omega
theorem implOpen_eq {c : Mz} (h : mzOk c = true) (p : Pt) : m_impl_Maze_open_bimplMaze c p.1 p.2 = some (opn c p) := by
  unfold m_impl_Maze_open_bimplMaze opn
  rw [implHas_eq h]
  simp only [bind_some']
  cases hp : hasC c p with
  | false => rfl
  | true =>
    rw [bif_t (by rfl)]
    obtain ⟨e1, e2, _⟩ := cell_at h hp
    unfold m_impl_Maze_price_bimplMaze
    rw [e1]
    simp only [bind_some', e2, Bool.true_and, Option.some.injEq]
    by_cases c0 : cellV c p = 0 <;> simp [c0]
theorem specOpen_eq {c : Mz} (h : mzOk c = true) (p : Pt) : m_spec_l04Open_bimplMaze c p.1 p.2 = some (opn c p) := by
  obtain ⟨h1, h2, h3, h4, _⟩ := mzOk_t h
  unfold m_spec_l04Open_bimplMaze opn
  rw [sin_eq, wr_in (by omega)]
  simp only [bind_some']
  by_cases c1 : 0 ≤ p.2 ∧ p.2 < c.length
  · rw [bif_t (by simp; omega), geti0 h1]
    simp only [bind_some']
    rw [sin_eq, wr_in (by unfold mzW at h4; omega)]
    simp only [bind_some']
    by_cases c2 : 0 ≤ p.1 ∧ p.1 < mzW c
    · have hp : hasC c p = true := by unfold hasC; simp [c1, c2]
      obtain ⟨e1, e2, e3, _⟩ := cell_at h hp
      rw [bif_t (by simp only [Bool.and_eq_true, decide_eq_true_eq]; unfold mzW at c2; omega), e1]
      simp only [bind_some', e2, hp, Bool.true_and, Option.some.injEq]
      rw [Bool.eq_iff_iff]
      simp only [decide_eq_true_eq]
      omega
    · have hp : hasC c p = false := by
        unfold hasC
        simp only [Bool.and_eq_false_iff, decide_eq_false_iff_not]
        omega
      rw [bif_f (by simp only [Bool.and_eq_false_iff, decide_eq_false_iff_not]; unfold mzW at c2; omega), hp]; rfl
  · have hp : hasC c p = false := by
      unfold hasC
      simp only [Bool.and_eq_false_iff, decide_eq_false_iff_not]
      omega
    rw [bif_f (by simp; omega), hp]; rfl
end Go.Proofs.Ytcknpoeannbpbaa

set_option linter.unusedSimpArgs false
set_option linter.unusedVariables false
set_option linter.unusedSectionVars false
namespace Go.Proofs.Ytcknpoeannbpbaa
open Go.RowKit

def valB (r : List Int) : Bool := r.all fun v => decide (0 ≤ v) && decide (v ≤ 9)
theorem valB_any (r : List Int) : anyIn 0 r.length (fun k => !(decide (0 ≤ r.getD k 0) && decide (r.getD k 0 ≤ 9))) = !valB r := by
  have hg : ∀ k (hk : k < r.length), r.getD k 0 = r[k] := fun k hk => by rw [List.getD, List.getElem?_eq_getElem hk]; rfl
  cases h : valB r with
  | true =>
    rw [Bool.not_true, anyIn_f]
    intro k _ hk
    rw [hg k hk, Bool.not_eq_false']
    exact List.all_eq_true.1 h _ (List.getElem_mem hk)
  | false =>
    rw [Bool.not_false, anyIn_t]
    obtain ⟨v, hv, hb⟩ := List.all_eq_false.1 h
    obtain ⟨k, hk, rfl⟩ := List.mem_iff_getElem.1 hv
    exact ⟨k, by omega, hk, by rw [hg k hk, Bool.not_eq_true']; exact Bool.eq_false_iff.2 hb⟩
theorem contV_eq (r : List Int) (hb : r.length ≤ 140737488355328) : m_slices_ContainsFunc_int64_int64_impl_ValidMaze_1 r = some (!valB r) := by
  unfold m_slices_ContainsFunc_int64_int64_impl_ValidMaze_1 m_slices_IndexFunc_int64_int64_impl_ValidMaze_1
  obtain ⟨x, hx, hJ⟩ := loopM_count (m_slices_IndexFunc_int64_int64_impl_ValidMaze_1_s1 r) r.length (fun k s => s = (k : Int) ∧ ∀ j, 0 ≤ j → j < k → (fun k => !(decide (0 ≤ r.getD k 0) && decide (r.getD k 0 ≤ 9))) j = false)
    (fun q => (q = Sum.inl () ∧ valB r = true) ∨ ∃ k : Nat, q = Sum.inr (k : Int) ∧ valB r = false) (s0 := 0) ⟨rfl, fun j _ h => by omega⟩ (by
    rintro k _ hk ⟨rfl, hall⟩
    unfold m_slices_IndexFunc_int64_int64_impl_ValidMaze_1_s1 m_impl_ValidMaze_1
    simp only []
    have hg : r.getD k 0 = r[k] := by rw [List.getD, List.getElem?_eq_getElem hk]; rfl
    rw [bif_t (by simpa using hk), geti_lt hk]
    simp only [bind_some', iin_eq]
    cases h : (!(decide (0 ≤ r[k]) && decide (r[k] ≤ 9))) with
    | false =>
      left
      refine ⟨_, bif_f (by simp), ?_, fun j h0 hjk => ?_⟩
      · rw [wr_in (by omega)]; omega
      · by_cases e : j = k
        · subst e; show (!(decide (0 ≤ r.getD j 0) && decide (r.getD j 0 ≤ 9))) = false; rw [hg]; exact h
        · exact hall j h0 (by omega)
    | true =>
      right
      refine ⟨_, bif_t (by simp), Or.inr ⟨k, rfl, ?_⟩⟩
      have := valB_any r
      rw [anyIn_t.2 ⟨k, by omega, hk, by rw [hg]; exact h⟩] at this
      simpa using this.symm) (by
    rintro _ ⟨rfl, hall⟩
    unfold m_slices_IndexFunc_int64_int64_impl_ValidMaze_1_s1
    simp only []
    refine ⟨_, bif_f (by simp), Or.inl ⟨rfl, ?_⟩⟩
    have := valB_any r
    rw [anyIn_f.2 (fun k h0 hk => hall k h0 hk)] at this
    simpa using this.symm)
  rw [hx]
  rcases hJ with ⟨rfl, h⟩ | ⟨k, rfl, h⟩
  · simp only [bind_some', h]; rfl
  · simp only [bind_some', h, Bool.not_false, Option.some.injEq, decide_eq_true_eq]; omega
theorem rows_any (c : Mz) (W : Nat) : anyIn 0 c.length (fun k => !rowOk W (c.getD k [])) = !c.all (rowOk W) := by
  have hg : ∀ k (hk : k < c.length), c.getD k [] = c[k] := fun k hk => by rw [List.getD, List.getElem?_eq_getElem hk]; rfl
  cases h : c.all (rowOk W) with
  | true =>
    rw [Bool.not_true, anyIn_f]
    intro k _ hk
    rw [hg k hk, Bool.not_eq_false']
    exact List.all_eq_true.1 h _ (List.getElem_mem hk)
  | false =>
    rw [Bool.not_false, anyIn_t]
    obtain ⟨v, hv, hb⟩ := List.all_eq_false.1 h
    obtain ⟨k, hk, rfl⟩ := List.mem_iff_getElem.1 hv
    exact ⟨k, by omega, hk, by rw [hg k hk]; simpa using hb⟩
theorem implValid_eq (c : Mz) (hc : c.length ≤ 140737488355328) (hb : ∀ r ∈ c, r.length ≤ 140737488355328) : m_impl_ValidMaze c = some (mzOk c) := by
  unfold m_impl_ValidMaze mzOk
  rw [iin_eq]
  simp only [bind_some']
  by_cases c1 : 1 ≤ c.length ∧ c.length ≤ 12
  · rw [bif_f (by simp; omega), geti0 c1.1]
    simp only [bind_some']
    rw [iin_eq]
    simp only [bind_some']
    by_cases c2 : 1 ≤ mzW c ∧ mzW c ≤ 12
    · rw [bif_f (by simp only [Bool.not_eq_false', Bool.and_eq_true, decide_eq_true_eq]; unfold mzW at c2; omega)]
      have hl := loop_any (step := m_impl_ValidMaze_s1 c) 0 c.length (fun k => !rowOk (mzW c) (c.getD k [])) false (by omega) (by
        intro k _ hk _
        have hg : c.getD k [] = c[k] := by rw [List.getD, List.getElem?_eq_getElem hk]; rfl
        unfold m_impl_ValidMaze_s1
        simp only []
        rw [bif_t (by simpa using hk), geti_lt hk, geti0 c1.1]
        simp only [bind_some']
        rw [hg]
        unfold rowOk
        by_cases c3 : c[k].length = mzW c
        · rw [bif_f (by unfold mzW at c3; simp only [bne_eq_false_iff_eq]; omega), contV_eq _ (hb _ (List.getElem_mem hk))]
          simp only [bind_some', c3, decide_true, Bool.true_and]
          show (bif !valB c[k] then _ else _) = some (if (!valB c[k]) = true then _ else _)
          cases valB c[k] with
          | true => simp; rw [wr_in (by omega)]
          | false => simp
        · rw [bif_t (by unfold mzW at c3; simp only [bne_iff_ne, ne_eq]; omega)]
          simp [c3]) (by
        unfold m_impl_ValidMaze_s1
        simp only []
        rw [bif_f (by simp)])
      rw [show ((0 : Nat) : Int) = 0 from rfl] at hl
      rw [hl, rows_any]
      simp only [c1, c2, decide_true, Bool.true_and]
      cases c.all (rowOk (mzW c)) <;> rfl
    · rw [bif_t (by simp only [Bool.not_eq_true', Bool.and_eq_false_iff, decide_eq_false_iff_not]; unfold mzW at c2; omega)]
      simp only [Option.some.injEq]
      symm
      simp only [Bool.and_eq_false_iff, decide_eq_false_iff_not]
      omega
  · rw [bif_t (by simp; omega)]
    simp only [Option.some.injEq]
    symm
    simp only [Bool.and_eq_false_iff, decide_eq_false_iff_not]
    omega
theorem specIs_eq (c : Mz) (hc : c.length ≤ 140737488355328) (hb : ∀ r ∈ c, r.length ≤ 140737488355328) : m_spec_l04Is_bimplMaze c = some (mzOk c) := by
  unfold m_spec_l04Is_bimplMaze mzOk
  rw [sin_eq]
  simp only [bind_some']
  by_cases c1 : 1 ≤ c.length ∧ c.length ≤ 12
  · rw [bif_f (by simp; omega), geti0 c1.1]
    simp only [bind_some']
    rw [sin_eq]
    simp only [bind_some']
    by_cases c2 : 1 ≤ mzW c ∧ mzW c ≤ 12
    · rw [bif_f (by simp only [Bool.not_eq_false', Bool.and_eq_true, decide_eq_true_eq]; unfold mzW at c2; omega)]
      have hl := loop_any (step := m_spec_l04Is_bimplMaze_s3 c) 0 c.length (fun k => !rowOk (mzW c) (c.getD k [])) false (by omega) (by
        intro k _ hk _
        have hg : c.getD k [] = c[k] := by rw [List.getD, List.getElem?_eq_getElem hk]; rfl
        unfold m_spec_l04Is_bimplMaze_s3
        simp only []
        rw [bif_t (by simpa using hk), geti_lt hk, geti0 c1.1]
        simp only [bind_some']
        rw [hg]
        unfold rowOk
        by_cases c3 : c[k].length = mzW c
        · have hin := loop_any (step := m_spec_l04Is_bimplMaze_s4 c (k : Int)) 0 c[k].length (fun j => !(decide (0 ≤ c[k].getD j 0) && decide (c[k].getD j 0 ≤ 9))) false (by omega) (by
            intro j _ hj _
            have hbk := hb _ (List.getElem_mem hk)
            have hgj : c[k].getD j 0 = c[k][j] := by rw [List.getD, List.getElem?_eq_getElem hj]; rfl
            unfold m_spec_l04Is_bimplMaze_s4
            simp only []
            rw [geti_lt hk]
            simp only [bind_some']
            rw [bif_t (by simpa using hj), geti_lt hj]
            simp only [bind_some', sin_eq, hgj]
            cases (decide (0 ≤ c[k][j]) && decide (c[k][j] ≤ 9)) with
            | true => simp; rw [wr_in (by omega)]
            | false => simp) (by
            unfold m_spec_l04Is_bimplMaze_s4
            simp only []
            rw [geti_lt hk]
            simp only [bind_some']
            rw [bif_f (by simp)])
          rw [show ((0 : Nat) : Int) = 0 from rfl] at hin
          rw [bif_f (by unfold mzW at c3; simp only [bne_eq_false_iff_eq]; omega), hin, valB_any]
          simp only [bind_some', c3, decide_true, Bool.true_and]
          show _ = some (if (!valB c[k]) = true then _ else _)
          cases valB c[k] with
          | true => simp; rw [wr_in (by omega)]
          | false => simp
        · rw [bif_t (by unfold mzW at c3; simp only [bne_iff_ne, ne_eq]; omega)]
          simp [c3]) (by
        unfold m_spec_l04Is_bimplMaze_s3
        simp only []
        rw [bif_f (by simp)])
      rw [show ((0 : Nat) : Int) = 0 from rfl] at hl
      rw [hl, rows_any]
      simp only [c1, c2, decide_true, Bool.true_and]
      cases c.all (rowOk (mzW c)) <;> rfl
    · rw [bif_t (by simp only [Bool.not_eq_true', Bool.and_eq_false_iff, decide_eq_false_iff_not]; unfold mzW at c2; omega)]
      simp only [Option.some.injEq]
      symm
      simp only [Bool.and_eq_false_iff, decide_eq_false_iff_not]
      omega
  · rw [bif_t (by simp; omega)]
    simp only [Option.some.injEq]
    symm
    simp only [Bool.and_eq_false_iff, decide_eq_false_iff_not]
    omega
end Go.Proofs.Ytcknpoeannbpbaa
