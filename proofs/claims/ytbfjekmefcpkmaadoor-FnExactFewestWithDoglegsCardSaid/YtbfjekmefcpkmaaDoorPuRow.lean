/- Lists of lists: they are weighed, copied, compared, marked. -/
import Derived.Test.YtbfjekmefcpkmaaDoorPuSS
import Derived.Test.YtbfjekmefcpkmaaDoorPcP1
set_option linter.unusedSimpArgs false
set_option linter.unusedVariables false
namespace Go.Proofs.YtbfjekmefcpkmaaDoor
open Go.RowKit

theorem Laid.all' {α : Type} {l acc : List α} {n : Nat} (h : Laid l acc n) (hn : l.length = n) : acc = l := by subst hn; exact h.all
def seqI (k : Int) (n : Nat) : List Int := (List.range n).map fun (j : Nat) => k + (j : Int)
theorem seqI_len (k : Int) (n : Nat) : (seqI k n).length = n := by simp [seqI]
theorem seqI_at {k : Int} {n i : Nat} (h : i < (seqI k n).length) : (seqI k n)[i] = k + i := by simp [seqI]
theorem markI_eq (l : List Int) (k : Int) (h0 : 0 ≤ k) (hb : k + l.length ≤ 4611686018427387904) : m_laws_markInt64S l k = some (k + l.length, seqI k l.length) := by
  unfold m_laws_markInt64S
  have hl : loopM m_laws_markInt64S_s1 (k, 0, l) = some (k + l.length, seqI k l.length) := by
    refine loopM_val _ l.length (fun i s => s.1 = k + i ∧ s.2.1 = (i : Int) ∧ Laid (seqI k l.length) s.2.2 i) ⟨by simp, rfl, Laid.zero _ _ (by rw [seqI_len])⟩ ?_ ?_
    · rintro i ⟨x, y, acc⟩ hi ⟨hx, hy, hL⟩
      simp only at hx hy hL
      subst hx; subst hy
      have hal : acc.length = l.length := by rw [hL.1, seqI_len]
      unfold m_laws_markInt64S_s1
      simp only []
      rw [bif_t (by simp; omega), geti_lt (l := acc) (by omega)]
      left
      refine ⟨_, rfl, by simp only []; rw [wr_in (by omega)]; omega, by simp only []; rw [wr_in (by omega)]; omega, ?_⟩
      have := hL.succ (by rw [seqI_len]; exact hi)
      rw [seqI_at] at this
      simpa using this
    · rintro ⟨x, y, acc⟩ ⟨hx, hy, hL⟩
      simp only at hx hy hL
      subst hx; subst hy
      have hal : acc.length = l.length := by rw [hL.1, seqI_len]
      unfold m_laws_markInt64S_s1
      simp only []
      rw [bif_f (by simp; omega), hL.all' (seqI_len k l.length)]
  rw [hl]; rfl
theorem heldI_eq (n : Nat) (k : Int) (h0 : 0 ≤ k) (hb : k + n ≤ 4611686018427387904) : m_laws_heldInt64S (seqI k n) k = some (k + n) := by
  unfold m_laws_heldInt64S
  have hl : loopM (m_laws_heldInt64S_s1 (seqI k n)) (k, 0) = some (Sum.inl (k + n)) := by
    refine loopM_val _ n (fun i s => s = (k + i, (i : Int))) (by simp) ?_ ?_
    · rintro i _ hi rfl
      unfold m_laws_heldInt64S_s1
      simp only []
      rw [bif_t (by rw [seqI_len]; simpa using hi), geti_lt (by rw [seqI_len]; exact hi), seqI_at]
      left
      refine ⟨_, by simp [bind_some']; rfl, ?_⟩
      rw [wr_in (by omega), wr_in (by omega)]
      simp; omega
    · rintro _ rfl
      unfold m_laws_heldInt64S_s1
      simp only []
      rw [bif_f (by rw [seqI_len]; simp)]
  rw [hl]; rfl
def offs (k : Int) (l : List (List Int)) : Nat → Int
  | 0 => k
  | i + 1 => offs k l i + (l.getD i []).length
def tgt (k : Int) (l : List (List Int)) : List (List Int) := (List.range l.length).map fun (i : Nat) => seqI (offs k l i) (l.getD i []).length
theorem tgt_len (k : Int) (l : List (List Int)) : (tgt k l).length = l.length := by simp [tgt]
theorem tgt_at {k : Int} {l : List (List Int)} {i : Nat} (h : i < (tgt k l).length) : (tgt k l)[i] = seqI (offs k l i) (l.getD i []).length := by simp [tgt]
theorem offs_le {k : Int} {l : List (List Int)} (hr : ∀ r ∈ l, r.length ≤ 1048576) : ∀ i, i ≤ l.length → k ≤ offs k l i ∧ offs k l i ≤ k + 1048576 * i
  | 0, _ => by simp [offs]
  | i + 1, h => by
    have h1 := offs_le (k := k) hr i (by omega)
    have h2 := hr _ (List.getElem_mem (show i < l.length by omega))
    have e : l.getD i [] = l[i] := by simp [List.getD, List.getElem?_eq_getElem (show i < l.length by omega)]
    show k ≤ offs k l i + _ ∧ offs k l i + _ ≤ _
    rw [e]; omega
theorem getD_lt {l : List (List Int)} {i : Nat} (h : i < l.length) : l.getD i [] = l[i] := by simp [List.getD, List.getElem?_eq_getElem h]
theorem markR_eq (l : List (List Int)) (k : Int) (h0 : 0 ≤ k) (hk : k ≤ 1125899906842624) (hb : l.length ≤ 1048576) (hr : ∀ r ∈ l, r.length ≤ 1048576) : m_laws_markInt64SS l k = some (offs k l l.length, tgt k l) := by
  unfold m_laws_markInt64SS
  have hl : loopM m_laws_markInt64SS_s1 (k, 0, l) = some (offs k l l.length, tgt k l) := by
    refine loopM_val _ l.length (fun i s => s.1 = offs k l i ∧ s.2.1 = (i : Int) ∧ Laid (tgt k l) s.2.2 i ∧ ∀ j, i ≤ j → s.2.2[j]? = l[j]?) ⟨rfl, rfl, Laid.zero _ _ (by rw [tgt_len]), fun _ _ => rfl⟩ ?_ ?_
    · rintro i ⟨x, y, acc⟩ hi ⟨hx, hy, hL, hrow⟩
      simp only at hx hy hL hrow
      subst hx; subst hy
      have hal : acc.length = l.length := by rw [hL.1, tgt_len]
      have ho := offs_le hr (k := k) i (by omega)
      have hri := hr _ (List.getElem_mem hi)
      unfold m_laws_markInt64SS_s1
      simp only []
      rw [bif_t (by simp; omega), geti_lt (l := acc) (by omega)]
      have e : acc[i] = l[i] := by
        have := hrow i (Nat.le_refl _)
        rw [List.getElem?_eq_getElem (by omega), List.getElem?_eq_getElem hi] at this
        simpa using this
      simp only [bind_some', e]
      rw [markI_eq _ _ (by omega) (by omega)]
      simp only [bind_some']
      left
      refine ⟨_, rfl, by show _ = offs k l i + _; rw [getD_lt hi], by simp only []; rw [wr_in (by omega)]; omega, ?_, fun j hj => ?_⟩
      · have := hL.succ (by rw [tgt_len]; exact hi)
        rw [tgt_at, getD_lt hi] at this
        simpa using this
      · simp only [Int.toNat_natCast]
        rw [List.getElem?_set_ne (by omega)]
        exact hrow j (by omega)
    · rintro ⟨x, y, acc⟩ ⟨hx, hy, hL, hrow⟩
      simp only at hx hy hL
      subst hx; subst hy
      have hal : acc.length = l.length := by rw [hL.1, tgt_len]
      unfold m_laws_markInt64SS_s1
      simp only []
      rw [bif_f (by simp; omega), hL.all' (tgt_len k l)]
  rw [hl]; rfl
theorem heldR_eq (l : List (List Int)) (k : Int) (h0 : 0 ≤ k) (hk : k ≤ 1125899906842624) (hb : l.length ≤ 1048576) (hr : ∀ r ∈ l, r.length ≤ 1048576) : m_laws_heldInt64SS (tgt k l) k = some (offs k l l.length) := by
  unfold m_laws_heldInt64SS
  have hl : loopM (m_laws_heldInt64SS_s1 (tgt k l)) (k, 0) = some (Sum.inl (offs k l l.length)) := by
    refine loopM_val _ l.length (fun i s => s = (offs k l i, (i : Int))) rfl ?_ ?_
    · rintro i _ hi rfl
      have ho := offs_le hr (k := k) i (by omega)
      have ho' := offs_le hr (k := k) (i + 1) (by omega)
      have hri := hr _ (List.getElem_mem hi)
      unfold m_laws_heldInt64SS_s1
      simp only []
      rw [bif_t (by rw [tgt_len]; simpa using hi), geti_lt (by rw [tgt_len]; exact hi), tgt_at, getD_lt hi]
      simp only [bind_some']
      rw [heldI_eq _ _ (by omega) (by omega)]
      simp only [bind_some']
      left
      refine ⟨_, by rw [bif_f (by simp; omega)], ?_⟩
      rw [wr_in (by omega)]
      show (offs k l i + _, _) = (offs k l i + _, _)
      rw [getD_lt hi]; rfl
    · rintro _ rfl
      unfold m_laws_heldInt64SS_s1
      simp only []
      rw [bif_f (by rw [tgt_len]; simp)]
  rw [hl]; rfl
/-! ### Lists of lists of points -/
end Go.Proofs.YtbfjekmefcpkmaaDoor
