/- The left edge rule: nets in the order of their first columns. The left edge rule: one track after the other. The left edge rule gives a routing, with as many tracks as the density. What the reference's check of tracks tells: a routing. The law of channels. -/
import Derived.Test.YtbfjekmefcpkmaaDoorPeP0
import Derived.Test.YtbfjekmefcpkmaaDoorPdP
set_option linter.unusedSimpArgs false
set_option linter.unusedVariables false
set_option linter.unusedSectionVars false
namespace Go.Proofs.YtbfjekmefcpkmaaDoor
open Go.RowKit

section
variable {T U : List Int}
/-- The first and the last column of a net. -/
def lo (T U : List Int) (a : Nat) : Int := loC T U (a : Int)
def hi (T U : List Int) (a : Nat) : Int := hiC T U (a : Int)
theorem net_ne {a : Nat} (h : a ∈ netL T U) : colsL T U (a : Int) ≠ [] := fun e => by
 have := (mem_netL.1 h).2
 rw [e] at this; simp at this
theorem lo_hi {a : Nat} (h : a ∈ netL T U) : 0 ≤ lo T U a ∧ lo T U a ≤ hi T U a ∧ lo T U a < (T.length : Int) ∧ hi T U a < (T.length : Int) := by
 have hne := net_ne h
 have hs := cols_sorted (T := T) (U := U) (a : Int)
 have hlt := cols_lt (T := T) (U := U) (a := (a : Int))
 unfold lo hi loC hiC
 obtain ⟨x, r, e⟩ : ∃ x r, colsL T U (a : Int) = x :: r := by
  cases h : colsL T U (a : Int) with
  | nil => exact absurd h hne
  | cons x r => exact ⟨x, r, rfl⟩
 rw [e] at hs hlt ⊢
 have h2 : (x :: r).getLast? = some ((x :: r).getLast (by simp)) := List.getLast?_eq_some_getLast (by simp)
 rw [h2]
 simp only [List.head?_cons, Option.map_some, Option.getD_some]
 have hl := List.getLast_mem (l := x :: r) (by simp)
 have h3 := hlt _ hl
 have h4 := hlt x List.mem_cons_self
 have h5 : x ≤ (x :: r).getLast (by simp) := by
  rcases List.mem_cons.1 hl with h | h
  ·omega
  ·exact Nat.le_of_lt ((List.pairwise_cons.1 hs).1 _ h)
 omega
theorem spanN (P : Pins T U) {a : Nat} (h : a ∈ netL T U) : m_iChannSpan T U (a : Int) = some (lo T U a, hi T U a) := span_eq P.len P.small _ (net_ne h)
theorem cmp_eq (P : Pins T U) {a b : Nat} (ha : a ∈ netL T U) (hb : b ∈ netL T U) : ∃ y, m_iLeftE1 (a : Int) (b : Int) T U = some y ∧ decide (y < 0) = decide (lo T U a < lo T U b) := by
 unfold m_iLeftE1 m_cCmpCompa m_cCmpIsNaN
 rw [spanN P ha, spanN P hb]
 simp only [Option.bind_some, bne_self_eq_false, cond_false]
 by_cases h1 : lo T U a < lo T U b
 ·rw [bif_t (decide_eq_true h1)]
  exact ⟨_, rfl, by rw [decide_eq_true h1]; rfl⟩
 ·rw [bif_f (decide_eq_false h1)]
  by_cases h2 : lo T U a > lo T U b
  ·rw [bif_t (decide_eq_true h2)]
   exact ⟨_, rfl, by rw [decide_eq_false h1]; rfl⟩
  ·rw [bif_f (decide_eq_false h2)]
   exact ⟨_, rfl, by rw [decide_eq_false h1]; rfl⟩
/-- In order up to a place, but for the one at j. -/
def Srtd (T U : List Int) (L : List Nat) (i j : Nat) : Prop := ∀ p q (hp : p < L.length) (hq : q < L.length), p < q → q ≤ i → q ≠ j → lo T U L[p] ≤ lo T U L[q]
theorem cI_set (L : List Nat) (i x : Nat) : (cI L).set i (x : Int) = cI (L.set i x) := by
 unfold cI
 rw [List.map_set]
theorem ins_inner (P : Pins T U) {i : Nat} : ∀ (j : Nat) (L : List Nat), (∀ a ∈ L, a ∈ netL T U) → i < L.length → L.length ≤ 1000 → j ≤ i → Srtd T U L i j →
  ∃ L', loopM (m_sInserLeftE_s4 0 T U) ((j : Int), cI L) = some (cI L') ∧ L'.Perm L ∧ Srtd T U L' i L'.length
 | 0, L, hL, hi, hlen, hj, hs => by
  refine ⟨L, loopM_out ?_, List.Perm.refl _, fun p q hp hq hpq hqi _ => hs p q hp hq hpq hqi (by omega)⟩
  unfold m_sInserLeftE_s4
  dsimp only
  rw [bif_f (by rfl)]
 | j + 1, L, hL, hi, hlen, hj, hs => by
  have hj1 : j + 1 < L.length := by omega
  have hj0 : j < L.length := by omega
  have ha := hL _ (List.getElem_mem hj1)
  have hb := hL _ (List.getElem_mem hj0)
  obtain ⟨y, hy, hc⟩ := cmp_eq P ha hb
  have ew : wr (((j + 1 : Nat) : Int) - 1) = (j : Int) := by rw [wr_in (by omega)]; omega
  have hg1 : geti (cI L) ((j + 1 : Nat) : Int) = some ((L[j + 1] : Nat) : Int) := geti_cI hj1
  have hg0 : geti (cI L) ((j : Nat) : Int) = some ((L[j] : Nat) : Int) := geti_cI hj0
  by_cases hlt : lo T U L[j + 1] < lo T U L[j]
  ·-- they change places
   have hperm : ((L.set (j + 1) L[j]).set j L[j + 1]).Perm L := List.set_set_perm hj1 hj0
   have hlen' : ((L.set (j + 1) L[j]).set j L[j + 1]).length = L.length := by simp
   have hget : ∀ p (hp : p < ((L.set (j + 1) L[j]).set j L[j + 1]).length), ((L.set (j + 1) L[j]).set j L[j + 1])[p] = if p = j then L[j + 1] else if p = j + 1 then L[j] else L[p]'(by rw [hlen'] at hp; exact hp) := fun p hp => by
    rw [List.getElem_set, List.getElem_set]
    by_cases e1 : j = p
    ·subst e1; simp
    ·have e1' : ¬ p = j := fun h => e1 h.symm
     by_cases e2 : j + 1 = p
     ·subst e2; simp
     ·have e2' : ¬ p = j + 1 := fun h => e2 h.symm
      simp only [if_neg e1, if_neg e2, if_neg e1', if_neg e2']
   obtain ⟨L', h1, h2, h3⟩ := ins_inner P j ((L.set (j + 1) L[j]).set j L[j + 1]) (fun a h => hL a (hperm.mem_iff.1 h)) (by rw [hlen']; exact hi) (by rw [hlen']; exact hlen) (by omega) (fun p q hp hq hpq hqi hne => by
    rw [hget p hp, hget q hq]
    rw [hlen'] at hp hq
    rw [if_neg hne]
    by_cases eq : q = j + 1
    ·rw [if_pos eq]
     by_cases ep : p = j
     ·rw [if_pos ep]; omega
     ·rw [if_neg ep, if_neg (by omega)]
      exact hs p j hp hj0 (by omega) (by omega) (by omega)
    ·rw [if_neg eq]
     by_cases ep : p = j
     ·rw [if_pos ep]
      exact hs (j + 1) q hj1 hq (by omega) hqi (by omega)
     ·rw [if_neg ep]
      by_cases ep1 : p = j + 1
      ·rw [if_pos ep1]
       exact hs j q hj0 hq (by omega) hqi (by omega)
      ·rw [if_neg ep1]
       exact hs p q hp hq hpq hqi (by omega))
   refine ⟨L', ?_, h2.trans hperm, h3⟩
   have step : m_sInserLeftE_s4 0 T U (((j + 1 : Nat) : Int), cI L) = some (.next ((j : Int), cI ((L.set (j + 1) L[j]).set j L[j + 1]))) := by
    unfold m_sInserLeftE_s4
    dsimp only
    rw [bif_t (by rw [decide_eq_true_eq]; omega), hg1, ew, hg0]
    simp only [Option.bind_some]
    rw [hy]
    simp only [Option.bind_some]
    rw [hc, bif_t (decide_eq_true hlt), Int.toNat_natCast, Int.toNat_natCast, cI_set, cI_set]
    have hg2 : geti (cI (L.set (j + 1) L[j])) (j : Int) = some (((L.set (j + 1) L[j])[j]'(by simp; omega) : Nat) : Int) := geti_cI (by simp; omega)
    rw [hg2]
    rfl
   rw [loopM_next step]
   exact h1
  ·refine ⟨L, loopM_out ?_, List.Perm.refl _, fun p q hp hq hpq hqi _ => ?_⟩
   ·unfold m_sInserLeftE_s4
    dsimp only
    rw [bif_t (by rw [decide_eq_true_eq]; omega), hg1, ew, hg0]
    simp only [Option.bind_some]
    rw [hy]
    simp only [Option.bind_some]
    rw [hc, bif_f (decide_eq_false hlt)]
   ·by_cases e : q = j + 1
    ·subst e
     by_cases ep : p = j
     ·subst ep; omega
     ·have := hs p j hp hj0 (by omega) (by omega) (by omega)
      omega
    ·exact hs p q hp hq hpq hqi e
theorem ins_sort (P : Pins T U) {L : List Nat} (hL : ∀ a ∈ L, a ∈ netL T U) (hlen : L.length ≤ 1000) :
  ∃ L', m_sInserLeftE (cI L) 0 ((L.length : Nat) : Int) T U = some (cI L') ∧ L'.Perm L ∧ L'.Pairwise fun a b => lo T U a ≤ lo T U b := by
 obtain ⟨r, hr, L', rfl, h1, h2⟩ := loopM_count (m_sInserLeftE_s3 0 ((L.length : Nat) : Int) T U) (L.length - 1)
  (fun k s => ∃ L', s = (((k + 1 : Nat) : Int), cI L') ∧ L'.Perm L ∧ Srtd T U L' k L'.length)
  (fun r => ∃ L', r = cI L' ∧ L'.Perm L ∧ L'.Pairwise fun a b => lo T U a ≤ lo T U b) (s0 := (wr (0 + 1), cI L)) ⟨L, rfl, List.Perm.refl _, fun p q _ _ h1 h2 => by omega⟩
  (fun k s hk hI => by
   obtain ⟨L1, rfl, hp, hs⟩ := hI
   left
   have hl := hp.length_eq
   obtain ⟨L2, h1, h2, h3⟩ := ins_inner P (i := k + 1) (k + 1) L1 (fun a h => hL a (hp.mem_iff.1 h)) (by omega) (by omega) (Nat.le_refl _) (fun p q h1 h2 h3 h4 h5 => hs p q h1 h2 h3 (by omega) (by omega))
   refine ⟨(((k + 1 + 1 : Nat) : Int), cI L2), ?_, L2, rfl, h2.trans hp, h3⟩
   unfold m_sInserLeftE_s3
   dsimp only
   rw [bif_t (by rw [decide_eq_true_eq]; omega), h1, wr_suc (by omega)]
   rfl)
  (fun s hI => by
   obtain ⟨L1, rfl, hp, hs⟩ := hI
   have hl := hp.length_eq
   refine ⟨cI L1, ?_, L1, rfl, hp, ?_⟩
   ·unfold m_sInserLeftE_s3
    dsimp only
    rw [bif_f (by rw [decide_eq_false_iff_not]; omega)]
   ·rw [List.pairwise_iff_getElem]
    intro p q h1 h2 h3
    exact hs p q h1 h2 h3 (by omega) (by omega))
 refine ⟨L', ?_, h1, h2⟩
 unfold m_sInserLeftE
 rw [hr]
 rfl
theorem stable_eq (P : Pins T U) {L : List Nat} (hL : ∀ a ∈ L, a ∈ netL T U) (hlen : L.length ≤ 12) :
  ∃ L', m_sSortSLeftE (cI L) T U = some (cI L') ∧ L'.Perm L ∧ L'.Pairwise fun a b => lo T U a ≤ lo T U b := by
 obtain ⟨L', h1, h2, h3⟩ := ins_sort P hL (by omega)
 refine ⟨L', ?_, h2, h3⟩
 have e1 : loopM (m_sStablLeftE_s1 ((L.length : Nat) : Int) T U) (0, 20, cI L) = some (0, cI L) := loopM_out (by
  unfold m_sStablLeftE_s1
  dsimp only
  rw [bif_f (by rw [decide_eq_false_iff_not]; omega)])
 have e2 : loopM (m_sStablLeftE_s6 ((L.length : Nat) : Int)) 20 = some () := loopM_out (by
  unfold m_sStablLeftE_s6
  dsimp only
  rw [bif_f (by rw [decide_eq_false_iff_not]; omega)])
 unfold m_sSortSLeftE m_sStablLeftE
 rw [cI_len, e1]
 simp only [Option.bind_some]
 rw [h1]
 simp only [Option.bind_some]
 rw [e2]
 rfl
end
end Go.Proofs.YtbfjekmefcpkmaaDoor

set_option linter.unusedSimpArgs false
set_option linter.unusedVariables false
set_option linter.unusedSectionVars false
namespace Go.Proofs.YtbfjekmefcpkmaaDoor
open Go.RowKit

section
variable {T U : List Int}
/-- What a track takes of a list, from a column on: the last column, what it takes, what it leaves. -/
def gr (T U : List Int) : List Nat → Int → Int × List Nat × List Nat
 | [], e => (e, [], [])
 | a :: L, e => if lo T U a ≤ e then ((gr T U L e).1, (gr T U L e).2.1, a :: (gr T U L e).2.2) else ((gr T U L (hi T U a)).1, a :: (gr T U L (hi T U a)).2.1, (gr T U L (hi T U a)).2.2)
theorem del_eq (P : Pins T U) {a : Nat} (ha : a ∈ netL T U) {e : Int} {t : List Nat} (ht : t.length ≤ 1000) :
  m_iLeftE2 (a : Int) T U e (cI t) = some (if lo T U a ≤ e then (false, e, cI t) else (true, hi T U a, cI (t ++ [a]))) := by
 unfold m_iLeftE2
 rw [spanN P ha]
 simp only [Option.bind_some]
 by_cases h : lo T U a ≤ e
 ·rw [bif_t (decide_eq_true h), if_pos h]
 ·rw [bif_f (decide_eq_false h), if_neg h, apC_sm (by rw [cI_len]; simp; omega)]
  simp [cI]
/-- Where the first one is taken. -/
theorem idx_eq (P : Pins T U) {L : List Nat} (hL : ∀ a ∈ L, a ∈ netL T U) (hlen : L.length ≤ 100) {e : Int} : ∀ (R : List Nat) (p : Nat), L.drop p = R → p ≤ L.length →
  (gr T U R e = (e, [], R) ∧ loopM (m_sIndexLeftE_s1 (cI L) T U) ((p : Int), e, cI []) = some (.inl (e, cI []))) ∨
  (∃ R1 a R2, R = R1 ++ a :: R2 ∧ (gr T U R e = ((gr T U R2 (hi T U a)).1, a :: (gr T U R2 (hi T U a)).2.1, R1 ++ (gr T U R2 (hi T U a)).2.2)) ∧
   loopM (m_sIndexLeftE_s1 (cI L) T U) ((p : Int), e, cI []) = some (.inr (((p + R1.length : Nat) : Int), hi T U a, cI [a])))
 | [], p, hR, hp => by
  left
  have hpl : p = L.length := by
   have := congrArg List.length hR
   rw [List.length_drop] at this
   simp at this; omega
  refine ⟨rfl, loopM_out ?_⟩
  unfold m_sIndexLeftE_s1
  dsimp only
  rw [bif_f (by rw [decide_eq_false_iff_not, cI_len]; omega)]
 | a :: R, p, hR, hp => by
  have hpl : p < L.length := by
   apply Classical.byContradiction
   intro h
   rw [List.drop_eq_nil_of_le (by omega)] at hR
   cases hR
  have hd := List.drop_eq_getElem_cons hpl
  rw [hd] at hR
  obtain ⟨hLa, hRR⟩ := List.cons.inj hR
  have ha : a ∈ netL T U := hLa ▸ hL _ (List.getElem_mem hpl)
  have hg : geti (cI L) (p : Int) = some (a : Int) := by rw [geti_cI hpl, hLa]
  by_cases h : lo T U a ≤ e
  ·have step : m_sIndexLeftE_s1 (cI L) T U ((p : Int), e, cI []) = some (.next (((p + 1 : Nat) : Int), e, cI [])) := by
    unfold m_sIndexLeftE_s1
    dsimp only
    rw [bif_t (by rw [decide_eq_true_eq, cI_len]; omega), hg]
    simp only [Option.bind_some]
    rw [del_eq P ha (by simp), if_pos h, wr_suc (by omega)]
    rfl
   rw [loopM_next step]
   rcases idx_eq P hL hlen (e := e) R (p + 1) hRR (by omega) with ⟨h1, h2⟩ | ⟨R1, b, R2, h0, h1, h2⟩
   ·left
    refine ⟨?_, h2⟩
    simp only [gr]
    rw [if_pos h, h1]
   ·right
    refine ⟨a :: R1, b, R2, by rw [h0]; rfl, ?_, ?_⟩
    ·simp only [gr]
     rw [if_pos h, h1]
     rfl
    ·rw [h2, List.length_cons, show p + 1 + R1.length = p + (R1.length + 1) by omega]
  ·right
   refine ⟨[], a, R, rfl, ?_, loopM_out ?_⟩
   ·simp only [gr]
    rw [if_neg h]
    rfl
   ·unfold m_sIndexLeftE_s1
    dsimp only
    rw [bif_t (by rw [decide_eq_true_eq, cI_len]; omega), hg]
    simp only [Option.bind_some]
    rw [del_eq P ha (by simp), if_neg h]
    rfl
theorem del_loop (P : Pins T U) {n : Nat} (hn : n ≤ 100) : ∀ (R : List Nat) (l : List Nat) (i j : Nat) (e : Int) (t K : List Nat), (∀ a ∈ R, a ∈ netL T U) → l.length = n → l.drop j = R → l.take i = K → K.length = i → i < j → j + R.length = n → t.length + R.length ≤ 1000 →
  ∃ l' : List Nat, loopM (m_sDeletLeftE_s1 T U) ((i : Int), (j : Int), cI l, e, cI t) = some (((i + (gr T U R e).2.2.length : Nat) : Int), cI l', (gr T U R e).1, cI (t ++ (gr T U R e).2.1)) ∧ l'.length = n ∧ l'.take (i + (gr T U R e).2.2.length) = K ++ (gr T U R e).2.2 ∧ i + (gr T U R e).2.2.length ≤ n
 | [], l, i, j, e, t, K, hR, hl, hd, hK, hKl, hij, hj, ht => by
  refine ⟨l, loopM_out ?_, hl, ?_, ?_⟩
  ·unfold m_sDeletLeftE_s1
   dsimp only
   rw [bif_f (by rw [decide_eq_false_iff_not, cI_len]; simp at hj; omega)]
   simp [gr]
  ·simp [gr, hK]
  ·simp [gr]; simp at hj; omega
 | a :: R, l, i, j, e, t, K, hR, hl, hd, hK, hKl, hij, hj, ht => by
  simp only [List.length_cons] at hj ht
  have hjl : j < l.length := by omega
  have hd2 := List.drop_eq_getElem_cons hjl
  rw [hd2] at hd
  obtain ⟨hla, hdR⟩ := List.cons.inj hd
  have ha : a ∈ netL T U := hR a List.mem_cons_self
  have hg : geti (cI l) (j : Int) = some (a : Int) := by rw [geti_cI hjl, hla]
  by_cases h : lo T U a ≤ e
  ·have hil : i < l.length := by omega
   have hset : (l.set i a).take (i + 1) = K ++ [a] := by
    rw [List.take_succ_eq_append_getElem (by simp; omega), List.take_set_of_le (Nat.le_refl _), hK, List.getElem_set_self]
   obtain ⟨l', h1, h2, h3, h4⟩ := del_loop P hn R (l.set i a) (i + 1) (j + 1) e t (K ++ [a]) (fun b hb => hR b (List.mem_cons_of_mem _ hb)) (by simpa using hl) (by rw [List.drop_set_of_lt (by omega)]; exact hdR) hset (by simp [hKl]) (by omega) (by omega) (by omega)
   have step : m_sDeletLeftE_s1 T U ((i : Int), (j : Int), cI l, e, cI t) = some (.next (((i + 1 : Nat) : Int), ((j + 1 : Nat) : Int), cI (l.set i a), e, cI t)) := by
    unfold m_sDeletLeftE_s1
    dsimp only
    rw [bif_t (by rw [decide_eq_true_eq, cI_len]; omega), hg]
    simp only [Option.bind_some]
    rw [del_eq P ha (by omega), if_pos h]
    simp only [Option.bind_some, Bool.not_false, cond_true]
    rw [geti_cI hil]
    simp only [Option.bind_some]
    rw [wr_suc (show i < 2 ^ 40 by omega), wr_suc (show j < 2 ^ 40 by omega), Int.toNat_natCast, cI_set]
   rw [loopM_next step]
   have e1 : gr T U (a :: R) e = ((gr T U R e).1, (gr T U R e).2.1, a :: (gr T U R e).2.2) := by simp only [gr]; rw [if_pos h]
   rw [e1]
   simp only [List.length_cons]
   refine ⟨l', ?_, h2, ?_, by omega⟩
   ·rw [h1, show i + 1 + (gr T U R e).2.2.length = i + ((gr T U R e).2.2.length + 1) by omega]
   ·rw [show i + ((gr T U R e).2.2.length + 1) = i + 1 + (gr T U R e).2.2.length by omega, h3, List.append_assoc]; rfl
  ·obtain ⟨l', h1, h2, h3, h4⟩ := del_loop P hn R l i (j + 1) (hi T U a) (t ++ [a]) K (fun b hb => hR b (List.mem_cons_of_mem _ hb)) hl hdR hK hKl (by omega) (by omega) (by simp; omega)
   have step : m_sDeletLeftE_s1 T U ((i : Int), (j : Int), cI l, e, cI t) = some (.next ((i : Int), ((j + 1 : Nat) : Int), cI l, hi T U a, cI (t ++ [a]))) := by
    unfold m_sDeletLeftE_s1
    dsimp only
    rw [bif_t (by rw [decide_eq_true_eq, cI_len]; omega), hg]
    simp only [Option.bind_some]
    rw [del_eq P ha (by omega), if_neg h]
    simp only [Option.bind_some, Bool.not_true, cond_false]
    rw [wr_suc (show j < 2 ^ 40 by omega)]
   rw [loopM_next step]
   have e1 : gr T U (a :: R) e = ((gr T U R (hi T U a)).1, a :: (gr T U R (hi T U a)).2.1, (gr T U R (hi T U a)).2.2) := by simp only [gr]; rw [if_neg h]
   rw [e1]
   refine ⟨l', ?_, h2, h3, h4⟩
   rw [h1, List.append_assoc]; rfl
theorem delete_eq (P : Pins T U) {L : List Nat} (hL : ∀ a ∈ L, a ∈ netL T U) (hlen : L.length ≤ 12) {e : Int} :
  m_sDeletLeftE (cI L) T U e [] = some (cI (gr T U L e).2.2, (gr T U L e).1, cI (gr T U L e).2.1) := by
 unfold m_sDeletLeftE m_sIndexLeftE
 rcases idx_eq P hL (by omega) (e := e) L 0 rfl (Nat.zero_le _) with ⟨h1, h2⟩ | ⟨R1, a, R2, h0, h1, h2⟩
 ·rw [show ((0 : Int), e, ([] : List Int)) = (((0 : Nat) : Int), e, cI []) from rfl, h2, h1]
  rfl
 ·rw [show ((0 : Int), e, ([] : List Int)) = (((0 : Nat) : Int), e, cI []) from rfl, h2]
  simp only [Option.bind_some]
  have hll := congrArg List.length h0
  simp only [List.length_append, List.length_cons] at hll
  obtain ⟨l', g1, g2, g3, g4⟩ := del_loop P (n := L.length) (by omega) R2 L R1.length (R1.length + 1) (hi T U a) [a] R1 (fun b hb => hL b (by rw [h0]; simp [hb])) rfl
   (by rw [h0]; simp [List.drop_append]) (by rw [h0]; simp) rfl (by omega) (by omega) (by simp; omega)
  rw [Nat.zero_add, bif_f (by rw [beq_eq_false_iff_ne]; omega), wr_suc (by omega), g1]
  simp only [Option.bind_some]
  have s1 : slci (cI l') (((R1.length + (gr T U R2 (hi T U a)).2.2.length : Nat) : Int)) (((cI l').length : Nat) : Int) = some (((cI l').take (cI l').length).drop (R1.length + (gr T U R2 (hi T U a)).2.2.length)) := by
   unfold slci
   rw [if_pos (by rw [cI_len]; omega), Int.toNat_natCast, Int.toNat_natCast]
  have hcl : (clr (0 : Int) (cI l') ((R1.length + (gr T U R2 (hi T U a)).2.2.length : Nat) : Int)).length = L.length := by
   unfold clr
   rw [List.length_append, List.length_take, List.length_replicate, cI_len, Int.toNat_natCast]; omega
  have s2 : slci (clr (0 : Int) (cI l') ((R1.length + (gr T U R2 (hi T U a)).2.2.length : Nat) : Int)) 0 ((R1.length + (gr T U R2 (hi T U a)).2.2.length : Nat) : Int) = some ((clr (0 : Int) (cI l') ((R1.length + (gr T U R2 (hi T U a)).2.2.length : Nat) : Int)).take (R1.length + (gr T U R2 (hi T U a)).2.2.length)) := slci_take (by rw [hcl]; exact g4)
  rw [s1]
  simp only [Option.bind_some]
  rw [s2]
  simp only [Option.bind_some]
  have htk : (clr (0 : Int) (cI l') ((R1.length + (gr T U R2 (hi T U a)).2.2.length : Nat) : Int)).take (R1.length + (gr T U R2 (hi T U a)).2.2.length) = cI (R1 ++ (gr T U R2 (hi T U a)).2.2) := by
   unfold clr
   rw [Int.toNat_natCast, List.take_append_of_le_length (by rw [List.length_take, cI_len]; omega), List.take_take, Nat.min_self, ← g3]
   unfold cI
   rw [List.map_take]
  rw [Int.toNat_natCast, htk, h1]
  rfl
end
end Go.Proofs.YtbfjekmefcpkmaaDoor

set_option linter.unusedSimpArgs false
set_option linter.unusedVariables false
set_option linter.unusedSectionVars false
namespace Go.Proofs.YtbfjekmefcpkmaaDoor
open Go.RowKit

theorem sortedI_uniq : ∀ {l m : List Int}, l.Perm m → l.Pairwise (· ≤ ·) → m.Pairwise (· ≤ ·) → l = m
 | [], m, h, _, _ => (List.Perm.nil_eq h)
 | a :: l, m, h, h1, h2 => by
  cases m with
  | nil => exact absurd h (by simp)
  | cons b m =>
   have h3 := List.pairwise_cons.1 h1
   have h4 := List.pairwise_cons.1 h2
   have hab : a = b := by
    have ha : a ∈ b :: m := h.mem_iff.1 List.mem_cons_self
    have hb : b ∈ a :: l := h.mem_iff.2 List.mem_cons_self
    rcases List.mem_cons.1 ha with e | e
    ·exact e
    ·rcases List.mem_cons.1 hb with e2 | e2
     ·exact e2.symm
     ·have := h3.1 b e2
      have := h4.1 a e
      omega
   subst hab
   rw [sortedI_uniq (List.perm_cons a |>.1 h) h3.2 h4.2]
section
variable {T U : List Int}
theorem gr_mem : ∀ (L : List Nat) (e : Int) (x : Nat), x ∈ L ↔ (x ∈ (gr T U L e).2.1 ∨ x ∈ (gr T U L e).2.2)
 | [], e, x => by simp [gr]
 | a :: L, e, x => by
  simp only [gr]
  split
  ·have := gr_mem L e x
   simp only [List.mem_cons, this]
   constructor
   ·rintro (h | h | h)
    ·exact .inr (.inl h)
    ·exact .inl h
    ·exact .inr (.inr h)
   ·rintro (h | h | h)
    ·exact .inr (.inl h)
    ·exact .inl h
    ·exact .inr (.inr h)
  ·have := gr_mem L (hi T U a) x
   simp only [List.mem_cons, this]
   constructor
   ·rintro (h | h | h)
    ·exact .inl (.inl h)
    ·exact .inl (.inr h)
    ·exact .inr h
   ·rintro ((h | h) | h)
    ·exact .inl h
    ·exact .inr (.inl h)
    ·exact .inr (.inr h)
theorem gr_sub : ∀ (L : List Nat) (e : Int), (gr T U L e).2.1.Sublist L ∧ (gr T U L e).2.2.Sublist L
 | [], e => by simp [gr]
 | a :: L, e => by
  simp only [gr]
  split
  ·have := gr_sub L e
   exact ⟨this.1.cons _, this.2.cons_cons _⟩
  ·have := gr_sub L (hi T U a)
   exact ⟨this.1.cons_cons _, this.2.cons _⟩
theorem gr_disj : ∀ (L : List Nat) (e : Int), L.Nodup → ∀ x, x ∈ (gr T U L e).2.1 → x ∉ (gr T U L e).2.2
 | [], e, _, x, h => by simp [gr] at h
 | a :: L, e, hn, x, h => by
  obtain ⟨h1, h2⟩ := List.nodup_cons.1 hn
  simp only [gr] at h ⊢
  split at h
  ·rename_i hc
   rw [if_pos hc]
   intro hm
   rcases List.mem_cons.1 hm with e | hm
   ·subst e
    exact h1 ((gr_sub L _).1.subset h)
   ·exact gr_disj L e h2 x h hm
  ·rename_i hc
   rw [if_neg hc]
   intro hm
   rcases List.mem_cons.1 h with e | h
   ·subst e
    exact h1 ((gr_sub L _).2.subset hm)
   ·exact gr_disj L _ h2 x h hm
theorem gr_pair : ∀ (L : List Nat) (e : Int), (∀ a ∈ L, a ∈ netL T U) → (∀ b ∈ (gr T U L e).2.1, e < lo T U b) ∧ (gr T U L e).2.1.Pairwise fun a b => hi T U a < lo T U b
 | [], e, _ => by simp [gr]
 | a :: L, e, hL => by
  simp only [gr]
  split
  ·exact gr_pair L e fun x hx => hL x (List.mem_cons_of_mem _ hx)
  ·rename_i hc
   obtain ⟨h1, h2⟩ := gr_pair L (hi T U a) fun x hx => hL x (List.mem_cons_of_mem _ hx)
   have ha := lo_hi (hL a List.mem_cons_self)
   refine ⟨fun b hb => ?_, List.pairwise_cons.2 ⟨h1, h2⟩⟩
   rcases List.mem_cons.1 hb with e | hb
   ·subst e; omega
   ·have := h1 b hb; omega
theorem gr_cover : ∀ (L : List Nat) (e : Int), L.Pairwise (fun a b => lo T U a ≤ lo T U b) → ∀ x ∈ (gr T U L e).2.2, lo T U x ≤ e ∨ ∃ y ∈ (gr T U L e).2.1, lo T U y ≤ lo T U x ∧ lo T U x ≤ hi T U y
 | [], e, _, x, hx => by simp [gr] at hx
 | a :: L, e, hs, x, hx => by
  obtain ⟨h1, h2⟩ := List.pairwise_cons.1 hs
  simp only [gr] at hx ⊢
  split at hx
  ·rename_i hc
   rw [if_pos hc]
   rcases List.mem_cons.1 hx with e | hx
   ·subst e; exact .inl hc
   ·exact gr_cover L e h2 x hx
  ·rename_i hc
   rw [if_neg hc]
   right
   have hxL := (gr_sub L (hi T U a)).2.subset hx
   rcases gr_cover L (hi T U a) h2 x hx with h | ⟨y, hy, h⟩
   ·exact ⟨a, List.mem_cons_self, h1 x hxL, h⟩
   ·exact ⟨y, List.mem_cons_of_mem _ hy, h⟩
/-- Nets as a set of indices. -/
def mk (T U : List Int) (L : List Nat) : Nat := mask (L.map (ixN' T U))
theorem mk_bit (L : List Nat) (i : Nat) : (mk T U L).testBit i = decide (∃ a ∈ L, ixN' T U a = i) := by
 unfold mk
 rw [mask_bit]
 exact decide_eq_decide.2 (by rw [List.mem_map])
theorem ix_inj {a b : Nat} (ha : a ∈ netL T U) (hb : b ∈ netL T U) (h : ixN' T U a = ixN' T U b) : a = b := by
 rw [← nm_ix' ha, ← nm_ix' hb, h]
theorem nmI_ix {a : Nat} (ha : a ∈ netL T U) : nmI T U (ixN' T U a) = (a : Int) := by
 unfold nmI; rw [nm_ix' ha]
theorem row_eq {t : List Nat} (ht : ∀ a ∈ t, a ∈ netL T U) (hn : t.Nodup) : sortI (cI t) = (bitsL (nN T U) (mk T U t)).map (nmI T U) := by
 have hp : (sortI (cI t)).Perm (cI t) := List.mergeSort_perm _ _
 have hs : (sortI (cI t)).Pairwise (· ≤ ·) := by
  have := List.pairwise_mergeSort (le := fun x y : Int => decide (x ≤ y)) (fun a b c h1 h2 => by simp at *; omega) (fun a b => by simp; omega) (cI t)
  exact this.imp (fun h => by simpa using h)
 have hlt : ((bitsL (nN T U) (mk T U t)).map (nmI T U)).Pairwise (· < ·) := by
  rw [List.pairwise_map]
  refine List.Pairwise.imp_of_mem ?_ (bitsL_sorted (nN T U) (mk T U t))
  intro a b ha hb hab
  exact nm_mono a b hab (mem_bitsL.1 hb).1
 have hnd : (cI t).Nodup := by
  unfold cI
  rw [List.nodup_iff_pairwise_ne, List.pairwise_map]
  exact List.Pairwise.imp (fun h => by omega) (List.nodup_iff_pairwise_ne.1 hn)
 have hq : ((bitsL (nN T U) (mk T U t)).map (nmI T U)).Perm (cI t) := by
  refine (List.perm_ext_iff_of_nodup ?_ hnd).2 fun x => ?_
  ·exact List.nodup_iff_pairwise_ne.2 (hlt.imp fun h => by omega)
  ·unfold cI
   rw [List.mem_map, List.mem_map]
   constructor
   ·rintro ⟨i, hi, rfl⟩
    obtain ⟨hin, hb⟩ := mem_bitsL.1 hi
    rw [mk_bit, decide_eq_true_eq] at hb
    obtain ⟨a, ha, rfl⟩ := hb
    exact ⟨a, ha, (nmI_ix (ht a ha)).symm⟩
   ·rintro ⟨a, ha, rfl⟩
    exact ⟨ixN' T U a, mem_bitsL.2 ⟨ix_lt' (ht a ha), by rw [mk_bit]; exact decide_eq_true ⟨a, ha, rfl⟩⟩, nmI_ix (ht a ha)⟩
 exact sortedI_uniq (hp.trans hq.symm) hs (hlt.imp fun h => by omega)
theorem mk_fit (habv : ∀ i k, i < nN T U → k < nN T U → abB T U i k = false) {L t k : List Nat} (hL : ∀ a ∈ L, a ∈ netL T U) (hm : ∀ x, x ∈ L ↔ (x ∈ t ∨ x ∈ k)) (hd : ∀ x, x ∈ t → x ∉ k) (hne : t ≠ []) (hp : t.Pairwise fun a b => hi T U a < lo T U b) :
  Fit (apA T U) (abB T U) (mk T U L) (mk T U t) ∧ sub (mk T U L) (mk T U t) = mk T U k := by
 have htL : ∀ x ∈ t, x ∈ L := fun x hx => (hm x).2 (.inl hx)
 refine ⟨⟨fun i hi' => ?_, ?_, fun i j hi' hj => ?_, fun i j hi' hj => ?_⟩, ?_⟩
 ·rw [mk_bit, decide_eq_true_eq] at hi' ⊢
  obtain ⟨a, ha, e⟩ := hi'
  exact ⟨a, htL a ha, e⟩
 ·exact mask_nz (by simpa using hne)
 ·rw [mk_bit, decide_eq_true_eq] at hi' hj
  obtain ⟨a, ha, rfl⟩ := hi'
  obtain ⟨b, hb, rfl⟩ := hj
  exact habv _ _ (ix_lt' (hL b hb)) (ix_lt' (hL a (htL a ha)))
 ·rw [mk_bit, decide_eq_true_eq] at hi' hj
  obtain ⟨a, ha, rfl⟩ := hi'
  obtain ⟨b, hb, rfl⟩ := hj
  have na := hL a (htL a ha)
  have nb := hL b (htL b hb)
  unfold apA
  rw [nmI_ix na, nmI_ix nb]
  by_cases e : a = b
  ·subst e; simp
  ·have la := lo_hi na
   have lb := lo_hi nb
   have key : hi T U a < lo T U b ∨ hi T U b < lo T U a := by
    obtain ⟨p, hpl, rfl⟩ := List.mem_iff_getElem.1 ha
    obtain ⟨q, hql, rfl⟩ := List.mem_iff_getElem.1 hb
    rcases Nat.lt_trichotomy p q with h | h | h
    ·exact .inl (List.pairwise_iff_getElem.1 hp p q hpl hql h)
    ·subst h; exact absurd rfl e
    ·exact .inr (List.pairwise_iff_getElem.1 hp q p hql hpl h)
   unfold lo hi at key
   rcases key with h | h
   ·rw [decide_eq_false (show ¬ loC T U (b : Int) ≤ hiC T U (a : Int) by omega)]; simp
   ·rw [decide_eq_false (show ¬ loC T U (a : Int) ≤ hiC T U (b : Int) by omega)]; simp
 ·apply Nat.eq_of_testBit_eq
  intro i
  rw [sub_bit, mk_bit, mk_bit, mk_bit, Bool.eq_iff_iff, Bool.and_eq_true, Bool.not_eq_true', decide_eq_true_eq, decide_eq_false_iff_not, decide_eq_true_eq]
  constructor
  ·rintro ⟨⟨a, ha, rfl⟩, h2⟩
   rcases (hm a).1 ha with h | h
   ·exact absurd ⟨a, h, rfl⟩ h2
   ·exact ⟨a, h, rfl⟩
  ·rintro ⟨a, ha, rfl⟩
   have haL := (hm a).2 (.inr ha)
   refine ⟨⟨a, haL, rfl⟩, ?_⟩
   rintro ⟨b, hb, e⟩
   have := ix_inj (hL b (htL b hb)) (hL a haL) e
   subst this
   exact hd b hb ha
theorem left_loop (P : Pins T U) (habv : ∀ i k, i < nN T U → k < nN T U → abB T U i k = false) : ∀ (d : Nat) (L : List Nat) (out : List (List Int)), L.length = d → (∀ a ∈ L, a ∈ netL T U) → L.Nodup → L.Pairwise (fun a b => lo T U a ≤ lo T U b) → L.length ≤ 12 → out.length + L.length ≤ 1000 →
  ∃ cs, loopM (m_iLeftE_s1 T U) (out, cI L) = some (out ++ cs.map fun c => (bitsL (nN T U) c).map (nmI T U)) ∧ Way (apA T U) (abB T U) (mk T U L) cs ∧
   (L ≠ [] → ∃ x ∈ L, ∃ W : List Nat, W.Nodup ∧ W.length = cs.length ∧ ∀ y ∈ W, y ∈ L ∧ lo T U y ≤ lo T U x ∧ lo T U x ≤ hi T U y) := by
 intro d
 induction d using Nat.strongRecOn with
 | _ d ih =>
  intro L out hd hL hn hs hlen hout
  cases L with
  | nil =>
   refine ⟨[], loopM_out ?_, ?_, fun h => absurd rfl h⟩
   ·unfold m_iLeftE_s1
    simp [cI]
   ·have : mk T U [] = 0 := rfl
    rw [this]; exact .z
  | cons a L =>
   have ha := lo_hi (hL a List.mem_cons_self)
   obtain ⟨e', t, k, hgr⟩ : ∃ e' t k, gr T U (a :: L) (-1) = (e', t, k) := ⟨_, _, _, rfl⟩
   have hmem := gr_mem (T := T) (U := U) (a :: L) (-1)
   have hsub := gr_sub (T := T) (U := U) (a :: L) (-1)
   have hdisj := gr_disj (T := T) (U := U) (a :: L) (-1) hn
   have hpair := (gr_pair (T := T) (U := U) (a :: L) (-1) hL).2
   have hcov := gr_cover (T := T) (U := U) (a :: L) (-1) hs
   have hat : a ∈ (gr T U (a :: L) (-1)).2.1 := by
    simp only [gr]
    rw [if_neg (by omega)]
    exact List.mem_cons_self
   rw [hgr] at hmem hsub hdisj hpair hcov hat
   simp only at hmem hsub hdisj hpair hcov hat
   have hkl : k.length < (a :: L).length := by
    have h1 := hsub.2.length_le
    apply Classical.byContradiction
    intro h
    have h2 : k = a :: L := hsub.2.eq_of_length (by omega)
    exact hdisj a hat (by rw [h2]; exact List.mem_cons_self)
   have htn : t.Nodup := hn.sublist hsub.1
   have htL : ∀ x ∈ t, x ∈ netL T U := fun x hx => hL x (hsub.1.subset hx)
   obtain ⟨hfit, hsb⟩ := mk_fit habv hL hmem hdisj (fun e => by rw [e] at hat; cases hat) hpair
   have hol : (out ++ [(bitsL (nN T U) (mk T U t)).map (nmI T U)]).length + k.length ≤ 1000 := by
    rw [List.length_append]
    simp only [List.length_cons, List.length_nil] at hkl hout ⊢
    omega
   obtain ⟨cs, h1, h2, h3⟩ := ih k.length (by omega) k (out ++ [(bitsL (nN T U) (mk T U t)).map (nmI T U)]) rfl (fun x hx => hL x (hsub.2.subset hx)) (hn.sublist hsub.2) (hs.sublist hsub.2) (by omega) hol
   refine ⟨mk T U t :: cs, ?_, .s hfit (by rw [hsb]; exact h2), fun _ => ?_⟩
   ·have hdel := delete_eq P (L := a :: L) hL hlen (e := -1)
    rw [hgr] at hdel
    have hso : m_sSort (cI t) = some ((bitsL (nN T U) (mk T U t)).map (nmI T U)) := by
     unfold m_sSort
     rw [apC_sm (by rw [cI_len]; have := hsub.1.length_le; simp at this ⊢; simp at hlen; omega), ← row_eq htL htn]
     rfl
    have step : m_iLeftE_s1 T U (out, cI (a :: L)) = some (.next (out ++ [(bitsL (nN T U) (mk T U t)).map (nmI T U)], cI k)) := by
     unfold m_iLeftE_s1
     dsimp only
     rw [bif_t (by rw [decide_eq_true_eq, cI_len]; simp), hdel]
     simp only [Option.bind_some]
     rw [hso]
     simp only [Option.bind_some]
     rw [apC_sm (by simp; simp at hout; omega)]
     rfl
    rw [loopM_next step, h1]
    simp
   ·by_cases hk : k = []
    ·subst hk
     cases h2 with
     | z => exact ⟨a, List.mem_cons_self, [a], by simp, rfl, fun y hy => by
       rw [List.mem_singleton] at hy
       subst hy
       exact ⟨List.mem_cons_self, Int.le_refl _, ha.2.1⟩⟩
     | s hf _ => exact absurd rfl hf.left_nz
    ·obtain ⟨x, hx, W, w1, w2, w3⟩ := h3 hk
     have hx0 := lo_hi (hL x (hsub.2.subset hx))
     rcases hcov x hx with h | ⟨y, hy, hy2⟩
     ·omega
     ·refine ⟨x, hsub.2.subset hx, y :: W, List.nodup_cons.2 ⟨fun h => hdisj y hy (w3 y h).1, w1⟩, by simp [w2], fun z hz => ?_⟩
      rcases List.mem_cons.1 hz with e | hz
      ·subst e
       exact ⟨hsub.1.subset hy, hy2⟩
      ·exact ⟨hsub.2.subset (w3 z hz).1, (w3 z hz).2⟩
theorem netL_nodup : (netL T U).Nodup := List.nodup_iff_pairwise_ne.2 (netL_sorted.imp fun h => by omega)
theorem mk_full {L : List Nat} (h : L.Perm (netL T U)) : mk T U L = 2 ^ nN T U - 1 := by
 apply Nat.eq_of_testBit_eq
 intro i
 rw [mk_bit, full_bit]
 refine decide_eq_decide.2 ⟨?_, fun hi => ?_⟩
 ·rintro ⟨a, ha, rfl⟩
  exact ix_lt' (h.mem_iff.1 ha)
 ·refine ⟨nmN T U i, h.mem_iff.2 (nm_mem hi), ?_⟩
  have h1 := ix_lt' (nm_mem hi)
  have h2 := nm_ix' (nm_mem hi)
  rcases Nat.lt_trichotomy (ixN' T U (nmN T U i)) i with h | h | h
  ·have := nm_mono _ _ h hi
   unfold nmI at this; omega
  ·exact h
  ·have := nm_mono _ _ h h1
   unfold nmI at this; omega
theorem left_no (hv : valB T U = true) {a b : Nat} (h : Rab T U a b = true) : m_iLeftE T U = some ([], false) := by
 have P := valB_pins hv
 obtain ⟨m, h1, h2, _⟩ := aboveR_eq P
 have hm : m ≠ [] := fun e => by
  have := h2 a b
  rw [e, h] at this
  simp [mget] at this
 have hpos : 0 < m.length := List.length_pos_iff.2 hm
 unfold m_iLeftE
 rw [val_eq hv]
 simp only [Option.bind_some]
 rw [bif_f (by rfl), h1]
 simp only [Option.bind_some]
 rw [bif_t (by rw [decide_eq_true_eq]; omega)]
theorem left_yes (hv : valB T U = true) (h : ∀ a b, Rab T U a b = false) : ∃ cs, m_iLeftE T U = some (cs.map fun c => (bitsL (nN T U) c).map (nmI T U), true) ∧ Way (apA T U) (abB T U) (2 ^ nN T U - 1) cs ∧ (cs = [] ∨ ∃ c, c < T.length ∧ cs.length ≤ dens T U c) := by
 have P := valB_pins hv
 obtain ⟨m, h1, h2, h3⟩ := aboveR_eq P
 have hm : m = [] := by
  apply Classical.byContradiction
  intro hne
  obtain ⟨a, b, hab⟩ := h3 hne
  rw [h a b] at hab; cases hab
 have hl := netL_len (T := T) (U := U)
 obtain ⟨L, g1, g2, g3⟩ := stable_eq P (L := netL T U) (fun a ha => ha) hl
 have habv : ∀ i k, i < nN T U → k < nN T U → abB T U i k = false := fun i k hi hk => by rw [← Rab_ab hi hk]; exact h _ _
 obtain ⟨cs, k1, k2, k3⟩ := left_loop P habv L.length L [] rfl (fun a ha => g2.mem_iff.1 ha) (g2.nodup_iff.2 netL_nodup) g3 (by rw [g2.length_eq]; exact hl) (by simp; rw [g2.length_eq]; omega)
 rw [mk_full g2] at k2
 refine ⟨cs, ?_, k2, ?_⟩
 ·unfold m_iLeftE
  rw [val_eq hv]
  simp only [Option.bind_some]
  rw [bif_f (by rfl), h1]
  simp only [Option.bind_some]
  rw [hm, bif_f (by rfl), nets_eq P.len P.small]
  simp only [Option.bind_some]
  rw [g1]
  simp only [Option.bind_some]
  rw [k1]
  rfl
 ·by_cases hL : L = []
  ·left
   subst hL
   have h0 : nN T U = 0 := by unfold nN; rw [← g2.length_eq]; rfl
   rw [h0] at k2
   cases k2 with
   | z => rfl
   | s hf _ => exact absurd rfl hf.left_nz
  ·right
   obtain ⟨x, hx, W, w1, w2, w3⟩ := k3 hL
   have hxn := g2.mem_iff.1 hx
   have h0 := lo_hi hxn
   obtain ⟨c, hc⟩ := Int.eq_ofNat_of_zero_le h0.1
   refine ⟨c, by omega, ?_⟩
   rw [← w2]
   have hsub : (W.map (ixN' T U)) ⊆ (List.range (nN T U)).filter (cov T U c) := fun i hi' => by
    obtain ⟨y, hy, rfl⟩ := List.mem_map.1 hi'
    obtain ⟨yL, y1, y2⟩ := w3 y hy
    have yn := g2.mem_iff.1 yL
    refine List.mem_filter.2 ⟨List.mem_range.2 (ix_lt' yn), ?_⟩
    unfold cov
    rw [nmI_ix yn, Bool.and_eq_true, decide_eq_true_eq, decide_eq_true_eq]
    unfold lo at y1 hc
    unfold lo hi at y2
    omega
   have hnd : (W.map (ixN' T U)).Nodup := by
    rw [List.nodup_iff_pairwise_ne, List.pairwise_map]
    refine List.Pairwise.imp_of_mem ?_ (List.nodup_iff_pairwise_ne.1 w1)
    intro p q hp hq hpq e
    exact hpq (ix_inj (g2.mem_iff.1 (w3 p hp).1) (g2.mem_iff.1 (w3 q hq).1) e)
   have := List.Nodup.length_le_of_subset hnd hsub
   rw [List.length_map] at this
   exact this
end
end Go.Proofs.YtbfjekmefcpkmaaDoor

set_option linter.unusedSimpArgs false
set_option linter.unusedVariables false
set_option linter.unusedSectionVars false
namespace Go.Proofs.YtbfjekmefcpkmaaDoor
open Go.RowKit

section
variable {A B : Nat → Nat → Bool} {n : Nat} {nm : Nat → Int}
theorem s21_eq (hn : n ≤ 1000) {tr : List (List Int)} {t i : Nat} {row : List Int} {v : Int} (hr : geti tr (t : Int) = some row) (hv : geti row (i : Int) = some v) :
  ∃ k : Nat, k ≤ n ∧ loopM (m_sL03Tr_s21 ((List.range n).map nm) tr (t : Int) (i : Int)) 0 = some (k : Int) := by
 obtain ⟨r, hrun, k, rfl, hk⟩ := loopM_count (m_sL03Tr_s21 ((List.range n).map nm) tr (t : Int) (i : Int)) n
  (fun k s => s = (k : Int)) (fun r => ∃ k : Nat, r = (k : Int) ∧ k ≤ n) (s0 := 0) rfl
  (fun k s hk hI => by
   subst hI
   have hhead : m_sL03Tr_s21 ((List.range n).map nm) tr (t : Int) (i : Int) (k : Int) = (bif nm k != v then some (Ctl.next (wr ((k : Int) + 1))) else some (Ctl.out (k : Int))) := by
    unfold m_sL03Tr_s21
    dsimp only
    rw [bif_t (by rw [decide_eq_true_eq]; simp; omega), geti_map hk, hr]
    simp only [Option.bind_some]
    rw [hv]
    rfl
   rw [hhead]
   cases nm k != v with
   | true => exact .inl ⟨_, by rw [wr_suc (by omega)]; rfl, rfl⟩
   | false => exact .inr ⟨_, rfl, k, rfl, by omega⟩)
  (fun s hI => by
   subst hI
   refine ⟨(n : Int), ?_, n, rfl, Nat.le_refl _⟩
   unfold m_sL03Tr_s21
   dsimp only
   rw [bif_f (by rw [decide_eq_false_iff_not]; simp)])
 exact ⟨k, hk, hrun⟩
def cntf (n : Nat) (f : Nat → Nat) : Nat := ((List.range n).filter fun k => decide (f k ≠ 0)).length
theorem cntf_le (n : Nat) (f : Nat → Nat) : cntf n f ≤ n := by
 have := List.length_filter_le (fun k => decide (f k ≠ 0)) (List.range n)
 rwa [List.length_range] at this
theorem cntf_set {f : Nat → Nat} {k v : Nat} (hk : k < n) (h0 : f k = 0) (hv : v ≠ 0) : cntf n (fun j => if j = k then v else f j) = cntf n f + 1 := by
 unfold cntf
 have h1 := filter_count (fun j => decide ((if j = k then v else f j) ≠ 0)) (fun j => decide (f j ≠ 0)) (List.range n) (fun j _ hj => by
  rw [decide_eq_true_eq] at hj ⊢
  split
  ·exact hv
  ·exact hj)
 rw [h1]
 congr 1
 have : ((List.range n).filter fun j => decide ((if j = k then v else f j) ≠ 0) && !decide (f j ≠ 0)) = (List.range n).filter fun j => decide (j = k) := by
  refine List.filter_congr fun j _ => ?_
  by_cases e : j = k
  ·subst e; simp [h0, hv]
  ·rw [if_neg e, decide_eq_false e]
   cases decide (f j ≠ 0) <;> rfl
 rw [this]
 have h2 : (List.range n).filter (fun j => decide (j = k)) = [k] := by
  clear h1 this
  induction n with
  | zero => omega
  | succ n ih =>
   rw [List.range_succ, List.filter_append]
   by_cases e : n = k
   ·subst e
    have : (List.range n).filter (fun j => decide (j = n)) = [] := by
     rw [List.filter_eq_nil_iff]
     intro a ha
     have := List.mem_range.1 ha
     simp; omega
    rw [this]; simp
   ·rw [ih (by omega)]
    have : ([n] : List Nat).filter (fun j => decide (j = k)) = [] := by simp [e]
    rw [this]; rfl
 rw [h2]; rfl
/-- What the table holds when some tracks are read. -/
structure TI (n t : Nat) (f : Nat → Nat) (c : Nat) : Prop where
 cnt : c = cntf n f
 le : ∀ k, k < n → f k ≤ t
 ex : ∀ t', t' < t → ∃ k, k < n ∧ f k = t' + 1
theorem row_step (hn : n ≤ 1000) {tr : List (List Int)} {t : Nat} (ht : t ≤ 1000) {row : List Int} (hr : geti tr (t : Int) = some row) (hrl : row.length ≤ 1000) {c : Nat} {f : Nat → Nat} (hI : TI n t f c) :
  loopM (m_sL03Tr_s20 ((List.range n).map nm) tr (t : Int)) ((c : Int), 0, rg n f) = some (.inr false) ∨
  ∃ (c' : Nat) (f' : Nat → Nat), loopM (m_sL03Tr_s20 ((List.range n).map nm) tr (t : Int)) ((c : Int), 0, rg n f) = some (.inl ((c' : Int), rg n f')) ∧ (row ≠ [] → TI n (t + 1) f' c') := by
 have e22 : ∀ a b c d, m_sL03Tr_s22 a b c d = m_sL03Tr_s21 a b c d := fun a b c d => rfl
 obtain ⟨r, hrun, hJ⟩ := loopM_count (m_sL03Tr_s20 ((List.range n).map nm) tr (t : Int)) row.length
  (fun i s => ∃ (c : Nat) (f : Nat → Nat), s = ((c : Int), (i : Int), rg n f) ∧ c = cntf n f ∧ (∀ k, k < n → f k ≤ t + 1) ∧ (∀ t', t' < t → ∃ k, k < n ∧ f k = t' + 1) ∧ (i ≠ 0 → ∃ k, k < n ∧ f k = t + 1))
  (fun r => r = .inr false ∨ ∃ (c' : Nat) (f' : Nat → Nat), r = .inl ((c' : Int), rg n f') ∧ (row ≠ [] → TI n (t + 1) f' c')) (s0 := ((c : Int), 0, rg n f))
  ⟨c, f, rfl, hI.cnt, fun k hk => by have := hI.le k hk; omega, hI.ex, fun h => absurd rfl h⟩
  (fun i s hi hs => by
   obtain ⟨c, f, rfl, h1, h2, h3, h4⟩ := hs
   have hcl := cntf_le n f
   have hv : geti row (i : Int) = some row[i] := geti_lt hi
   obtain ⟨k, hk, hloop⟩ := s21_eq (nm := nm) hn hr hv
   -- what the rest does
   have rest : (Option.bind (loopM (m_sL03Tr_s21 ((List.range n).map nm) tr (t : Int) (i : Int)) 0) fun (r1 : Int) => (fun (x17 : Int) => (bif x17 == (((((List.range n).map nm)).length : Int)) then some (Ctl.out (Sum.inr false)) else Option.bind (geti (rg n f) x17) fun x18 => (bif decide (x18 > 0) then some (Ctl.out (Sum.inr false)) else Option.bind (geti (rg n f) x17) fun x19 => some (Ctl.next ((wr ((c : Int) + 1), wr ((i : Int) + 1), (rg n f).set (Int.toNat x17) (wr ((t : Int) + 1)))))))) r1) =
     (if k < n ∧ f k = 0 then some (Ctl.next (((c + 1 : Nat) : Int), ((i + 1 : Nat) : Int), rg n (fun j => if j = k then t + 1 else f j))) else (some (Ctl.out (Sum.inr false)) : Option (Ctl (Int × Int × List Int) (Sum (Int × List Int) Bool)))) := by
    rw [hloop]
    simp only [Option.bind_some]
    by_cases e : k = n
    ·subst e
     rw [bif_t (by simp), if_neg (by omega)]
    ·have hkn : k < n := by omega
     rw [bif_f (by rw [beq_eq_false_iff_ne]; simp; omega), rg_get hkn]
     simp only [Option.bind_some]
     by_cases h0 : f k = 0
     ·rw [bif_f (by rw [decide_eq_false_iff_not]; omega), if_pos ⟨hkn, h0⟩, wr_suc (by omega), wr_suc (by omega), wr_suc (by omega), Int.toNat_natCast, set_rg hkn]
     ·rw [bif_t (by rw [decide_eq_true_eq]; omega), if_neg (fun h => h0 h.2)]
   have fin : ∀ X, m_sL03Tr_s20 ((List.range n).map nm) tr (t : Int) ((c : Int), (i : Int), rg n f) = X → (X = some (Ctl.out (Sum.inr false)) ∨ X = (if k < n ∧ f k = 0 then some (Ctl.next (((c + 1 : Nat) : Int), ((i + 1 : Nat) : Int), rg n (fun j => if j = k then t + 1 else f j))) else some (Ctl.out (Sum.inr false)))) := fun X hX => by
    rw [← hX]
    unfold m_sL03Tr_s20
    dsimp only
    rw [hr]
    simp only [Option.bind_some]
    rw [bif_t (by rw [decide_eq_true_eq]; omega)]
    by_cases hi0 : i = 0
    ·rw [bif_f (by rw [decide_eq_false_iff_not]; omega)]
     right
     simp only [e22]
     exact rest
    ·rw [bif_t (by rw [decide_eq_true_eq]; omega), show wr ((i : Int) - 1) = ((i - 1 : Nat) : Int) from by rw [wr_in (by omega)]; omega, geti_lt (show i - 1 < row.length by omega)]
     simp only [Option.bind_some]
     rw [hv]
     simp only [Option.bind_some]
     cases decide (row[i - 1] ≥ row[i]) with
     | true => exact .inl rfl
     | false => exact .inr rest
   rcases fin _ rfl with h | h
   ·exact .inr ⟨_, h, .inl rfl⟩
   ·by_cases hk2 : k < n ∧ f k = 0
    ·rw [if_pos hk2] at h
     left
     refine ⟨_, h, c + 1, _, rfl, ?_, fun j hj => ?_, fun t' ht' => ?_, fun _ => ⟨k, hk2.1, if_pos rfl⟩⟩
     ·rw [cntf_set hk2.1 hk2.2 (by omega), h1]
     ·show (if j = k then t + 1 else f j) ≤ t + 1
      split
      ·omega
      ·exact h2 j hj
     ·obtain ⟨j, hj, e⟩ := h3 t' ht'
      refine ⟨j, hj, ?_⟩
      show (if j = k then t + 1 else f j) = t' + 1
      rw [if_neg (fun e2 => by rw [e2, hk2.2] at e; omega), e]
    ·rw [if_neg hk2] at h
     exact .inr ⟨_, h, .inl rfl⟩)
  (fun s hs => by
   obtain ⟨c, f, rfl, h1, h2, h3, h4⟩ := hs
   refine ⟨.inl ((c : Int), rg n f), ?_, .inr ⟨c, f, rfl, fun hne => ⟨h1, h2, fun t' ht' => ?_⟩⟩⟩
   ·unfold m_sL03Tr_s20
    dsimp only
    rw [hr]
    simp only [Option.bind_some]
    rw [bif_f (by rw [decide_eq_false_iff_not]; omega)]
   ·by_cases e : t' = t
    ·subst e
     exact h4 (fun h => hne (List.length_eq_zero_iff.1 h))
    ·exact h3 t' (by omega))
 rcases hJ with rfl | ⟨c', f', rfl, h⟩
 ·exact .inl hrun
 ·exact .inr ⟨c', f', hrun, h⟩
theorem all_rows (hn : n ≤ 1000) {tr : List (List Int)} (ht : tr.length ≤ 1000) (hr : ∀ r ∈ tr, r.length ≤ 1000) :
  loopM (m_sL03Tr_s15 ((List.range n).map nm) tr) (0, 0, rg n (fun _ => 0)) = some (.inr false) ∨
  ∃ (c : Nat) (f : Nat → Nat), loopM (m_sL03Tr_s15 ((List.range n).map nm) tr) (0, 0, rg n (fun _ => 0)) = some (.inl ((c : Int), rg n f)) ∧ TI n tr.length f c := by
 obtain ⟨r, hrun, hJ⟩ := loopM_count (m_sL03Tr_s15 ((List.range n).map nm) tr) tr.length
  (fun t s => ∃ (c : Nat) (f : Nat → Nat), s = ((c : Int), (t : Int), rg n f) ∧ TI n t f c)
  (fun r => r = .inr false ∨ ∃ (c : Nat) (f : Nat → Nat), r = .inl ((c : Int), rg n f) ∧ TI n tr.length f c) (s0 := (0, 0, rg n (fun _ => 0)))
  ⟨0, fun _ => 0, rfl, ⟨by
   have : (List.range n).filter (fun k => decide ((fun _ : Nat => 0) k ≠ 0)) = [] := List.filter_eq_nil_iff.2 (fun a _ => by simp)
   unfold cntf; rw [this]; rfl, fun k _ => Nat.le_refl _, fun t' h => by omega⟩⟩
  (fun t s ht' hs => by
   obtain ⟨c, f, rfl, hI⟩ := hs
   have hg : geti tr (t : Int) = some tr[t] := geti_lt ht'
   by_cases h0 : tr[t] = []
   ·right
    refine ⟨.inr false, ?_, .inl rfl⟩
    unfold m_sL03Tr_s15
    dsimp only
    rw [bif_t (by rw [decide_eq_true_eq]; omega), hg]
    simp only [Option.bind_some]
    rw [h0]
    rfl
   ·have hpos : 0 < tr[t].length := List.length_pos_iff.2 h0
    rcases row_step (nm := nm) hn (by omega) hg (hr _ (List.getElem_mem ht')) hI with h | ⟨c', f', h, h2⟩
    ·right
     refine ⟨.inr false, ?_, .inl rfl⟩
     unfold m_sL03Tr_s15
     dsimp only
     rw [bif_t (by rw [decide_eq_true_eq]; omega), hg]
     simp only [Option.bind_some]
     rw [bif_f (by rw [beq_eq_false_iff_ne]; omega), h]
     rfl
    ·left
     refine ⟨((c' : Int), ((t + 1 : Nat) : Int), rg n f'), ?_, c', f', rfl, h2 h0⟩
     unfold m_sL03Tr_s15
     dsimp only
     rw [bif_t (by rw [decide_eq_true_eq]; omega), hg]
     simp only [Option.bind_some]
     rw [bif_f (by rw [beq_eq_false_iff_ne]; omega), h]
     simp only [Option.bind_some]
     rw [wr_suc (by omega)])
  (fun s hs => by
   obtain ⟨c, f, rfl, hI⟩ := hs
   refine ⟨_, ?_, .inr ⟨c, f, rfl, hI⟩⟩
   unfold m_sL03Tr_s15
   dsimp only
   rw [bif_f (by rw [decide_eq_false_iff_not]; omega)])
 rcases hJ with rfl | ⟨c, f, rfl, h⟩
 ·exact .inl hrun
 ·exact .inr ⟨c, f, hrun, h⟩
theorem bm_get {R : Nat → Nat → Bool} {i : Nat} (h : i < n) : geti (bm n R) (i : Int) = some ((List.range n).map fun k => R i k) := geti_map h
def okp (A B : Nat → Nat → Bool) (f : Nat → Nat) (i k : Nat) : Bool := !(A i k && decide (f i = f k)) && !(B i k && decide (f k ≤ f i))
theorem chk_in (hn : n ≤ 1000) {f : Nat → Nat} {i : Nat} (hi : i < n) :
  loopM (m_sL03Tr_s26 ((List.range n).map nm) (bm n A) (bm n B) (rg n f) (i : Int)) 0 = some (if anyIn 0 n (fun k => !okp A B f i k) then .inr false else .inl ()) := by
 refine loop_any 0 n (fun k => !okp A B f i k) false (Nat.zero_le _) (fun k _ hk _ => ?_) ?_
 ·have ga : geti ((List.range n).map fun k => A i k) (k : Int) = some (A i k) := geti_map hk
  have gb : geti ((List.range n).map fun k => B i k) (k : Int) = some (B i k) := geti_map hk
  have hbe : (((f i : Nat) : Int) == ((f k : Nat) : Int)) = decide (f i = f k) := by
   by_cases h : f i = f k
   ·rw [h]; simp
   ·rw [decide_eq_false h, beq_eq_false_iff_ne]; omega
  have hge : decide (((f i : Nat) : Int) ≥ ((f k : Nat) : Int)) = decide (f k ≤ f i) := decide_eq_decide.2 (by omega)
  unfold m_sL03Tr_s26
  dsimp only
  rw [bif_t (by rw [decide_eq_true_eq]; simp; omega), bm_get hi, bm_get hi]
  simp only [Option.bind_some]
  rw [ga, gb, rg_get hi, rg_get hk]
  simp only [Option.bind_some]
  rw [hbe, hge, wr_suc (by omega)]
  unfold okp
  cases A i k <;> cases B i k <;> cases decide (f i = f k) <;> cases decide (f k ≤ f i) <;> rfl
 ·unfold m_sL03Tr_s26
  dsimp only
  rw [bif_f (by rw [decide_eq_false_iff_not]; simp)]
theorem chk_all (hn : n ≤ 1000) {f : Nat → Nat} :
  loopM (m_sL03Tr_s25 ((List.range n).map nm) (bm n A) (bm n B) (rg n f)) 0 = some (if anyIn 0 n (fun i => anyIn 0 n fun k => !okp A B f i k) then .inr false else .inl ()) := by
 refine loop_any 0 n (fun i => anyIn 0 n fun k => !okp A B f i k) false (Nat.zero_le _) (fun i _ hi _ => ?_) ?_
 ·unfold m_sL03Tr_s25
  dsimp only
  rw [bif_t (by rw [decide_eq_true_eq]; simp; omega), chk_in hn hi, wr_suc (by omega)]
  cases anyIn 0 n fun k => !okp A B f i k <;> rfl
 ·unfold m_sL03Tr_s25
  dsimp only
  rw [bif_f (by rw [decide_eq_false_iff_not]; simp)]
/-- The things whose track comes later. -/
def Lv (n : Nat) (f : Nat → Nat) (t : Nat) : Nat := mask ((List.range n).filter fun k => decide (t < f k))
theorem Lv_bit (f : Nat → Nat) (t k : Nat) : (Lv n f t).testBit k = (decide (k < n) && decide (t < f k)) := by
 unfold Lv
 rw [mask_bit, Bool.eq_iff_iff]
 simp
theorem lv_tk {f : Nat → Nat} {m : Nat} (hle : ∀ k, k < n → f k ≤ m) (hex : ∀ t', t' < m → ∃ k, k < n ∧ f k = t' + 1) (hok : ∀ i k, i < n → k < n → okp A B f i k = true) : ∀ (d t : Nat), t + d = m → Tk A B (Lv n f t) d
 | 0, t, h => by
  have : Lv n f t = 0 := by
   apply Nat.eq_of_testBit_eq
   intro k
   rw [Lv_bit, Nat.zero_testBit]
   by_cases hk : k < n
   ·have := hle k hk
    rw [decide_eq_false (show ¬ t < f k by omega)]; simp
   ·simp [hk]
  rw [this]; exact .z
 | d + 1, t, h => by
  have ih := lv_tk hle hex hok d (t + 1) (by omega)
  have hb : ∀ k, (sub (Lv n f t) (Lv n f (t + 1))).testBit k = true ↔ k < n ∧ f k = t + 1 := fun k => by
   rw [sub_bit, Lv_bit, Lv_bit, Bool.and_eq_true, Bool.and_eq_true, Bool.not_eq_true', Bool.and_eq_false_iff, decide_eq_true_eq, decide_eq_true_eq, decide_eq_false_iff_not, decide_eq_false_iff_not]
   omega
  have hf : Fit A B (Lv n f t) (sub (Lv n f t) (Lv n f (t + 1))) := by
   refine ⟨sub_Sub _ _, fun e => ?_, fun i k hi hk => ?_, fun i k hi hk => ?_⟩
   ·obtain ⟨k, hk, e2⟩ := hex t (by omega)
    have := (hb k).2 ⟨hk, e2⟩
    rw [e, Nat.zero_testBit] at this; cases this
   ·obtain ⟨hin, hfi⟩ := (hb i).1 hi
    rw [Lv_bit, Bool.and_eq_true, decide_eq_true_eq, decide_eq_true_eq] at hk
    have := hok k i hk.1 hin
    unfold okp at this
    rw [decide_eq_true (show f i ≤ f k by omega)] at this
    cases hB : B k i with
    | false => rfl
    | true => rw [hB] at this; simp at this
   ·obtain ⟨hin, hfi⟩ := (hb i).1 hi
    obtain ⟨hkn, hfk⟩ := (hb k).1 hk
    have := hok i k hin hkn
    unfold okp at this
    rw [decide_eq_true (show f i = f k by omega)] at this
    cases hA : A i k with
    | false => rfl
    | true => rw [hA] at this; simp at this
  refine .s hf ?_
  have : sub (Lv n f t) (sub (Lv n f t) (Lv n f (t + 1))) = Lv n f (t + 1) := by
   apply Nat.eq_of_testBit_eq
   intro k
   rw [sub_bit, sub_bit, Lv_bit, Lv_bit]
   by_cases hk : k < n
   ·by_cases h1 : t + 1 < f k
    ·simp [hk, h1, show t < f k by omega]
    ·by_cases h2 : t < f k <;> simp [hk, h1, h2]
   ·simp [hk]
  rw [this]; exact ih
theorem tracks_tk (hn : n ≤ 1000) {tr : List (List Int)} (ht : tr.length ≤ 1000) (hr : ∀ r ∈ tr, r.length ≤ 1000) :
  ∃ b, m_sL03Tr ((List.range n).map nm) (bm n A) (bm n B) tr = some b ∧ (b = true → Tk A B (2 ^ n - 1) tr.length) := by
 have hmk : mkC (((List.range n).map nm).length : Int) = some () := by
  unfold mkC chk
  have := hlim
  simp; omega
 have hrep : List.replicate (Int.toNat (((List.range n).map nm).length : Int)) (0 : Int) = rg n (fun _ => 0) := by
  refine List.ext_getElem (by simp [rg, cI]) fun j h1 h2 => ?_
  rw [List.getElem_replicate]
  simp [rg, cI]
 unfold m_sL03Tr
 rw [hmk]
 simp only [Option.bind_some]
 rw [hrep]
 rcases all_rows (nm := nm) hn ht hr with h | ⟨c, f, h, hI⟩
 ·rw [h]
  exact ⟨false, rfl, fun h => by cases h⟩
 ·rw [h]
  simp only [Option.bind_some]
  rw [chk_all hn]
  by_cases hany : anyIn 0 n (fun i => anyIn 0 n fun k => !okp A B f i k) = true
  ·rw [if_pos hany]
   exact ⟨false, rfl, fun h => by cases h⟩
  ·rw [if_neg hany]
   rw [Bool.not_eq_true] at hany
   refine ⟨_, rfl, fun hb => ?_⟩
   have hok : ∀ i k, i < n → k < n → okp A B f i k = true := fun i k hi hk => by
    have h1 := (anyIn_f.1 hany) i (Nat.zero_le _) hi
    have h2 := (anyIn_f.1 h1) k (Nat.zero_le _) hk
    simpa using h2
   have hc : c = n := by
    have : (c : Int) = (((List.range n).map nm).length : Int) := by simpa using hb
    rw [List.length_map, List.length_range] at this; omega
   have hfull : Lv n f 0 = 2 ^ n - 1 := by
    apply Nat.eq_of_testBit_eq
    intro k
    rw [Lv_bit, full_bit]
    by_cases hk : k < n
    ·have hall : ∀ x ∈ List.range n, decide (f x ≠ 0) = true := by
      have h1 := hI.cnt
      rw [hc] at h1
      unfold cntf at h1
      exact List.length_filter_eq_length_iff.1 (by rw [← h1, List.length_range])
     have := hall k (List.mem_range.2 hk)
     rw [decide_eq_true_eq] at this
     rw [decide_eq_true (show 0 < f k by omega)]; simp
    ·simp [hk]
   have := lv_tk hI.le hI.ex hok tr.length 0 (by omega)
   rwa [hfull] at this
end
end Go.Proofs.YtbfjekmefcpkmaaDoor

set_option linter.unusedSimpArgs false
set_option linter.unusedVariables false
set_option linter.unusedSectionVars false
namespace Go.Proofs.YtbfjekmefcpkmaaDoor
open Go.RowKit

theorem put_tot {l : List Int} (hl : l.length ≤ 1000) (p : Int) : ∃ r, m_spec_l00Put l p = some r ∧ r.length ≤ l.length + 1 := by
 obtain ⟨r, hrun, hJ⟩ := loopM_count (m_spec_l00Put_s1 l p) l.length
  (fun k s => ∃ (a : List Int) (b : Bool), s = (a, b, (k : Int)) ∧ a.length ≤ k + b.toNat)
  (fun r => r.1.length ≤ l.length + r.2.toNat) (s0 := (([] : List Int), false, 0)) ⟨[], false, rfl, by simp⟩
  (fun k s hk hs => by
   obtain ⟨a, b, rfl, h⟩ := hs
   left
   have hb : b.toNat ≤ 1 := Bool.toNat_le b
   have hg : geti l (k : Int) = some l[k] := geti_lt hk
   unfold m_spec_l00Put_s1
   dsimp only
   rw [bif_t (by rw [decide_eq_true_eq]; omega), hg]
   simp only [Option.bind_some]
   rw [wr_suc (by omega)]
   cases b with
   | true =>
    simp only [Bool.not_true, cond_false, Option.bind_some]
    rw [apC_sm (by simp at h ⊢; omega)]
    exact ⟨_, rfl, _, true, rfl, by simp at h ⊢; omega⟩
   | false =>
    simp only [Bool.not_false, cond_true]
    cases decide (l[k] ≥ p) with
    | false =>
     simp only [cond_false, Option.bind_some]
     rw [apC_sm (by simp at h ⊢; omega)]
     exact ⟨_, rfl, _, false, rfl, by simp at h ⊢; omega⟩
    | true =>
     cases decide (l[k] > p) with
     | false =>
      simp only [cond_true, cond_false, Option.bind_some]
      rw [apC_sm (by simp at h ⊢; omega)]
      exact ⟨_, rfl, _, true, rfl, by simp at h ⊢; omega⟩
     | true =>
      simp only [cond_true]
      rw [apC_sm (by simp at h ⊢; omega)]
      simp only [Option.bind_some]
      rw [apC_sm (by simp at h ⊢; omega)]
      exact ⟨_, rfl, _, true, rfl, by simp at h ⊢; omega⟩)
  (fun s hs => by
   obtain ⟨a, b, rfl, h⟩ := hs
   refine ⟨(a, b), ?_, h⟩
   unfold m_spec_l00Put_s1
   dsimp only
   rw [bif_f (by simp)])
 obtain ⟨a, b⟩ := r
 simp only at hJ
 unfold m_spec_l00Put
 rw [hrun]
 simp only [Option.bind_some]
 cases b with
 | true => exact ⟨a, rfl, by simpa using hJ⟩
 | false =>
  simp only [Bool.not_false, cond_true]
  rw [apC_sm (by simp at hJ ⊢; omega)]
  exact ⟨_, rfl, by simp at hJ ⊢; omega⟩
section
variable {T U : List Int}
theorem tracks_drawn {l : List Int} (hl : ∀ p ∈ l, In8 p) (P : Pins T U) : ∃ d, m_sB10Tr l T U = some d ∧ d.length ≤ 12 ∧ ∀ r ∈ d, r.length ≤ 12 := by
 have hn := netL_len (T := T) (U := U)
 -- the nets change places
 have h1 : ∃ k s q, loopM (m_sB10Tr_s1 l) (wr (((cI (netL T U)).length : Int) - 1), 0, 0, cI (netL T U)) = some (k, s, q) ∧ q.length = (netL T U).length ∧ 0 ≤ k ∧ k ≤ 100 := by
  obtain ⟨r, hrun, k, s, q, rfl, hJ⟩ := loopM_count (m_sB10Tr_s1 l) ((netL T U).length - 1)
   (fun i st => ∃ s q, st = (((netL T U).length : Int) - 1 - i, (i : Int), s, q) ∧ q.length = (netL T U).length)
   (fun r => ∃ k s q, r = (k, s, q) ∧ q.length = (netL T U).length ∧ 0 ≤ k ∧ k ≤ 100) (s0 := (wr (((cI (netL T U)).length : Int) - 1), 0, 0, cI (netL T U)))
   ⟨0, cI (netL T U), by rw [cI_len, wr_in (by omega)]; simp, cI_len _⟩
   (fun i st hi hs => by
    obtain ⟨s, q, rfl, hq⟩ := hs
    left
    obtain ⟨v, s', e1, a1, b1⟩ := src_pick (k := (i : Int)) (s := s) (n := ((netL T U).length : Int) - 1 - i + 1) hl (by omega) (by omega) (by omega) (by omega)
    obtain ⟨j, hj⟩ := Int.eq_ofNat_of_zero_le (show 0 ≤ ((netL T U).length : Int) - 1 - i by omega)
    obtain ⟨w, rfl⟩ := Int.eq_ofNat_of_zero_le a1
    have g1 : geti q (j : Int) = some (q[j]'(by omega)) := geti_lt (by omega)
    have g2 : geti q (w : Int) = some (q[w]'(by omega)) := geti_lt (by omega)
    have g3 : geti (q.set j (q[w]'(by omega))) (w : Int) = some ((q.set j (q[w]'(by omega)))[w]'(by simp; omega)) := geti_lt (by simp; omega)
    refine ⟨(((netL T U).length : Int) - 1 - ((i + 1 : Nat) : Int), ((i + 1 : Nat) : Int), s', (q.set j (q[w]'(by omega))).set w (q[j]'(by omega))), ?_, s', _, rfl, by simp [hq]⟩
    unfold m_sB10Tr_s1
    dsimp only
    rw [bif_t (by rw [decide_eq_true_eq]; omega), wr_in (x := ((netL T U).length : Int) - 1 - i + 1) (by omega), e1]
    simp only [Option.bind_some]
    rw [hj, g1, g2]
    simp only [Option.bind_some]
    rw [Int.toNat_natCast, g3, Int.toNat_natCast]
    simp only [Option.bind_some]
    rw [wr_in (x := (j : Int) - 1) (by omega), show (j : Int) - 1 = ((netL T U).length : Int) - 1 - ((i + 1 : Nat) : Int) by omega]
    rfl)
   (fun st hs => by
    obtain ⟨s, q, rfl, hq⟩ := hs
    refine ⟨(((((netL T U).length - 1 : Nat)) : Int), s, q), ?_, _, s, q, rfl, hq, by omega, by omega⟩
    unfold m_sB10Tr_s1
    dsimp only
    rw [bif_f (by rw [decide_eq_false_iff_not]; omega)])
  exact ⟨k, s, q, hrun, hJ⟩
 obtain ⟨k0, s0, q, h2, hq, hk0, hk1⟩ := h1
 obtain ⟨r, hrun, hJ⟩ := loopM_count (m_sB10Tr_s2 l q) q.length
  (fun i st => ∃ (d : List (List Int)) (k s : Int), st = (d, (i : Int), k, s) ∧ d.length ≤ i ∧ (∀ r ∈ d, r.length ≤ i) ∧ 0 ≤ k ∧ k ≤ 100 + i)
  (fun d => d.length ≤ 12 ∧ ∀ r ∈ d, r.length ≤ 12) (s0 := (([] : List (List Int)), 0, k0, s0)) ⟨[], k0, s0, rfl, by simp, fun r h => by simp at h, hk0, by simpa using hk1⟩
  (fun i st hi hs => by
   obtain ⟨d, k, s, rfl, hd, hr, hk0, hk1⟩ := hs
   left
   have hg : geti q (i : Int) = some q[i] := geti_lt hi
   unfold m_sB10Tr_s2
   dsimp only
   rw [bif_t (by rw [decide_eq_true_eq]; omega), hg, wr_suc (by omega)]
   simp only [Option.bind_some]
   by_cases h0 : d = []
   ·subst h0
    rw [bif_f (by rfl), apC_sm (by simp)]
    simp only [Option.bind_some]
    exact ⟨_, rfl, _, k, s, rfl, by simp, fun r h => by
     simp at h; subst h; simp, hk0, by omega⟩
   ·have hpos : 0 < d.length := List.length_pos_iff.2 h0
    rw [bif_t (by rw [decide_eq_true_eq]; omega)]
    obtain ⟨v, s', e1, a1, b1⟩ := src_pick (k := k) (s := s) (n := 3) hl (by omega) (by omega) (by omega) (by omega)
    unfold m_sL00SrOne
    rw [e1]
    simp only [Option.bind_some]
    have hwr : wr ((d.length : Int) - 1) = ((d.length - 1 : Nat) : Int) := by rw [wr_in (by omega)]; omega
    have hgl : geti d ((d.length - 1 : Nat) : Int) = some (d[d.length - 1]'(by omega)) := geti_lt (by omega)
    cases v == 0 with
    | true =>
     simp only [cond_true]
     rw [hwr, hgl]
     simp only [Option.bind_some]
     have hrl := hr _ (List.getElem_mem (show d.length - 1 < d.length by omega))
     obtain ⟨y, hy, hyl⟩ := put_tot (l := d[d.length - 1]'(by omega)) (by omega) q[i]
     rw [hy]
     simp only [Option.bind_some]
     refine ⟨_, rfl, _, k + 1, s', rfl, by simp; omega, fun r h => ?_, by omega, by push_cast; omega⟩
     rw [Int.toNat_natCast] at h
     rcases List.mem_or_eq_of_mem_set h with h | h
     ·have := hr r h; omega
     ·rw [h]; omega
    | false =>
     simp only [cond_false]
     rw [apC_sm (by simp; omega)]
     simp only [Option.bind_some]
     refine ⟨_, rfl, _, k + 1, s', rfl, by simp; omega, fun r h => ?_, by omega, by push_cast; omega⟩
     rcases List.mem_append.1 h with h | h
     ·have := hr r h; omega
     ·rw [List.mem_singleton.1 h]; simp)
  (fun st hs => by
   obtain ⟨d, k, s, rfl, hd, hr, _, _⟩ := hs
   refine ⟨d, ?_, by omega, fun r h => by have := hr r h; omega⟩
   unfold m_sB10Tr_s2
   dsimp only
   rw [bif_f (by rw [decide_eq_false_iff_not]; omega)])
 refine ⟨r, ?_, hJ⟩
 unfold m_sB10Tr m_spec_l00From
 simp only [Option.bind_some]
 rw [snets_eq P.len P.small]
 simp only [Option.bind_some]
 rw [h2]
 simp only [Option.bind_some]
 rw [hrun]
 rfl
theorem isRouting_eq (hv : valB T U = true) {cs : List Nat} (hw : Way (apA T U) (abB T U) (2 ^ nN T U - 1) cs) : m_iIsRou T U (cs.map fun c => (bitsL (nN T U) c).map (nmI T U)) = some true := by
 have P := valB_pins hv
 have hn := nN_le (T := T) (U := U)
 obtain ⟨apN, ahN, h1, O⟩ := netOrder_eq P
 have hlen := hw.tk.le_n (full_lt _)
 have hpl := places_eq (n := nN T U) (nm := nmI T U) (by omega) nm_mono (tr := cs.map (bitsL (nN T U))) (by simp; omega) (fun t ht => by
  obtain ⟨c, _, rfl⟩ := List.mem_map.1 ht
  exact ⟨cnt_small (by omega) c, fun x hx => (mem_bitsL.1 hx).1⟩)
 have e1 : (cs.map fun c => (bitsL (nN T U) c).map (nmI T U)) = (cs.map (bitsL (nN T U))).map fun t => t.map (nmI T U) := by rw [List.map_map]; rfl
 have e2 : (cs.map fun c => cI (bitsL (nN T U) c)) = (cs.map (bitsL (nN T U))).map cI := by rw [List.map_map]; rfl
 have hs := setsOk_eq O hw
 unfold m_iIsRou
 rw [val_eq hv]
 simp only [Option.bind_some]
 rw [bif_f (by rfl), nets_eq P.len P.small, names_eq]
 simp only [Option.bind_some]
 rw [e1, hpl]
 simp only [Option.bind_some]
 rw [bif_t (by rfl), h1]
 simp only [Option.bind_some]
 rw [← e2, hs]
 rfl
theorem sIsRouting (hv : valB T U = true) {tr : List (List Int)} (ht : tr.length ≤ 12) (hr : ∀ r ∈ tr, r.length ≤ 12) : ∃ b, m_sIsRou T U tr = some b ∧ (b = true → Tk (apA T U) (abB T U) (2 ^ nN T U - 1) tr.length) := by
 have P := valB_pins hv
 have hn := nN_le (T := T) (U := U)
 obtain ⟨b, h1, h2⟩ := tracks_tk (A := apA T U) (B := abB T U) (n := nN T U) (nm := nmI T U) (by omega) (tr := tr) (by omega) (fun r h => by have := hr r h; omega)
 refine ⟨b, ?_, h2⟩
 have hsm := P.small
 have hlen := P.len
 unfold m_sIsRou
 rw [Is_eq T U (by omega) (by omega), hv]
 simp only [Option.bind_some]
 rw [bif_t (by rfl), ofNets_eq P]
 simp only [Option.bind_some]
 rw [h1]
 rfl
theorem anyIn_suc {a k : Nat} (h : a ≤ k) (p : Nat → Bool) : anyIn a (k + 1) p = (anyIn a k p || p k) := by
 rw [Bool.eq_iff_iff, Bool.or_eq_true, anyIn_t, anyIn_t]
 constructor
 ·rintro ⟨j, h1, h2, h3⟩
  by_cases e : j = k
  ·subst e; exact .inr h3
  ·exact .inl ⟨j, h1, by omega, h3⟩
 ·rintro (⟨j, h1, h2, h3⟩ | h3)
  ·exact ⟨j, h1, by omega, h3⟩
  ·exact ⟨k, h, by omega, h3⟩
/-- Is there a net above another? -/
def someAb (T U : List Int) : Bool := anyIn 0 (nN T U) fun i => anyIn 0 (nN T U) fun k => Rab T U (nmN T U i) (nmN T U k)
theorem someAb_t : someAb T U = true ↔ ∃ a b, Rab T U a b = true := by
 unfold someAb
 rw [anyIn_t]
 constructor
 ·rintro ⟨i, _, hi, h⟩
  obtain ⟨k, _, hk, h⟩ := anyIn_t.1 h
  exact ⟨_, _, h⟩
 ·rintro ⟨a, b, h⟩
  obtain ⟨ha, hb⟩ := Rab_mem h
  exact ⟨ixN' T U a, Nat.zero_le _, ix_lt' ha, anyIn_t.2 ⟨ixN' T U b, Nat.zero_le _, ix_lt' hb, by rw [nm_ix' ha, nm_ix' hb]; exact h⟩⟩
theorem nm_get {i : Nat} (hi : i < nN T U) : geti (cI (netL T U)) (i : Int) = some ((nmN T U i : Nat) : Int) := by
 rw [names_eq]; exact geti_map hi
theorem nm_100 {i : Nat} (hi : i < nN T U) : nmN T U i ≤ 100 := by
 have := (mem_netL.1 (nm_mem hi)).1
 omega
theorem free_in (hv : valB T U = true) {i : Nat} (hi : i < nN T U) (b : Bool) : loopM (m_lFnCha_s4 (T, U) (cI (netL T U), true) (i : Int)) (b, 0) = some (b && !anyIn 0 (nN T U) fun k => Rab T U (nmN T U i) (nmN T U k)) := by
 have hn := nN_le (T := T) (U := U)
 refine loopM_val _ (nN T U) (fun k s => s = (b && !anyIn 0 k (fun k => Rab T U (nmN T U i) (nmN T U k)), (k : Int))) (by
  have : anyIn 0 0 (fun k => Rab T U (nmN T U i) (nmN T U k)) = false := anyIn_f.2 fun k _ h => by omega
  rw [this]; simp) (fun k s hk hs => ?_) (fun s hs => ?_)
 ·subst hs
  refine .inl ⟨_, ?_, rfl⟩
  unfold m_lFnCha_s4
  dsimp only
  rw [bif_t (by rw [decide_eq_true_eq, cI_len]; show (k : Int) < ((nN T U : Nat) : Int); omega), nm_get hi]
  simp only [Option.bind_some]
  rw [nm_get hk]
  simp only [Option.bind_some]
  rw [must_eq hv (nm_100 hi) (nm_100 hk), wr_suc (by omega), anyIn_suc (Nat.zero_le _)]
  cases b <;> cases (anyIn 0 k fun k => Rab T U (nmN T U i) (nmN T U k)) <;> cases Rab T U (nmN T U i) (nmN T U k) <;> rfl
 ·subst hs
  unfold m_lFnCha_s4
  dsimp only
  rw [bif_f (by rw [decide_eq_false_iff_not, cI_len]; show ¬ ((nN T U : Nat) : Int) < ((nN T U : Nat) : Int); omega)]
theorem freeL_eq (hv : valB T U = true) : loopM (m_lFnCha_s3 (T, U) (cI (netL T U), true)) (true, 0) = some (!someAb T U) := by
 have hn := nN_le (T := T) (U := U)
 refine loopM_val _ (nN T U) (fun i s => s = (!anyIn 0 i (fun i => anyIn 0 (nN T U) fun k => Rab T U (nmN T U i) (nmN T U k)), (i : Int))) (by
  have : anyIn 0 0 (fun i => anyIn 0 (nN T U) fun k => Rab T U (nmN T U i) (nmN T U k)) = false := anyIn_f.2 fun k _ h => by omega
  rw [this]; rfl) (fun i s hi hs => ?_) (fun s hs => ?_)
 ·subst hs
  refine .inl ⟨_, ?_, rfl⟩
  unfold m_lFnCha_s3
  dsimp only
  rw [bif_t (by rw [decide_eq_true_eq, cI_len]; show (i : Int) < ((nN T U : Nat) : Int); omega), free_in hv hi]
  simp only [Option.bind_some]
  rw [wr_suc (by omega), anyIn_suc (Nat.zero_le _)]
  cases (anyIn 0 i fun i => anyIn 0 (nN T U) fun k => Rab T U (nmN T U i) (nmN T U k)) <;> cases (anyIn 0 (nN T U) fun k => Rab T U (nmN T U i) (nmN T U k)) <;> rfl
 ·subst hs
  unfold m_lFnCha_s3
  dsimp only
  rw [bif_f (by rw [decide_eq_false_iff_not, cI_len]; show ¬ ((nN T U : Nat) : Int) < ((nN T U : Nat) : Int); omega)]
  rfl
theorem bHas_eq (l : List Int) (hl : l.length ≤ 1000) (a : Int) : m_laws_b10Has l a = some (decide (a ∈ l)) := by
 have hloop := loop_any (step := m_laws_b10Has_s1 l a) 0 l.length (fun k => l.getD k 0 == a) true (Nat.zero_le _) (fun k _ hk _ => by
  unfold m_laws_b10Has_s1
  dsimp only
  rw [bif_t (by rw [decide_eq_true_eq]; omega), getD_at hk, wr_suc (by omega)]
  simp only [Option.bind_some]
  cases (l.getD k 0 == a) <;> rfl) (by
  unfold m_laws_b10Has_s1
  dsimp only
  rw [bif_f (by simp)])
 have hmem : anyIn 0 l.length (fun k => l.getD k 0 == a) = decide (a ∈ l) := by
  rw [Bool.eq_iff_iff, anyIn_t, decide_eq_true_eq, List.mem_iff_getElem]
  constructor
  ·rintro ⟨k, _, hk, h⟩
   rw [beq_iff_eq, List.getD, List.getElem?_eq_getElem hk] at h
   exact ⟨k, hk, h⟩
  ·rintro ⟨k, hk, h⟩
   exact ⟨k, Nat.zero_le _, hk, by rw [beq_iff_eq, List.getD, List.getElem?_eq_getElem hk]; exact h⟩
 unfold m_laws_b10Has
 rw [show (0 : Int) = ((0 : Nat) : Int) from rfl, hloop, hmem]
 cases decide (a ∈ l) <;> rfl
theorem cyc_check (hv : valB T U = true) {c : List Nat} (hc : Rng (Rab T U) c) : loopM (m_lFnCha_s5 (T, U) (cI c, true)) 0 = some (.inl ()) := by
 have h2 := hc.two
 have hlt : ∀ x ∈ c, x < 13 := fun x hx => by
  obtain ⟨p, hp, rfl⟩ := List.mem_iff_getElem.1 hx
  have hm : (p + 1) % c.length < c.length := Nat.mod_lt _ (by omega)
  exact (Rab_lt _ _ (hc.st p _ _ (List.getElem?_eq_getElem hp) (List.getElem?_eq_getElem hm))).1
 have hlen : c.length ≤ 13 := by
  have := List.Nodup.length_le_of_subset hc.nd (fun x hx => List.mem_range.2 (hlt x hx))
  rwa [List.length_range] at this
 refine loopM_val _ c.length (fun k s => s = (k : Int)) rfl (fun k s hk hs => ?_) (fun s hs => ?_)
 ·subst hs
  refine .inl ⟨_, ?_, rfl⟩
  have hm : (k + 1) % c.length < c.length := Nat.mod_lt _ (by omega)
  have hR := hc.st k _ _ (List.getElem?_eq_getElem hk) (List.getElem?_eq_getElem hm)
  have hlk := hlt _ (List.getElem_mem hk)
  have hlm := hlt _ (List.getElem_mem hm)
  have hmod : Int.tmod ((k + 1 : Nat) : Int) (((cI c).length : Nat) : Int) = (((k + 1) % c.length : Nat) : Int) := by rw [cI_len]; rfl
  have hnz : nzC (((cI c).length : Nat) : Int) = some () := nzC_ok (by rw [cI_len]; omega)
  unfold m_lFnCha_s5
  dsimp only
  rw [bif_t (by rw [decide_eq_true_eq, cI_len]; omega), geti_cI hk, hnz, wr_suc (by omega), hmod, geti_cI hm]
  simp only [Option.bind_some]
  rw [must_eq hv (by omega) (by omega), hR]
  simp only [Option.bind_some]
  rw [bif_f (by rfl), slci_take (by rw [cI_len]; omega)]
  simp only [Option.bind_some]
  rw [bHas_eq _ (by rw [List.length_take, cI_len]; omega)]
  simp only [Option.bind_some]
  rw [bif_f (decide_eq_false fun hmem => ?_)]
  have h3 : c[k] ∈ c.take k := by
   have e : (cI c).take k = cI (c.take k) := by unfold cI; rw [List.map_take]
   rw [e] at hmem
   exact mem_cI.1 hmem
  obtain ⟨p, hp, e⟩ := List.mem_iff_getElem.1 h3
  rw [List.length_take] at hp
  rw [List.getElem_take] at e
  exact List.pairwise_iff_getElem.1 (List.nodup_iff_pairwise_ne.1 hc.nd) p k (by omega) hk (by omega) e
 ·subst hs
  unfold m_lFnCha_s5
  dsimp only
  rw [bif_f (by rw [decide_eq_false_iff_not, cI_len]; omega)]
end
theorem lawChannels (l0 l1 : List Int) (h0 : ∀ p ∈ l0, In8 p) (h1 : ∀ p ∈ l1, In8 p) : m_lFnCha l0 l1 = some true := by
 unfold m_lFnCha m_laws_b10Long
 by_cases c0 : (l0.length : Int) > 1048576
 ·rw [bif_t (by simpa using c0)]; rfl
 rw [bif_f (by simpa using c0)]
 simp only [Option.bind_some]
 by_cases c1 : (l1.length : Int) > 1048576
 ·rw [bif_t (by simpa using c1)]
 rw [bif_f (by simpa using c1)]
 obtain ⟨T, U, hd, hv, hT8, _⟩ := channel_drawn h0
 have P := valB_pins hv
 have hn := nN_le (T := T) (U := U)
 rw [hd]
 simp only [Option.bind_some]
 have hno : m_impl_NetsOf T U = some (cI (netL T U), true) := by
  unfold m_impl_NetsOf
  rw [val_eq hv]
  simp only [Option.bind_some]
  rw [bif_f (by rfl), nets_eq P.len P.small]
  rfl
 obtain ⟨d, hden, d1, d2⟩ := density_eq hv
 rcases cycle_eq hv with ⟨hno2, hS, hcyc⟩ | ⟨c, hc, ⟨S, hS0, hS⟩, hcyc⟩
 ·-- no ring
  obtain ⟨m0, hm0⟩ := free_tk hno2 _ (2 ^ nN T U - 1) rfl (full_lt _)
  obtain ⟨cs, hC, hfew⟩ : ∃ cs, Chain (apA T U) (abB T U) (nN T U) (2 ^ nN T U - 1) cs ∧ m_iFewes T U = some (cs.map fun c => (bitsL (nN T U) c).map (nmI T U), true) := by
   rcases few_impl hv with h | ⟨hN, _⟩
   ·exact h
   ·exact absurd hm0 (hN m0)
  have hlen := hC.way.tk.le_n (full_lt _)
  obtain ⟨v, hlong, hv2⟩ := longest_yes hv hS (m := cs.length) (by omega) hC.way.tk
  have hdm : d ≤ cs.length := by
   rcases d2 with h | ⟨c, _, h⟩
   ·omega
   ·rw [← h]; exact dens_tk hC.way.tk c
  obtain ⟨tr, htr, tr1, tr2⟩ := tracks_drawn (T := T) (U := U) h1 P
  obtain ⟨b, hb1, hb2⟩ := sIsRouting hv tr1 tr2
  have hrl : (((cs.map fun c => (bitsL (nN T U) c).map (nmI T U)).length : Nat) : Int) = (cs.length : Int) := by rw [List.length_map]
  by_cases hab : someAb T U = true
  ·obtain ⟨a, b', hR⟩ := someAb_t.1 hab
   have hleft := left_no hv hR
   rw [hfew, hcyc, hden, hlong, hleft, hno]
   simp only [Option.bind_some]
   rw [bif_f (by rfl), bif_f (by rfl), bif_f (by rfl), bif_f (by rfl), freeL_eq hv, hab]
   simp only [Option.bind_some]
   rw [bif_f (by rfl), bif_f (by rfl), htr]
   simp only [Option.bind_some]
   rw [isRouting_eq hv hC.way]
   simp only [Option.bind_some]
   rw [bif_f (by rfl), hrl, bif_f (by rw [decide_eq_false_iff_not]; omega), bif_f (by rw [decide_eq_false_iff_not]; omega), hb1]
   simp only [Option.bind_some]
   cases hb : b with
   | false => rfl
   | true =>
    have := hC.isL.lo _ (hb2 hb)
    rw [bif_t (by rfl), bif_f (by rw [decide_eq_false_iff_not]; omega)]
    rfl
  ·rw [Bool.not_eq_true] at hab
   have hall : ∀ a b, Rab T U a b = false := fun a b => by
    cases hR : Rab T U a b with
    | false => rfl
    | true =>
     have := someAb_t.2 ⟨a, b, hR⟩
     rw [hab] at this; cases this
   obtain ⟨ds, hleft, hW, hdd⟩ := left_yes hv hall
   have hdl : ((((ds.map fun c => (bitsL (nN T U) c).map (nmI T U)).length : Nat) : Int) == (d : Int)) = true := by
    rw [List.length_map, beq_iff_eq]
    have h1 : d ≤ ds.length := by
     rcases d2 with h | ⟨c, _, h⟩
     ·omega
     ·rw [← h]; exact dens_tk hW.tk c
    have h2 : ds.length ≤ d := by
     rcases hdd with h | ⟨c, hc, h⟩
     ·rw [h]; simp
     ·exact Nat.le_trans h (d1 c hc)
    omega
   rw [hfew, hcyc, hden, hlong, hleft, hno]
   simp only [Option.bind_some]
   rw [bif_f (by rfl), bif_f (by rfl), bif_f (by rfl), bif_f (by rfl), freeL_eq hv, hab]
   simp only [Option.bind_some]
   rw [bif_f (by rfl), bif_f (by rfl), htr]
   simp only [Option.bind_some]
   rw [isRouting_eq hv hC.way]
   simp only [Option.bind_some]
   rw [bif_f (by rfl), hrl, bif_f (by rw [decide_eq_false_iff_not]; omega), bif_f (by rw [decide_eq_false_iff_not]; omega), hb1]
   simp only [Option.bind_some]
   rw [isRouting_eq hv hW]
   cases hb : b with
   | false =>
    rw [bif_f (by rfl), bif_f (by rfl), bif_t hdl]
    rfl
   | true =>
    have := hC.isL.lo _ (hb2 hb)
    rw [bif_t (by rfl), bif_f (by rw [decide_eq_false_iff_not]; omega), bif_f (by rfl), bif_t hdl]
    rfl
 ·-- a ring
  obtain ⟨i, j, k, hij, hw⟩ := rng_walk hc
  rcases few_impl hv with ⟨cs, hC, _⟩ | ⟨hN, hfew⟩
  ·exact (no_ring hC.way.tk hij hw).elim
  have hlong := longest_no hv hS0 hS
  have hleft := left_no hv hij
  have hab := someAb_t.2 ⟨i, j, hij⟩
  rw [hfew, hcyc, hden, hlong, hleft, hno]
  simp only [Option.bind_some]
  rw [bif_f (by rfl), bif_f (by rfl), bif_f (by rfl), bif_f (by rfl), freeL_eq hv, hab]
  simp only [Option.bind_some]
  rw [bif_f (by rfl), bif_t (by rfl), cyc_check hv hc]
  simp only [Option.bind_some]
  have := hc.two
  rw [decide_eq_true (by rw [cI_len]; omega)]
end Go.Proofs.YtbfjekmefcpkmaaDoor
