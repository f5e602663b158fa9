/- Points written as text and read back. -/
import Derived.Test.YtpfipmomchgdaaaGreatDoorPuSet
import Derived.Lib.SplitLaws
import Derived.Lib.JoinFns
set_option linter.unusedSimpArgs false
set_option linter.unusedVariables false
namespace Go.Proofs.YtpfipmomchgdaaaGreatDoor
open Go.RowKit

/-! ### Digits -/
def dgt (n : Nat) : List UInt8 := if n < 10 then [UInt8.ofNat (48 + n)] else [UInt8.ofNat (48 + n / 10), UInt8.ofNat (48 + n % 10)]
theorem dgt_dec {n : Nat} (h : n < 100) : Lib.decDigits n = dgt n := by
  unfold dgt
  by_cases c : n < 10
  · rw [if_pos c, Lib.decDigits_one c]
  · rw [if_neg c, Lib.decDigits_two c h]
theorem dgt_all : ∀ n : Fin 100, Lib.parseIntB 64 (dgt n.val) = .ok ((n.val : Nat) : Int) ∧ (44 : UInt8) ∉ dgt n.val ∧ (46 : UInt8) ∉ dgt n.val ∧ (dgt n.val).head? ≠ some 110 ∧ (dgt n.val).head? ≠ none ∧ (dgt n.val).length ≤ 2 := by decide +kernel
theorem dgt_facts {n : Nat} (h : n < 100) : Lib.parseIntB 64 (dgt n) = .ok (n : Int) ∧ (44 : UInt8) ∉ dgt n ∧ (46 : UInt8) ∉ dgt n ∧ (dgt n).head? ≠ some 110 ∧ (dgt n).head? ≠ none ∧ (dgt n).length ≤ 2 := dgt_all ⟨n, h⟩
theorem size_data (s : ByteArray) : s.size = s.data.toList.length := by rw [Array.length_toList]; rfl
theorem Decimal_eq {n : Int} (h0 : 0 ≤ n) (h1 : n < 100) : m_impl_Decimal n = some ⟨(dgt n.toNat).toArray⟩ := by
  unfold m_impl_Decimal m_strconv_FormatInt
  rw [if_pos ⟨h0, h1, rfl⟩, dgt_dec (by omega)]; rfl
theorem ReadDecimal_eq {b : ByteArray} {n : Int} (h0 : 0 ≤ n) (h1 : n < 100) (hb : b.data.toList = dgt n.toNat) : m_impl_ReadDecimal b = some (n, true) := by
  obtain ⟨f1, _, _, _, _, f6⟩ := dgt_facts (n := n.toNat) (by omega)
  have hn : ((n.toNat : Nat) : Int) = n := by omega
  unfold m_impl_ReadDecimal m_strconv_ParseInt
  rw [if_pos ⟨rfl, rfl, by rw [size_data, hb]; omega⟩, hb, f1, hn]
  simp only [bind_some']
  rw [in_eq']
  simp only [bind_some']
  rw [bif_f (by simp; omega), Decimal_eq h0 h1]
  simp only [bind_some']
  rw [Lib.toList_data, Lib.toList_data, hb, bif_f (by simp)]
/-! ### One byte that parts -/
theorem idx_hit {c : UInt8} : ∀ (p r : List UInt8), c ∉ p → Lib.indexByte (p ++ c :: r) c = p.length
  | [], r, _ => by simp [Lib.indexByte]
  | b :: p, r, h => by
    have hb : b ≠ c := fun e => h (by rw [e]; exact List.mem_cons_self)
    have ih := idx_hit p r (fun hm => h (List.mem_cons_of_mem _ hm))
    have hne : ¬ (p.length : Int) = -1 := by omega
    simp only [List.cons_append, Lib.indexByte, ih]
    simp [hb, hne]
theorem idx_miss {c : UInt8} : ∀ (p : List UInt8), c ∉ p → Lib.indexByte p c = -1
  | [], _ => rfl
  | b :: p, h => by
    have hb : b ≠ c := fun e => h (by rw [e]; exact List.mem_cons_self)
    have ih := idx_miss p (fun hm => h (List.mem_cons_of_mem _ hm))
    simp only [Lib.indexByte, ih]
    simp [hb]
def tlP (c : UInt8) (p : List UInt8) (r : List (List UInt8)) : List UInt8 := p ++ (r.map (c :: ·)).flatten
theorem tlP_cons (c : UInt8) (p q : List UInt8) (r : List (List UInt8)) : tlP c p (q :: r) = p ++ c :: tlP c q r := by simp [tlP]
theorem split_parts {c : UInt8} : ∀ (r : List (List UInt8)) (p : List UInt8), (∀ x ∈ p :: r, c ∉ x) → Lib.splitK [c] 0 (Lib.count (tlP c p r) [c]) (tlP c p r) = p :: r
  | [], p, h => by
    have hp := h p (by simp)
    have e : tlP c p [] = p := by simp [tlP]
    rw [e, Lib.count_one, List.count_eq_zero_of_not_mem hp]
    rfl
  | q :: r, p, h => by
    have hp := h p (by simp)
    have ih := split_parts r q (fun x hx => h x (by simp only [List.mem_cons] at hx ⊢; exact Or.inr hx))
    have hi : Lib.index (tlP c p (q :: r)) [c] = p.length := by rw [Lib.index_one, tlP_cons]; exact idx_hit p _ hp
    have hc : Lib.count (tlP c p (q :: r)) [c] = Lib.count (tlP c q r) [c] + 1 := by
      rw [Lib.count_one, Lib.count_one, tlP_cons, List.count_append, List.count_eq_zero_of_not_mem hp, List.count_cons_self]; omega
    rw [hc]
    have hm : ¬ ((Lib.index (tlP c p (q :: r)) [c] == -1) = true) := by rw [hi]; simp
    unfold Lib.splitK
    rw [if_neg hm, hi]
    have e1 : (tlP c p (q :: r)).take (((p.length : Nat) : Int).toNat + 0) = p := by rw [tlP_cons]; simp
    have e2 : (tlP c p (q :: r)).drop (((p.length : Nat) : Int).toNat + [c].length) = tlP c q r := by
      rw [tlP_cons]
      have : ((p.length : Nat) : Int).toNat + [c].length = p.length + 1 := by simp
      rw [this, List.drop_append, List.drop_of_length_le (by omega)]
      have : p.length + 1 - p.length = 1 := by omega
      rw [this]
      rfl
    rw [e1, e2, ih]
theorem join_tlP (c : UInt8) (p : List UInt8) (r : List (List UInt8)) : Lib.join (p :: r) [c] = tlP c p r := by
  rw [Lib.join_cons]
  rfl
/-! ### The text of a point -/
def ptx (p : Pt) : List UInt8 := dgt p.1.toNat ++ 46 :: dgt p.2.toNat
def pB (p : Pt) : ByteArray := ((⟨(dgt p.1.toNat).toArray⟩ : ByteArray) ++ (ByteArray.mk #[46])) ++ (⟨(dgt p.2.toNat).toArray⟩ : ByteArray)
theorem pB_data (p : Pt) : (pB p).data.toList = ptx p := by
  unfold pB ptx
  simp [ByteArray.data_append]
theorem ptx_facts {p : Pt} (h : okP p = true) : (44 : UInt8) ∉ ptx p ∧ (ptx p).head? ≠ some 110 ∧ (ptx p).head? ≠ none ∧ (ptx p).length ≤ 5 := by
  have hk := okP_t h
  obtain ⟨_, f2, _, f4, f5, f6⟩ := dgt_facts (n := p.1.toNat) (by omega)
  obtain ⟨_, g2, _, _, _, g6⟩ := dgt_facts (n := p.2.toNat) (by omega)
  unfold ptx
  refine ⟨?_, ?_, ?_, ?_⟩
  · simp only [List.mem_append, List.mem_cons, not_or]
    exact ⟨f2, by decide, g2⟩
  · cases hd : dgt p.1.toNat with
    | nil => rw [hd] at f5; exact absurd rfl f5
    | cons a l => rw [hd] at f4; simpa using f4
  · cases hd : dgt p.1.toNat with
    | nil => rw [hd] at f5; exact absurd rfl f5
    | cons a l => simp
  · simp only [List.length_append, List.length_cons]; omega
theorem lens_le : ∀ xs : List (List UInt8), (∀ x ∈ xs, x.length ≤ 5) → (xs.map List.length).sum ≤ 5 * xs.length
  | [], _ => by simp
  | x :: xs, h => by
    have h1 := h x (by simp)
    have h2 := lens_le xs fun y hy => h y (by simp [hy])
    simp only [List.map_cons, List.sum_cons, List.length_cons]; omega
section
variable {ps : List Pt} (hok : okPs ps = true) (hlen : ps.length ≤ 24)
include hok hlen in
theorem parts_eq : loopM (m_impl_pointsText_s1 ps) (([] : List ByteArray), 0) = some (ps.map pB) := by
  refine loopM_val _ ps.length (fun k s => s = ((ps.take k).map pB, (k : Int))) (by simp) ?_ ?_
  · rintro k _ hk rfl
    left
    have hp := okP_t (okPs_at hok hk)
    obtain ⟨_, _, _, _, _, f6⟩ := dgt_facts (n := ps[k].1.toNat) (by omega)
    obtain ⟨_, _, _, _, _, g6⟩ := dgt_facts (n := ps[k].2.toNat) (by omega)
    have s1 : (⟨(dgt ps[k].1.toNat).toArray⟩ : ByteArray).size ≤ 2 := by rw [size_data]; simpa using f6
    have s2 : (⟨(dgt ps[k].2.toNat).toArray⟩ : ByteArray).size ≤ 2 := by rw [size_data]; simpa using g6
    have s3 : (ByteArray.mk #[46]).size = 1 := rfl
    have s4 : ((⟨(dgt ps[k].1.toNat).toArray⟩ : ByteArray) ++ (ByteArray.mk #[46])).size ≤ 3 := by rw [ByteArray.size_append]; omega
    have c1 : sadC (⟨(dgt ps[k].1.toNat).toArray⟩ : ByteArray) (ByteArray.mk #[46]) = some () := by unfold sadC chk; rw [if_pos (by simp only [decide_eq_true_eq]; omega)]
    have c2 : sadC ((⟨(dgt ps[k].1.toNat).toArray⟩ : ByteArray) ++ (ByteArray.mk #[46])) (⟨(dgt ps[k].2.toNat).toArray⟩ : ByteArray) = some () := by unfold sadC chk; rw [if_pos (by simp only [decide_eq_true_eq]; omega)]
    unfold m_impl_pointsText_s1
    simp only []
    rw [bif_t (by simpa using hk), geti_lt hk]
    simp only [bind_some']
    rw [Decimal_eq hp.1 (by omega)]
    simp only [bind_some']
    rw [c1]
    simp only [bind_some']
    rw [Decimal_eq hp.2.2.1 (by omega)]
    simp only [bind_some']
    rw [c2]
    simp only [bind_some']
    rw [apC_ok (by unfold lim; simp; omega)]
    simp only [bind_some']
    refine ⟨_, rfl, ?_⟩
    rw [wr_in (by omega), List.take_succ_eq_append_getElem hk, List.map_append]
    rfl
  · rintro _ rfl
    unfold m_impl_pointsText_s1
    simp only []
    rw [bif_f (by simp), List.take_length]
include hok hlen in
theorem join_len (hne : ps ≠ []) : (Lib.join ((ps.map pB).map (·.data.toList)) [44]).length ≤ 200 ∧ ((ps.map pB).map (·.data.toList)) = ps.map ptx := by
  have e : ((ps.map pB).map (·.data.toList)) = ps.map ptx := by
    rw [List.map_map]
    exact List.map_congr_left fun p _ => pB_data p
  refine ⟨?_, e⟩
  rw [e]
  cases ps with
  | nil => exact absurd rfl hne
  | cons p r =>
    have h5 : ∀ x ∈ (p :: r).map ptx, x.length ≤ 5 := fun x hx => by
      obtain ⟨q, hq, rfl⟩ := List.mem_map.1 hx
      exact (ptx_facts (List.all_eq_true.1 hok q hq)).2.2.2
    have h6 := lens_le _ h5
    rw [List.map_cons, Lib.join_length]
    have h7 : Lib.lens (ptx p :: r.map ptx) = ((ptx p :: r.map ptx).map List.length).sum := rfl
    rw [h7]
    simp only [List.map_cons, List.length_cons, List.length_map, List.length_nil] at h6 hlen ⊢
    omega
/-- The text. -/
def txtB (ps : List Pt) : ByteArray := if ps = [] then ByteArray.mk #[110, 111, 110, 101] else ⟨(Lib.join (ps.map ptx) [44]).toArray⟩
include hok hlen in
theorem PointsText_eq (hA : m_impl_ArePoints ps = some true) : m_impl_PointsText ps = some (txtB ps, true) := by
  unfold m_impl_PointsText m_impl_pointsText
  rw [hA, bind_some', bif_f (by rfl), parts_eq hok hlen]
  simp only [bind_some']
  unfold m_impl_joined txtB
  by_cases he : ps = []
  · subst he
    rw [if_pos rfl, bif_t (by rfl)]; rfl
  · obtain ⟨j1, j2⟩ := join_len hok hlen he
    have hne : ¬ ps.length = 0 := fun hh => he (List.length_eq_zero_iff.1 hh)
    rw [if_neg he, bif_f (by simp; omega)]
    unfold m_strings_Join
    have e44 : (ByteArray.mk #[44]).data.toList = [44] := rfl
    rw [e44, if_pos ⟨by simp; omega, by omega⟩, j2]; rfl
include hok hlen in
theorem parted_eq : ∃ l : List ByteArray, m_impl_parted (txtB ps) = some l ∧ l.map (·.data.toList) = ps.map ptx := by
  unfold m_impl_parted txtB
  by_cases he : ps = []
  · subst he
    rw [if_pos rfl, bif_t (by simp)]
    exact ⟨[], rfl, rfl⟩
  · obtain ⟨j1, j2⟩ := join_len hok hlen he
    rw [j2] at j1
    rw [if_neg he]
    cases ps with
    | nil => exact absurd rfl he
    | cons p r =>
      have ht : Lib.join ((p :: r).map ptx) [44] = tlP 44 (ptx p) (r.map ptx) := join_tlP 44 _ _
      obtain ⟨_, f2, f3, _⟩ := ptx_facts (okPs_at hok (k := 0) (by simp))
      have hhd : (tlP 44 (ptx p) (r.map ptx)).head? ≠ some 110 := by
        unfold tlP
        cases hd : ptx p with
        | nil => rw [show (p :: r)[0] = p from rfl, hd] at f3; exact absurd rfl f3
        | cons a l => rw [show (p :: r)[0] = p from rfl, hd] at f2; simpa using f2
      have hno : ((⟨(Lib.join ((p :: r).map ptx) [44]).toArray⟩ : ByteArray).toList == (ByteArray.mk #[110, 111, 110, 101]).toList) = false := by
        rw [Lib.toList_data, Lib.toList_data, ht]
        rw [beq_eq_false_iff_ne]
        intro e
        have : (tlP 44 (ptx p) (r.map ptx)) = [110, 111, 110, 101] := by simpa using e
        rw [this] at hhd
        exact hhd rfl
      rw [hno, bif_f rfl]
      unfold m_strings_Split m_strings_genSplit
      have hsz : (⟨(Lib.join ((p :: r).map ptx) [44]).toArray⟩ : ByteArray).size ≤ 1000 := by rw [size_data]; simpa using (by omega : (Lib.join ((p :: r).map ptx) [44]).length ≤ 1000)
      rw [if_pos ⟨rfl, hsz, rfl, rfl⟩]
      refine ⟨_, rfl, ?_⟩
      rw [Lib.splitB_data]
      have e44 : (ByteArray.mk #[44]).data.toList = [44] := rfl
      have e2 : (⟨(Lib.join ((p :: r).map ptx) [44]).toArray⟩ : ByteArray).data.toList = tlP 44 (ptx p) (r.map ptx) := by rw [← ht]
      show Lib.splitK (ByteArray.mk #[44]).data.toList 0 (Lib.count (⟨(Lib.join ((p :: r).map ptx) [44]).toArray⟩ : ByteArray).data.toList (ByteArray.mk #[44]).data.toList) _ = _
      rw [e44, e2]
      exact split_parts _ _ fun x hx => by
        have hx' : x ∈ (p :: r).map ptx := hx
        obtain ⟨q, hq, rfl⟩ := List.mem_map.1 hx'
        exact (ptx_facts (List.all_eq_true.1 hok q hq)).1
theorem Cut_eq {b : ByteArray} {p : Pt} (hp : okP p = true) (hb : b.data.toList = ptx p) : ∃ x y : ByteArray, m_strings_Cut b (ByteArray.mk #[46]) = some (x, y, true) ∧ x.data.toList = dgt p.1.toNat ∧ y.data.toList = dgt p.2.toNat := by
  have hk := okP_t hp
  obtain ⟨_, _, f3, _, _, f6⟩ := dgt_facts (n := p.1.toNat) (by omega)
  obtain ⟨_, _, _, _, _, g6⟩ := dgt_facts (n := p.2.toNat) (by omega)
  have hi : Lib.indexB b (ByteArray.mk #[46]) = ((dgt p.1.toNat).length : Int) := by
    show Lib.index b.data.toList [46] = _
    rw [Lib.index_one, hb]
    exact idx_hit _ _ f3
  have hs : b.size = (dgt p.1.toNat).length + 1 + (dgt p.2.toNat).length := by
    rw [size_data, hb]; unfold ptx; simp; omega
  have h1 : (ByteArray.mk #[46]).size = 1 := rfl
  generalize hn : (dgt p.1.toNat).length = n at *
  have c1 : sslC (b.size : Int) 0 (n : Int) = some () := by unfold sslC chk; rw [if_pos (by simp; omega)]
  have hw : wr ((n : Int) + (((ByteArray.mk #[46]).size : Nat) : Int)) = ((n + 1 : Nat) : Int) := by rw [h1, wr_in (by omega)]; rfl
  have c2 : sslC (b.size : Int) ((n + 1 : Nat) : Int) (b.size : Int) = some () := by unfold sslC chk; rw [if_pos (by simp; omega)]
  refine ⟨ssl b 0 (n : Int), ssl b ((n + 1 : Nat) : Int) (b.size : Int), ?_, ?_, ?_⟩
  · unfold m_strings_Cut m_internal_stringslite_Cut m_internal_stringslite_Index
    rw [if_pos h1, hi]
    simp only [bind_some']
    rw [bif_t (by simp), c1]
    simp only [bind_some', hw]
    rw [c2]
    rfl
  · unfold ssl
    have : b.extract (0 : Int).toNat (n : Int).toNat = b.extract 0 n := rfl
    rw [this, Lib.extract_from_zero, hb]
    unfold ptx
    rw [List.take_append_of_le_length (by omega), List.take_of_length_le (by omega)]
  · unfold ssl
    have : b.extract (((n + 1 : Nat) : Int)).toNat (b.size : Int).toNat = b.extract (n + 1) b.size := rfl
    rw [this, Lib.extract_to_end, hb]
    unfold ptx
    rw [List.drop_append, List.drop_of_length_le (by omega), hn]
    have : n + 1 - n = 1 := by omega
    rw [this]; rfl
include hok hlen in
theorem ReadPoints_eq (hA : m_impl_ArePoints ps = some true) : m_impl_ReadPoints (txtB ps) = some (ps, true) := by
  obtain ⟨l, hl, hm⟩ := parted_eq hok hlen
  have hll : l.length = ps.length := by have := congrArg List.length hm; simpa using this
  have hat : ∀ k (hk : k < ps.length), (l[k]'(by omega)).data.toList = ptx ps[k] := fun k hk => by
    have h1 : (l.map (·.data.toList))[k]? = some (ptx ps[k]) := by rw [hm]; simp [hk]
    have hkl : k < l.length := by omega
    rw [List.getElem?_map, List.getElem?_eq_getElem hkl] at h1
    exact Option.some.inj h1
  unfold m_impl_ReadPoints
  rw [hl]
  simp only [bind_some']
  have hloop : loopM (m_impl_ReadPoints_s1 l) (([] : List Pt), 0) = some (Sum.inl ps) := by
    refine loopM_val _ ps.length (fun k s => s = (ps.take k, (k : Int))) (by simp) ?_ ?_
    · rintro k _ hk rfl
      left
      have hkl : k < l.length := by omega
      have hp := okPs_at hok hk
      have hpt := okP_t hp
      obtain ⟨x, y, e1, e2, e3⟩ := Cut_eq hp (hat k hk)
      unfold m_impl_ReadPoints_s1
      simp only []
      rw [bif_t (by simp only [decide_eq_true_eq]; omega), geti_lt hkl]
      simp only [bind_some']
      rw [e1]
      simp only [bind_some']
      rw [ReadDecimal_eq hpt.1 (by omega) e2]
      simp only [bind_some']
      rw [ReadDecimal_eq hpt.2.2.1 (by omega) e3]
      simp only [bind_some']
      rw [bif_f (by rfl), bif_f (by rfl), bif_f (by rfl), bif_f (by simp; omega), apC_ok (by unfold lim; simp; omega)]
      simp only [bind_some']
      refine ⟨_, rfl, ?_⟩
      rw [wr_in (by omega), List.take_succ_eq_append_getElem hk]
      rfl
    · rintro _ rfl
      unfold m_impl_ReadPoints_s1
      simp only []
      rw [bif_f (by simp only [decide_eq_false_iff_not]; omega), List.take_length]
  rw [hloop]
  simp only [bind_some']
  rw [hA, bind_some', bif_f (by rfl)]
end
end Go.Proofs.YtpfipmomchgdaaaGreatDoor
