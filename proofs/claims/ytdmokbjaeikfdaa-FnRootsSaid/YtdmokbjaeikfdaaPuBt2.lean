/- BendTree: both programs count the same steps, and take the first of the best choices. -/
import Derived.Test.YtdmokbjaeikfdaaPuBt1
import Derived.Test.YtdmokbjaeikfdaaPuPairs
import Derived.Test.YtdmokbjaeikfdaaPuS0
set_option linter.unusedSimpArgs false
set_option linter.unusedVariables false
set_option linter.unusedSectionVars false
namespace Go.Proofs.Ytdmokbjaeikfdaa
open Go.RowKit

/-! ### Bits and texts -/
/-- Does choice n of m pairs lead pair i first along X? -/
def strB (m n i : Nat) : Bool := (n / 2 ^ (m - 1 - i)) % 2 == 0
def ckB : Bool := (List.range 7).all fun m => (List.range (2 ^ m)).all fun n => (List.range m).all fun i =>
  (wr (wr ((m : Int) - 1) - (i : Int)) == ((m - 1 - i : Nat) : Int)) && (wu (wr (wr ((m : Int) - 1) - (i : Int))) == ((m - 1 - i : Nat) : Int)) && (andI (shrI (n : Int) ((m - 1 - i : Nat) : Int)) 1 == (if strB m n i then 0 else 1))
theorem ckB_ok : ckB = true := by decide +kernel
theorem bits_at {m n i : Nat} (hm : m < 7) (hn : n < 2 ^ m) (hi : i < m) : wr (wr ((m : Int) - 1) - (i : Int)) = ((m - 1 - i : Nat) : Int) ∧ wu (wr (wr ((m : Int) - 1) - (i : Int))) = ((m - 1 - i : Nat) : Int) ∧ andI (shrI (n : Int) ((m - 1 - i : Nat) : Int)) 1 = (if strB m n i then 0 else 1) := by
  have h := List.all_eq_true.1 (List.all_eq_true.1 (List.all_eq_true.1 ckB_ok m (List.mem_range.2 hm)) n (List.mem_range.2 hn)) i (List.mem_range.2 hi)
  simp only [Bool.and_eq_true, beq_iff_eq] at h
  exact ⟨h.1.1, h.1.2, h.2⟩
def chL (m n : Nat) : List Int := (List.range m).map fun i => if strB m n i then 120 else 121
theorem bstr_data (l : List Int) : ∀ s : ByteArray, (l.foldl (fun r n => r.push (UInt8.ofNat n.toNat)) s).data.toList = s.data.toList ++ l.map fun n => UInt8.ofNat n.toNat := by
  induction l with
  | nil => intro s; simp
  | cons a l ih =>
    intro s
    simp only [List.foldl_cons, List.map_cons]
    rw [ih]
    simp [ByteArray.push]
theorem bstr_get (l : List Int) (i : Nat) : (bstr l)[i]? = (l[i]?).map fun n => UInt8.ofNat n.toNat := by
  have h := bstr_data l ByteArray.empty
  have h2 : (bstr l).data.toList = l.map fun n => UInt8.ofNat n.toNat := by unfold bstr; rw [h]; simp
  have h3 : (bstr l)[i]? = (bstr l).data.toList[i]? := by
    rw [Array.getElem?_toList]
    rfl
  rw [h3, h2, List.getElem?_map]
theorem sget_bstr {l : List Int} {i : Nat} {x : Int} (h : l[i]? = some x) (h0 : 0 ≤ x) (h1 : x < 256) : sget (bstr l) (i : Int) = some x := by
  unfold sget
  rw [if_pos (by omega), Int.toNat_natCast, bstr_get, h]
  simp
  omega
theorem bstr_size (l : List Int) : (bstr l).size = l.length := by
  have h := bstr_data l ByteArray.empty
  have h2 : (bstr l).data.toList = l.map fun n => UInt8.ofNat n.toNat := by unfold bstr; rw [h]; simp
  have h3 : (bstr l).size = (bstr l).data.toList.length := by rw [Array.length_toList]; rfl
  rw [h3, h2, List.length_map]
/-! ### The steps of a choice -/
structure RowsT (R : List (List Int)) (n : Nat) : Prop where
  few : R.length < 7
  row : ∀ i, i < R.length → ∃ a b : Nat, R[i]? = some [(a : Int), (b : Int)] ∧ a < b ∧ b < n
def rA (R : List (List Int)) (i : Nat) : Nat := ((R.getD i []).getD 0 0).toNat
def rB (R : List (List Int)) (i : Nat) : Nat := ((R.getD i []).getD 1 0).toNat
theorem RowsT.at {R : List (List Int)} {n : Nat} (h : RowsT R n) {i : Nat} (hi : i < R.length) : geti R (i : Int) = some [(rA R i : Int), (rB R i : Int)] ∧ rA R i < rB R i ∧ rB R i < n := by
  obtain ⟨a, b, h1, h2, h3⟩ := h.row i hi
  have ea : rA R i = a := by unfold rA; simp [List.getD, h1]
  have eb : rB R i = b := by unfold rB; simp [List.getD, h1]
  rw [ea, eb, geti_nat]
  exact ⟨h1, h2, h3⟩
def rowS (ps : List Pt) (R : List (List Int)) (n i : Nat) : List Pt := smS (gP ps (rA R i)) (gP ps (rB R i)) (strB R.length n i)
def allS (ps : List Pt) (R : List (List Int)) (n k : Nat) : List Pt := (List.range k).flatMap fun i => rowS ps R n i
theorem allS_succ (ps : List Pt) (R : List (List Int)) (n k : Nat) : allS ps R n (k + 1) = allS ps R n k ++ rowS ps R n k := by unfold allS; rw [List.range_succ, List.flatMap_append]; simp
def usedV (ps : List Pt) (R : List (List Int)) (n : Nat) : Nat := dc (allS ps R n R.length)
/-- A step by the point in its middle. -/
def hh (s : Pt) : Int × Int × Int × Int := (s.1 / 2, s.2 / 2, (s.1 + 1) / 2, (s.2 + 1) / 2)
theorem hh_inj (a b : Pt) (h : hh a = hh b) : a = b := by
  unfold hh at h
  simp only [Prod.mk.injEq] at h
  exact Prod.ext (by omega) (by omega)
theorem cmpPt_pos {a b : Pt} : decide (cmpPt a b > 0) = decide (b.1 < a.1 ∨ b.1 = a.1 ∧ b.2 < a.2) := by
  unfold cmpPt cmpI
  rcases Int.lt_trichotomy a.1 b.1 with h | h | h
  · simp [h]; omega
  · rcases Int.lt_trichotomy a.2 b.2 with h2 | h2 | h2
    · simp [h, h2]; omega
    · simp [h, h2]
    · simp [h, h2, show ¬ a.2 < b.2 by omega]
  · simp [h, show ¬ a.1 < b.1 by omega]
theorem nrm_eq {a b : Pt} (h : dist a b = 1) : (bif decide (cmpPt a b > 0) then (b.1, b.2, a.1, a.2) else (a.1, a.2, b.1, b.2)) = hh (pAdd a b) := by
  rw [cmpPt_pos]
  unfold dist at h
  unfold hh pAdd
  simp only
  by_cases c : b.1 < a.1 ∨ b.1 = a.1 ∧ b.2 < a.2
  · rw [decide_eq_true c]
    simp only [cond_true, Prod.mk.injEq]
    omega
  · rw [decide_eq_false c]
    simp only [cond_false, Prod.mk.injEq]
    omega
section
variable {ps : List Pt} {R : List (List Int)} (hp : okPs ps = true) (hR : RowsT R ps.length)
include hp hR
theorem row_ok {i : Nat} (hi : i < R.length) : okP (gP ps (rA R i)) = true ∧ okP (gP ps (rB R i)) = true ∧ geti ps (rA R i : Int) = some (gP ps (rA R i)) ∧ geti ps (rB R i : Int) = some (gP ps (rB R i)) := by
  obtain ⟨_, h1, h2⟩ := hR.at hi
  exact ⟨gP_ok hp (by omega), gP_ok hp h2, geti_gP (by omega), geti_gP h2⟩
theorem rowS_le {n i : Nat} (hi : i < R.length) : (rowS ps R n i).length ≤ 198 := by
  obtain ⟨o1, o2, _⟩ := row_ok hp hR hi
  have h1 := pth_le o1 o2 (strB R.length n i)
  have h2 := smS_len o1 o2 (strB R.length n i)
  have h3 := pth_len o1 o2 (strB R.length n i)
  unfold rowS; omega
theorem allS_le {n : Nat} : ∀ k, k ≤ R.length → (allS ps R n k).length ≤ 198 * k
  | 0, _ => by simp [allS]
  | k + 1, h => by
    have := allS_le (n := n) k (by omega)
    have := rowS_le hp hR (n := n) (i := k) (by omega)
    rw [allS_succ, List.length_append]; omega
theorem rowS_mem {n i : Nat} (hi : i < R.length) {s : Pt} (hs : s ∈ rowS ps R n i) : ∃ a b, okP a = true ∧ okP b = true ∧ dist a b = 1 ∧ s = pAdd a b := by
  obtain ⟨o1, o2, _⟩ := row_ok hp hR hi
  obtain ⟨k, hk, hks⟩ := List.mem_iff_getElem.1 hs
  have hk' : k < (smS (gP ps (rA R i)) (gP ps (rB R i)) (strB R.length n i)).length := hk
  obtain ⟨h1, h2, h3⟩ := pth_unit o1 o2 (strB R.length n i) hk'
  have h4 := (smS_at o1 o2 (strB R.length n i) hk').1
  have h5 : (smS (gP ps (rA R i)) (gP ps (rB R i)) (strB R.length n i))[k]? = some s := by
    rw [List.getElem?_eq_getElem hk']; exact congrArg some hks
  rw [h5, Option.some.injEq] at h4
  exact ⟨_, _, h1, h2, h3, h4⟩
/-- The program's walk along one path. -/
theorem bs4 {n i : Nat} (hi : i < R.length) {m : List ((Int × Int × Int × Int) × Bool)} {l : List (Int × Int × Int × Int)} (hr : Rel m l) :
    ∃ m', loopM (m_impl_bentSteps_s4 (pth (gP ps (rA R i)) (gP ps (rB R i)) (strB R.length n i))) (1, m) = some m' ∧ Rel m' (l ++ (rowS ps R n i).map hh) := by
  obtain ⟨o1, o2, _⟩ := row_ok hp hR hi
  have hle := pth_le o1 o2 (strB R.length n i)
  have hsl := smS_len o1 o2 (strB R.length n i)
  have hpl := pth_len o1 o2 (strB R.length n i)
  have hu := fun k hk => pth_unit o1 o2 (strB R.length n i) (k := k) hk
  have ha := fun k hk => smS_at o1 o2 (strB R.length n i) (k := k) hk
  unfold rowS
  generalize pth (gP ps (rA R i)) (gP ps (rB R i)) (strB R.length n i) = path at *
  generalize smS (gP ps (rA R i)) (gP ps (rB R i)) (strB R.length n i) = L at *
  refine loopM_count _ L.length (fun k s => ∃ m', s = (((k + 1 : Nat) : Int), m') ∧ Rel m' (l ++ (L.take k).map hh)) (fun r => Rel r (l ++ L.map hh)) ⟨m, rfl, by simpa using hr⟩ ?_ ?_
  · rintro k _ hk ⟨m', rfl, hm⟩
    left
    obtain ⟨q1, q2, q3⟩ := hu k hk
    obtain ⟨q4, q5⟩ := ha k hk
    have e1 := okP_t q1
    have e2 := okP_t q2
    have hnr := nrm_eq q3
    have gk : geti path (wr (((k + 1 : Nat) : Int) - 1)) = some (gP path k) := by
      rw [show wr (((k + 1 : Nat) : Int) - 1) = (k : Int) by rw [wr_in (by omega)]; omega]
      exact geti_gP (by omega)
    have gk1 : geti path ((k + 1 : Nat) : Int) = some (gP path (k + 1)) := geti_gP (by omega)
    have hpo := pointOrder_val (gP path k) (gP path (k + 1))
    generalize gP path k = a at *
    generalize gP path (k + 1) = b at *
    unfold m_impl_bentSteps_s4
    simp only []
    rw [bif_t (by simp; omega), gk, gk1]
    simp only [bind_some', hpo]
    have hb : (bif decide (cmpPt a b > 0) then some (b.1, b.2, a.1, a.2) else some (a.1, a.2, b.1, b.2)) = some (hh (pAdd a b)) := by
      rw [← hnr]; cases decide (cmpPt a b > 0) <;> rfl
    rw [hb]
    have hok : okIIII (hh (pAdd a b)) = true := by
      unfold okIIII hh pAdd
      simp only [Bool.and_eq_true, okI_iff]
      omega
    have hok' : mpC (okIIII ((hh (pAdd a b)).1, (hh (pAdd a b)).2.1, (hh (pAdd a b)).2.2.1, (hh (pAdd a b)).2.2.2)) = some () := by
      show mpC (okIIII (hh (pAdd a b))) = _
      rw [hok]; rfl
    simp only [bind_some', hok']
    refine ⟨_, rfl, _, by rw [wr_in (by omega)]; rfl, ?_⟩
    have hLk : L[k] = pAdd a b := by rw [List.getElem?_eq_getElem hk] at q4; simpa using q4
    rw [List.take_succ_eq_append_getElem hk, List.map_append, ← List.append_assoc, List.map_singleton, hLk]
    exact hm.put _
  · rintro _ ⟨m', rfl, hm⟩
    unfold m_impl_bentSteps_s4
    simp only []
    rw [List.take_length] at hm
    exact ⟨_, bif_f (by simp; omega), hm⟩
theorem bentSteps_eq {n : Nat} (hn : n < 2 ^ R.length) : m_impl_bentSteps ps R (bstr (chL R.length n)) = some (usedV ps R n : Int) := by
  unfold m_impl_bentSteps
  have key : ∃ r, loopM (m_impl_bentSteps_s3 ps R (bstr (chL R.length n))) (0, ([] : List ((Int × Int × Int × Int) × Bool))) = some r ∧ Rel r ((allS ps R n R.length).map hh) := by
    refine loopM_count _ R.length (fun k s => ∃ m', s = ((k : Int), m') ∧ Rel m' ((allS ps R n k).map hh)) _ ⟨[], rfl, by simpa [allS] using (Rel.nil (κ := Int × Int × Int × Int))⟩ ?_ ?_
    · rintro k _ hk ⟨m', rfl, hm⟩
      left
      obtain ⟨g1, g2, g3⟩ := hR.at hk
      obtain ⟨o1, o2, g4, g5⟩ := row_ok hp hR hk
      obtain ⟨m2, e2, hm2⟩ := bs4 hp hR (n := n) hk hm
      have hch : (chL R.length n)[k]? = some (if strB R.length n k then 120 else 121) := by unfold chL; simp [hk]
      have hsg := sget_bstr hch (by split <;> omega) (by split <;> omega)
      have hst : ((if strB R.length n k then (120 : Int) else 121) == 120) = strB R.length n k := by cases strB R.length n k <;> rfl
      unfold m_impl_bentSteps_s3
      simp only []
      rw [bif_t (by simpa using hk), g1]
      simp only [bind_some']
      rw [show geti [(rA R k : Int), (rB R k : Int)] 0 = some (rA R k : Int) by simp [geti], show geti [(rA R k : Int), (rB R k : Int)] 1 = some (rB R k : Int) by simp [geti]]
      simp only [bind_some', g4, g5, hsg, hst, bent_eq o1 o2, e2]
      exact ⟨_, rfl, m2, by rw [wr_in (by have := hR.few; omega)]; rfl, by rw [allS_succ, List.map_append]; exact hm2⟩
    · rintro _ ⟨m', rfl, hm⟩
      unfold m_impl_bentSteps_s3
      simp only []
      exact ⟨_, bif_f (by simp), hm⟩
  obtain ⟨r, hr, hm⟩ := key
  rw [hr]
  simp only [bind_some']
  rw [hm.len, dc_map hh hh_inj _ _ rfl]
  rfl
/-- The reference's marks. -/
theorem mark_eq {L : List Pt} (hL : ∀ s ∈ L, 0 ≤ s.1 ∧ s.1 ≤ 198 ∧ 0 ≤ s.2 ∧ s.2 ≤ 198) (hb : L.length ≤ 100000) :
    loopM (m_spec_l05Used_s2 L) (0, 0, List.replicate 40000 false) = some (dc L : Int) := by
  refine loopM_val _ L.length (fun k s => ∃ b : List Bool, s = ((dc (L.take k) : Int), (k : Int), b) ∧ b.length = 40000 ∧ ∀ i : Nat, i < 40000 → (b[i]? = some true ↔ ∃ t ∈ L.take k, (i : Int) = t.1 * 200 + t.2)) ⟨List.replicate 40000 false, by rw [List.take_zero, dc_nil]; rfl, List.length_replicate, fun i hi => by rw [List.getElem?_replicate, if_pos hi, List.take_zero]; exact ⟨fun e => (by cases e), fun ⟨t, ht, _⟩ => (by cases ht)⟩⟩ ?_ ?_
  · rintro k _ hk ⟨b, rfl, hb1, hb2⟩
    left
    have hs := hL _ (List.getElem_mem hk)
    have hd := dc_le (L.take k)
    rw [List.length_take] at hd
    obtain ⟨s, hse⟩ : ∃ s, s = L[k] := ⟨_, rfl⟩
    rw [← hse] at hs
    have hgk : geti L (k : Int) = some s := by rw [hse]; exact geti_lt hk
    have hix : wr (wr (wr (s.1 * 2) * 100) + s.2) = s.1 * 200 + s.2 := by
      rw [wr_in (x := s.1 * 2) (by omega), wr_in (x := s.1 * 2 * 100) (by omega), wr_in (by omega)]; omega
    have hlt : (s.1 * 200 + s.2).toNat < b.length := by omega
    have hgb : geti b (s.1 * 200 + s.2) = some b[(s.1 * 200 + s.2).toNat] := by
      have := geti_lt hlt
      rwa [Int.toNat_of_nonneg (by omega)] at this
    have hiff := hb2 (s.1 * 200 + s.2).toNat (by omega)
    rw [Int.toNat_of_nonneg (by omega), List.getElem?_eq_getElem hlt] at hiff
    have hin : (∃ t ∈ L.take k, s.1 * 200 + s.2 = t.1 * 200 + t.2) ↔ s ∈ L.take k := by
      constructor
      · rintro ⟨t, ht, e⟩
        have h2 := hL t (List.mem_of_mem_take ht)
        have : s = t := Prod.ext (by omega) (by omega)
        rw [this]; exact ht
      · intro h; exact ⟨s, h, rfl⟩
    rw [hin] at hiff
    have hsn : dc (L.take (k + 1)) = dc (L.take k) + if s ∈ L.take k then 0 else 1 := by
      rw [List.take_succ_eq_append_getElem hk, ← hse, dc_snoc]
      by_cases c : s ∈ L.take k <;> simp [c]
    have e9 : ((s.1 * 200 + s.2).toNat : Int) = s.1 * 200 + s.2 := Int.toNat_of_nonneg (by omega)
    unfold m_spec_l05Used_s2
    simp only []
    rw [bif_t (by simpa using hk), hgk]
    simp only [bind_some', hix, hgb]
    cases hv : b[(s.1 * 200 + s.2).toNat] with
    | true =>
      rw [hv] at hiff
      have hm : s ∈ L.take k := hiff.1 rfl
      rw [bif_f (by rfl)]
      simp only [bind_some']
      refine ⟨_, rfl, b, by rw [hsn, if_pos hm, wr_in (by omega)]; rfl, hb1, fun i hi => ?_⟩
      rw [hb2 i hi, List.take_succ_eq_append_getElem hk, ← hse]
      constructor
      · rintro ⟨t, ht, e⟩; exact ⟨t, List.mem_append_left _ ht, e⟩
      · rintro ⟨t, ht, e⟩
        rcases List.mem_append.1 ht with ht | ht
        · exact ⟨t, ht, e⟩
        · simp only [List.mem_singleton] at ht; subst ht; exact ⟨_, hm, e⟩
    | false =>
      rw [hv] at hiff
      have hm : ¬ s ∈ L.take k := fun h => by have := hiff.2 h; cases this
      rw [bif_t (by rfl)]
      simp only [bind_some']
      refine ⟨_, rfl, b.set (s.1 * 200 + s.2).toNat true, by rw [hsn, if_neg hm, wr_in (by omega), wr_in (by omega)]; rfl, by rw [List.length_set]; exact hb1, fun i hi => ?_⟩
      rw [List.take_succ_eq_append_getElem hk, ← hse]
      by_cases e : (s.1 * 200 + s.2).toNat = i
      · subst e
        rw [List.getElem?_set_self hlt]
        exact ⟨fun _ => ⟨s, by simp, e9⟩, fun _ => rfl⟩
      · rw [List.getElem?_set_ne e, hb2 i hi]
        constructor
        · rintro ⟨t, ht, e2⟩; exact ⟨t, List.mem_append_left _ ht, e2⟩
        · rintro ⟨t, ht, e2⟩
          rcases List.mem_append.1 ht with ht | ht
          · exact ⟨t, ht, e2⟩
          · simp only [List.mem_singleton] at ht
            subst ht
            exact absurd (by rw [← e2]; simp) e
  · rintro _ ⟨b, rfl, hb1, hb2⟩
    unfold m_spec_l05Used_s2
    simp only []
    rw [bif_f (by simp), List.take_length]
theorem used_eq {n : Nat} (hn : n < 2 ^ R.length) : m_spec_l05Used ps R (n : Int) = some (usedV ps R n : Int) := by
  unfold m_spec_l05Used
  have hl : loopM (m_spec_l05Used_s1 ps R (n : Int)) (([] : List Pt), 0) = some (allS ps R n R.length) := by
    refine loopM_val _ R.length (fun k s => s = (allS ps R n k, (k : Int))) (by simp [allS]) ?_ ?_
    · rintro k _ hk rfl
      left
      obtain ⟨g1, g2, g3⟩ := hR.at hk
      obtain ⟨o1, o2, g4, g5⟩ := row_ok hp hR hk
      obtain ⟨b1, b2, b3⟩ := bits_at hR.few hn hk
      have hst : ((if strB R.length n k then (0 : Int) else 1) == 0) = strB R.length n k := by cases strB R.length n k <;> rfl
      have hle := allS_le hp hR (n := n) k (by omega)
      have hle2 := rowS_le hp hR (n := n) hk
      have hfew := hR.few
      unfold m_spec_l05Used_s1
      simp only []
      rw [bif_t (by simpa using hk), b2, p0C_ok (by omega), g1]
      simp only [bind_some']
      rw [show geti [(rA R k : Int), (rB R k : Int)] 0 = some (rA R k : Int) by simp [geti], show geti [(rA R k : Int), (rB R k : Int)] 1 = some (rB R k : Int) by simp [geti]]
      simp only [bind_some', g4, g5, b3, hst, specSteps_eq o1 o2]
      rw [apC_ok (by unfold lim rowS at *; omega)]
      simp only [bind_some']
      exact ⟨_, rfl, by rw [wr_in (by omega), allS_succ]; rfl⟩
    · rintro _ rfl
      unfold m_spec_l05Used_s1
      simp only []
      rw [bif_f (by simp)]
  rw [hl]
  simp only [bind_some']
  have hle := allS_le hp hR (n := n) R.length (Nat.le_refl _)
  have hfew := hR.few
  rw [mkC_ok (by unfold lim; omega)]
  simp only [bind_some']
  rw [show Int.toNat 40000 = 40000 from rfl, mark_eq hp hR (fun s hs => ?_) (by omega)]
  · rfl
  · unfold allS at hs
    obtain ⟨i, hi, hs⟩ := List.mem_flatMap.1 hs
    rw [List.mem_range] at hi
    obtain ⟨a, b, h1, h2, h3, rfl⟩ := rowS_mem hp hR hi hs
    have e1 := okP_t h1
    have e2 := okP_t h2
    unfold pAdd; simp only; omega
end
/-! ### The best choice -/
def bstF (f : Nat → Nat) : Nat → Nat × Int
  | 0 => (0, -1)
  | k + 1 => if (bstF f k).2 < 0 then (k, (f k : Int)) else if (f k : Int) < (bstF f k).2 then (k, (f k : Int)) else bstF f k
theorem bstF_ok (f : Nat → Nat) : ∀ k, 0 < k → (bstF f k).1 < k ∧ (bstF f k).2 = (f (bstF f k).1 : Int) ∧ ∀ j, j < k → (bstF f k).2 ≤ (f j : Int)
  | 0, h => by omega
  | 1, _ => by
    have e : bstF f 1 = (0, (f 0 : Int)) := by show (if (-1 : Int) < 0 then _ else _) = _; rw [if_pos (by omega)]
    rw [e]
    exact ⟨by simp, rfl, fun j hj => by have : j = 0 := by omega
                                        subst this; exact Int.le_refl _⟩
  | k + 2, _ => by
    obtain ⟨h1, h2, h3⟩ := bstF_ok f (k + 1) (by omega)
    have e : bstF f (k + 2) = if (bstF f (k + 1)).2 < 0 then (k + 1, (f (k + 1) : Int)) else if (f (k + 1) : Int) < (bstF f (k + 1)).2 then (k + 1, (f (k + 1) : Int)) else bstF f (k + 1) := rfl
    rw [e, if_neg (by rw [h2]; omega)]
    by_cases c : (f (k + 1) : Int) < (bstF f (k + 1)).2
    · rw [if_pos c]
      refine ⟨by simp, rfl, fun j hj => ?_⟩
      by_cases c2 : j = k + 1
      · subst c2; exact Int.le_refl _
      · have := h3 j (by omega); simp only; omega
    · rw [if_neg c]
      refine ⟨by omega, h2, fun j hj => ?_⟩
      by_cases c2 : j = k + 1
      · subst c2; omega
      · exact h3 j (by omega)
section
variable {ps : List Pt} {R : List (List Int)} (hp : okPs ps = true) (hR : RowsT R ps.length)
include hp hR
theorem pow_b : (2 : Nat) ^ R.length ≤ 64 ∧ 0 < (2 : Nat) ^ R.length := by
  have h := hR.few
  refine ⟨?_, Nat.two_pow_pos _⟩
  have := Nat.pow_le_pow_right (n := 2) (i := R.length) (j := 6) (by omega) (by omega)
  simpa using this
theorem implBest (y : Int) : loopM (m_impl_BendTree_s5 ps (R, y)) (ByteArray.mk #[], -1, 0) = some (bstr (chL R.length (bstF (usedV ps R) (2 ^ R.length)).1), (bstF (usedV ps R) (2 ^ R.length)).2) := by
  obtain ⟨hpw, hp0⟩ := pow_b hp hR
  have hfew := hR.few
  have hsh := shl_pow (k := R.length) (by omega)
  have ch : ∀ n : Nat, n < 2 ^ R.length → loopM (m_impl_BendTree_s7 (R, y) (n : Int)) (([] : List Int), 0) = some (chL R.length n) := fun n hn => by
    refine loopM_val _ R.length (fun k s => s = ((List.range k).map (fun i => if strB R.length n i then (120 : Int) else 121), (k : Int))) (by simp) ?_ ?_
    · rintro k _ hk rfl
      left
      obtain ⟨b1, b2, b3⟩ := bits_at hfew hn hk
      unfold m_impl_BendTree_s7
      simp only []
      rw [bif_t (by simpa using hk), b1, p0C_ok (by omega)]
      simp only [bind_some', b3]
      have hg : sget (ByteArray.mk #[120, 121]) (if strB R.length n k then 0 else 1) = some (if strB R.length n k then 120 else 121) := by cases strB R.length n k <;> rfl
      rw [hg]
      simp only [bind_some']
      rw [apC_ok (by unfold lim; simp; omega)]
      simp only [bind_some']
      exact ⟨_, rfl, by rw [wr_in (by omega), List.range_succ, List.map_append]; rfl⟩
    · rintro _ rfl
      unfold m_impl_BendTree_s7
      simp only []
      rw [bif_f (by simp)]; rfl
  refine loopM_val _ (2 ^ R.length) (fun k s => s = ((if k = 0 then ByteArray.mk #[] else bstr (chL R.length (bstF (usedV ps R) k).1)), (bstF (usedV ps R) k).2, (k : Int))) (by simp [bstF]) ?_ ?_
  · rintro k _ hk rfl
    left
    unfold m_impl_BendTree_s5
    simp only []
    rw [bif_t (decide_eq_true (show (k : Int) < shlI 1 (R.length : Int) by rw [hsh.1]; exact Int.ofNat_lt.2 hk)), ch k hk]
    simp only [bind_some', bentSteps_eq hp hR hk]
    have e : bstF (usedV ps R) (k + 1) = if (bstF (usedV ps R) k).2 < 0 then (k, (usedV ps R k : Int)) else if (usedV ps R k : Int) < (bstF (usedV ps R) k).2 then (k, (usedV ps R k : Int)) else bstF (usedV ps R) k := rfl
    have hk1 : wr ((k : Int) + 1) = ((k + 1 : Nat) : Int) := by rw [wr_in (by omega)]; rfl
    rw [if_neg (show ¬ k + 1 = 0 by omega), e]
    by_cases c1 : (bstF (usedV ps R) k).2 < 0
    · rw [bif_t (decide_eq_true c1), if_pos c1]
      simp only [bind_some', hk1]
      exact ⟨_, rfl, rfl⟩
    · rw [bif_f (decide_eq_false c1), if_neg c1]
      have hk0 : ¬ k = 0 := fun h => c1 (by rw [h]; show (-1 : Int) < 0; omega)
      by_cases c2 : (usedV ps R k : Int) < (bstF (usedV ps R) k).2
      · rw [bif_t (decide_eq_true c2), if_pos c2]
        simp only [bind_some', hk1]
        exact ⟨_, rfl, rfl⟩
      · rw [bif_f (decide_eq_false c2), if_neg c2, if_neg hk0]
        simp only [bind_some', hk1]
        exact ⟨_, rfl, rfl⟩
  · rintro _ rfl
    unfold m_impl_BendTree_s5
    simp only []
    rw [bif_f (by rw [hsh.1]; simp), if_neg (by omega)]
theorem specBest : loopM (m_spec_BendTree_s1 ps R) (-1, 0, 0) = some (((bstF (usedV ps R) (2 ^ R.length)).1 : Int), (bstF (usedV ps R) (2 ^ R.length)).2) := by
  obtain ⟨hpw, hp0⟩ := pow_b hp hR
  have hfew := hR.few
  have hsh := shl_pow (k := R.length) (by omega)
  refine loopM_val _ (2 ^ R.length) (fun k s => s = ((bstF (usedV ps R) k).2, (k : Int), ((bstF (usedV ps R) k).1 : Int))) (by simp [bstF]) ?_ ?_
  · rintro k _ hk rfl
    left
    unfold m_spec_BendTree_s1
    simp only []
    rw [hsh.2, p0C_ok (by omega)]
    simp only [bind_some']
    rw [bif_t (decide_eq_true (show (k : Int) < shlI 1 (R.length : Int) by rw [hsh.1]; exact Int.ofNat_lt.2 hk)), used_eq hp hR hk]
    simp only [bind_some']
    have e : bstF (usedV ps R) (k + 1) = if (bstF (usedV ps R) k).2 < 0 then (k, (usedV ps R k : Int)) else if (usedV ps R k : Int) < (bstF (usedV ps R) k).2 then (k, (usedV ps R k : Int)) else bstF (usedV ps R) k := rfl
    have hk1 : wr ((k : Int) + 1) = ((k + 1 : Nat) : Int) := by rw [wr_in (by omega)]; rfl
    rw [e]
    by_cases c1 : (bstF (usedV ps R) k).2 < 0
    · rw [bif_t (decide_eq_true c1), if_pos c1]
      simp only [bind_some', hk1]
      exact ⟨_, rfl, rfl⟩
    · rw [bif_f (decide_eq_false c1), if_neg c1]
      by_cases c2 : (usedV ps R k : Int) < (bstF (usedV ps R) k).2
      · rw [bif_t (decide_eq_true c2), if_pos c2]
        simp only [bind_some', hk1]
        exact ⟨_, rfl, rfl⟩
      · rw [bif_f (decide_eq_false c2), if_neg c2]
        simp only [bind_some', hk1]
        exact ⟨_, rfl, rfl⟩
  · rintro _ rfl
    unfold m_spec_BendTree_s1
    simp only []
    rw [hsh.2, p0C_ok (by omega)]
    simp only [bind_some']
    rw [bif_f (by rw [hsh.1]; simp)]
theorem specText {n : Nat} (hn : n < 2 ^ R.length) : loopM (m_spec_BendTree_s2 R (n : Int)) (([] : List Int), 0) = some (chL R.length n) := by
  have hfew := hR.few
  refine loopM_val _ R.length (fun k s => s = ((List.range k).map (fun i => if strB R.length n i then (120 : Int) else 121), (k : Int))) (by simp) ?_ ?_
  · rintro k _ hk rfl
    left
    obtain ⟨b1, b2, b3⟩ := bits_at hfew hn hk
    unfold m_spec_BendTree_s2
    simp only []
    rw [bif_t (by simpa using hk), b2, p0C_ok (by omega)]
    simp only [bind_some', b3]
    have hg : (bif ((if strB R.length n k then (0 : Int) else 1) == 1) then some (121 : Int) else some 120) = some (if strB R.length n k then 120 else 121) := by cases strB R.length n k <;> rfl
    rw [hg]
    simp only [bind_some']
    rw [apC_ok (by unfold lim; simp; omega)]
    simp only [bind_some']
    exact ⟨_, rfl, by rw [wr_in (by omega), List.range_succ, List.map_append]; rfl⟩
  · rintro _ rfl
    unfold m_spec_BendTree_s2
    simp only []
    rw [bif_f (by simp)]; rfl
end
/-! ### The tree's rows -/
theorem trF_ab {ps : List Pt} (hp : okPs ps = true) (h1 : 1 ≤ ps.length) : ∀ k, k + 1 ≤ ps.length → ∀ r ∈ (trF ps k).1, ∃ a b : Nat, r = [(a : Int), (b : Int)] ∧ a < b ∧ b < ps.length
  | 0, _, r, hr => by simp [trF] at hr
  | k + 1, hk, r, hr => by
    obtain ⟨a, b, _, h2, h3, e⟩ := trF_step hp h1 (k := k) (by omega)
    rw [e] at hr
    rcases List.mem_append.1 hr with hr | hr
    · exact trF_ab hp h1 k (by omega) r hr
    · simp only [List.mem_singleton] at hr
      exact ⟨a, b, hr, h2, h3⟩
def bendR (ps : List Pt) : List (List Int) := sortRows (trV ps).1
theorem bendR_ok {ps : List Pt} (hp : okPs ps = true) (h1 : 1 ≤ ps.length) (h7 : ps.length ≤ 7) : RowsT (bendR ps) ps.length ∧ (bendR ps).length = ps.length - 1 := by
  have hperm := sortRows_perm (trV ps).1
  have hlen : (bendR ps).length = ps.length - 1 := by
    unfold bendR
    rw [hperm.length_eq]
    exact (trF_inv hp h1 (ps.length - 1) (by omega)).1
  refine ⟨⟨by omega, fun i hi => ?_⟩, hlen⟩
  have hm : (bendR ps)[i] ∈ (trV ps).1 := hperm.mem_iff.1 (List.getElem_mem hi)
  obtain ⟨a, b, h2, h3, h4⟩ := trF_ab hp h1 (ps.length - 1) (by omega) _ hm
  exact ⟨a, b, by rw [List.getElem?_eq_getElem hi, h2], h3, h4⟩
def bendV (ps : List Pt) : ByteArray × Int × Bool := if pinsB 7 ps then (bstr (chL (bendR ps).length (bstF (usedV ps (bendR ps)) (2 ^ (bendR ps).length)).1), (bstF (usedV ps (bendR ps)) (2 ^ (bendR ps).length)).2, true) else (ByteArray.mk #[], 0, false)
theorem implBend (ps : List Pt) (hb : ps.length ≤ 1048576) : m_impl_BendTree ps = some (bendV ps) := by
  unfold m_impl_BendTree bendV
  rw [implPins_eq ps 7 (by omega)]
  simp only [bind_some']
  cases h : pinsB 7 ps with
  | false => rfl
  | true =>
    obtain ⟨h1, h7, hp, _⟩ := pinsB_t h
    obtain ⟨hR, hl⟩ := bendR_ok hp h1 (by omega)
    rw [bif_f (by rfl), implSpan_eq hp h1 (by omega)]
    simp only [bind_some']
    have hR' : RowsT (sortRows (trV ps).1) ps.length := hR
    rw [p0C_ok (by omega)]
    simp only [bind_some']
    rw [implBest hp hR']
    rfl
theorem specBend (ps : List Pt) (hb : ps.length ≤ 1048576) : m_spec_BendTree ps = some (bendV ps) := by
  unfold m_spec_BendTree bendV
  rw [specFew_eq ps (by omega)]
  simp only [bind_some']
  cases h : pinsB 7 ps with
  | false => rfl
  | true =>
    obtain ⟨h1, h7, hp, _⟩ := pinsB_t h
    obtain ⟨hR, hl⟩ := bendR_ok hp h1 (by omega)
    have hrows : ∀ r ∈ (trV ps).1, r.length ≤ 1000 := fun r hr => by rw [trF_rows _ r hr]; omega
    have hlen : (trV ps).1.length ≤ 1000 := by have := (trF_inv hp h1 (ps.length - 1) (by omega)).1; unfold trV; simp only; omega
    rw [bif_f (by rfl), specTree_eq hp h1 (by omega)]
    simp only [bind_some']
    rw [pairs_eq hrows hlen]
    simp only [bind_some']
    have hR' : RowsT (sortRows (trV ps).1) ps.length := hR
    obtain ⟨_, hp0⟩ := pow_b hp hR'
    rw [specBest hp hR']
    simp only [bind_some']
    rw [specText hp hR' (bstF_ok _ _ hp0).1]
    rfl
theorem lawBendTree_eq (ps : List Pt) (hb : ps.length ≤ 9223372036854775807) : m_laws_FnExactBendTree ps = some true := by
  unfold m_laws_FnExactBendTree
  obtain ⟨z, hz, h⟩ := szP_eq ps 1048576 (by omega) hb
  rw [hz, bind_some']
  rcases h with h | ⟨rfl, h⟩
  · rw [bif_t (by simpa using h)]
  rw [bif_f (by simpa using h)]
  simp only [toPointS_eq ps (by omega), bind_some', specBend ps (by omega), implBend ps (by omega), eqPointS_eq ps (by omega), Bool.not_true, cond_false, beq_self_eq_true, bne_self_eq_false]
end Go.Proofs.Ytdmokbjaeikfdaa
