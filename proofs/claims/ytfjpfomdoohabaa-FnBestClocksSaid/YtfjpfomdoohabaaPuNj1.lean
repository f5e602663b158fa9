/- Clock trees that are not yet whole: what their nodes are. -/
import Derived.Test.YtfjpfomdoohabaaPuWirL
set_option linter.unusedSimpArgs false
set_option linter.unusedVariables false
namespace Go.Proofs.Ytfjpfomdoohabaa
open Go.RowKit

abbrev Pt := Int × Int
def okP (p : Pt) : Bool := decide (0 ≤ p.1) && decide (p.1 ≤ 99) && (decide (0 ≤ p.2) && decide (p.2 ≤ 99))
theorem okP_t {p : Pt} (h : okP p = true) : 0 ≤ p.1 ∧ p.1 ≤ 99 ∧ 0 ≤ p.2 ∧ p.2 ≤ 99 := by
  unfold okP at h; simp only [Bool.and_eq_true, decide_eq_true_eq] at h; omega
theorem l01Point_eq (x y : Int) : m_spec_l01Point x y = some (okP (x, y)) := by
  unfold m_spec_l01Point okP
  simp only [in_eq, bind_some']
  cases h : (decide (0 ≤ x) && decide (x ≤ 99)) <;> simp [h]
theorem IsPoint_eq (x y : Int) : m_impl_IsPoint x y = some (okP (x, y)) := by
  unfold m_impl_IsPoint okP
  simp only [in_eq', bind_some']
  cases h : (decide (0 ≤ x) && decide (x ≤ 99)) <;> simp [h]
def okPs (ps : List Pt) : Bool := ps.all okP
theorem okPs_at {ps : List Pt} (h : okPs ps = true) {k : Nat} (hk : k < ps.length) : okP ps[k] = true := List.all_eq_true.1 h _ (List.getElem_mem hk)
theorem okPs_not {ps : List Pt} {k : Nat} (hk : k < ps.length) (h : okP ps[k] = false) : okPs ps = false := by
  unfold okPs; rw [List.all_eq_false]; exact ⟨ps[k], List.getElem_mem hk, by simp [h]⟩
theorem okPs_all {ps : List Pt} (h : ∀ j (hj : j < ps.length), okP ps[j] = true) : okPs ps = true := by
  unfold okPs; rw [List.all_eq_true]
  intro x hx
  obtain ⟨j, hj, rfl⟩ := List.mem_iff_getElem.1 hx
  exact h j hj
theorem l01Points_eq (ps : List Pt) (hb : ps.length ≤ 140737488355328) : m_spec_l01Points ps = some (okPs ps && decide (ps.length ≤ 24)) := by
  unfold m_spec_l01Points
  have hl : loopM (m_spec_l01Points_s1 ps) 0 = some (if okPs ps then Sum.inl () else Sum.inr false) := by
    refine loopM_val _ ps.length (fun k s => s = (k : Int) ∧ ∀ j (hj : j < ps.length), j < k → okP ps[j] = true) ⟨rfl, fun j _ h => by omega⟩ ?_ ?_
    · rintro k _ hk ⟨rfl, hall⟩
      unfold m_spec_l01Points_s1
      simp only []
      rw [bif_t (by simpa using hk), geti_lt hk]
      simp only [bind_some', l01Point_eq]
      cases h : okP ps[k] with
      | true =>
        left
        refine ⟨_, bif_f (by simp [h]), ?_, fun j hj hjk => ?_⟩
        · rw [wr_in (by omega)]; omega
        · by_cases e : j = k
          · subst e; exact h
          · exact hall j hj (by omega)
      | false => right; rw [okPs_not hk h]; exact bif_t (by simp [h])
    · rintro _ ⟨rfl, hall⟩
      unfold m_spec_l01Points_s1
      simp only []
      rw [bif_f (by simp), okPs_all (fun j hj => hall j hj hj)]; rfl
  rw [hl]
  cases h : okPs ps
  · simp [h]
  · simp [h]; omega
theorem IndexNo_eq (ps : List Pt) (hb : ps.length ≤ 140737488355328) : ∃ i : Int, m_slices_IndexFunc_impl_Point_impl_Point_impl_noPoint ps = some i ∧ decide (i ≥ 0) = !okPs ps := by
  unfold m_slices_IndexFunc_impl_Point_impl_Point_impl_noPoint
  obtain ⟨r, hr, hJ⟩ := loopM_count (m_slices_IndexFunc_impl_Point_impl_Point_impl_noPoint_s1 ps) ps.length (fun k s => s = (k : Int) ∧ ∀ j (hj : j < ps.length), j < k → okP ps[j] = true)
    (fun r => (r = Sum.inl () ∧ okPs ps = true) ∨ ∃ k : Nat, r = Sum.inr (k : Int) ∧ okPs ps = false) (s0 := 0) ⟨rfl, fun j _ h => by omega⟩ (by
    rintro k _ hk ⟨rfl, hall⟩
    unfold m_slices_IndexFunc_impl_Point_impl_Point_impl_noPoint_s1 m_impl_noPoint
    simp only []
    rw [bif_t (by simpa using hk), geti_lt hk]
    simp only [bind_some', IsPoint_eq]
    cases h : okP ps[k] with
    | true =>
      left
      refine ⟨_, bif_f (by simp [h]), ?_, fun j hj hjk => ?_⟩
      · rw [wr_in (by omega)]; omega
      · by_cases e : j = k
        · subst e; exact h
        · exact hall j hj (by omega)
    | false => right; exact ⟨_, bif_t (by simp [h]), Or.inr ⟨k, rfl, okPs_not hk h⟩⟩) (by
    rintro _ ⟨rfl, hall⟩
    unfold m_slices_IndexFunc_impl_Point_impl_Point_impl_noPoint_s1
    simp only []
    exact ⟨_, bif_f (by simp), Or.inl ⟨rfl, okPs_all (fun j hj => hall j hj hj)⟩⟩)
  rw [hr]
  rcases hJ with ⟨rfl, h⟩ | ⟨k, rfl, h⟩
  · exact ⟨-1, rfl, by simp [h]⟩
  · exact ⟨k, rfl, by simp [h]⟩
theorem toPointS_eq (ps : List Pt) (hb : ps.length ≤ 1048576) : m_laws_toPointS ps = some ps := by
  unfold m_laws_toPointS
  rw [mkC_ok (by unfold lim; omega)]
  simp only [bind_some']
  have hl : loopM (m_laws_toPointS_s1 ps) (0, List.replicate (Int.toNat (ps.length : Int)) ((0, 0) : Int × Int)) = some ps := by
    refine loopM_val _ ps.length (fun k s => s.1 = (k : Int) ∧ Laid ps s.2 k) ⟨rfl, Laid.zero _ _ (by simp)⟩ ?_ ?_
    · rintro k ⟨x, acc⟩ hk ⟨hx, hL⟩
      simp only at hx hL
      subst hx
      unfold m_laws_toPointS_s1 m_laws_toPoint
      simp only []
      rw [bif_t (by simpa using hk), geti_lt hk, geti_lt (l := acc) (by rw [hL.1]; exact hk)]
      left
      exact ⟨_, rfl, by rw [wr_in (by omega)]; simp, by simpa using hL.succ hk⟩
    · rintro ⟨x, acc⟩ ⟨hx, hL⟩
      simp only at hx hL
      subst hx
      unfold m_laws_toPointS_s1
      simp only []
      rw [bif_f (by simp), hL.all]
  rw [hl]; rfl
theorem eqPointS_eq (ps : List Pt) (hb : ps.length ≤ 140737488355328) : m_laws_eqPointS ps ps = some true := by
  unfold m_laws_eqPointS
  rw [bif_f (by simp)]
  have hl : loopM (m_laws_eqPointS_s1 ps ps) 0 = some (Sum.inl ()) := by
    refine loopM_val _ ps.length (fun k s => s = (k : Int)) rfl ?_ ?_
    · rintro k _ hk rfl
      unfold m_laws_eqPointS_s1 m_laws_eqPoint
      simp only []
      rw [bif_t (by simpa using hk), geti_lt hk]
      left
      exact ⟨wr ((k : Int) + 1), by simp [bind_some'], by rw [wr_in (by omega)]; omega⟩
    · rintro _ rfl
      unfold m_laws_eqPointS_s1
      simp only []
      rw [bif_f (by simp)]
  rw [hl]; rfl
theorem geti_set {α : Type} {l : List α} {i : Nat} {x : α} (h : i < l.length) : geti (l.set i x) (i : Int) = some x := by
  rw [geti_nat, List.getElem?_set_self h]
theorem Laid.all' {α : Type} {l acc : List α} {n : Nat} (h : Laid l acc n) (hn : l.length = n) : acc = l := by subst hn; exact h.all
def seqI (k : Int) (n : Nat) : List Int := (List.range n).map fun (j : Nat) => k + (j : Int)
theorem seqI_len (k : Int) (n : Nat) : (seqI k n).length = n := by simp [seqI]
theorem seqI_at {k : Int} {n i : Nat} (h : i < (seqI k n).length) : (seqI k n)[i] = k + i := by simp [seqI]
theorem markI_eq (l : List Int) (k : Int) (h0 : 0 ≤ k) (hb : k + l.length ≤ 4611686018427387904) : m_laws_markInt64S l k = some (k + l.length, seqI k l.length) := by
  unfold m_laws_markInt64S
  have hl : loopM m_laws_markInt64S_s1 (k, 0, l) = some (k + l.length, seqI k l.length) := by
    refine loopM_val _ l.length (fun i s => s.1 = k + i ∧ s.2.1 = (i : Int) ∧ Laid (seqI k l.length) s.2.2 i) ⟨by simp, rfl, Laid.zero _ _ (by rw [seqI_len])⟩ ?_ ?_
    · rintro i ⟨x, y, acc⟩ hi ⟨hx, hy, hL⟩
      simp only at hx hy hL
      subst hx; subst hy
      have hal : acc.length = l.length := by rw [hL.1, seqI_len]
      unfold m_laws_markInt64S_s1
      simp only []
      rw [bif_t (by simp; omega), geti_lt (l := acc) (by omega)]
      left
      refine ⟨_, rfl, by simp only []; rw [wr_in (by omega)]; omega, by simp only []; rw [wr_in (by omega)]; omega, ?_⟩
      have := hL.succ (by rw [seqI_len]; exact hi)
      rw [seqI_at] at this
      simpa using this
    · rintro ⟨x, y, acc⟩ ⟨hx, hy, hL⟩
      simp only at hx hy hL
      subst hx; subst hy
      have hal : acc.length = l.length := by rw [hL.1, seqI_len]
      unfold m_laws_markInt64S_s1
      simp only []
      rw [bif_f (by simp; omega), hL.all' (seqI_len k l.length)]
  rw [hl]; rfl
theorem heldI_eq (n : Nat) (k : Int) (h0 : 0 ≤ k) (hb : k + n ≤ 4611686018427387904) : m_laws_heldInt64S (seqI k n) k = some (k + n) := by
  unfold m_laws_heldInt64S
  have hl : loopM (m_laws_heldInt64S_s1 (seqI k n)) (k, 0) = some (Sum.inl (k + n)) := by
    refine loopM_val _ n (fun i s => s = (k + i, (i : Int))) (by simp) ?_ ?_
    · rintro i _ hi rfl
      unfold m_laws_heldInt64S_s1
      simp only []
      rw [bif_t (by rw [seqI_len]; simpa using hi), geti_lt (by rw [seqI_len]; exact hi), seqI_at]
      left
      refine ⟨_, by simp [bind_some']; rfl, ?_⟩
      rw [wr_in (by omega), wr_in (by omega)]
      simp; omega
    · rintro _ rfl
      unfold m_laws_heldInt64S_s1
      simp only []
      rw [bif_f (by rw [seqI_len]; simp)]
  rw [hl]; rfl
theorem markP_eq (l : List Pt) (k : Int) (h0 : 0 ≤ k) (hb : k + 2 * l.length ≤ 4611686018427387904) : ∃ r, m_laws_markPointS l k = some r ∧ r.1 = k + 2 * l.length := by
  unfold m_laws_markPointS
  obtain ⟨r, h1, h2⟩ := loopM_count m_laws_markPointS_s1 l.length (fun i s => s.1 = k + 2 * i ∧ s.2.1 = (i : Int) ∧ s.2.2.length = l.length) (fun r => r.1 = k + 2 * l.length) (s0 := (k, 0, l)) ⟨by simp, rfl, rfl⟩ (by
    rintro i ⟨x, y, acc⟩ hi ⟨hx, hy, hL⟩
    simp only at hx hy hL
    subst hx; subst hy
    unfold m_laws_markPointS_s1
    simp only []
    rw [bif_t (by simp; omega), geti_lt (l := acc) (by omega)]
    simp only [bind_some', Int.toNat_natCast]
    rw [geti_set (by omega)]
    simp only [bind_some']
    left
    refine ⟨_, rfl, by simp only []; rw [wr_in (x := k + 2 * (i : Int) + 1) (by omega), wr_in (by omega)]; omega, by simp only []; rw [wr_in (by omega)]; omega, by simpa using hL⟩) (by
    rintro ⟨x, y, acc⟩ ⟨hx, hy, hL⟩
    simp only at hx hy hL
    subst hx; subst hy
    unfold m_laws_markPointS_s1
    simp only []
    rw [bif_f (by simp; omega)]
    exact ⟨_, rfl, rfl⟩)
  rw [h1]
  exact ⟨_, rfl, h2⟩
theorem szP_eq (l : List Pt) (p : Int) (h : 0 ≤ p ∧ p ≤ 1048576) (hb : l.length ≤ 9223372036854775807) : ∃ y, m_laws_szPointS l p = some y ∧ (y < 0 ∨ (y = p - l.length ∧ 0 ≤ y)) := by
  unfold m_laws_szPointS
  rw [wr_in (x := p - l.length) (by omega)]
  by_cases hn : p - (l.length : Int) < 0
  · exact ⟨-1, bif_t (by simpa using hn), Or.inl (by omega)⟩
  · exact ⟨_, bif_f (by simpa using hn), Or.inr ⟨rfl, by omega⟩⟩
def offs (k : Int) (l : List (List Int)) : Nat → Int
  | 0 => k
  | i + 1 => offs k l i + (l.getD i []).length
def tgt (k : Int) (l : List (List Int)) : List (List Int) := (List.range l.length).map fun (i : Nat) => seqI (offs k l i) (l.getD i []).length
theorem tgt_len (k : Int) (l : List (List Int)) : (tgt k l).length = l.length := by simp [tgt]
theorem tgt_at {k : Int} {l : List (List Int)} {i : Nat} (h : i < (tgt k l).length) : (tgt k l)[i] = seqI (offs k l i) (l.getD i []).length := by simp [tgt]
theorem offs_le {k : Int} {l : List (List Int)} (hr : ∀ r ∈ l, r.length ≤ 1048576) : ∀ i, i ≤ l.length → k ≤ offs k l i ∧ offs k l i ≤ k + 1048576 * i
  | 0, _ => by simp [offs]
  | i + 1, h => by
    have h1 := offs_le (k := k) hr i (by omega)
    have h2 := hr _ (List.getElem_mem (show i < l.length by omega))
    have e : l.getD i [] = l[i] := by simp [List.getD, List.getElem?_eq_getElem (show i < l.length by omega)]
    show k ≤ offs k l i + _ ∧ offs k l i + _ ≤ _
    rw [e]; omega
theorem getD_lt {l : List (List Int)} {i : Nat} (h : i < l.length) : l.getD i [] = l[i] := by simp [List.getD, List.getElem?_eq_getElem h]
theorem markR_eq (l : List (List Int)) (k : Int) (h0 : 0 ≤ k) (hk : k ≤ 1125899906842624) (hb : l.length ≤ 1048576) (hr : ∀ r ∈ l, r.length ≤ 1048576) : m_laws_markInt64SS l k = some (offs k l l.length, tgt k l) := by
  unfold m_laws_markInt64SS
  have hl : loopM m_laws_markInt64SS_s1 (k, 0, l) = some (offs k l l.length, tgt k l) := by
    refine loopM_val _ l.length (fun i s => s.1 = offs k l i ∧ s.2.1 = (i : Int) ∧ Laid (tgt k l) s.2.2 i ∧ ∀ j, i ≤ j → s.2.2[j]? = l[j]?) ⟨rfl, rfl, Laid.zero _ _ (by rw [tgt_len]), fun _ _ => rfl⟩ ?_ ?_
    · rintro i ⟨x, y, acc⟩ hi ⟨hx, hy, hL, hrow⟩
      simp only at hx hy hL hrow
      subst hx; subst hy
      have hal : acc.length = l.length := by rw [hL.1, tgt_len]
      have ho := offs_le hr (k := k) i (by omega)
      have hri := hr _ (List.getElem_mem hi)
      unfold m_laws_markInt64SS_s1
      simp only []
      rw [bif_t (by simp; omega), geti_lt (l := acc) (by omega)]
      have e : acc[i] = l[i] := by
        have := hrow i (Nat.le_refl _)
        rw [List.getElem?_eq_getElem (by omega), List.getElem?_eq_getElem hi] at this
        simpa using this
      simp only [bind_some', e]
      rw [markI_eq _ _ (by omega) (by omega)]
      simp only [bind_some']
      left
      refine ⟨_, rfl, by show _ = offs k l i + _; rw [getD_lt hi], by simp only []; rw [wr_in (by omega)]; omega, ?_, fun j hj => ?_⟩
      · have := hL.succ (by rw [tgt_len]; exact hi)
        rw [tgt_at, getD_lt hi] at this
        simpa using this
      · simp only [Int.toNat_natCast]
        rw [List.getElem?_set_ne (by omega)]
        exact hrow j (by omega)
    · rintro ⟨x, y, acc⟩ ⟨hx, hy, hL, hrow⟩
      simp only at hx hy hL
      subst hx; subst hy
      have hal : acc.length = l.length := by rw [hL.1, tgt_len]
      unfold m_laws_markInt64SS_s1
      simp only []
      rw [bif_f (by simp; omega), hL.all' (tgt_len k l)]
  rw [hl]; rfl
theorem heldR_eq (l : List (List Int)) (k : Int) (h0 : 0 ≤ k) (hk : k ≤ 1125899906842624) (hb : l.length ≤ 1048576) (hr : ∀ r ∈ l, r.length ≤ 1048576) : m_laws_heldInt64SS (tgt k l) k = some (offs k l l.length) := by
  unfold m_laws_heldInt64SS
  have hl : loopM (m_laws_heldInt64SS_s1 (tgt k l)) (k, 0) = some (Sum.inl (offs k l l.length)) := by
    refine loopM_val _ l.length (fun i s => s = (offs k l i, (i : Int))) rfl ?_ ?_
    · rintro i _ hi rfl
      have ho := offs_le hr (k := k) i (by omega)
      have ho' := offs_le hr (k := k) (i + 1) (by omega)
      have hri := hr _ (List.getElem_mem hi)
      unfold m_laws_heldInt64SS_s1
      simp only []
      rw [bif_t (by rw [tgt_len]; simpa using hi), geti_lt (by rw [tgt_len]; exact hi), tgt_at, getD_lt hi]
      simp only [bind_some']
      rw [heldI_eq _ _ (by omega) (by omega)]
      simp only [bind_some']
      left
      refine ⟨_, by rw [bif_f (by simp; omega)], ?_⟩
      rw [wr_in (by omega)]
      show (offs k l i + _, _) = (offs k l i + _, _)
      rw [getD_lt hi]; rfl
    · rintro _ rfl
      unfold m_laws_heldInt64SS_s1
      simp only []
      rw [bif_f (by rw [tgt_len]; simp)]
  rw [hl]; rfl
theorem geti20 {α : Type} (a b : α) : geti [a, b] 0 = some a := by simp [geti]
theorem geti21 {α : Type} (a b : α) : geti [a, b] 1 = some b := by simp [geti]
theorem geti_in {l : List Int} {a : Int} (h0 : 0 ≤ a) (h1 : a < l.length) : geti l a = some (l.getD a.toNat 0) := by
  obtain ⟨n, rfl⟩ := Int.eq_ofNat_of_zero_le h0
  rw [geti_lt (by omega)]
  simp [List.getD, List.getElem?_eq_getElem (show n < l.length by omega)]
def okW (w : List Int) : Bool := w.all fun x => decide (0 ≤ x) && decide (x ≤ 1000000000)
theorem l00Max_eq (a b : Int) : m_spec_l00Max a b = some (max a b) := by
  unfold m_spec_l00Max
  by_cases h : a > b
  · rw [bif_t (by simpa using h)]; congr 1; omega
  · rw [bif_f (by simpa using h)]; congr 1; omega
theorem l00Min_eq (a b : Int) : m_spec_l00Min a b = some (min a b) := by
  unfold m_spec_l00Min
  by_cases h : a < b
  · rw [bif_t (by simpa using h)]; congr 1; omega
  · rw [bif_f (by simpa using h)]; congr 1; omega
theorem implIn_eq (a b c : Int) : m_impl_in a b c = some (decide (b ≤ a) && decide (a ≤ c)) := in_eq' a b c
theorem l00In_eq (a b c : Int) : m_spec_l00In a b c = some (decide (b ≤ a) && decide (a ≤ c)) := in_eq a b c
abbrev Mg := Int × Int × Int × Int × Int
def mfar (a b : Mg) : Int := max (max 0 (max (a.1 - b.2.1) (b.1 - a.2.1))) (max 0 (max (a.2.2.1 - b.2.2.2.1) (b.2.2.1 - a.2.2.2.1)))
def mone (a b : Mg) : Int :=
  if b.2.2.2.2 - a.2.2.2.2 > mfar a b then b.2.2.2.2 - a.2.2.2.2 else if b.2.2.2.2 - a.2.2.2.2 < - mfar a b then 0 else (mfar a b + (b.2.2.2.2 - a.2.2.2.2)) / 2
def mtwo (a b : Mg) : Int :=
  if b.2.2.2.2 - a.2.2.2.2 > mfar a b then 0 else if b.2.2.2.2 - a.2.2.2.2 < - mfar a b then a.2.2.2.2 - b.2.2.2.2 else mfar a b - (mfar a b + (b.2.2.2.2 - a.2.2.2.2)) / 2
def mmeet (a b : Mg) (x y : Int) : Mg := (max (a.1 - x) (b.1 - y), min (a.2.1 + x) (b.2.1 + y), max (a.2.2.1 - x) (b.2.2.1 - y), min (a.2.2.2.1 + x) (b.2.2.2.1 + y), a.2.2.2.2 + x)
def mmrg (a b : Mg) : Mg := mmeet a b (mone a b) (mtwo a b)
/-- What holds of every node: its region is one, it meets the pins' box, it lies in that box grown by the delay, the delay is at most half of B, and all is a multiple of g. -/
structure MgOk (g B : Int) (m : Mg) : Prop where
  u : m.1 ≤ m.2.1
  v : m.2.2.1 ≤ m.2.2.2.1
  u0 : m.1 ≤ 811008
  u1 : 0 ≤ m.2.1
  v0 : m.2.2.1 ≤ 405504
  v1 : -405504 ≤ m.2.2.2.1
  lu : -m.2.2.2.2 ≤ m.1
  hu : m.2.1 ≤ 811008 + m.2.2.2.2
  lv : -405504 - m.2.2.2.2 ≤ m.2.2.1
  hv : m.2.2.2.1 ≤ 405504 + m.2.2.2.2
  d0 : 0 ≤ m.2.2.2.2
  d1 : 2 * m.2.2.2.2 ≤ B
  g1 : g ∣ m.1
  g2 : g ∣ m.2.1
  g3 : g ∣ m.2.2.1
  g4 : g ∣ m.2.2.2.1
  g5 : g ∣ m.2.2.2.2
theorem MgOk.mono {g g' B B' : Int} {m : Mg} (h : MgOk g B m) (hg : g' ∣ g) (hB : B ≤ B') : MgOk g' B' m :=
  ⟨h.u, h.v, h.u0, h.u1, h.v0, h.v1, h.lu, h.hu, h.lv, h.hv, h.d0, by have := h.d1; omega, Int.dvd_trans hg h.g1, Int.dvd_trans hg h.g2, Int.dvd_trans hg h.g3, Int.dvd_trans hg h.g4, Int.dvd_trans hg h.g5⟩
theorem dvd_max {g a b : Int} (ha : g ∣ a) (hb : g ∣ b) : g ∣ max a b := by
  rcases Int.le_total a b with h | h
  · rw [Int.max_eq_right h]; exact hb
  · rw [Int.max_eq_left h]; exact ha
theorem dvd_min {g a b : Int} (ha : g ∣ a) (hb : g ∣ b) : g ∣ min a b := by
  rcases Int.le_total a b with h | h
  · rw [Int.min_eq_left h]; exact ha
  · rw [Int.min_eq_right h]; exact hb
theorem dvd_half {g x : Int} (h : 2 * g ∣ x) : g ∣ x / 2 ∧ x / 2 * 2 = x := by
  obtain ⟨c, rfl⟩ := h
  have e : 2 * g * c / 2 = g * c := by rw [Int.mul_assoc]; exact Int.mul_ediv_cancel_left _ (by omega)
  rw [e]
  exact ⟨Int.dvd_mul_right g c, by rw [Int.mul_comm, Int.mul_assoc]⟩
section
variable {g B : Int} {a b : Mg}
theorem mfar_dvd (ha : MgOk g B a) (hb : MgOk g B b) : g ∣ mfar a b :=
  dvd_max (dvd_max (Int.dvd_zero g) (dvd_max (Int.dvd_sub ha.g1 hb.g2) (Int.dvd_sub hb.g1 ha.g2))) (dvd_max (Int.dvd_zero g) (dvd_max (Int.dvd_sub ha.g3 hb.g4) (Int.dvd_sub hb.g3 ha.g4)))
theorem mfar_le (ha : MgOk g B a) (hb : MgOk g B b) : 0 ≤ mfar a b ∧ mfar a b ≤ 811008 ∧ a.1 - b.2.1 ≤ mfar a b ∧ b.1 - a.2.1 ≤ mfar a b ∧ a.2.2.1 - b.2.2.2.1 ≤ mfar a b ∧ b.2.2.1 - a.2.2.2.1 ≤ mfar a b := by
  have := ha.u0; have := ha.u1; have := ha.v0; have := ha.v1; have := hb.u0; have := hb.u1; have := hb.v0; have := hb.v1
  unfold mfar; omega
theorem mhalf (ha : MgOk (2 * g) B a) (hb : MgOk (2 * g) B b) : g ∣ (mfar a b + (b.2.2.2.2 - a.2.2.2.2)) / 2 ∧ (mfar a b + (b.2.2.2.2 - a.2.2.2.2)) / 2 * 2 = mfar a b + (b.2.2.2.2 - a.2.2.2.2) :=
  dvd_half (Int.dvd_add (mfar_dvd ha hb) (Int.dvd_sub hb.g5 ha.g5))
theorem d2 {g x : Int} (h : 2 * g ∣ x) : g ∣ x := Int.dvd_trans (Int.dvd_mul_left 2 g) h
theorem mone_dvd (ha : MgOk (2 * g) B a) (hb : MgOk (2 * g) B b) : g ∣ mone a b ∧ g ∣ mtwo a b := by
  have h1 := (mhalf ha hb).1
  unfold mone mtwo
  split
  · exact ⟨Int.dvd_sub (d2 hb.g5) (d2 ha.g5), Int.dvd_zero g⟩
  · split
    · exact ⟨Int.dvd_zero g, Int.dvd_sub (d2 ha.g5) (d2 hb.g5)⟩
    · exact ⟨h1, Int.dvd_sub (d2 (mfar_dvd ha hb)) h1⟩
/-- The wires: not negative, together at least the distance, and equal delays. -/
theorem mone_facts (ha : MgOk (2 * g) B a) (hb : MgOk (2 * g) B b) : 0 ≤ mone a b ∧ 0 ≤ mtwo a b ∧ mfar a b ≤ mone a b + mtwo a b ∧ a.2.2.2.2 + mone a b = b.2.2.2.2 + mtwo a b ∧ 2 * (a.2.2.2.2 + mone a b) ≤ B + 811008 ∧ 2 * mone a b ≤ B + 811008 ∧ 2 * mtwo a b ≤ B + 811008 := by
  obtain ⟨h0, h1, _⟩ := mfar_le ha hb
  have h2 := (mhalf ha hb).2
  have := ha.d0; have := hb.d0; have := ha.d1; have := hb.d1
  unfold mone mtwo
  generalize mfar a b = f at *
  generalize (f + (b.2.2.2.2 - a.2.2.2.2)) / 2 = q at *
  generalize a.2.2.2.2 = x at *
  generalize b.2.2.2.2 = y at *
  split
  · omega
  · split
    · omega
    · omega
theorem mmrg_ok (ha : MgOk (2 * g) B a) (hb : MgOk (2 * g) B b) : MgOk g (B + 811008) (mmrg a b) := by
  obtain ⟨_, _, f1, f2, f3, f4⟩ := mfar_le ha hb
  obtain ⟨k1, k2, k3, k4, k5, _, _⟩ := mone_facts ha hb
  obtain ⟨q1, q2⟩ := mone_dvd ha hb
  unfold mmrg mmeet
  generalize mone a b = x at *
  generalize mtwo a b = y at *
  generalize mfar a b = f at *
  have := ha.u; have := ha.v; have := ha.u0; have := ha.u1; have := ha.v0; have := ha.v1; have := ha.lu; have := ha.hu; have := ha.lv; have := ha.hv
  have := hb.u; have := hb.v; have := hb.u0; have := hb.u1; have := hb.v0; have := hb.v1; have := hb.lu; have := hb.hu; have := hb.lv; have := hb.hv
  exact ⟨by simp only []; omega, by simp only []; omega, by simp only []; omega, by simp only []; omega, by simp only []; omega, by simp only []; omega, by simp only []; omega, by simp only []; omega, by simp only []; omega, by simp only []; omega,
    by simp only []; have := ha.d0; omega, by simp only []; omega,
    dvd_max (Int.dvd_sub (d2 ha.g1) q1) (Int.dvd_sub (d2 hb.g1) q2), dvd_min (Int.dvd_add (d2 ha.g2) q1) (Int.dvd_add (d2 hb.g2) q2),
    dvd_max (Int.dvd_sub (d2 ha.g3) q1) (Int.dvd_sub (d2 hb.g3) q2), dvd_min (Int.dvd_add (d2 ha.g4) q1) (Int.dvd_add (d2 hb.g4) q2), Int.dvd_add (d2 ha.g5) q1⟩
/-- All is small. -/
theorem MgOk.small (h : MgOk g B a) (hB : B ≤ 8921088) : -5000000 ≤ a.1 ∧ a.1 ≤ 6000000 ∧ -5000000 ≤ a.2.1 ∧ a.2.1 ≤ 6000000 ∧ -5000000 ≤ a.2.2.1 ∧ a.2.2.1 ≤ 6000000 ∧ -5000000 ≤ a.2.2.2.1 ∧ a.2.2.2.1 ≤ 6000000 ∧ 0 ≤ a.2.2.2.2 ∧ a.2.2.2.2 ≤ 5000000 := by
  have := h.u; have := h.v; have := h.u0; have := h.u1; have := h.v0; have := h.v1; have := h.lu; have := h.hu; have := h.lv; have := h.hv; have := h.d0; have := h.d1
  omega
theorem specPair_eq (ha : MgOk (2 * g) B a) (hb : MgOk (2 * g) B b) (hB : B ≤ 8110080) :
    m_spec_l06Pair a.1 a.2.1 a.2.2.1 a.2.2.2.1 a.2.2.2.2 b.1 b.2.1 b.2.2.1 b.2.2.2.1 b.2.2.2.2 = some (mmrg a b, mone a b, mtwo a b) := by
  have sa := ha.small (by omega)
  have sb := hb.small (by omega)
  obtain ⟨h0, h1, _⟩ := mfar_le ha hb
  obtain ⟨k1, k2, _, _, _, k3, k4⟩ := mone_facts ha hb
  unfold m_spec_l06Pair m_spec_l06Far m_spec_l06Grow m_spec_l06Meet
  simp only [l00Max_eq, l00Min_eq, bind_some']
  rw [wr_in (x := a.1 - b.2.1) (by omega), wr_in (x := b.1 - a.2.1) (by omega), wr_in (x := a.2.2.1 - b.2.2.2.1) (by omega), wr_in (x := b.2.2.1 - a.2.2.2.1) (by omega)]
  rw [show max (max 0 (max (a.1 - b.2.1) (b.1 - a.2.1))) (max 0 (max (a.2.2.1 - b.2.2.2.1) (b.2.2.1 - a.2.2.2.1))) = mfar a b from rfl]
  rw [wr_in (x := b.2.2.2.2 - a.2.2.2.2) (by omega), wr_in (x := 0 - mfar a b) (by omega), wr_in (x := 0 - (b.2.2.2.2 - a.2.2.2.2)) (by omega), wr_in (x := mfar a b + (b.2.2.2.2 - a.2.2.2.2)) (by omega)]
  have e : (bif decide (b.2.2.2.2 - a.2.2.2.2 > mfar a b) then some (b.2.2.2.2 - a.2.2.2.2, (0 : Int)) else (bif decide (b.2.2.2.2 - a.2.2.2.2 < 0 - mfar a b) then some (0, 0 - (b.2.2.2.2 - a.2.2.2.2)) else
      some (wr (Int.tdiv (mfar a b + (b.2.2.2.2 - a.2.2.2.2)) 2), wr (mfar a b - wr (Int.tdiv (mfar a b + (b.2.2.2.2 - a.2.2.2.2)) 2))))) = some (mone a b, mtwo a b) := by
    unfold mone mtwo
    by_cases c1 : b.2.2.2.2 - a.2.2.2.2 > mfar a b
    · rw [bif_t (by simpa using c1), if_pos c1, if_pos c1]
    · rw [bif_f (by simpa using c1), if_neg c1, if_neg c1]
      by_cases c2 : b.2.2.2.2 - a.2.2.2.2 < - mfar a b
      · rw [bif_t (by simp; omega), if_pos c2, if_pos c2]
        congr 2; omega
      · rw [bif_f (by simp; omega), if_neg c2, if_neg c2, Int.tdiv_eq_ediv_of_nonneg (by omega), wr_in (x := (mfar a b + (b.2.2.2.2 - a.2.2.2.2)) / 2) (by omega), wr_in (x := mfar a b - (mfar a b + (b.2.2.2.2 - a.2.2.2.2)) / 2) (by omega)]
  rw [e]
  simp only [bind_some']
  unfold mmrg mmeet
  generalize mone a b = x at *
  generalize mtwo a b = y at *
  rw [wr_in (x := a.1 - x) (by omega), wr_in (x := a.2.1 + x) (by omega), wr_in (x := a.2.2.1 - x) (by omega), wr_in (x := a.2.2.2.1 + x) (by omega), wr_in (x := b.1 - y) (by omega), wr_in (x := b.2.1 + y) (by omega), wr_in (x := b.2.2.1 - y) (by omega), wr_in (x := b.2.2.2.1 + y) (by omega), wr_in (x := a.2.2.2.2 + x) (by omega)]
theorem size_eq {x : Int} (h : -1000000000 ≤ x ∧ x ≤ 1000000000) : m_impl_size x = some (max x (-x)) := by
  unfold m_impl_size
  rw [wr_in (by omega)]
  congr 1; split <;> omega
theorem Valid_eq (a b c d : Int) : m_impl_ValidRegion a b c d = some (decide (-1000000000 ≤ a) && decide (a ≤ b) && (decide (-1000000000 ≤ c) && decide (c ≤ d)) && (decide (b ≤ 1000000000) && decide (d ≤ 1000000000))) := by
  unfold m_impl_ValidRegion
  simp only [implIn_eq, bind_some']
  by_cases h1 : -1000000000 ≤ a <;> by_cases h2 : a ≤ b <;> by_cases h3 : -1000000000 ≤ c <;> by_cases h4 : c ≤ d <;> by_cases h5 : b ≤ 1000000000 <;> simp [h1, h2, h3, h4, h5]
theorem mergeOk_eq (a b c d e : Int) (h : -1000000000 ≤ a ∧ a ≤ b ∧ -1000000000 ≤ c ∧ c ≤ d ∧ b ≤ 1000000000 ∧ d ≤ 1000000000 ∧ 0 ≤ e ∧ e ≤ 1000000000) : m_impl_mergeOk a b c d e = some true := by
  unfold m_impl_mergeOk
  simp only [Valid_eq, implIn_eq, bind_some']
  simp [h.1, h.2.1, h.2.2.1, h.2.2.2.1, h.2.2.2.2.1, h.2.2.2.2.2.1, h.2.2.2.2.2.2.1, h.2.2.2.2.2.2.2]
theorem meet_eq (p q r s t u v w : Int) (h : max p t ≤ min q u ∧ max r v ≤ min s w) : m_impl_Region_meet p q r s t u v w = some ((max p t, min q u, max r v, min s w), true) := by
  unfold m_impl_Region_meet
  have e1 : ∀ x y : Int, (if y > x then y else x) = max x y := fun x y => by split <;> omega
  have e2 : ∀ x y : Int, (if y < x then y else x) = min x y := fun x y => by split <;> omega
  simp only [e1, e2]
  rw [bif_t (by simp only [decide_eq_true_eq]; omega)]
  simp only [h.2, decide_true]
theorem Rfar_eq {a b : Mg} (sa : -5000000 ≤ a.1 ∧ a.1 ≤ 6000000 ∧ -5000000 ≤ a.2.1 ∧ a.2.1 ≤ 6000000 ∧ -5000000 ≤ a.2.2.1 ∧ a.2.2.1 ≤ 6000000 ∧ -5000000 ≤ a.2.2.2.1 ∧ a.2.2.2.1 ≤ 6000000 ∧ 0 ≤ a.2.2.2.2 ∧ a.2.2.2.2 ≤ 5000000)
    (sb : -5000000 ≤ b.1 ∧ b.1 ≤ 6000000 ∧ -5000000 ≤ b.2.1 ∧ b.2.1 ≤ 6000000 ∧ -5000000 ≤ b.2.2.1 ∧ b.2.2.1 ≤ 6000000 ∧ -5000000 ≤ b.2.2.2.1 ∧ b.2.2.2.1 ≤ 6000000 ∧ 0 ≤ b.2.2.2.2 ∧ b.2.2.2.2 ≤ 5000000) :
    m_impl_Region_far a.1 a.2.1 a.2.2.1 a.2.2.2.1 b.1 b.2.1 b.2.2.1 b.2.2.2.1 = some (mfar a b) := by
  unfold m_impl_Region_far
  rw [wr_in (x := a.1 - b.2.1) (by omega), wr_in (x := b.1 - a.2.1) (by omega), wr_in (x := a.2.2.1 - b.2.2.2.1) (by omega), wr_in (x := b.2.2.1 - a.2.2.2.1) (by omega)]
  have e1 : ∀ x y : Int, (if y > x then y else x) = max x y := fun x y => by split <;> omega
  simp only [e1]
  unfold mfar
  congr 1; omega
theorem implMerge_eq (ha : MgOk (2 * g) B a) (hb : MgOk (2 * g) B b) (hB : B ≤ 8110080) :
    m_impl_merge a.1 a.2.1 a.2.2.1 a.2.2.2.1 a.2.2.2.2 b.1 b.2.1 b.2.2.1 b.2.2.2.1 b.2.2.2.2 = some (mmrg a b, mone a b, mtwo a b, true) := by
  have sa := ha.small (by omega)
  have sb := hb.small (by omega)
  obtain ⟨h0, h1, _⟩ := mfar_le ha hb
  obtain ⟨k1, k2, _, k5, _, k3, k4⟩ := mone_facts ha hb
  have hO := mmrg_ok ha hb
  have so := hO.small (by omega)
  have hev := (mhalf ha hb).2
  have ou := hO.u
  have ov := hO.v
  unfold m_impl_merge m_impl_Region_grown
  rw [Rfar_eq sa sb, wr_in (x := a.2.2.2.2 - b.2.2.2.2) (by omega), size_eq (by omega)]
  simp only [bind_some']
  have tail : ∀ x y : Int, x = mone a b → y = mtwo a b → m_impl_Region_meet (wr (a.1 - x)) (wr (a.2.1 + x)) (wr (a.2.2.1 - x)) (wr (a.2.2.2.1 + x)) (wr (b.1 - y)) (wr (b.2.1 + y)) (wr (b.2.2.1 - y)) (wr (b.2.2.2.1 + y)) =
      some (((mmrg a b).1, (mmrg a b).2.1, (mmrg a b).2.2.1, (mmrg a b).2.2.2.1), true) ∧ m_impl_mergeOk (mmrg a b).1 (mmrg a b).2.1 (mmrg a b).2.2.1 (mmrg a b).2.2.2.1 (wr (a.2.2.2.2 + x)) = some true ∧ wr (a.2.2.2.2 + x) = (mmrg a b).2.2.2.2 := by
    rintro x y rfl rfl
    rw [wr_in (x := a.1 - mone a b) (by omega), wr_in (x := a.2.1 + mone a b) (by omega), wr_in (x := a.2.2.1 - mone a b) (by omega), wr_in (x := a.2.2.2.1 + mone a b) (by omega), wr_in (x := b.1 - mtwo a b) (by omega), wr_in (x := b.2.1 + mtwo a b) (by omega), wr_in (x := b.2.2.1 - mtwo a b) (by omega), wr_in (x := b.2.2.2.1 + mtwo a b) (by omega), wr_in (x := a.2.2.2.2 + mone a b) (by omega)]
    refine ⟨meet_eq _ _ _ _ _ _ _ _ ⟨ou, ov⟩, mergeOk_eq _ _ _ _ _ ?_, rfl⟩
    have e5 : (mmrg a b).2.2.2.2 = a.2.2.2.2 + mone a b := rfl
    rw [← e5]; omega
  by_cases c : max (a.2.2.2.2 - b.2.2.2.2) (-(a.2.2.2.2 - b.2.2.2.2)) ≤ mfar a b
  · rw [bif_t (by simpa using c), wr_in (x := mfar a b + b.2.2.2.2) (by omega), wr_in (x := mfar a b + b.2.2.2.2 - a.2.2.2.2) (by omega)]
    have e0 : mfar a b + b.2.2.2.2 - a.2.2.2.2 = mfar a b + (b.2.2.2.2 - a.2.2.2.2) := by omega
    rw [e0, Int.tmod_eq_emod_of_nonneg (by omega), Int.tdiv_eq_ediv_of_nonneg (by omega)]
    have e1 : (mfar a b + (b.2.2.2.2 - a.2.2.2.2)) % 2 = 0 := by omega
    have e2 : mone a b = (mfar a b + (b.2.2.2.2 - a.2.2.2.2)) / 2 := by unfold mone; split; omega; split; omega; rfl
    have e3 : mtwo a b = mfar a b - (mfar a b + (b.2.2.2.2 - a.2.2.2.2)) / 2 := by unfold mtwo; split; omega; split; omega; rfl
    rw [bif_f (by rw [e1]; rfl), wr_in (x := (mfar a b + (b.2.2.2.2 - a.2.2.2.2)) / 2) (by omega), ← e2, wr_in (x := mfar a b - mone a b) (by omega), show mfar a b - mone a b = mtwo a b by omega]
    obtain ⟨t1, t2, t3⟩ := tail (mone a b) (mtwo a b) rfl rfl
    simp only [bind_some', t1]
    rw [bif_f (by rfl), t2]
    simp only [bind_some']
    rw [bif_f (by rfl), t3]
  · rw [bif_f (by simpa using c), wr_in (x := b.2.2.2.2 - a.2.2.2.2) (by omega)]
    have e2 : (if 0 > b.2.2.2.2 - a.2.2.2.2 then 0 else b.2.2.2.2 - a.2.2.2.2) = mone a b := by unfold mone; split <;> split <;> omega
    have e3 : (if 0 > a.2.2.2.2 - b.2.2.2.2 then 0 else a.2.2.2.2 - b.2.2.2.2) = mtwo a b := by unfold mtwo; split <;> split <;> omega
    rw [e2, e3]
    obtain ⟨t1, t2, t3⟩ := tail (mone a b) (mtwo a b) rfl rfl
    simp only [bind_some', t1]
    rw [bif_f (by rfl), t2]
    simp only [bind_some']
    rw [bif_f (by rfl), t3]
end
/-- Joins of some of the nodes: each row joins two elder ones. -/
def IsP (p : Int) (l : List (List Int)) : Prop := (2 ≤ p ∧ p ≤ 12) ∧ (l.length : Int) ≤ p - 1 ∧ ∀ k, k < l.length → ∃ a b, l[k]? = some [a, b] ∧ 0 ≤ a ∧ a < b ∧ b < p + k ∧ True
def leafV (p : Pt) : Mg := ((p.1 + p.2) * 4096, (p.1 + p.2) * 4096, (p.1 - p.2) * 4096, (p.1 - p.2) * 4096, 0)
theorem leaf_ok {p : Pt} (h : okP p = true) : MgOk 4096 0 (leafV p) := by
  have := okP_t h
  exact ⟨Int.le_refl _, Int.le_refl _, by simp only [leafV]; omega, by simp only [leafV]; omega, by simp only [leafV]; omega, by simp only [leafV]; omega, by simp only [leafV]; omega, by simp only [leafV]; omega, by simp only [leafV]; omega, by simp only [leafV]; omega, Int.le_refl _, Int.le_refl _,
    Int.dvd_mul_left _ _, Int.dvd_mul_left _ _, Int.dvd_mul_left _ _, Int.dvd_mul_left _ _, Int.dvd_zero _⟩
theorem specLeaf_eq {p : Pt} (h : okP p = true) : m_spec_l06Leaf p.1 p.2 = some ((leafV p).1, (leafV p).2.1, (leafV p).2.2.1, (leafV p).2.2.2.1) := by
  have := okP_t h
  unfold m_spec_l06Leaf
  rw [wr_in (x := p.1 + p.2) (by omega), wr_in (x := p.1 - p.2) (by omega), wr_in (x := (p.1 + p.2) * 4096) (by omega), wr_in (x := (p.1 - p.2) * 4096) (by omega)]
  rfl
theorem implLeaf_eq {p : Pt} (h : okP p = true) : m_impl_leaf p.1 p.2 = some ((leafV p).1, (leafV p).2.1, (leafV p).2.2.1, (leafV p).2.2.2.1) := by
  have := okP_t h
  unfold m_impl_leaf
  rw [wr_in (x := p.1 + p.2) (by omega), wr_in (x := p.1 - p.2) (by omega), wr_in (x := (p.1 + p.2) * 4096) (by omega), wr_in (x := (p.1 - p.2) * 4096) (by omega)]
  rfl
def nodeAt (ms : List Mg) (i : Int) : Mg := ms.getD i.toNat (0, 0, 0, 0, 0)
def TMs (ms : List Mg) (r : List Int) : List Mg := match r with | [a, b] => ms ++ [mmrg (nodeAt ms a) (nodeAt ms b)] | _ => ms
def WIs (ms : List Mg) (r : List Int) (w : List Int) : List Int := match r with | [a, b] => (w.set a.toNat (mone (nodeAt ms a) (nodeAt ms b))).set b.toNat (mtwo (nodeAt ms a) (nodeAt ms b)) | _ => w
def TM (ps : List Pt) (l : List (List Int)) : Nat → List Mg
  | 0 => ps.map leafV
  | k + 1 => TMs (TM ps l k) (l.getD k [])
def WI (ps : List Pt) (l : List (List Int)) : Nat → List Int
  | 0 => List.replicate (2 * ps.length - 1) 0
  | k + 1 => WIs (TM ps l k) (l.getD k []) (WI ps l k)
def WS (ps : List Pt) (l : List (List Int)) : Nat → List Int
  | 0 => List.replicate ps.length 0
  | k + 1 => WIs (TM ps l k) (l.getD k []) (WS ps l k) ++ [0]
theorem WIs_len (ms : List Mg) (r w : List Int) : (WIs ms r w).length = w.length := by
  unfold WIs
  split
  · simp
  · rfl
theorem WI_len (ps : List Pt) (l : List (List Int)) : ∀ k, (WI ps l k).length = 2 * ps.length - 1
  | 0 => by simp [WI]
  | k + 1 => by show (WIs _ _ _).length = _; rw [WIs_len, WI_len ps l k]
theorem WS_len (ps : List Pt) (l : List (List Int)) : ∀ k, (WS ps l k).length = ps.length + k
  | 0 => by simp [WS]
  | k + 1 => by show (WIs _ _ _ ++ [0]).length = _; rw [List.length_append, WIs_len, WS_len ps l k]; simp; omega
theorem getD_row {l : List (List Int)} {k : Nat} {r : List Int} (h : l[k]? = some r) : l.getD k [] = r := by simp [List.getD, h]
section
variable {ps : List Pt} {l : List (List Int)}
theorem TM_len (hJ : IsP ps.length l) : ∀ k, k ≤ l.length → (TM ps l k).length = ps.length + k := by
  intro k
  induction k with
  | zero => intro _; simp [TM]
  | succ k ih =>
    intro hk
    obtain ⟨a, b, hat, _⟩ := hJ.2.2 k hk
    show (TMs _ _).length = _
    rw [getD_row hat]
    unfold TMs
    simp [ih (by omega)]; omega
theorem nodeAt_mem {ms : List Mg} {i : Int} (h0 : 0 ≤ i) (h1 : i < ms.length) : nodeAt ms i ∈ ms ∧ geti ms i = some (nodeAt ms i) := by
  obtain ⟨n, rfl⟩ := Int.eq_ofNat_of_zero_le h0
  have hn : n < ms.length := by omega
  have e : nodeAt ms (n : Int) = ms[n] := by unfold nodeAt; simp [List.getD, List.getElem?_eq_getElem hn]
  rw [e, geti_lt hn]
  exact ⟨List.getElem_mem hn, rfl⟩
theorem pow_step {k : Nat} (h : k ≤ 11) : (2 : Int) ^ (12 - k) = 2 * 2 ^ (11 - k) := by
  rw [show 12 - k = (11 - k) + 1 by omega, Int.pow_succ, Int.mul_comm]
theorem TM_ok (hp : okPs ps = true) (hJ : IsP ps.length l) : ∀ k, k ≤ l.length → ∀ m ∈ TM ps l k, MgOk (2 ^ (12 - k)) (k * 811008) m := by
  have hl : (l.length : Int) ≤ ps.length - 1 := hJ.2.1
  have hn := hJ.1
  intro k
  induction k with
  | zero =>
    intro _ m hm
    obtain ⟨p, hpm, rfl⟩ := List.mem_map.1 hm
    exact (leaf_ok (List.all_eq_true.1 hp p hpm)).mono (by exact Int.dvd_refl _) (by omega)
  | succ k ih =>
    intro hk m hm
    obtain ⟨a, b, hat, ha, hab, hb, _⟩ := hJ.2.2 k hk
    have hlen := TM_len hJ k (by omega)
    have e : TM ps l (k + 1) = TM ps l k ++ [mmrg (nodeAt (TM ps l k) a) (nodeAt (TM ps l k) b)] := by
      show TMs _ _ = _
      rw [getD_row hat]; rfl
    rw [e] at hm
    have hk11 : k ≤ 11 := by omega
    have hg := pow_step hk11
    have e2 : 12 - (k + 1) = 11 - k := by omega
    rw [e2]
    have hB : ((k + 1 : Nat) : Int) * 811008 = (k : Int) * 811008 + 811008 := by omega
    rw [hB]
    rcases List.mem_append.1 hm with hm | hm
    · refine (ih (by omega) m hm).mono ?_ (by omega)
      rw [hg]; exact Int.dvd_mul_left _ _
    · simp only [List.mem_singleton] at hm
      subst hm
      have h1 := ih (by omega) _ (nodeAt_mem (ms := TM ps l k) (i := a) ha (by omega)).1
      have h2 := ih (by omega) _ (nodeAt_mem (ms := TM ps l k) (i := b) (by omega) (by omega)).1
      rw [hg] at h1 h2
      exact mmrg_ok h1 h2
theorem take_map_succ {k : Nat} (hk : k < ps.length) : (ps.take (k + 1)).map leafV = (ps.take k).map leafV ++ [leafV ps[k]] := by
  rw [List.take_succ_eq_append_getElem hk, List.map_append]; rfl
theorem specT1 (hp : okPs ps = true) (hn : (ps.length : Int) ≤ 12) : loopM (m_spec_l06Tree_s1 ps) (([] : List Mg), ([] : List Int), 0) = some (ps.map leafV, List.replicate ps.length 0) := by
  refine loopM_val _ ps.length (fun k s => s = ((ps.take k).map leafV, List.replicate k 0, (k : Int))) (by simp) ?_ ?_
  · rintro k _ hk rfl
    unfold m_spec_l06Tree_s1
    simp only []
    rw [bif_t (by simpa using hk), geti_lt hk]
    simp only [bind_some', specLeaf_eq (okPs_at hp hk)]
    rw [apC_ok (by simp [lim]; omega), apC_ok (by simp [lim]; omega)]
    simp only [bind_some']
    left
    refine ⟨_, rfl, ?_⟩
    rw [wr_in (by omega), take_map_succ hk, List.replicate_succ']
    rfl
  · rintro _ rfl
    unfold m_spec_l06Tree_s1
    simp only []
    rw [bif_f (by simp), List.take_length]
theorem specT2 (hp : okPs ps = true) (hJ : IsP ps.length l) : loopM (m_spec_l06Tree_s2 l) (ps.map leafV, List.replicate ps.length 0, 0) = some (TM ps l l.length, WS ps l l.length) := by
  obtain ⟨hn, hl, hG⟩ := id hJ
  refine loopM_val _ l.length (fun k s => s = (TM ps l k, WS ps l k, (k : Int))) rfl ?_ ?_
  · rintro k _ hk rfl
    obtain ⟨a, b, hat, ha, hab, hb, _⟩ := hG k hk
    have hlen := TM_len hJ k (by omega)
    have hws := WS_len ps l k
    obtain ⟨ma, ga⟩ := nodeAt_mem (ms := TM ps l k) (i := a) ha (by omega)
    obtain ⟨mb, gb⟩ := nodeAt_mem (ms := TM ps l k) (i := b) (by omega) (by omega)
    have oa := TM_ok hp hJ k (by omega) _ ma
    have ob := TM_ok hp hJ k (by omega) _ mb
    rw [pow_step (by omega)] at oa ob
    have hgl : geti l (k : Int) = some [a, b] := by rw [geti_nat]; exact hat
    unfold m_spec_l06Tree_s2
    simp only []
    rw [bif_t (by simpa using hk)]
    simp only [hgl, bind_some', geti20, geti21, ga, gb, specPair_eq oa ob (by omega)]
    rw [geti_in (l := WS ps l k) (a := a) ha (by omega)]
    simp only [bind_some']
    rw [geti_in (a := b) (by omega) (by rw [List.length_set]; omega)]
    simp only [bind_some']
    rw [apC_ok (by simp [lim]; omega), apC_ok (by simp [lim]; omega)]
    simp only [bind_some']
    left
    refine ⟨_, rfl, ?_⟩
    rw [wr_in (by omega)]
    have e1 : TM ps l (k + 1) = TM ps l k ++ [mmrg (nodeAt (TM ps l k) a) (nodeAt (TM ps l k) b)] := by
      show TMs _ _ = _
      rw [getD_row hat]; rfl
    have e2 : WS ps l (k + 1) = ((WS ps l k).set a.toNat (mone (nodeAt (TM ps l k) a) (nodeAt (TM ps l k) b))).set b.toNat (mtwo (nodeAt (TM ps l k) a) (nodeAt (TM ps l k) b)) ++ [0] := by
      show WIs _ _ _ ++ [0] = _
      rw [getD_row hat]; rfl
    rw [e1, e2]
    rfl
  · rintro _ rfl
    unfold m_spec_l06Tree_s2
    simp only []
    rw [bif_f (by simp)]
end
theorem l06Pins_eq (ps : List Pt) (hb : ps.length ≤ 140737488355328) : m_spec_l06Pins ps = some (decide (2 ≤ ps.length) && decide (ps.length ≤ 12) && okPs ps) := by
  unfold m_spec_l06Pins
  rw [in_eq]
  simp only [bind_some']
  by_cases h : 2 ≤ ps.length ∧ ps.length ≤ 12
  · rw [bif_t (by simp; omega), l01Points_eq ps hb]
    simp [h.1, h.2, show ps.length ≤ 24 by omega]
  · rw [bif_f (by simp; omega)]
    congr 1; symm
    by_cases h1 : 2 ≤ ps.length
    · simp [h1, show ¬ ps.length ≤ 12 by omega]
    · simp [h1]
theorem clockPins_eq (ps : List Pt) (hb : ps.length ≤ 140737488355328) : m_impl_clockPins ps = some (decide (2 ≤ ps.length) && decide (ps.length ≤ 12) && okPs ps) := by
  unfold m_impl_clockPins
  rw [in_eq']
  simp only [bind_some']
  by_cases h : 2 ≤ ps.length ∧ ps.length ≤ 12
  · rw [bif_t (by simp; omega)]
    unfold m_slices_ContainsFunc_impl_Point_impl_Point_impl_noPoint
    obtain ⟨i, h1, h2⟩ := IndexNo_eq ps hb
    rw [h1]
    simp only [bind_some', h2]
    simp [h.1, h.2]
  · rw [bif_f (by simp; omega)]
    congr 1; symm
    by_cases h1 : 2 ≤ ps.length
    · simp [h1, show ¬ ps.length ≤ 12 by omega]
    · simp [h1]
end Go.Proofs.Ytfjpfomdoohabaa
