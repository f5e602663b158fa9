/- NearestPoint: what the reference and the program reckon is the same. -/
import Derived.Test.YtmodhpgnkbnbaaaMod
import Derived.Test.YtmodhpgnkbnbaaaPur
set_option linter.unusedSimpArgs false
set_option linter.unusedVariables false
namespace Go.Proofs.Ytmodhpgnkbnbaaa
open Go.RowKit

abbrev Pt := Int × Int
def okP (p : Pt) : Bool := decide (0 ≤ p.1) && decide (p.1 ≤ 99) && (decide (0 ≤ p.2) && decide (p.2 ≤ 99))
theorem okP_t {p : Pt} (h : okP p = true) : 0 ≤ p.1 ∧ p.1 ≤ 99 ∧ 0 ≤ p.2 ∧ p.2 ≤ 99 := by
  unfold okP at h; simp only [Bool.and_eq_true, decide_eq_true_eq] at h; omega
theorem in_eq (n a b : Int) : m_spec_l00In n a b = some (decide (a ≤ n) && decide (n ≤ b)) := by
  unfold m_spec_l00In
  by_cases h : a ≤ n
  · rw [bif_t (by simpa using h)]; simp [h]
  · rw [bif_f (by simpa using h)]; simp [h]
theorem in_eq' (n a b : Int) : m_impl_in n a b = some (decide (a ≤ n) && decide (n ≤ b)) := by
  unfold m_impl_in
  by_cases h : a ≤ n
  · rw [bif_t (by simpa using h)]; simp [h]
  · rw [bif_f (by simpa using h)]; simp [h]
theorem l01Point_eq (x y : Int) : m_spec_l01Point x y = some (okP (x, y)) := by
  unfold m_spec_l01Point okP
  simp only [in_eq, bind_some']
  cases h : (decide (0 ≤ x) && decide (x ≤ 99)) <;> simp [h]
theorem IsPoint_eq (x y : Int) : m_impl_IsPoint x y = some (okP (x, y)) := by
  unfold m_impl_IsPoint okP
  simp only [in_eq', bind_some']
  cases h : (decide (0 ≤ x) && decide (x ≤ 99)) <;> simp [h]
def dist (p q : Pt) : Int := max (p.1 - q.1) (q.1 - p.1) + max (p.2 - q.2) (q.2 - p.2)
theorem abs_eq {n : Int} (h : -1000 ≤ n ∧ n ≤ 1000) : m_spec_l01Abs n = some (max n (-n)) := by
  unfold m_spec_l01Abs m_spec_l00Max
  rw [wr_in (x := 0 - n) (by omega)]
  by_cases hc : n > 0 - n
  · rw [bif_t (by simpa using hc)]; simp only [bind_some']; congr 1; omega
  · rw [bif_f (by simpa using hc)]; simp only [bind_some']; congr 1; omega
theorem l01Far_eq {p q : Pt} (hp : okP p = true) (hq : okP q = true) : m_spec_l01Far p.1 p.2 q.1 q.2 = some (dist p q) := by
  have h1 := okP_t hp
  have h2 := okP_t hq
  unfold m_spec_l01Far dist
  rw [wr_in (x := p.1 - q.1) (by omega), wr_in (x := p.2 - q.2) (by omega), abs_eq (by omega), abs_eq (by omega)]
  simp only [bind_some']
  rw [wr_in (by omega)]
  congr 1; omega
theorem far_eq {p q : Pt} (hp : okP p = true) (hq : okP q = true) : m_impl_far p.1 p.2 q.1 q.2 = some (dist p q) := by
  have h1 := okP_t hp
  have h2 := okP_t hq
  unfold m_impl_far m_impl_size dist
  rw [wr_in (x := p.1 - q.1) (by omega), wr_in (x := p.2 - q.2) (by omega), wr_in (x := 0 - (p.1 - q.1)) (by omega), wr_in (x := 0 - (p.2 - q.2)) (by omega)]
  simp only [bind_some']
  rw [wr_in (by split <;> split <;> omega)]
  congr 1
  split <;> split <;> omega
theorem dist_comm (p q : Pt) : dist p q = dist q p := by unfold dist; omega
def okPs (ps : List Pt) : Bool := ps.all okP
theorem okPs_at {ps : List Pt} (h : okPs ps = true) {k : Nat} (hk : k < ps.length) : okP ps[k] = true := List.all_eq_true.1 h _ (List.getElem_mem hk)
theorem okPs_not {ps : List Pt} {k : Nat} (hk : k < ps.length) (h : okP ps[k] = false) : okPs ps = false := by
  unfold okPs; rw [List.all_eq_false]; exact ⟨ps[k], List.getElem_mem hk, by simp [h]⟩
theorem okPs_all {ps : List Pt} (h : ∀ j (hj : j < ps.length), okP ps[j] = true) : okPs ps = true := by
  unfold okPs; rw [List.all_eq_true]
  intro x hx
  obtain ⟨j, hj, rfl⟩ := List.mem_iff_getElem.1 hx
  exact h j hj
theorem l01Points_eq (ps : List Pt) (hb : ps.length ≤ 140737488355328) : m_spec_l01Points ps = some (okPs ps && decide (ps.length ≤ 24)) := by
  unfold m_spec_l01Points
  have hl : loopM (m_spec_l01Points_s1 ps) 0 = some (if okPs ps then Sum.inl () else Sum.inr false) := by
    refine loopM_val _ ps.length (fun k s => s = (k : Int) ∧ ∀ j (hj : j < ps.length), j < k → okP ps[j] = true) ⟨rfl, fun j _ h => by omega⟩ ?_ ?_
    · rintro k _ hk ⟨rfl, hall⟩
      unfold m_spec_l01Points_s1
      simp only []
      rw [bif_t (by simpa using hk), geti_lt hk]
      simp only [bind_some', l01Point_eq]
      cases h : okP ps[k] with
      | true =>
        left
        refine ⟨_, bif_f (by simp [h]), ?_, fun j hj hjk => ?_⟩
        · rw [wr_in (by omega)]; omega
        · by_cases e : j = k
          · subst e; exact h
          · exact hall j hj (by omega)
      | false => right; rw [okPs_not hk h]; exact bif_t (by simp [h])
    · rintro _ ⟨rfl, hall⟩
      unfold m_spec_l01Points_s1
      simp only []
      rw [bif_f (by simp), okPs_all (fun j hj => hall j hj hj)]; rfl
  rw [hl]
  cases h : okPs ps
  · simp [h]
  · simp [h]; omega
theorem IndexNo_eq (ps : List Pt) (hb : ps.length ≤ 140737488355328) : ∃ i : Int, m_slices_IndexFunc_impl_Point_impl_Point_impl_noPoint ps = some i ∧ decide (i ≥ 0) = !okPs ps := by
  unfold m_slices_IndexFunc_impl_Point_impl_Point_impl_noPoint
  obtain ⟨r, hr, hJ⟩ := loopM_count (m_slices_IndexFunc_impl_Point_impl_Point_impl_noPoint_s1 ps) ps.length (fun k s => s = (k : Int) ∧ ∀ j (hj : j < ps.length), j < k → okP ps[j] = true)
    (fun r => (r = Sum.inl () ∧ okPs ps = true) ∨ ∃ k : Nat, r = Sum.inr (k : Int) ∧ okPs ps = false) (s0 := 0) ⟨rfl, fun j _ h => by omega⟩ (by
    rintro k _ hk ⟨rfl, hall⟩
    unfold m_slices_IndexFunc_impl_Point_impl_Point_impl_noPoint_s1 m_impl_noPoint
    simp only []
    rw [bif_t (by simpa using hk), geti_lt hk]
    simp only [bind_some', IsPoint_eq]
    cases h : okP ps[k] with
    | true =>
      left
      refine ⟨_, bif_f (by simp [h]), ?_, fun j hj hjk => ?_⟩
      · rw [wr_in (by omega)]; omega
      · by_cases e : j = k
        · subst e; exact h
        · exact hall j hj (by omega)
    | false => right; exact ⟨_, bif_t (by simp [h]), Or.inr ⟨k, rfl, okPs_not hk h⟩⟩) (by
    rintro _ ⟨rfl, hall⟩
    unfold m_slices_IndexFunc_impl_Point_impl_Point_impl_noPoint_s1
    simp only []
    exact ⟨_, bif_f (by simp), Or.inl ⟨rfl, okPs_all (fun j hj => hall j hj hj)⟩⟩)
  rw [hr]
  rcases hJ with ⟨rfl, h⟩ | ⟨k, rfl, h⟩
  · exact ⟨-1, rfl, by simp [h]⟩
  · exact ⟨k, rfl, by simp [h]⟩
theorem ArePoints_eq (ps : List Pt) (hb : ps.length ≤ 140737488355328) : m_impl_ArePoints ps = some (okPs ps && decide (ps.length ≤ 24)) := by
  unfold m_impl_ArePoints m_slices_ContainsFunc_impl_Point_impl_Point_impl_noPoint
  obtain ⟨i, hi, hd⟩ := IndexNo_eq ps hb
  rw [hi]
  simp only [bind_some', hd]
  by_cases h : ps.length ≤ 24
  · rw [bif_t (by simp; omega)]; simp [h]
  · rw [bif_f (by simp; omega)]; simp [h]
/-- The index of the first of the nearest among the first k. -/
def nearI (f : Nat → Int) : Nat → Nat
  | 0 => 0
  | k + 1 => if f k < f (nearI f k) then k else nearI f k
theorem nearI_lt (f : Nat → Int) : ∀ k, nearI f k = 0 ∨ nearI f k < k
  | 0 => Or.inl rfl
  | k + 1 => by
    have := nearI_lt f k
    rw [nearI]; split
    · right; omega
    · rcases this with h | h
      · left; exact h
      · right; omega
def disto (ps : List Pt) (p : Pt) (i : Nat) : Int := dist (ps.getD i (0, 0)) p
theorem disto_at {ps : List Pt} {p : Pt} {i : Nat} (h : i < ps.length) : disto ps p i = dist ps[i] p := by unfold disto; simp [h]
def nearOk (ps : List Pt) (p : Pt) : Bool := okPs ps && decide (ps.length ≤ 24) && decide (ps.length ≠ 0) && okP p
def nearV (ps : List Pt) (p : Pt) : Int × Bool := if nearOk ps p then ((nearI (disto ps p) ps.length : Nat), true) else (0, false)
theorem specNear_eq (ps : List Pt) (p : Pt) (hb : ps.length ≤ 140737488355328) : m_spec_NearestPoint ps p.1 p.2 = some (nearV ps p) := by
  unfold m_spec_NearestPoint nearV nearOk
  rw [l01Points_eq ps hb]
  simp only [bind_some']
  cases h1 : (okPs ps && decide (ps.length ≤ 24)) with
  | false => rw [bif_t (by rfl)]; simp
  | true =>
    rw [bif_f (by rfl)]
    by_cases h2 : ps.length = 0
    · rw [bif_t (by simp [h2])]; simp [h2]
    · rw [bif_f (by simpa using h2), l01Point_eq]
      simp only [bind_some']
      cases h3 : okP (p.1, p.2) with
      | false => rw [bif_t (by rfl)]; simp [show okP p = false from h3]
      | true =>
        rw [bif_f (by rfl)]
        have hp : okP p = true := h3
        rw [Bool.and_eq_true] at h1
        have hl : loopM (m_spec_NearestPoint_s1 ps p.1 p.2) (0, 1) = some ((nearI (disto ps p) ps.length : Nat) : Int) := by
          have := loopM_val (m_spec_NearestPoint_s1 ps p.1 p.2) (ps.length - 1) (fun k s => s = (((nearI (disto ps p) (k + 1) : Nat) : Int), ((k + 1 : Nat) : Int))) (r := ((nearI (disto ps p) ps.length : Nat) : Int)) (s0 := (0, 1)) (by simp [nearI]) ?_ ?_
          · exact this
          · rintro k _ hk rfl
            have hk1 : k + 1 < ps.length := by omega
            have hj := nearI_lt (disto ps p) (k + 1)
            have hjl : nearI (disto ps p) (k + 1) < ps.length := by omega
            unfold m_spec_NearestPoint_s1
            simp only []
            rw [bif_t (by simp; omega), geti_lt hk1, geti_lt hjl]
            simp only [bind_some']
            rw [l01Far_eq (okPs_at h1.1 hk1) hp, l01Far_eq (okPs_at h1.1 hjl) hp]
            simp only [bind_some']
            left
            by_cases hc : dist ps[k + 1] p < dist ps[nearI (disto ps p) (k + 1)] p
            · have e1 : nearI (disto ps p) (k + 1 + 1) = k + 1 := by
                show (if disto ps p (k + 1) < disto ps p (nearI (disto ps p) (k + 1)) then k + 1 else nearI (disto ps p) (k + 1)) = k + 1
                rw [disto_at hk1, disto_at hjl, if_pos hc]
              exact ⟨_, by rw [bif_t (by simpa using hc)]; rfl, Prod.ext (by simp [e1]) (by show wr _ = _; rw [wr_in (by omega)]; omega)⟩
            · have e1 : nearI (disto ps p) (k + 1 + 1) = nearI (disto ps p) (k + 1) := by
                show (if disto ps p (k + 1) < disto ps p (nearI (disto ps p) (k + 1)) then k + 1 else nearI (disto ps p) (k + 1)) = _
                rw [disto_at hk1, disto_at hjl, if_neg hc]
              exact ⟨_, by rw [bif_f (by simpa using hc)]; rfl, Prod.ext (by simp only [e1]) (by show wr _ = _; rw [wr_in (by omega)]; omega)⟩
          · rintro _ rfl
            unfold m_spec_NearestPoint_s1
            simp only []
            rw [bif_f (by simp; omega), show ps.length - 1 + 1 = ps.length by omega]
        rw [hl]
        simp [h1.1, h1.2, h2, hp]
theorem implNear_eq (ps : List Pt) (p : Pt) (hb : ps.length ≤ 140737488355328) : m_impl_NearestPoint ps p.1 p.2 = some (nearV ps p) := by
  unfold m_impl_NearestPoint nearV nearOk
  rw [ArePoints_eq ps hb]
  simp only [bind_some']
  cases h1 : (okPs ps && decide (ps.length ≤ 24)) with
  | false => rw [bif_t (by rfl)]; simp
  | true =>
    rw [bif_f (by rfl)]
    by_cases h2 : ps.length = 0
    · rw [bif_t (by simp [h2])]; simp [h2]
    · rw [bif_f (by simpa using h2), IsPoint_eq]
      simp only [bind_some']
      cases h3 : okP (p.1, p.2) with
      | false => rw [bif_t (by rfl)]; simp [show okP p = false from h3]
      | true =>
        rw [bif_f (by rfl)]
        have hp : okP p = true := h3
        rw [Bool.and_eq_true] at h1
        have hl : loopM (m_impl_NearestPoint_s1 ps p.1 p.2) (0, 0) = some ((nearI (disto ps p) ps.length : Nat) : Int) := by
          refine loopM_val _ ps.length (fun k s => s = ((k : Int), ((nearI (disto ps p) k : Nat) : Int))) (by simp [nearI]) ?_ ?_
          · rintro k _ hk rfl
            have hj := nearI_lt (disto ps p) k
            have hjl : nearI (disto ps p) k < ps.length := by omega
            unfold m_impl_NearestPoint_s1
            simp only []
            rw [bif_t (by simpa using hk), geti_lt hk, geti_lt hjl]
            simp only [bind_some']
            rw [far_eq hp (okPs_at h1.1 hk), far_eq hp (okPs_at h1.1 hjl), dist_comm p, dist_comm p]
            simp only [bind_some']
            left
            by_cases hc : dist ps[k] p < dist ps[nearI (disto ps p) k] p
            · have e1 : nearI (disto ps p) (k + 1) = k := by
                show (if disto ps p k < disto ps p (nearI (disto ps p) k) then k else nearI (disto ps p) k) = k
                rw [disto_at hk, disto_at hjl, if_pos hc]
              exact ⟨_, by rw [bif_t (by simpa using hc)]; rfl, Prod.ext (by show wr _ = _; rw [wr_in (by omega)]; omega) (by simp only [e1])⟩
            · have e1 : nearI (disto ps p) (k + 1) = nearI (disto ps p) k := by
                show (if disto ps p k < disto ps p (nearI (disto ps p) k) then k else nearI (disto ps p) k) = _
                rw [disto_at hk, disto_at hjl, if_neg hc]
              exact ⟨_, by rw [bif_f (by simpa using hc)]; rfl, Prod.ext (by show wr _ = _; rw [wr_in (by omega)]; omega) (by simp only [e1])⟩
          · rintro _ rfl
            unfold m_impl_NearestPoint_s1
            simp only []
            rw [bif_f (by simp)]
        rw [hl]
        simp [h1.1, h1.2, h2, hp]
theorem toPointS_eq (ps : List Pt) (hb : ps.length ≤ 1048576) : m_laws_toPointS ps = some ps := by
  unfold m_laws_toPointS
  rw [mkC_ok (by unfold lim; omega)]
  simp only [bind_some']
  have hl : loopM (m_laws_toPointS_s1 ps) (0, List.replicate (Int.toNat (ps.length : Int)) ((0, 0) : Int × Int)) = some ps := by
    refine loopM_val _ ps.length (fun k s => s.1 = (k : Int) ∧ Laid ps s.2 k) ⟨rfl, Laid.zero _ _ (by simp)⟩ ?_ ?_
    · rintro k ⟨x, acc⟩ hk ⟨hx, hL⟩
      simp only at hx hL
      subst hx
      unfold m_laws_toPointS_s1 m_laws_toPoint
      simp only []
      rw [bif_t (by simpa using hk), geti_lt hk, geti_lt (l := acc) (by rw [hL.1]; exact hk)]
      left
      exact ⟨_, rfl, by rw [wr_in (by omega)]; simp, by simpa using hL.succ hk⟩
    · rintro ⟨x, acc⟩ ⟨hx, hL⟩
      simp only at hx hL
      subst hx
      unfold m_laws_toPointS_s1
      simp only []
      rw [bif_f (by simp), hL.all]
  rw [hl]; rfl
theorem eqPointS_eq (ps : List Pt) (hb : ps.length ≤ 140737488355328) : m_laws_eqPointS ps ps = some true := by
  unfold m_laws_eqPointS
  rw [bif_f (by simp)]
  have hl : loopM (m_laws_eqPointS_s1 ps ps) 0 = some (Sum.inl ()) := by
    refine loopM_val _ ps.length (fun k s => s = (k : Int)) rfl ?_ ?_
    · rintro k _ hk rfl
      unfold m_laws_eqPointS_s1 m_laws_eqPoint
      simp only []
      rw [bif_t (by simpa using hk), geti_lt hk]
      left
      exact ⟨wr ((k : Int) + 1), by simp [bind_some'], by rw [wr_in (by omega)]; omega⟩
    · rintro _ rfl
      unfold m_laws_eqPointS_s1
      simp only []
      rw [bif_f (by simp)]
  rw [hl]; rfl
theorem lawNear_eq (ps : List Pt) (p : Pt) (hb : ps.length ≤ 9223372036854775807) : m_laws_FnExactNearestPoint ps p.1 p.2 = some true := by
  unfold m_laws_FnExactNearestPoint m_laws_szPointS
  rw [wr_in (x := 1048576 - (ps.length : Int)) (by omega)]
  by_cases h : (1048576 : Int) - ps.length < 0
  · rw [bif_t (by simpa using h)]; rfl
  · rw [bif_f (by simpa using h)]
    simp only [bind_some']
    rw [bif_f (by simpa using h), toPointS_eq ps (by omega)]
    unfold m_laws_toPoint
    simp only [bind_some', specNear_eq ps p (by omega), implNear_eq ps p (by omega), eqPointS_eq ps (by omega)]
    simp
end Go.Proofs.Ytmodhpgnkbnbaaa
