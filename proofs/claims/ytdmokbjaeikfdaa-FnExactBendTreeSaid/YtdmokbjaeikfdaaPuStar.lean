/- Pins, stars, boxes, the grid of the pins: what the reference and the program reckon is the same. -/
import Derived.Test.YtdmokbjaeikfdaaPuPath
set_option linter.unusedSimpArgs false
set_option linter.unusedVariables false
namespace Go.Proofs.Ytdmokbjaeikfdaa
open Go.RowKit

/-! ### Pins -/
def pinsB (n : Int) (ps : List Pt) : Bool := decide (1 ≤ ps.length) && decide ((ps.length : Int) ≤ n) && (okPs ps && decide ps.Nodup)
theorem pinsB_t {n : Int} {ps : List Pt} (h : pinsB n ps = true) : 1 ≤ ps.length ∧ (ps.length : Int) ≤ n ∧ okPs ps = true ∧ ps.Nodup := by
  unfold pinsB at h; simp only [Bool.and_eq_true, decide_eq_true_eq] at h; exact ⟨h.1.1, h.1.2, h.2.1, h.2.2⟩
theorem specPins_eq (ps : List Pt) (hb : ps.length ≤ 140737488) : m_spec_l05Is ps = some (pinsB 20 ps) := by
  unfold m_spec_l05Is pinsB
  by_cases h1 : ps.length < 1
  · rw [bif_t (by simp; omega)]; simp [show ¬ 1 ≤ ps.length by omega]
  · rw [bif_f (by simp; omega)]
    by_cases h2 : ps.length > 20
    · rw [bif_t (by simp; omega)]; simp [show ¬ (ps.length : Int) ≤ 20 by omega]
    · rw [bif_f (by simp; omega)]
      have hl := loop_any (step := m_spec_l05Is_s1 ps) 0 ps.length (seenB ps) false (by omega) (by
        intro k _ hk hall
        unfold m_spec_l05Is_s1 seenB
        simp only []
        rw [bif_t (by simpa using hk), geti_lt hk, gP_at hk]
        simp only [bind_some', l01Point_eq]
        cases h3 : okP ps[k] with
        | false => rw [bif_t (by simp [h3])]; simp
        | true =>
          rw [bif_f (by simp [h3]), slci_take (by omega)]
          obtain ⟨i, hi, hd⟩ := Index_eq (ps.take k) ps[k] (by simp; omega)
          rw [bind_some', hi]
          simp only [bind_some', hd]
          by_cases hm : ps[k] ∈ ps.take k
          · rw [bif_t (by simpa using hm)]; simp [hm]
          · rw [bif_f (by simpa using hm), wr_in (by omega)]
            simp [hm]) (by
        unfold m_spec_l05Is_s1
        simp only []
        rw [bif_f (by simp)])
      rw [show ((0 : Nat) : Int) = 0 from rfl] at hl
      rw [hl, seen_any ps]
      cases h5 : (okPs ps && decide ps.Nodup) <;> simp [show 1 ≤ ps.length by omega, show (ps.length : Int) ≤ 20 by omega]
theorem implPins_eq (ps : List Pt) (n : Int) (hb : ps.length ≤ 140737488) : m_impl_pinsOk ps n = some (pinsB n ps) := by
  unfold m_impl_pinsOk pinsB
  by_cases h1 : 1 ≤ ps.length
  · rw [bif_t (by simp; omega)]
    by_cases h2 : (ps.length : Int) ≤ n
    · rw [bif_t (by simpa using h2), ContNo_eq ps (by omega)]
      simp only [bind_some']
      cases h3 : okPs ps with
      | false => simp
      | true =>
        simp only [Bool.not_true, Bool.not_false, cond_true]
        rw [sorted_eq ps hb]
        simp only [bind_some']
        have hs := setPts_len ps
        have : (((setPts ps).length : Int) == (ps.length : Int)) = decide ps.Nodup := by
          by_cases hn : ps.Nodup
          · rw [hs.2 hn]; simp [hn]
          · have : (setPts ps).length ≠ ps.length := fun e => hn (hs.1 e)
            simp only [hn, decide_false, beq_eq_false_iff_ne, ne_eq]; omega
        rw [this]
        simp [h1, h2]
    · rw [bif_f (by simpa using h2)]; simp [h2]
  · rw [bif_f (by simp; omega)]; simp [h1]
theorem arePins_eq (ps : List Pt) (hb : ps.length ≤ 140737488) : m_impl_ArePins ps = some (pinsB 20 ps) := by
  unfold m_impl_ArePins
  rw [implPins_eq ps 20 hb]; rfl
/-! ### A star -/
def starF (ps : List Pt) (r : Pt) : Nat → Int
  | 0 => 0
  | k + 1 => starF ps r k + dist (gP ps k) r
theorem dist_b {p q : Pt} (hp : okP p = true) (hq : okP q = true) : 0 ≤ dist p q ∧ dist p q ≤ 198 := by
  have h1 := okP_t hp
  have h2 := okP_t hq
  unfold dist; omega
theorem starF_b {ps : List Pt} {r : Pt} (h : okPs ps = true) (hr : okP r = true) : ∀ k, k ≤ ps.length → 0 ≤ starF ps r k ∧ starF ps r k ≤ 198 * k
  | 0, _ => by simp [starF]
  | k + 1, hk => by
    have ih := starF_b h hr k (by omega)
    have := dist_b (okPs_at h (k := k) (by omega)) hr
    rw [starF, gP_at (by omega)]; omega
def starV (ps : List Pt) (r : Pt) : Int := starF ps r ps.length
theorem implStar_eq {ps : List Pt} {r : Pt} (h : okPs ps = true) (hr : okP r = true) (hb : ps.length ≤ 1000) : m_impl_star ps r.1 r.2 = some (starV ps r) := by
  unfold m_impl_star starV
  have hl := loop_run (step := m_impl_star_s1 ps r.1 r.2) ps.length (fun k => (starF ps r k, (k : Int))) (r := starF ps r ps.length) (by
    intro k hk
    have h1 := starF_b h hr k (by omega)
    have h2 := dist_b (okPs_at h hk) hr
    unfold m_impl_star_s1
    simp only []
    rw [bif_t (by simpa using hk), geti_lt hk]
    simp only [bind_some']
    rw [far_eq (okPs_at h hk) hr]
    simp only [bind_some', starF]
    rw [gP_at hk, wr_in (by omega), wr_in (by omega)]; rfl) (by
    unfold m_impl_star_s1
    simp only []
    rw [bif_f (by simp)])
  rw [show (starF ps r 0, ((0 : Nat) : Int)) = ((0, 0) : Int × Int) from rfl] at hl
  rw [hl]; rfl
def starLenV (ps : List Pt) (r : Pt) : Int × Bool := if pinsB 20 ps && okP r then (starV ps r, true) else (0, false)
/-! ### The box -/
def boxF (ps : List Pt) : Nat → Int × Int × Int × Int
  | 0 => ((gP ps 0).1, (gP ps 0).2, (gP ps 0).1, (gP ps 0).2)
  | k + 1 => (if (gP ps k).1 < (boxF ps k).1 then (gP ps k).1 else (boxF ps k).1, if (gP ps k).2 < (boxF ps k).2.1 then (gP ps k).2 else (boxF ps k).2.1,
      if (gP ps k).1 > (boxF ps k).2.2.1 then (gP ps k).1 else (boxF ps k).2.2.1, if (gP ps k).2 > (boxF ps k).2.2.2 then (gP ps k).2 else (boxF ps k).2.2.2)
theorem boxF_ok {ps : List Pt} (h : okPs ps = true) (h1 : 1 ≤ ps.length) : ∀ k, k ≤ ps.length → okP ((boxF ps k).1, (boxF ps k).2.1) = true ∧ okP ((boxF ps k).2.2.1, (boxF ps k).2.2.2) = true
  | 0, _ => by
    have := okPs_at h (k := 0) (by omega)
    rw [boxF, gP_at (by omega)]; exact ⟨this, this⟩
  | k + 1, hk => by
    have ih := boxF_ok h h1 k (by omega)
    have h2 := okP_t (okPs_at h (k := k) (by omega))
    have h3 := okP_t ih.1
    have h4 := okP_t ih.2
    rw [boxF, gP_at (by omega)]
    simp only at h3 h4 ⊢
    constructor
    · unfold okP; simp only [Bool.and_eq_true, decide_eq_true_eq]; split <;> split <;> omega
    · unfold okP; simp only [Bool.and_eq_true, decide_eq_true_eq]; split <;> split <;> omega
theorem min_eq (a b : Int) : m_spec_l00Min a b = some (if b < a then b else a) := by
  unfold m_spec_l00Min
  by_cases h : a < b
  · rw [bif_t (by simpa using h), if_neg (by omega)]
  · rw [bif_f (by simpa using h)]
    split
    · rfl
    · congr 1; omega
theorem max_eq (a b : Int) : m_spec_l00Max a b = some (if b > a then b else a) := by
  unfold m_spec_l00Max
  by_cases h : a > b
  · rw [bif_t (by simpa using h), if_neg (by omega)]
  · rw [bif_f (by simpa using h)]
    split
    · rfl
    · congr 1; omega
def boxV (ps : List Pt) : Int × Bool := if pinsB 20 ps then (dist ((boxF ps ps.length).1, (boxF ps ps.length).2.1) ((boxF ps ps.length).2.2.1, (boxF ps ps.length).2.2.2), true) else (0, false)
/-! ### The reference's sort: each point is put in its place -/
instance (p q : Pt) : Decidable (ltP p q) := by unfold ltP; infer_instance
theorem before_eq (p q : Pt) : m_spec_l01Before p.1 p.2 q.1 q.2 = some (decide (ltP p q)) := by
  unfold m_spec_l01Before ltP
  by_cases h1 : p.1 < q.1
  · rw [bif_t (by simpa using h1)]; simp [h1]
  · rw [bif_f (by simpa using h1)]
    by_cases h2 : p.1 = q.1
    · rw [bif_t (by simpa using h2)]; simp [h1, h2]
    · rw [bif_f (by simpa using h2)]; simp [h1, h2]
theorem place_eq (l out : List Pt) (i : Nat) (hi : i < l.length) (hb : out.length ≤ 140737488355328) :
    ∃ a : Nat, loopM (m_spec_l01Sorted_s4 l out (i : Int)) 0 = some (a : Int) ∧ a ≤ out.length ∧ (∀ j (h : j < out.length), j < a → ltP out[j] l[i]) ∧ (∀ h : a < out.length, ¬ ltP out[a] l[i]) := by
  obtain ⟨r, hr, a, rfl, h1, h2, h3⟩ := loopM_count (m_spec_l01Sorted_s4 l out (i : Int)) out.length (fun k s => s = (k : Int) ∧ ∀ j (h : j < out.length), j < k → ltP out[j] l[i])
    (fun r => ∃ a : Nat, r = (a : Int) ∧ a ≤ out.length ∧ (∀ j (h : j < out.length), j < a → ltP out[j] l[i]) ∧ (∀ h : a < out.length, ¬ ltP out[a] l[i])) (s0 := 0) ⟨rfl, fun j _ h => by omega⟩ (by
      rintro k _ hk ⟨rfl, hall⟩
      unfold m_spec_l01Sorted_s4
      simp only []
      rw [bif_t (by simpa using hk), geti_lt hk, geti_lt hi]
      simp only [bind_some', before_eq]
      by_cases h : ltP out[k] l[i]
      · left
        refine ⟨_, bif_t (by simpa using h), by rw [wr_in (by omega)]; omega, fun j hj hjk => ?_⟩
        by_cases e : j = k
        · subst e; exact h
        · exact hall j hj (by omega)
      · right
        exact ⟨_, bif_f (by simpa using h), k, rfl, by omega, hall, fun _ => h⟩) (by
      rintro _ ⟨rfl, hall⟩
      unfold m_spec_l01Sorted_s4
      simp only []
      exact ⟨_, bif_f (by simp), out.length, rfl, Nat.le_refl _, fun j h1 h2 => hall j h1 h2, fun h => absurd h (Nat.lt_irrefl _)⟩)
  exact ⟨a, hr, h1, h2, h3⟩
theorem ltP_total {x y : Pt} (h : ¬ ltP x y) (hne : x ≠ y) : ltP y x := by
  unfold ltP at *
  have : x.1 ≠ y.1 ∨ x.2 ≠ y.2 := by
    by_cases e : x.1 = y.1
    · exact Or.inr (fun e2 => hne (Prod.ext e e2))
    · exact Or.inl e
  omega
theorem put_strict {out : List Pt} {x : Pt} {a : Nat} (ho : out.Pairwise ltP) (hx : x ∉ out) (ha : a ≤ out.length) (h2 : ∀ j (h : j < out.length), j < a → ltP out[j] x) (h3 : ∀ h : a < out.length, ¬ ltP out[a] x) :
    (out.take a ++ [x] ++ out.drop a).Pairwise ltP := by
  have hlow : ∀ y ∈ out.take a, ltP y x := fun y hy => by
    obtain ⟨j, hj, rfl⟩ := List.mem_take_iff_getElem.1 hy
    exact h2 j (by omega) (by omega)
  have hhigh : ∀ y ∈ out.drop a, ltP x y := fun y hy => by
    obtain ⟨j, hj, rfl⟩ := List.mem_drop_iff_getElem.1 hy
    have haj : a < out.length := by omega
    have h4 : ltP x out[a] := ltP_total (h3 haj) (fun e => hx (e ▸ List.getElem_mem haj))
    by_cases e : j = 0
    · subst e; simpa using h4
    · exact ltP_trans h4 (List.pairwise_iff_getElem.1 ho a (a + j) haj (by omega) (by omega))
  rw [List.pairwise_append, List.pairwise_append]
  refine ⟨⟨ho.take, by simp, fun y hy z hz => ?_⟩, ho.drop, fun y hy z hz => ?_⟩
  · simp only [List.mem_singleton] at hz; subst hz; exact hlow y hy
  · rcases List.mem_append.1 hy with hy | hy
    · exact ltP_trans (hlow y hy) (hhigh z hz)
    · simp only [List.mem_singleton] at hy; subst hy; exact hhigh z hz
theorem mem_put {out : List Pt} {x z : Pt} {a : Nat} : z ∈ out.take a ++ [x] ++ out.drop a ↔ z ∈ out ∨ z = x := by
  constructor
  · intro h
    simp only [List.mem_append, List.mem_singleton] at h
    rcases h with (h | h) | h
    · exact Or.inl (List.mem_of_mem_take h)
    · exact Or.inr h
    · exact Or.inl (List.mem_of_mem_drop h)
  · rintro (h | rfl)
    · rw [← List.take_append_drop a out] at h
      simp only [List.mem_append, List.mem_singleton]
      rcases List.mem_append.1 h with h | h
      · exact Or.inl (Or.inl h)
      · exact Or.inr h
    · simp
theorem specSorted_eq (l : List Pt) (hb : l.length ≤ 140737488) : m_spec_l01Sorted l = some (setPts l) := by
  unfold m_spec_l01Sorted
  obtain ⟨r, hr, rfl⟩ := loopM_count (m_spec_l01Sorted_s3 l) l.length (fun k s => ∃ out : List Pt, s = (out, (k : Int)) ∧ out.Pairwise ltP ∧ (∀ x, x ∈ out ↔ x ∈ l.take k) ∧ out.length ≤ k) (fun r => r = setPts l) (s0 := (([] : List Pt), 0))
    ⟨[], rfl, by simp, by simp, by simp⟩ (by
      rintro k _ hk ⟨out, rfl, ho, hm, hlen⟩
      left
      unfold m_spec_l01Sorted_s3
      simp only []
      rw [bif_t (by simpa using hk), geti_lt hk]
      simp only [bind_some']
      obtain ⟨i, hi, hd⟩ := Index_eq out l[k] (by omega)
      rw [hi]
      simp only [bind_some', hd]
      have htk : ∀ x, x ∈ l.take (k + 1) ↔ x ∈ l.take k ∨ x = l[k] := fun x => by
        rw [← List.take_concat_get hk, List.concat_eq_append, List.mem_append, List.mem_singleton]
      by_cases hin : l[k] ∈ out
      · rw [bif_t (by simpa using hin)]
        refine ⟨_, rfl, out, by rw [wr_in (by omega)]; rfl, ho, fun x => ?_, by omega⟩
        rw [htk, hm]
        constructor
        · exact Or.inl
        · rintro (h | rfl)
          · exact h
          · exact (hm _).1 hin
      · rw [bif_f (by simpa using hin)]
        obtain ⟨a, ha, h1, h2, h3⟩ := place_eq l out k hk (by omega)
        rw [ha]
        simp only [bind_some']
        have s1 : slci out (a : Int) (out.length : Int) = some (slc out (a : Int) (out.length : Int)) := by unfold slci slc; rw [if_pos (by omega)]
        have e1 : slc out (a : Int) (out.length : Int) = out.drop a := by unfold slc; simp
        rw [s1, slci_take h1, e1]
        simp only [bind_some', Int.toNat_natCast]
        rw [apC_ok (by unfold lim; simp; omega), apC_ok (by unfold lim; simp; omega), apC_ok (by unfold lim; simp; omega)]
        simp only [bind_some', List.nil_append]
        refine ⟨_, rfl, out.take a ++ [l[k]] ++ out.drop a, by rw [wr_in (by omega)]; rfl, put_strict ho hin h1 h2 h3, fun x => ?_, by simp; omega⟩
        rw [mem_put, htk, hm]) (by
      rintro _ ⟨out, rfl, ho, hm, hlen⟩
      unfold m_spec_l01Sorted_s3
      simp only []
      refine ⟨_, bif_f (by simp), strict_uniq ho (setPts_strict l) (fun x => ?_)⟩
      rw [hm, mem_setPts, List.take_length])
  rw [hr]; rfl
/-! ### The grid of the pins -/
def hanRow (ps : List Pt) (i j : Nat) : List Pt := (List.range j).map fun b => ((gP ps i).1, (gP ps b).2)
def hanF (ps : List Pt) (i : Nat) : List Pt := (List.range i).flatMap fun a => hanRow ps a ps.length
def hanV (ps : List Pt) : List Pt := setPts (hanF ps ps.length)
theorem hanRow_len (ps : List Pt) (i j : Nat) : (hanRow ps i j).length = j := by simp [hanRow]
theorem hanF_succ (ps : List Pt) (i : Nat) : hanF ps (i + 1) = hanF ps i ++ hanRow ps i ps.length := by unfold hanF; rw [List.range_succ, List.flatMap_append]; simp
theorem hanRow_succ (ps : List Pt) (i j : Nat) : hanRow ps i (j + 1) = hanRow ps i j ++ [((gP ps i).1, (gP ps j).2)] := by unfold hanRow; rw [List.range_succ, List.map_append]; rfl
theorem hanF_len (ps : List Pt) : ∀ i, (hanF ps i).length = i * ps.length
  | 0 => by simp [hanF]
  | i + 1 => by rw [hanF_succ, List.length_append, hanF_len ps i, hanRow_len, Nat.add_mul]; omega
theorem hanF_le (ps : List Pt) (hb : ps.length ≤ 1000) (i : Nat) (hi : i ≤ ps.length) : (hanF ps i).length ≤ 1000000 := by
  rw [hanF_len]
  calc i * ps.length ≤ 1000 * 1000 := Nat.mul_le_mul (by omega) hb
    _ = 1000000 := rfl
theorem specHanan_eq (ps : List Pt) (hb : ps.length ≤ 1000) : m_spec_l05Hanan ps = some (hanV ps) := by
  unfold m_spec_l05Hanan hanV
  have hl := loop_run (step := m_spec_l05Hanan_s3 ps) ps.length (fun k => (hanF ps k, (k : Int))) (r := hanF ps ps.length) (by
    intro k hk
    unfold m_spec_l05Hanan_s3
    simp only []
    rw [bif_t (by simpa using hk)]
    have hf := hanF_le ps hb k (by omega)
    have hi := loop_run (step := m_spec_l05Hanan_s4 ps (k : Int)) ps.length (fun j => (hanF ps k ++ hanRow ps k j, (j : Int))) (r := hanF ps k ++ hanRow ps k ps.length) (by
      intro j hj
      unfold m_spec_l05Hanan_s4
      simp only []
      rw [bif_t (by simpa using hj), geti_lt hk, geti_lt hj, wr_in (by omega)]
      simp only [bind_some']
      rw [apC_ok (by rw [List.length_append, hanRow_len]; unfold lim; simp; omega), hanRow_succ, gP_at hk, gP_at hj]
      simp) (by
      unfold m_spec_l05Hanan_s4
      simp only []
      rw [bif_f (by simp)])
    rw [show (hanF ps k ++ hanRow ps k 0, ((0 : Nat) : Int)) = (hanF ps k, 0) by simp [hanRow]] at hi
    rw [hi, hanF_succ, wr_in (by omega)]
    rfl) (by
    unfold m_spec_l05Hanan_s3
    simp only []
    rw [bif_f (by simp)])
  rw [show (hanF ps 0, ((0 : Nat) : Int)) = (([] : List Pt), 0) from rfl] at hl
  rw [hl, bind_some']
  simp only []
  rw [specSorted_eq _ (by have := hanF_le ps hb ps.length (Nat.le_refl _); omega)]
  rfl
theorem implHanan_eq (ps : List Pt) (hb : ps.length ≤ 1000) : m_impl_hanan ps = some (hanV ps) := by
  unfold m_impl_hanan hanV
  have hl := loop_run (step := m_impl_hanan_s3 ps) ps.length (fun k => (hanF ps k, (k : Int))) (r := hanF ps ps.length) (by
    intro k hk
    unfold m_impl_hanan_s3
    simp only []
    rw [bif_t (by simpa using hk), geti_lt hk]
    simp only [bind_some']
    have hf := hanF_le ps hb k (by omega)
    have hi := loop_run (step := m_impl_hanan_s4 ps ps[k]) ps.length (fun j => (hanF ps k ++ hanRow ps k j, (j : Int))) (r := hanF ps k ++ hanRow ps k ps.length) (by
      intro j hj
      unfold m_impl_hanan_s4
      simp only []
      rw [bif_t (by simpa using hj), geti_lt hj, wr_in (by omega)]
      simp only [bind_some']
      rw [apC_ok (by rw [List.length_append, hanRow_len]; unfold lim; simp; omega), hanRow_succ, gP_at hk, gP_at hj]
      simp) (by
      unfold m_impl_hanan_s4
      simp only []
      rw [bif_f (by simp)])
    rw [show (hanF ps k ++ hanRow ps k 0, ((0 : Nat) : Int)) = (hanF ps k, 0) by simp [hanRow]] at hi
    rw [hi, hanF_succ, wr_in (by omega)]
    rfl) (by
    unfold m_impl_hanan_s3
    simp only []
    rw [bif_f (by simp)])
  rw [show (hanF ps 0, ((0 : Nat) : Int)) = (([] : List Pt), 0) from rfl] at hl
  rw [hl, bind_some']
  simp only []
  rw [sorted_eq _ (by have := hanF_le ps hb ps.length (Nat.le_refl _); omega)]
  rfl
def hanPV (ps : List Pt) : List Pt × Bool := if pinsB 7 ps then (hanV ps, true) else ([], false)
theorem pinsB_7 (ps : List Pt) : (pinsB 20 ps && decide ((ps.length : Int) ≤ 7)) = pinsB 7 ps := by
  unfold pinsB
  by_cases h : (ps.length : Int) ≤ 7
  · simp [h, show (ps.length : Int) ≤ 20 by omega]
  · simp [h]
theorem specFew_eq (ps : List Pt) (hb : ps.length ≤ 140737488) : m_spec_l05Few ps = some (pinsB 7 ps) := by
  unfold m_spec_l05Few
  rw [specPins_eq ps hb, bind_some', ← pinsB_7]
  cases pinsB 20 ps <;> simp
theorem hanV_len (ps : List Pt) (hb : ps.length ≤ 1000) : (hanV ps).length ≤ 1000000 := by
  unfold hanV setPts
  have h1 := cmpct_len (sortPts (hanF ps ps.length))
  have h2 := (sortPts_perm (hanF ps ps.length)).length_eq
  have h3 := hanF_le ps hb ps.length (Nat.le_refl _)
  omega
/-! ### The best root -/
theorem hanV_ok {ps : List Pt} (h : okPs ps = true) : okPs (hanV ps) = true := by
  unfold okPs
  rw [List.all_eq_true]
  intro x hx
  unfold hanV at hx
  rw [mem_setPts] at hx
  unfold hanF hanRow at hx
  obtain ⟨a, ha, hx⟩ := List.mem_flatMap.1 hx
  obtain ⟨b, hb, rfl⟩ := List.mem_map.1 hx
  rw [List.mem_range] at ha hb
  have h1 := okP_t (okPs_at h ha)
  have h2 := okP_t (okPs_at h hb)
  rw [gP_at ha, gP_at hb]
  unfold okP
  simp only [Bool.and_eq_true, decide_eq_true_eq]
  omega
theorem hanV_pos {ps : List Pt} (h : 1 ≤ ps.length) : 0 < (hanV ps).length := by
  have : ((gP ps 0).1, (gP ps 0).2) ∈ hanV ps := by
    unfold hanV
    rw [mem_setPts]
    unfold hanF hanRow
    exact List.mem_flatMap.2 ⟨0, List.mem_range.2 (by omega), List.mem_map.2 ⟨0, List.mem_range.2 (by omega), rfl⟩⟩
  exact List.length_pos_of_mem this
def rootF (ps all : List Pt) : Nat → Pt
  | 0 => gP all 0
  | k + 1 => if starV ps (gP all k) < starV ps (rootF ps all k) then gP all k else rootF ps all k
theorem rootF_ok {ps all : List Pt} (h : okPs all = true) (h0 : 0 < all.length) : ∀ k, k ≤ all.length → okP (rootF ps all k) = true
  | 0, _ => by rw [rootF, gP_at h0]; exact okPs_at h h0
  | k + 1, hk => by
    rw [rootF]
    split
    · rw [gP_at (by omega)]; exact okPs_at h (by omega)
    · exact rootF_ok h h0 k (by omega)
def rootV (ps : List Pt) : Pt × Int × Bool := if pinsB 20 ps then (rootF ps (hanV ps) (hanV ps).length, starV ps (rootF ps (hanV ps) (hanV ps).length), true) else ((0, 0), 0, false)
theorem implRoot_eq (ps : List Pt) (hb : ps.length ≤ 1048576) : m_impl_BestRoot ps = some (rootV ps) := by
  unfold m_impl_BestRoot rootV
  rw [arePins_eq ps (by omega), bind_some']
  cases hp : pinsB 20 ps with
  | false => rfl
  | true =>
    obtain ⟨g1, g2, g3, g4⟩ := pinsB_t hp
    rw [bif_f (by rfl), implHanan_eq ps (by omega)]
    have hk := hanV_ok g3
    have h0 := hanV_pos g1
    have hle := hanV_len ps (by omega)
    generalize hanV ps = all at *
    simp only [bind_some']
    rw [show (0 : Int) = ((0 : Nat) : Int) from rfl, geti_lt h0]
    simp only [bind_some']
    have hl := loop_run (step := m_impl_BestRoot_s1 ps all) all.length (fun k => ((k : Int), (rootF ps all k).1, (rootF ps all k).2)) (r := ((rootF ps all all.length).1, (rootF ps all all.length).2)) (by
      intro k hk1
      unfold m_impl_BestRoot_s1
      simp only []
      rw [bif_t (by simpa using hk1), geti_lt hk1, wr_in (by omega)]
      simp only [bind_some']
      rw [implStar_eq g3 (okPs_at hk hk1) (by omega), implStar_eq g3 (rootF_ok hk h0 k (by omega)) (by omega)]
      simp only [bind_some']
      rw [show rootF ps all (k + 1) = if starV ps (gP all k) < starV ps (rootF ps all k) then gP all k else rootF ps all k from rfl, gP_at hk1]
      by_cases hc : starV ps all[k] < starV ps (rootF ps all k)
      · rw [bif_t (by simpa using hc), if_pos hc]; rfl
      · rw [bif_f (by simpa using hc), if_neg hc]; rfl) (by
      unfold m_impl_BestRoot_s1
      simp only []
      rw [bif_f (by simp)])
    have e : rootF ps all 0 = all[0] := by simp [rootF, gP_at h0]
    rw [e] at hl
    rw [hl]
    simp only [bind_some']
    rw [implStar_eq g3 (rootF_ok hk h0 all.length (Nat.le_refl _)) (by omega)]
    rfl
end Go.Proofs.Ytdmokbjaeikfdaa
