/- Bent paths: their steps, and how many different ones there are. -/
import Derived.Test.YtdmokbjaeikfdaaPuThr
import Derived.Test.YtdmokbjaeikfdaaPuSpan
set_option linter.unusedSimpArgs false
set_option linter.unusedVariables false
set_option linter.unusedSectionVars false
namespace Go.Proofs.Ytdmokbjaeikfdaa
open Go.RowKit

/-! ### How many different things a list has -/
section
variable {κ : Type} [DecidableEq κ]
def dcF (l : List κ) : Nat → Nat
  | 0 => 0
  | k + 1 => dcF l k + match l[k]? with | some x => if x ∈ l.take k then 0 else 1 | none => 0
def dc (l : List κ) : Nat := dcF l l.length
theorem dcF_app (l m : List κ) : ∀ k, k ≤ l.length → dcF (l ++ m) k = dcF l k
  | 0, _ => rfl
  | k + 1, h => by
    show dcF (l ++ m) k + _ = dcF l k + _
    rw [dcF_app l m k (by omega), List.getElem?_append_left (by omega), List.take_append_of_le_length (by omega)]
theorem dc_snoc (l : List κ) (x : κ) : dc (l ++ [x]) = dc l + if x ∈ l then 0 else 1 := by
  unfold dc
  have e : (l ++ [x]).length = l.length + 1 := by simp
  rw [e]
  simp only [dcF]
  rw [dcF_app l [x] l.length (Nat.le_refl _), List.getElem?_append_right (Nat.le_refl _), List.take_append_of_le_length (Nat.le_refl _), List.take_length]
  simp
theorem dc_nil : dc ([] : List κ) = 0 := rfl
theorem dc_le (l : List κ) : dc l ≤ l.length := by
  have : ∀ k, dcF l k ≤ k := fun k => by
    induction k with
    | zero => exact Nat.le_refl _
    | succ k ih =>
      show dcF l k + _ ≤ _
      split
      · split <;> omega
      · omega
  exact this _
end
theorem dc_map {α β : Type} [DecidableEq α] [DecidableEq β] (f : α → β) (hf : ∀ a b, f a = f b → a = b) : ∀ n (l : List α), l.length = n → dc (l.map f) = dc l := by
  intro n
  induction n with
  | zero => intro l hl; rw [List.eq_nil_of_length_eq_zero hl]; rfl
  | succ n ih =>
    intro l hl
    have hne : l ≠ [] := fun e => by subst e; simp at hl
    rw [← List.dropLast_concat_getLast hne, List.map_append, List.map_singleton, dc_snoc, dc_snoc, ih _ (by simp; omega)]
    have : f (l.getLast hne) ∈ l.dropLast.map f ↔ l.getLast hne ∈ l.dropLast := by
      rw [List.mem_map]
      exact ⟨fun ⟨a, ha, e⟩ => by rw [← hf _ _ e]; exact ha, fun h => ⟨_, h, rfl⟩⟩
    by_cases c : l.getLast hne ∈ l.dropLast
    · rw [if_pos c, if_pos (this.2 c)]
    · rw [if_neg c, if_neg (fun h => c (this.1 h))]
/-- A map that holds what came. -/
structure Rel {κ : Type} [DecidableEq κ] (m : List (κ × Bool)) (l : List κ) : Prop where
  nd : (m.map (·.1)).Nodup
  mem : ∀ x, x ∈ m.map (·.1) ↔ x ∈ l
  len : m.length = dc l
theorem Rel.put {κ : Type} [DecidableEq κ] {m : List (κ × Bool)} {l : List κ} (h : Rel m l) (x : κ) : Rel (mup m x true) (l ++ [x]) := by
  have hiff : (mget m x).isSome = true ↔ x ∈ l := by
    rw [← h.mem]
    constructor
    · intro hs
      obtain ⟨v, hv⟩ := Option.isSome_iff_exists.1 hs
      exact List.mem_map.2 ⟨_, mget_mem hv, rfl⟩
    · intro hm
      obtain ⟨p, hp, rfl⟩ := List.mem_map.1 hm
      obtain ⟨j, hj, rfl⟩ := List.mem_iff_getElem.1 hp
      have := mget_at h.nd (j := j) (k := m[j].1) (x := m[j].2) (by rw [List.getElem?_eq_getElem hj])
      rw [this]; rfl
  by_cases c : x ∈ l
  · have e : mup m x true = mset m x true := by unfold mup; rw [if_pos (hiff.2 c)]
    rw [e]
    refine ⟨by rw [keys_mset]; exact h.nd, fun y => ?_, ?_⟩
    · rw [keys_mset, h.mem, List.mem_append, List.mem_singleton]
      exact ⟨Or.inl, fun hy => hy.elim id (fun e => e ▸ c)⟩
    · rw [dc_snoc, if_pos c, ← h.len]
      unfold mset; simp
  · have e : mup m x true = m ++ [(x, true)] := by
      unfold mup
      rw [if_neg (fun hs => c (hiff.1 hs))]
    rw [e]
    refine ⟨?_, fun y => ?_, ?_⟩
    · rw [List.map_append, List.nodup_append]
      refine ⟨h.nd, by simp, fun a ha b hb e2 => ?_⟩
      simp only [List.map_cons, List.map_nil, List.mem_singleton] at hb
      subst hb; subst e2
      exact c ((h.mem a).1 ha)
    · rw [List.map_append, List.mem_append, h.mem]; simp
    · rw [dc_snoc, if_neg c, List.length_append, h.len]; rfl
theorem Rel.nil {κ : Type} [DecidableEq κ] : Rel ([] : List (κ × Bool)) ([] : List κ) := ⟨by simp, by simp, rfl⟩
/-! ### The path and its steps -/
def pAdd (a b : Pt) : Pt := (a.1 + b.1, a.2 + b.2)
def cnr (p q : Pt) (ac : Bool) : Pt := if ac then (q.1, p.2) else (p.1, q.2)
def pth (p q : Pt) (ac : Bool) : List Pt := [p] ++ lnF (cnr p q ac) p (dN p (cnr p q ac)) ++ lnF q (cnr p q ac) (dN (cnr p q ac) q)
def seg (p q : Pt) : List Pt := (List.range (dN p q)).map fun j => pAdd (it q p j) (it q p (j + 1))
def smS (p q : Pt) (ac : Bool) : List Pt := seg p (cnr p q ac) ++ seg (cnr p q ac) q
theorem cnr_ok {p q : Pt} (hp : okP p = true) (hq : okP q = true) (ac : Bool) : okP (cnr p q ac) = true ∧ Al p (cnr p q ac) ∧ Al (cnr p q ac) q ∧ dist p (cnr p q ac) + dist (cnr p q ac) q = dist p q := by
  have h1 := okP_t hp
  have h2 := okP_t hq
  cases ac
  · exact ⟨by simp [cnr, okP]; omega, Or.inl rfl, Or.inr rfl, by simp only [cnr, dist, Bool.false_eq_true, if_false]; omega⟩
  · exact ⟨by simp [cnr, okP]; omega, Or.inr rfl, Or.inl rfl, by simp only [cnr, dist, if_true]; omega⟩
section
variable {p q : Pt} (hp : okP p = true) (hq : okP q = true) (ac : Bool)
include hp hq
theorem pth_len : (pth p q ac).length = 1 + dN p (cnr p q ac) + dN (cnr p q ac) q := by unfold pth; simp [lnF_len]; omega
theorem smS_len : (smS p q ac).length = dN p (cnr p q ac) + dN (cnr p q ac) q := by unfold smS seg; simp
theorem pth_le : (pth p q ac).length ≤ 199 := by
  obtain ⟨h1, _, _, h4⟩ := cnr_ok hp hq ac
  have a := dist_b hp h1
  have b := dist_b h1 hq
  have c := dist_b hp hq
  rw [pth_len hp hq]
  unfold dN; omega
theorem pth_at1 {j : Nat} (h : j ≤ dN p (cnr p q ac)) : (pth p q ac)[j]? = some (it (cnr p q ac) p j) := by
  unfold pth
  rw [List.append_assoc]
  cases j with
  | zero => rfl
  | succ j =>
    rw [List.getElem?_append_right (by simp), List.getElem?_append_left (by simp [lnF_len]; omega)]
    unfold lnF
    simp [show j < dN p (cnr p q ac) by omega]
theorem pth_at2 {i : Nat} (h : i ≤ dN (cnr p q ac) q) : (pth p q ac)[dN p (cnr p q ac) + i]? = some (it q (cnr p q ac) i) := by
  obtain ⟨h1, h2, _, _⟩ := cnr_ok hp hq ac
  cases i with
  | zero =>
    rw [Nat.add_zero, pth_at1 hp hq ac (Nat.le_refl _), it_end hp h1 h2]; rfl
  | succ i =>
    unfold pth
    rw [List.getElem?_append_right (by simp [lnF_len])]
    have : dN p (cnr p q ac) + (i + 1) - ([p] ++ lnF (cnr p q ac) p (dN p (cnr p q ac))).length = i := by simp [lnF_len]; omega
    rw [this]
    unfold lnF
    simp [show i < dN (cnr p q ac) q by omega]
theorem smS_at {k : Nat} (h : k < (smS p q ac).length) : (smS p q ac)[k]? = some (pAdd (gP (pth p q ac) k) (gP (pth p q ac) (k + 1))) ∧ k + 1 < (pth p q ac).length := by
  have hl := smS_len hp hq ac
  have hL := pth_len hp hq ac
  refine ⟨?_, by omega⟩
  have g : ∀ {j : Nat} {x : Pt}, (pth p q ac)[j]? = some x → gP (pth p q ac) j = x := fun hx => by unfold gP; simp [List.getD, hx]
  have hs1 : (seg p (cnr p q ac)).length = dN p (cnr p q ac) := by unfold seg; simp
  unfold smS
  by_cases c : k < dN p (cnr p q ac)
  · rw [List.getElem?_append_left (by rw [hs1]; exact c), g (pth_at1 hp hq ac (j := k) (by omega)), g (pth_at1 hp hq ac (j := k + 1) (by omega))]
    unfold seg; simp [c]
  · obtain ⟨i, rfl⟩ : ∃ i, k = dN p (cnr p q ac) + i := ⟨k - dN p (cnr p q ac), by omega⟩
    rw [List.getElem?_append_right (by rw [hs1]; omega), hs1, g (pth_at2 hp hq ac (i := i) (by omega)), show dN p (cnr p q ac) + i + 1 = dN p (cnr p q ac) + (i + 1) by omega, g (pth_at2 hp hq ac (i := i + 1) (by omega))]
    have hi : i < dN (cnr p q ac) q := by omega
    unfold seg; simp [hi]
/-- Neighbours on the path. -/
theorem pth_unit {k : Nat} (h : k < (smS p q ac).length) : okP (gP (pth p q ac) k) = true ∧ okP (gP (pth p q ac) (k + 1)) = true ∧ dist (gP (pth p q ac) k) (gP (pth p q ac) (k + 1)) = 1 := by
  obtain ⟨h1, h2, h3, _⟩ := cnr_ok hp hq ac
  have hl := smS_len hp hq ac
  have g : ∀ {j : Nat} {x : Pt}, (pth p q ac)[j]? = some x → gP (pth p q ac) j = x := fun hx => by unfold gP; simp [List.getD, hx]
  have key : ∀ {a b : Pt}, okP a = true → okP b = true → Al a b → ∀ j, j < dN a b → okP (it b a j) = true ∧ okP (it b a (j + 1)) = true ∧ dist (it b a j) (it b a (j + 1)) = 1 := fun {a b} ha hb hab j hj => by
    obtain ⟨k1, k2, k3⟩ := it_ok ha hb hab j (by omega)
    obtain ⟨m1, m2, m3⟩ := it_ok ha hb hab (j + 1) (by omega)
    refine ⟨k1, m1, ?_⟩
    have hne := it_ne ha hb hab hj
    have e : it b a (j + 1) = stp b (it b a j) := rfl
    rw [e]
    generalize it b a j = x at *
    unfold stp sgn dist
    rcases k2 with k2 | k2
    · have : x.2 ≠ b.2 := fun e2 => hne (Prod.ext k2 e2)
      simp only [k2, Int.sub_self]
      by_cases c : b.2 - x.2 < 0
      · rw [if_pos c]; simp; omega
      · rw [if_neg c, if_pos (show b.2 - x.2 > 0 by omega)]; simp; omega
    · have : x.1 ≠ b.1 := fun e2 => hne (Prod.ext e2 k2)
      simp only [k2, Int.sub_self]
      by_cases c : b.1 - x.1 < 0
      · rw [if_pos c]; simp; omega
      · rw [if_neg c, if_pos (show b.1 - x.1 > 0 by omega)]; simp; omega
  by_cases c : k < dN p (cnr p q ac)
  · rw [g (pth_at1 hp hq ac (j := k) (by omega)), g (pth_at1 hp hq ac (j := k + 1) (by omega))]
    exact key hp h1 h2 k c
  · obtain ⟨i, rfl⟩ : ∃ i, k = dN p (cnr p q ac) + i := ⟨k - dN p (cnr p q ac), by omega⟩
    rw [g (pth_at2 hp hq ac (i := i) (by omega)), show dN p (cnr p q ac) + i + 1 = dN p (cnr p q ac) + (i + 1) by omega, g (pth_at2 hp hq ac (i := i + 1) (by omega))]
    exact key h1 hq h3 i (by omega)
theorem concat_eq (A B C : List Pt) (ha : A.length ≤ 1000) (hb : B.length ≤ 1000) (hc : C.length ≤ 1000) : m_slices_Concat_impl_Point_impl_Point [A, B, C] = some (A ++ B ++ C) := by
  have g0 : geti [A, B, C] 0 = some A := by simp [geti]
  have g1 : geti [A, B, C] 1 = some B := by simp [geti]
  have g2 : geti [A, B, C] 2 = some C := by simp [geti]
  have l1 : loopM (m_slices_Concat_impl_Point_impl_Point_s1 [A, B, C]) (0, 0) = some ((A.length + B.length + C.length : Nat) : Int) := by
    refine (loopM_next (s' := ((A.length : Int), 1)) ?_).trans ((loopM_next (s' := (((A.length + B.length : Nat) : Int), 2)) ?_).trans ((loopM_next (s' := (((A.length + B.length + C.length : Nat) : Int), 3)) ?_).trans (loopM_out ?_)))
    · unfold m_slices_Concat_impl_Point_impl_Point_s1
      simp only []
      rw [bif_t (by simp), g0]
      simp only [bind_some']
      rw [wr_in (x := 0 + (A.length : Int)) (by omega), bif_f (by simp)]
      simp
      rfl
    · unfold m_slices_Concat_impl_Point_impl_Point_s1
      simp only []
      rw [bif_t (by simp), g1]
      simp only [bind_some']
      rw [wr_in (x := (A.length : Int) + (B.length : Int)) (by omega), bif_f (by simp; omega)]
      simp
      rfl
    · unfold m_slices_Concat_impl_Point_impl_Point_s1
      simp only []
      rw [bif_t (by simp), g2]
      simp only [bind_some']
      rw [wr_in (x := ((A.length + B.length : Nat) : Int) + (C.length : Int)) (by omega), bif_f (by simp; omega)]
      simp
      rfl
    · unfold m_slices_Concat_impl_Point_impl_Point_s1
      simp only []
      rw [bif_f (by simp)]
  have gr : m_slices_Grow_impl_Point_impl_Point_nil ((A.length + B.length + C.length : Nat) : Int) = some [] := by
    unfold m_slices_Grow_impl_Point_impl_Point_nil
    rw [bif_f (by simp; omega)]
    simp only [bind_some']
    have e : wr (((A.length + B.length + C.length : Nat) : Int) - wr (0 - 0)) = ((A.length + B.length + C.length : Nat) : Int) := by
      rw [wr_in (x := 0 - 0) (by omega), wr_in (by omega)]; omega
    rw [e]
    by_cases h : 0 < A.length + B.length + C.length
    · rw [bif_t (by simp; omega), mkC_ok (by unfold lim; omega)]
      simp only [bind_some']
      have : chk (decide (0 < ((A.length + B.length + C.length : Nat) : Int))) = some () := by unfold chk; rw [decide_eq_true (by omega)]; rfl
      rw [this]
      simp only [bind_some']
      have s : slci (List.replicate (Int.toNat ((A.length + B.length + C.length : Nat) : Int)) ((0, 0) : Int × Int)) 0 0 = some [] := by unfold slci; rw [if_pos (by simp only [List.length_replicate]; omega)]; simp
      rw [s]; simp
    · rw [bif_f (by simp; omega)]; rfl
  unfold m_slices_Concat_impl_Point_impl_Point
  rw [l1]
  simp only [bind_some', gr]
  have l2 : loopM (m_slices_Concat_impl_Point_impl_Point_s2 [A, B, C]) (([] : List Pt), 0) = some (A ++ B ++ C) := by
    refine (loopM_next (s' := (A, 1)) ?_).trans ((loopM_next (s' := (A ++ B, 2)) ?_).trans ((loopM_next (s' := (A ++ B ++ C, 3)) ?_).trans (loopM_out ?_)))
    · unfold m_slices_Concat_impl_Point_impl_Point_s2
      simp only []
      rw [bif_t (by simp), g0]
      simp only [bind_some']
      rw [apC_ok (by unfold lim; simp; omega)]
      rfl
    · unfold m_slices_Concat_impl_Point_impl_Point_s2
      simp only []
      rw [bif_t (by simp), g1]
      simp only [bind_some']
      rw [apC_ok (by unfold lim; omega)]
      rfl
    · unfold m_slices_Concat_impl_Point_impl_Point_s2
      simp only []
      rw [bif_t (by simp), g2]
      simp only [bind_some']
      rw [apC_ok (by unfold lim; simp; omega)]
      rfl
    · unfold m_slices_Concat_impl_Point_impl_Point_s2
      simp only []
      rw [bif_f (by simp)]
  rw [l2]; rfl
theorem bent_eq : m_impl_bent p.1 p.2 q.1 q.2 ac = some (pth p q ac) := by
  obtain ⟨h1, h2, h3, _⟩ := cnr_ok hp hq ac
  unfold m_impl_bent
  have e : (bif ac then some (q.1, p.2) else some (p.1, q.2)) = some ((cnr p q ac).1, (cnr p q ac).2) := by cases ac <;> rfl
  rw [e]
  simp only [bind_some']
  rw [line_eq hp h1 h2, line_eq h1 hq h3]
  simp only [bind_some']
  have a := dN_le hp h1
  have b := dN_le h1 hq
  rw [show [(p.1, p.2)] = [p] from rfl, concat_eq hp hq _ _ _ (by simp) (by rw [lnF_len]; omega) (by rw [lnF_len]; omega)]
  rfl
/-- The reference's steps. -/
theorem s4_eq {a b c : Pt} (hb : okP b = true) (hc : okP c = true) (ha : okP a = true) (h : Al b c) {x : Int} {g : List Pt} (hg : geti [(a.1, a.2), (q.1, q.2)] x = some c) {out : List Pt} (ho : out.length ≤ 1000) :
    loopM (m_spec_l05Steps_s4 q.1 q.2 a.1 a.2 x) (out, b.1, b.2) = some (out ++ seg b c, c.1, c.2) := by
  have hn := dN_le hb hc
  refine loopM_val _ (dN b c) (fun j s => s = (out ++ (List.range j).map (fun j => pAdd (it c b j) (it c b (j + 1))), (it c b j).1, (it c b j).2)) (by simp [it]) ?_ ?_
  · rintro j _ hj rfl
    left
    obtain ⟨k1, k2, k3⟩ := it_ok hb hc h j (by omega)
    have hne := it_ne hb hc h hj
    obtain ⟨m1, _, _⟩ := it_ok hb hc h (j + 1) (by omega)
    have e : it c b (j + 1) = stp c (it c b j) := rfl
    obtain ⟨w1, w2, w3, w4⟩ := stp_wr k1 hc
    have hm := okP_t m1
    have hk := okP_t k1
    unfold m_spec_l05Steps_s4
    simp only [hg, bind_some']
    rw [bif_t (by
      rw [Bool.not_eq_true']
      cases hh : ((it c b j).1 == c.1 && (it c b j).2 == c.2) with
      | false => rfl
      | true =>
        rw [Bool.and_eq_true, beq_iff_eq, beq_iff_eq] at hh
        exact absurd (Prod.ext hh.1 hh.2) hne), w1, w2, sign_eq, sign_eq]
    simp only [bind_some', w3, w4]
    rw [apC_ok (by unfold lim; simp; omega)]
    simp only [bind_some']
    refine ⟨_, rfl, ?_⟩
    rw [← e, wr_in (by omega), wr_in (by omega), List.range_succ, List.map_append]
    simp [pAdd]
  · rintro _ rfl
    unfold m_spec_l05Steps_s4
    simp only [hg, bind_some']
    have e := it_end hb hc h
    rw [bif_f (by rw [e]; simp), e]
    rfl
theorem specSteps_eq : m_spec_l05Steps p.1 p.2 q.1 q.2 ac = some (smS p q ac) := by
  obtain ⟨h1, h2, h3, _⟩ := cnr_ok hp hq ac
  unfold m_spec_l05Steps
  have e : (bif ac then some (q.1, p.2) else some (p.1, q.2)) = some ((cnr p q ac).1, (cnr p q ac).2) := by cases ac <;> rfl
  rw [e]
  simp only [bind_some']
  have a := dN_le hp h1
  have b := dN_le h1 hq
  have hs1 : (seg p (cnr p q ac)).length ≤ 198 := by unfold seg; simp; omega
  have l : loopM (m_spec_l05Steps_s3 q.1 q.2 (cnr p q ac).1 (cnr p q ac).2) (([] : List Pt), 0, p.1, p.2) = some (smS p q ac) := by
    refine (loopM_next (s' := ([] ++ seg p (cnr p q ac), 1, (cnr p q ac).1, (cnr p q ac).2)) ?_).trans ((loopM_next (s' := (([] ++ seg p (cnr p q ac)) ++ seg (cnr p q ac) q, 2, q.1, q.2)) ?_).trans (loopM_out ?_))
    · unfold m_spec_l05Steps_s3
      simp only []
      rw [bif_t (by simp), s4_eq hp hq hp h1 h1 h2 (g := []) (by simp [geti]) (by simp)]
      rfl
    · unfold m_spec_l05Steps_s3
      simp only []
      rw [bif_t (by simp), s4_eq hp hq h1 hq h1 h3 (g := []) (by simp [geti]) (by simp; omega)]
      rfl
    · unfold m_spec_l05Steps_s3
      simp only []
      rw [bif_f (by simp)]
      rfl
  rw [l]; rfl
end
end Go.Proofs.Ytdmokbjaeikfdaa
