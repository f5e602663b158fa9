/- The places of a clock tree: the reference and the program come to the same. -/
import Derived.Test.YtajnjbmniobjhaaPkAll
import Derived.Test.YtajnjbmniobjhaaPkMk
set_option linter.unusedSimpArgs false
set_option linter.unusedVariables false
namespace Go.Proofs.Ytajnjbmniobjhaa
open Go.RowKit

/-- Where a node lies that is joined into one at (x, y). -/
def clampV (x y : Int) (m : Mg) : List Int := [min (max x m.1) m.2.1, min (max y m.2.2.1) m.2.2.2.1]
theorem nearest_eq {x lo hi : Int} (h : lo ≤ hi) : m_impl_nearest x lo hi = some (min (max x lo) hi) := by
  unfold m_impl_nearest
  congr 1
  split <;> split <;> omega
def plP (ms : List Mg) (out : List (List Int)) (r o : List Int) : List (List Int) :=
  match r, o with
  | [a, b], [x, y] => (out.set a.toNat (clampV x y (nodeAt ms a))).set b.toNat (clampV x y (nodeAt ms b))
  | _, _ => out
def plS (ms : List Mg) (n : Nat) (l : List (List Int)) (out : List (List Int)) (i : Nat) : List (List Int) := plP ms out (l.getD i []) (out.getD (n + i) [])
def plU (ms : List Mg) (n : Nat) (l : List (List Int)) (o0 : List (List Int)) : Nat → List (List Int)
  | 0 => o0
  | k + 1 => plS ms n l (plU ms n l o0 k) (l.length - 1 - k)
theorem plP_len (ms : List Mg) (out : List (List Int)) (r o : List Int) : (plP ms out r o).length = out.length := by
  unfold plP
  split
  · simp
  · rfl
theorem plU_len (ms : List Mg) (n : Nat) (l o0 : List (List Int)) : ∀ k, (plU ms n l o0 k).length = o0.length
  | 0 => rfl
  | k + 1 => by show (plP _ _ _ _).length = _; rw [plP_len, plU_len ms n l o0 k]
/-- Which rows are laid after k steps: the last one, and those of the last k pairs. -/
def Done (n : Nat) (l : List (List Int)) (k : Nat) (x : Nat) : Prop := x + 2 = 2 * n ∨ ∃ j, l.length - k ≤ j ∧ j < l.length ∧ ∃ r, l[j]? = some r ∧ (x : Int) ∈ r
def Eqv (n : Nat) (l : List (List Int)) (k : Nat) (A B : List (List Int)) : Prop :=
  A.length = 2 * n - 1 ∧ B.length = 2 * n - 1 ∧ ∀ x, x < 2 * n - 1 → Done n l k x → ∃ p q, A[x]? = some [p, q] ∧ B[x]? = some [p, q]
theorem done_up {n : Nat} {l : List (List Int)} (hJ : IsJ n l) {i : Nat} (hi : i < l.length) : Done n l (l.length - 1 - i) (n + i) := by
  obtain ⟨hn, hl, hG⟩ := id hJ
  by_cases e : n + i + 2 = 2 * n
  · exact Or.inl e
  · obtain ⟨j, hj, r, hr, hx⟩ := all_used hJ (x := n + i) (by omega)
    obtain ⟨a, b, hat, ha, hab, hb, _⟩ := hG j hj
    rw [hat] at hr; cases hr
    simp only [List.mem_cons, List.not_mem_nil, or_false] at hx
    exact Or.inr ⟨j, by omega, hj, _, hat, by simpa using hx⟩
theorem eqv_step {ms : List Mg} {n : Nat} {l A B : List (List Int)} (hJ : IsJ n l) {k : Nat} (hk : k < l.length) (h : Eqv n l k A B) : Eqv n l (k + 1) (plS ms n l A (l.length - 1 - k)) (plS ms n l B (l.length - 1 - k)) := by
  obtain ⟨hA, hB, hE⟩ := h
  obtain ⟨hn, hl, hG⟩ := id hJ
  obtain ⟨i, hi⟩ : ∃ i, i = l.length - 1 - k := ⟨_, rfl⟩
  rw [← hi]
  have hil : i < l.length := by omega
  obtain ⟨a, b, hat, ha, hab, hb, _⟩ := hG i hil
  have hd := done_up hJ hil
  rw [show l.length - 1 - i = k by omega] at hd
  obtain ⟨p, q, hp, hq⟩ := hE (n + i) (by omega) hd
  have eA : plS ms n l A i = (A.set a.toNat (clampV p q (nodeAt ms a))).set b.toNat (clampV p q (nodeAt ms b)) := by
    unfold plS; rw [getD_row hat, getD_row hp]; rfl
  have eB : plS ms n l B i = (B.set a.toNat (clampV p q (nodeAt ms a))).set b.toNat (clampV p q (nodeAt ms b)) := by
    unfold plS; rw [getD_row hat, getD_row hq]; rfl
  rw [eA, eB]
  refine ⟨by simpa using hA, by simpa using hB, fun x hx hdx => ?_⟩
  by_cases xb : b.toNat = x
  · subst xb
    rw [List.getElem?_set_self (by simp; omega), List.getElem?_set_self (by simp; omega)]
    exact ⟨_, _, rfl, rfl⟩
  · rw [List.getElem?_set_ne xb, List.getElem?_set_ne xb]
    by_cases xa : a.toNat = x
    · subst xa
      rw [List.getElem?_set_self (by omega), List.getElem?_set_self (by omega)]
      exact ⟨_, _, rfl, rfl⟩
    · rw [List.getElem?_set_ne xa, List.getElem?_set_ne xa]
      refine hE x hx ?_
      rcases hdx with h | ⟨j, h1, h2, r, h3, h4⟩
      · exact Or.inl h
      · by_cases e : j = i
        · subst e
          rw [hat] at h3; cases h3
          simp only [List.mem_cons, List.not_mem_nil, or_false] at h4
          omega
        · exact Or.inr ⟨j, by omega, h2, r, h3, h4⟩
theorem eqv_all {ms : List Mg} {n : Nat} {l A B : List (List Int)} (hJ : IsJ n l) (h : Eqv n l 0 A B) : ∀ k, k ≤ l.length → Eqv n l k (plU ms n l A k) (plU ms n l B k)
  | 0, _ => h
  | k + 1, hk => eqv_step hJ hk (eqv_all hJ h k (by omega))
theorem eqv_end {n : Nat} {l A B : List (List Int)} (hJ : IsJ n l) (h : Eqv n l l.length A B) : A = B := by
  obtain ⟨hA, hB, hE⟩ := h
  apply List.ext_getElem?
  intro x
  by_cases hx : x < 2 * n - 1
  · obtain ⟨p, q, h1, h2⟩ := hE x hx (by
      by_cases e : x + 2 = 2 * n
      · exact Or.inl e
      · obtain ⟨j, hj, r, hr, hxr⟩ := all_used hJ (x := x) (by omega)
        exact Or.inr ⟨j, by omega, hj, r, hr, hxr⟩)
    rw [h1, h2]
  · rw [List.getElem?_eq_none (by omega), List.getElem?_eq_none (by omega)]
theorem geti_ex {α : Type} {l : List α} {i : Int} (h0 : 0 ≤ i) (h1 : i < l.length) : ∃ x, geti l i = some x := by
  obtain ⟨n, rfl⟩ := Int.eq_ofNat_of_zero_le h0
  exact ⟨_, geti_lt (by omega)⟩
section
variable {ps : List Pt} {l : List (List Int)} {A B : List (List Int)}
theorem implPl_in (hp : okPs ps = true) (hJ : IsJ ps.length l) (ws : List Int) (bb : Bool) {out : List (List Int)} {i : Nat} (hi : i < l.length) (ho : out.length = 2 * ps.length - 1) (p q : Int) (hrow : out[ps.length + i]? = some [p, q]) {r : List Int} (hr : l[i]? = some r) :
    loopM (m_impl_ClockPlaces_s4 (TM ps l l.length, ws, bb) [p, q] r) (out, 0) = some (plS (TM ps l l.length) ps.length l out i) := by
  obtain ⟨hn, hl, hG⟩ := id hJ
  obtain ⟨a, b, hat, ha, hab, hb, _⟩ := hG i hi
  rw [hat] at hr; cases hr
  have hlen := TM_len hJ l.length (Nat.le_refl _)
  obtain ⟨ma, ga⟩ := nodeAt_mem (ms := TM ps l l.length) (i := a) ha (by omega)
  obtain ⟨mb, gb⟩ := nodeAt_mem (ms := TM ps l l.length) (i := b) (by omega) (by omega)
  have oka := TM_ok hp hJ l.length (Nat.le_refl _) _ ma
  have okb := TM_ok hp hJ l.length (Nat.le_refl _) _ mb
  obtain ⟨oa, hoa⟩ := geti_ex (l := out) (i := a) ha (by omega)
  obtain ⟨ob, hob⟩ := geti_ex (l := out.set a.toNat (clampV p q (nodeAt (TM ps l l.length) a))) (i := b) (by omega) (by rw [List.length_set]; omega)
  have e : plS (TM ps l l.length) ps.length l out i = (out.set a.toNat (clampV p q (nodeAt (TM ps l l.length) a))).set b.toNat (clampV p q (nodeAt (TM ps l l.length) b)) := by
    unfold plS; rw [getD_row hat, getD_row hrow]; rfl
  refine (loopM_next (s' := (out.set a.toNat (clampV p q (nodeAt (TM ps l l.length) a)), 1)) ?_).trans ((loopM_next (s' := (plS (TM ps l l.length) ps.length l out i, 2)) ?_).trans (loopM_out ?_))
  · unfold m_impl_ClockPlaces_s4
    simp only []
    rw [bif_t (by simp)]
    simp only [bind_some', geti20, geti21, ga, nearest_eq oka.u, nearest_eq oka.v, hoa]
    rfl
  · unfold m_impl_ClockPlaces_s4
    simp only []
    rw [bif_t (by simp)]
    simp only [bind_some', geti20, geti21, gb, nearest_eq okb.u, nearest_eq okb.v, hob]
    rw [e]
    rfl
  · unfold m_impl_ClockPlaces_s4
    simp only []
    rw [bif_f (by simp)]
theorem implPl (hp : okPs ps = true) (hJ : IsJ ps.length l) (ws : List Int) (bb : Bool) (h : ∀ k, k ≤ l.length → Eqv ps.length l k (plU (TM ps l l.length) ps.length l A k) (plU (TM ps l l.length) ps.length l B k)) :
    loopM (m_impl_ClockPlaces_s3 ps l (TM ps l l.length, ws, bb)) (B, wr ((l.length : Int) - 1)) = some (plU (TM ps l l.length) ps.length l B l.length) := by
  obtain ⟨hn, hl, hG⟩ := id hJ
  refine loopM_val _ l.length (fun k s => s.1 = plU (TM ps l l.length) ps.length l B k ∧ s.2 = (l.length : Int) - 1 - k) ⟨rfl, by simp only []; rw [wr_in (by omega)]; simp⟩ ?_ ?_
  · rintro k ⟨out, x⟩ hk ⟨ho, hx⟩
    simp only at ho hx
    obtain ⟨i, hi⟩ : ∃ i : Nat, i = l.length - 1 - k := ⟨_, rfl⟩
    have hxi : x = (i : Int) := by omega
    have hil : i < l.length := by omega
    obtain ⟨hA, hB, hE⟩ := h k (by omega)
    have hd := done_up hJ hil
    rw [show l.length - 1 - i = k by omega] at hd
    obtain ⟨p, q, _, hpq⟩ := hE (ps.length + i) (by omega) hd
    rw [← ho] at hB hpq
    unfold m_impl_ClockPlaces_s3
    simp only []
    subst hxi
    rw [bif_t (by simp), wr_in (x := (ps.length : Int) + (i : Int)) (by omega)]
    have e : geti out ((ps.length : Int) + (i : Int)) = some [p, q] := by rw [show (ps.length : Int) + (i : Int) = ((ps.length + i : Nat) : Int) by omega, geti_nat]; exact hpq
    have e2 : geti l (i : Int) = some l[i] := geti_lt hil
    simp only [e, e2, bind_some', implPl_in hp hJ ws bb hil hB p q hpq (List.getElem?_eq_getElem hil)]
    left
    refine ⟨_, rfl, ?_, by simp only []; rw [wr_in (by omega)]; omega⟩
    show _ = plS _ _ _ (plU _ _ _ B k) (l.length - 1 - k)
    rw [← ho, ← hi]
  · rintro ⟨out, x⟩ ⟨ho, hx⟩
    simp only at ho hx
    unfold m_impl_ClockPlaces_s3
    simp only []
    rw [bif_f (by simp; omega), ho]
end
def lowR (m : Mg) : List Int := [m.1, m.2.2.1]
noncomputable def placesV (ps : List Pt) (l : List (List Int)) : List (List Int) × Bool :=
  if askB ps l then (plU (TM ps l l.length) ps.length l ((TM ps l l.length).map lowR) l.length, true) else ([], false)
theorem eqv0 {ps : List Pt} {l : List (List Int)} (hJ : IsJ ps.length l) :
    Eqv ps.length l 0 ((TM ps l l.length).map lowR) ((List.replicate (2 * ps.length - 1) ([] : List Int)).set (2 * ps.length - 2) (lowR (nodeAt (TM ps l l.length) (2 * ps.length - 2)))) := by
  obtain ⟨hn, hl, _⟩ := id hJ
  have hlen := TM_len hJ l.length (Nat.le_refl _)
  refine ⟨by simp; omega, by simp, fun x hx hd => ?_⟩
  rcases hd with h | ⟨j, h1, h2, _⟩
  · have ex : x = 2 * ps.length - 2 := by omega
    subst ex
    have hlt : 2 * ps.length - 2 < (TM ps l l.length).length := by omega
    have en : nodeAt (TM ps l l.length) (2 * (ps.length : Int) - 2) = (TM ps l l.length)[2 * ps.length - 2] := by
      unfold nodeAt
      rw [show (2 * (ps.length : Int) - 2).toNat = 2 * ps.length - 2 by omega]
      simp [List.getD, List.getElem?_eq_getElem hlt]
    refine ⟨_, _, by rw [List.getElem?_map, List.getElem?_eq_getElem hlt]; rfl, ?_⟩
    rw [List.getElem?_set_self (by simp; omega), en]
    rfl
  · omega
theorem implPlaces_eq (ps : List Pt) (l : List (List Int)) (hb : ps.length ≤ 140737488355328) : m_impl_ClockPlaces ps l = some (placesV ps l) := by
  unfold m_impl_ClockPlaces placesV
  rw [implTree_eq ps l hb]
  simp only [bind_some']
  cases h : askB ps l with
  | false => rfl
  | true =>
    have h' := h
    unfold askB at h'
    rw [Bool.and_eq_true] at h'
    have hJ := joinsB_iff.1 h'.2
    obtain ⟨hn, hl, _⟩ := id hJ
    have hlen := TM_len hJ l.length (Nat.le_refl _)
    simp only [if_true]
    rw [bif_f (by rfl), mkC_ok (by unfold lim; omega), wr_in (x := ((TM ps l l.length).length : Int) - 1) (by omega)]
    simp only [bind_some']
    have e1 : geti (TM ps l l.length) (((TM ps l l.length).length : Int) - 1) = some (nodeAt (TM ps l l.length) (2 * ps.length - 2)) := by
      rw [show ((TM ps l l.length).length : Int) - 1 = 2 * (ps.length : Int) - 2 by omega]
      exact (nodeAt_mem (by omega) (by omega)).2
    obtain ⟨o, ho⟩ := geti_ex (l := List.replicate (Int.toNat ((TM ps l l.length).length : Int)) ([] : List Int)) (i := ((TM ps l l.length).length : Int) - 1) (by omega) (by simp; omega)
    rw [e1, ho]
    simp only [bind_some']
    rw [show Int.toNat ((TM ps l l.length).length : Int) = 2 * ps.length - 1 by omega, show Int.toNat (((TM ps l l.length).length : Int) - 1) = 2 * ps.length - 2 by omega]
    have := implPl h'.1 hJ (WS ps l l.length) true (eqv_all hJ (eqv0 hJ))
    unfold lowR at this
    rw [this]
    simp only [bind_some']
    exact congrArg (fun o => some (o, true)) (eqv_end hJ (eqv_all (ms := TM ps l l.length) hJ (eqv0 hJ) l.length (Nat.le_refl _))).symm
end Go.Proofs.Ytajnjbmniobjhaa
