/- The clock tree: the reference's l06Tree and the program's tree come to the same nodes and wires. -/
import Derived.Test.YtajnjbmniobjhaaPkMrg
set_option linter.unusedSimpArgs false
set_option linter.unusedVariables false
namespace Go.Proofs.Ytajnjbmniobjhaa
open Go.RowKit

def leafV (p : Pt) : Mg := ((p.1 + p.2) * 4096, (p.1 + p.2) * 4096, (p.1 - p.2) * 4096, (p.1 - p.2) * 4096, 0)
theorem leaf_ok {p : Pt} (h : okP p = true) : MgOk 4096 0 (leafV p) := by
  have := okP_t h
  exact ⟨Int.le_refl _, Int.le_refl _, by simp only [leafV]; omega, by simp only [leafV]; omega, by simp only [leafV]; omega, by simp only [leafV]; omega, by simp only [leafV]; omega, by simp only [leafV]; omega, by simp only [leafV]; omega, by simp only [leafV]; omega, Int.le_refl _, Int.le_refl _,
    Int.dvd_mul_left _ _, Int.dvd_mul_left _ _, Int.dvd_mul_left _ _, Int.dvd_mul_left _ _, Int.dvd_zero _⟩
theorem implLeaf_eq {p : Pt} (h : okP p = true) : m_impl_leaf p.1 p.2 = some ((leafV p).1, (leafV p).2.1, (leafV p).2.2.1, (leafV p).2.2.2.1) := by
  have := okP_t h
  unfold m_impl_leaf
  rw [wr_in (x := p.1 + p.2) (by omega), wr_in (x := p.1 - p.2) (by omega), wr_in (x := (p.1 + p.2) * 4096) (by omega), wr_in (x := (p.1 - p.2) * 4096) (by omega)]
  rfl
def nodeAt (ms : List Mg) (i : Int) : Mg := ms.getD i.toNat (0, 0, 0, 0, 0)
def TMs (ms : List Mg) (r : List Int) : List Mg := match r with | [a, b] => ms ++ [mmrg (nodeAt ms a) (nodeAt ms b)] | _ => ms
def WIs (ms : List Mg) (r : List Int) (w : List Int) : List Int := match r with | [a, b] => (w.set a.toNat (mone (nodeAt ms a) (nodeAt ms b))).set b.toNat (mtwo (nodeAt ms a) (nodeAt ms b)) | _ => w
def TM (ps : List Pt) (l : List (List Int)) : Nat → List Mg
  | 0 => ps.map leafV
  | k + 1 => TMs (TM ps l k) (l.getD k [])
def WI (ps : List Pt) (l : List (List Int)) : Nat → List Int
  | 0 => List.replicate (2 * ps.length - 1) 0
  | k + 1 => WIs (TM ps l k) (l.getD k []) (WI ps l k)
def WS (ps : List Pt) (l : List (List Int)) : Nat → List Int
  | 0 => List.replicate ps.length 0
  | k + 1 => WIs (TM ps l k) (l.getD k []) (WS ps l k) ++ [0]
theorem WIs_len (ms : List Mg) (r w : List Int) : (WIs ms r w).length = w.length := by
  unfold WIs
  split
  · simp
  · rfl
theorem WI_len (ps : List Pt) (l : List (List Int)) : ∀ k, (WI ps l k).length = 2 * ps.length - 1
  | 0 => by simp [WI]
  | k + 1 => by show (WIs _ _ _).length = _; rw [WIs_len, WI_len ps l k]
theorem WS_len (ps : List Pt) (l : List (List Int)) : ∀ k, (WS ps l k).length = ps.length + k
  | 0 => by simp [WS]
  | k + 1 => by show (WIs _ _ _ ++ [0]).length = _; rw [List.length_append, WIs_len, WS_len ps l k]; simp; omega
theorem getD_row {l : List (List Int)} {k : Nat} {r : List Int} (h : l[k]? = some r) : l.getD k [] = r := by simp [List.getD, h]
section
variable {ps : List Pt} {l : List (List Int)}
theorem TM_len (hJ : IsJ ps.length l) : ∀ k, k ≤ l.length → (TM ps l k).length = ps.length + k := by
  intro k
  induction k with
  | zero => intro _; simp [TM]
  | succ k ih =>
    intro hk
    obtain ⟨a, b, hat, _⟩ := hJ.2.2 k hk
    show (TMs _ _).length = _
    rw [getD_row hat]
    unfold TMs
    simp [ih (by omega)]; omega
theorem WI_eq (hJ : IsJ ps.length l) : ∀ k, k ≤ l.length → WI ps l k = WS ps l k ++ List.replicate (l.length - k) 0 := by
  have hl : (l.length : Int) = ps.length - 1 := hJ.2.1
  intro k
  induction k with
  | zero =>
    intro _
    show List.replicate _ _ = List.replicate _ _ ++ _
    rw [List.replicate_append_replicate]
    congr 1; omega
  | succ k ih =>
    intro hk
    obtain ⟨a, b, hat, ha, hab, hb, _⟩ := hJ.2.2 k hk
    show WIs _ _ (WI ps l k) = (WIs _ _ (WS ps l k) ++ [0]) ++ _
    rw [ih (by omega), getD_row hat]
    have hs := WS_len ps l k
    unfold WIs
    simp only []
    rw [List.set_append_left _ _ (by omega), List.set_append_left _ _ (by rw [List.length_set]; omega), List.append_assoc]
    congr 1
    rw [show l.length - k = (l.length - (k + 1)) + 1 by omega, List.replicate_succ]
    rfl
theorem nodeAt_mem {ms : List Mg} {i : Int} (h0 : 0 ≤ i) (h1 : i < ms.length) : nodeAt ms i ∈ ms ∧ geti ms i = some (nodeAt ms i) := by
  obtain ⟨n, rfl⟩ := Int.eq_ofNat_of_zero_le h0
  have hn : n < ms.length := by omega
  have e : nodeAt ms (n : Int) = ms[n] := by unfold nodeAt; simp [List.getD, List.getElem?_eq_getElem hn]
  rw [e, geti_lt hn]
  exact ⟨List.getElem_mem hn, rfl⟩
theorem pow_step {k : Nat} (h : k ≤ 11) : (2 : Int) ^ (12 - k) = 2 * 2 ^ (11 - k) := by
  rw [show 12 - k = (11 - k) + 1 by omega, Int.pow_succ, Int.mul_comm]
theorem TM_ok (hp : okPs ps = true) (hJ : IsJ ps.length l) : ∀ k, k ≤ l.length → ∀ m ∈ TM ps l k, MgOk (2 ^ (12 - k)) (k * 811008) m := by
  have hl : (l.length : Int) = ps.length - 1 := hJ.2.1
  have hn := hJ.1
  intro k
  induction k with
  | zero =>
    intro _ m hm
    obtain ⟨p, hpm, rfl⟩ := List.mem_map.1 hm
    exact (leaf_ok (List.all_eq_true.1 hp p hpm)).mono (by exact Int.dvd_refl _) (by omega)
  | succ k ih =>
    intro hk m hm
    obtain ⟨a, b, hat, ha, hab, hb, _⟩ := hJ.2.2 k hk
    have hlen := TM_len hJ k (by omega)
    have e : TM ps l (k + 1) = TM ps l k ++ [mmrg (nodeAt (TM ps l k) a) (nodeAt (TM ps l k) b)] := by
      show TMs _ _ = _
      rw [getD_row hat]; rfl
    rw [e] at hm
    have hk11 : k ≤ 11 := by omega
    have hg := pow_step hk11
    have e2 : 12 - (k + 1) = 11 - k := by omega
    rw [e2]
    have hB : ((k + 1 : Nat) : Int) * 811008 = (k : Int) * 811008 + 811008 := by omega
    rw [hB]
    rcases List.mem_append.1 hm with hm | hm
    · refine (ih (by omega) m hm).mono ?_ (by omega)
      rw [hg]; exact Int.dvd_mul_left _ _
    · simp only [List.mem_singleton] at hm
      subst hm
      have h1 := ih (by omega) _ (nodeAt_mem (ms := TM ps l k) (i := a) ha (by omega)).1
      have h2 := ih (by omega) _ (nodeAt_mem (ms := TM ps l k) (i := b) (by omega) (by omega)).1
      rw [hg] at h1 h2
      exact mmrg_ok h1 h2
theorem take_map_succ {k : Nat} (hk : k < ps.length) : (ps.take (k + 1)).map leafV = (ps.take k).map leafV ++ [leafV ps[k]] := by
  rw [List.take_succ_eq_append_getElem hk, List.map_append]; rfl
theorem implT1 (hp : okPs ps = true) (hn : (ps.length : Int) ≤ 12) : loopM (m_impl_tree_s1 ps) (([] : List Mg), 0) = some (ps.map leafV) := by
  refine loopM_val _ ps.length (fun k s => s = ((ps.take k).map leafV, (k : Int))) (by simp) ?_ ?_
  · rintro k _ hk rfl
    unfold m_impl_tree_s1
    simp only []
    rw [bif_t (by simpa using hk), geti_lt hk]
    simp only [bind_some', implLeaf_eq (okPs_at hp hk)]
    rw [apC_ok (by simp [lim]; omega)]
    simp only [bind_some']
    left
    refine ⟨_, rfl, ?_⟩
    rw [wr_in (by omega), take_map_succ hk]
    rfl
  · rintro _ rfl
    unfold m_impl_tree_s1
    simp only []
    rw [bif_f (by simp), List.take_length]
theorem implT2 (hp : okPs ps = true) (hJ : IsJ ps.length l) : loopM (m_impl_tree_s2 l) (ps.map leafV, 0, List.replicate (2 * ps.length - 1) 0) = some (Sum.inl (TM ps l l.length, WI ps l l.length)) := by
  obtain ⟨hn, hl, hG⟩ := id hJ
  refine loopM_val _ l.length (fun k s => s = (TM ps l k, (k : Int), WI ps l k)) rfl ?_ ?_
  · rintro k _ hk rfl
    obtain ⟨a, b, hat, ha, hab, hb, _⟩ := hG k hk
    have hlen := TM_len hJ k (by omega)
    have hws := WI_len ps l k
    obtain ⟨ma, ga⟩ := nodeAt_mem (ms := TM ps l k) (i := a) ha (by omega)
    obtain ⟨mb, gb⟩ := nodeAt_mem (ms := TM ps l k) (i := b) (by omega) (by omega)
    have oa := TM_ok hp hJ k (by omega) _ ma
    have ob := TM_ok hp hJ k (by omega) _ mb
    rw [pow_step (by omega)] at oa ob
    have hgl : geti l (k : Int) = some [a, b] := by rw [geti_nat]; exact hat
    unfold m_impl_tree_s2
    simp only []
    rw [bif_t (by simpa using hk)]
    simp only [hgl, bind_some', geti20, geti21, ga, gb, implMerge_eq oa ob (by omega)]
    rw [bif_f (by rfl), apC_ok (by simp [lim]; omega), geti_in (l := WI ps l k) (a := a) ha (by omega)]
    simp only [bind_some']
    rw [geti_in (a := b) (by omega) (by rw [List.length_set]; omega)]
    simp only [bind_some']
    left
    refine ⟨_, rfl, ?_⟩
    rw [wr_in (by omega)]
    have e1 : TM ps l (k + 1) = TM ps l k ++ [mmrg (nodeAt (TM ps l k) a) (nodeAt (TM ps l k) b)] := by
      show TMs _ _ = _
      rw [getD_row hat]; rfl
    have e2 : WI ps l (k + 1) = ((WI ps l k).set a.toNat (mone (nodeAt (TM ps l k) a) (nodeAt (TM ps l k) b))).set b.toNat (mtwo (nodeAt (TM ps l k) a) (nodeAt (TM ps l k) b)) := by
      show WIs _ _ _ = _
      rw [getD_row hat]; rfl
    rw [e1, e2]
    rfl
  · rintro _ rfl
    unfold m_impl_tree_s2
    simp only []
    rw [bif_f (by simp)]
end
/-- May these be asked for? -/
noncomputable def askB (ps : List Pt) (l : List (List Int)) : Bool := okPs ps && joinsB ps.length l
theorem clockPins_eq (ps : List Pt) (hb : ps.length ≤ 140737488355328) : m_impl_clockPins ps = some (decide (2 ≤ ps.length) && decide (ps.length ≤ 12) && okPs ps) := by
  unfold m_impl_clockPins
  rw [in_eq']
  simp only [bind_some']
  by_cases h : 2 ≤ ps.length ∧ ps.length ≤ 12
  · rw [bif_t (by simp; omega)]
    unfold m_slices_ContainsFunc_impl_Point_impl_Point_impl_noPoint
    obtain ⟨i, h1, h2⟩ := IndexNo_eq ps hb
    rw [h1]
    simp only [bind_some', h2]
    simp [h.1, h.2]
  · rw [bif_f (by simp; omega)]
    congr 1; symm
    by_cases h1 : 2 ≤ ps.length
    · simp [h1, show ¬ ps.length ≤ 12 by omega]
    · simp [h1]
theorem implTree_eq (ps : List Pt) (l : List (List Int)) (hb : ps.length ≤ 140737488355328) : m_impl_tree ps l = some (if askB ps l then (TM ps l l.length, WS ps l l.length, true) else ([], [], false)) := by
  unfold m_impl_tree
  rw [clockPins_eq ps hb]
  simp only [bind_some']
  cases h : askB ps l with
  | true =>
    have h' := h
    unfold askB at h'
    rw [Bool.and_eq_true] at h'
    have hJ := joinsB_iff.1 h'.2
    obtain ⟨hn, hl, _⟩ := id hJ
    rw [bif_f (by simp [h'.1, show 2 ≤ ps.length by omega, show ps.length ≤ 12 by omega]), implJ_eq, h'.2]
    simp only [bind_some']
    rw [bif_f (by rfl), wr_in (x := 2 * (ps.length : Int)) (by omega), wr_in (x := 2 * (ps.length : Int) - 1) (by omega), mkC_ok (by unfold lim; omega)]
    simp only [bind_some']
    rw [implT1 h'.1 hn.2]
    simp only [bind_some']
    rw [show Int.toNat (2 * (ps.length : Int) - 1) = 2 * ps.length - 1 by omega, implT2 h'.1 hJ, WI_eq hJ l.length (Nat.le_refl _)]
    simp
  | false =>
    by_cases h1 : 2 ≤ ps.length ∧ ps.length ≤ 12 ∧ okPs ps = true
    · have hj : joinsB ps.length l = false := by
        unfold askB at h; rw [h1.2.2] at h; simpa using h
      rw [bif_f (by simp [h1.1, h1.2.1, h1.2.2]), implJ_eq, hj]
      rfl
    · rw [bif_t (by
        by_cases c1 : 2 ≤ ps.length
        · by_cases c2 : ps.length ≤ 12
          · cases c3 : okPs ps with
            | true => exact absurd ⟨c1, c2, c3⟩ h1
            | false => simp
          · simp [c2]
        · simp [c1])]
      rfl
end Go.Proofs.Ytajnjbmniobjhaa
