/- Clock trees that are not yet whole: what their nodes are. -/
import Derived.Test.YtngnljnfbfgfeaaPuWirL
set_option linter.unusedSimpArgs false
set_option linter.unusedVariables false
namespace Go.Proofs.Ytngnljnfbfgfeaa
open Go.RowKit

abbrev Pt := Int × Int
def okP (p : Pt) : Bool := decide (0 ≤ p.1) && decide (p.1 ≤ 99) && (decide (0 ≤ p.2) && decide (p.2 ≤ 99))
theorem okP_t {p : Pt} (h : okP p = true) : 0 ≤ p.1 ∧ p.1 ≤ 99 ∧ 0 ≤ p.2 ∧ p.2 ≤ 99 := by
  unfold okP at h; simp only [Bool.and_eq_true, decide_eq_true_eq] at h; omega
def okPs (ps : List Pt) : Bool := ps.all okP
theorem okPs_at {ps : List Pt} (h : okPs ps = true) {k : Nat} (hk : k < ps.length) : okP ps[k] = true := List.all_eq_true.1 h _ (List.getElem_mem hk)
theorem okPs_not {ps : List Pt} {k : Nat} (hk : k < ps.length) (h : okP ps[k] = false) : okPs ps = false := by
  unfold okPs; rw [List.all_eq_false]; exact ⟨ps[k], List.getElem_mem hk, by simp [h]⟩
theorem okPs_all {ps : List Pt} (h : ∀ j (hj : j < ps.length), okP ps[j] = true) : okPs ps = true := by
  unfold okPs; rw [List.all_eq_true]
  intro x hx
  obtain ⟨j, hj, rfl⟩ := List.mem_iff_getElem.1 hx
  exact h j hj
theorem geti_set {α : Type} {l : List α} {i : Nat} {x : α} (h : i < l.length) : geti (l.set i x) (i : Int) = some x := by
  rw [geti_nat, List.getElem?_set_self h]
theorem Laid.all' {α : Type} {l acc : List α} {n : Nat} (h : Laid l acc n) (hn : l.length = n) : acc = l := by subst hn; exact h.all
def seqI (k : Int) (n : Nat) : List Int := (List.range n).map fun (j : Nat) => k + (j : Int)
theorem seqI_len (k : Int) (n : Nat) : (seqI k n).length = n := by simp [seqI]
theorem seqI_at {k : Int} {n i : Nat} (h : i < (seqI k n).length) : (seqI k n)[i] = k + i := by simp [seqI]
def offs (k : Int) (l : List (List Int)) : Nat → Int
  | 0 => k
  | i + 1 => offs k l i + (l.getD i []).length
def tgt (k : Int) (l : List (List Int)) : List (List Int) := (List.range l.length).map fun (i : Nat) => seqI (offs k l i) (l.getD i []).length
theorem tgt_len (k : Int) (l : List (List Int)) : (tgt k l).length = l.length := by simp [tgt]
theorem tgt_at {k : Int} {l : List (List Int)} {i : Nat} (h : i < (tgt k l).length) : (tgt k l)[i] = seqI (offs k l i) (l.getD i []).length := by simp [tgt]
theorem offs_le {k : Int} {l : List (List Int)} (hr : ∀ r ∈ l, r.length ≤ 1048576) : ∀ i, i ≤ l.length → k ≤ offs k l i ∧ offs k l i ≤ k + 1048576 * i
  | 0, _ => by simp [offs]
  | i + 1, h => by
    have h1 := offs_le (k := k) hr i (by omega)
    have h2 := hr _ (List.getElem_mem (show i < l.length by omega))
    have e : l.getD i [] = l[i] := by simp [List.getD, List.getElem?_eq_getElem (show i < l.length by omega)]
    show k ≤ offs k l i + _ ∧ offs k l i + _ ≤ _
    rw [e]; omega
theorem getD_lt {l : List (List Int)} {i : Nat} (h : i < l.length) : l.getD i [] = l[i] := by simp [List.getD, List.getElem?_eq_getElem h]
theorem geti20 {α : Type} (a b : α) : geti [a, b] 0 = some a := by simp [geti]
theorem geti21 {α : Type} (a b : α) : geti [a, b] 1 = some b := by simp [geti]
theorem geti_in {l : List Int} {a : Int} (h0 : 0 ≤ a) (h1 : a < l.length) : geti l a = some (l.getD a.toNat 0) := by
  obtain ⟨n, rfl⟩ := Int.eq_ofNat_of_zero_le h0
  rw [geti_lt (by omega)]
  simp [List.getD, List.getElem?_eq_getElem (show n < l.length by omega)]
def okW (w : List Int) : Bool := w.all fun x => decide (0 ≤ x) && decide (x ≤ 1000000000)
theorem implIn_eq (a b c : Int) : m_impl_in a b c = some (decide (b ≤ a) && decide (a ≤ c)) := in_eq' a b c
theorem l00In_eq (a b c : Int) : m_spec_l00In a b c = some (decide (b ≤ a) && decide (a ≤ c)) := in_eq a b c
abbrev Mg := Int × Int × Int × Int × Int
def mfar (a b : Mg) : Int := max (max 0 (max (a.1 - b.2.1) (b.1 - a.2.1))) (max 0 (max (a.2.2.1 - b.2.2.2.1) (b.2.2.1 - a.2.2.2.1)))
def mone (a b : Mg) : Int :=
  if b.2.2.2.2 - a.2.2.2.2 > mfar a b then b.2.2.2.2 - a.2.2.2.2 else if b.2.2.2.2 - a.2.2.2.2 < - mfar a b then 0 else (mfar a b + (b.2.2.2.2 - a.2.2.2.2)) / 2
def mtwo (a b : Mg) : Int :=
  if b.2.2.2.2 - a.2.2.2.2 > mfar a b then 0 else if b.2.2.2.2 - a.2.2.2.2 < - mfar a b then a.2.2.2.2 - b.2.2.2.2 else mfar a b - (mfar a b + (b.2.2.2.2 - a.2.2.2.2)) / 2
def mmeet (a b : Mg) (x y : Int) : Mg := (max (a.1 - x) (b.1 - y), min (a.2.1 + x) (b.2.1 + y), max (a.2.2.1 - x) (b.2.2.1 - y), min (a.2.2.2.1 + x) (b.2.2.2.1 + y), a.2.2.2.2 + x)
def mmrg (a b : Mg) : Mg := mmeet a b (mone a b) (mtwo a b)
/-- What holds of every node: its region is one, it meets the pins' box, it lies in that box grown by the delay, the delay is at most half of B, and all is a multiple of g. -/
structure MgOk (g B : Int) (m : Mg) : Prop where
  u : m.1 ≤ m.2.1
  v : m.2.2.1 ≤ m.2.2.2.1
  u0 : m.1 ≤ 811008
  u1 : 0 ≤ m.2.1
  v0 : m.2.2.1 ≤ 405504
  v1 : -405504 ≤ m.2.2.2.1
  lu : -m.2.2.2.2 ≤ m.1
  hu : m.2.1 ≤ 811008 + m.2.2.2.2
  lv : -405504 - m.2.2.2.2 ≤ m.2.2.1
  hv : m.2.2.2.1 ≤ 405504 + m.2.2.2.2
  d0 : 0 ≤ m.2.2.2.2
  d1 : 2 * m.2.2.2.2 ≤ B
  g1 : g ∣ m.1
  g2 : g ∣ m.2.1
  g3 : g ∣ m.2.2.1
  g4 : g ∣ m.2.2.2.1
  g5 : g ∣ m.2.2.2.2
theorem MgOk.mono {g g' B B' : Int} {m : Mg} (h : MgOk g B m) (hg : g' ∣ g) (hB : B ≤ B') : MgOk g' B' m :=
  ⟨h.u, h.v, h.u0, h.u1, h.v0, h.v1, h.lu, h.hu, h.lv, h.hv, h.d0, by have := h.d1; omega, Int.dvd_trans hg h.g1, Int.dvd_trans hg h.g2, Int.dvd_trans hg h.g3, Int.dvd_trans hg h.g4, Int.dvd_trans hg h.g5⟩
theorem dvd_max {g a b : Int} (ha : g ∣ a) (hb : g ∣ b) : g ∣ max a b := by
  rcases Int.le_total a b with h | h
  · rw [Int.max_eq_right h]; exact hb
  · rw [Int.max_eq_left h]; exact ha
theorem dvd_min {g a b : Int} (ha : g ∣ a) (hb : g ∣ b) : g ∣ min a b := by
  rcases Int.le_total a b with h | h
  · rw [Int.min_eq_left h]; exact ha
  · rw [Int.min_eq_right h]; exact hb
theorem dvd_half {g x : Int} (h : 2 * g ∣ x) : g ∣ x / 2 ∧ x / 2 * 2 = x := by
  obtain ⟨c, rfl⟩ := h
  have e : 2 * g * c / 2 = g * c := by rw [Int.mul_assoc]; exact Int.mul_ediv_cancel_left _ (by omega)
  rw [e]
  exact ⟨Int.dvd_mul_right g c, by rw [Int.mul_comm, Int.mul_assoc]⟩
section
variable {g B : Int} {a b : Mg}
theorem mfar_dvd (ha : MgOk g B a) (hb : MgOk g B b) : g ∣ mfar a b :=
  dvd_max (dvd_max (Int.dvd_zero g) (dvd_max (Int.dvd_sub ha.g1 hb.g2) (Int.dvd_sub hb.g1 ha.g2))) (dvd_max (Int.dvd_zero g) (dvd_max (Int.dvd_sub ha.g3 hb.g4) (Int.dvd_sub hb.g3 ha.g4)))
theorem mfar_le (ha : MgOk g B a) (hb : MgOk g B b) : 0 ≤ mfar a b ∧ mfar a b ≤ 811008 ∧ a.1 - b.2.1 ≤ mfar a b ∧ b.1 - a.2.1 ≤ mfar a b ∧ a.2.2.1 - b.2.2.2.1 ≤ mfar a b ∧ b.2.2.1 - a.2.2.2.1 ≤ mfar a b := by
  have := ha.u0; have := ha.u1; have := ha.v0; have := ha.v1; have := hb.u0; have := hb.u1; have := hb.v0; have := hb.v1
  unfold mfar; omega
theorem mhalf (ha : MgOk (2 * g) B a) (hb : MgOk (2 * g) B b) : g ∣ (mfar a b + (b.2.2.2.2 - a.2.2.2.2)) / 2 ∧ (mfar a b + (b.2.2.2.2 - a.2.2.2.2)) / 2 * 2 = mfar a b + (b.2.2.2.2 - a.2.2.2.2) :=
  dvd_half (Int.dvd_add (mfar_dvd ha hb) (Int.dvd_sub hb.g5 ha.g5))
theorem d2 {g x : Int} (h : 2 * g ∣ x) : g ∣ x := Int.dvd_trans (Int.dvd_mul_left 2 g) h
theorem mone_dvd (ha : MgOk (2 * g) B a) (hb : MgOk (2 * g) B b) : g ∣ mone a b ∧ g ∣ mtwo a b := by
  have h1 := (mhalf ha hb).1
  unfold mone mtwo
  split
  · exact ⟨Int.dvd_sub (d2 hb.g5) (d2 ha.g5), Int.dvd_zero g⟩
  · split
    · exact ⟨Int.dvd_zero g, Int.dvd_sub (d2 ha.g5) (d2 hb.g5)⟩
    · exact ⟨h1, Int.dvd_sub (d2 (mfar_dvd ha hb)) h1⟩
/-- The wires: not negative, together at least the distance, and equal delays. -/
theorem mone_facts (ha : MgOk (2 * g) B a) (hb : MgOk (2 * g) B b) : 0 ≤ mone a b ∧ 0 ≤ mtwo a b ∧ mfar a b ≤ mone a b + mtwo a b ∧ a.2.2.2.2 + mone a b = b.2.2.2.2 + mtwo a b ∧ 2 * (a.2.2.2.2 + mone a b) ≤ B + 811008 ∧ 2 * mone a b ≤ B + 811008 ∧ 2 * mtwo a b ≤ B + 811008 := by
  obtain ⟨h0, h1, _⟩ := mfar_le ha hb
  have h2 := (mhalf ha hb).2
  have := ha.d0; have := hb.d0; have := ha.d1; have := hb.d1
  unfold mone mtwo
  generalize mfar a b = f at *
  generalize (f + (b.2.2.2.2 - a.2.2.2.2)) / 2 = q at *
  generalize a.2.2.2.2 = x at *
  generalize b.2.2.2.2 = y at *
  split
  · omega
  · split
    · omega
    · omega
theorem mmrg_ok (ha : MgOk (2 * g) B a) (hb : MgOk (2 * g) B b) : MgOk g (B + 811008) (mmrg a b) := by
  obtain ⟨_, _, f1, f2, f3, f4⟩ := mfar_le ha hb
  obtain ⟨k1, k2, k3, k4, k5, _, _⟩ := mone_facts ha hb
  obtain ⟨q1, q2⟩ := mone_dvd ha hb
  unfold mmrg mmeet
  generalize mone a b = x at *
  generalize mtwo a b = y at *
  generalize mfar a b = f at *
  have := ha.u; have := ha.v; have := ha.u0; have := ha.u1; have := ha.v0; have := ha.v1; have := ha.lu; have := ha.hu; have := ha.lv; have := ha.hv
  have := hb.u; have := hb.v; have := hb.u0; have := hb.u1; have := hb.v0; have := hb.v1; have := hb.lu; have := hb.hu; have := hb.lv; have := hb.hv
  exact ⟨by simp only []; omega, by simp only []; omega, by simp only []; omega, by simp only []; omega, by simp only []; omega, by simp only []; omega, by simp only []; omega, by simp only []; omega, by simp only []; omega, by simp only []; omega,
    by simp only []; have := ha.d0; omega, by simp only []; omega,
    dvd_max (Int.dvd_sub (d2 ha.g1) q1) (Int.dvd_sub (d2 hb.g1) q2), dvd_min (Int.dvd_add (d2 ha.g2) q1) (Int.dvd_add (d2 hb.g2) q2),
    dvd_max (Int.dvd_sub (d2 ha.g3) q1) (Int.dvd_sub (d2 hb.g3) q2), dvd_min (Int.dvd_add (d2 ha.g4) q1) (Int.dvd_add (d2 hb.g4) q2), Int.dvd_add (d2 ha.g5) q1⟩
/-- All is small. -/
theorem MgOk.small (h : MgOk g B a) (hB : B ≤ 8921088) : -5000000 ≤ a.1 ∧ a.1 ≤ 6000000 ∧ -5000000 ≤ a.2.1 ∧ a.2.1 ≤ 6000000 ∧ -5000000 ≤ a.2.2.1 ∧ a.2.2.1 ≤ 6000000 ∧ -5000000 ≤ a.2.2.2.1 ∧ a.2.2.2.1 ≤ 6000000 ∧ 0 ≤ a.2.2.2.2 ∧ a.2.2.2.2 ≤ 5000000 := by
  have := h.u; have := h.v; have := h.u0; have := h.u1; have := h.v0; have := h.v1; have := h.lu; have := h.hu; have := h.lv; have := h.hv; have := h.d0; have := h.d1
  omega
end
/-- Joins of some of the nodes: each row joins two elder ones. -/
def IsP (p : Int) (l : List (List Int)) : Prop := (2 ≤ p ∧ p ≤ 12) ∧ (l.length : Int) ≤ p - 1 ∧ ∀ k, k < l.length → ∃ a b, l[k]? = some [a, b] ∧ 0 ≤ a ∧ a < b ∧ b < p + k ∧ True
def leafV (p : Pt) : Mg := ((p.1 + p.2) * 4096, (p.1 + p.2) * 4096, (p.1 - p.2) * 4096, (p.1 - p.2) * 4096, 0)
theorem leaf_ok {p : Pt} (h : okP p = true) : MgOk 4096 0 (leafV p) := by
  have := okP_t h
  exact ⟨Int.le_refl _, Int.le_refl _, by simp only [leafV]; omega, by simp only [leafV]; omega, by simp only [leafV]; omega, by simp only [leafV]; omega, by simp only [leafV]; omega, by simp only [leafV]; omega, by simp only [leafV]; omega, by simp only [leafV]; omega, Int.le_refl _, Int.le_refl _,
    Int.dvd_mul_left _ _, Int.dvd_mul_left _ _, Int.dvd_mul_left _ _, Int.dvd_mul_left _ _, Int.dvd_zero _⟩
def nodeAt (ms : List Mg) (i : Int) : Mg := ms.getD i.toNat (0, 0, 0, 0, 0)
def TMs (ms : List Mg) (r : List Int) : List Mg := match r with | [a, b] => ms ++ [mmrg (nodeAt ms a) (nodeAt ms b)] | _ => ms
def WIs (ms : List Mg) (r : List Int) (w : List Int) : List Int := match r with | [a, b] => (w.set a.toNat (mone (nodeAt ms a) (nodeAt ms b))).set b.toNat (mtwo (nodeAt ms a) (nodeAt ms b)) | _ => w
def TM (ps : List Pt) (l : List (List Int)) : Nat → List Mg
  | 0 => ps.map leafV
  | k + 1 => TMs (TM ps l k) (l.getD k [])
def WI (ps : List Pt) (l : List (List Int)) : Nat → List Int
  | 0 => List.replicate (2 * ps.length - 1) 0
  | k + 1 => WIs (TM ps l k) (l.getD k []) (WI ps l k)
def WS (ps : List Pt) (l : List (List Int)) : Nat → List Int
  | 0 => List.replicate ps.length 0
  | k + 1 => WIs (TM ps l k) (l.getD k []) (WS ps l k) ++ [0]
theorem WIs_len (ms : List Mg) (r w : List Int) : (WIs ms r w).length = w.length := by
  unfold WIs
  split
  · simp
  · rfl
theorem WI_len (ps : List Pt) (l : List (List Int)) : ∀ k, (WI ps l k).length = 2 * ps.length - 1
  | 0 => by simp [WI]
  | k + 1 => by show (WIs _ _ _).length = _; rw [WIs_len, WI_len ps l k]
theorem WS_len (ps : List Pt) (l : List (List Int)) : ∀ k, (WS ps l k).length = ps.length + k
  | 0 => by simp [WS]
  | k + 1 => by show (WIs _ _ _ ++ [0]).length = _; rw [List.length_append, WIs_len, WS_len ps l k]; simp; omega
theorem getD_row {l : List (List Int)} {k : Nat} {r : List Int} (h : l[k]? = some r) : l.getD k [] = r := by simp [List.getD, h]
section
variable {ps : List Pt} {l : List (List Int)}
theorem TM_len (hJ : IsP ps.length l) : ∀ k, k ≤ l.length → (TM ps l k).length = ps.length + k := by
  intro k
  induction k with
  | zero => intro _; simp [TM]
  | succ k ih =>
    intro hk
    obtain ⟨a, b, hat, _⟩ := hJ.2.2 k hk
    show (TMs _ _).length = _
    rw [getD_row hat]
    unfold TMs
    simp [ih (by omega)]; omega
theorem nodeAt_mem {ms : List Mg} {i : Int} (h0 : 0 ≤ i) (h1 : i < ms.length) : nodeAt ms i ∈ ms ∧ geti ms i = some (nodeAt ms i) := by
  obtain ⟨n, rfl⟩ := Int.eq_ofNat_of_zero_le h0
  have hn : n < ms.length := by omega
  have e : nodeAt ms (n : Int) = ms[n] := by unfold nodeAt; simp [List.getD, List.getElem?_eq_getElem hn]
  rw [e, geti_lt hn]
  exact ⟨List.getElem_mem hn, rfl⟩
theorem pow_step {k : Nat} (h : k ≤ 11) : (2 : Int) ^ (12 - k) = 2 * 2 ^ (11 - k) := by
  rw [show 12 - k = (11 - k) + 1 by omega, Int.pow_succ, Int.mul_comm]
theorem TM_ok (hp : okPs ps = true) (hJ : IsP ps.length l) : ∀ k, k ≤ l.length → ∀ m ∈ TM ps l k, MgOk (2 ^ (12 - k)) (k * 811008) m := by
  have hl : (l.length : Int) ≤ ps.length - 1 := hJ.2.1
  have hn := hJ.1
  intro k
  induction k with
  | zero =>
    intro _ m hm
    obtain ⟨p, hpm, rfl⟩ := List.mem_map.1 hm
    exact (leaf_ok (List.all_eq_true.1 hp p hpm)).mono (by exact Int.dvd_refl _) (by omega)
  | succ k ih =>
    intro hk m hm
    obtain ⟨a, b, hat, ha, hab, hb, _⟩ := hJ.2.2 k hk
    have hlen := TM_len hJ k (by omega)
    have e : TM ps l (k + 1) = TM ps l k ++ [mmrg (nodeAt (TM ps l k) a) (nodeAt (TM ps l k) b)] := by
      show TMs _ _ = _
      rw [getD_row hat]; rfl
    rw [e] at hm
    have hk11 : k ≤ 11 := by omega
    have hg := pow_step hk11
    have e2 : 12 - (k + 1) = 11 - k := by omega
    rw [e2]
    have hB : ((k + 1 : Nat) : Int) * 811008 = (k : Int) * 811008 + 811008 := by omega
    rw [hB]
    rcases List.mem_append.1 hm with hm | hm
    · refine (ih (by omega) m hm).mono ?_ (by omega)
      rw [hg]; exact Int.dvd_mul_left _ _
    · simp only [List.mem_singleton] at hm
      subst hm
      have h1 := ih (by omega) _ (nodeAt_mem (ms := TM ps l k) (i := a) ha (by omega)).1
      have h2 := ih (by omega) _ (nodeAt_mem (ms := TM ps l k) (i := b) (by omega) (by omega)).1
      rw [hg] at h1 h2
      exact mmrg_ok h1 h2
theorem take_map_succ {k : Nat} (hk : k < ps.length) : (ps.take (k + 1)).map leafV = (ps.take k).map leafV ++ [leafV ps[k]] := by
  rw [List.take_succ_eq_append_getElem hk, List.map_append]; rfl
end
end Go.Proofs.Ytngnljnfbfgfeaa
