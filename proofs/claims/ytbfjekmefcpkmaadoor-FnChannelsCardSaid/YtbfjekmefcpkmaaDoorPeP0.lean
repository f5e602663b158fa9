/- Graphs of thirteen numbers: how far it is to one, the shortest ring. The shortest ring, and the ring that is found. What must be above what, as a graph: cycles, chains. Routings against cycles, chains and densities. The longest chain and the density: what the program tells. -/
import Derived.Test.YtbfjekmefcpkmaaDoorPcP1
import Derived.Test.YtbfjekmefcpkmaaDoorPdP
set_option linter.unusedSimpArgs false
set_option linter.unusedVariables false
set_option linter.unusedSectionVars false
namespace Go.Proofs.YtbfjekmefcpkmaaDoor
open Go.RowKit

theorem repeat13 : m_sRepea [(-1)] 13 = some (List.replicate 13 (-1)) := by
 have h : loopM m_sRepea_s1 ((((min ([(-1)] : List Int).length ((cpy (List.replicate (Int.toNat (wr 13)) ((0 : Int))) 0 [(-1)]).length - Int.toNat 0) : Nat) : Int), cpy (List.replicate (Int.toNat (wr 13)) ((0 : Int))) 0 [(-1)])) = some (List.replicate 13 (-1)) := loopM_iff.2 ⟨6, by kernel_rfl⟩
 have hm : m_mMul (wu ((([(-1)] : List Int).length : Nat) : Int)) (wu 13) = some (0, 13) := by kernel_rfl
 have hk : mkC (wr 13) = some () := by kernel_rfl
 unfold m_sRepea
 rw [hm]
 simp only [Option.bind_some]
 rw [bif_f (by rfl), bif_f (by rfl)]
 simp only [Option.bind_some]
 rw [bif_f (by rfl), hk]
 simp only [Option.bind_some]
 rw [h]
 rfl
/-- The same at numbers of the other kind. -/
theorem ContainsI_eq (l : List Int) (hl : l.length ≤ 1000) (a : Int) : m_sConta1 l a = some (decide (a ∈ l)) := Contains_eq l hl a
section
variable (g : Nat → Nat → Bool)
def nx (x : Nat) : List Nat := (List.range 13).filter (g x)
def gl : List (List Int) := (List.range 13).map fun x => cI (nx g x)
theorem nx_len (x : Nat) : (nx g x).length ≤ 13 := by
 have := List.length_filter_le (g x) (List.range 13)
 rwa [List.length_range] at this
theorem mem_nx {x y : Nat} : y ∈ nx g x ↔ y < 13 ∧ g x y = true := by simp [nx]
theorem gl_len : (gl g).length = 13 := by simp [gl]
theorem gl_get {x : Nat} (h : x < 13) : geti (gl g) (x : Int) = some (cI (nx g x)) := geti_map h
/-- So many steps lead from a number to one. -/
inductive Wk (to : Nat) : Nat → Nat → Prop
 | z : Wk to 0 to
 | s {m x y : Nat} : g x y = true → Wk to m y → Wk to (m + 1) x
def dI (d : Nat → Option Nat) (x : Nat) : Int := match d x with | some v => (v : Int) | none => -1
def dl (d : Nat → Option Nat) : List Int := (List.range 13).map (dI d)
structure BI (to : Nat) (q : List Nat) (d : Nat → Option Nat) : Prop where
 root : d to = some 0
 sound : ∀ x v, d x = some v → Wk g to v x ∧ x < 13
 inq : ∀ x ∈ q, ∃ v, d x = some v
 proc : ∀ x v, d x = some v → x ∉ q → ∀ y, g y x = true → ∃ u, d y = some u ∧ u ≤ v + 1
 sorted : q.Pairwise fun a b => ∀ u v, d a = some u → d b = some v → u ≤ v
 near : ∀ y u, d y = some u → ∀ x ∈ q, ∀ v, d x = some v → u ≤ v + 1
def unl (d : Nat → Option Nat) : List Nat := (List.range 13).filter fun x => (d x).isNone
def newL (d : Nat → Option Nat) (h k : Nat) : List Nat := (List.range k).filter fun x => (d x).isNone && g x h
def newD (d : Nat → Option Nat) (h v k : Nat) (x : Nat) : Option Nat := if x < k ∧ (d x).isNone = true ∧ g x h = true then some (v + 1) else d x
variable {g}
variable (hg : ∀ x y, g x y = true → x < 13 ∧ y < 13)
include hg
theorem newD_old {d : Nat → Option Nat} {h v x u : Nat} (hx : d x = some u) : newD g d h v 13 x = some u := by
 unfold newD
 rw [if_neg (fun hc => by rw [hx] at hc; simp at hc), hx]
theorem newD_case {d : Nat → Option Nat} {h v x u : Nat} (hx : newD g d h v 13 x = some u) : d x = some u ∨ (x < 13 ∧ d x = none ∧ g x h = true ∧ u = v + 1) := by
 unfold newD at hx
 split at hx
 ·rename_i hc
  right
  exact ⟨hc.1, by simpa using hc.2.1, hc.2.2, (Option.some.inj hx).symm⟩
 ·exact .inl hx
theorem mem_new {d : Nat → Option Nat} {h x : Nat} : x ∈ newL g d h 13 ↔ x < 13 ∧ d x = none ∧ g x h = true := by simp [newL]
theorem BI.step {to h v : Nat} {t : List Nat} {d : Nat → Option Nat} (I : BI g to (h :: t) d) (hv : d h = some v) : BI g to (t ++ newL g d h 13) (newD g d h v 13) := by
 have hin : h ∈ h :: t := List.mem_cons_self
 have hs := List.pairwise_cons.1 I.sorted
 have newlab : ∀ x ∈ newL g d h 13, newD g d h v 13 x = some (v + 1) := fun x hx => by
  obtain ⟨h1, h2, h3⟩ := (mem_new hg).1 hx
  unfold newD
  rw [if_pos ⟨h1, by rw [h2]; rfl, h3⟩]
 have oldt : ∀ x ∈ t, ∃ u, d x = some u ∧ newD g d h v 13 x = some u := fun x hx => by
  obtain ⟨u, hu⟩ := I.inq x (List.mem_cons_of_mem _ hx)
  exact ⟨u, hu, newD_old hg hu⟩
 refine ⟨newD_old hg I.root, fun x w hx => ?_, fun x hx => ?_, fun x w hx hn y hy => ?_, ?_, fun y u hy x hx w hw => ?_⟩
 ·rcases newD_case hg hx with h1 | ⟨h1, _, h3, rfl⟩
  ·exact I.sound x w h1
  ·exact ⟨.s h3 (I.sound h v hv).1, h1⟩
 ·rcases List.mem_append.1 hx with hx | hx
  ·obtain ⟨u, _, h2⟩ := oldt x hx
   exact ⟨u, h2⟩
  ·exact ⟨_, newlab x hx⟩
 ·rcases newD_case hg hx with h1 | ⟨h1, h2, h3, rfl⟩
  ·by_cases e : x = h
   ·subst e
    rw [hv] at h1
    obtain rfl := Option.some.inj h1
    cases hd : d y with
    | none =>
     refine ⟨v + 1, ?_, Nat.le_refl _⟩
     unfold newD
     rw [if_pos ⟨(hg _ _ hy).1, by rw [hd]; rfl, hy⟩]
    | some u => exact ⟨u, newD_old hg hd, I.near y u hd x hin v hv⟩
   ·obtain ⟨u, hu, hle⟩ := I.proc x w h1 (fun hm => by
     rcases List.mem_cons.1 hm with h' | h'
     ·exact e h'
     ·exact hn (List.mem_append_left _ h')) y hy
    exact ⟨u, newD_old hg hu, hle⟩
  ·exact absurd (List.mem_append_right _ ((mem_new hg).2 ⟨h1, h2, h3⟩)) hn
 ·rw [List.pairwise_append]
  refine ⟨?_, ?_, fun a ha b hb u w hu hw => ?_⟩
  ·refine List.Pairwise.imp_of_mem ?_ hs.2
   intro a b ha hb hab u w hu hw
   obtain ⟨u', h1, h2⟩ := oldt a ha
   obtain ⟨w', h3, h4⟩ := oldt b hb
   rw [h2] at hu; rw [h4] at hw
   exact hab u w (by rw [h1, Option.some.inj hu]) (by rw [h3, Option.some.inj hw])
  ·refine List.Pairwise.imp_of_mem ?_ (List.pairwise_lt_range.filter _)
   intro a b ha hb _ u w hu hw
   have h1 := newlab a ha
   have h2 := newlab b hb
   rw [h1] at hu; rw [h2] at hw
   have := Option.some.inj hu
   have := Option.some.inj hw
   omega
  ·obtain ⟨u', h1, h2⟩ := oldt a ha
   have h3 := newlab b hb
   rw [h2] at hu; rw [h3] at hw
   have e1 := Option.some.inj hu
   have e2 := Option.some.inj hw
   have := I.near a u' h1 h hin v hv
   omega
 ·have hyle : u ≤ v + 1 := by
   rcases newD_case hg hy with h1 | ⟨_, _, _, rfl⟩
   ·exact I.near y u h1 h hin v hv
   ·exact Nat.le_refl _
  rcases List.mem_append.1 hx with hx | hx
  ·obtain ⟨w', h1, h2⟩ := oldt x hx
   rw [h2] at hw
   obtain rfl := Option.some.inj hw
   have := hs.1 x hx v w' hv h1
   omega
  ·rw [newlab x hx] at hw
   have := Option.some.inj hw
   omega
omit hg in
theorem dl_get {d : Nat → Option Nat} {x : Nat} (h : x < 13) : geti (dl d) (x : Int) = some (dI d x) := geti_map h
omit hg in
theorem dl_set {d : Nat → Option Nat} {x v : Nat} (h : x < 13) : (dl d).set x (v : Int) = dl (fun y => if y = x then some v else d y) := by
 unfold dl
 refine List.ext_getElem (by simp) fun j h1 h2 => ?_
 have hj : j < 13 := by simpa using h1
 rw [List.getElem_set]
 by_cases e : x = j
 ·subst e; simp [dI]
 ·rw [if_neg e]
  have e' : ¬ j = x := fun h => e h.symm
  simp [dI, e']
omit hg in
theorem dI_neg {d : Nat → Option Nat} {x : Nat} : decide (dI d x < 0) = (d x).isNone := by
 unfold dI
 cases d x with
 | none => rfl
 | some v => simp
omit hg in
theorem back_inner {d : Nat → Option Nat} {h v : Nat} {t : List Nat} (hh : h < 13) (hv : d h = some v) (hv13 : v ≤ 1000) (ht : t.length ≤ 1000) :
  loopM (m_iGraphBack_s4 (gl g)) (cI (h :: t), 0, dl d) = some (cI (h :: t ++ newL g d h 13), dl (newD g d h v 13)) := by
 have e0 : newD g d h v 0 = d := by funext x; unfold newD; rw [if_neg (by omega)]
 refine loopM_val _ 13 (fun k s => s = (cI (h :: t ++ newL g d h k), (k : Int), dl (newD g d h v k))) (by rw [e0]; simp [newL]) (fun k s hk hs => ?_) (fun s hs => ?_)
 ·subst hs
  refine .inl ⟨_, ?_, rfl⟩
  have hhd : ∀ k, newD g d h v k h = some v := fun k => by
   unfold newD
   rw [if_neg (fun hc => by rw [hv] at hc; simp at hc), hv]
  have hdk : newD g d h v k k = d k := by unfold newD; rw [if_neg (by omega)]
  have hg0 : geti (cI (h :: t ++ newL g d h k)) 0 = some (h : Int) := rfl
  have hnl : (newL g d h k).length ≤ k := by
   have := List.length_filter_le (fun x => (d x).isNone && g x h) (List.range k)
   rwa [List.length_range] at this
  have hgh : geti (dl (newD g d h v k)) (h : Int) = some (v : Int) := by
   rw [dl_get hh]; unfold dI; rw [hhd]
  have hcon : m_sConta1 (cI (nx g k)) (h : Int) = some (g k h) := by
   rw [ContainsI_eq _ (by rw [cI_len]; have := nx_len g k; omega)]
   congr 1
   rw [Bool.eq_iff_iff, decide_eq_true_eq, mem_cI, mem_nx]
   exact ⟨fun h => h.2, fun h => ⟨hh, h⟩⟩
  have hnd : newD g d h v (k + 1) = if ((d k).isNone && g k h) = true then (fun y => if y = k then some (v + 1) else newD g d h v k y) else newD g d h v k := by
   funext y
   unfold newD
   cases hc : ((d k).isNone && g k h) with
   | true =>
    rw [Bool.and_eq_true] at hc
    simp only [if_true]
    by_cases e : y = k
    ·subst e
     rw [if_pos ⟨by omega, hc⟩, if_pos rfl]
    ·rw [if_neg e]
     by_cases h1 : y < k ∧ (d y).isNone = true ∧ g y h = true
     ·rw [if_pos ⟨by omega, h1.2⟩, if_pos h1]
     ·rw [if_neg (fun h2 => h1 ⟨by omega, h2.2⟩), if_neg h1]
   | false =>
    simp only [Bool.false_eq_true, if_false]
    by_cases h1 : y < k ∧ (d y).isNone = true ∧ g y h = true
    ·rw [if_pos ⟨by omega, h1.2⟩, if_pos h1]
    ·rw [if_neg (fun h2 => ?_), if_neg h1]
     by_cases e : y = k
     ·subst e
      rw [h2.2.1, h2.2.2] at hc; cases hc
     ·exact h1 ⟨by omega, h2.2⟩
  have hnw : newL g d h (k + 1) = newL g d h k ++ if ((d k).isNone && g k h) = true then [k] else [] := by
   unfold newL
   rw [List.range_succ, List.filter_append]
   congr 1
   cases hc : ((d k).isNone && g k h) <;> simp [hc]
  unfold m_iGraphBack_s4
  dsimp only
  rw [bif_t (by rw [decide_eq_true_eq, gl_len]; omega), gl_get g hk]
  simp only [Option.bind_some]
  rw [dl_get hk]
  simp only [Option.bind_some]
  rw [dI_neg, hdk, hg0]
  simp only [Option.bind_some]
  rw [hcon]
  simp only [Option.bind_some]
  rw [hgh]
  simp only [Option.bind_some]
  rw [hnd, hnw, wr_suc (show k < 2 ^ 40 by omega), wr_suc (show v < 2 ^ 40 by omega)]
  cases h1 : (d k).isNone with
  | false =>
   simp
  | true =>
   cases h2 : g k h with
   | false => simp
   | true =>
    simp only [cond_true, Bool.and_self, if_true]
    rw [apC_sm (by rw [cI_len]; simp; omega)]
    simp only [Option.bind_some]
    rw [Int.toNat_natCast, dl_set hk]
    simp [cI]
 ·subst hs
  unfold m_iGraphBack_s4
  dsimp only
  rw [bif_f (by rw [decide_eq_false_iff_not, gl_len]; omega)]
/-- How far it is: what 'back' tells. -/
structure Far (g : Nat → Nat → Bool) (to : Nat) (d : Nat → Option Nat) : Prop where
 sound : ∀ x v, d x = some v → Wk g to v x
 all : ∀ x m, Wk g to m x → ∃ u, d x = some u ∧ u ≤ m
 small : ∀ x v, d x = some v → v ≤ 13
omit hg in
theorem filter_count {α : Type} (p q : α → Bool) : ∀ l : List α, (∀ x ∈ l, q x = true → p x = true) → (l.filter p).length = (l.filter q).length + (l.filter fun x => p x && !q x).length
 | [], _ => rfl
 | a :: l, h => by
  have ih := filter_count p q l fun x hx => h x (List.mem_cons_of_mem _ hx)
  have ha := h a List.mem_cons_self
  simp only [List.filter_cons]
  cases hq : q a with
  | true => rw [ha hq]; simp; omega
  | false => cases hp : p a <;> simp <;> omega
theorem unl_new {d : Nat → Option Nat} {h v : Nat} : (unl d).length = (unl (newD g d h v 13)).length + (newL g d h 13).length := by
 unfold unl newL
 rw [filter_count (fun x => (d x).isNone) (fun x => (newD g d h v 13 x).isNone) (List.range 13) (fun x _ hx => ?_)]
 ·congr 2
  refine List.filter_congr fun x hx => ?_
  have hx13 := List.mem_range.1 hx
  unfold newD
  cases h1 : (d x).isNone with
  | false =>
   rw [if_neg (fun hc => by simp at hc), h1]; rfl
  | true =>
   cases h2 : g x h with
   | false => rw [if_neg (fun hc => by simp at hc), h1]; rfl
   | true => rw [if_pos ⟨hx13, rfl, rfl⟩]; rfl
 ·unfold newD at hx
  split at hx
  ·cases hx
  ·exact hx
theorem back_eq {to : Nat} (hto : to < 13) : ∃ d, m_iGraphBack (gl g) (to : Int) = some (dl d) ∧ Far g to d := by
 have h0 : BI g to [to] (fun x => if x = to then some 0 else none) := by
  refine ⟨if_pos rfl, fun x v hx => ?_, fun x hx => ?_, fun x v hx hn => ?_, List.pairwise_singleton _ _, fun y u hy x hx v hv => ?_⟩
  ·split at hx
   ·rename_i e
    subst e
    obtain rfl := Option.some.inj hx
    exact ⟨.z, hto⟩
   ·cases hx
  ·rw [List.mem_singleton] at hx
   exact ⟨0, if_pos hx⟩
  ·split at hx
   ·rename_i e
    exact absurd (by rw [e]; exact List.mem_singleton_self _) hn
   ·cases hx
  ·split at hy
   ·obtain rfl := Option.some.inj hy; omega
   ·cases hy
 obtain ⟨r, hr, d, rfl, hJ⟩ := loopM_count (m_iGraphBack_s3 (gl g)) 13
  (fun k s => ∃ q d, s = (cI q, dl d) ∧ BI g to q d ∧ q.length + (unl d).length + k ≤ 13 ∧ ∀ x v, d x = some v → v ≤ k)
  (fun r => ∃ d, r = dl d ∧ BI g to [] d ∧ ∀ x v, d x = some v → v ≤ 13) (s0 := (cI [to], dl (fun x => if x = to then some 0 else none)))
  ⟨[to], _, rfl, h0, by
   have : (unl (fun x => if x = to then some 0 else none)).length = 12 := by
    clear h0
    have key : ∀ t, t < 13 → (unl (fun x => if x = t then some 0 else none)).length = 12 := by decide
    exact key to hto
   rw [this]
   refine ⟨by simp, fun x v hx => ?_⟩
   split at hx
   ·obtain rfl := Option.some.inj hx; omega
   ·cases hx⟩
  (fun k s hk hI => by
   obtain ⟨q, d, rfl, I, hm, hvk⟩ := hI
   cases q with
   | nil =>
    right
    refine ⟨dl d, ?_, d, rfl, I, fun x v hx => by have := hvk x v hx; omega⟩
    unfold m_iGraphBack_s3
    rfl
   | cons h t =>
    left
    obtain ⟨v, hv⟩ := I.inq h List.mem_cons_self
    obtain ⟨hwk, hh⟩ := I.sound h v hv
    have hlen : (cI (h :: t ++ newL g d h 13)).length = t.length + 1 + (newL g d h 13).length := by rw [cI_len]; simp; omega
    have hu := unl_new hg (d := d) (h := h) (v := v)
    simp only [List.length_cons] at hm
    have hvb : v ≤ 1000 := by have := hvk h v hv; omega
    refine ⟨(cI (t ++ newL g d h 13), dl (newD g d h v 13)), ?_, _, _, rfl, I.step hg hv, ?_⟩
    ·unfold m_iGraphBack_s3
     dsimp only
     rw [bif_t (by rw [decide_eq_true_eq, cI_len]; simp), back_inner hh hv hvb (by omega)]
     simp only [Option.bind_some]
     have hs : slci (cI (h :: t ++ newL g d h 13)) 1 (((cI (h :: t ++ newL g d h 13)).length : Nat) : Int) = some ((cI (h :: t ++ newL g d h 13)).drop 1) := by
      unfold slci
      rw [if_pos (by rw [hlen]; omega), Int.toNat_natCast, List.take_length]; rfl
     rw [hs]
     rfl
    ·refine ⟨by rw [List.length_append]; omega, fun x w hx => ?_⟩
     have := hvk h v hv
     rcases newD_case hg hx with h1 | ⟨_, _, _, rfl⟩
     ·have := hvk x w h1; omega
     ·omega)
  (fun s hI => by
   obtain ⟨q, d, rfl, I, hm, hvk⟩ := hI
   have : q = [] := List.length_eq_zero_iff.1 (by omega)
   subst this
   refine ⟨dl d, ?_, d, rfl, I, hvk⟩
   unfold m_iGraphBack_s3
   rfl)
 obtain ⟨hJ, hsm⟩ := hJ
 refine ⟨d, ?_, fun x v hx => (hJ.sound x v hx).1, fun x m hw => ?_, hsm⟩
 ·have h1 : geti (List.replicate 13 (-1 : Int)) (to : Int) = some (-1) := by
   rw [geti_lt (by rw [List.length_replicate]; exact hto), List.getElem_replicate]
  have h2 : (List.replicate 13 (-1 : Int)).set (Int.toNat (to : Int)) 0 = dl (fun x => if x = to then some 0 else none) := by
   have e : List.replicate 13 (-1 : Int) = dl (fun _ => none) := by rfl
   rw [e, Int.toNat_natCast]
   exact dl_set (v := 0) hto
  unfold m_iGraphBack
  rw [gl_len]
  rw [show ((13 : Nat) : Int) = 13 from rfl, repeat13]
  simp only [Option.bind_some]
  rw [h1]
  simp only [Option.bind_some]
  rw [h2, show ([(to : Int)] : List Int) = cI [to] from rfl, hr]
  rfl
 ·induction hw with
  | z => exact ⟨0, hJ.root, Nat.le_refl _⟩
  | @s m x y hxy _ ih =>
   obtain ⟨u, hu, hle⟩ := ih
   obtain ⟨w, hw, hle2⟩ := hJ.proc y u hu (by simp) x hxy
   exact ⟨w, hw, by omega⟩
end
end Go.Proofs.YtbfjekmefcpkmaaDoor

set_option linter.unusedSimpArgs false
set_option linter.unusedVariables false
set_option linter.unusedSectionVars false
namespace Go.Proofs.YtbfjekmefcpkmaaDoor
open Go.RowKit

section
variable {g : Nat → Nat → Bool}
structure Sh (g : Nat → Nat → Bool) (Pr : Nat → Nat → Prop) (b : Nat) : Prop where
 lo : ∀ i j m, Pr i j → g i j = true → Wk g i m j → b ≠ 0 ∧ b ≤ m + 1
 is : b ≠ 0 → ∃ i j, g i j = true ∧ Wk g i (b - 1) j
def nb (b : Nat) : Option Nat → Nat
 | none => b
 | some u => if b = 0 then u + 1 else if u + 1 < b then u + 1 else b
theorem Sh.step {Pr : Nat → Nat → Prop} {b k j : Nat} {d : Nat → Option Nat} (h : Sh g Pr b) (F : Far g k d) (hj : g k j = true) : Sh g (fun x y => Pr x y ∨ (x = k ∧ y = j)) (nb b (d j)) := by
 have hmono : ∀ m, b ≠ 0 ∧ b ≤ m + 1 → nb b (d j) ≠ 0 ∧ nb b (d j) ≤ m + 1 := fun m hm => by
  unfold nb
  split
  ·exact hm
  ·rw [if_neg hm.1]
   split <;> omega
 refine ⟨fun x y m hp hg hw => ?_, fun hb => ?_⟩
 ·rcases hp with hp | ⟨rfl, rfl⟩
  ·exact hmono m (h.lo x y m hp hg hw)
  ·obtain ⟨u, hu, hle⟩ := F.all _ _ hw
   rw [hu]
   unfold nb
   simp only
   split
   ·omega
   ·split <;> omega
 ·cases hd : d j with
  | none =>
   rw [hd] at hb
   exact h.is hb
  | some u =>
   have hu : ∃ i j, g i j = true ∧ Wk g i (u + 1 - 1) j := ⟨k, j, hj, F.sound _ _ hd⟩
   unfold nb
   simp only
   split
   ·exact hu
   ·rename_i hb0
    split
    ·exact hu
    ·exact h.is hb0
theorem Sh.weak {Pr Pr' : Nat → Nat → Prop} {b : Nat} (h : Sh g Pr b) (hp : ∀ i j, g i j = true → Pr' i j → Pr i j) : Sh g Pr' b := ⟨fun i j m h1 h2 h3 => h.lo i j m (hp i j h2 h1) h2 h3, h.is⟩
theorem nb_small {b : Nat} {o : Option Nat} (hb : b ≤ 100) (ho : ∀ u, o = some u → u ≤ 13) : nb b o ≤ 100 := by
 unfold nb
 split
 ·exact hb
 ·have := ho _ rfl
  split
  ·omega
  ·split <;> omega
theorem short_inner (hg : ∀ x y, g x y = true → x < 13 ∧ y < 13) {k : Nat} {d : Nat → Option Nat} (F : Far g k d) {b : Nat} (h : Sh g (fun i _ => i < k) b) (hb : b ≤ 100) :
  ∃ b' : Nat, loopM (m_iGraphShort_s4 (cI (nx g k)) (dl d)) ((b : Int), 0) = some (b' : Int) ∧ Sh g (fun i _ => i < k + 1) b' ∧ b' ≤ 100 := by
 have hl := nx_len g k
 obtain ⟨r, hr, b', rfl, h1, h2⟩ := loopM_count (m_iGraphShort_s4 (cI (nx g k)) (dl d)) (nx g k).length
  (fun p s => ∃ b' : Nat, s = ((b' : Int), (p : Int)) ∧ Sh g (fun i j => i < k ∨ (i = k ∧ j ∈ (nx g k).take p)) b' ∧ b' ≤ 100)
  (fun r => ∃ b' : Nat, r = (b' : Int) ∧ Sh g (fun i _ => i < k + 1) b' ∧ b' ≤ 100) (s0 := ((b : Int), 0))
  ⟨b, rfl, h.weak fun i j _ hp => by simpa using hp, hb⟩
  (fun p s hp hI => by
   obtain ⟨c, rfl, hS, hc⟩ := hI
   left
   obtain ⟨hj13, hgj⟩ := (mem_nx g).1 (List.getElem_mem hp)
   have hgp : geti (cI (nx g k)) (p : Int) = some (((nx g k)[p] : Nat) : Int) := geti_cI hp
   refine ⟨(((nb c (d (nx g k)[p]) : Nat) : Int), ((p + 1 : Nat) : Int)), ?_, _, rfl, ?_, nb_small hc fun u hu => F.small _ _ hu⟩
   ·unfold m_iGraphShort_s4
    dsimp only
    rw [bif_t (by rw [decide_eq_true_eq, cI_len]; omega), hgp]
    simp only [Option.bind_some]
    rw [dl_get hj13, wr_suc (by omega)]
    simp only [Option.bind_some]
    cases hd : d (nx g k)[p] with
    | none =>
     have e : dI d (nx g k)[p] = -1 := by unfold dI; rw [hd]
     rw [e, bif_f (by rfl)]
     rfl
    | some u =>
     have hu := F.small _ _ hd
     have e : dI d (nx g k)[p] = (u : Int) := by unfold dI; rw [hd]
     rw [e, bif_t (by rw [decide_eq_true_eq]; omega), wr_suc (show u < 2 ^ 40 by omega), nat_beq0]
     unfold nb
     by_cases h0 : c = 0
     ·rw [bif_t (decide_eq_true h0)]
      simp [h0]
     ·rw [bif_f (decide_eq_false h0)]
      by_cases h1 : u + 1 < c
      ·rw [bif_t (by rw [decide_eq_true_eq]; omega)]
       simp [h0, h1]
      ·rw [bif_f (by rw [decide_eq_false_iff_not]; omega)]
       simp [h0, h1]
   ·refine (hS.step F hgj).weak fun i j _ hpr => ?_
    rcases hpr with h | ⟨rfl, h⟩
    ·exact .inl (.inl h)
    ·rw [List.take_succ_eq_append_getElem hp] at h
     rcases List.mem_append.1 h with h | h
     ·exact .inl (.inr ⟨rfl, h⟩)
     ·exact .inr ⟨rfl, List.mem_singleton.1 h⟩)
  (fun s hI => by
   obtain ⟨c, rfl, hS, hc⟩ := hI
   refine ⟨(c : Int), ?_, c, rfl, hS.weak fun i j hij hp => ?_, hc⟩
   ·unfold m_iGraphShort_s4
    dsimp only
    rw [bif_f (by rw [decide_eq_false_iff_not, cI_len]; omega)]
   ·rw [List.take_length]
    by_cases e : i = k
    ·subst e
     exact .inr ⟨rfl, (mem_nx g).2 ⟨(hg _ _ hij).2, hij⟩⟩
    ·exact .inl (by omega))
 exact ⟨b', hr, h1, h2⟩
theorem short_eq (hg : ∀ x y, g x y = true → x < 13 ∧ y < 13) : ∃ S : Nat, m_iGraphShort (gl g) = some (S : Int) ∧ S ≤ 100 ∧ Sh g (fun _ _ => True) S := by
 obtain ⟨r, hr, b, rfl, h1, h2⟩ := loopM_count (m_iGraphShort_s3 (gl g)) 13
  (fun k s => ∃ b : Nat, s = ((b : Int), (k : Int)) ∧ Sh g (fun i _ => i < k) b ∧ b ≤ 100)
  (fun r => ∃ b : Nat, r = (b : Int) ∧ Sh g (fun i _ => i < 13) b ∧ b ≤ 100) (s0 := (0, 0))
  ⟨0, rfl, ⟨fun i j m h => by omega, fun h => absurd rfl h⟩, by omega⟩
  (fun k s hk hI => by
   obtain ⟨b, rfl, hS, hb⟩ := hI
   left
   obtain ⟨d, hd, F⟩ := back_eq hg hk
   obtain ⟨b', h1, h2, h3⟩ := short_inner hg F hS hb
   refine ⟨((b' : Int), ((k + 1 : Nat) : Int)), ?_, b', rfl, h2, h3⟩
   unfold m_iGraphShort_s3
   dsimp only
   rw [bif_t (by rw [decide_eq_true_eq, gl_len]; omega), gl_get g hk]
   simp only [Option.bind_some]
   rw [hd]
   simp only [Option.bind_some]
   rw [h1, wr_suc (by omega)]
   rfl)
  (fun s hI => by
   obtain ⟨b, rfl, hS, hb⟩ := hI
   refine ⟨(b : Int), ?_, b, rfl, hS, hb⟩
   unfold m_iGraphShort_s3
   dsimp only
   rw [bif_f (by rw [decide_eq_false_iff_not, gl_len]; omega)])
 refine ⟨b, ?_, h2, h1.weak fun i j hij _ => (hg _ _ hij).1⟩
 unfold m_iGraphShort
 rw [hr]; rfl
/-! ### The ring -/
/-- A way from i, each of whose steps is one of the graph's. -/
structure Pth (g : Nat → Nat → Bool) (i : Nat) (c : List Nat) : Prop where
 ne : c ≠ []
 hd : c[0]? = some i
 lt : ∀ x ∈ c, x < 13
 st : ∀ p x y, c[p]? = some x → c[p + 1]? = some y → g x y = true
 off : ∀ p x, 0 < p → c[p]? = some x → x ≠ i
theorem Pth.wk {i to : Nat} {c : List Nat} (h : Pth g i c) : ∀ (k p m x y : Nat), c[p]? = some x → c[p + k]? = some y → Wk g to m y → Wk g to (k + m) x
 | 0, p, m, x, y, hx, hy, hw => by
  rw [Nat.add_zero, hx] at hy
  obtain rfl := Option.some.inj hy
  rwa [Nat.zero_add]
 | k + 1, p, m, x, y, hx, hy, hw => by
  have hlt : p + (k + 1) < c.length := (List.getElem?_eq_some_iff.1 hy).1
  have hz : c[p + 1]? = some (c[p + 1]'(by omega)) := List.getElem?_eq_getElem _
  have h1 := h.wk k (p + 1) m _ y hz (by rw [show p + 1 + k = p + (k + 1) by omega]; exact hy) hw
  rw [show k + 1 + m = k + m + 1 by omega]
  exact .s (h.st p _ _ hx hz) h1
/-- .. that comes back to i, as short as any. -/
theorem Pth.nodup {i S : Nat} {c : List Nat} (h : Pth g i c) (hS : Sh g (fun _ _ => True) S) (hl : c.length = S) {z : Nat} (hz : c[S - 1]? = some z) (hzi : g z i = true) : c.Nodup := by
 rw [List.nodup_iff_pairwise_ne, List.pairwise_iff_getElem]
 intro p q hp hq hpq e
 have hx : c[p]? = some c[p] := List.getElem?_eq_getElem hp
 have hy : c[q]? = some c[q] := List.getElem?_eq_getElem hq
 by_cases h0 : p = 0
 ·subst h0
  have := h.hd
  rw [hx] at this
  exact h.off q c[q] hpq hy (by rw [← e]; exact Option.some.inj this)
 ·have w1 : Wk g i 1 z := .s hzi .z
  have w2 := h.wk (S - 1 - q) q 1 c[q] z hy (by rw [show q + (S - 1 - q) = S - 1 by omega]; exact hz) w1
  have h1 : c[1]? = some (c[1]'(by omega)) := List.getElem?_eq_getElem _
  have w3 := h.wk (p - 1) 1 _ _ c[p] h1 (by rw [show 1 + (p - 1) = p by omega]; exact hx) (e ▸ w2)
  have := (hS.lo i _ _ trivial (h.st 0 _ _ h.hd h1) w3).2
  omega
theorem wk_zero {to x : Nat} (h : Wk g to 0 x) : x = to := by cases h; rfl
theorem Sh.two {S : Nat} (hirr : ∀ x, g x x = false) (hS : Sh g (fun _ _ => True) S) (h0 : S ≠ 0) : 2 ≤ S := by
 obtain ⟨i, j, h1, h2⟩ := hS.is h0
 by_cases h : S = 1
 ·subst h
  obtain rfl := wk_zero h2
  rw [hirr] at h1; cases h1
 ·omega
/-- Is it near enough? -/
def okj (d : Nat → Option Nat) (S t i j : Nat) : Bool := match d j with
 | some u => decide (u + t ≤ S) && decide (j ≠ i)
 | none => false
theorem okj_t {d : Nat → Option Nat} {S t i j : Nat} : okj d S t i j = true ↔ ∃ u, d j = some u ∧ u + t ≤ S ∧ j ≠ i := by
 unfold okj
 cases hd : d j with
 | none => simp
 | some u => simp
theorem ring1_eq {d : Nat → Option Nat} {S i j : Nat} {c : List Nat} (hj : j < 13) (hS : S ≤ 100) (hc : c.length ≤ S) (hsm : ∀ x v, d x = some v → v ≤ 13) :
  m_iGraphRing1 (j : Int) (dl d) (S : Int) (cI c) (i : Int) = some (okj d S c.length i j) := by
 unfold m_iGraphRing1
 rw [dl_get hj]
 simp only [Option.bind_some]
 cases hd : d j with
 | none =>
  have e : dI d j = -1 := by unfold dI; rw [hd]
  rw [e, bif_f (by rfl)]
  simp [okj, hd]
 | some u =>
  have hu := hsm _ _ hd
  have e : dI d j = (u : Int) := by unfold dI; rw [hd]
  rw [e, bif_t (by rw [decide_eq_true_eq]; omega), cI_len, wr_in (by omega)]
  have hne : (((j : Nat) : Int) != ((i : Nat) : Int)) = decide (j ≠ i) := by
   by_cases h : j = i
   ·subst h; simp
   ·rw [decide_eq_true h, bne_iff_ne]; omega
  by_cases h1 : u + c.length ≤ S
  ·rw [bif_t (by rw [decide_eq_true_eq]; omega), hne]
   simp [okj, hd, h1]
  ·rw [bif_f (by rw [decide_eq_false_iff_not]; omega)]
   simp [okj, hd, h1]
theorem ringIdx_eq {d : Nat → Option Nat} {S i x : Nat} {c : List Nat} (hS : S ≤ 100) (hc : c.length ≤ S) (hsm : ∀ x v, d x = some v → v ≤ 13) :
  (∃ k, ∃ h : k < (nx g x).length, (∃ u, d (nx g x)[k] = some u ∧ u + c.length ≤ S ∧ (nx g x)[k] ≠ i) ∧ m_sIndexGraph (cI (nx g x)) (dl d) (S : Int) (cI c) (i : Int) = some (k : Int)) ∨
  ((∀ j, j < 13 → g x j = true → ¬ ∃ u, d j = some u ∧ u + c.length ≤ S ∧ j ≠ i) ∧ m_sIndexGraph (cI (nx g x)) (dl d) (S : Int) (cI c) (i : Int) = some (-1)) := by
 have hl := nx_len g x
 have hstep : ∀ k, k < (nx g x).length → m_sIndexGraph_s1 (cI (nx g x)) (dl d) (S : Int) (cI c) (i : Int) (k : Int) = some (if okj d S c.length i ((nx g x).getD k 0) then .out (.inr (k : Int)) else .next ((k + 1 : Nat) : Int)) := fun k hk => by
  have hgk : geti (cI (nx g x)) (k : Int) = some (((nx g x)[k] : Nat) : Int) := geti_cI hk
  have hD : (nx g x).getD k 0 = (nx g x)[k] := by rw [List.getD, List.getElem?_eq_getElem hk]; rfl
  unfold m_sIndexGraph_s1
  dsimp only
  rw [bif_t (by rw [decide_eq_true_eq, cI_len]; omega), hgk]
  simp only [Option.bind_some]
  rw [ring1_eq ((mem_nx g).1 (List.getElem_mem hk)).1 hS hc hsm, hD, wr_suc (by omega)]
  simp only [Option.bind_some]
  cases okj d S c.length i (nx g x)[k] <;> rfl
 have hend : m_sIndexGraph_s1 (cI (nx g x)) (dl d) (S : Int) (cI c) (i : Int) (((nx g x).length : Nat) : Int) = some (.out (.inl ())) := by
  unfold m_sIndexGraph_s1
  dsimp only
  rw [bif_f (by rw [decide_eq_false_iff_not, cI_len]; omega)]
 have hD : ∀ k (hk : k < (nx g x).length), (nx g x).getD k 0 = (nx g x)[k] := fun k hk => by rw [List.getD, List.getElem?_eq_getElem hk]; rfl
 unfold m_sIndexGraph
 rcases loop_find (nx g x).length (fun k => okj d S c.length i ((nx g x).getD k 0)) (fun k => (k : Int)) hstep hend with ⟨h1, h2⟩ | ⟨k, hk, hp, _, h2⟩
 ·right
  refine ⟨fun j hj hgj hx => ?_, by rw [h2]; rfl⟩
  obtain ⟨k, hk, e⟩ := List.mem_iff_getElem.1 ((mem_nx g).2 ⟨hj, hgj⟩)
  have := (anyIn_f.1 h1) k (Nat.zero_le _) hk
  rw [hD k hk, e] at this
  rw [okj_t.2 hx] at this; cases this
 ·left
  rw [hD k hk] at hp
  exact ⟨k, hk, okj_t.1 hp, by rw [h2]; rfl⟩
theorem Pth.snoc {i x y : Nat} {c : List Nat} (h : Pth g i c) (hx : c[c.length - 1]? = some x) (hy : y < 13) (hxy : g x y = true) (hyi : y ≠ i) : Pth g i (c ++ [y]) := by
 have hpos : 0 < c.length := List.length_pos_iff.2 h.ne
 refine ⟨by simp, by rw [List.getElem?_append_left hpos]; exact h.hd, fun z hz => ?_, fun p a b ha hb => ?_, fun p a hp ha => ?_⟩
 ·rcases List.mem_append.1 hz with hz | hz
  ·exact h.lt z hz
  ·rw [List.mem_singleton.1 hz]; exact hy
 ·have hlt : p + 1 < (c ++ [y]).length := (List.getElem?_eq_some_iff.1 hb).1
  simp only [List.length_append, List.length_cons, List.length_nil] at hlt
  rw [List.getElem?_append_left (by omega)] at ha
  by_cases e : p + 1 = c.length
  ·rw [List.getElem?_append_right (by omega), e, Nat.sub_self] at hb
   have hb' : y = b := by simpa using hb
   rw [show c.length - 1 = p by omega, ha] at hx
   rw [Option.some.inj hx, ← hb']; exact hxy
  ·rw [List.getElem?_append_left (by omega)] at hb
   exact h.st p a b ha hb
 ·have hlt : p < (c ++ [y]).length := (List.getElem?_eq_some_iff.1 ha).1
  simp only [List.length_append, List.length_cons, List.length_nil] at hlt
  by_cases e : p = c.length
  ·rw [List.getElem?_append_right (by omega), e, Nat.sub_self] at ha
   have : y = a := by simpa using ha
   rw [← this]; exact hyi
  ·rw [List.getElem?_append_left (by omega)] at ha
   exact h.off p a hp ha
/-- The way that is laid from i. -/
theorem ring_row (hg : ∀ x y, g x y = true → x < 13 ∧ y < 13) (hirr : ∀ x, g x x = false) {S i : Nat} {d : Nat → Option Nat} (hS : Sh g (fun _ _ => True) S) (hS1 : S ≠ 0) (hSb : S ≤ 100) (hi : i < 13) (F : Far g i d) :
  ∃ c, loopM (m_iGraphRing_s4 (gl g) (S : Int) (i : Int) (dl d)) [(i : Int)] = some (cI c) ∧ Pth g i c ∧ c.length ≤ S ∧
   ((c.length = S ∧ ∃ z, c[S - 1]? = some z ∧ g z i = true) ∨ (c.length ≠ S ∧ ¬ ∃ j, g i j = true ∧ Wk g i (S - 1) j)) := by
 have hS2 := hS.two hirr hS1
 obtain ⟨r, hr, c, rfl, hJ⟩ := loopM_count (m_iGraphRing_s4 (gl g) (S : Int) (i : Int) (dl d)) (S - 1)
  (fun k s => ∃ c, s = cI c ∧ Pth g i c ∧ c.length = k + 1 ∧ (k = 0 ∨ (k ≠ 0 ∧ ∃ z u, c[k]? = some z ∧ d z = some u ∧ u + k ≤ S)))
  (fun r => ∃ c, r = cI c ∧ Pth g i c ∧ c.length ≤ S ∧ ((c.length = S ∧ ∃ z, c[S - 1]? = some z ∧ g z i = true) ∨ (c.length ≠ S ∧ ¬ ∃ j, g i j = true ∧ Wk g i (S - 1) j))) (s0 := [(i : Int)])
  ⟨[i], rfl, ⟨by simp, rfl, fun x hx => by rw [List.mem_singleton.1 hx]; exact hi, fun p x y _ hy => by simp at hy, fun p x hp hx => by
   have : p < [i].length := (List.getElem?_eq_some_iff.1 hx).1
   simp at this; omega⟩, rfl, .inl rfl⟩
  (fun k s hk hI => by
   obtain ⟨c, rfl, hP, hl, hz⟩ := hI
   obtain ⟨xl, hlast⟩ : ∃ x, c[k]? = some x := ⟨_, List.getElem?_eq_getElem (by omega)⟩
   have hx13 : xl < 13 := hP.lt _ (List.mem_of_getElem? hlast)
   have hgl : geti (cI c) (wr (((cI c).length : Int) - 1)) = some (xl : Int) := by
    rw [cI_len, hl, show wr (((k + 1 : Nat) : Int) - 1) = ((k : Nat) : Int) from by rw [wr_in (by omega)]; omega]
    rw [geti_nat]
    unfold cI
    rw [List.getElem?_map, hlast]; rfl
   have hhead : ∀ y3 : Int, m_sIndexGraph (cI (nx g xl)) (dl d) (S : Int) (cI c) (i : Int) = some y3 →
     m_iGraphRing_s4 (gl g) (S : Int) (i : Int) (dl d) (cI c) = (bif decide (y3 < 0) then some (Ctl.out (cI c)) else Option.bind (geti (cI (nx g xl)) y3) fun x6 => Option.bind (apC (cI c) (([x6] : List (Int)))) fun _ => some (Ctl.next (cI c ++ (([x6] : List (Int)))))) := fun y3 hy => by
    unfold m_iGraphRing_s4
    dsimp only
    rw [bif_t (by rw [decide_eq_true_eq, cI_len]; omega), hgl]
    simp only [Option.bind_some]
    rw [gl_get g hx13]
    simp only [Option.bind_some]
    rw [hy]
    rfl
   rcases ringIdx_eq (g := g) (d := d) (S := S) (i := i) (x := xl) (c := c) hSb (by omega) F.small with ⟨j, hj, ⟨u, hu, hle, hne⟩, hrun⟩ | ⟨hno, hrun⟩
   ·left
    obtain ⟨hj13, hgj⟩ := (mem_nx g).1 (List.getElem_mem hj)
    refine ⟨cI (c ++ [(nx g xl)[j]]), ?_, _, rfl, hP.snoc (by rw [hl]; exact hlast) hj13 hgj hne, by simp [hl], .inr ⟨by omega, _, u, by rw [List.getElem?_append_right (by omega), hl, Nat.sub_self]; rfl, hu, by omega⟩⟩
    rw [hhead _ hrun, bif_f (by rw [decide_eq_false_iff_not]; omega), geti_cI hj]
    simp only [Option.bind_some]
    rw [apC_sm (by rw [cI_len]; simp; omega)]
    simp [cI]
   ·right
    refine ⟨cI c, by rw [hhead _ hrun, bif_t (by rfl)], c, rfl, hP, by omega, .inr ⟨by omega, ?_⟩⟩
    rcases hz with rfl | ⟨hk0, z, u, hz, hu, hle⟩
    ·have hc0 : xl = i := Option.some.inj (hlast.symm.trans hP.hd)
     rintro ⟨j, hj, hw⟩
     obtain ⟨u, hu, hle⟩ := F.all _ _ hw
     refine hno j (hg _ _ hj).2 (by rw [hc0]; exact hj) ⟨u, hu, by omega, fun e => ?_⟩
     subst e
     rw [hirr] at hj; cases hj
    ·exfalso
     obtain rfl : xl = z := Option.some.inj (hlast.symm.trans hz)
     have hoff := hP.off k _ (by omega) hlast
     have hw := F.sound _ _ hu
     cases hw with
     | z => exact hoff rfl
     | @s m _ y hxy hwy =>
      obtain ⟨u', hu', hle'⟩ := F.all _ _ hwy
      refine hno y (hg _ _ hxy).2 hxy ⟨u', hu', by omega, fun e => ?_⟩
      subst e
      have h1 : c[1]? = some (c[1]'(by omega)) := List.getElem?_eq_getElem _
      have w := hP.wk (k - 1) 1 1 _ _ h1 (by rw [show 1 + (k - 1) = k by omega]; exact hlast) (.s hxy .z)
      have := (hS.lo _ _ _ trivial (hP.st 0 _ _ hP.hd h1) w).2
      omega)
  (fun s hI => by
   obtain ⟨c, rfl, hP, hl, hz⟩ := hI
   have hlS : c.length = S := by clear hz; omega
   refine ⟨cI c, ?_, c, rfl, hP, by omega, .inl ⟨hlS, ?_⟩⟩
   ·unfold m_iGraphRing_s4
    dsimp only
    rw [bif_f (by rw [decide_eq_false_iff_not, cI_len]; omega)]
   ·rcases hz with h | ⟨_, z, u, hz, hu, hle⟩
    ·omega
    ·refine ⟨z, hz, ?_⟩
     have hoff := hP.off (S - 1) _ (by omega) hz
     have hw := F.sound _ _ hu
     cases hw with
     | z => exact absurd rfl hoff
     | @s m _ y hxy hwy =>
      have hm : m = 0 := by omega
      subst hm
      obtain rfl := wk_zero hwy
      exact hxy)
 exact ⟨c, hr, hJ⟩
/-- A ring: it comes back, and is at no number twice. -/
structure Rng (g : Nat → Nat → Bool) (c : List Nat) : Prop where
 two : 2 ≤ c.length
 nd : c.Nodup
 st : ∀ p x y, c[p]? = some x → c[(p + 1) % c.length]? = some y → g x y = true
theorem ring_eq (hg : ∀ x y, g x y = true → x < 13 ∧ y < 13) (hirr : ∀ x, g x x = false) :
  ∃ S : Nat, m_iGraphShort (gl g) = some (S : Int) ∧ ((S = 0 ∧ (∀ i j m, g i j = true → ¬ Wk g i m j) ∧ m_iGraphRing (gl g) = some []) ∨
   (S ≠ 0 ∧ ∃ c, Rng g c ∧ m_iGraphRing (gl g) = some (cI c))) := by
 obtain ⟨S, h1, hSb, hS⟩ := short_eq hg
 refine ⟨S, h1, ?_⟩
 by_cases h0 : S = 0
 ·left
  subst h0
  refine ⟨rfl, fun i j m h hw => (hS.lo i j m trivial h hw).1 rfl, ?_⟩
  have hrun : loopM (m_iGraphRing_s3 (gl g) ((0 : Nat) : Int)) 0 = some (.inl ()) := by
   refine loopM_val _ 13 (fun k s => s = (k : Int)) rfl (fun k s hk hs => ?_) (fun s hs => ?_)
   ·subst hs
    left
    refine ⟨_, ?_, rfl⟩
    obtain ⟨d, hd, F⟩ := back_eq hg hk
    have hrow : loopM (m_iGraphRing_s4 (gl g) ((0 : Nat) : Int) (k : Int) (dl d)) [(k : Int)] = some [(k : Int)] := loopM_out (by
     unfold m_iGraphRing_s4
     rfl)
    unfold m_iGraphRing_s3
    dsimp only
    rw [bif_t (by rw [decide_eq_true_eq, gl_len]; omega), hd]
    simp only [Option.bind_some]
    rw [hrow, wr_suc (by omega)]
    rfl
   ·subst hs
    unfold m_iGraphRing_s3
    dsimp only
    rw [bif_f (by rw [decide_eq_false_iff_not, gl_len]; omega)]
  unfold m_iGraphRing
  rw [h1]
  simp only [Option.bind_some]
  rw [hrun]
  rfl
 ·right
  refine ⟨h0, ?_⟩
  have hS2 := hS.two hirr h0
  obtain ⟨i0, j0, hij, hw0⟩ := hS.is h0
  obtain ⟨r, hr, c, hc, rfl⟩ := loopM_count (m_iGraphRing_s3 (gl g) (S : Int)) 13
   (fun k s => s = (k : Int) ∧ k ≤ i0) (fun r => ∃ c, Rng g c ∧ r = .inr (cI c)) (s0 := 0) ⟨rfl, Nat.zero_le _⟩
   (fun k s hk hI => by
    obtain ⟨rfl, hki⟩ := hI
    obtain ⟨d, hd, F⟩ := back_eq hg hk
    obtain ⟨c, hrow, hP, hle, hcase⟩ := ring_row hg hirr hS h0 hSb hk F
    have hhead : m_iGraphRing_s3 (gl g) (S : Int) (k : Int) = (bif (((cI c).length : Int)) == (S : Int) then (bif decide ((S : Int) > 0) then Option.bind (geti (cI c) (wr ((S : Int) - 1))) fun x7 => Option.bind (geti (gl g) x7) fun x8 => Option.bind (m_sConta1 x8 (k : Int)) fun y4 => (bif y4 then some (Ctl.out (Sum.inr (cI c))) else some (Ctl.next (wr ((k : Int) + 1)))) else some (Ctl.next (wr ((k : Int) + 1)))) else some (Ctl.next (wr ((k : Int) + 1)))) := by
     unfold m_iGraphRing_s3
     dsimp only
     rw [bif_t (by rw [decide_eq_true_eq, gl_len]; omega), hd]
     simp only [Option.bind_some]
     rw [hrow]
     rfl
    rcases hcase with ⟨hl, z, hz, hzi⟩ | ⟨hl, hno⟩
    ·right
     refine ⟨.inr (cI c), ?_, c, ⟨by omega, hP.nodup hS hl hz hzi, fun p x y hx hy => ?_⟩, rfl⟩
     ·have hz13 := hP.lt z (List.mem_of_getElem? hz)
      have hgz : geti (cI c) (wr ((S : Int) - 1)) = some (z : Int) := by
       rw [show wr ((S : Int) - 1) = ((S - 1 : Nat) : Int) from by rw [wr_in (by omega)]; omega, geti_nat]
       unfold cI
       rw [List.getElem?_map, hz]; rfl
      rw [hhead, bif_t (by rw [cI_len, hl]; simp), bif_t (by rw [decide_eq_true_eq]; omega), hgz]
      simp only [Option.bind_some]
      rw [gl_get g hz13]
      simp only [Option.bind_some]
      rw [ContainsI_eq _ (by rw [cI_len]; have := nx_len g z; omega), decide_eq_true (mem_cI.2 ((mem_nx g).2 ⟨hk, hzi⟩))]
      rfl
     ·have hp : p < c.length := (List.getElem?_eq_some_iff.1 hx).1
      by_cases e : p + 1 = c.length
      ·rw [e, Nat.mod_self, hP.hd] at hy
       rw [show S - 1 = p by omega, hx] at hz
       rw [Option.some.inj hz, ← Option.some.inj hy]; exact hzi
      ·rw [Nat.mod_eq_of_lt (by omega)] at hy
       exact hP.st p x y hx hy
    ·left
     refine ⟨((k + 1 : Nat) : Int), ?_, rfl, ?_⟩
     ·rw [hhead, bif_f (by rw [beq_eq_false_iff_ne, cI_len]; omega), wr_suc (by omega)]
     ·by_cases e : k = i0
      ·subst e; exact absurd ⟨j0, hij, hw0⟩ hno
      ·omega)
   (fun s hI => by
    obtain ⟨rfl, hki⟩ := hI
    have := (hg _ _ hij).1
    omega)
  refine ⟨c, hc, ?_⟩
  unfold m_iGraphRing
  rw [h1]
  simp only [Option.bind_some]
  rw [hr]
  rfl
end
end Go.Proofs.YtbfjekmefcpkmaaDoor

set_option linter.unusedSimpArgs false
set_option linter.unusedVariables false
set_option linter.unusedSectionVars false
namespace Go.Proofs.YtbfjekmefcpkmaaDoor
open Go.RowKit

section
variable {T U : List Int}
def nn (T U : List Int) (a b : Nat) : Bool := decide (a ∈ netL T U) && decide (b ∈ netL T U)
/-- One net must be above another. -/
def Rab (T U : List Int) (a b : Nat) : Bool := nn T U a b && abv T U (a : Int) (b : Int)
theorem aboveR_eq (P : Pins T U) : ∃ m, m_iChannAbove1 T U = some m ∧ (∀ a b : Nat, (mget m ((a : Int), (b : Int))).getD false = Rab T U a b) ∧ (m ≠ [] → ∃ a b, Rab T U a b = true) := by
 have hm := P.small
 have hlen : (cI (netL T U)).length ≤ 1000 := by rw [cI_len]; have := netL_len (T := T) (U := U); omega
 obtain ⟨r, h1, h2⟩ := loopM_count (m_iChannAbove1_s1 T U (cI (netL T U))) T.length
  (fun k s => s.1 = (k : Int) ∧ (∀ a b : Nat, (mget s.2 ((a : Int), (b : Int))).getD false = (nn T U a b && (decide ((a : Int) ≠ b) && anyIn 0 k fun i => T.getD i 0 == (a : Int) && U.getD i 0 == (b : Int)))) ∧ (s.2 ≠ [] → ∃ a b : Nat, (mget s.2 ((a : Int), (b : Int))).getD false = true))
  (fun m => (∀ a b : Nat, (mget m ((a : Int), (b : Int))).getD false = Rab T U a b) ∧ (m ≠ [] → ∃ a b : Nat, (mget m ((a : Int), (b : Int))).getD false = true)) (s0 := (0, [])) ⟨rfl, fun a b => by
   have : anyIn 0 0 (fun i => T.getD i 0 == (a : Int) && U.getD i 0 == (b : Int)) = false := anyIn_f.2 fun k _ h => by omega
   rw [this]; simp [mget], fun h => absurd rfl h⟩ (by
  rintro k ⟨x, m⟩ hk ⟨hx, hI, hN⟩
  simp only at hx hI hN
  subst hx
  left
  have hany : ∀ a b : Nat, anyIn 0 (k + 1) (fun i => T.getD i 0 == (a : Int) && U.getD i 0 == (b : Int)) = (anyIn 0 k (fun i => T.getD i 0 == (a : Int) && U.getD i 0 == (b : Int)) || (T.getD k 0 == (a : Int) && U.getD k 0 == (b : Int))) := fun a b => by
   unfold anyIn
   rw [show k + 1 - 0 = k + 1 from rfl, show k - 0 = k from rfl, List.range'_concat, List.any_append]
   simp
  obtain ⟨t, ht⟩ := Int.eq_ofNat_of_zero_le (P.t k hk).1
  obtain ⟨u, hu⟩ := Int.eq_ofNat_of_zero_le (P.u k hk).1
  have ht12 := (P.t k hk).2
  have hu12 := (P.u k hk).2
  have hc1 := Contains_eq (cI (netL T U)) hlen (t : Int)
  have hc2 := Contains_eq (cI (netL T U)) hlen (u : Int)
  have head : ∀ X : Option (List ((Int × Int) × Bool)), (bif ((t : Int) != (u : Int)) then (bif decide ((t : Int) ∈ cI (netL T U)) then (bif decide ((u : Int) ∈ cI (netL T U)) then some (mup m ((t : Int), (u : Int)) true) else some m) else some m) else some m) = X →
    m_iChannAbove1_s1 T U (cI (netL T U)) ((k : Int), m) = Option.bind X fun l2 => some (.next (((k + 1 : Nat) : Int), l2)) := fun X hX => by
   unfold m_iChannAbove1_s1
   dsimp only
   rw [bif_t (by rw [decide_eq_true_eq]; omega), getD_at hk, wr_suc (by omega)]
   simp only [Option.bind_some]
   rw [getD_at (show k < U.length by rw [P.len]; exact hk)]
   simp only [Option.bind_some]
   rw [ht, hu, hc1, hc2]
   simp only [Option.bind_some]
   have hok : mpC (okII ((t : Int), (u : Int))) = some () := by
    unfold mpC okII
    rw [if_pos]
    rw [Bool.and_eq_true]
    exact ⟨okI_iff.2 ⟨by omega, by omega⟩, okI_iff.2 ⟨by omega, by omega⟩⟩
   rw [hok]
   simp only [Option.bind_some]
   rw [hX]
  by_cases hcase : ((t : Int) != (u : Int)) = true ∧ t ∈ netL T U ∧ u ∈ netL T U
  ·refine ⟨(((k + 1 : Nat) : Int), mup m ((t : Int), (u : Int)) true), ?_, rfl, fun a b => ?_, fun _ => ⟨t, u, ?_⟩⟩
   ·rw [head (some (mup m ((t : Int), (u : Int)) true)) (by rw [hcase.1, decide_eq_true (mem_cI.2 hcase.2.1), decide_eq_true (mem_cI.2 hcase.2.2)]; rfl)]; rfl
   ·rw [mget_mup', hany, ht, hu]
    by_cases e : ((a : Int), (b : Int)) = ((t : Int), (u : Int))
    ·rw [if_pos e]
     have e1 := congrArg Prod.fst e
     have e2 := congrArg Prod.snd e
     simp only at e1 e2
     have hne := hcase.1
     rw [bne_iff_ne] at hne
     rw [← e1, ← e2] at hne ⊢
     have ea : a = t := by omega
     have eb : b = u := by omega
     have hnn : nn T U a b = true := by unfold nn; rw [ea, eb, decide_eq_true hcase.2.1, decide_eq_true hcase.2.2]; rfl
     rw [hnn]
     simp [hne]
    ·rw [if_neg e, hI a b]
     have : ((t : Int) == (a : Int) && (u : Int) == (b : Int)) = false := by
      cases h : ((t : Int) == (a : Int) && (u : Int) == (b : Int)) with
      | false => rfl
      | true =>
       rw [Bool.and_eq_true, beq_iff_eq, beq_iff_eq] at h
       exact absurd (by rw [h.1, h.2]) e
     rw [this, Bool.or_false]
   ·rw [mget_mup', if_pos rfl]; rfl
  ·refine ⟨(((k + 1 : Nat) : Int), m), ?_, rfl, fun a b => ?_, hN⟩
   ·rw [head (some m) ?_]; · rfl
    cases h1 : ((t : Int) != (u : Int)) with
    | false => rfl
    | true =>
     by_cases h2 : t ∈ netL T U
     ·have h3 : ¬ u ∈ netL T U := fun h => hcase ⟨h1, h2, h⟩
      rw [decide_eq_true (mem_cI.2 h2), decide_eq_false (fun h => h3 (mem_cI.1 h))]; rfl
     ·rw [decide_eq_false (fun h => h2 (mem_cI.1 h))]; rfl
   ·show (mget m ((a : Int), (b : Int))).getD false = _
    rw [hI a b, hany, ht, hu]
    by_cases hnn : nn T U a b = true
    case neg => rw [Bool.not_eq_true] at hnn; rw [hnn]; rfl
    have hnn2 := hnn
    unfold nn at hnn2
    rw [Bool.and_eq_true, decide_eq_true_eq, decide_eq_true_eq] at hnn2
    obtain ⟨ha, hb⟩ := hnn2
    by_cases hab : (a : Int) = b
    ·rw [decide_eq_false (by simpa using hab)]; simp
    ·have : ((t : Int) == (a : Int) && (u : Int) == (b : Int)) = false := by
      cases h : ((t : Int) == (a : Int) && (u : Int) == (b : Int)) with
      | false => rfl
      | true =>
       rw [Bool.and_eq_true, beq_iff_eq, beq_iff_eq] at h
       have e1 : t = a := by omega
       have e2 : u = b := by omega
       subst e1; subst e2
       exact absurd ⟨by rw [bne_iff_ne]; exact hab, ha, hb⟩ hcase
     rw [this, Bool.or_false]) (by
  rintro ⟨x, m⟩ ⟨hx, hI, hN⟩
  simp only at hx hI hN
  subst hx
  refine ⟨m, ?_, fun a b => ?_, hN⟩
  ·unfold m_iChannAbove1_s1
   dsimp only
   rw [bif_f (by simp)]
  ·exact hI a b)
 refine ⟨r, ?_, h2.1, fun h => by
  obtain ⟨a, b, hab⟩ := h2.2 h
  exact ⟨a, b, by rw [← h2.1 a b]; exact hab⟩⟩
 unfold m_iChannAbove1
 rw [nets_eq P.len P.small]
 simp only [Option.bind_some]
 rw [h1]; rfl
theorem Rab_mem {a b : Nat} (h : Rab T U a b = true) : a ∈ netL T U ∧ b ∈ netL T U := by
 unfold Rab nn at h
 rw [Bool.and_eq_true, Bool.and_eq_true, decide_eq_true_eq, decide_eq_true_eq] at h
 exact h.1
theorem Rab_lt (a b : Nat) (h : Rab T U a b = true) : a < 13 ∧ b < 13 := by
 obtain ⟨h1, h2⟩ := Rab_mem h
 have := (mem_netL.1 h1).1
 have := (mem_netL.1 h2).1
 omega
theorem Rab_irr (a : Nat) : Rab T U a a = false := by
 unfold Rab abv
 simp
theorem ok_small {a b : Nat} (ha : a ≤ 100) (hb : b ≤ 100) : okII ((a : Int), (b : Int)) = true := by
 have h0 : (0 : Int) ≤ a ∧ (a : Int) ≤ 100 := by omega
 have h1 : (0 : Int) ≤ b ∧ (b : Int) ≤ 100 := by omega
 unfold okII
 generalize (a : Int) = x at h0 ⊢
 generalize (b : Int) = y at h1 ⊢
 rw [Bool.and_eq_true]
 exact ⟨okI_iff.2 ⟨by omega, by omega⟩, okI_iff.2 ⟨by omega, by omega⟩⟩
theorem mgC_ok {m : List ((Int × Int) × Bool)} (hm : ∀ a b : Nat, (mget m ((a : Int), (b : Int))).getD false = Rab T U a b) {a b : Nat} (ha : a ≤ 100) (hb : b ≤ 100) : mgC (okII ((a : Int), (b : Int))) false m ((a : Int), (b : Int)) = some (Rab T U a b) := by
 have h1 := hm a b
 have h2 := ok_small ha hb
 generalize (a : Int) = x at h1 h2 ⊢
 generalize (b : Int) = y at h1 h2 ⊢
 unfold mgC
 rw [if_pos h2, h1]
theorem must_gen {p q : Int} {v : Bool} {m : List ((Int × Int) × Bool)} (hv : valB T U = true) (h1 : m_iChannAbove1 T U = some m) (h : mgC (okII (p, q)) false m (p, q) = some v) : m_iMustB T U p q = some v := by
 unfold m_iMustB
 rw [val_eq hv]
 simp only [Option.bind_some, cond_true]
 rw [h1]
 simp only [Option.bind_some]
 rw [h]
 rfl
theorem must_eq (hv : valB T U = true) {a b : Nat} (ha : a ≤ 100) (hb : b ≤ 100) : m_iMustB T U (a : Int) (b : Int) = some (Rab T U a b) := by
 obtain ⟨m, h1, h2, _⟩ := aboveR_eq (valB_pins hv)
 exact must_gen hv h1 (mgC_ok h2 ha hb)
/-- The graph amid its making. -/
def glp (g : Nat → Nat → Bool) (i k : Nat) : List (List Int) := (List.range 13).map fun j => cI ((List.range (if j < i then 13 else if j = i then k else 0)).filter (g j))
theorem glp_len (g : Nat → Nat → Bool) (i k : Nat) : (glp g i k).length = 13 := by simp [glp]
theorem glp_row (g : Nat → Nat → Bool) {i k : Nat} (hi : i < 13) : geti (glp g i k) (i : Int) = some (cI ((List.range k).filter (g i))) := by
 unfold glp
 rw [geti_map hi]; simp
theorem glp_next (g : Nat → Nat → Bool) (i : Nat) : glp g i 13 = glp g (i + 1) 0 := by
 unfold glp
 refine List.map_congr_left fun j hj => ?_
 congr 3
 by_cases h1 : j < i
 ·rw [if_pos h1, if_pos (by omega)]
 ·by_cases h2 : j = i
  ·rw [if_neg h1, if_pos h2, if_pos (by omega)]
  ·rw [if_neg h1, if_neg h2, if_neg (by omega)]; split <;> rfl
theorem glp_set (g : Nat → Nat → Bool) {i k : Nat} (hi : i < 13) : (glp g i k).set i (cI ((List.range (k + 1)).filter (g i))) = glp g i (k + 1) := by
 unfold glp
 refine List.ext_getElem (by simp) fun j h1 h2 => ?_
 rw [List.getElem_set]
 by_cases e : i = j
 ·subst e; simp
 ·rw [if_neg e]
  have e' : ¬ j = i := fun h => e h.symm
  simp [e']
theorem glp_done (g : Nat → Nat → Bool) : glp g 13 0 = gl g := by
 unfold glp gl nx
 refine List.map_congr_left fun j hj => ?_
 rw [if_pos (List.mem_range.1 hj)]
theorem graph_eq (P : Pins T U) : m_iChannAbove T U = some (gl (Rab T U)) := by
 obtain ⟨m, h1, h2, _⟩ := aboveR_eq P
 have inner : ∀ i, i < 13 → loopM (m_iChannAbove_s4 m (glp (Rab T U) i 0) (i : Int)) (glp (Rab T U) i 0, 0) = some (glp (Rab T U) i 13) := fun i hi => by
  refine loopM_val _ 13 (fun k s => s = (glp (Rab T U) i k, (k : Int))) rfl (fun k s hk hs => ?_) (fun s hs => ?_)
  ·subst hs
   refine .inl ⟨_, ?_, rfl⟩
   unfold m_iChannAbove_s4
   dsimp only
   rw [bif_t (by rw [decide_eq_true_eq, glp_len]; omega), mgC_ok h2 (by omega) (by omega)]
   simp only [Option.bind_some]
   have hlen : ((List.range k).filter (Rab T U i)).length ≤ k := by
    have := List.length_filter_le (Rab T U i) (List.range k)
    rwa [List.length_range] at this
   cases hR : Rab T U i k with
   | false =>
    have e : glp (Rab T U) i (k + 1) = glp (Rab T U) i k := by
     rw [← glp_set _ hi, List.range_succ, List.filter_append]
     have : ([k] : List Nat).filter (Rab T U i) = [] := by simp [hR]
     rw [this, List.append_nil]
     refine List.ext_getElem (by simp) fun j h1 h2 => ?_
     rw [List.getElem_set]
     by_cases e : i = j
     ·subst e; simp [glp]
     ·rw [if_neg e]
    rw [e, wr_suc (by omega)]
    rfl
   | true =>
    rw [cond_true, glp_row _ hi]
    simp only [Option.bind_some]
    rw [apC_sm (by rw [cI_len]; simp; omega)]
    simp only [Option.bind_some]
    rw [wr_suc (by omega), Int.toNat_natCast]
    have e : cI ((List.range k).filter (Rab T U i)) ++ [(k : Int)] = cI ((List.range (k + 1)).filter (Rab T U i)) := by
     rw [List.range_succ, List.filter_append]
     have : ([k] : List Nat).filter (Rab T U i) = [k] := by simp [hR]
     rw [this]
     simp [cI]
    rw [e, glp_set _ hi]
  ·subst hs
   unfold m_iChannAbove_s4
   dsimp only
   rw [bif_f (by rw [decide_eq_false_iff_not, glp_len]; omega)]
 have outer : loopM (m_iChannAbove_s3 m) (List.replicate (Int.toNat 13) ([] : List Int), 0) = some (gl (Rab T U)) := by
  have e0 : List.replicate (Int.toNat 13) ([] : List Int) = glp (Rab T U) 0 0 := by
   refine List.ext_getElem (by simp [glp]) fun j h1 h2 => ?_
   rw [List.getElem_replicate]
   simp [glp, cI]
  rw [e0]
  refine loopM_val _ 13 (fun k s => s = (glp (Rab T U) k 0, (k : Int))) rfl (fun k s hk hs => ?_) (fun s hs => ?_)
  ·subst hs
   refine .inl ⟨_, ?_, rfl⟩
   unfold m_iChannAbove_s3
   dsimp only
   rw [bif_t (by rw [decide_eq_true_eq, List.length_replicate]; show (k : Int) < ((13 : Nat) : Int); omega), inner k hk, wr_suc (by omega), glp_next]
   rfl
  ·subst hs
   unfold m_iChannAbove_s3
   dsimp only
   rw [bif_f (by rw [decide_eq_false_iff_not, List.length_replicate]; show ¬ ((13 : Nat) : Int) < ((13 : Nat) : Int); omega), glp_done]
 unfold m_iChannAbove
 have hmk : mkC (13 : Int) = some () := rfl
 rw [hmk, h1]
 simp only [Option.bind_some]
 rw [outer]
 rfl
theorem cycle_eq (hv : valB T U = true) : ((∀ i j m, Rab T U i j = true → ¬ Wk (Rab T U) i m j) ∧ m_iGraphShort (gl (Rab T U)) = some 0 ∧ m_impl_CycleOf T U = some ([], false)) ∨
  (∃ c, Rng (Rab T U) c ∧ (∃ S : Nat, S ≠ 0 ∧ m_iGraphShort (gl (Rab T U)) = some (S : Int)) ∧ m_impl_CycleOf T U = some (cI c, true)) := by
 have P := valB_pins hv
 have copy : ∀ c : List Nat, c.length ≤ 1000 → loopM (m_impl_CycleOf_s1 (cI c)) (([] : List Int), 0) = some (cI c) := fun c hc => by
  refine loopM_val _ c.length (fun k s => s = (cI (c.take k), (k : Int))) (by simp [cI]) (fun k s hk hs => ?_) (fun s hs => ?_)
  ·subst hs
   refine .inl ⟨_, ?_, rfl⟩
   unfold m_impl_CycleOf_s1
   dsimp only
   rw [bif_t (by rw [decide_eq_true_eq, cI_len]; omega), geti_cI hk]
   simp only [Option.bind_some]
   rw [apC_sm (by rw [cI_len]; simp; omega), wr_suc (by omega), List.take_succ_eq_append_getElem hk]
   simp only [Option.bind_some]
   unfold cI
   rw [List.map_append]
   rfl
  ·subst hs
   unfold m_impl_CycleOf_s1
   dsimp only
   rw [bif_f (by rw [decide_eq_false_iff_not, cI_len]; omega), List.take_length]
 have head : ∀ c : List Nat, c.length ≤ 1000 → m_iGraphRing (gl (Rab T U)) = some (cI c) → m_impl_CycleOf T U = some (cI c, decide (0 < c.length)) := fun c hc hr => by
  unfold m_impl_CycleOf
  rw [val_eq hv]
  simp only [Option.bind_some]
  rw [bif_f (by rfl), graph_eq P]
  simp only [Option.bind_some]
  rw [hr]
  simp only [Option.bind_some]
  rw [copy c hc]
  simp only [Option.bind_some]
  rw [cI_len]
  congr 2
  exact decide_eq_decide.2 (by omega)
 obtain ⟨S, h1, ⟨rfl, h2, h3⟩ | ⟨h0, c, hc, h3⟩⟩ := ring_eq (g := Rab T U) Rab_lt Rab_irr
 ·left
  exact ⟨h2, h1, head [] (by simp) h3⟩
 ·right
  have hlen : c.length ≤ 13 := by
   have hsub : c ⊆ List.range 13 := fun x hx => by
    obtain ⟨p, hp, rfl⟩ := List.mem_iff_getElem.1 hx
    have hx1 : c[p]? = some c[p] := List.getElem?_eq_getElem hp
    have hm : (p + 1) % c.length < c.length := Nat.mod_lt _ (by omega)
    have := hc.st p c[p] _ hx1 (List.getElem?_eq_getElem hm)
    exact List.mem_range.2 (Rab_lt _ _ this).1
   have := List.Nodup.length_le_of_subset hc.nd hsub
   rwa [List.length_range] at this
  refine ⟨c, hc, ⟨S, h0, h1⟩, ?_⟩
  have := head c (by omega) h3
  rwa [decide_eq_true (by have := hc.two; omega)] at this
end
end Go.Proofs.YtbfjekmefcpkmaaDoor

set_option linter.unusedSimpArgs false
set_option linter.unusedVariables false
set_option linter.unusedSectionVars false
namespace Go.Proofs.YtbfjekmefcpkmaaDoor
open Go.RowKit

section
variable {A B : Nat → Nat → Bool} {n : Nat}
theorem Tk.height {left m : Nat} (h : Tk A B left m) : ∃ f : Nat → Nat, (∀ i k, left.testBit i = true → left.testBit k = true → B i k = true → f k + 1 ≤ f i) ∧ ∀ i, left.testBit i = true → f i + 1 ≤ m := by
 induction h with
 | z => exact ⟨fun _ => 0, fun i k h => by simp at h, fun i h => by simp at h⟩
 | @s left set m hf _ ih =>
  obtain ⟨f, h1, h2⟩ := ih
  have hs : ∀ k, left.testBit k = true → set.testBit k = false → (sub left set).testBit k = true := fun k a b => by rw [sub_bit, a, b]; rfl
  refine ⟨fun i => if set.testBit i = true then m else f i, fun i k hi hk hB => ?_, fun i hi => ?_⟩
  ·cases hks : set.testBit k with
   | true => rw [hf.up k i hks hi] at hB; cases hB
   | false =>
    have := h2 k (hs k hk hks)
    cases his : set.testBit i with
    | true => simp only [hks, his, Bool.false_eq_true, if_false, if_true]; omega
    | false =>
     simp only [hks, his, Bool.false_eq_true, if_false]
     exact h1 i k (hs i hi his) (hs k hk hks) hB
  ·cases his : set.testBit i with
   | true => simp [his]
   | false =>
    have := h2 i (hs i hi his)
    simp [his]; omega
theorem one_of {l : List Nat} (hn : l.Nodup) (h : ∀ x ∈ l, ∀ y ∈ l, x = y) : l.length ≤ 1 := by
 match l, hn, h with
 | [], _, _ => simp
 | [_], _, _ => simp
 | x :: y :: r, hn, h =>
  have := h x (by simp) y (by simp)
  subst this
  simp at hn
theorem Tk.clique {left m : Nat} (h : Tk A B left m) {q : Nat → Bool} (hq : ∀ i k, q i = true → q k = true → i ≠ k → A i k = true) : ((List.range n).filter fun i => left.testBit i && q i).length ≤ m := by
 induction h with
 | z => simp
 | @s left set m hf _ ih =>
  have h1 := filter_count (fun i => left.testBit i && q i) (fun i => (sub left set).testBit i && q i) (List.range n) (fun i _ hi => by
   rw [Bool.and_eq_true] at hi ⊢
   exact ⟨sub_Sub _ _ i hi.1, hi.2⟩)
  have h2 : ((List.range n).filter fun i => (left.testBit i && q i) && !((sub left set).testBit i && q i)).length ≤ 1 := by
   refine one_of ((List.nodup_range).filter _) fun x hx y hy => ?_
   have key : ∀ x, x ∈ ((List.range n).filter fun i => (left.testBit i && q i) && !((sub left set).testBit i && q i)) → set.testBit x = true ∧ q x = true := fun x hx => by
    have := (List.mem_filter.1 hx).2
    rw [sub_bit] at this
    cases h1 : left.testBit x <;> cases h2 : set.testBit x <;> cases h3 : q x <;> simp [h1, h2, h3] at this ⊢
   obtain ⟨a1, a2⟩ := key x hx
   obtain ⟨b1, b2⟩ := key y hy
   apply Classical.byContradiction
   intro hne
   have := hq x y a2 b2 hne
   rw [hf.ap x y a1 b1] at this
   cases this
  omega
end
section
variable {T U : List Int}
/-- Where a net stands among the nets. -/
def ixN' (T U : List Int) (a : Nat) : Nat := (netL T U).idxOf a
theorem ix_lt' {a : Nat} (h : a ∈ netL T U) : ixN' T U a < nN T U := List.idxOf_lt_length_of_mem h
theorem nm_ix' {a : Nat} (h : a ∈ netL T U) : nmN T U (ixN' T U a) = a := by
 have hl := ix_lt' h
 unfold nN at hl
 unfold nmN
 rw [List.getD, List.getElem?_eq_getElem hl]
 exact List.getElem_idxOf hl
theorem Rab_ab {i k : Nat} (hi : i < nN T U) (hk : k < nN T U) : Rab T U (nmN T U i) (nmN T U k) = abB T U i k := by
 unfold Rab nn abB nmI
 rw [decide_eq_true (nm_mem hi), decide_eq_true (nm_mem hk)]
 rfl
theorem Rab_ix {a b : Nat} (h : Rab T U a b = true) : abB T U (ixN' T U a) (ixN' T U b) = true := by
 obtain ⟨ha, hb⟩ := Rab_mem h
 rw [← Rab_ab (ix_lt' ha) (ix_lt' hb), nm_ix' ha, nm_ix' hb]; exact h
/-- Heights of nets, out of a routing. -/
theorem net_height {m : Nat} (h : Tk (apA T U) (abB T U) (2 ^ nN T U - 1) m) : ∃ H : Nat → Nat, (∀ a b, Rab T U a b = true → H b + 1 ≤ H a) ∧ (∀ a, a ∈ netL T U → H a + 1 ≤ m) ∧ ∀ a, a ∉ netL T U → H a = 0 := by
 obtain ⟨f, h1, h2⟩ := h.height
 have hb : ∀ {a}, a ∈ netL T U → (2 ^ nN T U - 1).testBit (ixN' T U a) = true := fun ha => by rw [full_bit]; exact decide_eq_true (ix_lt' ha)
 refine ⟨fun a => if a ∈ netL T U then f (ixN' T U a) else 0, fun a b hab => ?_, fun a ha => ?_, fun a ha => if_neg ha⟩
 ·obtain ⟨ha, hb'⟩ := Rab_mem hab
  simp only [if_pos ha, if_pos hb']
  exact h1 _ _ (hb ha) (hb hb') (Rab_ix hab)
 ·simp only [if_pos ha]
  exact h2 _ (hb ha)
theorem height_walk {H : Nat → Nat} (h : ∀ a b, Rab T U a b = true → H b + 1 ≤ H a) {i m j : Nat} (hw : Wk (Rab T U) i m j) : H i + m ≤ H j := by
 induction hw with
 | z => exact Nat.le_refl _
 | s hxy _ ih => have := h _ _ hxy; omega
theorem no_ring {m : Nat} (h : Tk (apA T U) (abB T U) (2 ^ nN T U - 1) m) {i j k : Nat} (hij : Rab T U i j = true) (hw : Wk (Rab T U) i k j) : False := by
 obtain ⟨H, h1, _⟩ := net_height h
 have := height_walk h1 hw
 have := h1 _ _ hij
 omega
theorem rng_walk {g : Nat → Nat → Bool} {c : List Nat} (hc : Rng g c) : ∃ i j k, g i j = true ∧ Wk g i k j := by
 have h2 := hc.two
 have h0 : c[0]? = some (c[0]'(by omega)) := List.getElem?_eq_getElem _
 have key : ∀ d p, p + d + 1 = c.length → ∀ x, c[p]? = some x → Wk g (c[0]'(by omega)) (d + 1) x := by
  intro d
  induction d with
  | zero =>
   intro p hp x hx
   exact .s (hc.st p x _ hx (by rw [show p + 1 = c.length by omega, Nat.mod_self]; exact h0)) .z
  | succ d ih =>
   intro p hp x hx
   have h1 : c[p + 1]? = some (c[p + 1]'(by omega)) := List.getElem?_eq_getElem _
   exact .s (hc.st p x _ hx (by rw [Nat.mod_eq_of_lt (by omega)]; exact h1)) (ih (p + 1) (by omega) _ h1)
 have h1 : c[1]? = some (c[1]'(by omega)) := List.getElem?_eq_getElem _
 exact ⟨_, _, _, hc.st 0 _ _ h0 (by rw [Nat.mod_eq_of_lt (by omega)]; exact h1), key (c.length - 2) 1 (by omega) _ h1⟩
/-- Without a ring some net is first. -/
theorem first_net (hno : ∀ i j m, Rab T U i j = true → ¬ Wk (Rab T U) i m j) {left : Nat} (hl : left < 2 ^ nN T U) (h0 : left ≠ 0) : ∃ i, left.testBit i = true ∧ ∀ k, left.testBit k = true → abB T U k i = false := by
 apply Classical.byContradiction
 intro hc
 have hp : ∀ i, left.testBit i = true → ∃ k, left.testBit k = true ∧ abB T U k i = true := fun i hi => by
  apply Classical.byContradiction
  intro h
  refine hc ⟨i, hi, fun k hk => ?_⟩
  cases hb : abB T U k i with
  | false => rfl
  | true => exact absurd ⟨k, hk, hb⟩ h
 obtain ⟨i0, hi0⟩ := nz_bit h0
 -- a walk backwards, as long as one likes
 have hx : ∃ x : Nat → Nat, (∀ t, left.testBit (x t) = true) ∧ ∀ t, abB T U (x (t + 1)) (x t) = true := by
  let P := fun i : { i : Nat // left.testBit i = true } => (⟨Classical.choose (hp i.1 i.2), (Classical.choose_spec (hp i.1 i.2)).1⟩ : { i : Nat // left.testBit i = true })
  let X : Nat → { i : Nat // left.testBit i = true } := fun t => Nat.rec ⟨i0, hi0⟩ (fun _ y => P y) t
  exact ⟨fun t => (X t).1, fun t => (X t).2, fun t => (Classical.choose_spec (hp (X t).1 (X t).2)).2⟩
 obtain ⟨x, hx1, hx2⟩ := hx
 have hlt : ∀ t, x t < nN T U := fun t => bit_lt hl (hx1 t)
 have hnd : ¬ ((List.range (nN T U + 1)).map x).Nodup := fun hn => by
  have := List.Nodup.length_le_of_subset (l₂ := List.range (nN T U)) hn (fun y hy => by
   obtain ⟨t, _, rfl⟩ := List.mem_map.1 hy
   exact List.mem_range.2 (hlt t))
  simp at this
  omega
 have hst : ∃ s t, s < t ∧ x s = x t := by
  apply Classical.byContradiction
  intro h
  apply hnd
  rw [List.nodup_iff_pairwise_ne, List.pairwise_iff_getElem]
  intro p q hp hq hpq e
  simp at e
  exact h ⟨p, q, hpq, e⟩
 obtain ⟨s, t, hst, e⟩ := hst
 have hw : ∀ d, Wk (Rab T U) (nmN T U (x s)) d (nmN T U (x (s + d))) := by
  intro d
  induction d with
  | zero => exact .z
  | succ d ih => exact .s (by rw [Rab_ab (hlt _) (hlt _)]; exact hx2 (s + d)) ih
 obtain ⟨d, rfl⟩ : ∃ d, t = s + d + 1 := ⟨t - s - 1, by omega⟩
 refine hno (nmN T U (x s)) (nmN T U (x (s + d))) d ?_ (hw d)
 rw [e, Rab_ab (hlt _) (hlt _)]
 exact hx2 _
theorem free_tk (hno : ∀ i j m, Rab T U i j = true → ¬ Wk (Rab T U) i m j) : ∀ (d left : Nat), cnt (nN T U) left = d → left < 2 ^ nN T U → ∃ m, Tk (apA T U) (abB T U) left m := by
 intro d
 induction d using Nat.strongRecOn with
 | _ d ih =>
  intro left hd hl
  by_cases h0 : left = 0
  ·subst h0; exact ⟨0, .z⟩
  ·obtain ⟨i, hi, hB⟩ := first_net hno hl h0
   have hf : Fit (apA T U) (abB T U) left (2 ^ i) := by
    refine ⟨fun k hk => ?_, ?_, fun a k ha hk => ?_, fun a k ha hk => ?_⟩
    ·rw [Nat.testBit_two_pow, decide_eq_true_eq] at hk
     subst hk; exact hi
    ·have := Nat.two_pow_pos i; omega
    ·rw [Nat.testBit_two_pow, decide_eq_true_eq] at ha
     subst ha; exact hB k hk
    ·rw [Nat.testBit_two_pow, decide_eq_true_eq] at ha hk
     subst ha; subst hk
     simp [apA]
   obtain ⟨m, hm⟩ := ih _ (by rw [← hd]; exact cnt_sub hf hl) _ rfl (sub_lt hl)
   exact ⟨m + 1, .s hf hm⟩
end
end Go.Proofs.YtbfjekmefcpkmaaDoor

set_option linter.unusedSimpArgs false
set_option linter.unusedVariables false
set_option linter.unusedSectionVars false
namespace Go.Proofs.YtbfjekmefcpkmaaDoor
open Go.RowKit

section
variable {T U : List Int}
theorem long_inner {H : Nat → Nat} (hH : ∀ a b, Rab T U a b = true → H b + 1 ≤ H a) (hb : ∀ a, H a ≤ 100) {a : Nat} (ha : a < 13) {f : Nat → Nat} (hf : ∀ x, f x ≤ H x) :
  ∃ f' : Nat → Nat, loopM (m_iLonge_s13 (a : Int) (cI (nx (Rab T U) a))) (0, rg 13 f) = some (rg 13 f') ∧ ∀ x, f' x ≤ H x := by
 have hl := nx_len (Rab T U) a
 obtain ⟨r, hr, f', rfl, h1⟩ := loopM_count (m_iLonge_s13 (a : Int) (cI (nx (Rab T U) a))) (nx (Rab T U) a).length
  (fun k s => ∃ f' : Nat → Nat, s = ((k : Int), rg 13 f') ∧ ∀ x, f' x ≤ H x) (fun r => ∃ f' : Nat → Nat, r = rg 13 f' ∧ ∀ x, f' x ≤ H x) (s0 := (0, rg 13 f)) ⟨f, rfl, hf⟩
  (fun k s hk hI => by
   obtain ⟨f, rfl, hf⟩ := hI
   left
   obtain ⟨hj, hR⟩ := (mem_nx (Rab T U)).1 (List.getElem_mem hk)
   have hgk : geti (cI (nx (Rab T U) a)) (k : Int) = some (((nx (Rab T U) a)[k] : Nat) : Int) := geti_cI hk
   have h1 := hf (nx (Rab T U) a)[k]
   have h2 := hb (nx (Rab T U) a)[k]
   have h3 := hH _ _ hR
   have h4 := hf a
   have hmx : (if wr (((f (nx (Rab T U) a)[k] : Nat) : Int) + 1) > ((f a : Nat) : Int) then wr (((f (nx (Rab T U) a)[k] : Nat) : Int) + 1) else ((f a : Nat) : Int)) = ((max (f a) (f (nx (Rab T U) a)[k] + 1) : Nat) : Int) := by
    rw [wr_suc (by omega)]
    split <;> omega
   refine ⟨(((k + 1 : Nat) : Int), rg 13 (fun j => if j = a then max (f a) (f (nx (Rab T U) a)[k] + 1) else f j)), ?_, _, rfl, fun x => ?_⟩
   ·unfold m_iLonge_s13
    dsimp only
    rw [bif_t (by rw [decide_eq_true_eq, cI_len]; omega), hgk]
    simp only [Option.bind_some]
    rw [rg_get ha]
    simp only [Option.bind_some]
    rw [rg_get hj]
    simp only [Option.bind_some]
    rw [hmx, Int.toNat_natCast, set_rg ha, wr_suc (by omega)]
   ·show (if x = a then max (f a) (f (nx (Rab T U) a)[k] + 1) else f x) ≤ H x
    split
    ·rename_i e; subst e; omega
    ·exact hf x)
  (fun s hI => by
   obtain ⟨f, rfl, hf⟩ := hI
   refine ⟨_, ?_, f, rfl, hf⟩
   unfold m_iLonge_s13
   dsimp only
   rw [bif_f (by rw [decide_eq_false_iff_not, cI_len]; omega)])
 exact ⟨f', hr, h1⟩
theorem long_round {H : Nat → Nat} (hH : ∀ a b, Rab T U a b = true → H b + 1 ≤ H a) (hb : ∀ a, H a ≤ 100) {f : Nat → Nat} (hf : ∀ x, f x ≤ H x) :
  ∃ f' : Nat → Nat, loopM (m_iLonge_s12 (gl (Rab T U))) (0, rg 13 f) = some (rg 13 f') ∧ ∀ x, f' x ≤ H x := by
 obtain ⟨r, hr, f', rfl, h1⟩ := loopM_count (m_iLonge_s12 (gl (Rab T U))) 13
  (fun k s => ∃ f' : Nat → Nat, s = ((k : Int), rg 13 f') ∧ ∀ x, f' x ≤ H x) (fun r => ∃ f' : Nat → Nat, r = rg 13 f' ∧ ∀ x, f' x ≤ H x) (s0 := (0, rg 13 f)) ⟨f, rfl, hf⟩
  (fun k s hk hI => by
   obtain ⟨f, rfl, hf⟩ := hI
   left
   obtain ⟨f', h1, h2⟩ := long_inner hH hb hk hf
   refine ⟨(((k + 1 : Nat) : Int), rg 13 f'), ?_, _, rfl, h2⟩
   unfold m_iLonge_s12
   dsimp only
   rw [bif_t (by rw [decide_eq_true_eq, gl_len]; omega), gl_get _ hk]
   simp only [Option.bind_some]
   rw [h1, wr_suc (by omega)]
   rfl)
  (fun s hI => by
   obtain ⟨f, rfl, hf⟩ := hI
   refine ⟨_, ?_, f, rfl, hf⟩
   unfold m_iLonge_s12
   dsimp only
   rw [bif_f (by rw [decide_eq_false_iff_not, gl_len]; omega)])
 exact ⟨f', hr, h1⟩
theorem long_all {H : Nat → Nat} (hH : ∀ a b, Rab T U a b = true → H b + 1 ≤ H a) (hb : ∀ a, H a ≤ 100) :
  ∃ f' : Nat → Nat, loopM (m_iLonge_s9 (gl (Rab T U))) (0, rg 13 (fun _ => 0)) = some (rg 13 f') ∧ ∀ x, f' x ≤ H x := by
 obtain ⟨r, hr, f', rfl, h1⟩ := loopM_count (m_iLonge_s9 (gl (Rab T U))) 13
  (fun k s => ∃ f' : Nat → Nat, s = ((k : Int), rg 13 f') ∧ ∀ x, f' x ≤ H x) (fun r => ∃ f' : Nat → Nat, r = rg 13 f' ∧ ∀ x, f' x ≤ H x) (s0 := (0, rg 13 (fun _ => 0))) ⟨_, rfl, fun _ => Nat.zero_le _⟩
  (fun k s hk hI => by
   obtain ⟨f, rfl, hf⟩ := hI
   left
   obtain ⟨f', h1, h2⟩ := long_round hH hb hf
   refine ⟨(((k + 1 : Nat) : Int), rg 13 f'), ?_, _, rfl, h2⟩
   unfold m_iLonge_s9
   dsimp only
   rw [bif_t (by rw [decide_eq_true_eq, gl_len]; omega), h1, wr_suc (by omega)]
   rfl)
  (fun s hI => by
   obtain ⟨f, rfl, hf⟩ := hI
   refine ⟨_, ?_, f, rfl, hf⟩
   unfold m_iLonge_s9
   dsimp only
   rw [bif_f (by rw [decide_eq_false_iff_not, gl_len]; omega)])
 exact ⟨f', hr, h1⟩
theorem Max_eq {f : Nat → Nat} {M : Nat} (hf : ∀ x, x < 13 → f x ≤ M) : ∃ v : Nat, m_sMax (rg 13 f) = some (v : Int) ∧ v ≤ M := by
 have h0 : geti (rg 13 f) 0 = some ((f 0 : Nat) : Int) := rg_get (i := 0) (by omega)
 obtain ⟨r, hr, v, rfl, h1⟩ := loopM_count (m_sMax_s1 (rg 13 f)) 12
  (fun k s => ∃ v : Nat, s = ((v : Int), ((k + 1 : Nat) : Int)) ∧ v ≤ M) (fun r => ∃ v : Nat, r = (v : Int) ∧ v ≤ M) (s0 := (((f 0 : Nat) : Int), 1)) ⟨f 0, rfl, hf 0 (by omega)⟩
  (fun k s hk hI => by
   obtain ⟨v, rfl, hv⟩ := hI
   left
   have := hf (k + 1) (by omega)
   refine ⟨(((max v (f (k + 1)) : Nat) : Int), ((k + 1 + 1 : Nat) : Int)), ?_, _, rfl, by omega⟩
   unfold m_sMax_s1
   dsimp only
   rw [bif_t (by rw [decide_eq_true_eq, rg_len]; omega), rg_get (i := k + 1) (by omega)]
   simp only [Option.bind_some]
   rw [wr_suc (by omega)]
   have : (if ((f (k + 1) : Nat) : Int) > (v : Int) then ((f (k + 1) : Nat) : Int) else (v : Int)) = ((max v (f (k + 1)) : Nat) : Int) := by split <;> omega
   rw [this])
  (fun s hI => by
   obtain ⟨v, rfl, hv⟩ := hI
   refine ⟨_, ?_, v, rfl, hv⟩
   unfold m_sMax_s1
   dsimp only
   rw [bif_f (by rw [decide_eq_false_iff_not, rg_len]; omega)])
 refine ⟨v, ?_, h1⟩
 unfold m_sMax
 rw [bif_f (by rw [decide_eq_false_iff_not, rg_len]; omega)]
 simp only [Option.bind_some]
 rw [h0]
 simp only [Option.bind_some]
 rw [hr]
 rfl
theorem longest_no (hv : valB T U = true) {S : Nat} (h0 : S ≠ 0) (hS : m_iGraphShort (gl (Rab T U)) = some (S : Int)) : m_iLonge T U = some (0, false) := by
 have P := valB_pins hv
 unfold m_iLonge
 rw [val_eq hv]
 simp only [Option.bind_some]
 rw [bif_f (by rfl), graph_eq P]
 simp only [Option.bind_some]
 rw [hS]
 simp only [Option.bind_some]
 rw [bif_t (by rw [decide_eq_true_eq]; omega)]
theorem longest_yes (hv : valB T U = true) (hS : m_iGraphShort (gl (Rab T U)) = some 0) {m : Nat} (hm : m ≤ 100) (h : Tk (apA T U) (abB T U) (2 ^ nN T U - 1) m) : ∃ v : Nat, m_iLonge T U = some ((v : Int), true) ∧ v ≤ m := by
 have P := valB_pins hv
 obtain ⟨H, h1, h2, h3⟩ := net_height h
 have hb : ∀ a, H a ≤ 100 := fun a => by
  by_cases ha : a ∈ netL T U
  ·have := h2 a ha; omega
  ·rw [h3 a ha]; omega
 obtain ⟨f, hr, hf⟩ := long_all h1 hb
 have e0 : List.replicate (Int.toNat (((gl (Rab T U)).length : Nat) : Int)) (0 : Int) = rg 13 (fun _ => 0) := by rw [gl_len]; rfl
 have hmk : mkC (((gl (Rab T U)).length : Nat) : Int) = some () := by rw [gl_len]; rfl
 have head : ∀ X, m_iLonge T U = X ↔ (bif (((cI (netL T U)).length : Int)) == 0 then some ((0, true)) else Option.bind (m_sMax (rg 13 f)) fun y5 => some ((wr (y5 + 1), true))) = X := fun X => by
  unfold m_iLonge
  rw [val_eq hv]
  simp only [Option.bind_some]
  rw [bif_f (by rfl), graph_eq P]
  simp only [Option.bind_some]
  rw [hS]
  simp only [Option.bind_some]
  rw [bif_f (by rfl), hmk]
  simp only [Option.bind_some]
  rw [e0, hr]
  simp only [Option.bind_some]
  rw [nets_eq P.len P.small]
  simp only [Option.bind_some]
 by_cases hn : netL T U = []
 ·refine ⟨0, (head _).2 ?_, Nat.zero_le _⟩
  rw [hn]; rfl
 ·obtain ⟨a, ha⟩ := List.exists_mem_of_ne_nil _ hn
  have hm1 := h2 a ha
  obtain ⟨v, hv1, hv2⟩ := Max_eq (f := f) (M := m - 1) (fun x _ => by
   have := hf x
   by_cases hx : x ∈ netL T U
   ·have := h2 x hx; omega
   ·rw [h3 x hx] at this; omega)
  refine ⟨v + 1, (head _).2 ?_, by omega⟩
  have hpos : 0 < (netL T U).length := List.length_pos_iff.2 hn
  rw [bif_f (by rw [beq_eq_false_iff_ne, cI_len]; omega), hv1]
  simp only [Option.bind_some]
  rw [wr_suc (by omega)]
/-! ### Density -/
def cov (T U : List Int) (c i : Nat) : Bool := decide (loC T U (nmI T U i) ≤ (c : Int)) && decide ((c : Int) ≤ hiC T U (nmI T U i))
def dens (T U : List Int) (c : Nat) : Nat := ((List.range (nN T U)).filter (cov T U c)).length
theorem dens_eq (P : Pins T U) (c : Nat) : m_iChannDensi T U (c : Int) = some ((dens T U c : Nat) : Int) := by
 have hn := nN_le (T := T) (U := U)
 have hrun : loopM (m_iChannDensi_s1 T U (c : Int) (cI (netL T U))) (0, 0) = some ((dens T U c : Nat) : Int) := by
  refine loopM_val _ (nN T U) (fun k s => s = (((((List.range k).filter (cov T U c)).length : Nat) : Int), (k : Int))) rfl (fun k s hk hs => ?_) (fun s hs => ?_)
  ·subst hs
   refine .inl ⟨_, ?_, rfl⟩
   have hgk : geti (cI (netL T U)) (k : Int) = some (nmI T U k) := by rw [names_eq]; exact geti_map hk
   have hlen : ((List.range k).filter (cov T U c)).length ≤ k := by
    have := List.length_filter_le (cov T U c) (List.range k)
    rwa [List.length_range] at this
   have hin : m_impl_in (c : Int) (loC T U (nmI T U k)) (hiC T U (nmI T U k)) = some (cov T U c k) := by
    unfold m_impl_in
    by_cases h : (c : Int) ≥ loC T U (nmI T U k)
    ·rw [bif_t (by simpa using h)]
     unfold cov
     rw [decide_eq_true (show loC T U (nmI T U k) ≤ (c : Int) from h), Bool.true_and]
    ·rw [bif_f (by simpa using h)]
     unfold cov
     rw [decide_eq_false (show ¬ loC T U (nmI T U k) ≤ (c : Int) from h), Bool.false_and]
   unfold m_iChannDensi_s1
   dsimp only
   rw [bif_t (by rw [decide_eq_true_eq, cI_len]; show (k : Int) < ((nN T U : Nat) : Int); omega), hgk]
   simp only [Option.bind_some]
   rw [span_eq P.len P.small _ (nm_cols hk)]
   simp only [Option.bind_some]
   rw [hin, wr_suc (show k < 2 ^ 40 by omega), List.range_succ, List.filter_append]
   simp only [Option.bind_some]
   cases hc : cov T U c k with
   | false =>
    have : ([k] : List Nat).filter (cov T U c) = [] := by simp [hc]
    rw [this, List.append_nil]
    rfl
   | true =>
    have : ([k] : List Nat).filter (cov T U c) = [k] := by simp [hc]
    rw [this, List.length_append, wr_suc (by omega)]
    rfl
  ·subst hs
   unfold m_iChannDensi_s1
   dsimp only
   rw [bif_f (by rw [decide_eq_false_iff_not, cI_len]; show ¬ ((nN T U : Nat) : Int) < ((nN T U : Nat) : Int); omega)]
   rfl
 unfold m_iChannDensi
 rw [nets_eq P.len P.small]
 simp only [Option.bind_some]
 rw [hrun]
 rfl
theorem density_eq (hv : valB T U = true) : ∃ d : Nat, m_iDensi T U = some ((d : Int), true) ∧ (∀ c, c < T.length → dens T U c ≤ d) ∧ (d = 0 ∨ ∃ c, c < T.length ∧ dens T U c = d) := by
 have P := valB_pins hv
 have hT := P.small
 obtain ⟨r, hr, d, rfl, h1, h2⟩ := loopM_count (m_iDensi_s1 T U) T.length
  (fun k s => ∃ d : Nat, s = ((d : Int), (k : Int)) ∧ (∀ c, c < k → dens T U c ≤ d) ∧ (d = 0 ∨ ∃ c, c < k ∧ dens T U c = d))
  (fun r => ∃ d : Nat, r = (d : Int) ∧ (∀ c, c < T.length → dens T U c ≤ d) ∧ (d = 0 ∨ ∃ c, c < T.length ∧ dens T U c = d)) (s0 := (0, 0)) ⟨0, rfl, fun c h => by omega, .inl rfl⟩
  (fun k s hk hI => by
   obtain ⟨d, rfl, h1, h2⟩ := hI
   left
   refine ⟨(((max d (dens T U k) : Nat) : Int), ((k + 1 : Nat) : Int)), ?_, _, rfl, fun c hc => ?_, ?_⟩
   ·unfold m_iDensi_s1
    dsimp only
    rw [bif_t (by rw [decide_eq_true_eq]; omega), dens_eq P]
    simp only [Option.bind_some]
    rw [wr_suc (by omega)]
    have : (if ((dens T U k : Nat) : Int) > (d : Int) then ((dens T U k : Nat) : Int) else (d : Int)) = ((max d (dens T U k) : Nat) : Int) := by split <;> omega
    rw [this]
   ·by_cases e : c = k
    ·subst e; omega
    ·have := h1 c (by omega); omega
   ·by_cases hle : dens T U k ≤ d
    ·rw [Nat.max_eq_left hle]
     rcases h2 with h2 | ⟨c, hc, h2⟩
     ·exact .inl h2
     ·exact .inr ⟨c, by omega, h2⟩
    ·exact .inr ⟨k, by omega, by omega⟩)
  (fun s hI => by
   obtain ⟨d, rfl, h1, h2⟩ := hI
   refine ⟨_, ?_, d, rfl, h1, h2⟩
   unfold m_iDensi_s1
   dsimp only
   rw [bif_f (by rw [decide_eq_false_iff_not]; omega)])
 refine ⟨d, ?_, h1, h2⟩
 unfold m_iDensi
 rw [val_eq hv]
 simp only [Option.bind_some]
 rw [bif_f (by rfl), hr]
 rfl
theorem dens_tk {m : Nat} (h : Tk (apA T U) (abB T U) (2 ^ nN T U - 1) m) (c : Nat) : dens T U c ≤ m := by
 have := h.clique (n := nN T U) (q := cov T U c) (fun i k hi hk hne => by
  unfold cov at hi hk
  rw [Bool.and_eq_true, decide_eq_true_eq, decide_eq_true_eq] at hi hk
  unfold apA
  simp only [Bool.and_eq_true, decide_eq_true_eq]
  exact ⟨hne, by omega, by omega⟩)
 refine Nat.le_trans (Nat.le_of_eq ?_) this
 unfold dens
 congr 1
 refine List.filter_congr fun i hi => ?_
 rw [full_bit, decide_eq_true (List.mem_range.1 hi), Bool.true_and]
end
end Go.Proofs.YtbfjekmefcpkmaaDoor
