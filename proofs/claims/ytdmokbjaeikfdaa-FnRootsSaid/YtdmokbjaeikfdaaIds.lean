/- Rows known by their numbers. -/
import Derived.Test.YtdmokbjaeikfdaaU8
set_option linter.unusedSimpArgs false
set_option linter.unusedVariables false
set_option linter.unusedSectionVars false
namespace Go.Proofs.Ytdmokbjaeikfdaa
open Go.RowKit
def encN (ra : Nat → Option Addr) (rw : Nat → List Int) (rc : Nat → Nat) (i : Nat) : List Value := [.slice (ra i) (rw i).length (rc i)]
theorem encN_ok {ra : Nat → Option Addr} {rw : Nat → List Int} {rc : Nat → Nat} : EncOk 1 (encN ra rw rc) := ⟨by omega, fun _ => rfl, fun x u h => by simp only [encN, List.mem_cons, List.not_mem_nil, or_false] at h; subst h; rfl⟩
structure HRows (w : World) (fp : List Nat) (ra : Nat → Option Addr) (rw : Nat → List Int) : Prop where
  low : ∀ b ∈ fp, b < w.heap.size
  row : ∀ i, Sl 1 encI w fp (ra i) (rw i)
theorem HRows.chg {w w' : World} {fp S : List Nat} {ra : Nat → Option Addr} {rw : Nat → List Int} (h : HRows w fp ra rw) (hc : Chg S w w') (hn : Dj fp S) : HRows w' fp ra rw :=
  ⟨fun b hb => Nat.lt_of_lt_of_le (h.low b hb) hc.size, fun i => (h.row i).chg hc hn⟩
theorem flatMap_congr' {α β : Type} {f g : α → List β} : ∀ {l : List α}, (∀ x ∈ l, f x = g x) → l.flatMap f = l.flatMap g
  | [], _ => rfl
  | x :: l, h => by rw [List.flatMap_cons, List.flatMap_cons, h x (by simp), flatMap_congr' (fun y hy => h y (by simp [hy]))]
section
variable {T T2 : TypeId} {w w' : World} {fpm fpr : List Nat} {A : Option Addr} {cap : Nat} {ll : List (List Int)}
/-- From rows of the call's own to rows known by their numbers, and back when they have changed places. -/
theorem OwR.ids (F : OwR 1 encI T T2 w fpm fpr A cap ll) : ∃ ra rc, Sl 1 (encN ra (fun i => ll.getD i []) rc) w fpm A (List.range ll.length) ∧ HRows w fpr ra (fun i => ll.getD i []) ∧
    ∀ w' fp' A' cap' r, Chg [] w w' → (∀ x ∈ fp', w.heap.size ≤ x) → Ow 1 (encN ra (fun i => ll.getD i []) rc) T w' fp' A' cap' r → r.Perm (List.range ll.length) → OwR 1 encI T T2 w' fp' fpr A' cap' (r.map fun i => ll.getD i []) := by
  obtain ⟨hs, f, O, R⟩ := F.is
  have hl := R.len
  let hd : Nat → Hd := fun i => hs.getD i (none, 0, 0)
  let rw' : Nat → List Int := fun i => ll.getD i []
  have hin : ∀ i, i < ll.length → ∃ B c, hs[i]? = some (B, (rw' i).length, c) ∧ Ow 1 encI T2 w (f i) B c (rw' i) := fun i hi => by
    obtain ⟨B, c, h1, h2⟩ := R.row i ll[i] (List.getElem?_eq_getElem hi)
    have e : rw' i = ll[i] := by show ll.getD i [] = _; simp [List.getD, List.getElem?_eq_getElem hi]
    exact ⟨B, c, by rw [e]; exact h1, by rw [e]; exact h2⟩
  have henc : ∀ i, i < ll.length → encH (hd i) = encN (fun i => (hd i).1) rw' (fun i => (hd i).2.2) i := fun i hi => by
    obtain ⟨B, c, h1, _⟩ := hin i hi
    have e : hd i = (B, (rw' i).length, c) := by show hs.getD i _ = _; simp [List.getD, h1]
    unfold encH encN
    simp only [e]
  have hout : ∀ i, ¬ i < ll.length → rw' i = [] ∧ hd i = (none, 0, 0) := fun i hi => by
    refine ⟨?_, ?_⟩
    · show ll.getD i [] = _; simp [List.getD, List.getElem?_eq_none (show ll.length ≤ i by omega)]
    · show hs.getD i _ = _; simp [List.getD, List.getElem?_eq_none (show hs.length ≤ i by omega)]
  refine ⟨fun i => (hd i).1, fun i => (hd i).2.2, ?_, ⟨R.low, fun i => ?_⟩, ?_⟩
  · have hS := O.sl ⟨by omega, fun _ => rfl, fun x u h => by simp only [encH, List.mem_cons, List.not_mem_nil, or_false] at h; subst h; rfl⟩
    refine ⟨hS.low, fun h0 => ?_⟩
    obtain ⟨ad, hA, hfp, hc⟩ := hS.cells (by rw [List.length_range] at h0; omega)
    refine ⟨ad, hA, hfp, fun i x hx j u hu => ?_⟩
    obtain ⟨hi, rfl⟩ : i < ll.length ∧ i = x := by
      rw [List.getElem?_eq_some_iff] at hx
      obtain ⟨h1, h2⟩ := hx
      rw [List.getElem_range] at h2
      exact ⟨by simpa using h1, h2⟩
    have hi' : hs[i]? = some (hd i) := by show _ = some (hs.getD i _); rw [List.getD, List.getElem?_eq_getElem (show i < hs.length by omega)]; rfl
    exact hc i (hd i) hi' j u (by rw [henc i hi]; exact hu)
  · by_cases hi : i < ll.length
    · obtain ⟨B, c, h1, h2⟩ := hin i hi
      have e : (hd i).1 = B := by show (hs.getD i _).1 = _; simp [List.getD, h1]
      rw [e]
      exact (h2.sl encI_ok).fpMore (R.sub i) R.low
    · obtain ⟨h1, h2⟩ := hout i hi
      show Sl 1 encI w fpr (hd i).1 (rw' i)
      rw [h1]
      exact ⟨R.low, fun h => absurd h (Nat.lt_irrefl 0)⟩
  · intro w' fp' A' cap' r hc hnew hO hperm
    have hrlt : ∀ x ∈ r, x < ll.length := fun x hx => List.mem_range.1 (hperm.mem_iff.1 hx)
    have hnd : r.Nodup := hperm.nodup_iff.2 List.nodup_range
    have hflat : r.flatMap (encN (fun i => (hd i).1) rw' (fun i => (hd i).2.2)) = (r.map hd).flatMap encH := by
      rw [List.flatMap_map]
      exact flatMap_congr' fun x hx => (henc x (hrlt x hx)).symm
    have hO' : Ow 1 encH T w' fp' A' cap' (r.map hd) := by
      refine ⟨?_⟩
      rcases hO.is with ⟨h1, h2, h3, h4⟩ | ⟨g, cs, h1, h2, h3, h4, h5, h6, h7⟩
      · exact Or.inl ⟨h1, by rw [h2]; rfl, h3, h4⟩
      · exact Or.inr ⟨g, cs, h1, h2, h3, h4, by rw [List.length_map]; exact h5, h6, by rw [List.length_map, ← hflat]; exact h7⟩
    have hdj : Dj fp' fpr := fun x hx hy => by have := hnew x hx; have := R.low x hy; omega
    refine ⟨⟨r.map hd, fun j => if j < r.length then f (r.getD j 0) else [], hO', ⟨by simp, fun j l hj => ?_, fun i j hij => ?_, fun j b hb => ?_, fun b hb => Nat.lt_of_lt_of_le (R.low b hb) hc.size⟩⟩, hdj⟩
    · rw [List.getElem?_map] at hj
      obtain ⟨x, hx, rfl⟩ := Option.map_eq_some_iff.1 hj
      obtain ⟨hlt, hxe⟩ := List.getElem?_eq_some_iff.1 hx
      obtain ⟨B, c, h1, h2⟩ := hin x (hrlt x (hxe ▸ List.getElem_mem hlt))
      have e : hd x = (B, (rw' x).length, c) := by show hs.getD x _ = _; simp [List.getD, h1]
      refine ⟨B, c, by rw [List.getElem?_map, hx]; simp only [Option.map_some, e]; rfl, ?_⟩
      have e2 : r.getD j 0 = x := by simp [List.getD, hx]
      rw [if_pos hlt, e2]
      exact h2.chg hc Dj.nil
    · by_cases hi : i < r.length
      · by_cases hj : j < r.length
        · simp only [if_pos hi, if_pos hj]
          have e1 : r.getD i 0 = r[i] := by simp [List.getD, List.getElem?_eq_getElem hi]
          have e2 : r.getD j 0 = r[j] := by simp [List.getD, List.getElem?_eq_getElem hj]
          rw [e1, e2]
          refine R.dj _ _ fun he => ?_
          rcases Nat.lt_trichotomy i j with h | h | h
          · exact (List.pairwise_iff_getElem.1 hnd i j hi hj h) he
          · exact hij h
          · exact (List.pairwise_iff_getElem.1 hnd j i hj hi h) he.symm
        · simp only [if_neg hj]; exact Dj.nil
      · simp only [if_neg hi]; exact Dj.nil.symm
    · by_cases hj : j < r.length
      · simp only [if_pos hj] at hb; exact R.sub _ b hb
      · simp only [if_neg hj] at hb; cases hb
end
end Go.Proofs.Ytdmokbjaeikfdaa
