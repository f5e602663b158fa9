/- slices.SortFunc over slices of slices of the call's own: from the library's contract. -/
import Derived.Test.YtooogkcoedampaaSrt
set_option linter.unusedSimpArgs false
set_option linter.unusedVariables false
set_option linter.unusedSectionVars false
namespace Go.Proofs.Ytooogkcoedampaa
open Go.RowKit Go.Sort Go.Shelf

theorem sortWorld_chg {α : Type} [Inhabited α] (enc : α → Value) (w : World) (g m : Nat) (d : Array α) (os : Array Obj) : Chg [g] w (sortWorld enc w g 0 m d os) := by
  refine ⟨rfl, rfl, rfl, by unfold sortWorld putRow; simp [mapBlock, Sort.ahead], fun i hi hn => ?_, by show w.drawn ≤ w.drawn + m; omega⟩
  unfold sortWorld putRow
  rw [heap_grow_old _ _ (by simp [mapBlock]; exact hi)]
  simp only [List.mem_singleton] at hn
  simp [mapBlock, Array.getElem?_modify, Ne.symm hn, Sort.ahead]
theorem flatMap1 {α : Type} (e : α → Value) : ∀ l : List α, l.flatMap (fun x => [e x]) = l.map e
  | [] => rfl
  | x :: l => by rw [List.flatMap_cons, flatMap1 e l]; rfl
theorem Ow.len_le {α : Type} {k : Nat} {enc : α → List Value} {T : TypeId} {w : World} {fp : List Nat} {A : Option Addr} {cap : Nat} {l : List α} (h : Ow k enc T w fp A cap l) : l.length ≤ maxLen := by
  rcases h.is with ⟨_, rfl, _, _⟩ | ⟨g, cs, _, _, _, _, h1, h2, _⟩
  · exact Nat.zero_le _
  · exact Nat.le_trans h1 h2
/-- A header. -/
def hdV (h : Hd) : Value := .slice h.1 h.2.1 h.2.2
theorem encH_hd (h : Hd) : encH h = [hdV h] := rfl
section
variable {β : Type} {k : Nat} {enc : β → List Value}
theorem sort_ownR {P : Program} {ρ : Ren} {T T2 : TypeId} (L : SlLaysF.n6 P ρ) (he : EncOk k enc) (cf : List β → List β → Int) (hO : SWO (ltOf cf)) (hT : ∀ x y, (ltOf cf) x y = false → (ltOf cf) y x = false → x = y) (g : Nat)
    (eg : Ent P g) (hcmp : ∀ (x y : List β) (B B' : Option Addr) (c c' : Nat) (fp : List Nat) (W : World), x.length ≤ maxLen → y.length ≤ maxLen → Sl k enc W fp B x → Sl k enc W fp B' y → Calls P g #[.slice B x.length c, .slice B' y.length c'] W fun e w' => e = .returned (.int .i64 (cf x y)) ∧ Chg [] W w')
    {w : World} {fpm fpr : List Nat} {A : Option Addr} {cap : Nat} {ll : List (List β)} (F : OwR k enc T T2 w fpm fpr A cap ll) (hlen : ll.length < 4611686018427387904) :
    Calls P (ρ.f 6) #[.slice A ll.length cap, .func (.func g) #[] #[]] w fun e w' => e = .returned (.tuple #[]) ∧ OwR k enc T T2 w' fpm fpr A cap (ll.mergeSort fun x y => !(ltOf cf) y x) ∧ (ll.mergeSort fun x y => !(ltOf cf) y x).length = ll.length ∧ Chg ((fpm ++ fpr) ++ []) w w' := by
  obtain ⟨hs, f, O, R⟩ := F.is
  have hl0 := R.len
  rcases O.is with ⟨rfl, rfl, rfl, rfl⟩ | ⟨g0, cs, rfl, rfl, hC, hcs, hlc, hm, ht⟩
  · have h0 : ll = [] := by simp only [List.length_nil] at hl0; exact List.eq_nil_of_length_eq_zero hl0.symm
    subst h0
    refine (AnyF.slices_SortFunc_none { L with } none 0 _ w).mono ?_
    rintro e w' ⟨rfl, rfl⟩
    exact ⟨rfl, by simpa using F, by simp, Chg.refl _ _⟩
  · let n := ll.length
    let hd : Nat → Hd := fun i => hs.getD i (none, 0, 0)
    let row : Nat → List β := fun i => ll.getD i []
    let encN : Nat → Value := fun i => hdV (hd i)
    let cfN : Nat → Nat → Int := fun i j => cf (row i) (row j)
    let d : Array Nat := (List.range n).toArray
    have hdn : d.size = n := by simp [d]
    have hd_at : ∀ i (h : i < hs.length), hd i = hs[i] := fun i h => by simp [hd, h]
    have row_at : ∀ i (h : i < ll.length), row i = ll[i] := fun i h => by simp [row, h]
    have hdj : Dj fpr [g0] := F.dj.symm
    -- a row, in a world in which the headers alone have turned
    have rowSl : ∀ W, Chg [g0] w W → ∀ i, ∃ B c, encN i = .slice B (row i).length c ∧ (row i).length ≤ maxLen ∧ Sl k enc W fpr B (row i) := fun W hW i => by
      by_cases hi : i < ll.length
      · obtain ⟨B, c, h1, h2⟩ := R.row i ll[i] (List.getElem?_eq_getElem hi)
        refine ⟨B, c, ?_, ?_⟩
        · show hdV (hd i) = _
          have : hs[i]'(by omega) = (B, ll[i].length, c) := by
            rw [List.getElem?_eq_getElem (by omega)] at h1; simpa using h1
          rw [hd_at i (by omega), this, row_at i hi]; rfl
        · rw [row_at i hi]
          refine ⟨h2.len_le, ?_⟩
          exact ((h2.sl he).fpMore (R.sub i) R.low).chg hW hdj
      · refine ⟨none, 0, ?_, ?_⟩
        · show hdV (hd i) = _
          have h1 : hd i = (none, 0, 0) := by simp [hd, show ¬ i < hs.length by omega]
          have h2 : row i = [] := by simp [row, hi]
          rw [h1, h2]; rfl
        · have h2 : row i = [] := by simp [row, hi]
          rw [h2]
          exact ⟨Nat.zero_le _, fun b hb => Nat.lt_of_lt_of_le (R.low b hb) hW.size, fun h => absurd h (Nat.lt_irrefl 0)⟩
    have h1N : OneCell encN := fun i => rfl
    have hON : SWO (ltOf cfN) := ⟨fun x => hO.irrefl (row x), fun x y z => hO.trans (row x) (row y) (row z), fun x y z => hO.ntrans (row x) (row y) (row z)⟩
    have hcl : CmpLays1 P g #[] encN cfN g0 0 d.size w := fun m os dk _ x y => by
      have hW := sortWorld_chg encN w g0 m dk os
      obtain ⟨B, c, h1, hl1, h2⟩ := rowSl _ hW x
      obtain ⟨B', c', h1', hl2, h2'⟩ := rowSl _ hW y
      rw [h1, h1']
      refine (hcmp (row x) (row y) B B' c c' fpr _ hl1 hl2 h2 h2').mono ?_
      rintro e w' ⟨rfl, h3⟩
      exact ⟨rfl, h3.grow_form⟩
    have hH : Go.Sort.Holds encN w g0 0 d := fun j hj => by
      rw [hdn] at hj
      refine ⟨?_, by rw [Nat.zero_add]; exact hC.frozen j⟩
      rw [Nat.zero_add, hC.cell]
      have hj' : j < hs.length := by omega
      have e1 : cs[j]? = (hs.flatMap encH)[j]? := by rw [← ht, List.getElem?_take, if_pos (by omega)]
      rw [e1, show hs.flatMap encH = hs.map hdV from flatMap1 hdV hs, List.getElem?_map, List.getElem?_eq_getElem hj']
      have e2 : d[j]! = j := by simp [d, hj]
      rw [e2]
      show some (hdV hs[j]) = some (hdV (hd j))
      rw [hd_at j hj']
    have hcall := Any.slices_SortFunc L encN h1N cfN hON g #[] g0 0 cap d w (fun args w => pureRun_run (eg args) w) hcl hH hC.lt (by rw [hdn]; exact hlen)
    rw [hdn] at hcall
    refine hcall.mono ?_
    rintro e w' ⟨rfl, d', m, os, ⟨hsz, _, hperm⟩, hsort, rfl⟩
    have hW := sortWorld_chg encN w g0 m d' os
    have hsz' : d'.size = n := by rw [hsz, hdn]
    have hpd : d'.toList.Perm (List.range n) := by
      have h1 : (d'.extract 0 n).toList = d'.toList := by rw [← hsz', Array.extract_size]
      have h2 : (d.extract 0 n).toList = List.range n := by
        have h3 : d.extract 0 d.size = d := Array.extract_size
        rw [hdn] at h3; rw [h3]
      rw [h1, h2] at hperm; exact hperm
    -- the rows behind the sort
    let ll' := d'.toList.map row
    have hrange : (List.range n).map row = ll := by
      apply List.ext_getElem?
      intro j
      rw [List.getElem?_map]
      by_cases hj : j < n
      · rw [List.getElem?_range hj, List.getElem?_eq_getElem hj]; simp [row_at j hj]
      · rw [List.getElem?_eq_none (by simpa using hj), List.getElem?_eq_none (by omega)]; rfl
    have hpl : ll'.Perm ll := by rw [← hrange]; exact hpd.map row
    have hll : ll'.length = n := by simp [ll', hsz']
    have hms : ll' = ll.mergeSort fun x y => !(ltOf cf) y x := by
      have := sorted_unique_holds hO hT ll.toArray ll'.toArray ⟨by simp [hll, n], fun i hi => by
          simp only [List.size_toArray] at hi
          have h1 : ¬ i < ll.length := by omega
          have h2 : ¬ i < ll'.length := by rw [hll]; exact h1
          simp [h1, h2], by
          have h1 : (ll'.toArray.extract 0 ll.toArray.size).toList = ll' := by rw [show ll.toArray.size = ll'.toArray.size by simp [hll, n], Array.extract_size]
          have h2 : (ll.toArray.extract 0 ll.toArray.size).toList = ll := by rw [Array.extract_size]
          rw [h1, h2]; exact hpl⟩ (fun i j _ hij hj => by
          simp only [List.size_toArray] at hj
          have hs' := hsort i j (Nat.zero_le _) hij hj
          have hi2 : i < d'.size := by omega
          have hj2 : j < d'.size := by omega
          have e1 : ll'.toArray[j]! = row d'[j]! := by simp [ll', hj2]
          have e2 : ll'.toArray[i]! = row d'[i]! := by simp [ll', hi2]
          rw [e1, e2]; exact hs')
      simpa using this
    have hidx : ∀ i (h : i < d'.size), d'[i] < n := fun i h => by
      have : d'[i] ∈ d'.toList := by simp
      exact List.mem_range.1 (hpd.mem_iff.1 this)
    have hnd : d'.toList.Nodup := hpd.nodup_iff.2 List.nodup_range
    let hs' : List Hd := d'.toList.map hd
    have hO' : Ow 1 encH T (sortWorld encN w g0 0 m d' os) [g0] (some ⟨g0, 0, none⟩) cap hs' := by
      have hblk : (sortWorld encN w g0 0 m d' os).heap[g0]? = some (.cells (putCells encN 0 d' cs.toArray) T (0, 0)) := by
        unfold sortWorld putRow
        rw [heap_grow_old _ _ (by simp [mapBlock]; exact hC.lt)]
        have : w.heap[g0]? = some (.cells cs.toArray T (0, 0)) := hC
        simp [mapBlock, Array.getElem?_modify, Sort.ahead, this, onCells]
      have hl' : hs'.length = n := by simp [hs', hsz']
      refine ⟨Or.inr ⟨g0, (putCells encN 0 d' cs.toArray).toList, rfl, rfl, by unfold Cl; simpa using hblk, by simp [putCells, hcs], by rw [hl']; omega, hm, ?_⟩⟩
      rw [show hs'.flatMap encH = hs'.map hdV from flatMap1 hdV hs']
      apply List.ext_getElem?
      intro j
      rw [List.getElem?_take, List.getElem?_map]
      split
      · rename_i hj
        have hj1 : j < d'.size := by omega
        have hj2 : j < cs.length := by omega
        simp only [hs', List.getElem?_map, Array.getElem?_toList]
        simp [putCells, hj1, hj2]
        rfl
      · rename_i hj
        rw [List.getElem?_eq_none (by omega)]; rfl
    refine ⟨rfl, ?_, List.length_mergeSort _, (hW.more (fun x hx => by simp only [List.mem_singleton] at hx; subst hx; simp))⟩
    rw [← hms]
    let f' : Nat → List Nat := fun i => if h : i < d'.size then f d'[i] else []
    refine ⟨⟨hs', f', hO', by simp [hs', ll'], fun i l hil => ?_, fun i j hij => ?_, fun i b hb => ?_, fun b hb => Nat.lt_of_lt_of_le (R.low b hb) hW.size⟩, F.dj⟩
    · have hi : i < d'.size := by have := (List.getElem?_eq_some_iff.1 hil).1; rw [hll] at this; omega
      have hin := hidx i hi
      have e1 : l = ll[d'[i]] := by
        simp only [ll', List.getElem?_map, Array.getElem?_toList, Array.getElem?_eq_getElem hi, Option.map_some, Option.some.injEq] at hil
        rw [← hil, row_at _ hin]
      subst e1
      obtain ⟨B, c, h1, h2⟩ := R.row d'[i] _ (List.getElem?_eq_getElem hin)
      refine ⟨B, c, ?_, ?_⟩
      · have : hs[d'[i]]'(by omega) = (B, (ll[d'[i]]'hin).length, c) := by
          rw [List.getElem?_eq_getElem (by omega)] at h1; simpa using h1
        simp only [hs', List.getElem?_map, Array.getElem?_toList, Array.getElem?_eq_getElem hi, Option.map_some, hd_at _ (show d'[i] < hs.length by omega), this]
      · simp only [f', hi, dif_pos]
        exact h2.chg hW (fun x hx => hdj x (R.sub _ x hx))
    · simp only [f']
      by_cases hi : i < d'.size
      · by_cases hj : j < d'.size
        · rw [dif_pos hi, dif_pos hj]
          refine R.dj _ _ (fun e => hij ?_)
          have := (List.nodup_iff_pairwise_ne.1 hnd)
          rw [List.pairwise_iff_getElem] at this
          rcases Nat.lt_trichotomy i j with h | h | h
          · have hne := this i j (by simpa using hi) (by simpa using hj) h
            exact absurd (by rw [Array.getElem_toList, Array.getElem_toList]; exact e) hne
          · exact h
          · have hne := this j i (by simpa using hj) (by simpa using hi) h
            exact absurd (by rw [Array.getElem_toList, Array.getElem_toList]; exact e.symm) hne
        · rw [dif_neg hj]; exact Dj.nil
      · rw [dif_neg hi]; exact Dj.nil.symm
    · simp only [f'] at hb
      split at hb
      · exact R.sub _ b hb
      · cases hb
end
end Go.Proofs.Ytooogkcoedampaa
