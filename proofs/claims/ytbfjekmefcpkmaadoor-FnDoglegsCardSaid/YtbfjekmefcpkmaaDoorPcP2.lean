/- The law of the fewest tracks. Channels: the pieces, in both programs. Channels: the order of the pieces as the first program fills it. Channels: the order of the pieces, in the first program. Channels: the order of the pieces, in the second program; tracks told by number. Channels: the order of the pieces, as the second program lays it. The law of the fewest tracks with doglegs. -/
import Derived.Test.YtbfjekmefcpkmaaDoorPcP3
set_option linter.unusedSimpArgs false
set_option linter.unusedVariables false
set_option linter.unusedSectionVars false
namespace Go.Proofs.YtbfjekmefcpkmaaDoor
open Go.RowKit

theorem Chain.len {A B : Nat → Nat → Bool} {n left : Nat} {cs : List Nat} (h : Chain A B n left cs) : left < 2 ^ n → cs.length ≤ cnt n left := by
  induction h with
  | z => intro _; exact Nat.zero_le _
  | s hb _ ih =>
    intro hl
    have h1 := ih (sub_lt hl)
    have h2 := cnt_sub hb.gd.fit hl
    rw [List.length_cons]; omega
/-- What both programs answer. -/
structure Few (r : List (List Int) × Bool) : Prop where
  len : r.1.length ≤ 1000
  rows : ∀ t ∈ r.1, t.length ≤ 1000
end Go.Proofs.YtbfjekmefcpkmaaDoor

set_option linter.unusedSimpArgs false
set_option linter.unusedVariables false
set_option linter.unusedSectionVars false
namespace Go.Proofs.YtbfjekmefcpkmaaDoor
open Go.RowKit

/-- Neighbours in a list. -/
def prs : List Nat → List (Nat × Nat)
  | [] => []
  | [_] => []
  | x :: y :: r => (x, y) :: prs (y :: r)
theorem prs_len : ∀ l : List Nat, (prs l).length = l.length - 1
  | [] => rfl
  | [_] => rfl
  | x :: y :: r => by
    have := prs_len (y :: r)
    simp only [prs, List.length_cons] at this ⊢
    omega
theorem prs_at : ∀ (l : List Nat) (k : Nat) (h : k + 1 < l.length), (prs l)[k]? = some (l[k], l[k + 1])
  | [], k, h => by simp at h
  | [_], k, h => by simp at h
  | x :: y :: r, 0, h => by simp [prs]
  | x :: y :: r, k + 1, h => by
    have := prs_at (y :: r) k (by simp at h ⊢; omega)
    simpa [prs] using this
theorem prs_snoc : ∀ (l : List Nat) (k : Nat), prs (l ++ [k]) = prs l ++ (match l.getLast? with | none => [] | some j => [(j, k)])
  | [], k => rfl
  | [x], k => rfl
  | x :: y :: r, k => by
    have := prs_snoc (y :: r) k
    have e : (x :: y :: r).getLast? = (y :: r).getLast? := by simp [List.getLast?_cons_cons]
    rw [e]
    simp only [List.cons_append, prs] at this ⊢
    rw [this]
abbrev Pc := Nat × Nat × Nat
def encP (p : Pc) : List Int := [(p.1 : Int), (p.2.1 : Int), (p.2.2 : Int)]
section
variable (T U : List Int)
def pcOf (a : Nat) : List Pc := (prs (colsL T U (a : Int))).map fun q => (a, q.1, q.2)
def pcL : List Pc := (netL T U).flatMap (pcOf T U)
variable {T U}
theorem cols_len (hm : T.length ≤ 24) (a : Int) : (colsL T U a).length ≤ 24 := by
  have := List.length_filter_le (pinAt T U a) (List.range T.length)
  rw [List.length_range] at this
  unfold colsL; omega
theorem pcOf_len (hm : T.length ≤ 24) (a : Nat) : (pcOf T U a).length ≤ 24 := by
  have := cols_len (U := U) hm (a : Int)
  unfold pcOf
  rw [List.length_map, prs_len]; omega
theorem flat_len (hm : T.length ≤ 24) : ∀ l : List Nat, (l.flatMap (pcOf T U)).length ≤ 24 * l.length
  | [] => by simp
  | a :: l => by
    have h1 := flat_len hm l
    have h2 := pcOf_len (U := U) hm a
    rw [List.flatMap_cons, List.length_append, List.length_cons]; omega
theorem pcL_len (hm : T.length ≤ 24) : (pcL T U).length ≤ 288 := by
  have h1 := flat_len (U := U) hm (netL T U)
  have h2 := netL_len (T := T) (U := U)
  unfold pcL; omega
theorem take_flat {l : List Nat} {k : Nat} (hk : k < l.length) (f : Nat → List Pc) : (l.take (k + 1)).flatMap f = (l.take k).flatMap f ++ f l[k] := by
  rw [List.take_succ_eq_append_getElem hk, List.flatMap_append]; simp
theorem ipc_inner (hm : T.length ≤ 24) {a : Nat} {acc : List (List Int)} (hacc : acc.length ≤ 1000) (hc : colsL T U (a : Int) ≠ []) :
    loopM (m_impl_Channel_pieces_bimplChannel_s4 (a : Int) (cI (colsL T U (a : Int)))) (acc, 1) = some (acc ++ (pcOf T U a).map encP) := by
  have hlen := cols_len (U := U) hm (a : Int)
  have hpos := List.length_pos_iff.2 hc
  have hpl : (pcOf T U a).length = (colsL T U (a : Int)).length - 1 := by unfold pcOf; rw [List.length_map, prs_len]
  refine loopM_val _ ((colsL T U (a : Int)).length - 1) (fun k s => s = (acc ++ ((pcOf T U a).take k).map encP, ((k + 1 : Nat) : Int))) (by simp) (fun k s hk h => ?_) (fun s h => ?_)
  · subst h
    refine .inl ⟨_, ?_, rfl⟩
    have h1 : k + 1 < (colsL T U (a : Int)).length := by omega
    have hat : (pcOf T U a)[k]'(by omega) = (a, (colsL T U (a : Int))[k], (colsL T U (a : Int))[k + 1]) := by
      have := prs_at (colsL T U (a : Int)) k h1
      have h2 : (pcOf T U a)[k]? = some (a, (colsL T U (a : Int))[k], (colsL T U (a : Int))[k + 1]) := by
        unfold pcOf; rw [List.getElem?_map, this]; rfl
      rw [List.getElem?_eq_getElem (by omega)] at h2
      exact Option.some.inj h2
    unfold m_impl_Channel_pieces_bimplChannel_s4
    dsimp only
    rw [bif_t (by rw [decide_eq_true_eq, cI_len]; omega), show wr (((k + 1 : Nat) : Int) - 1) = (k : Int) from by rw [wr_in (by omega)]; omega, geti_cI (show k < (colsL T U (a : Int)).length by omega), geti_cI h1]
    simp only [Option.bind_some]
    have hap : ∀ X : List (List Int), apC (acc ++ ((pcOf T U a).take k).map encP) [X.headD []] = some () := fun X => apC_sm (by simp; omega)
    rw [show apC (acc ++ ((pcOf T U a).take k).map encP) [[(a : Int), (((colsL T U (a : Int))[k] : Nat) : Int), (((colsL T U (a : Int))[k + 1] : Nat) : Int)]] = some () from apC_sm (by simp; omega)]
    simp only [Option.bind_some]
    rw [wr_suc (by omega), List.take_succ_eq_append_getElem (show k < (pcOf T U a).length by omega), List.map_append, hat, List.append_assoc]
    rfl
  · subst h
    unfold m_impl_Channel_pieces_bimplChannel_s4
    dsimp only
    rw [bif_f (by rw [decide_eq_false_iff_not, cI_len]; omega), List.take_of_length_le (by omega)]
theorem net_cols {k : Nat} (hk : k < (netL T U).length) : colsL T U (((netL T U)[k] : Nat) : Int) ≠ [] := fun e => by
  have := (mem_netL.1 (List.getElem_mem hk)).2
  rw [e] at this; simp at this
theorem pieces_eq (hu : U.length = T.length) (hm : T.length ≤ 24) : m_impl_Channel_pieces_bimplChannel T U = some ((pcL T U).map encP) := by
  have hn := netL_len (T := T) (U := U)
  unfold m_impl_Channel_pieces_bimplChannel
  rw [nets_eq hu hm]
  simp only [Option.bind_some]
  have : loopM (m_impl_Channel_pieces_bimplChannel_s3 T U (cI (netL T U))) (([] : List (List Int)), 0) = some ((pcL T U).map encP) := by
    refine loopM_val _ (netL T U).length (fun k s => s = ((((netL T U).take k).flatMap (pcOf T U)).map encP, (k : Int))) (by simp) (fun k s hk h => ?_) (fun s h => ?_)
    · subst h
      refine .inl ⟨_, ?_, rfl⟩
      have hacc : ((((netL T U).take k).flatMap (pcOf T U)).map encP).length ≤ 1000 := by
        have := flat_len (U := U) hm ((netL T U).take k)
        rw [List.length_take] at this
        rw [List.length_map]; omega
      unfold m_impl_Channel_pieces_bimplChannel_s3
      dsimp only
      rw [bif_t (by rw [decide_eq_true_eq, cI_len]; omega), geti_cI hk]
      simp only [Option.bind_some]
      rw [cols_eq hu hm]
      simp only [Option.bind_some]
      rw [ipc_inner hm hacc (net_cols hk)]
      simp only [Option.bind_some]
      rw [wr_suc (by omega), take_flat hk, List.map_append]
    · subst h
      unfold m_impl_Channel_pieces_bimplChannel_s3
      dsimp only
      rw [bif_f (by rw [decide_eq_false_iff_not, cI_len]; omega), List.take_length]
      rfl
  rw [this]; rfl
theorem spc_inner (hu : U.length = T.length) (hm : T.length ≤ 24) {i : Nat} (hi : i < (netL T U).length) {acc : List (List Int)} (hacc : acc.length ≤ 1000) :
    loopM (m_spec_l03Pieces_bimplChannel_s4 T U (cI (netL T U)) (i : Int)) (acc, (-1), 0) = some (acc ++ (pcOf T U (netL T U)[i]).map encP) := by
  let a : Int := (((netL T U)[i] : Nat) : Int)
  let cs : Nat → List Nat := fun k => (List.range k).filter (pinAt T U a)
  let P : Nat → List (List Int) := fun k => ((prs (cs k)).map fun q => ((netL T U)[i], q.1, q.2)).map encP
  let la : Nat → Int := fun k => ((cs k).getLast?.map fun (k : Nat) => (k : Int)).getD (-1)
  have hgi : geti (cI (netL T U)) (i : Int) = some a := geti_cI hi
  have hPl : ∀ k, k ≤ 24 → (P k).length ≤ 24 := fun k hk => by
    have := List.length_filter_le (pinAt T U a) (List.range k)
    rw [List.length_range] at this
    show (((prs (cs k)).map fun q => ((netL T U)[i], q.1, q.2)).map encP).length ≤ 24
    rw [List.length_map, List.length_map, prs_len]
    show ((List.range k).filter (pinAt T U a)).length - 1 ≤ 24
    omega
  have hcs : ∀ k, pinAt T U a k = true → cs (k + 1) = cs k ++ [k] := fun k hp => by
    show (List.range (k + 1)).filter (pinAt T U a) = (List.range k).filter (pinAt T U a) ++ [k]
    rw [List.range_succ, List.filter_append]; simp [hp]
  have hcs0 : ∀ k, pinAt T U a k = false → cs (k + 1) = cs k := fun k hp => by
    show (List.range (k + 1)).filter (pinAt T U a) = (List.range k).filter (pinAt T U a)
    rw [List.range_succ, List.filter_append]; simp [hp]
  refine loopM_val _ T.length (fun k s => s = (acc ++ P k, la k, (k : Int))) (by simp [P, la, cs, prs]) (fun k s hk h => ?_) (fun s h => ?_)
  · subst h
    refine .inl ⟨_, ?_, rfl⟩
    have hpl := hPl k (by omega)
    have ht : geti T (k : Int) = some (T.getD k 0) := getD_at hk
    have hu' : geti U (k : Int) = some (U.getD k 0) := getD_at (by omega)
    have hpin : pinAt T U a k = ((T.getD k 0 == a) || (U.getD k 0 == a)) := rfl
    -- what a column with a pin does
    have hit : ∀ X : List (List Int) → Option (List (List Int) × Int), pinAt T U a k = true → (Option.bind ((bif decide (la k ≥ 0) then Option.bind (geti (cI (netL T U)) (i : Int)) fun x8 => Option.bind (apC (acc ++ P k) [[x8, la k, (k : Int)]]) fun _ => some ((acc ++ P k) ++ [[x8, la k, (k : Int)]]) else some (acc ++ P k))) fun s2 => X s2) = X (acc ++ P (k + 1)) := fun X hp => by
      have e1 : P (k + 1) = P k ++ (match (cs k).getLast? with | none => [] | some j => [[a, (j : Int), (k : Int)]]) := by
        show ((prs (cs (k + 1))).map fun q => ((netL T U)[i], q.1, q.2)).map encP = _
        rw [hcs k hp, prs_snoc, List.map_append, List.map_append]
        congr 1
        cases (cs k).getLast? <;> rfl
      rw [e1, hgi]
      simp only [Option.bind_some]
      have hla : la k = ((cs k).getLast?.map fun (k : Nat) => (k : Int)).getD (-1) := rfl
      rw [hla]
      cases hg : (cs k).getLast? with
      | none =>
        rw [bif_f (by rfl)]
        simp
      | some j =>
        simp only [Option.map_some, Option.getD_some]
        rw [bif_t (by rw [decide_eq_true_eq]; omega), apC_sm (by simp; omega)]
        simp
    unfold m_spec_l03Pieces_bimplChannel_s4
    dsimp only
    rw [bif_t (by rw [decide_eq_true_eq]; omega), ht]
    simp only [Option.bind_some]
    rw [hgi, hu']
    simp only [Option.bind_some]
    have hla1 : pinAt T U a k = true → la (k + 1) = (k : Int) := fun hp => by
      show ((cs (k + 1)).getLast?.map fun (k : Nat) => (k : Int)).getD (-1) = _
      rw [hcs k hp]; simp
    rw [wr_suc (by omega)]
    cases h1 : (T.getD k 0 == a) with
    | true =>
      have hp : pinAt T U a k = true := by rw [hpin, h1]; rfl
      rw [bif_f (by rw [bne, h1]; rfl)]
      have := hit (fun l4 => some (l4, (k : Int))) hp
      rw [hgi] at this
      simp only [Option.bind_some] at this
      rw [this, hla1 hp]; rfl
    | false =>
      rw [bif_t (by rw [bne, h1]; rfl)]
      cases h2 : (U.getD k 0 == a) with
      | true =>
        have hp : pinAt T U a k = true := by rw [hpin, h1, h2]; rfl
        rw [bif_f (by rw [bne, h2]; rfl)]
        have := hit (fun l4 => some (l4, (k : Int))) hp
        rw [hgi] at this
        simp only [Option.bind_some] at this
        rw [this, hla1 hp]; rfl
      | false =>
        have hp : pinAt T U a k = false := by rw [hpin, h1, h2]; rfl
        rw [bif_t (by rw [bne, h2]; rfl)]
        have e1 : P (k + 1) = P k := by
          show ((prs (cs (k + 1))).map fun q => ((netL T U)[i], q.1, q.2)).map encP = _
          rw [hcs0 k hp]
        have e2 : la (k + 1) = la k := by
          show ((cs (k + 1)).getLast?.map fun (k : Nat) => (k : Int)).getD (-1) = _
          rw [hcs0 k hp]
        rw [e1, e2]
  · subst h
    unfold m_spec_l03Pieces_bimplChannel_s4
    dsimp only
    rw [bif_f (by simp)]
    rfl
theorem spieces_eq (hu : U.length = T.length) (hm : T.length ≤ 24) : m_spec_l03Pieces_bimplChannel T U = some ((pcL T U).map encP) := by
  have hn := netL_len (T := T) (U := U)
  unfold m_spec_l03Pieces_bimplChannel
  rw [snets_eq hu hm]
  simp only [Option.bind_some]
  have : loopM (m_spec_l03Pieces_bimplChannel_s3 T U (cI (netL T U))) (([] : List (List Int)), 0) = some ((pcL T U).map encP) := by
    refine loopM_val _ (netL T U).length (fun k s => s = ((((netL T U).take k).flatMap (pcOf T U)).map encP, (k : Int))) (by simp) (fun k s hk h => ?_) (fun s h => ?_)
    · subst h
      refine .inl ⟨_, ?_, rfl⟩
      have hacc : ((((netL T U).take k).flatMap (pcOf T U)).map encP).length ≤ 1000 := by
        have := flat_len (U := U) hm ((netL T U).take k)
        rw [List.length_take] at this
        rw [List.length_map]; omega
      unfold m_spec_l03Pieces_bimplChannel_s3
      dsimp only
      rw [bif_t (by rw [decide_eq_true_eq, cI_len]; omega), spc_inner hu hm hk hacc]
      simp only [Option.bind_some]
      rw [wr_suc (by omega), take_flat hk, List.map_append]
    · subst h
      unfold m_spec_l03Pieces_bimplChannel_s3
      dsimp only
      rw [bif_f (by rw [decide_eq_false_iff_not, cI_len]; omega), List.take_length]
      rfl
  rw [this]; rfl
end
end Go.Proofs.YtbfjekmefcpkmaaDoor

set_option linter.unusedSimpArgs false
set_option linter.unusedVariables false
set_option linter.unusedSectionVars false
namespace Go.Proofs.YtbfjekmefcpkmaaDoor
open Go.RowKit

theorem in_gen (c a b : Int) : m_impl_in c a b = some (decide (a ≤ c) && decide (c ≤ b)) := by
  unfold m_impl_in
  by_cases h : a ≤ c
  · rw [bif_t (by rw [decide_eq_true_eq]; omega), decide_eq_true h, Bool.true_and]
  · rw [bif_f (by rw [decide_eq_false_iff_not]; omega), decide_eq_false h, Bool.false_and]
theorem enc0 (p : Pc) : geti (encP p) 0 = some ((p.1 : Nat) : Int) := rfl
theorem enc1 (p : Pc) : geti (encP p) 1 = some ((p.2.1 : Nat) : Int) := rfl
theorem enc2 (p : Pc) : geti (encP p) 2 = some ((p.2.2 : Nat) : Int) := rfl
theorem nat_beq (x y : Nat) : (((x : Nat) : Int) == ((y : Nat) : Int)) = decide (x = y) := by
  by_cases h : x = y
  · subst h; simp
  · rw [decide_eq_false h, beq_eq_false_iff_ne]; omega
theorem nat_bne (x y : Nat) : (((x : Nat) : Int) != ((y : Nat) : Int)) = decide (x ≠ y) := by
  rw [bne, nat_beq]
  by_cases h : x = y <;> simp [h]
theorem nat_ble (x y : Nat) : decide (((x : Nat) : Int) ≤ ((y : Nat) : Int)) = decide (x ≤ y) := decide_eq_decide.2 (by omega)
/-- The pairs met so far, column by column. -/
def FilC (n : Nat) (H : Nat → Nat → Nat → Bool) (h : Nat → Nat → Bool) (c i k : Nat) : Prop :=
  ∀ x y, h x y = true ↔ (x < n ∧ y < n ∧ ((∃ c', c' < c ∧ H c' x y = true) ∨ (H c x y = true ∧ Bef i k x y)))
theorem FilC.skip {n c i k : Nat} {H : Nat → Nat → Nat → Bool} {h : Nat → Nat → Bool} (hF : FilC n H h c i k) (hk : k < n) (hr : H c i k = false) : FilC n H h c i (k + 1) := fun x y => by
  rw [hF x y, Fil.bef hk]
  constructor
  · rintro ⟨a, b, d | ⟨d, e⟩⟩
    · exact ⟨a, b, .inl d⟩
    · exact ⟨a, b, .inr ⟨d, .inl e⟩⟩
  · rintro ⟨a, b, d | ⟨d, e | ⟨rfl, rfl⟩⟩⟩
    · exact ⟨a, b, .inl d⟩
    · exact ⟨a, b, .inr ⟨d, e⟩⟩
    · rw [hr] at d; cases d
theorem FilC.add {n c i k : Nat} {H : Nat → Nat → Nat → Bool} {h h' : Nat → Nat → Bool} (hF : FilC n H h c i k) (hi : i < n) (hk : k < n) (hr : H c i k = true) (hh : ∀ x y, h' x y = true ↔ (h x y = true ∨ (x = i ∧ y = k))) : FilC n H h' c i (k + 1) := fun x y => by
  rw [hh, hF x y, Fil.bef hk]
  constructor
  · rintro (⟨a, b, d | ⟨d, e⟩⟩ | ⟨rfl, rfl⟩)
    · exact ⟨a, b, .inl d⟩
    · exact ⟨a, b, .inr ⟨d, .inl e⟩⟩
    · exact ⟨hi, hk, .inr ⟨hr, .inr ⟨rfl, rfl⟩⟩⟩
  · rintro ⟨a, b, d | ⟨d, e | e⟩⟩
    · exact .inl ⟨a, b, .inl d⟩
    · exact .inl ⟨a, b, .inr ⟨d, e⟩⟩
    · exact .inr e
theorem FilC.row {n c i : Nat} {H : Nat → Nat → Nat → Bool} {h : Nat → Nat → Bool} (hF : FilC n H h c i n) : FilC n H h c (i + 1) 0 := fun x y => by
  rw [hF x y]
  unfold Bef
  constructor
  · rintro ⟨a, b, d | ⟨d, e⟩⟩
    · exact ⟨a, b, .inl d⟩
    · exact ⟨a, b, .inr ⟨d, by omega⟩⟩
  · rintro ⟨a, b, d | ⟨d, e⟩⟩
    · exact ⟨a, b, .inl d⟩
    · exact ⟨a, b, .inr ⟨d, by omega⟩⟩
theorem FilC.col {n c : Nat} {H : Nat → Nat → Nat → Bool} {h : Nat → Nat → Bool} (hF : FilC n H h c n 0) : FilC n H h (c + 1) 0 0 := fun x y => by
  rw [hF x y]
  unfold Bef
  constructor
  · rintro ⟨a, b, ⟨c', h1, h2⟩ | ⟨d, e⟩⟩
    · exact ⟨a, b, .inl ⟨c', by omega, h2⟩⟩
    · exact ⟨a, b, .inl ⟨c, by omega, d⟩⟩
  · rintro ⟨a, b, ⟨c', h1, h2⟩ | ⟨d, e⟩⟩
    · by_cases e : c' = c
      · subst e; exact ⟨a, b, .inr ⟨h2, by omega⟩⟩
      · exact ⟨a, b, .inl ⟨c', by omega, h2⟩⟩
    · exact absurd e (by omega)
theorem FilC.none {n c : Nat} {H : Nat → Nat → Nat → Bool} {h : Nat → Nat → Bool} (hF : FilC n H h c 0 0) (hH : ∀ x y, x < n → y < n → H c x y = false) : FilC n H h (c + 1) 0 0 := fun x y => by
  rw [hF x y]
  unfold Bef
  constructor
  · rintro ⟨a, b, ⟨c', h1, h2⟩ | ⟨d, e⟩⟩
    · exact ⟨a, b, .inl ⟨c', by omega, h2⟩⟩
    · exact absurd e (by omega)
  · rintro ⟨a, b, ⟨c', h1, h2⟩ | ⟨d, e⟩⟩
    · by_cases e : c' = c
      · subst e; rw [hH x y a b] at h2; cases h2
      · exact ⟨a, b, .inl ⟨c', by omega, h2⟩⟩
    · exact absurd e (by omega)
section
variable {T U : List Int}
theorem prs_mem : ∀ {l : List Nat} {q : Nat × Nat}, q ∈ prs l → q.1 ∈ l ∧ q.2 ∈ l
  | [], q, h => by simp [prs] at h
  | [_], q, h => by simp [prs] at h
  | x :: y :: r, q, h => by
    rcases List.mem_cons.1 h with rfl | h
    · simp
    · have := prs_mem h
      exact ⟨List.mem_cons_of_mem _ this.1, List.mem_cons_of_mem _ this.2⟩
theorem pc_ok {p : Pc} (h : p ∈ pcL T U) : p.1 ∈ netL T U ∧ p.2.1 < T.length ∧ p.2.2 < T.length := by
  unfold pcL at h
  obtain ⟨a, ha, hp⟩ := List.mem_flatMap.1 h
  unfold pcOf at hp
  obtain ⟨q, hq, rfl⟩ := List.mem_map.1 hp
  have := prs_mem hq
  exact ⟨ha, cols_lt _ this.1, cols_lt _ this.2⟩
def nP (T U : List Int) : Nat := (pcL T U).length
def pcA (T U : List Int) (i : Nat) : Pc := (pcL T U).getD i (0, 0, 0)
theorem pc_get {i : Nat} (h : i < nP T U) : geti ((pcL T U).map encP) (i : Int) = some (encP (pcA T U i)) := by
  unfold nP at h
  rw [geti_nat, List.getElem?_map, List.getElem?_eq_getElem h]
  unfold pcA
  rw [List.getD, List.getElem?_eq_getElem h]; rfl
theorem pcA_ok {i : Nat} (h : i < nP T U) : (pcA T U i).1 ∈ netL T U ∧ (pcA T U i).2.1 < T.length ∧ (pcA T U i).2.2 < T.length := by
  unfold nP at h
  unfold pcA
  rw [List.getD, List.getElem?_eq_getElem h]
  exact pc_ok (List.getElem_mem h)
def apP (T U : List Int) (i k : Nat) : Bool := decide ((pcA T U i).1 ≠ (pcA T U k).1) && (decide ((pcA T U i).2.1 ≤ (pcA T U k).2.2) && decide ((pcA T U k).2.1 ≤ (pcA T U i).2.2))
def inP (p : Pc) (c : Nat) : Bool := decide (p.2.1 ≤ c) && decide (c ≤ p.2.2)
def hitP (T U : List Int) (c i k : Nat) : Bool := (T.getD c 0 == (((pcA T U i).1 : Nat) : Int)) && ((U.getD c 0 == (((pcA T U k).1 : Nat) : Int)) && (inP (pcA T U i) c && inP (pcA T U k) c))
def abP (T U : List Int) (i k : Nat) : Bool := decide ((pcA T U i).1 ≠ (pcA T U k).1) && anyIn 0 T.length fun c => hitP T U c i k
theorem apP_sym (i k : Nat) : apP T U i k = apP T U k i := by
  unfold apP
  rw [Bool.and_comm (decide ((pcA T U i).2.1 ≤ _))]
  congr 1
  exact decide_eq_decide.2 ⟨fun h e => h e.symm, fun h e => h e.symm⟩
theorem papStep {i k : Nat} {f : Nat → Nat} (hn : nP T U ≤ 12) (hi : i < nP T U) (hk : k < nP T U) (hfl : f i < 2 ^ nP T U) :
    m_impl_Channel_pieceOrder_bimplChannel_s4 ((pcL T U).map encP) (i : Int) (encP (pcA T U i)) ((k : Int), rg (nP T U) f) = some (.next (((k + 1 : Nat) : Int), rg (nP T U) (updO f i k (apP T U i k)))) := by
  have hlt : (k : Int) < (((pcL T U).map encP).length : Int) := by rw [List.length_map]; unfold nP at hk; omega
  unfold m_impl_Channel_pieceOrder_bimplChannel_s4
  dsimp only
  rw [bif_t (decide_eq_true hlt), pc_get hk]
  simp only [Option.bind_some, enc0, enc1, enc2]
  rw [nat_bne, nat_ble, nat_ble, rg_get hi, p0C_ok (Int.natCast_nonneg _), Int.toNat_natCast]
  simp only [Option.bind_some]
  rw [shlI_nat (by omega), orI_nat (pow62 (by omega) hfl) (pow62 (by omega) (Nat.pow_lt_pow_right (by omega) hk)), set_rg hi, wr_suc (by omega)]
  unfold apP updO
  generalize decide ((pcA T U i).1 ≠ (pcA T U k).1) = b1
  generalize decide ((pcA T U i).2.1 ≤ (pcA T U k).2.2) = b2
  generalize decide ((pcA T U k).2.1 ≤ (pcA T U i).2.2) = b3
  cases b1 <;> cases b2 <;> cases b3 <;> simp only [cond_true, cond_false, Bool.and_true, Bool.and_false, Bool.false_and, if_true, Bool.false_eq_true, if_false, Option.bind_some]
theorem pahStep {c i k : Nat} {g : Nat → Nat} {a b : Int} (hn : nP T U ≤ 12) (hi : i < nP T U) (hk : k < nP T U) (hgl : g k < 2 ^ nP T U) (ha : a = T.getD c 0) (hb : b = U.getD c 0) :
    m_impl_Channel_pieceOrder_bimplChannel_s17 ((pcL T U).map encP) (c : Int) a b (i : Int) (encP (pcA T U i)) ((k : Int), rg (nP T U) g) = some (.next (((k + 1 : Nat) : Int), rg (nP T U) (updO g k i (hitP T U c i k)))) := by
  have hlt : (k : Int) < (((pcL T U).map encP).length : Int) := by rw [List.length_map]; unfold nP at hk; omega
  have hsym : ∀ x y : Int, (x == y) = (y == x) := fun x y => by
    rw [Bool.eq_iff_iff, beq_iff_eq, beq_iff_eq]; exact ⟨fun h => h.symm, fun h => h.symm⟩
  unfold m_impl_Channel_pieceOrder_bimplChannel_s17
  dsimp only
  rw [bif_t (decide_eq_true hlt), pc_get hk]
  simp only [Option.bind_some, enc0, enc1, enc2]
  rw [in_gen, in_gen, nat_ble, nat_ble, nat_ble, nat_ble, rg_get hk, p0C_ok (Int.natCast_nonneg _), Int.toNat_natCast, hsym _ a, hsym _ b, ha, hb]
  simp only [Option.bind_some]
  rw [shlI_nat (by omega), orI_nat (pow62 (by omega) hgl) (pow62 (by omega) (Nat.pow_lt_pow_right (by omega) hi)), set_rg hk, wr_suc (by omega)]
  unfold hitP updO inP
  generalize (T.getD c 0 == (((pcA T U i).1 : Nat) : Int)) = b1
  generalize (U.getD c 0 == (((pcA T U k).1 : Nat) : Int)) = b2
  generalize (decide ((pcA T U i).2.1 ≤ c) && decide (c ≤ (pcA T U i).2.2)) = b3
  generalize (decide ((pcA T U k).2.1 ≤ c) && decide (c ≤ (pcA T U k).2.2)) = b4
  cases b1 <;> cases b2 <;> cases b3 <;> cases b4 <;> simp only [cond_true, cond_false, Bool.and_true, Bool.and_false, Bool.false_and, Bool.true_and, if_true, Bool.false_eq_true, if_false, Option.bind_some]
end
end Go.Proofs.YtbfjekmefcpkmaaDoor

set_option linter.unusedSimpArgs false
set_option linter.unusedVariables false
set_option linter.unusedSectionVars false
namespace Go.Proofs.YtbfjekmefcpkmaaDoor
open Go.RowKit

section
variable {T U : List Int}
theorem pcLen : (((pcL T U).map encP).length : Int) = ((nP T U : Nat) : Int) := by rw [List.length_map]; rfl
theorem pap_eq (hn : nP T U ≤ 12) : ∃ f, loopM (m_impl_Channel_pieceOrder_bimplChannel_s3 ((pcL T U).map encP)) (0, rg (nP T U) (fun _ => 0)) = some (rg (nP T U) f) ∧ ∀ x y, (f x).testBit y = true ↔ (x < nP T U ∧ y < nP T U ∧ apP T U x y = true) := by
  obtain ⟨r, h1, f, rfl, hF⟩ := loopM_count (m_impl_Channel_pieceOrder_bimplChannel_s3 ((pcL T U).map encP)) (nP T U) (fun i s => ∃ f, s = ((i : Int), rg (nP T U) f) ∧ Fil (nP T U) (apP T U) (fun x y => (f x).testBit y) i 0)
    (fun r => ∃ f, r = rg (nP T U) f ∧ Fil (nP T U) (apP T U) (fun x y => (f x).testBit y) (nP T U) 0) (s0 := (0, rg (nP T U) (fun _ => 0))) ⟨fun _ => 0, rfl, fun x y => by simp [Bef]⟩ (by
      rintro i s hi ⟨f, rfl, hF⟩
      left
      obtain ⟨r, hr, f', rfl, hF'⟩ := loopM_count (m_impl_Channel_pieceOrder_bimplChannel_s4 ((pcL T U).map encP) (i : Int) (encP (pcA T U i))) (nP T U) (fun k s => ∃ f, s = ((k : Int), rg (nP T U) f) ∧ Fil (nP T U) (apP T U) (fun x y => (f x).testBit y) i k)
        (fun r => ∃ f, r = rg (nP T U) f ∧ Fil (nP T U) (apP T U) (fun x y => (f x).testBit y) (i + 1) 0) (s0 := (0, rg (nP T U) f)) ⟨f, rfl, hF⟩ (by
          rintro k s hk ⟨f, rfl, hA⟩
          left
          have hfl : f i < 2 ^ nP T U := bits_lt fun y hy => ((hA i y).1 hy).2.1
          refine ⟨_, papStep hn hi hk hfl, _, rfl, ?_⟩
          cases ha : apP T U i k with
          | false => exact hA.skip hk ha
          | true => exact hA.add hi hk ha fun x y => upd_bit) (by
          rintro s ⟨f, rfl, hA⟩
          refine ⟨_, ?_, f, rfl, hA.row⟩
          unfold m_impl_Channel_pieceOrder_bimplChannel_s4
          dsimp only
          rw [bif_f (by rw [decide_eq_false_iff_not, pcLen]; omega)])
      refine ⟨(((i + 1 : Nat) : Int), rg (nP T U) f'), ?_, f', rfl, hF'⟩
      unfold m_impl_Channel_pieceOrder_bimplChannel_s3
      dsimp only
      rw [bif_t (by rw [decide_eq_true_eq, pcLen]; omega), pc_get hi]
      simp only [Option.bind_some]
      rw [hr]
      simp only [Option.bind_some]
      rw [wr_suc (by omega)]) (by
      rintro s ⟨f, rfl, hF⟩
      refine ⟨_, ?_, f, rfl, hF⟩
      unfold m_impl_Channel_pieceOrder_bimplChannel_s3
      dsimp only
      rw [bif_f (by rw [decide_eq_false_iff_not, pcLen]; omega)])
  exact ⟨f, h1, fun x y => hF.done x y⟩
/-- Pieces of one net meet no pin of two nets. -/
def hitQ (T U : List Int) (c i k : Nat) : Bool := decide (T.getD c 0 ≠ U.getD c 0) && hitP T U c i k
def CI (T U : List Int) (c i k : Nat) (g : Nat → Nat) : Prop := FilC (nP T U) (hitQ T U) (fun x y => (g y).testBit x) c i k
theorem pah_in (hn : nP T U ≤ 12) {c : Nat} {a b : Int} (ha : a = T.getD c 0) (hb : b = U.getD c 0) (hne : T.getD c 0 ≠ U.getD c 0) {g : Nat → Nat} (hg : CI T U c 0 0 g) :
    ∃ g', loopM (m_impl_Channel_pieceOrder_bimplChannel_s16 ((pcL T U).map encP) (c : Int) a b) (0, rg (nP T U) g) = some (rg (nP T U) g') ∧ CI T U (c + 1) 0 0 g' := by
  obtain ⟨r, h1, f, rfl, hF⟩ := loopM_count (m_impl_Channel_pieceOrder_bimplChannel_s16 ((pcL T U).map encP) (c : Int) a b) (nP T U) (fun i s => ∃ g, s = ((i : Int), rg (nP T U) g) ∧ CI T U c i 0 g)
    (fun r => ∃ g, r = rg (nP T U) g ∧ CI T U c (nP T U) 0 g) (s0 := (0, rg (nP T U) g)) ⟨g, rfl, hg⟩ (by
      rintro i s hi ⟨g, rfl, hF⟩
      left
      obtain ⟨r, hr, g', rfl, hF'⟩ := loopM_count (m_impl_Channel_pieceOrder_bimplChannel_s17 ((pcL T U).map encP) (c : Int) a b (i : Int) (encP (pcA T U i))) (nP T U) (fun k s => ∃ g, s = ((k : Int), rg (nP T U) g) ∧ CI T U c i k g)
        (fun r => ∃ g, r = rg (nP T U) g ∧ CI T U c (i + 1) 0 g) (s0 := (0, rg (nP T U) g)) ⟨g, rfl, hF⟩ (by
          rintro k s hk ⟨g, rfl, hA⟩
          left
          have hgl : g k < 2 ^ nP T U := bits_lt fun x hx => ((hA x k).1 hx).1
          refine ⟨_, pahStep hn hi hk hgl ha hb, _, rfl, ?_⟩
          cases hh : hitP T U c i k with
          | false => exact FilC.skip hA hk (by unfold hitQ; rw [hh, Bool.and_false])
          | true => exact FilC.add hA hi hk (by unfold hitQ; rw [hh, decide_eq_true hne]; rfl) fun x y => upd_bit.trans (or_congr Iff.rfl And.comm)) (by
          rintro s ⟨g, rfl, hA⟩
          refine ⟨_, ?_, g, rfl, FilC.row hA⟩
          unfold m_impl_Channel_pieceOrder_bimplChannel_s17
          dsimp only
          rw [bif_f (by rw [decide_eq_false_iff_not, pcLen]; omega)])
      refine ⟨(((i + 1 : Nat) : Int), rg (nP T U) g'), ?_, g', rfl, hF'⟩
      unfold m_impl_Channel_pieceOrder_bimplChannel_s16
      dsimp only
      rw [bif_t (by rw [decide_eq_true_eq, pcLen]; omega), pc_get hi]
      simp only [Option.bind_some]
      rw [hr]
      simp only [Option.bind_some]
      rw [wr_suc (by omega)]) (by
      rintro s ⟨g, rfl, hF⟩
      refine ⟨_, ?_, g, rfl, hF⟩
      unfold m_impl_Channel_pieceOrder_bimplChannel_s16
      dsimp only
      rw [bif_f (by rw [decide_eq_false_iff_not, pcLen]; omega)])
  exact ⟨f, h1, FilC.col hF⟩
theorem pah_eq (P : Pins T U) (hn : nP T U ≤ 12) : ∃ g, loopM (m_impl_Channel_pieceOrder_bimplChannel_s13 T U ((pcL T U).map encP) (cI (netL T U))) (0, rg (nP T U) (fun _ => 0)) = some (rg (nP T U) g) ∧ CI T U T.length 0 0 g := by
  have hm := P.small
  have hlen : (cI (netL T U)).length ≤ 1000 := by rw [cI_len]; have := netL_len (T := T) (U := U); omega
  obtain ⟨r, h1, g, rfl, hF⟩ := loopM_count (m_impl_Channel_pieceOrder_bimplChannel_s13 T U ((pcL T U).map encP) (cI (netL T U))) T.length (fun c s => ∃ g, s = ((c : Int), rg (nP T U) g) ∧ CI T U c 0 0 g)
    (fun r => ∃ g, r = rg (nP T U) g ∧ CI T U T.length 0 0 g) (s0 := (0, rg (nP T U) (fun _ => 0))) ⟨fun _ => 0, rfl, fun x y => by simp [Bef]⟩ (by
      rintro c s hc ⟨g, rfl, hF⟩
      left
      have ht : geti T (c : Int) = some (T.getD c 0) := getD_at hc
      have hu : geti U (c : Int) = some (U.getD c 0) := getD_at (by rw [P.len]; exact hc)
      have stay : (∀ x y, x < nP T U → y < nP T U → hitQ T U c x y = false) → ∃ g', (((c + 1 : Nat) : Int), rg (nP T U) g) = (((c + 1 : Nat) : Int), rg (nP T U) g') ∧ CI T U (c + 1) 0 0 g' := fun h => ⟨g, rfl, FilC.none hF h⟩
      have head : m_impl_Channel_pieceOrder_bimplChannel_s13 T U ((pcL T U).map encP) (cI (netL T U)) ((c : Int), rg (nP T U) g) =
          (bif (T.getD c 0 == U.getD c 0) then some (.next (((c + 1 : Nat) : Int), rg (nP T U) g)) else (bif !decide (T.getD c 0 ∈ cI (netL T U)) then some (.next (((c + 1 : Nat) : Int), rg (nP T U) g)) else (bif !decide (U.getD c 0 ∈ cI (netL T U)) then some (.next (((c + 1 : Nat) : Int), rg (nP T U) g)) else Option.bind (loopM (m_impl_Channel_pieceOrder_bimplChannel_s16 ((pcL T U).map encP) (c : Int) (T.getD c 0) (U.getD c 0)) (0, rg (nP T U) g)) fun l8 => some (.next (((c + 1 : Nat) : Int), l8))))) := by
        unfold m_impl_Channel_pieceOrder_bimplChannel_s13
        dsimp only
        rw [bif_t (by rw [decide_eq_true_eq]; omega), ht]
        simp only [Option.bind_some]
        rw [hu]
        simp only [Option.bind_some]
        rw [Contains_eq _ hlen, Contains_eq _ hlen, wr_suc (by omega)]
        simp only [Option.bind_some]
      rw [head]
      by_cases e : T.getD c 0 = U.getD c 0
      · rw [bif_t (by rw [beq_iff_eq]; exact e)]
        exact ⟨_, rfl, stay fun x y _ _ => by unfold hitQ; rw [decide_eq_false (fun h => h e), Bool.false_and]⟩
      · rw [bif_f (by rw [beq_eq_false_iff_ne]; exact e)]
        by_cases e1 : T.getD c 0 ∈ cI (netL T U)
        · rw [bif_f (by rw [decide_eq_true e1]; rfl)]
          by_cases e2 : U.getD c 0 ∈ cI (netL T U)
          · rw [bif_f (by rw [decide_eq_true e2]; rfl)]
            obtain ⟨g', hr, hF'⟩ := pah_in hn (a := T.getD c 0) (b := U.getD c 0) rfl rfl e hF
            rw [hr]
            exact ⟨_, rfl, g', rfl, hF'⟩
          · rw [bif_t (by rw [decide_eq_false e2]; rfl)]
            refine ⟨_, rfl, stay fun x y _ hy => ?_⟩
            have hne : (U.getD c 0 == (((pcA T U y).1 : Nat) : Int)) = false := by
              rw [beq_eq_false_iff_ne]
              intro h
              exact e2 (h ▸ mem_cI.2 (pcA_ok hy).1)
            unfold hitQ hitP
            rw [hne, Bool.false_and, Bool.and_false, Bool.and_false]
        · rw [bif_t (by rw [decide_eq_false e1]; rfl)]
          refine ⟨_, rfl, stay fun x y hx _ => ?_⟩
          have hne : (T.getD c 0 == (((pcA T U x).1 : Nat) : Int)) = false := by
            rw [beq_eq_false_iff_ne]
            intro h
            exact e1 (h ▸ mem_cI.2 (pcA_ok hx).1)
          unfold hitQ hitP
          rw [hne, Bool.false_and, Bool.and_false]) (by
      rintro s ⟨g, rfl, hF⟩
      refine ⟨_, ?_, g, rfl, hF⟩
      unfold m_impl_Channel_pieceOrder_bimplChannel_s13
      dsimp only
      rw [bif_f (by simp)])
  exact ⟨g, h1, hF⟩
theorem CI_done {g : Nat → Nat} (hF : CI T U T.length 0 0 g) (x y : Nat) : (g y).testBit x = true ↔ (x < nP T U ∧ y < nP T U ∧ abP T U x y = true) := by
  rw [hF x y]
  refine and_congr Iff.rfl (and_congr Iff.rfl ?_)
  unfold abP
  rw [Bool.and_eq_true, decide_eq_true_eq, anyIn_t]
  constructor
  · rintro (⟨c, h1, h2⟩ | ⟨_, h⟩)
    · unfold hitQ at h2
      rw [Bool.and_eq_true, decide_eq_true_eq] at h2
      refine ⟨fun e => h2.1 ?_, c, Nat.zero_le _, h1, h2.2⟩
      have h3 := h2.2
      unfold hitP at h3
      rw [Bool.and_eq_true, Bool.and_eq_true, beq_iff_eq, beq_iff_eq] at h3
      rw [h3.1, h3.2.1, e]
    · unfold Bef at h; omega
  · rintro ⟨hne, c, _, h1, h2⟩
    refine .inl ⟨c, h1, ?_⟩
    unfold hitQ
    rw [h2, Bool.and_true, decide_eq_true_eq]
    unfold hitP at h2
    rw [Bool.and_eq_true, Bool.and_eq_true, beq_iff_eq, beq_iff_eq] at h2
    rw [h2.1, h2.2.1]
    intro e
    exact hne (by omega)
theorem pieceOrder_eq (P : Pins T U) (hn : nP T U ≤ 12) : ∃ apN ahN, m_impl_Channel_pieceOrder_bimplChannel T U = some (rg (nP T U) apN, rg (nP T U) ahN) ∧ Ord (apP T U) (abP T U) (nP T U) apN ahN := by
  obtain ⟨f, hf1, hf2⟩ := pap_eq hn
  obtain ⟨g, hg1, hg2⟩ := pah_eq P hn
  have hg3 := CI_done hg2
  refine ⟨f, g, ?_, ⟨apP_sym, fun i => by simp [apP], fun k i hk hi => ?_, fun k hk => ?_, fun k i hk hi => ?_, fun k hk => ?_, by omega⟩⟩
  · have hrep : List.replicate (nP T U) (0 : Int) = rg (nP T U) (fun _ => 0) := by
      refine List.ext_getElem (by simp [rg, cI]) fun j h1 h2 => ?_
      simp [rg, cI]
    have hno : m_impl_newOrder (((pcL T U).map encP).length : Int) = some (rg (nP T U) (fun _ => 0), rg (nP T U) (fun _ => 0)) := by
      unfold m_impl_newOrder
      rw [pcLen]
      have hmk : mkC ((nP T U : Nat) : Int) = some () := by
        unfold mkC chk
        have := hlim
        simp; omega
      rw [hmk]
      simp only [Option.bind_some]
      rw [Int.toNat_natCast, hrep]
    unfold m_impl_Channel_pieceOrder_bimplChannel
    rw [pieces_eq P.len P.small, nets_eq P.len P.small]
    simp only [Option.bind_some]
    rw [hno]
    simp only [Option.bind_some]
    rw [hf1]
    simp only [Option.bind_some]
    rw [hg1]; rfl
  · rw [Bool.eq_iff_iff, hf2]
    exact ⟨fun h => h.2.2, fun h => ⟨hk, hi, h⟩⟩
  · exact bits_lt fun y hy => ((hf2 k y).1 hy).2.1
  · rw [Bool.eq_iff_iff, hg3]
    exact ⟨fun h => h.2.2, fun h => ⟨hi, hk, h⟩⟩
  · exact bits_lt fun x hx => ((hg3 x k).1 hx).1
end
end Go.Proofs.YtbfjekmefcpkmaaDoor

set_option linter.unusedSimpArgs false
set_option linter.unusedVariables false
set_option linter.unusedSectionVars false
namespace Go.Proofs.YtbfjekmefcpkmaaDoor
open Go.RowKit

theorem max_eq (a b : Nat) : m_spec_l00Max ((a : Nat) : Int) ((b : Nat) : Int) = some ((max a b : Nat) : Int) := by
  unfold m_spec_l00Max
  by_cases h : b < a
  · rw [bif_t (by rw [decide_eq_true_eq]; omega), Nat.max_eq_left (by omega)]
  · rw [bif_f (by rw [decide_eq_false_iff_not]; omega), Nat.max_eq_right (by omega)]
theorem min_eq (a b : Nat) : m_spec_l00Min ((a : Nat) : Int) ((b : Nat) : Int) = some ((min a b : Nat) : Int) := by
  unfold m_spec_l00Min
  by_cases h : a < b
  · rw [bif_t (by rw [decide_eq_true_eq]; omega), Nat.min_eq_left (by omega)]
  · rw [bif_f (by rw [decide_eq_false_iff_not]; omega), Nat.min_eq_right (by omega)]
theorem told2_eq {tr : List (List Nat)} (ht : tr.length ≤ 1000) (hr : ∀ t ∈ tr, t.length ≤ 1000) :
    m_impl_toldTracks_impl_FewestWithDoglegs_1 (tr.map cI) = some (tr.map cI) := by
  have inner : ∀ t : List Nat, t.length ≤ 1000 → loopM (m_impl_toldTracks_impl_FewestWithDoglegs_1_s4 (cI t)) (([] : List Int), 0) = some (cI t) := fun t h1 => by
    refine loopM_val _ t.length (fun k s => s = (cI (t.take k), (k : Int))) (by simp [cI]) (fun k s hk h => ?_) (fun s h => ?_)
    · subst h
      refine .inl ⟨_, ?_, rfl⟩
      unfold m_impl_toldTracks_impl_FewestWithDoglegs_1_s4 m_impl_FewestWithDoglegs_1
      dsimp only
      rw [bif_t (by rw [decide_eq_true_eq, cI_len]; omega), geti_cI hk]
      simp only [Option.bind_some]
      rw [apC_sm (by rw [cI_len]; simp; omega), wr_suc (by omega), List.take_succ_eq_append_getElem hk]
      simp only [Option.bind_some]
      unfold cI
      rw [List.map_append]
      rfl
    · subst h
      unfold m_impl_toldTracks_impl_FewestWithDoglegs_1_s4
      dsimp only
      rw [bif_f (by rw [decide_eq_false_iff_not, cI_len]; omega), List.take_length]
  unfold m_impl_toldTracks_impl_FewestWithDoglegs_1
  have : loopM (m_impl_toldTracks_impl_FewestWithDoglegs_1_s3 (tr.map cI)) (([] : List (List Int)), 0) = some (tr.map cI) := by
    refine loopM_val _ tr.length (fun k s => s = ((tr.take k).map cI, (k : Int))) (by simp) (fun k s hk h => ?_) (fun s h => ?_)
    · subst h
      refine .inl ⟨_, ?_, rfl⟩
      have hg : geti (tr.map cI) (k : Int) = some (cI tr[k]) := by rw [geti_nat, List.getElem?_map, List.getElem?_eq_getElem hk]; rfl
      have hm := hr _ (List.getElem_mem hk)
      unfold m_impl_toldTracks_impl_FewestWithDoglegs_1_s3
      dsimp only
      rw [bif_t (by rw [decide_eq_true_eq, List.length_map]; omega), hg]
      simp only [Option.bind_some]
      rw [inner _ hm]
      simp only [Option.bind_some]
      rw [apC_sm (by simp; omega), wr_suc (by omega), List.take_succ_eq_append_getElem hk, List.map_append]
      rfl
    · subst h
      unfold m_impl_toldTracks_impl_FewestWithDoglegs_1_s3
      dsimp only
      rw [bif_f (by rw [decide_eq_false_iff_not, List.length_map]; omega), List.take_length]
  rw [this]; rfl
end Go.Proofs.YtbfjekmefcpkmaaDoor

set_option linter.unusedSimpArgs false
set_option linter.unusedVariables false
set_option linter.unusedSectionVars false
namespace Go.Proofs.YtbfjekmefcpkmaaDoor
open Go.RowKit

section
variable {T U : List Int}
theorem anyIn_snoc {a k : Nat} (h : a ≤ k) (p : Nat → Bool) : anyIn a (k + 1) p = (anyIn a k p || p k) := by
  rw [Bool.eq_iff_iff, Bool.or_eq_true, anyIn_t, anyIn_t]
  constructor
  · rintro ⟨j, h1, h2, h3⟩
    by_cases e : j = k
    · subst e; exact .inr h3
    · exact .inl ⟨j, h1, by omega, h3⟩
  · rintro (⟨j, h1, h2, h3⟩ | h3)
    · exact ⟨j, h1, by omega, h3⟩
    · exact ⟨k, h, by omega, h3⟩
theorem row13 (P : Pins T U) {i k : Nat} (hi : i < nP T U) (hk : k < nP T U) {l : List Bool} (hl : l.length = nP T U) (hl0 : l[k]'(by omega) = false) :
    loopM (m_spec_l03OfPieces_bimplChannel_s13 T U (encP (pcA T U i)) (k : Int) (encP (pcA T U k))) (((max (pcA T U i).2.1 (pcA T U k).2.1 : Nat) : Int), l) = some (l.set k (abP T U i k)) := by
  have hm := P.small
  have hpi := pcA_ok hi
  have hpk := pcA_ok hk
  have hself : l.set k false = l := by rw [← hl0, List.set_getElem_self]
  by_cases e : (pcA T U i).1 = (pcA T U k).1
  · have hab : abP T U i k = false := by unfold abP; rw [decide_eq_false (fun h => h e), Bool.false_and]
    rw [hab, hself]
    refine loopM_out ?_
    unfold m_spec_l03OfPieces_bimplChannel_s13
    dsimp only
    simp only [enc0, enc1, enc2, Option.bind_some, min_eq]
    rw [nat_bne, decide_eq_false (show ¬ ((pcA T U i).1 ≠ (pcA T U k).1) from fun h => h e)]
    generalize decide (((max (pcA T U i).2.1 (pcA T U k).2.1 : Nat) : Int) ≤ ((min (pcA T U i).2.2 (pcA T U k).2.2 : Nat) : Int)) = b
    cases b <;> rfl
  · let f : Nat → Bool := fun at_ => (T.getD at_ 0 == (((pcA T U i).1 : Nat) : Int)) && (U.getD at_ 0 == (((pcA T U k).1 : Nat) : Int))
    have hab : abP T U i k = anyIn (max (pcA T U i).2.1 (pcA T U k).2.1) (min (pcA T U i).2.2 (pcA T U k).2.2 + 1) f := by
      unfold abP
      rw [decide_eq_true e, Bool.true_and, Bool.eq_iff_iff, anyIn_t, anyIn_t]
      constructor
      · rintro ⟨c, _, h1, h2⟩
        unfold hitP inP at h2
        simp only [Bool.and_eq_true, decide_eq_true_eq] at h2
        exact ⟨c, by omega, by omega, by show (_ && _) = true; rw [h2.1, h2.2.1]; rfl⟩
      · rintro ⟨c, h1, h2, h3⟩
        have h3' : ((T.getD c 0 == (((pcA T U i).1 : Nat) : Int)) && (U.getD c 0 == (((pcA T U k).1 : Nat) : Int))) = true := h3
        rw [Bool.and_eq_true] at h3'
        refine ⟨c, Nat.zero_le _, by omega, ?_⟩
        unfold hitP inP
        simp only [Bool.and_eq_true, decide_eq_true_eq]
        exact ⟨h3'.1, h3'.2, ⟨by omega, by omega⟩, by omega, by omega⟩
    rw [hab]
    generalize hlo : max (pcA T U i).2.1 (pcA T U k).2.1 = lo
    generalize hhi : min (pcA T U i).2.2 (pcA T U k).2.2 = hi'
    have hhm : hi' < T.length := by omega
    refine loopM_val _ (hi' + 1 - lo) (fun d s => s = (((lo + d : Nat) : Int), l.set k (anyIn lo (lo + d) f))) ?_ (fun d s hd h => ?_) (fun s h => ?_)
    · have : anyIn lo (lo + 0) f = false := anyIn_f.2 fun j h1 h2 => by omega
      rw [this, hself]; rfl
    · subst h
      refine .inl ⟨_, ?_, rfl⟩
      have hat : lo + d < T.length := by omega
      have hg : ∀ v : Bool, geti (l.set k v) (k : Int) = some v := fun v => geti_set (by omega)
      unfold m_spec_l03OfPieces_bimplChannel_s13
      dsimp only
      simp only [enc0, enc1, enc2, Option.bind_some, min_eq, hhi]
      rw [bif_t (by rw [decide_eq_true_eq]; omega), nat_bne, decide_eq_true (show (pcA T U i).1 ≠ (pcA T U k).1 from e)]
      simp only [Option.bind_some, cond_true]
      rw [hg, getD_at hat, getD_at (show lo + d < U.length by rw [P.len]; exact hat), Int.toNat_natCast]
      simp only [Option.bind_some, List.set_set]
      rw [show lo + (d + 1) = (lo + d) + 1 from rfl, anyIn_snoc (by omega), wr_suc (by omega)]
      have hf : f (lo + d) = ((T.getD (lo + d) 0 == (((pcA T U i).1 : Nat) : Int)) && (U.getD (lo + d) 0 == (((pcA T U k).1 : Nat) : Int))) := rfl
      rw [hf]
      generalize (T.getD (lo + d) 0 == (((pcA T U i).1 : Nat) : Int)) = b1
      generalize (U.getD (lo + d) 0 == (((pcA T U k).1 : Nat) : Int)) = b2
      generalize anyIn lo (lo + d) f = b3
      cases b1 <;> cases b2 <;> cases b3 <;> simp only [cond_true, cond_false, Bool.and_true, Bool.and_false, Bool.false_and, Bool.true_and, Bool.or_true, Bool.or_false, Bool.false_or, Bool.true_or, Option.bind_some]
    · subst h
      by_cases hle : lo ≤ hi' + 1
      · rw [show lo + (hi' + 1 - lo) = hi' + 1 by omega]
        unfold m_spec_l03OfPieces_bimplChannel_s13
        dsimp only
        simp only [enc0, enc1, enc2, Option.bind_some, min_eq, hhi]
        rw [bif_f (by rw [decide_eq_false_iff_not]; omega)]
        rfl
      · have h1 : anyIn lo (lo + (hi' + 1 - lo)) f = false := anyIn_f.2 fun j h1 h2 => by omega
        have h2 : anyIn lo (hi' + 1) f = false := anyIn_f.2 fun j h1 h2 => by omega
        rw [h1, h2]
        unfold m_spec_l03OfPieces_bimplChannel_s13
        dsimp only
        simp only [enc0, enc1, enc2, Option.bind_some, min_eq, hhi]
        rw [bif_f (by rw [decide_eq_false_iff_not]; omega)]
        rfl
end
end Go.Proofs.YtbfjekmefcpkmaaDoor

set_option linter.unusedSimpArgs false
set_option linter.unusedVariables false
set_option linter.unusedSectionVars false
namespace Go.Proofs.YtbfjekmefcpkmaaDoor
open Go.RowKit

section
variable {T U : List Int}
theorem spcLen : (((pcL T U).map encP).length : Int) = ((nP T U : Nat) : Int) := pcLen
theorem row12 (P : Pins T U) {i : Nat} (hi : i < nP T U) : loopM (m_spec_l03OfPieces_bimplChannel_s12 T U ((pcL T U).map encP) (encP (pcA T U i))) (0, part (nP T U) 0 (apP T U i), part (nP T U) 0 (abP T U i)) = some (part (nP T U) (nP T U) (apP T U i), part (nP T U) (nP T U) (abP T U i)) := by
  have hbig : nP T U ≤ 288 := pcL_len P.small
  refine loopM_val _ (nP T U) (fun k s => s = ((k : Int), part (nP T U) k (apP T U i), part (nP T U) k (abP T U i))) rfl (fun k s hk h => ?_) (fun s h => ?_)
  · subst h
    refine .inl ⟨_, ?_, rfl⟩
    have hl : (part (nP T U) k (abP T U i)).length = nP T U := by simp [part]
    have hr := row13 P hi hk hl (by simp [part])
    have e1 := part_set (p := apP T U i) hk
    have e2 := part_set (p := abP T U i) hk
    unfold m_spec_l03OfPieces_bimplChannel_s12
    dsimp only
    rw [bif_t (by rw [decide_eq_true_eq, spcLen]; omega), pc_get hk]
    simp only [Option.bind_some, enc0, enc1, enc2, max_eq]
    rw [nat_bne, nat_ble, nat_ble, part_get hk, hr, Int.toNat_natCast, wr_suc (by omega), e2, ← e1]
    simp only [Option.bind_some]
    unfold apP
    generalize decide ((pcA T U i).1 ≠ (pcA T U k).1) = b1
    generalize decide ((pcA T U i).2.1 ≤ (pcA T U k).2.2) = b2
    generalize decide ((pcA T U k).2.1 ≤ (pcA T U i).2.2) = b3
    cases b1 <;> cases b2 <;> simp only [cond_true, cond_false, Bool.and_true, Bool.and_false, Bool.false_and, Bool.true_and, Option.bind_some]
  · subst h
    unfold m_spec_l03OfPieces_bimplChannel_s12
    dsimp only
    rw [bif_f (by rw [decide_eq_false_iff_not, spcLen]; omega)]
theorem ofPieces_eq (P : Pins T U) : m_spec_l03OfPieces_bimplChannel T U = some ((List.range (nP T U)).map (fun (i : Nat) => (i : Int)), bm (nP T U) (apP T U), bm (nP T U) (abP T U)) := by
  have hbig : nP T U ≤ 288 := pcL_len P.small
  have full : ∀ p : Nat → Bool, part (nP T U) (nP T U) p = (List.range (nP T U)).map p := fun p => by
    unfold part
    refine List.map_congr_left fun j hj => ?_
    rw [decide_eq_true (List.mem_range.1 hj), Bool.true_and]
  have zero : ∀ p : Nat → Bool, List.replicate (nP T U) false = part (nP T U) 0 p := fun p => by
    refine List.ext_getElem (by simp [part]) fun j h1 h2 => ?_
    simp [part]
  have outer : loopM (m_spec_l03OfPieces_bimplChannel_s9 T U ((pcL T U).map encP)) (0, ([] : List Int), ([] : List (List Bool)), ([] : List (List Bool))) = some ((List.range (nP T U)).map (fun (i : Nat) => (i : Int)), bm (nP T U) (apP T U), bm (nP T U) (abP T U)) := by
    refine loopM_val _ (nP T U) (fun i s => s = ((i : Int), ((List.range i).map (fun (i : Nat) => (i : Int))), ((List.range i).map fun i => (List.range (nP T U)).map (apP T U i)), ((List.range i).map fun i => (List.range (nP T U)).map (abP T U i)))) rfl (fun i s hi h => ?_) (fun s h => ?_)
    · subst h
      refine .inl ⟨_, ?_, rfl⟩
      have hmk : mkC ((nP T U : Nat) : Int) = some () := by
        unfold mkC chk
        have := hlim
        simp; omega
      have hz : loopM (m_spec_l03OfPieces_bimplChannel_s12 T U ((pcL T U).map encP) (encP (pcA T U i))) (0, List.replicate (nP T U) false, List.replicate (nP T U) false) = some ((List.range (nP T U)).map (apP T U i), (List.range (nP T U)).map (abP T U i)) := by
        have := row12 P hi
        rw [← zero, ← zero, full, full] at this
        exact this
      unfold m_spec_l03OfPieces_bimplChannel_s9
      dsimp only
      rw [bif_t (by rw [decide_eq_true_eq, spcLen]; omega), pc_get hi]
      simp only [Option.bind_some]
      rw [spcLen, hmk]
      simp only [Option.bind_some]
      rw [Int.toNat_natCast, hz]
      simp only [Option.bind_some]
      rw [apC_sm (by simp; omega), apC_sm (by simp; omega), apC_sm (by simp; omega)]
      simp only [Option.bind_some]
      rw [wr_suc (by omega), List.range_succ, List.map_append, List.map_append, List.map_append]
      rfl
    · subst h
      unfold m_spec_l03OfPieces_bimplChannel_s9
      dsimp only
      rw [bif_f (by rw [decide_eq_false_iff_not, spcLen]; omega)]
      rfl
  unfold m_spec_l03OfPieces_bimplChannel
  rw [spieces_eq P.len P.small]
  simp only [Option.bind_some]
  rw [outer]
  rfl
end
theorem dog_both (T U : List Int) (hT : T.length ≤ 1048576) (hU : U.length ≤ 1048576) : ∃ r, m_impl_FewestWithDoglegs T U = some r ∧ m_spec_FewestWithDoglegs T U = some r ∧ Few r := by
  unfold m_impl_FewestWithDoglegs m_spec_FewestWithDoglegs
  rw [Valid_eq T U hT hU, Is_eq T U hT hU]
  simp only [Option.bind_some]
  cases hv : valB T U with
  | false => exact ⟨([], false), rfl, rfl, by simp, fun t ht => by simp at ht⟩
  | true =>
    have P := valB_pins hv
    rw [bif_f (by rfl), bif_f (by rfl), pieces_eq P.len P.small, ofPieces_eq P]
    simp only [Option.bind_some]
    rw [pcLen, show (((List.range (nP T U)).map (fun (i : Nat) => (i : Int))).length : Int) = ((nP T U : Nat) : Int) from by simp]
    by_cases hn : nP T U ≤ 12
    · rw [bif_f (by rw [decide_eq_false_iff_not]; omega), bif_f (by rw [decide_eq_false_iff_not]; omega)]
      obtain ⟨apN, ahN, h1, O⟩ := pieceOrder_eq P hn
      rw [h1]
      simp only [Option.bind_some]
      rcases both_best (nm := fun (i : Nat) => (i : Int)) O (by omega) (fun i k h _ => Int.ofNat_lt.2 h) with ⟨cs, g1, g2, hC⟩ | ⟨g1, g2⟩
      · have hlen := hC.len (full_lt _)
        have hcn := cnt_le (nP T U) (2 ^ nP T U - 1)
        have hrow : ∀ t ∈ cs.map (bitsL (nP T U)), t.length ≤ 1000 := fun t ht => by
          obtain ⟨c, _, rfl⟩ := List.mem_map.1 ht
          exact cnt_small (by omega) c
        have htold := told2_eq (tr := cs.map (bitsL (nP T U))) (by simp; omega) hrow
        have e1 : (cs.map fun c => cI (bitsL (nP T U) c)) = (cs.map (bitsL (nP T U))).map cI := by rw [List.map_map]; rfl
        rw [g1, g2]
        simp only [Option.bind_some]
        rw [bif_f (by rfl), e1, htold]
        simp only [Option.bind_some]
        refine ⟨_, rfl, ?_, ?_, ?_⟩
        · rw [List.map_map]; rfl
        · simp; omega
        · intro t ht
          rw [List.map_map] at ht
          obtain ⟨c, _, rfl⟩ := List.mem_map.1 ht
          have := cnt_small (n := nP T U) (by omega) c
          simpa [cI] using this
      · rw [g1, g2]
        exact ⟨([], false), rfl, rfl, by simp, fun t ht => by simp at ht⟩
    · rw [bif_t (by rw [decide_eq_true_eq]; omega), bif_t (by rw [decide_eq_true_eq]; omega)]
      exact ⟨([], false), rfl, rfl, by simp, fun t ht => by simp at ht⟩
end Go.Proofs.YtbfjekmefcpkmaaDoor
