/- Channels: the columns, the spans, the nets, what must be above what. -/
import Derived.Test.YtbfjekmefcpkmaaDoorPcP1
set_option linter.unusedSimpArgs false
set_option linter.unusedVariables false
set_option linter.unusedSectionVars false
namespace Go.Proofs.YtbfjekmefcpkmaaDoor
open Go.RowKit

theorem hlim : lim = 1099511627776 := rfl
theorem apC_sm {α : Type} {l l2 : List α} (h : l.length + l2.length ≤ 1000000) : apC l l2 = some () := by
  unfold apC chk
  have := hlim
  simp; omega
theorem wr_suc {k : Nat} (h : k < 2 ^ 40) : wr ((k : Int) + 1) = ((k + 1 : Nat) : Int) := by rw [wr_in (by omega)]; push_cast; rfl
section
variable (T U : List Int)
/-- Is there a pin of this net in this column? -/
def pinAt (a : Int) (i : Nat) : Bool := (T.getD i 0 == a) || (U.getD i 0 == a)
def colsL (a : Int) : List Nat := (List.range T.length).filter (pinAt T U a)
def loC (a : Int) : Int := ((colsL T U a).head?.map fun (k : Nat) => (k : Int)).getD (-1)
def hiC (a : Int) : Int := ((colsL T U a).getLast?.map fun (k : Nat) => (k : Int)).getD (-1)
variable {T U}
theorem getD_at {l : List Int} {i : Nat} (h : i < l.length) : geti l (i : Int) = some (l.getD i 0) := by
  rw [geti_nat, List.getD, List.getElem?_eq_getElem h]; rfl
theorem cols_eq (hu : U.length = T.length) (hm : T.length ≤ 24) (a : Int) : m_impl_Channel_columns_bimplChannel T U a = some (cI (colsL T U a)) := by
  unfold m_impl_Channel_columns_bimplChannel
  have : loopM (m_impl_Channel_columns_bimplChannel_s1 T U a) (([] : List Int), 0) = some (cI (colsL T U a)) := by
    refine loopM_val _ T.length (fun k s => s = (cI ((List.range k).filter (pinAt T U a)), (k : Int))) rfl (fun k s hk h => ?_) (fun s h => ?_)
    · subst h
      refine .inl ⟨_, ?_, rfl⟩
      unfold m_impl_Channel_columns_bimplChannel_s1
      dsimp only
      have hap : apC (cI ((List.range k).filter (pinAt T U a))) [(k : Int)] = some () := by
        have := List.length_filter_le (pinAt T U a) (List.range k)
        rw [List.length_range] at this
        refine apC_sm ?_
        rw [cI_len]; simp; omega
      rw [bif_t (by rw [decide_eq_true_eq]; omega), getD_at hk, wr_suc (by omega), hap]
      simp only [Option.bind_some]
      rw [getD_at (show k < U.length by omega), List.range_succ, List.filter_append]
      simp only [Option.bind_some]
      have hp : pinAt T U a k = ((T.getD k 0 == a) || (U.getD k 0 == a)) := rfl
      cases h1 : (T.getD k 0 == a) <;> cases h2 : (U.getD k 0 == a) <;> rw [h1, h2] at hp <;> simp [hp, cI, List.filter_cons]
    · subst h
      unfold m_impl_Channel_columns_bimplChannel_s1
      dsimp only
      rw [bif_f (by simp)]
      rfl
  rw [this]; rfl
theorem cols_lt {a : Int} : ∀ i ∈ colsL T U a, i < T.length := fun i hi => List.mem_range.1 (List.mem_filter.1 hi).1
theorem cols_sorted (a : Int) : (colsL T U a).Pairwise (· < ·) := List.pairwise_lt_range.filter _
theorem sspan_eq (hu : U.length = T.length) (hm : T.length ≤ 24) (a : Int) : m_spec_l03Span_bimplChannel T U a = some (loC T U a, hiC T U a, decide (colsL T U a ≠ [])) := by
  unfold m_spec_l03Span_bimplChannel
  let F : Nat → Int × Int := fun k => ((((List.range k).filter (pinAt T U a)).head?.map fun (k : Nat) => (k : Int)).getD (-1), (((List.range k).filter (pinAt T U a)).getLast?.map fun (k : Nat) => (k : Int)).getD (-1))
  have hneg : ∀ k, decide ((F k).1 < 0) = decide ((List.range k).filter (pinAt T U a) = []) := fun k => by
    show decide (((((List.range k).filter (pinAt T U a)).head?.map fun (k : Nat) => (k : Int)).getD (-1)) < 0) = _
    cases (List.range k).filter (pinAt T U a) with
    | nil => rfl
    | cons x r =>
      rw [Bool.eq_iff_iff, decide_eq_true_eq, decide_eq_true_eq]
      simp only [List.head?_cons, Option.map_some, Option.getD_some]
      exact ⟨fun h => by omega, fun h => by cases h⟩
  have : loopM (m_spec_l03Span_bimplChannel_s1 T U a) ((-1), (-1), 0) = some (F T.length) := by
    refine loopM_val _ T.length (fun k s => s = ((F k).1, (F k).2, (k : Int))) rfl (fun k s hk h => ?_) (fun s h => ?_)
    · subst h
      refine .inl ⟨_, ?_, rfl⟩
      unfold m_spec_l03Span_bimplChannel_s1
      dsimp only
      rw [bif_t (by rw [decide_eq_true_eq]; omega), getD_at hk, wr_suc (by omega), hneg]
      simp only [Option.bind_some]
      rw [getD_at (show k < U.length by omega)]
      simp only [Option.bind_some]
      have hp : pinAt T U a k = ((T.getD k 0 == a) || (U.getD k 0 == a)) := rfl
      have hs : F (k + 1) = if pinAt T U a k then ((if (List.range k).filter (pinAt T U a) = [] then (k : Int) else (F k).1), (k : Int)) else F k := by
        show ((((List.range (k + 1)).filter (pinAt T U a)).head?.map fun (k : Nat) => (k : Int)).getD (-1), (((List.range (k + 1)).filter (pinAt T U a)).getLast?.map fun (k : Nat) => (k : Int)).getD (-1)) = _
        rw [List.range_succ, List.filter_append]
        cases hb : pinAt T U a k with
        | false => simp [hb, F]
        | true =>
          simp only [List.filter_cons, hb, if_true, List.filter_nil, List.getLast?_append, F]
          cases (List.range k).filter (pinAt T U a) <;> simp
      rw [hs]
      cases hnil : decide ((List.range k).filter (pinAt T U a) = []) with
      | true =>
        have hn := of_decide_eq_true hnil
        cases h1 : (T.getD k 0 == a) <;> cases h2 : (U.getD k 0 == a) <;> rw [h1, h2] at hp <;> simp [hp, hn]
      | false =>
        have hn := of_decide_eq_false hnil
        cases h1 : (T.getD k 0 == a) <;> cases h2 : (U.getD k 0 == a) <;> rw [h1, h2] at hp <;> simp [hp, hn]
    · subst h
      unfold m_spec_l03Span_bimplChannel_s1
      dsimp only
      rw [bif_f (by simp)]
  rw [this]
  show some (loC T U a, hiC T U a, decide (loC T U a ≥ 0)) = _
  congr 3
  unfold loC
  cases hc : colsL T U a with
  | nil => simp
  | cons x r => simp
/-- Does a net need a track? -/
def isNet (T U : List Int) (a : Nat) : Bool := decide (1 < (colsL T U (a : Int)).length)
def netL (T U : List Int) : List Nat := (List.range' 1 12).filter (isNet T U)
theorem net_range (k : Nat) : List.range' 1 (k + 1) = List.range' 1 k ++ [k + 1] := by
  rw [List.range'_concat]; simp [Nat.add_comm]
theorem nets_eq (hu : U.length = T.length) (hm : T.length ≤ 24) : m_impl_Channel_nets_bimplChannel T U = some (cI (netL T U)) := by
  unfold m_impl_Channel_nets_bimplChannel
  have : loopM (m_impl_Channel_nets_bimplChannel_s1 T U) (([] : List Int), 1) = some (cI (netL T U)) := by
    refine loopM_val _ 12 (fun k s => s = (cI ((List.range' 1 k).filter (isNet T U)), ((k + 1 : Nat) : Int))) rfl (fun k s hk h => ?_) (fun s h => ?_)
    · subst h
      refine .inl ⟨_, ?_, rfl⟩
      unfold m_impl_Channel_nets_bimplChannel_s1
      dsimp only
      have hap : apC (cI ((List.range' 1 k).filter (isNet T U))) [((k + 1 : Nat) : Int)] = some () := by
        have := List.length_filter_le (isNet T U) (List.range' 1 k)
        rw [List.length_range'] at this
        refine apC_sm ?_
        rw [cI_len]; simp; omega
      rw [bif_t (by rw [decide_eq_true_eq]; omega), cols_eq hu hm, wr_suc (by omega), hap]
      simp only [Option.bind_some]
      have e : decide (((cI (colsL T U ((k + 1 : Nat) : Int))).length : Int) > 1) = isNet T U (k + 1) := by
        unfold isNet
        rw [cI_len]
        exact decide_eq_decide.2 (by omega)
      rw [e, net_range, List.filter_append]
      cases hb : isNet T U (k + 1) <;> simp [hb, cI, List.filter_cons]
    · subst h
      unfold m_impl_Channel_nets_bimplChannel_s1
      dsimp only
      rw [bif_f (by rfl)]
      rfl
  rw [this]; rfl
theorem head_last : ∀ {l : List Nat}, l.Pairwise (· < ·) → (decide (l ≠ []) && decide (((l.head?.map fun (k : Nat) => (k : Int)).getD (-1)) < ((l.getLast?.map fun (k : Nat) => (k : Int)).getD (-1)))) = decide (1 < l.length)
  | [], _ => by simp
  | [x], _ => by simp
  | x :: y :: r, h => by
    have hne : (y :: r) ≠ [] := by simp
    have hlast : x < (y :: r).getLast hne := (List.pairwise_cons.1 h).1 _ (List.getLast_mem hne)
    have e : (x :: y :: r).getLast? = some ((y :: r).getLast hne) := by
      rw [List.getLast?_eq_some_getLast (by simp), List.getLast_cons hne]
    rw [Bool.eq_iff_iff, Bool.and_eq_true, decide_eq_true_eq, decide_eq_true_eq, decide_eq_true_eq, e]
    simp only [List.head?_cons, Option.map_some, Option.getD_some]
    exact ⟨fun _ => by simp, fun _ => ⟨by simp, by omega⟩⟩
theorem snets_eq (hu : U.length = T.length) (hm : T.length ≤ 24) : m_spec_l03Nets_bimplChannel T U = some (cI (netL T U)) := by
  unfold m_spec_l03Nets_bimplChannel
  have : loopM (m_spec_l03Nets_bimplChannel_s1 T U) (([] : List Int), 1) = some (cI (netL T U)) := by
    refine loopM_val _ 12 (fun k s => s = (cI ((List.range' 1 k).filter (isNet T U)), ((k + 1 : Nat) : Int))) rfl (fun k s hk h => ?_) (fun s h => ?_)
    · subst h
      refine .inl ⟨_, ?_, rfl⟩
      unfold m_spec_l03Nets_bimplChannel_s1
      dsimp only
      have hap : apC (cI ((List.range' 1 k).filter (isNet T U))) [((k + 1 : Nat) : Int)] = some () := by
        have := List.length_filter_le (isNet T U) (List.range' 1 k)
        rw [List.length_range'] at this
        refine apC_sm ?_
        rw [cI_len]; simp; omega
      rw [bif_t (by rw [decide_eq_true_eq]; omega), sspan_eq hu hm, wr_suc (by omega), hap]
      simp only [Option.bind_some]
      have e : (decide (colsL T U ((k + 1 : Nat) : Int) ≠ []) && decide (loC T U ((k + 1 : Nat) : Int) < hiC T U ((k + 1 : Nat) : Int))) = isNet T U (k + 1) := head_last (cols_sorted _)
      rw [net_range, List.filter_append]
      cases h1 : decide (colsL T U ((k + 1 : Nat) : Int) ≠ []) <;> cases h2 : decide (loC T U ((k + 1 : Nat) : Int) < hiC T U ((k + 1 : Nat) : Int)) <;> rw [h1, h2] at e <;> simp [← e, cI, List.filter_cons]
    · subst h
      unfold m_spec_l03Nets_bimplChannel_s1
      dsimp only
      rw [bif_f (by rfl)]
      rfl
  rw [this]; rfl
theorem mem_netL {a : Nat} : a ∈ netL T U ↔ (1 ≤ a ∧ a ≤ 12) ∧ 1 < (colsL T U (a : Int)).length := by
  unfold netL isNet
  rw [List.mem_filter, List.mem_range'_1, decide_eq_true_eq]
  exact and_congr (by omega) Iff.rfl
theorem netL_len : (netL T U).length ≤ 12 := by
  have := List.length_filter_le (isNet T U) (List.range' 1 12)
  rw [List.length_range'] at this
  exact this
/-- Is it in a list? -/
theorem Contains_eq (l : List Int) (hl : l.length ≤ 1000) (a : Int) : m_slices_Contains_int64_int64 l a = some (decide (a ∈ l)) := by
  unfold m_slices_Contains_int64_int64 m_slices_Index_int64_int64
  have hstep : ∀ k, k < l.length → m_slices_Index_int64_int64_s1 l a (k : Int) = some (if (a == l.getD k 0) then .out (.inr (k : Int)) else .next ((k + 1 : Nat) : Int)) := fun k hk => by
    unfold m_slices_Index_int64_int64_s1
    dsimp only
    rw [bif_t (by rw [decide_eq_true_eq]; omega), getD_at hk, wr_suc (by omega)]
    simp only [Option.bind_some]
    cases (a == l.getD k 0) <;> rfl
  have hend : m_slices_Index_int64_int64_s1 l a ((l.length : Nat) : Int) = some (.out (.inl ())) := by
    unfold m_slices_Index_int64_int64_s1
    dsimp only
    rw [bif_f (by simp)]
  have hmem : anyIn 0 l.length (fun k => a == l.getD k 0) = decide (a ∈ l) := by
    rw [Bool.eq_iff_iff, anyIn_t, decide_eq_true_eq, List.mem_iff_getElem]
    constructor
    · rintro ⟨k, _, hk, h⟩
      rw [beq_iff_eq, List.getD, List.getElem?_eq_getElem hk] at h
      exact ⟨k, hk, h.symm⟩
    · rintro ⟨k, hk, h⟩
      exact ⟨k, Nat.zero_le _, hk, by rw [beq_iff_eq, List.getD, List.getElem?_eq_getElem hk]; exact h.symm⟩
  rcases loop_find l.length (fun k => a == l.getD k 0) (fun k => (k : Int)) hstep hend with ⟨h1, h2⟩ | ⟨k, hk, hp, _, h2⟩
  · rw [h2, ← hmem, h1]; rfl
  · rw [h2, ← hmem, anyIn_t.2 ⟨k, Nat.zero_le _, hk, hp⟩]
    simp
end
end Go.Proofs.YtbfjekmefcpkmaaDoor
