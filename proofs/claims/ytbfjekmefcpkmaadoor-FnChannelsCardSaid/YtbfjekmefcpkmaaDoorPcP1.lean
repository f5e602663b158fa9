/- The second program: the fewest tracks, by a table of all sets. The second program: the chain of the least sets. Channels: the columns, the spans, the nets, what must be above what. Channels: the order of the nets, in both programs. Channels: the order of the nets as the first program fills it, and as the second one lays it. Channels: which are right, in both programs. The law of the fewest tracks. -/
import Derived.Test.YtbfjekmefcpkmaaDoorPcP0
import Derived.Test.YtbfjekmefcpkmaaDoorPuLp
set_option linter.unusedSimpArgs false
set_option linter.unusedVariables false
set_option linter.unusedSectionVars false
namespace Go.Proofs.YtbfjekmefcpkmaaDoor
open Go.RowKit

theorem geti_map {α : Type} {n : Nat} {g : Nat → α} {i : Nat} (h : i < n) : geti ((List.range n).map g) (i : Int) = some (g i) := by
 rw [geti_nat, List.getElem?_map, List.getElem?_range h]; rfl
def bm (n : Nat) (R : Nat → Nat → Bool) : List (List Bool) := (List.range n).map fun i => (List.range n).map fun k => R i k
theorem bit_int1 (b : Bool) : (((if b then (1 : Int) else 0)) == 1) = b := by cases b <;> rfl
section
variable {A B : Nat → Nat → Bool} {n : Nat} {nm : Nat → Int}
def badK (A B : Nat → Nat → Bool) (left set i k : Nat) : Bool := left.testBit k && (B k i || (A i k && set.testBit k))
def fitB (A B : Nat → Nat → Bool) (n left set : Nat) : Bool := if anyIn 0 n fun i => set.testBit i && anyIn 0 n (badK A B left set i) then false else decide (set ≠ 0)
/-- How the table holds a number. -/
def spv (n v : Nat) : Int := if v ≤ n then (v : Int) else -1
def OkAt (A B : Nat → Nat → Bool) (n : Nat) (l : List Int) (t : Nat) : Prop := ∃ v, IsL A B n t v ∧ geti l (t : Int) = some (spv n v)
theorem Fit.one {left c u : Nat} (hf : Fit A B left c) (hl : left < 2 ^ n) (hu : IsL A B n (sub left c) u) (h : u ≤ n) : u + 1 ≤ n := (Tk.s hf (hu.is h)).le_n hl
structure Inn (A B : Nat → Nat → Bool) (n left set b : Nat) : Prop where
 lo : ∀ c, Fit A B left c → set < c → ∃ u, IsL A B n (sub left c) u ∧ b ≤ u + 1
 is : b ≤ n → ∃ c u, Fit A B left c ∧ IsL A B n (sub left c) u ∧ b = u + 1
 hi : b ≤ n + 1
end
end Go.Proofs.YtbfjekmefcpkmaaDoor

set_option linter.unusedSimpArgs false
set_option linter.unusedVariables false
set_option linter.unusedSectionVars false
namespace Go.Proofs.YtbfjekmefcpkmaaDoor
open Go.RowKit

section
variable {A B : Nat → Nat → Bool} {n : Nat} {nm : Nat → Int}
/-- What is chosen so far, when all above a set are visited. -/
def Cho (A B : Nat → Nat → Bool) (n left set ch : Nat) : Prop :=
 (ch = 0 ∧ ∀ c, Gd A B n left c → ¬ set < c) ∨ (ch ≠ 0 ∧ Gd A B n left ch ∧ ∀ c, Gd A B n left c → set < c → c ≠ ch → lx (bitsL n ch) (bitsL n c) = true)
theorem Gd.lt {left c : Nat} (h : Gd A B n left c) (hl : left < 2 ^ n) : c < 2 ^ n := Nat.lt_of_le_of_lt h.fit.sb.le hl
theorem cnt_small (hn : n ≤ 30) (s : Nat) : (bitsL n s).length ≤ 1000 := by have := cnt_le n s; unfold cnt at this; omega
open Classical in
/-- Both programs' tracks. -/
theorem Chain.tk {left : Nat} {cs : List Nat} (h : Chain A B n left cs) : ∃ m, Tk A B left m := by
 induction h with
 | z => exact ⟨0, .z⟩
 | s hb _ ih =>
  obtain ⟨m, hm⟩ := ih
  exact ⟨m + 1, .s hb.gd.fit hm⟩
end
end Go.Proofs.YtbfjekmefcpkmaaDoor

set_option linter.unusedSimpArgs false
set_option linter.unusedVariables false
set_option linter.unusedSectionVars false
namespace Go.Proofs.YtbfjekmefcpkmaaDoor
open Go.RowKit

theorem hlim : lim = 1099511627776 := rfl
theorem apC_sm {α : Type} {l l2 : List α} (h : l.length + l2.length ≤ 1000000) : apC l l2 = some () := by
 unfold apC chk
 have := hlim
 simp; omega
theorem wr_suc {k : Nat} (h : k < 2 ^ 40) : wr ((k : Int) + 1) = ((k + 1 : Nat) : Int) := by rw [wr_in (by omega)]; push_cast; rfl
section
variable (T U : List Int)
/-- Is there a pin of this net in this column? -/
def pinAt (a : Int) (i : Nat) : Bool := (T.getD i 0 == a) || (U.getD i 0 == a)
def colsL (a : Int) : List Nat := (List.range T.length).filter (pinAt T U a)
def loC (a : Int) : Int := ((colsL T U a).head?.map fun (k : Nat) => (k : Int)).getD (-1)
def hiC (a : Int) : Int := ((colsL T U a).getLast?.map fun (k : Nat) => (k : Int)).getD (-1)
variable {T U}
theorem getD_at {l : List Int} {i : Nat} (h : i < l.length) : geti l (i : Int) = some (l.getD i 0) := by
 rw [geti_nat, List.getD, List.getElem?_eq_getElem h]; rfl
theorem cols_eq (hu : U.length = T.length) (hm : T.length ≤ 24) (a : Int) : m_iChannColum T U a = some (cI (colsL T U a)) := by
 unfold m_iChannColum
 have : loopM (m_iChannColum_s1 T U a) (([] : List Int), 0) = some (cI (colsL T U a)) := by
  refine loopM_val _ T.length (fun k s => s = (cI ((List.range k).filter (pinAt T U a)), (k : Int))) rfl (fun k s hk h => ?_) (fun s h => ?_)
  ·subst h
   refine .inl ⟨_, ?_, rfl⟩
   unfold m_iChannColum_s1
   dsimp only
   have hap : apC (cI ((List.range k).filter (pinAt T U a))) [(k : Int)] = some () := by
    have := List.length_filter_le (pinAt T U a) (List.range k)
    rw [List.length_range] at this
    refine apC_sm ?_
    rw [cI_len]; simp; omega
   rw [bif_t (by rw [decide_eq_true_eq]; omega), getD_at hk, wr_suc (by omega), hap]
   simp only [Option.bind_some]
   rw [getD_at (show k < U.length by omega), List.range_succ, List.filter_append]
   simp only [Option.bind_some]
   have hp : pinAt T U a k = ((T.getD k 0 == a) || (U.getD k 0 == a)) := rfl
   cases h1 : (T.getD k 0 == a) <;> cases h2 : (U.getD k 0 == a) <;> rw [h1, h2] at hp <;> simp [hp, cI, List.filter_cons]
  ·subst h
   unfold m_iChannColum_s1
   dsimp only
   rw [bif_f (by simp)]
   rfl
 rw [this]; rfl
theorem cols_lt {a : Int} : ∀ i ∈ colsL T U a, i < T.length := fun i hi => List.mem_range.1 (List.mem_filter.1 hi).1
theorem cols_sorted (a : Int) : (colsL T U a).Pairwise (· < ·) := List.pairwise_lt_range.filter _
theorem span_eq (hu : U.length = T.length) (hm : T.length ≤ 24) (a : Int) (h : colsL T U a ≠ []) : m_iChannSpan T U a = some (loC T U a, hiC T U a) := by
 unfold m_iChannSpan loC hiC
 rw [cols_eq hu hm]
 simp only [Option.bind_some]
 have hlen : (colsL T U a).length ≤ 24 := by
  have := List.length_filter_le (pinAt T U a) (List.range T.length)
  rw [List.length_range] at this
  unfold colsL; omega
 have hpos := List.length_pos_iff.2 h
 have h0 : geti (cI (colsL T U a)) 0 = some (((colsL T U a)[0] : Nat) : Int) := geti_cI (i := 0) hpos
 have hl : geti (cI (colsL T U a)) (wr (((cI (colsL T U a)).length : Int) - 1)) = some (((colsL T U a)[(colsL T U a).length - 1] : Nat) : Int) := by
  rw [cI_len, show wr (((colsL T U a).length : Int) - 1) = (((colsL T U a).length - 1 : Nat) : Int) from by rw [wr_in (by omega)]; omega]
  exact geti_cI (by omega)
 rw [h0, hl]
 simp only [Option.bind_some]
 rw [List.getLast?_eq_getElem?, List.head?_eq_getElem?, List.getElem?_eq_getElem hpos, List.getElem?_eq_getElem (by omega)]
 rfl
theorem sspan_eq (hu : U.length = T.length) (hm : T.length ≤ 24) (a : Int) : m_sL03Sp T U a = some (loC T U a, hiC T U a, decide (colsL T U a ≠ [])) := by
 unfold m_sL03Sp
 let F : Nat → Int × Int := fun k => ((((List.range k).filter (pinAt T U a)).head?.map fun (k : Nat) => (k : Int)).getD (-1), (((List.range k).filter (pinAt T U a)).getLast?.map fun (k : Nat) => (k : Int)).getD (-1))
 have hneg : ∀ k, decide ((F k).1 < 0) = decide ((List.range k).filter (pinAt T U a) = []) := fun k => by
  show decide (((((List.range k).filter (pinAt T U a)).head?.map fun (k : Nat) => (k : Int)).getD (-1)) < 0) = _
  cases (List.range k).filter (pinAt T U a) with
  | nil => rfl
  | cons x r =>
   rw [Bool.eq_iff_iff, decide_eq_true_eq, decide_eq_true_eq]
   simp only [List.head?_cons, Option.map_some, Option.getD_some]
   exact ⟨fun h => by omega, fun h => by cases h⟩
 have : loopM (m_sL03Sp_s1 T U a) ((-1), (-1), 0) = some (F T.length) := by
  refine loopM_val _ T.length (fun k s => s = ((F k).1, (F k).2, (k : Int))) rfl (fun k s hk h => ?_) (fun s h => ?_)
  ·subst h
   refine .inl ⟨_, ?_, rfl⟩
   unfold m_sL03Sp_s1
   dsimp only
   rw [bif_t (by rw [decide_eq_true_eq]; omega), getD_at hk, wr_suc (by omega), hneg]
   simp only [Option.bind_some]
   rw [getD_at (show k < U.length by omega)]
   simp only [Option.bind_some]
   have hp : pinAt T U a k = ((T.getD k 0 == a) || (U.getD k 0 == a)) := rfl
   have hs : F (k + 1) = if pinAt T U a k then ((if (List.range k).filter (pinAt T U a) = [] then (k : Int) else (F k).1), (k : Int)) else F k := by
    show ((((List.range (k + 1)).filter (pinAt T U a)).head?.map fun (k : Nat) => (k : Int)).getD (-1), (((List.range (k + 1)).filter (pinAt T U a)).getLast?.map fun (k : Nat) => (k : Int)).getD (-1)) = _
    rw [List.range_succ, List.filter_append]
    cases hb : pinAt T U a k with
    | false => simp [hb, F]
    | true =>
     simp only [List.filter_cons, hb, if_true, List.filter_nil, List.getLast?_append, F]
     cases (List.range k).filter (pinAt T U a) <;> simp
   rw [hs]
   cases hnil : decide ((List.range k).filter (pinAt T U a) = []) with
   | true =>
    have hn := of_decide_eq_true hnil
    cases h1 : (T.getD k 0 == a) <;> cases h2 : (U.getD k 0 == a) <;> rw [h1, h2] at hp <;> simp [hp, hn]
   | false =>
    have hn := of_decide_eq_false hnil
    cases h1 : (T.getD k 0 == a) <;> cases h2 : (U.getD k 0 == a) <;> rw [h1, h2] at hp <;> simp [hp, hn]
  ·subst h
   unfold m_sL03Sp_s1
   dsimp only
   rw [bif_f (by simp)]
 rw [this]
 show some (loC T U a, hiC T U a, decide (loC T U a ≥ 0)) = _
 congr 3
 unfold loC
 cases hc : colsL T U a with
 | nil => simp
 | cons x r => simp
/-- Does a net need a track? -/
def isNet (T U : List Int) (a : Nat) : Bool := decide (1 < (colsL T U (a : Int)).length)
def netL (T U : List Int) : List Nat := (List.range' 1 12).filter (isNet T U)
theorem net_range (k : Nat) : List.range' 1 (k + 1) = List.range' 1 k ++ [k + 1] := by
 rw [List.range'_concat]; simp [Nat.add_comm]
theorem nets_eq (hu : U.length = T.length) (hm : T.length ≤ 24) : m_iChannNets T U = some (cI (netL T U)) := by
 unfold m_iChannNets
 have : loopM (m_iChannNets_s1 T U) (([] : List Int), 1) = some (cI (netL T U)) := by
  refine loopM_val _ 12 (fun k s => s = (cI ((List.range' 1 k).filter (isNet T U)), ((k + 1 : Nat) : Int))) rfl (fun k s hk h => ?_) (fun s h => ?_)
  ·subst h
   refine .inl ⟨_, ?_, rfl⟩
   unfold m_iChannNets_s1
   dsimp only
   have hap : apC (cI ((List.range' 1 k).filter (isNet T U))) [((k + 1 : Nat) : Int)] = some () := by
    have := List.length_filter_le (isNet T U) (List.range' 1 k)
    rw [List.length_range'] at this
    refine apC_sm ?_
    rw [cI_len]; simp; omega
   rw [bif_t (by rw [decide_eq_true_eq]; omega), cols_eq hu hm, wr_suc (by omega), hap]
   simp only [Option.bind_some]
   have e : decide (((cI (colsL T U ((k + 1 : Nat) : Int))).length : Int) > 1) = isNet T U (k + 1) := by
    unfold isNet
    rw [cI_len]
    exact decide_eq_decide.2 (by omega)
   rw [e, net_range, List.filter_append]
   cases hb : isNet T U (k + 1) <;> simp [hb, cI, List.filter_cons]
  ·subst h
   unfold m_iChannNets_s1
   dsimp only
   rw [bif_f (by rfl)]
   rfl
 rw [this]; rfl
theorem head_last : ∀ {l : List Nat}, l.Pairwise (· < ·) → (decide (l ≠ []) && decide (((l.head?.map fun (k : Nat) => (k : Int)).getD (-1)) < ((l.getLast?.map fun (k : Nat) => (k : Int)).getD (-1)))) = decide (1 < l.length)
 | [], _ => by simp
 | [x], _ => by simp
 | x :: y :: r, h => by
  have hne : (y :: r) ≠ [] := by simp
  have hlast : x < (y :: r).getLast hne := (List.pairwise_cons.1 h).1 _ (List.getLast_mem hne)
  have e : (x :: y :: r).getLast? = some ((y :: r).getLast hne) := by
   rw [List.getLast?_eq_some_getLast (by simp), List.getLast_cons hne]
  rw [Bool.eq_iff_iff, Bool.and_eq_true, decide_eq_true_eq, decide_eq_true_eq, decide_eq_true_eq, e]
  simp only [List.head?_cons, Option.map_some, Option.getD_some]
  exact ⟨fun _ => by simp, fun _ => ⟨by simp, by omega⟩⟩
theorem snets_eq (hu : U.length = T.length) (hm : T.length ≤ 24) : m_sL03Ne T U = some (cI (netL T U)) := by
 unfold m_sL03Ne
 have : loopM (m_sL03Ne_s1 T U) (([] : List Int), 1) = some (cI (netL T U)) := by
  refine loopM_val _ 12 (fun k s => s = (cI ((List.range' 1 k).filter (isNet T U)), ((k + 1 : Nat) : Int))) rfl (fun k s hk h => ?_) (fun s h => ?_)
  ·subst h
   refine .inl ⟨_, ?_, rfl⟩
   unfold m_sL03Ne_s1
   dsimp only
   have hap : apC (cI ((List.range' 1 k).filter (isNet T U))) [((k + 1 : Nat) : Int)] = some () := by
    have := List.length_filter_le (isNet T U) (List.range' 1 k)
    rw [List.length_range'] at this
    refine apC_sm ?_
    rw [cI_len]; simp; omega
   rw [bif_t (by rw [decide_eq_true_eq]; omega), sspan_eq hu hm, wr_suc (by omega), hap]
   simp only [Option.bind_some]
   have e : (decide (colsL T U ((k + 1 : Nat) : Int) ≠ []) && decide (loC T U ((k + 1 : Nat) : Int) < hiC T U ((k + 1 : Nat) : Int))) = isNet T U (k + 1) := head_last (cols_sorted _)
   rw [net_range, List.filter_append]
   cases h1 : decide (colsL T U ((k + 1 : Nat) : Int) ≠ []) <;> cases h2 : decide (loC T U ((k + 1 : Nat) : Int) < hiC T U ((k + 1 : Nat) : Int)) <;> rw [h1, h2] at e <;> simp [← e, cI, List.filter_cons]
  ·subst h
   unfold m_sL03Ne_s1
   dsimp only
   rw [bif_f (by rfl)]
   rfl
 rw [this]; rfl
theorem mem_netL {a : Nat} : a ∈ netL T U ↔ (1 ≤ a ∧ a ≤ 12) ∧ 1 < (colsL T U (a : Int)).length := by
 unfold netL isNet
 rw [List.mem_filter, List.mem_range'_1, decide_eq_true_eq]
 exact and_congr (by omega) Iff.rfl
theorem netL_sorted : (netL T U).Pairwise (· < ·) := List.Pairwise.filter _ (List.pairwise_lt_range' ..)
theorem netL_len : (netL T U).length ≤ 12 := by
 have := List.length_filter_le (isNet T U) (List.range' 1 12)
 rw [List.length_range'] at this
 exact this
/-- Is it in a list? -/
theorem Contains_eq (l : List Int) (hl : l.length ≤ 1000) (a : Int) : m_sConta l a = some (decide (a ∈ l)) := by
 unfold m_sConta m_sIndex
 have hstep : ∀ k, k < l.length → m_sIndex_s1 l a (k : Int) = some (if (a == l.getD k 0) then .out (.inr (k : Int)) else .next ((k + 1 : Nat) : Int)) := fun k hk => by
  unfold m_sIndex_s1
  dsimp only
  rw [bif_t (by rw [decide_eq_true_eq]; omega), getD_at hk, wr_suc (by omega)]
  simp only [Option.bind_some]
  cases (a == l.getD k 0) <;> rfl
 have hend : m_sIndex_s1 l a ((l.length : Nat) : Int) = some (.out (.inl ())) := by
  unfold m_sIndex_s1
  dsimp only
  rw [bif_f (by simp)]
 have hmem : anyIn 0 l.length (fun k => a == l.getD k 0) = decide (a ∈ l) := by
  rw [Bool.eq_iff_iff, anyIn_t, decide_eq_true_eq, List.mem_iff_getElem]
  constructor
  ·rintro ⟨k, _, hk, h⟩
   rw [beq_iff_eq, List.getD, List.getElem?_eq_getElem hk] at h
   exact ⟨k, hk, h.symm⟩
  ·rintro ⟨k, hk, h⟩
   exact ⟨k, Nat.zero_le _, hk, by rw [beq_iff_eq, List.getD, List.getElem?_eq_getElem hk]; exact h.symm⟩
 rcases loop_find l.length (fun k => a == l.getD k 0) (fun k => (k : Int)) hstep hend with ⟨h1, h2⟩ | ⟨k, hk, hp, _, h2⟩
 ·rw [h2, ← hmem, h1]; rfl
 ·rw [h2, ← hmem, anyIn_t.2 ⟨k, Nat.zero_le _, hk, hp⟩]
  simp
theorem Has_eq (l : List Int) (hl : l.length ≤ 1000) (a : Int) : m_spec_l00Has l a = some (decide (a ∈ l)) := by
 unfold m_spec_l00Has
 have hstep : ∀ k, 0 ≤ k → k < l.length → (∀ j, 0 ≤ j → j < k → (l.getD j 0 == a) = false) → m_spec_l00Has_s1 l a (k : Int) = some (if (l.getD k 0 == a) then .out (.inr true) else .next ((k + 1 : Nat) : Int)) := fun k _ hk _ => by
  unfold m_spec_l00Has_s1
  dsimp only
  rw [bif_t (by rw [decide_eq_true_eq]; omega), getD_at hk, wr_suc (by omega)]
  simp only [Option.bind_some]
  cases (l.getD k 0 == a) <;> rfl
 have hend : m_spec_l00Has_s1 l a ((l.length : Nat) : Int) = some (.out (.inl ())) := by
  unfold m_spec_l00Has_s1
  dsimp only
  rw [bif_f (by simp)]
 have hmem : anyIn 0 l.length (fun k => l.getD k 0 == a) = decide (a ∈ l) := by
  rw [Bool.eq_iff_iff, anyIn_t, decide_eq_true_eq, List.mem_iff_getElem]
  constructor
  ·rintro ⟨k, _, hk, h⟩
   rw [beq_iff_eq, List.getD, List.getElem?_eq_getElem hk] at h
   exact ⟨k, hk, h⟩
  ·rintro ⟨k, hk, h⟩
   exact ⟨k, Nat.zero_le _, hk, by rw [beq_iff_eq, List.getD, List.getElem?_eq_getElem hk]; exact h⟩
 have := loop_any 0 l.length (fun k => l.getD k 0 == a) true (Nat.zero_le _) hstep hend
 rw [show ((0 : Nat) : Int) = 0 from rfl] at this
 rw [this, hmem]
 cases decide (a ∈ l) <;> rfl
end
end Go.Proofs.YtbfjekmefcpkmaaDoor

set_option linter.unusedSimpArgs false
set_option linter.unusedVariables false
set_option linter.unusedSectionVars false
namespace Go.Proofs.YtbfjekmefcpkmaaDoor
open Go.RowKit

section
variable (T U : List Int)
/-- Must one net be above another one? -/
def abv (a b : Int) : Bool := decide (a ≠ b) && anyIn 0 T.length fun i => T.getD i 0 == a && U.getD i 0 == b
/-- A channel's pins are nets, or none. -/
structure Pins (T U : List Int) : Prop where
 len : U.length = T.length
 small : T.length ≤ 24
 t : ∀ i, i < T.length → 0 ≤ T.getD i 0 ∧ T.getD i 0 ≤ 12
 u : ∀ i, i < T.length → 0 ≤ U.getD i 0 ∧ U.getD i 0 ≤ 12
variable {T U}
theorem mem_cI {l : List Nat} {a : Nat} : (a : Int) ∈ cI l ↔ a ∈ l := by
 unfold cI
 rw [List.mem_map]
 constructor
 ·rintro ⟨x, hx, e⟩
  have : x = a := by omega
  exact this ▸ hx
 ·intro h; exact ⟨a, h, rfl⟩
theorem sabove_eq (P : Pins T U) {a b : Nat} (ha : a ∈ netL T U) (hb : b ∈ netL T U) : m_sL03Ab T U (a : Int) (b : Int) = some (abv T U (a : Int) (b : Int)) := by
 have h1 := (mem_netL.1 ha).1
 have h2 := (mem_netL.1 hb).1
 have hlen : (cI (netL T U)).length ≤ 1000 := by rw [cI_len]; have := netL_len (T := T) (U := U); omega
 unfold m_sL03Ab
 by_cases e : a = b
 ·subst e
  rw [bif_t (by simp)]
  unfold abv
  rw [decide_eq_false (by simp), Bool.false_and]
 ·rw [bif_f (by rw [beq_eq_false_iff_ne]; omega), bif_f (by rw [beq_eq_false_iff_ne]; omega), bif_f (by rw [beq_eq_false_iff_ne]; omega), snets_eq P.len P.small]
  simp only [Option.bind_some]
  rw [Has_eq _ hlen, decide_eq_true (mem_cI.2 ha), Has_eq _ hlen, decide_eq_true (mem_cI.2 hb)]
  simp only [Option.bind_some]
  rw [bif_f (by rfl), bif_f (by rfl)]
  have hm := P.small
  have := loop_any (step := m_sL03Ab_s1 T U (a : Int) (b : Int)) 0 T.length (fun i => T.getD i 0 == (a : Int) && U.getD i 0 == (b : Int)) true (Nat.zero_le _) (fun k _ hk _ => by
   unfold m_sL03Ab_s1
   dsimp only
   rw [bif_t (by rw [decide_eq_true_eq]; omega), getD_at hk, wr_suc (by omega)]
   simp only [Option.bind_some]
   rw [getD_at (show k < U.length by rw [P.len]; exact hk)]
   simp only [Option.bind_some]
   cases (T.getD k 0 == (a : Int)) <;> cases (U.getD k 0 == (b : Int)) <;> rfl) (by
   unfold m_sL03Ab_s1
   dsimp only
   rw [bif_f (by simp)])
  rw [show ((0 : Nat) : Int) = 0 from rfl] at this
  rw [this]
  unfold abv
  rw [decide_eq_true (by omega), Bool.true_and]
  cases anyIn 0 T.length (fun i => T.getD i 0 == (a : Int) && U.getD i 0 == (b : Int)) <;> rfl
/-- The pairs that the first program keeps. -/
theorem above_eq (P : Pins T U) : ∃ m, m_iChannAbove1 T U = some m ∧ ∀ a b : Nat, a ∈ netL T U → b ∈ netL T U → (mget m ((a : Int), (b : Int))).getD false = abv T U (a : Int) (b : Int) := by
 have hm := P.small
 have hlen : (cI (netL T U)).length ≤ 1000 := by rw [cI_len]; have := netL_len (T := T) (U := U); omega
 obtain ⟨r, h1, h2⟩ := loopM_count (m_iChannAbove1_s1 T U (cI (netL T U))) T.length
  (fun k s => s.1 = (k : Int) ∧ ∀ a b : Nat, a ∈ netL T U → b ∈ netL T U → (mget s.2 ((a : Int), (b : Int))).getD false = (decide ((a : Int) ≠ b) && anyIn 0 k fun i => T.getD i 0 == (a : Int) && U.getD i 0 == (b : Int)))
  (fun m => ∀ a b : Nat, a ∈ netL T U → b ∈ netL T U → (mget m ((a : Int), (b : Int))).getD false = abv T U (a : Int) (b : Int)) (s0 := (0, [])) ⟨rfl, fun a b _ _ => by
   have : anyIn 0 0 (fun i => T.getD i 0 == (a : Int) && U.getD i 0 == (b : Int)) = false := anyIn_f.2 fun k _ h => by omega
   rw [this]; simp [mget]⟩ (by
  rintro k ⟨x, m⟩ hk ⟨hx, hI⟩
  simp only at hx hI
  subst hx
  left
  have hany : ∀ a b : Nat, anyIn 0 (k + 1) (fun i => T.getD i 0 == (a : Int) && U.getD i 0 == (b : Int)) = (anyIn 0 k (fun i => T.getD i 0 == (a : Int) && U.getD i 0 == (b : Int)) || (T.getD k 0 == (a : Int) && U.getD k 0 == (b : Int))) := fun a b => by
   unfold anyIn
   rw [show k + 1 - 0 = k + 1 from rfl, show k - 0 = k from rfl, List.range'_concat, List.any_append]
   simp
  obtain ⟨t, ht⟩ := Int.eq_ofNat_of_zero_le (P.t k hk).1
  obtain ⟨u, hu⟩ := Int.eq_ofNat_of_zero_le (P.u k hk).1
  have ht12 := (P.t k hk).2
  have hu12 := (P.u k hk).2
  have hc1 := Contains_eq (cI (netL T U)) hlen (t : Int)
  have hc2 := Contains_eq (cI (netL T U)) hlen (u : Int)
  have head : ∀ X : Option (List ((Int × Int) × Bool)), (bif ((t : Int) != (u : Int)) then (bif decide ((t : Int) ∈ cI (netL T U)) then (bif decide ((u : Int) ∈ cI (netL T U)) then some (mup m ((t : Int), (u : Int)) true) else some m) else some m) else some m) = X →
    m_iChannAbove1_s1 T U (cI (netL T U)) ((k : Int), m) = Option.bind X fun l2 => some (.next (((k + 1 : Nat) : Int), l2)) := fun X hX => by
   unfold m_iChannAbove1_s1
   dsimp only
   rw [bif_t (by rw [decide_eq_true_eq]; omega), getD_at hk, wr_suc (by omega)]
   simp only [Option.bind_some]
   rw [getD_at (show k < U.length by rw [P.len]; exact hk)]
   simp only [Option.bind_some]
   rw [ht, hu, hc1, hc2]
   simp only [Option.bind_some]
   have hok : mpC (okII ((t : Int), (u : Int))) = some () := by
    unfold mpC okII
    rw [if_pos]
    rw [Bool.and_eq_true]
    exact ⟨okI_iff.2 ⟨by omega, by omega⟩, okI_iff.2 ⟨by omega, by omega⟩⟩
   rw [hok]
   simp only [Option.bind_some]
   rw [hX]
  by_cases hcase : ((t : Int) != (u : Int)) = true ∧ t ∈ netL T U ∧ u ∈ netL T U
  ·refine ⟨(((k + 1 : Nat) : Int), mup m ((t : Int), (u : Int)) true), ?_, rfl, fun a b ha hb => ?_⟩
   ·rw [head (some (mup m ((t : Int), (u : Int)) true)) (by rw [hcase.1, decide_eq_true (mem_cI.2 hcase.2.1), decide_eq_true (mem_cI.2 hcase.2.2)]; rfl)]; rfl
   ·rw [mget_mup', hany, ht, hu]
    by_cases e : ((a : Int), (b : Int)) = ((t : Int), (u : Int))
    ·rw [if_pos e]
     have e1 := congrArg Prod.fst e
     have e2 := congrArg Prod.snd e
     simp only at e1 e2
     have hne := hcase.1
     rw [bne_iff_ne] at hne
     rw [← e1, ← e2] at hne ⊢
     simp [hne]
    ·rw [if_neg e, hI a b ha hb]
     have : ((t : Int) == (a : Int) && (u : Int) == (b : Int)) = false := by
      cases h : ((t : Int) == (a : Int) && (u : Int) == (b : Int)) with
      | false => rfl
      | true =>
       rw [Bool.and_eq_true, beq_iff_eq, beq_iff_eq] at h
       exact absurd (by rw [h.1, h.2]) e
     rw [this, Bool.or_false]
  ·refine ⟨(((k + 1 : Nat) : Int), m), ?_, rfl, fun a b ha hb => ?_⟩
   ·rw [head (some m) ?_]; · rfl
    cases h1 : ((t : Int) != (u : Int)) with
    | false => rfl
    | true =>
     by_cases h2 : t ∈ netL T U
     ·have h3 : ¬ u ∈ netL T U := fun h => hcase ⟨h1, h2, h⟩
      rw [decide_eq_true (mem_cI.2 h2), decide_eq_false (fun h => h3 (mem_cI.1 h))]; rfl
     ·rw [decide_eq_false (fun h => h2 (mem_cI.1 h))]; rfl
   ·show (mget m ((a : Int), (b : Int))).getD false = _
    rw [hI a b ha hb, hany, ht, hu]
    by_cases hab : (a : Int) = b
    ·rw [decide_eq_false (by simpa using hab)]; simp
    ·have : ((t : Int) == (a : Int) && (u : Int) == (b : Int)) = false := by
      cases h : ((t : Int) == (a : Int) && (u : Int) == (b : Int)) with
      | false => rfl
      | true =>
       rw [Bool.and_eq_true, beq_iff_eq, beq_iff_eq] at h
       have e1 : t = a := by omega
       have e2 : u = b := by omega
       subst e1; subst e2
       exact absurd ⟨by rw [bne_iff_ne]; exact hab, ha, hb⟩ hcase
     rw [this, Bool.or_false]) (by
  rintro ⟨x, m⟩ ⟨hx, hI⟩
  simp only at hx hI
  subst hx
  refine ⟨m, ?_, fun a b ha hb => ?_⟩
  ·unfold m_iChannAbove1_s1
   dsimp only
   rw [bif_f (by simp)]
  ·exact hI a b ha hb)
 refine ⟨r, ?_, h2⟩
 unfold m_iChannAbove1
 rw [nets_eq P.len P.small]
 simp only [Option.bind_some]
 rw [h1]; rfl
end
/-! ### Masks that are filled, pair by pair -/
theorem set_rg {n : Nat} {f : Nat → Nat} {i x : Nat} (hi : i < n) : (rg n f).set i (x : Int) = rg n (fun j => if j = i then x else f j) := by
 refine List.ext_getElem (by simp [rg, cI]) fun j h1 h2 => ?_
 rw [List.getElem_set]
 simp only [rg, cI, List.getElem_map, List.getElem_range]
 by_cases e : i = j
 ·subst e; simp
 ·rw [if_neg e, if_neg (fun h => e h.symm)]
/-- The pairs before (i, k), row by row. -/
def Bef (i k x y : Nat) : Prop := x < i ∨ (x = i ∧ y < k)
def Fil (n : Nat) (R : Nat → Nat → Bool) (f : Nat → Nat → Bool) (i k : Nat) : Prop := ∀ x y, f x y = true ↔ (x < n ∧ y < n ∧ R x y = true ∧ Bef i k x y)
theorem Fil.bef {n i k : Nat} (hk : k < n) (x y : Nat) : Bef i (k + 1) x y ↔ (Bef i k x y ∨ (x = i ∧ y = k)) := by unfold Bef; omega
theorem rg_get {n : Nat} {f : Nat → Nat} {i : Nat} (h : i < n) : geti (rg n f) (i : Int) = some ((f i : Nat) : Int) := geti_rg h
theorem bits_lt {n x : Nat} (h : ∀ i, x.testBit i = true → i < n) : x < 2 ^ n := by
 apply Nat.lt_pow_two_of_testBit
 intro i hi
 cases hb : x.testBit i with
 | false => rfl
 | true => have := h i hb; omega
end Go.Proofs.YtbfjekmefcpkmaaDoor

set_option linter.unusedSimpArgs false
set_option linter.unusedVariables false
set_option linter.unusedSectionVars false
namespace Go.Proofs.YtbfjekmefcpkmaaDoor
open Go.RowKit

theorem Fil.skip {n i k : Nat} {R h : Nat → Nat → Bool} (hF : Fil n R h i k) (hk : k < n) (hr : R i k = false) : Fil n R h i (k + 1) := fun x y => by
 rw [hF x y, Fil.bef hk]
 constructor
 ·rintro ⟨a, b, c, d⟩; exact ⟨a, b, c, .inl d⟩
 ·rintro ⟨a, b, c, d | ⟨rfl, rfl⟩⟩
  ·exact ⟨a, b, c, d⟩
  ·rw [hr] at c; cases c
theorem Fil.add {n i k : Nat} {R h h' : Nat → Nat → Bool} (hF : Fil n R h i k) (hi : i < n) (hk : k < n) (hr : R i k = true) (hh : ∀ x y, h' x y = true ↔ (h x y = true ∨ (x = i ∧ y = k))) : Fil n R h' i (k + 1) := fun x y => by
 rw [hh, hF x y, Fil.bef hk]
 constructor
 ·rintro (⟨a, b, c, d⟩ | ⟨rfl, rfl⟩)
  ·exact ⟨a, b, c, .inl d⟩
  ·exact ⟨hi, hk, hr, .inr ⟨rfl, rfl⟩⟩
 ·rintro ⟨a, b, c, d | d⟩
  ·exact .inl ⟨a, b, c, d⟩
  ·exact .inr d
theorem Fil.row {n i : Nat} {R h : Nat → Nat → Bool} (hF : Fil n R h i n) : Fil n R h (i + 1) 0 := fun x y => by
 rw [hF x y]
 unfold Bef
 constructor
 ·rintro ⟨a, b, c, d⟩; exact ⟨a, b, c, by omega⟩
 ·rintro ⟨a, b, c, d⟩; exact ⟨a, b, c, by omega⟩
theorem Fil.done {n : Nat} {R h : Nat → Nat → Bool} (hF : Fil n R h n 0) (x y : Nat) : h x y = true ↔ (x < n ∧ y < n ∧ R x y = true) := by
 rw [hF x y]
 unfold Bef
 constructor
 ·rintro ⟨a, b, c, d⟩; exact ⟨a, b, c⟩
 ·rintro ⟨a, b, c⟩; exact ⟨a, b, c, by omega⟩
section
variable {T U : List Int}
def nN (T U : List Int) : Nat := (netL T U).length
def nmN (T U : List Int) (i : Nat) : Nat := (netL T U).getD i 0
def nmI (T U : List Int) (i : Nat) : Int := ((nmN T U i : Nat) : Int)
theorem names_eq : cI (netL T U) = (List.range (nN T U)).map (nmI T U) := by
 refine List.ext_getElem (by simp [cI, nN]) fun j h1 h2 => ?_
 have hj : j < (netL T U).length := by simpa [cI] using h1
 simp only [cI, List.getElem_map, List.getElem_range, nmI, nmN, List.getD, List.getElem?_eq_getElem hj, Option.getD_some]
theorem nm_mem {i : Nat} (h : i < nN T U) : nmN T U i ∈ netL T U := by
 unfold nmN nN at *
 rw [List.getD, List.getElem?_eq_getElem h]; exact List.getElem_mem h
theorem nm_mono : ∀ i k, i < k → k < nN T U → nmI T U i < nmI T U k := fun i k hik hk => by
 unfold nmI nmN nN at *
 rw [List.getD, List.getElem?_eq_getElem (show i < (netL T U).length by omega), List.getD, List.getElem?_eq_getElem hk]
 have := List.pairwise_iff_getElem.1 (netL_sorted (T := T) (U := U)) i k (by omega) hk hik
 simp only [Option.getD_some]; omega
theorem nm_cols {i : Nat} (h : i < nN T U) : colsL T U (nmI T U i) ≠ [] := fun e => by
 have h1 := (mem_netL.1 (nm_mem h)).2
 unfold nmI at e
 rw [e] at h1; simp at h1
def apA (T U : List Int) (i k : Nat) : Bool := decide (i ≠ k) && (decide (loC T U (nmI T U i) ≤ hiC T U (nmI T U k)) && decide (loC T U (nmI T U k) ≤ hiC T U (nmI T U i)))
def abB (T U : List Int) (i k : Nat) : Bool := abv T U (nmI T U i) (nmI T U k)
theorem apA_sym (i k : Nat) : apA T U i k = apA T U k i := by
 unfold apA
 rw [Bool.and_comm (decide (loC T U (nmI T U i) ≤ _))]
 congr 1
 exact decide_eq_decide.2 ⟨fun h e => h e.symm, fun h e => h e.symm⟩
theorem nN_le : nN T U ≤ 12 := netL_len
def OrdI (T U : List Int) (i k : Nat) (f g : Nat → Nat) : Prop := Fil (nN T U) (apA T U) (fun x y => (f x).testBit y) i k ∧ Fil (nN T U) (abB T U) (fun x y => (g y).testBit x) i k
def updO (f : Nat → Nat) (i k : Nat) (b : Bool) : Nat → Nat := if b then fun j => if j = i then f i ||| 2 ^ k else f j else f
theorem upd_bit {f : Nat → Nat} {i k x y : Nat} : (updO f i k true x).testBit y = true ↔ ((f x).testBit y = true ∨ (x = i ∧ y = k)) := by
 unfold updO
 rw [if_pos rfl]
 by_cases e : x = i
 ·subst e
  rw [if_pos rfl, or_pow_bit, Bool.or_eq_true, decide_eq_true_eq]
  exact or_congr Iff.rfl ⟨fun h => ⟨rfl, h.symm⟩, fun h => h.2.symm⟩
 ·simp only [if_neg e]
  exact ⟨.inl, fun h => h.elim id fun h => absurd h.1 e⟩
theorem ap_step {n i k : Nat} {f : Nat → Nat} (lo1 hi1 lo2 hi2 : Int) (hi : i < n) (hk : k < n) (hn : n ≤ 12) (hfl : f i < 2 ^ n) : (bif ((i : Int) != (k : Int)) then (bif decide (lo1 ≤ hi2) then (bif decide (lo2 ≤ hi1) then Option.bind (geti (rg n f) (i : Int)) fun x5 => Option.bind (p0C (k : Int)) fun u1 => Option.bind (geti (rg n f) (i : Int)) fun x6 => some ((rg n f).set (Int.toNat (i : Int)) (orI x5 (shlI 1 (k : Int)))) else some (rg n f)) else some (rg n f)) else some (rg n f)) = some (rg n (updO f i k (decide (i ≠ k) && (decide (lo1 ≤ hi2) && decide (lo2 ≤ hi1))))) := by
 have hix : ((i : Int) != (k : Int)) = decide (i ≠ k) := by
  by_cases e : i = k
  ·subst e; simp
  ·rw [decide_eq_true e, bne_iff_ne]; omega
 rw [rg_get hi, p0C_ok (Int.natCast_nonneg _), hix, Int.toNat_natCast]
 simp only [Option.bind_some]
 rw [shlI_nat (by omega), orI_nat (pow62 (by omega) hfl) (pow62 (by omega) (Nat.pow_lt_pow_right (by omega) hk)), set_rg hi]
 generalize decide (i ≠ k) = b1
 generalize decide (lo1 ≤ hi2) = b2
 generalize decide (lo2 ≤ hi1) = b3
 unfold updO
 cases b1 <;> cases b2 <;> cases b3 <;> simp only [cond_true, cond_false, Bool.and_true, Bool.and_false, Bool.false_and, if_true, Bool.false_eq_true, if_false]
theorem nm_12 {j : Nat} (hj : j < nN T U) : 0 ≤ nmI T U j ∧ nmI T U j ≤ 12 := by
 have := (mem_netL.1 (nm_mem hj)).1
 unfold nmI; omega
theorem ok_pair {i k : Nat} (hi : i < nN T U) (hk : k < nN T U) : okII (nmI T U i, nmI T U k) = true := by
 have h1 := nm_12 hi
 have h2 := nm_12 hk
 unfold okII
 generalize nmI T U i = a at h1 ⊢
 generalize nmI T U k = b at h2 ⊢
 rw [Bool.and_eq_true]
 exact ⟨okI_iff.2 ⟨by omega, by omega⟩, okI_iff.2 ⟨by omega, by omega⟩⟩
def MapIs (T U : List Int) (m : List ((Int × Int) × Bool)) : Prop := ∀ a b : Nat, a ∈ netL T U → b ∈ netL T U → (mget m ((a : Int), (b : Int))).getD false = abv T U (a : Int) (b : Int)
theorem mg_pair {m : List ((Int × Int) × Bool)} (hmap : MapIs T U m) {i k : Nat} (hi : i < nN T U) (hk : k < nN T U) : mgC (okII (nmI T U i, nmI T U k)) false m (nmI T U i, nmI T U k) = some (abB T U i k) := by
 have := hmap _ _ (nm_mem hi) (nm_mem hk)
 unfold mgC
 rw [if_pos (ok_pair hi hk)]
 unfold abB nmI
 rw [this]
theorem ord_step' {m : List ((Int × Int) × Bool)} {n i k : Nat} {y1 : List Int} {f g : Nat → Nat} {x2 x4 lo1 hi1 lo2 hi2 : Int} {bb : Bool} (hn : n ≤ 12) (hi : i < n) (hk : k < n) (hlen : y1.length = n) (hgn : geti y1 (k : Int) = some x4) (hsp : m_iChannSpan T U x4 = some (lo2, hi2)) (hmg : mgC (okII (x2, x4)) false m (x2, x4) = some bb) (hfl : f i < 2 ^ n) (hgl : g k < 2 ^ n) :
  m_iChannNetOr_s4 T U y1 m (i : Int) x2 (lo1, hi1) ((k : Int), rg n f, rg n g) = some (.next (((k + 1 : Nat) : Int), rg n (updO f i k (decide (i ≠ k) && (decide (lo1 ≤ hi2) && decide (lo2 ≤ hi1)))), rg n (updO g k i bb))) := by
 have e1 := ap_step lo1 hi1 lo2 hi2 hi hk hn hfl
 have hlt : (k : Int) < (y1.length : Int) := by omega
 unfold m_iChannNetOr_s4
 dsimp only
 rw [bif_t (decide_eq_true hlt), hgn]
 simp only [Option.bind_some]
 rw [hsp]
 simp only [Option.bind_some]
 rw [e1]
 simp only [Option.bind_some]
 rw [hmg]
 simp only [Option.bind_some]
 rw [wr_suc (by omega)]
 rw [rg_get hk, p0C_ok (Int.natCast_nonneg _), Int.toNat_natCast]
 simp only [Option.bind_some]
 rw [shlI_nat (by omega), orI_nat (pow62 (by omega) hgl) (pow62 (by omega) (Nat.pow_lt_pow_right (by omega) hi)), set_rg hk]
 cases bb <;> simp only [updO, cond_true, cond_false, if_true, Bool.false_eq_true, if_false, Option.bind_some]
theorem ord_step (P : Pins T U) {m : List ((Int × Int) × Bool)} (hmap : MapIs T U m) {i k : Nat} (hi : i < nN T U) (hk : k < nN T U) {f g : Nat → Nat} (hfl : f i < 2 ^ nN T U) (hgl : g k < 2 ^ nN T U) :
  m_iChannNetOr_s4 T U (cI (netL T U)) m (i : Int) (nmI T U i) (loC T U (nmI T U i), hiC T U (nmI T U i)) ((k : Int), rg (nN T U) f, rg (nN T U) g) = some (.next (((k + 1 : Nat) : Int), rg (nN T U) (updO f i k (apA T U i k)), rg (nN T U) (updO g k i (abB T U i k)))) :=
 ord_step' nN_le hi hk (cI_len _) (by rw [names_eq]; exact geti_map hk) (span_eq P.len P.small (nmI T U k) (nm_cols hk)) (mg_pair hmap hi hk) hfl hgl
theorem inner_ord (P : Pins T U) {m : List ((Int × Int) × Bool)} (hmap : MapIs T U m) {i : Nat} (hi : i < nN T U) {f g : Nat → Nat} (h0 : OrdI T U i 0 f g) :
  ∃ r, loopM (m_iChannNetOr_s4 T U (cI (netL T U)) m (i : Int) (nmI T U i) (loC T U (nmI T U i), hiC T U (nmI T U i))) (0, rg (nN T U) f, rg (nN T U) g) = some r ∧ ∃ f' g', r = (rg (nN T U) f', rg (nN T U) g') ∧ OrdI T U (i + 1) 0 f' g' := by
 have hn := nN_le (T := T) (U := U)
 refine loopM_count _ (nN T U) (fun k s => ∃ f g, s = ((k : Int), rg (nN T U) f, rg (nN T U) g) ∧ OrdI T U i k f g) _ ⟨f, g, rfl, h0⟩ ?_ ?_
 ·rintro k s hk ⟨f, g, rfl, hA, hB⟩
  left
  have hfl : f i < 2 ^ nN T U := bits_lt fun y hy => ((hA i y).1 hy).2.1
  have hgl : g k < 2 ^ nN T U := bits_lt fun x hx => ((hB x k).1 hx).1
  refine ⟨_, ord_step P hmap hi hk hfl hgl, _, _, rfl, ?_, ?_⟩
  ·cases ha : apA T U i k with
   | false => exact hA.skip hk ha
   | true => exact hA.add hi hk ha fun x y => upd_bit
  ·cases ha : abB T U i k with
   | false => exact hB.skip hk ha
   | true => exact hB.add hi hk ha fun x y => upd_bit.trans (or_congr Iff.rfl And.comm)
 ·rintro s ⟨f, g, rfl, hA, hB⟩
  refine ⟨_, ?_, f, g, rfl, hA.row, hB.row⟩
  have hlt : ¬ ((nN T U : Nat) : Int) < ((cI (netL T U)).length : Int) := by rw [cI_len]; unfold nN; omega
  unfold m_iChannNetOr_s4
  dsimp only
  rw [bif_f (decide_eq_false hlt)]
theorem netOrder_eq (P : Pins T U) : ∃ apN ahN, m_iChannNetOr T U = some (rg (nN T U) apN, rg (nN T U) ahN) ∧ Ord (apA T U) (abB T U) (nN T U) apN ahN := by
 have hn := nN_le (T := T) (U := U)
 obtain ⟨m, hm1, hm2⟩ := above_eq P
 obtain ⟨r, h1, f, g, rfl, hA, hB⟩ := loopM_count (m_iChannNetOr_s3 T U (cI (netL T U)) m) (nN T U) (fun i s => ∃ f g, s = ((i : Int), rg (nN T U) f, rg (nN T U) g) ∧ OrdI T U i 0 f g)
  (fun r => ∃ f g, r = (rg (nN T U) f, rg (nN T U) g) ∧ OrdI T U (nN T U) 0 f g) (s0 := (0, rg (nN T U) (fun _ => 0), rg (nN T U) (fun _ => 0))) ⟨fun _ => 0, fun _ => 0, rfl, fun x y => by simp [Bef], fun x y => by simp [Bef]⟩ (by
   rintro i s hi ⟨f, g, rfl, hO⟩
   left
   obtain ⟨r, hr, f', g', rfl, hO'⟩ := inner_ord P hm2 hi hO
   refine ⟨(((i + 1 : Nat) : Int), rg (nN T U) f', rg (nN T U) g'), ?_, f', g', rfl, hO'⟩
   have hgn : geti (cI (netL T U)) (i : Int) = some (nmI T U i) := by rw [names_eq]; exact geti_map hi
   unfold m_iChannNetOr_s3
   dsimp only
   rw [bif_t (by rw [decide_eq_true_eq, cI_len]; unfold nN at hi; omega), hgn]
   simp only [Option.bind_some]
   rw [span_eq P.len P.small (nmI T U i) (nm_cols hi)]
   simp only [Option.bind_some]
   rw [hr]
   simp only [Option.bind_some]
   rw [wr_suc (by omega)]) (by
   rintro s ⟨f, g, rfl, hO⟩
   refine ⟨_, ?_, f, g, rfl, hO⟩
   unfold m_iChannNetOr_s3
   dsimp only
   rw [bif_f (by rw [decide_eq_false_iff_not, cI_len]; unfold nN; omega)])
 refine ⟨f, g, ?_, ⟨apA_sym, fun i => by simp [apA], fun k i hk hi => ?_, fun k hk => ?_, fun k i hk hi => ?_, fun k hk => ?_, by omega⟩⟩
 ·have hrep : List.replicate (nN T U) (0 : Int) = rg (nN T U) (fun _ => 0) := by
   refine List.ext_getElem (by simp [rg, cI]) fun j h1 h2 => ?_
   simp [rg, cI]
  have hno : m_iNewOr ((cI (netL T U)).length : Int) = some (rg (nN T U) (fun _ => 0), rg (nN T U) (fun _ => 0)) := by
   unfold m_iNewOr
   have hmk : mkC ((cI (netL T U)).length : Int) = some () := by
    unfold mkC chk
    have := hlim
    rw [cI_len]
    have h12 : (netL T U).length ≤ 12 := netL_len
    simp; omega
   rw [hmk]
   simp only [Option.bind_some]
   rw [Int.toNat_natCast, cI_len, show (netL T U).length = nN T U from rfl, hrep]
  unfold m_iChannNetOr
  rw [nets_eq P.len P.small]
  simp only [Option.bind_some]
  rw [hm1]
  simp only [Option.bind_some]
  rw [hno]
  simp only [Option.bind_some]
  rw [h1]; rfl
 ·rw [Bool.eq_iff_iff, hA.done]
  exact ⟨fun h => h.2.2, fun h => ⟨hk, hi, h⟩⟩
 ·exact bits_lt fun y hy => ((hA k y).1 hy).2.1
 ·rw [Bool.eq_iff_iff, hB.done]
  exact ⟨fun h => h.2.2, fun h => ⟨hi, hk, h⟩⟩
 ·exact bits_lt fun x hx => ((hB x k).1 hx).1
/-- A row that is filled from the left. -/
def part (n k : Nat) (p : Nat → Bool) : List Bool := (List.range n).map fun j => decide (j < k) && p j
theorem part_set {n k : Nat} {p : Nat → Bool} (hk : k < n) : (part n k p).set k (p k) = part n (k + 1) p := by
 refine List.ext_getElem (by simp [part]) fun j h1 h2 => ?_
 rw [List.getElem_set]
 simp only [part, List.getElem_map, List.getElem_range]
 by_cases e : k = j
 ·subst e; simp
 ·rw [if_neg e]
  have : decide (j < k) = decide (j < k + 1) := decide_eq_decide.2 (by omega)
  rw [this]
theorem part_get {n k j : Nat} {p : Nat → Bool} (hj : j < n) : geti (part n k p) (j : Int) = some (decide (j < k) && p j) := geti_map hj
theorem ofNets_eq (P : Pins T U) : m_sL03Of T U = some ((List.range (nN T U)).map (nmI T U), bm (nN T U) (apA T U), bm (nN T U) (abB T U)) := by
 have hn := nN_le (T := T) (U := U)
 have hgn : ∀ k, k < nN T U → geti (cI (netL T U)) (k : Int) = some (nmI T U k) := fun k hk => by rw [names_eq]; exact geti_map hk
 have inner : ∀ i, i < nN T U → loopM (m_sL03Of_s4 T U (cI (netL T U)) (i : Int) (loC T U (nmI T U i), hiC T U (nmI T U i), decide (colsL T U (nmI T U i) ≠ []))) (0, part (nN T U) 0 (apA T U i), part (nN T U) 0 (abB T U i)) = some (part (nN T U) (nN T U) (apA T U i), part (nN T U) (nN T U) (abB T U i)) := fun i hi => by
  refine loopM_val _ (nN T U) (fun k s => s = ((k : Int), part (nN T U) k (apA T U i), part (nN T U) k (abB T U i))) rfl (fun k s hk h => ?_) (fun s h => ?_)
  ·subst h
   refine .inl ⟨_, ?_, rfl⟩
   have hix : ((i : Int) != (k : Int)) = decide (i ≠ k) := by
    by_cases e : i = k
    ·subst e; simp
    ·rw [decide_eq_true e, bne_iff_ne]; omega
   have hab := sabove_eq P (nm_mem hi) (nm_mem hk)
   have e1 := part_set (p := apA T U i) hk
   have e2 := part_set (p := abB T U i) hk
   unfold m_sL03Of_s4
   dsimp only
   rw [bif_t (by rw [decide_eq_true_eq, cI_len]; unfold nN at hk; omega), hgn k hk]
   simp only [Option.bind_some]
   rw [sspan_eq P.len P.small (nmI T U k), hix, part_get hk, part_get hk, hgn i hi]
   simp only [Option.bind_some]
   rw [show m_sL03Ab T U (nmI T U i) (nmI T U k) = some (abB T U i k) from hab]
   simp only [Option.bind_some]
   rw [Int.toNat_natCast, wr_suc (by omega), e2, ← e1]
   unfold apA
   cases decide (i ≠ k) <;> cases decide (loC T U (nmI T U i) ≤ hiC T U (nmI T U k)) <;> rfl
  ·subst h
   unfold m_sL03Of_s4
   dsimp only
   rw [bif_f (by rw [decide_eq_false_iff_not, cI_len]; unfold nN; omega)]
 have full : ∀ p : Nat → Bool, part (nN T U) (nN T U) p = (List.range (nN T U)).map p := fun p => by
  unfold part
  refine List.map_congr_left fun j hj => ?_
  rw [decide_eq_true (List.mem_range.1 hj), Bool.true_and]
 have zero : ∀ p : Nat → Bool, List.replicate (nN T U) false = part (nN T U) 0 p := fun p => by
  refine List.ext_getElem (by simp [part]) fun j h1 h2 => ?_
  simp [part]
 have outer : loopM (m_sL03Of_s3 T U (cI (netL T U))) (0, ([] : List (List Bool)), ([] : List (List Bool))) = some (bm (nN T U) (apA T U), bm (nN T U) (abB T U)) := by
  refine loopM_val _ (nN T U) (fun i s => s = ((i : Int), ((List.range i).map fun i => (List.range (nN T U)).map (apA T U i)), ((List.range i).map fun i => (List.range (nN T U)).map (abB T U i)))) rfl (fun i s hi h => ?_) (fun s h => ?_)
  ·subst h
   refine .inl ⟨_, ?_, rfl⟩
   have hmk : mkC ((cI (netL T U)).length : Int) = some () := by
    unfold mkC chk
    have := hlim
    rw [cI_len]
    have h12 : (netL T U).length ≤ 12 := netL_len
    simp; omega
   unfold m_sL03Of_s3
   dsimp only
   rw [bif_t (by rw [decide_eq_true_eq, cI_len]; unfold nN at hi; omega), hgn i hi]
   simp only [Option.bind_some]
   rw [sspan_eq P.len P.small (nmI T U i), hmk]
   simp only [Option.bind_some]
   rw [Int.toNat_natCast, cI_len, show (netL T U).length = nN T U from rfl]
   have hz : loopM (m_sL03Of_s4 T U (cI (netL T U)) (i : Int) (loC T U (nmI T U i), hiC T U (nmI T U i), decide (colsL T U (nmI T U i) ≠ []))) (0, List.replicate (nN T U) false, List.replicate (nN T U) false) = some ((List.range (nN T U)).map (apA T U i), (List.range (nN T U)).map (abB T U i)) := by
    have := inner i hi
    rw [← zero, ← zero, full, full] at this
    exact this
   rw [hz]
   simp only [Option.bind_some]
   rw [apC_sm (by simp; omega), apC_sm (by simp; omega)]
   simp only [Option.bind_some]
   rw [wr_suc (by omega), List.range_succ, List.map_append, List.map_append]
   rfl
  ·subst h
   unfold m_sL03Of_s3
   dsimp only
   rw [bif_f (by rw [decide_eq_false_iff_not, cI_len]; unfold nN; omega)]
   rfl
 unfold m_sL03Of
 rw [snets_eq P.len P.small]
 simp only [Option.bind_some]
 rw [outer, ← names_eq]
 rfl
/-- Tracks told by name. -/
theorem told_eq {n : Nat} {nm : Nat → Int} (hn : n ≤ 30) {tr : List (List Nat)} (ht : tr.length ≤ 1000) (hr : ∀ t ∈ tr, t.length ≤ 1000 ∧ ∀ x ∈ t, x < n) :
  m_iToldTFewes (tr.map cI) ((List.range n).map nm) = some (tr.map fun t => t.map nm) := by
 have inner : ∀ t : List Nat, t.length ≤ 1000 → (∀ x ∈ t, x < n) → loopM (m_iToldTFewes_s4 ((List.range n).map nm) (cI t)) (([] : List Int), 0) = some (t.map nm) := fun t h1 h2 => by
  refine loopM_val _ t.length (fun k s => s = ((t.take k).map nm, (k : Int))) (by simp) (fun k s hk h => ?_) (fun s h => ?_)
  ·subst h
   refine .inl ⟨_, ?_, rfl⟩
   unfold m_iToldTFewes_s4 m_iFewes1
   dsimp only
   rw [bif_t (by rw [decide_eq_true_eq, cI_len]; omega), geti_cI hk]
   simp only [Option.bind_some]
   rw [geti_map (h2 _ (List.getElem_mem hk))]
   simp only [Option.bind_some]
   rw [apC_sm (by simp; omega), wr_suc (by omega), List.take_succ_eq_append_getElem hk, List.map_append]
   rfl
  ·subst h
   unfold m_iToldTFewes_s4
   dsimp only
   rw [bif_f (by rw [decide_eq_false_iff_not, cI_len]; omega)]
   simp
 unfold m_iToldTFewes
 have : loopM (m_iToldTFewes_s3 (tr.map cI) ((List.range n).map nm)) (([] : List (List Int)), 0) = some (tr.map fun t => t.map nm) := by
  refine loopM_val _ tr.length (fun k s => s = ((tr.take k).map (fun t => t.map nm), (k : Int))) (by simp) (fun k s hk h => ?_) (fun s h => ?_)
  ·subst h
   refine .inl ⟨_, ?_, rfl⟩
   have hg : geti (tr.map cI) (k : Int) = some (cI tr[k]) := by rw [geti_nat, List.getElem?_map, List.getElem?_eq_getElem hk]; rfl
   have hm := hr _ (List.getElem_mem hk)
   unfold m_iToldTFewes_s3
   dsimp only
   rw [bif_t (by rw [decide_eq_true_eq, List.length_map]; omega), hg]
   simp only [Option.bind_some]
   rw [inner _ hm.1 hm.2]
   simp only [Option.bind_some]
   rw [apC_sm (by simp; omega), wr_suc (by omega), List.take_succ_eq_append_getElem hk, List.map_append]
   rfl
  ·subst h
   unfold m_iToldTFewes_s3
   dsimp only
   rw [bif_f (by rw [decide_eq_false_iff_not, List.length_map]; omega)]
   simp
 rw [this]; rfl
end
end Go.Proofs.YtbfjekmefcpkmaaDoor

set_option linter.unusedSimpArgs false
set_option linter.unusedVariables false
set_option linter.unusedSectionVars false
namespace Go.Proofs.YtbfjekmefcpkmaaDoor
open Go.RowKit

theorem mget_kv {κ V : Type} [DecidableEq κ] {m : List (κ × V)} (hn : (m.map (·.1)).Nodup) {k : κ} {v : V} (h : (k, v) ∈ m) : mget m k = some v := by
 obtain ⟨j, hj, e⟩ := List.mem_iff_getElem.1 h
 exact mget_at hn (j := j) (by rw [List.getElem?_eq_getElem hj, e])
def inN (x : Int) : Bool := decide (0 ≤ x) && decide (x ≤ 12)
theorem inN_t {x : Int} : inN x = true ↔ 0 ≤ x ∧ x ≤ 12 := by unfold inN; rw [Bool.and_eq_true, decide_eq_true_eq, decide_eq_true_eq]
theorem in12 (x : Int) : m_impl_in x 0 12 = some (inN x) := by
 unfold m_impl_in inN
 by_cases h : 0 ≤ x
 ·rw [bif_t (by rw [decide_eq_true_eq]; omega), decide_eq_true h, Bool.true_and]
 ·rw [bif_f (by rw [decide_eq_false_iff_not]; omega), decide_eq_false h, Bool.false_and]
theorem in12s (x : Int) : m_spec_l00In x 0 12 = some (inN x) := in12 x
theorem Concat_eq (T U : List Int) (h1 : 1 ≤ T.length) (ht : T.length ≤ 24) (hu : U.length ≤ 24) : m_sConca [T, U] = some (T ++ U) := by
 have ew : ∀ k : Nat, k ≤ 100 → wr ((k : Int) + 1) = ((k + 1 : Nat) : Int) := fun k hk => wr_suc (by omega)
 have w0 : wr (0 + (T.length : Int)) = (T.length : Int) := by rw [wr_in (by omega)]; omega
 have w1 : wr ((T.length : Int) + (U.length : Int)) = ((T.length + U.length : Nat) : Int) := by rw [wr_in (by omega)]; push_cast; rfl
 have a1 : m_sConca_s1 [T, U] (0, 0) = some (.next ((T.length : Int), 1)) := by
  unfold m_sConca_s1
  dsimp only
  rw [bif_t (by simp)]
  show Option.bind (Option.bind (some T) _) _ = _
  simp only [Option.bind_some]
  rw [w0, bif_f (by rw [decide_eq_false_iff_not]; omega)]
  simp only [Option.bind_some]
  rw [show wr (0 + 1) = 1 from rfl]
 have a2 : m_sConca_s1 [T, U] ((T.length : Int), 1) = some (.next (((T.length + U.length : Nat) : Int), 2)) := by
  unfold m_sConca_s1
  dsimp only
  rw [bif_t (by simp)]
  show Option.bind (Option.bind (some U) _) _ = _
  simp only [Option.bind_some]
  rw [w1, bif_f (by rw [decide_eq_false_iff_not]; omega)]
  simp only [Option.bind_some]
  rw [show wr (1 + 1) = 2 from rfl]
 have a3 : m_sConca_s1 [T, U] (((T.length + U.length : Nat) : Int), 2) = some (.out ((T.length + U.length : Nat) : Int)) := by
  unfold m_sConca_s1
  dsimp only
  rw [bif_f (by simp)]
 have g : m_sGrowNil ((T.length + U.length : Nat) : Int) = some [] := by
  unfold m_sGrowNil
  have e : wr (((T.length + U.length : Nat) : Int) - wr (0 - 0)) = ((T.length + U.length : Nat) : Int) := by
   rw [show wr (0 - 0) = 0 from rfl, wr_in (by omega)]; omega
  have hmk : mkC ((T.length + U.length : Nat) : Int) = some () := by
   unfold mkC chk
   have := hlim
   rw [if_pos]
   rw [Bool.and_eq_true, decide_eq_true_eq, decide_eq_true_eq]; omega
  rw [e, bif_f (by rw [decide_eq_false_iff_not]; omega), hmk]
  simp only [Option.bind_some]
  rw [bif_t (by rw [decide_eq_true_eq]; omega)]
  have hc : chk (decide ((0 : Int) < ((T.length + U.length : Nat) : Int))) = some () := by
   unfold chk; rw [if_pos (by rw [decide_eq_true_eq]; omega)]
  rw [hc]
  simp only [Option.bind_some]
  have hs : slci (List.replicate (Int.toNat ((T.length + U.length : Nat) : Int)) (0 : Int)) 0 0 = some [] := slci_take (k := 0) (Nat.zero_le _)
  rw [hs]; rfl
 have b1 : m_sConca_s2 [T, U] (([] : List Int), 0) = some (.next (T, 1)) := by
  unfold m_sConca_s2
  dsimp only
  rw [bif_t (by simp)]
  show Option.bind (some T) _ = _
  simp only [Option.bind_some]
  rw [apC_sm (by simp; omega)]
  rfl
 have b2 : m_sConca_s2 [T, U] (T, 1) = some (.next (T ++ U, 2)) := by
  unfold m_sConca_s2
  dsimp only
  rw [bif_t (by simp)]
  show Option.bind (some U) _ = _
  simp only [Option.bind_some]
  rw [apC_sm (by omega)]
  rfl
 have b3 : m_sConca_s2 [T, U] (T ++ U, 2) = some (.out (T ++ U)) := by
  unfold m_sConca_s2
  dsimp only
  rw [bif_f (by simp)]
 unfold m_sConca
 rw [loopM_next a1, loopM_next a2, loopM_out a3]
 simp only [Option.bind_some]
 rw [g]
 simp only [Option.bind_some]
 rw [loopM_next b1, loopM_next b2, loopM_out b3]
 rfl
def cntA (W : List Int) (x : Nat) : Nat := W.count (x : Int)
/-- A net with a single pin. -/
def single (W : List Int) : Bool := anyIn 1 13 fun x => decide (W.count ((x : Nat) : Int) = 1)
structure MInv (W : List Int) (k : Nat) (m : List (Int × Int)) : Prop where
 nd : (m.map (·.1)).Nodup
 is : ∀ x, mget m x = if (W.take k).count x = 0 then none else some (((W.take k).count x : Nat) : Int)
theorem take_count {W : List Int} {k : Nat} (hk : k < W.length) (x : Int) : (W.take (k + 1)).count x = (W.take k).count x + if W[k] = x then 1 else 0 := by
 rw [List.take_succ_eq_append_getElem hk, List.count_append]
 simp [List.count_cons]
def badP (p : Int × Int) : Bool := decide (p.1 > 0) && decide (p.2 < 2)
theorem foldE_bad : ∀ lo : List (Int × Int), foldE m_iValid_s2 () lo = some (if lo.any badP then .inr (.inr false) else .inl ())
 | [] => rfl
 | p :: r => by
  have hs : m_iValid_s2 () p = some (if badP p then .out (.inr false) else .next ()) := by
   unfold m_iValid_s2 badP
   cases decide (p.1 > 0) <;> cases decide (p.2 < 2) <;> rfl
  cases hb : badP p with
  | true =>
   have hs' : m_iValid_s2 () p = some (.out (.inr false)) := by rw [hs, hb]; rfl
   simp only [foldE, hs', List.any_cons, hb, Bool.true_or, if_true]
  | false =>
   have hs' : m_iValid_s2 () p = some (.next ()) := by rw [hs, hb]; rfl
   simp only [foldE, hs', List.any_cons, hb, Bool.false_or]
   exact foldE_bad r
theorem pins_loop (W : List Int) (hW : W.length ≤ 100) : (W.all inN = false ∧ loopM (m_iValid_s1 W) (0, ([] : List (Int × Int))) = some (.inr false)) ∨
  (W.all inN = true ∧ ∃ m, MInv W W.length m ∧ loopM (m_iValid_s1 W) (0, ([] : List (Int × Int))) = some (.inl m)) := by
 obtain ⟨r, h1, h2⟩ := loopM_count (m_iValid_s1 W) W.length (fun k s => s.1 = (k : Int) ∧ MInv W k s.2 ∧ ∀ j (h : j < W.length), j < k → inN W[j] = true)
  (fun r => (W.all inN = false ∧ r = .inr false) ∨ (W.all inN = true ∧ ∃ m, MInv W W.length m ∧ r = .inl m)) (s0 := (0, [])) ⟨rfl, ⟨by simp, fun x => by simp [mget]⟩, fun j _ h => by omega⟩ (by
   rintro k ⟨x, m⟩ hk ⟨hx, hM, hall⟩
   simp only at hx hM hall
   subst hx
   have hg : geti W (k : Int) = some W[k] := geti_lt hk
   cases hin : inN W[k] with
   | false =>
    right
    refine ⟨.inr false, ?_, .inl ⟨?_, rfl⟩⟩
    ·unfold m_iValid_s1
     dsimp only
     rw [bif_t (by rw [decide_eq_true_eq]; omega), hg]
     simp only [Option.bind_some]
     rw [in12, hin]; rfl
    ·rw [List.all_eq_false]
     exact ⟨W[k], List.getElem_mem hk, by rw [hin]; simp⟩
   | true =>
    left
    have hb := inN_t.1 hin
    have hok : okI W[k] = true := okI_iff.2 ⟨by omega, by omega⟩
    have hcl : (W.take k).count W[k] ≤ 100 := Nat.le_trans List.count_le_length (by rw [List.length_take]; omega)
    have hmg : mgC (okI W[k]) 0 m W[k] = some (((W.take k).count W[k] : Nat) : Int) := by
     unfold mgC
     rw [if_pos hok, hM.is]
     split
     ·rename_i h; rw [h]; rfl
     ·rfl
    refine ⟨(((k + 1 : Nat) : Int), mup m W[k] (((W.take k).count W[k] + 1 : Nat) : Int)), ?_, rfl, ⟨nodup_mup hM.nd _ _, fun x => ?_⟩, fun j hj hjk => ?_⟩
    ·unfold m_iValid_s1
     dsimp only
     rw [bif_t (by rw [decide_eq_true_eq]; omega), hg]
     simp only [Option.bind_some]
     rw [in12, hin]
     simp only [Option.bind_some]
     rw [bif_f (by rfl), hmg]
     simp only [Option.bind_some]
     have hmp : mpC (okI W[k]) = some () := by unfold mpC; rw [if_pos hok]
     rw [hmp]
     simp only [Option.bind_some]
     rw [wr_suc (by omega), wr_suc (by omega)]
    ·rw [mget_mup', hM.is, take_count hk]
     by_cases e : x = W[k]
     ·rw [if_pos e, if_pos e.symm, if_neg (by omega), e]
     ·rw [if_neg e, if_neg (show ¬ W[k] = x from fun h => e h.symm), Nat.add_zero]
    ·by_cases e : j = k
     ·subst e; exact hin
     ·exact hall j hj (by omega)) (by
   rintro ⟨x, m⟩ ⟨hx, hM, hall⟩
   simp only at hx hM hall
   subst hx
   refine ⟨.inl m, ?_, .inr ⟨?_, m, hM, rfl⟩⟩
   ·unfold m_iValid_s1
    dsimp only
    rw [bif_f (by simp)]
   ·rw [List.all_eq_true]
    intro x hx
    obtain ⟨j, hj, rfl⟩ := List.mem_iff_getElem.1 hx
    exact hall j hj hj)
 rcases h2 with ⟨a, rfl⟩ | ⟨a, m, hM, rfl⟩
 ·exact .inl ⟨a, h1⟩
 ·exact .inr ⟨a, m, hM, h1⟩
theorem any_single {W : List Int} (hW : W.all inN = true) {m : List (Int × Int)} (hM : MInv W W.length m) : m.any badP = single W := by
 have hM2 : ∀ x, mget m x = if W.count x = 0 then none else some ((W.count x : Nat) : Int) := fun x => by have := hM.is x; rwa [List.take_length] at this
 rw [Bool.eq_iff_iff, List.any_eq_true]
 unfold single
 rw [anyIn_t]
 constructor
 ·rintro ⟨⟨x, v⟩, hp, hb⟩
  unfold badP at hb
  rw [Bool.and_eq_true, decide_eq_true_eq, decide_eq_true_eq] at hb
  simp only at hb
  have hg := mget_kv hM.nd hp
  rw [hM2] at hg
  split at hg
  ·cases hg
  ·rename_i hc
   have hv : v = ((W.count x : Nat) : Int) := (Option.some.inj hg).symm
   have hx : x ∈ W := List.count_pos_iff.1 (by omega)
   have hr := inN_t.1 (List.all_eq_true.1 hW x hx)
   obtain ⟨y, rfl⟩ := Int.eq_ofNat_of_zero_le hr.1
   exact ⟨y, by omega, by omega, decide_eq_true (by omega)⟩
 ·rintro ⟨x, h1, h2, h3⟩
  have h3 := of_decide_eq_true h3
  have hg := hM2 (x : Int)
  rw [if_neg (by omega), h3] at hg
  refine ⟨((x : Int), 1), mget_mem hg, ?_⟩
  unfold badP
  rw [Bool.and_eq_true, decide_eq_true_eq, decide_eq_true_eq]
  simp only; omega
def valB (T U : List Int) : Bool := decide (1 ≤ T.length ∧ T.length ≤ 24 ∧ U.length = T.length) && ((T ++ U).all inN && !single (T ++ U))
theorem Valid_eq (T U : List Int) (hT : T.length ≤ 1048576) (hU : U.length ≤ 1048576) : m_iValid T U = some (valB T U) := by
 have hin : m_impl_in (T.length : Int) 1 24 = some (decide (1 ≤ T.length ∧ T.length ≤ 24)) := by
  unfold m_impl_in
  by_cases h : 1 ≤ T.length
  ·rw [bif_t (by rw [decide_eq_true_eq]; omega)]
   exact congrArg some (decide_eq_decide.2 (by omega))
  ·rw [bif_f (by rw [decide_eq_false_iff_not]; omega), decide_eq_false (by omega)]
 unfold m_iValid
 rw [hin]
 simp only [Option.bind_some]
 by_cases h1 : 1 ≤ T.length ∧ T.length ≤ 24
 ·rw [decide_eq_true h1, bif_f (by rfl)]
  by_cases h2 : U.length = T.length
  ·rw [bif_f (by rw [bne_eq_false_iff_eq]; omega), Concat_eq T U h1.1 h1.2 (by omega)]
   simp only [Option.bind_some]
   have hv : valB T U = ((T ++ U).all inN && !single (T ++ U)) := by unfold valB; rw [decide_eq_true ⟨h1.1, h1.2, h2⟩, Bool.true_and]
   rw [hv]
   rcases pins_loop (T ++ U) (by rw [List.length_append]; omega) with ⟨ha, hr⟩ | ⟨ha, m, hM, hr⟩
   ·rw [hr, ha]; rfl
   ·rw [hr, ha]
    simp only [Option.bind_some, Bool.true_and]
    refine allO_is fun l hl => ?_
    have hp : l.any badP = single (T ++ U) := by
     rw [← any_single ha hM, Bool.eq_iff_iff, List.any_eq_true, List.any_eq_true]
     exact ⟨fun ⟨x, hx, h⟩ => ⟨x, hl.mem_iff.1 hx, h⟩, fun ⟨x, hx, h⟩ => ⟨x, hl.mem_iff.2 hx, h⟩⟩
    rw [foldE_bad, hp]
    cases single (T ++ U) <;> rfl
  ·rw [bif_t (by rw [bne_iff_ne]; omega)]
   unfold valB
   rw [decide_eq_false (fun h => h2 h.2.2), Bool.false_and]
 ·rw [decide_eq_false h1, bif_t (by rfl)]
  unfold valB
  rw [decide_eq_false (fun h => h1 ⟨h.1, h.2.1⟩), Bool.false_and]
/-- The second program's table of counts. -/
def tab (T U : List Int) (k : Nat) : List Int := (List.range 13).map fun x => (((T.take k).count ((x : Nat) : Int) + (U.take k).count ((x : Nat) : Int) : Nat) : Int)
theorem map_set {g g' : Nat → Int} {i : Nat} {v : Int} (hi : i < 13) (h1 : g' i = v) (h2 : ∀ j, j < 13 → j ≠ i → g' j = g j) : ((List.range 13).map g).set i v = (List.range 13).map g' := by
 refine List.ext_getElem (by simp) fun j hj1 hj2 => ?_
 rw [List.getElem_set]
 simp only [List.getElem_map, List.getElem_range]
 by_cases e : i = j
 ·subst e; rw [if_pos rfl, h1]
 ·rw [if_neg e, h2 j (by simpa using hj2) (fun h => e h.symm)]
theorem sIs_loop (T U : List Int) (hu : U.length = T.length) (hm : T.length ≤ 24) : ((T ++ U).all inN = false ∧ loopM (m_sL03Is_s1 T U) (0, tab T U 0) = some (.inr false)) ∨
  ((T ++ U).all inN = true ∧ loopM (m_sL03Is_s1 T U) (0, tab T U 0) = some (.inl (tab T U T.length))) := by
 obtain ⟨r, h1, h2⟩ := loopM_count (m_sL03Is_s1 T U) T.length (fun k s => s = ((k : Int), tab T U k) ∧ ∀ j (h : j < T.length) (h' : j < U.length), j < k → inN T[j] = true ∧ inN U[j] = true)
  (fun r => ((T ++ U).all inN = false ∧ r = .inr false) ∨ ((T ++ U).all inN = true ∧ r = .inl (tab T U T.length))) (s0 := (0, tab T U 0)) ⟨rfl, fun j _ _ h => by omega⟩ (by
   rintro k s hk ⟨rfl, hall⟩
   have hk' : k < U.length := by omega
   have hg : geti T (k : Int) = some T[k] := geti_lt hk
   have hg' : geti U (k : Int) = some U[k] := geti_lt hk'
   cases hin : inN T[k] with
   | false =>
    right
    refine ⟨.inr false, ?_, .inl ⟨?_, rfl⟩⟩
    ·unfold m_sL03Is_s1
     dsimp only
     rw [bif_t (by rw [decide_eq_true_eq]; omega), hg]
     simp only [Option.bind_some]
     rw [in12s, hin]; rfl
    ·rw [List.all_eq_false]
     exact ⟨T[k], List.mem_append_left _ (List.getElem_mem hk), by rw [hin]; simp⟩
   | true =>
    cases hin' : inN U[k] with
    | false =>
     right
     refine ⟨.inr false, ?_, .inl ⟨?_, rfl⟩⟩
     ·unfold m_sL03Is_s1
      dsimp only
      rw [bif_t (by rw [decide_eq_true_eq]; omega), hg]
      simp only [Option.bind_some]
      rw [in12s, hin]
      simp only [Option.bind_some]
      rw [bif_f (by rfl), hg']
      simp only [Option.bind_some]
      rw [in12s, hin']; rfl
     ·rw [List.all_eq_false]
      exact ⟨U[k], List.mem_append_right _ (List.getElem_mem hk'), by rw [hin']; simp⟩
    | true =>
     left
     have hb := inN_t.1 hin
     have hb' := inN_t.1 hin'
     obtain ⟨t, ht⟩ := Int.eq_ofNat_of_zero_le hb.1
     obtain ⟨u, hu'⟩ := Int.eq_ofNat_of_zero_le hb'.1
     have ht13 : t < 13 := by omega
     have hu13 : u < 13 := by omega
     let g1 : Nat → Int := fun x => (((T.take (k + 1)).count ((x : Nat) : Int) + (U.take k).count ((x : Nat) : Int) : Nat) : Int)
     have hc : ∀ (L : List Int) (k : Nat) (x : Int), L.length ≤ 24 → (L.take k).count x ≤ 24 := fun L k x hL => Nat.le_trans List.count_le_length (by rw [List.length_take]; omega)
     have s1 : (tab T U k).set t (wr ((((T.take k).count ((t : Nat) : Int) + (U.take k).count ((t : Nat) : Int) : Nat) : Int) + 1)) = (List.range 13).map g1 := by
      refine map_set ht13 ?_ fun j hj hne => ?_
      ·show (((T.take (k + 1)).count ((t : Nat) : Int) + (U.take k).count ((t : Nat) : Int) : Nat) : Int) = _
       have := hc T k ((t : Nat) : Int) hm
       have := hc U k ((t : Nat) : Int) (by omega)
       rw [take_count hk, ht, if_pos rfl, wr_in (by omega)]; omega
      ·show (((T.take (k + 1)).count ((j : Nat) : Int) + (U.take k).count ((j : Nat) : Int) : Nat) : Int) = _
       rw [take_count hk, ht, if_neg (by omega)]; rfl
     have s2 : ((List.range 13).map g1).set u (wr (g1 u + 1)) = tab T U (k + 1) := by
      refine map_set hu13 ?_ fun j hj hne => ?_
      ·have := hc T (k + 1) ((u : Nat) : Int) hm
       have := hc U k ((u : Nat) : Int) (by omega)
       show _ = wr ((((T.take (k + 1)).count ((u : Nat) : Int) + (U.take k).count ((u : Nat) : Int) : Nat) : Int) + 1)
       rw [take_count hk', hu', if_pos rfl, wr_in (by omega)]; omega
      ·show _ = (((T.take (k + 1)).count ((j : Nat) : Int) + (U.take k).count ((j : Nat) : Int) : Nat) : Int)
       rw [take_count hk', hu', if_neg (by omega)]; rfl
     refine ⟨(((k + 1 : Nat) : Int), tab T U (k + 1)), ?_, rfl, fun j hj hj' hjk => ?_⟩
     ·unfold m_sL03Is_s1
      dsimp only
      rw [bif_t (by rw [decide_eq_true_eq]; omega), hg]
      simp only [Option.bind_some]
      rw [in12s, hin]
      simp only [Option.bind_some]
      rw [bif_f (by rfl), hg']
      simp only [Option.bind_some]
      rw [in12s, hin']
      simp only [Option.bind_some]
      rw [bif_f (by rfl), ht, hu', show geti (tab T U k) (t : Int) = _ from geti_map ht13]
      simp only [Option.bind_some]
      rw [Int.toNat_natCast, Int.toNat_natCast, s1, geti_map hu13]
      simp only [Option.bind_some]
      rw [s2, wr_suc (by omega)]
     ·by_cases e : j = k
      ·subst e; exact ⟨hin, hin'⟩
      ·exact hall j hj hj' (by omega)) (by
   rintro s ⟨rfl, hall⟩
   refine ⟨.inl (tab T U T.length), ?_, .inr ⟨?_, rfl⟩⟩
   ·unfold m_sL03Is_s1
    dsimp only
    rw [bif_f (by simp)]
   ·rw [List.all_eq_true]
    intro x hx
    rcases List.mem_append.1 hx with hx | hx
    ·obtain ⟨j, hj, rfl⟩ := List.mem_iff_getElem.1 hx
     exact (hall j hj (by omega) hj).1
    ·obtain ⟨j, hj, rfl⟩ := List.mem_iff_getElem.1 hx
     exact (hall j (by omega) hj (by omega)).2)
 rcases h2 with ⟨a, rfl⟩ | ⟨a, rfl⟩
 ·exact .inl ⟨a, h1⟩
 ·exact .inr ⟨a, h1⟩
theorem Is_eq (T U : List Int) (hT : T.length ≤ 1048576) (hU : U.length ≤ 1048576) : m_sL03Is T U = some (valB T U) := by
 unfold m_sL03Is
 by_cases h1 : 1 ≤ T.length
 ·rw [bif_f (by rw [decide_eq_false_iff_not]; omega)]
  by_cases h2 : T.length ≤ 24
  ·rw [bif_f (by rw [decide_eq_false_iff_not]; omega)]
   by_cases h3 : U.length = T.length
   ·rw [bif_f (by rw [bne_eq_false_iff_eq]; omega)]
    have hmk : mkC 13 = some () := by
     unfold mkC chk
     have := hlim
     rw [if_pos]
     rw [Bool.and_eq_true, decide_eq_true_eq, decide_eq_true_eq]; omega
    rw [hmk]
    simp only [Option.bind_some]
    have hrep : List.replicate (Int.toNat 13) (0 : Int) = tab T U 0 := by
     refine List.ext_getElem (by simp [tab]) fun j h1 h2 => ?_
     rw [List.getElem_replicate]
     simp [tab]
    have hv : valB T U = ((T ++ U).all inN && !single (T ++ U)) := by unfold valB; rw [decide_eq_true ⟨h1, h2, h3⟩, Bool.true_and]
    rw [hrep, hv]
    rcases sIs_loop T U h3 h2 with ⟨ha, hr⟩ | ⟨ha, hr⟩
    ·rw [hr, ha]; rfl
    ·rw [hr, ha]
     simp only [Option.bind_some, Bool.true_and]
     have hcount : ∀ x : Nat, (((T.take T.length).count ((x : Nat) : Int) + (U.take T.length).count ((x : Nat) : Int) : Nat) : Int) = (((T ++ U).count ((x : Nat) : Int) : Nat) : Int) := fun x => by
      rw [List.take_length, ← h3, List.take_length, List.count_append]
     have hl : (tab T U T.length).length = 13 := by simp [tab]
     have := loop_any (step := m_sL03Is_s2 (tab T U T.length)) 1 13 (fun x => decide ((T ++ U).count ((x : Nat) : Int) = 1)) false (by omega) (fun k _ hk _ => by
      unfold m_sL03Is_s2
      dsimp only
      rw [bif_t (by rw [decide_eq_true_eq, hl]; omega), show geti (tab T U T.length) (k : Int) = _ from geti_map hk]
      simp only [Option.bind_some]
      rw [hcount, wr_suc (by omega)]
      by_cases e : (T ++ U).count ((k : Nat) : Int) = 1
      ·rw [bif_t (by rw [beq_iff_eq]; omega), decide_eq_true e]; rfl
      ·rw [bif_f (by rw [beq_eq_false_iff_ne]; omega), decide_eq_false e]; rfl) (by
      unfold m_sL03Is_s2
      dsimp only
      rw [bif_f (by rw [decide_eq_false_iff_not, hl]; omega)])
     rw [show ((1 : Nat) : Int) = 1 from rfl] at this
     rw [this, show anyIn 1 13 (fun x => decide ((T ++ U).count ((x : Nat) : Int) = 1)) = single (T ++ U) from rfl]
     cases single (T ++ U) <;> rfl
   ·rw [bif_t (by rw [bne_iff_ne]; omega)]
    unfold valB
    rw [decide_eq_false (fun h => h3 h.2.2), Bool.false_and]
  ·rw [bif_t (by rw [decide_eq_true_eq]; omega)]
   unfold valB
   rw [decide_eq_false (fun h => h2 h.2.1), Bool.false_and]
 ·rw [bif_t (by rw [decide_eq_true_eq]; omega)]
  unfold valB
  rw [decide_eq_false (fun h => h1 h.1), Bool.false_and]
theorem valB_pins {T U : List Int} (h : valB T U = true) : Pins T U := by
 unfold valB at h
 rw [Bool.and_eq_true, Bool.and_eq_true, decide_eq_true_eq, List.all_eq_true] at h
 obtain ⟨⟨h1, h2, h3⟩, h4, _⟩ := h
 refine ⟨h3, h2, fun i hi => ?_, fun i hi => ?_⟩
 ·rw [List.getD, List.getElem?_eq_getElem hi]
  exact inN_t.1 (h4 _ (List.mem_append_left _ (List.getElem_mem hi)))
 ·rw [List.getD, List.getElem?_eq_getElem (show i < U.length by omega)]
  exact inN_t.1 (h4 _ (List.mem_append_right _ (List.getElem_mem _)))
end Go.Proofs.YtbfjekmefcpkmaaDoor

set_option linter.unusedSimpArgs false
set_option linter.unusedVariables false
set_option linter.unusedSectionVars false
namespace Go.Proofs.YtbfjekmefcpkmaaDoor
open Go.RowKit

theorem Chain.len {A B : Nat → Nat → Bool} {n left : Nat} {cs : List Nat} (h : Chain A B n left cs) : left < 2 ^ n → cs.length ≤ cnt n left := by
 induction h with
 | z => intro _; exact Nat.zero_le _
 | s hb _ ih =>
  intro hl
  have h1 := ih (sub_lt hl)
  have h2 := cnt_sub hb.gd.fit hl
  rw [List.length_cons]; omega
/-- What both programs answer. -/
structure Few (r : List (List Int) × Bool) : Prop where
 len : r.1.length ≤ 1000
 rows : ∀ t ∈ r.1, t.length ≤ 1000
end Go.Proofs.YtbfjekmefcpkmaaDoor
