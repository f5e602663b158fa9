/- The second program: the fewest tracks, by a table of all sets. The second program: the chain of the least sets. -/
import Derived.Test.YtbfjekmefcpkmaaDoorPcP0
import Derived.Test.YtbfjekmefcpkmaaDoorPuLp
set_option linter.unusedSimpArgs false
set_option linter.unusedVariables false
set_option linter.unusedSectionVars false
namespace Go.Proofs.YtbfjekmefcpkmaaDoor
open Go.RowKit

theorem geti_map {α : Type} {n : Nat} {g : Nat → α} {i : Nat} (h : i < n) : geti ((List.range n).map g) (i : Int) = some (g i) := by
  rw [geti_nat, List.getElem?_map, List.getElem?_range h]; rfl
theorem wu_lo {x : Nat} (h : x < 2 ^ 62) : wu (x : Int) = (x : Int) := by unfold wu; exact IntWalk.u64_in (x : Int) (by omega)
def bm (n : Nat) (R : Nat → Nat → Bool) : List (List Bool) := (List.range n).map fun i => (List.range n).map fun k => R i k
theorem bit_int (b : Bool) : (((if b then (1 : Int) else 0)) == 0) = !b := by cases b <;> rfl
theorem bit_int1 (b : Bool) : (((if b then (1 : Int) else 0)) == 1) = b := by cases b <;> rfl
section
variable {A B : Nat → Nat → Bool} {n : Nat} {nm : Nat → Int}
def badK (A B : Nat → Nat → Bool) (left set i k : Nat) : Bool := left.testBit k && (B k i || (A i k && set.testBit k))
def fitB (A B : Nat → Nat → Bool) (n left set : Nat) : Bool := if anyIn 0 n fun i => set.testBit i && anyIn 0 n (badK A B left set i) then false else decide (set ≠ 0)
theorem fitB_iff {left set : Nat} (hs : Sub set left) (hl : left < 2 ^ n) : fitB A B n left set = true ↔ Fit A B left set := by
  unfold fitB
  constructor
  · intro h
    split at h
    · cases h
    · rename_i hb
      rw [Bool.not_eq_true, anyIn_f] at hb
      have hall : ∀ i k, set.testBit i = true → left.testBit k = true → badK A B left set i k = false := fun i k hi hk => by
        have := hb i (Nat.zero_le _) (bit_lt hl (hs i hi))
        rw [hi, Bool.true_and, anyIn_f] at this
        exact this k (Nat.zero_le _) (bit_lt hl hk)
      refine ⟨hs, of_decide_eq_true h, fun i k hi hk => ?_, fun i k hi hk => ?_⟩
      · have := hall i k hi hk
        unfold badK at this
        rw [hk, Bool.true_and, Bool.or_eq_false_iff] at this
        exact this.1
      · have := hall i k hi (hs k hk)
        unfold badK at this
        rw [hs k hk, hk, Bool.true_and, Bool.or_eq_false_iff, Bool.and_true] at this
        exact this.2
  · intro h
    have : (anyIn 0 n fun i => set.testBit i && anyIn 0 n (badK A B left set i)) = false := by
      rw [anyIn_f]
      intro i _ hi
      cases hb : set.testBit i with
      | false => rfl
      | true =>
        rw [Bool.true_and, anyIn_f]
        intro k _ hk
        unfold badK
        cases hk2 : left.testBit k with
        | false => rfl
        | true =>
          rw [h.up i k hb hk2]
          cases hk3 : set.testBit k with
          | false => simp
          | true => rw [h.ap i k hb hk3]; rfl
    rw [this, if_neg (by simp)]
    exact decide_eq_true h.nz
theorem fits_eq (hn : n ≤ 30) {left set : Nat} (hl : left < 2 ^ n) (hs : set < 2 ^ n) :
    m_spec_l03Fits_bspecl03Things ((List.range n).map nm) (bm n A) (bm n B) (set : Int) (left : Int) = some (fitB A B n left set) := by
  have inner : ∀ i, i < n → loopM (m_spec_l03Fits_bspecl03Things_s4 ((List.range n).map nm) (bm n A) (bm n B) (set : Int) (left : Int) (i : Int)) 0 = some (if anyIn 0 n (badK A B left set i) then .inr false else .inl ()) := by
    intro i hi
    refine loop_any 0 n _ false (Nat.zero_le _) (fun k _ hk _ => ?_) ?_
    · unfold m_spec_l03Fits_bspecl03Things_s4
      have ew : wr ((k : Int) + 1) = ((k + 1 : Nat) : Int) := by rw [wr_in (by omega)]; push_cast; rfl
      dsimp only
      rw [bif_t (by simpa using hk), wu_lo (by omega), p0C_ok (Int.natCast_nonneg _)]
      simp only [Option.bind_some]
      rw [bit_shr (pow62 (by omega) hl) (by omega), bit_shr (pow62 (by omega) hs) (by omega), bit_int, bit_int1, ew]
      unfold bm
      rw [geti_map hk, geti_map hi]
      simp only [Option.bind_some]
      rw [geti_map hi, geti_map hk]
      simp only [Option.bind_some]
      unfold badK
      cases left.testBit k <;> cases B k i <;> cases A i k <;> cases set.testBit k <;> rfl
    · unfold m_spec_l03Fits_bspecl03Things_s4
      dsimp only
      rw [bif_f (by simp)]
  have outer : loopM (m_spec_l03Fits_bspecl03Things_s3 ((List.range n).map nm) (bm n A) (bm n B) (set : Int) (left : Int)) 0 = some (if anyIn 0 n (fun i => set.testBit i && anyIn 0 n (badK A B left set i)) then .inr false else .inl ()) := by
    refine loop_any 0 n _ false (Nat.zero_le _) (fun k _ hk _ => ?_) ?_
    · unfold m_spec_l03Fits_bspecl03Things_s3
      have ew : wr ((k : Int) + 1) = ((k + 1 : Nat) : Int) := by rw [wr_in (by omega)]; push_cast; rfl
      dsimp only
      rw [bif_t (by simpa using hk), wu_lo (by omega), p0C_ok (Int.natCast_nonneg _)]
      simp only [Option.bind_some]
      rw [bit_shr (pow62 (by omega) hs) (by omega), bit_int, inner k hk, ew]
      cases set.testBit k <;> cases anyIn 0 n (badK A B left set k) <;> rfl
    · unfold m_spec_l03Fits_bspecl03Things_s3
      dsimp only
      rw [bif_f (by simp)]
  unfold m_spec_l03Fits_bspecl03Things
  rw [outer]
  unfold fitB
  split
  · rfl
  · simp only [Option.bind_some]
    congr 1
    by_cases h : set = 0
    · subst h; rfl
    · rw [decide_eq_true h, bne_iff_ne]; omega
/-- How the table holds a number. -/
def spv (n v : Nat) : Int := if v ≤ n then (v : Int) else -1
def OkAt (A B : Nat → Nat → Bool) (n : Nat) (l : List Int) (t : Nat) : Prop := ∃ v, IsL A B n t v ∧ geti l (t : Int) = some (spv n v)
theorem Fit.one {left c u : Nat} (hf : Fit A B left c) (hl : left < 2 ^ n) (hu : IsL A B n (sub left c) u) (h : u ≤ n) : u + 1 ≤ n := (Tk.s hf (hu.is h)).le_n hl
theorem sub_less {left c : Nat} (hs : Sub c left) (h0 : c ≠ 0) : sub left c < left := by
  have hle := sub_le left c
  have hne : sub left c ≠ left := fun e => by
    obtain ⟨i, hi⟩ := nz_bit h0
    have h1 := congrArg (·.testBit i) e
    simp only [sub_bit, hi, hs i hi] at h1
    cases h1
  omega
theorem geti_set {α : Type} {l : List α} {i : Nat} {x : α} (h : i < l.length) : geti (l.set i x) (i : Int) = some x := by
  rw [geti_nat, List.getElem?_set_self h]
theorem geti_set_ne {α : Type} {l : List α} {i j : Nat} {x : α} (h : i ≠ j) : geti (l.set i x) (j : Int) = geti l (j : Int) := by
  rw [geti_nat, geti_nat, List.getElem?_set_ne h]
structure Inn (A B : Nat → Nat → Bool) (n left set b : Nat) : Prop where
  lo : ∀ c, Fit A B left c → set < c → ∃ u, IsL A B n (sub left c) u ∧ b ≤ u + 1
  is : b ≤ n → ∃ c u, Fit A B left c ∧ IsL A B n (sub left c) u ∧ b = u + 1
  hi : b ≤ n + 1
theorem inner_eq (hn : n ≤ 30) {left : Nat} (hl : left < 2 ^ n) (h0 : left ≠ 0) {l0 : List Int} (hlen : l0.length = 2 ^ n) (hok : ∀ t, t < left → OkAt A B n l0 t) :
    ∀ (set b : Nat), Sub set left → Inn A B n left set b → ∃ v, IsL A B n left v ∧
      loopM (m_spec_l03Fewest_bspecl03Things_s4 ((List.range n).map nm) (bm n A) (bm n B) (left : Int)) ((set : Int), l0.set left (spv n b)) = some (l0.set left (spv n v))
  | set, b, hs, hI => by
    by_cases hz : set = 0
    · subst hz
      refine ⟨b, IsL.rec' h0 (fun c hf => hI.lo c hf (Nat.pos_of_ne_zero hf.nz)) hI.is hI.hi, loopM_out ?_⟩
      unfold m_spec_l03Fewest_bspecl03Things_s4
      dsimp only
      rw [bif_f (by simp)]
    · have hset : set < 2 ^ n := Nat.lt_of_le_of_lt hs.le hl
      have hll : left < l0.length := by omega
      have hsl := sub_less hs hz
      obtain ⟨u, hu, hg⟩ := hok _ hsl
      have hg' : geti (l0.set left (spv n b)) ((sub left set : Nat) : Int) = some (spv n u) := by rw [geti_set_ne (by omega)]; exact hg
      have hui := hu.hi
      have hbi := hI.hi
      have hf1 : Fit A B left set → u ≤ n → u + 1 ≤ n := fun hf h => hf.one hl hu h
      have hw : u ≤ n → wr ((u : Int) + 1) = ((u + 1 : Nat) : Int) := fun h => by rw [wr_in (by omega)]; push_cast; rfl
      have hnx : andI (wr ((set : Int) - 1)) (left : Int) = (((set - 1) &&& left : Nat) : Int) := by
        rw [show wr ((set : Int) - 1) = ((set - 1 : Nat) : Int) from by rw [wr_in (by have := pow62 (n := n) (by omega) hset; omega)]; omega]
        exact andI_nat (pow62 (n := n) (by omega) (by omega)) (pow62 (by omega) hl)
      have step : ∃ b', (b' = if fitB A B n left set = true ∧ u ≤ n ∧ u + 1 < b then u + 1 else b) ∧ m_spec_l03Fewest_bspecl03Things_s4 ((List.range n).map nm) (bm n A) (bm n B) (left : Int) ((set : Int), l0.set left (spv n b)) = some (.next ((((set - 1) &&& left : Nat) : Int), l0.set left (spv n b'))) := by
        refine ⟨_, rfl, ?_⟩
        unfold m_spec_l03Fewest_bspecl03Things_s4
        dsimp only
        rw [bif_t (by rw [decide_eq_true_eq]; omega), andNI_nat (pow62 (by omega) hl) (pow62 (by omega) hset), hg', fits_eq hn hl hset, geti_set hll, hnx, Int.toNat_natCast]
        simp only [Option.bind_some, List.set_set]
        by_cases hun : u ≤ n
        · have e1 : spv n u = (u : Int) := by unfold spv; rw [if_pos hun]
          rw [e1, bif_t (by rw [decide_eq_true_eq]; omega), hw hun]
          by_cases hbn : b ≤ n
          · have e2 : spv n b = (b : Int) := by unfold spv; rw [if_pos hbn]
            rw [e2, bif_f (by rw [decide_eq_false_iff_not]; omega)]
            by_cases hub : u + 1 < b
            · rw [bif_t (by rw [decide_eq_true_eq]; omega)]
              cases hfb : fitB A B n left set with
              | true => simp [hun, hub, spv, show u + 1 ≤ n by omega]
              | false => simp [e2]
            · rw [bif_f (by rw [decide_eq_false_iff_not]; omega)]
              simp [hub, e2]
          · have e2 : spv n b = -1 := by unfold spv; rw [if_neg hbn]
            rw [e2, bif_t (by rfl)]
            cases hfb : fitB A B n left set with
            | true =>
              have := hf1 ((fitB_iff hs hl).1 hfb) hun
              simp [hun, spv, show u + 1 ≤ n by omega, show u + 1 < b by omega]
            | false => simp [e2]
        · have e1 : spv n u = -1 := by unfold spv; rw [if_neg hun]
          rw [e1, bif_f (by rfl)]
          simp [hun]
      obtain ⟨b', hb', hstep⟩ := step
      rw [loopM_next hstep]
      have hlt : (set - 1) &&& left < set := Nat.lt_of_le_of_lt Nat.and_le_left (by omega)
      refine inner_eq hn hl h0 hlen hok ((set - 1) &&& left) b' (and_Sub _ _) ⟨fun c hf hc => ?_, fun hb => ?_, ?_⟩
      · have hbb : b' ≤ b := by rw [hb']; split <;> omega
        by_cases h1 : set < c
        · obtain ⟨w, hw1, hw2⟩ := hI.lo c hf h1
          exact ⟨w, hw1, by omega⟩
        · have hcs : ¬ c < set := fun h => by
            have := next_sub set left c hs hf.sb h
            omega
          have : c = set := by omega
          subst this
          refine ⟨u, hu, ?_⟩
          have := (fitB_iff hs hl).2 hf
          rw [hb']
          split
          · omega
          · rename_i hx
            by_cases hun : u ≤ n
            · have : ¬ u + 1 < b := fun h => hx ⟨this, hun, h⟩
              omega
            · omega
      · rw [hb'] at hb ⊢
        split
        · rename_i hx
          exact ⟨set, u, (fitB_iff hs hl).1 hx.1, hu, rfl⟩
        · rename_i hx
          rw [if_neg hx] at hb
          exact hI.is hb
      · rw [hb']; split <;> omega
termination_by set => set
/-- The whole table. -/
theorem table_eq (hn : n ≤ 30) : ∃ l : List Int, l.length = 2 ^ n ∧ (∀ t, t < 2 ^ n → OkAt A B n l t) ∧
    loopM (m_spec_l03Fewest_bspecl03Things_s3 ((List.range n).map nm) (bm n A) (bm n B)) (1, List.replicate (2 ^ n) (0 : Int)) = some l := by
  have hp := Nat.two_pow_pos n
  have h62 : (2 : Nat) ^ n < 2 ^ 62 := Nat.pow_lt_pow_right (by omega) (by omega)
  have hsh : shlI 1 (wu ((((List.range n).map nm).length : Nat) : Int)) = ((2 ^ n : Nat) : Int) := by
    rw [List.length_map, List.length_range, wu_lo (by omega)]; exact shlI_nat (by omega)
  obtain ⟨r, h1, h2, h3⟩ := loopM_count (m_spec_l03Fewest_bspecl03Things_s3 ((List.range n).map nm) (bm n A) (bm n B)) (2 ^ n - 1)
    (fun k s => s.1 = ((k + 1 : Nat) : Int) ∧ s.2.length = 2 ^ n ∧ ∀ t, t < k + 1 → OkAt A B n s.2 t) (fun l => l.length = 2 ^ n ∧ ∀ t, t < 2 ^ n → OkAt A B n l t) (s0 := (1, List.replicate (2 ^ n) (0 : Int)))
    ⟨rfl, by simp, fun t ht => by
      have : t = 0 := by omega
      subst this
      refine ⟨0, IsL.zero, ?_⟩
      rw [geti_lt (by simpa using hp)]
      simp [spv]⟩ (by
    rintro k ⟨x, l⟩ hk ⟨hx, hlen, hok⟩
    simp only at hx hlen hok
    subst hx
    left
    have hl : k + 1 < 2 ^ n := by omega
    have hinn : Inn A B n (k + 1) (k + 1) (n + 1) := ⟨fun c hf hc => by have := hf.sb.le; omega, fun h => by omega, Nat.le_refl _⟩
    obtain ⟨v, hv, hrun⟩ := inner_eq (A := A) (B := B) (nm := nm) hn hl (by omega) hlen (fun t ht => hok t ht) (k + 1) (n + 1) (fun i hi => hi) hinn
    have e1 : spv n (n + 1) = -1 := by unfold spv; rw [if_neg (by omega)]
    rw [e1] at hrun
    refine ⟨(((k + 1 + 1 : Nat) : Int), l.set (k + 1) (spv n v)), ?_, rfl, ?_, fun t ht => ?_⟩
    · unfold m_spec_l03Fewest_bspecl03Things_s3
      dsimp only
      rw [hsh, bif_t (by rw [decide_eq_true_eq]; omega), geti_lt (show k + 1 < l.length by omega), Int.toNat_natCast]
      simp only [Option.bind_some]
      rw [hrun]
      simp only [Option.bind_some]
      generalize 2 ^ n = z at *
      rw [wr_in (by omega)]
      push_cast; rfl
    · simpa using hlen
    · by_cases e : t = k + 1
      · subst e
        exact ⟨v, hv, geti_set (by omega)⟩
      · obtain ⟨w, hw, hg⟩ := hok t (by omega)
        exact ⟨w, hw, by rw [geti_set_ne (fun h => e h.symm)]; exact hg⟩) (by
    rintro ⟨x, l⟩ ⟨hx, hlen, hok⟩
    simp only at hx hlen hok
    subst hx
    refine ⟨l, ?_, hlen, fun t ht => hok t (by omega)⟩
    unfold m_spec_l03Fewest_bspecl03Things_s3
    dsimp only
    rw [hsh, bif_f (by rw [decide_eq_false_iff_not]; omega)])
  exact ⟨r, h2, h3, h1⟩
end
end Go.Proofs.YtbfjekmefcpkmaaDoor

set_option linter.unusedSimpArgs false
set_option linter.unusedVariables false
set_option linter.unusedSectionVars false
namespace Go.Proofs.YtbfjekmefcpkmaaDoor
open Go.RowKit

section
variable {A B : Nat → Nat → Bool} {n : Nat} {nm : Nat → Int}
theorem track_eq (hn : n ≤ 30) {set : Nat} (hs : set < 2 ^ n) :
    loopM (m_spec_l03Fewest_bspecl03Things_s26 ((List.range n).map nm) (set : Int)) (([] : List Int), 0) = some ((bitsL n set).map nm) := by
  refine loopM_val _ n (fun k s => s = (((List.range k).filter fun i => set.testBit i).map nm, (k : Int))) rfl (fun k s hk h => ?_) (fun s h => ?_)
  · subst h
    refine .inl ⟨_, ?_, rfl⟩
    unfold m_spec_l03Fewest_bspecl03Things_s26
    dsimp only
    have ew : wr ((k : Int) + 1) = ((k + 1 : Nat) : Int) := by rw [wr_in (by omega)]; push_cast; rfl
    rw [bif_t (by simpa using hk), wu_lo (by omega), p0C_ok (Int.natCast_nonneg _)]
    simp only [Option.bind_some]
    rw [bit_shr (pow62 (by omega) hs) (by omega), bit_int1, geti_map hk, ew]
    simp only [Option.bind_some]
    rw [List.range_succ, List.filter_append, List.map_append]
    cases hb : set.testBit k with
    | false => simp [hb]
    | true =>
      have hap : apC (((List.range k).filter fun i => set.testBit i).map nm) [nm k] = some () := by
        unfold apC chk
        have hlim : lim = 1099511627776 := rfl
        have := List.length_filter_le (fun i => set.testBit i) (List.range k)
        rw [List.length_range] at this
        simp; omega
      rw [hap]
      simp [hb]
  · subst h
    unfold m_spec_l03Fewest_bspecl03Things_s26
    dsimp only
    rw [bif_f (by simp)]
    rfl
theorem less_run (hmono : ∀ i k, i < k → k < n → nm i < nm k) {a b : List Nat} (ha : ∀ x ∈ a, x < n) (hb : ∀ x ∈ b, x < n) (hal : a.length ≤ 1000) (hbl : b.length ≤ 1000) :
    ∀ (d j : Nat), a.length - j = d → j ≤ a.length → j ≤ b.length → a.take j = b.take j →
      ∃ r, loopM (m_spec_l03Less_s1 (a.map nm) (b.map nm)) (j : Int) = some r ∧ (match r with | .inl _ => decide (((a.map nm).length : Int) < ((b.map nm).length : Int)) | .inr v => v) = lx (a.drop j) (b.drop j)
  | d, j, hd, hja, hjb, ht => by
    by_cases h1 : j < a.length
    · by_cases h2 : j < b.length
      · have hx := ha _ (List.getElem_mem h1)
        have hy := hb _ (List.getElem_mem h2)
        have hga : geti (a.map nm) (j : Int) = some (nm a[j]) := by rw [geti_nat, List.getElem?_map, List.getElem?_eq_getElem h1]; rfl
        have hgb : geti (b.map nm) (j : Int) = some (nm b[j]) := by rw [geti_nat, List.getElem?_map, List.getElem?_eq_getElem h2]; rfl
        have hda : a.drop j = a[j] :: a.drop (j + 1) := List.drop_eq_getElem_cons h1
        have hdb : b.drop j = b[j] :: b.drop (j + 1) := List.drop_eq_getElem_cons h2
        by_cases e : a[j] = b[j]
        · have step : m_spec_l03Less_s1 (a.map nm) (b.map nm) (j : Int) = some (.next ((j + 1 : Nat) : Int)) := by
            unfold m_spec_l03Less_s1
            dsimp only
            rw [bif_t (by simpa using h1), bif_t (by simpa using h2), hga, hgb]
            simp only [Option.bind_some]
            rw [bif_f (by rw [e]; simp), wr_in (by omega)]
            push_cast; rfl
          rw [loopM_next step]
          obtain ⟨r, hr, hl⟩ := less_run hmono ha hb hal hbl (d - 1) (j + 1) (by omega) (by omega) (by omega) (by
            rw [List.take_succ_eq_append_getElem h1, List.take_succ_eq_append_getElem h2, ht, e])
          refine ⟨r, hr, ?_⟩
          rw [hl, hda, hdb]
          simp only [lx]
          rw [if_pos e]
        · have hne : nm a[j] ≠ nm b[j] := by
            rcases Nat.lt_or_gt_of_ne e with h | h
            · have := hmono _ _ h hy; omega
            · have := hmono _ _ h hx; omega
          have hlt : (nm a[j] < nm b[j]) ↔ a[j] < b[j] := by
            rcases Nat.lt_or_gt_of_ne e with h | h
            · have := hmono _ _ h hy; constructor <;> intro <;> omega
            · have := hmono _ _ h hx; constructor <;> intro <;> omega
          refine ⟨.inr (decide (nm a[j] < nm b[j])), loopM_out ?_, ?_⟩
          · unfold m_spec_l03Less_s1
            dsimp only
            rw [bif_t (by simpa using h1), bif_t (by simpa using h2), hga, hgb]
            simp only [Option.bind_some]
            rw [bif_t (by rw [bne_iff_ne]; exact hne)]
          · rw [hda, hdb]
            simp only [lx]
            rw [if_neg e]
            exact decide_eq_decide.2 hlt
      · refine ⟨.inl (), loopM_out ?_, ?_⟩
        · unfold m_spec_l03Less_s1
          dsimp only
          rw [bif_t (by simpa using h1), bif_f (by simpa using h2)]
        · have hb0 : b.drop j = [] := List.drop_eq_nil_of_le (by omega)
          rw [hb0, List.drop_eq_getElem_cons h1]
          simp only [lx, List.length_map]
          exact decide_eq_false (by omega)
    · refine ⟨.inl (), loopM_out ?_, ?_⟩
      · unfold m_spec_l03Less_s1
        dsimp only
        rw [bif_f (by simpa using h1)]
      · have ha0 : a.drop j = [] := List.drop_eq_nil_of_le (by omega)
        rw [ha0]
        simp only [List.length_map]
        by_cases h2 : j < b.length
        · rw [List.drop_eq_getElem_cons h2]
          simp only [lx]
          exact decide_eq_true (by omega)
        · rw [List.drop_eq_nil_of_le (show b.length ≤ j by omega)]
          simp only [lx]
          exact decide_eq_false (by omega)
termination_by d => d
theorem less_eq (hmono : ∀ i k, i < k → k < n → nm i < nm k) {a b : List Nat} (ha : ∀ x ∈ a, x < n) (hb : ∀ x ∈ b, x < n) (hal : a.length ≤ 1000) (hbl : b.length ≤ 1000) : m_spec_l03Less (a.map nm) (b.map nm) = some (lx a b) := by
  obtain ⟨r, hr, hl⟩ := less_run hmono ha hb hal hbl a.length 0 rfl (Nat.zero_le _) (Nat.zero_le _) rfl
  unfold m_spec_l03Less
  rw [show ((0 : Nat) : Int) = 0 from rfl] at hr
  rw [hr]
  simp only [List.drop_zero] at hl
  rw [← hl]
  cases r <;> rfl
/-- What is chosen so far, when all above a set are visited. -/
def Cho (A B : Nat → Nat → Bool) (n left set ch : Nat) : Prop :=
  (ch = 0 ∧ ∀ c, Gd A B n left c → ¬ set < c) ∨ (ch ≠ 0 ∧ Gd A B n left ch ∧ ∀ c, Gd A B n left c → set < c → c ≠ ch → lx (bitsL n ch) (bitsL n c) = true)
theorem lx_trans : ∀ {a b c : List Nat}, lx a b = true → lx b c = true → lx a c = true
  | [], [], _, h, _ => by simp [lx] at h
  | [], _ :: _, [], _, h => by simp [lx] at h
  | [], _ :: _, _ :: _, _, _ => rfl
  | _ :: _, [], _, h, _ => by simp [lx] at h
  | _ :: _, _ :: _, [], _, h => by simp [lx] at h
  | x :: a, y :: b, z :: c, h1, h2 => by
    simp only [lx] at h1 h2 ⊢
    by_cases e1 : x = y
    · by_cases e2 : y = z
      · rw [if_pos e1] at h1; rw [if_pos e2] at h2; rw [if_pos (e1.trans e2)]
        exact lx_trans h1 h2
      · rw [if_neg e2, decide_eq_true_eq] at h2
        rw [if_neg (by omega)]
        exact decide_eq_true (by omega)
    · rw [if_neg e1, decide_eq_true_eq] at h1
      by_cases e2 : y = z
      · rw [if_neg (by omega)]
        exact decide_eq_true (by omega)
      · rw [if_neg e2, decide_eq_true_eq] at h2
        rw [if_neg (by omega)]
        exact decide_eq_true (by omega)
theorem bitsL_inj {s t : Nat} (hs : s < 2 ^ n) (ht : t < 2 ^ n) (h : bitsL n s = bitsL n t) : s = t := by
  rw [← mask_bitsL hs, ← mask_bitsL ht, h]
theorem Gd.lt {left c : Nat} (h : Gd A B n left c) (hl : left < 2 ^ n) : c < 2 ^ n := Nat.lt_of_le_of_lt h.fit.sb.le hl
theorem cnt_small (hn : n ≤ 30) (s : Nat) : (bitsL n s).length ≤ 1000 := by have := cnt_le n s; unfold cnt at this; omega
open Classical in
theorem choose_eq (hn : n ≤ 30) (hmono : ∀ i k, i < k → k < n → nm i < nm k) {left v : Nat} (hl : left < 2 ^ n) {l : List Int} (hok : ∀ t, t < 2 ^ n → OkAt A B n l t) (hv : IsL A B n left (v + 1)) (hvn : v + 1 ≤ n) :
    ∀ (set ch : Nat), Sub set left → Cho A B n left set ch → ∃ c, Bst A B n left c ∧
      loopM (m_spec_l03Fewest_bspecl03Things_s24 ((List.range n).map nm) (bm n A) (bm n B) l (left : Int)) ((if ch = 0 then [] else (bitsL n ch).map nm), (ch : Int), (set : Int)) = some ((bitsL n c).map nm, (c : Int))
  | set, ch, hs, hC => by
    by_cases hz : set = 0
    · subst hz
      rcases hC with ⟨hc, h⟩ | ⟨hc, hg, h⟩
      · exfalso
        have := hv.is hvn
        cases this with
        | @s _ c _ hf ht =>
          have hg : Gd A B n left c := (Gd.want hv).2 ⟨hf, ⟨fun m hm => by have := hv.lo _ (.s hf hm); omega, fun _ => ht, by omega⟩⟩
          exact h c hg (Nat.pos_of_ne_zero hf.nz)
      · refine ⟨ch, ⟨hg, fun d hd hne => h d hd (Nat.pos_of_ne_zero hd.fit.nz) hne⟩, loopM_out ?_⟩
        unfold m_spec_l03Fewest_bspecl03Things_s24
        dsimp only
        rw [bif_f (by simp), if_neg hc]
    · have hset : set < 2 ^ n := Nat.lt_of_le_of_lt hs.le hl
      have hsl := sub_less hs hz
      obtain ⟨u, hu, hg⟩ := hok (sub left set) (by omega)
      obtain ⟨v', hv', hg2⟩ := hok left hl
      have := hv'.uniq hv
      subst this
      have hsp : wr (spv n (v + 1) - 1) = (v : Int) := by
        unfold spv
        rw [if_pos hvn, wr_in (by omega)]; omega
      have hnx : andI (wr ((set : Int) - 1)) (left : Int) = (((set - 1) &&& left : Nat) : Int) := by
        rw [show wr ((set : Int) - 1) = ((set - 1 : Nat) : Int) from by rw [wr_in (by have := pow62 (n := n) (by omega) hset; omega)]; omega]
        exact andI_nat (pow62 (n := n) (by omega) (by omega)) (pow62 (by omega) hl)
      have hlt : (set - 1) &&& left < set := Nat.lt_of_le_of_lt Nat.and_le_left (by omega)
      have hnext : ∀ c, Sub c left → (set - 1) &&& left < c → c ≠ set → set < c := fun c hc h hne => by
        apply Classical.byContradiction
        intro h2
        have := next_sub set left c hs hc (by omega)
        omega
      -- what a round does
      have hgd : Gd A B n left set ↔ (u = v ∧ fitB A B n left set = true) := by
        rw [Gd.want hv, fitB_iff hs hl]
        constructor
        · rintro ⟨h1, h2⟩; exact ⟨hu.uniq h2, h1⟩
        · rintro ⟨h1, h2⟩; subst h1; exact ⟨h2, hu⟩
      have hhead : ∀ (X : List Int) (Y : Int), m_spec_l03Fewest_bspecl03Things_s24 ((List.range n).map nm) (bm n A) (bm n B) l (left : Int) (X, Y, (set : Int)) =
          (if Gd A B n left set then (Option.bind (bif Y == 0 then some ((bitsL n set).map nm, (set : Int)) else Option.bind (m_spec_l03Less ((bitsL n set).map nm) X) fun y4 => (bif y4 then some ((bitsL n set).map nm, (set : Int)) else some (X, Y))) fun s6 => some (Ctl.next (s6.1, s6.2, (((set - 1) &&& left : Nat) : Int)))) else some (Ctl.next (X, Y, (((set - 1) &&& left : Nat) : Int)))) := by
        intro X Y
        unfold m_spec_l03Fewest_bspecl03Things_s24
        dsimp only
        rw [bif_t (by rw [decide_eq_true_eq]; omega), andNI_nat (pow62 (by omega) hl) (pow62 (by omega) hset), hg, hg2]
        simp only [Option.bind_some]
        rw [hsp, hnx, fits_eq hn hl hset, track_eq hn hset]
        simp only [Option.bind_some]
        by_cases huv : u = v
        · have e : spv n u = (v : Int) := by unfold spv; rw [if_pos (by omega), huv]
          rw [e, bif_f (by simp)]
          cases hfb : fitB A B n left set with
          | false => rw [if_neg (fun h => by have := (hgd.1 h).2; rw [hfb] at this; cases this)]; rfl
          | true => rw [if_pos (hgd.2 ⟨huv, hfb⟩)]; rfl
        · have e : spv n u ≠ (v : Int) := by unfold spv; split <;> omega
          rw [bif_t (by rw [bne_iff_ne]; exact e), if_neg (fun h => huv (hgd.1 h).1)]
      have go : ∀ ch', Cho A B n left ((set - 1) &&& left) ch' → m_spec_l03Fewest_bspecl03Things_s24 ((List.range n).map nm) (bm n A) (bm n B) l (left : Int) ((if ch = 0 then [] else (bitsL n ch).map nm), (ch : Int), (set : Int)) = some (.next ((if ch' = 0 then [] else (bitsL n ch').map nm), (ch' : Int), (((set - 1) &&& left : Nat) : Int))) →
          ∃ c, Bst A B n left c ∧ loopM (m_spec_l03Fewest_bspecl03Things_s24 ((List.range n).map nm) (bm n A) (bm n B) l (left : Int)) ((if ch = 0 then [] else (bitsL n ch).map nm), (ch : Int), (set : Int)) = some ((bitsL n c).map nm, (c : Int)) := fun ch' hC' hst => by
        rw [loopM_next hst]
        exact choose_eq hn hmono hl hok hv hvn _ ch' (and_Sub _ _) hC'
      by_cases hG : Gd A B n left set
      · have hlx : ∀ X, m_spec_l03Less ((bitsL n set).map nm) ((bitsL n X).map nm) = some (lx (bitsL n set) (bitsL n X)) := fun X => less_eq hmono (fun x hx => (mem_bitsL.1 hx).1) (fun x hx => (mem_bitsL.1 hx).1) (cnt_small hn _) (cnt_small hn _)
        rcases hC with ⟨hc, h⟩ | ⟨hc, hg', h⟩
        · subst hc
          refine go set (.inr ⟨hz, hG, fun c hcg h1 hne => absurd (hnext c hcg.fit.sb h1 hne) (h c hcg)⟩) ?_
          rw [hhead, if_pos hG, if_neg hz]
          rfl
        · cases hlt2 : lx (bitsL n set) (bitsL n ch) with
          | true =>
            refine go set (.inr ⟨hz, hG, fun c hcg h1 hne => ?_⟩) ?_
            · by_cases hcc : c = ch
              · rw [hcc]; exact hlt2
              · exact lx_trans hlt2 (h c hcg (hnext c hcg.fit.sb h1 hne) hcc)
            · rw [hhead, if_pos hG, if_neg hc, if_neg hz, hlx ch, hlt2, bif_f (by rw [beq_eq_false_iff_ne]; omega)]
              rfl
          | false =>
            refine go ch (.inr ⟨hc, hg', fun c hcg h1 hne => ?_⟩) ?_
            · by_cases hcs : c = set
              · rw [hcs] at hne ⊢
                exact lx_tot (fun e => hne (bitsL_inj hset (hg'.lt hl) e)) hlt2
              · exact h c hcg (hnext c hcg.fit.sb h1 hcs) hne
            · rw [hhead, if_pos hG, if_neg hc, hlx ch, hlt2, bif_f (by rw [beq_eq_false_iff_ne]; omega)]
              rfl
      · refine go ch ?_ (by rw [hhead, if_neg hG])
        rcases hC with ⟨hc, h⟩ | ⟨hc, hg', h⟩
        · exact .inl ⟨hc, fun c hcg h1 => h c hcg (hnext c hcg.fit.sb h1 (fun e => hG (e ▸ hcg)))⟩
        · exact .inr ⟨hc, hg', fun c hcg h1 hne => h c hcg (hnext c hcg.fit.sb h1 (fun e => hG (e ▸ hcg))) hne⟩
termination_by set => set
theorem chainS_eq (hn : n ≤ 30) (hmono : ∀ i k, i < k → k < n → nm i < nm k) {l : List Int} (hok : ∀ t, t < 2 ^ n → OkAt A B n l t) :
    ∀ (v left : Nat) (out : List (List Int)), left < 2 ^ n → IsL A B n left v → v ≤ n → out.length + v ≤ 1000 →
    ∃ cs, Chain A B n left cs ∧ loopM (m_spec_l03Fewest_bspecl03Things_s19 ((List.range n).map nm) (bm n A) (bm n B) l) (out, (left : Int)) = some (out ++ cs.map fun c => (bitsL n c).map nm)
  | 0, left, out, hl, hv, _, ho => by
    have := hv.z
    subst this
    refine ⟨[], .z, loopM_out ?_⟩
    unfold m_spec_l03Fewest_bspecl03Things_s19
    simp
  | v + 1, left, out, hl, hv, hvn, ho => by
    have h0 : left ≠ 0 := fun e => by
      subst e
      have := hv.uniq IsL.zero
      omega
    obtain ⟨c, hb, hrun1⟩ := choose_eq hn hmono hl hok hv hvn left 0 (fun i hi => hi) (.inl ⟨rfl, fun c hc h => by have := hc.fit.sb.le; omega⟩)
    rw [if_pos rfl] at hrun1
    have hcl : c < 2 ^ n := hb.gd.lt hl
    obtain ⟨u, hu, hu1⟩ := hb.gd.val
    have hu2 := hv.uniq hu1
    have hu3 : v = u := by omega
    subst hu3
    obtain ⟨cs, hcs, hrun⟩ := chainS_eq hn hmono hok v (sub left c) (out ++ [(bitsL n c).map nm]) (sub_lt hl) hu (by omega) (by simp; omega)
    refine ⟨c :: cs, .s hb hcs, ?_⟩
    have step : m_spec_l03Fewest_bspecl03Things_s19 ((List.range n).map nm) (bm n A) (bm n B) l (out, (left : Int)) = some (.next (out ++ [(bitsL n c).map nm], ((sub left c : Nat) : Int))) := by
      unfold m_spec_l03Fewest_bspecl03Things_s19
      dsimp only
      rw [bif_t (by rw [decide_eq_true_eq]; omega)]
      have hrun1' : loopM (m_spec_l03Fewest_bspecl03Things_s24 ((List.range n).map nm) (bm n A) (bm n B) l (left : Int)) (([] : List Int), 0, (left : Int)) = some ((bitsL n c).map nm, (c : Int)) := hrun1
      rw [hrun1']
      simp only [Option.bind_some]
      have hap : apC out [(bitsL n c).map nm] = some () := by
        unfold apC chk
        have hlim : lim = 1099511627776 := rfl
        simp; omega
      rw [hap]
      simp only [Option.bind_some]
      rw [andNI_nat (pow62 (by omega) hl) (pow62 (by omega) hcl)]
    rw [loopM_next step, hrun]
    simp
/-- What the second program finds. -/
theorem fewestS_eq (hn : n ≤ 30) (hmono : ∀ i k, i < k → k < n → nm i < nm k) : (∃ cs, Chain A B n (2 ^ n - 1) cs ∧ m_spec_l03Fewest_bspecl03Things ((List.range n).map nm) (bm n A) (bm n B) = some (cs.map fun c => (bitsL n c).map nm, true)) ∨
    ((∀ m, ¬ Tk A B (2 ^ n - 1) m) ∧ m_spec_l03Fewest_bspecl03Things ((List.range n).map nm) (bm n A) (bm n B) = some ([], false)) := by
  obtain ⟨l, hlen, hok, htab⟩ := table_eq (A := A) (B := B) (nm := nm) hn
  have hp := Nat.two_pow_pos n
  have h40 : (2 : Nat) ^ n ≤ 2 ^ 30 := Nat.pow_le_pow_right (by omega) hn
  obtain ⟨v, hv, hg⟩ := hok (2 ^ n - 1) (by omega)
  have hvi := hv.hi
  have hsh : shlI 1 (wu ((((List.range n).map nm).length : Nat) : Int)) = ((2 ^ n : Nat) : Int) := by
    rw [List.length_map, List.length_range, wu_lo (by omega)]; exact shlI_nat (by omega)
  have hmk : mkC ((2 ^ n : Nat) : Int) = some () := by
    unfold mkC chk
    have hlim : lim = 1099511627776 := rfl
    generalize 2 ^ n = z at h40 hp ⊢
    simp; omega
  have hw : wr (((2 ^ n : Nat) : Int) - 1) = ((2 ^ n - 1 : Nat) : Int) := by
    generalize 2 ^ n = z at h40 hp ⊢
    rw [wr_in (by omega)]; omega
  have hp0 : p0C (wu ((((List.range n).map nm).length : Nat) : Int)) = some () := by
    rw [List.length_map, List.length_range, wu_lo (by omega)]; exact p0C_ok (Int.natCast_nonneg _)
  have head : ∀ r, (bif decide (spv n v < 0) then some (([] : List (List Int)), false) else Option.bind (loopM (m_spec_l03Fewest_bspecl03Things_s19 ((List.range n).map nm) (bm n A) (bm n B) l) (([] : List (List Int)), ((2 ^ n - 1 : Nat) : Int))) fun r5 => some (r5, true)) = some r → m_spec_l03Fewest_bspecl03Things ((List.range n).map nm) (bm n A) (bm n B) = some r := by
    intro r hr
    unfold m_spec_l03Fewest_bspecl03Things
    rw [hp0, hsh, hmk, Int.toNat_natCast]
    simp only [Option.bind_some]
    rw [htab]
    simp only [Option.bind_some]
    rw [hw, hg]
    exact hr
  by_cases hvn : v ≤ n
  · left
    obtain ⟨cs, hcs, hrun⟩ := chainS_eq hn hmono hok v (2 ^ n - 1) [] (full_lt n) hv hvn (by simp; omega)
    refine ⟨cs, hcs, head _ ?_⟩
    rw [bif_f (by unfold spv; rw [if_pos hvn, decide_eq_false_iff_not]; omega), hrun]
    simp
  · right
    refine ⟨fun m hm => ?_, head _ ?_⟩
    · have := hv.lo m hm
      have := hm.le_n (full_lt n)
      omega
    · rw [bif_t (by unfold spv; rw [if_neg hvn]; rfl)]
/-- Both programs' tracks. -/
theorem Chain.tk {left : Nat} {cs : List Nat} (h : Chain A B n left cs) : ∃ m, Tk A B left m := by
  induction h with
  | z => exact ⟨0, .z⟩
  | s hb _ ih =>
    obtain ⟨m, hm⟩ := ih
    exact ⟨m + 1, .s hb.gd.fit hm⟩
theorem both_best {apN ahN : Nat → Nat} (O : Ord A B n apN ahN) (hn : n ≤ 30) (hmono : ∀ i k, i < k → k < n → nm i < nm k) :
    (∃ cs, m_impl_order_best (rg n apN) (rg n ahN) = some (cs.map fun c => cI (bitsL n c), true) ∧ m_spec_l03Fewest_bspecl03Things ((List.range n).map nm) (bm n A) (bm n B) = some (cs.map fun c => (bitsL n c).map nm, true) ∧ Chain A B n (2 ^ n - 1) cs) ∨
    (m_impl_order_best (rg n apN) (rg n ahN) = some ([], false) ∧ m_spec_l03Fewest_bspecl03Things ((List.range n).map nm) (bm n A) (bm n B) = some ([], false)) := by
  rcases best_eq O (by omega) with ⟨cs, h1, h2⟩ | ⟨h1, h2⟩ <;> rcases fewestS_eq (A := A) (B := B) (nm := nm) hn hmono with ⟨ds, g1, g2⟩ | ⟨g1, g2⟩
  · have := h1.uniq g1
    subst this
    exact .inl ⟨cs, h2, g2, h1⟩
  · obtain ⟨m, hm⟩ := h1.tk
    exact absurd hm (g1 m)
  · obtain ⟨m, hm⟩ := g1.tk
    exact absurd hm (h1 m)
  · exact .inr ⟨h2, g2⟩
end
end Go.Proofs.YtbfjekmefcpkmaaDoor
