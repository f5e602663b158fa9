/- Routings: tracks one after the other, and what the program's check answers of them. Drawn channels are channels. The fewest tracks of whole nets, what the program answers. -/
import Derived.Test.YtbfjekmefcpkmaaDoorPcP1
import Derived.Test.YtbfjekmefcpkmaaDoorPuSrc
set_option linter.unusedSimpArgs false
set_option linter.unusedVariables false
set_option linter.unusedSectionVars false
namespace Go.Proofs.YtbfjekmefcpkmaaDoor
open Go.RowKit

section
variable {A B : Nat → Nat → Bool} {n : Nat} {apN ahN : Nat → Nat}
/-- Sets that are tracks, one after the other. -/
inductive Way (A B : Nat → Nat → Bool) : Nat → List Nat → Prop
 | z : Way A B 0 []
 | s {left c : Nat} {r : List Nat} : Fit A B left c → Way A B (sub left c) r → Way A B left (c :: r)
theorem Chain.way {left : Nat} {cs : List Nat} (h : Chain A B n left cs) : Way A B left cs := by
 induction h with
 | z => exact .z
 | s hb _ ih => exact .s hb.gd.fit ih
theorem Way.tk {left : Nat} {cs : List Nat} (h : Way A B left cs) : Tk A B left cs.length := by
 induction h with
 | z => exact .z
 | s hf _ ih => exact .s hf ih
theorem Chain.isL {left : Nat} {cs : List Nat} (h : Chain A B n left cs) : IsL A B n left cs.length := by
 induction h with
 | z => exact IsL.zero
 | s hb _ ih =>
  obtain ⟨u, h1, h2⟩ := hb.gd.val
  have := h1.uniq ih
  subst this
  exact h2
theorem full_bit (n i : Nat) : (2 ^ n - 1).testBit i = decide (i < n) := Nat.testBit_two_pow_sub_one n i
/-- What is done when some are left. -/
def dn (n left : Nat) : Nat := sub (2 ^ n - 1) left
theorem dn_bit (n left i : Nat) : (dn n left).testBit i = (decide (i < n) && !left.testBit i) := by unfold dn; rw [sub_bit, full_bit]
theorem dn_lt (n left : Nat) : dn n left < 2 ^ n := sub_lt (full_lt n)
theorem dn_or {left c : Nat} (hl : left < 2 ^ n) (hs : Sub c left) : dn n left ||| c = dn n (sub left c) := by
 apply Nat.eq_of_testBit_eq
 intro i
 rw [Nat.testBit_or, dn_bit, dn_bit, sub_bit]
 cases hc : c.testBit i with
 | false => simp
 | true =>
  have := bit_lt hl (hs i hc)
  simp [this]
theorem take_bits {n c k : Nat} (hk : k < (bitsL n c).length) : mask ((bitsL n c).take (k + 1)) = mask ((bitsL n c).take k) ||| 2 ^ (bitsL n c)[k] := by
 rw [List.take_succ_eq_append_getElem hk, mask_snoc]
theorem row_loop (O : Ord A B n apN ahN) {left c : Nat} (hl : left < 2 ^ n) (hf : Fit A B left c) :
  loopM (m_iOrderSetsO_s6 (rg n apN) ((dn n left : Nat) : Int) (cI (bitsL n c))) (0, 0) = some (.inl (c : Int)) := by
 have hn := O.hn
 have hcl : c < 2 ^ n := Nat.lt_of_le_of_lt hf.sb.le hl
 have hlen : (bitsL n c).length ≤ n := cnt_le n c
 have hd62 : dn n left < 2 ^ 62 := pow62 (by omega) (dn_lt n left)
 refine loopM_val _ (bitsL n c).length (fun k s => s = (((mask ((bitsL n c).take k) : Nat) : Int), (k : Int))) (by simp [mask]) (fun k s hk h => ?_) (fun s h => ?_)
 ·subst h
  refine .inl ⟨_, ?_, rfl⟩
  obtain ⟨hxn, hxc⟩ := mem_bitsL.1 (List.getElem_mem hk)
  have hmk : mask ((bitsL n c).take k) < 2 ^ n := mask_lt fun y hy => (mem_bitsL.1 (List.mem_of_mem_take hy)).1
  have hm62 := pow62 (x := mask ((bitsL n c).take k)) (n := n) (by omega) hmk
  have ha62 := pow62 (x := apN (bitsL n c)[k]) (n := n) (by omega) (O.apl _ hxn)
  have e1 : (andI (shrI ((dn n left : Nat) : Int) (((bitsL n c)[k] : Nat) : Int)) 1 == 1) = false := by
   rw [bit_shr hd62 (by omega), bit_int1, dn_bit, hf.sb _ hxc]; simp
  have e2 : (andI ((apN (bitsL n c)[k] : Nat) : Int) ((mask ((bitsL n c).take k) : Nat) : Int) != 0) = false := by
   rw [andI_nat ha62 hm62]
   have : apN (bitsL n c)[k] &&& mask ((bitsL n c).take k) = 0 := and_zero_iff.2 fun i hi => by
    rw [mask_bit]
    refine decide_eq_false fun hmem => ?_
    obtain ⟨hin, hic⟩ := mem_bitsL.1 (List.mem_of_mem_take hmem)
    rw [O.ap _ _ hxn hin, hf.ap _ _ hxc hic] at hi
    cases hi
   rw [this]; rfl
  have e3 : orI ((mask ((bitsL n c).take k) : Nat) : Int) (shlI 1 (((bitsL n c)[k] : Nat) : Int)) = ((mask ((bitsL n c).take (k + 1)) : Nat) : Int) := by
   rw [shlI_nat (by omega), orI_nat hm62 (pow62 (by omega) (Nat.pow_lt_pow_right (by omega) hxn)), take_bits hk]
  have hgk : geti (cI (bitsL n c)) (k : Int) = some (((bitsL n c)[k] : Nat) : Int) := geti_cI hk
  have hga : geti (rg n apN) (((bitsL n c)[k] : Nat) : Int) = some ((apN (bitsL n c)[k] : Nat) : Int) := rg_get hxn
  unfold m_iOrderSetsO_s6
  dsimp only
  rw [bif_t (by rw [decide_eq_true_eq, cI_len]; omega), hgk]
  simp only [Option.bind_some, p0C_ok (Int.natCast_nonneg _), hga, e1, e2, e3, wr_suc (show k < 2 ^ 40 by omega)]
  by_cases hk0 : k = 0
  ·subst hk0
   rw [bif_f (by rfl)]
   rfl
  ·have hgp : geti (cI (bitsL n c)) (wr ((k : Int) - 1)) = some (((bitsL n c)[k - 1] : Nat) : Int) := by
    rw [show wr ((k : Int) - 1) = ((k - 1 : Nat) : Int) from by rw [wr_in (by omega)]; omega]
    exact geti_cI (by omega)
   have hlt : (bitsL n c)[k - 1] < (bitsL n c)[k] := List.pairwise_iff_getElem.1 (bitsL_sorted n c) _ _ (by omega) hk (by omega)
   rw [bif_t (by rw [decide_eq_true_eq]; omega), hgp]
   simp only [Option.bind_some]
   rw [bif_f (by rw [decide_eq_false_iff_not]; omega)]
   rfl
 ·subst h
  unfold m_iOrderSetsO_s6
  dsimp only
  rw [bif_f (by rw [decide_eq_false_iff_not, cI_len]; omega), List.take_length, mask_bitsL hcl]
theorem ahead_loop (O : Ord A B n apN ahN) {left c : Nat} (hl : left < 2 ^ n) (hf : Fit A B left c) :
  loopM (m_iOrderSetsO_s7 (rg n ahN) ((dn n left : Nat) : Int) (cI (bitsL n c))) 0 = some (.inl ()) := by
 have hn := O.hn
 have hlen : (bitsL n c).length ≤ n := cnt_le n c
 refine loopM_val _ (bitsL n c).length (fun k s => s = (k : Int)) rfl (fun k s hk h => ?_) (fun s h => ?_)
 ·subst h
  refine .inl ⟨_, ?_, rfl⟩
  obtain ⟨hxn, hxc⟩ := mem_bitsL.1 (List.getElem_mem hk)
  have e : (andNI ((ahN (bitsL n c)[k] : Nat) : Int) ((dn n left : Nat) : Int) != 0) = false := by
   rw [andNI_nat (pow62 (by omega) (O.ahl _ hxn)) (pow62 (by omega) (dn_lt n left))]
   have : sub (ahN (bitsL n c)[k]) (dn n left) = 0 := by
    apply Nat.eq_of_testBit_eq
    intro i
    rw [sub_bit, Nat.zero_testBit, dn_bit]
    cases hi : (ahN (bitsL n c)[k]).testBit i with
    | false => rfl
    | true =>
     have hin := bit_lt (O.ahl _ hxn) hi
     rw [O.ah _ _ hxn hin] at hi
     cases hli : left.testBit i with
     | false => simp [hin]
     | true =>
      rw [hf.up _ _ hxc hli] at hi
      cases hi
   rw [this]; rfl
  unfold m_iOrderSetsO_s7
  dsimp only
  rw [bif_t (by rw [decide_eq_true_eq, cI_len]; omega), geti_cI hk]
  simp only [Option.bind_some]
  rw [rg_get hxn]
  simp only [Option.bind_some]
  rw [e, wr_suc (by omega)]
  rfl
 ·subst h
  unfold m_iOrderSetsO_s7
  dsimp only
  rw [bif_f (by rw [decide_eq_false_iff_not, cI_len]; omega)]
theorem sets_loop (O : Ord A B n apN ahN) {all : List (List Int)} (hall : all.length ≤ 1000) : ∀ (cs : List Nat) (left j : Nat), left < 2 ^ n → Way A B left cs → all.drop j = (cs.map fun c => cI (bitsL n c)) → j + cs.length = all.length →
  loopM (m_iOrderSetsO_s5 (rg n apN) (rg n ahN) all) (((dn n left : Nat) : Int), (j : Int)) = some (.inl ((2 ^ n - 1 : Nat) : Int))
 | [], left, j, hl, hw, hd, hj => by
  cases hw
  refine loopM_out ?_
  unfold m_iOrderSetsO_s5
  dsimp only
  rw [bif_f (by rw [decide_eq_false_iff_not]; simp at hj; omega)]
  have : dn n 0 = 2 ^ n - 1 := by
   apply Nat.eq_of_testBit_eq
   intro i
   rw [dn_bit, full_bit, Nat.zero_testBit]; simp
  rw [this]
 | c :: cs, left, j, hl, hw, hd, hj => by
  cases hw with
  | s hf hw =>
   have hn := O.hn
   simp only [List.length_cons] at hj
   have hjl : j < all.length := by omega
   rw [List.drop_eq_getElem_cons hjl, List.map_cons] at hd
   obtain ⟨h1, h2⟩ := List.cons.inj hd
   have hg : geti all (j : Int) = some (cI (bitsL n c)) := by rw [geti_lt hjl, h1]
   have hcl : c < 2 ^ n := Nat.lt_of_le_of_lt hf.sb.le hl
   have step : m_iOrderSetsO_s5 (rg n apN) (rg n ahN) all (((dn n left : Nat) : Int), (j : Int)) = some (.next (((dn n (sub left c) : Nat) : Int), ((j + 1 : Nat) : Int))) := by
    unfold m_iOrderSetsO_s5
    dsimp only
    rw [bif_t (by rw [decide_eq_true_eq]; omega), hg]
    simp only [Option.bind_some]
    rw [row_loop O hl hf]
    simp only [Option.bind_some]
    rw [bif_f (by rw [nat_beq0]; exact decide_eq_false hf.nz), ahead_loop O hl hf]
    simp only [Option.bind_some]
    rw [orI_nat (pow62 (by omega) (dn_lt n left)) (pow62 (by omega) hcl), dn_or hl hf.sb, wr_suc (by omega)]
   rw [loopM_next step]
   exact sets_loop O hall cs (sub left c) (j + 1) (sub_lt hl) hw h2 (by omega)
/-- The check says yes. -/
theorem setsOk_eq (O : Ord A B n apN ahN) {cs : List Nat} (h : Way A B (2 ^ n - 1) cs) : m_iOrderSetsO (rg n apN) (rg n ahN) (cs.map fun c => cI (bitsL n c)) = some true := by
 have hn := O.hn
 have hlen := h.tk.le_n (full_lt n)
 have h0 : ((dn n (2 ^ n - 1) : Nat) : Int) = 0 := by
  have : dn n (2 ^ n - 1) = 0 := by
   apply Nat.eq_of_testBit_eq
   intro i
   rw [dn_bit, full_bit, Nat.zero_testBit]; simp
  rw [this]; rfl
 have hrun := sets_loop O (all := cs.map fun c => cI (bitsL n c)) (by simp; omega) cs (2 ^ n - 1) 0 (full_lt n) h rfl (by simp)
 rw [h0] at hrun
 have hsh : wr (shlI 1 (n : Int) - 1) = ((2 ^ n - 1 : Nat) : Int) := by
  have h2 : (2 : Nat) ^ n < 2 ^ 62 := Nat.pow_lt_pow_right (by omega) (by omega)
  have hp := Nat.two_pow_pos n
  rw [shlI_nat (by omega)]
  generalize 2 ^ n = z at h2 hp ⊢
  rw [wr_in (by omega)]; omega
 unfold m_iOrderSetsO
 rw [show ((0 : Int), (0 : Int)) = (0, ((0 : Nat) : Int)) from rfl, hrun]
 simp only [Option.bind_some]
 rw [rg_len, p0C_ok (Int.natCast_nonneg _), hsh]
 simp
end
/-! ### Places -/
theorem Index_at {l : List Int} (hl : l.length ≤ 1000) {i : Nat} (hi : i < l.length) (hu : ∀ j (hj : j < i), l[j]'(by omega) ≠ l[i]) : m_sIndex l l[i] = some (i : Int) := by
 unfold m_sIndex
 have hstep : ∀ k, k < l.length → m_sIndex_s1 l l[i] (k : Int) = some (if (l[i] == l.getD k 0) then .out (.inr (k : Int)) else .next ((k + 1 : Nat) : Int)) := fun k hk => by
  unfold m_sIndex_s1
  dsimp only
  rw [bif_t (by rw [decide_eq_true_eq]; omega), getD_at hk, wr_suc (by omega)]
  simp only [Option.bind_some]
  cases (l[i] == l.getD k 0) <;> rfl
 have hend : m_sIndex_s1 l l[i] ((l.length : Nat) : Int) = some (.out (.inl ())) := by
  unfold m_sIndex_s1
  dsimp only
  rw [bif_f (by simp)]
 have hD : ∀ k (hk : k < l.length), l.getD k 0 = l[k] := fun k hk => by rw [List.getD, List.getElem?_eq_getElem hk]; rfl
 rcases loop_find l.length (fun k => l[i] == l.getD k 0) (fun k => (k : Int)) hstep hend with ⟨h1, h2⟩ | ⟨k, hk, hp, hq, h2⟩
 ·have := (anyIn_f.1 h1) i (Nat.zero_le _) hi
  rw [hD i hi] at this
  simp at this
 ·have hki : k = i := by
   rw [beq_iff_eq, hD k hk] at hp
   rcases Nat.lt_trichotomy k i with h | h | h
   ·exact absurd hp.symm (hu k h)
   ·exact h
   ·have := hq i h
    rw [hD i hi] at this
    simp at this
  subst hki
  rw [h2]; rfl
theorem Index_nm {n : Nat} {nm : Nat → Int} (hn : n ≤ 1000) (hinj : ∀ i k, i < k → k < n → nm i < nm k) {i : Nat} (hi : i < n) : m_sIndex ((List.range n).map nm) (nm i) = some (i : Int) := by
 have h := Index_at (l := (List.range n).map nm) (by simpa using hn) (i := i) (by simpa using hi) (fun j hj => by
  have := hinj j i hj hi
  simp; omega)
 simpa using h
theorem places_eq {n : Nat} {nm : Nat → Int} (hn : n ≤ 1000) (hinj : ∀ i k, i < k → k < n → nm i < nm k) {tr : List (List Nat)} (ht : tr.length ≤ 1000) (hr : ∀ t ∈ tr, t.length ≤ 1000 ∧ ∀ x ∈ t, x < n) :
  m_impl_places (tr.map fun t => t.map nm) ((List.range n).map nm) = some (tr.map cI, true) := by
 have inner : ∀ t : List Nat, t.length ≤ 1000 → (∀ x ∈ t, x < n) → loopM (m_impl_places_s4 ((List.range n).map nm) (t.map nm)) (([] : List Int), 0) = some (.inl (cI t)) := fun t h1 h2 => by
  refine loopM_val _ t.length (fun k s => s = (cI (t.take k), (k : Int))) (by simp [cI]) (fun k s hk h => ?_) (fun s h => ?_)
  ·subst h
   refine .inl ⟨_, ?_, rfl⟩
   have hg : geti (t.map nm) (k : Int) = some (nm t[k]) := by rw [geti_nat, List.getElem?_map, List.getElem?_eq_getElem hk]; rfl
   unfold m_impl_places_s4
   dsimp only
   rw [bif_t (by rw [decide_eq_true_eq, List.length_map]; omega), hg]
   simp only [Option.bind_some]
   rw [Index_nm hn hinj (h2 _ (List.getElem_mem hk))]
   simp only [Option.bind_some]
   rw [bif_f (by rw [decide_eq_false_iff_not]; omega), apC_sm (by rw [cI_len]; simp; omega), wr_suc (by omega), List.take_succ_eq_append_getElem hk]
   simp only [Option.bind_some]
   unfold cI
   rw [List.map_append]
   rfl
  ·subst h
   unfold m_impl_places_s4
   dsimp only
   rw [bif_f (by rw [decide_eq_false_iff_not, List.length_map]; omega), List.take_length]
 have : loopM (m_impl_places_s3 (tr.map fun t => t.map nm) ((List.range n).map nm)) (([] : List (List Int)), 0) = some (.inl (tr.map cI)) := by
  refine loopM_val _ tr.length (fun k s => s = ((tr.take k).map cI, (k : Int))) (by simp) (fun k s hk h => ?_) (fun s h => ?_)
  ·subst h
   refine .inl ⟨_, ?_, rfl⟩
   have hg : geti (tr.map fun t => t.map nm) (k : Int) = some (tr[k].map nm) := by rw [geti_nat, List.getElem?_map, List.getElem?_eq_getElem hk]; rfl
   have hm := hr _ (List.getElem_mem hk)
   unfold m_impl_places_s3
   dsimp only
   rw [bif_t (by rw [decide_eq_true_eq, List.length_map]; omega), hg]
   simp only [Option.bind_some]
   rw [inner _ hm.1 hm.2]
   simp only [Option.bind_some]
   rw [apC_sm (by simp; omega), wr_suc (by omega), List.take_succ_eq_append_getElem hk, List.map_append]
   rfl
  ·subst h
   unfold m_impl_places_s3
   dsimp only
   rw [bif_f (by rw [decide_eq_false_iff_not, List.length_map]; omega), List.take_length]
 unfold m_impl_places
 rw [this]; rfl
end Go.Proofs.YtbfjekmefcpkmaaDoor

set_option linter.unusedSimpArgs false
set_option linter.unusedVariables false
set_option linter.unusedSectionVars false
namespace Go.Proofs.YtbfjekmefcpkmaaDoor
open Go.RowKit

def mixF (f : Int → Int) (T : List Int) (k : Nat) : List Int := T.mapIdx fun j x => if j < k then f x else x
theorem mixF_len (f : Int → Int) (T : List Int) (k : Nat) : (mixF f T k).length = T.length := by simp [mixF]
theorem mixF_set {f : Int → Int} {T : List Int} {k : Nat} (hk : k < T.length) : (mixF f T k).set k (f T[k]) = mixF f T (k + 1) := by
 refine List.ext_getElem (by simp [mixF]) fun j h1 h2 => ?_
 simp only [mixF, List.getElem_set, List.getElem_mapIdx]
 by_cases e : k = j
 ·subst e; simp
 ·rw [if_neg e]
  by_cases h : j < k
  ·rw [if_pos h, if_pos (by omega)]
  ·rw [if_neg h, if_neg (by omega)]
theorem mixF_same {f : Int → Int} {T : List Int} {k : Nat} (hk : k < T.length) (h : f T[k] = T[k]) : mixF f T k = mixF f T (k + 1) := by
 rw [← mixF_set hk, h]
 refine List.ext_getElem (by simp) fun j h1 h2 => ?_
 rw [List.getElem_set]
 by_cases e : k = j
 ·subst e; simp [mixF]
 ·rw [if_neg e]
theorem mixF_get {f : Int → Int} {T : List Int} {k : Nat} (hk : k < T.length) : geti (mixF f T k) (k : Int) = some T[k] := by
 rw [geti_lt (by rw [mixF_len]; exact hk)]
 simp [mixF]
theorem mixF_all (f : Int → Int) (T : List Int) : mixF f T T.length = T.map f := by
 refine List.ext_getElem (by simp [mixF]) fun j h1 h2 => ?_
 have : j < T.length := by simpa [mixF] using h1
 simp [mixF, this]
theorem mixF_zero (f : Int → Int) (T : List Int) : mixF f T 0 = T := by
 refine List.ext_getElem (by simp [mixF]) fun j h1 h2 => ?_
 simp [mixF]
/-- How often a number stands in two lists. -/
def C2 (T U : List Int) (x : Int) : Nat := T.count x + U.count x
def cT (T U : List Int) : List Int := (List.range 13).map fun x => ((C2 T U ((x : Nat) : Int) : Nat) : Int)
theorem cT_get {T U : List Int} {x : Int} (h0 : 0 ≤ x) (h1 : x ≤ 12) : geti (cT T U) x = some ((C2 T U x : Nat) : Int) := by
 obtain ⟨j, rfl⟩ := Int.eq_ofNat_of_zero_le h0
 exact geti_map (by omega)
theorem C2_le (T U : List Int) (x : Int) : C2 T U x ≤ T.length + U.length := by
 have h1 := List.count_le_length (l := T) (a := x)
 have h2 := List.count_le_length (l := U) (a := x)
 unfold C2; omega
/-- A number that stands there once alone is taken away. -/
def fD (T U : List Int) (x : Int) : Int := if C2 T U x = 1 then 0 else x
theorem nat_beq1 (x : Nat) : (((x : Nat) : Int) == 1) = decide (x = 1) := by
 by_cases h : x = 1
 ·subst h; rfl
 ·rw [decide_eq_false h, beq_eq_false_iff_ne]; omega
theorem half {T U L : List Int} {k : Nat} (hk : k < L.length) (h0 : 0 ≤ L[k]) (h1 : L[k] ≤ 12) :
  (Option.bind (geti (mixF (fD T U) L k) (k : Int)) fun x2 => Option.bind (geti (cT T U) x2) fun x3 => (bif x3 == 1 then Option.bind (geti (mixF (fD T U) L k) (k : Int)) fun x4 => some ((mixF (fD T U) L k).set (Int.toNat (k : Int)) 0) else some (mixF (fD T U) L k))) = some (mixF (fD T U) L (k + 1)) := by
 rw [mixF_get hk]
 simp only [Option.bind_some]
 rw [cT_get h0 h1]
 simp only [Option.bind_some]
 rw [nat_beq1, Int.toNat_natCast]
 by_cases h : C2 T U L[k] = 1
 ·rw [bif_t (decide_eq_true h), ← mixF_set hk]
  have : fD T U L[k] = 0 := if_pos h
  rw [this]
 ·rw [bif_f (decide_eq_false h), ← mixF_same hk (show fD T U L[k] = L[k] from if_neg h)]
theorem single_loop {T U : List Int} {p : Int} {n : Nat} (hp : p = (n : Int)) (hT : T.length = n) (hU : U.length = n) (hn : n ≤ 1000) (h1 : ∀ x ∈ T, 0 ≤ x ∧ x ≤ 12) (h2 : ∀ x ∈ U, 0 ≤ x ∧ x ≤ 12) :
  loopM (m_sL03Dr_s2 p (cT T U)) (0, T, U) = some (T.map (fD T U), U.map (fD T U)) := by
 subst hp
 refine loopM_val _ n (fun k s => s = ((k : Int), mixF (fD T U) T k, mixF (fD T U) U k)) (by rw [mixF_zero, mixF_zero]; rfl) (fun k s hk h => ?_) (fun s h => ?_)
 ·subst h
  refine .inl ⟨_, ?_, rfl⟩
  have a := h1 _ (List.getElem_mem (show k < T.length by omega))
  have b := h2 _ (List.getElem_mem (show k < U.length by omega))
  have ha := half (T := T) (U := U) (L := T) (by omega) a.1 a.2
  have hb := half (T := T) (U := U) (L := U) (by omega) b.1 b.2
  unfold m_sL03Dr_s2
  dsimp only
  rw [bif_t (by rw [decide_eq_true_eq]; omega), ha]
  simp only [Option.bind_some]
  rw [wr_suc (by omega)]
  rw [mixF_get (show k < U.length by omega)] at hb ⊢
  simp only [Option.bind_some] at hb ⊢
  rw [cT_get b.1 b.2] at hb ⊢
  simp only [Option.bind_some] at hb ⊢
  cases hc : (((C2 T U U[k] : Nat) : Int) == 1) with
  | true =>
   rw [hc] at hb
   simp only [cond_true] at hb ⊢
   rw [Option.some.inj hb]; rfl
  | false =>
   rw [hc] at hb
   simp only [cond_false] at hb ⊢
   rw [Option.some.inj hb]; rfl
 ·subst h
  unfold m_sL03Dr_s2
  dsimp only
  rw [bif_f (by rw [decide_eq_false_iff_not]; omega)]
  have e1 : mixF (fD T U) T n = T.map (fD T U) := by rw [← hT]; exact mixF_all _ _
  have e2 : mixF (fD T U) U n = U.map (fD T U) := by rw [← hU]; exact mixF_all _ _
  rw [e1, e2]
theorem fD_count {T U W : List Int} {x : Int} (hx : x ≠ 0) : (W.map (fD T U)).count x = if C2 T U x = 1 then 0 else W.count x := by
 rw [List.count_eq_countP, List.countP_map]
 by_cases h : C2 T U x = 1
 ·rw [if_pos h, List.countP_eq_zero]
  intro y _ hy
  have hy : fD T U y = x := by simpa using hy
  unfold fD at hy
  split at hy
  ·exact hx hy.symm
  ·subst hy; contradiction
 ·rw [if_neg h, List.count_eq_countP]
  refine List.countP_congr fun y _ => ?_
  simp only [Function.comp, beq_iff_eq]
  unfold fD
  constructor
  ·intro hy
   split at hy
   ·exact absurd hy.symm hx
   ·exact hy
  ·intro hy
   subst hy
   rw [if_neg h]
theorem cT_app {T U : List Int} {a b : Int} (ha0 : 0 ≤ a) (ha : a ≤ 12) (hb0 : 0 ≤ b) (hb : b ≤ 12) (hT : T.length ≤ 1000) (hU : U.length ≤ 1000) :
  Option.bind (geti (cT T U) a) (fun x11 => Option.bind (geti (cT T U) a) fun x12 => Option.bind (geti ((cT T U).set (Int.toNat a) (wr (x11 + 1))) b) fun x13 => Option.bind (geti ((cT T U).set (Int.toNat a) (wr (x11 + 1))) b) fun x14 => some (((cT T U).set (Int.toNat a) (wr (x11 + 1))).set (Int.toNat b) (wr (x13 + 1)))) = some (cT (T ++ [a]) (U ++ [b])) := by
 rw [cT_get ha0 ha]
 simp only [Option.bind_some]
 obtain ⟨i, rfl⟩ := Int.eq_ofNat_of_zero_le ha0
 obtain ⟨j, rfl⟩ := Int.eq_ofNat_of_zero_le hb0
 have hc := C2_le T U (i : Int)
 have h1 : (cT T U).set (Int.toNat (i : Int)) (wr (((C2 T U (i : Int) : Nat) : Int) + 1)) = cT (T ++ [(i : Int)]) U := by
  rw [Int.toNat_natCast, wr_in (by omega)]
  unfold cT
  refine map_set (by omega) ?_ fun k hk hne => ?_
  ·unfold C2; rw [List.count_append]; simp; omega
  ·unfold C2; rw [List.count_append, List.count_singleton]
   rw [if_neg (by simp; omega)]; simp
 rw [h1, cT_get hb0 hb]
 simp only [Option.bind_some]
 have hc2 := C2_le (T ++ [(i : Int)]) U (j : Int)
 simp only [List.length_append, List.length_cons, List.length_nil] at hc2
 rw [Int.toNat_natCast, wr_in (by omega)]
 congr 1
 unfold cT
 refine map_set (by omega) ?_ fun k hk hne => ?_
 ·unfold C2; rw [List.count_append (l₁ := U)]; simp; omega
 ·unfold C2; rw [List.count_append (l₁ := U), List.count_singleton]
  rw [if_neg (by simp; omega)]; simp
theorem sized_drawn {l : List Int} (hl : ∀ p ∈ l, In8 p) {k s : Int} (h0 : 0 ≤ k) (hk : k ≤ 10) {n m : Nat} (hn : n ≤ 24) (hn1 : 1 ≤ n) (hm1 : 1 ≤ m) (hm : m ≤ 12) :
  ∃ T U k' s', m_sL03Dr l k s (n : Int) (m : Int) = some ((T, U), k', s') ∧ valB T U = true ∧ T.length = n ∧ ∀ x ∈ T ++ U, 0 ≤ x ∧ x ≤ (m : Int) := by
 have h2 : ∃ T U k' s', loopM (m_sL03Dr_s1 l (n : Int) (m : Int)) (0, ([] : List Int), ([] : List Int), k, s, List.replicate (Int.toNat 13) ((0 : Int))) = some (T, U, k', s', cT T U) ∧ T.length = n ∧ U.length = n ∧ (∀ x ∈ T ++ U, 0 ≤ x ∧ x ≤ (m : Int)) := by
  obtain ⟨r, hr, T, U, k', s', rfl, hJ⟩ := loopM_count (m_sL03Dr_s1 l (n : Int) (m : Int)) n
   (fun i st => ∃ T U s', st = ((i : Int), T, U, k + 2 * i, s', cT T U) ∧ T.length = i ∧ U.length = i ∧ ∀ x ∈ T ++ U, 0 ≤ x ∧ x ≤ (m : Int))
   (fun r => ∃ T U k' s', r = (T, U, k', s', cT T U) ∧ T.length = n ∧ U.length = n ∧ ∀ x ∈ T ++ U, 0 ≤ x ∧ x ≤ (m : Int))
   (s0 := (0, ([] : List Int), ([] : List Int), k, s, List.replicate (Int.toNat 13) ((0 : Int))))
   ⟨[], [], s, by
    have : List.replicate (Int.toNat 13) ((0 : Int)) = cT [] [] := by rfl
    rw [this]; simp, rfl, rfl, fun x hx => by simp at hx⟩
   (fun i st hi ⟨T, U, s', e, hT, hU, hx⟩ => by
    subst e
    left
    obtain ⟨v1, s1, e1, a1, b1⟩ := src_pick (k := k + 2 * i) (s := s') (n := (m : Int) + 1) hl (by omega) (by omega) (by omega) (by omega)
    obtain ⟨v2, s2, e2, a2, b2⟩ := src_pick (k := k + 2 * i + 1) (s := s1) (n := (m : Int) + 1) hl (by omega) (by omega) (by omega) (by omega)
    have hap := cT_app (T := T) (U := U) a1 (by omega) a2 (by omega) (by omega) (by omega)
    refine ⟨_, ?_, T ++ [v1], U ++ [v2], s2, rfl, by simp; omega, by simp; omega, ?_⟩
    ·unfold m_sL03Dr_s1
     dsimp only
     rw [bif_t (by rw [decide_eq_true_eq]; omega), wr_in (x := (m : Int) + 1) (by omega), e1]
     simp only [Option.bind_some]
     rw [e2]
     simp only [Option.bind_some]
     rw [apC_sm (by simp; omega), apC_sm (by simp; omega), wr_suc (by omega)]
     simp only [Option.bind_some]
     rw [cT_get a1 (by omega)] at hap ⊢
     simp only [Option.bind_some] at hap ⊢
     cases hg : geti ((cT T U).set (Int.toNat v1) (wr (((C2 T U v1 : Nat) : Int) + 1))) v2 with
     | none => rw [hg] at hap; cases hap
     | some x13 =>
      rw [hg] at hap
      simp only [Option.bind_some] at hap ⊢
      rw [Option.some.inj hap]
      have : k + 2 * (i : Int) + 1 + 1 = k + 2 * ((i + 1 : Nat) : Int) := by push_cast; omega
      rw [this]
    ·intro x hx'
     simp only [List.mem_append, List.mem_singleton] at hx'
     rcases hx' with (h | h) | (h | h)
     ·exact hx x (List.mem_append.2 (.inl h))
     ·subst h; omega
     ·exact hx x (List.mem_append.2 (.inr h))
     ·subst h; omega)
   (fun st ⟨T, U, s', e, hT, hU, hx⟩ => by
    subst e
    refine ⟨(T, U, k + 2 * (n : Int), s', cT T U), ?_, T, U, k + 2 * (n : Int), s', rfl, hT, hU, hx⟩
    unfold m_sL03Dr_s1
    dsimp only
    rw [bif_f (by rw [decide_eq_false_iff_not]; omega)])
  exact ⟨T, U, k', s', hr, hJ⟩
 obtain ⟨T, U, k', s', h3, hT, hU, hx⟩ := h2
 have hxT : ∀ x ∈ T, 0 ≤ x ∧ x ≤ 12 := fun x h => by have := hx x (List.mem_append.2 (.inl h)); omega
 have hxU : ∀ x ∈ U, 0 ≤ x ∧ x ≤ 12 := fun x h => by have := hx x (List.mem_append.2 (.inr h)); omega
 have hmk : mkC (13 : Int) = some () := rfl
 have hall : ∀ x ∈ T.map (fD T U) ++ U.map (fD T U), 0 ≤ x ∧ x ≤ (m : Int) := fun x h => by
  rw [← List.map_append] at h
  obtain ⟨y, hy, rfl⟩ := List.mem_map.1 h
  have := hx y hy
  unfold fD
  split <;> omega
 refine ⟨T.map (fD T U), U.map (fD T U), k', s', ?_, ?_, by simpa using hT, hall⟩
 ·unfold m_sL03Dr
  rw [hmk]
  simp only [Option.bind_some]
  rw [h3]
  simp only [Option.bind_some]
  rw [single_loop rfl hT hU (by omega) hxT hxU]
  rfl
 ·unfold valB
  rw [Bool.and_eq_true, decide_eq_true_eq, Bool.and_eq_true]
  refine ⟨⟨by simpa using (by omega : 1 ≤ T.length), by simpa using (by omega : T.length ≤ 24), by simp; omega⟩, ?_, ?_⟩
  ·rw [List.all_eq_true]
   intro x h
   have := hall x h
   exact inN_t.2 ⟨this.1, by omega⟩
  ·have : single (T.map (fD T U) ++ U.map (fD T U)) = false := anyIn_f.2 fun x h1 h2 => decide_eq_false fun hc => by
    rw [List.count_append, fD_count (by omega), fD_count (by omega)] at hc
    by_cases h : C2 T U (x : Int) = 1
    ·rw [if_pos h, if_pos h] at hc; cases hc
    ·rw [if_neg h, if_neg h] at hc
     exact h hc
   rw [this]; rfl
/-- A drawn channel. -/
theorem channel_drawn {l : List Int} (hl : ∀ p ∈ l, In8 p) : ∃ T U, m_sB10Ch l = some (T, U) ∧ valB T U = true ∧ T.length ≤ 8 ∧ ∀ x ∈ T ++ U, 0 ≤ x ∧ x ≤ 5 := by
 unfold m_sB10Ch m_spec_l00From
 simp only [Option.bind_some]
 obtain ⟨v1, s1, e1, a1, b1⟩ := src_pick (k := 0) (s := 0) (n := 8) hl (by omega) (by omega) (by omega) (by omega)
 rw [e1]; simp only [Option.bind_some]
 obtain ⟨v2, s2, e2, a2, b2⟩ := src_pick (k := 0 + 1) (s := s1) (n := 5) hl (by omega) (by omega) (by omega) (by omega)
 rw [e2]; simp only [Option.bind_some]
 rw [wr_in (x := 1 + v1) (by omega), wr_in (x := 1 + v2) (by omega)]
 obtain ⟨a, rfl⟩ := Int.eq_ofNat_of_zero_le a1
 obtain ⟨b, rfl⟩ := Int.eq_ofNat_of_zero_le a2
 obtain ⟨T, U, k', s', h1, h2, h3, h4⟩ := sized_drawn hl (k := 0 + 1 + 1) (s := s2) (n := 1 + a) (m := 1 + b) (by omega) (by omega) (by omega) (by omega) (by omega) (by omega)
 rw [show (1 : Int) + (a : Int) = ((1 + a : Nat) : Int) from by push_cast; rfl, show (1 : Int) + (b : Int) = ((1 + b : Nat) : Int) from by push_cast; rfl, h1]
 exact ⟨T, U, rfl, h2, by omega, fun x hx => by have := h4 x hx; omega⟩
end Go.Proofs.YtbfjekmefcpkmaaDoor

set_option linter.unusedSimpArgs false
set_option linter.unusedVariables false
set_option linter.unusedSectionVars false
namespace Go.Proofs.YtbfjekmefcpkmaaDoor
open Go.RowKit

section
variable {T U : List Int}
theorem val_eq (hv : valB T U = true) : m_iValid T U = some true := by
 have P := valB_pins hv
 have := P.small
 have := P.len
 rw [Valid_eq T U (by omega) (by omega), hv]
theorem few_impl (hv : valB T U = true) : (∃ cs, Chain (apA T U) (abB T U) (nN T U) (2 ^ nN T U - 1) cs ∧ m_iFewes T U = some (cs.map fun c => (bitsL (nN T U) c).map (nmI T U), true)) ∨
  ((∀ m, ¬ Tk (apA T U) (abB T U) (2 ^ nN T U - 1) m) ∧ m_iFewes T U = some ([], false)) := by
 have P := valB_pins hv
 have hn := nN_le (T := T) (U := U)
 obtain ⟨apN, ahN, h1, O⟩ := netOrder_eq P
 unfold m_iFewes
 rw [val_eq hv]
 simp only [Option.bind_some]
 rw [bif_f (by rfl), h1]
 simp only [Option.bind_some]
 rcases best_eq O (by omega) with ⟨cs, hC, g1⟩ | ⟨hC, g1⟩
 ·left
  refine ⟨cs, hC, ?_⟩
  have hlen := hC.len (full_lt _)
  have hcn := cnt_le (nN T U) (2 ^ nN T U - 1)
  have hrow : ∀ t ∈ cs.map (bitsL (nN T U)), t.length ≤ 1000 ∧ ∀ x ∈ t, x < nN T U := fun t ht => by
   obtain ⟨c, _, rfl⟩ := List.mem_map.1 ht
   exact ⟨cnt_small (by omega) c, fun x hx => (mem_bitsL.1 hx).1⟩
  have htold := told_eq (nm := nmI T U) (n := nN T U) (by omega) (tr := cs.map (bitsL (nN T U))) (by simp; omega) hrow
  have e1 : (cs.map fun c => cI (bitsL (nN T U) c)) = (cs.map (bitsL (nN T U))).map cI := by rw [List.map_map]; rfl
  rw [g1]
  simp only [Option.bind_some]
  rw [bif_f (by rfl), nets_eq P.len P.small, names_eq]
  simp only [Option.bind_some]
  rw [e1, htold]
  simp only [Option.bind_some]
  rw [List.map_map]; rfl
 ·right
  refine ⟨hC, ?_⟩
  rw [g1]
  rfl
end
end Go.Proofs.YtbfjekmefcpkmaaDoor
