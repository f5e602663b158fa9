/- Channels: the order of the nets as the first program fills it, and as the second one lays it. -/
import Derived.Test.YtbfjekmefcpkmaaDoorPcI
set_option linter.unusedSimpArgs false
set_option linter.unusedVariables false
set_option linter.unusedSectionVars false
namespace Go.Proofs.YtbfjekmefcpkmaaDoor
open Go.RowKit

theorem Fil.skip {n i k : Nat} {R h : Nat → Nat → Bool} (hF : Fil n R h i k) (hk : k < n) (hr : R i k = false) : Fil n R h i (k + 1) := fun x y => by
  rw [hF x y, Fil.bef hk]
  constructor
  · rintro ⟨a, b, c, d⟩; exact ⟨a, b, c, .inl d⟩
  · rintro ⟨a, b, c, d | ⟨rfl, rfl⟩⟩
    · exact ⟨a, b, c, d⟩
    · rw [hr] at c; cases c
theorem Fil.add {n i k : Nat} {R h h' : Nat → Nat → Bool} (hF : Fil n R h i k) (hi : i < n) (hk : k < n) (hr : R i k = true) (hh : ∀ x y, h' x y = true ↔ (h x y = true ∨ (x = i ∧ y = k))) : Fil n R h' i (k + 1) := fun x y => by
  rw [hh, hF x y, Fil.bef hk]
  constructor
  · rintro (⟨a, b, c, d⟩ | ⟨rfl, rfl⟩)
    · exact ⟨a, b, c, .inl d⟩
    · exact ⟨hi, hk, hr, .inr ⟨rfl, rfl⟩⟩
  · rintro ⟨a, b, c, d | d⟩
    · exact .inl ⟨a, b, c, d⟩
    · exact .inr d
theorem Fil.row {n i : Nat} {R h : Nat → Nat → Bool} (hF : Fil n R h i n) : Fil n R h (i + 1) 0 := fun x y => by
  rw [hF x y]
  unfold Bef
  constructor
  · rintro ⟨a, b, c, d⟩; exact ⟨a, b, c, by omega⟩
  · rintro ⟨a, b, c, d⟩; exact ⟨a, b, c, by omega⟩
theorem Fil.done {n : Nat} {R h : Nat → Nat → Bool} (hF : Fil n R h n 0) (x y : Nat) : h x y = true ↔ (x < n ∧ y < n ∧ R x y = true) := by
  rw [hF x y]
  unfold Bef
  constructor
  · rintro ⟨a, b, c, d⟩; exact ⟨a, b, c⟩
  · rintro ⟨a, b, c⟩; exact ⟨a, b, c, by omega⟩
section
variable {T U : List Int}
def nN (T U : List Int) : Nat := (netL T U).length
def nmN (T U : List Int) (i : Nat) : Nat := (netL T U).getD i 0
def nmI (T U : List Int) (i : Nat) : Int := ((nmN T U i : Nat) : Int)
theorem names_eq : cI (netL T U) = (List.range (nN T U)).map (nmI T U) := by
  refine List.ext_getElem (by simp [cI, nN]) fun j h1 h2 => ?_
  have hj : j < (netL T U).length := by simpa [cI] using h1
  simp only [cI, List.getElem_map, List.getElem_range, nmI, nmN, List.getD, List.getElem?_eq_getElem hj, Option.getD_some]
theorem nm_mem {i : Nat} (h : i < nN T U) : nmN T U i ∈ netL T U := by
  unfold nmN nN at *
  rw [List.getD, List.getElem?_eq_getElem h]; exact List.getElem_mem h
theorem nm_mono : ∀ i k, i < k → k < nN T U → nmI T U i < nmI T U k := fun i k hik hk => by
  unfold nmI nmN nN at *
  rw [List.getD, List.getElem?_eq_getElem (show i < (netL T U).length by omega), List.getD, List.getElem?_eq_getElem hk]
  have := List.pairwise_iff_getElem.1 (netL_sorted (T := T) (U := U)) i k (by omega) hk hik
  simp only [Option.getD_some]; omega
theorem nm_cols {i : Nat} (h : i < nN T U) : colsL T U (nmI T U i) ≠ [] := fun e => by
  have h1 := (mem_netL.1 (nm_mem h)).2
  unfold nmI at e
  rw [e] at h1; simp at h1
def apA (T U : List Int) (i k : Nat) : Bool := decide (i ≠ k) && (decide (loC T U (nmI T U i) ≤ hiC T U (nmI T U k)) && decide (loC T U (nmI T U k) ≤ hiC T U (nmI T U i)))
def abB (T U : List Int) (i k : Nat) : Bool := abv T U (nmI T U i) (nmI T U k)
theorem apA_sym (i k : Nat) : apA T U i k = apA T U k i := by
  unfold apA
  rw [Bool.and_comm (decide (loC T U (nmI T U i) ≤ _))]
  congr 1
  exact decide_eq_decide.2 ⟨fun h e => h e.symm, fun h e => h e.symm⟩
theorem nN_le : nN T U ≤ 12 := netL_len
def OrdI (T U : List Int) (i k : Nat) (f g : Nat → Nat) : Prop := Fil (nN T U) (apA T U) (fun x y => (f x).testBit y) i k ∧ Fil (nN T U) (abB T U) (fun x y => (g y).testBit x) i k
def updO (f : Nat → Nat) (i k : Nat) (b : Bool) : Nat → Nat := if b then fun j => if j = i then f i ||| 2 ^ k else f j else f
theorem upd_bit {f : Nat → Nat} {i k x y : Nat} : (updO f i k true x).testBit y = true ↔ ((f x).testBit y = true ∨ (x = i ∧ y = k)) := by
  unfold updO
  rw [if_pos rfl]
  by_cases e : x = i
  · subst e
    rw [if_pos rfl, or_pow_bit, Bool.or_eq_true, decide_eq_true_eq]
    exact or_congr Iff.rfl ⟨fun h => ⟨rfl, h.symm⟩, fun h => h.2.symm⟩
  · simp only [if_neg e]
    exact ⟨.inl, fun h => h.elim id fun h => absurd h.1 e⟩
theorem ap_step {n i k : Nat} {f : Nat → Nat} (lo1 hi1 lo2 hi2 : Int) (hi : i < n) (hk : k < n) (hn : n ≤ 12) (hfl : f i < 2 ^ n) : (bif ((i : Int) != (k : Int)) then (bif decide (lo1 ≤ hi2) then (bif decide (lo2 ≤ hi1) then Option.bind (geti (rg n f) (i : Int)) fun x5 => Option.bind (p0C (k : Int)) fun u1 => Option.bind (geti (rg n f) (i : Int)) fun x6 => some ((rg n f).set (Int.toNat (i : Int)) (orI x5 (shlI 1 (k : Int)))) else some (rg n f)) else some (rg n f)) else some (rg n f)) = some (rg n (updO f i k (decide (i ≠ k) && (decide (lo1 ≤ hi2) && decide (lo2 ≤ hi1))))) := by
  have hix : ((i : Int) != (k : Int)) = decide (i ≠ k) := by
    by_cases e : i = k
    · subst e; simp
    · rw [decide_eq_true e, bne_iff_ne]; omega
  rw [rg_get hi, p0C_ok (Int.natCast_nonneg _), hix, Int.toNat_natCast]
  simp only [Option.bind_some]
  rw [shlI_nat (by omega), orI_nat (pow62 (by omega) hfl) (pow62 (by omega) (Nat.pow_lt_pow_right (by omega) hk)), set_rg hi]
  generalize decide (i ≠ k) = b1
  generalize decide (lo1 ≤ hi2) = b2
  generalize decide (lo2 ≤ hi1) = b3
  unfold updO
  cases b1 <;> cases b2 <;> cases b3 <;> simp only [cond_true, cond_false, Bool.and_true, Bool.and_false, Bool.false_and, if_true, Bool.false_eq_true, if_false]
theorem nm_12 {j : Nat} (hj : j < nN T U) : 0 ≤ nmI T U j ∧ nmI T U j ≤ 12 := by
  have := (mem_netL.1 (nm_mem hj)).1
  unfold nmI; omega
theorem ok_pair {i k : Nat} (hi : i < nN T U) (hk : k < nN T U) : okII (nmI T U i, nmI T U k) = true := by
  have h1 := nm_12 hi
  have h2 := nm_12 hk
  unfold okII
  generalize nmI T U i = a at h1 ⊢
  generalize nmI T U k = b at h2 ⊢
  rw [Bool.and_eq_true]
  exact ⟨okI_iff.2 ⟨by omega, by omega⟩, okI_iff.2 ⟨by omega, by omega⟩⟩
def MapIs (T U : List Int) (m : List ((Int × Int) × Bool)) : Prop := ∀ a b : Nat, a ∈ netL T U → b ∈ netL T U → (mget m ((a : Int), (b : Int))).getD false = abv T U (a : Int) (b : Int)
theorem mg_pair {m : List ((Int × Int) × Bool)} (hmap : MapIs T U m) {i k : Nat} (hi : i < nN T U) (hk : k < nN T U) : mgC (okII (nmI T U i, nmI T U k)) false m (nmI T U i, nmI T U k) = some (abB T U i k) := by
  have := hmap _ _ (nm_mem hi) (nm_mem hk)
  unfold mgC
  rw [if_pos (ok_pair hi hk)]
  unfold abB nmI
  rw [this]
theorem ord_step' {m : List ((Int × Int) × Bool)} {n i k : Nat} {y1 : List Int} {f g : Nat → Nat} {x2 x4 lo1 hi1 lo2 hi2 : Int} {bb : Bool} (hn : n ≤ 12) (hi : i < n) (hk : k < n) (hlen : y1.length = n) (hgn : geti y1 (k : Int) = some x4) (hsp : m_impl_Channel_span_bimplChannel T U x4 = some (lo2, hi2)) (hmg : mgC (okII (x2, x4)) false m (x2, x4) = some bb) (hfl : f i < 2 ^ n) (hgl : g k < 2 ^ n) :
    m_impl_Channel_netOrder_bimplChannel_s4 T U y1 m (i : Int) x2 (lo1, hi1) ((k : Int), rg n f, rg n g) = some (.next (((k + 1 : Nat) : Int), rg n (updO f i k (decide (i ≠ k) && (decide (lo1 ≤ hi2) && decide (lo2 ≤ hi1)))), rg n (updO g k i bb))) := by
  have e1 := ap_step lo1 hi1 lo2 hi2 hi hk hn hfl
  have hlt : (k : Int) < (y1.length : Int) := by omega
  unfold m_impl_Channel_netOrder_bimplChannel_s4
  dsimp only
  rw [bif_t (decide_eq_true hlt), hgn]
  simp only [Option.bind_some]
  rw [hsp]
  simp only [Option.bind_some]
  rw [e1]
  simp only [Option.bind_some]
  rw [hmg]
  simp only [Option.bind_some]
  rw [wr_suc (by omega)]
  rw [rg_get hk, p0C_ok (Int.natCast_nonneg _), Int.toNat_natCast]
  simp only [Option.bind_some]
  rw [shlI_nat (by omega), orI_nat (pow62 (by omega) hgl) (pow62 (by omega) (Nat.pow_lt_pow_right (by omega) hi)), set_rg hk]
  cases bb <;> simp only [updO, cond_true, cond_false, if_true, Bool.false_eq_true, if_false, Option.bind_some]
theorem ord_step (P : Pins T U) {m : List ((Int × Int) × Bool)} (hmap : MapIs T U m) {i k : Nat} (hi : i < nN T U) (hk : k < nN T U) {f g : Nat → Nat} (hfl : f i < 2 ^ nN T U) (hgl : g k < 2 ^ nN T U) :
    m_impl_Channel_netOrder_bimplChannel_s4 T U (cI (netL T U)) m (i : Int) (nmI T U i) (loC T U (nmI T U i), hiC T U (nmI T U i)) ((k : Int), rg (nN T U) f, rg (nN T U) g) = some (.next (((k + 1 : Nat) : Int), rg (nN T U) (updO f i k (apA T U i k)), rg (nN T U) (updO g k i (abB T U i k)))) :=
  ord_step' nN_le hi hk (cI_len _) (by rw [names_eq]; exact geti_map hk) (span_eq P.len P.small (nmI T U k) (nm_cols hk)) (mg_pair hmap hi hk) hfl hgl
theorem inner_ord (P : Pins T U) {m : List ((Int × Int) × Bool)} (hmap : MapIs T U m) {i : Nat} (hi : i < nN T U) {f g : Nat → Nat} (h0 : OrdI T U i 0 f g) :
    ∃ r, loopM (m_impl_Channel_netOrder_bimplChannel_s4 T U (cI (netL T U)) m (i : Int) (nmI T U i) (loC T U (nmI T U i), hiC T U (nmI T U i))) (0, rg (nN T U) f, rg (nN T U) g) = some r ∧ ∃ f' g', r = (rg (nN T U) f', rg (nN T U) g') ∧ OrdI T U (i + 1) 0 f' g' := by
  have hn := nN_le (T := T) (U := U)
  refine loopM_count _ (nN T U) (fun k s => ∃ f g, s = ((k : Int), rg (nN T U) f, rg (nN T U) g) ∧ OrdI T U i k f g) _ ⟨f, g, rfl, h0⟩ ?_ ?_
  · rintro k s hk ⟨f, g, rfl, hA, hB⟩
    left
    have hfl : f i < 2 ^ nN T U := bits_lt fun y hy => ((hA i y).1 hy).2.1
    have hgl : g k < 2 ^ nN T U := bits_lt fun x hx => ((hB x k).1 hx).1
    refine ⟨_, ord_step P hmap hi hk hfl hgl, _, _, rfl, ?_, ?_⟩
    · cases ha : apA T U i k with
      | false => exact hA.skip hk ha
      | true => exact hA.add hi hk ha fun x y => upd_bit
    · cases ha : abB T U i k with
      | false => exact hB.skip hk ha
      | true => exact hB.add hi hk ha fun x y => upd_bit.trans (or_congr Iff.rfl And.comm)
  · rintro s ⟨f, g, rfl, hA, hB⟩
    refine ⟨_, ?_, f, g, rfl, hA.row, hB.row⟩
    have hlt : ¬ ((nN T U : Nat) : Int) < ((cI (netL T U)).length : Int) := by rw [cI_len]; unfold nN; omega
    unfold m_impl_Channel_netOrder_bimplChannel_s4
    dsimp only
    rw [bif_f (decide_eq_false hlt)]
theorem netOrder_eq (P : Pins T U) : ∃ apN ahN, m_impl_Channel_netOrder_bimplChannel T U = some (rg (nN T U) apN, rg (nN T U) ahN) ∧ Ord (apA T U) (abB T U) (nN T U) apN ahN := by
  have hn := nN_le (T := T) (U := U)
  obtain ⟨m, hm1, hm2⟩ := above_eq P
  obtain ⟨r, h1, f, g, rfl, hA, hB⟩ := loopM_count (m_impl_Channel_netOrder_bimplChannel_s3 T U (cI (netL T U)) m) (nN T U) (fun i s => ∃ f g, s = ((i : Int), rg (nN T U) f, rg (nN T U) g) ∧ OrdI T U i 0 f g)
    (fun r => ∃ f g, r = (rg (nN T U) f, rg (nN T U) g) ∧ OrdI T U (nN T U) 0 f g) (s0 := (0, rg (nN T U) (fun _ => 0), rg (nN T U) (fun _ => 0))) ⟨fun _ => 0, fun _ => 0, rfl, fun x y => by simp [Bef], fun x y => by simp [Bef]⟩ (by
      rintro i s hi ⟨f, g, rfl, hO⟩
      left
      obtain ⟨r, hr, f', g', rfl, hO'⟩ := inner_ord P hm2 hi hO
      refine ⟨(((i + 1 : Nat) : Int), rg (nN T U) f', rg (nN T U) g'), ?_, f', g', rfl, hO'⟩
      have hgn : geti (cI (netL T U)) (i : Int) = some (nmI T U i) := by rw [names_eq]; exact geti_map hi
      unfold m_impl_Channel_netOrder_bimplChannel_s3
      dsimp only
      rw [bif_t (by rw [decide_eq_true_eq, cI_len]; unfold nN at hi; omega), hgn]
      simp only [Option.bind_some]
      rw [span_eq P.len P.small (nmI T U i) (nm_cols hi)]
      simp only [Option.bind_some]
      rw [hr]
      simp only [Option.bind_some]
      rw [wr_suc (by omega)]) (by
      rintro s ⟨f, g, rfl, hO⟩
      refine ⟨_, ?_, f, g, rfl, hO⟩
      unfold m_impl_Channel_netOrder_bimplChannel_s3
      dsimp only
      rw [bif_f (by rw [decide_eq_false_iff_not, cI_len]; unfold nN; omega)])
  refine ⟨f, g, ?_, ⟨apA_sym, fun i => by simp [apA], fun k i hk hi => ?_, fun k hk => ?_, fun k i hk hi => ?_, fun k hk => ?_, by omega⟩⟩
  · have hrep : List.replicate (nN T U) (0 : Int) = rg (nN T U) (fun _ => 0) := by
      refine List.ext_getElem (by simp [rg, cI]) fun j h1 h2 => ?_
      simp [rg, cI]
    have hno : m_impl_newOrder ((cI (netL T U)).length : Int) = some (rg (nN T U) (fun _ => 0), rg (nN T U) (fun _ => 0)) := by
      unfold m_impl_newOrder
      have hmk : mkC ((cI (netL T U)).length : Int) = some () := by
        unfold mkC chk
        have := hlim
        rw [cI_len]
        have h12 : (netL T U).length ≤ 12 := netL_len
        simp; omega
      rw [hmk]
      simp only [Option.bind_some]
      rw [Int.toNat_natCast, cI_len, show (netL T U).length = nN T U from rfl, hrep]
    unfold m_impl_Channel_netOrder_bimplChannel
    rw [nets_eq P.len P.small]
    simp only [Option.bind_some]
    rw [hm1]
    simp only [Option.bind_some]
    rw [hno]
    simp only [Option.bind_some]
    rw [h1]; rfl
  · rw [Bool.eq_iff_iff, hA.done]
    exact ⟨fun h => h.2.2, fun h => ⟨hk, hi, h⟩⟩
  · exact bits_lt fun y hy => ((hA k y).1 hy).2.1
  · rw [Bool.eq_iff_iff, hB.done]
    exact ⟨fun h => h.2.2, fun h => ⟨hi, hk, h⟩⟩
  · exact bits_lt fun x hx => ((hB x k).1 hx).1
/-- A row that is filled from the left. -/
def part (n k : Nat) (p : Nat → Bool) : List Bool := (List.range n).map fun j => decide (j < k) && p j
theorem part_set {n k : Nat} {p : Nat → Bool} (hk : k < n) : (part n k p).set k (p k) = part n (k + 1) p := by
  refine List.ext_getElem (by simp [part]) fun j h1 h2 => ?_
  rw [List.getElem_set]
  simp only [part, List.getElem_map, List.getElem_range]
  by_cases e : k = j
  · subst e; simp
  · rw [if_neg e]
    have : decide (j < k) = decide (j < k + 1) := decide_eq_decide.2 (by omega)
    rw [this]
theorem part_get {n k j : Nat} {p : Nat → Bool} (hj : j < n) : geti (part n k p) (j : Int) = some (decide (j < k) && p j) := geti_map hj
theorem ofNets_eq (P : Pins T U) : m_spec_l03OfNets_bimplChannel T U = some ((List.range (nN T U)).map (nmI T U), bm (nN T U) (apA T U), bm (nN T U) (abB T U)) := by
  have hn := nN_le (T := T) (U := U)
  have hgn : ∀ k, k < nN T U → geti (cI (netL T U)) (k : Int) = some (nmI T U k) := fun k hk => by rw [names_eq]; exact geti_map hk
  have inner : ∀ i, i < nN T U → loopM (m_spec_l03OfNets_bimplChannel_s4 T U (cI (netL T U)) (i : Int) (loC T U (nmI T U i), hiC T U (nmI T U i), decide (colsL T U (nmI T U i) ≠ []))) (0, part (nN T U) 0 (apA T U i), part (nN T U) 0 (abB T U i)) = some (part (nN T U) (nN T U) (apA T U i), part (nN T U) (nN T U) (abB T U i)) := fun i hi => by
    refine loopM_val _ (nN T U) (fun k s => s = ((k : Int), part (nN T U) k (apA T U i), part (nN T U) k (abB T U i))) rfl (fun k s hk h => ?_) (fun s h => ?_)
    · subst h
      refine .inl ⟨_, ?_, rfl⟩
      have hix : ((i : Int) != (k : Int)) = decide (i ≠ k) := by
        by_cases e : i = k
        · subst e; simp
        · rw [decide_eq_true e, bne_iff_ne]; omega
      have hab := sabove_eq P (nm_mem hi) (nm_mem hk)
      have e1 := part_set (p := apA T U i) hk
      have e2 := part_set (p := abB T U i) hk
      unfold m_spec_l03OfNets_bimplChannel_s4
      dsimp only
      rw [bif_t (by rw [decide_eq_true_eq, cI_len]; unfold nN at hk; omega), hgn k hk]
      simp only [Option.bind_some]
      rw [sspan_eq P.len P.small (nmI T U k), hix, part_get hk, part_get hk, hgn i hi]
      simp only [Option.bind_some]
      rw [show m_spec_l03Above_bimplChannel T U (nmI T U i) (nmI T U k) = some (abB T U i k) from hab]
      simp only [Option.bind_some]
      rw [Int.toNat_natCast, wr_suc (by omega), e2, ← e1]
      unfold apA
      cases decide (i ≠ k) <;> cases decide (loC T U (nmI T U i) ≤ hiC T U (nmI T U k)) <;> rfl
    · subst h
      unfold m_spec_l03OfNets_bimplChannel_s4
      dsimp only
      rw [bif_f (by rw [decide_eq_false_iff_not, cI_len]; unfold nN; omega)]
  have full : ∀ p : Nat → Bool, part (nN T U) (nN T U) p = (List.range (nN T U)).map p := fun p => by
    unfold part
    refine List.map_congr_left fun j hj => ?_
    rw [decide_eq_true (List.mem_range.1 hj), Bool.true_and]
  have zero : ∀ p : Nat → Bool, List.replicate (nN T U) false = part (nN T U) 0 p := fun p => by
    refine List.ext_getElem (by simp [part]) fun j h1 h2 => ?_
    simp [part]
  have outer : loopM (m_spec_l03OfNets_bimplChannel_s3 T U (cI (netL T U))) (0, ([] : List (List Bool)), ([] : List (List Bool))) = some (bm (nN T U) (apA T U), bm (nN T U) (abB T U)) := by
    refine loopM_val _ (nN T U) (fun i s => s = ((i : Int), ((List.range i).map fun i => (List.range (nN T U)).map (apA T U i)), ((List.range i).map fun i => (List.range (nN T U)).map (abB T U i)))) rfl (fun i s hi h => ?_) (fun s h => ?_)
    · subst h
      refine .inl ⟨_, ?_, rfl⟩
      have hmk : mkC ((cI (netL T U)).length : Int) = some () := by
        unfold mkC chk
        have := hlim
        rw [cI_len]
        have h12 : (netL T U).length ≤ 12 := netL_len
        simp; omega
      unfold m_spec_l03OfNets_bimplChannel_s3
      dsimp only
      rw [bif_t (by rw [decide_eq_true_eq, cI_len]; unfold nN at hi; omega), hgn i hi]
      simp only [Option.bind_some]
      rw [sspan_eq P.len P.small (nmI T U i), hmk]
      simp only [Option.bind_some]
      rw [Int.toNat_natCast, cI_len, show (netL T U).length = nN T U from rfl]
      have hz : loopM (m_spec_l03OfNets_bimplChannel_s4 T U (cI (netL T U)) (i : Int) (loC T U (nmI T U i), hiC T U (nmI T U i), decide (colsL T U (nmI T U i) ≠ []))) (0, List.replicate (nN T U) false, List.replicate (nN T U) false) = some ((List.range (nN T U)).map (apA T U i), (List.range (nN T U)).map (abB T U i)) := by
        have := inner i hi
        rw [← zero, ← zero, full, full] at this
        exact this
      rw [hz]
      simp only [Option.bind_some]
      rw [apC_sm (by simp; omega), apC_sm (by simp; omega)]
      simp only [Option.bind_some]
      rw [wr_suc (by omega), List.range_succ, List.map_append, List.map_append]
      rfl
    · subst h
      unfold m_spec_l03OfNets_bimplChannel_s3
      dsimp only
      rw [bif_f (by rw [decide_eq_false_iff_not, cI_len]; unfold nN; omega)]
      rfl
  unfold m_spec_l03OfNets_bimplChannel
  rw [snets_eq P.len P.small]
  simp only [Option.bind_some]
  rw [outer, ← names_eq]
  rfl
/-- Tracks told by name. -/
theorem told_eq {n : Nat} {nm : Nat → Int} (hn : n ≤ 30) {tr : List (List Nat)} (ht : tr.length ≤ 1000) (hr : ∀ t ∈ tr, t.length ≤ 1000 ∧ ∀ x ∈ t, x < n) :
    m_impl_toldTracks_impl_FewestTracks_1_bint64 (tr.map cI) ((List.range n).map nm) = some (tr.map fun t => t.map nm) := by
  have inner : ∀ t : List Nat, t.length ≤ 1000 → (∀ x ∈ t, x < n) → loopM (m_impl_toldTracks_impl_FewestTracks_1_bint64_s4 ((List.range n).map nm) (cI t)) (([] : List Int), 0) = some (t.map nm) := fun t h1 h2 => by
    refine loopM_val _ t.length (fun k s => s = ((t.take k).map nm, (k : Int))) (by simp) (fun k s hk h => ?_) (fun s h => ?_)
    · subst h
      refine .inl ⟨_, ?_, rfl⟩
      unfold m_impl_toldTracks_impl_FewestTracks_1_bint64_s4 m_impl_FewestTracks_1_bint64
      dsimp only
      rw [bif_t (by rw [decide_eq_true_eq, cI_len]; omega), geti_cI hk]
      simp only [Option.bind_some]
      rw [geti_map (h2 _ (List.getElem_mem hk))]
      simp only [Option.bind_some]
      rw [apC_sm (by simp; omega), wr_suc (by omega), List.take_succ_eq_append_getElem hk, List.map_append]
      rfl
    · subst h
      unfold m_impl_toldTracks_impl_FewestTracks_1_bint64_s4
      dsimp only
      rw [bif_f (by rw [decide_eq_false_iff_not, cI_len]; omega)]
      simp
  unfold m_impl_toldTracks_impl_FewestTracks_1_bint64
  have : loopM (m_impl_toldTracks_impl_FewestTracks_1_bint64_s3 (tr.map cI) ((List.range n).map nm)) (([] : List (List Int)), 0) = some (tr.map fun t => t.map nm) := by
    refine loopM_val _ tr.length (fun k s => s = ((tr.take k).map (fun t => t.map nm), (k : Int))) (by simp) (fun k s hk h => ?_) (fun s h => ?_)
    · subst h
      refine .inl ⟨_, ?_, rfl⟩
      have hg : geti (tr.map cI) (k : Int) = some (cI tr[k]) := by rw [geti_nat, List.getElem?_map, List.getElem?_eq_getElem hk]; rfl
      have hm := hr _ (List.getElem_mem hk)
      unfold m_impl_toldTracks_impl_FewestTracks_1_bint64_s3
      dsimp only
      rw [bif_t (by rw [decide_eq_true_eq, List.length_map]; omega), hg]
      simp only [Option.bind_some]
      rw [inner _ hm.1 hm.2]
      simp only [Option.bind_some]
      rw [apC_sm (by simp; omega), wr_suc (by omega), List.take_succ_eq_append_getElem hk, List.map_append]
      rfl
    · subst h
      unfold m_impl_toldTracks_impl_FewestTracks_1_bint64_s3
      dsimp only
      rw [bif_f (by rw [decide_eq_false_iff_not, List.length_map]; omega)]
      simp
  rw [this]; rfl
end
end Go.Proofs.YtbfjekmefcpkmaaDoor
