/- Channels: the order of the nets, in both programs. -/
import Derived.Test.YtbfjekmefcpkmaaDoorPcH
set_option linter.unusedSimpArgs false
set_option linter.unusedVariables false
set_option linter.unusedSectionVars false
namespace Go.Proofs.YtbfjekmefcpkmaaDoor
open Go.RowKit

section
variable (T U : List Int)
/-- Must one net be above another one? -/
def abv (a b : Int) : Bool := decide (a ≠ b) && anyIn 0 T.length fun i => T.getD i 0 == a && U.getD i 0 == b
/-- A channel's pins are nets, or none. -/
structure Pins (T U : List Int) : Prop where
  len : U.length = T.length
  small : T.length ≤ 24
  t : ∀ i, i < T.length → 0 ≤ T.getD i 0 ∧ T.getD i 0 ≤ 12
  u : ∀ i, i < T.length → 0 ≤ U.getD i 0 ∧ U.getD i 0 ≤ 12
variable {T U}
theorem mem_cI {l : List Nat} {a : Nat} : (a : Int) ∈ cI l ↔ a ∈ l := by
  unfold cI
  rw [List.mem_map]
  constructor
  · rintro ⟨x, hx, e⟩
    have : x = a := by omega
    exact this ▸ hx
  · intro h; exact ⟨a, h, rfl⟩
theorem sabove_eq (P : Pins T U) {a b : Nat} (ha : a ∈ netL T U) (hb : b ∈ netL T U) : m_spec_l03Above_bimplChannel T U (a : Int) (b : Int) = some (abv T U (a : Int) (b : Int)) := by
  have h1 := (mem_netL.1 ha).1
  have h2 := (mem_netL.1 hb).1
  have hlen : (cI (netL T U)).length ≤ 1000 := by rw [cI_len]; have := netL_len (T := T) (U := U); omega
  unfold m_spec_l03Above_bimplChannel
  by_cases e : a = b
  · subst e
    rw [bif_t (by simp)]
    unfold abv
    rw [decide_eq_false (by simp), Bool.false_and]
  · rw [bif_f (by rw [beq_eq_false_iff_ne]; omega), bif_f (by rw [beq_eq_false_iff_ne]; omega), bif_f (by rw [beq_eq_false_iff_ne]; omega), snets_eq P.len P.small]
    simp only [Option.bind_some]
    rw [Has_eq _ hlen, decide_eq_true (mem_cI.2 ha), Has_eq _ hlen, decide_eq_true (mem_cI.2 hb)]
    simp only [Option.bind_some]
    rw [bif_f (by rfl), bif_f (by rfl)]
    have hm := P.small
    have := loop_any (step := m_spec_l03Above_bimplChannel_s1 T U (a : Int) (b : Int)) 0 T.length (fun i => T.getD i 0 == (a : Int) && U.getD i 0 == (b : Int)) true (Nat.zero_le _) (fun k _ hk _ => by
      unfold m_spec_l03Above_bimplChannel_s1
      dsimp only
      rw [bif_t (by rw [decide_eq_true_eq]; omega), getD_at hk, wr_suc (by omega)]
      simp only [Option.bind_some]
      rw [getD_at (show k < U.length by rw [P.len]; exact hk)]
      simp only [Option.bind_some]
      cases (T.getD k 0 == (a : Int)) <;> cases (U.getD k 0 == (b : Int)) <;> rfl) (by
      unfold m_spec_l03Above_bimplChannel_s1
      dsimp only
      rw [bif_f (by simp)])
    rw [show ((0 : Nat) : Int) = 0 from rfl] at this
    rw [this]
    unfold abv
    rw [decide_eq_true (by omega), Bool.true_and]
    cases anyIn 0 T.length (fun i => T.getD i 0 == (a : Int) && U.getD i 0 == (b : Int)) <;> rfl
/-- The pairs that the first program keeps. -/
theorem above_eq (P : Pins T U) : ∃ m, m_impl_Channel_above_bimplChannel T U = some m ∧ ∀ a b : Nat, a ∈ netL T U → b ∈ netL T U → (mget m ((a : Int), (b : Int))).getD false = abv T U (a : Int) (b : Int) := by
  have hm := P.small
  have hlen : (cI (netL T U)).length ≤ 1000 := by rw [cI_len]; have := netL_len (T := T) (U := U); omega
  obtain ⟨r, h1, h2⟩ := loopM_count (m_impl_Channel_above_bimplChannel_s1 T U (cI (netL T U))) T.length
    (fun k s => s.1 = (k : Int) ∧ ∀ a b : Nat, a ∈ netL T U → b ∈ netL T U → (mget s.2 ((a : Int), (b : Int))).getD false = (decide ((a : Int) ≠ b) && anyIn 0 k fun i => T.getD i 0 == (a : Int) && U.getD i 0 == (b : Int)))
    (fun m => ∀ a b : Nat, a ∈ netL T U → b ∈ netL T U → (mget m ((a : Int), (b : Int))).getD false = abv T U (a : Int) (b : Int)) (s0 := (0, [])) ⟨rfl, fun a b _ _ => by
      have : anyIn 0 0 (fun i => T.getD i 0 == (a : Int) && U.getD i 0 == (b : Int)) = false := anyIn_f.2 fun k _ h => by omega
      rw [this]; simp [mget]⟩ (by
    rintro k ⟨x, m⟩ hk ⟨hx, hI⟩
    simp only at hx hI
    subst hx
    left
    have hany : ∀ a b : Nat, anyIn 0 (k + 1) (fun i => T.getD i 0 == (a : Int) && U.getD i 0 == (b : Int)) = (anyIn 0 k (fun i => T.getD i 0 == (a : Int) && U.getD i 0 == (b : Int)) || (T.getD k 0 == (a : Int) && U.getD k 0 == (b : Int))) := fun a b => by
      unfold anyIn
      rw [show k + 1 - 0 = k + 1 from rfl, show k - 0 = k from rfl, List.range'_concat, List.any_append]
      simp
    obtain ⟨t, ht⟩ := Int.eq_ofNat_of_zero_le (P.t k hk).1
    obtain ⟨u, hu⟩ := Int.eq_ofNat_of_zero_le (P.u k hk).1
    have ht12 := (P.t k hk).2
    have hu12 := (P.u k hk).2
    have hc1 := Contains_eq (cI (netL T U)) hlen (t : Int)
    have hc2 := Contains_eq (cI (netL T U)) hlen (u : Int)
    have head : ∀ X : Option (List ((Int × Int) × Bool)), (bif ((t : Int) != (u : Int)) then (bif decide ((t : Int) ∈ cI (netL T U)) then (bif decide ((u : Int) ∈ cI (netL T U)) then some (mup m ((t : Int), (u : Int)) true) else some m) else some m) else some m) = X →
        m_impl_Channel_above_bimplChannel_s1 T U (cI (netL T U)) ((k : Int), m) = Option.bind X fun l2 => some (.next (((k + 1 : Nat) : Int), l2)) := fun X hX => by
      unfold m_impl_Channel_above_bimplChannel_s1
      dsimp only
      rw [bif_t (by rw [decide_eq_true_eq]; omega), getD_at hk, wr_suc (by omega)]
      simp only [Option.bind_some]
      rw [getD_at (show k < U.length by rw [P.len]; exact hk)]
      simp only [Option.bind_some]
      rw [ht, hu, hc1, hc2]
      simp only [Option.bind_some]
      have hok : mpC (okII ((t : Int), (u : Int))) = some () := by
        unfold mpC okII
        rw [if_pos]
        rw [Bool.and_eq_true]
        exact ⟨okI_iff.2 ⟨by omega, by omega⟩, okI_iff.2 ⟨by omega, by omega⟩⟩
      rw [hok]
      simp only [Option.bind_some]
      rw [hX]
    by_cases hcase : ((t : Int) != (u : Int)) = true ∧ t ∈ netL T U ∧ u ∈ netL T U
    · refine ⟨(((k + 1 : Nat) : Int), mup m ((t : Int), (u : Int)) true), ?_, rfl, fun a b ha hb => ?_⟩
      · rw [head (some (mup m ((t : Int), (u : Int)) true)) (by rw [hcase.1, decide_eq_true (mem_cI.2 hcase.2.1), decide_eq_true (mem_cI.2 hcase.2.2)]; rfl)]; rfl
      · rw [mget_mup', hany, ht, hu]
        by_cases e : ((a : Int), (b : Int)) = ((t : Int), (u : Int))
        · rw [if_pos e]
          have e1 := congrArg Prod.fst e
          have e2 := congrArg Prod.snd e
          simp only at e1 e2
          have hne := hcase.1
          rw [bne_iff_ne] at hne
          rw [← e1, ← e2] at hne ⊢
          simp [hne]
        · rw [if_neg e, hI a b ha hb]
          have : ((t : Int) == (a : Int) && (u : Int) == (b : Int)) = false := by
            cases h : ((t : Int) == (a : Int) && (u : Int) == (b : Int)) with
            | false => rfl
            | true =>
              rw [Bool.and_eq_true, beq_iff_eq, beq_iff_eq] at h
              exact absurd (by rw [h.1, h.2]) e
          rw [this, Bool.or_false]
    · refine ⟨(((k + 1 : Nat) : Int), m), ?_, rfl, fun a b ha hb => ?_⟩
      · rw [head (some m) ?_]; · rfl
        cases h1 : ((t : Int) != (u : Int)) with
        | false => rfl
        | true =>
          by_cases h2 : t ∈ netL T U
          · have h3 : ¬ u ∈ netL T U := fun h => hcase ⟨h1, h2, h⟩
            rw [decide_eq_true (mem_cI.2 h2), decide_eq_false (fun h => h3 (mem_cI.1 h))]; rfl
          · rw [decide_eq_false (fun h => h2 (mem_cI.1 h))]; rfl
      · show (mget m ((a : Int), (b : Int))).getD false = _
        rw [hI a b ha hb, hany, ht, hu]
        by_cases hab : (a : Int) = b
        · rw [decide_eq_false (by simpa using hab)]; simp
        · have : ((t : Int) == (a : Int) && (u : Int) == (b : Int)) = false := by
            cases h : ((t : Int) == (a : Int) && (u : Int) == (b : Int)) with
            | false => rfl
            | true =>
              rw [Bool.and_eq_true, beq_iff_eq, beq_iff_eq] at h
              have e1 : t = a := by omega
              have e2 : u = b := by omega
              subst e1; subst e2
              exact absurd ⟨by rw [bne_iff_ne]; exact hab, ha, hb⟩ hcase
          rw [this, Bool.or_false]) (by
    rintro ⟨x, m⟩ ⟨hx, hI⟩
    simp only at hx hI
    subst hx
    refine ⟨m, ?_, fun a b ha hb => ?_⟩
    · unfold m_impl_Channel_above_bimplChannel_s1
      dsimp only
      rw [bif_f (by simp)]
    · exact hI a b ha hb)
  refine ⟨r, ?_, h2⟩
  unfold m_impl_Channel_above_bimplChannel
  rw [nets_eq P.len P.small]
  simp only [Option.bind_some]
  rw [h1]; rfl
end
/-! ### Masks that are filled, pair by pair -/
theorem set_rg {n : Nat} {f : Nat → Nat} {i x : Nat} (hi : i < n) : (rg n f).set i (x : Int) = rg n (fun j => if j = i then x else f j) := by
  refine List.ext_getElem (by simp [rg, cI]) fun j h1 h2 => ?_
  rw [List.getElem_set]
  simp only [rg, cI, List.getElem_map, List.getElem_range]
  by_cases e : i = j
  · subst e; simp
  · rw [if_neg e, if_neg (fun h => e h.symm)]
/-- The pairs before (i, k), row by row. -/
def Bef (i k x y : Nat) : Prop := x < i ∨ (x = i ∧ y < k)
def Fil (n : Nat) (R : Nat → Nat → Bool) (f : Nat → Nat → Bool) (i k : Nat) : Prop := ∀ x y, f x y = true ↔ (x < n ∧ y < n ∧ R x y = true ∧ Bef i k x y)
theorem Fil.bef {n i k : Nat} (hk : k < n) (x y : Nat) : Bef i (k + 1) x y ↔ (Bef i k x y ∨ (x = i ∧ y = k)) := by unfold Bef; omega
theorem rg_get {n : Nat} {f : Nat → Nat} {i : Nat} (h : i < n) : geti (rg n f) (i : Int) = some ((f i : Nat) : Int) := geti_rg h
theorem bits_lt {n x : Nat} (h : ∀ i, x.testBit i = true → i < n) : x < 2 ^ n := by
  apply Nat.lt_pow_two_of_testBit
  intro i hi
  cases hb : x.testBit i with
  | false => rfl
  | true => have := h i hb; omega
end Go.Proofs.YtbfjekmefcpkmaaDoor
