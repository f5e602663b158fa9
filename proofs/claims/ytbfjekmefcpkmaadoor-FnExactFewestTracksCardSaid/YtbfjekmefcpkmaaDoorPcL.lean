/- The law of the fewest tracks. -/
import Derived.Test.YtbfjekmefcpkmaaDoorPcK
import Derived.Test.YtbfjekmefcpkmaaDoorPuRow
set_option linter.unusedSimpArgs false
set_option linter.unusedVariables false
set_option linter.unusedSectionVars false
namespace Go.Proofs.YtbfjekmefcpkmaaDoor
open Go.RowKit

theorem Chain.len {A B : Nat → Nat → Bool} {n left : Nat} {cs : List Nat} (h : Chain A B n left cs) : left < 2 ^ n → cs.length ≤ cnt n left := by
  induction h with
  | z => intro _; exact Nat.zero_le _
  | s hb _ ih =>
    intro hl
    have h1 := ih (sub_lt hl)
    have h2 := cnt_sub hb.gd.fit hl
    rw [List.length_cons]; omega
/-- What both programs answer. -/
structure Few (r : List (List Int) × Bool) : Prop where
  len : r.1.length ≤ 1000
  rows : ∀ t ∈ r.1, t.length ≤ 1000
theorem tracks_both (T U : List Int) (hT : T.length ≤ 1048576) (hU : U.length ≤ 1048576) : ∃ r, m_impl_FewestTracks T U = some r ∧ m_spec_FewestTracks T U = some r ∧ Few r := by
  unfold m_impl_FewestTracks m_spec_FewestTracks
  rw [Valid_eq T U hT hU, Is_eq T U hT hU]
  simp only [Option.bind_some]
  cases hv : valB T U with
  | false => exact ⟨([], false), rfl, rfl, by simp, fun t ht => by simp at ht⟩
  | true =>
    have P := valB_pins hv
    have hn := nN_le (T := T) (U := U)
    obtain ⟨apN, ahN, h1, O⟩ := netOrder_eq P
    rw [bif_f (by rfl), bif_f (by rfl), h1, ofNets_eq P]
    simp only [Option.bind_some]
    rcases both_best O (by omega) nm_mono with ⟨cs, g1, g2, hC⟩ | ⟨g1, g2⟩
    · have hlen := hC.len (full_lt _)
      have hcn := cnt_le (nN T U) (2 ^ nN T U - 1)
      have hrow : ∀ t ∈ cs.map (bitsL (nN T U)), t.length ≤ 1000 ∧ ∀ x ∈ t, x < nN T U := fun t ht => by
        obtain ⟨c, _, rfl⟩ := List.mem_map.1 ht
        exact ⟨cnt_small (by omega) c, fun x hx => (mem_bitsL.1 hx).1⟩
      have htold := told_eq (nm := nmI T U) (n := nN T U) (by omega) (tr := cs.map (bitsL (nN T U))) (by simp; omega) hrow
      have e1 : (cs.map fun c => cI (bitsL (nN T U) c)) = (cs.map (bitsL (nN T U))).map cI := by rw [List.map_map]; rfl
      rw [g1, g2]
      simp only [Option.bind_some]
      rw [bif_f (by rfl), nets_eq P.len P.small, names_eq]
      simp only [Option.bind_some]
      rw [e1, htold]
      simp only [Option.bind_some]
      refine ⟨_, rfl, ?_, ?_, ?_⟩
      · rw [List.map_map]; rfl
      · simp; omega
      · intro t ht
        rw [List.map_map] at ht
        obtain ⟨c, _, rfl⟩ := List.mem_map.1 ht
        have := cnt_small (n := nN T U) (by omega) c
        simpa using this
    · rw [g1, g2]
      exact ⟨([], false), rfl, rfl, by simp, fun t ht => by simp at ht⟩
theorem toChannel_eq (T U : List Int) (hT : T.length ≤ 1048576) (hU : U.length ≤ 1048576) : m_laws_toChannel T U = some (T, U) := by
  unfold m_laws_toChannel
  rw [toInt64S_eq T hT, toInt64S_eq U hU]; rfl
theorem eqChannel_eq (T U : List Int) (hT : T.length ≤ 1048576) (hU : U.length ≤ 1048576) : m_laws_eqChannel T U T U = some true := by
  unfold m_laws_eqChannel
  rw [eqInt64S_eq T (by omega), eqInt64S_eq U (by omega)]; rfl
theorem markChannel_eq (T U : List Int) (hT : T.length ≤ 1048576) (hU : U.length ≤ 1048576) : ∃ y, m_laws_markChannel T U 1 = some y ∧ 0 ≤ y.1 := by
  unfold m_laws_markChannel
  rw [markI_eq T 1 (by omega) (by omega)]
  simp only [Option.bind_some]
  rw [markI_eq U _ (by omega) (by omega)]
  exact ⟨_, rfl, by simp only; omega⟩
theorem szChannel_eq (T U : List Int) (hT : T.length ≤ 9223372036854775807) (hU : U.length ≤ 9223372036854775807) : ∃ y, m_laws_szChannel T U 1048576 = some y ∧ (y < 0 ∨ (T.length ≤ 1048576 ∧ U.length ≤ 1048576)) := by
  unfold m_laws_szChannel
  obtain ⟨y, h1, h2⟩ := szInt64S_eq T 1048576 (by omega) hT
  rw [h1]
  simp only [Option.bind_some]
  by_cases hy : y < 0
  · exact ⟨-1, bif_t (by simpa using hy), .inl (by omega)⟩
  · rw [bif_f (by simpa using hy)]
    obtain ⟨z, g1, g2⟩ := szInt64S_eq U y (by omega) hU
    rw [g1]
    simp only [Option.bind_some]
    by_cases hz : z < 0
    · exact ⟨-1, bif_t (by simpa using hz), .inl (by omega)⟩
    · exact ⟨z, bif_f (by simpa using hz), .inr (by omega)⟩
theorem lawFewestTracks_eq (T U : List Int) (hT : T.length ≤ 9223372036854775807) (hU : U.length ≤ 9223372036854775807) : m_laws_FnExactFewestTracks T U = some true := by
  unfold m_laws_FnExactFewestTracks
  obtain ⟨y, h1, h2⟩ := szChannel_eq T U hT hU
  rw [h1]
  simp only [Option.bind_some]
  by_cases hy : y < 0
  · exact bif_t (by simpa using hy)
  · rw [bif_f (by simpa using hy)]
    obtain ⟨a, b⟩ := h2.resolve_left hy
    obtain ⟨⟨r, ok⟩, hi, hs, hF⟩ := tracks_both T U a b
    have hl := hF.len
    have hr := hF.rows
    simp only at hl hr
    have hr2 : ∀ t ∈ r, t.length ≤ 1048576 := fun t ht => by have := hr t ht; omega
    have hr3 : ∀ t ∈ r, t.length ≤ 9223372036854775807 := fun t ht => by have := hr t ht; omega
    obtain ⟨m, hm, hm0⟩ := markChannel_eq T U a b
    have ho := offs_le (k := 1) hr2 r.length (Nat.le_refl _)
    have he := eqInt64SS_eq r (by omega) hr3
    simp only [toChannel_eq T U a b, bind_some', hs, hi, he, eqChannel_eq T U a b, hm, markR_eq r 1 (by omega) (by omega) (by omega) hr2, heldR_eq r 1 (by omega) (by omega) (by omega) hr2, beq_self_eq_true, Bool.not_true, cond_false]
    have ho2 : decide (offs 1 r r.length < 0) = false := by rw [decide_eq_false_iff_not]; omega
    have ho3 : (offs 1 r r.length != offs 1 r r.length) = false := by simp
    rw [bif_f (by simpa using hm0), bif_f ho2, bif_f ho3, bif_f ho2, bif_f ho3]
end Go.Proofs.YtbfjekmefcpkmaaDoor
