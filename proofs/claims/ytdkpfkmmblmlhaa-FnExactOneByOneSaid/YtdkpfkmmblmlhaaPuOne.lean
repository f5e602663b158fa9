/- Points taken one by one. -/
import Derived.Test.YtdkpfkmmblmlhaaPuGain
set_option linter.unusedSimpArgs false
set_option linter.unusedVariables false
namespace Go.Proofs.Ytdkpfkmmblmlhaa
open Go.RowKit

/-- The greatest gain among the first v points, and where it comes first. -/
noncomputable def obF (hv all : List Pt) : Nat → Int × Option Nat
  | 0 => (0, none)
  | v + 1 => if gainV all (gP hv v) > (obF hv all v).1 then (gainV all (gP hv v), some v) else obF hv all v
def repPt (hv : List Pt) : Option Nat → Pt
  | none => (0, 0)
  | some i => gP hv i
def repIx : Option Nat → Int
  | none => -1
  | some i => i
theorem obF_inv (hv all : List Pt) : ∀ v, 0 ≤ (obF hv all v).1 ∧ ((obF hv all v).2 = none → (obF hv all v).1 = 0) ∧ ∀ i, (obF hv all v).2 = some i → i < v ∧ 0 < (obF hv all v).1
  | 0 => ⟨Int.le_refl _, fun _ => rfl, fun i h => by cases h⟩
  | v + 1 => by
    obtain ⟨h1, h2, h3⟩ := obF_inv hv all v
    unfold obF
    split
    · rename_i c
      refine ⟨by simp only []; omega, (fun h => nomatch h), fun i h => ?_⟩
      simp only [Option.some.injEq] at h
      exact ⟨by omega, by simp only []; omega⟩
    · exact ⟨h1, h2, fun i h => ⟨by have := (h3 i h).1; omega, (h3 i h).2⟩⟩
section
variable {hv all : List Pt}
theorem implOb (hh : okPs hv = true) (hl : hv.length ≤ 1000000) (h : okPs all = true) (h1 : 1 ≤ all.length) (hb : all.length ≤ 20) :
    loopM (m_impl_oneByOne_s4 all hv) (0, 0, 0, 0) = some ((obF hv all hv.length).1, (repPt hv (obF hv all hv.length).2).1, (repPt hv (obF hv all hv.length).2).2) := by
  have := loop_run (step := m_impl_oneByOne_s4 all hv) hv.length (fun v => ((obF hv all v).1, (v : Int), (repPt hv (obF hv all v).2).1, (repPt hv (obF hv all v).2).2)) (r := ((obF hv all hv.length).1, (repPt hv (obF hv all hv.length).2).1, (repPt hv (obF hv all hv.length).2).2)) (by
    intro v hvl
    have e : obF hv all (v + 1) = if gainV all (gP hv v) > (obF hv all v).1 then (gainV all (gP hv v), some v) else obF hv all v := rfl
    rw [e]
    generalize obF hv all v = s
    unfold m_impl_oneByOne_s4
    simp only []
    rw [bif_t (by simpa using hvl), geti_gP hvl]
    simp only [bind_some']
    rw [implGain_eq h (gP_ok hh hvl) h1 (by omega)]
    simp only [bind_some']
    by_cases c : gainV all (gP hv v) > s.1
    · rw [bif_t (by simpa using c), if_pos c]
      simp only [bind_some']
      rw [wr_in (by omega)]; rfl
    · rw [bif_f (by simpa using c), if_neg c]
      simp only [bind_some']
      rw [wr_in (by omega)]; rfl) (by
    unfold m_impl_oneByOne_s4
    simp only []
    rw [bif_f (by simp)])
  exact this
theorem specOb (hh : okPs hv = true) (hl : hv.length ≤ 1000000) (h : okPs all = true) (h1 : 1 ≤ all.length) (hb : all.length ≤ 20) :
    loopM (m_spec_OneByOne_s4 hv all) (-1, 0, 0) = some (repIx (obF hv all hv.length).2) := by
  have := loop_run (step := m_spec_OneByOne_s4 hv all) hv.length (fun v => (repIx (obF hv all v).2, (obF hv all v).1, (v : Int))) (r := repIx (obF hv all hv.length).2) (by
    intro v hvl
    have inv := (obF_inv hv all v).1
    have e : obF hv all (v + 1) = if gainV all (gP hv v) > (obF hv all v).1 then (gainV all (gP hv v), some v) else obF hv all v := rfl
    rw [e]
    generalize obF hv all v = s at inv ⊢
    unfold m_spec_OneByOne_s4
    simp only []
    obtain ⟨i, hi, hd⟩ := Index_eq all (gP hv v) (by omega)
    rw [bif_t (by simpa using hvl), geti_gP hvl]
    simp only [bind_some']
    rw [hi]
    simp only [bind_some', hd]
    by_cases cm : gP hv v ∈ all
    · have g0 : gainV all (gP hv v) = 0 := by unfold gainV; rw [if_pos cm]
      rw [bif_t (by simpa using cm), g0, if_neg (by omega), wr_in (by omega)]; rfl
    · have g0 : gainV all (gP hv v) = (trV all).2 - (trV (all ++ [gP hv v])).2 := by unfold gainV; rw [if_neg cm]
      rw [bif_f (by simpa using cm), specGain_eq h (gP_ok hh hvl) h1 (by omega), ← g0]
      simp only [bind_some']
      by_cases c : gainV all (gP hv v) > s.1
      · rw [bif_t (by simpa using c), if_pos c]
        simp only [bind_some']
        rw [wr_in (by omega)]; rfl
      · rw [bif_f (by simpa using c), if_neg c]
        simp only [bind_some']
        rw [wr_in (by omega)]; rfl) (by
    unfold m_spec_OneByOne_s4
    simp only []
    rw [bif_f (by simp)])
  exact this
end
theorem ob_both {ps : List Pt} (hp : okPs ps = true) (hb : ps.length ≤ 1000) : ∀ (m : Nat) (all : List Pt), 20 - all.length ≤ m → okPs all = true → 1 ≤ all.length → all.length ≤ 20 →
    ∃ r, loopM (m_impl_oneByOne_s3 ps) all = some r ∧ loopM (m_spec_OneByOne_s3 (hanV ps)) all = some r ∧ okPs r = true ∧ all.length ≤ r.length ∧ r.length ≤ 20 := by
  intro m
  induction m with
  | zero =>
    intro all hm h h1 h2
    refine ⟨all, loopM_out ?_, loopM_out ?_, h, Nat.le_refl _, h2⟩
    · unfold m_impl_oneByOne_s3
      simp only []
      rw [bif_f (by simp; omega)]
    · unfold m_spec_OneByOne_s3
      simp only []
      rw [bif_f (by simp; omega)]
  | succ m ih =>
    intro all hm h h1 h2
    by_cases c : all.length = 20
    · refine ⟨all, loopM_out ?_, loopM_out ?_, h, Nat.le_refl _, h2⟩
      · unfold m_impl_oneByOne_s3
        simp only []
        rw [bif_f (by simp; omega)]
      · unfold m_spec_OneByOne_s3
        simp only []
        rw [bif_f (by simp; omega)]
    · have hh := hanV_ok hp
      have hl := hanV_len ps hb
      have e1 : m_impl_oneByOne_s3 ps all = (bif (obF (hanV ps) all (hanV ps).length).1 == 0 then some (Ctl.out all) else Option.bind (apC all ([((repPt (hanV ps) (obF (hanV ps) all (hanV ps).length).2).1, (repPt (hanV ps) (obF (hanV ps) all (hanV ps).length).2).2)] : List (Int × Int))) fun _ => some (Ctl.next (all ++ [((repPt (hanV ps) (obF (hanV ps) all (hanV ps).length).2).1, (repPt (hanV ps) (obF (hanV ps) all (hanV ps).length).2).2)]))) := by
        unfold m_impl_oneByOne_s3
        simp only []
        rw [bif_t (by simp; omega), implHanan_eq ps hb]
        simp only [bind_some']
        rw [implOb hh hl h h1 h2]
        rfl
      have e2 : m_spec_OneByOne_s3 (hanV ps) all = (bif decide (repIx (obF (hanV ps) all (hanV ps).length).2 < 0) then some (Ctl.out all) else Option.bind (geti (hanV ps) (repIx (obF (hanV ps) all (hanV ps).length).2)) fun x523 => Option.bind (apC all (([(x523.1, x523.2)] : List (Int × Int)))) fun _ => some (Ctl.next (all ++ (([(x523.1, x523.2)] : List (Int × Int)))))) := by
        unfold m_spec_OneByOne_s3
        simp only []
        rw [bif_t (by simp; omega), specOb hh hl h h1 h2]
        rfl
      obtain ⟨o1, o2, o3⟩ := obF_inv (hanV ps) all (hanV ps).length
      cases hs : (obF (hanV ps) all (hanV ps).length).2 with
      | none =>
        refine ⟨all, loopM_out ?_, loopM_out ?_, h, Nat.le_refl _, h2⟩
        · rw [e1, o2 hs]; rfl
        · rw [e2, hs]; rfl
      | some i =>
        obtain ⟨i1, i2⟩ := o3 i hs
        have hg := gP_ok hh i1
        obtain ⟨r, r1, r2, r3, r4, r5⟩ := ih (all ++ [gP (hanV ps) i]) (by simp; omega) (okPs_snoc h hg) (by simp) (by simp; omega)
        refine ⟨r, ?_, ?_, r3, by simp at r4; omega, r5⟩
        · rw [loopM_next (s' := all ++ [gP (hanV ps) i])]
          · exact r1
          · rw [e1, bif_f (by simp; omega), apC_ok (by unfold lim; simp; omega), hs]; rfl
        · rw [loopM_next (s' := all ++ [gP (hanV ps) i])]
          · exact r2
          · have hge : geti (hanV ps) (repIx (some i)) = some (gP (hanV ps) i) := geti_gP i1
            rw [e2, hs, bif_f (show decide (repIx (some i) < 0) = false from decide_eq_false (by show ¬ (i : Int) < 0; omega)), hge]
            simp only [bind_some']
            rw [apC_ok (by unfold lim; simp; omega)]; rfl
theorem one_both (ps : List Pt) (hb : ps.length ≤ 1048576) : ∃ V : List Pt × Int × Bool, m_spec_OneByOne ps = some V ∧ m_impl_OneByOne ps = some V ∧ V.1.length ≤ 20 := by
  unfold m_spec_OneByOne m_impl_OneByOne
  rw [specFew_eq ps (by omega), implPins_eq ps 7 (by omega)]
  simp only [bind_some']
  cases hB : pinsB 7 ps with
  | false => exact ⟨([], 0, false), rfl, rfl, by simp⟩
  | true =>
    obtain ⟨q1, q2, q3, q4⟩ := pinsB_t hB
    obtain ⟨r, r1, r2, r3, r4, r5⟩ := ob_both q3 (by omega) 20 ps (by omega) q3 q1 (by omega)
    have hsl : slci r (ps.length : Int) (r.length : Int) = some (slc r (ps.length : Int) (r.length : Int)) := by unfold slci slc; rw [if_pos (by omega)]
    have hlen : (slc r (ps.length : Int) (r.length : Int)).length ≤ 20 := by unfold slc; simp; omega
    rw [bif_f (by rfl), bif_f (by rfl), specHanan_eq ps (by omega)]
    simp only [bind_some', List.nil_append]
    rw [apC_ok (by unfold lim; simp; omega), r2]
    simp only [bind_some']
    rw [specTree_eq r3 (by omega) (by omega)]
    simp only [bind_some']
    rw [hsl]
    simp only [bind_some']
    rw [apC_ok (by unfold lim; simp; omega)]
    have hone : m_impl_oneByOne ps = some r := by
      unfold m_impl_oneByOne
      rw [Clone_eq ps (by omega)]
      simp only [bind_some']
      rw [r1]; rfl
    rw [hone]
    simp only [bind_some']
    rw [implSpan_eq r3 (by omega) (by omega)]
    simp only [bind_some']
    rw [hsl]
    simp only [bind_some']
    rw [Clone_eq _ (by omega)]
    simp only [bind_some']
    exact ⟨_, rfl, rfl, hlen⟩
theorem lawOneByOne_eq (ps : List Pt) (hb : ps.length ≤ 9223372036854775807) : m_laws_FnExactOneByOne ps = some true := by
  unfold m_laws_FnExactOneByOne
  obtain ⟨z, hz, h⟩ := szP1_eq ps hb
  rw [hz, bind_some']
  rcases h with h | ⟨h, hn⟩
  · rw [bif_t (by simpa using h)]
  rw [bif_f (by simpa using h)]
  obtain ⟨V, hs, hi, hc⟩ := one_both ps hn
  simp only [toPointS_eq ps hn, bind_some', hs, hi, eqPointS_eq ps (by omega), eqPointS_eq V.1 (by omega), markPS_eq ps 1 (by omega) (by omega), markPS_eq V.1 1 (by omega) (by omega), heldPS_eq V.1.length 1 (by omega) (by omega), Bool.not_true, cond_false, beq_self_eq_true, bne_self_eq_false]
  rw [bif_f (by simp; omega), bif_f (by simp; omega), bif_f (by simp; omega)]
end Go.Proofs.Ytdkpfkmmblmlhaa
