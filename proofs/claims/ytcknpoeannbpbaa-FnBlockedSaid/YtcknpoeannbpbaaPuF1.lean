/- The first program's loop: it ends with a flow that can grow no more, its value, and all that is reached. The first program: the cells that block, in order. The second program's search over a matrix of room: a tree of all that is reached. The second program's matrix of room: the bounds of the flow. The second program's matrix: cell by cell. The second program's matrix is that of the bounds. The second program lets one more way through, as often as there is room. Both programs find as many ways and the same cells. The two laws. -/
import Derived.Test.YtcknpoeannbpbaaPuF0
import Derived.Test.YtcknpoeannbpbaaPuM0
set_option linter.unusedSimpArgs false
set_option linter.unusedVariables false
set_option linter.unusedSectionVars false
namespace Go.Proofs.Ytcknpoeannbpbaa
open Go.RowKit

theorem chain_and {ν : Type} {A B : ν → ν → Prop} : ∀ l : List ν, Chain (fun a b => A a b ∧ B a b) l → Chain A l ∧ Chain B l
  | [], _ => ⟨trivial, trivial⟩
  | [_], _ => ⟨trivial, trivial⟩
  | a :: b :: l, hc => ⟨⟨hc.1.1, (chain_and (b :: l) hc.2).1⟩, hc.1.2, (chain_and (b :: l) hc.2).2⟩
section
variable {c : Mz} (h : mzOk c = true) {fr to : Pt} {U : Us} {T : List (Gt × Gt)}
def ClsI (c : Mz) (U : Us) (fr to : Pt) (T : List (Gt × Gt)) : Prop := ∀ a ∈ T.map (·.1), ∀ b ∈ bsd c a 4, roomI U fr to a b = true → b ∈ T.map (·.1)
include h in
theorem push_eq (hU : UOk c fr to U) (hS : Srch c U fr to T) (hc : 1 < cells c) (hft : adjB fr to = false) (hne : fr ≠ to) (hto : opn c to = true) :
    (snkG to ∉ T.map (·.1) ∧ m_impl_flow_push_bimplflow_bimplMaze c fr.1 fr.2 to.1 to.2 U T = some (false, U)) ∨
    ∃ U', m_impl_flow_push_bimplflow_bimplMaze c fr.1 fr.2 to.1 to.2 U T = some (true, U') ∧ UOk c fr to U' ∧ outS (allG c) (flN U') (srcG fr) = outS (allG c) (flN U) (srcG fr) + 1 := by
  have st := opn_smP h hto
  have ok : okIIB (snkG to) = true := by unfold smP at st; unfold okIIB snkG; simp [okI_sm, st]
  have hmp : mpC (okIIB ((to.1, to.2, false))) = some () := by
    show mpC (okIIB (snkG to)) = _
    unfold mpC; rw [ok]; rfl
  unfold m_impl_flow_push_bimplflow_bimplMaze
  rw [hmp]
  simp only [bind_some']
  have hsn : ((to.1, to.2, false) : Gt) = snkG to := rfl
  rw [hsn, mget_in]
  by_cases hm : snkG to ∈ T.map (·.1)
  · right
    rw [bif_f (by simp only [hm, decide_true, Bool.not_true])]
    obtain ⟨x, hx, hxs⟩ := List.mem_map.1 hm
    obtain ⟨i, hi, rfl⟩ := List.mem_iff_getElem.1 hx
    obtain ⟨l, l1, l2, l3, l4⟩ := hS.tree.way i i (Nat.le_refl _) hi
    rw [hxs] at l3
    have hops : ∀ x ∈ srcG fr :: l, opn c (gp x) = true := fun x hx => by
      obtain ⟨j, _, hj, e⟩ := l4 x hx
      rw [← e]
      exact hS.opn _ (List.mem_map.2 ⟨_, List.getElem_mem hj, rfl⟩)
    obtain ⟨c1, c2⟩ := chain_and _ l2
    obtain ⟨p1, p2⟩ := push_all h hU hc hft hne l1 hops c1 l3
    have hnn : srcG fr :: l ≠ [] := by simp
    have hsp := List.dropLast_concat_getLast hnn
    have hlast : (srcG fr :: l).getLast hnn = snkG to := by
      rw [← l3]
      conv => rhs; rw [← hsp, lastD_snoc]
    rw [hlast] at hsp
    have hloop := push_loop h (U := U) hS.tree.nd l1 hops c2 (srcG fr :: l).dropLast.reverse (snkG to) [] (by rw [List.reverse_reverse]; exact hsp)
    refine ⟨pushU U (srcG fr :: l), ?_, p1, p2⟩
    have e0 : pushU U [snkG to] = U := rfl
    rw [e0] at hloop
    have hloop' : loopM (m_impl_flow_push_bimplflow_bimplMaze_s1 fr.1 fr.2 T) (to.1, to.2, false, U) = some (pushU U (srcG fr :: l)) := hloop
    rw [hloop']
    rfl
  · left
    rw [bif_t (by simp only [hm, decide_false, Bool.not_false])]
    exact ⟨hm, rfl⟩
theorem outS_le (hU : UOk c fr to U) : outS (allG c) (flN U) (srcG fr) ≤ (2 * (mzW c * c.length) : Nat) := by
  have h1 : ∀ l : List Gt, sumL (flN U (srcG fr)) l ≤ l.length := by
    intro l
    induction l with
    | nil => simp [sumL]
    | cons a l ih =>
      have : flN U (srcG fr) a ≤ 1 := by unfold flN; split <;> split <;> omega
      simp only [sumL, List.length_cons]; omega
  have := h1 (allG c)
  rw [allG_len] at this
  exact this
theorem UOk.nil : UOk c fr to [] := by
  have e : ∀ a b : Gt, usd [] a b = false := fun _ _ => rfl
  have e2 : ∀ a b : Gt, flN [] a b = 0 := fun a b => flN_0 (e a b) (e b a)
  refine ⟨List.nodup_nil, ⟨fun a b => by rw [e2, e2]; rfl, fun a b => by rw [e2]; exact cap_nn a b, fun a _ _ _ => sumL_zero _ fun b _ => e2 a b⟩, fun a b hab => by rw [e] at hab; exact absurd hab (by simp), fun a b hab => by rw [e] at hab; exact absurd hab (by simp)⟩
include h in
/-- All rounds. -/
theorem rounds_eq (hc : 1 < cells c) (hft : adjB fr to = false) (hne : fr ≠ to) (hfr : opn c fr = true) (hto : opn c to = true) :
    ∃ (T0 : List (Gt × Gt)) (x : Int) (T : List (Gt × Gt)) (U : Us), m_impl_flow_search_bimplflow_bimplMaze c fr.1 fr.2 to.1 to.2 [] = some T0 ∧ loopM (m_impl_apart_s1 c fr.1 fr.2 to.1 to.2) (0, T0, []) = some (x, T) ∧ UOk c fr to U ∧ x = outS (allG c) (flN U) (srcG fr) ∧ Srch c U fr to T ∧ ClsI c U fr to T ∧ snkG to ∉ T.map (·.1) := by
  have h288 := small_len h
  obtain ⟨T0, t1, t2, t3⟩ := search_eq h ([] : Us) (to := to) hfr
  have o0 : outS (allG c) (flN []) (srcG fr) = 0 := sumL_zero _ fun b _ => flN_0 rfl rfl
  obtain ⟨r, r1, U, r2, r3, r4, r5, r6⟩ := loopM_count (m_impl_apart_s1 c fr.1 fr.2 to.1 to.2) 289
    (fun k st => st.1 = (k : Int) ∧ UOk c fr to st.2.2 ∧ outS (allG c) (flN st.2.2) (srcG fr) = (k : Int) ∧ Srch c st.2.2 fr to st.2.1 ∧ ClsI c st.2.2 fr to st.2.1)
    (fun r => ∃ U : Us, UOk c fr to U ∧ r.1 = outS (allG c) (flN U) (srcG fr) ∧ Srch c U fr to r.2 ∧ ClsI c U fr to r.2 ∧ snkG to ∉ r.2.map (·.1))
    (s0 := (0, T0, [])) ⟨rfl, UOk.nil, o0, t2, t3⟩ (by
      rintro k ⟨x, T, U⟩ hk ⟨e1, hU, e2, hS, hCl⟩
      simp only at e1 hU e2 hS hCl
      subst e1
      unfold m_impl_apart_s1
      simp only []
      rcases push_eq h hU hS hc hft hne hto with ⟨hm, hp⟩ | ⟨U', hp, hU', ho⟩
      · right
        rw [hp]
        simp only [bind_some', cond_false]
        exact ⟨_, rfl, U, hU, e2.symm, hS, hCl, hm⟩
      · left
        rw [hp]
        simp only [bind_some', cond_true]
        obtain ⟨T', s1, s2, s3⟩ := search_eq h U' (to := to) hfr
        rw [s1]
        simp only [bind_some']
        exact ⟨_, rfl, by simp only []; rw [wr_in (by omega)]; omega, hU', by simp only []; rw [ho, e2]; omega, s2, s3⟩) (by
      rintro ⟨x, T, U⟩ ⟨e1, hU, e2, hS, hCl⟩
      exfalso
      simp only at e2 hU
      have := outS_le (c := c) (fr := fr) (to := to) hU
      omega)
  exact ⟨T0, r.1, r.2, U, t1, r1, r2, r3, r4, r5, r6⟩
include h in
/-- What the search reaches is what can be reached. -/
theorem reach_iff (hU : UOk c fr to U) (hc : 1 < cells c) (hS : Srch c U fr to T) (hCl : ClsI c U fr to T) (hm : snkG to ∉ T.map (·.1)) (g : Gt) : g ∈ T.map (·.1) ↔ Rch (allG c) (capM c fr to) (flN U) (srcG fr) g := by
  constructor
  · intro hg
    obtain ⟨x, hx, rfl⟩ := List.mem_map.1 hg
    obtain ⟨i, hi, rfl⟩ := List.mem_iff_getElem.1 hx
    have key : ∀ n i (hi : i < T.length), i ≤ n → Rch (allG c) (capM c fr to) (flN U) (srcG fr) T[i].1 := by
      intro n
      induction n with
      | zero =>
        intro i hi hin
        have : i = 0 := by omega
        subst this
        have := hS.tree.head
        rw [List.head?_eq_getElem?, List.getElem?_eq_getElem hi] at this
        rw [Option.some.inj this]
        exact Rch.base
      | succ n ih =>
        intro i hi hin
        by_cases c0 : i = 0
        · exact ih i hi (by omega)
        · obtain ⟨j, hj, hjl, e1, e2⟩ := hS.tree.par i hi (by omega)
          have hr := ih j hjl (by omega)
          have oj := hS.opn _ (List.mem_map.2 ⟨_, List.getElem_mem hjl, rfl⟩)
          have oi := hS.opn _ (List.mem_map.2 ⟨_, List.getElem_mem hi, rfl⟩)
          rcases (room_iff hU hc oj).1 e2 with h1 | ⟨q1, q2, q3, q4 | q4⟩
          · exact Rch.step _ _ hr (mem_allG h (opn_has oj)) (mem_allG h (opn_has oi)) h1
          · have : T[i].1 = srcG fr := gate_eq (by rw [← q3, q4]; rfl) (by rw [q2]; rfl)
            rw [this]; exact Rch.base
          · have : T[j].1 = snkG to := gate_eq (by rw [q4]; rfl) (by rw [q1]; rfl)
            exact absurd (List.mem_map.2 ⟨_, List.getElem_mem hjl, this⟩) hm
    exact key i i hi (Nat.le_refl _)
  · intro hr
    induction hr with
    | base =>
      have hh := hS.tree.head
      cases T with
      | nil => exact absurd hh (by simp)
      | cons x l =>
        have : x = (srcG fr, srcG fr) := Option.some.inj hh
        rw [this]; simp
    | step a b _ ha hb hlt ih =>
      have oa := hS.opn a ih
      obtain ⟨q1, q2⟩ := (room_iff hU hc oa).2 (Or.inl hlt)
      exact hCl a ih b q1 q2
end
end Go.Proofs.Ytcknpoeannbpbaa

set_option linter.unusedSimpArgs false
set_option linter.unusedVariables false
set_option linter.unusedSectionVars false
namespace Go.Proofs.Ytcknpoeannbpbaa
open Go.RowKit

theorem setPts_perm {l m : List Pt} (h : ∀ x, x ∈ l ↔ x ∈ m) : setPts l = setPts m :=
  strict_uniq (setPts_strict l) (setPts_strict m) fun x => by rw [mem_setPts, mem_setPts]; exact h x
theorem fold_pts : ∀ (lo : List (Pt × Bool)) (acc : List Pt), acc.length + lo.length ≤ 1000 → foldR (m_impl_pointsOf_s1) acc lo = some (acc ++ lo.map (·.1))
  | [], acc, _ => by simp [foldR]
  | p :: lo, acc, hb => by
    simp only [List.length_cons] at hb
    have hs : m_impl_pointsOf_s1 acc p = some (.next (acc ++ [p.1])) := by
      unfold m_impl_pointsOf_s1
      simp only []
      rw [apC_ok (by unfold lim; simp; omega)]
      rfl
    simp only [foldR, hs]
    rw [fold_pts lo (acc ++ [p.1]) (by simp; omega)]
    simp
theorem pointsOf_eq (l : List (Pt × Bool)) (hb : l.length ≤ 1000) : m_impl_pointsOf l = some (setPts (l.map (·.1))) := by
  unfold m_impl_pointsOf
  refine allO_is fun lo hlo => ?_
  have hl := hlo.length_eq
  rw [fold_pts lo [] (by simp; omega)]
  simp only [bind_some', List.nil_append]
  rw [sorted_eq _ (by simp; omega)]
  simp only [bind_some']
  rw [setPts_perm (m := l.map (·.1)) fun x => (hlo.map (·.1)).mem_iff]
section
variable {c : Mz} (h : mzOk c = true) {fr to : Pt} {U : Us} {T : List (Gt × Gt)}
/-- What is marked: reached from without, and no further. -/
def mkB (K : List Gt) (fr : Pt) (g : Gt) : Bool := !g.2.2 && (!decide (((g.1, g.2.1, true) : Gt) ∈ K) && decide (gp g ≠ fr))
include h in
theorem fold_mk (hops : ∀ g ∈ T.map (·.1), opn c (gp g) = true) : ∀ (lo : List (Gt × Gt)) (acc : List (Pt × Bool)), (∀ e ∈ lo, e.1 ∈ T.map (·.1)) → (lo.map (·.1)).Nodup → (∀ e ∈ lo, mkB (T.map (·.1)) fr e.1 = true → gp e.1 ∉ acc.map (·.1)) →
    foldR (m_impl_apart_s2 fr.1 fr.2 T) acc lo = some (acc ++ (lo.filter fun e => mkB (T.map (·.1)) fr e.1).map fun e => (gp e.1, true))
  | [], acc, _, _, _ => by simp [foldR]
  | e :: lo, acc, hin, hn, hac => by
    obtain ⟨hn1, hn2⟩ := List.nodup_cons.1 (show (e.1 :: lo.map (·.1)).Nodup from hn)
    have oe := hops e.1 (hin e (by simp))
    have se := opn_smP h oe
    unfold smP gp at se
    simp only [] at se
    have ok1 : mpC (okIIB ((e.1.1, e.1.2.1, true))) = some () := by unfold mpC okIIB; simp [okI_sm, se]
    have ok2 : mpC (okII ((e.1.1, e.1.2.1))) = some () := by unfold mpC okII; simp [okI_sm, se]
    have e1 : (e.1.1 == fr.1 && e.1.2.1 == fr.2) = decide (gp e.1 = fr) := eqb (gp e.1) fr
    have hs : m_impl_apart_s2 fr.1 fr.2 T acc e = some (.next (if mkB (T.map (·.1)) fr e.1 = true then acc ++ [(gp e.1, true)] else acc)) := by
      unfold m_impl_apart_s2
      simp only []
      rw [ok1, ok2, e1, mget_in]
      simp only [bind_some']
      have hnew : mkB (T.map (·.1)) fr e.1 = true → mup acc ((e.1.1, e.1.2.1)) true = acc ++ [(gp e.1, true)] := fun hm => mup_new acc (gp e.1) true (hac e (by simp) hm)
      unfold mkB at hnew ⊢
      cases a1 : e.1.2.2 with
      | true => simp
      | false =>
        by_cases a2 : ((e.1.1, e.1.2.1, true) : Gt) ∈ T.map (·.1)
        · simp only [a2, decide_true, Bool.not_true, Bool.not_false, cond_true, cond_false, Bool.false_and, Bool.and_false, bind_some']
          simp
        · by_cases a3 : gp e.1 = fr
          · simp only [a2, a3, decide_true, decide_false, Bool.not_true, Bool.not_false, cond_true, cond_false, bind_some']
            simp
          · simp only [a1, a2, a3, decide_true, decide_false, Bool.not_true, Bool.not_false, cond_true, cond_false, bind_some', ne_eq, not_false_eq_true, Bool.and_true] at hnew ⊢
            rw [hnew trivial]; rfl
    simp only [foldR, hs]
    cases hm : mkB (T.map (·.1)) fr e.1 with
    | false =>
      rw [if_neg (by simp)]
      rw [fold_mk hops lo acc (fun x hx => hin x (by simp [hx])) hn2 (fun x hx => hac x (by simp [hx]))]
      rw [List.filter_cons, if_neg (by simp [hm])]
    | true =>
      rw [if_pos rfl]
      rw [fold_mk hops lo (acc ++ [(gp e.1, true)]) (fun x hx => hin x (by simp [hx])) hn2 (fun x hx hmx => ?_)]
      · rw [List.filter_cons, if_pos (by simp [hm])]
        simp
      · rw [List.map_append, List.mem_append]
        rintro (hh | hh)
        · exact hac x (by simp [hx]) hmx hh
        · simp only [List.map_cons, List.map_nil, List.mem_singleton] at hh
          have f1 : e.1.2.2 = false := by unfold mkB at hm; simp only [Bool.and_eq_true, Bool.not_eq_true'] at hm; exact hm.1
          have f2 : x.1.2.2 = false := by unfold mkB at hmx; simp only [Bool.and_eq_true, Bool.not_eq_true'] at hmx; exact hmx.1
          have : x.1 = e.1 := gate_eq hh (by rw [f1, f2])
          exact hn1 (by rw [← this]; exact List.mem_map.2 ⟨x, hx, rfl⟩)
def markV (K : List Gt) (fr : Pt) : List Pt := setPts ((K.filter (mkB K fr)).map gp)
theorem mem_markV {K : List Gt} {fr p : Pt} : p ∈ markV K fr ↔ ((p.1, p.2, false) : Gt) ∈ K ∧ ((p.1, p.2, true) : Gt) ∉ K ∧ p ≠ fr := by
  unfold markV
  rw [mem_setPts, List.mem_map]
  constructor
  · rintro ⟨g, hg, rfl⟩
    obtain ⟨h1, h2⟩ := List.mem_filter.1 hg
    unfold mkB at h2
    simp only [Bool.and_eq_true, Bool.not_eq_true', decide_eq_false_iff_not, decide_eq_true_eq] at h2
    have : ((gp g).1, (gp g).2, false) = g := by rw [← h2.1]; rfl
    exact ⟨by rw [this]; exact h1, h2.2.1, h2.2.2⟩
  · rintro ⟨h1, h2, h3⟩
    refine ⟨(p.1, p.2, false), List.mem_filter.2 ⟨h1, ?_⟩, rfl⟩
    unfold mkB
    simp only [Bool.not_false, Bool.true_and, Bool.and_eq_true, Bool.not_eq_true', decide_eq_false_iff_not, decide_eq_true_eq]
    exact ⟨h2, h3⟩
include h in
theorem apart_eq (hc : 1 < cells c) (hft : adjB fr to = false) (hne : fr ≠ to) (hfr : opn c fr = true) (hto : opn c to = true) :
    ∃ (K : List Gt) (U : Us), m_impl_apart c fr.1 fr.2 to.1 to.2 = some (outS (allG c) (flN U) (srcG fr), markV K fr) ∧ UOk c fr to U ∧ snkG to ∉ K ∧ ∀ g, g ∈ K ↔ Rch (allG c) (capM c fr to) (flN U) (srcG fr) g := by
  obtain ⟨T0, x, T, U, a1, a2, a3, a4, a5, a6, a7⟩ := rounds_eq h hc hft hne hfr hto
  have h288 := small_len h
  have hlen := a5.len (h := h)
  refine ⟨T.map (·.1), U, ?_, a3, a7, reach_iff h a3 hc a5 a6 a7⟩
  unfold m_impl_apart
  rw [a1]
  simp only [bind_some']
  rw [a2]
  simp only [bind_some']
  refine allO_is fun lo hlo => ?_
  have hin : ∀ e ∈ lo, e.1 ∈ T.map (·.1) := fun e he => List.mem_map.2 ⟨e, hlo.mem_iff.1 he, rfl⟩
  rw [fold_mk h a5.opn lo [] hin ((hlo.map (·.1)).nodup_iff.2 a5.tree.nd) (fun _ _ _ => by simp)]
  simp only [bind_some', List.nil_append]
  have hl := hlo.length_eq
  rw [pointsOf_eq _ (by
    rw [List.length_map]
    have := List.length_filter_le (fun e : Gt × Gt => mkB (T.map (·.1)) fr e.1) lo
    omega)]
  simp only [bind_some']
  rw [a4]
  congr 2
  refine setPts_perm fun p => ?_
  simp only [List.map_map, List.mem_map, List.mem_filter, Function.comp]
  constructor
  · rintro ⟨e, ⟨he, hm⟩, rfl⟩
    exact ⟨e.1, ⟨⟨e, hlo.mem_iff.1 he, rfl⟩, hm⟩, rfl⟩
  · rintro ⟨g, ⟨⟨e, he, rfl⟩, hm⟩, rfl⟩
    exact ⟨e, ⟨hlo.mem_iff.2 he, hm⟩, rfl⟩
end
end Go.Proofs.Ytcknpoeannbpbaa

set_option linter.unusedSimpArgs false
set_option linter.unusedVariables false
set_option linter.unusedSectionVars false
namespace Go.Proofs.Ytcknpoeannbpbaa
open Go.RowKit

structure MatOk (M : List (List Int)) (n : Nat) : Prop where
  len : M.length = n
  row : ∀ r ∈ M, r.length = n
def mAt (M : List (List Int)) (i j : Nat) : Int := (M.getD i []).getD j 0
theorem MatOk.at {M : List (List Int)} {n : Nat} (h : MatOk M n) {i j : Nat} (hi : i < n) (hj : j < n) : geti M (i : Int) = some (M.getD i []) ∧ geti (M.getD i []) (j : Int) = some (mAt M i j) ∧ (M.getD i []).length = n := by
  have hi' : i < M.length := by rw [h.len]; exact hi
  have e : M.getD i [] = M[i] := by rw [List.getD, List.getElem?_eq_getElem hi']; rfl
  have hr := h.row _ (List.getElem_mem hi')
  unfold mAt
  rw [e]
  have hj' : j < M[i].length := by omega
  have e2 : M[i].getD j 0 = M[i][j] := by rw [List.getD, List.getElem?_eq_getElem hj']; rfl
  rw [e2]
  exact ⟨geti_lt hi', geti_lt hj', hr⟩
def parF (T : List (Nat × Nat)) (k : Nat) : Int := match mget T k with
  | some p => (p : Int)
  | none => -1
def lbF (n : Nat) (f : Nat → Int) : List Int := (List.range n).map f
theorem lbF_at {n k : Nat} {f : Nat → Int} (h : k < n) : geti (lbF n f) (k : Int) = some (f k) := by rw [geti_nat]; unfold lbF; simp [h]
theorem lbF_set {n k : Nat} {f : Nat → Int} (h : k < n) (x : Int) : (lbF n f).set k x = lbF n fun j => if j = k then x else f j := by
  apply List.ext_getElem?
  intro j
  unfold lbF
  rw [List.getElem?_set]
  simp only [List.length_map, List.length_range, List.getElem?_map]
  by_cases e : k = j
  · subst e; simp [h]
  · rw [if_neg e]
    by_cases hj : j < n
    · simp [hj, Ne.symm e]
    · simp [hj]
theorem parF_neg {T : List (Nat × Nat)} {k : Nat} : parF T k < 0 ↔ k ∉ T.map (·.1) := by
  unfold parF
  have := mget_in T k
  cases hm : mget T k with
  | none =>
    rw [hm] at this
    have hk : k ∉ T.map (·.1) := of_decide_eq_false this.symm
    exact ⟨fun _ => hk, fun _ => by show (-1 : Int) < 0; omega⟩
  | some p =>
    rw [hm] at this
    have hk : k ∈ T.map (·.1) := of_decide_eq_true this.symm
    exact ⟨fun hh => absurd (show (p : Int) < 0 from hh) (by omega), fun hh => absurd hk hh⟩
theorem parF_snoc {T : List (Nat × Nat)} {b a : Nat} (hb : b ∉ T.map (·.1)) (j : Nat) : parF (T ++ [(b, a)]) j = if j = b then (a : Int) else parF T j := by
  unfold parF mget
  rw [List.find?_append]
  by_cases e : j = b
  · subst e
    have hn : T.find? (fun p => decide (p.1 = j)) = none := by
      rw [List.find?_eq_none]
      intro x hx
      simp only [decide_eq_true_eq]
      exact fun e => hb (by rw [← e]; exact List.mem_map.2 ⟨x, hx, rfl⟩)
    rw [if_pos rfl]
    simp [hn]
  · rw [if_neg e]
    have : [(b, a)].find? (fun p : Nat × Nat => decide (p.1 = j)) = none := by simp [Ne.symm e]
    rw [this, Option.or_none]
section
variable {M : List (List Int)} {n : Nat} (hM : MatOk M n) (hn : n ≤ 288)
structure SrchS (M : List (List Int)) (n b : Nat) (T : List (Nat × Nat)) : Prop where
  tree : BTree (fun i j => 0 < mAt M i j) b T
  lt : ∀ k ∈ T.map (·.1), k < n
theorem SrchS.len {b : Nat} {T : List (Nat × Nat)} (hS : SrchS M n b T) : T.length ≤ n := by
  have := nodup_le (T.map (·.1)) (List.range n) hS.tree.nd fun k hk => List.mem_range.2 (hS.lt k hk)
  simpa using this
def keyI (T : List (Nat × Nat)) : List Int := T.map fun e => (e.1 : Int)
include hM hn in
theorem innerS_eq {b : Nat} {T0 : List (Nat × Nat)} {i : Nat} (hi : i < T0.length) (hS0 : SrchS M n b T0) :
    ∃ ext : List (Nat × Nat), loopM (m_spec_l04Search_s5 M (i : Int)) (keyI T0, 0, lbF n (parF T0)) = some (keyI (T0 ++ ext), lbF n (parF (T0 ++ ext))) ∧ SrchS M n b (T0 ++ ext) ∧ ∀ j, j < n → 0 < mAt M T0[i].1 j → j ∈ (T0 ++ ext).map (·.1) := by
  have hv : T0[i].1 < n := hS0.lt _ (List.mem_map.2 ⟨_, List.getElem_mem hi, rfl⟩)
  have hvm : T0[i].1 ∈ T0.map (·.1) := List.mem_map.2 ⟨_, List.getElem_mem hi, rfl⟩
  obtain ⟨r, h1, ext, h2, h3, h4⟩ := loopM_count (m_spec_l04Search_s5 M (i : Int)) n
    (fun k st => ∃ ext : List (Nat × Nat), st = (keyI (T0 ++ ext), (k : Int), lbF n (parF (T0 ++ ext))) ∧ SrchS M n b (T0 ++ ext) ∧ ∀ j, j < k → 0 < mAt M T0[i].1 j → j ∈ (T0 ++ ext).map (·.1))
    (fun r => ∃ ext : List (Nat × Nat), r = (keyI (T0 ++ ext), lbF n (parF (T0 ++ ext))) ∧ SrchS M n b (T0 ++ ext) ∧ ∀ j, j < n → 0 < mAt M T0[i].1 j → j ∈ (T0 ++ ext).map (·.1))
    (s0 := (keyI T0, 0, lbF n (parF T0))) ⟨[], by simp, by simpa using hS0, fun j hj => by omega⟩ (by
      rintro k _ hk ⟨ext, rfl, hS, hall⟩
      left
      have hlen := hS.len
      have hgi : geti (keyI (T0 ++ ext)) (i : Int) = some (T0[i].1 : Int) := by
        rw [geti_nat]; unfold keyI
        rw [List.getElem?_map, List.getElem?_append_left hi, List.getElem?_eq_getElem hi]; rfl
      obtain ⟨m1, m2, m3⟩ := hM.at hv hk
      unfold m_spec_l04Search_s5
      simp only []
      rw [bif_t (by simp only [decide_eq_true_eq]; rw [hM.len]; omega), hgi]
      simp only [bind_some']
      rw [m1]
      simp only [bind_some']
      rw [m2]
      simp only [bind_some']
      have hwr : wr ((k : Int) + 1) = ((k + 1 : Nat) : Int) := by rw [wr_in (by omega)]; rfl
      by_cases c1 : 0 < mAt M T0[i].1 k
      · rw [bif_t (by simpa using c1), lbF_at hk]
        simp only [bind_some']
        by_cases c2 : k ∈ (T0 ++ ext).map (·.1)
        · rw [bif_f (by simp only [decide_eq_false_iff_not]; exact fun hh => parF_neg.1 hh c2)]
          simp only [bind_some', hwr]
          exact ⟨_, rfl, ext, rfl, hS, fun j hj hr => by
            by_cases e : j = k
            · subst e; exact c2
            · exact hall j (by omega) hr⟩
        · rw [bif_t (by simp only [decide_eq_true_eq]; exact parF_neg.2 c2), apC_ok (by unfold lim keyI; simp; simp at hlen; omega)]
          simp only [bind_some', hwr, Int.toNat_natCast]
          have hS2 : SrchS M n b (T0 ++ (ext ++ [(k, T0[i].1)])) := by
            rw [← List.append_assoc]
            refine ⟨hS.tree.snoc (by rw [List.map_append]; exact List.mem_append.2 (Or.inl hvm)) c2 c1, fun x hx => ?_⟩
            rw [List.map_append, List.mem_append] at hx
            rcases hx with hx | hx
            · exact hS.lt x hx
            · simp only [List.map_cons, List.map_nil, List.mem_singleton] at hx; subst hx; exact hk
          refine ⟨_, rfl, ext ++ [(k, T0[i].1)], ?_, hS2, fun j hj hr => ?_⟩
          · rw [lbF_set hk, ← List.append_assoc]
            have e1 : keyI (T0 ++ ext ++ [(k, T0[i].1)]) = keyI (T0 ++ ext) ++ [(k : Int)] := by unfold keyI; simp
            have e2 : (fun j => if j = k then ((T0[i].1 : Nat) : Int) else parF (T0 ++ ext) j) = parF (T0 ++ ext ++ [(k, T0[i].1)]) := funext fun j => (parF_snoc c2 j).symm
            rw [e1, e2]
          · rw [← List.append_assoc, List.map_append, List.mem_append]
            by_cases e : j = k
            · subst e; exact Or.inr (by simp)
            · exact Or.inl (hall j (by omega) hr)
      · rw [bif_f (by simpa using c1)]
        simp only [bind_some', hwr]
        exact ⟨_, rfl, ext, rfl, hS, fun j hj hr => by
          by_cases e : j = k
          · subst e; exact absurd hr c1
          · exact hall j (by omega) hr⟩) (by
      rintro _ ⟨ext, rfl, hS, hall⟩
      unfold m_spec_l04Search_s5
      simp only []
      rw [bif_f (by simp only [decide_eq_false_iff_not]; rw [hM.len]; omega)]
      exact ⟨_, rfl, ext, rfl, hS, hall⟩)
  subst h2
  exact ⟨ext, h1, h3, h4⟩
include hM hn in
theorem searchS_eq {b : Nat} (hb : b < n) : ∃ T : List (Nat × Nat), m_spec_l04Search M (b : Int) = some (lbF n (parF T)) ∧ SrchS M n b T ∧ ∀ i ∈ T.map (·.1), ∀ j, j < n → 0 < mAt M i j → j ∈ T.map (·.1) := by
  unfold m_spec_l04Search
  have hl := loop_run (step := m_spec_l04Search_s1 M) n (fun k => (List.replicate k (-1 : Int), (k : Int))) (r := List.replicate n (-1 : Int)) (by
    intro k hk
    unfold m_spec_l04Search_s1
    simp only []
    rw [bif_t (by simp only [decide_eq_true_eq]; rw [hM.len]; omega), apC_ok (by unfold lim; simp; omega)]
    simp only [bind_some']
    rw [wr_in (by omega), List.replicate_succ']; rfl) (by
    unfold m_spec_l04Search_s1
    simp only []
    rw [bif_f (by simp only [decide_eq_false_iff_not]; rw [hM.len]; omega)])
  have e0 : (List.replicate 0 (-1 : Int), ((0 : Nat) : Int)) = (([] : List Int), (0 : Int)) := rfl
  rw [e0] at hl
  rw [hl]
  simp only [bind_some']
  have e1 : List.replicate n (-1 : Int) = lbF n (parF []) := by
    unfold lbF
    apply List.ext_getElem?
    intro j
    by_cases hj : j < n
    · simp [List.getElem?_replicate, hj, parF, mget]
    · simp [List.getElem?_replicate, hj]
  rw [e1, lbF_at hb]
  simp only [bind_some', Int.toNat_natCast]
  rw [lbF_set hb]
  have e2 : (fun j => if j = b then (b : Int) else parF [] j) = parF [(b, b)] := funext fun j => (parF_snoc (T := []) (by simp) j).symm
  rw [e2]
  have hS0 : SrchS M n b [(b, b)] := ⟨⟨rfl, by simp, fun i hi h0 => by simp at hi; omega⟩, fun k hk => by simp only [List.map_cons, List.map_nil, List.mem_singleton] at hk; subst hk; exact hb⟩
  obtain ⟨r, h1, T, h2, h3, h4⟩ := loopM_count (m_spec_l04Search_s4 M) n
    (fun k st => ∃ T : List (Nat × Nat), st = (keyI T, (k : Int), lbF n (parF T)) ∧ SrchS M n b T ∧ k ≤ T.length ∧ ∀ i (hi : i < T.length), i < k → ∀ j, j < n → 0 < mAt M T[i].1 j → j ∈ T.map (·.1))
    (fun r => ∃ T : List (Nat × Nat), r = lbF n (parF T) ∧ SrchS M n b T ∧ ∀ i ∈ T.map (·.1), ∀ j, j < n → 0 < mAt M i j → j ∈ T.map (·.1))
    (s0 := ([(b : Int)], 0, lbF n (parF [(b, b)]))) ⟨[(b, b)], rfl, hS0, by simp, fun i _ hi => by omega⟩ (by
      rintro k _ hk ⟨T, rfl, hS, hkl, hall⟩
      have hlen := hS.len
      unfold m_spec_l04Search_s4
      simp only []
      have hkI : (keyI T).length = T.length := by simp [keyI]
      by_cases c1 : k < T.length
      · left
        rw [bif_t (by simp only [decide_eq_true_eq]; rw [hkI]; omega)]
        obtain ⟨ext, x1, x2, x3⟩ := innerS_eq hM hn c1 hS
        rw [x1]
        simp only [bind_some']
        refine ⟨_, rfl, T ++ ext, by rw [wr_in (by omega)]; rfl, x2, by simp; omega, fun i hi hik j hj hr => ?_⟩
        by_cases e : i = k
        · subst e
          have : (T ++ ext)[i] = T[i] := List.getElem_append_left c1
          rw [this] at hr
          exact x3 j hj hr
        · have hiT : i < T.length := by omega
          have : (T ++ ext)[i] = T[i] := List.getElem_append_left hiT
          rw [this] at hr
          rw [List.map_append, List.mem_append]
          exact Or.inl (hall i hiT (by omega) j hj hr)
      · right
        rw [bif_f (by simp only [decide_eq_false_iff_not]; rw [hkI]; omega)]
        refine ⟨_, rfl, T, rfl, hS, fun i hi => ?_⟩
        obtain ⟨x, hx, rfl⟩ := List.mem_map.1 hi
        obtain ⟨q, hq, rfl⟩ := List.mem_iff_getElem.1 hx
        exact hall q hq (by omega)) (by
      rintro _ ⟨T, rfl, hS, hkl, hall⟩
      have hlen := hS.len
      unfold m_spec_l04Search_s4
      simp only []
      have hkI : (keyI T).length = T.length := by simp [keyI]
      rw [bif_f (by simp only [decide_eq_false_iff_not]; rw [hkI]; omega)]
      refine ⟨_, rfl, T, rfl, hS, fun i hi => ?_⟩
      obtain ⟨x, hx, rfl⟩ := List.mem_map.1 hi
      obtain ⟨q, hq, rfl⟩ := List.mem_iff_getElem.1 hx
      exact hall q hq (by omega))
  rw [h1]
  subst h2
  exact ⟨T, rfl, h3, h4⟩
end
end Go.Proofs.Ytcknpoeannbpbaa

set_option linter.unusedSimpArgs false
set_option linter.unusedVariables false
set_option linter.unusedSectionVars false
namespace Go.Proofs.Ytcknpoeannbpbaa
open Go.RowKit

def mat (n : Nat) (R : Nat → Nat → Int) : List (List Int) := (List.range n).map fun i => lbF n (R i)
theorem mat_row {n i : Nat} {R : Nat → Nat → Int} (h : i < n) : geti (mat n R) (i : Int) = some (lbF n (R i)) := by rw [geti_nat]; unfold mat; simp [h]
theorem mat_ok (n : Nat) (R : Nat → Nat → Int) : MatOk (mat n R) n := ⟨by simp [mat], fun r hr => by
  obtain ⟨i, _, rfl⟩ := List.mem_map.1 hr
  simp [lbF]⟩
theorem mat_at {n i j : Nat} {R : Nat → Nat → Int} (hi : i < n) (hj : j < n) : mAt (mat n R) i j = R i j := by
  obtain ⟨h1, h2, _⟩ := (mat_ok n R).at hi hj
  rw [mat_row hi] at h1
  have e : lbF n (R i) = (mat n R).getD i [] := Option.some.inj h1
  rw [← e, lbF_at hj] at h2
  exact (Option.some.inj h2).symm
def upd2 (R : Nat → Nat → Int) (i j : Nat) (v : Int) : Nat → Nat → Int := fun x y => if x = i ∧ y = j then v else R x y
theorem mat_set {n i j : Nat} {R : Nat → Nat → Int} (hi : i < n) (hj : j < n) (v : Int) : (mat n R).set i ((lbF n (R i)).set j v) = mat n (upd2 R i j v) := by
  rw [lbF_set hj]
  apply List.ext_getElem?
  intro x
  unfold mat
  rw [List.getElem?_set]
  simp only [List.length_map, List.length_range, List.getElem?_map]
  by_cases e : i = x
  · subst e
    rw [if_pos rfl, if_pos hi]
    simp only [List.getElem?_range hi, Option.map_some, Option.some.injEq]
    unfold lbF
    refine List.map_congr_left fun y _ => ?_
    unfold upd2
    by_cases e2 : y = j <;> simp [e2]
  · rw [if_neg e]
    by_cases hx : x < n
    · simp only [List.getElem?_range hx, Option.map_some, Option.some.injEq]
      unfold lbF
      refine List.map_congr_left fun y _ => ?_
      unfold upd2
      rw [if_neg (fun hh => e hh.1.symm)]
    · simp [hx]
theorem mat_congr {n : Nat} {R R' : Nat → Nat → Int} (h : ∀ i j, i < n → j < n → R i j = R' i j) : mat n R = mat n R' := by
  unfold mat lbF
  refine List.map_congr_left fun i hi => List.map_congr_left fun j hj => h i j (List.mem_range.1 hi) (List.mem_range.1 hj)
/-- The gate of a number. -/
def gtI (c : Mz) (i : Nat) : Gt := (((i / 2 % mzW c : Nat) : Int), ((i / 2 / mzW c : Nat) : Int), decide (i % 2 = 1))
def ixP (c : Mz) (p : Pt) : Nat := (p.2 * mzW c + p.1).toNat
def ixG (c : Mz) (g : Gt) : Nat := 2 * ixP c (gp g) + (if g.2.2 then 1 else 0)
def nG (c : Mz) : Nat := 2 * (mzW c * c.length)
section
variable {c : Mz} (h : mzOk c = true)
include h in
theorem ix_ok {p : Pt} (hp : hasC c p = true) : ixP c p < mzW c * c.length ∧ (ixP c p : Int) = p.2 * mzW c + p.1 ∧ ixP c p % mzW c = p.1 ∧ ((ixP c p / mzW c : Nat) : Int) = p.2 := by
  obtain ⟨h1, h2, h3, h4, _⟩ := mzOk_t h
  unfold hasC at hp
  simp only [Bool.and_eq_true, decide_eq_true_eq] at hp
  obtain ⟨⟨a1, a2⟩, a3, a4⟩ := hp
  obtain ⟨x, y⟩ := p
  have a1 : 0 ≤ y := a1
  have a2 : y < c.length := a2
  have a3 : 0 ≤ x := a3
  have a4 : x < mzW c := a4
  obtain ⟨X, rfl⟩ := Int.eq_ofNat_of_zero_le a3
  obtain ⟨Y, rfl⟩ := Int.eq_ofNat_of_zero_le a1
  have hX : X < mzW c := by omega
  have hY : Y < c.length := by omega
  have e0 : ixP c ((X : Int), (Y : Int)) = Y * mzW c + X := by
    unfold ixP
    show ((Y : Int) * (mzW c : Int) + (X : Int)).toNat = _
    rw [← Int.natCast_mul, ← Int.natCast_add, Int.toNat_natCast]
  have e1 : (Y * mzW c + X) % mzW c = X := by rw [Nat.add_comm, Nat.add_mul_mod_self_right]; exact Nat.mod_eq_of_lt hX
  have e2 : (Y * mzW c + X) / mzW c = Y := by rw [Nat.add_comm, Nat.add_mul_div_right _ _ (by omega), Nat.div_eq_of_lt hX]; omega
  have hlt : Y * mzW c + X < mzW c * c.length := by
    have h5 : (Y + 1) * mzW c ≤ c.length * mzW c := Nat.mul_le_mul_right _ (by omega)
    rw [Nat.add_mul, Nat.one_mul, Nat.mul_comm c.length] at h5
    omega
  rw [e0]
  refine ⟨hlt, ?_, ?_, ?_⟩
  · show _ = (Y : Int) * (mzW c : Int) + (X : Int)
    rw [Int.natCast_add, Int.natCast_mul]
  · show (((Y * mzW c + X) % mzW c : Nat) : Int) = (X : Int)
    rw [e1]
  · rw [e2]
include h in
theorem gt_ix {g : Gt} (hg : hasC c (gp g) = true) : gtI c (ixG c g) = g ∧ ixG c g < nG c := by
  obtain ⟨i1, i2, i3, i4⟩ := ix_ok h hg
  obtain ⟨x, y, b⟩ := g
  have e1 : ixG c (x, y, b) / 2 = ixP c (x, y) := by unfold ixG gp; cases b <;> simp <;> omega
  have e2 : decide (ixG c (x, y, b) % 2 = 1) = b := by unfold ixG gp; cases b <;> simp <;> omega
  refine ⟨?_, ?_⟩
  · unfold gtI
    rw [e1, e2]
    have i3' : ((ixP c (x, y) % mzW c : Nat) : Int) = x := i3
    have i4' : ((ixP c (x, y) / mzW c : Nat) : Int) = y := i4
    rw [i3', i4']
  · unfold nG
    have : ixP c (x, y) < mzW c * c.length := i1
    unfold ixG gp
    cases b <;> simp <;> omega
include h in
theorem gt_inj {i j : Nat} (hi : i < nG c) (hj : j < nG c) (e : gtI c i = gtI c j) : i = j := by
  have hn := allG_nodup h
  have hi' : i < (allG c).length := by rw [allG_len]; exact hi
  have hj' : j < (allG c).length := by rw [allG_len]; exact hj
  have g1 : (allG c)[i] = gtI c i := by unfold allG gtI; simp
  have g2 : (allG c)[j] = gtI c j := by unfold allG gtI; simp
  exact (List.getElem_inj (h₀ := hi') (h₁ := hj') hn).1 (by rw [g1, g2, e])
include h in
theorem gt_has {i : Nat} (hi : i < nG c) : hasC c (gp (gtI c i)) = true := by
  obtain ⟨h1, h2, h3, h4, _⟩ := mzOk_t h
  unfold nG at hi
  have a1 : i / 2 % mzW c < mzW c := Nat.mod_lt _ (by omega)
  have a2 : i / 2 / mzW c < c.length := by
    rw [Nat.div_lt_iff_lt_mul (by omega), Nat.mul_comm]
    omega
  unfold hasC gp gtI
  simp only [Bool.and_eq_true, decide_eq_true_eq]
  exact ⟨⟨Int.natCast_nonneg _, Int.ofNat_lt.2 a2⟩, Int.natCast_nonneg _, Int.ofNat_lt.2 a1⟩
include h in
theorem index_eq {p : Pt} (hp : hasC c p = true) : m_spec_l04Index_bimplMaze c p.1 p.2 = some (ixP c p : Int) := by
  obtain ⟨h1, h2, h3, h4, _⟩ := mzOk_t h
  obtain ⟨i1, i2, _⟩ := ix_ok h hp
  have h288 := small_len h
  unfold m_spec_l04Index_bimplMaze
  rw [geti0 h1]
  simp only [bind_some']
  have e : ((c.getD 0 []).length : Int) = (mzW c : Int) := rfl
  rw [e]
  unfold hasC at hp
  simp only [Bool.and_eq_true, decide_eq_true_eq] at hp
  have hy : 0 ≤ p.2 * (mzW c : Int) := Int.mul_nonneg hp.1.1 (by omega)
  rw [wr_in (x := p.2 * (mzW c : Int)) (by omega), wr_in (by omega), i2]
end
end Go.Proofs.Ytcknpoeannbpbaa

set_option linter.unusedSimpArgs false
set_option linter.unusedVariables false
set_option linter.unusedSectionVars false
namespace Go.Proofs.Ytcknpoeannbpbaa
open Go.RowKit

section
variable {c : Mz} (h : mzOk c = true) {fr to : Pt}
def cpt (c : Mz) (k : Nat) : Pt := (((k % mzW c : Nat) : Int), ((k / mzW c : Nat) : Int))
/-- The bounds by numbers. -/
def capI (c : Mz) (fr to : Pt) (i j : Nat) : Int := capM c fr to (gtI c i) (gtI c j)
/-- Behind k cells. -/
def rmF (c : Mz) (fr to : Pt) (k : Nat) (i j : Nat) : Int := if i / 2 < k then capI c fr to i j else 0
/-- Amid cell k: its own room is laid, and the first m neighbours' too. -/
def rmG (c : Mz) (fr to : Pt) (k m : Nat) (i j : Nat) : Int :=
  if i = 2 * k + 1 then (if (List.range m).any fun q => opn c (nb (cpt c k) q) && decide (j = 2 * ixP c (nb (cpt c k) q)) then cells c else 0)
  else if i = 2 * k then capI c fr to i j else rmF c fr to k i j
include h in
theorem cpt_gt {k : Nat} (b : Bool) (hk : k < mzW c * c.length) : gtI c (2 * k + if b then 1 else 0) = ((cpt c k).1, (cpt c k).2, b) := by
  unfold gtI cpt
  have e1 : (2 * k + if b then 1 else 0) / 2 = k := by cases b <;> simp <;> omega
  have e2 : decide ((2 * k + if b then 1 else 0) % 2 = 1) = b := by cases b <;> simp <;> omega
  rw [e1, e2]
include h in
theorem cap_row0 {k j : Nat} (hk : k < mzW c * c.length) (hj : j < nG c) : capI c fr to (2 * k) j = if j = 2 * k + 1 then (if opn c (cpt c k) = true ∧ cpt c k ≠ fr ∧ cpt c k ≠ to then 1 else 0) else 0 := by
  have e0 : gtI c (2 * k) = ((cpt c k).1, (cpt c k).2, false) := by have := cpt_gt h false hk; simpa using this
  have e1 : gtI c (2 * k + 1) = ((cpt c k).1, (cpt c k).2, true) := by have := cpt_gt h true hk; simpa using this
  have hlt : 2 * k + 1 < nG c := by unfold nG; omega
  unfold capI capM
  rw [e0]
  by_cases c1 : j = 2 * k + 1
  · subst c1
    rw [e1, if_pos ⟨rfl, rfl, rfl⟩, if_pos rfl]
    rfl
  · rw [if_neg c1]
    have hn : ¬ ((((cpt c k).1, (cpt c k).2, false) : Gt).2.2 = false ∧ (gtI c j).2.2 = true ∧ gp ((cpt c k).1, (cpt c k).2, false) = gp (gtI c j)) := fun ⟨_, q2, q3⟩ => by
      refine c1 (gt_inj h hj hlt ?_)
      rw [e1]
      exact gate_eq q3.symm q2
    rw [if_neg hn, if_neg (by simp)]
include h in
theorem cap_row1 {k j : Nat} (hk : k < mzW c * c.length) (hj : j < nG c) (ho : opn c (cpt c k) = true) : capI c fr to (2 * k + 1) j = if (List.range 4).any (fun q => opn c (nb (cpt c k) q) && decide (j = 2 * ixP c (nb (cpt c k) q))) then cells c else 0 := by
  have e1 : gtI c (2 * k + 1) = ((cpt c k).1, (cpt c k).2, true) := by have := cpt_gt h true hk; simpa using this
  unfold capI capM
  rw [e1, if_neg (by simp)]
  have key : ((((cpt c k).1, (cpt c k).2, true) : Gt).2.2 = true ∧ (gtI c j).2.2 = false ∧ adjB (gp ((cpt c k).1, (cpt c k).2, true)) (gp (gtI c j)) = true ∧ opn c (gp ((cpt c k).1, (cpt c k).2, true)) = true ∧ opn c (gp (gtI c j)) = true) ↔ (List.range 4).any (fun q => opn c (nb (cpt c k) q) && decide (j = 2 * ixP c (nb (cpt c k) q))) = true := by
    simp only [List.any_eq_true, List.mem_range, Bool.and_eq_true, decide_eq_true_eq]
    constructor
    · rintro ⟨_, q2, q3, _, q5⟩
      obtain ⟨q, hq, e⟩ := adjB_t.1 q3
      have e' : gp (gtI c j) = nb (cpt c k) q := e
      refine ⟨q, hq, by rw [← e']; exact q5, ?_⟩
      have hh : hasC c (gp (gtI c j)) = true := gt_has h hj
      obtain ⟨g1, g2⟩ := gt_ix h (g := gtI c j) hh
      have := gt_inj h g2 hj g1
      rw [← this]
      unfold ixG
      rw [q2, e']; simp
    · rintro ⟨q, hq, q1, rfl⟩
      have hh : hasC c (gp (((nb (cpt c k) q).1, (nb (cpt c k) q).2, false) : Gt)) = true := opn_has q1
      obtain ⟨g1, g2⟩ := gt_ix h (g := ((nb (cpt c k) q).1, (nb (cpt c k) q).2, false)) hh
      have e2 : ixG c ((nb (cpt c k) q).1, (nb (cpt c k) q).2, false) = 2 * ixP c (nb (cpt c k) q) := by unfold ixG gp; simp
      rw [e2] at g1
      rw [g1]
      exact ⟨trivial, rfl, adjB_t.2 ⟨q, hq, rfl⟩, ho, q1⟩
  by_cases cc : (List.range 4).any (fun q => opn c (nb (cpt c k) q) && decide (j = 2 * ixP c (nb (cpt c k) q))) = true
  · rw [if_pos (key.2 cc), if_pos cc]
  · rw [if_neg (fun hh => cc (key.1 hh)), if_neg cc]
include h in
theorem cap_closed {k i j : Nat} (hk : k < mzW c * c.length) (hi : i / 2 = k) (ho : opn c (cpt c k) = false) : capI c fr to i j = 0 := by
  have hg : gp (gtI c i) = cpt c k := by unfold gp gtI cpt; rw [hi]
  by_cases cc : 0 < capI c fr to i j
  · rcases cap_pos cc with ⟨_, _, _, q4, _⟩ | ⟨_, _, _, q4, _⟩
    · rw [hg, ho] at q4; exact absurd q4 (by simp)
    · rw [hg, ho] at q4; exact absurd q4 (by simp)
  · have := cap_nn (c := c) (fr := fr) (to := to) (gtI c i) (gtI c j)
    unfold capI at cc ⊢
    omega
end
end Go.Proofs.Ytcknpoeannbpbaa

set_option linter.unusedSimpArgs false
set_option linter.unusedVariables false
set_option linter.unusedSectionVars false
namespace Go.Proofs.Ytcknpoeannbpbaa
open Go.RowKit

section
variable {c : Mz} (h : mzOk c = true) {fr to : Pt}
include h in
theorem cells_wr : wr ((c.length : Int) * (mzW c : Int)) = ((mzW c * c.length : Nat) : Int) := by
  have h288 := small_len h
  have e : (c.length : Int) * (mzW c : Int) = ((mzW c * c.length : Nat) : Int) := by rw [Int.natCast_mul, Int.mul_comm]
  rw [e, wr_in (by omega)]
include h in
/-- One cell's neighbours. -/
theorem room_s8 {k : Nat} (hk : k < mzW c * c.length) (ho : opn c (cpt c k) = true) : loopM (m_spec_l04Room_bimplMaze_s8 c (c.getD 0 []) (k : Int)) (0, mat (nG c) (rmG c fr to k 0)) = some (mat (nG c) (rmG c fr to k 4)) := by
  have h288 := small_len h
  obtain ⟨h1, h2, h3, h4, _⟩ := mzOk_t h
  have hl := loop_run (step := m_spec_l04Room_bimplMaze_s8 c (c.getD 0 []) (k : Int)) 4 (fun m => ((m : Int), mat (nG c) (rmG c fr to k m))) (r := mat (nG c) (rmG c fr to k 4)) (by
    intro m hm
    have hW : ((c.getD 0 []).length : Int) = (mzW c : Int) := rfl
    have e1 : Int.tmod (k : Int) (mzW c : Int) = (cpt c k).1 := by
      unfold cpt; rw [Int.tmod_eq_emod_of_nonneg (by omega), ← Int.natCast_emod]
    have e2 : wr (Int.tdiv (k : Int) (mzW c : Int)) = (cpt c k).2 := by
      have hdle : k / mzW c ≤ k := Nat.div_le_self _ _
      have e : Int.tdiv (k : Int) (mzW c : Int) = ((k / mzW c : Nat) : Int) := by rw [Int.tdiv_eq_ediv_of_nonneg (by omega), ← Int.natCast_ediv]
      have hz : ∀ z : Nat, z ≤ k → wr (z : Int) = (z : Int) := fun z hz => wr_in (by omega)
      rw [e, hz _ hdle]; rfl
    have sm := opn_smP h ho
    unfold m_spec_l04Room_bimplMaze_s8
    simp only []
    rw [hW, e1, e2, bif_t (by simp; omega), step_eq sm hm]
    simp only [bind_some']
    rw [specOpen_eq h]
    simp only [bind_some']
    have hrow : 2 * k + 1 < nG c := by unfold nG; omega
    have hwr : wr ((m : Int) + 1) = ((m + 1 : Nat) : Int) := by rw [wr_in (by omega)]; rfl
    cases hq : opn c (nb (cpt c k) m) with
    | false =>
      rw [bif_f (by rfl)]
      simp only [bind_some', hwr]
      have : mat (nG c) (rmG c fr to k m) = mat (nG c) (rmG c fr to k (m + 1)) := mat_congr fun i j _ _ => by
        unfold rmG
        by_cases c1 : i = 2 * k + 1
        · rw [if_pos c1, if_pos c1, List.range_succ, List.any_append]
          simp [hq]
        · rw [if_neg c1, if_neg c1]
      rw [this]
    | true =>
      have hh := opn_has hq
      obtain ⟨i1, _⟩ := ix_ok h hh
      have hcol : 2 * ixP c (nb (cpt c k) m) < nG c := by unfold nG; omega
      have hz2 : ∀ z : Nat, z < mzW c * c.length → wr (2 * (z : Int)) = ((2 * z : Nat) : Int) := fun z hz => by rw [wr_in (by omega)]; omega
      have ec : wr (2 * (ixP c (nb (cpt c k) m) : Int)) = ((2 * ixP c (nb (cpt c k) m) : Nat) : Int) := hz2 _ i1
      have er : wr ((wr (2 * (k : Int))) + 1) = ((2 * k + 1 : Nat) : Int) := by rw [hz2 k hk, wr_in (by omega)]; rfl
      rw [bif_t (by rfl), er, mat_row hrow]
      simp only [bind_some']
      rw [index_eq h hh]
      simp only [bind_some']
      rw [ec, lbF_at hcol]
      simp only [bind_some', hwr, Int.toNat_natCast]
      rw [cells_wr h, mat_set hrow hcol]
      have : mat (nG c) (upd2 (rmG c fr to k m) (2 * k + 1) (2 * ixP c (nb (cpt c k) m)) ((mzW c * c.length : Nat) : Int)) = mat (nG c) (rmG c fr to k (m + 1)) := mat_congr fun i j _ _ => by
        unfold upd2 rmG
        by_cases c1 : i = 2 * k + 1
        · rw [if_pos c1, if_pos c1, List.range_succ, List.any_append]
          by_cases c2 : j = 2 * ixP c (nb (cpt c k) m)
          · rw [if_pos ⟨c1, c2⟩]
            simp [hq, c2, cells]
          · rw [if_neg (fun hh => c2 hh.2)]
            simp [hq, c2]
        · rw [if_neg c1, if_neg c1, if_neg (fun hh => c1 hh.1)]
      rw [this]) (by
    unfold m_spec_l04Room_bimplMaze_s8
    simp only []
    rw [bif_f (by rfl)])
  exact hl
include h in
theorem rmG_4 {k : Nat} (hk : k < mzW c * c.length) (ho : opn c (cpt c k) = true) : mat (nG c) (rmG c fr to k 4) = mat (nG c) (rmF c fr to (k + 1)) := mat_congr fun i j hi hj => by
  unfold rmG rmF
  by_cases c1 : i = 2 * k + 1
  · subst c1
    rw [if_pos rfl, if_pos (show (2 * k + 1) / 2 < k + 1 by omega), cap_row1 h hk hj ho]
  · rw [if_neg c1]
    by_cases c2 : i = 2 * k
    · rw [if_pos c2, if_pos (show i / 2 < k + 1 by omega)]
    · rw [if_neg c2]
      by_cases c3 : i / 2 < k
      · rw [if_pos c3, if_pos (by omega)]
      · rw [if_neg c3, if_neg (by omega)]
include h in
theorem room_eqS : m_spec_l04Room_bimplMaze c fr.1 fr.2 to.1 to.2 = some (mat (nG c) (capI c fr to)) := by
  have h288 := small_len h
  obtain ⟨h1, h2, h3, h4, _⟩ := mzOk_t h
  have hW : ((c.getD 0 []).length : Int) = (mzW c : Int) := rfl
  have hz2 : ∀ z : Nat, z ≤ mzW c * c.length → wr (2 * (z : Int)) = ((2 * z : Nat) : Int) := fun z hz => by rw [wr_in (by omega)]; omega
  unfold m_spec_l04Room_bimplMaze
  rw [geti0 h1]
  simp only [bind_some']
  have hn : wr (2 * (wr ((c.length : Int) * ((c.getD 0 []).length : Int)))) = ((nG c : Nat) : Int) := by
    rw [hW, cells_wr h, hz2 _ (Nat.le_refl _)]; rfl
  have hzero : (List.replicate (nG c) (0 : Int)) = lbF (nG c) (fun _ => 0) := by
    unfold lbF
    apply List.ext_getElem?
    intro j
    by_cases hj : j < nG c
    · simp [List.getElem?_replicate, hj]
    · simp [List.getElem?_replicate, hj]
  have hl1 := loop_run (step := m_spec_l04Room_bimplMaze_s1 c (c.getD 0 [])) (nG c) (fun k => (List.replicate k (lbF (nG c) fun _ => (0 : Int)), (k : Int))) (r := List.replicate (nG c) (lbF (nG c) fun _ => (0 : Int))) (by
    intro k hk
    have hk' : nG c ≤ 288 := h288
    unfold m_spec_l04Room_bimplMaze_s1
    simp only []
    rw [hn, bif_t (by simpa using hk), mkC_ok (by unfold lim; omega)]
    simp only [bind_some', Int.toNat_natCast]
    rw [hzero, apC_ok (by unfold lim; simp; omega)]
    simp only [bind_some']
    rw [wr_in (by omega), List.replicate_succ']; rfl) (by
    unfold m_spec_l04Room_bimplMaze_s1
    simp only []
    rw [hn, bif_f (by simp)])
  have e0 : (List.replicate 0 (lbF (nG c) fun _ => (0 : Int)), ((0 : Nat) : Int)) = (([] : List (List Int)), (0 : Int)) := rfl
  rw [e0] at hl1
  rw [hl1]
  simp only [bind_some']
  have e1 : List.replicate (nG c) (lbF (nG c) fun _ => (0 : Int)) = mat (nG c) (rmF c fr to 0) := by
    have : mat (nG c) (rmF c fr to 0) = mat (nG c) (fun _ _ => 0) := mat_congr fun i j _ _ => by unfold rmF; rw [if_neg (by omega)]
    rw [this]
    unfold mat
    apply List.ext_getElem?
    intro j
    by_cases hj : j < nG c
    · simp [List.getElem?_replicate, hj]
    · simp [List.getElem?_replicate, hj]
  rw [e1]
  have hl2 := loop_run (step := m_spec_l04Room_bimplMaze_s6 c fr.1 fr.2 to.1 to.2 (c.getD 0 [])) (mzW c * c.length) (fun k => ((k : Int), mat (nG c) (rmF c fr to k))) (r := mat (nG c) (rmF c fr to (mzW c * c.length))) (by
    intro k hk
    have e1 : Int.tmod (k : Int) (mzW c : Int) = (cpt c k).1 := by
      unfold cpt; rw [Int.tmod_eq_emod_of_nonneg (by omega), ← Int.natCast_emod]
    have e2 : wr (Int.tdiv (k : Int) (mzW c : Int)) = (cpt c k).2 := by
      have hdle : k / mzW c ≤ k := Nat.div_le_self _ _
      have e : Int.tdiv (k : Int) (mzW c : Int) = ((k / mzW c : Nat) : Int) := by rw [Int.tdiv_eq_ediv_of_nonneg (by omega), ← Int.natCast_ediv]
      have hz : ∀ z : Nat, z ≤ k → wr (z : Int) = (z : Int) := fun z hz => wr_in (by omega)
      rw [e, hz _ hdle]; rfl
    have hnz : nzC (mzW c : Int) = some () := by unfold nzC; simp [chk]; omega
    have hwr : wr ((k : Int) + 1) = ((k + 1 : Nat) : Int) := by rw [wr_in (by omega)]; rfl
    have er : wr ((wr (2 * (k : Int))) + 1) = ((2 * k + 1 : Nat) : Int) := by rw [hz2 k (by omega), wr_in (by omega)]; rfl
    have r0 : 2 * k < nG c := by unfold nG; omega
    have r1 : 2 * k + 1 < nG c := by unfold nG; omega
    unfold m_spec_l04Room_bimplMaze_s6
    simp only []
    rw [hW, cells_wr h, bif_t (by simp; omega), hnz]
    simp only [bind_some']
    rw [e1, e2, specOpen_eq h]
    simp only [bind_some']
    have q1 : ((cpt c k).1 == fr.1 && (cpt c k).2 == fr.2) = decide (cpt c k = fr) := eqb _ _
    have q2 : ((cpt c k).1 == to.1 && (cpt c k).2 == to.2) = decide (cpt c k = to) := eqb _ _
    rw [q1, q2]
    cases ho : opn c (cpt c k) with
    | false =>
      rw [bif_t (by rfl), hwr]
      have : mat (nG c) (rmF c fr to k) = mat (nG c) (rmF c fr to (k + 1)) := mat_congr fun i j _ _ => by
        unfold rmF
        by_cases c1 : i / 2 < k
        · rw [if_pos c1, if_pos (by omega)]
        · rw [if_neg c1]
          by_cases c2 : i / 2 = k
          · rw [if_pos (by omega), cap_closed h hk c2 ho]
          · rw [if_neg (by omega)]
      rw [this]
    | true =>
      rw [bif_f (by rfl)]
      have hown : (bif !decide (cpt c k = fr) then (bif !decide (cpt c k = to) then Option.bind (geti (mat (nG c) (rmF c fr to k)) (wr (2 * (k : Int)))) fun x6 => Option.bind (geti x6 (wr ((wr (2 * (k : Int))) + 1))) fun x7 => some ((mat (nG c) (rmF c fr to k)).set (Int.toNat (wr (2 * (k : Int)))) (x6.set (Int.toNat (wr ((wr (2 * (k : Int))) + 1))) 1)) else some (mat (nG c) (rmF c fr to k))) else some (mat (nG c) (rmF c fr to k))) = some (mat (nG c) (rmG c fr to k 0)) := by
        have keep : (cpt c k = fr ∨ cpt c k = to) → mat (nG c) (rmF c fr to k) = mat (nG c) (rmG c fr to k 0) := fun hh => mat_congr fun i j hi hj => by
          unfold rmG
          by_cases c1 : i = 2 * k + 1
          · rw [if_pos c1]; unfold rmF; rw [if_neg (by omega)]; simp
          · rw [if_neg c1]
            by_cases c2 : i = 2 * k
            · rw [if_pos c2]; subst c2
              rw [cap_row0 h hk hj]
              unfold rmF
              rw [if_neg (by omega)]
              have hno : ¬ (opn c (cpt c k) = true ∧ cpt c k ≠ fr ∧ cpt c k ≠ to) := fun ⟨_, a, b⟩ => hh.elim a b
              rw [if_neg hno]
              simp
            · rw [if_neg c2]
        by_cases c1 : cpt c k = fr
        · rw [bif_f (by simp [c1]), keep (Or.inl c1)]
        · rw [bif_t (by simp [c1])]
          by_cases c2 : cpt c k = to
          · rw [bif_f (by simp [c2]), keep (Or.inr c2)]
          · rw [bif_t (by simp [c2]), hz2 k (by omega), mat_row r0]
            simp only [bind_some']
            have er' : wr (((2 * k : Nat) : Int) + 1) = ((2 * k + 1 : Nat) : Int) := by rw [wr_in (by omega)]; rfl
            rw [er', lbF_at r1]
            simp only [bind_some', Int.toNat_natCast]
            rw [mat_set r0 r1]
            congr 1
            refine mat_congr fun i j hi hj => ?_
            unfold upd2 rmG
            by_cases d1 : i = 2 * k + 1
            · rw [if_pos d1, if_neg (by omega)]; unfold rmF; rw [if_neg (by omega)]; simp
            · rw [if_neg d1]
              by_cases d2 : i = 2 * k
              · subst d2
                rw [if_pos rfl, cap_row0 h hk hj]
                by_cases d3 : j = 2 * k + 1
                · rw [if_pos ⟨rfl, d3⟩, if_pos d3, if_pos ⟨ho, c1, c2⟩]
                · rw [if_neg (fun hh => d3 hh.2), if_neg d3]; unfold rmF; rw [if_neg (by omega)]
              · rw [if_neg d2, if_neg (fun hh => d2 hh.1)]
      rw [hown]
      simp only [bind_some']
      rw [room_s8 h hk ho]
      simp only [bind_some', hwr]
      rw [rmG_4 h hk ho]) (by
    unfold m_spec_l04Room_bimplMaze_s6
    simp only []
    rw [hW, cells_wr h, bif_f (by simp)])
  rw [show ((0 : Nat) : Int) = 0 from rfl] at hl2
  rw [hl2]
  simp only [bind_some']
  congr 1
  refine mat_congr fun i j hi _ => ?_
  unfold rmF
  unfold nG at hi
  rw [if_pos (by omega)]
end
end Go.Proofs.Ytcknpoeannbpbaa

set_option linter.unusedSimpArgs false
set_option linter.unusedVariables false
set_option linter.unusedSectionVars false
namespace Go.Proofs.Ytcknpoeannbpbaa
open Go.RowKit

theorem chain_suf {ν : Type} {room : ν → ν → Prop} : ∀ (p q : List ν), Chain room (p ++ q) → Chain room q
  | [], q, hc => hc
  | [a], q, hc => by
    cases q with
    | nil => trivial
    | cons b q => exact hc.2
  | a :: b :: p, q, hc => chain_suf (b :: p) q hc.2
theorem chain_map {α ν : Type} {r1 : α → α → Prop} {r2 : ν → ν → Prop} (f : α → ν) : ∀ l : List α, (∀ a ∈ l, ∀ b ∈ l, r1 a b → r2 (f a) (f b)) → Chain r1 l → Chain r2 (l.map f)
  | [], _, _ => trivial
  | [_], _, _ => trivial
  | a :: b :: l, h, hc => ⟨h a (by simp) b (by simp) hc.1, chain_map f (b :: l) (fun x hx y hy => h x (by simp [hx]) y (by simp [hy])) hc.2⟩
theorem lastD_map {α ν : Type} (f : α → ν) (s : α) : ∀ l : List α, lastD (f s) (l.map f) = f (lastD s l)
  | [] => rfl
  | [a] => rfl
  | a :: b :: l => lastD_map f s (b :: l)
section
variable {c : Mz} (h : mzOk c = true) {fr to : Pt} {N : Gt → Gt → Int}
/-- What room is left. -/
def rsd (c : Mz) (fr to : Pt) (N : Gt → Gt → Int) (i j : Nat) : Int := capI c fr to i j - N (gtI c i) (gtI c j)
include h in
theorem cap_le (a b : Gt) : capM c fr to a b ≤ 144 := by
  have h288 := small_len h
  unfold capM cells
  split
  · split <;> omega
  · split <;> omega
include h in
theorem N_small (hN : Flow (allG c) (capM c fr to) (srcG fr) (snkG to) N) (a b : Gt) : -144 ≤ N a b ∧ N a b ≤ 144 := by
  have h1 := hN.le a b
  have h2 := hN.le b a
  have h3 := hN.anti a b
  have h4 := cap_le h (fr := fr) (to := to) a b
  have h5 := cap_le h (fr := fr) (to := to) b a
  omega
include h in
theorem gt_notin {x : Nat} {l : List Nat} (hx : x < nG c) (hl : ∀ y ∈ l, y < nG c) (hn : x ∉ l) : gtI c x ∉ l.map (gtI c) := fun hm => by
  obtain ⟨y, hy, e⟩ := List.mem_map.1 hm
  exact hn (by rw [← gt_inj h (hl y hy) hx e]; exact hy)
include h in
theorem gt_nodup {l : List Nat} (hl : ∀ y ∈ l, y < nG c) (hn : l.Nodup) : (l.map (gtI c)).Nodup := by
  rw [List.nodup_iff_pairwise_ne, List.pairwise_map]
  exact hn.imp_of_mem fun {a b} ha hb hne e => hne (gt_inj h (hl a ha) (hl b hb) e)
include h in
theorem push_loopS (hN : Flow (allG c) (capM c fr to) (srcG fr) (snkG to) N) {T : List (Nat × Nat)} {b : Nat} {l : List Nat} (hn : (T.map (·.1)).Nodup) (hl : (b :: l).Nodup) (hlt : ∀ x ∈ b :: l, x < nG c) (hch : Chain (fun a b => (b, a) ∈ T) (b :: l)) {y1 : Int} (hy : wr ((wr (2 * y1)) + 1) = (b : Int)) :
    ∀ (q : List Nat) (k : Nat) (suf : List Nat), q.reverse ++ k :: suf = b :: l → loopM (m_spec_l04Cut_bimplMaze_s4 y1 (lbF (nG c) (parF T))) ((k : Int), mat (nG c) (rsd c fr to (pushP N ((k :: suf).map (gtI c))))) = some (mat (nG c) (rsd c fr to (pushP N ((b :: l).map (gtI c)))))
  | [], k, suf, e => by
    have eb : k = b := (List.cons.inj e).1
    subst eb
    have es : suf = l := (List.cons.inj e).2
    subst es
    refine loopM_ou ?_
    unfold m_spec_l04Cut_bimplMaze_s4
    simp only []
    rw [hy, bif_f (by simp)]
  | a :: q, k, suf, e => by
    have e' : q.reverse ++ a :: k :: suf = b :: l := by rw [← e]; simp
    have ih := push_loopS hN hn hl hlt hch hy q a (k :: suf) e'
    have hl' := hl
    rw [← e'] at hl'
    have hak := (List.nodup_cons.1 (List.nodup_append.1 hl').2.1).1
    have hne : a ≠ k := fun e2 => hak (by rw [e2]; simp)
    have hbs : k ≠ b := fun eb => by
      have hh := congrArg List.head? e'
      cases hq : q.reverse with
      | nil =>
        rw [hq] at hh
        have : a = b := Option.some.inj hh
        exact hne (by rw [this, eb])
      | cons x r =>
        rw [hq] at hh hl'
        have : x = b := Option.some.inj hh
        exact (List.nodup_cons.1 hl').1 (by rw [this, ← eb]; simp)
    have hka : (k, a) ∈ T := by
      rw [← e'] at hch
      exact (chain_suf _ _ hch).1
    have hk : k < nG c := hlt k (by rw [← e']; simp)
    have ha : a < nG c := hlt a (by rw [← e']; simp)
    have hsuf : ∀ y ∈ k :: suf, y < nG c := fun y hy2 => hlt y (by rw [← e']; simp only [List.mem_append, List.mem_cons] at hy2 ⊢; exact Or.inr (Or.inr hy2))
    have hoff : gtI c a ∉ (k :: suf).map (gtI c) := gt_notin h ha hsuf hak
    have ep : parF T k = (a : Int) := by unfold parF; rw [mget_kv hn hka]
    have p1 := pushP_off (N := N) ((k :: suf).map (gtI c)) (gtI c a) (gtI c k) (Or.inl hoff)
    have p2 := pushP_off (N := N) ((k :: suf).map (gtI c)) (gtI c k) (gtI c a) (Or.inr hoff)
    have q1 := N_small h hN (gtI c a) (gtI c k)
    have q2 := N_small h hN (gtI c k) (gtI c a)
    have c1 := cap_le h (fr := fr) (to := to) (gtI c a) (gtI c k)
    have c2 := cap_le h (fr := fr) (to := to) (gtI c k) (gtI c a)
    have d1 := cap_nn (c := c) (fr := fr) (to := to) (gtI c a) (gtI c k)
    have d2 := cap_nn (c := c) (fr := fr) (to := to) (gtI c k) (gtI c a)
    refine loopM_nx ?_ ih
    have hP : pushP N ((a :: k :: suf).map (gtI c)) = bump (pushP N ((k :: suf).map (gtI c))) (gtI c a) (gtI c k) := rfl
    rw [hP]
    generalize pushP N ((k :: suf).map (gtI c)) = P at p1 p2 ⊢
    have r1 : rsd c fr to P a k = capM c fr to (gtI c a) (gtI c k) - N (gtI c a) (gtI c k) := by unfold rsd capI; rw [p1]
    have r2 : rsd c fr to P k a = capM c fr to (gtI c k) (gtI c a) - N (gtI c k) (gtI c a) := by unfold rsd capI; rw [p2]
    unfold m_spec_l04Cut_bimplMaze_s4
    simp only []
    rw [hy, bif_t (by simp only [bne_iff_ne, ne_eq]; omega), lbF_at hk]
    simp only [bind_some', ep]
    rw [mat_row ha]
    simp only [bind_some']
    rw [lbF_at hk]
    simp only [bind_some', Int.toNat_natCast]
    rw [mat_set ha hk, mat_row hk]
    simp only [bind_some']
    rw [lbF_at ha]
    simp only [bind_some']
    rw [mat_set hk ha]
    have u0 : upd2 (rsd c fr to P) a k (wr (rsd c fr to P a k - 1)) k a = rsd c fr to P k a := by
      unfold upd2; rw [if_neg (fun e2 => hne e2.1.symm)]
    rw [u0, wr_in (x := rsd c fr to P a k - 1) (by omega), wr_in (x := rsd c fr to P k a + 1) (by omega)]
    congr 3
    refine mat_congr fun i j hi hj => ?_
    have ei : ∀ {x : Nat}, x < nG c → (gtI c i = gtI c x ↔ i = x) := fun hx => ⟨fun e2 => gt_inj h hi hx e2, fun e2 => by rw [e2]⟩
    have ej : ∀ {x : Nat}, x < nG c → (gtI c j = gtI c x ↔ j = x) := fun hx => ⟨fun e2 => gt_inj h hj hx e2, fun e2 => by rw [e2]⟩
    have eb : rsd c fr to (bump P (gtI c a) (gtI c k)) i j = rsd c fr to P i j - (if i = a ∧ j = k then 1 else 0) + (if i = k ∧ j = a then 1 else 0) := by
      unfold rsd bump
      simp only [ei ha, ei hk, ej ha, ej hk]
      omega
    rw [eb]
    unfold upd2
    by_cases g1 : i = k ∧ j = a
    · have g2 : ¬ (i = a ∧ j = k) := fun e2 => hne (e2.1.symm.trans g1.1)
      simp only [if_pos g1, if_neg g2]
      rw [g1.1, g1.2]; omega
    · by_cases g2 : i = a ∧ j = k
      · simp only [if_neg g1, if_pos g2]
        rw [g2.1, g2.2]; omega
      · simp only [if_neg g1, if_neg g2]; omega
include h in
theorem outS_leN (hN : Flow (allG c) (capM c fr to) (srcG fr) (snkG to) N) : outS (allG c) N (srcG fr) ≤ 41472 := by
  have h288 := small_len h
  have h1 : ∀ l : List Gt, sumL (N (srcG fr)) l ≤ 144 * (l.length : Int) := by
    intro l
    induction l with
    | nil => simp [sumL]
    | cons a l ih =>
      have := (N_small h hN (srcG fr) a).2
      simp only [sumL, List.length_cons]; omega
  have := h1 (allG c)
  rw [allG_len] at this
  unfold outS; omega
theorem Flow.nil : Flow (allG c) (capM c fr to) (srcG fr) (snkG to) (fun _ _ => 0) :=
  ⟨fun _ _ => rfl, fun a b => cap_nn a b, fun a _ _ _ => sumL_zero _ fun _ _ => rfl⟩
def ixS (c : Mz) (fr : Pt) : Nat := 2 * ixP c fr + 1
def ixE (c : Mz) (to : Pt) : Nat := 2 * ixP c to
include h in
theorem ixS_gt (hfr : opn c fr = true) : gtI c (ixS c fr) = srcG fr ∧ ixS c fr < nG c := by
  have := gt_ix h (g := srcG fr) (opn_has hfr)
  exact this
include h in
theorem ixE_gt (hto : opn c to = true) : gtI c (ixE c to) = snkG to ∧ ixE c to < nG c := by
  have := gt_ix h (g := snkG to) (opn_has hto)
  have e : ixG c (snkG to) = ixE c to := by unfold ixG ixE snkG gp; simp
  rw [e] at this
  exact this
include h in
theorem rsd_pos {i j : Nat} (hi : i < nG c) (hj : j < nG c) : 0 < mAt (mat (nG c) (rsd c fr to N)) i j ↔ N (gtI c i) (gtI c j) < capM c fr to (gtI c i) (gtI c j) := by
  rw [mat_at hi hj]
  unfold rsd capI
  omega
include h in
/-- The whole of it. -/
theorem cut_eq (hne : fr ≠ to) (hfr : opn c fr = true) (hto : opn c to = true) :
    ∃ (N : Gt → Gt → Int) (T : List (Nat × Nat)), m_spec_l04Cut_bimplMaze c fr.1 fr.2 to.1 to.2 = some (outS (allG c) N (srcG fr), lbF (nG c) (parF T)) ∧ Flow (allG c) (capM c fr to) (srcG fr) (snkG to) N ∧
      SrchS (mat (nG c) (rsd c fr to N)) (nG c) (ixS c fr) T ∧ (∀ i ∈ T.map (·.1), ∀ j, j < nG c → 0 < mAt (mat (nG c) (rsd c fr to N)) i j → j ∈ T.map (·.1)) ∧ ixE c to ∉ T.map (·.1) := by
  have h288 : nG c ≤ 288 := small_len h
  obtain ⟨s1, s2⟩ := ixS_gt h hfr
  obtain ⟨e1, e2⟩ := ixE_gt h hto
  have hst : srcG fr ≠ snkG to := fun e => by have := congrArg (fun g : Gt => g.2.2) e; simp [srcG, snkG] at this
  have hy1 : wr ((wr (2 * (ixP c fr : Int))) + 1) = (ixS c fr : Int) := by
    unfold ixS at *
    rw [wr_in (x := 2 * (ixP c fr : Int)) (by omega), wr_in (by omega)]; omega
  have hy3 : wr (2 * (ixP c to : Int)) = (ixE c to : Int) := by
    unfold ixE at *
    rw [wr_in (by omega)]; omega
  unfold m_spec_l04Cut_bimplMaze
  rw [room_eqS h, bind_some', index_eq h (opn_has hfr), bind_some', index_eq h (opn_has hto), bind_some']
  have hz : mat (nG c) (capI c fr to) = mat (nG c) (rsd c fr to (fun _ _ => 0)) := mat_congr fun i j _ _ => (Int.sub_zero _).symm
  rw [hz]
  have o0 : outS (allG c) (fun _ _ => 0) (srcG fr) = 0 := sumL_zero _ fun _ _ => rfl
  obtain ⟨r, r1, N, T, r2, r3, r4, r5, r6⟩ := loopM_count (m_spec_l04Cut_bimplMaze_s3 (ixP c fr : Int) (ixP c to : Int)) 41473
    (fun k st => ∃ N, st = ((k : Int), mat (nG c) (rsd c fr to N)) ∧ Flow (allG c) (capM c fr to) (srcG fr) (snkG to) N ∧ outS (allG c) N (srcG fr) = (k : Int))
    (fun r => ∃ (N : Gt → Gt → Int) (T : List (Nat × Nat)), r = Sum.inr (outS (allG c) N (srcG fr), lbF (nG c) (parF T)) ∧ Flow (allG c) (capM c fr to) (srcG fr) (snkG to) N ∧
      SrchS (mat (nG c) (rsd c fr to N)) (nG c) (ixS c fr) T ∧ (∀ i ∈ T.map (·.1), ∀ j, j < nG c → 0 < mAt (mat (nG c) (rsd c fr to N)) i j → j ∈ T.map (·.1)) ∧ ixE c to ∉ T.map (·.1))
    (s0 := (0, mat (nG c) (rsd c fr to (fun _ _ => 0)))) ⟨_, rfl, Flow.nil, o0⟩ (by
      rintro k _ hk ⟨N, rfl, hN, hk2⟩
      obtain ⟨T, t1, t2, t3⟩ := searchS_eq (mat_ok (nG c) (rsd c fr to N)) h288 s2
      unfold m_spec_l04Cut_bimplMaze_s3
      simp only []
      rw [hy1, t1]
      simp only [bind_some']
      rw [hy3, lbF_at e2]
      simp only [bind_some']
      by_cases hm : ixE c to ∈ T.map (·.1)
      · left
        rw [bif_f (by simp only [decide_eq_false_iff_not]; exact fun hh => parF_neg.1 hh hm)]
        obtain ⟨x, hx, hxs⟩ := List.mem_map.1 hm
        obtain ⟨i, hi, rfl⟩ := List.mem_iff_getElem.1 hx
        obtain ⟨l, l1, l2, l3, l4⟩ := t2.tree.way i i (Nat.le_refl _) hi
        rw [hxs] at l3
        have hlt : ∀ x ∈ ixS c fr :: l, x < nG c := fun x hx => by
          obtain ⟨j, _, hj, e⟩ := l4 x hx
          rw [← e]
          exact t2.lt _ (List.mem_map.2 ⟨_, List.getElem_mem hj, rfl⟩)
        obtain ⟨c1, c2⟩ := chain_and _ l2
        have hnn : ixS c fr :: l ≠ [] := by simp
        have hsp := List.dropLast_concat_getLast hnn
        have hlast : (ixS c fr :: l).getLast hnn = ixE c to := by
          rw [← l3]
          conv => rhs; rw [← hsp, lastD_snoc]
        rw [hlast] at hsp
        have hloop := push_loopS h hN t2.tree.nd l1 hlt c2 hy1 (ixS c fr :: l).dropLast.reverse (ixE c to) [] (by rw [List.reverse_reverse]; exact hsp)
        have e0 : pushP N ([ixE c to].map (gtI c)) = N := rfl
        rw [e0] at hloop
        rw [hloop]
        simp only [bind_some']
        have hcm := chain_map (r2 := fun a b => N a b < capM c fr to a b) (gtI c) _ (fun a ha b hb hab => (rsd_pos h (hlt a ha) (hlt b hb)).1 hab) c1
        have hlm := lastD_map (gtI c) (ixS c fr) (ixS c fr :: l)
        rw [l3, e1] at hlm
        have hnm := gt_nodup h hlt l1
        rw [List.map_cons, s1] at hcm hlm hnm
        obtain ⟨f1, f2⟩ := hN.push (allG_nodup h) hnm (fun x hx => by
          rw [← s1, ← List.map_cons] at hx
          obtain ⟨y, hy, rfl⟩ := List.mem_map.1 hx
          exact mem_allG h (gt_has h (hlt y hy))) hcm hlm hst
        have em : (ixS c fr :: l).map (gtI c) = srcG fr :: l.map (gtI c) := by rw [List.map_cons, s1]
        rw [em]
        exact ⟨_, rfl, _, by rw [wr_in (by omega)]; rfl, f1, by rw [f2, hk2]; rfl⟩
      · right
        rw [bif_t (by simp only [decide_eq_true_eq]; exact parF_neg.2 hm)]
        exact ⟨_, rfl, N, T, by rw [hk2], hN, t2, t3, hm⟩) (by
      rintro _ ⟨N, rfl, hN, hk2⟩
      exfalso
      have := outS_leN h hN
      omega)
  subst r2
  rw [r1]
  exact ⟨N, T, rfl, r3, r4, r5, r6⟩
include h in
/-- What its search reaches. -/
theorem reachS_iff {T : List (Nat × Nat)} (hfr : opn c fr = true) (hS : SrchS (mat (nG c) (rsd c fr to N)) (nG c) (ixS c fr) T) (hCl : ∀ i ∈ T.map (·.1), ∀ j, j < nG c → 0 < mAt (mat (nG c) (rsd c fr to N)) i j → j ∈ T.map (·.1)) (g : Gt) :
    g ∈ (T.map (·.1)).map (gtI c) ↔ Rch (allG c) (capM c fr to) N (srcG fr) g := by
  obtain ⟨s1, s2⟩ := ixS_gt h hfr
  constructor
  · intro hg
    obtain ⟨n, hn, rfl⟩ := List.mem_map.1 hg
    obtain ⟨x, hx, rfl⟩ := List.mem_map.1 hn
    obtain ⟨i, hi, rfl⟩ := List.mem_iff_getElem.1 hx
    have key : ∀ n i (hi : i < T.length), i ≤ n → Rch (allG c) (capM c fr to) N (srcG fr) (gtI c T[i].1) := by
      intro n
      induction n with
      | zero =>
        intro i hi hin
        have : i = 0 := by omega
        subst this
        have := hS.tree.head
        rw [List.head?_eq_getElem?, List.getElem?_eq_getElem hi] at this
        rw [Option.some.inj this, s1]
        exact Rch.base
      | succ n ih =>
        intro i hi hin
        by_cases c0 : i = 0
        · exact ih i hi (by omega)
        · obtain ⟨j, hj, hjl, e1, e2⟩ := hS.tree.par i hi (by omega)
          have hr := ih j hjl (by omega)
          have oj := hS.lt _ (List.mem_map.2 ⟨_, List.getElem_mem hjl, rfl⟩)
          have oi := hS.lt _ (List.mem_map.2 ⟨_, List.getElem_mem hi, rfl⟩)
          exact Rch.step _ _ hr (mem_allG h (gt_has h oj)) (mem_allG h (gt_has h oi)) ((rsd_pos h oj oi).1 e2)
    exact key i i hi (Nat.le_refl _)
  · intro hr
    induction hr with
    | base =>
      have hh := hS.tree.head
      cases T with
      | nil => exact absurd hh (by simp)
      | cons x l =>
        have : x = (ixS c fr, ixS c fr) := Option.some.inj hh
        rw [this]; simp [s1]
    | step a b _ ha hb hlt ih =>
      obtain ⟨i, hi, rfl⟩ := List.mem_map.1 ih
      have hi' := hS.lt i hi
      obtain ⟨j, hj, rfl⟩ : ∃ j, j < nG c ∧ gtI c j = b := by
        obtain ⟨j, hj, e⟩ := List.mem_map.1 hb
        exact ⟨j, List.mem_range.1 hj, e⟩
      exact List.mem_map.2 ⟨j, hCl i hi j hj ((rsd_pos h hi' hj).2 hlt), rfl⟩
end
end Go.Proofs.Ytcknpoeannbpbaa

set_option linter.unusedSimpArgs false
set_option linter.unusedVariables false
set_option linter.unusedSectionVars false
namespace Go.Proofs.Ytcknpoeannbpbaa
open Go.RowKit

section
variable {c : Mz} (h : mzOk c = true) {fr to : Pt}
include h in
/-- Both programs' ends. -/
theorem both_eq (hc : 1 < cells c) (hft : adjB fr to = false) (hne : fr ≠ to) (hfr : opn c fr = true) (hto : opn c to = true) :
    ∃ (v : Int) (K : List Gt) (T : List (Nat × Nat)), m_impl_apart c fr.1 fr.2 to.1 to.2 = some (v, markV K fr) ∧ m_spec_l04Cut_bimplMaze c fr.1 fr.2 to.1 to.2 = some (v, lbF (nG c) (parF T)) ∧ (∀ i, i ∈ T.map (·.1) ↔ i < nG c ∧ gtI c i ∈ K) ∧ srcG fr ∈ K ∧ ∀ g ∈ K, opn c (gp g) = true ∧ hasC c (gp g) = true := by
  obtain ⟨K, U, a1, a2, a3, a4⟩ := apart_eq h hc hft hne hfr hto
  obtain ⟨N, T, b1, b2, b3, b4, b5⟩ := cut_eq h hne hfr hto
  have b6 := fun g => reachS_iff h hfr b3 b4 g
  obtain ⟨e1, e2⟩ := ixE_gt h hto
  obtain ⟨s1, s2⟩ := ixS_gt h hfr
  have hsV : srcG fr ∈ allG c := mem_allG h (opn_has hfr)
  have htT : snkG to ∉ (T.map (·.1)).map (gtI c) := fun hm => by
    obtain ⟨j, hj, e⟩ := List.mem_map.1 hm
    have := gt_inj h (b3.lt j hj) e2 (by rw [e, e1])
    exact b5 (by rw [← this]; exact hj)
  obtain ⟨o1, o2⟩ := Flow.same (R := fun g => decide (g ∈ K)) (R' := fun g => decide (g ∈ (T.map (·.1)).map (gtI c))) a2.fl b2 (allG_nodup h) hsV (fun g => by rw [decide_eq_true_iff]; exact a4 g) (decide_eq_false a3) (fun g => by rw [decide_eq_true_iff]; exact b6 g) (decide_eq_false htT)
  have hiff : ∀ g, g ∈ K ↔ g ∈ (T.map (·.1)).map (gtI c) := fun g => by
    have := o2 g
    simpa using this
  refine ⟨outS (allG c) N (srcG fr), K, T, by rw [a1, o1], b1, fun i => ?_, (a4 _).2 Rch.base, fun g hg => ?_⟩
  · constructor
    · intro hi
      exact ⟨b3.lt i hi, (hiff _).2 (List.mem_map.2 ⟨i, hi, rfl⟩)⟩
    · rintro ⟨hi, hk⟩
      obtain ⟨j, hj, e⟩ := List.mem_map.1 ((hiff _).1 hk)
      rw [← gt_inj h (b3.lt j hj) hi e]; exact hj
  · have hr := (a4 g).1 hg
    cases hr with
    | base => exact ⟨hfr, opn_has hfr⟩
    | step a _ _ ha hb hlt =>
      obtain ⟨j, hj, e⟩ := List.mem_map.1 hb
      have hj' : j < nG c := List.mem_range.1 hj
      have hh : hasC c (gp g) = true := by rw [← e]; exact gt_has h hj'
      refine ⟨?_, hh⟩
      have h1 := a2.fl.le a g
      have h2 := cap_nn (c := c) (fr := fr) (to := to) a g
      by_cases c1 : 0 < capM c fr to a g
      · rcases cap_pos c1 with ⟨_, _, q3, q4, _⟩ | ⟨_, _, _, _, q5, _⟩
        · rw [← q3]; exact q4
        · exact q5
      · have hn : flN U a g < 0 := by omega
        have ha2 := a2.fl.anti a g
        have h3 := a2.fl.le g a
        rcases cap_pos (show 0 < capM c fr to g a by omega) with ⟨_, _, q3, q4, _⟩ | ⟨_, _, _, q4, _, _⟩
        · exact q4
        · exact q4
/-- The cells in order. -/
def colV (c : Mz) (mk : Pt → Bool) (x : Nat) (m : Nat) : List Pt := ((List.range m).map fun y => (((x : Nat) : Int), ((y : Nat) : Int))).filter mk
def sortedV (c : Mz) (mk : Pt → Bool) (n : Nat) : List Pt := (List.range n).flatMap fun x => colV c mk x c.length
theorem colV_len (c : Mz) (mk : Pt → Bool) (x m : Nat) : (colV c mk x m).length ≤ m := by
  unfold colV
  exact Nat.le_trans (List.length_filter_le _ _) (by simp)
theorem sortedV_len (c : Mz) (mk : Pt → Bool) : ∀ n, (sortedV c mk n).length ≤ n * c.length
  | 0 => by simp [sortedV]
  | n + 1 => by
    have h1 := sortedV_len c mk n
    have h2 := colV_len c mk n c.length
    unfold sortedV at h1 ⊢
    rw [List.range_succ, List.flatMap_append, List.length_append, Nat.add_mul]
    simp only [List.flatMap_cons, List.flatMap_nil, List.append_nil]
    omega
include h in
theorem sortedC_step (f : Nat → Bool) {x y : Nat} (hx : x < mzW c) (hy : y < c.length) {l : List Pt} (hl : l.length ≤ 288) : m_spec_l04Sorted_bimplMaze_s4 c ((List.range (mzW c * c.length)).map f) (x : Int) (l, (y : Int)) = some (.next ((if f (ixP c ((x : Int), (y : Int))) = true then l ++ [((x : Int), (y : Int))] else l), ((y + 1 : Nat) : Int))) := by
  obtain ⟨h1, h2, h3, h4, _⟩ := mzOk_t h
  have hh : hasC c ((x : Int), (y : Int)) = true := by
    unfold hasC; simp only [Bool.and_eq_true, decide_eq_true_eq]; omega
  obtain ⟨i1, _⟩ := ix_ok h hh
  have hi : m_spec_l04Index_bimplMaze c (x : Int) (y : Int) = some (ixP c ((x : Int), (y : Int)) : Int) := index_eq h (p := ((x : Int), (y : Int))) hh
  obtain ⟨i, ei⟩ : ∃ i, i = ixP c ((x : Int), (y : Int)) := ⟨_, rfl⟩
  rw [← ei] at i1 hi ⊢
  have hg : geti ((List.range (mzW c * c.length)).map f) (i : Int) = some (f i) := by rw [geti_nat]; simp [i1]
  have hwr : wr ((y : Int) + 1) = ((y + 1 : Nat) : Int) := by rw [wr_in (by omega)]; rfl
  unfold m_spec_l04Sorted_bimplMaze_s4
  simp only []
  rw [bif_t (by simp; omega), hi]
  simp only [bind_some']
  rw [hg]
  simp only [bind_some']
  cases ho : f i with
  | true =>
    rw [bif_t (by rfl), apC_ok (by unfold lim; simp; omega)]
    simp only [bind_some', hwr, if_true]
  | false =>
    rw [bif_f (by rfl)]
    simp only [bind_some', hwr]
    rw [if_neg (by simp)]
include h in
theorem sortedC_eq (f : Nat → Bool) (x : Nat) (hx : x < mzW c) (l : List Pt) (hl : l.length ≤ 144) : loopM (m_spec_l04Sorted_bimplMaze_s4 c ((List.range (mzW c * c.length)).map f) (x : Int)) (l, 0) = some (l ++ colV c (fun p => f (ixP c p)) x c.length) := by
  obtain ⟨h1, h2, h3, h4, _⟩ := mzOk_t h
  have hl1 := loop_run (step := m_spec_l04Sorted_bimplMaze_s4 c ((List.range (mzW c * c.length)).map f) (x : Int)) c.length (fun y => (l ++ colV c (fun p => f (ixP c p)) x y, (y : Int))) (r := l ++ colV c (fun p => f (ixP c p)) x c.length) (fun y hy => by
    have hcl := colV_len c (fun p => f (ixP c p)) x y
    have hs : colV c (fun p => f (ixP c p)) x (y + 1) = if f (ixP c ((x : Int), (y : Int))) = true then colV c (fun p => f (ixP c p)) x y ++ [((x : Int), (y : Int))] else colV c (fun p => f (ixP c p)) x y := by
      unfold colV
      rw [List.range_succ, List.map_append, List.filter_append]
      cases ho : f (ixP c ((x : Int), (y : Int))) <;> simp [List.filter_cons, ho]
    rw [sortedC_step h f hx hy (by rw [List.length_append]; omega), hs]
    cases ho : f (ixP c ((x : Int), (y : Int))) with
    | true => rw [if_pos rfl, if_pos rfl, List.append_assoc]
    | false => rw [if_neg (by simp), if_neg (by simp)]) (by
    unfold m_spec_l04Sorted_bimplMaze_s4
    simp only []
    rw [bif_f (by simp)])
  have e0 : colV c (fun p => f (ixP c p)) x 0 = [] := rfl
  rw [e0, List.append_nil, show ((0 : Nat) : Int) = 0 from rfl] at hl1
  exact hl1
include h in
theorem sortedS_eq (f : Nat → Bool) : m_spec_l04Sorted_bimplMaze c ((List.range (mzW c * c.length)).map f) = some (sortedV c (fun p => f (ixP c p)) (mzW c)) := by
  have h288 := small_len h
  obtain ⟨h1, h2, h3, h4, _⟩ := mzOk_t h
  have hprod : mzW c * c.length ≤ 144 := by omega
  unfold m_spec_l04Sorted_bimplMaze
  have hl2 := loop_run (step := m_spec_l04Sorted_bimplMaze_s3 c ((List.range (mzW c * c.length)).map f)) (mzW c) (fun x => (sortedV c (fun p => f (ixP c p)) x, (x : Int))) (r := sortedV c (fun p => f (ixP c p)) (mzW c)) (by
    intro x hx
    have hlen := sortedV_len c (fun p => f (ixP c p)) x
    unfold m_spec_l04Sorted_bimplMaze_s3
    simp only []
    rw [geti0 h1]
    simp only [bind_some']
    have hW : ((c.getD 0 []).length : Int) = (mzW c : Int) := rfl
    rw [hW, bif_t (by simp; omega), sortedC_eq h f x hx _ (Nat.le_trans hlen (Nat.le_trans (Nat.mul_le_mul_right _ (Nat.le_of_lt hx)) hprod))]
    simp only [bind_some']
    have hwr : wr ((x : Int) + 1) = ((x + 1 : Nat) : Int) := by rw [wr_in (by omega)]; rfl
    rw [hwr]
    have : sortedV c (fun p => f (ixP c p)) x ++ colV c (fun p => f (ixP c p)) x c.length = sortedV c (fun p => f (ixP c p)) (x + 1) := by
      unfold sortedV
      rw [List.range_succ, List.flatMap_append]; simp
    rw [this]) (by
    unfold m_spec_l04Sorted_bimplMaze_s3
    simp only []
    rw [geti0 h1]
    simp only [bind_some']
    have hW : ((c.getD 0 []).length : Int) = (mzW c : Int) := rfl
    rw [hW, bif_f (by simp)])
  have e0 : sortedV c (fun p => f (ixP c p)) 0 = [] := rfl
  rw [e0, show ((0 : Nat) : Int) = 0 from rfl] at hl2
  rw [hl2]; rfl
theorem mem_sortedV {c : Mz} {mk : Pt → Bool} {p : Pt} : p ∈ sortedV c mk (mzW c) ↔ hasC c p = true ∧ mk p = true := by
  unfold sortedV colV hasC
  simp only [List.mem_flatMap, List.mem_range, List.mem_filter, List.mem_map, Bool.and_eq_true, decide_eq_true_eq]
  constructor
  · rintro ⟨x, hx, ⟨y, hy, rfl⟩, hm⟩
    exact ⟨⟨⟨by simp, by simp; omega⟩, by simp, by simp; omega⟩, hm⟩
  · rintro ⟨⟨⟨h1, h2⟩, h3, h4⟩, hm⟩
    obtain ⟨x, y⟩ := p
    simp only at h1 h2 h3 h4
    obtain ⟨X, rfl⟩ := Int.eq_ofNat_of_zero_le h3
    obtain ⟨Y, rfl⟩ := Int.eq_ofNat_of_zero_le h1
    exact ⟨X, by omega, ⟨Y, by omega, rfl⟩, hm⟩
theorem sortedV_strict (c : Mz) (mk : Pt → Bool) : ∀ n, (sortedV c mk n).Pairwise ltP ∧ ∀ p ∈ sortedV c mk n, p.1 < n
  | 0 => ⟨List.Pairwise.nil, by simp [sortedV]⟩
  | n + 1 => by
    obtain ⟨i1, i2⟩ := sortedV_strict c mk n
    have e : sortedV c mk (n + 1) = sortedV c mk n ++ colV c mk n c.length := by
      unfold sortedV
      rw [List.range_succ, List.flatMap_append]; simp
    have hcol : ∀ p ∈ colV c mk n c.length, p.1 = n := fun p hp => by
      obtain ⟨hp, _⟩ := List.mem_filter.1 hp
      obtain ⟨y, _, rfl⟩ := List.mem_map.1 hp
      rfl
    rw [e]
    refine ⟨List.pairwise_append.2 ⟨i1, ?_, fun a ha b hb => ?_⟩, fun p hp => ?_⟩
    · unfold colV
      refine List.Pairwise.filter _ ?_
      rw [List.pairwise_map]
      exact List.pairwise_lt_range.imp fun {a b} hab => by unfold ltP; simp; omega
    · have := i2 a ha
      have := hcol b hb
      unfold ltP; omega
    · rcases List.mem_append.1 hp with hp | hp
      · have := i2 p hp; omega
      · have := hcol p hp; omega
/-- Whether two cells can be blocked. -/
def blk (c : Mz) (fr to : Pt) : Bool := mzOk c && (opn c fr && (opn c to && decide (1 < dist fr to)))
include h in
theorem opn_okP {p : Pt} (hp : opn c p = true) : okP p = true := by
  have := opn_sm h hp
  unfold okP
  simp only [Bool.and_eq_true, decide_eq_true_eq]
  omega
theorem blockI_eq (c : Mz) (hc : c.length ≤ 140737488355328) (hb : ∀ r ∈ c, r.length ≤ 140737488355328) (fr to : Pt) : m_impl_blockOk c fr.1 fr.2 to.1 to.2 = some (blk c fr to) := by
  unfold m_impl_blockOk m_impl_IsOpen blk
  rw [implValid_eq c hc hb]
  simp only [bind_some']
  cases h : mzOk c with
  | false => rfl
  | true =>
    rw [bif_t rfl, implOpen_eq h]
    simp only [bind_some', Bool.true_and]
    cases h1 : opn c fr with
    | false => rfl
    | true =>
      rw [bif_t rfl, implOpen_eq h]
      simp only [bind_some', Bool.true_and]
      cases h2 : opn c to with
      | false => rfl
      | true =>
        rw [bif_t rfl, far_eq (opn_okP h h1) (opn_okP h h2)]
        rfl
theorem blockS_eq (c : Mz) (hc : c.length ≤ 140737488355328) (hb : ∀ r ∈ c, r.length ≤ 140737488355328) (fr to : Pt) : m_spec_l04Both_bimplMaze c fr.1 fr.2 to.1 to.2 = some (blk c fr to) := by
  unfold m_spec_l04Both_bimplMaze m_spec_l04At_bimplMaze blk
  rw [specIs_eq c hc hb]
  simp only [bind_some']
  cases h : mzOk c with
  | false => rfl
  | true =>
    rw [bif_t rfl, specOpen_eq h]
    simp only [bind_some', Bool.true_and]
    cases h1 : opn c fr with
    | false => rfl
    | true =>
      rw [bif_t rfl, specOpen_eq h]
      simp only [bind_some', Bool.true_and]
      cases h2 : opn c to with
      | false => rfl
      | true =>
        rw [bif_t rfl, l01Far_eq (opn_okP h h1) (opn_okP h h2)]
        rfl
theorem blk_t {c : Mz} {fr to : Pt} (hb : blk c fr to = true) : mzOk c = true ∧ opn c fr = true ∧ opn c to = true ∧ fr ≠ to ∧ adjB fr to = false ∧ 1 < cells c ∧ 1 < dist fr to := by
  unfold blk at hb
  simp only [Bool.and_eq_true, decide_eq_true_eq] at hb
  obtain ⟨h, h1, h2, h3⟩ := hb
  have hne : fr ≠ to := fun e => by subst e; unfold dist at h3; omega
  refine ⟨h, h1, h2, hne, ?_, ?_, h3⟩
  · cases ha : adjB fr to with
    | false => rfl
    | true =>
      obtain ⟨k, hk, rfl⟩ := adjB_t.1 ha
      exfalso
      unfold dist nb at h3
      by_cases c0 : k = 0
      · simp only [if_pos c0] at h3; omega
      · by_cases c1 : k = 1
        · simp only [if_neg c0, if_pos c1] at h3; omega
        · by_cases c2 : k = 2
          · simp only [if_neg c0, if_neg c1, if_pos c2] at h3; omega
          · simp only [if_neg c0, if_neg c1, if_neg c2] at h3; omega
  · obtain ⟨i1, _⟩ := ix_ok h (opn_has h1)
    obtain ⟨j1, _⟩ := ix_ok h (opn_has h2)
    have hij : ixP c fr ≠ ixP c to := fun e => by
      obtain ⟨_, _, a3, a4⟩ := ix_ok h (opn_has h1)
      obtain ⟨_, _, b3, b4⟩ := ix_ok h (opn_has h2)
      rw [e] at a3 a4
      exact hne (Prod.ext (by rw [← a3, ← b3]) (by rw [← a4, ← b4]))
    unfold cells
    omega
/-- What both answer. -/
theorem most_both (c : Mz) (hc : c.length ≤ 140737488355328) (hb : ∀ r ∈ c, r.length ≤ 140737488355328) (fr to : Pt) : ∃ v b, m_impl_MostApart c fr.1 fr.2 to.1 to.2 = some (v, b) ∧ m_spec_MostApart c fr.1 fr.2 to.1 to.2 = some (v, b) := by
  unfold m_impl_MostApart m_spec_MostApart
  rw [blockI_eq c hc hb, blockS_eq c hc hb]
  simp only [bind_some']
  cases hbk : blk c fr to with
  | false => exact ⟨0, false, rfl, rfl⟩
  | true =>
    obtain ⟨h, h1, h2, h3, h4, h5, _⟩ := blk_t hbk
    obtain ⟨v, K, T, a1, a2, _⟩ := both_eq h h5 h4 h3 h1 h2
    rw [a1, a2]
    exact ⟨v, true, rfl, rfl⟩
theorem fewest_both (c : Mz) (hc : c.length ≤ 140737488355328) (hb : ∀ r ∈ c, r.length ≤ 140737488355328) (fr to : Pt) : ∃ v b, m_impl_FewestBlocks c fr.1 fr.2 to.1 to.2 = some (v, b) ∧ m_spec_FewestBlocks c fr.1 fr.2 to.1 to.2 = some (v, b) ∧ v.length ≤ 288 := by
  unfold m_impl_FewestBlocks m_spec_FewestBlocks
  rw [blockI_eq c hc hb, blockS_eq c hc hb]
  simp only [bind_some']
  cases hbk : blk c fr to with
  | false => exact ⟨[], false, rfl, rfl, by simp⟩
  | true =>
    obtain ⟨h, h1, h2, h3, h4, h5, _⟩ := blk_t hbk
    have h288 := small_len h
    obtain ⟨v, K, T, a1, a2, a3, a4, a5⟩ := both_eq h h5 h4 h3 h1 h2
    rw [a1, a2]
    simp only [bind_some', Bool.not_true, cond_false]
    have hlb : (lbF (nG c) (parF T)).length = nG c := by simp [lbF]
    rw [hlb]
    have ehalf : wr (Int.tdiv ((nG c : Nat) : Int) 2) = ((mzW c * c.length : Nat) : Int) := by
      have e : Int.tdiv ((nG c : Nat) : Int) 2 = ((mzW c * c.length : Nat) : Int) := by
        rw [Int.tdiv_eq_ediv_of_nonneg (by omega)]; unfold nG; omega
      rw [e, wr_in (by omega)]
    rw [ehalf, mkC_ok (by unfold lim; omega)]
    simp only [bind_some', Int.toNat_natCast]
    obtain ⟨f, hf⟩ : ∃ f : Nat → Bool, f = fun k => decide (2 * k ∈ T.map (·.1)) && decide (2 * k + 1 ∉ T.map (·.1)) := ⟨_, rfl⟩
    have hlen : ((List.range (mzW c * c.length)).map f).length = mzW c * c.length := by simp
    have hloop : loopM (m_spec_FewestBlocks_s1 (v, lbF (nG c) (parF T))) (0, List.replicate (mzW c * c.length) false) = some ((List.range (mzW c * c.length)).map f) := by
      refine loopM_val _ (mzW c * c.length) (fun k s => s.1 = (k : Int) ∧ Laid ((List.range (mzW c * c.length)).map f) s.2 k) ⟨rfl, Laid.zero _ _ (by simp)⟩ ?_ ?_
      · rintro k ⟨x, acc⟩ hk ⟨hx, hL⟩
        simp only at hx hL
        subst hx
        left
        have hal : acc.length = mzW c * c.length := by rw [hL.1, hlen]
        have hs := hL.succ (by rw [hlen]; exact hk)
        have hfk : ((List.range (mzW c * c.length)).map f)[k]'(by rw [hlen]; exact hk) = f k := by simp
        rw [hfk] at hs
        have w1 : wr (2 * (k : Int)) = ((2 * k : Nat) : Int) := by rw [wr_in (by omega)]; omega
        have w2 : wr (((2 * k : Nat) : Int) + 1) = ((2 * k + 1 : Nat) : Int) := by rw [wr_in (by omega)]; omega
        have w3 : wr ((k : Int) + 1) = ((k + 1 : Nat) : Int) := by rw [wr_in (by omega)]; rfl
        have r0 : 2 * k < nG c := by unfold nG; omega
        have r1 : 2 * k + 1 < nG c := by unfold nG; omega
        unfold m_spec_FewestBlocks_s1
        simp only []
        rw [bif_t (by rw [hal]; simp only [decide_eq_true_eq]; omega), w1, lbF_at r0]
        simp only [bind_some']
        by_cases c1 : 2 * k ∈ T.map (·.1)
        · have : ¬ parF T (2 * k) < 0 := fun hh => parF_neg.1 hh c1
          rw [bif_t (by simp only [decide_eq_true_eq]; omega), w2, lbF_at r1]
          simp only [bind_some']
          rw [geti_lt (l := acc) (by omega)]
          simp only [bind_some', Int.toNat_natCast, w3]
          refine ⟨_, rfl, rfl, ?_⟩
          have : f k = decide (parF T (2 * k + 1) < 0) := by
            rw [hf]
            simp only [c1, decide_true, Bool.true_and]
            rw [Bool.eq_iff_iff]
            simp only [decide_eq_true_eq]
            exact parF_neg.symm
          rw [this] at hs; exact hs
        · have : parF T (2 * k) < 0 := parF_neg.2 c1
          rw [bif_f (by simp only [decide_eq_false_iff_not]; omega), geti_lt (l := acc) (by omega)]
          simp only [bind_some', Int.toNat_natCast, w3]
          refine ⟨_, rfl, rfl, ?_⟩
          have : f k = false := by
            rw [hf]
            simp only [c1, decide_false, Bool.false_and]
          rw [this] at hs; exact hs
      · rintro ⟨x, acc⟩ ⟨hx, hL⟩
        simp only at hx hL
        subst hx
        have hal : acc.length = mzW c * c.length := by rw [hL.1, hlen]
        have : acc = (List.range (mzW c * c.length)).map f := by
          have h2 : Laid ((List.range (mzW c * c.length)).map f) acc ((List.range (mzW c * c.length)).map f).length := by rw [hlen]; exact hL
          exact h2.all
        unfold m_spec_FewestBlocks_s1
        simp only []
        rw [bif_f (by rw [hal]; simp), this]
    rw [hloop]
    simp only [bind_some']
    rw [sortedS_eq h]
    simp only [bind_some']
    have hsame : markV K fr = sortedV c (fun p => f (ixP c p)) (mzW c) := by
      refine strict_uniq (setPts_strict _) (sortedV_strict c _ _).1 fun p => ?_
      rw [mem_markV, mem_sortedV]
      have key : ∀ (b : Bool), hasC c p = true → (2 * ixP c p + (if b then 1 else 0) ∈ T.map (·.1) ↔ ((p.1, p.2, b) : Gt) ∈ K) := fun b hh => by
        have e := gt_ix h (g := (p.1, p.2, b)) hh
        have e2 : ixG c ((p.1, p.2, b) : Gt) = 2 * ixP c p + (if b then 1 else 0) := rfl
        rw [e2] at e
        rw [a3, e.1]
        exact ⟨fun hh => hh.2, fun hh => ⟨e.2, hh⟩⟩
      have k0 : hasC c p = true → (2 * ixP c p ∈ T.map (·.1) ↔ ((p.1, p.2, false) : Gt) ∈ K) := key false
      have k1 : hasC c p = true → (2 * ixP c p + 1 ∈ T.map (·.1) ↔ ((p.1, p.2, true) : Gt) ∈ K) := key true
      rw [hf]
      simp only [Bool.and_eq_true, decide_eq_true_eq]
      constructor
      · rintro ⟨g1, g2, g3⟩
        have hh := (a5 _ g1).2
        exact ⟨hh, (k0 hh).2 g1, fun hm => g2 ((k1 hh).1 hm)⟩
      · rintro ⟨hh, g1, g2⟩
        refine ⟨(k0 hh).1 g1, fun hm => g2 ((k1 hh).2 hm), fun e => ?_⟩
        subst e
        exact g2 ((k1 hh).2 a4)
    rw [hsame]
    refine ⟨_, true, rfl, rfl, ?_⟩
    have := sortedV_len c (fun p => f (ixP c p)) (mzW c)
    omega
end
end Go.Proofs.Ytcknpoeannbpbaa

set_option linter.unusedSimpArgs false
set_option linter.unusedVariables false
set_option linter.unusedSectionVars false
namespace Go.Proofs.Ytcknpoeannbpbaa
open Go.RowKit

def seqP (k : Int) (n : Nat) : List Pt := (List.range n).map fun (j : Nat) => (k + 2 * (j : Int), k + 2 * (j : Int) + 1)
theorem seqP_len (k : Int) (n : Nat) : (seqP k n).length = n := by simp [seqP]
theorem seqP_at {k : Int} {n i : Nat} (h : i < (seqP k n).length) : (seqP k n)[i] = (k + 2 * (i : Int), k + 2 * (i : Int) + 1) := by simp [seqP]
theorem markPS_eq (l : List Pt) (k : Int) (h0 : 0 ≤ k) (hb : k + 2 * l.length ≤ 4611686018427387904) : m_laws_markPointS l k = some (k + 2 * l.length, seqP k l.length) := by
  unfold m_laws_markPointS
  have hl : loopM m_laws_markPointS_s1 (k, 0, l) = some (k + 2 * l.length, seqP k l.length) := by
    refine loopM_val _ l.length (fun i s => s.1 = k + 2 * i ∧ s.2.1 = (i : Int) ∧ Laid (seqP k l.length) s.2.2 i) ⟨by simp, rfl, Laid.zero _ _ (by rw [seqP_len])⟩ ?_ ?_
    · rintro i ⟨x, y, acc⟩ hi ⟨hx, hy, hL⟩
      simp only at hx hy hL
      subst hx; subst hy
      have hal : acc.length = l.length := by rw [hL.1, seqP_len]
      unfold m_laws_markPointS_s1
      simp only []
      rw [bif_t (by simp; omega), geti_lt (l := acc) (by omega)]
      simp only [bind_some', Int.toNat_natCast]
      rw [geti_set (by omega)]
      simp only [bind_some', List.set_set]
      left
      refine ⟨_, rfl, by simp only []; rw [wr_in (x := k + 2 * (i : Int) + 1) (by omega), wr_in (by omega)]; omega, by simp only []; rw [wr_in (by omega)]; omega, ?_⟩
      have := hL.succ (by rw [seqP_len]; exact hi)
      rw [seqP_at] at this
      rw [wr_in (x := k + 2 * (i : Int) + 1) (by omega)]
      exact this
    · rintro ⟨x, y, acc⟩ ⟨hx, hy, hL⟩
      simp only at hx hy hL
      subst hx; subst hy
      have hal : acc.length = l.length := by rw [hL.1, seqP_len]
      have hall : acc = seqP k l.length := by have h2 := hL; rw [show l.length = (seqP k l.length).length by rw [seqP_len]] at h2; rw [seqP_len] at h2; exact Laid.all (by rwa [seqP_len])
      unfold m_laws_markPointS_s1
      simp only []
      rw [bif_f (by simp; omega), hall]
  rw [hl]; rfl
theorem heldPS_eq (n : Nat) (k : Int) (h0 : 0 ≤ k) (hb : k + 2 * n ≤ 4611686018427387904) : m_laws_heldPointS (seqP k n) k = some (k + 2 * n) := by
  unfold m_laws_heldPointS
  have hl : loopM (m_laws_heldPointS_s1 (seqP k n)) (k, 0) = some (Sum.inl (k + 2 * n)) := by
    refine loopM_val _ n (fun i s => s = (k + 2 * i, (i : Int))) (by simp) ?_ ?_
    · rintro i _ hi rfl
      unfold m_laws_heldPointS_s1
      simp only []
      rw [bif_t (by rw [seqP_len]; simpa using hi), geti_lt (by rw [seqP_len]; exact hi), seqP_at]
      simp only [bind_some']
      rw [wr_in (x := k + 2 * (i : Int) + 1) (by omega), bif_f (by simp), bif_f (by simp)]
      left
      refine ⟨_, rfl, ?_⟩
      rw [wr_in (by omega), wr_in (by omega)]
      simp only [Prod.mk.injEq]; omega
    · rintro _ rfl
      unfold m_laws_heldPointS_s1
      simp only []
      rw [bif_f (by rw [seqP_len]; simp)]
  rw [hl]; rfl
theorem szMaze_eq (c : Mz) (hc : c.length ≤ 9223372036854775807) (hb : ∀ r ∈ c, r.length ≤ 9223372036854775807) : ∃ z, m_laws_szMaze c 1048576 = some z ∧ (z < 0 ∨ (¬ z < 0 ∧ c.length ≤ 1048576 ∧ ∀ r ∈ c, r.length ≤ 1048576)) := by
  unfold m_laws_szMaze
  obtain ⟨y, h1, h2⟩ := szInt64SS_eq c 1048576 (by omega) hc hb
  rw [h1]
  simp only [bind_some']
  rcases h2 with h2 | ⟨h2, h3, h4, h5⟩
  · rw [bif_t (by simpa using h2)]; exact ⟨_, rfl, Or.inl (by omega)⟩
  · rw [bif_f (by simpa using h2)]; exact ⟨_, rfl, Or.inr ⟨by omega, by omega, fun r hr => by have := h5 r hr; omega⟩⟩
theorem toMaze_eq (c : Mz) (hc : c.length ≤ 1048576) (hb : ∀ r ∈ c, r.length ≤ 1048576) : m_laws_toMaze c = some c := by
  unfold m_laws_toMaze
  rw [toInt64SS_eq c hc hb]; rfl
theorem eqMaze_eq (c : Mz) (hc : c.length ≤ 1048576) (hb : ∀ r ∈ c, r.length ≤ 1048576) : m_laws_eqMaze c c = some true := by
  unfold m_laws_eqMaze
  rw [eqInt64SS_eq c (by omega) (fun r hr => by have := hb r hr; omega)]; rfl
theorem toPt_eq (x y : Int) : m_laws_toPoint x y = some (x, y) := rfl
theorem lawMost_eq (c : Mz) (hc : c.length ≤ 9223372036854775807) (hb : ∀ r ∈ c, r.length ≤ 9223372036854775807) (x1 y1 x2 y2 : Int) : m_laws_FnExactMostApart c x1 y1 x2 y2 = some true := by
  unfold m_laws_FnExactMostApart
  obtain ⟨z, hz, h⟩ := szMaze_eq c hc hb
  rw [hz, bind_some']
  rcases h with h | ⟨h, hn, hr⟩
  · rw [bif_t (by simpa using h)]
  · rw [bif_f (by simpa using h)]
    obtain ⟨v, b, e1, e2⟩ := most_both c (by omega) (fun r hx => by have := hr r hx; omega) (x1, y1) (x2, y2)
    simp only at e1 e2
    simp only [toMaze_eq c hn hr, toPt_eq, bind_some', e1, e2, eqMaze_eq c hn hr]
    rw [bif_f (by simp), bif_f (by simp), bif_f (by simp)]
theorem lawFewest_eq (c : Mz) (hc : c.length ≤ 9223372036854775807) (hb : ∀ r ∈ c, r.length ≤ 9223372036854775807) (x1 y1 x2 y2 : Int) : m_laws_FnExactFewestBlocks c x1 y1 x2 y2 = some true := by
  unfold m_laws_FnExactFewestBlocks
  obtain ⟨z, hz, h⟩ := szMaze_eq c hc hb
  rw [hz, bind_some']
  rcases h with h | ⟨h, hn, hr⟩
  · rw [bif_t (by simpa using h)]
  · rw [bif_f (by simpa using h)]
    obtain ⟨v, b, e1, e2, e3⟩ := fewest_both c (by omega) (fun r hx => by have := hr r hx; omega) (x1, y1) (x2, y2)
    simp only at e1 e2
    obtain ⟨⟨m1, m2⟩, hm1, hm2⟩ := markII_eq c 1 (by omega) (by omega) hn hr
    unfold m_laws_markMaze
    simp only [toMaze_eq c hn hr, toPt_eq, bind_some', e1, e2, eqMaze_eq c hn hr, eqPointS_eq v (by omega), hm1, markPS_eq v 1 (by omega) (by omega), heldPS_eq v.length 1 (by omega) (by omega)]
    simp only at hm2
    have f1 : decide (m1 < 0) = false := by simp; omega
    have f2 : decide ((1 : Int) + 2 * (v.length : Int) < 0) = false := by simp; omega
    simp [f1, f2]
end Go.Proofs.Ytcknpoeannbpbaa
