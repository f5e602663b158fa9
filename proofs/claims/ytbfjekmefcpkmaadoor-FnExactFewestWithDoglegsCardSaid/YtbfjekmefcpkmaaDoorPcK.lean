/- Channels: which are right, in both programs. -/
import Derived.Test.YtbfjekmefcpkmaaDoorPcJ
set_option linter.unusedSimpArgs false
set_option linter.unusedVariables false
set_option linter.unusedSectionVars false
namespace Go.Proofs.YtbfjekmefcpkmaaDoor
open Go.RowKit

theorem mget_kv {κ V : Type} [DecidableEq κ] {m : List (κ × V)} (hn : (m.map (·.1)).Nodup) {k : κ} {v : V} (h : (k, v) ∈ m) : mget m k = some v := by
  obtain ⟨j, hj, e⟩ := List.mem_iff_getElem.1 h
  exact mget_at hn (j := j) (by rw [List.getElem?_eq_getElem hj, e])
def inN (x : Int) : Bool := decide (0 ≤ x) && decide (x ≤ 12)
theorem inN_t {x : Int} : inN x = true ↔ 0 ≤ x ∧ x ≤ 12 := by unfold inN; rw [Bool.and_eq_true, decide_eq_true_eq, decide_eq_true_eq]
theorem in12 (x : Int) : m_impl_in x 0 12 = some (inN x) := by
  unfold m_impl_in inN
  by_cases h : 0 ≤ x
  · rw [bif_t (by rw [decide_eq_true_eq]; omega), decide_eq_true h, Bool.true_and]
  · rw [bif_f (by rw [decide_eq_false_iff_not]; omega), decide_eq_false h, Bool.false_and]
theorem in12s (x : Int) : m_spec_l00In x 0 12 = some (inN x) := in12 x
theorem Concat_eq (T U : List Int) (h1 : 1 ≤ T.length) (ht : T.length ≤ 24) (hu : U.length ≤ 24) : m_slices_Concat_int64_int64 [T, U] = some (T ++ U) := by
  have ew : ∀ k : Nat, k ≤ 100 → wr ((k : Int) + 1) = ((k + 1 : Nat) : Int) := fun k hk => wr_suc (by omega)
  have w0 : wr (0 + (T.length : Int)) = (T.length : Int) := by rw [wr_in (by omega)]; omega
  have w1 : wr ((T.length : Int) + (U.length : Int)) = ((T.length + U.length : Nat) : Int) := by rw [wr_in (by omega)]; push_cast; rfl
  have a1 : m_slices_Concat_int64_int64_s1 [T, U] (0, 0) = some (.next ((T.length : Int), 1)) := by
    unfold m_slices_Concat_int64_int64_s1
    dsimp only
    rw [bif_t (by simp)]
    show Option.bind (Option.bind (some T) _) _ = _
    simp only [Option.bind_some]
    rw [w0, bif_f (by rw [decide_eq_false_iff_not]; omega)]
    simp only [Option.bind_some]
    rw [show wr (0 + 1) = 1 from rfl]
  have a2 : m_slices_Concat_int64_int64_s1 [T, U] ((T.length : Int), 1) = some (.next (((T.length + U.length : Nat) : Int), 2)) := by
    unfold m_slices_Concat_int64_int64_s1
    dsimp only
    rw [bif_t (by simp)]
    show Option.bind (Option.bind (some U) _) _ = _
    simp only [Option.bind_some]
    rw [w1, bif_f (by rw [decide_eq_false_iff_not]; omega)]
    simp only [Option.bind_some]
    rw [show wr (1 + 1) = 2 from rfl]
  have a3 : m_slices_Concat_int64_int64_s1 [T, U] (((T.length + U.length : Nat) : Int), 2) = some (.out ((T.length + U.length : Nat) : Int)) := by
    unfold m_slices_Concat_int64_int64_s1
    dsimp only
    rw [bif_f (by simp)]
  have g : m_slices_Grow_int64_int64_nil ((T.length + U.length : Nat) : Int) = some [] := by
    unfold m_slices_Grow_int64_int64_nil
    have e : wr (((T.length + U.length : Nat) : Int) - wr (0 - 0)) = ((T.length + U.length : Nat) : Int) := by
      rw [show wr (0 - 0) = 0 from rfl, wr_in (by omega)]; omega
    have hmk : mkC ((T.length + U.length : Nat) : Int) = some () := by
      unfold mkC chk
      have := hlim
      rw [if_pos]
      rw [Bool.and_eq_true, decide_eq_true_eq, decide_eq_true_eq]; omega
    rw [e, bif_f (by rw [decide_eq_false_iff_not]; omega), hmk]
    simp only [Option.bind_some]
    rw [bif_t (by rw [decide_eq_true_eq]; omega)]
    have hc : chk (decide ((0 : Int) < ((T.length + U.length : Nat) : Int))) = some () := by
      unfold chk; rw [if_pos (by rw [decide_eq_true_eq]; omega)]
    rw [hc]
    simp only [Option.bind_some]
    have hs : slci (List.replicate (Int.toNat ((T.length + U.length : Nat) : Int)) (0 : Int)) 0 0 = some [] := slci_take (k := 0) (Nat.zero_le _)
    rw [hs]; rfl
  have b1 : m_slices_Concat_int64_int64_s2 [T, U] (([] : List Int), 0) = some (.next (T, 1)) := by
    unfold m_slices_Concat_int64_int64_s2
    dsimp only
    rw [bif_t (by simp)]
    show Option.bind (some T) _ = _
    simp only [Option.bind_some]
    rw [apC_sm (by simp; omega)]
    rfl
  have b2 : m_slices_Concat_int64_int64_s2 [T, U] (T, 1) = some (.next (T ++ U, 2)) := by
    unfold m_slices_Concat_int64_int64_s2
    dsimp only
    rw [bif_t (by simp)]
    show Option.bind (some U) _ = _
    simp only [Option.bind_some]
    rw [apC_sm (by omega)]
    rfl
  have b3 : m_slices_Concat_int64_int64_s2 [T, U] (T ++ U, 2) = some (.out (T ++ U)) := by
    unfold m_slices_Concat_int64_int64_s2
    dsimp only
    rw [bif_f (by simp)]
  unfold m_slices_Concat_int64_int64
  rw [loopM_next a1, loopM_next a2, loopM_out a3]
  simp only [Option.bind_some]
  rw [g]
  simp only [Option.bind_some]
  rw [loopM_next b1, loopM_next b2, loopM_out b3]
  rfl
def cntA (W : List Int) (x : Nat) : Nat := W.count (x : Int)
/-- A net with a single pin. -/
def single (W : List Int) : Bool := anyIn 1 13 fun x => decide (W.count ((x : Nat) : Int) = 1)
structure MInv (W : List Int) (k : Nat) (m : List (Int × Int)) : Prop where
  nd : (m.map (·.1)).Nodup
  is : ∀ x, mget m x = if (W.take k).count x = 0 then none else some (((W.take k).count x : Nat) : Int)
theorem take_count {W : List Int} {k : Nat} (hk : k < W.length) (x : Int) : (W.take (k + 1)).count x = (W.take k).count x + if W[k] = x then 1 else 0 := by
  rw [List.take_succ_eq_append_getElem hk, List.count_append]
  simp [List.count_cons]
def badP (p : Int × Int) : Bool := decide (p.1 > 0) && decide (p.2 < 2)
theorem foldE_bad : ∀ lo : List (Int × Int), foldE m_impl_ValidChannel_s2 () lo = some (if lo.any badP then .inr (.inr false) else .inl ())
  | [] => rfl
  | p :: r => by
    have hs : m_impl_ValidChannel_s2 () p = some (if badP p then .out (.inr false) else .next ()) := by
      unfold m_impl_ValidChannel_s2 badP
      cases decide (p.1 > 0) <;> cases decide (p.2 < 2) <;> rfl
    cases hb : badP p with
    | true =>
      have hs' : m_impl_ValidChannel_s2 () p = some (.out (.inr false)) := by rw [hs, hb]; rfl
      simp only [foldE, hs', List.any_cons, hb, Bool.true_or, if_true]
    | false =>
      have hs' : m_impl_ValidChannel_s2 () p = some (.next ()) := by rw [hs, hb]; rfl
      simp only [foldE, hs', List.any_cons, hb, Bool.false_or]
      exact foldE_bad r
theorem pins_loop (W : List Int) (hW : W.length ≤ 100) : (W.all inN = false ∧ loopM (m_impl_ValidChannel_s1 W) (0, ([] : List (Int × Int))) = some (.inr false)) ∨
    (W.all inN = true ∧ ∃ m, MInv W W.length m ∧ loopM (m_impl_ValidChannel_s1 W) (0, ([] : List (Int × Int))) = some (.inl m)) := by
  obtain ⟨r, h1, h2⟩ := loopM_count (m_impl_ValidChannel_s1 W) W.length (fun k s => s.1 = (k : Int) ∧ MInv W k s.2 ∧ ∀ j (h : j < W.length), j < k → inN W[j] = true)
    (fun r => (W.all inN = false ∧ r = .inr false) ∨ (W.all inN = true ∧ ∃ m, MInv W W.length m ∧ r = .inl m)) (s0 := (0, [])) ⟨rfl, ⟨by simp, fun x => by simp [mget]⟩, fun j _ h => by omega⟩ (by
      rintro k ⟨x, m⟩ hk ⟨hx, hM, hall⟩
      simp only at hx hM hall
      subst hx
      have hg : geti W (k : Int) = some W[k] := geti_lt hk
      cases hin : inN W[k] with
      | false =>
        right
        refine ⟨.inr false, ?_, .inl ⟨?_, rfl⟩⟩
        · unfold m_impl_ValidChannel_s1
          dsimp only
          rw [bif_t (by rw [decide_eq_true_eq]; omega), hg]
          simp only [Option.bind_some]
          rw [in12, hin]; rfl
        · rw [List.all_eq_false]
          exact ⟨W[k], List.getElem_mem hk, by rw [hin]; simp⟩
      | true =>
        left
        have hb := inN_t.1 hin
        have hok : okI W[k] = true := okI_iff.2 ⟨by omega, by omega⟩
        have hcl : (W.take k).count W[k] ≤ 100 := Nat.le_trans List.count_le_length (by rw [List.length_take]; omega)
        have hmg : mgC (okI W[k]) 0 m W[k] = some (((W.take k).count W[k] : Nat) : Int) := by
          unfold mgC
          rw [if_pos hok, hM.is]
          split
          · rename_i h; rw [h]; rfl
          · rfl
        refine ⟨(((k + 1 : Nat) : Int), mup m W[k] (((W.take k).count W[k] + 1 : Nat) : Int)), ?_, rfl, ⟨nodup_mup hM.nd _ _, fun x => ?_⟩, fun j hj hjk => ?_⟩
        · unfold m_impl_ValidChannel_s1
          dsimp only
          rw [bif_t (by rw [decide_eq_true_eq]; omega), hg]
          simp only [Option.bind_some]
          rw [in12, hin]
          simp only [Option.bind_some]
          rw [bif_f (by rfl), hmg]
          simp only [Option.bind_some]
          have hmp : mpC (okI W[k]) = some () := by unfold mpC; rw [if_pos hok]
          rw [hmp]
          simp only [Option.bind_some]
          rw [wr_suc (by omega), wr_suc (by omega)]
        · rw [mget_mup', hM.is, take_count hk]
          by_cases e : x = W[k]
          · rw [if_pos e, if_pos e.symm, if_neg (by omega), e]
          · rw [if_neg e, if_neg (show ¬ W[k] = x from fun h => e h.symm), Nat.add_zero]
        · by_cases e : j = k
          · subst e; exact hin
          · exact hall j hj (by omega)) (by
      rintro ⟨x, m⟩ ⟨hx, hM, hall⟩
      simp only at hx hM hall
      subst hx
      refine ⟨.inl m, ?_, .inr ⟨?_, m, hM, rfl⟩⟩
      · unfold m_impl_ValidChannel_s1
        dsimp only
        rw [bif_f (by simp)]
      · rw [List.all_eq_true]
        intro x hx
        obtain ⟨j, hj, rfl⟩ := List.mem_iff_getElem.1 hx
        exact hall j hj hj)
  rcases h2 with ⟨a, rfl⟩ | ⟨a, m, hM, rfl⟩
  · exact .inl ⟨a, h1⟩
  · exact .inr ⟨a, m, hM, h1⟩
theorem any_single {W : List Int} (hW : W.all inN = true) {m : List (Int × Int)} (hM : MInv W W.length m) : m.any badP = single W := by
  have hM2 : ∀ x, mget m x = if W.count x = 0 then none else some ((W.count x : Nat) : Int) := fun x => by have := hM.is x; rwa [List.take_length] at this
  rw [Bool.eq_iff_iff, List.any_eq_true]
  unfold single
  rw [anyIn_t]
  constructor
  · rintro ⟨⟨x, v⟩, hp, hb⟩
    unfold badP at hb
    rw [Bool.and_eq_true, decide_eq_true_eq, decide_eq_true_eq] at hb
    simp only at hb
    have hg := mget_kv hM.nd hp
    rw [hM2] at hg
    split at hg
    · cases hg
    · rename_i hc
      have hv : v = ((W.count x : Nat) : Int) := (Option.some.inj hg).symm
      have hx : x ∈ W := List.count_pos_iff.1 (by omega)
      have hr := inN_t.1 (List.all_eq_true.1 hW x hx)
      obtain ⟨y, rfl⟩ := Int.eq_ofNat_of_zero_le hr.1
      exact ⟨y, by omega, by omega, decide_eq_true (by omega)⟩
  · rintro ⟨x, h1, h2, h3⟩
    have h3 := of_decide_eq_true h3
    have hg := hM2 (x : Int)
    rw [if_neg (by omega), h3] at hg
    refine ⟨((x : Int), 1), mget_mem hg, ?_⟩
    unfold badP
    rw [Bool.and_eq_true, decide_eq_true_eq, decide_eq_true_eq]
    simp only; omega
def valB (T U : List Int) : Bool := decide (1 ≤ T.length ∧ T.length ≤ 24 ∧ U.length = T.length) && ((T ++ U).all inN && !single (T ++ U))
theorem Valid_eq (T U : List Int) (hT : T.length ≤ 1048576) (hU : U.length ≤ 1048576) : m_impl_ValidChannel T U = some (valB T U) := by
  have hin : m_impl_in (T.length : Int) 1 24 = some (decide (1 ≤ T.length ∧ T.length ≤ 24)) := by
    unfold m_impl_in
    by_cases h : 1 ≤ T.length
    · rw [bif_t (by rw [decide_eq_true_eq]; omega)]
      exact congrArg some (decide_eq_decide.2 (by omega))
    · rw [bif_f (by rw [decide_eq_false_iff_not]; omega), decide_eq_false (by omega)]
  unfold m_impl_ValidChannel
  rw [hin]
  simp only [Option.bind_some]
  by_cases h1 : 1 ≤ T.length ∧ T.length ≤ 24
  · rw [decide_eq_true h1, bif_f (by rfl)]
    by_cases h2 : U.length = T.length
    · rw [bif_f (by rw [bne_eq_false_iff_eq]; omega), Concat_eq T U h1.1 h1.2 (by omega)]
      simp only [Option.bind_some]
      have hv : valB T U = ((T ++ U).all inN && !single (T ++ U)) := by unfold valB; rw [decide_eq_true ⟨h1.1, h1.2, h2⟩, Bool.true_and]
      rw [hv]
      rcases pins_loop (T ++ U) (by rw [List.length_append]; omega) with ⟨ha, hr⟩ | ⟨ha, m, hM, hr⟩
      · rw [hr, ha]; rfl
      · rw [hr, ha]
        simp only [Option.bind_some, Bool.true_and]
        refine allO_is fun l hl => ?_
        have hp : l.any badP = single (T ++ U) := by
          rw [← any_single ha hM, Bool.eq_iff_iff, List.any_eq_true, List.any_eq_true]
          exact ⟨fun ⟨x, hx, h⟩ => ⟨x, hl.mem_iff.1 hx, h⟩, fun ⟨x, hx, h⟩ => ⟨x, hl.mem_iff.2 hx, h⟩⟩
        rw [foldE_bad, hp]
        cases single (T ++ U) <;> rfl
    · rw [bif_t (by rw [bne_iff_ne]; omega)]
      unfold valB
      rw [decide_eq_false (fun h => h2 h.2.2), Bool.false_and]
  · rw [decide_eq_false h1, bif_t (by rfl)]
    unfold valB
    rw [decide_eq_false (fun h => h1 ⟨h.1, h.2.1⟩), Bool.false_and]
/-- The second program's table of counts. -/
def tab (T U : List Int) (k : Nat) : List Int := (List.range 13).map fun x => (((T.take k).count ((x : Nat) : Int) + (U.take k).count ((x : Nat) : Int) : Nat) : Int)
theorem map_set {g g' : Nat → Int} {i : Nat} {v : Int} (hi : i < 13) (h1 : g' i = v) (h2 : ∀ j, j < 13 → j ≠ i → g' j = g j) : ((List.range 13).map g).set i v = (List.range 13).map g' := by
  refine List.ext_getElem (by simp) fun j hj1 hj2 => ?_
  rw [List.getElem_set]
  simp only [List.getElem_map, List.getElem_range]
  by_cases e : i = j
  · subst e; rw [if_pos rfl, h1]
  · rw [if_neg e, h2 j (by simpa using hj2) (fun h => e h.symm)]
theorem sIs_loop (T U : List Int) (hu : U.length = T.length) (hm : T.length ≤ 24) : ((T ++ U).all inN = false ∧ loopM (m_spec_l03Is_bimplChannel_s1 T U) (0, tab T U 0) = some (.inr false)) ∨
    ((T ++ U).all inN = true ∧ loopM (m_spec_l03Is_bimplChannel_s1 T U) (0, tab T U 0) = some (.inl (tab T U T.length))) := by
  obtain ⟨r, h1, h2⟩ := loopM_count (m_spec_l03Is_bimplChannel_s1 T U) T.length (fun k s => s = ((k : Int), tab T U k) ∧ ∀ j (h : j < T.length) (h' : j < U.length), j < k → inN T[j] = true ∧ inN U[j] = true)
    (fun r => ((T ++ U).all inN = false ∧ r = .inr false) ∨ ((T ++ U).all inN = true ∧ r = .inl (tab T U T.length))) (s0 := (0, tab T U 0)) ⟨rfl, fun j _ _ h => by omega⟩ (by
      rintro k s hk ⟨rfl, hall⟩
      have hk' : k < U.length := by omega
      have hg : geti T (k : Int) = some T[k] := geti_lt hk
      have hg' : geti U (k : Int) = some U[k] := geti_lt hk'
      cases hin : inN T[k] with
      | false =>
        right
        refine ⟨.inr false, ?_, .inl ⟨?_, rfl⟩⟩
        · unfold m_spec_l03Is_bimplChannel_s1
          dsimp only
          rw [bif_t (by rw [decide_eq_true_eq]; omega), hg]
          simp only [Option.bind_some]
          rw [in12s, hin]; rfl
        · rw [List.all_eq_false]
          exact ⟨T[k], List.mem_append_left _ (List.getElem_mem hk), by rw [hin]; simp⟩
      | true =>
        cases hin' : inN U[k] with
        | false =>
          right
          refine ⟨.inr false, ?_, .inl ⟨?_, rfl⟩⟩
          · unfold m_spec_l03Is_bimplChannel_s1
            dsimp only
            rw [bif_t (by rw [decide_eq_true_eq]; omega), hg]
            simp only [Option.bind_some]
            rw [in12s, hin]
            simp only [Option.bind_some]
            rw [bif_f (by rfl), hg']
            simp only [Option.bind_some]
            rw [in12s, hin']; rfl
          · rw [List.all_eq_false]
            exact ⟨U[k], List.mem_append_right _ (List.getElem_mem hk'), by rw [hin']; simp⟩
        | true =>
          left
          have hb := inN_t.1 hin
          have hb' := inN_t.1 hin'
          obtain ⟨t, ht⟩ := Int.eq_ofNat_of_zero_le hb.1
          obtain ⟨u, hu'⟩ := Int.eq_ofNat_of_zero_le hb'.1
          have ht13 : t < 13 := by omega
          have hu13 : u < 13 := by omega
          let g1 : Nat → Int := fun x => (((T.take (k + 1)).count ((x : Nat) : Int) + (U.take k).count ((x : Nat) : Int) : Nat) : Int)
          have hc : ∀ (L : List Int) (k : Nat) (x : Int), L.length ≤ 24 → (L.take k).count x ≤ 24 := fun L k x hL => Nat.le_trans List.count_le_length (by rw [List.length_take]; omega)
          have s1 : (tab T U k).set t (wr ((((T.take k).count ((t : Nat) : Int) + (U.take k).count ((t : Nat) : Int) : Nat) : Int) + 1)) = (List.range 13).map g1 := by
            refine map_set ht13 ?_ fun j hj hne => ?_
            · show (((T.take (k + 1)).count ((t : Nat) : Int) + (U.take k).count ((t : Nat) : Int) : Nat) : Int) = _
              have := hc T k ((t : Nat) : Int) hm
              have := hc U k ((t : Nat) : Int) (by omega)
              rw [take_count hk, ht, if_pos rfl, wr_in (by omega)]; omega
            · show (((T.take (k + 1)).count ((j : Nat) : Int) + (U.take k).count ((j : Nat) : Int) : Nat) : Int) = _
              rw [take_count hk, ht, if_neg (by omega)]; rfl
          have s2 : ((List.range 13).map g1).set u (wr (g1 u + 1)) = tab T U (k + 1) := by
            refine map_set hu13 ?_ fun j hj hne => ?_
            · have := hc T (k + 1) ((u : Nat) : Int) hm
              have := hc U k ((u : Nat) : Int) (by omega)
              show _ = wr ((((T.take (k + 1)).count ((u : Nat) : Int) + (U.take k).count ((u : Nat) : Int) : Nat) : Int) + 1)
              rw [take_count hk', hu', if_pos rfl, wr_in (by omega)]; omega
            · show _ = (((T.take (k + 1)).count ((j : Nat) : Int) + (U.take k).count ((j : Nat) : Int) : Nat) : Int)
              rw [take_count hk', hu', if_neg (by omega)]; rfl
          refine ⟨(((k + 1 : Nat) : Int), tab T U (k + 1)), ?_, rfl, fun j hj hj' hjk => ?_⟩
          · unfold m_spec_l03Is_bimplChannel_s1
            dsimp only
            rw [bif_t (by rw [decide_eq_true_eq]; omega), hg]
            simp only [Option.bind_some]
            rw [in12s, hin]
            simp only [Option.bind_some]
            rw [bif_f (by rfl), hg']
            simp only [Option.bind_some]
            rw [in12s, hin']
            simp only [Option.bind_some]
            rw [bif_f (by rfl), ht, hu', show geti (tab T U k) (t : Int) = _ from geti_map ht13]
            simp only [Option.bind_some]
            rw [Int.toNat_natCast, Int.toNat_natCast, s1, geti_map hu13]
            simp only [Option.bind_some]
            rw [s2, wr_suc (by omega)]
          · by_cases e : j = k
            · subst e; exact ⟨hin, hin'⟩
            · exact hall j hj hj' (by omega)) (by
      rintro s ⟨rfl, hall⟩
      refine ⟨.inl (tab T U T.length), ?_, .inr ⟨?_, rfl⟩⟩
      · unfold m_spec_l03Is_bimplChannel_s1
        dsimp only
        rw [bif_f (by simp)]
      · rw [List.all_eq_true]
        intro x hx
        rcases List.mem_append.1 hx with hx | hx
        · obtain ⟨j, hj, rfl⟩ := List.mem_iff_getElem.1 hx
          exact (hall j hj (by omega) hj).1
        · obtain ⟨j, hj, rfl⟩ := List.mem_iff_getElem.1 hx
          exact (hall j (by omega) hj (by omega)).2)
  rcases h2 with ⟨a, rfl⟩ | ⟨a, rfl⟩
  · exact .inl ⟨a, h1⟩
  · exact .inr ⟨a, h1⟩
theorem Is_eq (T U : List Int) (hT : T.length ≤ 1048576) (hU : U.length ≤ 1048576) : m_spec_l03Is_bimplChannel T U = some (valB T U) := by
  unfold m_spec_l03Is_bimplChannel
  by_cases h1 : 1 ≤ T.length
  · rw [bif_f (by rw [decide_eq_false_iff_not]; omega)]
    by_cases h2 : T.length ≤ 24
    · rw [bif_f (by rw [decide_eq_false_iff_not]; omega)]
      by_cases h3 : U.length = T.length
      · rw [bif_f (by rw [bne_eq_false_iff_eq]; omega)]
        have hmk : mkC 13 = some () := by
          unfold mkC chk
          have := hlim
          rw [if_pos]
          rw [Bool.and_eq_true, decide_eq_true_eq, decide_eq_true_eq]; omega
        rw [hmk]
        simp only [Option.bind_some]
        have hrep : List.replicate (Int.toNat 13) (0 : Int) = tab T U 0 := by
          refine List.ext_getElem (by simp [tab]) fun j h1 h2 => ?_
          rw [List.getElem_replicate]
          simp [tab]
        have hv : valB T U = ((T ++ U).all inN && !single (T ++ U)) := by unfold valB; rw [decide_eq_true ⟨h1, h2, h3⟩, Bool.true_and]
        rw [hrep, hv]
        rcases sIs_loop T U h3 h2 with ⟨ha, hr⟩ | ⟨ha, hr⟩
        · rw [hr, ha]; rfl
        · rw [hr, ha]
          simp only [Option.bind_some, Bool.true_and]
          have hcount : ∀ x : Nat, (((T.take T.length).count ((x : Nat) : Int) + (U.take T.length).count ((x : Nat) : Int) : Nat) : Int) = (((T ++ U).count ((x : Nat) : Int) : Nat) : Int) := fun x => by
            rw [List.take_length, ← h3, List.take_length, List.count_append]
          have hl : (tab T U T.length).length = 13 := by simp [tab]
          have := loop_any (step := m_spec_l03Is_bimplChannel_s2 (tab T U T.length)) 1 13 (fun x => decide ((T ++ U).count ((x : Nat) : Int) = 1)) false (by omega) (fun k _ hk _ => by
            unfold m_spec_l03Is_bimplChannel_s2
            dsimp only
            rw [bif_t (by rw [decide_eq_true_eq, hl]; omega), show geti (tab T U T.length) (k : Int) = _ from geti_map hk]
            simp only [Option.bind_some]
            rw [hcount, wr_suc (by omega)]
            by_cases e : (T ++ U).count ((k : Nat) : Int) = 1
            · rw [bif_t (by rw [beq_iff_eq]; omega), decide_eq_true e]; rfl
            · rw [bif_f (by rw [beq_eq_false_iff_ne]; omega), decide_eq_false e]; rfl) (by
            unfold m_spec_l03Is_bimplChannel_s2
            dsimp only
            rw [bif_f (by rw [decide_eq_false_iff_not, hl]; omega)])
          rw [show ((1 : Nat) : Int) = 1 from rfl] at this
          rw [this, show anyIn 1 13 (fun x => decide ((T ++ U).count ((x : Nat) : Int) = 1)) = single (T ++ U) from rfl]
          cases single (T ++ U) <;> rfl
      · rw [bif_t (by rw [bne_iff_ne]; omega)]
        unfold valB
        rw [decide_eq_false (fun h => h3 h.2.2), Bool.false_and]
    · rw [bif_t (by rw [decide_eq_true_eq]; omega)]
      unfold valB
      rw [decide_eq_false (fun h => h2 h.2.1), Bool.false_and]
  · rw [bif_t (by rw [decide_eq_true_eq]; omega)]
    unfold valB
    rw [decide_eq_false (fun h => h1 h.1), Bool.false_and]
theorem valB_pins {T U : List Int} (h : valB T U = true) : Pins T U := by
  unfold valB at h
  rw [Bool.and_eq_true, Bool.and_eq_true, decide_eq_true_eq, List.all_eq_true] at h
  obtain ⟨⟨h1, h2, h3⟩, h4, _⟩ := h
  refine ⟨h3, h2, fun i hi => ?_, fun i hi => ?_⟩
  · rw [List.getD, List.getElem?_eq_getElem hi]
    exact inN_t.1 (h4 _ (List.mem_append_left _ (List.getElem_mem hi)))
  · rw [List.getD, List.getElem?_eq_getElem (show i < U.length by omega)]
    exact inN_t.1 (h4 _ (List.mem_append_right _ (List.getElem_mem _)))
end Go.Proofs.YtbfjekmefcpkmaaDoor
