/- SteinerLength: the reference's loops, and the law. -/
import Derived.Test.YtgaecldkiijmpaaPuSt3
set_option linter.unusedSimpArgs false
set_option linter.unusedVariables false
namespace Go.Proofs.Ytgaecldkiijmpaa
open Go.RowKit

theorem set_set' {α : Type} {l : List α} {i : Nat} {x y : α} : (l.set i x).set i y = l.set i y := List.set_set ..
theorem fold_takeS (L : List Int) (x : Int) {j : Nat} (h : j < L.length) : (L.take (j + 1)).foldl fS x = fS ((L.take j).foldl fS x) L[j] := by
  rw [List.take_succ_eq_append_getElem h, List.foldl_append]; rfl
section
variable {ps : List Pt}
theorem s29 (ho : okPs ps = true) (hn : ps.length ≤ 7) {s v : Nat} (hv : v < NP ps) : loopM (m_spec_l05Steiner_s29 ps (hanV ps) (s : Int) (v : Int)) (-1, 0) = some (bS (pdP ps) (-1) s v ps.length) := by
  have := loop_run (step := m_spec_l05Steiner_s29 ps (hanV ps) (s : Int) (v : Int)) ps.length (fun k => (bS (pdP ps) (-1) s v k, (k : Int))) (r := bS (pdP ps) (-1) s v ps.length) (by
    intro k hk
    have e : bS (pdP ps) (-1) s v (k + 1) = if s = 2 ^ k then pdP ps k v else bS (pdP ps) (-1) s v k := rfl
    rw [e]
    unfold m_spec_l05Steiner_s29
    simp only []
    rw [bif_t (by simpa using hk), (shl_pow (k := k) (by omega)).2, p0C_ok (by omega), (shl_pow (k := k) (by omega)).1]
    simp only [bind_some']
    by_cases c : s = 2 ^ k
    · rw [bif_t (by rw [c]; simp), if_pos c, gg hk, gg (ps := hanV ps) hv]
      simp only [bind_some']
      rw [l01Far_eq (ok_any ho k) (ok_any (hanV_ok ho) v)]
      simp only [bind_some']
      rw [wr_in (by omega)]; rfl
    · rw [bif_f (by simpa using fun h => c (by exact_mod_cast h)), if_neg c]
      simp only [bind_some']
      rw [wr_in (by omega)]; rfl) (by
    unfold m_spec_l05Steiner_s29
    simp only []
    rw [bif_f (by simp)])
  exact this
theorem s30 (ho : okPs ps = true) {m s v : Nat} (h0 : 0 < s) (hs : s < 2 ^ m) (hm : m ≤ 7) (hv : v < NP ps) (row : List Int) (x : Int) :
    loopM (m_spec_l05Steiner_s30 (s : Int) (v : Int) ((tbP ps m s).set s row)) (x, andI (wr ((s : Int) - 1)) (s : Int)) = some ((sP ps s v).foldl fS x) := by
  have h128 := pow_lt7 hm
  obtain ⟨v1, v2⟩ := visit h0 (by omega : s < 128)
  have hsl : (sP ps s v).length = (parts s).length := by unfold sP sums; simp
  have := loop_run (step := m_spec_l05Steiner_s30 (s : Int) (v : Int) ((tbP ps m s).set s row)) (parts s).length (fun j => (((sP ps s v).take j).foldl fS x, ((Pj s j : Nat) : Int))) (r := (sP ps s v).foldl fS x) (by
    intro j hj
    obtain ⟨hp, hpe⟩ := Pj_mem hj
    obtain ⟨a, b, c⟩ := parts_mem.1 hp
    obtain ⟨n1, n2⟩ := v2 j hj
    have t1 := (tw ho (s := Pj s j) a (by omega) hv).2
    have t2 := (tw ho (s := s - Pj s j) (by omega) (by omega) hv).2
    unfold tP at t1 t2
    have hse : (sP ps s v)[j]'(by omega) = tP ps (Pj s j) v + tP ps (s - Pj s j) v := by unfold sP sums; rw [List.getElem_map, ← hpe]
    rw [fold_takeS _ _ (by omega), hse]
    generalize ((sP ps s v).take j).foldl fS x = bst
    unfold m_spec_l05Steiner_s30
    simp only []
    rw [bif_t (by simp; omega), tab_geti' a b (by omega)]
    simp only [bind_some']
    rw [rowT_geti hv, n2, tab_geti' (by omega) (by omega) (by omega)]
    simp only [bind_some']
    rw [rowT_geti hv]
    simp only [bind_some']
    rw [wr_in (x := ((Pj s j : Nat) : Int) - 1) (by omega), n1, wr_in (x := tT _ _ _ _ v + _) (by omega)]
    unfold fS tP
    by_cases c1 : bst < 0
    · rw [bif_t (by simpa using c1), if_pos c1]; rfl
    · rw [bif_f (by simpa using c1), if_neg c1]
      by_cases c2 : tT (pdP ps) (dP ps) (NP ps) (Pj s j) v + tT (pdP ps) (dP ps) (NP ps) (s - Pj s j) v < bst
      · rw [bif_t (by simpa using c2), if_pos c2]; rfl
      · rw [bif_f (by simpa using c2), if_neg c2]; rfl) (by
    unfold m_spec_l05Steiner_s30
    simp only []
    rw [Pj_end, bif_f (by simp), ← hsl, List.take_length])
  rw [wr_in (by omega), v1]
  exact this
theorem s28 (ho : okPs ps = true) (hn : ps.length ≤ 7) {s : Nat} (h0 : 0 < s) (hs : s < 2 ^ ps.length) (hN : NP ps ≤ 1000000) :
    loopM (m_spec_l05Steiner_s28 ps (hanV ps) (s : Int)) (0, (tbP ps ps.length s).set s (List.replicate (NP ps) 0)) = some ((tbP ps ps.length s).set s ((List.range (NP ps)).map (mP ps s))) := by
  have := loop_run (step := m_spec_l05Steiner_s28 ps (hanV ps) (s : Int)) (NP ps) (fun v => ((v : Int), (tbP ps ps.length s).set s (rowP (NP ps) (mP ps s) (fun _ => 0) v))) (r := (tbP ps ps.length s).set s ((List.range (NP ps)).map (mP ps s))) (by
    intro v hv
    have hl := rowP_len (NP ps) (mP ps s) (fun _ => 0) v
    have hga := rowP_at (N := NP ps) (v := v) (f := mP ps s) (g := fun _ => 0) hv
    have hms := mm_spec (smlP ho) h0 hs (by omega) hv
    rw [← rowP_set (N := NP ps) (f := mP ps s) (g := fun _ => 0) hv]
    generalize rowP (NP ps) (mP ps s) (fun _ => 0) v = l at hl hga ⊢
    unfold m_spec_l05Steiner_s28
    simp only []
    rw [bif_t (by simpa using hv), s29 ho hn hv]
    simp only [bind_some']
    rw [s30 ho h0 hs (by omega) hv l]
    simp only [bind_some']
    rw [tab_at hs]
    simp only [bind_some']
    rw [hga]
    simp only [bind_some', Int.toNat_natCast]
    rw [set_set', hms, wr_in (by omega)]; rfl) (by
    unfold m_spec_l05Steiner_s28
    simp only []
    rw [bif_f (by simp), rowP_N])
  rw [← rowP_rep (NP ps) (mP ps s)]
  exact this
theorem s34 (ho : okPs ps = true) {m s v : Nat} (h0 : 0 < s) (hs : s < 2 ^ m) (hm : m ≤ 7) (hv : v < NP ps) (hN : NP ps ≤ 1000000) {l : List Int} (hl : l.length = NP ps) (hg : geti l (v : Int) = some (mP ps s v)) :
    loopM (m_spec_l05Steiner_s34 (hanV ps) (s : Int) ((List.range (NP ps)).map (mP ps s)) (v : Int)) (0, (tbP ps m s).set s l) = some ((tbP ps m s).set s (l.set v (tP ps s v))) := by
  have h128 := pow_lt7 hm
  have := loop_run (step := m_spec_l05Steiner_s34 (hanV ps) (s : Int) ((List.range (NP ps)).map (mP ps s)) (v : Int)) (NP ps) (fun u => ((u : Int), (tbP ps m s).set s (l.set v (((dl ps s v).take u).foldl min (mP ps s v))))) (r := (tbP ps m s).set s (l.set v (tP ps s v))) (by
    intro u hu
    have hmr : geti ((List.range (NP ps)).map (mP ps s)) (u : Int) = some (mP ps s u) := by rw [geti_nat]; simp [hu]
    have b1 := (tw ho h0 (by omega) hu).1
    have b2 := dist_b (ok_any (hanV_ok ho) u) (ok_any (hanV_ok ho) v)
    unfold m_spec_l05Steiner_s34
    simp only []
    rw [bif_t (by simpa using hu), tab_at hs]
    simp only [bind_some']
    rw [set_geti (by omega)]
    simp only [bind_some']
    rw [hmr, gg (ps := hanV ps) hu, gg (ps := hanV ps) hv]
    simp only [bind_some']
    rw [l01Far_eq (ok_any (hanV_ok ho) u) (ok_any (hanV_ok ho) v)]
    simp only [bind_some', Int.toNat_natCast]
    rw [mn2]
    simp only [bind_some']
    rw [set_set', set_set', wr_in (x := mP ps s u + _) (by omega), fold_take _ _ (by rw [dl_len]; exact hu), dl_at, wr_in (by omega)]; rfl) (by
    unfold m_spec_l05Steiner_s34
    simp only []
    rw [bif_f (by simp), ← dl_len ps s v, List.take_length, t_dl h0 hv])
  have e0 : (0, (tbP ps m s).set s l) = (((0 : Nat) : Int), (tbP ps m s).set s (l.set v (((dl ps s v).take 0).foldl min (mP ps s v)))) := by
    rw [List.take_zero, List.foldl_nil, set_back hg]; rfl
  rw [e0]
  exact this
theorem s33 (ho : okPs ps = true) {m s : Nat} (h0 : 0 < s) (hs : s < 2 ^ m) (hm : m ≤ 7) (hN : NP ps ≤ 1000000) :
    loopM (m_spec_l05Steiner_s33 (hanV ps) (s : Int) ((List.range (NP ps)).map (mP ps s))) (0, (tbP ps m s).set s ((List.range (NP ps)).map (mP ps s))) = some (tbP ps m (s + 1)) := by
  have := loop_run (step := m_spec_l05Steiner_s33 (hanV ps) (s : Int) ((List.range (NP ps)).map (mP ps s))) (NP ps) (fun v => ((v : Int), (tbP ps m s).set s (rowP (NP ps) (tP ps s) (mP ps s) v))) (r := tbP ps m (s + 1)) (by
    intro v hv
    have hl := rowP_len (NP ps) (tP ps s) (mP ps s) v
    have hga := rowP_at (N := NP ps) (v := v) (f := tP ps s) (g := mP ps s) hv
    rw [if_neg (by omega)] at hga
    rw [← rowP_set hv]
    unfold m_spec_l05Steiner_s33
    simp only []
    rw [bif_t (by simpa using hv), s34 ho h0 hs hm hv hN hl hga]
    simp only [bind_some']
    rw [wr_in (by omega)]; rfl) (by
    unfold m_spec_l05Steiner_s33
    simp only []
    rw [bif_f (by simp), rowP_N]
    exact congrArg (fun t => some (Ctl.out t)) (tab_set h0 hs))
  rw [← rowP_0 (NP ps) (tP ps s) (mP ps s)]
  exact this
theorem tab1 (m : Nat) : List.replicate (2 ^ m) ([] : List Int) = tbP ps m (0 + 1) := by
  unfold tbP tab
  have : (fun e => if 0 < e ∧ e < 0 + 1 then rowT (pdP ps) (dP ps) (NP ps) e else []) = fun _ => ([] : List Int) := by funext e; rw [if_neg (by omega)]
  rw [this]; simp [List.map_const']
theorem s23 (ho : okPs ps = true) (hn : ps.length ≤ 7) (h1 : 1 ≤ ps.length) (hN : NP ps ≤ 1000000) :
    loopM (m_spec_l05Steiner_s23 ps (hanV ps)) (List.replicate (2 ^ ps.length) ([] : List Int), 1) = some (tbP ps ps.length (2 ^ ps.length)) := by
  have hp := Nat.two_pow_pos ps.length
  have h128 := pow_lt7 (m := ps.length) (by omega)
  have hN' : (hanV ps).length ≤ 1000000 := hN
  have := loop_run (step := m_spec_l05Steiner_s23 ps (hanV ps)) (2 ^ ps.length - 1) (fun j => (tbP ps ps.length (j + 1), ((j + 1 : Nat) : Int))) (r := tbP ps ps.length (2 ^ ps.length)) (by
    intro j hj
    have hlen := tab_len (pd := pdP ps) (d := dP ps) (N := NP ps) ps.length (j + 1)
    unfold m_spec_l05Steiner_s23
    simp only []
    rw [(shl_pow (k := ps.length) (by omega)).2, (shl_pow (k := ps.length) (by omega)).1, bif_t (decide_eq_true (Int.ofNat_lt.2 (by omega))), mkC_ok (by unfold lim; omega)]
    simp only [bind_some']
    rw [geti_lt (l := tbP ps ps.length (j + 1)) (by rw [hlen]; omega)]
    simp only [bind_some', Int.toNat_natCast]
    have e28 := s28 ho hn (s := j + 1) (by omega) (by omega) hN
    unfold NP at e28
    rw [e28]
    simp only [bind_some']
    rw [tab_at (by omega)]
    simp only [bind_some']
    rw [own_eq _ (by simpa using hN')]
    simp only [bind_some']
    have e33 := s33 ho (m := ps.length) (s := j + 1) (by omega) (by omega) (by omega) hN
    unfold NP at e33
    rw [e33]
    simp only [bind_some']
    rw [wr_in (by omega)]; rfl) (by
    unfold m_spec_l05Steiner_s23
    simp only []
    rw [(shl_pow (k := ps.length) (by omega)).2, (shl_pow (k := ps.length) (by omega)).1, bif_f (decide_eq_false (fun h => absurd (Int.ofNat_lt.1 h) (by omega))), show 2 ^ ps.length - 1 + 1 = 2 ^ ps.length by omega])
  rw [tab1]
  exact this
def mnF (ps : List Pt) (s v : Nat) : Int := ((List.range v).map (tP ps s)).foldl min (tP ps s 0)
theorem mnF_succ (ps : List Pt) (s v : Nat) : mnF ps s (v + 1) = min (mnF ps s v) (tP ps s v) := by
  unfold mnF
  rw [List.range_succ, List.map_append, List.foldl_append]; rfl
theorem s35 {s : Nat} (h0 : 0 < s) (hs : s + 1 = 2 ^ ps.length) (hn : ps.length ≤ 7) (hN : NP ps ≤ 1000000) (hN1 : 1 ≤ NP ps) :
    loopM (m_spec_l05Steiner_s35 ps (hanV ps) (tbP ps ps.length (2 ^ ps.length))) (tP ps s 0, 1) = some (mnF ps s (NP ps)) := by
  have h128 := pow_lt7 (m := ps.length) (by omega)
  have hN' : (hanV ps).length ≤ 1000000 := hN
  have := loop_run (step := m_spec_l05Steiner_s35 ps (hanV ps) (tbP ps ps.length (2 ^ ps.length))) (NP ps - 1) (fun v => (mnF ps s (v + 1), ((v + 1 : Nat) : Int))) (r := mnF ps s (NP ps)) (by
    intro v hv
    have hv1 : v + 1 < (hanV ps).length := by unfold NP at hv; omega
    unfold m_spec_l05Steiner_s35
    simp only []
    rw [bif_t (by simp; omega), (shl_pow (k := ps.length) (by omega)).2, (shl_pow (k := ps.length) (by omega)).1, wr_in (by omega), show ((2 ^ ps.length : Nat) : Int) - 1 = (s : Int) by omega, tab_geti h0 (by omega) (by omega)]
    simp only [bind_some']
    rw [rowT_geti (by exact hv1), ]
    simp only [bind_some']
    rw [mn2]
    simp only [bind_some']
    rw [wr_in (by omega), mnF_succ ps s (v + 1)]; rfl) (by
    unfold m_spec_l05Steiner_s35
    simp only []
    have : NP ps - 1 + 1 = NP ps := by omega
    rw [this, bif_f (by simp)])
  have e0 : (tP ps s 0, (1 : Int)) = (mnF ps s (0 + 1), ((0 + 1 : Nat) : Int)) := by
    rw [mnF_succ]
    have : min (mnF ps s 0) (tP ps s 0) = tP ps s 0 := by unfold mnF; simp
    rw [this]; rfl
  rw [e0]
  exact this
theorem mnF_is {s : Nat} (hN1 : 1 ≤ NP ps) {x : Int} {p : Nat} (hp : p < NP ps) (hle : ∀ v, v < NP ps → x ≤ tP ps s v) (hat : tP ps s p ≤ x) : mnF ps s (NP ps) = x := by
  unfold mnF
  obtain ⟨h1, h2, h3⟩ := foldl_min ((List.range (NP ps)).map (tP ps s)) (tP ps s 0)
  have a := h2 (tP ps s p) (List.mem_map.2 ⟨p, List.mem_range.2 hp, rfl⟩)
  rcases h3 with h3 | h3
  · have := hle 0 (by omega); omega
  · obtain ⟨v, hv, e⟩ := List.mem_map.1 h3
    have := hle v (List.mem_range.1 hv)
    omega
theorem Index_at (l : List Pt) (p : Pt) (hp : p ∈ l) (hb : l.length ≤ 140737488355328) : ∃ k : Nat, k < l.length ∧ m_slices_Index_impl_Point_impl_Point l p.1 p.2 = some (k : Int) ∧ gP l k = p := by
  unfold m_slices_Index_impl_Point_impl_Point
  rcases loop_find (step := m_slices_Index_impl_Point_impl_Point_s1 l p.1 p.2) l.length (fun k => decide (l[k]? = some p)) (fun k => (k : Int)) (by
      intro k hk
      unfold m_slices_Index_impl_Point_impl_Point_s1
      simp only []
      rw [bif_t (by simpa using hk), geti_lt hk]
      simp only [bind_some', eqb, List.getElem?_eq_getElem hk, Option.some.injEq]
      by_cases h : p = l[k]
      · simp [h.symm]
      · have h' : ¬ l[k] = p := fun e => h e.symm
        simp only [h, h', decide_false, cond_false]
        rw [wr_in (by omega)]; rfl) (by
      unfold m_slices_Index_impl_Point_impl_Point_s1
      simp only []
      rw [bif_f (by simp)]) with ⟨h1, h2⟩ | ⟨k, h1, h2, _, h3⟩
  · exfalso
    obtain ⟨k, hk, rfl⟩ := List.mem_iff_getElem.1 hp
    have := anyIn_f.1 h1 k (by omega) hk
    simp [List.getElem?_eq_getElem hk] at this
  · rw [h3]
    simp only [decide_eq_true_eq] at h2
    obtain ⟨hlt, he⟩ := List.getElem?_eq_some_iff.1 h2
    exact ⟨k, hlt, rfl, by rw [gP_at hlt]; exact he⟩
theorem pin_in {k : Nat} (hk : k < ps.length) : gP ps k ∈ hanV ps := by
  unfold hanV
  rw [mem_setPts]
  unfold hanF hanRow
  exact List.mem_flatMap.2 ⟨k, List.mem_range.2 hk, List.mem_map.2 ⟨k, List.mem_range.2 hk, rfl⟩⟩
theorem metP (ho : okPs ps = true) {m p : Nat} (hp : p < NP ps) (he : gP (hanV ps) p = gP ps m) : Met (pdP ps) (dP ps) (NP ps) m p := by
  have hh := hanV_ok ho
  refine ⟨fun v _ => by show dist _ _ = 0; unfold dist; omega, fun u v _ _ => (dist_b (ok_any hh u) (ok_any hh v)).1, fun u v _ _ => dist_comm _ _, fun u v w _ _ _ => by show dist _ _ ≤ dist _ _ + dist _ _; unfold dist; omega, hp, fun v _ => by show dist _ _ = dist _ _; rw [he]⟩
theorem both (ho : okPs ps = true) (hn : ps.length ≤ 7) (h1 : 1 ≤ ps.length) : ∃ x, m_impl_steiner ps = some x ∧ m_spec_l05Steiner ps = some x := by
  have hN' : (hanV ps).length ≤ 1000000 := hanV_len ps (by omega)
  have hN : NP ps ≤ 1000000 := hN'
  have hN1 : 1 ≤ NP ps := hanV_pos h1
  obtain ⟨p, hp, hix, hpe⟩ := Index_at (hanV ps) (gP ps (ps.length - 1)) (pin_in (by omega)) (by omega)
  have hpN : p < NP ps := hp
  have M := metP ho (m := ps.length - 1) hpN hpe
  have h128 := pow_lt7 (m := ps.length) hn
  have hpos := Nat.two_pow_pos ps.length
  have h2 : 2 ≤ 2 ^ ps.length := by
    have := Nat.pow_le_pow_right (n := 2) (by omega) h1
    simpa using this
  have hspec : m_spec_l05Steiner ps = some (mnF ps (2 ^ ps.length - 1) (NP ps)) := by
    unfold m_spec_l05Steiner
    rw [specHanan_eq ps (by omega)]
    simp only [bind_some']
    rw [(shl_pow (k := ps.length) (by omega)).2, p0C_ok (by omega), (shl_pow (k := ps.length) (by omega)).1, mkC_ok (by unfold lim; omega)]
    simp only [bind_some', Int.toNat_natCast]
    rw [s23 ho hn h1 hN]
    simp only [bind_some']
    rw [wr_in (by omega), show ((2 ^ ps.length : Nat) : Int) - 1 = ((2 ^ ps.length - 1 : Nat) : Int) by omega, tab_geti (by omega) (by omega) (by omega)]
    simp only [bind_some']
    have hr0 : geti (rP ps (2 ^ ps.length - 1)) 0 = some (tP ps (2 ^ ps.length - 1) 0) := rowT_geti (v := 0) (by omega)
    unfold rP at hr0
    rw [hr0]
    simp only [bind_some']
    rw [s35 (by omega) (by omega) hn hN hN1]
    rfl
  rw [hspec]
  by_cases c : ps.length = 1
  · refine ⟨0, ?_, ?_⟩
    · unfold m_impl_steiner
      rw [implHanan_eq ps (by omega)]
      simp only [bind_some']
      rw [wr_in (by omega), bif_t (by simp [c])]
    · have e1 : 2 ^ ps.length - 1 = 1 := by rw [c]
      rw [e1]
      congr 1
      refine mnF_is hN1 hpN (fun v hv => (tw ho (s := 1) (by omega) (by omega) hv).2.1) ?_
      have h3 := tT_le (pdP ps) (dP ps) (NP ps) (s := 1) (by omega) hpN hpN
      have h4 := mm_one (pdP ps) (dP ps) (NP ps) (k := 0) (v := p) (single_pow (by omega))
      rw [show (2 : Nat) ^ 0 = 1 from rfl] at h4
      have h5 := M.pin p hpN
      rw [show ps.length - 1 = 0 by omega] at h5
      have h6 := M.self p hpN
      unfold tP
      omega
  · obtain ⟨t1, t2⟩ := tree_last M (by omega) (by omega)
    rw [show ps.length - 1 + 1 = ps.length by omega] at t1 t2
    have hS := Nat.two_pow_pos (ps.length - 1)
    have hS2 : 2 ≤ 2 ^ (ps.length - 1) := by
      have := Nat.pow_le_pow_right (n := 2) (show 2 > 0 by omega) (show 1 ≤ ps.length - 1 by omega)
      simpa using this
    have hS128 := pow_lt7 (m := ps.length - 1) (by omega)
    refine ⟨tP ps (2 ^ (ps.length - 1) - 1) p, ?_, ?_⟩
    · unfold m_impl_steiner
      rw [implHanan_eq ps (by omega)]
      simp only [bind_some']
      rw [wr_in (x := (ps.length : Int) - 1) (by omega), bif_f (by simp; omega), p0C_ok (by omega), show (ps.length : Int) - 1 = ((ps.length - 1 : Nat) : Int) by omega, (shl_pow (by omega)).1, mkC_ok (by unfold lim; omega)]
      simp only [bind_some', Int.toNat_natCast]
      rw [i23 ho hn (by omega) hN]
      simp only [bind_some']
      rw [gg (k := ps.length - 1) (by omega), wr_in (by omega), show ((2 ^ (ps.length - 1) : Nat) : Int) - 1 = ((2 ^ (ps.length - 1) - 1 : Nat) : Int) by omega, tab_geti (by omega) (by omega) (by omega)]
      simp only [bind_some']
      rw [hix]
      simp only [bind_some']
      rw [rowT_geti hpN]
      rfl
    · congr 1
      exact mnF_is hN1 hpN t1 t2
end
end Go.Proofs.Ytgaecldkiijmpaa
