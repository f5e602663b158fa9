/- SteinerLength: the loops. -/
import Derived.Test.YtgaecldkiijmpaaPuSt2
set_option linter.unusedSimpArgs false
set_option linter.unusedVariables false
namespace Go.Proofs.Ytgaecldkiijmpaa
open Go.RowKit

abbrev pdP (ps : List Pt) (k v : Nat) : Int := dist (gP ps k) (gP (hanV ps) v)
abbrev dP (ps : List Pt) (u v : Nat) : Int := dist (gP (hanV ps) u) (gP (hanV ps) v)
abbrev NP (ps : List Pt) : Nat := (hanV ps).length
abbrev mP (ps : List Pt) (s v : Nat) : Int := mm (pdP ps) (dP ps) (NP ps) s v
abbrev tP (ps : List Pt) (s v : Nat) : Int := tT (pdP ps) (dP ps) (NP ps) s v
abbrev sP (ps : List Pt) (s v : Nat) : List Int := sums (pdP ps) (dP ps) (NP ps) s v
abbrev rP (ps : List Pt) (s : Nat) : List Int := rowT (pdP ps) (dP ps) (NP ps) s
abbrev tbP (ps : List Pt) (m s : Nat) : List (List Int) := tab (pdP ps) (dP ps) (NP ps) m s
theorem ok_any {ps : List Pt} (h : okPs ps = true) (k : Nat) : okP (gP ps k) = true := by
  by_cases hk : k < ps.length
  · rw [gP_at hk]; exact okPs_at h hk
  · have : gP ps k = (0, 0) := by unfold gP; simp [List.getD, List.getElem?_eq_none (show ps.length ≤ k by omega)]
    rw [this]; decide
theorem gg {ps : List Pt} {k : Nat} (hk : k < ps.length) : geti ps (k : Int) = some (gP ps k) := by rw [geti_lt hk, gP_at hk]
def dl (ps : List Pt) (s v : Nat) : List Int := (List.range (NP ps)).map fun u => mP ps s u + dP ps u v
theorem dl_len (ps : List Pt) (s v : Nat) : (dl ps s v).length = NP ps := by simp [dl]
theorem dl_at {ps : List Pt} {s v u : Nat} (h : u < (dl ps s v).length) : (dl ps s v)[u] = mP ps s u + dP ps u v := by simp [dl]
theorem t_dl {ps : List Pt} {s v : Nat} (h : 0 < s) (hv : v < NP ps) : (dl ps s v).foldl min (mP ps s v) = tP ps s v := (tT_eq (pdP ps) (dP ps) (NP ps) h hv).symm
def rowP (N : Nat) (f g : Nat → Int) (v : Nat) : List Int := (List.range N).map fun j => if j < v then f j else g j
theorem rowP_len (N : Nat) (f g : Nat → Int) (v : Nat) : (rowP N f g v).length = N := by simp [rowP]
theorem rowP_set {N v : Nat} {f g : Nat → Int} (h : v < N) : (rowP N f g v).set v (f v) = rowP N f g (v + 1) := by
  apply List.ext_getElem?
  intro j
  by_cases e : v = j
  · subst e
    rw [List.getElem?_set_self (by rw [rowP_len]; exact h)]
    unfold rowP; simp [h]
  · rw [List.getElem?_set_ne e]
    unfold rowP
    rw [List.getElem?_map, List.getElem?_map]
    cases hj : (List.range N)[j]? with
    | none => rfl
    | some x =>
      obtain ⟨hlt, hx⟩ := List.getElem?_eq_some_iff.1 hj
      rw [List.getElem_range] at hx
      subst hx
      simp only [Option.map_some, Option.some.injEq]
      by_cases c : j < v
      · rw [if_pos c, if_pos (by omega)]
      · rw [if_neg c, if_neg (by omega)]
theorem rowP_at {N v j : Nat} {f g : Nat → Int} (h : j < N) : geti (rowP N f g v) (j : Int) = some (if j < v then f j else g j) := by rw [geti_nat]; unfold rowP; simp [h]
theorem rowP_0 (N : Nat) (f : Nat → Int) (g : Nat → Int) : rowP N f g 0 = (List.range N).map g := by unfold rowP; simp
theorem rowP_N (N : Nat) (f g : Nat → Int) : rowP N f g N = (List.range N).map f := by
  unfold rowP
  apply List.map_congr_left
  intro j hj
  rw [if_pos (List.mem_range.1 hj)]
theorem rowP_rep (N : Nat) (f : Nat → Int) : rowP N f (fun _ => 0) 0 = List.replicate N 0 := by
  rw [rowP_0]; simp [List.map_const']
theorem set_same {l : List Int} {i : Nat} {x y : Int} : (l.set i x).set i y = l.set i y := List.set_set ..
theorem set_back {l : List Int} {i : Nat} {x : Int} (h : geti l (i : Int) = some x) : l.set i x = l := by
  rw [geti_nat] at h
  apply List.ext_getElem?
  intro j
  by_cases e : i = j
  · subst e
    obtain ⟨hlt, _⟩ := List.getElem?_eq_some_iff.1 h
    rw [List.getElem?_set_self hlt, h]
  · rw [List.getElem?_set_ne e]
theorem clone_eq (l : List Int) (hb : l.length ≤ 1000000) : m_slices_Clone_int64_int64 l = some l := by
  unfold m_slices_Clone_int64_int64
  rw [apC_ok (by unfold lim; simp; omega)]; simp
theorem own_eq (l : List Int) (hb : l.length ≤ 1000000) : m_spec_l00Own l = some l := by
  unfold m_spec_l00Own
  rw [apC_ok (by unfold lim; simp; omega)]; simp
theorem mn2 (a b : Int) : m_spec_l00Min a b = some (min a b) := by
  unfold m_spec_l00Min
  by_cases h : a < b
  · rw [bif_t (by simpa using h)]; congr 1; omega
  · rw [bif_f (by simpa using h)]; congr 1; omega
section
variable {ps : List Pt}
theorem smlP (ho : okPs ps = true) : Sml (pdP ps) (dP ps) (NP ps) := by
  have hh := hanV_ok ho
  exact ⟨fun k v _ _ => dist_b (ok_any ho k) (ok_any hh v), fun u v _ _ => dist_b (ok_any hh u) (ok_any hh v), fun v _ => by show dist _ _ = 0; unfold dist; omega⟩
theorem tw (ho : okPs ps = true) {s v : Nat} (h0 : 0 < s) (h : s < 128) (hv : v < NP ps) : (0 ≤ mP ps s v ∧ mP ps s v ≤ 60000) ∧ (0 ≤ tP ps s v ∧ tP ps s v ≤ 60000) := by
  have := small (smlP ho) s s v (Nat.le_refl _) h0 h hv
  unfold mP tP
  omega
/-! ### The program -/
theorem i29 (ho : okPs ps = true) (hn : ps.length ≤ 7) (h1 : 1 ≤ ps.length) {s v : Nat} (hv : v < NP ps) {l : List Int} (hl : l.length = NP ps) :
    loopM (m_impl_steiner_s29 ps (s : Int) (v : Int) (gP (hanV ps) v)) (0, l.set v 1000000000) = some (l.set v (bS (pdP ps) 1000000000 s v (ps.length - 1))) := by
  have := loop_run (step := m_impl_steiner_s29 ps (s : Int) (v : Int) (gP (hanV ps) v)) (ps.length - 1) (fun k => ((k : Int), l.set v (bS (pdP ps) 1000000000 s v k))) (r := l.set v (bS (pdP ps) 1000000000 s v (ps.length - 1))) (by
    intro k hk
    have e : bS (pdP ps) 1000000000 s v (k + 1) = if s = 2 ^ k then pdP ps k v else bS (pdP ps) 1000000000 s v k := rfl
    rw [e]
    unfold m_impl_steiner_s29
    simp only []
    rw [wr_in (x := (ps.length : Int) - 1) (by omega), bif_t (by simp; omega), p0C_ok (by omega), (shl_pow (by omega)).1]
    simp only [bind_some']
    by_cases c : s = 2 ^ k
    · rw [bif_t (by rw [c]; simp), if_pos c, gg (k := k) (by omega)]
      simp only [bind_some']
      rw [far_eq (ok_any (hanV_ok ho) v) (ok_any ho k), set_geti (by omega)]
      simp only [bind_some', Int.toNat_natCast]
      rw [set_same, wr_in (by omega), dist_comm]; rfl
    · rw [bif_f (by simpa using fun h => c (by exact_mod_cast h)), if_neg c]
      simp only [bind_some']
      rw [wr_in (by omega)]; rfl) (by
    unfold m_impl_steiner_s29
    simp only []
    rw [wr_in (x := (ps.length : Int) - 1) (by omega), bif_f (by simp; omega)])
  exact this
theorem i30 (ho : okPs ps = true) {m s v : Nat} (h0 : 0 < s) (hs : s < 2 ^ m) (hm : m ≤ 7) (hv : v < NP ps) {l : List Int} (hl : l.length = NP ps) (x : Int) :
    loopM (m_impl_steiner_s30 (tbP ps m s) (s : Int) (v : Int)) (andI (wr ((s : Int) - 1)) (s : Int), l.set v x) = some (l.set v ((sP ps s v).foldl min x)) := by
  have h128 := pow_lt7 hm
  obtain ⟨v1, v2⟩ := visit h0 (by omega : s < 128)
  have hsl : (sP ps s v).length = (parts s).length := by unfold sP sums; simp
  have := loop_run (step := m_impl_steiner_s30 (tbP ps m s) (s : Int) (v : Int)) (parts s).length (fun j => (((Pj s j : Nat) : Int), l.set v (((sP ps s v).take j).foldl min x))) (r := l.set v ((sP ps s v).foldl min x)) (by
    intro j hj
    obtain ⟨hp, hpe⟩ := Pj_mem hj
    obtain ⟨a, b, c⟩ := parts_mem.1 hp
    obtain ⟨n1, n2⟩ := v2 j hj
    have t1 := (tw ho (s := Pj s j) a (by omega) hv).2
    have t2 := (tw ho (s := s - Pj s j) (by omega) (by omega) hv).2
    unfold tP at t1 t2
    have hse : (sP ps s v)[j]'(by omega) = tP ps (Pj s j) v + tP ps (s - Pj s j) v := by unfold sP sums; rw [List.getElem_map, ← hpe]
    unfold m_impl_steiner_s30
    simp only []
    rw [bif_t (by simp; omega), set_geti (by omega), tab_geti a b (by omega)]
    simp only [bind_some']
    rw [rowT_geti hv, n2, tab_geti (by omega) (by omega) (by omega)]
    simp only [bind_some']
    rw [rowT_geti hv]
    simp only [bind_some', Int.toNat_natCast]
    rw [wr_in (x := ((Pj s j : Nat) : Int) - 1) (by omega), n1, set_same, wr_in (x := tT _ _ _ _ v + _) (by omega), fold_take _ _ (by omega), hse]
    have e : ∀ y b : Int, (if y < b then y else b) = min b y := fun y b => by split <;> omega
    rw [e]) (by
    unfold m_impl_steiner_s30
    simp only []
    rw [Pj_end, bif_f (by simp), ← hsl, List.take_length])
  rw [wr_in (by omega), v1]
  exact this
theorem i28 (ho : okPs ps = true) (hn : ps.length ≤ 7) (h1 : 1 ≤ ps.length) {s : Nat} (h0 : 0 < s) (hs : s < 2 ^ (ps.length - 1)) (hN : NP ps ≤ 1000000) :
    loopM (m_impl_steiner_s28 ps (hanV ps) (tbP ps (ps.length - 1) s) (s : Int)) (0, List.replicate (Int.toNat (NP ps : Int)) 0) = some ((List.range (NP ps)).map (mP ps s)) := by
  have := loop_run (step := m_impl_steiner_s28 ps (hanV ps) (tbP ps (ps.length - 1) s) (s : Int)) (NP ps) (fun v => ((v : Int), rowP (NP ps) (mP ps s) (fun _ => 0) v)) (r := (List.range (NP ps)).map (mP ps s)) (by
    intro v hv
    have hl := rowP_len (NP ps) (mP ps s) (fun _ => 0) v
    have hs2 := rowP_set (N := NP ps) (f := mP ps s) (g := fun _ => 0) hv
    have hga := rowP_at (N := NP ps) (v := v) (f := mP ps s) (g := fun _ => 0) hv
    have hmi := mm_impl (smlP ho) h0 hs (by omega) hv
    rw [← hs2]
    generalize rowP (NP ps) (mP ps s) (fun _ => 0) v = l at hl hga ⊢
    unfold m_impl_steiner_s28
    simp only []
    rw [bif_t (by simpa using hv), gg (ps := hanV ps) hv]
    simp only [bind_some']
    rw [hga]
    simp only [bind_some', Int.toNat_natCast]
    rw [i29 ho hn h1 hv hl]
    simp only [bind_some']
    rw [i30 ho h0 hs (by omega) hv hl]
    simp only [bind_some']
    rw [hmi, wr_in (by omega)]; rfl) (by
    unfold m_impl_steiner_s28
    simp only []
    rw [bif_f (by simp), rowP_N])
  rw [Int.toNat_natCast, ← rowP_rep (NP ps) (mP ps s)]
  exact this
theorem i34 (ho : okPs ps = true) {s v : Nat} (h0 : 0 < s) (hs : s < 128) (hv : v < NP ps) (hN : NP ps ≤ 1000000) {l : List Int} (hl : l.length = NP ps) (hg : geti l (v : Int) = some (mP ps s v)) :
    loopM (m_impl_steiner_s34 (hanV ps) ((List.range (NP ps)).map (mP ps s)) (v : Int) (gP (hanV ps) v)) (0, l) = some (l.set v (tP ps s v)) := by
  have := loop_run (step := m_impl_steiner_s34 (hanV ps) ((List.range (NP ps)).map (mP ps s)) (v : Int) (gP (hanV ps) v)) (NP ps) (fun u => ((u : Int), l.set v (((dl ps s v).take u).foldl min (mP ps s v)))) (r := l.set v (tP ps s v)) (by
    intro u hu
    have hmr : geti ((List.range (NP ps)).map (mP ps s)) (u : Int) = some (mP ps s u) := by rw [geti_nat]; simp [hu]
    have b1 := (tw ho h0 hs hu).1
    have b2 := dist_b (ok_any (hanV_ok ho) u) (ok_any (hanV_ok ho) v)
    unfold m_impl_steiner_s34
    simp only []
    rw [bif_t (by simpa using hu), gg (ps := hanV ps) hu, set_geti (by omega)]
    simp only [bind_some']
    rw [hmr, far_eq (ok_any (hanV_ok ho) v) (ok_any (hanV_ok ho) u)]
    simp only [bind_some', Int.toNat_natCast]
    rw [set_same, dist_comm, wr_in (x := mP ps s u + _) (by omega), fold_take _ _ (by rw [dl_len]; exact hu), dl_at]
    have e : ∀ y b : Int, (if y < b then y else b) = min b y := fun y b => by split <;> omega
    rw [e, wr_in (by omega)]; rfl) (by
    unfold m_impl_steiner_s34
    simp only []
    rw [bif_f (by simp), ← dl_len ps s v, List.take_length, t_dl h0 hv])
  have e0 : (0, l) = (((0 : Nat) : Int), l.set v (((dl ps s v).take 0).foldl min (mP ps s v))) := by
    rw [List.take_zero, List.foldl_nil, set_back hg]; rfl
  rw [e0]
  exact this
theorem i33 (ho : okPs ps = true) {s : Nat} (h0 : 0 < s) (hs : s < 128) (hN : NP ps ≤ 1000000) :
    loopM (m_impl_steiner_s33 (hanV ps) ((List.range (NP ps)).map (mP ps s))) (0, (List.range (NP ps)).map (mP ps s)) = some (rP ps s) := by
  have := loop_run (step := m_impl_steiner_s33 (hanV ps) ((List.range (NP ps)).map (mP ps s))) (NP ps) (fun v => ((v : Int), rowP (NP ps) (tP ps s) (mP ps s) v)) (r := rP ps s) (by
    intro v hv
    have hl := rowP_len (NP ps) (tP ps s) (mP ps s) v
    have hga := rowP_at (N := NP ps) (v := v) (f := tP ps s) (g := mP ps s) hv
    rw [if_neg (by omega)] at hga
    rw [← rowP_set hv]
    unfold m_impl_steiner_s33
    simp only []
    rw [bif_t (by simpa using hv), gg (ps := hanV ps) hv]
    simp only [bind_some']
    rw [i34 ho h0 hs hv hN hl hga]
    simp only [bind_some']
    rw [wr_in (by omega)]; rfl) (by
    unfold m_impl_steiner_s33
    simp only []
    rw [bif_f (by simp), rowP_N]; rfl)
  rw [← rowP_0 (NP ps) (tP ps s) (mP ps s)]
  exact this
theorem i23 (ho : okPs ps = true) (hn : ps.length ≤ 7) (h1 : 2 ≤ ps.length) (hN : NP ps ≤ 1000000) :
    loopM (m_impl_steiner_s23 ps (hanV ps)) (List.replicate (2 ^ (ps.length - 1)) ([] : List Int), 1) = some (tbP ps (ps.length - 1) (2 ^ (ps.length - 1))) := by
  have hp := Nat.two_pow_pos (ps.length - 1)
  have h128 := pow_lt7 (m := ps.length - 1) (by omega)
  have := loop_run (step := m_impl_steiner_s23 ps (hanV ps)) (2 ^ (ps.length - 1) - 1) (fun j => (tbP ps (ps.length - 1) (j + 1), ((j + 1 : Nat) : Int))) (r := tbP ps (ps.length - 1) (2 ^ (ps.length - 1))) (by
    intro j hj
    have hlen := tab_len (pd := pdP ps) (d := dP ps) (N := NP ps) (ps.length - 1) (j + 1)
    unfold m_impl_steiner_s23
    simp only []
    rw [wr_in (x := (ps.length : Int) - 1) (by omega), p0C_ok (by omega), show (ps.length : Int) - 1 = ((ps.length - 1 : Nat) : Int) by omega, (shl_pow (by omega)).1]
    simp only [bind_some']
    have hN' : (hanV ps).length ≤ 1000000 := hN
    rw [bif_t (decide_eq_true (Int.ofNat_lt.2 (by omega))), mkC_ok (by unfold lim; omega)]
    simp only [bind_some']
    rw [i28 ho hn (by omega) (by omega) (by omega) hN]
    simp only [bind_some']
    rw [clone_eq _ (by simpa using hN)]
    simp only [bind_some']
    rw [i33 ho (by omega) (by omega) hN]
    simp only [bind_some']
    rw [geti_lt (l := tbP ps (ps.length - 1) (j + 1)) (by rw [hlen]; omega)]
    simp only [bind_some', Int.toNat_natCast]
    rw [tab_set (by omega) (by omega), wr_in (by omega)]; rfl) (by
    unfold m_impl_steiner_s23
    simp only []
    rw [wr_in (x := (ps.length : Int) - 1) (by omega), p0C_ok (by omega), show (ps.length : Int) - 1 = ((ps.length - 1 : Nat) : Int) by omega, (shl_pow (by omega)).1]
    simp only [bind_some']
    rw [bif_f (decide_eq_false (fun h => absurd (Int.ofNat_lt.1 h) (by omega))), show 2 ^ (ps.length - 1) - 1 + 1 = 2 ^ (ps.length - 1) by omega])
  have e0 : List.replicate (2 ^ (ps.length - 1)) ([] : List Int) = tbP ps (ps.length - 1) (0 + 1) := by
    unfold tbP tab
    have : (fun e => if 0 < e ∧ e < 0 + 1 then rowT (pdP ps) (dP ps) (NP ps) e else []) = fun _ => ([] : List Int) := by funext e; rw [if_neg (by omega)]
    rw [this]; simp [List.map_const']
  rw [e0]
  exact this
end
end Go.Proofs.Ytgaecldkiijmpaa
