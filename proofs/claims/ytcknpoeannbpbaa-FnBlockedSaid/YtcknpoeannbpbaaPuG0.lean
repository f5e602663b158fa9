/- The source of drawn numbers: what 'next' and 'pick' give is small, and they always give something. The cheapest way, where a bend costs nothing: there is one where the cells are joined. The cheapest way's third answer; as many blocks as ways; blocks block, and no fewer do. Drawn mazes and open cells; a maze with a wall more. The law on blocks. -/
import Derived.Test.YtcknpoeannbpbaaMod
import Derived.Test.YtcknpoeannbpbaaPur
import Derived.Test.YtcknpoeannbpbaaPuF1
set_option linter.unusedSimpArgs false
set_option linter.unusedVariables false
namespace Go.Proofs.Ytcknpoeannbpbaa
open Go.RowKit

theorem src_next {l : List Int} (hl : ∀ p ∈ l, In8 p) {k s : Int} (h0 : 0 ≤ k) (h1 : k ≤ 100000) :
    ∃ v s', m_spec_l00Src_next_bspecl00Src l k s = some (v, k + 1, s') ∧ 0 ≤ v ∧ v ≤ 255 := by
  unfold m_spec_l00Src_next_bspecl00Src
  have hand : ∀ y : Int, 0 ≤ wr (andU y 255) ∧ wr (andU y 255) ≤ 255 := fun y => by
    have := andU_range y
    rw [wr_in (by omega)]; exact this
  have step : ∀ z : Int, 0 ≤ z → z ≤ 255 → ∃ v s', (fun (x25 : Int) => (bif decide ((wr (k + 1)) ≤ (((l).length : Int))) then some ((x25, wr (k + 1), wu ((wu ((wu (s * 6364136223846793005)) + (wu x25))) + 1442695040888963407))) else some ((wr (andU (shrU (wu ((wu ((wu (s * 6364136223846793005)) + (wu x25))) + 1442695040888963407)) 40) 255), wr (k + 1), wu ((wu ((wu (s * 6364136223846793005)) + (wu x25))) + 1442695040888963407))))) z = some (v, k + 1, s') ∧ 0 ≤ v ∧ v ≤ 255 := fun z h2 h3 => by
    simp only [wr_in (x := k + 1) (by omega)]
    by_cases c : k + 1 ≤ (l.length : Int)
    · rw [bif_t (by simpa using c)]; exact ⟨_, _, rfl, h2, h3⟩
    · rw [bif_f (by simpa using c)]; exact ⟨_, _, rfl, hand _⟩
  by_cases c : k < (l.length : Int)
  · rw [bif_t (by simpa using c)]
    obtain ⟨j, rfl⟩ := Int.eq_ofNat_of_zero_le h0
    have hj : j < l.length := by omega
    rw [geti_lt hj]
    have hb := hl _ (List.getElem_mem hj)
    rw [bind_some', bind_some', wr_in (x := l[j]) (by unfold In8 at hb; omega)]
    exact step _ hb.1 (by have := hb.2; omega)
  · rw [bif_f (by simpa using c)]
    rw [bind_some']
    exact step 0 (by omega) (by omega)
theorem src_pick {l : List Int} (hl : ∀ p ∈ l, In8 p) {k s n : Int} (h0 : 0 ≤ k) (h1 : k ≤ 1000) (h2 : 2 ≤ n) (h3 : n ≤ 200) :
    ∃ v s', m_spec_l00Src_pick_bspecl00Src l k s n = some (v, k + 1, s') ∧ 0 ≤ v ∧ v < n := by
  unfold m_spec_l00Src_pick_bspecl00Src
  rw [bif_f (by simp; omega)]
  obtain ⟨v, s', hv, g0, g1⟩ := src_next (s := s) hl h0 (by omega)
  rw [hv]
  simp only [bind_some']
  rw [bif_f (by simp; omega), nzC_ok (by omega)]
  simp only [bind_some']
  refine ⟨_, _, rfl, ?_, ?_⟩
  · exact Int.tmod_nonneg _ g0
  · rw [Int.tmod_eq_emod_of_nonneg g0]; exact Int.emod_lt_of_pos _ (by omega)
end Go.Proofs.Ytcknpoeannbpbaa

set_option linter.unusedSimpArgs false
set_option linter.unusedVariables false
set_option linter.unusedSectionVars false
namespace Go.Proofs.Ytcknpoeannbpbaa
open Go.RowKit

/-- From p one comes to the end. -/
inductive Pth (c : Mz) (to : Pt) : Pt → Prop where
  | base : Pth c to to
  | step (p : Pt) (k : Nat) : k < 4 → opn c (nb p k) = true → Pth c to (nb p k) → Pth c to p
abbrev Std := Int × Int × Int
abbrev SM := List (Std × Int)
def sp (s : Std) : Pt := (s.1, s.2.1)
def stp (p : Pt) (k : Nat) : Std := ((nb p k).1, (nb p k).2, (k : Int))
section
variable {c : Mz} (h : mzOk c = true)
include h in
theorem cellV_9 {p : Pt} (hp : opn c p = true) : 1 ≤ cellV c p ∧ cellV c p ≤ 9 := by
  have hp' := hp
  unfold opn at hp'
  simp only [Bool.and_eq_true, decide_eq_true_eq] at hp'
  obtain ⟨_, _, g1, g2⟩ := cell_at h hp'.1
  omega
include h in
theorem price_eq {p : Pt} (hp : opn c p = true) : m_impl_Maze_price_bimplMaze c p.1 p.2 = some (cellV c p) := by
  unfold opn at hp
  simp only [Bool.and_eq_true, decide_eq_true_eq] at hp
  obtain ⟨g1, g2, _⟩ := cell_at h hp.1
  unfold m_impl_Maze_price_bimplMaze
  rw [g1, bind_some', g2, bind_some']
include h in
theorem after_eq {p : Pt} (hp : smP p) (last : Int) {k : Nat} (hk : k < 4) : m_impl_Maze_after_bimplMaze c p.1 p.2 last (k : Int) 0 = some (if opn c (nb p k) = true then (stp p k, cellV c (nb p k), true) else ((0, 0, 0), 0, false)) := by
  unfold m_impl_Maze_after_bimplMaze
  rw [next_eq hp hk]
  simp only [bind_some']
  rw [implOpen_eq h]
  simp only [bind_some']
  cases ho : opn c (nb p k) with
  | false => rw [bif_t (by rfl), if_neg (by simp)]
  | true =>
    rw [bif_f (by rfl), if_pos rfl, price_eq h ho]
    simp only [bind_some']
    have h9 := cellV_9 h ho
    rw [Int.add_zero, wr_in (by omega)]
    have : (bif last != 4 then (bif last != (k : Int) then some (cellV c (nb p k)) else some (cellV c (nb p k))) else some (cellV c (nb p k))) = some (cellV c (nb p k)) := by
      cases (last != 4) <;> cases (last != (k : Int)) <;> rfl
    rw [this]; rfl
/-! ### All stands -/
def a13 (c : Mz) (x y m : Nat) : List Std := if opn c ((x : Int), (y : Int)) = true then (List.range m).map fun k => (((x : Nat) : Int), ((y : Nat) : Int), ((k : Nat) : Int)) else []
def a12 (c : Mz) (y n : Nat) : List Std := (List.range n).flatMap fun x => a13 c x y 5
def a9 (c : Mz) (n : Nat) : List Std := (List.range n).flatMap fun y => a12 c y (mzW c)
theorem a13_len (c : Mz) (x y m : Nat) : (a13 c x y m).length ≤ m := by unfold a13; split <;> simp
theorem a12_succ (c : Mz) (y n : Nat) : a12 c y (n + 1) = a12 c y n ++ a13 c n y 5 := by unfold a12; rw [List.range_succ, List.flatMap_append]; simp
theorem a9_succ (c : Mz) (n : Nat) : a9 c (n + 1) = a9 c n ++ a12 c n (mzW c) := by unfold a9; rw [List.range_succ, List.flatMap_append]; simp
theorem a12_len (c : Mz) (y : Nat) : ∀ n, (a12 c y n).length ≤ n * 5
  | 0 => by simp [a12]
  | n + 1 => by
    have := a12_len c y n
    have := a13_len c n y 5
    rw [a12_succ, List.length_append]; omega
theorem a9_len (c : Mz) (hw : mzW c ≤ 12) : ∀ n, (a9 c n).length ≤ n * 60
  | 0 => by simp [a9]
  | n + 1 => by
    have := a9_len c hw n
    have := a12_len c n (mzW c)
    rw [a9_succ, List.length_append]; omega
include h in
theorem costs13 {x y : Nat} {l : List Std} (hl : l.length ≤ 1000) : loopM (m_impl_Maze_costs_bimplMaze_s13 c (y : Int) (x : Int)) (l, 0) = some (l ++ a13 c x y 5) := by
  have hl1 := loop_run (step := m_impl_Maze_costs_bimplMaze_s13 c (y : Int) (x : Int)) 5 (fun m => (l ++ a13 c x y m, (m : Int))) (r := l ++ a13 c x y 5) (fun m hm => by
    have ho : m_impl_Maze_open_bimplMaze c (x : Int) (y : Int) = some (opn c ((x : Int), (y : Int))) := implOpen_eq h ((x : Int), (y : Int))
    have hwr : wr ((m : Int) + 1) = ((m + 1 : Nat) : Int) := by rw [wr_in (by omega)]; rfl
    have hlen := a13_len c x y m
    unfold m_impl_Maze_costs_bimplMaze_s13
    simp only []
    rw [bif_t (by simp; omega), ho]
    simp only [bind_some']
    unfold a13 at hlen ⊢
    cases hq : opn c ((x : Int), (y : Int)) with
    | false => rw [bif_f (by rfl)]; simp only [bind_some', hwr]; simp
    | true =>
      rw [hq] at hlen
      simp only [if_true] at hlen ⊢
      rw [bif_t (by rfl), apC_ok (by unfold lim; rw [List.length_append]; simp at hlen ⊢; omega)]
      simp only [bind_some', hwr]
      rw [List.range_succ, List.map_append, List.append_assoc]; rfl) (by
    unfold m_impl_Maze_costs_bimplMaze_s13
    simp only []
    rw [bif_f (by simp)])
  have e0 : a13 c x y 0 = [] := by unfold a13; split <;> rfl
  rw [e0, List.append_nil, show ((0 : Nat) : Int) = 0 from rfl] at hl1
  exact hl1
include h in
theorem costs12 {y : Nat} {row : List Int} (hr : row.length = mzW c) {l : List Std} (hl : l.length ≤ 900) : loopM (m_impl_Maze_costs_bimplMaze_s12 c (y : Int) row) (l, 0) = some (l ++ a12 c y (mzW c)) := by
  obtain ⟨h1, h2, h3, h4, _⟩ := mzOk_t h
  have hl1 := loop_run (step := m_impl_Maze_costs_bimplMaze_s12 c (y : Int) row) (mzW c) (fun m => (l ++ a12 c y m, (m : Int))) (r := l ++ a12 c y (mzW c)) (fun m hm => by
    have hwr : wr ((m : Int) + 1) = ((m + 1 : Nat) : Int) := by rw [wr_in (by omega)]; rfl
    have hlen := a12_len c y m
    unfold m_impl_Maze_costs_bimplMaze_s12
    simp only []
    rw [bif_t (by simp; omega), costs13 h (by rw [List.length_append]; omega)]
    simp only [bind_some', hwr]
    rw [a12_succ, List.append_assoc]) (by
    unfold m_impl_Maze_costs_bimplMaze_s12
    simp only []
    rw [bif_f (by simp; omega)])
  have e0 : a12 c y 0 = [] := rfl
  rw [e0, List.append_nil, show ((0 : Nat) : Int) = 0 from rfl] at hl1
  exact hl1
include h in
theorem costs9 : loopM (m_impl_Maze_costs_bimplMaze_s9 c) (([] : List Std), 0) = some (a9 c c.length) := by
  obtain ⟨h1, h2, h3, h4, _⟩ := mzOk_t h
  have hl1 := loop_run (step := m_impl_Maze_costs_bimplMaze_s9 c) c.length (fun m => (a9 c m, (m : Int))) (r := a9 c c.length) (fun m hm => by
    have hwr : wr ((m : Int) + 1) = ((m + 1 : Nat) : Int) := by rw [wr_in (by omega)]; rfl
    have hlen := a9_len c h4 m
    obtain ⟨r1, r2, _⟩ := row_at h hm
    unfold m_impl_Maze_costs_bimplMaze_s9
    simp only []
    rw [bif_t (by simp; omega), r1]
    simp only [bind_some']
    rw [costs12 h r2 (by omega)]
    simp only [bind_some', hwr]
    rw [a9_succ]) (by
    unfold m_impl_Maze_costs_bimplMaze_s9
    simp only []
    rw [bif_f (by simp)])
  have e0 : a9 c 0 = [] := rfl
  rw [e0, show ((0 : Nat) : Int) = 0 from rfl] at hl1
  exact hl1
include h in
theorem mem_a9 {s : Std} : s ∈ a9 c c.length ↔ opn c (sp s) = true ∧ 0 ≤ s.2.2 ∧ s.2.2 < 5 := by
  unfold a9 a12 a13
  simp only [List.mem_flatMap, List.mem_range]
  constructor
  · rintro ⟨y, hy, x, hx, hs⟩
    by_cases ho : opn c ((x : Int), (y : Int)) = true
    · rw [if_pos ho] at hs
      obtain ⟨k, hk, rfl⟩ := List.mem_map.1 hs
      have := List.mem_range.1 hk
      exact ⟨ho, by simp, by simp; omega⟩
    · rw [if_neg ho] at hs; simp at hs
  · rintro ⟨ho, h1, h2⟩
    obtain ⟨g1, g2, g3, g4, _⟩ := opn_sm h ho
    obtain ⟨x, y, k⟩ := s
    unfold sp at ho g1 g2 g3 g4
    simp only at h1 h2 ho g1 g2 g3 g4
    obtain ⟨X, rfl⟩ := Int.eq_ofNat_of_zero_le g1
    obtain ⟨Y, rfl⟩ := Int.eq_ofNat_of_zero_le g3
    obtain ⟨K, rfl⟩ := Int.eq_ofNat_of_zero_le h1
    exact ⟨Y, by omega, X, by omega, by rw [if_pos ho]; exact List.mem_map.2 ⟨K, List.mem_range.2 (by omega), rfl⟩⟩
/-! ### The least prices -/
variable {to : Pt}
structure CInv (c : Mz) (to : Pt) (m : SM) : Prop where
  nd : (m.map (·.1)).Nodup
  ok : ∀ s v, mget m s = some v → opn c (sp s) = true ∧ 0 ≤ s.2.2 ∧ s.2.2 < 5 ∧ 0 ≤ v ∧ v ≤ 9 * (m.length : Int)
  via : ∀ s v, mget m s = some v → sp s ≠ to → ∃ k, k < 4 ∧ opn c (nb (sp s) k) = true ∧ ∃ w, mget m (stp (sp s) k) = some w ∧ cellV c (nb (sp s) k) + w ≤ v
  base : ∀ k : Nat, k < 5 → mget m (to.1, to.2, (k : Int)) = some 0
def ClM (c : Mz) (m : SM) (s : Std) (k : Nat) : Prop := opn c (nb (sp s) k) = true → ∀ w, mget m (stp (sp s) k) = some w → ∃ v, mget m s = some v ∧ v ≤ cellV c (nb (sp s) k) + w
def phi (m : SM) : List Std → Int
  | [] => 0
  | s :: l => (match mget m s with | some v => v | none => 6481) + phi m l
include h in
theorem CInv.len {m : SM} (hI : CInv c to m) : m.length ≤ 720 := by
  obtain ⟨h1, h2, h3, h4, _⟩ := mzOk_t h
  have hl := a9_len c h4 c.length
  have : (m.map (·.1)).length ≤ (a9 c c.length).length := nodup_le _ _ hI.nd fun s hs => by
    have := mget_in m s
    obtain ⟨v, hv⟩ := Option.isSome_iff_exists.1 (this.trans (by simpa using hs))
    obtain ⟨g1, g2, g3, _⟩ := hI.ok s v hv
    exact (mem_a9 h).2 ⟨g1, g2, g3⟩
  simp at this
  omega
theorem mset_len {κ V : Type} [DecidableEq κ] (m : List (κ × V)) (k : κ) (x : V) : (mset m k x).length = m.length := by unfold mset; simp
theorem mup_len {κ V : Type} [DecidableEq κ] (m : List (κ × V)) (k : κ) (x : V) : (mup m k x).length = if (mget m k).isSome = true then m.length else m.length + 1 := by
  unfold mup
  split
  · exact mset_len m k x
  · simp
theorem stp_ne (p : Pt) (k : Nat) (s : Std) (hs : sp s = p) : stp p k ≠ s := fun e => by
  have : sp (stp p k) = sp s := by rw [e]
  rw [hs] at this
  exact nb_ne p k this
theorem phi_mono {m m' : SM} : ∀ {L : List Std}, (∀ t ∈ L, (match mget m' t with | some v => v | none => (6481 : Int)) ≤ (match mget m t with | some v => v | none => (6481 : Int))) → phi m' L ≤ phi m L
  | [], _ => Int.le_refl _
  | t :: L, hle => by
    have h1 := hle t (by simp)
    have h2 := phi_mono (L := L) fun x hx => hle x (by simp [hx])
    simp only [phi]; omega
theorem phi_less {m m' : SM} {s : Std} : ∀ {L : List Std}, s ∈ L → (∀ t ∈ L, (match mget m' t with | some v => v | none => (6481 : Int)) ≤ (match mget m t with | some v => v | none => (6481 : Int))) → (match mget m' s with | some v => v | none => (6481 : Int)) + 1 ≤ (match mget m s with | some v => v | none => (6481 : Int)) → phi m' L + 1 ≤ phi m L
  | [], hs, _, _ => by simp at hs
  | t :: L, hs, hle, hlt => by
    simp only [phi]
    rcases List.mem_cons.1 hs with rfl | hs
    · have h2 := phi_mono (L := L) fun x hx => hle x (by simp [hx])
      omega
    · have h1 := hle t (by simp)
      have h2 := phi_less (L := L) hs (fun x hx => hle x (by simp [hx])) hlt
      omega
theorem phi_nn {m : SM} (hm : ∀ s v, mget m s = some v → 0 ≤ v) : ∀ L : List Std, 0 ≤ phi m L
  | [] => Int.le_refl _
  | t :: L => by
    have h1 := phi_nn hm L
    simp only [phi]
    cases ht : mget m t with
    | none => simp only []; omega
    | some v => have := hm t v ht; simp only []; omega
theorem phi_up {m : SM} (hm : ∀ s v, mget m s = some v → v ≤ 6481) : ∀ L : List Std, phi m L ≤ 6481 * (L.length : Int)
  | [] => by simp [phi]
  | t :: L => by
    have h1 := phi_up hm L
    simp only [phi, List.length_cons]
    cases ht : mget m t with
    | none => simp only []; omega
    | some v => have := hm t v ht; simp only []; omega
include h in
theorem CInv.upd {m : SM} (hI : CInv c to m) {s : Std} {k : Nat} {w : Int} (hs : opn c (sp s) = true ∧ 0 ≤ s.2.2 ∧ s.2.2 < 5) (hk : k < 4) (ho : opn c (nb (sp s) k) = true) (hw : mget m (stp (sp s) k) = some w)
    (hlt : ∀ v, mget m s = some v → cellV c (nb (sp s) k) + w < v) : CInv c to (mup m s (cellV c (nb (sp s) k) + w)) ∧ phi (mup m s (cellV c (nb (sp s) k) + w)) (a9 c c.length) + 1 ≤ phi m (a9 c c.length) := by
  have h9 := cellV_9 h ho
  obtain ⟨_, _, _, w0, w1⟩ := hI.ok _ _ hw
  have hg := fun t => mget_mup m s t (cellV c (nb (sp s) k) + w) hI.nd
  have hlen := mup_len m s (cellV c (nb (sp s) k) + w)
  have hto : sp s ≠ to := fun e => by
    obtain ⟨x, y, l⟩ := s
    obtain ⟨_, g1, g2⟩ := hs
    obtain ⟨K, hK⟩ := Int.eq_ofNat_of_zero_le g1
    simp only at hK
    subst hK
    have hb := hI.base K (by simp only at g2; omega)
    have e1 : to.1 = x := by rw [← e]; rfl
    have e2 : to.2 = y := by rw [← e]; rfl
    rw [e1, e2] at hb
    have := hlt 0 hb
    omega
  have hI2 : CInv c to (mup m s (cellV c (nb (sp s) k) + w)) := by
    refine ⟨nodup_mup hI.nd _ _, fun t v ht => ?_, fun t v ht hne => ?_, fun j hj => ?_⟩
    · rw [hg] at ht
      by_cases e : t = s
      · subst e
        rw [if_pos rfl] at ht
        have ev := Option.some.inj ht
        refine ⟨hs.1, hs.2.1, hs.2.2, by omega, ?_⟩
        rw [hlen]
        cases hm : mget m t with
        | none => simp; omega
        | some u =>
          have h1 := hlt u hm
          obtain ⟨_, _, _, _, h2⟩ := hI.ok _ _ hm
          simp; omega
      · rw [if_neg e] at ht
        obtain ⟨g1, g2, g3, g4, g5⟩ := hI.ok _ _ ht
        refine ⟨g1, g2, g3, g4, ?_⟩
        rw [hlen]; split <;> omega
    · rw [hg] at ht
      by_cases e : t = s
      · subst e
        rw [if_pos rfl] at ht
        have ev := Option.some.inj ht
        exact ⟨k, hk, ho, w, by rw [hg, if_neg (stp_ne _ k t rfl)]; exact hw, by omega⟩
      · rw [if_neg e] at ht
        obtain ⟨j, hj, hoj, u, hu, hle⟩ := hI.via _ _ ht hne
        by_cases e2 : stp (sp t) j = s
        · refine ⟨j, hj, hoj, _, by rw [hg, if_pos e2], ?_⟩
          rw [e2] at hu
          have := hlt u hu
          omega
        · exact ⟨j, hj, hoj, u, by rw [hg, if_neg e2]; exact hu, hle⟩
    · rw [hg, if_neg (fun e => hto (by rw [← e]; rfl))]
      exact hI.base j hj
  refine ⟨hI2, phi_less (s := s) ((mem_a9 h).2 hs) (fun t _ => ?_) ?_⟩
  · rw [hg]
    by_cases e : t = s
    · subst e
      rw [if_pos rfl]
      cases hm : mget m t with
      | none =>
        have hl := hI2.len (h := h)
        rw [hlen, hm] at hl
        simp at hl
        simp only []; omega
      | some u => have := hlt u hm; simp only []; omega
    · rw [if_neg e]; exact Int.le_refl _
  · rw [hg, if_pos rfl]
    cases hm : mget m s with
    | none =>
      have hl := hI2.len (h := h)
      rw [hlen, hm] at hl
      simp at hl
      simp only []; omega
    | some u => have := hlt u hm; simp only []; omega
theorem okS {p : Pt} (hp : smP p) {l : Int} (hl : 0 ≤ l ∧ l < 5) : okIII (p.1, p.2, l) = true := by
  unfold smP at hp
  unfold okIII
  simp only [Bool.and_eq_true]
  exact ⟨okI_sm (by omega), okI_sm (by omega), okI_sm (by omega)⟩
include h in
/-- One neighbour of a stand. -/
theorem relax_eq {m : SM} (hI : CInv c to m) {s : Std} (hs : opn c (sp s) = true ∧ 0 ≤ s.2.2 ∧ s.2.2 < 5) {k : Nat} (hk : k < 4) (ag : Bool) :
    ∃ ag' m', m_impl_Maze_costs_bimplMaze_s27 c 0 s (ag, (k : Int), m) = some (.next (ag', ((k + 1 : Nat) : Int), m')) ∧ ((m' = m ∧ ag' = ag ∧ ClM c m s k) ∨ (ag' = true ∧ CInv c to m' ∧ phi m' (a9 c c.length) + 1 ≤ phi m (a9 c c.length))) := by
  have sm := opn_smP h hs.1
  have hwr : wr ((k : Int) + 1) = ((k + 1 : Nat) : Int) := by rw [wr_in (by omega)]; rfl
  have ha : m_impl_Maze_after_bimplMaze c s.1 s.2.1 s.2.2 (k : Int) 0 = _ := after_eq (p := sp s) h sm s.2.2 hk
  unfold m_impl_Maze_costs_bimplMaze_s27
  simp only []
  rw [bif_t (by simp; omega), ha]
  simp only [bind_some']
  cases ho : opn c (nb (sp s) k) with
  | false =>
    simp only [Bool.false_eq_true, if_false]
    have : mpC (okIII ((0 : Int), (0 : Int), (0 : Int))) = some () := rfl
    rw [this, bind_some', bif_t (by rfl), hwr]
    exact ⟨ag, m, rfl, Or.inl ⟨rfl, rfl, fun hh => by rw [ho] at hh; exact absurd hh (by simp)⟩⟩
  | true =>
    simp only [if_true]
    have ok1 : mpC (okIII (((stp (sp s) k).1, (stp (sp s) k).2.1, (stp (sp s) k).2.2))) = some () := by
      have := okS (opn_smP h ho) (l := (k : Int)) (by omega)
      unfold mpC
      rw [show okIII (((stp (sp s) k).1, (stp (sp s) k).2.1, (stp (sp s) k).2.2)) = true from this]; rfl
    have ok2 : mpC (okIII ((s.1, s.2.1, s.2.2))) = some () := by
      have := okS sm (l := s.2.2) ⟨hs.2.1, hs.2.2⟩
      unfold mpC
      rw [show okIII ((s.1, s.2.1, s.2.2)) = true from this]; rfl
    have es : ((s.1, s.2.1, s.2.2) : Std) = s := rfl
    have et : (((stp (sp s) k).1, (stp (sp s) k).2.1, (stp (sp s) k).2.2) : Std) = stp (sp s) k := rfl
    rw [ok1, ok2]
    simp only [bind_some', es, et]
    rw [bif_f (by rfl)]
    cases hw : mget m (stp (sp s) k) with
    | none =>
      rw [bif_t (by rfl), hwr]
      exact ⟨ag, m, rfl, Or.inl ⟨rfl, rfl, fun _ w hh => by rw [hw] at hh; exact absurd hh (by simp)⟩⟩
    | some w =>
      have h9 := cellV_9 h ho
      obtain ⟨_, _, _, w0, w1⟩ := hI.ok _ _ hw
      have hl := hI.len (h := h)
      have hx : wr (cellV c (nb (sp s) k) + w) = cellV c (nb (sp s) k) + w := wr_in (by omega)
      rw [bif_f (by rfl)]
      simp only [Option.getD_some, hx, hwr]
      cases hm : mget m s with
      | none =>
        obtain ⟨u1, u2⟩ := hI.upd h hs hk ho hw (fun v hv => by rw [hm] at hv; exact absurd hv (by simp))
        rw [bif_t (by rfl)]
        exact ⟨true, _, rfl, Or.inr ⟨rfl, u1, u2⟩⟩
      | some v =>
        rw [bif_f (by rfl)]
        simp only [Option.getD_some]
        by_cases hlt : cellV c (nb (sp s) k) + w < v
        · obtain ⟨u1, u2⟩ := hI.upd h hs hk ho hw (fun v' hv => by rw [hm] at hv; have := Option.some.inj hv; omega)
          rw [bif_t (by simpa using hlt)]
          exact ⟨true, _, rfl, Or.inr ⟨rfl, u1, u2⟩⟩
        · rw [bif_f (by simpa using hlt)]
          exact ⟨ag, m, rfl, Or.inl ⟨rfl, rfl, fun _ w' hh => by
            rw [hw] at hh
            have := Option.some.inj hh
            exact ⟨v, hm, by omega⟩⟩⟩
/-- What stands amid a round that began with m0. -/
structure CRnd (c : Mz) (to : Pt) (m0 : SM) (D : Std → Nat → Prop) (ag : Bool) (m : SM) : Prop where
  inv : CInv c to m
  up : ag = true → phi m (a9 c c.length) + 1 ≤ phi m0 (a9 c c.length)
  same : ag = false → m = m0 ∧ ∀ s k, D s k → ClM c m s k
theorem CRnd.next {m0 m m' : SM} {D D' : Std → Nat → Prop} {ag ag' : Bool} (hR : CRnd c to m0 D ag m) {s : Std} {k : Nat} (hD : ∀ t j, D' t j → D t j ∨ (t = s ∧ j = k))
    (hst : (m' = m ∧ ag' = ag ∧ ClM c m s k) ∨ (ag' = true ∧ CInv c to m' ∧ phi m' (a9 c c.length) + 1 ≤ phi m (a9 c c.length))) : CRnd c to m0 D' ag' m' := by
  rcases hst with ⟨rfl, rfl, hcl⟩ | ⟨rfl, h1, h2⟩
  · refine ⟨hR.inv, hR.up, fun hf => ⟨(hR.same hf).1, fun t j hd => ?_⟩⟩
    rcases hD t j hd with hd | ⟨rfl, rfl⟩
    · exact (hR.same hf).2 t j hd
    · exact hcl
  · refine ⟨h1, fun _ => ?_, fun hf => absurd hf (by simp)⟩
    cases ha : ag with
    | true => have := hR.up ha; omega
    | false => rw [(hR.same ha).1] at h2; exact h2
include h in
theorem relax4 {m0 m : SM} {D : Std → Nat → Prop} {s : Std} (hs : opn c (sp s) = true ∧ 0 ≤ s.2.2 ∧ s.2.2 < 5) {ag : Bool} (hR : CRnd c to m0 D ag m) :
    ∃ r, loopM (m_impl_Maze_costs_bimplMaze_s27 c 0 s) (ag, 0, m) = some r ∧ CRnd c to m0 (fun t j => D t j ∨ (t = s ∧ j < 4)) r.1 r.2 := by
  refine loopM_count (m_impl_Maze_costs_bimplMaze_s27 c 0 s) 4 (fun k st => st.2.1 = (k : Int) ∧ CRnd c to m0 (fun t j => D t j ∨ (t = s ∧ j < k)) st.1 st.2.2) (fun r => CRnd c to m0 (fun t j => D t j ∨ (t = s ∧ j < 4)) r.1 r.2) ⟨rfl, ⟨hR.inv, hR.up, fun hf => ⟨(hR.same hf).1, fun t j hd => by
    rcases hd with hd | ⟨_, hj⟩
    · exact (hR.same hf).2 t j hd
    · omega⟩⟩⟩ ?_ ?_
  · rintro k ⟨ag1, kk, m1⟩ hk ⟨hkk, hR1⟩
    simp only at hkk hR1
    subst hkk
    left
    obtain ⟨ag', m', e, hst⟩ := relax_eq h hR1.inv hs hk ag1
    rw [e]
    refine ⟨_, rfl, rfl, hR1.next (fun t j hd => ?_) hst⟩
    rcases hd with hd | ⟨rfl, hj⟩
    · exact Or.inl (Or.inl hd)
    · by_cases e : j = k
      · exact Or.inr ⟨rfl, e⟩
      · exact Or.inl (Or.inr ⟨rfl, by omega⟩)
  · rintro ⟨ag1, kk, m1⟩ ⟨hkk, hR1⟩
    simp only at hkk hR1
    subst hkk
    refine ⟨(ag1, m1), ?_, hR1⟩
    unfold m_impl_Maze_costs_bimplMaze_s27
    simp only []
    rw [bif_f (by simp)]
include h in
/-- One round over all stands. -/
theorem round_eq {m : SM} (hI : CInv c to m) : ∃ r, loopM (m_impl_Maze_costs_bimplMaze_s26 c 0 (a9 c c.length)) (false, 0, m) = some r ∧ CInv c to r.2 ∧ (r.1 = true → phi r.2 (a9 c c.length) + 1 ≤ phi m (a9 c c.length)) ∧ (r.1 = false → ∀ s ∈ a9 c c.length, ∀ k, k < 4 → ClM c r.2 s k) := by
  obtain ⟨h1, h2, h3, h4, _⟩ := mzOk_t h
  have hl := a9_len c h4 c.length
  obtain ⟨r, e, hR⟩ := loopM_count (m_impl_Maze_costs_bimplMaze_s26 c 0 (a9 c c.length)) (a9 c c.length).length (fun i st => st.2.1 = (i : Int) ∧ CRnd c to m (fun t j => t ∈ (a9 c c.length).take i ∧ j < 4) st.1 st.2.2)
    (fun r => CRnd c to m (fun t j => t ∈ (a9 c c.length).take (a9 c c.length).length ∧ j < 4) r.1 r.2) (s0 := (false, 0, m)) ⟨rfl, ⟨hI, fun hf => absurd hf (by simp), fun _ => ⟨rfl, fun t j hd => by simp at hd⟩⟩⟩ (by
      rintro i ⟨ag1, ii, m1⟩ hi ⟨hii, hR1⟩
      simp only at hii hR1
      subst hii
      left
      have hsm := (mem_a9 h).1 (List.getElem_mem hi)
      obtain ⟨r1, e1, hR2⟩ := relax4 h hsm hR1
      obtain ⟨r11, r12⟩ := r1
      unfold m_impl_Maze_costs_bimplMaze_s26
      simp only []
      rw [bif_t (by simpa using hi), geti_lt hi]
      simp only [bind_some']
      rw [e1]
      simp only [bind_some']
      refine ⟨_, rfl, by rw [wr_in (by omega)]; rfl, ⟨hR2.inv, hR2.up, fun hf => ⟨(hR2.same hf).1, fun t j hd => (hR2.same hf).2 t j ?_⟩⟩⟩
      obtain ⟨hd, hj⟩ := hd
      rw [List.take_succ_eq_append_getElem hi, List.mem_append, List.mem_singleton] at hd
      rcases hd with hd | hd
      · exact Or.inl ⟨hd, hj⟩
      · exact Or.inr ⟨hd, hj⟩) (by
      rintro ⟨ag1, ii, m1⟩ ⟨hii, hR1⟩
      simp only at hii hR1
      subst hii
      refine ⟨(ag1, m1), ?_, hR1⟩
      unfold m_impl_Maze_costs_bimplMaze_s26
      simp only []
      rw [bif_f (by simp)])
  refine ⟨r, e, hR.inv, hR.up, fun hf s hs k hk => (hR.same hf).2 s k ⟨?_, hk⟩⟩
  rw [List.take_length]; exact hs
def m0C (to : Pt) (n : Nat) : SM := (List.range n).map fun (k : Nat) => (((to.1, to.2, (k : Int)) : Std), (0 : Int))
theorem m0_get (to : Pt) (n : Nat) (s : Std) : mget (m0C to n) s = if sp s = to ∧ 0 ≤ s.2.2 ∧ s.2.2 < n then some 0 else none := by
  have hk : (mget (m0C to n) s).isSome = decide (sp s = to ∧ 0 ≤ s.2.2 ∧ s.2.2 < n) := by
    rw [mget_in]
    rw [Bool.eq_iff_iff]
    simp only [decide_eq_true_eq]
    unfold m0C
    simp only [List.map_map, List.mem_map, List.mem_range, Function.comp]
    constructor
    · rintro ⟨k, hk, rfl⟩; exact ⟨rfl, by simp, by simp; omega⟩
    · rintro ⟨e, g1, g2⟩
      obtain ⟨x, y, l⟩ := s
      obtain ⟨K, hK⟩ := Int.eq_ofNat_of_zero_le g1
      simp only at hK
      subst hK
      have g2' : (K : Int) < n := g2
      exact ⟨K, by omega, by rw [← e]; rfl⟩
  have hv : ∀ v, mget (m0C to n) s = some v → v = 0 := fun v hv => by
    unfold mget at hv
    rw [Option.map_eq_some_iff] at hv
    obtain ⟨q, hq, rfl⟩ := hv
    have := List.mem_of_find?_eq_some hq
    unfold m0C at this
    obtain ⟨k, _, rfl⟩ := List.mem_map.1 this
    rfl
  by_cases cc : sp s = to ∧ 0 ≤ s.2.2 ∧ s.2.2 < n
  · rw [if_pos cc]
    rw [decide_eq_true cc] at hk
    obtain ⟨v, e⟩ := Option.isSome_iff_exists.1 hk
    rw [e, hv v e]
  · rw [if_neg cc]
    rw [decide_eq_false cc] at hk
    exact Option.not_isSome_iff_eq_none.1 (by rw [hk]; simp)
theorem m0_nd (to : Pt) (n : Nat) : ((m0C to n).map (·.1)).Nodup := by
  unfold m0C
  rw [List.map_map, List.nodup_iff_pairwise_ne, List.pairwise_map]
  refine (List.nodup_range (n := n)).imp (fun {i j} hij e => hij ?_)
  simp only [Function.comp, Prod.mk.injEq] at e
  omega
include h in
theorem costs_eq (hto : opn c to = true) : ∃ m, m_impl_Maze_costs_bimplMaze c to.1 to.2 0 = some m ∧ CInv c to m ∧ ∀ s ∈ a9 c c.length, ∀ k, k < 4 → ClM c m s k := by
  obtain ⟨h1, h2, h3, h4, _⟩ := mzOk_t h
  have hl := a9_len c h4 c.length
  have st := opn_smP h hto
  unfold m_impl_Maze_costs_bimplMaze
  rw [costs9 h]
  simp only [bind_some']
  have hl1 := loop_run (step := m_impl_Maze_costs_bimplMaze_s14 to.1 to.2) 5 (fun k => ((k : Int), m0C to k)) (r := m0C to 5) (fun k hk => by
    have hwr : wr ((k : Int) + 1) = ((k + 1 : Nat) : Int) := by rw [wr_in (by omega)]; rfl
    have ok2 : mpC (okIII ((to.1, to.2, (k : Int)))) = some () := by
      have := okS st (l := (k : Int)) (by omega)
      unfold mpC
      rw [this]; rfl
    unfold m_impl_Maze_costs_bimplMaze_s14
    simp only []
    rw [bif_t (by simp; omega), ok2]
    simp only [bind_some', hwr]
    have hnew : mup (m0C to k) ((to.1, to.2, (k : Int))) 0 = m0C to (k + 1) := by
      rw [mup_new]
      · unfold m0C; rw [List.range_succ, List.map_append]; rfl
      · intro hm
        have h1 : (mget (m0C to k) ((to.1, to.2, (k : Int)))).isSome = true := by rw [mget_in]; simp only [decide_eq_true_eq]; exact hm
        rw [m0_get, if_neg (by simp)] at h1
        exact absurd h1 (by simp)
    rw [hnew]) (by
    unfold m_impl_Maze_costs_bimplMaze_s14
    simp only []
    rw [bif_f (by simp)])
  have e0 : m0C to 0 = [] := rfl
  rw [e0, show ((0 : Nat) : Int) = 0 from rfl] at hl1
  rw [hl1]
  simp only [bind_some']
  have hI0 : CInv c to (m0C to 5) := by
    have key : ∀ s v, mget (m0C to 5) s = some v → sp s = to ∧ 0 ≤ s.2.2 ∧ s.2.2 < 5 ∧ v = 0 := fun s v hv => by
      rw [m0_get] at hv
      by_cases cc : sp s = to ∧ 0 ≤ s.2.2 ∧ s.2.2 < (5 : Nat)
      · rw [if_pos cc] at hv
        exact ⟨cc.1, cc.2.1, by omega, (Option.some.inj hv).symm⟩
      · rw [if_neg cc] at hv; exact absurd hv (by simp)
    refine ⟨m0_nd to 5, fun s v hv => ?_, fun s v hv hne => ?_, fun k hk => ?_⟩
    · obtain ⟨g1, g2, g3, g4⟩ := key s v hv
      exact ⟨by rw [g1]; exact hto, g2, g3, by omega, by omega⟩
    · exact absurd (key s v hv).1 hne
    · rw [m0_get, if_pos ⟨rfl, by simp, by simp; omega⟩]
  have hup : phi (m0C to 5) (a9 c c.length) ≤ 6481 * 720 := by
    have h5 : (m0C to 5).length = 5 := by simp [m0C]
    have := phi_up (m := m0C to 5) (fun s v hv => by have := (hI0.ok s v hv).2.2.2.2; omega) (a9 c c.length)
    omega
  obtain ⟨r, e, hJ⟩ := loopM_count (m_impl_Maze_costs_bimplMaze_s23 c 0 (a9 c c.length)) (6481 * 720 + 1) (fun j st => CInv c to st.2 ∧ ((st.1 = true ∧ phi st.2 (a9 c c.length) + (j : Int) ≤ 6481 * 720) ∨ (st.1 = false ∧ ∀ s ∈ a9 c c.length, ∀ k, k < 4 → ClM c st.2 s k)))
    (fun r => CInv c to r ∧ ∀ s ∈ a9 c c.length, ∀ k, k < 4 → ClM c r s k) (s0 := (true, m0C to 5)) ⟨hI0, Or.inl ⟨rfl, by simpa using hup⟩⟩ (by
      rintro j ⟨ag, m⟩ hj ⟨hI, hh⟩
      simp only at hI hh
      unfold m_impl_Maze_costs_bimplMaze_s23
      simp only []
      rcases hh with ⟨rfl, hp⟩ | ⟨rfl, hcl⟩
      · left
        rw [bif_t (by rfl)]
        obtain ⟨⟨ag', m'⟩, e1, i1, i2, i3⟩ := round_eq h hI
        simp only at i1 i2 i3
        rw [e1]
        simp only [bind_some']
        refine ⟨_, rfl, i1, ?_⟩
        cases ag' with
        | true => have := i2 rfl; exact Or.inl ⟨rfl, by simp only []; omega⟩
        | false => exact Or.inr ⟨rfl, i3 rfl⟩
      · right
        rw [bif_f (by rfl)]
        exact ⟨_, rfl, hI, hcl⟩) (by
      rintro ⟨ag, m⟩ ⟨hI, hh⟩
      simp only at hI hh
      rcases hh with ⟨rfl, hp⟩ | ⟨rfl, hcl⟩
      · exfalso
        have := phi_nn (m := m) (fun s v hv => (hI.ok s v hv).2.2.2.1) (a9 c c.length)
        omega
      · unfold m_impl_Maze_costs_bimplMaze_s23
        simp only []
        rw [bif_f (by rfl)]
        exact ⟨_, rfl, hI, hcl⟩)
  rw [e]
  exact ⟨r, rfl, hJ⟩
end
end Go.Proofs.Ytcknpoeannbpbaa

set_option linter.unusedSimpArgs false
set_option linter.unusedVariables false
set_option linter.unusedSectionVars false
namespace Go.Proofs.Ytcknpoeannbpbaa
open Go.RowKit

section
variable {c : Mz} (h : mzOk c = true) {fr to : Pt} {m : SM}
theorem known_pth (hI : CInv c to m) (h9 : ∀ p, opn c p = true → 1 ≤ cellV c p) : ∀ (n : Nat) (s : Std) (v : Int), mget m s = some v → v ≤ n → Pth c to (sp s) := by
  intro n
  induction n with
  | zero =>
    intro s v hv hn
    by_cases e : sp s = to
    · rw [e]; exact Pth.base
    · obtain ⟨k, hk, ho, w, hw, hle⟩ := hI.via s v hv e
      have := h9 _ ho
      have := (hI.ok _ _ hw).2.2.2.1
      omega
  | succ n ih =>
    intro s v hv hn
    by_cases e : sp s = to
    · rw [e]; exact Pth.base
    · obtain ⟨k, hk, ho, w, hw, hle⟩ := hI.via s v hv e
      have := h9 _ ho
      exact Pth.step _ k hk ho (ih (stp (sp s) k) w hw (by omega))
include h in
theorem pth_known (hI : CInv c to m) (hcl : ∀ s ∈ a9 c c.length, ∀ k, k < 4 → ClM c m s k) {p : Pt} (hp : Pth c to p) : opn c p = true → ∀ l : Nat, l < 5 → ∃ v, mget m (p.1, p.2, (l : Int)) = some v := by
  induction hp with
  | base => exact fun _ l hl => ⟨0, hI.base l hl⟩
  | step p k hk ho _ ih =>
    intro hop l hl
    obtain ⟨w, hw⟩ := ih ho k (by omega)
    obtain ⟨v, hv, _⟩ := hcl (p.1, p.2, (l : Int)) ((mem_a9 h).2 ⟨hop, by simp, by simp; omega⟩) k hk ho w hw
    exact ⟨v, hv⟩
theorem sget4 {k : Nat} (hk : k < 4) : ∃ x, sget (ByteArray.mk #[100, 108, 114, 117]) (k : Int) = some x := by
  match k, hk with
  | 0, _ => exact ⟨_, rfl⟩
  | 1, _ => exact ⟨_, rfl⟩
  | 2, _ => exact ⟨_, rfl⟩
  | 3, _ => exact ⟨_, rfl⟩
include h in
theorem walk_in (hI : CInv c to m) (hcl : ∀ s ∈ a9 c c.length, ∀ k, k < 4 → ClM c m s k) {s : Std} {v : Int} (hs : mget m s = some v) (hne : sp s ≠ to) {l : List Int} (hl : l.length ≤ 10000) :
    ∃ (k : Nat) (w x : Int), k < 4 ∧ opn c (nb (sp s) k) = true ∧ mget m (stp (sp s) k) = some w ∧ cellV c (nb (sp s) k) + w = v ∧ loopM (m_impl_CheapestWay_s4 c 0 m l s.1 s.2.1 s.2.2) 0 = some (l ++ [x], (stp (sp s) k).1, (stp (sp s) k).2.1, (stp (sp s) k).2.2) := by
  obtain ⟨o1, o2, o3, o4, o5⟩ := hI.ok s v hs
  have sm := opn_smP h o1
  have hml := hI.len (h := h)
  obtain ⟨r, e, k, w, x, g1, g2, g3, g4, g5⟩ := loopM_count (m_impl_CheapestWay_s4 c 0 m l s.1 s.2.1 s.2.2) 4 (fun j st => st = (j : Int) ∧ ∀ i, i < j → ¬ (opn c (nb (sp s) i) = true ∧ ∃ w, mget m (stp (sp s) i) = some w ∧ cellV c (nb (sp s) i) + w = v))
    (fun r => ∃ (k : Nat) (w x : Int), k < 4 ∧ opn c (nb (sp s) k) = true ∧ mget m (stp (sp s) k) = some w ∧ cellV c (nb (sp s) k) + w = v ∧ r = (l ++ [x], (stp (sp s) k).1, (stp (sp s) k).2.1, (stp (sp s) k).2.2)) (s0 := 0) ⟨rfl, fun i hi => by omega⟩ (by
      rintro k _ hk ⟨rfl, hno⟩
      have hwr : wr ((k : Int) + 1) = ((k + 1 : Nat) : Int) := by rw [wr_in (by omega)]; rfl
      have ha : m_impl_Maze_after_bimplMaze c s.1 s.2.1 s.2.2 (k : Int) 0 = _ := after_eq (p := sp s) h sm s.2.2 hk
      unfold m_impl_CheapestWay_s4
      simp only []
      rw [bif_t (by simp; omega), ha]
      simp only [bind_some']
      cases ho : opn c (nb (sp s) k) with
      | false =>
        simp only [Bool.false_eq_true, if_false]
        have : mpC (okIII ((0 : Int), (0 : Int), (0 : Int))) = some () := rfl
        rw [this, bind_some', bif_f (by rfl), hwr]
        left
        refine ⟨_, rfl, rfl, fun i hi => ?_⟩
        by_cases e : i = k
        · subst e; rw [ho]; simp
        · exact hno i (by omega)
      | true =>
        simp only [if_true]
        have ok1 : mpC (okIII (((stp (sp s) k).1, (stp (sp s) k).2.1, (stp (sp s) k).2.2))) = some () := by
          have := okS (opn_smP h ho) (l := (k : Int)) (by omega)
          unfold mpC
          rw [show okIII (((stp (sp s) k).1, (stp (sp s) k).2.1, (stp (sp s) k).2.2)) = true from this]; rfl
        have ok2 : mgC (okIII ((s.1, s.2.1, s.2.2))) 0 m ((s.1, s.2.1, s.2.2)) = some v := by
          have := okS sm (l := s.2.2) ⟨o2, o3⟩
          unfold mgC
          rw [show okIII ((s.1, s.2.1, s.2.2)) = true from this]
          show some ((mget m s).getD 0) = some v
          rw [hs]; rfl
        have et : (((stp (sp s) k).1, (stp (sp s) k).2.1, (stp (sp s) k).2.2) : Std) = stp (sp s) k := rfl
        rw [ok1, ok2]
        simp only [bind_some', et]
        rw [bif_t (by rfl)]
        cases hw : mget m (stp (sp s) k) with
        | none =>
          rw [bif_f (by rfl), hwr]
          left
          refine ⟨_, rfl, rfl, fun i hi => ?_⟩
          by_cases e : i = k
          · subst e
            rintro ⟨_, w, hh, _⟩
            rw [hw] at hh; exact absurd hh (by simp)
          · exact hno i (by omega)
        | some w =>
          have h9 := cellV_9 h ho
          obtain ⟨_, _, _, w0, w1⟩ := hI.ok _ _ hw
          have hx : wr (cellV c (nb (sp s) k) + w) = cellV c (nb (sp s) k) + w := wr_in (by omega)
          rw [bif_t (by rfl)]
          simp only [Option.getD_some, hx, hwr]
          by_cases hv : cellV c (nb (sp s) k) + w = v
          · rw [bif_t (by simpa using hv)]
            obtain ⟨x, hxx⟩ := sget4 hk
            rw [hxx, bind_some', apC_ok (by unfold lim; simp; omega), bind_some']
            right
            exact ⟨_, rfl, k, w, x, hk, ho, hw, hv, rfl⟩
          · rw [bif_f (by simpa using hv)]
            left
            refine ⟨_, rfl, rfl, fun i hi => ?_⟩
            by_cases e : i = k
            · subst e
              rintro ⟨_, w', hh, hh2⟩
              rw [hw] at hh
              have := Option.some.inj hh
              omega
            · exact hno i (by omega)) (by
      rintro _ ⟨rfl, hno⟩
      exfalso
      obtain ⟨k, hk, ho, w, hw, hle⟩ := hI.via s v hs hne
      obtain ⟨v', hv', hle'⟩ := hcl s ((mem_a9 h).2 ⟨o1, o2, o3⟩) k hk ho w hw
      rw [hs] at hv'
      have := Option.some.inj hv'
      exact hno k hk ⟨ho, w, hw, by omega⟩)
  subst g5
  exact ⟨k, w, x, g1, g2, g3, g4, e⟩
include h in
theorem walk_out (hI : CInv c to m) (hcl : ∀ s ∈ a9 c c.length, ∀ k, k < 4 → ClM c m s k) : ∀ (n : Nat) (s : Std) (v : Int) (l : List Int), mget m s = some v → v ≤ n → (l.length : Int) + v ≤ 10000 → ∃ r, loopM (m_impl_CheapestWay_s3 c to.1 to.2 0 m) (l, s.1, s.2.1, s.2.2) = some r := by
  intro n
  have outS3 : ∀ (s : Std) (l : List Int), sp s = to → loopM (m_impl_CheapestWay_s3 c to.1 to.2 0 m) (l, s.1, s.2.1, s.2.2) = some l := fun s l e => by
    refine loopM_ou ?_
    have e1 : (s.1 == to.1 && s.2.1 == to.2) = decide (sp s = to) := eqb (sp s) to
    unfold m_impl_CheapestWay_s3
    simp only []
    rw [e1, bif_f (by simp [e])]
  have nextS3 : ∀ (s : Std) (v : Int) (l : List Int), mget m s = some v → sp s ≠ to → (l.length : Int) + v ≤ 10000 → ∃ (k : Nat) (w x : Int), mget m (stp (sp s) k) = some w ∧ 0 ≤ w ∧ w + 1 ≤ v ∧ m_impl_CheapestWay_s3 c to.1 to.2 0 m (l, s.1, s.2.1, s.2.2) = some (.next (l ++ [x], (stp (sp s) k).1, (stp (sp s) k).2.1, (stp (sp s) k).2.2)) := fun s v l hs e hb => by
    have hv0 := (hI.ok s v hs).2.2.2.1
    obtain ⟨k, w, x, g1, g2, g3, g4, g5⟩ := walk_in h hI hcl hs e (l := l) (by omega)
    have h9 := cellV_9 h g2
    have hw0 := (hI.ok _ _ g3).2.2.2.1
    have e1 : (s.1 == to.1 && s.2.1 == to.2) = decide (sp s = to) := eqb (sp s) to
    refine ⟨k, w, x, g3, hw0, by omega, ?_⟩
    unfold m_impl_CheapestWay_s3
    simp only []
    rw [e1, bif_t (by simp [e]), g5]
    rfl
  induction n with
  | zero =>
    intro s v l hs hn hb
    by_cases e : sp s = to
    · exact ⟨_, outS3 s l e⟩
    · obtain ⟨k, w, x, _, g2, g3, _⟩ := nextS3 s v l hs e hb
      omega
  | succ n ih =>
    intro s v l hs hn hb
    by_cases e : sp s = to
    · exact ⟨_, outS3 s l e⟩
    · obtain ⟨k, w, x, g1, g2, g3, g4⟩ := nextS3 s v l hs e hb
      obtain ⟨r, hr⟩ := ih (stp (sp s) k) w (l ++ [x]) g1 (by omega) (by rw [List.length_append]; simp; omega)
      exact ⟨r, loopM_nx g4 hr⟩
include h in
/-- The cheapest way. -/
theorem cheapest_eq (hfr : opn c fr = true) (hto : opn c to = true) : ∃ s v b, m_impl_CheapestWay c fr.1 fr.2 to.1 to.2 0 = some (s, v, b) ∧ (b = true ↔ Pth c to fr) := by
  obtain ⟨h1, h2, h3, h4, h5⟩ := mzOk_t h
  obtain ⟨m, e, hI, hcl⟩ := costs_eq h hto
  have hml := hI.len (h := h)
  unfold m_impl_CheapestWay m_impl_mazeOk m_impl_IsOpen
  rw [implValid_eq c (by omega) (fun r hr => by have := (h5 r hr).1; omega), h]
  simp only [bind_some']
  rw [bif_t rfl, implOpen_eq h, bind_some', hfr, bind_some', bif_t rfl, implOpen_eq h, bind_some', hto, bif_t rfl, iin_eq]
  simp only [bind_some']
  rw [bif_f (by rfl), e]
  simp only [bind_some']
  have ok1 : mpC (okIII ((fr.1, fr.2, (4 : Int)))) = some () := by
    have := okS (opn_smP h hfr) (l := 4) (by omega)
    unfold mpC
    rw [this]; rfl
  rw [ok1, bind_some']
  have hk := pth_known h hI hcl (p := fr)
  cases hm : mget m ((fr.1, fr.2, (4 : Int))) with
  | none =>
    rw [bif_t (by rfl)]
    refine ⟨_, _, _, rfl, fun hh => absurd hh (by simp), fun hp => ?_⟩
    obtain ⟨v, hv⟩ := hk hp hfr 4 (by omega)
    have hv' : mget m ((fr.1, fr.2, (4 : Int))) = some v := hv
    rw [hm] at hv'; exact absurd hv' (by simp)
  | some v =>
    obtain ⟨_, _, _, v0, v1⟩ := hI.ok _ _ hm
    obtain ⟨N, hN⟩ := Int.eq_ofNat_of_zero_le v0
    obtain ⟨r, hr⟩ := walk_out h hI hcl N (fr.1, fr.2, 4) v [] hm (by omega) (by simp; omega)
    rw [bif_f (by rfl)]
    have hr' : loopM (m_impl_CheapestWay_s3 c to.1 to.2 0 m) (([] : List Int), fr.1, fr.2, 4) = some r := hr
    rw [hr']
    refine ⟨_, _, _, rfl, fun _ => ?_, fun _ => rfl⟩
    exact known_pth hI (fun p hp => (cellV_9 h hp).1) N (fr.1, fr.2, 4) v hm (by omega)
end
/-! ### Blocks -/
section
variable {ν : Type} [DecidableEq ν]
def indF (M : List ν) (a : ν) : Int := if a ∈ M then 1 else 0
theorem indF_t {M : List ν} {a : ν} (h : a ∈ M) : indF M a = 1 := if_pos h
theorem indF_f {M : List ν} {a : ν} (h : a ∉ M) : indF M a = 0 := if_neg h
theorem sum_ind (M : List ν) : ∀ l : List ν, sumL (indF M) l = ((l.filter fun a => decide (a ∈ M)).length : Int)
  | [] => rfl
  | a :: l => by
    simp only [sumL]
    rw [sum_ind M l]
    by_cases c : a ∈ M
    · rw [indF_t c, List.filter_cons, if_pos (by simpa using c)]; simp; omega
    · rw [indF_f c, List.filter_cons, if_neg (by simpa using c)]; omega
theorem ind_le {M l : List ν} (hl : l.Nodup) : sumL (indF M) l ≤ (M.length : Int) := by
  rw [sum_ind]
  have := nodup_le (l.filter fun a => decide (a ∈ M)) M (hl.filter _) (fun x hx => by simpa using (List.mem_filter.1 hx).2)
  omega
theorem ind_eq {M l : List ν} (hl : l.Nodup) (hM : M.Nodup) (hs : ∀ x ∈ M, x ∈ l) : sumL (indF M) l = (M.length : Int) := by
  have h1 := ind_le (M := M) hl
  rw [sum_ind] at h1 ⊢
  have := nodup_le M (l.filter fun a => decide (a ∈ M)) hM (fun x hx => List.mem_filter.2 ⟨hs x hx, by simpa using hx⟩)
  omega
end
inductive From (c : Mz) (fr : Pt) : Pt → Prop where
  | base : From c fr fr
  | step (p : Pt) (k : Nat) : From c fr p → k < 4 → opn c (nb p k) = true → From c fr (nb p k)
theorem from_pth {c : Mz} {fr to p : Pt} (hf : From c fr p) : Pth c to p → Pth c to fr := by
  induction hf with
  | base => exact id
  | step p k _ hk ho ih => exact fun hp => ih (Pth.step p k hk ho hp)
def inG (p : Pt) : Gt := (p.1, p.2, false)
section
variable {c : Mz} (h : mzOk c = true) {fr to : Pt} {U : Us} {K : List Gt}
def cutB (B : List Pt) (a b : Gt) : Int := if b = oth a then indF (B.map inG) a else 0
include h in
theorem cutB_sum (B : List Pt) : sumL (fun a => sumL (fun b => cutB B a b) (allG c)) (allG c) = sumL (indF (B.map inG)) (allG c) := by
  refine sumL_congr _ fun a ha => ?_
  obtain ⟨j, hj, e⟩ := List.mem_map.1 ha
  have hg : hasC c (gp a) = true := by rw [← e]; exact gt_has h (List.mem_range.1 hj)
  unfold cutB
  exact sumL_one (allG_nodup h) (mem_allG h (g := oth a) hg)
theorem inG_nodup {B : List Pt} (hB : B.Nodup) : (B.map inG).Nodup := by
  rw [List.nodup_iff_pairwise_ne, List.pairwise_map]
  refine hB.imp fun {a b} hab e => hab ?_
  have := congrArg gp e
  exact this
include h in
/-- As many blocks as ways. -/
theorem marks_count (hU : UOk c fr to U) (hc : 1 < cells c) (hfr : opn c fr = true) (hK : ∀ g, g ∈ K ↔ Rch (allG c) (capM c fr to) (flN U) (srcG fr) g) (hs : snkG to ∉ K) (hopn : ∀ g ∈ K, opn c (gp g) = true) :
    outS (allG c) (flN U) (srcG fr) = ((markV K fr).length : Int) := by
  have hsV : srcG fr ∈ allG c := mem_allG h (opn_has hfr)
  have hcl : Closed (allG c) (capM c fr to) (flN U) (fun g => decide (g ∈ K)) := fun a ha b hb hR hlt => by
    have : a ∈ K := by simpa using hR
    simpa using (hK b).2 (Rch.step a b ((hK a).1 this) ha hb hlt)
  have hsK : srcG fr ∈ K := (hK _).2 Rch.base
  rw [hU.fl.full (R := fun g => decide (g ∈ K)) (allG_nodup h) hsV (by simpa using hsK) (decide_eq_false hs) hcl]
  have hmark : ∀ p, p ∈ markV K fr ↔ inG p ∈ K ∧ ((p.1, p.2, true) : Gt) ∉ K ∧ p ≠ fr := fun p => mem_markV
  have hnd : (markV K fr).Nodup := strict_nodup (setPts_strict _)
  rw [← List.length_map inG, ← ind_eq (M := (markV K fr).map inG) (allG_nodup h) (inG_nodup hnd) (fun x hx => by
    obtain ⟨p, hp, rfl⟩ := List.mem_map.1 hx
    exact mem_allG h (opn_has (hopn _ ((hmark p).1 hp).1))), ← cutB_sum h]
  unfold cutS
  refine sumL_congr _ fun a ha => sumL_congr _ fun b hb => ?_
  have hmem : a ∈ (markV K fr).map inG ↔ a.2.2 = false ∧ a ∈ K ∧ oth a ∉ K ∧ gp a ≠ fr := by
    constructor
    · intro hx
      obtain ⟨p, hp, rfl⟩ := List.mem_map.1 hx
      obtain ⟨m1, m2, m3⟩ := (hmark p).1 hp
      exact ⟨rfl, m1, m2, m3⟩
    · rintro ⟨m1, m2, m3, m4⟩
      have ea : inG (gp a) = a := by unfold inG gp; rw [← m1]
      have eo : (((gp a).1, (gp a).2, true) : Gt) = oth a := by unfold gp oth; rw [m1]; rfl
      exact List.mem_map.2 ⟨gp a, (hmark _).2 ⟨by rw [ea]; exact m2, by rw [eo]; exact m3, m4⟩, ea⟩
  unfold cutB
  by_cases hR : a ∈ K ∧ b ∉ K
  · rw [if_pos ⟨by simpa using hR.1, by simpa using hR.2⟩]
    by_cases hp : 0 < capM c fr to a b
    · rcases cap_pos hp with ⟨q1, q2, q3, q4, q5, q6, q7⟩ | ⟨q1, q2, q3, q4, q5, q7⟩
      · have eb : b = oth a := gate_eq (by rw [← q3]; rfl) (by rw [q2]; show true = !a.2.2; rw [q1]; rfl)
        rw [q7, if_pos eb, indF_t (hmem.2 ⟨q1, hR.1, by rw [← eb]; exact hR.2, q5⟩)]
      · exfalso
        have h1 : flN U a b ≤ 1 := by unfold flN; split <;> split <;> omega
        exact hR.2 ((hK b).2 (Rch.step a b ((hK a).1 hR.1) ha hb (by omega)))
    · have hnn := cap_nn (c := c) (fr := fr) (to := to) a b
      by_cases eb : b = oth a
      · rw [if_pos eb]
        by_cases hm : a ∈ (markV K fr).map inG
        · obtain ⟨m1, m2, m3, m4⟩ := hmem.1 hm
          exfalso
          have hto : gp a ≠ to := fun e => hs (by
            have : a = snkG to := gate_eq (by rw [e]; rfl) (by rw [m1]; rfl)
            rw [← this]; exact m2)
          have : capM c fr to a b = 1 := by
            unfold capM
            rw [if_pos ⟨m1, by rw [eb]; show (!a.2.2) = true; rw [m1]; rfl, by rw [eb]; rfl⟩, if_pos ⟨hopn a m2, m4, hto⟩]
          omega
        · rw [indF_f hm]; omega
      · rw [if_neg eb]; omega
  · rw [if_neg (fun hh => hR ⟨by simpa using hh.1, by simpa using hh.2⟩)]
    by_cases eb : b = oth a
    · rw [if_pos eb, indF_f]
      intro hm
      obtain ⟨m1, m2, m3, m4⟩ := hmem.1 hm
      exact hR ⟨m2, by rw [eb]; exact m3⟩
    · rw [if_neg eb]
include h in
theorem marks_four (hU : UOk c fr to U) : outS (allG c) (flN U) (srcG fr) ≤ 4 := by
  have h1 := ind_le (M := (List.range 4).map fun k => inG (nb fr k)) (allG_nodup h)
  have h2 : outS (allG c) (flN U) (srcG fr) ≤ sumL (indF ((List.range 4).map fun k => inG (nb fr k))) (allG c) := by
    refine sumL_le _ fun b _ => ?_
    have hle := hU.fl.le (srcG fr) b
    have h3 : flN U (srcG fr) b ≤ 1 := by unfold flN; split <;> split <;> omega
    by_cases hp : 0 < capM c fr to (srcG fr) b
    · rcases cap_pos hp with ⟨q1, _⟩ | ⟨_, q2, q3, _⟩
      · exact absurd q1 (by simp [srcG])
      · obtain ⟨k, hk, e⟩ := adjB_t.1 q3
        rw [indF_t]
        · exact h3
        · refine List.mem_map.2 ⟨k, List.mem_range.2 hk, ?_⟩
          refine gate_eq ?_ (by rw [q2]; rfl)
          rw [e]; rfl
    · unfold indF; split <;> omega
  rw [List.length_map, List.length_range] at h1
  omega
include h in
/-- The blocks block. -/
theorem marks_block (hU : UOk c fr to U) (hc : 1 < cells c) (hfr : opn c fr = true) (hne : fr ≠ to) (hK : ∀ g, g ∈ K ↔ Rch (allG c) (capM c fr to) (flN U) (srcG fr) g) (hs : snkG to ∉ K) {M : Mz} (hM : ∀ q, opn M q = true → opn c q = true ∧ q ∉ markV K fr) : ¬ Pth M to fr := by
  have key : ∀ p, Pth M to p → p ≠ to → opn c p = true → ((p.1, p.2, true) : Gt) ∈ K → False := by
    intro p hp
    induction hp with
    | base => exact fun hn _ _ => hn rfl
    | step p k hk ho _ ih =>
      intro hn hop hpk
      obtain ⟨o1, o2⟩ := hM _ ho
      have hin : inG (nb p k) ∈ K := by
        refine (hK _).2 (Rch.step (p.1, p.2, true) _ ((hK _).1 hpk) (mem_allG h (opn_has (p := gp ((p.1, p.2, true) : Gt)) hop)) (mem_allG h (opn_has (p := gp (inG (nb p k))) o1)) ?_)
        have h1 : flN U (p.1, p.2, true) (inG (nb p k)) ≤ 1 := by unfold flN; split <;> split <;> omega
        have h2 : capM c fr to (p.1, p.2, true) (inG (nb p k)) = cells c := by
          unfold capM
          rw [if_neg (by simp), if_pos ⟨rfl, rfl, adjB_t.2 ⟨k, hk, rfl⟩, hop, o1⟩]
        omega
      have hqt : nb p k ≠ to := fun e => hs (by have : inG (nb p k) = snkG to := by rw [e]; rfl
                                                rw [← this]; exact hin)
      refine ih hqt o1 ?_
      by_cases hq : (((nb p k).1, (nb p k).2, true) : Gt) ∈ K
      · exact hq
      · exfalso
        by_cases ef : nb p k = fr
        · rw [ef] at hq
          exact hq ((hK _).2 Rch.base)
        · exact o2 (mem_markV.2 ⟨hin, hq, ef⟩)
  exact fun hp => key fr hp hne hfr ((hK _).2 Rch.base)
include h in
/-- Fewer do not. -/
theorem marks_least (hU : UOk c fr to U) (hfr : opn c fr = true) {B : List Pt} (hB : B.length < outS (allG c) (flN U) (srcG fr)) (hto : to ∉ B) {M : Mz} (hM : ∀ q, opn c q = true → q ∉ B → opn M q = true) : Pth M to fr := by
  by_cases hP : Pth M to fr
  · exact hP
  exfalso
  have hF : ¬ From M fr to := fun hf => hP (from_pth hf Pth.base)
  have hsV : srcG fr ∈ allG c := mem_allG h (opn_has hfr)
  obtain ⟨R, hR⟩ : ∃ R : Gt → Bool, ∀ g, R g = true ↔ (From M fr (gp g) ∨ (g.2.2 = false ∧ gp g ∈ B)) :=
    ⟨fun g => @decide _ (Classical.propDecidable (From M fr (gp g) ∨ (g.2.2 = false ∧ gp g ∈ B))), fun g => by simp⟩
  have hRt : R (snkG to) = false := by
    rw [Bool.eq_false_iff]
    intro hh
    rcases (hR _).1 hh with hf | ⟨_, hb⟩
    · exact hF hf
    · exact hto hb
  have hle := hU.fl.le_cut (R := R) (allG_nodup h) hsV ((hR _).2 (Or.inl From.base)) hRt
  have hcut : cutS (allG c) R (capM c fr to) ≤ sumL (fun a => sumL (fun b => cutB B a b) (allG c)) (allG c) := by
    refine sumL_le _ fun a ha => sumL_le _ fun b hb => ?_
    have hc0 : 0 ≤ cutB B a b := by unfold cutB indF; split <;> (try split) <;> omega
    by_cases hab : R a = true ∧ R b = false
    · rw [if_pos hab]
      by_cases hp : 0 < capM c fr to a b
      · have hnb : ¬ (From M fr (gp b) ∨ (b.2.2 = false ∧ gp b ∈ B)) := fun hh => by
          have := (hR b).2 hh
          rw [hab.2] at this; exact absurd this (by simp)
        rcases cap_pos hp with ⟨q1, q2, q3, q4, q5, q6, q7⟩ | ⟨q1, q2, q3, q4, q5, q7⟩
        · rcases (hR a).1 hab.1 with hf | ⟨_, hm⟩
          · exact absurd (Or.inl (by rw [← q3]; exact hf)) hnb
          · have eb : b = oth a := gate_eq (by rw [← q3]; rfl) (by rw [q2]; show true = !a.2.2; rw [q1]; rfl)
            have ea : inG (gp a) = a := by unfold inG gp; rw [← q1]
            unfold cutB
            rw [q7, if_pos eb, indF_t (List.mem_map.2 ⟨gp a, hm, ea⟩)]
            exact Int.le_refl _
        · exfalso
          rcases (hR a).1 hab.1 with hf | ⟨hm, _⟩
          · by_cases hm : gp b ∈ B
            · exact hnb (Or.inr ⟨q2, hm⟩)
            · obtain ⟨k, hk, e⟩ := adjB_t.1 q3
              have ho := hM _ q5 hm
              rw [e] at ho
              exact hnb (Or.inl (by rw [e]; exact From.step _ k hf hk ho))
          · rw [q1] at hm; exact absurd hm (by simp)
      · omega
    · rw [if_neg hab]; exact hc0
  rw [cutB_sum h] at hcut
  have := ind_le (M := B.map inG) (allG_nodup h)
  rw [List.length_map] at this
  omega
end
end Go.Proofs.Ytcknpoeannbpbaa

set_option linter.unusedSimpArgs false
set_option linter.unusedVariables false
set_option linter.unusedSectionVars false
namespace Go.Proofs.Ytcknpoeannbpbaa
open Go.RowKit

section
variable {l : List Int} (hl : ∀ p ∈ l, In8 p)
include hl in
theorem src_pick1 {k s n : Int} (h0 : 0 ≤ k) (h1 : k ≤ 1000) (h2 : 1 ≤ n) (h3 : n ≤ 200) :
    ∃ v k' s', m_spec_l00Src_pick_bspecl00Src l k s n = some (v, k', s') ∧ 0 ≤ v ∧ v < n ∧ k ≤ k' ∧ k' ≤ k + 1 := by
  by_cases e : n = 1
  · subst e
    unfold m_spec_l00Src_pick_bspecl00Src
    rw [bif_t (by rfl)]
    exact ⟨0, k, s, rfl, by omega, by omega, by omega, by omega⟩
  · obtain ⟨v, s', e1, e2, e3⟩ := src_pick (s := s) hl h0 h1 (show 2 ≤ n by omega) h3
    exact ⟨v, k + 1, s', e1, e2, e3, by omega, by omega⟩
include hl in
/-- One cell. -/
theorem r8cell {y1 : Int × Int × Int} {y2 : Bool × Int × Int} {y x W : Nat} (hW : wr (1 + y1.1) = (W : Int)) (hx : x < W) (hWb : W ≤ 5) (hy : y ≤ 5) {row : List Int} {k s : Int} (h0 : 0 ≤ k) (h1 : k ≤ 900) (hr : row.length = x) :
    ∃ v k' s', m_spec_R8Maze_s4 l y1 y2 (y : Int) (row, (x : Int), k, s) = some (.next (row ++ [v], ((x + 1 : Nat) : Int), k', s')) ∧ 0 ≤ v ∧ v ≤ 9 ∧ (x = 0 → y = 0 → v ≠ 0) ∧ k ≤ k' ∧ k' ≤ k + 2 := by
  unfold m_spec_R8Maze_s4
  simp only []
  rw [hW, bif_t (by simp; omega)]
  have hA : ∃ x5 x6 x7, (bif !y2.1 then Option.bind (m_spec_l00Src_pick_bspecl00Src l k s 9) fun y3 => some ((wr (1 + y3.1), y3.2.1, y3.2.2)) else some ((1, k, s))) = some (x5, x6, x7) ∧ 1 ≤ x5 ∧ x5 ≤ 9 ∧ k ≤ x6 ∧ x6 ≤ k + 1 := by
    cases y2.1 with
    | true => exact ⟨1, k, s, rfl, by omega, by omega, by omega, by omega⟩
    | false =>
      obtain ⟨v, k', s', e, v0, v1, k0, k1⟩ := src_pick1 hl (s := s) h0 (by omega) (show (1 : Int) ≤ 9 by omega) (by omega)
      refine ⟨1 + v, k', s', ?_, by omega, by omega, k0, k1⟩
      show (Option.bind (m_spec_l00Src_pick_bspecl00Src l k s 9) fun y3 => some ((wr (1 + y3.1), y3.2.1, y3.2.2))) = _
      rw [e, bind_some', wr_in (by omega)]
  obtain ⟨x5, x6, x7, eA, a0, a1, a2, a3⟩ := hA
  rw [eA]
  simp only [bind_some']
  obtain ⟨v, k', s', e, v0, v1, k0, k1⟩ := src_pick1 hl (k := x6) (s := x7) (n := 4) (by omega) (by omega) (by omega) (by omega)
  unfold m_spec_l00Src_one_bspecl00Src
  rw [e]
  simp only [bind_some']
  have hB : ∃ x8, (bif v == 0 then (bif decide (wr ((x : Int) + (y : Int)) > 0) then some (((0 : Int), k', s')) else some ((x5, k', s'))) else some ((x5, k', s'))) = some (x8, k', s') ∧ 0 ≤ x8 ∧ x8 ≤ 9 ∧ (x = 0 → y = 0 → x8 ≠ 0) := by
    cases (v == 0) with
    | false => exact ⟨x5, rfl, by omega, by omega, fun _ _ => by omega⟩
    | true =>
      by_cases c : wr ((x : Int) + (y : Int)) > 0
      · rw [bif_t rfl, bif_t (by simpa using c)]
        refine ⟨0, rfl, by omega, by omega, fun e1 e2 => ?_⟩
        subst e1; subst e2
        exact absurd c (by decide)
      · rw [bif_t rfl, bif_f (by simpa using c)]
        exact ⟨x5, rfl, by omega, by omega, fun _ _ => by omega⟩
  obtain ⟨x8, eB, b0, b1, b2⟩ := hB
  rw [eB]
  simp only [bind_some']
  rw [apC_ok (by unfold lim; simp; omega)]
  simp only [bind_some']
  rw [wr_in (x := (x : Int) + 1) (by omega)]
  exact ⟨x8, k', s', rfl, b0, b1, b2, by omega, by omega⟩
include hl in
theorem r8row {y1 : Int × Int × Int} {y2 : Bool × Int × Int} {y W : Nat} (hW : wr (1 + y1.1) = (W : Int)) (hWb : W ≤ 5) (hW1 : 1 ≤ W) (hy : y ≤ 5) {k s : Int} (h0 : 0 ≤ k) (h1 : k ≤ 800) :
    ∃ row k' s', loopM (m_spec_R8Maze_s4 l y1 y2 (y : Int)) (([] : List Int), 0, k, s) = some (row, k', s') ∧ row.length = W ∧ (∀ v ∈ row, 0 ≤ v ∧ v ≤ 9) ∧ (y = 0 → row.getD 0 0 ≠ 0) ∧ 0 ≤ k' ∧ k' ≤ k + 2 * W := by
  obtain ⟨r, e, h2, h3, h4, h5, h6⟩ := loopM_count (m_spec_R8Maze_s4 l y1 y2 (y : Int)) W (fun x st => st.1.length = x ∧ st.2.1 = (x : Int) ∧ (∀ v ∈ st.1, 0 ≤ v ∧ v ≤ 9) ∧ (y = 0 → 1 ≤ x → st.1.getD 0 0 ≠ 0) ∧ 0 ≤ st.2.2.1 ∧ st.2.2.1 ≤ k + 2 * x)
    (fun r => r.1.length = W ∧ (∀ v ∈ r.1, 0 ≤ v ∧ v ≤ 9) ∧ (y = 0 → r.1.getD 0 0 ≠ 0) ∧ 0 ≤ r.2.1 ∧ r.2.1 ≤ k + 2 * W) (s0 := ([], 0, k, s)) ⟨rfl, rfl, by simp, fun _ hh => by omega, h0, by simp⟩ (by
      rintro x ⟨row, xx, k1, s1⟩ hx ⟨g1, g2, g3, g4, g5, g6⟩
      simp only at g1 g2 g3 g4 g5 g6
      subst g2
      left
      obtain ⟨v, k', s', e, v0, v1, v2, q0, q1⟩ := r8cell hl (y2 := y2) (s := s1) hW hx hWb hy g5 (by omega) g1
      rw [e]
      refine ⟨_, rfl, by simp [g1], rfl, fun u hu => ?_, fun e1 _ => ?_, by simp only []; omega, by simp only []; omega⟩
      · rcases List.mem_append.1 hu with hu | hu
        · exact g3 u hu
        · simp only [List.mem_singleton] at hu; subst hu; exact ⟨v0, v1⟩
      · by_cases ex : x = 0
        · have : row = [] := List.length_eq_zero_iff.1 (by omega)
          subst this
          exact v2 ex e1
        · have := g4 e1 (by omega)
          have hlt : 0 < row.length := by omega
          simp only [List.getD]
          rw [List.getElem?_append_left hlt]
          exact this) (by
      rintro ⟨row, xx, k1, s1⟩ ⟨g1, g2, g3, g4, g5, g6⟩
      simp only at g1 g2 g3 g4 g5 g6
      subst g2
      unfold m_spec_R8Maze_s4
      simp only []
      rw [hW, bif_f (by simp)]
      exact ⟨_, rfl, g1, g3, fun e => g4 e hW1, g5, g6⟩)
  exact ⟨r.1, r.2.1, r.2.2, e, h2, h3, h4, h5, h6⟩
include hl in
/-- A drawn maze is valid; its first cell is open. -/
theorem r8maze : ∃ c : Mz, m_spec_R8Maze l = some c ∧ mzOk c = true ∧ opn c (0, 0) = true := by
  unfold m_spec_R8Maze m_spec_l00From
  simp only [bind_some']
  obtain ⟨v1, k1, s1, e1, a0, a1, a2, a3⟩ := src_pick1 hl (k := 0) (s := 0) (n := 5) (by omega) (by omega) (by omega) (by omega)
  rw [e1]; simp only [bind_some']
  obtain ⟨v2, k2, s2, e2, b0, b1, b2, b3⟩ := src_pick1 hl (k := k1) (s := s1) (n := 5) (by omega) (by omega) (by omega) (by omega)
  rw [e2]; simp only [bind_some']
  obtain ⟨v3, k3, s3, e3, c0, c1, c2, c3⟩ := src_pick1 hl (k := k2) (s := s2) (n := 2) (by omega) (by omega) (by omega) (by omega)
  unfold m_spec_l00Src_one_bspecl00Src
  rw [e3]; simp only [bind_some']
  obtain ⟨W, hW⟩ := Int.eq_ofNat_of_zero_le (show 0 ≤ 1 + v1 by omega)
  obtain ⟨H, hH⟩ := Int.eq_ofNat_of_zero_le (show 0 ≤ 1 + v2 by omega)
  have hW' : wr (1 + (v1, k1, s1).1) = (W : Int) := by show wr (1 + v1) = _; rw [wr_in (by omega), hW]
  have hH' : wr (1 + (v2, k2, s2).1) = (H : Int) := by show wr (1 + v2) = _; rw [wr_in (by omega), hH]
  obtain ⟨r, e, h2, h3, h4⟩ := loopM_count (m_spec_R8Maze_s3 l (v1, k1, s1) (v2, k2, s2) (v3 == 0, k3, s3)) H (fun y st => st.1 = (y : Int) ∧ 0 ≤ st.2.1 ∧ st.2.1 ≤ 3 + 10 * y ∧ st.2.2.2.length = y ∧ (∀ r ∈ st.2.2.2, r.length = W ∧ ∀ v ∈ r, 0 ≤ v ∧ v ≤ 9) ∧ (1 ≤ y → (st.2.2.2.getD 0 []).getD 0 0 ≠ 0))
    (fun r => r.length = H ∧ (∀ q ∈ r, q.length = W ∧ ∀ v ∈ q, 0 ≤ v ∧ v ≤ 9) ∧ (r.getD 0 []).getD 0 0 ≠ 0) (s0 := (0, k3, s3, [])) ⟨rfl, by simp only []; omega, by simp only []; omega, rfl, by simp, fun hh => by omega⟩ (by
      rintro y ⟨yy, k, s, M⟩ hy ⟨g1, g2, g3, g4, g5, g6⟩
      simp only at g1 g2 g3 g4 g5 g6
      subst g1
      left
      obtain ⟨row, k', s', e, q1, q2, q3, q4, q5⟩ := r8row hl (y2 := (v3 == 0, k3, s3)) (y := y) (s := s) hW' (by omega) (by omega) (by omega) g2 (by omega)
      unfold m_spec_R8Maze_s3
      simp only []
      rw [hH', bif_t (by simp; omega), e]
      simp only [bind_some']
      rw [apC_ok (by unfold lim; simp; omega)]
      simp only [bind_some']
      refine ⟨_, rfl, by simp only []; rw [wr_in (by omega)]; rfl, q4, by simp only []; omega, by simp [g4], fun r hr => ?_, fun _ => ?_⟩
      · rcases List.mem_append.1 hr with hr | hr
        · exact g5 r hr
        · simp only [List.mem_singleton] at hr; subst hr; exact ⟨q1, q2⟩
      · by_cases ey : y = 0
        · have : M = [] := List.length_eq_zero_iff.1 (by omega)
          subst this
          exact q3 ey
        · have := g6 (by omega)
          have hlt : 0 < M.length := by omega
          have e5 : (M ++ [row]).getD 0 [] = M.getD 0 [] := by simp only [List.getD]; rw [List.getElem?_append_left hlt]
          simp only []
          rw [e5]; exact this) (by
      rintro ⟨yy, k, s, M⟩ ⟨g1, g2, g3, g4, g5, g6⟩
      simp only at g1 g2 g3 g4 g5 g6
      subst g1
      unfold m_spec_R8Maze_s3
      simp only []
      rw [hH', bif_f (by simp)]
      exact ⟨_, rfl, g4, g5, g6 (by omega)⟩)
  rw [e]
  refine ⟨r, rfl, ?_, ?_⟩
  · have hw0 : mzW r = W := by
      unfold mzW
      have hlt : 0 < r.length := by omega
      have : r.getD 0 [] = r[0] := by rw [List.getD, List.getElem?_eq_getElem hlt]; rfl
      rw [this]
      exact (h3 _ (List.getElem_mem hlt)).1
    unfold mzOk rowOk
    rw [hw0]
    simp only [Bool.and_eq_true, decide_eq_true_eq, List.all_eq_true]
    exact ⟨⟨⟨by omega, by omega⟩, by omega, by omega⟩, h3⟩
  · have hw0 : mzW r = W := by
      unfold mzW
      have hlt : 0 < r.length := by omega
      have : r.getD 0 [] = r[0] := by rw [List.getD, List.getElem?_eq_getElem hlt]; rfl
      rw [this]
      exact (h3 _ (List.getElem_mem hlt)).1
    unfold opn hasC cellV
    rw [hw0]
    simp only [Bool.and_eq_true, decide_eq_true_eq]
    exact ⟨⟨⟨by omega, by omega⟩, by omega, by omega⟩, h4⟩
include hl in
theorem r8open {c : Mz} (h : mzOk c = true) (h00 : opn c (0, 0) = true) : ∃ p : Pt, m_spec_R8Open l c = some p ∧ opn c p = true := by
  obtain ⟨h1, h2, h3, h4, _⟩ := mzOk_t h
  unfold m_spec_R8Open m_spec_l00From
  simp only [bind_some']
  obtain ⟨r, e, hJ⟩ := loopM_count (m_spec_R8Open_s1 l c) 8 (fun j st => st.1 = (j : Int) ∧ 0 ≤ st.2.1 ∧ st.2.1 ≤ 2 * j) (fun r => r = Sum.inl () ∨ ∃ p : Pt, r = Sum.inr p ∧ opn c p = true) (s0 := (0, 0, 0)) ⟨rfl, by simp, by simp⟩ (by
      rintro j ⟨jj, k, s⟩ hj ⟨g1, g2, g3⟩
      simp only at g1 g2 g3
      subst g1
      unfold m_spec_R8Open_s1
      simp only []
      rw [bif_t (by simp; omega), geti0 h1]
      simp only [bind_some']
      have hW : ((c.getD 0 []).length : Int) = (mzW c : Int) := rfl
      rw [hW]
      obtain ⟨v1, k1, s1, e1, a0, a1, a2, a3⟩ := src_pick1 hl (k := k) (s := s) (n := (mzW c : Int)) (by omega) (by omega) (by omega) (by omega)
      rw [e1]; simp only [bind_some']
      obtain ⟨v2, k2, s2, e2, b0, b1, b2, b3⟩ := src_pick1 hl (k := k1) (s := s1) (n := (c.length : Int)) (by omega) (by omega) (by omega) (by omega)
      rw [e2]; simp only [bind_some']
      have ho : m_spec_l04Open_bimplMaze c v1 v2 = some (opn c (v1, v2)) := specOpen_eq h (v1, v2)
      rw [ho]; simp only [bind_some']
      cases hq : opn c (v1, v2) with
      | true =>
        right
        rw [bif_t rfl]
        exact ⟨_, rfl, Or.inr ⟨(v1, v2), rfl, hq⟩⟩
      | false =>
        left
        rw [bif_f rfl]
        exact ⟨_, rfl, by simp only []; rw [wr_in (by omega)]; rfl, by simp only []; omega, by simp only []; omega⟩) (by
      rintro ⟨jj, k, s⟩ ⟨g1, g2, g3⟩
      simp only at g1
      subst g1
      unfold m_spec_R8Open_s1
      simp only []
      rw [bif_f (by rfl)]
      exact ⟨_, rfl, Or.inl rfl⟩)
  rw [e]
  rcases hJ with rfl | ⟨p, rfl, hp⟩
  · exact ⟨(0, 0), rfl, h00⟩
  · exact ⟨p, rfl, hp⟩
end
/-! ### A wall more -/
def wallC (M : Mz) (p : Pt) : Mz := M.set p.2.toNat ((M.getD p.2.toNat []).set p.1.toNat 0)
theorem wall_ok {M : Mz} (h : mzOk M = true) {p : Pt} (hp : hasC M p = true) : mzOk (wallC M p) = true ∧ (wallC M p).length = M.length ∧ mzW (wallC M p) = mzW M ∧ ∀ q, opn (wallC M p) q = true ↔ opn M q = true ∧ q ≠ p := by
  obtain ⟨h1, h2, h3, h4, h5⟩ := mzOk_t h
  unfold hasC at hp
  simp only [Bool.and_eq_true, decide_eq_true_eq] at hp
  obtain ⟨x, y⟩ := p
  obtain ⟨⟨p1, p2⟩, p3, p4⟩ := hp
  simp only at p1 p2 p3 p4
  obtain ⟨X, rfl⟩ := Int.eq_ofNat_of_zero_le p3
  obtain ⟨Y, rfl⟩ := Int.eq_ofNat_of_zero_le p1
  have hY : Y < M.length := by omega
  have hX : X < mzW M := by omega
  obtain ⟨_, r2, r3⟩ := row_at h hY
  have ew : wallC M ((X : Int), (Y : Int)) = M.set Y ((M.getD Y []).set X 0) := rfl
  rw [ew]
  have hlen : (M.set Y ((M.getD Y []).set X 0)).length = M.length := List.length_set
  have hrow : ∀ j, j < M.length → (M.set Y ((M.getD Y []).set X 0)).getD j [] = if Y = j then (M.getD Y []).set X 0 else M.getD j [] := fun j hj => by
    simp only [List.getD, List.getElem?_set]
    by_cases e : Y = j
    · subst e; simp [hj]
    · simp [e]
  have hw : mzW (M.set Y ((M.getD Y []).set X 0)) = mzW M := by
    have := hrow 0 (by omega)
    unfold mzW at *
    rw [this]
    split
    · rename_i e; subst e; rw [List.length_set]
    · rfl
  refine ⟨?_, hlen, hw, fun q => ?_⟩
  · unfold mzOk rowOk
    rw [hlen, hw]
    simp only [Bool.and_eq_true, decide_eq_true_eq, List.all_eq_true]
    refine ⟨⟨⟨h1, h2⟩, h3, h4⟩, fun r hr => ?_⟩
    rcases List.mem_or_eq_of_mem_set hr with hr | rfl
    · exact h5 r hr
    · refine ⟨by rw [List.length_set]; exact r2, fun v hv => ?_⟩
      rcases List.mem_or_eq_of_mem_set hv with hv | rfl
      · exact r3 v hv
      · omega
  · have hh : hasC (M.set Y ((M.getD Y []).set X 0)) q = hasC M q := by unfold hasC; rw [hlen, hw]
    unfold opn
    rw [hh]
    cases hq : hasC M q with
    | false => simp
    | true =>
      unfold hasC at hq
      simp only [Bool.and_eq_true, decide_eq_true_eq] at hq
      obtain ⟨a, b⟩ := q
      obtain ⟨⟨q1, q2⟩, q3, q4⟩ := hq
      simp only at q1 q2 q3 q4
      obtain ⟨A, rfl⟩ := Int.eq_ofNat_of_zero_le q3
      obtain ⟨B, rfl⟩ := Int.eq_ofNat_of_zero_le q1
      have hB : B < M.length := by omega
      have hA : A < mzW M := by omega
      have ec : cellV (M.set Y ((M.getD Y []).set X 0)) ((A : Int), (B : Int)) = if Y = B ∧ X = A then 0 else cellV M ((A : Int), (B : Int)) := by
        unfold cellV
        simp only [Int.toNat_natCast]
        rw [hrow B hB]
        by_cases e : Y = B
        · subst e
          rw [if_pos rfl]
          simp only [List.getD, List.getElem?_set]
          by_cases e2 : X = A
          · subst e2
            have : X < (M[Y]?.getD []).length := by
              have := r2
              simp only [List.getD] at this
              omega
            simp [this]
          · simp [e2]
        · rw [if_neg e]; simp [e]
      rw [ec]
      by_cases e : Y = B ∧ X = A
      · obtain ⟨rfl, rfl⟩ := e
        simp
      · rw [if_neg e]
        have hne : (((A : Int), (B : Int)) : Pt) ≠ ((X : Int), (Y : Int)) := fun e3 => by
          simp only [Prod.mk.injEq] at e3
          exact e ⟨by omega, by omega⟩
        simp [hne]
end Go.Proofs.Ytcknpoeannbpbaa

set_option linter.unusedSimpArgs false
set_option linter.unusedVariables false
set_option linter.unusedSectionVars false
namespace Go.Proofs.Ytcknpoeannbpbaa
open Go.RowKit

section
variable {c : Mz} (h : mzOk c = true) {fr to : Pt} {B : List Pt}
include h in
theorem blk_copy : loopM (m_laws_FnBlocked_s6 c) (0, ([] : List (List Int))) = some c := by
  obtain ⟨h1, h2, h3, h4, h5⟩ := mzOk_t h
  have hl1 := loop_run (step := m_laws_FnBlocked_s6 c) c.length (fun m => ((m : Int), c.take m)) (r := c) (fun m hm => by
    have hwr : wr ((m : Int) + 1) = ((m + 1 : Nat) : Int) := by rw [wr_in (by omega)]; rfl
    have hr := (h5 _ (List.getElem_mem hm)).1
    unfold m_laws_FnBlocked_s6
    simp only []
    rw [bif_t (by simp; omega), geti_lt hm]
    simp only [bind_some']
    rw [apC_ok (by unfold lim; simp; omega)]
    simp only [bind_some', List.nil_append]
    rw [apC_ok (by unfold lim; simp; omega)]
    simp only [bind_some', hwr]
    rw [List.take_succ_eq_append_getElem hm]) (by
    unfold m_laws_FnBlocked_s6
    simp only []
    rw [bif_f (by simp), List.take_length])
  rw [show ((0 : Nat) : Int) = 0 from rfl, List.take_zero] at hl1
  exact hl1
/-- The maze behind the first i blocks, but one. -/
structure Bent (c : Mz) (B : List Pt) (x : Int) (i : Nat) (M : Mz) : Prop where
  ok : mzOk M = true
  has : ∀ q, hasC M q = hasC c q
  op : ∀ q, opn M q = true ↔ (opn c q = true ∧ ∀ j (hj : j < B.length), j < i → (j : Int) ≠ x → B[j] ≠ q)
include h in
theorem blk_walls (hB : ∀ p ∈ B, opn c p = true ∧ p ≠ fr ∧ p ≠ to) (hb : B.length ≤ 300) (x : Int) :
    ∃ M, loopM (m_laws_FnBlocked_s7 c fr to (B, true) x) (0, c) = some (Sum.inl M) ∧ Bent c B x B.length M := by
  obtain ⟨h1, h2, h3, h4, h5⟩ := mzOk_t h
  obtain ⟨r, e, M, rfl, hM⟩ := loopM_count (m_laws_FnBlocked_s7 c fr to (B, true) x) B.length (fun i st => st.1 = (i : Int) ∧ Bent c B x i st.2) (fun r => ∃ M, r = Sum.inl M ∧ Bent c B x B.length M) (s0 := (0, c)) ⟨rfl, h, fun _ => rfl, fun q => ⟨fun hh => ⟨hh, fun j _ hj => by omega⟩, fun hh => hh.1⟩⟩ (by
      rintro i ⟨ii, M⟩ hi ⟨hii, hM⟩
      simp only at hii hM
      subst hii
      left
      obtain ⟨o1, o2, o3⟩ := hB _ (List.getElem_mem hi)
      have hwr : wr ((i : Int) + 1) = ((i + 1 : Nat) : Int) := by rw [wr_in (by omega)]; rfl
      have hop : m_impl_IsOpen c B[i].1 B[i].2 = some true := by
        unfold m_impl_IsOpen
        rw [implValid_eq c (by omega) (fun r hr => by have := (h5 r hr).1; omega), h]
        simp only [bind_some']
        rw [bif_t rfl, implOpen_eq h, bind_some', o1]
      have e1 : (B[i].1 == fr.1 && B[i].2 == fr.2) = decide (B[i] = fr) := eqb _ _
      have e2 : (B[i].1 == to.1 && B[i].2 == to.2) = decide (B[i] = to) := eqb _ _
      unfold m_laws_FnBlocked_s7
      simp only []
      rw [bif_t (by simpa using hi), geti_lt hi]
      simp only [bind_some']
      rw [hop]
      simp only [bind_some']
      rw [bif_f (by rfl), e1, bif_f (by simp [o2]), e2, bif_f (by simp [o3])]
      by_cases cx : (i : Int) = x
      · rw [bif_f (by simp [cx])]
        simp only [bind_some', hwr]
        refine ⟨_, rfl, rfl, hM.ok, hM.has, fun q => ?_⟩
        rw [hM.op]
        constructor
        · rintro ⟨g1, g2⟩
          refine ⟨g1, fun j hj hji hjx => ?_⟩
          by_cases ej : j = i
          · subst ej; exact absurd cx hjx
          · exact g2 j hj (by omega) hjx
        · rintro ⟨g1, g2⟩
          exact ⟨g1, fun j hj hji hjx => g2 j hj (by omega) hjx⟩
      · rw [bif_t (by simp [cx])]
        have hh : hasC M B[i] = true := by rw [hM.has]; exact opn_has o1
        obtain ⟨c1, c2, _⟩ := cell_at hM.ok hh
        rw [c1]
        simp only [bind_some']
        rw [c2]
        simp only [bind_some', hwr]
        obtain ⟨w1, w2, w3, w4⟩ := wall_ok hM.ok hh
        refine ⟨_, rfl, rfl, w1, fun q => ?_, fun q => ?_⟩
        · rw [← hM.has]
          show hasC (wallC M B[i]) q = _
          unfold hasC; rw [w2, w3]
        · show opn (wallC M B[i]) q = true ↔ _
          rw [w4, hM.op]
          constructor
          · rintro ⟨⟨g1, g2⟩, g3⟩
            refine ⟨g1, fun j hj hji hjx => ?_⟩
            by_cases ej : j = i
            · subst ej; exact fun e => g3 e.symm
            · exact g2 j hj (by omega) hjx
          · rintro ⟨g1, g2⟩
            exact ⟨⟨g1, fun j hj hji hjx => g2 j hj (by omega) hjx⟩, fun e => g2 i hi (by omega) cx e.symm⟩) (by
      rintro ⟨ii, M⟩ ⟨hii, hM⟩
      simp only at hii hM
      subst hii
      unfold m_laws_FnBlocked_s7
      simp only []
      rw [bif_f (by simp)]
      exact ⟨_, rfl, M, rfl, hM⟩)
  exact ⟨M, e, hM⟩
include h in
theorem blk_loop (hfr : opn c fr = true) (hto : opn c to = true) (hB : ∀ p ∈ B, opn c p = true ∧ p ≠ fr ∧ p ≠ to) (hb : B.length ≤ 4)
    (hno : ∀ M, (∀ q, opn M q = true → opn c q = true ∧ q ∉ B) → ¬ Pth M to fr) (hyes : ∀ (B' : List Pt) M, B'.length < B.length → to ∉ B' → (∀ q, opn c q = true → q ∉ B' → opn M q = true) → Pth M to fr) :
    loopM (m_laws_FnBlocked_s5 c fr to (B, true)) (-1) = some (Sum.inl ()) := by
  refine loopM_val _ (B.length + 1) (fun j s => s = (j : Int) - 1) rfl ?_ ?_
  · rintro j _ hj rfl
    left
    obtain ⟨M, hw, hM⟩ := blk_walls h hB (by omega) ((j : Int) - 1)
    have ofr : opn M fr = true := (hM.op fr).2 ⟨hfr, fun i hi _ _ e => (hB _ (List.getElem_mem hi)).2.1 e⟩
    have oto : opn M to = true := (hM.op to).2 ⟨hto, fun i hi _ _ e => (hB _ (List.getElem_mem hi)).2.2 e⟩
    obtain ⟨s, v, b, hc, hbi⟩ := cheapest_eq hM.ok ofr oto
    unfold m_laws_FnBlocked_s5
    simp only []
    rw [bif_t (by simp only [decide_eq_true_eq]; omega), blk_copy h]
    simp only [bind_some']
    rw [hw]
    simp only [bind_some']
    rw [hc]
    simp only [bind_some']
    have hbv : b = decide ((j : Int) - 1 ≥ 0) := by
      rw [Bool.eq_iff_iff, hbi]
      simp only [decide_eq_true_eq]
      by_cases ej : j = 0
      · subst ej
        refine ⟨fun hp => absurd hp (hno M fun q hq => ?_), fun hh => by omega⟩
        obtain ⟨g1, g2⟩ := (hM.op q).1 hq
        refine ⟨g1, fun hm => ?_⟩
        obtain ⟨i, hi, e⟩ := List.mem_iff_getElem.1 hm
        exact g2 i hi hi (by omega) e
      · refine ⟨fun _ => by omega, fun _ => hyes (B.eraseIdx (j - 1)) M ?_ ?_ fun q hq hn => ?_⟩
        · rw [List.length_eraseIdx]; split <;> omega
        · exact fun hm => (hB _ (List.mem_of_mem_eraseIdx hm)).2.2 rfl
        · refine (hM.op q).2 ⟨hq, fun i hi _ hix e => hn ?_⟩
          rw [List.mem_eraseIdx_iff_getElem]
          exact ⟨i, hi, by omega, e⟩
    rw [bif_f (by rw [hbv]; simp)]
    exact ⟨_, rfl, by rw [wr_in (by omega)]; omega⟩
  · rintro _ rfl
    unfold m_laws_FnBlocked_s5
    simp only []
    rw [bif_f (by simp only [decide_eq_false_iff_not]; omega)]
end
theorem lawBlocked (l0 l1 : List Int) (r0 : ∀ p ∈ l0, In8 p) (r1 : ∀ p ∈ l1, In8 p) : m_laws_FnBlocked l0 l1 = some true := by
  unfold m_laws_FnBlocked m_laws_r8Long
  have hL : ∃ b, (bif decide ((((l0).length : Int)) > 48) then some true else some (decide ((((l1).length : Int)) > 48))) = some b := by
    cases decide ((((l0).length : Int)) > 48) <;> exact ⟨_, rfl⟩
  obtain ⟨b, hb⟩ := hL
  rw [hb, bind_some']
  cases b with
  | true => rfl
  | false =>
    rw [bif_f rfl]
    obtain ⟨c, ec, h, h00⟩ := r8maze r0
    obtain ⟨fr, ef, hfr⟩ := r8open r0 h h00
    obtain ⟨to, et, hto⟩ := r8open r1 h h00
    obtain ⟨h1, h2, h3, h4, h5⟩ := mzOk_t h
    have hrb : ∀ r ∈ c, r.length ≤ 140737488355328 := fun r hr => by have := (h5 r hr).1; omega
    rw [ec, bind_some', ef, bind_some', et, bind_some']
    have kf := opn_okP h hfr
    have kt := opn_okP h hto
    have hd : m_impl_DistanceOf fr.1 fr.2 to.1 to.2 = some (dist fr to, true) := by
      unfold m_impl_DistanceOf
      rw [IsPoint_eq, bind_some', show okP (fr.1, fr.2) = true from kf, bif_f (by rfl), IsPoint_eq, bind_some', show okP (to.1, to.2) = true from kt, bif_f (by rfl), far_eq kf kt, bind_some']
    have hop : m_impl_IsOpen c fr.1 fr.2 = some true := by
      unfold m_impl_IsOpen
      rw [implValid_eq c (by omega) hrb, h]
      simp only [bind_some']
      rw [bif_t rfl, implOpen_eq h, bind_some', hfr]
    unfold m_impl_FewestBlocks m_impl_MostApart
    rw [blockI_eq c (by omega) hrb]
    simp only [bind_some']
    have hbd : blk c fr to = decide (1 < dist fr to) := by
      unfold blk
      rw [h, hfr, hto]; simp
    cases hbk : blk c fr to with
    | false =>
      rw [hbk] at hbd
      rw [bif_t (by rfl), bif_t (by rfl)]
      simp only [bind_some']
      rw [hd, bind_some', bif_f (by rfl)]
      have hgt : decide ((dist fr to, true).1 > 1) = false := by rw [hbd]
      rw [hgt, bif_f (by rfl), bif_f (by rfl), bif_t (by rfl), hop]
      rfl
    | true =>
      obtain ⟨_, _, _, hne, hft, hc, _⟩ := blk_t hbk
      rw [hbk] at hbd
      obtain ⟨K, U, a1, a2, a3, a4⟩ := apart_eq h hc hft hne hfr hto
      obtain ⟨v, K', T, b1, b2, b3, b4, b5⟩ := both_eq h hc hft hne hfr hto
      have hKo : ∀ g ∈ K, opn c (gp g) = true := fun g hg => by
        have hr := (a4 g).1 hg
        cases hr with
        | base => exact hfr
        | step a _ _ ha hb hlt =>
          have h1 := a2.fl.le a g
          have h2 := cap_nn (c := c) (fr := fr) (to := to) a g
          by_cases c1 : 0 < capM c fr to a g
          · rcases cap_pos c1 with ⟨_, _, q3, q4, _⟩ | ⟨_, _, _, _, q5, _⟩
            · rw [← q3]; exact q4
            · exact q5
          · have ha2 := a2.fl.anti a g
            have h3 := a2.fl.le g a
            rcases cap_pos (show 0 < capM c fr to g a by omega) with ⟨_, _, q3, q4, _⟩ | ⟨_, _, _, q4, _, _⟩
            · exact q4
            · exact q4
      have hcount := marks_count h a2 hc hfr a4 a3 hKo
      have hfour := marks_four h a2
      rw [bif_f (by rfl), bif_f (by rfl), a1]
      simp only [bind_some']
      rw [hd, bind_some', bif_f (by rfl)]
      have hgt : decide ((dist fr to, true).1 > 1) = true := by rw [hbd]
      rw [hgt, bif_f (by rfl), bif_f (by rfl), bif_f (by rfl), bif_f (by simp only [bne_eq_false_iff_eq]; rw [hcount]), bif_f (by simp only [decide_eq_false_iff_not]; omega)]
      have hloop := blk_loop h (B := markV K fr) hfr hto (fun p hp => by
        obtain ⟨g1, g2, g3⟩ := mem_markV.1 hp
        refine ⟨hKo _ g1, g3, fun e => a3 ?_⟩
        rw [e] at g1; exact g1) (by omega) (fun M hM => marks_block h a2 hc hfr hne a4 a3 hM) (fun B' M hl hn hM => marks_least h a2 hfr (by omega) hn hM)
      rw [hloop]
      rfl
end Go.Proofs.Ytcknpoeannbpbaa
