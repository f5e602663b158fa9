/- Rings in a graph: walks, chains, the search for the first ring. -/
import Derived.Test.YtngnljnfbfgfeaaPuGr
set_option linter.unusedSimpArgs false
set_option linter.unusedVariables false
set_option linter.unusedSectionVars false
namespace Go.Proofs.Ytngnljnfbfgfeaa
open Go.RowKit

/-! ### First of a kind -/
theorem rg_none {α : Type} {g : Nat → Option α} : ∀ {N : Nat}, (∀ j, j < N → g j = none) → (List.range N).findSome? g = none := by
  intro N h
  rw [List.findSome?_eq_none_iff]
  intro x hx
  exact h x (List.mem_range.1 hx)
theorem rg_first {α : Type} {g : Nat → Option α} {q : α} {k : Nat} (h1 : g k = some q) (h2 : ∀ j, j < k → g j = none) : ∀ {N : Nat}, k < N → (List.range N).findSome? g = some q
  | 0, h => by omega
  | N + 1, h => by
    rw [List.range_succ, List.findSome?_append]
    by_cases e : k = N
    · subst e
      rw [rg_none h2]; simp [h1]
    · rw [rg_first h1 h2 (by omega)]; rfl
theorem rg_some {α : Type} {g : Nat → Option α} {q : α} : ∀ {N : Nat}, (List.range N).findSome? g = some q → ∃ k, k < N ∧ g k = some q ∧ ∀ j, j < k → g j = none
  | 0, h => by simp at h
  | N + 1, h => by
    rw [List.range_succ, List.findSome?_append] at h
    cases hf : (List.range N).findSome? g with
    | some r =>
      rw [hf] at h
      obtain ⟨k, h1, h2, h3⟩ := rg_some hf
      exact ⟨k, by omega, by rw [h2]; exact h, h3⟩
    | none =>
      rw [hf] at h
      refine ⟨N, by omega, by simpa using h, fun j hj => ?_⟩
      rw [List.findSome?_eq_none_iff] at hf
      exact hf j (List.mem_range.2 hj)
theorem fs_first {α : Type} {f : Int → Option α} {r : α} {x : Int} (h1 : f x = some r) : ∀ {L : List Int}, L.Pairwise (· ≤ ·) → x ∈ L → (∀ y ∈ L, y < x → f y = none) → L.findSome? f = some r
  | [], _, hx, _ => by simp at hx
  | a :: L, hs, hx, h2 => by
    have hp := List.pairwise_cons.1 hs
    rw [List.findSome?_cons]
    cases hf : f a with
    | some r' =>
      have : a = x := by
        rcases List.mem_cons.1 hx with e | e
        · exact e.symm
        · have h3 := hp.1 x e
          by_cases e' : a = x
          · exact e'
          · have := h2 a (List.mem_cons_self ..) (by omega)
            rw [this] at hf; cases hf
      subst this
      rw [h1] at hf; cases hf; rfl
    | none =>
      have : x ∈ L := by
        rcases List.mem_cons.1 hx with e | e
        · subst e; rw [h1] at hf; cases hf
        · exact e
      exact fs_first h1 hp.2 this (fun y hy => h2 y (List.mem_cons_of_mem _ hy))
theorem fs_eq {α : Type} {row : List Int} (hs : row.Pairwise (· ≤ ·)) {f : Int → Option α} {g : Nat → Option α} {N : Nat} (h1 : ∀ x ∈ row, 0 ≤ x ∧ x < N ∧ g x.toNat = f x) (h2 : ∀ k : Nat, k < N → (k : Int) ∉ row → g k = none) :
    row.findSome? f = (List.range N).findSome? g := by
  cases hg : (List.range N).findSome? g with
  | none =>
    rw [List.findSome?_eq_none_iff] at hg ⊢
    intro x hx
    obtain ⟨a, b, e⟩ := h1 x hx
    rw [← e]; exact hg _ (List.mem_range.2 (by omega))
  | some q =>
    obtain ⟨k, k1, k2, k3⟩ := rg_some hg
    have hk : (k : Int) ∈ row := Classical.byContradiction fun hn => by rw [h2 k k1 hn] at k2; cases k2
    have he := (h1 _ hk).2.2
    rw [Int.toNat_natCast] at he
    refine fs_first (by rw [← he]; exact k2) hs hk (fun y hy hlt => ?_)
    obtain ⟨a, b, e⟩ := h1 y hy
    rw [← e]; exact k3 _ (by omega)
def smO {R Q : Type} (h : Q → R) : Option Q → Sum Unit R
  | none => .inl ()
  | some q => .inr (h q)
theorem loop_fs {R Q : Type} {step : Int → Option (Ctl Int (Sum Unit R))} (a N : Nat) (g : Nat → Option Q) (h : Q → R) (ha : a ≤ N) (hg : ∀ j, j < a → g j = none)
    (hs : ∀ k, a ≤ k → k < N → (∀ j, j < k → g j = none) → step (k : Int) = some (match g k with | none => .next ((k + 1 : Nat) : Int) | some q => .out (.inr (h q)))) (hn : step (N : Int) = some (.out (.inl ()))) :
    loopM step (a : Int) = some (smO h ((List.range N).findSome? g)) := by
  refine loopM_val step (N - a) (fun k s => s = ((a + k : Nat) : Int) ∧ ∀ j, j < a + k → g j = none) ⟨rfl, hg⟩ ?_ ?_
  · rintro k _ hk ⟨rfl, hall⟩
    rw [hs (a + k) (by omega) (by omega) hall]
    cases hp : g (a + k) with
    | some q => right; rw [rg_first hp hall (by omega)]; rfl
    | none =>
      left
      refine ⟨((a + k + 1 : Nat) : Int), rfl, rfl, fun j h1 => ?_⟩
      by_cases e : j = a + k
      · subst e; exact hp
      · exact hall j (by omega)
  · rintro _ ⟨rfl, hall⟩
    rw [show a + (N - a) = N by omega] at hall ⊢
    rw [hn, rg_none hall]
    rfl
/-! ### Chains -/
def chn (A : Int → Int → Bool) : List Int → Prop
  | [] => True
  | [_] => True
  | x :: y :: t => A x y = true ∧ chn A (y :: t)
def lst : List Int → Int
  | [] => 0
  | [x] => x
  | _ :: y :: t => lst (y :: t)
theorem lst_snoc (x : Int) : ∀ p : List Int, lst (p ++ [x]) = x
  | [] => rfl
  | [y] => rfl
  | y :: z :: t => lst_snoc x (z :: t)
theorem lst_mem : ∀ p : List Int, p ≠ [] → lst p ∈ p
  | [], h => absurd rfl h
  | [x], _ => List.mem_cons_self ..
  | x :: y :: t, _ => List.mem_cons_of_mem _ (lst_mem (y :: t) (by simp))
theorem lst_at : ∀ p : List Int, p ≠ [] → gI p (p.length - 1) = lst p
  | [], h => absurd rfl h
  | [x], _ => rfl
  | x :: y :: t, _ => by
    have := lst_at (y :: t) (by simp)
    rw [lst, ← this]
    unfold gI
    simp
theorem hd_at (p : List Int) : gI p 0 = p.headD 0 := by cases p <;> rfl
section
variable {A : Int → Int → Bool}
theorem chn_tail {x : Int} {l : List Int} (h : chn A (x :: l)) : chn A l := by
  cases l with
  | nil => trivial
  | cons y t => exact h.2
theorem chn_left : ∀ (l m : List Int), chn A (l ++ m) → chn A l
  | [], _, _ => trivial
  | [x], _, _ => trivial
  | x :: y :: t, m, h => ⟨h.1, chn_left (y :: t) m h.2⟩
theorem chn_right : ∀ (l m : List Int), chn A (l ++ m) → chn A m
  | [], _, h => h
  | x :: l, m, h => chn_right l m (chn_tail h)
theorem chn_join : ∀ (l : List Int) (x : Int) (m : List Int), chn A (l ++ [x]) → chn A (x :: m) → chn A (l ++ x :: m)
  | [], x, m, _, h => h
  | [y], x, m, h1, h2 => ⟨h1.1, h2⟩
  | y :: z :: l, x, m, h1, h2 => ⟨h1.1, chn_join (z :: l) x m h1.2 h2⟩
theorem chn_snoc : ∀ (p : List Int) (y : Int), chn A p → (p ≠ [] → A (lst p) y = true) → chn A (p ++ [y])
  | [], y, _, _ => trivial
  | [x], y, _, h => ⟨h (by simp), trivial⟩
  | x :: z :: t, y, h1, h2 => ⟨h1.1, chn_snoc (z :: t) y h1.2 (fun _ => h2 (by simp))⟩
theorem chn_lst : ∀ (p : List Int) (x : Int) (m : List Int), p ≠ [] → chn A (p ++ x :: m) → A (lst p) x = true
  | [], x, m, h, _ => absurd rfl h
  | [y], x, m, _, h => h.1
  | y :: z :: t, x, m, _, h => chn_lst (z :: t) x m (by simp) h.2
structure Pa (A : Int → Int → Bool) (N : Nat) (p : List Int) : Prop where
  ne : p ≠ []
  nd : p.Nodup
  rng : ∀ x ∈ p, 0 ≤ x ∧ x < N
  ch : chn A p
structure IsRing (A : Int → Int → Bool) (N : Nat) (r : List Int) : Prop where
  ne : r ≠ []
  nd : r.Nodup
  rng : ∀ x ∈ r, 0 ≤ x ∧ x < N
  ch : chn A (r ++ [r.headD 0])
theorem IsRing.rot1 {N : Nat} {x : Int} {t : List Int} (h : IsRing A N (x :: t)) : IsRing A N (t ++ [x]) := by
  cases t with
  | nil => exact h
  | cons y t =>
    have hp : (y :: t ++ [x]).Perm (x :: y :: t) := List.perm_append_singleton x (y :: t)
    refine ⟨by simp, hp.nodup_iff.2 h.nd, fun z hz => h.rng z (hp.mem_iff.1 hz), ?_⟩
    have hc := h.ch
    have h1 : A x y = true := hc.1
    have h2 : chn A (y :: t ++ [x]) := hc.2
    have := chn_join (y :: t) x [y] h2 ⟨h1, trivial⟩
    rw [List.append_assoc]
    exact this
theorem IsRing.rotate {N : Nat} {v : Int} : ∀ (l m : List Int), IsRing A N (l ++ v :: m) → ∃ t, IsRing A N (v :: t) ∧ (v :: t).length = (l ++ v :: m).length
  | [], m, h => ⟨m, h, rfl⟩
  | x :: l, m, h => by
    have h2 := IsRing.rot1 (x := x) (t := l ++ v :: m) h
    rw [List.append_assoc] at h2
    obtain ⟨t, h3, h4⟩ := IsRing.rotate l (m ++ [x]) h2
    refine ⟨t, h3, by rw [h4]; simp; omega⟩
theorem IsRing.at {N : Nat} {v : Int} {r : List Int} (h : IsRing A N r) (hv : v ∈ r) : ∃ t, IsRing A N (v :: t) ∧ (v :: t).length = r.length := by
  obtain ⟨l, m, rfl⟩ := List.append_of_mem hv
  exact IsRing.rotate l m h
theorem IsRing.len {N : Nat} {r : List Int} (h : IsRing A N r) : r.length ≤ N := nodupI_le N r h.nd h.rng
/-! ### The first ring that begins so -/
def fd (A : Int → Int → Bool) (N : Nat) : Nat → List Int → Option (List Int)
  | 0, p => if A (lst p) (p.headD 0) then some p else none
  | m + 1, p => (List.range N).findSome? fun k : Nat => if (k : Int) ∈ p then none else if A (lst p) (k : Int) then fd A N m (p ++ [(k : Int)]) else none
theorem Pa.snoc {N : Nat} {p : List Int} (h : Pa A N p) {k : Nat} (hk : k < N) (hn : (k : Int) ∉ p) (ha : A (lst p) (k : Int) = true) : Pa A N (p ++ [(k : Int)]) := by
  refine ⟨by simp, ?_, fun x hx => ?_, chn_snoc p _ h.ch (fun _ => ha)⟩
  · rw [List.nodup_append]
    exact ⟨h.nd, by simp, fun a ha b hb => by rw [List.mem_singleton] at hb; subst hb; exact fun e => hn (e ▸ ha)⟩
  · rcases List.mem_append.1 hx with h' | h'
    · exact h.rng x h'
    · rw [List.mem_singleton] at h'; subst h'; omega
theorem fd_sound {N : Nat} : ∀ (m : Nat) (p r : List Int), Pa A N p → fd A N m p = some r → ∃ s, r = p ++ s ∧ s.length = m ∧ IsRing A N r
  | 0, p, r, h, e => by
    rw [fd] at e
    split at e
    · rename_i ha
      cases e
      exact ⟨[], by simp, rfl, h.ne, h.nd, h.rng, chn_snoc p _ h.ch (fun _ => ha)⟩
    · cases e
  | m + 1, p, r, h, e => by
    rw [fd] at e
    obtain ⟨k, hk, e, _⟩ := rg_some e
    split at e
    · cases e
    · rename_i hn
      split at e
      · rename_i ha
        obtain ⟨s, rfl, h2, h3⟩ := fd_sound m _ r (h.snoc hk hn ha) e
        exact ⟨(k : Int) :: s, by simp, by simp [h2], h3⟩
      · cases e
theorem fd_comp {N : Nat} : ∀ (m : Nat) (p s : List Int), p ≠ [] → IsRing A N (p ++ s) → s.length = m → fd A N m p ≠ none
  | 0, p, s, hp, h, hs => by
    have : s = [] := List.length_eq_zero_iff.1 hs
    subst this
    rw [List.append_nil] at h
    rw [fd, if_pos (chn_lst p _ [] hp h.ch)]
    simp
  | m + 1, p, s, hp, h, hs => by
    cases s with
    | nil => simp at hs
    | cons k s =>
      intro e
      rw [fd, List.findSome?_eq_none_iff] at e
      have hk := h.rng k (by simp)
      have e2 := e k.toNat (List.mem_range.2 (by omega))
      rw [show ((k.toNat : Nat) : Int) = k by omega] at e2
      have hn : k ∉ p := fun hm => by
        have := h.nd
        rw [List.nodup_append] at this
        exact this.2.2 k hm k (by simp) rfl
      have ha : A (lst p) k = true := by
        have := h.ch
        rw [List.append_assoc] at this
        exact chn_lst p k _ hp this
      rw [if_neg hn, if_pos ha] at e2
      exact fd_comp m (p ++ [k]) s (by simp) (by rw [List.append_assoc]; exact h) (by simpa using hs) e2
/-! ### Walks -/
variable {E : Nat → Nat → Prop}
theorem chn_wk (hE : ∀ x y, A x y = true → E x.toNat y.toNat) : ∀ (l : List Int) (x t : Int), chn A (x :: (l ++ [t])) → Wk E t.toNat x.toNat (l.length + 1)
  | [], x, t, h => Wk.step (hE _ _ h.1) Wk.here
  | y :: l, x, t, h => Wk.step (hE _ _ h.1) (chn_wk hE l y t h.2)
theorem wk_chn {N : Nat} (hE : ∀ i k, E i k → A (i : Int) (k : Int) = true ∧ i < N ∧ k < N) {t i L : Nat} (h : Wk E t i L) : L = 0 ∨ ∃ l : List Int, l.length + 1 = L ∧ chn A ((i : Int) :: (l ++ [(t : Int)])) ∧ ∀ x ∈ (i : Int) :: l, 0 ≤ x ∧ x < N := by
  induction h with
  | here => exact Or.inl rfl
  | step he hw ih =>
    rename_i i k L
    right
    obtain ⟨h1, h2, h3⟩ := hE _ _ he
    rcases ih with rfl | ⟨l, l1, l2, l3⟩
    · cases hw
      exact ⟨[], rfl, ⟨h1, trivial⟩, fun x hx => by rw [List.mem_singleton] at hx; omega⟩
    · refine ⟨(k : Int) :: l, by simp [l1], ⟨h1, l2⟩, fun x hx => ?_⟩
      rcases List.mem_cons.1 hx with e | e
      · omega
      · exact l3 x e
theorem Wk.par {c : Nat → Bool} (hc : ∀ i k, E i k → c i ≠ c k) {t i L : Nat} (h : Wk E t i L) : (c i = c t ↔ L % 2 = 0) := by
  induction h with
  | here => simp
  | step he _ ih =>
    rename_i i k L _
    have hne := hc _ _ he
    constructor
    · intro h
      have : ¬ c k = c t := fun h' => hne (h.trans h'.symm)
      have := mt ih.2 this
      omega
    · intro h
      have h3 := mt ih.1 (by omega)
      cases h4 : c i <;> cases h5 : c k <;> cases h6 : c t <;> simp_all
/-! ### A shortest odd closed walk is a ring -/
def ClW (A : Int → Int → Bool) (N : Nat) (r : List Int) : Prop := r ≠ [] ∧ (∀ x ∈ r, 0 ≤ x ∧ x < N) ∧ chn A (r ++ [r.headD 0])
theorem dup_of : ∀ l : List Int, ¬ l.Nodup → ∃ x a b c, l = a ++ x :: (b ++ x :: c)
  | [], h => absurd List.nodup_nil h
  | y :: t, h => by
    by_cases hy : y ∈ t
    · obtain ⟨b, c, rfl⟩ := List.append_of_mem hy
      exact ⟨y, [], b, c, rfl⟩
    · have : ¬ t.Nodup := fun h' => h (List.nodup_cons.2 ⟨hy, h'⟩)
      obtain ⟨x, a, b, c, rfl⟩ := dup_of t this
      exact ⟨x, y :: a, b, c, rfl⟩
theorem least_ring {N : Nat} {r : List Int} (h : ClW A N r) (ho : r.length % 2 = 1) (hmin : ∀ r', ClW A N r' → r'.length % 2 = 1 → r.length ≤ r'.length) : IsRing A N r := by
  refine ⟨h.1, Classical.byContradiction fun hn => ?_, h.2.1, h.2.2⟩
  obtain ⟨x, a, b, c, rfl⟩ := dup_of r hn
  obtain ⟨_, hr, hch⟩ := h
  have hhd : ∀ q : List Int, (a ++ x :: q).headD 0 = (a ++ x :: (b ++ x :: c)).headD 0 := fun q => by cases a <;> rfl
  generalize hd0 : (a ++ x :: (b ++ x :: c)).headD 0 = hd at *
  have e1 : a ++ x :: (b ++ x :: c) ++ [hd] = a ++ ((x :: b ++ [x]) ++ (c ++ [hd])) := by simp
  have c1 : chn A (x :: b ++ [x]) := by
    rw [e1] at hch
    exact chn_left _ _ (chn_right _ _ hch)
  have c2 : chn A (a ++ [x]) := by
    have : a ++ x :: (b ++ x :: c) ++ [hd] = (a ++ [x]) ++ (b ++ x :: c ++ [hd]) := by simp
    rw [this] at hch
    exact chn_left _ _ hch
  have c3 : chn A (x :: (c ++ [hd])) := by
    have : a ++ x :: (b ++ x :: c) ++ [hd] = (a ++ x :: b) ++ (x :: (c ++ [hd])) := by simp
    rw [this] at hch
    exact chn_right _ _ hch
  have w1 : ClW A N (x :: b) := ⟨by simp, fun y hy => hr y (by
    rcases List.mem_cons.1 hy with e | e
    · subst e; simp
    · simp [e]), c1⟩
  have w2 : ClW A N (a ++ x :: c) := ⟨by simp, fun y hy => hr y (by
    rcases List.mem_append.1 hy with e | e
    · simp [e]
    · rcases List.mem_cons.1 e with e | e
      · subst e; simp
      · simp [e]), by
    rw [hhd c, List.append_assoc]
    exact chn_join a x (c ++ [hd]) c2 c3⟩
  have l1 := hmin _ w1
  have l2 := hmin _ w2
  simp only [List.length_append, List.length_cons] at ho l1 l2
  by_cases hb : (b.length + 1) % 2 = 1
  · have := l1 hb; omega
  · have := l2 (by omega); omega
end
end Go.Proofs.Ytngnljnfbfgfeaa
