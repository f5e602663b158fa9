/- Shortest trees over sets of pins (masks below 128): the least over all points of the tree of all pins is that of all but one at that one. -/
import Derived.Test.YtdmokbjaeikfdaaPuStar
set_option linter.unusedSimpArgs false
set_option linter.unusedVariables false
namespace Go.Proofs.Ytdmokbjaeikfdaa
open Go.RowKit

/-- The proper parts of a set, the greatest first. -/
def parts (s : Nat) : List Nat := (List.range s).reverse.filter fun p => decide (0 < p) && (p &&& s == p)
theorem parts_mem {s p : Nat} : p ∈ parts s ↔ 0 < p ∧ p < s ∧ p &&& s = p := by
  unfold parts
  rw [List.mem_filter, List.mem_reverse, List.mem_range]
  simp only [Bool.and_eq_true, decide_eq_true_eq, beq_iff_eq]
  constructor
  · rintro ⟨a, b, c⟩; exact ⟨b, a, c⟩
  · rintro ⟨a, b, c⟩; exact ⟨b, a, c⟩
/-- One pin alone: which one. -/
def single (s : Nat) : Option Nat := (List.range 7).find? fun k => s == 2 ^ k
def ck1 : Bool := (List.range 128).all fun s => decide (s = 0) || ((parts s).isEmpty == (single s).isSome) && (parts s).all fun p => (s - p) &&& s == s - p
theorem ck1_ok : ck1 = true := by decide +kernel
theorem single_parts {s : Nat} (h0 : 0 < s) (h : s < 128) : (single s = none → parts s ≠ []) ∧ (∀ k, single s = some k → parts s = [] ∧ s = 2 ^ k) ∧ ∀ p ∈ parts s, (s - p) ∈ parts s := by
  have hc := List.all_eq_true.1 ck1_ok s (List.mem_range.2 h)
  simp only [Bool.or_eq_true, decide_eq_true_eq, Bool.and_eq_true, beq_iff_eq] at hc
  rcases hc with hc | ⟨h1, h2⟩
  · omega
  refine ⟨fun hn he => ?_, fun k hk => ⟨?_, ?_⟩, fun p hp => ?_⟩
  · rw [he, hn] at h1; simp at h1
  · rw [hk] at h1; simpa using h1
  · unfold single at hk
    have := List.find?_some hk
    simpa using this
  · have := List.all_eq_true.1 h2 p hp
    obtain ⟨a, b, c⟩ := parts_mem.1 hp
    exact parts_mem.2 ⟨by omega, by omega, by simpa using this⟩
/-- The least of a list. -/
def mnL : List Int → Int
  | [] => 0
  | x :: l => l.foldl min x
theorem foldl_min (l : List Int) : ∀ x : Int, l.foldl min x ≤ x ∧ (∀ y ∈ l, l.foldl min x ≤ y) ∧ (l.foldl min x = x ∨ l.foldl min x ∈ l) := by
  induction l with
  | nil => intro x; simp
  | cons a l ih =>
    intro x
    obtain ⟨h1, h2, h3⟩ := ih (min x a)
    simp only [List.foldl_cons]
    refine ⟨by omega, fun y hy => ?_, ?_⟩
    · rcases List.mem_cons.1 hy with rfl | hy
      · omega
      · exact h2 y hy
    · rcases h3 with h3 | h3
      · by_cases c : x ≤ a
        · left; rw [h3]; omega
        · right; rw [h3, show min x a = a by omega]; simp
      · right; simp [h3]
theorem mnL_le {l : List Int} {y : Int} (h : y ∈ l) : mnL l ≤ y := by
  cases l with
  | nil => cases h
  | cons a l =>
    obtain ⟨h1, h2, _⟩ := foldl_min l a
    rcases List.mem_cons.1 h with rfl | h
    · exact h1
    · exact h2 y h
theorem mnL_mem {l : List Int} (h : l ≠ []) : mnL l ∈ l := by
  cases l with
  | nil => exact absurd rfl h
  | cons a l =>
    obtain ⟨_, _, h3⟩ := foldl_min l a
    show l.foldl min a ∈ a :: l
    rcases h3 with h3 | h3
    · rw [h3]; simp
    · simp [h3]
section
variable (pd : Nat → Nat → Int) (d : Nat → Nat → Int) (N : Nat)
def gT (t : List (List Int)) (s v : Nat) : Int := (t.getD s []).getD v 0
/-- Where trees of two parts meet, or the pin. -/
def mF (t : List (List Int)) (s v : Nat) : Int := match single s with
  | some k => pd k v
  | none => mnL ((parts s).map fun p => gT t p v + gT t (s - p) v)
def mRow (t : List (List Int)) (s : Nat) : List Int := (List.range N).map (mF pd t s)
def bF (t : List (List Int)) (s v : Nat) : Int := ((List.range N).map fun u => mF pd t s u + d u v).foldl min (mF pd t s v)
def bRow (t : List (List Int)) (s : Nat) : List Int := (List.range N).map (bF pd d N t s)
/-- The rows of the sets below s; of the empty one nothing. -/
def tb : Nat → List (List Int)
  | 0 => []
  | 1 => [[]]
  | s + 2 => tb (s + 1) ++ [bRow pd d N (tb (s + 1)) (s + 1)]
theorem tb_len : ∀ s, (tb pd d N s).length = s
  | 0 => rfl
  | 1 => rfl
  | s + 2 => by show (tb pd d N (s + 1) ++ _).length = _; rw [List.length_append, tb_len (s + 1)]; rfl
theorem tb_get {s m : Nat} (h : s < m) : (tb pd d N m)[s]? = (tb pd d N (s + 1))[s]? := by
  induction m with
  | zero => omega
  | succ m ih =>
    by_cases e : s = m
    · rw [e]
    · cases m with
      | zero => omega
      | succ m =>
        show (tb pd d N (m + 1) ++ _)[s]? = _
        rw [List.getElem?_append_left (by rw [tb_len]; omega)]
        exact ih (by omega)
/-- The least length of a tree of a set of pins and a point. -/
def tT (s v : Nat) : Int := gT (tb pd d N (s + 1)) s v
theorem gT_tb {s m v : Nat} (h : s < m) : gT (tb pd d N m) s v = tT pd d N s v := by
  unfold tT gT
  simp only [List.getD]
  rw [tb_get pd d N h]
theorem tT_eq {s v : Nat} (h : 0 < s) (hv : v < N) : tT pd d N s v = bF pd d N (tb pd d N s) s v := by
  obtain ⟨s, rfl⟩ : ∃ k, s = k + 1 := ⟨s - 1, by omega⟩
  show ((tb pd d N (s + 1) ++ [bRow pd d N (tb pd d N (s + 1)) (s + 1)]).getD (s + 1) []).getD v 0 = _
  have : (tb pd d N (s + 1) ++ [bRow pd d N (tb pd d N (s + 1)) (s + 1)]).getD (s + 1) [] = bRow pd d N (tb pd d N (s + 1)) (s + 1) := by
    simp only [List.getD]
    rw [List.getElem?_append_right (by rw [tb_len]; omega), tb_len]; simp
  rw [this]
  unfold bRow
  simp [List.getD, hv]
def mm (s v : Nat) : Int := mF pd (tb pd d N s) s v
theorem tT_le {s v u : Nat} (h : 0 < s) (hv : v < N) (hu : u < N) : tT pd d N s v ≤ mm pd d N s u + d u v := by
  rw [tT_eq pd d N h hv]
  exact (foldl_min _ _).2.1 _ (List.mem_map.2 ⟨u, List.mem_range.2 hu, rfl⟩)
theorem tT_at {s v : Nat} (h : 0 < s) (hv : v < N) (hd : d v v = 0) : ∃ u, u < N ∧ tT pd d N s v = mm pd d N s u + d u v := by
  rw [tT_eq pd d N h hv]
  rcases (foldl_min ((List.range N).map fun u => mF pd (tb pd d N s) s u + d u v) (mF pd (tb pd d N s) s v)).2.2 with h1 | h1
  · exact ⟨v, hv, by rw [hd]; show bF pd d N _ _ _ = _; unfold bF mm; rw [h1]; omega⟩
  · obtain ⟨u, hu, e⟩ := List.mem_map.1 h1
    exact ⟨u, List.mem_range.1 hu, by unfold mm bF; rw [← e]⟩
theorem mm_one {k v : Nat} (hk : single (2 ^ k) = some k) : mm pd d N (2 ^ k) v = pd k v := by unfold mm mF; rw [hk]
theorem mm_le {s p v : Nat} (h0 : 0 < s) (h : s < 128) (hp : p ∈ parts s) : mm pd d N s v ≤ tT pd d N p v + tT pd d N (s - p) v := by
  obtain ⟨a, b, c⟩ := parts_mem.1 hp
  obtain ⟨g1, g2, _⟩ := single_parts h0 h
  unfold mm mF
  cases hs : single s with
  | some k => rw [(g2 k hs).1] at hp; cases hp
  | none =>
    refine mnL_le (List.mem_map.2 ⟨p, hp, ?_⟩)
    rw [gT_tb pd d N b, gT_tb pd d N (by omega)]
theorem mm_at {s v : Nat} (h0 : 0 < s) (h : s < 128) (hn : parts s ≠ []) : ∃ p ∈ parts s, mm pd d N s v = tT pd d N p v + tT pd d N (s - p) v := by
  obtain ⟨g1, g2, _⟩ := single_parts h0 h
  unfold mm mF
  cases hs : single s with
  | some k => exact absurd (g2 k hs).1 hn
  | none =>
    simp only []
    obtain ⟨p, hp, e⟩ := List.mem_map.1 (mnL_mem (l := (parts s).map fun p => gT (tb pd d N s) p v + gT (tb pd d N s) (s - p) v) (by simpa using hn))
    obtain ⟨a, b, c⟩ := parts_mem.1 hp
    refine ⟨p, hp, ?_⟩
    rw [← e, gT_tb pd d N b, gT_tb pd d N (by omega)]
end
/-- Sets apart: what is left of A behind C and B. -/
def ck2 : Bool := (List.range 64).all fun A => (List.range 64).all fun B => (A &&& B != 0) || (List.range 64).all fun C => (C &&& A != C) || ((A - C) &&& B == 0) && (C &&& ((A - C) + B) == 0) && ((A - C) &&& ((A - C) + B) == (A - C)) && decide ((A - C) + B < 64)
theorem ck2_ok : ck2 = true := by decide +kernel
theorem apart3 {A B C : Nat} (hA : A < 64) (hB : B < 64) (h : A &&& B = 0) (hC : C &&& A = C) (hC64 : C < 64) : (A - C) &&& B = 0 ∧ C &&& ((A - C) + B) = 0 ∧ (A - C) &&& ((A - C) + B) = A - C ∧ (A - C) + B < 64 := by
  have h1 := List.all_eq_true.1 (List.all_eq_true.1 ck2_ok A (List.mem_range.2 hA)) B (List.mem_range.2 hB)
  simp only [Bool.or_eq_true, bne_iff_ne, ne_eq] at h1
  rcases h1 with h1 | h1
  · exact absurd h h1
  have h2 := List.all_eq_true.1 h1 C (List.mem_range.2 hC64)
  simp only [Bool.or_eq_true, bne_iff_ne, ne_eq, Bool.and_eq_true, beq_iff_eq, decide_eq_true_eq] at h2
  rcases h2 with h2 | h2
  · exact absurd hC h2
  · exact ⟨h2.1.1.1, h2.1.1.2, h2.1.2, h2.2⟩
def ck3 : Bool := (List.range 7).all fun m => (List.range (2 ^ m)).all fun A => (parts (A + 2 ^ m)).all fun q => (decide (2 ^ m ≤ q) && ((q - 2 ^ m) &&& A == q - 2 ^ m)) || (decide (q < 2 ^ m) && (q &&& A == q) && ((A - q) &&& A == A - q))
theorem ck3_ok : ck3 = true := by decide +kernel
theorem top_part {m A q : Nat} (hm : m < 7) (hA : A < 2 ^ m) (hq : q ∈ parts (A + 2 ^ m)) : (2 ^ m ≤ q ∧ (q - 2 ^ m) &&& A = q - 2 ^ m) ∨ (q < 2 ^ m ∧ q &&& A = q ∧ (A - q) &&& A = A - q) := by
  have h := List.all_eq_true.1 (List.all_eq_true.1 (List.all_eq_true.1 ck3_ok m (List.mem_range.2 hm)) A (List.mem_range.2 hA)) q hq
  simp only [Bool.or_eq_true, Bool.and_eq_true, decide_eq_true_eq, beq_iff_eq] at h
  rcases h with h | h
  · exact Or.inl h
  · exact Or.inr ⟨h.1.1, h.1.2, h.2⟩
def ck4 : Bool := (List.range 7).all fun m => (List.range (2 ^ m)).all fun A => (2 ^ m &&& (A + 2 ^ m) == 2 ^ m) && (A &&& (A + 2 ^ m) == A) && (List.range (2 ^ m)).all fun B => (A &&& B != 0) || decide (A + B < 2 ^ m)
theorem ck4_ok : ck4 = true := by decide +kernel
theorem top_in {m A : Nat} (hm : m < 7) (hA : A < 2 ^ m) : 2 ^ m &&& (A + 2 ^ m) = 2 ^ m ∧ A &&& (A + 2 ^ m) = A ∧ ∀ B, B < 2 ^ m → A &&& B = 0 → A + B < 2 ^ m := by
  have h := List.all_eq_true.1 (List.all_eq_true.1 ck4_ok m (List.mem_range.2 hm)) A (List.mem_range.2 hA)
  simp only [Bool.and_eq_true, beq_iff_eq] at h
  refine ⟨h.1.1, h.1.2, fun B hB hAB => ?_⟩
  have h2 := List.all_eq_true.1 h.2 B (List.mem_range.2 hB)
  simp only [Bool.or_eq_true, bne_iff_ne, ne_eq, decide_eq_true_eq] at h2
  rcases h2 with h2 | h2
  · exact absurd hAB h2
  · exact h2
theorem pow64 {m : Nat} (h : m < 7) : 2 ^ m ≤ 64 := by
  have : m = 0 ∨ m = 1 ∨ m = 2 ∨ m = 3 ∨ m = 4 ∨ m = 5 ∨ m = 6 := by omega
  rcases this with rfl | rfl | rfl | rfl | rfl | rfl | rfl <;> decide
theorem single_pow {m : Nat} (h : m < 7) : single (2 ^ m) = some m := by
  have : m = 0 ∨ m = 1 ∨ m = 2 ∨ m = 3 ∨ m = 4 ∨ m = 5 ∨ m = 6 := by omega
  rcases this with rfl | rfl | rfl | rfl | rfl | rfl | rfl <;> decide
section
variable {pd : Nat → Nat → Int} {d : Nat → Nat → Int} {N : Nat}
/-- Distances. -/
structure Met (pd d : Nat → Nat → Int) (N m p : Nat) : Prop where
  self : ∀ v, v < N → d v v = 0
  nn : ∀ u v, u < N → v < N → 0 ≤ d u v
  sym : ∀ u v, u < N → v < N → d u v = d v u
  tri : ∀ u v w, u < N → v < N → w < N → d u w ≤ d u v + d v w
  pl : p < N
  pin : ∀ v, v < N → pd m v = d p v
variable {m p : Nat}
theorem move (M : Met pd d N m p) {s u v : Nat} (h : 0 < s) (hu : u < N) (hv : v < N) : tT pd d N s v ≤ tT pd d N s u + d u v := by
  obtain ⟨w, hw, e⟩ := tT_at pd d N h hu (M.self u hu)
  have h1 := tT_le pd d N h hv hw
  have h2 := M.tri w u v hw hu hv
  omega
/-- A tree that hangs at u, moved to the pin that the other tree ends at. -/
theorem hang (M : Met pd d N m p) (hm : m < 7) : ∀ (k A B u : Nat), A ≤ k → A < 2 ^ m → B < 2 ^ m → A &&& B = 0 → 0 < B → u < N → tT pd d N (A + B) p ≤ tT pd d N (A + 2 ^ m) u + tT pd d N B u := by
  have h64 := pow64 hm
  have hp0 : 0 < 2 ^ m := Nat.two_pow_pos m
  have base : ∀ B u, 0 < B → u < N → tT pd d N B p ≤ tT pd d N (2 ^ m) u + tT pd d N B u := fun B u hB hu => by
    obtain ⟨w, hw, e⟩ := tT_at pd d N (s := 2 ^ m) hp0 hu (M.self u hu)
    rw [mm_one pd d N (single_pow hm), M.pin w hw] at e
    have h1 := M.tri p w u M.pl hw hu
    have h2 := move M hB hu M.pl
    have h3 := M.sym u p hu M.pl
    omega
  intro k
  induction k with
  | zero =>
    intro A B u hA _ _ _ hB hu
    have : A = 0 := by omega
    subst this
    simpa using base B u hB hu
  | succ k ih =>
    intro A B u hAk hA hB hAB hB0 hu
    by_cases h0 : A = 0
    · subst h0; simpa using base B u hB0 hu
    · have hs0 : 0 < A + 2 ^ m := by omega
      have hs : A + 2 ^ m < 128 := by omega
      have hne : parts (A + 2 ^ m) ≠ [] := fun he => by
        have hin : 2 ^ m ∈ parts (A + 2 ^ m) := by
          refine parts_mem.2 ⟨hp0, by omega, ?_⟩
          exact (top_in hm hA).1
        rw [he] at hin; cases hin
      obtain ⟨w, hw, e⟩ := tT_at pd d N hs0 hu (M.self u hu)
      obtain ⟨q, hq, e2⟩ := mm_at pd d N (v := w) hs0 hs hne
      -- the part with the top pin, C + top, and the rest D
      have key : ∀ C, C &&& A = C → C < A → (tT pd d N (C + 2 ^ m) w + tT pd d N (A - C) w) = mm pd d N (A + 2 ^ m) w → tT pd d N (A + B) p ≤ tT pd d N (A + 2 ^ m) u + tT pd d N B u := fun C hC hCA he => by
        obtain ⟨a1, a2, a3, a4⟩ := apart3 (A := A) (B := B) (C := C) (by omega) (by omega) hAB hC (by omega)
        have hD : A - C ∈ parts (A - C + B) := parts_mem.2 ⟨by omega, by omega, a3⟩
        have h1 := mm_le pd d N (v := w) (s := A - C + B) (by omega) (by omega) hD
        rw [show A - C + B - (A - C) = B by omega] at h1
        have h2 := tT_le pd d N (s := A - C + B) (by omega) hw hw
        rw [M.self w hw] at h2
        have hlt : A - C + B < 2 ^ m := by
          exact (top_in hm (A := A - C) (by omega)).2.2 B hB a1
        have h3 := ih C (A - C + B) w (by omega) (by omega) hlt a2 (by omega) hw
        rw [show C + (A - C + B) = A + B by omega] at h3
        have h4 := move M hB0 hu hw
        have h7 := M.sym u w hu hw
        omega
      rcases top_part hm hA hq with ⟨g1, g2⟩ | ⟨g1, g2, g3⟩
      · obtain ⟨_, b, _⟩ := parts_mem.1 hq
        refine key (q - 2 ^ m) g2 (by omega) ?_
        rw [show q - 2 ^ m + 2 ^ m = q by omega, e2, show A + 2 ^ m - q = A - (q - 2 ^ m) by omega]
      · obtain ⟨a, b, _⟩ := parts_mem.1 hq
        have hqA : q ≤ A := by rw [← g2]; exact Nat.and_le_right
        refine key (A - q) g3 (by omega) ?_
        rw [show A - q + 2 ^ m = A + 2 ^ m - q by omega, e2, show A - (A - q) = q by omega]
        omega
/-- The least over all points of the tree of all pins is the tree of all but one at that one. -/
theorem tree_last (M : Met pd d N m p) (hm : m < 7) (h1 : 1 ≤ m) : (∀ v, v < N → tT pd d N (2 ^ m - 1) p ≤ tT pd d N (2 ^ (m + 1) - 1) v) ∧ tT pd d N (2 ^ (m + 1) - 1) p ≤ tT pd d N (2 ^ m - 1) p := by
  have h64 := pow64 hm
  have hp0 : 0 < 2 ^ m := Nat.two_pow_pos m
  have h2 : 2 ≤ 2 ^ m := by
    have := Nat.pow_le_pow_right (n := 2) (by omega) h1
    simpa using this
  have e : 2 ^ (m + 1) - 1 = (2 ^ m - 1) + 2 ^ m := by rw [Nat.pow_succ]; omega
  rw [e]
  have hin := top_in hm (A := 2 ^ m - 1) (by omega)
  have hS : 2 ^ m - 1 ∈ parts (2 ^ m - 1 + 2 ^ m) := parts_mem.2 ⟨by omega, by omega, hin.2.1⟩
  refine ⟨fun v hv => ?_, ?_⟩
  · obtain ⟨w, hw, e1⟩ := tT_at pd d N (s := 2 ^ m - 1 + 2 ^ m) (by omega) hv (M.self v hv)
    obtain ⟨q, hq, e2⟩ := mm_at pd d N (v := w) (s := 2 ^ m - 1 + 2 ^ m) (by omega) (by omega) (fun he => by rw [he] at hS; cases hS)
    have hnn := M.nn w v hw hv
    obtain ⟨a, b, _⟩ := parts_mem.1 hq
    have key : ∀ C, C &&& (2 ^ m - 1) = C → C < 2 ^ m - 1 → (tT pd d N (C + 2 ^ m) w + tT pd d N (2 ^ m - 1 - C) w) = mm pd d N (2 ^ m - 1 + 2 ^ m) w → tT pd d N (2 ^ m - 1) p ≤ tT pd d N (2 ^ m - 1 + 2 ^ m) v := fun C hC hCA he => by
      obtain ⟨_, a2, _, _⟩ := apart3 (A := 2 ^ m - 1) (B := 0) (C := C) (by omega) (by omega) (by simp) hC (by omega)
      rw [Nat.add_zero] at a2
      have h3 := hang M hm C C (2 ^ m - 1 - C) w (Nat.le_refl _) (by omega) (by omega) a2 (by omega) hw
      rw [show C + (2 ^ m - 1 - C) = 2 ^ m - 1 by omega] at h3
      omega
    rcases top_part hm (by omega) hq with ⟨g1, g2⟩ | ⟨g1, g2, g3⟩
    · refine key (q - 2 ^ m) g2 (by omega) ?_
      rw [show q - 2 ^ m + 2 ^ m = q by omega, e2, show 2 ^ m - 1 + 2 ^ m - q = 2 ^ m - 1 - (q - 2 ^ m) by omega]
    · have hqA : q ≤ 2 ^ m - 1 := by omega
      refine key (2 ^ m - 1 - q) g3 (by omega) ?_
      rw [show 2 ^ m - 1 - q + 2 ^ m = 2 ^ m - 1 + 2 ^ m - q by omega, e2, show 2 ^ m - 1 - (2 ^ m - 1 - q) = q by omega]
      omega
  · have h3 := tT_le pd d N (s := 2 ^ m - 1 + 2 ^ m) (by omega) M.pl M.pl
    rw [M.self p M.pl] at h3
    have h4 := mm_le pd d N (v := p) (s := 2 ^ m - 1 + 2 ^ m) (by omega) (by omega) hS
    rw [show 2 ^ m - 1 + 2 ^ m - (2 ^ m - 1) = 2 ^ m by omega] at h4
    have h5 := tT_le pd d N (s := 2 ^ m) hp0 M.pl M.pl
    rw [mm_one pd d N (single_pow hm), M.pin p M.pl, M.self p M.pl] at h5
    omega
end
end Go.Proofs.Ytdmokbjaeikfdaa
